/- A table in memory. -/
import Derived.Test.YtnaeehnnjhklbaaTabOps
import Derived.Test.YtnaeehnnjhklbaaCellsNew
import Derived.Test.YtnaeehnnjhklbaaMet
import Derived.Test.YtnaeehnnjhklbaaTrailFns
import Derived.Laws.OwnMore
import Derived.Deep.OwnRows
set_option linter.unusedVariables false
namespace Go.Proofs.Ytnaeehnnjhklbaa
open Go.RowKit

def Ent.vals (x : Ent) : List Value := [.bool x.live, .int .i64 x.hash, .int .i64 x.key, .int .i64 x.value, .int .i64 x.birth]
def entsL (es : List Ent) : List Value := es.flatMap Ent.vals
theorem vals_length (x : Ent) : x.vals.length = 5 := rfl
theorem entsL_length (es : List Ent) : (entsL es).length = es.length * 5 := by
  induction es with
  | nil => rfl
  | cons x es ih => simp only [entsL, List.flatMap_cons, List.length_append, List.length_cons] at *; rw [ih, vals_length]; omega
theorem entsL_app (a b : List Ent) : entsL (a ++ b) = entsL a ++ entsL b := by simp [entsL]
theorem entsL_one (x : Ent) : entsL [x] = x.vals := by simp [entsL]
theorem entsL_get (es : List Ent) : ∀ (i j : Nat), i < es.length → j < 5 → (entsL es)[i * 5 + j]? = (entOf es (i : Int)).vals[j]? := by
  induction es with
  | nil => intro i j h; simp at h
  | cons x es ih =>
    intro i j hi hj
    have e : entsL (x :: es) = x.vals ++ entsL es := by simp [entsL]
    rw [e]
    cases i with
    | zero =>
      rw [List.getElem?_append_left (by rw [vals_length]; omega)]
      simp [entOf]
    | succ i =>
      rw [List.getElem?_append_right (by rw [vals_length]; omega), vals_length, show (i + 1) * 5 + j - 5 = i * 5 + j by omega, ih i j (by simpa using hi) hj]
      rw [entOf_nat, entOf_nat]
      rfl
theorem entsL_take (es : List Ent) (n : Nat) : (entsL es).take (n * 5) = entsL (es.take n) := by
  induction es generalizing n with
  | nil => simp [entsL]
  | cons x es ih =>
    cases n with
    | zero => simp [entsL]
    | succ n =>
      have e : entsL (x :: es) = x.vals ++ entsL es := by simp [entsL]
      have e2 : entsL ((x :: es).take (n + 1)) = x.vals ++ entsL (es.take n) := by simp [entsL]
      rw [e, e2, List.take_append, vals_length, show (n + 1) * 5 - 5 = n * 5 by omega, ih n, List.take_of_length_le (by rw [vals_length]; omega)]
theorem entsL_drop (es : List Ent) (n : Nat) : (entsL es).drop (n * 5) = entsL (es.drop n) := by
  induction es generalizing n with
  | nil => simp [entsL]
  | cons x es ih =>
    cases n with
    | zero => simp [entsL]
    | succ n =>
      have e : entsL (x :: es) = x.vals ++ entsL es := by simp [entsL]
      rw [e, List.drop_append, vals_length, show (n + 1) * 5 - 5 = n * 5 by omega, ih n, List.drop_of_length_le (by rw [vals_length]; omega)]
      simp
theorem entsL_set (es : List Ent) (i : Nat) (x : Ent) (hi : i < es.length) : entsL (es.set i x) = (entsL es).take (i * 5) ++ (x.vals ++ (entsL es).drop (i * 5 + 5)) := by
  rw [List.set_eq_take_append_cons_drop, if_pos hi, entsL_app, entsL_take, show i * 5 + 5 = (i + 1) * 5 by omega, entsL_drop]
  congr 1

/-- A slice of entries of ours. -/
abbrev ERow (w : World) (v : Value) (es : List Ent) : Prop := w.ownsRow 0 130 5 v es.length (entsL es)

/-- The cells of a table's struct. -/
abbrev tabL (m : Option Addr) (v : Value) (cb : Nat) (live : Nat) (births made turns : Int) : List Value :=
  [.pointer m, v, .pointer (some ⟨cb, 0, none⟩), .int .i64 live, .int .i64 births, .int .i64 made, .int .i64 turns]

/-- A table, block by block. -/
structure TabB (w : World) (b : Nat) (v : Value) (cb cg : Nat) (m : Option Addr) (t : Tab) : Prop where
  ok : t.ok
  blk : Blk w b 179 (tabL m v cb t.live t.births t.made t.turns)
  row : ERow w v t.es
  cc : CellsAt w cb cg t.L t.f
def tabFp (b : Nat) (v : Value) (cb cg : Nat) : List Nat := b :: cb :: cg :: v.ownBlock.toList
def TabAt (w : World) (b : Nat) (fp : List Nat) (m : Option Addr) (t : Tab) : Prop := ∃ v cb cg, TabB w b v cb cg m t ∧ fp = tabFp b v cb cg

variable {w w' : World} {b : Nat} {v : Value} {cb cg : Nat} {m : Option Addr} {t : Tab} {fp fq : List Nat}

theorem ownsRow_keep {base : Nat} {e : TypeId} {size n : Nat} {xs : List Value} (h : w.ownsRow base e size v n xs) (hu : Upd fq w w') (hn : ∀ k, v.ownBlock = some k → k ∉ fq) : w'.ownsRow base e size v n xs := by
  refine ⟨h.1, ?_⟩
  rcases h.2 with h0 | ⟨g, cap, cur, hv, hb, hg, rest⟩
  · exact .inl h0
  · exact .inr ⟨g, cap, cur, hv, hb, (hu.block g (Array.getElem?_eq_some_iff.1 hg).1 (hn g (by rw [hv]; rfl))).trans hg, rest⟩

theorem TabB.upd (h : TabB w b v cb cg m t) (hu : Upd fq w w') (hd : ∀ x ∈ tabFp b v cb cg, x ∉ fq) : TabB w' b v cb cg m t where
  ok := h.ok
  blk := h.blk.upd hu (hd b (by simp [tabFp]))
  row := ownsRow_keep h.row hu (fun k hk => hd k (by simp [tabFp, hk]))
  cc := h.cc.upd hu (hd cb (by simp [tabFp])) (hd cg (by simp [tabFp]))
theorem TabAt.upd (h : TabAt w b fp m t) (hu : Upd fq w w') (hd : ∀ x ∈ fp, x ∉ fq) : TabAt w' b fp m t := by
  obtain ⟨v, cb, cg, hB, rfl⟩ := h
  exact ⟨v, cb, cg, hB.upd hu hd, rfl⟩
theorem TabB.lt (h : TabB w b v cb cg m t) : ∀ x ∈ tabFp b v cb cg, x < w.heap.size := by
  intro x hx
  simp [tabFp] at hx
  rcases hx with rfl | rfl | rfl | hx
  · exact h.blk.lt
  · exact h.cc.c.lt
  · exact World.rowIs.lt h.cc.r
  · exact (h.row.lt x hx).2
theorem TabAt.lt (h : TabAt w b fp m t) : ∀ x ∈ fp, x < w.heap.size := by
  obtain ⟨v, cb, cg, hB, rfl⟩ := h
  exact hB.lt

/-- Blocks of unlike types are unlike. -/
theorem blk_ne {b d : Nat} {T T' : TypeId} {c : List Value} {cur : Array Value} (h : Blk w b T c) (h' : w.heap[d]? = some (.cells cur T' (0, 0))) (hT : T ≠ T') : b ≠ d := by
  rintro rfl
  unfold Blk at h
  rw [h] at h'
  simp at h'
  exact hT h'.2
theorem own_block {base : Nat} {e : TypeId} {size n : Nat} {xs : List Value} (h : w.ownsRow base e size v n xs) {k : Nat} (hk : v.ownBlock = some k) : ∃ cur, w.heap[k]? = some (.cells cur e (0, 0)) := by
  rcases h.2 with ⟨rfl, _⟩ | ⟨g, cap, cur, rfl, hb, hg, rest⟩
  · cases hk
  · simp [Value.ownBlock] at hk
    subst hk
    exact ⟨cur, hg⟩
theorem rowIs_block {g T n : Nat} {F : Nat → Value} (h : w.rowIs g T n F) : ∃ cur, w.heap[g]? = some (.cells cur T (0, 0)) := by
  obtain ⟨cur, hg, _⟩ := h
  exact ⟨cur, hg⟩
theorem kind_E (L : Nat) : (kindOf L).E ≠ 179 ∧ (kindOf L).E ≠ 130 ∧ (kindOf L).E ≠ 115 := by
  rcases kindOf_ok L with h | h | h <;> rw [h] <;> simp [K8, K16, K32]
theorem TabB.ne_bc (h : TabB w b v cb cg m t) : b ≠ cb := by
  have := h.cc.c; unfold Blk at this
  exact blk_ne h.blk this (by decide)
theorem TabB.ne_bg (h : TabB w b v cb cg m t) : b ≠ cg := by
  obtain ⟨cur, hg⟩ := rowIs_block h.cc.r
  exact blk_ne h.blk hg (fun e => (kind_E t.L).1 e.symm)
theorem TabB.ne_bv (h : TabB w b v cb cg m t) {k : Nat} (hk : v.ownBlock = some k) : b ≠ k := by
  obtain ⟨cur, hg⟩ := own_block h.row hk
  exact blk_ne h.blk hg (by decide)
theorem TabB.ne_cv (h : TabB w b v cb cg m t) {k : Nat} (hk : v.ownBlock = some k) : cb ≠ k := by
  obtain ⟨cur, hg⟩ := own_block h.row hk
  exact blk_ne h.cc.c hg (by decide)
theorem TabB.ne_gv (h : TabB w b v cb cg m t) {k : Nat} (hk : v.ownBlock = some k) : cg ≠ k := by
  rintro rfl
  obtain ⟨cur, hg⟩ := own_block h.row hk
  obtain ⟨cur', hg'⟩ := rowIs_block h.cc.r
  rw [hg] at hg'
  simp at hg'
  exact (kind_E t.L).2.1 hg'.2.symm

/-- The slice's value, where there is an entry. -/
theorem erow_some {es : List Ent} (h : ERow w v es) (h0 : 0 < es.length) : ∃ g cap, v = .slice (some ⟨g, 0, none⟩) es.length cap ∧ es.length ≤ cap := by
  rcases h.2 with ⟨_, hn⟩ | ⟨g, cap, cur, hv, _, _, hc, _⟩
  · omega
  · exact ⟨g, cap, hv, hc⟩
theorem erow_shape {es : List Ent} (h : ERow w v es) : ∃ a cap, v = .slice a es.length cap := by
  rcases h.2 with ⟨hv, hn⟩ | ⟨g, cap, cur, hv, _, _, hc, _⟩
  · exact ⟨none, 0, by rw [hv, hn]⟩
  · exact ⟨_, cap, hv⟩
/-- The cells of an entry. -/
theorem erow_cell {es : List Ent} {g n cap : Nat} (h : ERow w (.slice (some ⟨g, 0, none⟩) n cap) es) {i j : Nat} (hi : i < es.length) (hj : j < 5) {u : Value} (hu : (entOf es (i : Int)).vals[j]? = some u) : w.cell? ⟨g, i * 5 + j, none⟩ = some u := by
  have h0 := h
  have := h.cells (g := g) rfl (i * 5 + j) u (by rw [entsL_get es i j hi hj]; exact hu)
  rwa [plain_addr, Nat.zero_add] at this
theorem erow_free {es : List Ent} {g n cap : Nat} (h : ERow w (.slice (some ⟨g, 0, none⟩) n cap) es) (j : Nat) : w.frozen? ⟨g, j, none⟩ = false := by
  obtain ⟨cur, hg⟩ := own_block h (k := g) rfl
  exact frozen_of_row w g j cur _ hg
theorem erow_put {es es' : List Ent} {g n cap : Nat} (h : ERow w (.slice (some ⟨g, 0, none⟩) n cap) es) (j : Nat) (u : Value) (he : entsL es' = (entsL es).set j u) (hl : es'.length = es.length) : ERow (w.setCell ⟨g, j, none⟩ u) (.slice (some ⟨g, 0, none⟩) n cap) es' := by
  have hn : n = es.length := by
    rcases h.2 with ⟨hv, _⟩ | ⟨_, _, _, hv, _⟩
    · simp at hv
    · simp at hv; exact hv.2.1
  subst hn
  have := (h.stored j u).1
  unfold ERow
  rw [he, hl]
  exact this
end Go.Proofs.Ytnaeehnnjhklbaa
