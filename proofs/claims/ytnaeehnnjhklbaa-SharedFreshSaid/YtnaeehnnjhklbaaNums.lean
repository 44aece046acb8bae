/- The numbers of names: the map of a family, and the pure numbers. -/
import Derived.Test.YtnaeehnnjhklbaaText
import Derived.Maps.OwnSet
import Derived.Maps.Views
import Derived.WideKeyEntry
import Derived.StringKeys
set_option linter.unusedVariables false
namespace Go.Proofs.Ytnaeehnnjhklbaa
open Go.RowKit Go.MapKept Go.ChangeMaps

def keyS (s : ByteArray) : Lit := .string s.data.toList
theorem keyS_inj {a b : ByteArray} (h : keyS a = keyS b) : a = b := by
  unfold keyS at h
  injection h with h
  cases a; cases b
  simp at h
  rw [h]
theorem keyS_lit {s : ByteArray} : WideAt.IsKeyLit (keyS s) := trivial
theorem keyS_key {s : ByteArray} (hs : s.size ≤ 200) : keyOf Try.prog 9 (.string s) = some (keyS s) := Go.WideMaps.keyOf_string_mk Try.underlying9 (by unfold maxLen; omega)
theorem strK : Go.Maps.Keyed Try.prog 9 := Go.Maps.string_keyed Try.underlying9

/-- The number of a name; -1: it has none. -/
def numOf (l : List ByteArray) (s : ByteArray) : Int := match l.findIdx? (fun x => decide (x = s)) with | some i => (i : Nat) | none => -1
theorem numOf_spec (l : List ByteArray) (s : ByteArray) : (numOf l s = -1 ∧ s ∉ l) ∨ ∃ i : Nat, numOf l s = i ∧ l[i]? = some s := by
  unfold numOf
  cases h : l.findIdx? (fun x => decide (x = s)) with
  | none =>
    refine .inl ⟨rfl, fun hm => ?_⟩
    have := List.findIdx?_eq_none_iff.1 h s hm
    simp at this
  | some i =>
    refine .inr ⟨i, rfl, ?_⟩
    obtain ⟨hlt, hp, _⟩ := List.findIdx?_eq_some_iff_getElem.1 h
    simp at hp
    rw [List.getElem?_eq_getElem hlt, hp]
theorem nodup_at {l : List ByteArray} (hn : l.Nodup) {i j : Nat} {s : ByteArray} (hi : l[i]? = some s) (hj : l[j]? = some s) : i = j := by
  obtain ⟨hi', e1⟩ := List.getElem?_eq_some_iff.1 hi
  obtain ⟨hj', e2⟩ := List.getElem?_eq_some_iff.1 hj
  have hp := List.pairwise_iff_getElem.1 hn
  rcases Nat.lt_trichotomy i j with h | h | h
  · exact absurd (e1.trans e2.symm) (hp i j hi' hj' h)
  · exact h
  · exact absurd (e2.trans e1.symm) (hp j i hj' hi' h)
theorem numOf_at {l : List ByteArray} (hn : l.Nodup) {i : Nat} {s : ByteArray} (h : l[i]? = some s) : numOf l s = i := by
  rcases numOf_spec l s with ⟨_, h'⟩ | ⟨j, hj, h'⟩
  · exact absurd (List.mem_of_getElem? h) h'
  · rw [hj, nodup_at hn h' h]
theorem numOf_none {l : List ByteArray} {s : ByteArray} (h : s ∉ l) : numOf l s = -1 := by
  rcases numOf_spec l s with ⟨h', _⟩ | ⟨j, _, h'⟩
  · exact h'
  · exact absurd (List.mem_of_getElem? h') h
theorem numOf_lt {l : List ByteArray} {s : ByteArray} (h : numOf l s < 0) : s ∉ l := by
  rcases numOf_spec l s with ⟨_, h'⟩ | ⟨j, h', _⟩
  · exact h'
  · omega

structure NumOk (D : DataW Unit) (l : List ByteArray) : Prop where
  isMap : Go.Maps.IsMap D
  has : ∀ s, Go.Maps.has D (keyS s) = true ↔ s ∈ l
  at_ : ∀ (i : Nat) s, l[i]? = some s → D.atKey (keyS s) (.lit (.int .i64 0)) = .lit (.int .i64 i)
theorem numOk_nil : NumOk (.map []) [] := ⟨Go.Maps.isMap_empty, fun s => by simp [Go.Maps.has], fun i s h => by simp at h⟩
theorem NumOk.put {D : DataW Unit} {l : List ByteArray} (h : NumOk D l) {s : ByteArray} (hs : s ∉ l) : NumOk (D.put (keyS s) (.lit (.int .i64 l.length))) (l ++ [s]) where
  isMap := h.isMap.put _ _
  has := fun x => by
    by_cases hx : x = s
    · subst hx
      rw [Go.Maps.has_put_same h.isMap keyS_lit]; simp
    · rw [Go.Maps.has_put_other (fun e => hx (keyS_inj e)), h.has]; simp [hx]
  at_ := fun i x hi => by
    by_cases hx : x = s
    · subst hx
      rw [Go.Maps.atKey_put_same h.isMap keyS_lit]
      have hi' : i = l.length := by
        obtain ⟨hlt, he⟩ := List.getElem?_eq_some_iff.1 hi
        rw [List.length_append] at hlt
        rcases Nat.lt_or_ge i l.length with h1 | h1
        · rw [List.getElem?_append_left h1] at hi
          exact absurd (List.mem_of_getElem? hi) hs
        · simp at hlt; omega
      rw [hi']
    · rw [Go.Maps.atKey_put_other (fun e => hx (keyS_inj e))]
      refine h.at_ i x ?_
      obtain ⟨hlt, he⟩ := List.getElem?_eq_some_iff.1 hi
      rw [List.length_append] at hlt
      rcases Nat.lt_or_ge i l.length with h1 | h1
      · rw [List.getElem?_append_left h1] at hi; exact hi
      · obtain rfl : i = l.length := by simp at hlt; omega
        simp at hi
        exact absurd hi.symm hx

theorem zeroI (w : World) : (zeroValue 3).run Try.prog w = .ok (.int .i64 0) w := by kernel_rfl
/-- The map of a family. -/
def NumAt (w : World) (b : Nat) (l : List ByteArray) : Prop := ∃ D : DataW Unit, w.ownsMap Try.prog 9 (plainElem Try.prog 3) b l.length D ∧ NumOk D l
theorem NumAt.upd {w w' : World} {b : Nat} {l : List ByteArray} {fp : List Nat} (h : NumAt w b l) (hu : Upd fp w w') (hn : b ∉ fp) : NumAt w' b l := by
  obtain ⟨D, ho, hk⟩ := h
  have hlt := ho.lt
  obtain ⟨es, clock, hb, F, hs, hD⟩ := ho
  exact ⟨D, ⟨es, clock, (hu.block b hlt hn).trans hb, F, hs, hD⟩, hk⟩
theorem NumAt.lt {w : World} {b : Nat} {l : List ByteArray} (h : NumAt w b l) : b < w.heap.size := let ⟨_, ho, _⟩ := h; ho.lt
theorem NumAt.new (w : World) : NumAt (w.alloc (.map #[] 0)) w.heap.size [] := ⟨_, World.ownsMap_made w _ _ _, numOk_nil⟩
theorem NumAt.not_blk {w : World} {b d : Nat} {l : List ByteArray} {cs : Array Value} {T : TypeId} {fz : Nat × Nat} (h : NumAt w b l) (h' : w.heap[d]? = some (.cells cs T fz)) : b ≠ d := by
  obtain ⟨D, ⟨es, clock, hb, _⟩, _⟩ := h
  intro e; subst e
  rw [hb] at h'; cases h'

theorem nat_wf {n : Nat} (h : n < maxLen) : (Lit.int .i64 n).wf = true := by
  have e : maxLen = 9223372036854775807 := rfl
  have e1 : IntKind.i64.min = -9223372036854775808 := by decide
  have e2 : IntKind.i64.max = 9223372036854775807 := by decide
  simp only [Lit.wf, e1, e2, Bool.and_eq_true, decide_eq_true_eq]
  omega
/-- A name gets the next number: what mapEntry and entryStore do. -/
theorem NumAt.give {w : World} {b : Nat} {l : List ByteArray} (h : NumAt w b l) {s : ByteArray} (hs : s.size ≤ 200) (hl : l.length < maxLen) (hno : s ∉ l) :
    ∃ (v0 : Value) (st : Nat) (o1 : Obj), (Instr.mapEntry 56 (.map (some b)) (.string s)).run Try.prog w = .ok (.tuple #[v0, goInt st]) (setBlock w b o1) ∧
      ∀ w2 : World, w2.heap[b]? = some o1 → ∃ o2, (Instr.entryStore 56 (.map (some b)) (goInt st) (.int .i64 l.length)).run Try.prog w2 = .ok () (setBlock w2 b o2) ∧ NumAt (setBlock w2 b o2) b (l ++ [s]) := by
  obtain ⟨D, ho, hk⟩ := h
  obtain ⟨w', hrun, hown, _⟩ := ho.update strK Try.underlying56 (by omega) (keyS_key hs) (val := .int .i64 l.length) (plainElem_int Try.underlying3 (nat_wf hl))
  obtain ⟨es, clock, hb, F, hsz, hD⟩ := ho
  obtain ⟨v0, st, es1, clock1, h1, _, h3⟩ := Go.WideElems.entry_then_store (WideMaps.string_law Try.underlying9) Try.underlying56 (z := .int .i64 0) zeroI hb F (keyS_key hs)
  refine ⟨v0, st, .map es1 clock1, h1, fun w2 hw2 => ?_⟩
  obtain ⟨es', clock', h4, h5⟩ := h3 w2 (.int .i64 l.length) hw2
  refine ⟨.map es' clock', h4, D.put (keyS s) (.lit (.int .i64 l.length)), ?_, hk.put hno⟩
  rw [hrun] at h5
  have hw' : w' = setBlock w b (.map es' clock') := by injection h5
  rw [hw'] at hown
  obtain ⟨es2, clock2, hb2, F2, hs2, hD2⟩ := hown
  have hblt : b < w.heap.size := (Array.getElem?_eq_some_iff.1 hb).1
  rw [heap_setBlock_same hb] at hb2
  have e2 := Option.some.inj hb2
  refine ⟨es2, clock2, ?_, F2, by rw [List.length_append]; exact hs2, hD2⟩
  rw [← e2]
  exact heap_setBlock_same hw2 _
end Go.Proofs.Ytnaeehnnjhklbaa
