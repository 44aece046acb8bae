/- The walk of a row: len, value, turn, find. -/
import Derived.Test.YtnaeehnnjhklbaaFind
set_option linter.unusedVariables false
namespace Go.Proofs.Ytnaeehnnjhklbaa
open Go.RowKit Go.MapKept Go.ChangeMaps
variable {w w' : World} {b : Nat} {v : Value} {cb cg : Nat} {m : Option Addr} {t : Tab} {q : Cnt}
variable {fb : Nat} {tb : Nat} {nv : Value} {nb : Nat} {most pairs : Int} {names : List ByteArray}
variable {rb : Nat} {rv : Value} {vals : List Int}

def intsV (l : List Int) : List Value := l.map (.int .i64)
structure RowB (w : World) (rb : Nat) (rv : Value) (vals : List Int) : Prop where
  blk : Blk w rb 149 [rv]
  row : w.ownsRow 0 3 1 rv vals.length (intsV vals)
def rowFp (rb : Nat) (rv : Value) : List Nat := rb :: rv.ownBlock.toList
theorem RowB.upd (h : RowB w rb rv vals) {fq : List Nat} (hu : Upd fq w w') (hd : ∀ x ∈ rowFp rb rv, x ∉ fq) : RowB w' rb rv vals where
  blk := h.blk.upd hu (hd rb (by simp [rowFp]))
  row := ownsRow_keep h.row hu (fun k hk => hd k (by simp [rowFp, hk]))
theorem RowB.lt (h : RowB w rb rv vals) : ∀ x ∈ rowFp rb rv, x < w.heap.size := by
  intro x hx
  simp only [rowFp, List.mem_cons, Option.mem_toList] at hx
  rcases hx with rfl | hx
  · exact h.blk.lt
  · obtain ⟨cur, hg⟩ := own_block h.row hx
    exact (Array.getElem?_eq_some_iff.1 hg).1
theorem row_shape {xs : List Value} {n : Nat} {e : TypeId} (h : w.ownsRow 0 e 1 rv n xs) : ∃ a c, rv = .slice a n c := by
  rcases h.2 with ⟨e1, e2⟩ | ⟨r, off, cap, e, _⟩
  · exact ⟨none, 0, by rw [e1, e2]⟩
  · exact ⟨_, _, e⟩
theorem row_some {xs : List Value} {n : Nat} {e : TypeId} (h : w.ownsRow 0 e 1 rv n xs) (h0 : 0 < n) : ∃ g cap, rv = .slice (some ⟨g, 0, none⟩) n cap ∧ n ≤ cap := by
  rcases h.2 with ⟨e1, e2⟩ | ⟨g, cap, cur, e, _, _, hc, _⟩
  · omega
  · exact ⟨g, cap, e, hc⟩

theorem rowLen_any (h : RowB w rb rv vals) : Calls Try.prog 149 #[.pointer (some ⟨rb, 0, none⟩)] w fun e w' => e = .returned (.int .i64 vals.length) ∧ w = w' := by
  obtain ⟨a, c, rfl⟩ := row_shape h.row
  have c0 := h.blk.cell (i := 0) rfl
  clear h
  generalize vals.length = n at *
  go_enter Try.func149, Try.ntmps149
  go_wp2_with fail
  go_ret
  exact ⟨rfl, rfl⟩

theorem rowValue_any (h : RowB w rb rv vals) (i : Nat) (hi : i < vals.length) : Calls Try.prog 152 #[.pointer (some ⟨rb, 0, none⟩), .int .i64 i] w fun e w' => e = .returned (.int .i64 vals[i]) ∧ w = w' := by
  obtain ⟨g, cap, rfl, hcap⟩ := row_some h.row (by omega)
  have c0 := h.blk.cell (i := 0) rfl
  have ci : w.cell? ⟨g, i, none⟩ = some (.int .i64 vals[i]) := by
    have := h.row.cells (g := g) rfl i (.int .i64 vals[i]) (by simp [intsV, hi])
    rwa [plain_addr, Nat.zero_add] at this
  clear h
  generalize vals[i] = x at *
  have hii : (i : Int) < (vals.length : Int) := by omega
  generalize vals.length = n at *
  go_enter Try.func152, Try.ntmps152
  go_wp2_with fail
  go_ret
  exact ⟨rfl, rfl⟩

theorem rowTurn_any (h : RowB w rb rv vals) (i : Nat) (z : Int) (hi : i < vals.length) : Calls Try.prog 151 #[.pointer (some ⟨rb, 0, none⟩), .int .i64 i, .int .i64 z] w fun e w' => e = .returned (.tuple #[]) ∧ RowB w' rb rv (vals.set i z) ∧ Upd (rowFp rb rv) w w' := by
  obtain ⟨g, cap, rfl, hcap⟩ := row_some h.row (by omega)
  have c0 := h.blk.cell (i := 0) rfl
  obtain ⟨cur, hg⟩ := own_block h.row (k := g) rfl
  have cf : w.frozen? ⟨g, i, none⟩ = false := frozen_of_row w g i cur _ hg
  have H := Lib.hid h
  have hii : (i : Int) < (vals.length : Int) := by omega
  have hrg : rb ≠ g := blk_ne h.blk hg (by decide)
  have hst := (h.row.stored i (.int .i64 z)).1
  obtain ⟨n, hn⟩ : ∃ n, n = vals.length := ⟨_, rfl⟩
  rw [← hn] at c0 hii hst
  have HN := Lib.hid hn
  have ci : w.cell? ⟨g, i, none⟩ = some (.int .i64 vals[i]) := by
    have := h.row.cells (g := g) rfl i (.int .i64 vals[i]) (by simp [intsV, hi])
    rwa [plain_addr, Nat.zero_add] at this
  have HS := Lib.hid hst
  clear h hg hn hst
  go_enter Try.func151, Try.ntmps151
  go_wp2_with fail
  go_end0
  have hu : Upd [g] w (w.setCell ⟨g, i, none⟩ (.int .i64 z)) := (Upd.refl [g] w).setCell (p := ⟨g, i, none⟩) (.inl (by simp)) _
  refine ⟨rfl, ⟨?_, ?_⟩, hu.mono (by simp [rowFp, Value.ownBlock])⟩
  · have := H.out.blk.upd hu (by simpa using hrg)
    exact this
  · have := HS.out
    rw [List.length_set]
    unfold intsV at this ⊢
    rw [List.map_set]
    rw [← HN.out]
    exact this

/-- The place of a name in a row. -/
def rowAt (t : Tab) (names : List ByteArray) (vals : List Int) (s : ByteArray) : Int := if t.findE s (numOf names s) < (vals.length : Int) then t.findE s (numOf names s) else -1
theorem rowFind_any (hr : RowB w rb rv vals) (hF : FamB w fb m b nv nb most pairs names) (h : TabB w b v cb cg m t) (hm : Met w m q) {s : ByteArray} (hs : s.size ≤ 200) (hrm : rb ∉ Met.fp m) :
    Calls Try.prog 148 #[.pointer (some ⟨rb, 0, none⟩), .pointer (some ⟨fb, 0, none⟩), .string s] w fun e w' => e = .returned (.int .i64 (rowAt t names vals s)) ∧ Met w' m (t.findQ s (numOf names s) q) ∧ Upd (Met.fp m) w w' := by
  obtain ⟨a, c, rfl⟩ := row_shape hr.row
  have FD := Lib.hid (find_any hF h hm hs)
  have c3 := hF.blk.cell (i := 3) rfl
  have HB := Lib.hid hr.blk
  have HRM := Lib.hid hrm
  unfold rowAt
  generalize Tab.findQ t s (numOf names s) q = q1 at *
  generalize Tab.findE t s (numOf names s) = z at *
  generalize vals.length = n at *
  clear hr hF h hm hrm
  go_enter Try.func148, Try.ntmps148
  go_wp2_with fail
  refine FD.out.mono ?_
  rintro e w1 ⟨rfl, hm1, hu1⟩
  have c0 := (HB.out.upd hu1 HRM.out).cell (i := 0) rfl
  have HM1 := Lib.hid hm1
  have HU1 := Lib.hid hu1
  clear FD hm1 hu1
  by_cases hz : z < (n : Int)
  · go_wp2_with fail
    go_ret
    exact ⟨by first | rfl | (rw [if_pos hz]; rfl), HM1.out, HU1.out⟩
  · go_wp2_with fail
    go_ret
    exact ⟨by first | rfl | (rw [if_neg hz]; rfl), HM1.out, HU1.out⟩
end Go.Proofs.Ytnaeehnnjhklbaa
