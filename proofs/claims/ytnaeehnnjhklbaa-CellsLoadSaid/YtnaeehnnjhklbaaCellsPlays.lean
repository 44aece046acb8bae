/- The walks of the laws of cells: alike, plays, awake. -/
import Derived.Test.YtnaeehnnjhklbaaRefCells
import Derived.Test.YtnaeehnnjhklbaaOpen
import Derived.Test.YtnaeehnnjhklbaaCalm
set_option linter.unusedVariables false
namespace Go.Proofs.Ytnaeehnnjhklbaa
open Go.RowKit

def ansSet (L : Nat) (i v : Int) : Int := if i < 0 ∨ ((2 ^ L : Nat) : Int) ≤ i then 5 else if mayB L v then 0 else 1
def putS (L : Nat) (f : Nat → Int) (i v : Int) : Nat → Int := if i < 0 ∨ ((2 ^ L : Nat) : Int) ≤ i then f else if mayB L v then putAt f i.toNat v else f
def getV (L : Nat) (f : Nat → Int) (i : Int) : Int := if i < 0 ∨ ((2 ^ L : Nat) : Int) ≤ i then 0 else f i.toNat
def getE (L : Nat) (i : Int) : Int := if i < 0 ∨ ((2 ^ L : Nat) : Int) ≤ i then 5 else 0

theorem CellsAt.drew {w : World} {b g L : Nat} {f : Nat → Int} (h : CellsAt w b g L f) : CellsAt w.drew b g L f := ⟨h.lo, h.hi, h.c, h.r, h.v⟩
theorem RefAt.drew {w : World} {g L : Nat} {f : Nat → Int} (h : RefAt w g L f) : RefAt w.drew g L f := h

section
variable {w : World} {b g L : Nat} {f : Nat → Int}

theorem CellsAt.set_any (h : CellsAt w b g L f) (i v : Int) :
    Calls Try.prog 56 #[.pointer (some ⟨b, 0, none⟩), .int .i64 i, .int .i64 v] w fun e w' => e = .returned (.int .i64 (ansSet L i v)) ∧ CellsAt w' b g L (putS L f i v) ∧ Upd [g] w w' := by
  unfold ansSet putS
  by_cases h1 : i < 0 ∨ ((2 ^ L : Nat) : Int) ≤ i
  · rw [if_pos h1, if_pos h1]
    exact (h.set_out i v h1).mono fun e w' ⟨he, hu⟩ => ⟨he, h.upd hu (by simp) (by simp), hu.mono (by simp)⟩
  · obtain ⟨n, rfl⟩ := Int.eq_ofNat_of_zero_le (show 0 ≤ i by omega)
    rw [if_neg h1, if_neg h1]
    by_cases h2 : mayB L v = true
    · rw [if_pos h2, if_pos h2]
      simpa using h.set_in n v (by omega) h2
    · rw [if_neg h2, if_neg h2]
      exact (h.set_not n v (by omega) (by simpa using h2)).mono fun e w' ⟨he, hu⟩ => ⟨he, h.upd hu (by simp) (by simp), hu.mono (by simp)⟩
theorem CellsAt.get_any (h : CellsAt w b g L f) (i : Int) :
    Calls Try.prog 60 #[.pointer (some ⟨b, 0, none⟩), .int .i64 i] w fun e w' => e = .returned (.tuple #[.int .i64 (getV L f i), .int .i64 (getE L i)]) ∧ Upd [] w w' := by
  unfold getV getE
  by_cases h1 : i < 0 ∨ ((2 ^ L : Nat) : Int) ≤ i
  · rw [if_pos h1, if_pos h1]
    exact h.get_out i h1
  · obtain ⟨n, rfl⟩ := Int.eq_ofNat_of_zero_le (show 0 ≤ i by omega)
    rw [if_neg h1, if_neg h1]
    exact h.get_in n (by omega)
theorem refSet_any (h : RefAt w g L f) (h3 : 3 ≤ L) (hL : L ≤ 20) (i v : Int) :
    Calls Try.prog 94 #[refV g L (2 ^ L), .int .i64 i, .int .i64 v] w fun e w' => e = .returned (.int .i64 (ansSet L i v)) ∧ RefAt w' g L (putS L f i v) ∧ Upd [g] w w' := by
  unfold ansSet putS
  by_cases h1 : i < 0 ∨ ((2 ^ L : Nat) : Int) ≤ i
  · rw [if_pos h1, if_pos h1]
    exact (refSet_out h3 hL i v h1).mono fun e w' ⟨he, hu⟩ => ⟨he, h.upd hu (by simp), hu.mono (by simp)⟩
  · obtain ⟨n, rfl⟩ := Int.eq_ofNat_of_zero_le (show 0 ≤ i by omega)
    rw [if_neg h1, if_neg h1]
    by_cases h2 : mayB L v = true
    · rw [if_pos h2, if_pos h2]
      simpa using refSet_in h h3 hL n v (by omega) h2
    · rw [if_neg h2, if_neg h2]
      exact (refSet_not h h3 hL n v (by omega) (by simpa using h2)).mono fun e w' ⟨he, hu⟩ => ⟨he, h.upd hu (by simp), hu.mono (by simp)⟩
theorem refGet_any (h : RefAt w g L f) (h3 : 3 ≤ L) (hL : L ≤ 20) (i : Int) :
    Calls Try.prog 95 #[refV g L (2 ^ L), .int .i64 i] w fun e w' => e = .returned (.tuple #[.int .i64 (getV L f i), .int .i64 (getE L i)]) ∧ Upd [] w w' := by
  unfold getV getE
  by_cases h1 : i < 0 ∨ ((2 ^ L : Nat) : Int) ≤ i
  · rw [if_pos h1, if_pos h1]
    exact refGet_out h3 hL i h1
  · obtain ⟨n, rfl⟩ := Int.eq_ofNat_of_zero_le (show 0 ≤ i by omega)
    rw [if_neg h1, if_neg h1]
    exact refGet_in h h3 hL n (by omega)
end

theorem alike_any {w : World} {b g L : Nat} {f : Nat → Int} (h : CellsAt w b g L f) (r : Nat) :
    Calls Try.prog 51 #[.pointer (some ⟨b, 0, none⟩), refV r L (2 ^ L)] w (OkV w) := by
  have hi := h.hi
  have lo := h.lo
  have hb := Blk.new w 94 [.int .i64 L, .slice (some ⟨r, 0, none⟩) (2 ^ L : Nat) (2 ^ L : Nat)]
  have hu := (Upd.refl [] w).alloc (.cells #[.int .i64 L, .slice (some ⟨r, 0, none⟩) (2 ^ L : Nat) (2 ^ L : Nat)] 94)
  have h := Lib.hid (h.upd hu (by simp) (by simp))
  go_enter Try.func51, Try.ntmps51
  go_wp2_with fail
  have c0 := hb.later (i := 0) rfl
  have c1 := hb.later (i := 1) rfl
  generalize w.alloc _ = W at *
  refine wp_region_calm (by kernel_rfl) (by kernel_rfl) ?_
  repeat (first | go_big_quiet_skip | (go_big_quiet_want; refine quiet_ex ?_; apply Exists.intro; refine ⟨fun wq hwq => ?_, ?_⟩; ((try go_simp); first | exact rfl | (first | (go_at_call 90; exact Calls.calm_same hwq (h.out.upd hwq (by simp) (by simp)).log) | (go_at_call 91; exact Calls.calm_same hwq (refRoom_in L _ lo hi)) | (go_at_call 93; exact Calls.calm_same hwq (refWidth_in L _ lo hi)) | (go_at_call 53; exact Calls.calm hwq (h.out.upd hwq (by simp) (by simp)).size) | (go_at_call 88; exact Calls.calm hwq (h.out.upd hwq (by simp) (by simp)).room) | (go_at_call 92; exact Calls.calm hwq (h.out.upd hwq (by simp) (by simp)).width))); ((try go_simp); go_big_quiet_on)))
  refine wpQuiet_nil ?_
  intro wq hwq
  go_wp2_with fail
  go_ret
  exact ⟨rfl, hu.then hwq⟩

theorem awake6 (w : World) : Calls Try.prog 48 #[] w (OkV w) := by
  have A1 := Lib.hid (new_in 3 w (by omega) (by omega))
  go_enter Try.func48, Try.ntmps48
  go_wp2_with fail
  refine A1.out.mono ?_
  rintro e w1 ⟨b, g, rfl, h, hb, hg, hu⟩
  clear A1
  have h := Lib.hid h
  go_wp2_with (first
    | (go_at_call 53; refine h.out.size.mono ?_; rintro e w2 ⟨rfl, hu1⟩; have h1 := Lib.hid (h.out.upd hu1 (by simp) (by simp)))
    | (go_at_call 88; refine h1.out.room.mono ?_; rintro e w3 ⟨rfl, hu2⟩; have h2 := Lib.hid (h1.out.upd hu2 (by simp) (by simp)))
    | (go_at_call 56; first | (refine (h3.out.set_any 0 5).mono ?_; rintro e w5 ⟨rfl, h4, hu4⟩) | (refine (h2.out.set_any 0 4).mono ?_; rintro e w4 ⟨rfl, h3, hu3⟩; have h3 := Lib.hid h3)))
  go_ret
  refine ⟨ret_bool (by decide), ?_⟩
  refine ((((hu.nil hu1).nil hu2).mono (fp' := []) (by simp)).trans hu3 (by simp; omega)).trans hu4 (by simp; omega)

end Go.Proofs.Ytnaeehnnjhklbaa
