/- The walk of CellsWide. -/
import Derived.Test.YtnaeehnnjhklbaaCellsPlays2
set_option linter.unusedVariables false
namespace Go.Proofs.Ytnaeehnnjhklbaa
open Go.RowKit

theorem IsSteps.upd {w w' : World} {a : Option Addr} {len : Nat} {l : List (Int × Int)} (h : IsSteps w a len l) (hu : Upd [] w w') : IsSteps w' a len l := by
  obtain ⟨h1, h2, h3, h4⟩ := h
  refine ⟨h1, h2, ?_, h4⟩
  rcases h3 with h3 | ⟨b, off, e, hb, hc⟩
  · exact .inl h3
  · exact .inr ⟨b, off, e, Nat.lt_of_lt_of_le hb hu.size, fun i hi => ⟨(hu.below.cell (p := ⟨b, _, none⟩) hb).trans (hc i hi).1, (hu.below.cell (p := ⟨b, _, none⟩) hb).trans (hc i hi).2⟩⟩

theorem IsSteps.apart {w : World} {a : Option Addr} {len : Nat} {l : List (Int × Int)} (h : IsSteps w a len l) {g r : Nat} (hg : w.heap.size ≤ g) (hr : w.heap.size ≤ r) : l = [] ∨ ∀ p ∈ a, p.block ≠ g ∧ p.block ≠ r := by
  obtain ⟨_, _, h3, _⟩ := h
  rcases h3 with h3 | ⟨b, off, rfl, hb, _⟩
  · exact .inl h3
  · refine .inr fun p hp => ?_
    obtain rfl : (⟨b, off, none⟩ : Addr) = p := by simpa using hp
    exact ⟨by simp; omega, by simp; omega⟩

set_option maxHeartbeats 2000000 in
theorem cellsWide_walk (L : Int) (a : Option Addr) (len cap : Nat) (l : List (Int × Int)) (w : World) (_ : (Lit.int .i64 L).wf = true) (hl : IsSteps w a len l) :
    Calls Try.prog 11 #[.int .i64 L, .slice a len cap] w (OkV w) := by
  by_cases hbig : 300 < len
  · have hbig' : (300 : Int) < (len : Int) := by omega
    clear hl
    go_enter Try.func11, Try.ntmps11
    go_wp2_with (go_at_call 48; refine (awake6 _).mono ?_; rintro e w' ⟨rfl, hu⟩)
    go_ret
    exact ⟨rfl, hu⟩
  have hbig' : ¬ (300 : Int) < (len : Int) := by omega
  by_cases h1 : L < 13
  · clear hl
    go_enter Try.func11, Try.ntmps11
    go_wp2_with (go_at_call 48; refine (awake6 _).mono ?_; rintro e w' ⟨rfl, hu⟩)
    go_ret
    exact ⟨rfl, hu⟩
  by_cases h2 : 20 < L
  · clear hl
    go_enter Try.func11, Try.ntmps11
    go_wp2_with (go_at_call 48; refine (awake6 _).mono ?_; rintro e w' ⟨rfl, hu⟩)
    go_ret
    exact ⟨rfl, hu⟩
  obtain ⟨n, rfl⟩ := Int.eq_ofNat_of_zero_le (show 0 ≤ L by omega)
  have N := Lib.hid (new_in n w (by omega) (by omega))
  have R := Lib.hid (fun W => refNew_in n W (by omega) (by omega))
  have hl := Lib.hid hl
  go_enter Try.func11, Try.ntmps11
  go_wp2_with fail
  refine N.out.mono ?_
  rintro e w1 ⟨b, g, rfl, hc, hb, hg, hu⟩
  clear N
  have hc := Lib.hid hc
  go_wp2_with fail
  refine (R.out w1).mono ?_
  rintro e w2 ⟨r, rfl, hr, hrl, hu2⟩
  clear R
  have hb1 := hc.out.c.lt
  have hg1 := World.rowIs.lt hc.out.r
  have H := Lib.hid (Both.mk (hc.out.upd hu2 (by simp) (by simp)) hr (by omega) (by omega))
  have hU := hu.then hu2
  have hl2 : w.heap.size ≤ r := by have := hu.size; omega
  clear hc hu hu2 hr hb1 hg1
  have hT := Blk.new w2 94 [.int .i64 n, .slice (some ⟨r, 0, none⟩) (2 ^ n : Nat) (2 ^ n : Nat)]
  have hU1 := hU.alloc (.cells #[.int .i64 n, .slice (some ⟨r, 0, none⟩) (2 ^ n : Nat) (2 ^ n : Nat)] 94)
  have H1 := Lib.hid (H.out.upd ((Upd.refl [] w2).alloc (.cells #[.int .i64 n, .slice (some ⟨r, 0, none⟩) (2 ^ n : Nat) (2 ^ n : Nat)] 94)) (by simp) (by simp) (by simp))
  clear hU H
  go_wp2_with fail
  generalize w2.alloc _ = W at *
  have d0 := hT.cell (i := 0) rfl
  have d1 := hT.cell (i := 1) rfl
  go_wp2_with (first
    | (go_at_call 51
       refine (alike_any H1.out.cc r).mono ?_
       rintro e w3 ⟨rfl, hu3⟩
       have H3 := Lib.hid (H1.out.upd hu3 (by simp) (by simp) (by simp))
       have hT3 := hT.upd hu3 (by simp)
       have hU3 := hU1.then hu3
       have d0 := hT3.cell (i := 0) rfl
       have d1 := hT3.cell (i := 1) rfl)
    | (go_at_call 52
       refine (plays_any a len cap l _ (hl.out.upd hU3) (by omega) (hl.out.apart (by omega) (by omega)) H3.out).mono ?_
       rintro e w4 ⟨rfl, hb4, hu4⟩
       have hU4 : Upd [] w w4 := hU3.trans hu4 (by simp; omega))
    | (go_at_call 48
       refine (awake6 _).mono ?_
       rintro e w5 ⟨rfl, hu5⟩))
  go_ret
  exact ⟨rfl, hU4.then hu5⟩
end Go.Proofs.Ytnaeehnnjhklbaa
