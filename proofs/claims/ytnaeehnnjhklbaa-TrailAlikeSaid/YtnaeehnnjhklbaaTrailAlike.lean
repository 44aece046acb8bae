/- The walk of TrailAlike. -/
import Derived.Test.YtnaeehnnjhklbaaTrailLaw
namespace Go.Proofs.Ytnaeehnnjhklbaa
open Go.RowKit

theorem trailAlike_in (h o : Int) (L k : Nat) (w : World) (hL : L ≤ 20) (hk : k ≤ 11) (hn : L + 5 * k ≤ 63) :
    Calls Try.prog 10 #[.int .i64 h, .int .i64 o, .int .i64 L, .int .i64 k] w (OkV w) := by
  have h1 : ¬ (L : Int) < 0 := by omega
  have h2 : ¬ (20 : Int) < (L : Int) := by omega
  have h3 : ¬ (k : Int) < 0 := by omega
  have h4 : ¬ (11 : Int) < (k : Int) := by omega
  have h5 : ¬ (63 : Int) < (L : Int) + 5 * (k : Int) := by omega
  go_enter Try.func10, Try.ntmps10
  go_wp2_with fail
  have ht := twin_mod h o hn
  generalize wrap64 (bits .or .u64 (bits .and .u64 (IntKind.u64.wrap h) (IntKind.u64.wrap (IntKind.u64.wrap (2 ^ (L + 5 * k)) - 1))) (bits .andNot .u64 (IntKind.u64.wrap o) (IntKind.u64.wrap (IntKind.u64.wrap (2 ^ (L + 5 * k)) - 1)))) = tw at ht ⊢
  have hrow : trList tw L ((k : Int) + 1) = trList h L ((k : Int) + 1) := by
    have ha := trC_alike tw h L k ht
    have e : ((k : Int) + 1).toNat = k + 1 := by omega
    have hp := Nat.two_pow_pos L
    have em : min (2 ^ L + 13) (k + 1) = k + 1 := by omega
    have hin : trIn (L : Int) := ⟨by omega, by omega⟩
    unfold trList
    rw [if_pos hin, if_pos hin, e, Int.toNat_natCast, em]
    unfold trRow
    refine List.map_congr_left fun i hi => ?_
    have := List.mem_range.1 hi
    exact ha i (by omega)
  have Hrow := Lib.hid hrow
  clear ht hrow
  refine (cells_any h L ((k : Int) + 1) _ (by omega) (by omega)).mono ?_
  rintro e w1 ⟨v1, rfl, hl1⟩
  go_wp2_with fail
  refine (cells_any tw L ((k : Int) + 1) _ (by omega) (by omega)).mono ?_
  rintro e w2 ⟨v2, rfl, hl2⟩
  rw [Hrow.out] at hl2
  have hb : trList h L ((k : Int) + 1) = trList h L ((k : Int) + 1) := rfl
  have r1 := (hl1.reads (trList_len _ _ _ (by omega))).upd hl2.2
  have r2 := hl2.reads (trList_len _ _ _ (by omega))
  have hu := hl1.2.then hl2.2
  clear hb hl1 hl2
  go_wp2_with (first | (go_at_call 24; refine (same_yes (trList h L ((k : Int) + 1)) v1 v2 _ r1 r2).mono ?_; rintro e w3 ⟨rfl, hu3⟩) | (go_at_call 30; refine (awake5 _).mono ?_; rintro e w' ⟨rfl, rfl⟩))
  go_ret
  exact ⟨rfl, hu.then hu3⟩

theorem trailAlike_walk (h : Int) (o : Int) (L : Int) (k : Int) (w : World) (_ : (Lit.int .i64 h).wf = true) (_ : (Lit.int .i64 o).wf = true) (_ : (Lit.int .i64 L).wf = true) (_ : (Lit.int .i64 k).wf = true) :
    Calls Try.prog 10 #[.int .i64 h, .int .i64 o, .int .i64 L, .int .i64 k] w (OkV w) := by
  by_cases h1 : L < 0
  · go_enter Try.func10, Try.ntmps10
    go_wp2_with (go_at_call 30; refine (awake5 _).mono ?_; rintro e w' ⟨rfl, rfl⟩)
    go_ret
    exact ⟨rfl, Upd.refl _ _⟩
  by_cases h2 : 20 < L
  · go_enter Try.func10, Try.ntmps10
    go_wp2_with (go_at_call 30; refine (awake5 _).mono ?_; rintro e w' ⟨rfl, rfl⟩)
    go_ret
    exact ⟨rfl, Upd.refl _ _⟩
  by_cases h3 : k < 0
  · go_enter Try.func10, Try.ntmps10
    go_wp2_with (go_at_call 30; refine (awake5 _).mono ?_; rintro e w' ⟨rfl, rfl⟩)
    go_ret
    exact ⟨rfl, Upd.refl _ _⟩
  by_cases h4 : 11 < k
  · go_enter Try.func10, Try.ntmps10
    go_wp2_with (go_at_call 30; refine (awake5 _).mono ?_; rintro e w' ⟨rfl, rfl⟩)
    go_ret
    exact ⟨rfl, Upd.refl _ _⟩
  by_cases h5 : 63 < L + 5 * k
  · go_enter Try.func10, Try.ntmps10
    go_wp2_with (go_at_call 30; refine (awake5 _).mono ?_; rintro e w' ⟨rfl, rfl⟩)
    go_ret
    exact ⟨rfl, Upd.refl _ _⟩
  obtain ⟨l, rfl⟩ := Int.eq_ofNat_of_zero_le (show 0 ≤ L by omega)
  obtain ⟨n, rfl⟩ := Int.eq_ofNat_of_zero_le (show 0 ≤ k by omega)
  exact trailAlike_in h o l n w (by omega) (by omega) (by omega)
end Go.Proofs.Ytnaeehnnjhklbaa
