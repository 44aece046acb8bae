/- The walks of package trail. -/
import Derived.Test.YtnaeehnnjhklbaaBase
import Derived.Test.YtnaeehnnjhklbaaTrailMath
import Derived.Test.YtnaeehnnjhklbaaRows
import Derived.Deep.QuietTactic
import Derived.BigQuiet
namespace Go.Proofs.Ytnaeehnnjhklbaa
open Go.RowKit

theorem first_in (h : Int) (L : Nat) (w : World) (hL : L ≤ 20) :
    Calls Try.prog 26 #[.int .i64 h, .int .i64 L] w fun e w' => e = .returned (.int .i64 (trC h L 0)) ∧ w = w' := by
  have h1 : ¬ (L : Int) < 0 := by omega
  have h2 : ¬ (20 : Int) < (L : Int) := by omega
  go_enter Try.func26, Try.ntmps26
  go_wp2_with fail
  go_ret
  exact ⟨ret_int (first_eq h hL), rfl⟩
theorem first_out (h L : Int) (w : World) (hL : L < 0 ∨ 20 < L) :
    Calls Try.prog 26 #[.int .i64 h, .int .i64 L] w fun e w' => e = .returned (.int .i64 0) ∧ w = w' := by
  by_cases h1 : L < 0
  · go_enter Try.func26, Try.ntmps26
    go_wp2_with fail
    go_ret
    exact ⟨rfl, rfl⟩
  · have h2 : 20 < L := by omega
    clear hL
    go_enter Try.func26, Try.ntmps26
    go_wp2_with fail
    go_ret
    exact ⟨rfl, rfl⟩

theorem shifts_any (h : Int) (w : World) :
    Calls Try.prog 28 #[.int .i64 h] w fun e w' => e = .returned (.int .i64 (trS h)) ∧ w = w' := by
  go_enter Try.func28, Try.ntmps28
  go_wp2_with fail
  go_loop [3, 4] (fun n p => ∃ k : Nat, k ≤ trS h ∧ n = .int .i64 k ∧ p = .int .u64 (trP h k)) (fun n _ => trS h - (intOf n).toNat)
  case atStart => exact ⟨0, Nat.zero_le _, rfl, by rw [trP_zero, ← wrap_U]⟩
  case round =>
    obtain ⟨k, hk, rfl, rfl⟩ := hrel
    have hs := trS_le h
    have hz := trP_zero_iff h k
    have hp := trP_succ h k
    by_cases hlt : k < trS h
    · have h0 : ((trP h k : Int) != 0) = true := by simp; omega
      have Hp := Lib.hid hp
      have hlt' : trP h k < 18446744073709551616 := trP_lt h k
      clear hz hp
      go_wp2_with fail
      go_round
      case rel => exact ⟨k + 1, by omega, by go_num, by rw [Hp.out]; rfl⟩
      case measure => simp [intOf]; omega
    · have h0 : ((trP h k : Int) != 0) = false := by simp; omega
      clear hz hp
      go_wp2_with fail
      go_ret
      exact ⟨ret_int (by omega), rfl⟩

theorem all_any (h L : Int) (w : World) :
    Calls Try.prog 45 #[.int .i64 h, .int .i64 L] w fun e w' => e = .returned (.func (.func 87) #[] #[.pointer (some ⟨w.heap.size + 1, 0, none⟩), .pointer (some ⟨w.heap.size, 0, none⟩)]) ∧
      (w.alloc (.cells #[.int .i64 h] 3)).alloc (.cells #[.int .i64 L] 3) = w' := by
  go_enter Try.func45, Try.ntmps45
  go_wp2_with fail
  go_ret
  exact ⟨rfl, rfl⟩

def EndsBy (J Jx : World → Prop) (e : Ending) (w' : World) : Prop := e = .returned (.tuple #[]) ∧ (J w' ∨ Jx w')

/-- All's closure, at whatever function value that does its part: J i: i cells have gone through; Jx i: it has been left behind cell i. -/
theorem all1_out (yf : Value) (B : Nat) (B' : Nat) (L : Int) (w : World) (hL : L < 0 ∨ 20 < L) (hc : w.cell? ⟨B, 0, none⟩ = some (.int .i64 L)) :
    Calls Try.prog 87 #[yf, .pointer (some ⟨B, 0, none⟩), .pointer (some ⟨B', 0, none⟩)] w fun e w' => e = .returned (.tuple #[]) ∧ w = w' := by
  by_cases h1 : L < 0
  · go_enter Try.func87, Try.ntmps87
    go_wp2_with fail
    refine bodyPost_ret (results_none rfl _ _ _) rfl ⟨rfl, rfl⟩
  · have h2 : 20 < L := by omega
    clear hL
    go_enter Try.func87, Try.ntmps87
    go_wp2_with fail
    refine bodyPost_ret (results_none rfl _ _ _) rfl ⟨rfl, rfl⟩

theorem all1_any (f : Nat) (caps : Array Value) (B B' : Nat) (h : Int) (L : Nat) (hL : L ≤ 20) (J Jx : Nat → World → Prop)
    (hcf : ∀ (args : Array Value) (w : World), (callFunc f args).run Try.prog w = .ok (.enter f args) w)
    (hstep : Hid (∀ i w, i < 2 ^ L + 13 → J i w → Calls Try.prog f (#[.int .i64 (trC h L i)] ++ caps) w fun e w' => (e = .returned (.bool true) ∧ J (i + 1) w') ∨ (e = .returned (.bool false) ∧ Jx i w')))
    (w : World) (hj : J 0 w) (hc : w.cell? ⟨B, 0, none⟩ = some (.int .i64 L)) (hc' : w.cell? ⟨B', 0, none⟩ = some (.int .i64 h)) :
    Calls Try.prog 87 #[.func (.func f) #[] caps, .pointer (some ⟨B, 0, none⟩), .pointer (some ⟨B', 0, none⟩)] w (EndsBy (J (2 ^ L + 13)) (fun w' => ∃ i, i < 2 ^ L + 13 ∧ Jx i w')) := by
  have h1 : ¬ (L : Int) < 0 := by omega
  have h2 : ¬ (20 : Int) < (L : Int) := by omega
  go_enter Try.func87, Try.ntmps87
  go_wp2_with fail
  rw [rounds_eq hL, wrap_mask hL, wrap_U, and_mask hL (U_lt h)]
  have hpow := pow_le20 hL
  obtain ⟨M, hM⟩ : ∃ M : Nat, M = 2 ^ L - 1 := ⟨_, rfl⟩
  obtain ⟨N, hN⟩ : ∃ N : Nat, N = 2 ^ L + 13 := ⟨_, rfl⟩
  have hN' : N ≤ 1048589 := by omega
  rw [← hM, ← hN]
  rw [← hN] at hstep
  have HM := Lib.hid hM
  have HN := Lib.hid hN
  clear hM hN hpow
  go_loopw [5, 6, 24] (fun p c i wr => ∃ k : Nat, k ≤ N ∧ i = .int .i64 k ∧ c = .int .u64 (trC h L k) ∧ p = .int .u64 (trP h k) ∧ J k wr) (fun _ _ i _ => N - (intOf i).toNat)
  case atStart => exact ⟨0, Nat.zero_le _, rfl, rfl, by rw [trP_zero], hj⟩
  case round =>
    obtain ⟨k, hk, rfl, rfl, rfl, hJ⟩ := hrel
    have hC := trC_lt20 h hL k
    have hP := trP_lt h k
    by_cases hlt : k < N
    · have S := hstep.out k wr hlt hJ
      go_wp2_with fail
      have hs := trC_succ h L k
      have hps := trP_succ h k
      have hq := nextm_eq (trC h L k) (trP h k) hL hC hP
      rw [← HM.out, ← hs] at hq
      have HQ := Lib.hid hq
      have HP := Lib.hid hps
      clear hs hps hq
      refine S.mono ?_
      rintro e w1 (⟨rfl, hJ1⟩ | ⟨rfl, hx⟩)
      · clear S hJ
        go_wp2_with fail
        go_roundw
        case rel =>
          (repeat apply Exists.intro)
          exact ⟨⟨k + 1, by omega, by go_num, by rw [HQ.out], by rw [HP.out]; rfl, hJ1⟩, rfl⟩
        case measure => simp [intOf]; omega
      · go_wp2_with fail
        refine bodyPost_ret (results_none rfl _ _ _) rfl ⟨rfl, .inr ⟨k, by rw [← HN.out]; exact hlt, hx⟩⟩
    · obtain rfl : k = N := by omega
      go_wp2_with fail
      refine bodyPost_end (results_none rfl _ _ _) rfl ⟨rfl, .inl ?_⟩
      rw [← HN.out]; exact hJ
end Go.Proofs.Ytnaeehnnjhklbaa
