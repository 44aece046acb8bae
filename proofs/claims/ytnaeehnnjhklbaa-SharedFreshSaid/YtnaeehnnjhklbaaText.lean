/- The walk of digest.Text. -/
import Derived.Test.YtnaeehnnjhklbaaBase
import Derived.Test.YtnaeehnnjhklbaaRows
import Derived.Deep.QuietTactic
import Derived.BigQuiet
set_option linter.unusedVariables false
namespace Go.Proofs.Ytnaeehnnjhklbaa
open Go.RowKit

def txtStep (h : Int) (c : UInt8) : Int := IntKind.u64.wrap (bits .xor .u64 h (c.toNat : Int) * 1099511628211)
def txtInit : Int := 14695981039346656037
def txtW (s : ByteArray) (k : Nat) : Int := (s.data.toList.take k).foldl txtStep txtInit
/-- The hash of a text. -/
def txtOf (h : Int) : Int := if wrap64 h = -1 then -2 else wrap64 h
def txt (s : ByteArray) : Int := txtOf (txtW s s.size)
theorem txtW_zero (s : ByteArray) : txtW s 0 = txtInit := rfl
theorem txtW_succ (s : ByteArray) (k : Nat) (h : k < s.size) : txtW s (k + 1) = IntKind.u64.wrap (bits .xor .u64 (txtW s k) (s[k].toNat : Int) * 1099511628211) := by
  unfold txtW
  rw [List.take_succ_eq_append_getElem (by simpa using h), List.foldl_append]
  rfl

theorem stands_any (n : Int) (w : World) : Calls Try.prog 123 #[.int .i64 n] w fun e w' => e = .returned (.func (.func 125) #[] #[.pointer (some ⟨w.heap.size, 0, none⟩)]) ∧ w.alloc (.cells #[.int .i64 n] 3) = w' := by
  go_enter Try.func123, Try.ntmps123
  go_wp2_with fail
  go_ret
  exact ⟨rfl, rfl⟩
theorem stands1_any (n : Int) (b : Nat) (w : World) (hc : w.cell? ⟨b, 0, none⟩ = some (.int .i64 n)) : Calls Try.prog 125 #[.pointer (some ⟨b, 0, none⟩)] w fun e w' => e = .returned (.int .i64 n) ∧ w = w' := by
  go_enter Try.func125, Try.ntmps125
  go_wp2_with fail
  go_ret
  exact ⟨rfl, rfl⟩
theorem hash_any (h : Int) (b : Nat) (w : World) (hc : w.cell? ⟨b, 0, none⟩ = some (.int .i64 (-2))) : Calls Try.prog 122 #[.int .u64 h, .func (.func 125) #[] #[.pointer (some ⟨b, 0, none⟩)]] w fun e w' => e = .returned (.int .i64 (txtOf h)) ∧ w = w' := by
  unfold txtOf
  have S := Lib.hid (stands1_any (-2) b w hc)
  by_cases h1 : wrap64 h = -1
  · have h2 : (wrap64 h == -1) = true := by simpa using h1
    rw [if_pos h1]
    clear h1
    go_enter Try.func122, Try.ntmps122
    go_wp2_with (go_at_call 125; refine S.out.mono ?_; rintro e w1 ⟨rfl, rfl⟩)
    go_ret
    exact ⟨rfl, rfl⟩
  · have h2 : (wrap64 h == -1) = false := by simpa using h1
    rw [if_neg h1]
    clear h1
    go_enter Try.func122, Try.ntmps122
    go_wp2_with (go_at_call 125; refine S.out.mono ?_; rintro e w1 ⟨rfl, rfl⟩)
    go_ret
    exact ⟨rfl, rfl⟩

theorem text_any (s : ByteArray) (w : World) (hs : s.size ≤ 100000) : Calls Try.prog 114 #[.string s] w fun e w' => e = .returned (.int .i64 (txt s)) ∧ Upd [] w w' := by
  have H := Lib.hid (fun W hc => hash_any (txtW s s.size) w.heap.size W hc)
  have z := txtW_zero s
  unfold txtInit at z
  have Z := Lib.hid z
  clear z
  go_enter Try.func114, Try.ntmps114
  go_wp2_with fail
  rw [← Z.out]
  go_loop [3, 4, 7] (fun h _ i => ∃ k : Nat, k ≤ s.size ∧ i = .int .i64 k ∧ h = .int .u64 (txtW s k)) (fun _ _ i => s.size - (intOf i).toNat)
  case atStart => exact ⟨0, Nat.zero_le _, rfl, rfl⟩
  case round =>
    obtain ⟨k, hk, rfl, rfl⟩ := hrel
    by_cases hlt : k < s.size
    · have hl : (k : Int) < (s.size : Int) := by omega
      have S := Lib.hid (txtW_succ s k hlt)
      have HB : Hid (IntKind.u64.wrap (s[k].toNat : Int) = (s[k].toNat : Int)) := Lib.hid (by rw [IntKind.wrap_u64]; have := s[k].toNat_lt; omega)
      go_wp2_with fail
      go_round
      case rel => exact ⟨k + 1, by omega, by go_num, by rw [S.out, HB.out]⟩
      case measure => simp [intOf]; omega
    · obtain rfl : k = s.size := by omega
      have hu := (Upd.refl [] w).alloc (.cells #[.int .i64 (-2)] 3)
      go_wp2_with (first
        | (go_at_call 123; refine (stands_any _ _).mono ?_; rintro e w1 ⟨rfl, rfl⟩)
        | (go_at_call 122; refine (H.out _ (by simp)).mono ?_; rintro e w2 ⟨rfl, rfl⟩))
      go_ret
      exact ⟨rfl, hu⟩
end Go.Proofs.Ytnaeehnnjhklbaa
