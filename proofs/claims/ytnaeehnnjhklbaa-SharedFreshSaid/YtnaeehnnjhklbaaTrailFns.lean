/- The walks of First, and of the function that All hands back its value. -/
import Derived.Test.YtnaeehnnjhklbaaBase
import Derived.Test.YtnaeehnnjhklbaaTrailMath
import Derived.Test.YtnaeehnnjhklbaaRows
import Derived.Deep.QuietTactic
import Derived.BigQuiet
namespace Go.Proofs.Ytnaeehnnjhklbaa
open Go.RowKit
theorem first_in (h : Int) (L : Nat) (w : World) (hL : L ≤ 20) :
    Calls Try.prog 26 #[.int .i64 h, .int .i64 L] w fun e w' => e = .returned (.int .i64 (trC h L 0)) ∧ w = w' := by
  have h1 : ¬ (L : Int) < 0 := by omega
  have h2 : ¬ (20 : Int) < (L : Int) := by omega
  go_enter Try.func26, Try.ntmps26
  go_wp2_with fail
  go_ret
  exact ⟨ret_int (first_eq h hL), rfl⟩
theorem first_out (h L : Int) (w : World) (hL : L < 0 ∨ 20 < L) :
    Calls Try.prog 26 #[.int .i64 h, .int .i64 L] w fun e w' => e = .returned (.int .i64 0) ∧ w = w' := by
  by_cases h1 : L < 0
  · go_enter Try.func26, Try.ntmps26
    go_wp2_with fail
    go_ret
    exact ⟨rfl, rfl⟩
  · have h2 : 20 < L := by omega
    clear hL
    go_enter Try.func26, Try.ntmps26
    go_wp2_with fail
    go_ret
    exact ⟨rfl, rfl⟩

theorem all_any (h L : Int) (w : World) :
    Calls Try.prog 45 #[.int .i64 h, .int .i64 L] w fun e w' => e = .returned (.func (.func 87) #[] #[.pointer (some ⟨w.heap.size + 1, 0, none⟩), .pointer (some ⟨w.heap.size, 0, none⟩)]) ∧
      (w.alloc (.cells #[.int .i64 h] 3)).alloc (.cells #[.int .i64 L] 3) = w' := by
  go_enter Try.func45, Try.ntmps45
  go_wp2_with fail
  go_ret
  exact ⟨rfl, rfl⟩

end Go.Proofs.Ytnaeehnnjhklbaa
