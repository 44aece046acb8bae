/- The walk of TrailGoes. -/
import Derived.Test.YtnaeehnnjhklbaaTrailLaw
namespace Go.Proofs.Ytnaeehnnjhklbaa
open Go.RowKit

set_option maxHeartbeats 1000000 in
theorem trailGoes_walk (h : Int) (L : Int) (most : Int) (w : World) (_ : (Lit.int .i64 h).wf = true) (_ : (Lit.int .i64 L).wf = true) (_ : (Lit.int .i64 most).wf = true) :
    Calls Try.prog 6 #[.int .i64 h, .int .i64 L, .int .i64 most] w (OkV w) := by
  by_cases h1 : most < 1
  · go_enter Try.func6, Try.ntmps6
    go_wp2_with (first | (go_at_call 23; refine (cells_any h L 3000 _ (by omega) (by omega)).mono ?_; rintro e w1 ⟨v1, rfl, hl1⟩) | (go_at_call 25; refine (refAll_any h L 3000 _ (by omega) (by omega)).mono ?_; rintro e w2 ⟨v2, rfl, hl2⟩) | (go_at_call 24; refine (same_yes (trList h L 3000) v1 v2 _ ((hl1.reads (trList_len _ _ _ (by omega))).upd hl2.2) (hl2.reads (trList_len _ _ _ (by omega)))).mono ?_; rintro e w3 ⟨rfl, hu3⟩) | (go_at_call 26; refine (first_any h L _).mono ?_; rintro e w' ⟨rfl, rfl⟩) | (go_at_call 27; refine (refFirst_any h L _).mono ?_; rintro e w' ⟨rfl, rfl⟩) | (go_at_call 28; refine (shifts_any h _).mono ?_; rintro e w' ⟨rfl, rfl⟩) | (go_at_call 29; refine (refShifts_any h _).mono ?_; rintro e w' ⟨rfl, rfl⟩) | (go_at_call 30; refine (awake5 _).mono ?_; rintro e w' ⟨rfl, rfl⟩))
    go_ret
    exact ⟨rfl, (hl1.2.then hl2.2).then hu3⟩
  by_cases h2 : 3000 < most
  · go_enter Try.func6, Try.ntmps6
    go_wp2_with (first | (go_at_call 23; refine (cells_any h L 3000 _ (by omega) (by omega)).mono ?_; rintro e w1 ⟨v1, rfl, hl1⟩) | (go_at_call 25; refine (refAll_any h L 3000 _ (by omega) (by omega)).mono ?_; rintro e w2 ⟨v2, rfl, hl2⟩) | (go_at_call 24; refine (same_yes (trList h L 3000) v1 v2 _ ((hl1.reads (trList_len _ _ _ (by omega))).upd hl2.2) (hl2.reads (trList_len _ _ _ (by omega)))).mono ?_; rintro e w3 ⟨rfl, hu3⟩) | (go_at_call 26; refine (first_any h L _).mono ?_; rintro e w' ⟨rfl, rfl⟩) | (go_at_call 27; refine (refFirst_any h L _).mono ?_; rintro e w' ⟨rfl, rfl⟩) | (go_at_call 28; refine (shifts_any h _).mono ?_; rintro e w' ⟨rfl, rfl⟩) | (go_at_call 29; refine (refShifts_any h _).mono ?_; rintro e w' ⟨rfl, rfl⟩) | (go_at_call 30; refine (awake5 _).mono ?_; rintro e w' ⟨rfl, rfl⟩))
    go_ret
    exact ⟨rfl, (hl1.2.then hl2.2).then hu3⟩
  go_enter Try.func6, Try.ntmps6
  go_wp2_with (first | (go_at_call 23; refine (cells_any h L most _ (by omega) (by omega)).mono ?_; rintro e w1 ⟨v1, rfl, hl1⟩) | (go_at_call 25; refine (refAll_any h L most _ (by omega) (by omega)).mono ?_; rintro e w2 ⟨v2, rfl, hl2⟩) | (go_at_call 24; refine (same_yes (trList h L most) v1 v2 _ ((hl1.reads (trList_len _ _ _ (by omega))).upd hl2.2) (hl2.reads (trList_len _ _ _ (by omega)))).mono ?_; rintro e w3 ⟨rfl, hu3⟩) | (go_at_call 26; refine (first_any h L _).mono ?_; rintro e w' ⟨rfl, rfl⟩) | (go_at_call 27; refine (refFirst_any h L _).mono ?_; rintro e w' ⟨rfl, rfl⟩) | (go_at_call 28; refine (shifts_any h _).mono ?_; rintro e w' ⟨rfl, rfl⟩) | (go_at_call 29; refine (refShifts_any h _).mono ?_; rintro e w' ⟨rfl, rfl⟩) | (go_at_call 30; refine (awake5 _).mono ?_; rintro e w' ⟨rfl, rfl⟩))
  go_ret
  exact ⟨rfl, (hl1.2.then hl2.2).then hu3⟩
end Go.Proofs.Ytnaeehnnjhklbaa
