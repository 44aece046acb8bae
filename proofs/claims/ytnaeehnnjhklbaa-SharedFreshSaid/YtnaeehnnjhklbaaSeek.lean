/- The walks of package table: Seek, and a Seeker's step. -/
import Derived.Test.YtnaeehnnjhklbaaTabNew
import Derived.Test.YtnaeehnnjhklbaaCalmTail
set_option linter.unusedVariables false
namespace Go.Proofs.Ytnaeehnnjhklbaa
open Go.RowKit

variable {w : World} {b : Nat} {v : Value} {cb cg : Nat} {m : Option Addr} {t : Tab} {q : Cnt}

/-- A Seeker's cells: ahead of the k-th cell of the trail. -/
abbrev seekL (b : Nat) (t : Tab) (h : Int) (k : Nat) (vis : Int) (ended : Bool) : List Value :=
  [.pointer (some ⟨b, 0, none⟩), .int .i64 h, .int .i64 (trC h t.L k : Nat), .int .u64 (trP h k : Nat), .int .i64 t.turns, .int .i64 vis, .int .i64 (told t.f t.L t.es h k), .bool ended]

def Sought (w : World) (b : Nat) (t : Tab) (hs : Int) (e : Ending) (w' : World) : Prop :=
  ∃ s, e = .returned (.pointer (some ⟨s, 0, none⟩)) ∧ Blk w' s 215 (seekL b t hs 0 0 false) ∧ w.heap.size ≤ s ∧ Upd [] w w'

theorem seek_any (h : TabB w b v cb cg m t) (hs : Int) : Calls Try.prog 142 #[.pointer (some ⟨b, 0, none⟩), .int .i64 hs] w (Sought w b t hs) := by
  have B := Lib.hid (begin_any h)
  have LG := Lib.hid (fun W (hu : Upd [] w W) => (h.cc.upd hu (by simp) (by simp)).log)
  have FI := Lib.hid (fun W => first_in hs t.L W h.cc.hi)
  have hb := h.blk
  clear h
  go_enter Try.func142, Try.ntmps142
  go_wp2_with (go_at_call 108; refine B.out.mono ?_; rintro e w1 ⟨rfl, rfl⟩)
  have H2 := hb.later (i := 2) rfl
  have H6 := hb.later (i := 6) rfl
  refine wp_region_calm_tail 16 (by kernel_rfl) (by kernel_rfl) ?_
  simp only [List.take_succ_cons, List.take_zero, List.drop_succ_cons, List.drop_zero]
  repeat (first | go_big_quiet_skip | (go_big_quiet_want; refine quiet_ex ?_; apply Exists.intro; refine ⟨fun wq hwq => ?_, ?_⟩; ((try go_simp); first | exact rfl | (first | (go_at_call 90; exact Calls.calm_same hwq (LG.out wq hwq)) | (go_at_call 26; exact Calls.calm_same hwq (FI.out wq)))); ((try go_simp); go_big_quiet_on)))
  refine wpQuiet_nil ?_
  intro wq hwq
  go_wp2_with fail
  go_ret
  exact ⟨wq.heap.size, rfl, by unfold seekL; rw [trP_zero, ← wrap_U]; exact Blk.new _ _ _, hwq.size, hwq.alloc _⟩

theorem on_val (hs : Int) (k : Nat) {L : Nat} (hL : L ≤ 20) : IntKind.i64.wrap (bits .and .u64 (IntKind.u64.wrap (IntKind.u64.wrap (IntKind.u64.wrap (5 * IntKind.u64.wrap (trC hs L k : Int)) + (trP hs k : Int) / 32) + 1)) ((2 ^ L - 1 : Nat) : Int)) = (trC hs L (k + 1) : Nat) := by
  have hP := trP_lt hs k
  have hC := trC_lt20 hs hL k
  have hC' := trC_lt20 hs hL (k + 1)
  have hq := nextm_eq (trC hs L k) (trP hs k) hL hC hP
  rw [← trC_succ] at hq
  have e : IntKind.u64.wrap (IntKind.u64.wrap (IntKind.u64.wrap (5 * IntKind.u64.wrap (trC hs L k : Int)) + (trP hs k : Int) / 32) + 1) = 5 * (trC hs L k : Int) + (trP hs k : Int) / 32 + 1 := by
    simp only [IntKind.wrap_u64]
    omega
  rw [e, hq, IntKind.wrap_i64]
  omega

theorem on_any (h : TabB w b v cb cg m t) {s : Nat} {hs : Int} {k : Nat} {vis tld : Int} {en : Bool}
    (hB : Blk w s 215 [.pointer (some ⟨b, 0, none⟩), .int .i64 hs, .int .i64 (trC hs t.L k : Nat), .int .u64 (trP hs k : Nat), .int .i64 t.turns, .int .i64 vis, .int .i64 tld, .bool en]) :
    Calls Try.prog 145 #[.pointer (some ⟨s, 0, none⟩)] w fun e w' => e = .returned (.tuple #[]) ∧
      Blk w' s 215 [.pointer (some ⟨b, 0, none⟩), .int .i64 hs, .int .i64 (trC hs t.L (k + 1) : Nat), .int .u64 (trP hs (k + 1) : Nat), .int .i64 t.turns, .int .i64 vis, .int .i64 tld, .bool en] ∧ Upd [s] w w' := by
  have LG := Lib.hid (fun W (hu : Upd [s] w W) => (h.cc.upd hu (by
    simp
    rintro rfl
    have := h.cc.c
    unfold Blk at this hB
    rw [this] at hB
    simp at hB) (by
    simp
    rintro rfl
    obtain ⟨cur, hg⟩ := rowIs_block h.cc.r
    unfold Blk at hB
    rw [hg] at hB
    simp at hB
    rcases kindOf_ok t.L with e | e | e <;> rw [e] at hB <;> simp [K8, K16, K32] at hB)).log)
  have hL := h.cc.hi
  have hbs : b ≠ s := by
    have := hB
    unfold Blk at this
    exact blk_ne h.blk this (by decide)
  have hb := h.blk
  have f3 := hB.free 3
  have f2 := hB.free 2
  have c0 := hB.cell (i := 0) rfl
  have c2 := hB.cell (i := 2) rfl
  have c3 := hB.cell (i := 3) rfl
  have b1 := hB.set 3 (.int .u64 ((trP hs k : Int) / 32))
  have hu1 := (Upd.refl [s] w).setCell (p := ⟨s, 3, none⟩) (.inl (by simp)) (.int .u64 ((trP hs k : Int) / 32))
  have k1 := hb.other (a := ⟨s, 3, none⟩) (.int .u64 ((trP hs k : Int) / 32)) hbs
  have hP := trP_lt hs k
  have hC := trC_lt20 hs hL k
  have hv := Lib.hid (on_val hs k hL)
  have hsp := Lib.hid (trP_succ hs k)
  clear h hB hb
  go_enter Try.func145, Try.ntmps145
  go_wp2_with fail
  generalize w.setCell _ _ = W at *
  have H0 := b1.later (i := 0) rfl
  have H2 := b1.later (i := 2) rfl
  have H3 := b1.later (i := 3) rfl
  have K2 := k1.later (i := 2) rfl
  have e1 := wrap_mask hL
  have hu1' := hu1
  refine wp_region_calm_tail 27 (by kernel_rfl) (by kernel_rfl) ?_
  simp only [List.take_succ_cons, List.take_zero, List.drop_succ_cons, List.drop_zero]
  repeat (first | go_big_quiet_skip | (go_big_quiet_want; refine quiet_ex ?_; apply Exists.intro; refine ⟨fun wq hwq => ?_, ?_⟩; ((try go_simp); first | exact rfl | (first | (go_at_call 90; exact Calls.calm_same hwq (LG.out wq (hu1'.nil hwq))))); ((try go_simp); go_big_quiet_on)))
  refine wpQuiet_nil ?_
  intro wq hwq
  rw [hv.out]
  have b2 := b1.upd hwq (by simp)
  have f2 := b2.free 2
  have c2 := b2.cell (i := 2) rfl
  have hu2 := (hu1'.nil hwq).setCell (p := ⟨s, 2, none⟩) (.inl (by simp)) (.int .i64 (trC hs t.L (k + 1) : Nat))
  have b3 := b2.set 2 (.int .i64 (trC hs t.L (k + 1) : Nat))
  have B3 : Hid (Blk (wq.setCell ⟨s, 2, none⟩ (.int .i64 (trC hs t.L (k + 1) : Nat))) s 215 [.pointer (some ⟨b, 0, none⟩), .int .i64 hs, .int .i64 (trC hs t.L (k + 1) : Nat), .int .u64 (trP hs (k + 1) : Nat), .int .i64 t.turns, .int .i64 vis, .int .i64 tld, .bool en]) := Lib.hid (by rw [hsp.out]; exact b3)
  clear b1 b2 b3 H0 H2 H3 K2 k1
  go_wp2_with fail
  go_end0
  exact ⟨rfl, B3.out, hu2⟩
end Go.Proofs.Ytnaeehnnjhklbaa
