/- The walks of cells that are none, and CellsNothing. -/
import Derived.Test.YtnaeehnnjhklbaaCellsPlay
set_option linter.unusedVariables false
namespace Go.Proofs.Ytnaeehnnjhklbaa
open Go.RowKit

/-- A pointer to cells that are none: nil, or a zero one. -/
def NoneAt (w : World) (p : Option Addr) : Prop := p = none ∨ ∃ b, p = some ⟨b, 0, none⟩ ∧ Blk w b 115 [.int .i64 0, .nilIface]
theorem NoneAt.upd {w w' : World} {p : Option Addr} (h : NoneAt w p) (hu : Upd [] w w') : NoneAt w' p := by
  rcases h with h | ⟨b, h, hb⟩
  · exact .inl h
  · exact .inr ⟨b, h, hb.upd hu (by simp)⟩

variable {w : World} {p : Option Addr}
theorem NoneAt.isNone (h : NoneAt w p) : Calls Try.prog 96 #[.pointer p] w fun e w' => e = .returned (.bool true) ∧ w = w' := by
  rcases h with rfl | ⟨b, rfl, hb⟩
  · exact none_nil w
  · exact none_zero b _ w hb
theorem NoneAt.log (h : NoneAt w p) : Calls Try.prog 90 #[.pointer p] w fun e w' => e = .returned (.int .i64 0) ∧ w = w' := by
  go_enter Try.func90, Try.ntmps90
  go_wp2_with (go_at_call 96; refine h.isNone.mono ?_; rintro e w' ⟨rfl, rfl⟩)
  go_ret
  exact ⟨rfl, rfl⟩
theorem NoneAt.size (h : NoneAt w p) : Calls Try.prog 53 #[.pointer p] w fun e w' => e = .returned (.int .i64 0) ∧ w = w' := by
  go_enter Try.func53, Try.ntmps53
  go_wp2_with (go_at_call 96; refine h.isNone.mono ?_; rintro e w' ⟨rfl, rfl⟩)
  go_ret
  exact ⟨rfl, rfl⟩
theorem NoneAt.width (h : NoneAt w p) : Calls Try.prog 92 #[.pointer p] w fun e w' => e = .returned (.int .i64 0) ∧ w = w' := by
  go_enter Try.func92, Try.ntmps92
  go_wp2_with (go_at_call 96; refine h.isNone.mono ?_; rintro e w' ⟨rfl, rfl⟩)
  go_ret
  exact ⟨rfl, rfl⟩
theorem NoneAt.room (h : NoneAt w p) : Calls Try.prog 88 #[.pointer p] w fun e w' => e = .returned (.int .i64 0) ∧ w = w' := by
  go_enter Try.func88, Try.ntmps88
  go_wp2_with (go_at_call 53; refine h.size.mono ?_; rintro e w' ⟨rfl, rfl⟩)
  go_ret
  exact ⟨rfl, rfl⟩
theorem NoneAt.wrong (h : NoneAt w p) (i : Int) : Calls Try.prog 98 #[.pointer p, .int .i64 i] w fun e w' => e = .returned (.int .i64 1) ∧ w = w' := by
  go_enter Try.func98, Try.ntmps98
  go_wp2_with (go_at_call 96; refine h.isNone.mono ?_; rintro e w' ⟨rfl, rfl⟩)
  go_ret
  exact ⟨rfl, rfl⟩
theorem NoneAt.get (h : NoneAt w p) (i : Int) : Calls Try.prog 60 #[.pointer p, .int .i64 i] w fun e w' => e = .returned (.tuple #[.int .i64 0, .int .i64 1]) ∧ w = w' := by
  go_enter Try.func60, Try.ntmps60
  go_wp2_with (go_at_call 98; refine (h.wrong i).mono ?_; rintro e w' ⟨rfl, rfl⟩)
  go_ret2
  exact ⟨rfl, rfl⟩
theorem NoneAt.set (h : NoneAt w p) (i v : Int) : Calls Try.prog 56 #[.pointer p, .int .i64 i, .int .i64 v] w fun e w' => e = .returned (.int .i64 1) ∧ w = w' := by
  go_enter Try.func56, Try.ntmps56
  go_wp2_with (go_at_call 98; refine (h.wrong i).mono ?_; rintro e w' ⟨rfl, rfl⟩)
  go_ret
  exact ⟨rfl, rfl⟩
theorem NoneAt.bytes (h : NoneAt w p) : Calls Try.prog 55 #[.pointer p] w fun e w' => ∃ x, e = .returned (.slice x 0 0) ∧ Upd [] w w' := by
  obtain ⟨M, hmk⟩ : ∃ M, ∀ W, (Instr.makeSlice 103 (.int .i64 0) (.int .i64 0)).run Try.prog W = .ok (.slice (some ⟨W.heap.size, 0, none⟩) 0 0) (W.alloc (.cells M 5)) :=
    ⟨_, fun W => run_make_cap 103 5 (.int .u8 0) 1 Try.underlying103 info8u rfl .i64 .i64 0 (by omega) (by omega) W⟩
  have S := Lib.hid (fun W (hu : Upd [] w W) => (h.upd hu).size)
  have D := Lib.hid (fun W (hu : Upd [] w W) => (h.upd hu).width)
  have hu := (Upd.refl [] w).alloc (.cells M 5)
  go_enter Try.func55, Try.ntmps55
  go_wp2_with (first
    | (go_at_call 53; refine (S.out _ (Upd.refl _ _)).mono ?_; rintro e w' ⟨rfl, rfl⟩)
    | (go_at_call 53; refine (S.out _ hu).mono ?_; rintro e w' ⟨rfl, rfl⟩)
    | (go_at_call 92; refine (D.out _ (Upd.refl _ _)).mono ?_; rintro e w' ⟨rfl, rfl⟩))
  go_loopw [3, 15] (fun o i wr => (∃ x, o = .slice x 0 0) ∧ i = .int .i64 0 ∧ Upd [] w wr) (fun _ i _ => (intOf i).toNat)
  case atStart => exact ⟨⟨_, rfl⟩, rfl, hu⟩
  case round =>
    obtain ⟨⟨x, rfl⟩, rfl, hu'⟩ := hrel
    go_wp2_with fail
    go_ret
    exact ⟨_, rfl, hu'⟩
theorem NoneAt.all (h : NoneAt w p) (f : Nat → Int) : Calls Try.prog 54 #[.pointer p] w (AllV w 0 f) := by
  obtain ⟨M, hM, hmk⟩ : ∃ M, M = madeCells #[.int .i64 0] 0 ∧ ∀ W, (Instr.makeSlice 42 (.int .i64 0) (.int .i64 0)).run Try.prog W = .ok (.slice (some ⟨W.heap.size, 0, none⟩) 0 0) (W.alloc (.cells M 3)) :=
    ⟨_, rfl, fun W => run_make_row' (P := Try.prog) 42 3 (.int .i64 0) 8 Try.underlying42 info64 rfl .i64 .i64 0 (by omega) (by omega) W⟩
  have hr0 := World.rowIs_made w (.int .i64 0) 0 3
  rw [← hM] at hr0
  clear hM
  have hr := hr0.alloc (.cells #[.slice (some ⟨w.heap.size, 0, none⟩) 0 0] 42)
  have hT := Blk.new1 w (.cells M 3) 42 [.slice (some ⟨w.heap.size, 0, none⟩) 0 0]
  have hU := ((Upd.refl [] w).alloc (.cells M 3)).alloc (.cells #[.slice (some ⟨w.heap.size, 0, none⟩) 0 0] 42)
  go_enter Try.func54, Try.ntmps54
  go_wp2_with (go_at_call 53; refine h.size.mono ?_; rintro e w1 ⟨rfl, rfl⟩)
  generalize (w.alloc _).alloc _ = W at *
  go_loopw [10] (fun i wr => i = .int .i64 0 ∧ W = wr) (fun i _ => (intOf i).toNat)
  case atStart => exact ⟨rfl, rfl⟩
  case round =>
    obtain ⟨rfl, rfl⟩ := hrel
    go_wp2_with fail
    go_ret
    exact ⟨_, _, rfl, ⟨hT, hr.congr (fun i hi => by omega)⟩, by omega, by omega, hU⟩

theorem refRoom_zero (w : World) : Calls Try.prog 91 #[.int .i64 0] w fun e w' => e = .returned (.int .i64 0) ∧ w = w' := refRoom_out 0 w (by omega)

theorem NoneAt.alike (h : NoneAt w p) :
    Calls Try.prog 51 #[.pointer p, .agg #[.int .i64 0, .slice none 0 0]] w (OkV w) := by
  have hb := Blk.new w 94 [.int .i64 0, .slice none 0 0]
  have hu := (Upd.refl [] w).alloc (.cells #[.int .i64 0, .slice none 0 0] 94)
  have h := Lib.hid (h.upd hu)
  go_enter Try.func51, Try.ntmps51
  go_wp2_with fail
  have c0 := hb.later (i := 0) rfl
  have c1 := hb.later (i := 1) rfl
  generalize w.alloc _ = W at *
  refine wp_region_calm (by kernel_rfl) (by kernel_rfl) ?_
  repeat (first | go_big_quiet_skip | (go_big_quiet_want; refine quiet_ex ?_; apply Exists.intro; refine ⟨fun wq hwq => ?_, ?_⟩; ((try go_simp); first | exact rfl | (first | (go_at_call 90; exact Calls.calm_same hwq (h.out.upd hwq).log) | (go_at_call 91; exact Calls.calm_same hwq (refRoom_zero _)) | (go_at_call 93; exact Calls.calm_same hwq (refWidth_zero _)) | (go_at_call 53; exact Calls.calm_same hwq (h.out.upd hwq).size) | (go_at_call 88; exact Calls.calm_same hwq (h.out.upd hwq).room) | (go_at_call 92; exact Calls.calm_same hwq (h.out.upd hwq).width))); ((try go_simp); go_big_quiet_on)))
  refine wpQuiet_nil ?_
  intro wq hwq
  go_wp2_with fail
  go_ret
  exact ⟨rfl, hu.then hwq⟩

theorem eqlPtrNil (w : World) : (binOp .eql 90 (.pointer none) (.pointer none)).run Try.prog w = .ok (.bool true) w := by kernel_rfl

theorem cellsNothing_walk (i v : Int) (w : World) (_ : (Lit.int .i64 i).wf = true) (_ : (Lit.int .i64 v).wf = true) :
    Calls Try.prog 14 #[.int .i64 i, .int .i64 v] w (OkV w) := by
  have hz := (Blk.new w 115 [.int .i64 0, .nilIface]).alloc (.cells #[.pointer none, .pointer (some ⟨w.heap.size, 0, none⟩)] 90)
  have hl := Blk.new1 w (.cells #[.int .i64 0, .nilIface] 115) 90 [.pointer none, .pointer (some ⟨w.heap.size, 0, none⟩)]
  have hu := ((Upd.refl [] w).alloc (.cells #[.int .i64 0, .nilIface] 115)).alloc (.cells #[.pointer none, .pointer (some ⟨w.heap.size, 0, none⟩)] 90)
  have hq := eqlNilSeq2
  have hqq := eqlNilSeq2'
  go_enter Try.func14, Try.ntmps14
  go_wp2_with fail
  obtain ⟨Z, hZ⟩ : ∃ Z, Z = w.heap.size := ⟨_, rfl⟩
  rw [← hZ] at hz hl hu ⊢
  clear hZ
  generalize (w.alloc _).alloc _ = W at *
  go_loopw [7] (fun i wr => ∃ k : Nat, k ≤ 2 ∧ i = .int .i64 k ∧ Upd [] W wr) (fun i _ => 2 - (intOf i).toNat)
  case atStart => exact ⟨0, by omega, rfl, Upd.refl _ _⟩
  case round =>
    obtain ⟨k, hk, rfl, hu'⟩ := hrel
    by_cases hlt : k < 2
    · have hlr := hl.upd hu' (by simp)
      have key : ∃ q, wr.cell? ⟨Z + 1, k, none⟩ = some (.pointer q) ∧ Hid (NoneAt wr q) := by
        rcases (by omega : k = 0 ∨ k = 1) with rfl | rfl
        · exact ⟨none, hlr.cell (i := 0) rfl, Lib.hid (.inl rfl)⟩
        · exact ⟨_, hlr.cell (i := 1) rfl, Lib.hid (.inr ⟨Z, rfl, hz.upd hu' (by simp)⟩)⟩
      obtain ⟨q, cq, hN⟩ := key
      have hk2 : (k : Int) < 2 := by omega
      clear hlr
      go_wp2_with (first
        | (go_at_call 60; refine (hN.out.get i).mono ?_; rintro e w1 ⟨rfl, rfl⟩)
        | (go_at_call 54; refine (hN.out.all (fun _ => 0)).mono ?_; rintro e w2 ⟨B, G, rfl, hA, _, _, hu2⟩; have hN2 := Lib.hid (hN.out.upd hu2); have hU2 := hu'.then hu2; have hA2 := Lib.hid hA; clear hA)
        | (go_at_call 56; refine (hN2.out.set i v).mono ?_; rintro e w3 ⟨rfl, rfl⟩)
        | (go_at_call 51; refine hN2.out.alike.mono ?_; rintro e w4 ⟨rfl, hu4⟩; have hN4 := Lib.hid (hN2.out.upd hu4); have hU4 := hU2.then hu4; have hA4 := Lib.hid (hA2.out.upd hu4 (by simp) (by simp)))
        | (go_at_call 55; refine hN4.out.bytes.mono ?_; rintro e w5 ⟨x, rfl, hu5⟩; have hU5 := hU4.then hu5; have hA5 := Lib.hid (hA4.out.upd hu5 (by simp) (by simp)))
        | (go_at_call 57; refine (goes_any _ none 0 0 (fun _ => 0) 0 (by omega) (.inl rfl) hA5.out).mono ?_; rintro e w6 ⟨rfl, hu6⟩; have hU6 := hU5.then hu6))
      go_roundw
      case rel => exact ⟨k + 1, by omega, by go_num, hU6⟩
      case measure => simp [intOf]; omega
    · go_wp2_with (go_at_call 48; refine (awake6 _).mono ?_; rintro e w3 ⟨rfl, hu3⟩)
      go_ret
      exact ⟨rfl, (hu.then hu').then hu3⟩
end Go.Proofs.Ytnaeehnnjhklbaa
