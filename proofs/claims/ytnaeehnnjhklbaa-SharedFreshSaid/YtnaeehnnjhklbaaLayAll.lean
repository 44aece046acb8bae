/- The walks of package table: layAll, least. -/
import Derived.Test.YtnaeehnnjhklbaaLay
set_option linter.unusedVariables false
namespace Go.Proofs.Ytnaeehnnjhklbaa
open Go.RowKit

variable {w w' : World} {b : Nat} {v : Value} {cb cg : Nat} {m : Option Addr} {t : Tab} {q : Cnt} {es : List Ent} {L : Nat} {f : Nat → Int} {live births made turns : Int}

theorem may_room {L e : Nat} (h : e < room L) : mayB L (e : Int) = true := by
  have : (e : Int) < (room L : Int) := by omega
  simp [mayB, this]

theorem layAll_any (h : TabM w b v cb cg m es L (fun _ => -1) live births made turns) (hl : ∀ e : Nat, e < es.length → (entOf es (e : Int)).live = true) (hr : es.length ≤ room L) :
    Calls Try.prog 120 #[.pointer (some ⟨b, 0, none⟩)] w fun e w' => e = .returned (.tuple #[]) ∧ CellsAt w' cb cg L (layN L es es.length) ∧ Upd [cg] w w' := by
  have h3 := h.cc.lo
  have hL := h.cc.hi
  have hrm := room_le hL
  have hrl := room_lt L
  have nbg := h.ne_bg
  have ncg := h.ne_cg
  have ngv : ∀ k, v.ownBlock = some k → k ≠ cg := fun k hk => h.ne_gv hk
  have S := Lib.hid (fun (W : World) (k : Nat) (hk : k < es.length) (hc : CellsAt W cb cg L (layN L es k)) (hu : Upd [cg] w W) => by
    have hld := layN_laid L es h3 hL hl k (Nat.le_of_lt hk) (by omega)
    have he := hld.end (entOf es (k : Int)).hash
    have hM : TabM W b v cb cg m es L (layN L es k) live births made turns := ⟨h.blk.upd hu (by simpa using nbg), ownsRow_keep h.row hu (fun j hj => by simpa using ngv j hj), hc⟩
    exact lay_any hM k hk (by omega) (may_room (by omega)) _ he.1 he.2.1 he.2.2)
  have c1 := h.blk.cell (i := 1) rfl
  have HB := Lib.hid (fun (W : World) (hu : Upd [cg] w W) => (h.blk.upd hu (by simpa using nbg)).cell (i := 1) rfl)
  have hc := h.cc
  obtain ⟨va, vc, rfl⟩ := erow_shape h.row
  clear h hl ngv
  generalize hn : es.length = n at *
  clear hn
  go_enter Try.func120, Try.ntmps120
  go_wp2_with fail
  go_loopw [2, 8] (fun _ i wr => ∃ k : Nat, k ≤ n ∧ i = .int .i64 k ∧ Hid (CellsAt wr cb cg L (layN L es k)) ∧ Hid (Upd [cg] w wr)) (fun _ i _ => n - (intOf i).toNat)
  case atStart => exact ⟨0, Nat.zero_le _, rfl, Lib.hid hc, Lib.hid (Upd.refl _ _)⟩
  case round =>
    obtain ⟨k, hk, rfl, HC, HU⟩ := hrel
    by_cases hlt : k < n
    · have hli : (k : Int) < (n : Int) := by omega
      have SS := Lib.hid (S.out wr k hlt HC.out HU.out)
      go_wp2_with (go_at_call 121; refine SS.out.mono ?_; rintro e w1 ⟨rfl, hc1, hu1⟩)
      have HC1 : Hid (CellsAt w1 cb cg L (layN L es (k + 1))) := Lib.hid hc1
      have HU1 := Lib.hid (HU.out.then hu1)
      clear hc1 hu1
      go_roundw
      case rel => exact ⟨k + 1, by omega, by go_num, HC1, HU1⟩
      case measure => simp [intOf]; omega
    · obtain rfl : k = n := by omega
      go_wp2_with fail
      go_end0
      exact ⟨rfl, HC.out, HU.out⟩

/-- Add's closure. -/
theorem add1_any (L : Nat) (B b : Nat) (w : World) (live : Nat) (hL : L ≤ 20) (hlv : live ≤ 1048576) (hB : w.cell? ⟨B, 0, none⟩ = some (.pointer (some ⟨b, 0, none⟩))) (hc : w.cell? ⟨b, 3, none⟩ = some (.int .i64 live)) :
    Calls Try.prog 118 #[.int .i64 L, .pointer (some ⟨B, 0, none⟩)] w fun e w' => e = .returned (.bool (decide (3 * live ≤ 2 ^ L))) ∧ Upd [] w w' := by
  have hw := wrap64_pow hL
  have hp := pow20 hL
  have H0 : ∀ w', Upd [] w w' → w'.cell? ⟨B, 0, none⟩ = some (.pointer (some ⟨b, 0, none⟩)) := fun w' hu => (hu.below.cell (World.block_lt_of_cell? _ _ hB)).trans hB
  have H1 : ∀ w', Upd [] w w' → w'.cell? ⟨b, 3, none⟩ = some (.int .i64 live) := fun w' hu => (hu.below.cell (World.block_lt_of_cell? _ _ hc)).trans hc
  go_enter Try.func118, Try.ntmps118
  go_wp2_with fail
  refine wp_region_calm (by kernel_rfl) (by kernel_rfl) ?_
  repeat (first | go_big_quiet_skip | (go_big_quiet_want; refine quiet_ex ?_; apply Exists.intro; refine ⟨fun wq hwq => ?_, ?_⟩; ((try go_simp); first | exact rfl | (fail)); ((try go_simp); go_big_quiet_on)))
  refine wpQuiet_nil ?_
  intro wq hwq
  go_wp2_with fail
  go_ret
  refine ⟨ret_bool (decide_eq_decide.2 ?_), hwq⟩
  rw [IntKind.wrap_i64, IntKind.wrap_i64]
  have e : ((2 : Int) ^ L) = ((2 ^ L : Nat) : Int) := by simp
  rw [e]
  generalize 2 ^ L = n at *
  omega

theorem least_any (B b : Nat) (w : World) (live : Nat) (hlv : 3 * live ≤ 1048576) (hB : w.cell? ⟨B, 0, none⟩ = some (.pointer (some ⟨b, 0, none⟩))) (hc : w.cell? ⟨b, 3, none⟩ = some (.int .i64 live)) :
    Calls Try.prog 117 #[.func (.func 118) #[] #[.pointer (some ⟨B, 0, none⟩)]] w fun e w' => e = .returned (.int .i64 (logOf (3 * live) : Nat)) ∧ Upd [] w w' := by
  obtain ⟨s3, s20, sle, sno⟩ := logOf_spec (3 * live) hlv
  have H := Lib.hid (fun (W : World) (hu : Upd [] w W) (k : Nat) (hk : k ≤ 20) => add1_any k B b W live hk (by omega) ((hu.below.cell (p := ⟨B, 0, none⟩) (World.block_lt_of_cell? _ _ hB)).trans hB) ((hu.below.cell (p := ⟨b, 3, none⟩) (World.block_lt_of_cell? _ _ hc)).trans hc))
  generalize logOf (3 * live) = G at *
  have SN := Lib.hid sno
  have SL := Lib.hid sle
  clear hB hc sno sle
  go_enter Try.func117, Try.ntmps117
  go_wp2_with fail
  go_loopw [3] (fun i wr => ∃ k : Nat, 3 ≤ k ∧ k ≤ G ∧ i = .int .i64 k ∧ Upd [] w wr) (fun i _ => G - (intOf i).toNat)
  case atStart => exact ⟨3, Nat.le_refl _, s3, rfl, Upd.refl _ _⟩
  case round =>
    obtain ⟨k, h3, hk, rfl, hu⟩ := hrel
    have hk20 : (k : Int) ≤ 20 := by omega
    have HH := Lib.hid (H.out wr hu k (by omega))
    by_cases hlt : k < G
    · have hd : decide (3 * live ≤ 2 ^ k) = false := by simpa using SN.out k h3 hlt
      have HD := Lib.hid hd
      clear hd
      go_wp2_with (go_at_call 118; refine HH.out.mono ?_; rw [HD.out]; rintro e w1 ⟨rfl, hu1⟩)
      have hu2 := hu.then hu1
      go_roundw
      case rel => exact ⟨k + 1, by omega, by omega, by go_num, hu2⟩
      case measure => simp [intOf]; omega
    · obtain rfl : k = G := by omega
      have hd : decide (3 * live ≤ 2 ^ k) = true := by simpa using SL.out
      have HD := Lib.hid hd
      clear hd
      go_wp2_with (go_at_call 118; refine HH.out.mono ?_; rw [HD.out]; rintro e w1 ⟨rfl, hu1⟩)
      go_ret
      exact ⟨rfl, hu.then hu1⟩
end Go.Proofs.Ytnaeehnnjhklbaa
