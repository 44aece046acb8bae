/- The walks of the laws of meter. -/
import Derived.Test.YtnaeehnnjhklbaaMeterDoes
import Derived.Test.YtnaeehnnjhklbaaOpen
namespace Go.Proofs.Ytnaeehnnjhklbaa
open Go.RowKit

def OkV (w : World) (e : Ending) (w' : World) : Prop := e = .returned (.bool true) ∧ Upd [] w w'

theorem awake4 (w : World) : Calls Try.prog 19 #[] w (OkV w) := by
  have hb := Blk.new w 32 Cnt.zero.cells
  have hu := (Upd.refl [w.heap.size] w).alloc (.cells Cnt.zero.cells.toArray 32)
  go_enter Try.func19, Try.ntmps19
  go_wp2_with fail
  refine (table_any (some ⟨w.heap.size, 0, none⟩) Cnt.zero _ ⟨_, rfl, hb⟩).mono ?_
  rintro e w1 ⟨rfl, hm, hu1⟩
  go_wp2_with fail
  refine (visit_any (some ⟨w.heap.size, 0, none⟩) _ 3 _ hm).mono ?_
  rintro e w2 ⟨rfl, hm2, hu2⟩
  have hq : (Cnt.zero.add 0 1).add 1 3 = ⟨1, 3, 0, 0⟩ := by simp [Cnt.add, bump, Counts, Cnt.zero, wrap64]
  rw [hq] at hm2
  clear hq
  go_wp2_with fail
  refine (read_any (some ⟨w.heap.size, 0, none⟩) _ _ hm2 (by simp)).mono ?_
  rintro e w3 ⟨rfl, hu3⟩
  go_wp2_with fail
  go_ret
  refine ⟨rfl, ?_⟩
  have h := (((Upd.refl [w.heap.size] w).alloc (.cells Cnt.zero.cells.toArray 32)).then hu1).then hu2 |>.nil hu3
  exact ⟨h.os, h.tape, h.output, h.size, fun k hk _ => h.block k hk (by simp; omega)⟩

set_option maxHeartbeats 2000000 in
theorem meterPlays_walk (a : Option Addr) (len cap : Nat) (l : List (Int × Int)) (w : World) (hl : IsSteps w a len l) :
    Calls Try.prog 3 #[.slice a len cap] w (OkV w) := by
  obtain ⟨hlen, hmax, hl, _⟩ := hl
  unfold maxLen at hmax
  by_cases hbig : 3000 < len
  · have hbig' : (3000 : Int) < (len : Int) := by omega
    go_enter Try.func3, Try.ntmps3
    go_wp2_with (go_at_call 19; refine (awake4 _).mono ?_; rintro e w' ⟨rfl, hu⟩)
    go_ret
    exact ⟨rfl, hu⟩
  have hbig' : ¬ (3000 : Int) < (len : Int) := by omega
  have k0 := (Blk.new w 32 Cnt.zero.cells).alloc (.cells Cnt.zero.cells.toArray 34)
  have k1 := Blk.new1 w (.cells Cnt.zero.cells.toArray 32) 34 Cnt.zero.cells
  have hu := ((Upd.refl [] w).alloc (.cells Cnt.zero.cells.toArray 32)).alloc (.cells Cnt.zero.cells.toArray 34)
  go_enter Try.func3, Try.ntmps3
  go_wp2_with fail
  go_loopw [5, 6] (fun i o wr => ∃ (k : Nat) (q : Cnt), k ≤ len ∧ i = .int .i64 k ∧ Blk wr w.heap.size 32 q.cells ∧ Blk wr (w.heap.size + 1) 34 q.cells ∧ Upd [] w wr)
    (fun i _ _ => len - (intOf i).toNat)
  case atStart => exact ⟨0, Cnt.zero, Nat.zero_le _, rfl, k0, k1, hu⟩
  case round =>
    obtain ⟨k, q, hk, rfl, hm, hc, hur⟩ := hrel
    clear k0 k1 hu
    by_cases hlt : k < len
    · rcases hl with rfl | ⟨b, off, rfl, hb, hcell⟩
      · simp at hlen; omega
      obtain ⟨x0, x1⟩ := hcell k (by omega)
      have y0 := (hur.below.cell (p := ⟨b, off + k * 2, none⟩) hb).trans x0
      have y1 := (hur.below.cell (p := ⟨b, off + k * 2 + 1, none⟩) hb).trans x1
      generalize l[k].1 = kk at y0
      generalize l[k].2 = nn at y1
      clear x0 x1 hcell hlen
      have c0 := hc.cell (i := 0) rfl
      have c1 := hc.cell (i := 1) rfl
      have c2 := hc.cell (i := 2) rfl
      have c3 := hc.cell (i := 3) rfl
      have f0 := hc.free
      go_wp2_with fail
      go_region_with (go_at_call 20; refine (does_any (some ⟨w.heap.size, 0, none⟩) q kk nn _ (by exact ⟨_, rfl, hm.drew⟩) (by simp)).mono ?_; rintro e w1 ⟨rfl, hm1, hu1⟩; have hc1 := hc.drew.upd hu1 (by simp [Met.fp]); have c0 := hc1.cell (i := 0) rfl; have c1 := hc1.cell (i := 1) rfl; have c2 := hc1.cell (i := 2) rfl; have c3 := hc1.cell (i := 3) rfl; have f0 := hc1.free)
      all_goals
        obtain ⟨bm, em, hm1⟩ := hm1
        obtain rfl : w.heap.size = bm := by simpa using em
        have hmE := hm1.other4 (d := w.heap.size + 1) (by omega) (.int .i64 (q.step kk nn).t) (.int .i64 (q.step kk nn).v) (.int .i64 (q.step kk nn).c) (.int .i64 (q.step kk nn).s)
        have hcE := hc1.set4 (.int .i64 (q.step kk nn).t) (.int .i64 (q.step kk nn).v) (.int .i64 (q.step kk nn).c) (.int .i64 (q.step kk nn).s)
        have huE := (hur.drew.trans hu1 (by simp [Met.fp])).set4 (d := w.heap.size + 1) (.inr (by omega)) (.int .i64 (q.step kk nn).t) (.int .i64 (q.step kk nn).v) (.int .i64 (q.step kk nn).c) (.int .i64 (q.step kk nn).s)
        clear em hm1 hc1 hu1 hur hm hc
        go_wp2_with fail
        go_roundw
        case rel => exact ⟨k + 1, q.step kk nn, by omega, by go_num, hmE, hcE, huE⟩
        case measure => simp [intOf]; omega
    · have c0 := hc.cell (i := 0) rfl
      have c1 := hc.cell (i := 1) rfl
      have c2 := hc.cell (i := 2) rfl
      have c3 := hc.cell (i := 3) rfl
      go_wp2_with fail
      go_region_with (first | (go_at_call 21; refine (take_any (some ⟨w.heap.size, 0, none⟩) q _ (by exact ⟨_, rfl, hm.drew⟩) (by simp)).mono ?_; rintro e w1 ⟨rfl, hm1, hu1⟩; have hc1 := hc.drew.upd hu1 (by simp [Met.fp]); have c0 := hc1.cell (i := 0) rfl; have c1 := hc1.cell (i := 1) rfl; have c2 := hc1.cell (i := 2) rfl; have c3 := hc1.cell (i := 3) rfl) | (go_at_call 22; refine (read_any (some ⟨w.heap.size, 0, none⟩) Cnt.zero _ (by exact hm1) (by simp)).mono ?_; rintro e w2 ⟨rfl, hu2⟩) | (go_at_call 19; refine (awake4 _).mono ?_; rintro e w3 ⟨rfl, hu3⟩))
      all_goals
        go_wp2_with fail
        go_ret
        exact ⟨rfl, ((hur.drew.trans hu1 (by simp [Met.fp])).nil hu2).nil hu3⟩

set_option maxHeartbeats 2000000 in
theorem meterNothing_walk (a : Option Addr) (len cap : Nat) (l : List (Int × Int)) (w : World) (hl : IsSteps w a len l) :
    Calls Try.prog 5 #[.slice a len cap] w (OkV w) := by
  obtain ⟨hlen, hmax, hl, _⟩ := hl
  unfold maxLen at hmax
  by_cases hbig : 3000 < len
  · have hbig' : (3000 : Int) < (len : Int) := by omega
    go_enter Try.func5, Try.ntmps5
    go_wp2_with (go_at_call 19; refine (awake4 _).mono ?_; rintro e w' ⟨rfl, hu⟩)
    go_ret
    exact ⟨rfl, hu⟩
  have hbig' : ¬ (3000 : Int) < (len : Int) := by omega
  go_enter Try.func5, Try.ntmps5
  go_wp2_with fail
  go_loopw [4] (fun i wr => ∃ (k : Nat), k ≤ len ∧ i = .int .i64 k ∧ Upd [] w wr)
    (fun i _ => len - (intOf i).toNat)
  case atStart => exact ⟨0, Nat.zero_le _, rfl, Upd.refl _ _⟩
  case round =>
    obtain ⟨k, hk, rfl, hur⟩ := hrel
    by_cases hlt : k < len
    · rcases hl with rfl | ⟨b, off, rfl, hb, hcell⟩
      · simp at hlen; omega
      obtain ⟨x0, x1⟩ := hcell k (by omega)
      have y0 := (hur.below.cell (p := ⟨b, off + k * 2, none⟩) hb).trans x0
      have y1 := (hur.below.cell (p := ⟨b, off + k * 2 + 1, none⟩) hb).trans x1
      generalize l[k].1 = kk at y0
      generalize l[k].2 = nn at y1
      clear x0 x1 hcell hlen
      go_wp2_with fail
      refine (does_any none Cnt.zero kk nn _ trivial (fun _ => rfl)).mono ?_
      rintro e w1 ⟨rfl, hm1, hu1⟩
      have huE := hur.then hu1
      clear hur hu1 hm1
      go_wp2_with fail
      go_roundw
      case rel => exact ⟨k + 1, by omega, by go_num, huE⟩
      case measure => simp [intOf]; omega
    · go_wp2_with (first | (go_at_call 21; refine (take_none _).mono ?_; rintro e w1 ⟨rfl, hu1⟩) | (go_at_call 22; refine (read_none _).mono ?_; rintro e w2 ⟨rfl, hu2⟩) | (go_at_call 19; refine (awake4 _).mono ?_; rintro e w3 ⟨rfl, hu3⟩))
      go_ret
      exact ⟨rfl, ((hur.then hu2).nil hu1).nil hu3⟩
end Go.Proofs.Ytnaeehnnjhklbaa
