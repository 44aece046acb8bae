/- The walk of MeterTwo. -/
import Derived.Test.YtnaeehnnjhklbaaMeterLaws
namespace Go.Proofs.Ytnaeehnnjhklbaa
open Go.RowKit

set_option maxHeartbeats 4000000 in
theorem meterTwo_walk (a1 : Option Addr) (len1 cap1 : Nat) (l1 : List (Int × Int)) (a2 : Option Addr) (len2 cap2 : Nat) (l2 : List (Int × Int)) (w : World) (hl1 : IsSteps w a1 len1 l1) (hl2 : IsSteps w a2 len2 l2) :
    Calls Try.prog 4 #[.slice a1 len1 cap1, .slice a2 len2 cap2] w (OkV w) := by
  obtain ⟨hlen1, hmax1, hl1, _⟩ := hl1
  obtain ⟨hlen2, hmax2, hl2, _⟩ := hl2
  unfold maxLen at hmax1 hmax2
  by_cases hbig1 : 3000 < len1
  · have hbig' : (3000 : Int) < (len1 : Int) := by omega
    go_enter Try.func4, Try.ntmps4
    go_wp2_with (go_at_call 19; refine (awake4 _).mono ?_; rintro e w' ⟨rfl, hu⟩)
    go_ret
    exact ⟨rfl, hu⟩
  have hbig1' : ¬ (3000 : Int) < (len1 : Int) := by omega
  by_cases hbig2 : 3000 < len2
  · have hbig' : (3000 : Int) < (len2 : Int) := by omega
    go_enter Try.func4, Try.ntmps4
    go_wp2_with (go_at_call 19; refine (awake4 _).mono ?_; rintro e w' ⟨rfl, hu⟩)
    go_ret
    exact ⟨rfl, hu⟩
  have hbig2' : ¬ (3000 : Int) < (len2 : Int) := by omega
  have k0 := (((Blk.new w 32 Cnt.zero.cells).alloc (.cells Cnt.zero.cells.toArray 32)).alloc (.cells Cnt.zero.cells.toArray 34)).alloc (.cells Cnt.zero.cells.toArray 34)
  have k1 := ((Blk.new1 w (.cells Cnt.zero.cells.toArray 32) 32 Cnt.zero.cells).alloc (.cells Cnt.zero.cells.toArray 34)).alloc (.cells Cnt.zero.cells.toArray 34)
  have k2 := (Blk.new2 w (.cells Cnt.zero.cells.toArray 32) (.cells Cnt.zero.cells.toArray 32) 34 Cnt.zero.cells).alloc (.cells Cnt.zero.cells.toArray 34)
  have k3 := Blk.new3 w (.cells Cnt.zero.cells.toArray 32) (.cells Cnt.zero.cells.toArray 32) (.cells Cnt.zero.cells.toArray 34) 34 Cnt.zero.cells
  have hu := ((((Upd.refl [] w).alloc (.cells Cnt.zero.cells.toArray 32)).alloc (.cells Cnt.zero.cells.toArray 32)).alloc (.cells Cnt.zero.cells.toArray 34)).alloc (.cells Cnt.zero.cells.toArray 34)
  go_enter Try.func4, Try.ntmps4
  go_wp2_with fail
  go_loopw [9, 10, 11] (fun i _ _ wr => ∃ (k : Nat) (q1 q2 : Cnt), (k ≤ len1 ∨ k ≤ len2) ∧ i = .int .i64 k ∧ Blk wr w.heap.size 32 q1.cells ∧ Blk wr (w.heap.size + 1) 32 q2.cells ∧ Blk wr (w.heap.size + 1 + 1) 34 q1.cells ∧ Blk wr (w.heap.size + 1 + 1 + 1) 34 q2.cells ∧ Upd [] w wr)
    (fun i _ _ _ => len1 + len2 - (intOf i).toNat)
  case atStart => exact ⟨0, Cnt.zero, Cnt.zero, .inl (Nat.zero_le _), rfl, k0, k1, k2, k3, hu⟩
  case round =>
    obtain ⟨k, q1, q2, hk, rfl, ha, hb, hc, hd, hur⟩ := hrel
    clear k0 k1 k2 k3 hu
    by_cases hlt1 : k < len1
    · have g1 : decide (k < len1) = true := by simpa using hlt1
      by_cases hlt2 : k < len2
      · have g2 : decide (k < len2) = true := by simpa using hlt2
        rcases hl1 with rfl | ⟨b1, off1, rfl, hb1, hcell1⟩
        · simp at hlen1; omega
        obtain ⟨x0, x1⟩ := hcell1 k (by omega)
        have y0 := (hur.below.cell (p := ⟨b1, off1 + k * 2, none⟩) hb1).trans x0
        have y1 := (hur.below.cell (p := ⟨b1, off1 + k * 2 + 1, none⟩) hb1).trans x1
        generalize l1[k].1 = kk at y0
        generalize l1[k].2 = nn at y1
        clear x0 x1 hcell1 hlen1
        have c0 := hc.cell (i := 0) rfl
        have c1 := hc.cell (i := 1) rfl
        have c2 := hc.cell (i := 2) rfl
        have c3 := hc.cell (i := 3) rfl
        have f0 := hc.free
        go_wp2_with fail
        go_region_with (go_at_call 20; refine (does_any (some ⟨w.heap.size, 0, none⟩) q1 kk nn _ (by exact ⟨_, rfl, ha.drew⟩) (by simp)).mono ?_; rintro e w1 ⟨rfl, hm1, hu1⟩; have hc1 := hc.drew.upd hu1 (by simp [Met.fp] <;> omega); have c0 := hc1.cell (i := 0) rfl; have c1 := hc1.cell (i := 1) rfl; have c2 := hc1.cell (i := 2) rfl; have c3 := hc1.cell (i := 3) rfl; have f0 := hc1.free)
        all_goals
          obtain ⟨bm, em, hm1⟩ := hm1
          obtain rfl : w.heap.size = bm := by simpa using em
          replace hb := (hb.drew.upd hu1 (by simp [Met.fp] <;> omega)).other4 (d := (w.heap.size + 1 + 1)) (by omega) (.int .i64 (q1.step kk nn).t) (.int .i64 (q1.step kk nn).v) (.int .i64 (q1.step kk nn).c) (.int .i64 (q1.step kk nn).s)
          replace hd := (hd.drew.upd hu1 (by simp [Met.fp] <;> omega)).other4 (d := (w.heap.size + 1 + 1)) (by omega) (.int .i64 (q1.step kk nn).t) (.int .i64 (q1.step kk nn).v) (.int .i64 (q1.step kk nn).c) (.int .i64 (q1.step kk nn).s)
          replace ha := hm1.other4 (d := (w.heap.size + 1 + 1)) (by omega) (.int .i64 (q1.step kk nn).t) (.int .i64 (q1.step kk nn).v) (.int .i64 (q1.step kk nn).c) (.int .i64 (q1.step kk nn).s)
          replace hc := hc1.set4 (.int .i64 (q1.step kk nn).t) (.int .i64 (q1.step kk nn).v) (.int .i64 (q1.step kk nn).c) (.int .i64 (q1.step kk nn).s)
          replace hur := (hur.drew.trans hu1 (by simp [Met.fp] <;> omega)).set4 (d := (w.heap.size + 1 + 1)) (.inr (by omega)) (.int .i64 (q1.step kk nn).t) (.int .i64 (q1.step kk nn).v) (.int .i64 (q1.step kk nn).c) (.int .i64 (q1.step kk nn).s)
          clear em hm1 hc1 hu1
          rcases hl2 with rfl | ⟨b2, off2, rfl, hb2, hcell2⟩
          · simp at hlen2; omega
          obtain ⟨x0, x1⟩ := hcell2 k (by omega)
          have y0 := (hur.below.cell (p := ⟨b2, off2 + k * 2, none⟩) hb2).trans x0
          have y1 := (hur.below.cell (p := ⟨b2, off2 + k * 2 + 1, none⟩) hb2).trans x1
          generalize l2[k].1 = kk at y0
          generalize l2[k].2 = nn at y1
          clear x0 x1 hcell2 hlen2
          have c0 := hd.cell (i := 0) rfl
          have c1 := hd.cell (i := 1) rfl
          have c2 := hd.cell (i := 2) rfl
          have c3 := hd.cell (i := 3) rfl
          have f0 := hd.free
          go_wp2_with fail
          go_region_with (go_at_call 20; refine (does_any (some ⟨(w.heap.size + 1), 0, none⟩) q2 kk nn _ (by exact ⟨_, rfl, hb.drew⟩) (by simp)).mono ?_; rintro e w1 ⟨rfl, hm1, hu1⟩; have hc1 := hd.drew.upd hu1 (by simp [Met.fp] <;> omega); have c0 := hc1.cell (i := 0) rfl; have c1 := hc1.cell (i := 1) rfl; have c2 := hc1.cell (i := 2) rfl; have c3 := hc1.cell (i := 3) rfl; have f0 := hc1.free)
          all_goals
            obtain ⟨bm, em, hm1⟩ := hm1
            obtain rfl : (w.heap.size + 1) = bm := by simpa using em
            replace ha := (ha.drew.upd hu1 (by simp [Met.fp] <;> omega)).other4 (d := (w.heap.size + 1 + 1 + 1)) (by omega) (.int .i64 (q2.step kk nn).t) (.int .i64 (q2.step kk nn).v) (.int .i64 (q2.step kk nn).c) (.int .i64 (q2.step kk nn).s)
            replace hc := (hc.drew.upd hu1 (by simp [Met.fp] <;> omega)).other4 (d := (w.heap.size + 1 + 1 + 1)) (by omega) (.int .i64 (q2.step kk nn).t) (.int .i64 (q2.step kk nn).v) (.int .i64 (q2.step kk nn).c) (.int .i64 (q2.step kk nn).s)
            replace hb := hm1.other4 (d := (w.heap.size + 1 + 1 + 1)) (by omega) (.int .i64 (q2.step kk nn).t) (.int .i64 (q2.step kk nn).v) (.int .i64 (q2.step kk nn).c) (.int .i64 (q2.step kk nn).s)
            replace hd := hc1.set4 (.int .i64 (q2.step kk nn).t) (.int .i64 (q2.step kk nn).v) (.int .i64 (q2.step kk nn).c) (.int .i64 (q2.step kk nn).s)
            replace hur := (hur.drew.trans hu1 (by simp [Met.fp] <;> omega)).set4 (d := (w.heap.size + 1 + 1 + 1)) (.inr (by omega)) (.int .i64 (q2.step kk nn).t) (.int .i64 (q2.step kk nn).v) (.int .i64 (q2.step kk nn).c) (.int .i64 (q2.step kk nn).s)
            clear em hm1 hc1 hu1
            go_wp2_with fail
            go_roundw
            case rel => exact ⟨k + 1, _, _, by omega, by go_num, ha, hb, hc, hd, hur⟩
            case measure => simp [intOf]; omega
      · have g2 : decide (k < len2) = false := by simpa using hlt2
        rcases hl1 with rfl | ⟨b1, off1, rfl, hb1, hcell1⟩
        · simp at hlen1; omega
        obtain ⟨x0, x1⟩ := hcell1 k (by omega)
        have y0 := (hur.below.cell (p := ⟨b1, off1 + k * 2, none⟩) hb1).trans x0
        have y1 := (hur.below.cell (p := ⟨b1, off1 + k * 2 + 1, none⟩) hb1).trans x1
        generalize l1[k].1 = kk at y0
        generalize l1[k].2 = nn at y1
        clear x0 x1 hcell1 hlen1
        have c0 := hc.cell (i := 0) rfl
        have c1 := hc.cell (i := 1) rfl
        have c2 := hc.cell (i := 2) rfl
        have c3 := hc.cell (i := 3) rfl
        have f0 := hc.free
        go_wp2_with fail
        go_region_with (go_at_call 20; refine (does_any (some ⟨w.heap.size, 0, none⟩) q1 kk nn _ (by exact ⟨_, rfl, ha.drew⟩) (by simp)).mono ?_; rintro e w1 ⟨rfl, hm1, hu1⟩; have hc1 := hc.drew.upd hu1 (by simp [Met.fp] <;> omega); have c0 := hc1.cell (i := 0) rfl; have c1 := hc1.cell (i := 1) rfl; have c2 := hc1.cell (i := 2) rfl; have c3 := hc1.cell (i := 3) rfl; have f0 := hc1.free)
        all_goals
          obtain ⟨bm, em, hm1⟩ := hm1
          obtain rfl : w.heap.size = bm := by simpa using em
          replace hb := (hb.drew.upd hu1 (by simp [Met.fp] <;> omega)).other4 (d := (w.heap.size + 1 + 1)) (by omega) (.int .i64 (q1.step kk nn).t) (.int .i64 (q1.step kk nn).v) (.int .i64 (q1.step kk nn).c) (.int .i64 (q1.step kk nn).s)
          replace hd := (hd.drew.upd hu1 (by simp [Met.fp] <;> omega)).other4 (d := (w.heap.size + 1 + 1)) (by omega) (.int .i64 (q1.step kk nn).t) (.int .i64 (q1.step kk nn).v) (.int .i64 (q1.step kk nn).c) (.int .i64 (q1.step kk nn).s)
          replace ha := hm1.other4 (d := (w.heap.size + 1 + 1)) (by omega) (.int .i64 (q1.step kk nn).t) (.int .i64 (q1.step kk nn).v) (.int .i64 (q1.step kk nn).c) (.int .i64 (q1.step kk nn).s)
          replace hc := hc1.set4 (.int .i64 (q1.step kk nn).t) (.int .i64 (q1.step kk nn).v) (.int .i64 (q1.step kk nn).c) (.int .i64 (q1.step kk nn).s)
          replace hur := (hur.drew.trans hu1 (by simp [Met.fp] <;> omega)).set4 (d := (w.heap.size + 1 + 1)) (.inr (by omega)) (.int .i64 (q1.step kk nn).t) (.int .i64 (q1.step kk nn).v) (.int .i64 (q1.step kk nn).c) (.int .i64 (q1.step kk nn).s)
          clear em hm1 hc1 hu1
          go_wp2_with fail
          go_roundw
          case rel => exact ⟨k + 1, _, _, by omega, by go_num, ha, hb, hc, hd, hur⟩
          case measure => simp [intOf]; omega
    · have g1 : decide (k < len1) = false := by simpa using hlt1
      by_cases hlt2 : k < len2
      · have g2 : decide (k < len2) = true := by simpa using hlt2
        rcases hl2 with rfl | ⟨b2, off2, rfl, hb2, hcell2⟩
        · simp at hlen2; omega
        obtain ⟨x0, x1⟩ := hcell2 k (by omega)
        have y0 := (hur.below.cell (p := ⟨b2, off2 + k * 2, none⟩) hb2).trans x0
        have y1 := (hur.below.cell (p := ⟨b2, off2 + k * 2 + 1, none⟩) hb2).trans x1
        generalize l2[k].1 = kk at y0
        generalize l2[k].2 = nn at y1
        clear x0 x1 hcell2 hlen2
        have c0 := hd.cell (i := 0) rfl
        have c1 := hd.cell (i := 1) rfl
        have c2 := hd.cell (i := 2) rfl
        have c3 := hd.cell (i := 3) rfl
        have f0 := hd.free
        go_wp2_with fail
        go_region_with (go_at_call 20; refine (does_any (some ⟨(w.heap.size + 1), 0, none⟩) q2 kk nn _ (by exact ⟨_, rfl, hb.drew⟩) (by simp)).mono ?_; rintro e w1 ⟨rfl, hm1, hu1⟩; have hc1 := hd.drew.upd hu1 (by simp [Met.fp] <;> omega); have c0 := hc1.cell (i := 0) rfl; have c1 := hc1.cell (i := 1) rfl; have c2 := hc1.cell (i := 2) rfl; have c3 := hc1.cell (i := 3) rfl; have f0 := hc1.free)
        all_goals
          obtain ⟨bm, em, hm1⟩ := hm1
          obtain rfl : (w.heap.size + 1) = bm := by simpa using em
          replace ha := (ha.drew.upd hu1 (by simp [Met.fp] <;> omega)).other4 (d := (w.heap.size + 1 + 1 + 1)) (by omega) (.int .i64 (q2.step kk nn).t) (.int .i64 (q2.step kk nn).v) (.int .i64 (q2.step kk nn).c) (.int .i64 (q2.step kk nn).s)
          replace hc := (hc.drew.upd hu1 (by simp [Met.fp] <;> omega)).other4 (d := (w.heap.size + 1 + 1 + 1)) (by omega) (.int .i64 (q2.step kk nn).t) (.int .i64 (q2.step kk nn).v) (.int .i64 (q2.step kk nn).c) (.int .i64 (q2.step kk nn).s)
          replace hb := hm1.other4 (d := (w.heap.size + 1 + 1 + 1)) (by omega) (.int .i64 (q2.step kk nn).t) (.int .i64 (q2.step kk nn).v) (.int .i64 (q2.step kk nn).c) (.int .i64 (q2.step kk nn).s)
          replace hd := hc1.set4 (.int .i64 (q2.step kk nn).t) (.int .i64 (q2.step kk nn).v) (.int .i64 (q2.step kk nn).c) (.int .i64 (q2.step kk nn).s)
          replace hur := (hur.drew.trans hu1 (by simp [Met.fp] <;> omega)).set4 (d := (w.heap.size + 1 + 1 + 1)) (.inr (by omega)) (.int .i64 (q2.step kk nn).t) (.int .i64 (q2.step kk nn).v) (.int .i64 (q2.step kk nn).c) (.int .i64 (q2.step kk nn).s)
          clear em hm1 hc1 hu1
          go_wp2_with fail
          go_roundw
          case rel => exact ⟨k + 1, _, _, by omega, by go_num, ha, hb, hc, hd, hur⟩
          case measure => simp [intOf]; omega
      · have g2 : decide (k < len2) = false := by simpa using hlt2
        have c0 := hc.cell (i := 0) rfl
        have c1 := hc.cell (i := 1) rfl
        have c2 := hc.cell (i := 2) rfl
        have c3 := hc.cell (i := 3) rfl
        have d0 := hd.cell (i := 0) rfl
        have d1 := hd.cell (i := 1) rfl
        have d2 := hd.cell (i := 2) rfl
        have d3 := hd.cell (i := 3) rfl
        go_wp2_with fail
        go_region_with (first | (go_at_call 22; refine (read_some _ _ _ (by exact ha.drew)).mono ?_; rintro e w1 ⟨rfl, hu1⟩; have hc1 := hc.drew.upd hu1 (by simp); have hd1 := hd.drew.upd hu1 (by simp); have c0 := hc1.cell (i := 0) rfl; have c1 := hc1.cell (i := 1) rfl; have c2 := hc1.cell (i := 2) rfl; have c3 := hc1.cell (i := 3) rfl; have d0 := hd1.cell (i := 0) rfl; have d1 := hd1.cell (i := 1) rfl; have d2 := hd1.cell (i := 2) rfl; have d3 := hd1.cell (i := 3) rfl; skip) | (go_at_call 22; refine (read_some _ _ _ (by exact hb.drew.upd hu1 (by simp))).mono ?_; rintro e w2 ⟨rfl, hu2⟩; have hd2 := hd1.upd hu2 (by simp); have d0 := hd2.cell (i := 0) rfl; have d1 := hd2.cell (i := 1) rfl; have d2 := hd2.cell (i := 2) rfl; have d3 := hd2.cell (i := 3) rfl; skip) | (go_at_call 19; refine (awake4 _).mono ?_; rintro e w3 ⟨rfl, hu3⟩))
        all_goals
          go_wp2_with fail
          go_ret
          exact ⟨rfl, ((hur.drew.nil hu1).nil hu2).nil hu3⟩
end Go.Proofs.Ytnaeehnnjhklbaa
