/- The walks of the document's own Load. -/
import Derived.Test.YtnaeehnnjhklbaaCellsLoad
set_option linter.unusedVariables false
namespace Go.Proofs.Ytnaeehnnjhklbaa
open Go.RowKit

/-- The bytes of cell i, as a number; j of them from below. -/
def lowF (F : Nat → Int) (m i : Nat) : Nat → Int
  | 0 => 0
  | j + 1 => lowF F m i j + F (i * m + j) * 256 ^ j
theorem idx_lt2 {p i m j T n : Nat} (h : i = p + j) (hj : j < m) (hT : p + m ≤ T) (hn : n = T) : i < n := by omega
theorem mul8 {j m : Nat} (hj : j < m) (hm : m ≤ 2 ∧ 0 < m) : wrap64 (8 * (j : Int)) = 8 * (j : Int) := by unfold wrap64; omega
theorem shl8 (x : Int) {j m : Nat} (hx : 0 ≤ x ∧ x ≤ 255) (hj : j < m) (hm : m ≤ 2 ∧ 0 < m) : x * 2 ^ (8 * j) % 4294967296 = x * 2 ^ (8 * j) := by
  rcases (by omega : j = 0 ∨ j = 1) with rfl | rfl <;> simp <;> omega
theorem le1 {j m : Nat} (hj : j < m) (hm : m ≤ 2 ∧ 0 < m) : j ≤ 1 := by omega
theorem le2 {j m : Nat} (hj : j ≤ m) (hm : m ≤ 2 ∧ 0 < m) : j ≤ 2 := by omega
theorem ld8 (U : Int) (h : 0 ≤ U ∧ U < 256 ^ 1) : wrap64 (wrap32 (U * 16777216) / 16777216) = IntKind.i8.wrap U := by
  simp only [IntKind.wrap, IntKind.bits, IntKind.signed, wrap64, wrap32]
  simp
  omega
theorem ld16 (U : Int) (h : 0 ≤ U ∧ U < 256 ^ 2) : wrap64 (wrap32 (U * 65536) / 65536) = IntKind.i16.wrap U := by
  simp only [IntKind.wrap, IntKind.bits, IntKind.signed, wrap64, wrap32]
  simp
  omega
theorem pk_le {p j i n : Nat} (h : i = p + j) (hi : i < n) (hn : n ≤ 20000) : (p : Int) ≤ 20000 := by omega
theorem shl32 (x : Int) {j m : Nat} (hx : 0 ≤ x ∧ x ≤ 255) (hj : j < m) (hm : m ≤ 2 ∧ 0 < m) : x * 2 ^ min (8 * j) 32 % 4294967296 = x * 2 ^ (8 * j) := by
  rcases (by omega : j = 0 ∨ j = 1) with rfl | rfl <;> simp <;> omega
theorem wrap_succ {j m : Nat} (hj : j < m) (hm : m ≤ 2 ∧ 0 < m) : wrap64 ((j : Int) + 1) = (j : Int) + 1 := by unfold wrap64; omega
theorem neg8 (j : Nat) : ¬ (8 * (j : Int) < 0) := by omega
theorem meas {j m : Nat} (h : j < m) : m - (intOf (.int .i64 ((j : Int) + 1))).toNat < m - (intOf (.int .i64 (j : Int))).toNat := by simp [intOf]; omega
theorem lowF_succ (F : Nat → Int) (m i j : Nat) : lowF F m i (j + 1) = lowF F m i j + F (i * m + j) * 256 ^ j := rfl
theorem lowF_le (F : Nat → Int) (m i : Nat) (hF : ∀ j, 0 ≤ F j ∧ F j ≤ 255) : ∀ j, j ≤ 2 → 0 ≤ lowF F m i j ∧ lowF F m i j < 256 ^ j := by
  intro j hj
  rcases (by omega : j = 0 ∨ j = 1 ∨ j = 2) with rfl | rfl | rfl
  · simp [lowF]
  · have := hF (i * m + 0); simp only [lowF]; omega
  · have := hF (i * m + 0); have := hF (i * m + 1); simp only [lowF]; omega
theorem lowF_num (F : Nat → Int) (m i : Nat) (hm : m = 1 ∨ m = 2) : lowF F m i m = numF F m i m := by
  rcases hm with rfl | rfl
  · simp [lowF, numF]
  · simp [lowF, numF]; omega

theorem orLow (u x : Int) (j : Nat) (hj : j ≤ 1) (hu : 0 ≤ u ∧ u < 256 ^ j) (hx : 0 ≤ x ∧ x ≤ 255) : bits .or .u32 u (x * 2 ^ (8 * j)) = u + x * 256 ^ j := by
  have hc : bits .or .u32 u (x * 2 ^ (8 * j)) = bits .or .u32 (x * 2 ^ (8 * j)) u := by simp only [bits, BitVec.or_comm]
  rw [hc]
  rcases (by omega : j = 0 ∨ j = 1) with rfl | rfl
  · rw [bits_join .u32 32 (by decide) (fun n h0 h1 => by rw [IntKind.wrap_u32]; omega) 0 _ u (by simp; omega) (by simp) (by simp; omega) hu.1 (by simpa using hu.2) (by simp at hu; omega)]
    simp; omega
  · rw [bits_join .u32 32 (by decide) (fun n h0 h1 => by rw [IntKind.wrap_u32]; omega) 8 _ u (by simp; omega) (by simp) (by simp; omega) hu.1 (by simpa using hu.2) (by simp at hu; omega)]
    simp; omega

theorem cells_ret4 (w : World) (b : Nat) (T : TypeId) (x y u : Value) (tmps : Array Value) (hb : Blk w b T [x, y])
    (hp : tmps.getD 4 undef = .pointer (some ⟨b, 0, none⟩)) (hu : tmps.getD 5 undef = u) :
    (results Try.f62 tmps).run Try.prog w = .ok (.tuple #[.agg #[x, y], u]) w := by
  rw [results_cell_tmp rfl, hp, hu]
  have h := run_loadVar_row (P := Try.prog) w b T 94 #[x, y] (0, 0) _ hb Try.underlying94 rfl (by kernel_rfl)
  simp [asAddr, h, Result.andThen]

abbrev zeroRef : Value := .agg #[.int .i64 0, .slice none 0 0]

theorem refLoad_out (L : Int) (a : Option Addr) (n cap : Nat) (w : World) (hL : L < 3 ∨ 20 < L) :
    Calls Try.prog 62 #[.int .i64 L, .slice a n cap] w fun e w' => e = .returned (.tuple #[zeroRef, .int .i64 1]) ∧ Upd [] w w' := by
  have R := Lib.hid (fun W => refNew_out L W hL)
  have hb := Blk.new w 94 [.int .i64 0, .slice none 0 0]
  have hu := (Upd.refl [] w).alloc (.cells #[.int .i64 0, .slice none 0 0] 94)
  clear hL
  go_enter Try.func62, Try.ntmps62
  go_wp2_with fail
  refine (R.out _).mono ?_
  rintro e w1 ⟨rfl, hu1⟩
  have hb1 := hb.upd hu1 (by simp)
  have hu2 := hu.then hu1
  have f0 := (hb1.alloc (.cells #[.int .i64 0, .slice none 0 0] 94)).free 0
  have f1 := (hb1.alloc (.cells #[.int .i64 0, .slice none 0 0] 94)).free 1
  have c0 := (hb1.alloc (.cells #[.int .i64 0, .slice none 0 0] 94)).cell (i := 0) rfl
  have c1 := (hb1.alloc (.cells #[.int .i64 0, .slice none 0 0] 94)).cell (i := 1) rfl
  have hb2 := hb1.alloc (.cells #[.int .i64 0, .slice none 0 0] 94)
  have hu3 := hu2.alloc (.cells #[.int .i64 0, .slice none 0 0] 94)
  go_wp2_with fail
  exact bodyPost_ret (cells_ret4 _ w.heap.size _ _ _ _ _ ((hb2.set 0 _).set 1 _) rfl rfl) rfl ⟨rfl, (hu3.setCell (p := ⟨w.heap.size, 0, none⟩) (.inr (Nat.le_refl _)) _).setCell (p := ⟨w.heap.size, 1, none⟩) (.inr (Nat.le_refl _)) _⟩

theorem refLoad8_in (w : World) (L : Nat) (a : Option Addr) (n cap : Nat) (F : Nat → Int) (h3 : 3 ≤ L) (h12 : L ≤ 12) (hk : kindOf L = K8) (hF : ∀ j, 0 ≤ F j ∧ F j ≤ 255) (hb : BNums w a n F) (hn : n ≤ 20000) :
    Calls Try.prog 62 #[.int .i64 L, .slice a n cap] w fun e w' =>
      (e = .returned (.tuple #[zeroRef, .int .i64 4]) ∧ n ≠ 2 ^ L * 1 ∧ Upd [] w w') ∨
      (e = .returned (.tuple #[zeroRef, .int .i64 1]) ∧ n = 2 ^ L * 1 ∧ ¬ LoadOk L 1 F ∧ Upd [] w w') ∨
      (∃ g, e = .returned (.tuple #[refV g L (2 ^ L), .int .i64 0]) ∧ n = 2 ^ L * 1 ∧ LoadOk L 1 F ∧ RefAt w' g L (valF F 1) ∧ w.heap.size ≤ g ∧ Upd [] w w') := by
  have R := Lib.hid (fun W => refNew_in L W h3 (by omega))
  have hp : 2 ^ L ≤ 4096 := Nat.pow_le_pow_right (by omega) h12
  have hwd : (kindOf L).wd = 1 := by rw [hk]; rfl
  have Wd := Lib.hid (fun W => refWidth_in L W h3 (by omega))
  have MB := Lib.hid (fun W v => refMay_in L v W h3 (by omega))
  rw [hwd] at Wd
  obtain ⟨S, hS⟩ : ∃ S, S = 2 ^ L := ⟨_, rfl⟩
  obtain ⟨T, hT⟩ : ∃ T, T = 2 ^ L * 1 := ⟨_, rfl⟩
  have hT1 : T ≤ 8192 := by omega
  have hshl : wrap64 (1 * 2 ^ L) = (T : Int) := by
    have : (1 : Int) * 2 ^ L = (T : Int) := by rw [hT]; simp
    rw [this]; unfold wrap64; omega
  have hshl2 : wrap64 (2 ^ L) = (T : Int) := by rw [← hshl, Int.one_mul]
  rw [← hT]
  rw [← hS] at hT hp R ⊢
  have hb0 := Blk.new w 94 [.int .i64 0, .slice none 0 0]
  have hu := (Upd.refl [] w).alloc (.cells #[.int .i64 0, .slice none 0 0] 94)
  have HS := Lib.hid hS
  have HT := Lib.hid hT
  have HF := Lib.hid hF
  clear hS hT hwd hF
  go_enter Try.func62, Try.ntmps62
  go_wp2_with fail
  refine (R.out _).mono ?_
  rintro e w1 ⟨r, rfl, hr, hrl, hu1⟩
  simp only [World.size_alloc] at hrl
  have hr0 : w1.rowIs r 3 S (fun _ => .int .i64 (-1)) := by rw [HS.out]; exact hr
  have hb1 := (hb0.upd hu1 (by simp)).alloc (.cells #[.int .i64 L, .slice (some ⟨r, 0, none⟩) S S] 94)
  have hc1 := Blk.new w1 94 [.int .i64 L, .slice (some ⟨r, 0, none⟩) S S]
  have hr1 := hr0.alloc (.cells #[.int .i64 L, .slice (some ⟨r, 0, none⟩) S S] 94)
  have hu2 := (hu.then hu1).alloc (.cells #[.int .i64 L, .slice (some ⟨r, 0, none⟩) S S] 94)
  have hBR : w.heap.size < w1.heap.size := by have := hu1.size; simp only [World.size_alloc] at this; omega
  have hrB : r < w1.heap.size := hr0.lt
  clear hr hr0 R hb0 hu hu1
  have f0 := hb1.free 0
  have f1 := hb1.free 1
  have c0 := hb1.cell (i := 0) rfl
  have c1 := hb1.cell (i := 1) rfl
  obtain ⟨B, hB⟩ : ∃ B, B = w1.heap.size := ⟨_, rfl⟩
  obtain ⟨R0, hR0⟩ : ∃ R0, R0 = w.heap.size := ⟨_, rfl⟩
  have hR0' : w.heap.size ≤ R0 := Nat.le_of_eq hR0.symm
  by_cases hnT : n = T
  · have hne : ((n : Int) != (T : Int)) = false := by simp; omega
    have HnT := Lib.hid hnT
    rw [← hB] at hc1 hBR hrB
    rw [← hR0] at hb1 hBR f0 f1 c0 c1 hrl
    have hrw : w.heap.size ≤ r := by omega
    have HB := Lib.hid hB
    have HR0 := Lib.hid hR0
    clear hnT
    go_wp2_with (go_at_call 93; refine (Wd.out _).mono ?_; rintro e w2 ⟨rfl, rfl⟩)
    rw [← HB.out, ← HR0.out]
    clear hB hR0
    generalize w1.alloc _ = W at *
    go_loopw [9, 10, 11, 12] (fun i _ _ _ wr => ∃ k : Nat, k ≤ S ∧ i = .int .i64 k ∧ Blk wr R0 94 [.int .i64 0, .slice none 0 0] ∧ Blk wr B 94 [.int .i64 L, .slice (some ⟨r, 0, none⟩) S S] ∧ wr.rowIs r 3 S (fun j => .int .i64 (if j < k then valF F 1 j else -1)) ∧ Upd [] w wr ∧ Hid (∀ j, j < k → mayB L (valF F 1 j) = true)) (fun i _ _ _ _ => S - (intOf i).toNat)
    case atStart => exact ⟨0, Nat.zero_le _, rfl, hb1, hc1, hr1.congr (fun j _ => by simp), hu2, Lib.hid (fun j hj => by omega)⟩
    case round =>
      obtain ⟨k, hkS, rfl, hz, hc, hr, hur, HM⟩ := hrel
      clear hb1 hc1 hr1 hu2 f0 f1 c0 c1
      have d0 := hc.cell (i := 0) rfl
      have d1 := hc.cell (i := 1) rfl
      have z0 := hz.cell (i := 0) rfl
      have z1 := hz.cell (i := 1) rfl
      have fz := hz.free 0
      have fz1 := hz.free 1
      by_cases hlt : k < S
      · have hl : (k : Int) < (S : Int) := by omega
        have hPT : 1 * k + 1 ≤ T := by have := HT.out; omega
        rcases hb with h0 | ⟨bb, off, rfl, hbb, hcb⟩
        · exact absurd hlt (by have := HnT.out; omega)
        have y0 := (hur.below.cell (p := ⟨bb, off + k, none⟩) hbb).trans (hcb k (by have := HnT.out; omega))
        have hF0 := HF.out k
        have hkn : (k : Int) < (n : Int) := by have := HnT.out; omega
        have hval : valF F 1 k = IntKind.i8.wrap (F k) := by unfold valF; rw [if_pos rfl]; simp [numF]
        have Hval := Lib.hid hval
        obtain ⟨x, hx⟩ : ∃ x, x = F k := ⟨_, rfl⟩
        rw [← hx] at y0 hF0 Hval
        have hor : bits .or .u32 0 x = x := by have := orLow 0 x 0 (by omega) (by simp) hF0; simpa using this
        have HO := Lib.hid hor
        have hv := ld8 x ⟨hF0.1, by omega⟩
        rw [← Hval.out] at hv
        have HV := Lib.hid hv
        clear hval hx hcb hor hv hPT hshl hshl2 hne hT1 hk
        go_wp2_with fail
        go_loopw [10, 11] (fun u q wr' => wr' = wr ∧ ((q = .int .i64 0 ∧ u = .int .u32 0) ∨ (q = .int .i64 1 ∧ u = .int .u32 x))) (fun _ q _ => 1 - (intOf q).toNat)
        case atStart => exact ⟨rfl, .inl ⟨rfl, rfl⟩⟩
        case round =>
          obtain ⟨rfl, ⟨rfl, rfl⟩ | ⟨rfl, rfl⟩⟩ := hrel
          · go_wp2_with fail
            exact ⟨⟨trivial, .inr ⟨rfl, by rw [HO.out]⟩⟩, by simp [intOf]⟩
          · have cc := hr.cell hlt
            have cf := hr.frozen k
            cases hmb : mayB L (valF F 1 k)
            · have Hmb := Lib.hid hmb
              clear hmb
              have HLT := Lib.hid hlt
              have hz2 := (hz.set 0 (.int .i64 0)).set 1 (.slice none 0 0)
              have hE := (hur.setCell (p := ⟨R0, 0, none⟩) (.inr hR0') (.int .i64 0)).setCell (p := ⟨R0, 1, none⟩) (.inr hR0') (.slice none 0 0)
              go_wp2_with (go_at_call 101; refine (MB.out _ _).mono ?_; rintro e w9 ⟨rfl, rfl⟩; rw [HV.out, Hmb.out])
              refine bodyPost_ret (cells_ret4 _ R0 _ _ _ _ _ hz2 rfl rfl) rfl ?_
              refine .inr (.inl ⟨rfl, HnT.out, fun h => ?_, hE⟩)
              have := h k (by rw [← HS.out]; exact HLT.out)
              rw [Hmb.out] at this
              cases this
            · have Hmb := Lib.hid hmb
              clear hmb
              go_wp2_with (go_at_call 101; refine (MB.out _ _).mono ?_; rintro e w9 ⟨rfl, rfl⟩; rw [HV.out, Hmb.out])
              have hz3 := hz.other (a := ⟨r, k, none⟩) (.int .i64 (valF F 1 k)) (by simp; omega)
              have hc3 := hc.other (a := ⟨r, k, none⟩) (.int .i64 (valF F 1 k)) (by simp; omega)
              have hr3 := ((hr.set k (.int .i64 (valF F 1 k))).congr (g := fun i => .int .i64 (if i < k + 1 then valF F 1 i else -1)) (fun i _ => by
                by_cases e1 : i = k
                · subst e1; simp
                · by_cases e2 : i < k
                  · simp [e1, e2, Nat.lt_succ_of_lt e2]
                  · have : ¬ i < k + 1 := by omega
                    simp [e1, e2, this]))
              have hu3 := hur.setCell (p := ⟨r, k, none⟩) (.inr hrw) (.int .i64 (valF F 1 k))
              go_roundw
              case rel => exact ⟨k + 1, by omega, by go_num, hz3, hc3, hr3, hu3, Lib.hid (fun i hi => by
                rcases Nat.lt_succ_iff_lt_or_eq.1 hi with h | rfl
                · exact HM.out i h
                · exact Hmb.out)⟩
              case measure => simp [intOf]; omega
      · obtain rfl : k = S := by omega
        have hOK : LoadOk L 1 F := fun i hi => HM.out i (by rw [HS.out]; exact hi)
        have HOK := Lib.hid hOK
        clear hOK
        have hz2 := (hz.set 0 (.int .i64 L)).set 1 (.slice (some ⟨r, 0, none⟩) k k)
        have hE := (hur.setCell (p := ⟨R0, 0, none⟩) (.inr hR0') (.int .i64 L)).setCell (p := ⟨R0, 1, none⟩) (.inr hR0') (.slice (some ⟨r, 0, none⟩) k k)
        have hrE := (hr.setOther (a := ⟨R0, 0, none⟩) (by simp; omega) (.int .i64 L)).setOther (a := ⟨R0, 1, none⟩) (by simp; omega) (.slice (some ⟨r, 0, none⟩) k k)
        have hrE2 := hrE.congr (g := fun i => .int .i64 (valF F 1 i)) (fun i hi => by simp [hi])
        go_wp2_with fail
        refine bodyPost_ret (cells_ret4 _ R0 _ _ _ _ _ hz2 rfl rfl) rfl ?_
        exact .inr (.inr ⟨r, rfl, HnT.out, HOK.out, by unfold RefAt; rw [← HS.out]; exact hrE2, hrw, hE⟩)
  · have hne : ((n : Int) != (T : Int)) = true := by simp; omega
    go_wp2_with (go_at_call 93; refine (Wd.out _).mono ?_; rintro e w2 ⟨rfl, rfl⟩; generalize w1.alloc _ = W at *)
    refine bodyPost_ret (cells_ret4 _ w.heap.size _ _ _ _ _ ((hb1.set 0 (.int .i64 0)).set 1 (.slice none 0 0)) rfl rfl) rfl ?_
    exact (Or.inl ⟨rfl, hnT, (hu2.setCell (p := ⟨w.heap.size, 0, none⟩) (.inr (Nat.le_refl _)) _).setCell (p := ⟨w.heap.size, 1, none⟩) (.inr (Nat.le_refl _)) _⟩)

theorem refLoad16_in (w : World) (L : Nat) (a : Option Addr) (n cap : Nat) (F : Nat → Int) (h3 : 3 ≤ L) (h12 : L ≤ 12) (hk : kindOf L = K16) (hF : ∀ j, 0 ≤ F j ∧ F j ≤ 255) (hb : BNums w a n F) (hn : n ≤ 20000) :
    Calls Try.prog 62 #[.int .i64 L, .slice a n cap] w fun e w' =>
      (e = .returned (.tuple #[zeroRef, .int .i64 4]) ∧ n ≠ 2 ^ L * 2 ∧ Upd [] w w') ∨
      (e = .returned (.tuple #[zeroRef, .int .i64 1]) ∧ n = 2 ^ L * 2 ∧ ¬ LoadOk L 2 F ∧ Upd [] w w') ∨
      (∃ g, e = .returned (.tuple #[refV g L (2 ^ L), .int .i64 0]) ∧ n = 2 ^ L * 2 ∧ LoadOk L 2 F ∧ RefAt w' g L (valF F 2) ∧ w.heap.size ≤ g ∧ Upd [] w w') := by
  have R := Lib.hid (fun W => refNew_in L W h3 (by omega))
  have hp : 2 ^ L ≤ 4096 := Nat.pow_le_pow_right (by omega) h12
  have hwd : (kindOf L).wd = 2 := by rw [hk]; rfl
  have Wd := Lib.hid (fun W => refWidth_in L W h3 (by omega))
  have MB := Lib.hid (fun W v => refMay_in L v W h3 (by omega))
  rw [hwd] at Wd
  obtain ⟨S, hS⟩ : ∃ S, S = 2 ^ L := ⟨_, rfl⟩
  obtain ⟨T, hT⟩ : ∃ T, T = 2 ^ L * 2 := ⟨_, rfl⟩
  have hT1 : T ≤ 8192 := by omega
  have hshl : wrap64 (2 * 2 ^ L) = (T : Int) := by
    have : (2 : Int) * 2 ^ L = (T : Int) := by rw [hT, Nat.mul_comm]; simp
    rw [this]; unfold wrap64; omega
  rw [← hT]
  rw [← hS] at hT hp R ⊢
  have hb0 := Blk.new w 94 [.int .i64 0, .slice none 0 0]
  have hu := (Upd.refl [] w).alloc (.cells #[.int .i64 0, .slice none 0 0] 94)
  have HS := Lib.hid hS
  have HT := Lib.hid hT
  have HF := Lib.hid hF
  clear hS hT hwd hF
  go_enter Try.func62, Try.ntmps62
  go_wp2_with fail
  refine (R.out _).mono ?_
  rintro e w1 ⟨r, rfl, hr, hrl, hu1⟩
  simp only [World.size_alloc] at hrl
  have hr0 : w1.rowIs r 3 S (fun _ => .int .i64 (-1)) := by rw [HS.out]; exact hr
  have hb1 := (hb0.upd hu1 (by simp)).alloc (.cells #[.int .i64 L, .slice (some ⟨r, 0, none⟩) S S] 94)
  have hc1 := Blk.new w1 94 [.int .i64 L, .slice (some ⟨r, 0, none⟩) S S]
  have hr1 := hr0.alloc (.cells #[.int .i64 L, .slice (some ⟨r, 0, none⟩) S S] 94)
  have hu2 := (hu.then hu1).alloc (.cells #[.int .i64 L, .slice (some ⟨r, 0, none⟩) S S] 94)
  have hBR : w.heap.size < w1.heap.size := by have := hu1.size; simp only [World.size_alloc] at this; omega
  have hrB : r < w1.heap.size := hr0.lt
  clear hr hr0 R hb0 hu hu1
  have f0 := hb1.free 0
  have f1 := hb1.free 1
  have c0 := hb1.cell (i := 0) rfl
  have c1 := hb1.cell (i := 1) rfl
  obtain ⟨B, hB⟩ : ∃ B, B = w1.heap.size := ⟨_, rfl⟩
  obtain ⟨R0, hR0⟩ : ∃ R0, R0 = w.heap.size := ⟨_, rfl⟩
  have hR0' : w.heap.size ≤ R0 := Nat.le_of_eq hR0.symm
  by_cases hnT : n = T
  · have hne : ((n : Int) != (T : Int)) = false := by simp; omega
    have HnT := Lib.hid hnT
    rw [← hB] at hc1 hBR hrB
    rw [← hR0] at hb1 hBR f0 f1 c0 c1 hrl
    have hrw : w.heap.size ≤ r := by omega
    have HB := Lib.hid hB
    have HR0 := Lib.hid hR0
    clear hnT
    go_wp2_with (go_at_call 93; refine (Wd.out _).mono ?_; rintro e w2 ⟨rfl, rfl⟩)
    rw [← HB.out, ← HR0.out]
    clear hB hR0
    generalize w1.alloc _ = W at *
    go_loopw [9, 10, 11, 12] (fun i _ _ _ wr => ∃ k : Nat, k ≤ S ∧ i = .int .i64 k ∧ Blk wr R0 94 [.int .i64 0, .slice none 0 0] ∧ Blk wr B 94 [.int .i64 L, .slice (some ⟨r, 0, none⟩) S S] ∧ wr.rowIs r 3 S (fun j => .int .i64 (if j < k then valF F 2 j else -1)) ∧ Upd [] w wr ∧ Hid (∀ j, j < k → mayB L (valF F 2 j) = true)) (fun i _ _ _ _ => S - (intOf i).toNat)
    case atStart => exact ⟨0, Nat.zero_le _, rfl, hb1, hc1, hr1.congr (fun j _ => by simp), hu2, Lib.hid (fun j hj => by omega)⟩
    case round =>
      obtain ⟨k, hkS, rfl, hz, hc, hr, hur, HM⟩ := hrel
      clear hb1 hc1 hr1 hu2 f0 f1 c0 c1
      have d0 := hc.cell (i := 0) rfl
      have d1 := hc.cell (i := 1) rfl
      have z0 := hz.cell (i := 0) rfl
      have z1 := hz.cell (i := 1) rfl
      have fz := hz.free 0
      have fz1 := hz.free 1
      by_cases hlt : k < S
      · have hl : (k : Int) < (S : Int) := by omega
        have hPT : 2 * k + 2 ≤ T := by have := HT.out; omega
        rcases hb with h0 | ⟨bb, off, rfl, hbb, hcb⟩
        · exact absurd hlt (by have := HnT.out; omega)
        have y0 := (hur.below.cell (p := ⟨bb, off + 2 * k, none⟩) hbb).trans (hcb (2 * k) (by have := HnT.out; omega))
        have y1 := (hur.below.cell (p := ⟨bb, off + (2 * k + 1), none⟩) hbb).trans (hcb (2 * k + 1) (by have := HnT.out; omega))
        have hF0 := HF.out (2 * k)
        have hF1 := HF.out (2 * k + 1)
        have hkn0 : 2 * (k : Int) < (n : Int) := by have := HnT.out; omega
        have hkn1 : 2 * (k : Int) + 1 < (n : Int) := by have := HnT.out; omega
        have hval : valF F 2 k = IntKind.i16.wrap (F (2 * k) + F (2 * k + 1) * 256) := by
          unfold valF
          rw [if_neg (by omega)]
          simp only [numF]
          rw [show k * 2 + (2 - 1 - 0) = 2 * k + 1 by omega, show k * 2 + (2 - 1 - 1) = 2 * k by omega]
          congr 1
          omega
        have Hval := Lib.hid hval
        obtain ⟨x, hx⟩ : ∃ x, x = F (2 * k) := ⟨_, rfl⟩
        obtain ⟨z, hzz⟩ : ∃ z, z = F (2 * k + 1) := ⟨_, rfl⟩
        rw [← hx] at y0 hF0 Hval
        rw [← hzz] at y1 hF1 Hval
        have hor : bits .or .u32 0 x = x := by have := orLow 0 x 0 (by omega) (by simp) hF0; simpa using this
        have HO := Lib.hid hor
        have hor1 : bits .or .u32 x (z * 256) = x + z * 256 := by have := orLow x z 1 (by omega) (by simp; omega) hF1; simpa using this
        have HO1 := Lib.hid hor1
        obtain ⟨X, hX⟩ : ∃ X, X = x + z * 256 := ⟨_, rfl⟩
        have hX0 : 0 ≤ X ∧ X < 65536 := by omega
        rw [← hX] at Hval HO1
        have hv := ld16 X (by omega)
        rw [← Hval.out] at hv
        have HV := Lib.hid hv
        clear hval hx hzz hcb hor hor1 hv hPT hshl hne hT1 hk hX
        go_wp2_with fail
        go_loopw [10, 11] (fun u q wr' => wr' = wr ∧ ((q = .int .i64 0 ∧ u = .int .u32 0) ∨ (q = .int .i64 1 ∧ u = .int .u32 x) ∨ (q = .int .i64 2 ∧ u = .int .u32 X))) (fun _ q _ => 2 - (intOf q).toNat)
        case atStart => exact ⟨rfl, .inl ⟨rfl, rfl⟩⟩
        case round =>
          obtain ⟨rfl, ⟨rfl, rfl⟩ | ⟨rfl, rfl⟩ | ⟨rfl, rfl⟩⟩ := hrel
          · go_wp2_with fail
            exact ⟨⟨trivial, .inr (.inl ⟨rfl, by rw [HO.out]⟩)⟩, by simp [intOf]⟩
          · go_wp2_with fail
            exact ⟨⟨trivial, .inr (.inr ⟨rfl, by rw [HO1.out]⟩)⟩, by simp [intOf]⟩
          · have cc := hr.cell hlt
            have cf := hr.frozen k
            cases hmb : mayB L (valF F 2 k)
            · have Hmb := Lib.hid hmb
              clear hmb
              have HLT := Lib.hid hlt
              have hz2 := (hz.set 0 (.int .i64 0)).set 1 (.slice none 0 0)
              have hE := (hur.setCell (p := ⟨R0, 0, none⟩) (.inr hR0') (.int .i64 0)).setCell (p := ⟨R0, 1, none⟩) (.inr hR0') (.slice none 0 0)
              go_wp2_with (go_at_call 101; refine (MB.out _ _).mono ?_; rintro e w9 ⟨rfl, rfl⟩; rw [HV.out, Hmb.out])
              refine bodyPost_ret (cells_ret4 _ R0 _ _ _ _ _ hz2 rfl rfl) rfl ?_
              refine .inr (.inl ⟨rfl, HnT.out, fun h => ?_, hE⟩)
              have := h k (by rw [← HS.out]; exact HLT.out)
              rw [Hmb.out] at this
              cases this
            · have Hmb := Lib.hid hmb
              clear hmb
              go_wp2_with (go_at_call 101; refine (MB.out _ _).mono ?_; rintro e w9 ⟨rfl, rfl⟩; rw [HV.out, Hmb.out])
              have hz3 := hz.other (a := ⟨r, k, none⟩) (.int .i64 (valF F 2 k)) (by simp; omega)
              have hc3 := hc.other (a := ⟨r, k, none⟩) (.int .i64 (valF F 2 k)) (by simp; omega)
              have hr3 := ((hr.set k (.int .i64 (valF F 2 k))).congr (g := fun i => .int .i64 (if i < k + 1 then valF F 2 i else -1)) (fun i _ => by
                by_cases e1 : i = k
                · subst e1; simp
                · by_cases e2 : i < k
                  · simp [e1, e2, Nat.lt_succ_of_lt e2]
                  · have : ¬ i < k + 1 := by omega
                    simp [e1, e2, this]))
              have hu3 := hur.setCell (p := ⟨r, k, none⟩) (.inr hrw) (.int .i64 (valF F 2 k))
              go_roundw
              case rel => exact ⟨k + 1, by omega, by go_num, hz3, hc3, hr3, hu3, Lib.hid (fun i hi => by
                rcases Nat.lt_succ_iff_lt_or_eq.1 hi with h | rfl
                · exact HM.out i h
                · exact Hmb.out)⟩
              case measure => simp [intOf]; omega
      · obtain rfl : k = S := by omega
        have hOK : LoadOk L 2 F := fun i hi => HM.out i (by rw [HS.out]; exact hi)
        have HOK := Lib.hid hOK
        clear hOK
        have hz2 := (hz.set 0 (.int .i64 L)).set 1 (.slice (some ⟨r, 0, none⟩) k k)
        have hE := (hur.setCell (p := ⟨R0, 0, none⟩) (.inr hR0') (.int .i64 L)).setCell (p := ⟨R0, 1, none⟩) (.inr hR0') (.slice (some ⟨r, 0, none⟩) k k)
        have hrE := (hr.setOther (a := ⟨R0, 0, none⟩) (by simp; omega) (.int .i64 L)).setOther (a := ⟨R0, 1, none⟩) (by simp; omega) (.slice (some ⟨r, 0, none⟩) k k)
        have hrE2 := hrE.congr (g := fun i => .int .i64 (valF F 2 i)) (fun i hi => by simp [hi])
        go_wp2_with fail
        refine bodyPost_ret (cells_ret4 _ R0 _ _ _ _ _ hz2 rfl rfl) rfl ?_
        exact .inr (.inr ⟨r, rfl, HnT.out, HOK.out, by unfold RefAt; rw [← HS.out]; exact hrE2, hrw, hE⟩)
  · have hne : ((n : Int) != (T : Int)) = true := by simp; omega
    go_wp2_with (go_at_call 93; refine (Wd.out _).mono ?_; rintro e w2 ⟨rfl, rfl⟩; generalize w1.alloc _ = W at *)
    refine bodyPost_ret (cells_ret4 _ w.heap.size _ _ _ _ _ ((hb1.set 0 (.int .i64 0)).set 1 (.slice none 0 0)) rfl rfl) rfl ?_
    exact (Or.inl ⟨rfl, hnT, (hu2.setCell (p := ⟨w.heap.size, 0, none⟩) (.inr (Nat.le_refl _)) _).setCell (p := ⟨w.heap.size, 1, none⟩) (.inr (Nat.le_refl _)) _⟩)
end Go.Proofs.Ytnaeehnnjhklbaa
