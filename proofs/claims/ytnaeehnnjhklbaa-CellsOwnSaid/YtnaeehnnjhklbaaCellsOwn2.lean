/- The walk of CellsOwn. -/
import Derived.Test.YtnaeehnnjhklbaaCellsOwn
set_option linter.unusedVariables false
namespace Go.Proofs.Ytnaeehnnjhklbaa
open Go.RowKit

set_option maxHeartbeats 4000000 in
theorem cellsOwn_in (n : Nat) (a : Option Addr) (len cap : Nat) (l : List (Int × Int)) (w : World) (hl : IsSteps w a len l) (hlen : len ≤ 300) (h3 : 3 ≤ n) (h10 : n ≤ 10) :
    Calls Try.prog 12 #[.int .i64 n, .slice a len cap] w (OkV w) := by
  have hbig' : ¬ (300 : Int) < (len : Int) := by omega
  have hn3 : ¬ (n : Int) < 3 := by omega
  have hn10 : ¬ (10 : Int) < (n : Int) := by omega
  have N := Lib.hid (fun W => new_in n W h3 (by omega))
  obtain ⟨m, hm, hm0, hm4⟩ := kind_wd n
  obtain ⟨S, hS⟩ : ∃ S, S = 2 ^ n := ⟨_, rfl⟩
  obtain ⟨T, hT⟩ : ∃ T, T = S * m := ⟨_, rfl⟩
  have hS1 : S ≤ 1024 := by rw [hS]; exact Nat.pow_le_pow_right (by omega) h10
  have hS0 : 0 < S := by rw [hS]; exact Nat.two_pow_pos n
  have hT0 : 0 < T := by rw [hT]; exact Nat.mul_pos hS0 hm0
  have hT1 : T ≤ 4096 := by
    have : S * m ≤ 1024 * 4 := Nat.mul_le_mul hS1 hm4
    omega
  have SZ := Lib.hid (fun W b g f (h : CellsAt W b g n f) => h.size)
  have BY := Lib.hid (fun W b g f (h : CellsAt W b g n f) => cellsBytes_any h hm hm0 hm4)
  rw [← hS] at SZ BY
  rw [← hT] at BY
  have HS := Lib.hid hS
  have HT := Lib.hid hT
  have hl := Lib.hid hl
  have hq := eqlNilSeq2
  clear hS hT hm
  obtain ⟨i0, hi, hz0, hz1, hz2⟩ := info_parts info64
  obtain ⟨j0, hj, hy0, hy1, hy2⟩ := info_parts info8u
  go_enter Try.func12, Try.ntmps12
  go_wp2_with fail
  refine (N.out w).mono ?_
  rintro e w1 ⟨b, g, rfl, hc, hb, hg, hu⟩
  have HC := Lib.hid hc
  have hcl := hc.c.lt
  have hgl := World.rowIs.lt hc.r
  clear hc
  go_wp2_with fail
  refine (N.out w1).mono ?_
  rintro e w2 ⟨b2, g2, rfl, hd, hb2, hg2, hu2⟩
  have HC2 := Lib.hid (HC.out.upd hu2 (by simp) (by simp))
  have HD := Lib.hid hd
  have hU := hu.then hu2
  have nb : b2 ≠ g := by omega
  have ng : g2 ≠ g := by omega
  have hg2' : g < w2.heap.size := Nat.lt_of_lt_of_le hgl hu2.size
  clear HC hd hu hu2 hcl hb2 hg2 N hgl
  go_wp2_with fail
  go_loopw [9, 10] (fun o i wr => ∃ k : Nat, k ≤ S ∧ i = .int .i64 k ∧ wr.ownsRow w2.heap.size 3 1 o k (minus k) ∧ Upd [] w2 wr) (fun _ i _ => S - (intOf i).toNat)
  case atStart => exact ⟨0, by omega, rfl, World.ownsRow_nil _ _ _ _, Upd.refl _ _⟩
  case round =>
    obtain ⟨k, hk, rfl, ho, hur⟩ := hrel
    obtain ⟨va, vc, rfl⟩ := ownsRow_shape ho
    by_cases hlt : k < S
    · have hl1 : (k : Int) < (S : Int) := by omega
      have SS := Lib.hid (SZ.out wr b g _ (HC2.out.upd hur (by simp) (by simp)))
      go_wp2_with (first
        | (go_at_call 53; refine SS.out.mono ?_; rintro e w3 ⟨rfl, hu3⟩; have ho3 := ho.upd hu3; have hU3 := hur.then hu3; have hs3 := hU3.size)
        | (at_builtin; refine wpList_append_own _ rfl _ _ 42 rfl w2.heap.size 3 i0 (.int .i64 0) 1 8 Try.underlying42 hi hz0 hz1 hz2 rfl (by decide) _ _ _ rfl (ho3.alloc _) ⟨w3.heap.size, 0, none⟩ 1 1 [.int .i64 (-1)] rfl rfl ?c1 ?c2 ?c3 ?c4 ?c5 ?_))
      case c1 => exact cell_one_new _ _ _
      case c2 => intro u hu; simp at hu; subst hu; rfl
      case c3 => unfold maxLen; omega
      case c4 => omega
      case c5 => simp; omega
      intro v' w4 hown hgrow _
      have hown' : w4.ownsRow w2.heap.size 3 1 v' (k + 1) (minus (k + 1)) := by
        have e1 : minus (k + 1) = minus k ++ [.int .i64 (-1)] := by simp [minus, List.replicate_succ']
        rw [e1]; exact hown
      have hU4 := (hU3.alloc _).grown hgrow (fun x hx => .inr (ho3.lt x hx).1)
      clear hown hgrow ho ho3 hU3 SS hur hu3 hs3
      go_wp2_with fail
      go_roundw
      case rel => exact ⟨k + 1, by omega, by go_num, hown', hU4⟩
      case measure => simp [intOf]; omega
    · obtain rfl : k = S := by omega
      have SS := Lib.hid (SZ.out wr b g _ (HC2.out.upd hur (by simp) (by simp)))
      have naw : ∀ x off, va = some ⟨x, off, none⟩ → w2.heap.size ≤ x := fun x off e => by subst e; exact (ho.lt x rfl).1
      have nums := Lib.hid (nums_minus ho)
      have HC4 := Lib.hid (HC2.out.upd hur (by simp) (by simp))
      have HD4 := Lib.hid (HD.out.upd hur (by simp) (by simp))
      have hU4 := hU.then hur
      have hg4 : g < wr.heap.size := Nat.lt_of_lt_of_le hg2' hur.size
      clear HC2 HD ho
      go_wp2_with (go_at_call 53; refine SS.out.mono ?_; rintro e w3 ⟨rfl, hu3⟩)
      have HC5 := Lib.hid (HC4.out.upd hu3 (by simp) (by simp))
      have HD5 := Lib.hid (HD4.out.upd hu3 (by simp) (by simp))
      have nums5 := Lib.hid (nums.out.upd hu3 (by simp))
      have hU5 := hU4.then hu3
      have hg5 : g < w3.heap.size := Nat.lt_of_lt_of_le hg4 hu3.size
      clear SS HC4 HD4 nums hU hU4 hg4 hu3 hur
      refine (cellsAll_any HC5.out).mono ?_
      rintro e w4 ⟨B, G, rfl, hA, hB, hG, hu4⟩
      have K4 := Lib.hid (Keep.mk (HC5.out.upd hu4 (by simp) (by simp)) (HD5.out.upd hu4 (by simp) (by simp)) hA (HS.out ▸ nums5.out.upd hu4 (by simp)) nb ng (by omega) (by omega) (fun x off e => by have := naw x off e; omega))
      have hU4 := hU5.then hu4
      clear HC5 HD5 nums5 hU5 hA hB hG hu4
      go_wp2_with fail
      refine (BY.out w4 b g _ K4.out.c).mono ?_
      rintro e w5 ⟨v5, rfl, hv5, hu5⟩
      obtain ⟨gb, cb, rfl, hgb, hO⟩ := openB_of hv5 hT0
      have K5 := Lib.hid (K4.out.far hu5 (by simp))
      have hU5 := hU4.then hu5
      clear hv5
      go_wp2_with fail
      go_loopw [13] (fun i wr => ∃ k : Nat, k ≤ T ∧ i = .int .i64 k ∧ OpenB wr gb T ∧ Upd [gb] w5 wr) (fun i _ => T - (intOf i).toNat)
      case atStart => exact ⟨0, by omega, rfl, hO, Upd.refl _ _⟩
      case round =>
        obtain ⟨k2, hk2, rfl, hO2, hur2⟩ := hrel
        by_cases hlt2 : k2 < T
        · have hl2 : (k2 : Int) < (T : Int) := by omega
          obtain ⟨x2, cx⟩ := hO2.cell hlt2
          have cf := hO2.free k2
          have hO3 := hO2.set k2 (.int .u8 0)
          have hU3 := hur2.setCell (p := ⟨gb, k2, none⟩) (.inl (by simp)) (.int .u8 0)
          clear hO2 hur2
          go_wp2_with fail
          go_roundw
          case rel => exact ⟨k2 + 1, by omega, by go_num, hO3, hU3⟩
          case measure => simp [intOf]; omega
        · have K6 := Lib.hid (Keep.mk (K4.out.c.upd (hu5.trans hur2 (by simp; omega)) (by simp) (by simp)) (K4.out.d.upd (hu5.trans hur2 (by simp; omega)) (by simp) (by simp)) (K4.out.t.upd (hu5.trans hur2 (by simp; omega)) (by simp) (by simp)) (K4.out.l.upd (hu5.trans hur2 (by simp; omega)) (by simp)) K4.out.nb K4.out.ng K4.out.nB K4.out.nG K4.out.na)
          have hU6 : Upd [] w wr := hU4.trans (hu5.trans hur2 (fp := []) (by simp; omega)) (by simp)
          clear K4 K5 hU4 hU5 hu5 hur2 hO hO2
          obtain ⟨W6, rfl⟩ : ∃ W6 : World, W6 = wr := ⟨_, rfl⟩
          go_wp2_with fail
          go_loopw [14] (fun i wr => ∃ k : Nat, k ≤ len ∧ i = .int .i64 k ∧ Hid (∃ f, Keep wr b g b2 g2 B G n f va) ∧ Upd [] w wr) (fun i _ => len - (intOf i).toNat)
          case atStart => exact ⟨0, by omega, rfl, Lib.hid ⟨_, K6.out⟩, hU6⟩
          case round =>
            obtain ⟨k3, hk3, rfl, HK, hur3⟩ := hrel
            obtain ⟨f, hf⟩ := HK.out
            have K := Lib.hid hf
            clear HK hf K6 hU6
            by_cases hlt3 : k3 < len
            · have hl3 : (k3 : Int) < (len : Int) := by omega
              obtain ⟨hle, _, hcell, _⟩ := hl.out
              rcases hcell with rfl | ⟨bs, off, rfl, hbs, hcell⟩
              · simp at hle; omega
              obtain ⟨x0, x1⟩ := hcell k3 (by omega)
              have y0 := (hur3.below.cell (p := ⟨bs, off + k3 * 2, none⟩) hbs).trans x0
              have y1 := (hur3.below.cell (p := ⟨bs, off + k3 * 2 + 1, none⟩) hbs).trans x1
              generalize l[k3].1 = x at y0
              generalize l[k3].2 = v at y1
              clear x0 x1 hcell hle
              have z0 : wr.drew.cell? ⟨bs, off + k3 * 2, none⟩ = some (.int .i64 x) := y0
              have z1 : wr.drew.cell? ⟨bs, off + k3 * 2 + 1, none⟩ = some (.int .i64 v) := y1
              have KD := Lib.hid (K.out.far (Upd.refl [] wr).drew (by simp))
              have hbsg : bs ≠ g := by omega
              go_wp2_with fail
              go_region_held3 (fun w' => w'.cell? ⟨bs, off + k3 * 2, none⟩ = some (.int .i64 x) ∧ w'.cell? ⟨bs, off + k3 * 2 + 1, none⟩ = some (.int .i64 v))
                (first | exact ⟨z0, z1⟩ | exact ⟨p0, p1⟩)
                (first
                | (go_at_call 56
                   refine (KD.out.c.set_any x v).mono ?_
                   rintro e w7 ⟨rfl, hc7, hu7⟩
                   have K7 := Lib.hid (KD.out.turn hc7 hu7)
                   have p0 : w7.cell? ⟨bs, off + k3 * 2, none⟩ = some (.int .i64 x) := (World.cell?_of_block (w := wr.drew) (a := ⟨bs, off + k3 * 2, none⟩) (hu7.block bs (Nat.lt_of_lt_of_le hbs hur3.size) (by simpa using hbsg))).trans z0
                   have p1 : w7.cell? ⟨bs, off + k3 * 2 + 1, none⟩ = some (.int .i64 v) := (World.cell?_of_block (w := wr.drew) (a := ⟨bs, off + k3 * 2 + 1, none⟩) (hu7.block bs (Nat.lt_of_lt_of_le hbs hur3.size) (by simpa using hbsg))).trans z1
                   have hU7 : Upd [] w w7 := hur3.drew.trans hu7 (by simp; omega)))
              clear K KD hur3 y0 y1 z0 z1 p0 p1 hc7 hu7
              go_wp2_with fail
              go_roundw
              case rel => exact ⟨k3 + 1, by omega, by go_num, Lib.hid ⟨_, K7.out⟩, hU7⟩
              case measure => simp [intOf]; omega
            · obtain ⟨W7, rfl⟩ : ∃ W7 : World, W7 = wr := ⟨_, rfl⟩
              have hl3 : ¬ (k3 : Int) < (len : Int) := by omega
              clear hk3 hlt3 hl
              go_wp2_with fail
              refine (BY.out W7 b g _ K.out.c).mono ?_
              rintro e w8 ⟨v8, rfl, hv8, hu8⟩
              obtain ⟨ax, cx, rfl⟩ := ownsRow_shape hv8
              have X8 := Lib.hid (BNums.ofOwn hv8)
              have K8 := Lib.hid (K.out.far hu8 (by simp))
              have hU8 := hur3.then hu8
              clear K hur3 hv8 hu8
              go_wp2_with (first
                | (go_at_call 55
                   refine (BY.out w8 b g _ K8.out.c).mono ?_
                   rintro e w9 ⟨v9, rfl, hv9, hu9⟩
                   obtain ⟨ay, cy, rfl⟩ := ownsRow_shape hv9
                   have hs9 := hu9.size)
                | (at_builtin; refine wpList_append_own _ rfl _ _ 103 rfl w8.heap.size 5 j0 (.int .u8 0) 1 1 Try.underlying103 hj hy0 hy1 hy2 rfl (by decide) _ _ _ rfl (hv9.alloc _) ⟨w9.heap.size, 0, none⟩ 1 1 [.int .u8 5] rfl rfl ?c1 ?c2 ?c3 ?c4 ?c5 ?_))
              case c1 => exact cell_one_new _ _ _
              case c2 => intro u hu; simp at hu; subst hu; rfl
              case c3 => unfold maxLen; omega
              case c4 => omega
              case c5 => simp; omega
              intro v' w10 hown hgrow _
              obtain ⟨gy, cc, rfl, hgy, hO⟩ := openB_of hown (by omega)
              have hu10 : Upd [] w8 w10 := (hu9.alloc _).grown hgrow (fun x hx => .inr (hv9.lt x hx).1)
              clear hown hgrow hv9 hu9 hs9
              go_wp2_with fail
              go_loopw [17] (fun i wr => ∃ k : Nat, k ≤ T + 1 ∧ i = .int .i64 k ∧ OpenB wr gy (T + 1) ∧ Upd [] w8 wr) (fun i _ => T + 1 - (intOf i).toNat)
              case atStart => exact ⟨0, by omega, rfl, hO, hu10⟩
              case round =>
                obtain ⟨k4, hk4, rfl, hO4, hur4⟩ := hrel
                clear hO hu10
                by_cases hlt4 : k4 < T + 1
                · have hl4 : (k4 : Int) < (T : Int) + 1 := by omega
                  obtain ⟨x4, cx⟩ := hO4.cell hlt4
                  have cf := hO4.free k4
                  have hO5 := hO4.set k4 (.int .u8 3)
                  have hU5 := hur4.setCell (p := ⟨gy, k4, none⟩) (.inr hgy) (.int .u8 3)
                  clear hO4 hur4
                  go_wp2_with fail
                  go_roundw
                  case rel => exact ⟨k4 + 1, by omega, by go_num, hO5, hU5⟩
                  case measure => simp [intOf]; omega
                · have hl4 : ¬ (k4 : Int) < (T : Int) + 1 := by omega
                  clear hO4
                  have K9 := Lib.hid (K8.out.far hur4 (by simp))
                  have X9 := Lib.hid (X8.out.upd hur4 (by simp))
                  have hU9 := hU8.then hur4
                  clear K8 X8 hU8 hur4
                  have hS1' : 2 ^ n ≤ 1048576 := pow20 (by omega)
                  rw [← HS.out] at hS1'
                  go_wp2_with (first
                    | (go_at_call 55
                       refine (BY.out _ b g _ K11.out.c).mono ?_
                       rintro e w12 ⟨v12, rfl, hv12, hu12⟩
                       obtain ⟨az, cz, rfl⟩ := ownsRow_shape hv12
                       have Z12 := Lib.hid (BNums.ofOwn hv12)
                       have X12 := Lib.hid (X11.out.upd hu12 (by simp))
                       have K12 := Lib.hid (K11.out.far hu12 (by simp))
                       have hU12 := hU11.then hu12)
                    | (go_at_call 58
                       refine (bytes_yes _ _ _ _ _ _ _ (by omega) X12.out Z12.out).mono ?_
                       rintro e w13 ⟨rfl, hu13⟩
                       have K13 := Lib.hid (K12.out.far hu13 (by simp))
                       have hU13 := hU12.then hu13)
                    | (go_at_call 54
                       refine (cellsAll_any K13.out.d).mono ?_
                       rintro e w14 ⟨B', G', rfl, hA14, _, _, hu14⟩
                       have K14 := Lib.hid (K13.out.far hu14 (by simp))
                       have A14 := Lib.hid hA14
                       have hU14 := hU13.then hu14
                       clear hA14)
                    | (go_at_call 57
                       first
                       | (refine (goes_any _ _ _ _ _ 0 hS1' (HS.out ▸ K14.out.l) (HS.out ▸ A14.out)).mono ?_
                          rintro e w15 ⟨rfl, hu15⟩
                          have hU15 := hU14.then hu15)
                       | (refine (goes_any _ _ _ _ _ 0 hS1' (HS.out ▸ K9.out.l) (HS.out ▸ K9.out.t)).mono ?_
                          rintro e w11 ⟨rfl, hu11⟩
                          have K11 := Lib.hid (K9.out.far hu11 (by simp))
                          have X11 := Lib.hid (X9.out.upd hu11 (by simp))
                          have hU11 := hU9.then hu11))
                    | (go_at_call 48
                       refine (awake6 _).mono ?_
                       rintro e w16 ⟨rfl, hu16⟩))
                  go_ret
                  exact ⟨rfl, hU15.then hu16⟩

theorem cellsOwn_walk (L : Int) (a : Option Addr) (len cap : Nat) (l : List (Int × Int)) (w : World) (_ : (Lit.int .i64 L).wf = true) (hl : IsSteps w a len l) :
    Calls Try.prog 12 #[.int .i64 L, .slice a len cap] w (OkV w) := by
  by_cases hbig : 300 < len
  · have hbig' : (300 : Int) < (len : Int) := by omega
    clear hl
    go_enter Try.func12, Try.ntmps12
    go_wp2_with (go_at_call 48; refine (awake6 _).mono ?_; rintro e w' ⟨rfl, hu⟩)
    go_ret
    exact ⟨rfl, hu⟩
  have hbig' : ¬ (300 : Int) < (len : Int) := by omega
  by_cases h1 : L < 3
  · clear hl
    go_enter Try.func12, Try.ntmps12
    go_wp2_with (go_at_call 48; refine (awake6 _).mono ?_; rintro e w' ⟨rfl, hu⟩)
    go_ret
    exact ⟨rfl, hu⟩
  by_cases h2 : 10 < L
  · clear hl
    go_enter Try.func12, Try.ntmps12
    go_wp2_with (go_at_call 48; refine (awake6 _).mono ?_; rintro e w' ⟨rfl, hu⟩)
    go_ret
    exact ⟨rfl, hu⟩
  obtain ⟨n, rfl⟩ := Int.eq_ofNat_of_zero_le (show 0 ≤ L by omega)
  exact cellsOwn_in n a len cap l w hl (by omega) (by omega) (by omega)
end Go.Proofs.Ytnaeehnnjhklbaa
