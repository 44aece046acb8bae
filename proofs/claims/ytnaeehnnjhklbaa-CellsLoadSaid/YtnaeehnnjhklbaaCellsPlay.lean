/- The walk of CellsPlay. -/
import Derived.Test.YtnaeehnnjhklbaaCellsWide
import Derived.Test.YtnaeehnnjhklbaaCellsAll
import Derived.Test.YtnaeehnnjhklbaaCellsBytes
set_option linter.unusedVariables false
namespace Go.Proofs.Ytnaeehnnjhklbaa
open Go.RowKit

theorem eqlNilSeq2 (fn : Fn) (first cap : Array Value) (w : World) : (binOp .neq 101 (.func fn first cap) .nilFunc).run Try.prog w = .ok (.bool true) w := by kernel_rfl
theorem eqlNilSeq2' (fn : Fn) (first cap : Array Value) (w : World) : (binOp .eql 101 (.func fn first cap) .nilFunc).run Try.prog w = .ok (.bool false) w := by kernel_rfl

theorem kind_wd (L : Nat) : ∃ m : Nat, (kindOf L).wd = m ∧ 0 < m ∧ m ≤ 4 := by
  rcases kindOf_ok L with h | h | h <;> rw [h]
  · exact ⟨1, rfl, by omega, by omega⟩
  · exact ⟨2, rfl, by omega, by omega⟩
  · exact ⟨4, rfl, by omega, by omega⟩

set_option maxHeartbeats 2000000 in
theorem cellsPlay_in (n : Nat) (a : Option Addr) (len cap : Nat) (l : List (Int × Int)) (stop : Int) (w : World) (hl : IsSteps w a len l) (hlen : len ≤ 300) (h3 : 3 ≤ n) (h12 : n ≤ 12) :
    Calls Try.prog 13 #[.int .i64 n, .slice a len cap, .int .i64 stop] w (OkV w) := by
  have hbig' : ¬ (300 : Int) < (len : Int) := by omega
  have hn12 : ¬ (12 : Int) < (n : Int) := by omega
  have N := Lib.hid (new_in n w h3 (by omega))
  have R := Lib.hid (fun W => refNew_in n W h3 (by omega))
  have hl := Lib.hid hl
  go_enter Try.func13, Try.ntmps13
  go_wp2_with fail
  refine N.out.mono ?_
  rintro e w1 ⟨b, g, rfl, hc, hb, hg, hu⟩
  clear N
  have hc := Lib.hid hc
  go_wp2_with fail
  refine (R.out w1).mono ?_
  rintro e w2 ⟨r, rfl, hr, hrl, hu2⟩
  clear R
  have hb1 := hc.out.c.lt
  have hg1 := World.rowIs.lt hc.out.r
  have H := Lib.hid (Both.mk (hc.out.upd hu2 (by simp) (by simp)) hr (by omega) (by omega))
  have hU := hu.then hu2
  have hl2 : w.heap.size ≤ r := by have := hu.size; omega
  clear hc hu hu2 hr hb1 hg1
  have hT := Blk.new w2 94 [.int .i64 n, .slice (some ⟨r, 0, none⟩) (2 ^ n : Nat) (2 ^ n : Nat)]
  have hU1 := hU.alloc (.cells #[.int .i64 n, .slice (some ⟨r, 0, none⟩) (2 ^ n : Nat) (2 ^ n : Nat)] 94)
  have H1 := Lib.hid (H.out.upd ((Upd.refl [] w2).alloc (.cells #[.int .i64 n, .slice (some ⟨r, 0, none⟩) (2 ^ n : Nat) (2 ^ n : Nat)] 94)) (by simp) (by simp) (by simp))
  have hrT := World.rowIs.lt H.out.rr
  have hgT := World.rowIs.lt H.out.cc.r
  clear hU H
  go_wp2_with fail
  generalize w2.alloc _ = W at *
  obtain ⟨T, hTT⟩ : ∃ T, T = w2.heap.size := ⟨_, rfl⟩
  rw [← hTT] at hT hrT hgT ⊢
  clear hTT
  have hTW := hT.drew
  have hUW := hU1.drew
  have HW := Lib.hid (H1.out.upd (Upd.refl [] W).drew (by simp) (by simp) (by simp))
  have c0 := hTW.cell (i := 0) rfl
  have c1 := hTW.cell (i := 1) rfl
  obtain ⟨m, hm, hm0, hm4⟩ := kind_wd n
  have HM := Lib.hid hm
  clear hm
  go_region_held3 (fun w' => w'.cell? ⟨T, 0, none⟩ = some (.int .i64 n) ∧ w'.cell? ⟨T, 1, none⟩ = some (.slice (some ⟨r, 0, none⟩) (2 ^ n : Nat) (2 ^ n : Nat)))
    (first | exact ⟨c0, c1⟩ | exact ⟨d0, d1⟩ | exact ⟨e0, e1⟩ | exact ⟨f0, f1⟩ | exact ⟨g0, g1⟩ | exact ⟨i0, i1⟩)
    (first
    | (go_at_call 51
       refine (alike_any HW.out.cc r).mono ?_
       rintro e w3 ⟨rfl, hu3⟩
       have H3 := Lib.hid (HW.out.upd hu3 (by simp) (by simp) (by simp))
       have hT3 := hTW.upd hu3 (by simp)
       have hU3 := hUW.then hu3
       have d0 := hT3.cell (i := 0) rfl
       have d1 := hT3.cell (i := 1) rfl)
    | (go_at_call 52
       refine (plays_any a len cap l _ (hl.out.upd hU3) hlen (hl.out.apart hg hl2) H3.out).mono ?_
       rintro e w4 ⟨rfl, ⟨f, hf⟩, hu4⟩
       have H4 := Lib.hid hf
       have hT4 := hT3.upd hu4 (by simp; omega)
       have hU4 : Upd [] w w4 := hU3.trans hu4 (by simp; omega)
       have e0 := hT4.cell (i := 0) rfl
       have e1 := hT4.cell (i := 1) rfl)
    | (go_at_call 55
       refine (cellsBytes_any H4.out.cc HM.out hm0 hm4).mono ?_
       rintro e w5 ⟨v5, rfl, hv5, hu5⟩
       have H5 := Lib.hid (H4.out.upd hu5 (by simp) (by simp) (by simp))
       have hT5 := hT4.upd hu5 (by simp)
       have hU5 := hU4.then hu5
       have f0 := hT5.cell (i := 0) rfl
       have f1 := hT5.cell (i := 1) rfl)
    | (go_at_call 59
       refine (refBytes_any H5.out.rr h3 (by omega) H5.out.cc.range HM.out hm0 hm4).mono ?_
       rintro e w6 ⟨v6, rfl, hv6, hu6⟩
       have H6 := Lib.hid (H5.out.upd hu6 (by simp) (by simp) (by simp))
       have hT6 := hT5.upd hu6 (by simp)
       have hU6 := hU5.then hu6
       have g0 := hT6.cell (i := 0) rfl
       have g1 := hT6.cell (i := 1) rfl
       obtain ⟨va, vc, rfl⟩ := ownsRow_shape hv5
       obtain ⟨va', vc', rfl⟩ := ownsRow_shape hv6
       have x5 := Lib.hid (BNums.upd (BNums.ofOwn hv5) hu6 (by simp))
       have x6 := Lib.hid (BNums.ofOwn hv6))
    | (go_at_call 58
       refine (bytes_yes _ _ _ _ _ _ _ (by have : 2 ^ n ≤ 4096 := Nat.pow_le_pow_right (by omega) h12; have : 2 ^ n * m ≤ 4096 * 4 := Nat.mul_le_mul this hm4; omega) x5.out x6.out).mono ?_
       rintro e w7 ⟨rfl, hu7⟩
       have H7 := Lib.hid (H6.out.upd hu7 (by simp) (by simp) (by simp))
       have hT7 := hT6.upd hu7 (by simp)
       have hU7 := hU6.then hu7
       have i0 := hT7.cell (i := 0) rfl
       have i1 := hT7.cell (i := 1) rfl))
  have hq := eqlNilSeq2
  have hqq := eqlNilSeq2'
  have hp20 : 2 ^ n ≤ 1048576 := pow20 (by omega)
  clear hTW hUW HW c0 c1 hu3 H3 hT3 hU3 d0 d1 hf hu4 H4 hT4 hU4 e0 e1 hv5 hu5 H5 hT5 hU5 f0 f1 hv6 hu6 H6 hT6 hU6 g0 g1 x5 x6 hu7 hT hU1 H1
  go_wp2_with (first
    | (go_at_call 54
       refine (cellsAll_any H7.out.cc).mono ?_
       rintro e w8 ⟨B, G, rfl, hA8, hB8, hG8, hu8⟩
       have H8 := Lib.hid (H7.out.upd hu8 (by simp) (by simp) (by simp))
       have A8 := Lib.hid hA8
       have hT8 := hT7.upd hu8 (by simp)
       have hU8 := hU7.then hu8
       have j0 := hT8.cell (i := 0) rfl
       have j1 := hT8.cell (i := 1) rfl
       clear hA8)
    | (go_at_call 57
       first
       | (refine (goes_any _ _ _ _ f 0 hp20 (Nums.row H9.out.rr) A9.out).mono ?_
          rintro e w10 ⟨rfl, hu10⟩
          have hU10 := hU9.then hu10)
       | (refine (goes_any _ _ _ _ f stop hp20 (Nums.row H8.out.rr) A8.out).mono ?_
          rintro e w9 ⟨rfl, hu9⟩
          have H9 := Lib.hid (H8.out.upd hu9 (by simp) (by simp) (by simp))
          have A9 := Lib.hid (A8.out.upd hu9 (by simp) (by simp))
          have hT9 := hT8.upd hu9 (by simp)
          have hU9 := hU8.then hu9
          have k0 := hT9.cell (i := 0) rfl
          have k1 := hT9.cell (i := 1) rfl))
    | (go_at_call 48
       refine (awake6 _).mono ?_
       rintro e w11 ⟨rfl, hu11⟩))
  go_ret
  exact ⟨rfl, hU10.then hu11⟩

theorem cellsPlay_walk (L : Int) (a : Option Addr) (len cap : Nat) (l : List (Int × Int)) (stop : Int) (w : World) (_ : (Lit.int .i64 L).wf = true) (hl : IsSteps w a len l) (_ : (Lit.int .i64 stop).wf = true) :
    Calls Try.prog 13 #[.int .i64 L, .slice a len cap, .int .i64 stop] w (OkV w) := by
  by_cases hbig : 300 < len
  · have hbig' : (300 : Int) < (len : Int) := by omega
    clear hl
    go_enter Try.func13, Try.ntmps13
    go_wp2_with (go_at_call 48; refine (awake6 _).mono ?_; rintro e w' ⟨rfl, hu⟩)
    go_ret
    exact ⟨rfl, hu⟩
  have hbig' : ¬ (300 : Int) < (len : Int) := by omega
  by_cases h1 : 12 < L
  · by_cases h2 : L ≤ 20
    · clear hl
      go_enter Try.func13, Try.ntmps13
      go_wp2_with (go_at_call 48; refine (awake6 _).mono ?_; rintro e w' ⟨rfl, hu⟩)
      go_ret
      exact ⟨rfl, hu⟩
    · have N := Lib.hid (new_out L w (by omega))
      have R := Lib.hid (fun W => refNew_out L W (by omega))
      clear hl
      go_enter Try.func13, Try.ntmps13
      go_wp2_with (first
        | (go_at_call 49; refine N.out.mono ?_; rintro e w1 ⟨rfl, rfl⟩)
        | (go_at_call 50; refine (R.out _).mono ?_; rintro e w2 ⟨rfl, hu⟩; have hu2 := hu.alloc (.cells #[.int .i64 0, .slice none 0 0] 94))
        | (go_at_call 48; refine (awake6 _).mono ?_; rintro e w3 ⟨rfl, hu3⟩))
      go_ret
      exact ⟨rfl, hu2.then hu3⟩
  · by_cases h3 : 3 ≤ L
    · obtain ⟨n, rfl⟩ := Int.eq_ofNat_of_zero_le (show 0 ≤ L by omega)
      exact cellsPlay_in n a len cap l stop w hl (by omega) (by omega) (by omega)
    · have N := Lib.hid (new_out L w (by omega))
      have R := Lib.hid (fun W => refNew_out L W (by omega))
      clear hl
      go_enter Try.func13, Try.ntmps13
      go_wp2_with (first
        | (go_at_call 49; refine N.out.mono ?_; rintro e w1 ⟨rfl, rfl⟩)
        | (go_at_call 50; refine (R.out _).mono ?_; rintro e w2 ⟨rfl, hu⟩; have hu2 := hu.alloc (.cells #[.int .i64 0, .slice none 0 0] 94))
        | (go_at_call 48; refine (awake6 _).mono ?_; rintro e w3 ⟨rfl, hu3⟩))
      go_ret
      exact ⟨rfl, hu2.then hu3⟩
end Go.Proofs.Ytnaeehnnjhklbaa
