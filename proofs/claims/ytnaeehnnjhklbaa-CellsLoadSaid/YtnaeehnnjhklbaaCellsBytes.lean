/- The walks of Bytes: the cells' and the document's. -/
import Derived.Test.YtnaeehnnjhklbaaCellsPlays
import Derived.Test.YtnaeehnnjhklbaaTrailLaw
import Derived.Lib.SmallJoins
set_option linter.unusedVariables false
namespace Go.Proofs.Ytnaeehnnjhklbaa
open Go.RowKit

theorem info8u : (Try.prog.info? 5).map (fun i => (i.zero, i.size, i.bytes)) = some (some (.int .u8 0), 1, 1) := by kernel_rfl

theorem run_make_cap (t e : TypeId) (z : Value) (bytes : Nat) (ht : Try.prog.underlying t = some (.slice e)) (hinfo : (Try.prog.info? e).map (fun i => (i.zero, i.size, i.bytes)) = some (some z, 1, bytes)) (hz1 : z.cells = #[z])
    (kl kc : IntKind) (n : Nat) (hbytes : bytes * n ≤ 281474976710656) (h63 : n ≤ 9223372036854775807) (w : World) :
    (Instr.makeSlice t (.int kl 0) (.int kc (n : Int))).run Try.prog w = .ok (.slice (some ⟨w.heap.size, 0, none⟩) 0 n) (w.alloc (.cells (madeCells #[z] n) e)) := by
  obtain ⟨i, hi, hzz⟩ := Option.map_eq_some_iff.1 hinfo
  simp only [Prod.mk.injEq] at hzz
  obtain ⟨hz, hs, hb⟩ := hzz
  have hb' : (i.bytes : Int) * (n : Int) ≤ 281474976710656 := by
    rw [hb]
    have h : ((bytes * n : Nat) : Int) ≤ 281474976710656 := by omega
    rwa [Int.natCast_mul] at h
  have hr := run_make (P := Try.prog) w t e i z ht hi hz kl kc 0 n (by omega) (by omega) hb' (by omega)
  simp only [Int.toNat_natCast, hs, Nat.mul_one, hz1] at hr
  exact hr

/-- Byte number k of a cell that holds v. -/
def byteAt (v : Int) (k : Nat) : Int := v / 2 ^ (8 * k) % 256
def bytesL (f : Nat → Int) (m n : Nat) : List Value := (List.range n).map fun j => .int .u8 (byteAt (f (j / m)) (j % m))
theorem bytesL_length (f : Nat → Int) (m n : Nat) : (bytesL f m n).length = n := by simp [bytesL]
theorem bytesL_succ (f : Nat → Int) (m i k : Nat) (hk : k < m) : bytesL f m (i * m + k + 1) = bytesL f m (i * m + k) ++ [.int .u8 (byteAt (f i) k)] := by
  have h1 : (i * m + k) / m = i := by
    rw [Nat.mul_comm, Nat.mul_add_div (by omega), Nat.div_eq_of_lt hk]; rfl
  have h2 : (i * m + k) % m = k := by
    rw [Nat.mul_comm, Nat.mul_add_mod, Nat.mod_eq_of_lt hk]
  simp [bytesL, List.range_succ, h1, h2]

/-- v: n bytes in new memory: the first of those of f. -/
def Bts (w : World) (f : Nat → Int) (m n : Nat) (v : Value) (w' : World) : Prop := w'.ownsRow w.heap.size 5 1 v n (bytesL f m n) ∧ Upd [] w w'

theorem _root_.Go.World.ownsRow.upd {w w' : World} {base : Nat} {e : TypeId} {size : Nat} {v : Value} {n : Nat} {xs : List Value} (h : w.ownsRow base e size v n xs) (hu : Upd [] w w') : w'.ownsRow base e size v n xs := by
  refine ⟨h.1, ?_⟩
  rcases h.2 with h0 | ⟨g, cap, cur, hv, hb, hg, rest⟩
  · exact .inl h0
  · exact .inr ⟨g, cap, cur, hv, hb, (hu.block g (Array.getElem?_eq_some_iff.1 hg).1 (by simp)).trans hg, rest⟩

theorem cellsBytes_any {w : World} {b g L : Nat} {f : Nat → Int} (h : CellsAt w b g L f) {m : Nat} (hm : (kindOf L).wd = m) (hm0 : 0 < m) (hm4 : m ≤ 4) :
    Calls Try.prog 55 #[.pointer (some ⟨b, 0, none⟩)] w fun e w' => ∃ v, e = .returned v ∧ Bts w f m (2 ^ L * m) v w' := by
  have S := Lib.hid (fun W (hu : Upd [] w W) => (h.upd hu (by simp) (by simp)).size)
  have Wd := Lib.hid (fun W (hu : Upd [] w W) => (h.upd hu (by simp) (by simp)).width)
  rw [hm] at Wd
  have hp := pow20 h.hi
  have hk := kindOf_ok L
  have G := Lib.hid (fun (W : World) (i : Nat) (hi : i < 2 ^ L) (hu : Upd [] w W) => hk.get_any g (2 ^ L) i (f i) W hi (by omega) ((rowIs_upd h.r hu (by simp)).cell hi) (by have := (h.range i hi).1; omega) (by have := (h.range i hi).2; omega))
  have hrng := Lib.hid (fun i hi => h.range i hi)
  have hc := h.c
  clear h hm
  generalize kindOf L = κ at *
  generalize 2 ^ L = n at *
  obtain ⟨T, hT⟩ : ∃ T, T = n * m := ⟨_, rfl⟩
  have hT4 : T ≤ 4194304 := by
    have : n * m ≤ 1048576 * 4 := Nat.mul_le_mul hp hm4
    omega
  have hprod : wrap64 ((n : Int) * (m : Int)) = (T : Int) := by
    have : (n : Int) * (m : Int) = (T : Int) := by rw [hT]; simp
    rw [this]; unfold wrap64; omega
  have hmk := fun W => run_make_cap 103 5 (.int .u8 0) 1 Try.underlying103 info8u rfl .i64 .i64 T (by omega) (by omega) W
  have HT := Lib.hid hT
  rw [← hT]
  clear hT
  obtain ⟨i0, hi, hz0, hz1, hz2⟩ := info_parts info8u
  go_enter Try.func55, Try.ntmps55
  go_wp2_with (first
    | (go_at_call 53; refine (S.out _ (hu2.alloc _)).mono ?_; rintro e w3 ⟨rfl, hu3⟩)
    | (go_at_call 53; refine (S.out _ (Upd.refl _ _)).mono ?_; rintro e w1 ⟨rfl, hu⟩)
    | (go_at_call 92; refine (Wd.out _ hu).mono ?_; rintro e w2 ⟨rfl, hu2'⟩; have hu2 := hu.then hu2'))
  have ho := World.ownsRow_made (base := w.heap.size) (e := 5) (size := 1) w2 (madeCells #[.int .u8 0] T) T hu2.size (by unfold maxLen; omega) (by rw [size_madeCells, Nat.mul_one])
  have hB : Bts w f m 0 (.slice (some ⟨w2.heap.size, 0, none⟩) 0 T) w3 := ⟨ho.upd hu3, (hu2.alloc _).then hu3⟩
  clear ho hu hu2' hu2 hmk
  generalize Value.slice (some ⟨w2.heap.size, 0, none⟩) 0 T = v0 at *
  have m0 := hk.m_get
  have c0 := hk.c_get
  go_loopw [3, 15] (fun o i wr => ∃ k : Nat, k ≤ n ∧ i = .int .i64 k ∧ Bts w f m (k * m) o wr) (fun _ i _ => n - (intOf i).toNat)
  case atStart => exact ⟨0, Nat.zero_le _, rfl, by rw [Nat.zero_mul]; exact hB⟩
  case round =>
    obtain ⟨k, hkn, rfl, hb⟩ := hrel
    clear hB
    by_cases hlt : k < n
    · have hl : (k : Int) < (n : Int) := by omega
      have hcW := hc.upd hb.2 (by simp)
      have c1 := hcW.cell (i := 1) rfl
      have GG := Lib.hid (G.out _ k hlt hb.2)
      go_wp2_with fail
      refine GG.out.mono ?_
      rintro e w4 ⟨rfl, hu4⟩
      have hb4 : Bts w f m (k * m) _ w4 := ⟨hb.1.upd hu4, hb.2.then hu4⟩
      clear hb hcW c1 GG hu4
      go_wp2_with (go_at_call 92; refine (Wd.out _ hb4.2).mono ?_; rintro e w5 ⟨rfl, hu5⟩)
      have hb5 : Bts w f m (k * m + 0) _ w5 := ⟨hb4.1.upd hu5, hb4.2.then hu5⟩
      clear hb4 hu5
      have hr := hrng.out k hlt
      obtain ⟨v, hv⟩ : ∃ v, v = f k := ⟨_, rfl⟩
      rw [← hv] at hr ⊢
      have HV := Lib.hid hv
      clear hv
      go_loopw [3, 26] (fun o i wr => ∃ q : Nat, q ≤ m ∧ i = .int .i64 q ∧ Bts w f m (k * m + q) o wr) (fun _ i _ => m - (intOf i).toNat)
      case atStart => exact ⟨0, Nat.zero_le _, rfl, hb5⟩
      case round =>
        obtain ⟨q, hqm, rfl, hb⟩ := hrel
        clear hb5
        obtain ⟨va, vc, rfl⟩ := ownsRow_shape hb.1
        by_cases hlq : q < m
        · have hl2 : (q : Int) < (m : Int) := by omega
          have hsz := hb.2.size
          have e8 : wrap64 (8 * (q : Int)) = 8 * (q : Int) := by unfold wrap64; omega
          have hT' := HT.out
          have hkm : k * m + q + 1 ≤ 4194304 := by
            have h1 : (k + 1) * m ≤ n * m := Nat.mul_le_mul_right m hlt
            have h2 : (k + 1) * m = k * m + m := Nat.succ_mul k m
            omega
          clear hT'
          have hsucc := bytesL_succ f m k q hlq
          rw [← HV.out] at hsucc
          have HS := Lib.hid hsucc
          have HK := Lib.hid hkm
          clear hsucc hkm
          go_wp2_with (at_builtin; refine wpList_append_own _ rfl _ _ 103 rfl w.heap.size 5 i0 (.int .u8 0) 1 1 Try.underlying103 hi hz0 hz1 hz2 rfl (by decide) _ _ _ rfl (hb.1.alloc _) ⟨wr.heap.size, 0, none⟩ 1 1 [.int .u8 (byteAt v q)] rfl rfl ?c1 ?c2 ?c3 ?c4 ?c5 ?_)
          case c1 => exact cell_one_new _ _ _
          case c2 => intro u hu; simp at hu; subst hu; rfl
          case c3 => have := HK.out; unfold maxLen; omega
          case c4 => have := HK.out; omega
          case c5 => simp; omega
          intro v' w6 hown hgrow _
          have hb6 : Bts w f m (k * m + (q + 1)) v' w6 := ⟨by rw [← Nat.add_assoc, HS.out]; exact hown, (hb.2.alloc _).grown hgrow (fun x hx => .inr (hb.1.lt x hx).1)⟩
          clear hown hgrow hb HS e8
          go_wp2_with fail
          go_roundw
          case rel => exact ⟨q + 1, by omega, by go_num, hb6⟩
          case measure => simp [intOf]; omega
        · obtain rfl : q = m := by omega
          go_wp2_with fail
          go_roundw
          case rel => exact ⟨k + 1, by omega, by go_num, by rw [Nat.succ_mul]; exact hb⟩
          case measure => simp [intOf]; omega
    · obtain rfl : k = n := by omega
      go_wp2_with fail
      go_ret
      exact ⟨_, rfl, by rw [HT.out]; exact hb⟩

theorem byte_u (v : Int) (q : Nat) (hq : q < 4) : v % 4294967296 / 2 ^ (8 * q) % 256 = byteAt v q := by
  unfold byteAt
  rcases (by omega : q = 0 ∨ q = 1 ∨ q = 2 ∨ q = 3) with rfl | rfl | rfl | rfl <;> simp <;> omega

theorem refBytes_any {w : World} {r L : Nat} {f : Nat → Int} (h : RefAt w r L f) (h3 : 3 ≤ L) (hL : L ≤ 20) (hv : ∀ i, i < 2 ^ L → -2 ≤ f i ∧ f i < 1048576) {m : Nat} (hm : (kindOf L).wd = m) (hm0 : 0 < m) (hm4 : m ≤ 4) :
    Calls Try.prog 59 #[refV r L (2 ^ L)] w fun e w' => ∃ v, e = .returned v ∧ Bts w f m (2 ^ L * m) v w' := by
  have hp := pow20 hL
  have Wd := Lib.hid (fun W => refWidth_in L W h3 hL)
  rw [hm] at Wd
  have hrng := Lib.hid hv
  have hb0 := Blk.new w 94 [.int .i64 L, .slice (some ⟨r, 0, none⟩) (2 ^ L : Nat) (2 ^ L : Nat)]
  have hu0 := (Upd.refl [] w).alloc (.cells #[.int .i64 L, .slice (some ⟨r, 0, none⟩) (2 ^ L : Nat) (2 ^ L : Nat)] 94)
  have hr0 : RefAt (w.alloc (.cells #[.int .i64 L, .slice (some ⟨r, 0, none⟩) (2 ^ L : Nat) (2 ^ L : Nat)] 94)) r L f := h.upd hu0 (by simp)
  unfold RefAt at hr0
  clear h hm hv
  generalize 2 ^ L = n at *
  obtain ⟨T, hT⟩ : ∃ T, T = n * m := ⟨_, rfl⟩
  have hT4 : T ≤ 4194304 := by
    have : n * m ≤ 1048576 * 4 := Nat.mul_le_mul hp hm4
    omega
  have HT := Lib.hid hT
  rw [← hT]
  clear hT
  obtain ⟨i0, hi, hz0, hz1, hz2⟩ := info_parts info8u
  go_enter Try.func59, Try.ntmps59
  go_wp2_with fail
  generalize w.alloc _ = W at *
  obtain ⟨B, hB⟩ : ∃ B, B = w.heap.size := ⟨_, rfl⟩
  rw [← hB] at hb0 ⊢
  clear hB
  have hB0 : Bts W f m 0 (.slice none 0 0) W := ⟨World.ownsRow_nil _ _ _ _, Upd.refl _ _⟩
  go_loopw [3, 4] (fun o i wr => ∃ k : Nat, k ≤ n ∧ i = .int .i64 k ∧ Bts W f m (k * m) o wr) (fun _ i _ => n - (intOf i).toNat)
  case atStart => exact ⟨0, Nat.zero_le _, rfl, by rw [Nat.zero_mul]; exact hB0⟩
  case round =>
    obtain ⟨k, hkn, rfl, hb⟩ := hrel
    have hU := hb.2
    clear hB0
    have hbW := hb0.upd hU (by simp)
    have d0 := hbW.cell (i := 0) rfl
    have d1 := hbW.cell (i := 1) rfl
    obtain ⟨va, vc, rfl⟩ := ownsRow_shape hb.1
    by_cases hlt : k < n
    · have hl : (k : Int) < (n : Int) := by omega
      have cc := (rowIs_upd hr0 hU (by simp)).cell hlt
      have hr := hrng.out k hlt
      obtain ⟨v, hv⟩ : ∃ v, v = f k := ⟨_, rfl⟩
      rw [← hv] at hr cc
      have HV := Lib.hid hv
      have e32 : wrap32 v = v := by unfold wrap32; omega
      clear hv
      go_wp2_with fail
      go_loopw [3, 6] (fun o i wr => ∃ q : Nat, q ≤ m ∧ i = .int .i64 q ∧ Bts W f m (k * m + q) o wr) (fun _ i _ => m - (intOf i).toNat)
      case atStart => exact ⟨0, Nat.zero_le _, rfl, hb⟩
      case round =>
        obtain ⟨q, hqm, rfl, hb⟩ := hrel
        have hU := hb.2
        clear hbW d0 d1 cc
        have hbW := hb0.upd hU (by simp)
        have d0 := hbW.cell (i := 0) rfl
        have d1 := hbW.cell (i := 1) rfl
        obtain ⟨va, vc, rfl⟩ := ownsRow_shape hb.1
        by_cases hlq : q < m
        · have hl2 : (q : Int) < (m : Int) := by omega
          have hsz := hb.2.size
          have e8 : wrap64 (8 * (q : Int)) = 8 * (q : Int) := by unfold wrap64; omega
          have hT' := HT.out
          have hkm : k * m + q + 1 ≤ 4194304 := by
            have h1 : (k + 1) * m ≤ n * m := Nat.mul_le_mul_right m hlt
            have h2 : (k + 1) * m = k * m + m := Nat.succ_mul k m
            omega
          clear hT'
          have hsucc := bytesL_succ f m k q hlq
          rw [← HV.out] at hsucc
          have HS := Lib.hid hsucc
          have HK := Lib.hid hkm
          have HB := Lib.hid (byte_u v q (by omega))
          clear hsucc hkm
          go_wp2_with (first | (go_at_call 93; refine (Wd.out _).mono ?_; rintro e w5 ⟨rfl, rfl⟩) | (at_builtin; refine wpList_append_own _ rfl _ _ 103 rfl W.heap.size 5 i0 (.int .u8 0) 1 1 Try.underlying103 hi hz0 hz1 hz2 rfl (by decide) _ _ _ rfl (hb.1.alloc _) ⟨wr.heap.size, 0, none⟩ 1 1 [.int .u8 (v % 4294967296 / 2 ^ (8 * q) % 256)] rfl rfl ?c1 ?c2 ?c3 ?c4 ?c5 ?_))
          case c1 => exact cell_one_new _ _ _
          case c2 => intro u hu; simp at hu; subst hu; rfl
          case c3 => have := HK.out; unfold maxLen; omega
          case c4 => have := HK.out; omega
          case c5 => simp; omega
          intro v' w6 hown hgrow _
          rw [HB.out] at hown
          have hb6 : Bts W f m (k * m + (q + 1)) v' w6 := ⟨by rw [← Nat.add_assoc, HS.out]; exact hown, (hb.2.alloc _).grown hgrow (fun x hx => .inr (hb.1.lt x hx).1)⟩
          clear hown hgrow hb hU HS e8 hbW d0 d1
          go_wp2_with fail
          go_roundw
          case rel => exact ⟨q + 1, by omega, by go_num, hb6⟩
          case measure => simp [intOf]; omega
        · obtain rfl : q = m := by omega
          go_wp2_with (go_at_call 93; refine (Wd.out _).mono ?_; rintro e w5 ⟨rfl, rfl⟩)
          go_roundw
          case rel => exact ⟨k + 1, by omega, by go_num, by rw [Nat.succ_mul]; exact hb⟩
          case measure => simp [intOf]; omega
    · obtain rfl : k = n := by omega
      go_wp2_with fail
      go_ret
      exact ⟨_, rfl, by rw [HT.out]; exact ⟨Go.Joins.ownsRow_le hb.1 hu0.size, hu0.then hb.2⟩⟩

/-- A slice of n bytes reads as F. -/
def BNums (w : World) (a : Option Addr) (n : Nat) (F : Nat → Int) : Prop :=
  n = 0 ∨ ∃ b off, a = some ⟨b, off, none⟩ ∧ b < w.heap.size ∧ ∀ i, i < n → w.cell? ⟨b, off + i, none⟩ = some (.int .u8 (F i))
theorem BNums.upd {w w' : World} {fp : List Nat} {a : Option Addr} {n : Nat} {F : Nat → Int} (h : BNums w a n F) (hu : Upd fp w w') (hn : ∀ b off, a = some ⟨b, off, none⟩ → b ∉ fp) : BNums w' a n F := by
  rcases h with h | ⟨b, off, e, hb, hc⟩
  · exact .inl h
  · exact .inr ⟨b, off, e, Nat.lt_of_lt_of_le hb hu.size, fun i hi => (World.cell?_of_block (w := w) (a := ⟨b, off + i, none⟩) (hu.block b hb (hn b off e))).trans (hc i hi)⟩
theorem BNums.ofOwn {w : World} {base n : Nat} {a : Option Addr} {cap : Nat} {f : Nat → Int} {m : Nat} (h : w.ownsRow base 5 1 (.slice a n cap) n (bytesL f m n)) : BNums w a n (fun j => byteAt (f (j / m)) (j % m)) := by
  rcases h.2 with ⟨_, h0⟩ | ⟨g, cap', cur, hv, hb, hg, hnc, _, hs, ht⟩
  · exact .inl h0
  · simp at hv
    obtain ⟨rfl, rfl⟩ := hv
    refine .inr ⟨g, 0, rfl, (Array.getElem?_eq_some_iff.1 hg).1, fun i hi => ?_⟩
    have h1 : (bytesL f m n)[i]? = some (.int .u8 (byteAt (f (i / m)) (i % m))) := by simp [bytesL, hi]
    rw [← ht, List.getElem?_take, if_pos (by omega)] at h1
    simp [World.cell?, hg]
    simpa using h1

theorem bytes_yes (w : World) (a a' : Option Addr) (n c c' : Nat) (F : Nat → Int) (hn : n ≤ 5000000) (h : BNums w a n F) (h' : BNums w a' n F) :
    Calls Try.prog 58 #[.slice a n c, .slice a' n c'] w (OkV w) := by
  go_enter Try.func58, Try.ntmps58
  go_wp2_with fail
  go_loopw [5] (fun i wr => ∃ k : Nat, k ≤ n ∧ i = .int .i64 k ∧ Upd [] w wr) (fun i _ => n - (intOf i).toNat)
  case atStart => exact ⟨0, Nat.zero_le _, rfl, Upd.refl _ _⟩
  case round =>
    obtain ⟨k, hk, rfl, hu⟩ := hrel
    by_cases hlt : k < n
    · have hl : (k : Int) < (n : Int) := by omega
      rcases h.upd hu (by simp) with h0 | ⟨b, off, rfl, hb, hc⟩
      · omega
      rcases h'.upd hu (by simp) with h0 | ⟨b', off', rfl, hb', hc'⟩
      · omega
      have x0 := hc k hlt
      have x1 := hc' k hlt
      clear hc hc' h h'
      go_wp2_with fail
      go_quiet (fail)
      go_wp2_with fail
      go_roundw
      case rel => exact ⟨k + 1, by omega, by go_num, hu.drewN _⟩
      case measure => simp [intOf]; omega
    · go_wp2_with fail
      go_ret
      exact ⟨rfl, hu⟩
end Go.Proofs.Ytnaeehnnjhklbaa
