/- The walks of Load: the cells' and the document's. -/
import Derived.Test.YtnaeehnnjhklbaaCellsOwn
import Derived.Laws.BitsLemmas
set_option linter.unusedVariables false
namespace Go.Proofs.Ytnaeehnnjhklbaa
open Go.RowKit

theorem room_blk {w : World} {b g L : Nat} (hL : L ≤ 20) (hc : Blk w b 115 (cellsL (kindOf L) L g (2 ^ L))) :
    Calls Try.prog 88 #[.pointer (some ⟨b, 0, none⟩)] w fun e w' => e = .returned (.int .i64 (room L : Nat)) ∧ Upd [] w w' := by
  have H := Lib.hid (size_some (kindOf_ok L) b g (2 ^ L) L w hc)
  have hp := pow20 hL
  have e : (Ytnaeehnnjhklbaa.room L : Int) = 2 * ((2 ^ L : Nat) : Int) / 3 := by unfold Ytnaeehnnjhklbaa.room; omega
  rw [e]
  clear hc e
  generalize 2 ^ L = n at *
  go_enter Try.func88, Try.ntmps88
  go_wp2_with (go_at_call 53; refine H.out.mono ?_; rintro e w' ⟨rfl, hu⟩)
  go_ret
  exact ⟨rfl, hu⟩
theorem may_blk {w : World} {b g L : Nat} (hL : L ≤ 20) (hc : Blk w b 115 (cellsL (kindOf L) L g (2 ^ L))) (v : Int) : Calls Try.prog 99 #[.pointer (some ⟨b, 0, none⟩), .int .i64 v] w fun e w' => e = .returned (.bool (mayB L v)) ∧ Upd [] w w' := by
  have H := Lib.hid (room_blk hL hc)
  have hr := room_le hL
  clear hc
  unfold mayB
  generalize Ytnaeehnnjhklbaa.room L = n at *
  by_cases h1 : v = -1
  · subst h1
    go_enter Try.func99, Try.ntmps99
    go_wp2_with (go_at_call 88; refine H.out.mono ?_; rintro e w' ⟨rfl, hu⟩)
    go_ret
    exact ⟨rfl, Upd.refl _ _⟩
  have h1' : (v == -1) = false := by simpa using h1
  by_cases h2 : v = -2
  · subst h2
    go_enter Try.func99, Try.ntmps99
    go_wp2_with (go_at_call 88; refine H.out.mono ?_; rintro e w' ⟨rfl, hu⟩)
    go_ret
    exact ⟨rfl, Upd.refl _ _⟩
  have h2' : (v == -2) = false := by simpa using h2
  rw [h1', h2']
  clear h1 h2
  by_cases h3 : 0 ≤ v
  · go_enter Try.func99, Try.ntmps99
    go_wp2_with (go_at_call 88; refine H.out.mono ?_; rintro e w' ⟨rfl, hu⟩)
    go_ret
    exact ⟨ret_bool (by simp [h3]), hu⟩
  · go_enter Try.func99, Try.ntmps99
    go_wp2_with (go_at_call 88; refine H.out.mono ?_; rintro e w' ⟨rfl, hu⟩)
    go_ret
    exact ⟨ret_bool (by simp; omega), Upd.refl _ _⟩

/-- The bytes of cell i, as a number; j of them from above. -/
def numF (F : Nat → Int) (m i : Nat) : Nat → Int
  | 0 => 0
  | j + 1 => numF F m i j * 256 + F (i * m + (m - 1 - j))
/-- What a cell of those bytes holds. -/
def valF (F : Nat → Int) (m i : Nat) : Int := if m = 1 then IntKind.i8.wrap (numF F m i m) else IntKind.i16.wrap (numF F m i m)

theorem or8 (U x : Int) (hU : 0 ≤ U ∧ U < 65536) (hx : 0 ≤ x ∧ x ≤ 255) : bits .or .u32 (U * 256) x = U * 256 + x :=
  bits_join .u32 32 (by decide) (fun n h0 h1 => by rw [IntKind.wrap_u32]; omega) 8 (U * 256) x (by omega) (by omega) (by omega) hx.1 (by omega) (by omega)
theorem wrap_add {p q i : Nat} (h : i = p + q) (hi : i ≤ 100000) : wrap64 ((p : Int) + (q : Int)) = (i : Int) := by unfold wrap64; omega
theorem idx_lt {p q i m j T : Nat} (h : i = p + q) (hq : (m : Int) - 1 - j = (q : Int)) (hj : j < m) (hT : p + m ≤ T) : i < T := by omega
theorem idx_eq {p q i m j k : Nat} (h : i = p + q) (hq : (m : Int) - 1 - j = (q : Int)) (hj : j < m) (hp : p = k * m) : i = k * m + (m - 1 - j) := by rw [← hp]; omega
theorem numF_succ (F : Nat → Int) (m i j : Nat) : numF F m i (j + 1) = numF F m i j * 256 + F (i * m + (m - 1 - j)) := rfl
theorem numF_le (F : Nat → Int) (m i : Nat) (hF : ∀ j, 0 ≤ F j ∧ F j ≤ 255) : ∀ j, j ≤ 2 → 0 ≤ numF F m i j ∧ numF F m i j < 65536 := by
  intro j hj
  rcases (by omega : j = 0 ∨ j = 1 ∨ j = 2) with rfl | rfl | rfl
  · simp [numF]
  · have := hF (i * m + (m - 1 - 0)); simp only [numF]; omega
  · have := hF (i * m + (m - 1 - 0)); have := hF (i * m + (m - 1 - 1)); simp only [numF]; omega

theorem valF_8 (F : Nat → Int) (k : Nat) (U : Int) (hU : U = numF F 1 k 1) : K8.k.wrap U = valF F 1 k ∧ -2147483648 ≤ valF F 1 k ∧ valF F 1 k ≤ 2147483647 := by
  have e : valF F 1 k = IntKind.i8.wrap U := by unfold valF; rw [if_pos rfl, hU]
  rw [e]
  refine ⟨rfl, ?_⟩
  simp only [IntKind.wrap, IntKind.bits, IntKind.signed]
  simp
  omega
theorem valF_16 (F : Nat → Int) (k : Nat) (U : Int) (hU : U = numF F 2 k 2) : K16.k.wrap U = valF F 2 k ∧ -2147483648 ≤ valF F 2 k ∧ valF F 2 k ≤ 2147483647 := by
  have e : valF F 2 k = IntKind.i16.wrap U := by unfold valF; rw [if_neg (by omega), hU]
  rw [e]
  refine ⟨rfl, ?_⟩
  simp only [IntKind.wrap, IntKind.bits, IntKind.signed]
  simp
  omega

/-- Load's answer: why there are no cells. -/
def LoadOk (L m : Nat) (F : Nat → Int) : Prop := ∀ i, i < 2 ^ L → mayB L (valF F m i) = true

theorem load_in (w : World) (L m : Nat) (a : Option Addr) (cap : Nat) (F : Nat → Int) (h3 : 3 ≤ L) (h12 : L ≤ 12) (hkm : (kindOf L = K8 ∧ m = 1) ∨ (kindOf L = K16 ∧ m = 2)) (hF : ∀ j, 0 ≤ F j ∧ F j ≤ 255) (hb : BNums w a (2 ^ L * m) F) :
    Calls Try.prog 61 #[.int .i64 L, .slice a (2 ^ L * m : Nat) cap] w fun e w' =>
      (e = .returned (.tuple #[.pointer none, .int .i64 1]) ∧ ¬ LoadOk L m F ∧ Upd [] w w') ∨
      (∃ b g, e = .returned (.tuple #[.pointer (some ⟨b, 0, none⟩), .int .i64 0]) ∧ LoadOk L m F ∧ CellsAt w' b g L (valF F m) ∧ w.heap.size ≤ b ∧ w.heap.size ≤ g ∧ Upd [] w w') := by
  have N := Lib.hid (new_in L w h3 (by omega))
  have hp : 2 ^ L ≤ 4096 := Nat.pow_le_pow_right (by omega) h12
  have hwd : (kindOf L).wd = m := by rcases hkm with ⟨h, rfl⟩ | ⟨h, rfl⟩ <;> rw [h] <;> rfl
  have hm2 : m ≤ 2 ∧ 0 < m := by rcases hkm with ⟨h, rfl⟩ | ⟨h, rfl⟩ <;> omega
  have Wd := Lib.hid (fun W b g f (h : CellsAt W b g L f) => h.width)
  have SZ := Lib.hid (fun W b g f (h : CellsAt W b g L f) => h.size)
  rw [hwd] at Wd
  obtain ⟨S, hS⟩ : ∃ S, S = 2 ^ L := ⟨_, rfl⟩
  obtain ⟨T, hT⟩ : ∃ T, T = 2 ^ L * m := ⟨_, rfl⟩
  have hT1 : T ≤ 8192 := by
    have : 2 ^ L * m ≤ 4096 * 2 := Nat.mul_le_mul hp hm2.1
    omega
  rw [← hT] at hb ⊢
  rw [← hS] at hT hp SZ
  have hprod : wrap64 ((m : Int) * (S : Int)) = (T : Int) := by
    have : (m : Int) * (S : Int) = (T : Int) := by rw [hT, Nat.mul_comm]; simp
    rw [this]; unfold wrap64; omega
  have HS := Lib.hid hS
  have HT := Lib.hid hT
  have HK := Lib.hid hkm
  clear hS hT hwd hkm
  go_enter Try.func61, Try.ntmps61
  go_wp2_with fail
  refine N.out.mono ?_
  rintro e w1 ⟨b, g, rfl, hc, hbl, hgl, hu⟩
  have HC := Lib.hid hc
  clear hc N
  go_wp2_with (first
    | (go_at_call 92; refine (Wd.out _ b g _ HC.out).mono ?_; rintro e w2 ⟨rfl, hu2⟩; have HC2 := Lib.hid (HC.out.upd hu2 (by simp) (by simp)); have hU2 := hu.then hu2)
    | (go_at_call 53; first
       | (refine (SZ.out _ b g _ HC3.out).mono ?_; rintro e w4 ⟨rfl, hu4⟩; have HC4 := Lib.hid (HC3.out.upd hu4 (by simp) (by simp)); have hU4 := hU3.then hu4)
       | (refine (SZ.out _ b g _ HC2.out).mono ?_; rintro e w3 ⟨rfl, hu3⟩; have HC3 := Lib.hid (HC2.out.upd hu3 (by simp) (by simp)); have hU3 := hU2.then hu3)))
  have hc0 := HC4.out.c
  have hr0 := HC4.out.r
  have hk := kindOf_ok L
  rw [← HS.out] at hc0 hr0
  have MB := Lib.hid (fun W (hc : Blk W b 115 (cellsL (kindOf L) L g (2 ^ L))) => may_blk (by omega) hc)
  rw [← HS.out] at MB
  obtain ⟨κ, hκ⟩ : ∃ κ, κ = kindOf L := ⟨_, rfl⟩
  rw [← hκ] at hc0 hr0 hk MB
  have Hκ := Lib.hid hκ
  have hgl' : w.heap.size ≤ g := hgl
  have hgb := HC4.out.ne
  clear hκ HC4 HC3 HC2 HC hu hU2 hU3 hu2 hu3 hu4 Wd SZ
  have mset := hk.m_set
  have cset := hk.c_set
  have mget := hk.m_get
  have cget := hk.c_get
  go_loopw [9, 10, 11, 31] (fun _ _ _ i wr => ∃ k : Nat, k ≤ S ∧ i = .int .i64 k ∧ Blk wr b 115 (cellsL κ L g S) ∧ wr.rowIs g κ.E S (fun j => .int κ.k (if j < k then valF F m j else -1)) ∧ Upd [] w wr ∧ Hid (∀ j, j < k → mayB L (valF F m j) = true)) (fun _ _ _ i _ => S - (intOf i).toNat)
  case atStart => exact ⟨0, Nat.zero_le _, rfl, hc0, hr0.congr (fun j _ => by simp), hU4, Lib.hid (fun j hj => by omega)⟩
  case round =>
    obtain ⟨k, hkS, rfl, hc, hr, hur, HM⟩ := hrel
    clear hc0 hr0 hU4
    by_cases hlt : k < S
    · have hl : (k : Int) < (S : Int) := by omega
      obtain ⟨Pk, hPk⟩ : ∃ Pk, Pk = k * m := ⟨_, rfl⟩
      have hPT : Pk + m ≤ T := by
        have h1 : (k + 1) * m ≤ S * m := Nat.mul_le_mul_right m hlt
        have h2 : (k + 1) * m = k * m + m := Nat.succ_mul k m
        have := HT.out
        omega
      have hp2 : wrap64 ((k : Int) * (m : Int)) = (Pk : Int) := by
        have : (k : Int) * (m : Int) = (Pk : Int) := by rw [hPk]; simp
        rw [this]; unfold wrap64; omega
      have HPk := Lib.hid hPk
      clear hPk
      go_wp2_with fail
      go_loopw [10, 11] (fun u q wr' => wr' = wr ∧ ∃ (j : Nat) (qi : Int), j ≤ m ∧ qi = (m : Int) - 1 - j ∧ q = .int .i64 qi ∧ u = .int .u32 (numF F m k j)) (fun _ q _ => (intOf q + 1).toNat)
      case atStart => exact ⟨rfl, 0, (m : Int) - 1, Nat.zero_le _, by simp, rfl, rfl⟩
      case round =>
        obtain ⟨rfl, j, qi, hjm, hqi, rfl, rfl⟩ := hrel
        have hnum := numF_le F m k hF j (by omega)
        by_cases hjl : j < m
        · obtain ⟨q, rfl⟩ := Int.eq_ofNat_of_zero_le (show 0 ≤ qi by omega)
          have hq := hqi.symm
          obtain ⟨idx, hidx⟩ : ∃ idx : Nat, idx = Pk + q := ⟨_, rfl⟩
          have eadd : wrap64 ((Pk : Int) + (q : Int)) = (idx : Int) := wrap_add hidx (by have := idx_lt hidx hq hjl hPT; omega)
          have hidxT : idx < T := idx_lt hidx hq hjl hPT
          have hidx2 : idx = k * m + (m - 1 - j) := idx_eq hidx hq hjl HPk.out
          rcases hb with h0 | ⟨bb, off, rfl, hbb, hcb⟩
          · exact absurd hidxT (by rw [h0]; exact Nat.not_lt_zero _)
          have y0 := (hur.below.cell (p := ⟨bb, off + idx, none⟩) hbb).trans (hcb idx hidxT)
          have hFx := hF idx
          have hsucc : numF F m k (j + 1) = numF F m k j * 256 + F idx := by rw [hidx2]; exact numF_succ F m k j
          have HSu := Lib.hid hsucc
          obtain ⟨x, hx⟩ : ∃ x, x = F idx := ⟨_, rfl⟩
          rw [← hx] at y0 hFx HSu
          obtain ⟨U, hU⟩ : ∃ U, U = numF F m k j := ⟨_, rfl⟩
          rw [← hU] at hnum HSu ⊢
          have hl1 : (0 : Int) ≤ (q : Int) := Int.natCast_nonneg q
          have hidxi : (idx : Int) < (T : Int) := Int.ofNat_lt.2 hidxT
          have HQ := Lib.hid hqi
          have HL := Lib.hid hlt
          have HJ := Lib.hid hjl
          have HFF := Lib.hid hF
          have HT1 := Lib.hid hT1
          have HP := Lib.hid hPT
          have HM2 := Lib.hid hm2
          clear hsucc hx hU hcb hidx2 hidx hprod hT1 hPT hidxT hjl hq hqi hF hm2
          go_wp2_with fail
          refine ⟨⟨trivial, j + 1, (q : Int) - 1, HJ.out, ?_, ?_, ?_⟩, ?_⟩
          · have := HQ.out; simp; omega
          · rw [show wrap64 ((q : Int) - 1) = (q : Int) - 1 by have := HQ.out; have := HM2.out; unfold wrap64; omega]
          · rw [HSu.out, or8 U x hnum hFx]
          · have := HQ.out; have := HM2.out; simp [intOf]; unfold wrap64; omega
        · obtain rfl : j = m := by omega
          have hqn : qi = -1 := by omega
          subst hqn
          have hnum := numF_le F j k hF j (by omega)
          have HNum : Hid (numF F j k j = numF F j k j) := Lib.hid rfl
          obtain ⟨U, hU⟩ : ∃ U, U = numF F j k j := ⟨_, rfl⟩
          rw [← hU] at hnum ⊢
          have HU := Lib.hid hU
          have HFF := Lib.hid hF
          have cc := hr.cell hlt
          have cf := hr.frozen k
          have c1 := hc.cell (i := 1) rfl
          have G := Lib.hid (hk.set_any g S k (if k < k then valF F j k else -1) U wr hlt (by omega) cc cf)
          have hv : κ.k.wrap U = valF F j k ∧ -2147483648 ≤ valF F j k ∧ valF F j k ≤ 2147483647 := by
            have h0 := HK.out
            rw [← Hκ.out] at h0
            rcases h0 with ⟨h, rfl⟩ | ⟨h, rfl⟩
            · rw [h]; exact valF_8 F k U HU.out
            · rw [h]; exact valF_16 F k U HU.out
          have HV := Lib.hid hv
          clear hU hF hqi cc cf hv
          go_wp2_with fail
          refine G.out.mono ?_
          rintro e w5 ⟨rfl, o, rfl⟩
          rw [HV.out.1]
          have hc5 := (hc.other (a := ⟨g, k, none⟩) (.int κ.k (valF F j k)) hgb).alloc o
          have hr5 := ((hr.set k (.int κ.k (valF F j k))).congr (g := fun i => .int κ.k (if i < k + 1 then valF F j i else -1)) (fun i _ => by
            by_cases e1 : i = k
            · subst e1; simp
            · by_cases e2 : i < k
              · simp [e1, e2, Nat.lt_succ_of_lt e2]
              · have : ¬ i < k + 1 := by omega
                simp [e1, e2, this])).alloc o
          have hu5 := (hur.setCell (p := ⟨g, k, none⟩) (.inr hgl') (.int κ.k (valF F j k))).alloc o
          generalize World.alloc (World.setCell _ _ _) o = w5 at *
          have cc := hr5.cell hlt
          rw [if_pos (Nat.lt_succ_self k)] at cc
          have GG := Lib.hid (hk.get_any g S k (valF F j k) w5 hlt (by omega) cc HV.out.2.1 HV.out.2.2)
          have c1 := hc5.cell (i := 1) rfl
          clear hc hr hur cc G HV
          go_wp2_with fail
          refine GG.out.mono ?_
          rintro e w6 ⟨rfl, hu6⟩
          have hc6 := hc5.upd hu6 (by simp)
          have hr6 := rowIs_upd hr5 hu6 (by simp)
          have hu66 := hu5.then hu6
          clear hc5 hr5 hu5 c1 GG hu6
          cases hmb : mayB L (valF F j k)
          · have Hmb := Lib.hid hmb
            have HL := Lib.hid hlt
            go_wp2_with (go_at_call 99; refine (MB.out _ hc6 _).mono ?_; rintro e w7 ⟨rfl, hu7⟩; rw [Hmb.out])
            go_ret2
            refine .inl ⟨rfl, fun h => ?_, hu66.then hu7⟩
            have := h k (by rw [← HS.out]; exact HL.out)
            rw [Hmb.out] at this
            cases this
          · have Hmb := Lib.hid hmb
            go_wp2_with (go_at_call 99; refine (MB.out _ hc6 _).mono ?_; rintro e w7 ⟨rfl, hu7⟩; rw [Hmb.out])
            have hc7 := hc6.upd hu7 (by simp)
            have hr7 := rowIs_upd hr6 hu7 (by simp)
            have hu77 := hu66.then hu7
            go_roundw
            case rel => exact ⟨k + 1, by omega, by go_num, hc7, hr7, hu77, Lib.hid (fun i hi => by
              rcases Nat.lt_succ_iff_lt_or_eq.1 hi with h | rfl
              · exact HM.out i h
              · exact Hmb.out)⟩
            case measure => simp [intOf]; omega
    · obtain rfl : k = S := by omega
      go_wp2_with fail
      go_ret2
      refine .inr ⟨b, g, rfl, ?_, ⟨h3, by omega, ?_, ?_, ?_⟩, hbl, hgl, hur⟩
      · intro i hi
        exact HM.out i (by rw [HS.out]; exact hi)
      · rw [← HS.out, ← Hκ.out]; exact hc
      · rw [← HS.out, ← Hκ.out]; exact hr.congr (fun i hi => by simp [hi])
      · intro i hi
        exact HM.out i (by rw [HS.out]; exact hi)
end Go.Proofs.Ytnaeehnnjhklbaa
