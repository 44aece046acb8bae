/- Load's answers, short and long, in one word each. -/
import Derived.Test.YtnaeehnnjhklbaaRefLoad
import Derived.Test.YtnaeehnnjhklbaaCellsPlay
import Derived.Laws.AppendOwnNone
import Derived.ChangeSlices
set_option linter.unusedVariables false
namespace Go.Proofs.Ytnaeehnnjhklbaa
open Go.RowKit Go.ChangeShapes

theorem load_out (L : Int) (a : Option Addr) (n cap : Nat) (w : World) (hL : L < 3 ∨ 20 < L) :
    Calls Try.prog 61 #[.int .i64 L, .slice a n cap] w fun e w' => e = .returned (.tuple #[.pointer none, .int .i64 1]) ∧ w = w' := by
  have N := Lib.hid (new_out L w hL)
  clear hL
  go_enter Try.func61, Try.ntmps61
  go_wp2_with (go_at_call 49; refine N.out.mono ?_; rintro e w1 ⟨rfl, rfl⟩)
  go_ret2
  exact ⟨rfl, rfl⟩

theorem load_len (w : World) (L m : Nat) (a : Option Addr) (n cap : Nat) (h3 : 3 ≤ L) (h12 : L ≤ 12) (hkm : (kindOf L).wd = m) (hm : 0 < m ∧ m ≤ 4) (hn : n ≠ 2 ^ L * m) :
    Calls Try.prog 61 #[.int .i64 L, .slice a n cap] w fun e w' => e = .returned (.tuple #[.pointer none, .int .i64 4]) ∧ Upd [] w w' := by
  have N := Lib.hid (new_in L w h3 (by omega))
  have hp : 2 ^ L ≤ 4096 := Nat.pow_le_pow_right (by omega) h12
  have Wd := Lib.hid (fun W b g f (h : CellsAt W b g L f) => h.width)
  have SZ := Lib.hid (fun W b g f (h : CellsAt W b g L f) => h.size)
  rw [hkm] at Wd
  obtain ⟨S, hS⟩ : ∃ S, S = 2 ^ L := ⟨_, rfl⟩
  obtain ⟨T, hT⟩ : ∃ T, T = 2 ^ L * m := ⟨_, rfl⟩
  have hT1 : T ≤ 16384 := by
    have : 2 ^ L * m ≤ 4096 * 4 := Nat.mul_le_mul hp hm.2
    omega
  rw [← hT] at hn
  rw [← hS] at hT hp SZ
  have hprod : wrap64 ((m : Int) * (S : Int)) = (T : Int) := by
    have : (m : Int) * (S : Int) = (T : Int) := by rw [hT, Nat.mul_comm]; simp
    rw [this]; unfold wrap64; omega
  have hne : ((n : Int) != (T : Int)) = true := by simp; omega
  clear hS hT hkm hn hT1
  go_enter Try.func61, Try.ntmps61
  go_wp2_with fail
  refine N.out.mono ?_
  rintro e w1 ⟨b, g, rfl, hc, hbl, hgl, hu⟩
  have HC := Lib.hid hc
  clear hc N
  go_wp2_with (first
    | (go_at_call 92; refine (Wd.out _ b g _ HC.out).mono ?_; rintro e w2 ⟨rfl, hu2⟩; have HC2 := Lib.hid (HC.out.upd hu2 (by simp) (by simp)); have hU2 := hu.then hu2)
    | (go_at_call 53; refine (SZ.out _ b g _ HC2.out).mono ?_; rintro e w3 ⟨rfl, hu3⟩; have hU3 := hU2.then hu3))
  go_ret2
  exact ⟨rfl, hU3⟩

/-- How many bytes a cell has, up to logarithm 12. -/
def wd12 (L : Nat) : Nat := if L ≤ 7 then 1 else 2
theorem wd12_kind {L : Nat} (h : L ≤ 12) : (kindOf L = K8 ∧ wd12 L = 1) ∨ (kindOf L = K16 ∧ wd12 L = 2) := by
  unfold wd12 kindOf
  by_cases h7 : L ≤ 7
  · rw [if_pos h7, if_pos h7]; exact .inl ⟨rfl, rfl⟩
  · rw [if_neg h7, if_neg h7, if_pos (by omega)]; exact .inr ⟨rfl, rfl⟩
theorem wd12_wd {L : Nat} (h : L ≤ 12) : (kindOf L).wd = wd12 L := by
  rcases wd12_kind h with ⟨h1, h2⟩ | ⟨h1, h2⟩ <;> rw [h1, h2] <;> rfl
theorem wd12_le (L : Nat) : 0 < wd12 L ∧ wd12 L ≤ 2 := by unfold wd12; split <;> omega

/-- Why the bytes are no cells; 0: they are some. -/
def LdNo (L : Int) (n : Nat) (F : Nat → Int) (c : Int) : Prop :=
  ((L < 3 ∨ 20 < L) ∧ c = 1) ∨ (∃ k : Nat, L = k ∧ 3 ≤ k ∧ k ≤ 12 ∧ ((n ≠ 2 ^ k * wd12 k ∧ c = 4) ∨ (n = 2 ^ k * wd12 k ∧ ¬ LoadOk k (wd12 k) F ∧ c = 1)))
theorem ld_cases (L : Int) (n : Nat) (F : Nat → Int) (h : ¬ (12 < L ∧ L ≤ 20)) : (∃ c, LdNo L n F c ∧ (c = 1 ∨ c = 4)) ∨ (∃ k : Nat, L = k ∧ 3 ≤ k ∧ k ≤ 12 ∧ n = 2 ^ k * wd12 k ∧ LoadOk k (wd12 k) F) := by
  by_cases ho : L < 3 ∨ 20 < L
  · exact .inl ⟨1, .inl ⟨ho, rfl⟩, .inl rfl⟩
  obtain ⟨k, rfl⟩ := Int.eq_ofNat_of_zero_le (show 0 ≤ L by omega)
  by_cases hn : n = 2 ^ k * wd12 k
  · by_cases hok : LoadOk k (wd12 k) F
    · exact .inr ⟨k, rfl, by omega, by omega, hn, hok⟩
    · exact .inl ⟨1, .inr ⟨k, rfl, by omega, by omega, .inr ⟨hn, hok, rfl⟩⟩, .inl rfl⟩
  · exact .inl ⟨4, .inr ⟨k, rfl, by omega, by omega, .inl ⟨hn, rfl⟩⟩, .inr rfl⟩

theorem load_no {L : Int} {n : Nat} {F : Nat → Int} {c : Int} (h : LdNo L n F c) (a : Option Addr) (cap : Nat) (w : World) (hF : ∀ j, 0 ≤ F j ∧ F j ≤ 255) (hb : BNums w a n F) :
    Calls Try.prog 61 #[.int .i64 L, .slice a n cap] w fun e w' => e = .returned (.tuple #[.pointer none, .int .i64 c]) ∧ Upd [] w w' := by
  rcases h with ⟨ho, rfl⟩ | ⟨k, rfl, h3, h12, ⟨hn, rfl⟩ | ⟨hn, hno, rfl⟩⟩
  · exact (load_out L a n cap w ho).mono fun e w' ⟨he, hw⟩ => ⟨he, hw ▸ Upd.refl _ _⟩
  · exact load_len w k (wd12 k) a n cap h3 h12 (wd12_wd h12) ⟨(wd12_le k).1, by have := (wd12_le k).2; omega⟩ hn
  · subst hn
    refine (load_in w k (wd12 k) a cap F h3 h12 (wd12_kind h12) hF hb).mono fun e w' h => ?_
    rcases h with ⟨he, _, hu⟩ | ⟨b, g, _, hok, _⟩
    · exact ⟨he, hu⟩
    · exact absurd hok hno
theorem refLoad_any (w : World) (L : Nat) (a : Option Addr) (n cap : Nat) (F : Nat → Int) (h3 : 3 ≤ L) (h12 : L ≤ 12) (hF : ∀ j, 0 ≤ F j ∧ F j ≤ 255) (hb : BNums w a n F) (hn : n ≤ 20000) :
    Calls Try.prog 62 #[.int .i64 L, .slice a n cap] w fun e w' =>
      (e = .returned (.tuple #[zeroRef, .int .i64 4]) ∧ n ≠ 2 ^ L * wd12 L ∧ Upd [] w w') ∨
      (e = .returned (.tuple #[zeroRef, .int .i64 1]) ∧ n = 2 ^ L * wd12 L ∧ ¬ LoadOk L (wd12 L) F ∧ Upd [] w w') ∨
      (∃ g, e = .returned (.tuple #[refV g L (2 ^ L), .int .i64 0]) ∧ n = 2 ^ L * wd12 L ∧ LoadOk L (wd12 L) F ∧ RefAt w' g L (valF F (wd12 L)) ∧ w.heap.size ≤ g ∧ Upd [] w w') := by
  rcases wd12_kind h12 with ⟨h1, h2⟩ | ⟨h1, h2⟩ <;> rw [h2]
  · exact refLoad8_in w L a n cap F h3 h12 h1 hF hb hn
  · exact refLoad16_in w L a n cap F h3 h12 h1 hF hb hn
theorem refLoad_no {L : Int} {n : Nat} {F : Nat → Int} {c : Int} (h : LdNo L n F c) (a : Option Addr) (cap : Nat) (w : World) (hF : ∀ j, 0 ≤ F j ∧ F j ≤ 255) (hb : BNums w a n F) (hn : n ≤ 20000) :
    Calls Try.prog 62 #[.int .i64 L, .slice a n cap] w fun e w' => e = .returned (.tuple #[zeroRef, .int .i64 c]) ∧ Upd [] w w' := by
  rcases h with ⟨ho, rfl⟩ | ⟨k, rfl, h3, h12, hh⟩
  · exact refLoad_out L a n cap w ho
  · refine (refLoad_any w k a n cap F h3 h12 hF hb hn).mono fun e w' h => ?_
    rcases h with ⟨he, h1, hu⟩ | ⟨he, h1, h2, hu⟩ | ⟨g, he, h1, h2, _⟩
    · rcases hh with ⟨_, rfl⟩ | ⟨h, _⟩
      · exact ⟨he, hu⟩
      · exact absurd h h1
    · rcases hh with ⟨h, _⟩ | ⟨_, _, rfl⟩
      · exact absurd h1 h
      · exact ⟨he, hu⟩
    · rcases hh with ⟨h, _⟩ | ⟨_, h, _⟩
      · exact absurd h1 h
      · exact absurd h2 h

/-- The same bytes by another name. -/
theorem BNums.congr {w : World} {a : Option Addr} {n : Nat} {F G : Nat → Int} (h : BNums w a n F) (he : ∀ i, i < n → F i = G i) : BNums w a n G := by
  rcases h with h | ⟨b, off, e, hb, hc⟩
  · exact .inl h
  · exact .inr ⟨b, off, e, hb, fun i hi => by rw [← he i hi]; exact hc i hi⟩
theorem wrap16_bytes (a b : Int) (ha : 0 ≤ a ∧ a ≤ 255) (hb : 0 ≤ b ∧ b ≤ 255) : IntKind.i16.wrap (a * 256 + b) % 256 = b ∧ IntKind.i16.wrap (a * 256 + b) / 256 % 256 = a := by
  simp only [IntKind.wrap, IntKind.bits, IntKind.signed]
  simp
  omega
/-- What Load read is told again as the same bytes. -/
theorem load_bytes (F : Nat → Int) (m : Nat) (hm : m = 1 ∨ m = 2) (hF : ∀ j, 0 ≤ F j ∧ F j ≤ 255) (j : Nat) : byteAt (valF F m (j / m)) (j % m) = F j := by
  rcases hm with rfl | rfl
  · have := hF j
    have e : j / 1 * 1 + (1 - 1 - 0) = j := by simp
    unfold byteAt valF
    rw [if_pos rfl]
    simp only [numF, IntKind.wrap, IntKind.bits, IntKind.signed, e, Nat.mod_one, Nat.mul_zero]
    simp
    omega
  · have en : numF F 2 (j / 2) 2 = F (j / 2 * 2 + 1) * 256 + F (j / 2 * 2) := by simp [numF]
    have h0 := hF (j / 2 * 2 + 1)
    have h1 := hF (j / 2 * 2)
    unfold byteAt valF
    rw [if_neg (by omega), en]
    rcases (by omega : j % 2 = 0 ∨ j % 2 = 1) with h | h
    · rw [h]
      have e1 : j / 2 * 2 = j := by omega
      rw [e1] at h0 h1 ⊢
      simpa using (wrap16_bytes _ _ h0 h1).1
    · rw [h]
      have e1 : j / 2 * 2 + 1 = j := by omega
      rw [e1] at h0 ⊢
      simpa using (wrap16_bytes _ _ h0 h1).2

/-- An argument []byte. -/
def IsBytes (w : World) (a : Option Addr) (len cap : Nat) (F : Nat → Int) : Prop := (a = none → len = 0 ∧ cap = 0) ∧ (∀ j, 0 ≤ F j ∧ F j ≤ 255) ∧ BNums w a len F
theorem open_bytes {H : Type} {enc : TypeId × Value → H} {P : Program} {w : World} {base : Nat} {spare : Nat → Bool} {held : Bool} {t e : TypeId} {fuel : Nat} {a : Option Addr} {len cap : Nat} {x : DataW H × List MemPlace} (ht : P.underlying t = some (.slice e)) (he : P.underlying e = some (.int .u8)) (hc : P.cellsOf e = 1)
    (h : DataW.trod enc P w base spare held fuel t [.slice a len cap] = some x) : ∃ F, IsBytes w a len cap F := by
  rcases open_ints ht he hc h with ⟨h0, _⟩ | ⟨a', len', cap', zs, hcs, hb, hl, hm, hz, hx, hcell, hw⟩
  · simp at h0
    obtain ⟨rfl, rfl, rfl⟩ := h0
    exact ⟨fun _ => 0, fun _ => ⟨rfl, rfl⟩, fun _ => by simp, .inl rfl⟩
  · simp at hcs
    obtain ⟨rfl, rfl, rfl⟩ := hcs
    have hwf : ∀ j, 0 ≤ zs.getD j 0 ∧ zs.getD j 0 ≤ 255 := by
      intro j
      rcases Nat.lt_or_ge j zs.length with hj | hj
      · have e : zs.getD j 0 = zs[j] := by simp [List.getD, hj]
        have := hw zs[j] (List.getElem_mem hj)
        rw [e]
        simp [Lit.wf, IntKind.min, IntKind.max, IntKind.bits, IntKind.signed] at this
        omega
      · simp [List.getD, List.getElem?_eq_none hj]
    refine ⟨fun j => zs.getD j 0, (fun h => by cases h), hwf, ?_⟩
    by_cases h0 : len = 0
    · exact .inl h0
    · have hlz : len ≤ zs.length := by rw [hz]; split <;> omega
      obtain ⟨b, off, sp⟩ := a'
      have c0 := hcell 0 (by omega)
      have hsp : sp = none := by simpa [Addr.add] using World.cell?_spot c0
      subst hsp
      refine .inr ⟨b, off, rfl, ?_, fun i hi => ?_⟩
      · simpa [Addr.add] using World.block_lt_of_cell? _ _ c0
      · have := hcell i (by omega)
        rwa [plain_addr] at this
end Go.Proofs.Ytnaeehnnjhklbaa
