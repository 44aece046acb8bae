/- The walk of a family's find. -/
import Derived.Test.YtnaeehnnjhklbaaGive
set_option linter.unusedVariables false
namespace Go.Proofs.Ytnaeehnnjhklbaa
open Go.RowKit Go.MapKept Go.ChangeMaps
variable {w w' : World} {b : Nat} {v : Value} {cb cg : Nat} {m : Option Addr} {t : Tab} {q : Cnt}
variable {fb : Nat} {tb : Nat} {nv : Value} {nb : Nat} {most pairs : Int} {names : List ByteArray}

theorem findK_le {f : Nat → Int} {L : Nat} {es : List Ent} {mm : Nat} (H : Laid L f es mm) (h n : Int) {K : Nat} (hK : tr f L h K = -1 ∨ (hit f L es h K = true ∧ (entOf es (tr f L h K)).key = n)) : findK f L es h n ≤ K := by
  obtain ⟨a, b, c⟩ := findK_spec H h n
  rcases Nat.lt_or_ge K (findK f L es h n) with h' | h'
  · exfalso
    obtain ⟨b1, b2⟩ := b K h'
    rcases hK with hK | ⟨h1, h2⟩
    · exact b1 hK
    · exact b2 h1 h2
  · exact h'
/-- Where the next cell lies at which a seeker stops. -/
theorem stop_spec {f : Nat → Int} {L : Nat} {es : List Ent} {mm : Nat} (H : Laid L f es mm) (h n : Int) {j : Nat} (hj : j ≤ findK f L es h n) :
    ∃ K, j ≤ K ∧ K ≤ findK f L es h n ∧ (∀ i, j ≤ i → i < K → tr f L h i ≠ -1 ∧ hit f L es h i = false) ∧ (tr f L h K = -1 ∨ (tr f L h K ≠ -1 ∧ hit f L es h K = true)) ∧
      ((K = findK f L es h n ∧ findE f L es h n = tr f L h K ∧ (tr f L h K = -1 ∨ (entOf es (tr f L h K)).key = n)) ∨ (K < findK f L es h n ∧ tr f L h K ≠ -1 ∧ (entOf es (tr f L h K)).key ≠ n)) := by
  obtain ⟨a, b, c⟩ := findK_spec H h n
  have hE := (H.end h).1
  obtain ⟨l1, l2, l3, l4⟩ := lst_spec (fun k => tr f L h k == -1 || hit f L es h k) (2 ^ L + 13) j (findK f L es h n) hj (by omega) (by
    rcases c with c | ⟨c, _⟩
    · simp [c]
    · simp [c])
  refine ⟨_, l2, l3, fun i h1 h2 => by simpa using l4 i h1 h2, ?_, ?_⟩
  · generalize lst _ _ _ = K at *
    by_cases hk : tr f L h K = -1
    · exact .inl hk
    · exact .inr ⟨hk, by simpa [hk] using l1⟩
  · generalize lst _ _ _ = K at *
    by_cases hk : tr f L h K = -1
    · have := findK_le H h n (.inl hk)
      have e : K = findK f L es h n := by omega
      exact .inl ⟨e, by unfold findE; rw [← e], .inl hk⟩
    · have hh : hit f L es h K = true := by simpa [hk] using l1
      by_cases hn : (entOf es (tr f L h K)).key = n
      · have := findK_le H h n (.inr ⟨hh, hn⟩)
        have e : K = findK f L es h n := by omega
        exact .inl ⟨e, by unfold findE; rw [← e], .inr hn⟩
      · refine .inr ⟨?_, hk, hn⟩
        rcases Nat.lt_or_ge K (findK f L es h n) with h' | h'
        · exact h'
        · exfalso
          have e : K = findK f L es h n := by omega
          rw [← e] at c
          rcases c with c | ⟨_, c⟩
          · exact hk c
          · exact hn c

def Tab.findE (t : Tab) (s : ByteArray) (n : Int) : Int := Ytnaeehnnjhklbaa.findE t.f t.L t.es (txt s) n
def Tab.findK (t : Tab) (s : ByteArray) (n : Int) : Nat := Ytnaeehnnjhklbaa.findK t.f t.L t.es (txt s) n
def Tab.findQ (t : Tab) (s : ByteArray) (n : Int) (q : Cnt) : Cnt := visQ (t.findK s n + 1) q

set_option maxRecDepth 100000 in
set_option maxHeartbeats 2000000 in
theorem find_any (hF : FamB w fb m tb nv nb most pairs names) (h : TabB w b v cb cg m t) (hm : Met w m q) {s : ByteArray} (hs : s.size ≤ 200) :
    Calls Try.prog 141 #[.pointer (some ⟨fb, 0, none⟩), .pointer (some ⟨b, 0, none⟩), .string s] w fun e w' => e = .returned (.int .i64 (t.findE s (numOf names s))) ∧ Met w' m (t.findQ s (numOf names s) q) ∧ Upd (Met.fp m) w w' := by
  have NB := Lib.hid (number_any hF hs)
  have TX := Lib.hid (fun W => text_any s W (by omega))
  have HM := Lib.hid hm
  have HT := Lib.hid h
  have HMT := Lib.hid (hm.ne_tab h)
  obtain ⟨n, hn⟩ : ∃ n, n = numOf names s := ⟨_, rfl⟩
  rw [← hn] at NB ⊢
  unfold Tab.findE Tab.findQ Tab.findK
  obtain ⟨hsv, hhs⟩ : ∃ hs, hs = txt s := ⟨_, rfl⟩
  rw [← hhs] at TX ⊢
  obtain ⟨F, hFk⟩ : ∃ F, F = findK t.f t.L t.es hsv n := ⟨_, rfl⟩
  have HF := Lib.hid hFk
  rw [← hFk]
  clear hF h hm hn hhs hFk
  go_enter Try.func141, Try.ntmps141
  go_wp2_with (go_at_call 124; refine NB.out.mono ?_; rintro e w1 ⟨rfl, rfl⟩)
  refine (TX.out _).mono ?_
  rintro e w1 ⟨rfl, hu1⟩
  have HT1 := Lib.hid (HT.out.upd hu1 (by simp))
  have HM1 := Lib.hid (HM.out.upd hu1 (by simp))
  have SK := Lib.hid (seek_any HT1.out hsv)
  have HU1 := Lib.hid hu1
  clear NB TX hu1
  go_wp2_with fail
  refine SK.out.mono ?_
  rintro e w2 ⟨sk, rfl, hb2, hsz2, hu2⟩
  have HT2 := Lib.hid (HT1.out.upd hu2 (by simp))
  have HM2 := Lib.hid (HM1.out.upd hu2 (by simp))
  have HU2 : Hid (Upd (sk :: Met.fp m) w w2) := Lib.hid ((HU1.out.then hu2).mono (by simp))
  have HSZ : Hid (w.heap.size ≤ sk) := Lib.hid (Nat.le_trans HU1.out.size hsz2)
  have HB2 := Lib.hid hb2
  clear SK hb2 hu2 hsz2 HU1 HT1 HM1 HT HM
  go_wp2_with fail
  go_loopg [9] F (fun g _ wr => ∃ (j : Nat) (vis : Int), Hid (j + g = F) ∧ Hid (Blk wr sk 215 (seekL b t hsv j vis false)) ∧ Hid (TabB wr b v cb cg m t) ∧ Hid (Met wr m (visQ j q)) ∧ Hid (Upd (sk :: Met.fp m) w wr))
  case atStart => exact ⟨0, 0, Lib.hid (by omega), HB2, HT2, HM2, HU2⟩
  case round =>
    obtain ⟨j, vis, hjg, hb, HT, HM, hu⟩ := hrel
    clear HT2 HM2 HU2 HB2
    obtain ⟨K, hjK, hKF, hno, hK, hcase⟩ := stop_spec HT.out.ok.laid hsv n (j := j) (by have := hjg.out; rw [← HF.out]; omega)
    rw [← HF.out] at hKF hcase
    have NX := Lib.hid (next_any HT.out HM.out hb.out hjK hno hK)
    have HC := Lib.hid hcase
    have HKK := Lib.hid hK
    have HJK := Lib.hid (And.intro hjK hKF)
    have HV : visQ (K + 1 - j) (visQ j q) = visQ (K + 1) q := by rw [← visQ_add, show j + (K + 1 - j) = K + 1 by omega]
    have HVV := Lib.hid HV
    clear hno hK hcase hb HT HM HV hjK hKF
    go_wp2_with fail
    refine NX.out.mono ?_
    rintro e w3 ⟨hT3, hm3, hu3, hres⟩
    have HT3 := Lib.hid hT3
    rw [HVV.out] at hm3
    have HM3 := Lib.hid hm3
    have HU3 : Hid (Upd (sk :: Met.fp m) w w3) := Lib.hid (hu.out.then hu3)
    clear hT3 hm3 hu3 hu NX
    rcases hres with ⟨rfl, hend⟩ | ⟨he, hne, vis', hb3⟩
    · have HE : Hid (K = F ∧ findE t.f t.L t.es hsv n = -1) := Lib.hid (by
        rcases HC.out with ⟨h1, h2, _⟩ | ⟨_, h2, _⟩
        · exact ⟨h1, h2.trans hend⟩
        · exact absurd hend h2)
      clear HC hend
      go_wp2_with fail
      go_ret
      refine ⟨by rw [HE.out.2]; rfl, by rw [← HE.out.1]; exact HM3.out, (Upd.refl (Met.fp m) w).trans HU3.out (fun y hy => ?_)⟩
      rcases List.mem_cons.1 hy with rfl | hy
      · exact .inr HSZ.out
      · exact .inl hy
    · have hh : hit t.f t.L t.es hsv K = true := by
        rcases HKK.out with h | ⟨_, h⟩
        · exact absurd h hne
        · exact h
      obtain ⟨e', hte, hel, hlive, _⟩ := hit_live HT3.out.ok.laid hh
      rw [hte] at he
      subst he
      have AT := Lib.hid (at_ok HT3.out e' hel hlive)
      have HB3 := Lib.hid hb3
      have HTE := Lib.hid hte
      have HC2 : Hid ((K = F ∧ findE t.f t.L t.es hsv n = e' ∧ (entOf t.es (e' : Int)).key = n) ∨ (K < F ∧ (entOf t.es (e' : Int)).key ≠ n)) := Lib.hid (by
        rw [hte] at hne
        have := HC.out
        rw [hte] at this
        rcases this with ⟨h1, h2, h3⟩ | ⟨h1, _, h3⟩
        · rcases h3 with h3 | h3
          · exact absurd h3 hne
          · exact .inl ⟨h1, h2, h3⟩
        · exact .inr ⟨h1, h3⟩)
      clear HC HKK hne hb3 hh hte hel hlive
      unfold entV at AT
      generalize entOf t.es (e' : Int) = x at *
      go_wp2_with fail
      refine AT.out.mono ?_
      rintro e w4 ⟨rfl, hu4⟩
      have HT4 := Lib.hid (HT3.out.upd hu4 (by simp))
      have HM4 := Lib.hid (HM3.out.upd hu4 (by simp))
      have HB4 := Lib.hid (HB3.out.upd hu4 (by simp))
      have HU4 := Lib.hid (HU3.out.nil hu4)
      clear hu4 AT HT3 HM3 HB3 HU3
      rcases HC2.out with ⟨hKF, hfE, hkey⟩ | ⟨hKF, hkey⟩
      · have HE := Lib.hid (And.intro hKF hfE)
        clear HC2 hKF hfE
        go_wp2_with fail
        go_ret
        have u5 := (Upd.refl (Met.fp m) w4).alloc (.cells #[.bool x.live, .int .i64 hsv, .int .i64 x.key, .int .i64 x.value, .int .i64 x.birth] 130)
        have u5' := (Upd.refl [] w4).alloc (.cells #[.bool x.live, .int .i64 hsv, .int .i64 x.key, .int .i64 x.value, .int .i64 x.birth] 130)
        rw [hkey] at u5 u5'
        refine ⟨by rw [HE.out.2]; rfl, by rw [← HE.out.1]; exact HM4.out.upd u5' (by simp), ((Upd.refl (Met.fp m) w).trans HU4.out (fun y hy => ?_)).then u5⟩
        rcases List.mem_cons.1 hy with rfl | hy
        · exact .inr HSZ.out
        · exact .inl hy
      · have HKF := Lib.hid hKF
        clear hKF HC2
        have hkey' : (x.key == n) = false := by simpa using hkey
        go_wp2_with fail
        have u5 := (Upd.refl [] w4).alloc (.cells #[.bool x.live, .int .i64 hsv, .int .i64 x.key, .int .i64 x.value, .int .i64 x.birth] 130)
        go_roundg (F - (K + 1))
        case rel => exact ⟨K + 1, vis', Lib.hid (by have := HKF.out; omega), Lib.hid (HB4.out.upd u5 (by simp)), Lib.hid (HT4.out.upd u5 (by simp)), Lib.hid (HM4.out.upd u5 (by simp)), Lib.hid (HU4.out.nil u5)⟩
        case measure => have := HKF.out; have := hjg.out; have := HJK.out; omega
end Go.Proofs.Ytnaeehnnjhklbaa
