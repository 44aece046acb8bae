/- The walk of package table: a Seeker's Next. -/
import Derived.Test.YtnaeehnnjhklbaaSeek
import Derived.Deep.LoopGhost
set_option linter.unusedVariables false
namespace Go.Proofs.Ytnaeehnnjhklbaa
open Go.RowKit

/-- A meter that was told of n visits. -/
def visQ : Nat → Cnt → Cnt
  | 0, q => q
  | n + 1, q => (visQ n q).add 1 1
theorem visQ_add (a b : Nat) (q : Cnt) : visQ (a + b) q = visQ b (visQ a q) := by
  induction b with
  | zero => rfl
  | succ b ih => show (visQ (a + b) q).add 1 1 = (visQ b (visQ a q)).add 1 1; rw [ih]

variable {w : World} {b : Nat} {v : Value} {cb cg : Nat} {m : Option Addr} {t : Tab} {q : Cnt}

theorem seek_type_ne {s d : Nat} {c : List Value} {cur : Array Value} {T : Nat} (hB : Blk w s 215 c) (h : w.heap[d]? = some (.cells cur T (0, 0))) (hT : T ≠ 215) : d ≠ s := by
  rintro rfl
  unfold Blk at hB
  rw [h] at hB
  simp at hB
  exact hT hB.2
theorem kind_E2 (L : Nat) : (kindOf L).E ≠ 215 := by
  rcases kindOf_ok L with h | h | h <;> rw [h] <;> simp [K8, K16, K32]
theorem TabB.ne_seek (h : TabB w b v cb cg m t) {s : Nat} {c : List Value} (hB : Blk w s 215 c) : ∀ x ∈ tabFp b v cb cg, x ≠ s := by
  intro x hx
  simp only [tabFp, List.mem_cons, Option.mem_toList] at hx
  rcases hx with rfl | rfl | rfl | hx
  · have := h.blk; unfold Blk at this; exact seek_type_ne hB this (by decide)
  · have := h.cc.c; unfold Blk at this; exact seek_type_ne hB this (by decide)
  · obtain ⟨cur, hg⟩ := rowIs_block h.cc.r; exact seek_type_ne hB hg (kind_E2 _)
  · obtain ⟨cur, hg⟩ := own_block h.row hx; exact seek_type_ne hB hg (by decide)
theorem Met.ne_seek {c : List Value} {s : Nat} (hm : Met w m q) (hB : Blk w s 215 c) : ∀ x ∈ Met.fp m, x ≠ s := by
  intro x hx
  cases m with
  | none => simp [Met.fp] at hx
  | some a =>
    obtain ⟨d, rfl, hd⟩ := hm
    simp [Met.fp] at hx
    subst hx
    unfold Blk at hd
    exact seek_type_ne hB hd (by decide)
theorem Met.ne_tab (hm : Met w m q) (h : TabB w b v cb cg m t) : ∀ x ∈ tabFp b v cb cg, x ∉ Met.fp m := by
  intro x hx hxm
  cases m with
  | none => simp [Met.fp] at hxm
  | some a =>
    obtain ⟨d, rfl, hd⟩ := hm
    simp [Met.fp] at hxm
    subst hxm
    simp only [tabFp, List.mem_cons, Option.mem_toList] at hx
    rcases hx with rfl | rfl | rfl | hx
    · have := h.blk; unfold Blk at this; exact blk_ne hd this (by decide) rfl
    · have := h.cc.c; unfold Blk at this; exact blk_ne hd this (by decide) rfl
    · obtain ⟨cur, hg⟩ := rowIs_block h.cc.r
      refine blk_ne hd hg ?_ rfl
      rcases kindOf_ok t.L with e | e | e <;> rw [e] <;> simp [K8, K16, K32]
    · obtain ⟨cur, hg⟩ := own_block h.row hx; exact blk_ne hd hg (by decide) rfl

theorem TabB.later_ent {g n cap : Nat} (h : TabB w b (.slice (some ⟨g, 0, none⟩) n cap) cb cg m t) {i j : Nat} (hi : i < t.es.length) (hj : j < 5) {u : Value} (hu : (entOf t.es (i : Int)).vals[j]? = some u) : ∀ w', Upd [] w w' → w'.cell? ⟨g, i * 5 + j, none⟩ = some u :=
  fun _ hU => erow_cell (h.upd hU (by simp)).row hi hj hu
theorem TabB.some (h : TabB w b v cb cg m t) (h0 : 0 < t.es.length) : ∃ g cap, v = .slice (Option.some ⟨g, 0, none⟩) t.es.length cap ∧ t.es.length ≤ cap := erow_some h.row h0

/-- What Next answers: from the k-th cell on the K-th is the first that is empty or holds an entry to be told. -/
def Nexted (w : World) (b s : Nat) (v : Value) (cb cg : Nat) (m : Option Addr) (t : Tab) (q : Cnt) (hs : Int) (k K : Nat) (e : Ending) (w' : World) : Prop :=
  TabB w' b v cb cg m t ∧ Met w' m (visQ (K + 1 - k) q) ∧ Upd (s :: Met.fp m) w w' ∧
  ((e = .returned (.tuple #[.int .i64 (-1), .bool false]) ∧ tr t.f t.L hs K = -1) ∨
   (e = .returned (.tuple #[.int .i64 (tr t.f t.L hs K), .bool true]) ∧ tr t.f t.L hs K ≠ -1 ∧ ∃ vis, Blk w' s 215 (seekL b t hs (K + 1) vis false)))

set_option maxRecDepth 100000 in
set_option maxHeartbeats 1000000 in
theorem next_any (h : TabB w b v cb cg m t) (hm : Met w m q) {s : Nat} {hs : Int} {k K : Nat} {vis : Int} (hB : Blk w s 215 (seekL b t hs k vis false)) (hkK : k ≤ K)
    (hno : ∀ j, k ≤ j → j < K → tr t.f t.L hs j ≠ -1 ∧ hit t.f t.L t.es hs j = false) (hK : tr t.f t.L hs K = -1 ∨ (tr t.f t.L hs K ≠ -1 ∧ hit t.f t.L t.es hs K = true)) :
    Calls Try.prog 143 #[.pointer (some ⟨s, 0, none⟩)] w (Nexted w b s v cb cg m t q hs k K) := by
  have hbs := h.ne_seek hB
  have hms := hm.ne_seek hB
  have hmt := hm.ne_tab h
  have HBS := Lib.hid hbs
  have HMS := Lib.hid hms
  have HMT := Lib.hid hmt
  have hu0 : Upd (s :: Met.fp m) w w := Upd.refl _ _
  have HT := Lib.hid h
  have c0 := hB.cell (i := 0) rfl
  have c4 := hB.cell (i := 4) rfl
  have c7 := hB.cell (i := 7) rfl
  have k6 := h.blk.cell (i := 6) rfl
  have HN := Lib.hid hno
  have HK := Lib.hid hK
  clear h hbs hms hmt hno hK
  go_enter Try.func143, Try.ntmps143
  go_wp2_with fail
  have H0 := hB.later (i := 0) rfl
  have H4 := hB.later (i := 4) rfl
  have H7 := hB.later (i := 7) rfl
  have H6 := HT.out.blk.later (i := 6) rfl
  refine wp_region_calm_tail 21 (by kernel_rfl) (by kernel_rfl) ?_
  simp only [List.take_succ_cons, List.take_zero, List.drop_succ_cons, List.drop_zero]
  repeat (first | go_big_quiet_skip | (go_big_quiet_want; refine quiet_ex ?_; apply Exists.intro; refine ⟨fun wq hwq => ?_, ?_⟩; ((try go_simp); first | exact rfl | (fail)); ((try go_simp); go_big_quiet_on)))
  refine wpQuiet_nil ?_
  intro wq hwq
  clear H0 H4 H7 H6 c0 c4 c7 k6
  have hm1 := hm.upd hwq (by simp)
  have HT1 := Lib.hid (HT.out.upd hwq (by simp))
  have b1 := hB.upd hwq (by simp)
  have c7 := b1.cell (i := 7) rfl
  have f7 := b1.free 7
  have b2 := b1.set 7 (.bool false)
  have hu1 : Upd (s :: Met.fp m) w (wq.setCell ⟨s, 7, none⟩ (.bool false)) := (hwq.mono (by simp)).setCell (p := ⟨s, 7, none⟩) (.inl (by simp)) _
  have hs7 : Upd [s] wq (wq.setCell ⟨s, 7, none⟩ (.bool false)) := (Upd.refl [s] wq).setCell (p := ⟨s, 7, none⟩) (.inl (by simp)) _
  have HT2 := Lib.hid (HT1.out.upd hs7 (by simpa using HBS.out))
  have hm2 := hm1.upd hs7 (by simpa using HMS.out)
  go_wp2_with fail
  generalize wq.setCell _ _ = W at *
  clear hs7 HT1 hm1 b1 c7 f7 HT hm hB hu0 hwq
  go_loopg [4, 5] (K - k) (fun g _ _ wr => ∃ (j : Nat) (vis : Int), j + g = K ∧ k ≤ j ∧ Blk wr s 215 (seekL b t hs j vis false) ∧ Hid (TabB wr b v cb cg m t) ∧ Hid (Met wr m (visQ (j - k) q)) ∧ Upd (s :: Met.fp m) w wr)
  case atStart => exact ⟨k, vis, by omega, Nat.le_refl _, b2, HT2, Lib.hid (by rw [Nat.sub_self]; exact hm2), hu1⟩
  case round =>
    obtain ⟨j, vis, hjg, hkj, hb, HT, HM, hu⟩ := hrel
    clear hu1 HT2 hm2 b2
    have GT := Lib.hid (fun W (hu : Upd [] wr W) => (HT.out.cc.upd hu (by simp) (by simp)).get_in (trC hs t.L j) (trC_lt hs t.L j))
    have c0 := hb.cell (i := 0) rfl
    have c7 := hb.cell (i := 7) rfl
    have H0 := hb.later (i := 0) rfl
    have H2 := hb.later (i := 2) rfl
    have K2 := HT.out.blk.later (i := 2) rfl
    have hz : tr t.f t.L hs j = t.f (trC hs t.L j) := rfl
    have hzz : tr t.f t.L hs j = -1 ∨ (tr t.f t.L hs j ≠ -1 ∧ hit t.f t.L t.es hs j = true) ∨ (tr t.f t.L hs j ≠ -1 ∧ hit t.f t.L t.es hs j = false ∧ j < K) := by
      by_cases hjK : j = K
      · subst hjK
        rcases HK.out with h | h
        · exact .inl h
        · exact .inr (.inl h)
      · have := HN.out j hkj (by omega)
        exact .inr (.inr ⟨this.1, this.2, by omega⟩)
    have HZ := Lib.hid hzz
    obtain ⟨z, hzv⟩ : ∃ z, z = tr t.f t.L hs j := ⟨_, rfl⟩
    rw [← hz, ← hzv] at GT
    rw [← hzv] at HZ
    have HZV := Lib.hid hzv
    clear hz hzz hzv
    go_wp2_with fail
    refine wp_region_calm (by kernel_rfl) (by kernel_rfl) ?_
    repeat (first | go_big_quiet_skip | (go_big_quiet_want; refine quiet_ex ?_; apply Exists.intro; refine ⟨fun wq hwq => ?_, ?_⟩; ((try go_simp); first | exact rfl | (go_at_call 60; exact Calls.calm hwq (GT.out wq hwq))); ((try go_simp); go_big_quiet_on)))
    refine wpQuiet_nil ?_
    intro wq hwq
    have hb1 := hb.upd hwq (by simp)
    have HT1 := Lib.hid (HT.out.upd hwq (by simp))
    have HM1 := Lib.hid (HM.out.upd hwq (by simp))
    have hu1 := hu.nil hwq
    have hb2 := hb1.set 5 (.int .i64 (wrap64 (vis + 1)))
    have hs5 : Upd [s] wq (wq.setCell ⟨s, 5, none⟩ (.int .i64 (wrap64 (vis + 1)))) := (Upd.refl [s] wq).setCell (p := ⟨s, 5, none⟩) (.inl (by simp)) _
    have HT2 := Lib.hid (HT1.out.upd hs5 (by simpa using HBS.out))
    have HM2 := Lib.hid (HM1.out.upd hs5 (by simpa using HMS.out))
    have hu2 := hu1.then (hs5.mono (fp' := s :: Met.fp m) (by simp))
    have d5 := hb1.cell (i := 5) rfl
    have f5 := hb1.free 5
    have d0 := hb1.cell (i := 0) rfl
    have e0 := HT1.out.blk.cell (i := 0) rfl
    have hbs : b ≠ s := HBS.out b (by simp [tabFp])
    have VS := Lib.hid (visit_any m (visQ (j - k) q) 1 _ HM2.out)
    clear c0 c7 H0 H2 K2 hb hb1 HT HM hu hwq hs5 HT1 HM1 hu1 GT
    by_cases hz1 : z = -1
    · subst hz1
      have hjK : j = K := by
        rcases Nat.lt_or_ge j K with h | h
        · exact absurd HZV.out.symm (HN.out j hkj h).1
        · omega
      go_wp2_with (go_at_call 70; refine VS.out.mono ?_; rintro e w6 ⟨rfl, hm6, hu6⟩; have HM6 := Lib.hid hm6; have HT6 := Lib.hid (HT2.out.upd hu6 HMT.out); have hb6 := hb2.upd hu6 (fun h => HMS.out s h rfl); have hU6 := hu2.then (hu6.mono (fp' := s :: Met.fp m) (fun x hx => by simp [hx])); have c7 := hb6.cell (i := 7) rfl; have f7 := hb6.free 7; clear hm6 hu6 HT2 HM2 hu2 hb2 VS d5 f5 d0 e0)
      have hs7 : Upd [s] w6 (w6.setCell ⟨s, 7, none⟩ (.bool true)) := (Upd.refl [s] w6).setCell (p := ⟨s, 7, none⟩) (.inl (by simp)) _
      go_ret2
      subst hjK
      refine ⟨HT6.out.upd hs7 (by simpa using HBS.out), ?_, hU6.then (hs7.mono (by simp)), .inl ⟨rfl, HZV.out.symm⟩⟩
      rw [show j + 1 - k = j - k + 1 by omega]
      exact HM6.out.upd hs7 (by simpa using HMS.out)
    · have hz2 : (z == -1) = false := by simpa using hz1
      go_wp2_with (first
        | (go_at_call 70; refine VS.out.mono ?_; rintro e w6 ⟨rfl, hm6, hu6⟩; have HM6 := Lib.hid hm6; have HT6 := Lib.hid (HT2.out.upd hu6 HMT.out); have hb6 := hb2.upd hu6 (fun h => HMS.out s h rfl); have hU6 := hu2.then (hu6.mono (fp' := s :: Met.fp m) (fun x hx => by simp [hx])); have c7 := hb6.cell (i := 7) rfl; have f7 := hb6.free 7; clear hm6 hu6 HT2 HM2 hu2 hb2 VS d5 f5 d0 e0)
        | (go_at_call 145; refine (on_any HT6.out hb6).mono ?_; rintro e w7 ⟨rfl, hb7, hu7⟩))
      have HT7 := Lib.hid (HT6.out.upd hu7 (by simpa using HBS.out))
      have HM7 := Lib.hid (HM6.out.upd hu7 (by simpa using HMS.out))
      have hU7 := hU6.then (hu7.mono (fp' := s :: Met.fp m) (by simp))
      clear HT6 HM6 hb6 hU6 hu7 c7 f7
      have hjg' : j + gk = K := hjg
      rcases HZ.out with h | ⟨_, hh⟩ | ⟨_, hh, hlt⟩
      · exact absurd h hz1
      · have hjK : j = K := by
          rcases Nat.lt_or_ge j K with h | h
          · rw [(HN.out j hkj h).2] at hh; cases hh
          · omega
        have htold := told_hit hh
        have htr := hit_live HT7.out.ok.laid hh
        simp only [hit, Bool.and_eq_true, decide_eq_true_eq] at hh
        rw [← HZV.out] at hh htold htr
        obtain ⟨e, rfl, hel, _, _⟩ := htr
        obtain ⟨hTz, hxh⟩ := hh
        obtain ⟨g, cap, rfl, hcap⟩ := HT7.out.some (by omega)
        have H0 := hb7.later (i := 0) rfl
        have H1 := hb7.later (i := 1) rfl
        have H6 := hb7.later (i := 6) rfl
        have K1 := HT7.out.blk.later (i := 1) rfl
        have E1 := HT7.out.later_ent hel (j := 1) (by omega) rfl
        have hm := es_le HT7.out.ok
        have HTD := Lib.hid htold
        rw [hxh] at E1
        clear htold hxh
        generalize told t.f t.L t.es hs j = T at *
        generalize hnl : t.es.length = nn at *
        have HNL := Lib.hid hnl
        clear hnl
        have hei : (e : Int) < (nn : Int) := by omega
        refine wp_region_calm (by kernel_rfl) (by kernel_rfl) ?_
        repeat (first | go_big_quiet_skip | (go_big_quiet_want; refine quiet_ex ?_; apply Exists.intro; refine ⟨fun wq hwq => ?_, ?_⟩; ((try go_simp); first | exact rfl | (fail)); ((try go_simp); go_big_quiet_on)))
        refine wpQuiet_nil ?_
        intro wq hwq
        have hb8 := hb7.upd hwq (by simp)
        have HT8 := Lib.hid (HT7.out.upd hwq (by simp))
        have HM8 := Lib.hid (HM7.out.upd hwq (by simp))
        have hU8 := hU7.nil hwq
        have c6 := hb8.cell (i := 6) rfl
        have f6 := hb8.free 6
        have hs6 : Upd [s] wq (wq.setCell ⟨s, 6, none⟩ (.int .i64 e)) := (Upd.refl [s] wq).setCell (p := ⟨s, 6, none⟩) (.inl (by simp)) _
        clear H0 H1 H6 K1 E1 hb7 HT7 HM7 hU7 hwq
        go_wp2_with fail
        go_ret2
        subst hjK
        refine ⟨HT8.out.upd hs6 (by simpa using HBS.out), ?_, hU8.then (hs6.mono (by simp)), .inr ⟨by rw [← HZV.out]; rfl, by rw [← HZV.out]; exact hz1, wrap64 (vis + 1), ?_⟩⟩
        · rw [show j + 1 - k = j - k + 1 by omega]
          exact HM8.out.upd hs6 (by simpa using HMS.out)
        · have := hb8.set 6 (.int .i64 e)
          unfold seekL
          rw [HTD.out]
          exact this
      · have htold := told_not hh
        have hcase : (¬ told t.f t.L t.es hs j < z) ∨ (told t.f t.L t.es hs j < z ∧ ∃ e : Nat, z = e ∧ e < t.es.length ∧ ((entOf t.es (e : Int)).hash == hs) = false) := by
          by_cases hT : told t.f t.L t.es hs j < z
          · refine .inr ⟨hT, ?_⟩
            have hge := told_ge t.f t.L t.es hs j
            rcases HT7.out.ok.laid.cell _ (trC_lt hs t.L j) with h | h | ⟨e, h, h1, h2⟩
            · have : tr t.f t.L hs j = -1 := h; rw [← HZV.out] at this; exact absurd this hz1
            · have : tr t.f t.L hs j = -2 := h; rw [← HZV.out] at this; omega
            · have : tr t.f t.L hs j = e := h
              rw [← HZV.out] at this
              refine ⟨e, this, h1, ?_⟩
              simp only [hit] at hh
              rw [← HZV.out, decide_eq_true hT, this] at hh
              simpa using hh
          · exact .inl hT
        have HTD := Lib.hid htold
        have hb7' : Hid (Blk w7 s 215 (seekL b t hs (j + 1) (wrap64 (vis + 1)) false)) := Lib.hid (by unfold seekL; rw [htold]; exact hb7)
        clear htold hh
        generalize told t.f t.L t.es hs j = T at *
        have H0 := hb7.later (i := 0) rfl
        have H1 := hb7.later (i := 1) rfl
        have H6 := hb7.later (i := 6) rfl
        rcases hcase with hT | ⟨hT, e, rfl, hel, hne⟩
        · refine wp_region_calm (by kernel_rfl) (by kernel_rfl) ?_
          repeat (first | go_big_quiet_skip | (go_big_quiet_want; refine quiet_ex ?_; apply Exists.intro; refine ⟨fun wq hwq => ?_, ?_⟩; ((try go_simp); first | exact rfl | (fail)); ((try go_simp); go_big_quiet_on)))
          refine wpQuiet_nil ?_
          intro wq hwq
          have hb8 := hb7'.out.upd hwq (by simp)
          have HT8 := Lib.hid (HT7.out.upd hwq (by simp))
          have HM8 := Lib.hid (HM7.out.upd hwq (by simp))
          have hU8 := hU7.nil hwq
          clear H0 H1 H6 hb7 HT7 HM7 hU7 hwq
          go_wp2_with fail
          go_roundg (gk - 1)
          case rel => exact ⟨j + 1, _, by omega, by omega, hb8, HT8, Lib.hid (by rw [show j + 1 - k = j - k + 1 by omega]; exact HM8.out), hU8⟩
          case measure => omega
        · obtain ⟨g, cap, rfl, hcap⟩ := HT7.out.some (by omega)
          have K1 := HT7.out.blk.later (i := 1) rfl
          have E1 := HT7.out.later_ent hel (j := 1) (by omega) rfl
          have hm := es_le HT7.out.ok
          generalize hnl : t.es.length = nn at *
          have HNL := Lib.hid hnl
          clear hnl
          have hei : (e : Int) < (nn : Int) := by omega
          refine wp_region_calm (by kernel_rfl) (by kernel_rfl) ?_
          repeat (first | go_big_quiet_skip | (go_big_quiet_want; refine quiet_ex ?_; apply Exists.intro; refine ⟨fun wq hwq => ?_, ?_⟩; ((try go_simp); first | exact rfl | (fail)); ((try go_simp); go_big_quiet_on)))
          refine wpQuiet_nil ?_
          intro wq hwq
          have hb8 := hb7'.out.upd hwq (by simp)
          have HT8 := Lib.hid (HT7.out.upd hwq (by simp))
          have HM8 := Lib.hid (HM7.out.upd hwq (by simp))
          have hU8 := hU7.nil hwq
          clear H0 H1 H6 K1 E1 hb7 HT7 HM7 hU7 hwq
          go_wp2_with fail
          go_roundg (gk - 1)
          case rel => exact ⟨j + 1, _, by omega, by omega, hb8, HT8, Lib.hid (by rw [show j + 1 - k = j - k + 1 by omega]; exact HM8.out), hU8⟩
          case measure => omega
end Go.Proofs.Ytnaeehnnjhklbaa
