/- The walk of package table: Add. -/
import Derived.Test.YtnaeehnnjhklbaaDrop
import Derived.Test.YtnaeehnnjhklbaaNext
import Derived.Test.YtnaeehnnjhklbaaRegion
import Derived.Maps.AppendAt
set_option linter.unusedVariables false
namespace Go.Proofs.Ytnaeehnnjhklbaa
open Go.RowKit

variable {w w' : World} {b : Nat} {v : Value} {cb cg : Nat} {m : Option Addr} {t : Tab} {q : Cnt}

def Tab.full (t : Tab) : Bool := decide (t.es.length = room t.L)
def Tab.addQ (t : Tab) (q : Cnt) : Cnt := if t.es.length = room t.L then q.add 0 1 else q
/-- What Add comes to. -/
def Added (w : World) (b : Nat) (v : Value) (cb cg : Nat) (m : Option Addr) (t : Tab) (q : Cnt) (h k z : Int) (e : Ending) (w' : World) : Prop :=
  e = .returned (.tuple #[.int .i64 t.roomy.es.length, .int .i64 0]) ∧ Met w' m (t.addQ q) ∧ Upd (tabFp b v cb cg ++ Met.fp m) w w' ∧
    ∃ v' cb' cg', TabB w' b v' cb' cg' m (t.add h k z) ∧ ∀ x ∈ tabFp b v' cb' cg', x ∈ tabFp b v cb cg ∨ w.heap.size ≤ x

/-- What has come about ahead of the append. -/
def Roomy (w : World) (b : Nat) (v : Value) (cb cg : Nat) (m : Option Addr) (t : Tab) (q : Cnt) (w' : World) : Prop :=
  Met w' m (t.addQ q) ∧ Upd (tabFp b v cb cg ++ Met.fp m) w w' ∧ Blk w' w.heap.size 54 [.pointer (some ⟨b, 0, none⟩)] ∧
    ∃ v' cb' cg', TabB w' b v' cb' cg' m t.roomy ∧ ∀ x ∈ tabFp b v' cb' cg', x ∈ tabFp b v cb cg ∨ w.heap.size < x

theorem Tab.push_live (t : Tab) (h k z : Int) : (t.push h k z).live = t.live + 1 := by
  unfold Tab.live Tab.push
  rw [liveL_app, liveL_one _ rfl, List.length_append]; rfl
theorem room_three' {L : Nat} (h : 3 ≤ L) : 5 ≤ room L := by
  have : 2 ^ 3 ≤ 2 ^ L := Nat.pow_le_pow_right (by omega) h
  unfold room; omega

set_option maxHeartbeats 1000000 in
theorem add_any (hT : TabB w b v cb cg m t) (hm : Met w m q) (hlv : 3 * t.live ≤ 1048576) (h k z : Int) :
    Calls Try.prog 113 #[.pointer (some ⟨b, 0, none⟩), .int .i64 h, .int .i64 k, .int .i64 z] w (Added w b v cb cg m t q h k z) := by
  have hu0 := (Upd.refl [] w).alloc (.cells #[.pointer (some ⟨b, 0, none⟩)] 54)
  have hT0 := Lib.hid (hT.upd hu0 (by simp))
  have hm0 := Lib.hid (hm.upd hu0 (by simp))
  have k0 := Blk.new w 54 [.pointer (some ⟨b, 0, none⟩)]
  have hTl := Lib.hid hT.lt
  have hml := Lib.hid hm.lt
  have hE := es_le hT.ok
  have hok := Lib.hid hT.ok
  have hmt := Lib.hid (hm.ne_tab hT)
  clear hT hm
  go_enter Try.func113, Try.ntmps113
  go_wp2_with (go_at_call 108; refine (begin_any hT0.out).mono ?_; rintro e w1 ⟨rfl, rfl⟩)
  generalize hW0 : w.alloc _ = W at *
  have hWs : W.heap.size = w.heap.size + 1 := by rw [← hW0]; simp
  obtain ⟨B0, hB0⟩ : ∃ B0, B0 = w.heap.size := ⟨_, rfl⟩
  rw [← hB0] at k0 ⊢
  have HWS := Lib.hid hWs
  have HB0 := Lib.hid hB0
  clear hW0 hWs hB0
  have R := Lib.hid (fun W' (hu : Upd [] W W') => (hT0.out.upd hu (by simp)).cc.room)
  have A0 := k0.later (i := 0) rfl
  have T1 := hT0.out.blk.later (i := 1) rfl
  have T2 := hT0.out.blk.later (i := 2) rfl
  obtain ⟨va, vc, rfl⟩ := erow_shape hT0.out.row
  have hrm := room_le hT0.out.cc.hi
  have hrl := hok.out.fits
  obtain ⟨rm, hrmv⟩ : ∃ rm, rm = room t.L := ⟨_, rfl⟩
  obtain ⟨ln, hlnv⟩ : ∃ ln, ln = t.es.length := ⟨_, rfl⟩
  have HRM := Lib.hid hrmv
  have HLN := Lib.hid hlnv
  rw [← hrmv] at R hrm hrl
  rw [← hlnv] at T1 hrl hE
  by_cases hfull : ln = rm
  · have hfb : ((ln : Int) == (rm : Int)) = true := by simp; omega
    clear hrmv hlnv
    refine wp_region_calm (by kernel_rfl) (by kernel_rfl) ?_
    repeat (first | go_big_quiet_skip | (go_big_quiet_want; refine quiet_ex ?_; apply Exists.intro; refine ⟨fun wq hwq => ?_, ?_⟩; ((try go_simp); first | exact rfl | (go_at_call 88; exact Calls.calm hwq (R.out wq hwq))); ((try go_simp); go_big_quiet_on)))
    refine wpQuiet_nil ?_
    intro wq hwq
    have hfullH := Lib.hid hfull
    clear hfb hfull
    have hT1 := Lib.hid (hT0.out.upd hwq (by simp))
    have hm1 := Lib.hid (hm0.out.upd hwq (by simp))
    have k1 := Lib.hid (k0.upd hwq (by simp))
    have hu1 := Lib.hid (hu0.then hwq)
    have hln0 : 0 < t.es.length := by have := HRM.out; have := HLN.out; have := hfullH.out; have := room_three' hok.out.laid.lo; omega
    obtain ⟨g, cap, hva, hcap⟩ := erow_some hT1.out.row hln0
    rw [hva] at hT1 hTl hmt
    have hvv := Lib.hid hva
    have nbg : b ≠ g := hT1.out.ne_bv rfl
    have hgm : g ∉ Met.fp m := hmt.out g (by simp [tabFp, Value.ownBlock])
    have hbm : b ∉ Met.fp m := hmt.out b (by simp [tabFp])
    have hbl : b < B0 := by rw [HB0.out]; exact hTl.out b (by simp [tabFp])
    have hgl : g < B0 := by rw [HB0.out]; exact hTl.out g (by simp [tabFp, Value.ownBlock])
    have hcbl : cb < B0 := by rw [HB0.out]; exact hTl.out cb (by simp [tabFp])
    have hml' : ∀ x ∈ Met.fp m, x < B0 := by rw [HB0.out]; exact hml.out
    have HML := Lib.hid hml'
    have LE := Lib.hid (least_any B0 b wq t.live hlv (k1.out.cell (i := 0) rfl) (hT1.out.blk.cell (i := 3) rfl))
    obtain ⟨s3, s20, sle, sno⟩ := logOf_spec (3 * t.live) hlv
    have SLE := Lib.hid sle
    obtain ⟨G, hG⟩ : ∃ G, G = logOf (3 * t.live) := ⟨_, rfl⟩
    rw [← hG] at LE s3 s20 SLE
    have HG := Lib.hid hG
    have HLV := Lib.hid hlv
    have s21 : ¬ (20 : Int) < (G : Int) := by omega
    have d1 := k1.out.cell (i := 0) rfl
    have hsz : B0 < wq.heap.size := k1.out.lt
    clear hva hml' A0 T1 T2 R hwq k0 hu0 sno sle hG hlv
    go_wp2_with fail
    refine LE.out.mono ?_
    rintro e w2 ⟨rfl, hu2⟩
    have hT2 := Lib.hid (hT1.out.upd hu2 (by simp))
    have hm2 := Lib.hid (hm1.out.upd hu2 (by simp))
    have k2 := Lib.hid (k1.out.upd hu2 (by simp))
    have hU2 := Lib.hid (hu1.out.then hu2)
    have d2 := k2.out.cell (i := 0) rfl
    have DR := Lib.hid (drop_any hT2.out.tabM (by have := HLN.out; omega))
    clear hu2 LE d1
    go_wp2_with fail
    refine DR.out.mono ?_
    rintro e w3 ⟨rfl, hb3, hr3, hu3⟩
    have HB3 := Lib.hid hb3
    have HR3 := Lib.hid hr3
    have hm3 := Lib.hid (hm2.out.upd hu3 (by intro x hx; simp; exact ⟨fun e => hbm (e ▸ hx), fun e => hgm (e ▸ hx)⟩))
    have k3 := Lib.hid (k2.out.upd hu3 (by simp; omega))
    have hU3 := Lib.hid (And.intro hU2.out hu3)
    have d3 := k3.out.cell (i := 0) rfl
    have IX := Lib.hid (index_any (L := G) HB3.out hm3.out hbm s3 s20)
    clear hb3 hr3 hu3 DR d2
    go_wp2_with fail
    refine IX.out.mono ?_
    rintro e w4 ⟨rfl, cb', cg', hb4, hc4, hcb4, hcg4, hm4, hu4⟩
    have HB4 := Lib.hid hb4
    have HC4 := Lib.hid hc4
    have HM4 := Lib.hid hm4
    have k4 := Lib.hid (k3.out.upd hu4 (by simp only [List.mem_cons, not_or]; exact ⟨by omega, fun hx => by have := HML.out _ hx; omega⟩))
    have HU34 := Lib.hid hu4
    have d4 := k4.out.cell (i := 0) rfl
    clear hb4 hc4 hm4 hu4 IX d3
    go_wp2_with fail
    have hcb4' : B0 < cb' ∧ B0 < cg' := by have := k3.out.lt; omega
    have hrow4 := ownsRow_keep HR3.out HU34.out (fun j hj => by
      simp [Value.ownBlock] at hj
      subst hj
      simp only [List.mem_cons, not_or]
      exact ⟨fun e => nbg e.symm, hgm⟩)
    have hT4 : TabM w4 b (.slice (some ⟨g, 0, none⟩) (liveL t.es).length cap) cb' cg' m (liveL t.es) G (fun _ => -1) t.live t.births (wrap64 (t.made + 1)) t.turns := ⟨HB4.out, hrow4, HC4.out⟩
    have LA := Lib.hid (layAll_any hT4 (fun e he => entOf_liveL he) (by rw [HG.out]; exact Nat.le_of_lt (t.compact_ok HLV.out).2))
    have hne : b ≠ cg' ∧ cb' ≠ cg' ∧ g ≠ cg' := ⟨by omega, hT4.ne_cg, by omega⟩
    have HNE := Lib.hid hne
    have HT4 := Lib.hid hT4
    clear hrow4 hT4 hne hcb4 hcg4
    refine LA.out.mono ?_
    rintro e w5 ⟨rfl, hc5, hu5⟩
    have HR : Hid (Roomy w b (.slice (some ⟨g, 0, none⟩) t.es.length cap) cb cg m t q w5) := Lib.hid (by
      obtain ⟨n1, n2, n3⟩ := HNE.out
      have hq : t.addQ q = q.add 0 1 := by unfold Tab.addQ; rw [if_pos (by have := HRM.out; have := HLN.out; have := hfullH.out; omega)]
      have hro : t.roomy = t.compact := by unfold Tab.roomy; rw [if_pos (by have := HRM.out; have := HLN.out; have := hfullH.out; omega)]
      refine ⟨?_, ?_, ?_, ?_⟩
      · rw [hq]
        exact HM4.out.upd hu5 (fun x hx => by have := HML.out x hx; simp; omega)
      · have hmono : ∀ x, x ∈ [b, g] → x ∈ tabFp b (.slice (some ⟨g, 0, none⟩) t.es.length cap) cb cg ++ Met.fp m := by simp [tabFp, Value.ownBlock]
        have u3 : Upd (tabFp b (.slice (some ⟨g, 0, none⟩) t.es.length cap) cb cg ++ Met.fp m) w w3 := (hU3.out.1.mono (by simp)).then (hU3.out.2.mono hmono)
        have u4 : Upd (tabFp b (.slice (some ⟨g, 0, none⟩) t.es.length cap) cb cg ++ Met.fp m) w w4 := u3.then (HU34.out.mono (fun x hx => by
          simp only [List.mem_cons] at hx
          rcases hx with rfl | hx
          · simp [tabFp]
          · simp [hx]))
        exact u4.trans hu5 (fun x hx => .inr (by simp at hx; subst hx; have := HB0.out; omega))
      · rw [← HB0.out]
        exact k4.out.upd hu5 (by simp; omega)
      · refine ⟨.slice (some ⟨g, 0, none⟩) (liveL t.es).length cap, cb', cg', ?_, fun x hx => ?_⟩
        · rw [hro]
          have hb5 := HT4.out.blk.upd hu5 (by simpa using n1)
          have hr5 := ownsRow_keep HT4.out.row hu5 (fun j hj => by simp [Value.ownBlock] at hj; subst hj; simpa using n3)
          refine ⟨(t.compact_ok HLV.out).1, ?_, hr5, ?_⟩
          · have : t.compact.live = t.live := by unfold Tab.live; rw [show t.compact.es = liveL t.es from rfl, liveL_liveL]
            rw [this]
            exact hb5
          · rw [HG.out] at hc5
            exact hc5
        · simp only [tabFp, Value.ownBlock, List.mem_cons, Option.mem_toList, Option.some.injEq] at hx
          have hB := HB0.out
          rcases hx with rfl | rfl | rfl | rfl
          · exact .inl (by simp [tabFp])
          · exact .inr (by omega)
          · exact .inr (by omega)
          · exact .inl (by simp [tabFp, Value.ownBlock]))
    rw [← hvv.out] at HR
    obtain ⟨Wz, rfl⟩ : ∃ Wz : World, Wz = w5 := ⟨_, rfl⟩
    rw [← hvv.out] at hTl
    clear hu5 hc5 HT4 HNE LA HB4 HC4 HM4 k4 HU34 d4 hcb4' k3 hU3 hm3 HR3 HB3 hT2 hm2 k2 hU2 hT1 hm1 k1 hu1
    obtain ⟨hmR, huR, kB, v1, cb1, cg1, hTB, hfp⟩ := HR.out
    have hro := Tab.roomy_ok hok.out HLV.out
    have hrb := Tab.roomy_births t
    have hlvv : t.roomy.live = t.live := by unfold Tab.live; rw [Tab.roomy_live]
    have HPU : Hid (t.add h k z = t.roomy.push h k z) := Lib.hid rfl
    obtain ⟨t1, ht1⟩ : ∃ t1, t1 = t.roomy := ⟨_, rfl⟩
    have HT1 := Lib.hid ht1
    rw [← ht1] at hTB hro HPU hlvv
    rw [← HB0.out] at kB
    have hlv1 : t1.live ≤ 1048576 := by have := HLV.out; omega
    have hE1 := es_le hro.1
    have HRO := Lib.hid hro
    have HMR := Lib.hid hmR
    have HUR := Lib.hid huR
    have HFP := Lib.hid hfp
    have HTB := Lib.hid hTB
    have HKB := Lib.hid kB
    obtain ⟨a1, c1, rfl⟩ := erow_shape hTB.row
    have d0 := kB.cell (i := 0) rfl
    have e1 := hTB.blk.cell (i := 1) rfl
    obtain ⟨n1, hn1⟩ : ∃ n1, n1 = t1.es.length := ⟨_, rfl⟩
    have HN1 := Lib.hid hn1
    rw [← hn1] at e1 hE1
    clear ht1 hmR huR hTB kB hfp hro hn1 hlvv hrb HR
    go_wp2_with fail
    have hTd := HTB.out.upd (Upd.refl [] Wz).drew (by simp)
    have kBd := HKB.out.upd (Upd.refl [] Wz).drew (by simp)
    have e0d := kBd.cell (i := 0) rfl
    have e1d := hTd.blk.cell (i := 1) rfl
    have e4d := hTd.blk.cell (i := 4) rfl
    rw [← HN1.out] at e1d
    obtain ⟨i0, hi0, hz0, hz1, hz2⟩ := info_parts infoEnt
    obtain ⟨x, hx⟩ : ∃ x : Ent, x = ⟨true, h, k, z, t1.births⟩ := ⟨_, rfl⟩
    have hxv : x.vals.toArray = #[.bool true, .int .i64 h, .int .i64 k, .int .i64 z, .int .i64 t1.births] := by rw [hx]; rfl
    have hrow := (HTB.out.row.alloc (.cells x.vals.toArray 130)).drew
    have hnb := (Blk.new Wz 130 x.vals).drew
    obtain ⟨v2, w2, hap, hown, hgr, _, hplace⟩ := run_append_own_at (P := Try.prog) (Wz.alloc (.cells x.vals.toArray 130)).drew 0 68 68 130 i0 (.agg #[.bool false, .int .i64 0, .int .i64 0, .int .i64 0, .int .i64 0]) 5 40 Try.underlying68 hi0 hz0 hz1 hz2 rfl (by decide) (.slice a1 t1.es.length c1) t1.es.length (entsL t1.es) hrow ⟨Wz.heap.size, 0, none⟩ 1 1 x.vals rfl (fun j u hu => by rw [plain_addr, Nat.zero_add]; exact hnb.cell hu) (vals_one x) (by have := HN1.out; unfold maxLen; omega) (by have := HN1.out; omega) (Nat.zero_le _)
    have hE2 : ERow w2 v2 (t1.es ++ [x]) := by unfold ERow; rw [entsL_app, entsL_one, List.length_append]; exact hown
    have hnbv : ∀ k, (Value.slice a1 t1.es.length c1).ownBlock = some k → b ≠ k ∧ cb1 ≠ k ∧ cg1 ≠ k ∧ B0 ≠ k := fun k hk => ⟨hTd.ne_bv hk, hTd.ne_cv hk, hTd.ne_gv hk, by
      obtain ⟨cur, hg⟩ := own_block hTd.row hk
      exact blk_ne kBd hg (by decide)⟩
    have hu2 : Upd (Value.slice a1 t1.es.length c1).ownBlock.toList Wz w2 := ((((Upd.refl _ Wz).alloc (.cells x.vals.toArray 130)).drew)).grown hgr (fun k hk => .inl (by rw [Option.mem_toList]; exact hk))
    have hb2 := HTB.out.blk.upd hu2 (by simpa using fun hk => (hnbv b hk).1 rfl)
    have hc2 := HTB.out.cc.upd hu2 (by simpa using fun hk => (hnbv cb1 hk).2.1 rfl) (by simpa using fun hk => (hnbv cg1 hk).2.2.1 rfl)
    have hk2 := HKB.out.upd hu2 (by simpa using fun hk => (hnbv B0 hk).2.2.2 rfl)
    have hm2 := HMR.out.upd hu2 (by
      intro y hy
      simp only [Option.mem_toList]
      exact fun hk => HMR.out.ne_tab HTB.out y (by simp [tabFp, hk]) hy)
    obtain ⟨g2, cap2, rfl⟩ := ownsRow_succ hown
    have hn2 : (t1.es ++ [x]).length = n1 + 1 := by rw [List.length_append, ← HN1.out]; rfl
    rw [hxv] at hap
    rw [← HN1.out] at hap hE2
    have g0 := hk2.cell (i := 0) rfl
    have g1 := hb2.cell (i := 1) rfl
    rw [← HN1.out] at g1
    have gf1 := hb2.free 1
    have g4 := hb2.cell (i := 4) rfl
    have ha0 := ((HKB.out.alloc (.cells x.vals.toArray 130)).drew).cell (i := 0) rfl
    have ha1 := ((HTB.out.blk.alloc (.cells x.vals.toArray 130)).drew).cell (i := 1) rfl
    have ha4 := ((HTB.out.blk.alloc (.cells x.vals.toArray 130)).drew).cell (i := 4) rfl
    rw [hxv] at ha0 ha1 ha4
    rw [← HN1.out] at ha1
    have HX := Lib.hid hx
    have HE2 := Lib.hid hE2
    have HB2 := Lib.hid hb2
    have HC2 := Lib.hid hc2
    have HK2 := Lib.hid hk2
    have HM2 := Lib.hid hm2
    have HU2 := Lib.hid hu2
    have HN2 := Lib.hid hn2
    clear hx hE2 hb2 hc2 hk2 hm2 hu2 hn2 hown hgr hnbv hnb hrow hxv kBd hTd d0 e1
    refine wp_region_chain 13 (C := fun w' => w'.cell? ⟨B0, 0, none⟩ = some (.pointer (some ⟨b, 0, none⟩)) ∧ w'.cell? ⟨b, 1, none⟩ = some (.slice a1 n1 c1) ∧ w'.cell? ⟨b, 4, none⟩ = some (.int .i64 t1.births)) (by kernel_rfl) (by kernel_rfl) ⟨e0d, e1d, e4d⟩ ?_
    simp only [List.take_succ_cons, List.take_zero, List.drop_succ_cons, List.drop_zero]
    repeat (refine headR_step (fun K hK => ?_); apply Exists.intro; refine ⟨fun wq hwq => ?_, ?_⟩; (focus (obtain ⟨q0, q1, q4⟩ := hwq; apply runs_quiet; (focus (intro c h; cases h)); (focus rfl); go_simp; try exact rfl)); go_simp; refine hK _ ?_; clear hK K)
    refine headR_nil ?_
    refine tailR_step (fun K hK => ?_)
    refine ⟨.slice (some ⟨Wz.heap.size, 0, none⟩) 1 1, _, runs_value (fun c h => by cases h) rfl (by go_simp; try exact rfl), ⟨ha0, ha1, ha4⟩, ?_⟩
    go_simp
    refine hK _ _ ?_
    clear hK K
    refine tailR_step (fun K hK => ?_)
    refine ⟨_, w2, runs_append rfl _ _ _ rfl hap (by go_simp) (by go_simp), ⟨g0, g1, g4⟩, ?_⟩
    go_simp
    refine hK _ _ ?_
    clear hK K
    refine tailR_step (fun K hK => ?_)
    refine ⟨_, w2, runs_value (fun c h => by cases h) rfl (by go_simp; try exact rfl), ⟨g0, g1, g4⟩, ?_⟩
    go_simp
    refine hK _ _ ?_
    clear hK K
    refine tailR_step (fun K hK => ?_)
    refine ⟨_, w2, runs_value (fun c h => by cases h) rfl (by go_simp; try exact rfl), ⟨g0, g1, g4⟩, ?_⟩
    go_simp
    refine hK _ _ ?_
    clear hK K
    refine tailR_last (fun K hK => ?_)
    refine ⟨_, _, runs_skip (fun c h => by cases h) rfl (by go_simp; try exact rfl), ?_⟩
    go_simp
    refine hK _ _ ?_
    clear hK K
    have nbc := HTB.out.ne_bc
    have nbg := HTB.out.ne_bg
    obtain ⟨curg, hgg⟩ := own_block HE2.out (k := g2) rfl
    have nbv : b ≠ g2 := blk_ne HB2.out hgg (by decide)
    have ncv : cb1 ≠ g2 := blk_ne HC2.out.c hgg (by decide)
    have hB1 : ∀ y ∈ tabFp b (Value.slice a1 t1.es.length c1) cb1 cg1, B0 ≠ y := fun y hy => by
      have h2 := HB0.out
      rcases HFP.out y hy with h | h
      · have := hTl.out y h
        omega
      · omega
    have nBb : B0 ≠ b := hB1 b (by simp [tabFp])
    have nBc : B0 ≠ cb1 := hB1 cb1 (by simp [tabFp])
    have nBg : B0 ≠ cg1 := hB1 cg1 (by simp [tabFp])
    have u3 : Upd [b] w2 (w2.setCell ⟨b, 1, none⟩ (.slice (some ⟨g2, 0, none⟩) (n1 + 1) cap2)) := (Upd.refl [b] w2).setCell (.inl (by simp)) _
    have hT3 : TabM (w2.setCell ⟨b, 1, none⟩ (.slice (some ⟨g2, 0, none⟩) (n1 + 1) cap2)) b (.slice (some ⟨g2, 0, none⟩) (n1 + 1) cap2) cb1 cg1 m (t1.es ++ [x]) t1.L t1.f t1.live t1.births t1.made t1.turns := ⟨HB2.out.set 1 _, ownsRow_keep HE2.out u3 (fun j hj => by simp [Value.ownBlock] at hj; subst hj; simpa using fun e => nbv e.symm), HC2.out.upd u3 (by simpa using fun e => nbc e.symm) (by simpa using fun e => nbg e.symm)⟩
    have k3 := HK2.out.upd u3 (by simpa using nBb)
    have nbm : b ∉ Met.fp m := HMR.out.ne_tab HTB.out b (by simp [tabFp])
    have ngm : cg1 ∉ Met.fp m := HMR.out.ne_tab HTB.out cg1 (by simp [tabFp])
    have hm3 := HM2.out.upd u3 (fun y hy => by simp; exact fun e => nbm (e ▸ hy))
    have hU3 := Lib.hid (And.intro HU2.out u3)
    generalize w2.setCell _ _ = w3 at *
    have ngv : g2 ≠ cg1 := hT3.ne_gv rfl
    have ncg : cb1 ≠ cg1 := hT3.ne_cg
    have hlen : (t1.es ++ [x]).length = n1 + 1 := HN2.out
    have hro := HRO.out
    have hrl := room_lt t1.L
    have hent : (entOf (t1.es ++ [x]) ((n1 : Nat) : Int)).hash = h := by rw [HN1.out, entOf_last, HX.out]
    obtain ⟨E1, E2, E3⟩ := hro.1.laid.end h
    have hroom := room_le hro.1.laid.hi
    have hn1 := HN1.out
    have LA := Lib.hid (lay_any hT3 n1 (by omega) (by omega) (may_room (by rw [HN1.out]; exact hro.2)) (endK t1.f t1.L h) E1 (by rw [hent]; exact E2) (by rw [hent]; exact E3))
    rw [hent] at LA
    have d3 := k3.cell (i := 0) rfl
    have HT3 := Lib.hid hT3
    have HM3 := Lib.hid hm3
    have HK3 := Lib.hid k3
    clear hro hrl hroom hn1 hent E1 E2 E3 hT3 hm3 k3 g0 g1 gf1 g4 ha0 ha1 ha4 hap u3
    go_wp2_with fail
    refine LA.out.mono ?_
    rintro e w4 ⟨rfl, hc4, hu4⟩
    have k4 := HK3.out.upd hu4 (by simpa using nBg)
    have b4 := HT3.out.blk.upd hu4 (by simpa using nbg)
    have r4 := ownsRow_keep HT3.out.row hu4 (fun j hj => by simp [Value.ownBlock] at hj; subst hj; simpa using ngv)
    have hm4 := HM3.out.upd hu4 (fun y hy => by simp; exact fun e => ngm (e ▸ hy))
    have d4 := k4.cell (i := 0) rfl
    have b43 := b4.cell (i := 3) rfl
    have b44 := b4.cell (i := 4) rfl
    have b46 := b4.cell (i := 6) rfl
    have f4 := b4.free
    have HC4 := Lib.hid hc4
    have HU4 := Lib.hid hu4
    have HK4 := Lib.hid k4
    have HB4 := Lib.hid b4
    have HR4 := Lib.hid r4
    have HM4 := Lib.hid hm4
    clear hc4 hu4 k4 b4 r4 hm4 LA d3
    go_wp2_with fail
    go_ret2
    rw [← HN1.out] at hplace
    have HPL := Lib.hid hplace
    have u4 := ((((Upd.refl [b] w4).setCell (p := ⟨b, 4, none⟩) (.inl (by simp)) (.int .i64 (wrap64 (t1.births + 1)))).setCell (p := ⟨b, 3, none⟩) (.inl (by simp)) (.int .i64 (t1.live + 1)))).setCell (p := ⟨b, 6, none⟩) (.inl (by simp)) (.int .i64 (wrap64 (t1.turns + 1)))
    have hB5 := ((HB4.out.set 4 (.int .i64 (wrap64 (t1.births + 1)))).set 3 (.int .i64 (t1.live + 1))).set 6 (.int .i64 (wrap64 (t1.turns + 1)))
    have hr5 := ownsRow_keep HR4.out u4 (fun j hj => by simp [Value.ownBlock] at hj; subst hj; simpa using fun e => nbv e.symm)
    have hc5 := HC4.out.upd u4 (by simpa using fun e => nbc e.symm) (by simpa using fun e => nbg e.symm)
    have hm5 := HM4.out.upd u4 (fun y hy => by simp; exact fun e => nbm (e ▸ hy))
    generalize ((w4.setCell _ _).setCell _ _).setCell _ _ = w5 at *
    have hlv5 := Tab.push_live t1 h k z
    have hpok := Tab.push_ok HRO.out.1 HRO.out.2 h k z
    have hesx : (t1.push h k z).es = t1.es ++ [x] := by rw [HX.out]; rfl
    have hU : Upd (tabFp b (Value.slice va t.es.length vc) cb cg ++ Met.fp m) w w5 := by
      have hsz := HUR.out.size
      have v2 := HUR.out.trans HU2.out (fun y hy => by
        rw [Option.mem_toList] at hy
        rcases HFP.out y (by simp [tabFp, hy]) with h | h
        · exact .inl (by simp [h])
        · exact .inr (by omega))
      have v3 := v2.then (hU3.out.2.mono (fp' := tabFp b (Value.slice va t.es.length vc) cb cg ++ Met.fp m) (by simp [tabFp]))
      have v4 := v3.trans HU4.out (fun y hy => by
        simp at hy
        subst hy
        rcases HFP.out y (by simp [tabFp]) with h | h
        · exact .inl (by simp [h])
        · exact .inr (by omega))
      exact v4.then (u4.mono (fp' := tabFp b (Value.slice va t.es.length vc) cb cg ++ Met.fp m) (by simp [tabFp]))
    have hwz := HUR.out.size
    refine ⟨?_, hm5, hU, .slice (some ⟨g2, 0, none⟩) (n1 + 1) cap2, cb1, cg1, ?_, ?_⟩
    · rw [← HT1.out, ← HN1.out]; rfl
    · rw [HPU.out]
      refine ⟨hpok, ?_, ?_, by rw [HN1.out] at hc5; exact hc5⟩
      · rw [hlv5]
        exact hB5
      · rw [hesx]
        exact hr5
    · intro y hy
      simp only [tabFp, List.mem_cons, Option.mem_toList] at hy
      rcases hy with rfl | rfl | rfl | hy
      · exact .inl (by simp [tabFp])
      · rcases HFP.out y (by simp [tabFp]) with h | h
        · exact .inl h
        · exact .inr (by omega)
      · rcases HFP.out y (by simp [tabFp]) with h | h
        · exact .inl h
        · exact .inr (by omega)
      · rcases HPL.out with h0 | h0
        · rw [h0] at hy
          have hy2 : (Value.slice a1 t1.es.length c1).ownBlock = some y := by rw [HN1.out] at hy; exact hy
          rcases HFP.out y (by simp [tabFp, hy2]) with h | h
          · exact .inl h
          · exact .inr (by omega)
        · rw [h0] at hy
          simp at hy
          exact .inr (by omega)
  · have hfb : ((ln : Int) == (rm : Int)) = false := by simp; omega
    clear hrmv hlnv
    refine wp_region_calm (by kernel_rfl) (by kernel_rfl) ?_
    repeat (first | go_big_quiet_skip | (go_big_quiet_want; refine quiet_ex ?_; apply Exists.intro; refine ⟨fun wq hwq => ?_, ?_⟩; ((try go_simp); first | exact rfl | (go_at_call 88; exact Calls.calm hwq (R.out wq hwq))); ((try go_simp); go_big_quiet_on)))
    refine wpQuiet_nil ?_
    intro wq hwq
    have HR : Hid (Roomy w b (.slice va t.es.length vc) cb cg m t q wq) := Lib.hid (by
      have hq : t.addQ q = q := by unfold Tab.addQ; rw [if_neg (by have := HRM.out; have := HLN.out; omega)]
      have hro : t.roomy = t := by unfold Tab.roomy; rw [if_neg (by have := HRM.out; have := HLN.out; omega)]
      refine ⟨by rw [hq]; exact hm0.out.upd hwq (by simp), (hu0.then hwq).mono (by simp), by rw [← HB0.out]; exact k0.upd hwq (by simp), _, cb, cg, by rw [hro]; exact hT0.out.upd hwq (by simp), fun x hx => .inl hx⟩)
    obtain ⟨Wz, rfl⟩ : ∃ Wz : World, Wz = wq := ⟨_, rfl⟩
    clear hfb hfull A0 T1 T2 R hwq k0 hu0
    have HLV := Lib.hid hlv
    clear hlv
    obtain ⟨hmR, huR, kB, v1, cb1, cg1, hTB, hfp⟩ := HR.out
    have hro := Tab.roomy_ok hok.out HLV.out
    have hrb := Tab.roomy_births t
    have hlvv : t.roomy.live = t.live := by unfold Tab.live; rw [Tab.roomy_live]
    have HPU : Hid (t.add h k z = t.roomy.push h k z) := Lib.hid rfl
    obtain ⟨t1, ht1⟩ : ∃ t1, t1 = t.roomy := ⟨_, rfl⟩
    have HT1 := Lib.hid ht1
    rw [← ht1] at hTB hro HPU hlvv
    rw [← HB0.out] at kB
    have hlv1 : t1.live ≤ 1048576 := by have := HLV.out; omega
    have hE1 := es_le hro.1
    have HRO := Lib.hid hro
    have HMR := Lib.hid hmR
    have HUR := Lib.hid huR
    have HFP := Lib.hid hfp
    have HTB := Lib.hid hTB
    have HKB := Lib.hid kB
    obtain ⟨a1, c1, rfl⟩ := erow_shape hTB.row
    have d0 := kB.cell (i := 0) rfl
    have e1 := hTB.blk.cell (i := 1) rfl
    obtain ⟨n1, hn1⟩ : ∃ n1, n1 = t1.es.length := ⟨_, rfl⟩
    have HN1 := Lib.hid hn1
    rw [← hn1] at e1 hE1
    clear ht1 hmR huR hTB kB hfp hro hn1 hlvv hrb HR
    go_wp2_with fail
    have hTd := HTB.out.upd (Upd.refl [] Wz).drew (by simp)
    have kBd := HKB.out.upd (Upd.refl [] Wz).drew (by simp)
    have e0d := kBd.cell (i := 0) rfl
    have e1d := hTd.blk.cell (i := 1) rfl
    have e4d := hTd.blk.cell (i := 4) rfl
    rw [← HN1.out] at e1d
    obtain ⟨i0, hi0, hz0, hz1, hz2⟩ := info_parts infoEnt
    obtain ⟨x, hx⟩ : ∃ x : Ent, x = ⟨true, h, k, z, t1.births⟩ := ⟨_, rfl⟩
    have hxv : x.vals.toArray = #[.bool true, .int .i64 h, .int .i64 k, .int .i64 z, .int .i64 t1.births] := by rw [hx]; rfl
    have hrow := (HTB.out.row.alloc (.cells x.vals.toArray 130)).drew
    have hnb := (Blk.new Wz 130 x.vals).drew
    obtain ⟨v2, w2, hap, hown, hgr, _, hplace⟩ := run_append_own_at (P := Try.prog) (Wz.alloc (.cells x.vals.toArray 130)).drew 0 68 68 130 i0 (.agg #[.bool false, .int .i64 0, .int .i64 0, .int .i64 0, .int .i64 0]) 5 40 Try.underlying68 hi0 hz0 hz1 hz2 rfl (by decide) (.slice a1 t1.es.length c1) t1.es.length (entsL t1.es) hrow ⟨Wz.heap.size, 0, none⟩ 1 1 x.vals rfl (fun j u hu => by rw [plain_addr, Nat.zero_add]; exact hnb.cell hu) (vals_one x) (by have := HN1.out; unfold maxLen; omega) (by have := HN1.out; omega) (Nat.zero_le _)
    have hE2 : ERow w2 v2 (t1.es ++ [x]) := by unfold ERow; rw [entsL_app, entsL_one, List.length_append]; exact hown
    have hnbv : ∀ k, (Value.slice a1 t1.es.length c1).ownBlock = some k → b ≠ k ∧ cb1 ≠ k ∧ cg1 ≠ k ∧ B0 ≠ k := fun k hk => ⟨hTd.ne_bv hk, hTd.ne_cv hk, hTd.ne_gv hk, by
      obtain ⟨cur, hg⟩ := own_block hTd.row hk
      exact blk_ne kBd hg (by decide)⟩
    have hu2 : Upd (Value.slice a1 t1.es.length c1).ownBlock.toList Wz w2 := ((((Upd.refl _ Wz).alloc (.cells x.vals.toArray 130)).drew)).grown hgr (fun k hk => .inl (by rw [Option.mem_toList]; exact hk))
    have hb2 := HTB.out.blk.upd hu2 (by simpa using fun hk => (hnbv b hk).1 rfl)
    have hc2 := HTB.out.cc.upd hu2 (by simpa using fun hk => (hnbv cb1 hk).2.1 rfl) (by simpa using fun hk => (hnbv cg1 hk).2.2.1 rfl)
    have hk2 := HKB.out.upd hu2 (by simpa using fun hk => (hnbv B0 hk).2.2.2 rfl)
    have hm2 := HMR.out.upd hu2 (by
      intro y hy
      simp only [Option.mem_toList]
      exact fun hk => HMR.out.ne_tab HTB.out y (by simp [tabFp, hk]) hy)
    obtain ⟨g2, cap2, rfl⟩ := ownsRow_succ hown
    have hn2 : (t1.es ++ [x]).length = n1 + 1 := by rw [List.length_append, ← HN1.out]; rfl
    rw [hxv] at hap
    rw [← HN1.out] at hap hE2
    have g0 := hk2.cell (i := 0) rfl
    have g1 := hb2.cell (i := 1) rfl
    rw [← HN1.out] at g1
    have gf1 := hb2.free 1
    have g4 := hb2.cell (i := 4) rfl
    have ha0 := ((HKB.out.alloc (.cells x.vals.toArray 130)).drew).cell (i := 0) rfl
    have ha1 := ((HTB.out.blk.alloc (.cells x.vals.toArray 130)).drew).cell (i := 1) rfl
    have ha4 := ((HTB.out.blk.alloc (.cells x.vals.toArray 130)).drew).cell (i := 4) rfl
    rw [hxv] at ha0 ha1 ha4
    rw [← HN1.out] at ha1
    have HX := Lib.hid hx
    have HE2 := Lib.hid hE2
    have HB2 := Lib.hid hb2
    have HC2 := Lib.hid hc2
    have HK2 := Lib.hid hk2
    have HM2 := Lib.hid hm2
    have HU2 := Lib.hid hu2
    have HN2 := Lib.hid hn2
    clear hx hE2 hb2 hc2 hk2 hm2 hu2 hn2 hown hgr hnbv hnb hrow hxv kBd hTd d0 e1
    refine wp_region_chain 13 (C := fun w' => w'.cell? ⟨B0, 0, none⟩ = some (.pointer (some ⟨b, 0, none⟩)) ∧ w'.cell? ⟨b, 1, none⟩ = some (.slice a1 n1 c1) ∧ w'.cell? ⟨b, 4, none⟩ = some (.int .i64 t1.births)) (by kernel_rfl) (by kernel_rfl) ⟨e0d, e1d, e4d⟩ ?_
    simp only [List.take_succ_cons, List.take_zero, List.drop_succ_cons, List.drop_zero]
    repeat (refine headR_step (fun K hK => ?_); apply Exists.intro; refine ⟨fun wq hwq => ?_, ?_⟩; (focus (obtain ⟨q0, q1, q4⟩ := hwq; apply runs_quiet; (focus (intro c h; cases h)); (focus rfl); go_simp; try exact rfl)); go_simp; refine hK _ ?_; clear hK K)
    refine headR_nil ?_
    refine tailR_step (fun K hK => ?_)
    refine ⟨.slice (some ⟨Wz.heap.size, 0, none⟩) 1 1, _, runs_value (fun c h => by cases h) rfl (by go_simp; try exact rfl), ⟨ha0, ha1, ha4⟩, ?_⟩
    go_simp
    refine hK _ _ ?_
    clear hK K
    refine tailR_step (fun K hK => ?_)
    refine ⟨_, w2, runs_append rfl _ _ _ rfl hap (by go_simp) (by go_simp), ⟨g0, g1, g4⟩, ?_⟩
    go_simp
    refine hK _ _ ?_
    clear hK K
    refine tailR_step (fun K hK => ?_)
    refine ⟨_, w2, runs_value (fun c h => by cases h) rfl (by go_simp; try exact rfl), ⟨g0, g1, g4⟩, ?_⟩
    go_simp
    refine hK _ _ ?_
    clear hK K
    refine tailR_step (fun K hK => ?_)
    refine ⟨_, w2, runs_value (fun c h => by cases h) rfl (by go_simp; try exact rfl), ⟨g0, g1, g4⟩, ?_⟩
    go_simp
    refine hK _ _ ?_
    clear hK K
    refine tailR_last (fun K hK => ?_)
    refine ⟨_, _, runs_skip (fun c h => by cases h) rfl (by go_simp; try exact rfl), ?_⟩
    go_simp
    refine hK _ _ ?_
    clear hK K
    have nbc := HTB.out.ne_bc
    have nbg := HTB.out.ne_bg
    obtain ⟨curg, hgg⟩ := own_block HE2.out (k := g2) rfl
    have nbv : b ≠ g2 := blk_ne HB2.out hgg (by decide)
    have ncv : cb1 ≠ g2 := blk_ne HC2.out.c hgg (by decide)
    have hB1 : ∀ y ∈ tabFp b (Value.slice a1 t1.es.length c1) cb1 cg1, B0 ≠ y := fun y hy => by
      have h2 := HB0.out
      rcases HFP.out y hy with h | h
      · have := hTl.out y h
        omega
      · omega
    have nBb : B0 ≠ b := hB1 b (by simp [tabFp])
    have nBc : B0 ≠ cb1 := hB1 cb1 (by simp [tabFp])
    have nBg : B0 ≠ cg1 := hB1 cg1 (by simp [tabFp])
    have u3 : Upd [b] w2 (w2.setCell ⟨b, 1, none⟩ (.slice (some ⟨g2, 0, none⟩) (n1 + 1) cap2)) := (Upd.refl [b] w2).setCell (.inl (by simp)) _
    have hT3 : TabM (w2.setCell ⟨b, 1, none⟩ (.slice (some ⟨g2, 0, none⟩) (n1 + 1) cap2)) b (.slice (some ⟨g2, 0, none⟩) (n1 + 1) cap2) cb1 cg1 m (t1.es ++ [x]) t1.L t1.f t1.live t1.births t1.made t1.turns := ⟨HB2.out.set 1 _, ownsRow_keep HE2.out u3 (fun j hj => by simp [Value.ownBlock] at hj; subst hj; simpa using fun e => nbv e.symm), HC2.out.upd u3 (by simpa using fun e => nbc e.symm) (by simpa using fun e => nbg e.symm)⟩
    have k3 := HK2.out.upd u3 (by simpa using nBb)
    have nbm : b ∉ Met.fp m := HMR.out.ne_tab HTB.out b (by simp [tabFp])
    have ngm : cg1 ∉ Met.fp m := HMR.out.ne_tab HTB.out cg1 (by simp [tabFp])
    have hm3 := HM2.out.upd u3 (fun y hy => by simp; exact fun e => nbm (e ▸ hy))
    have hU3 := Lib.hid (And.intro HU2.out u3)
    generalize w2.setCell _ _ = w3 at *
    have ngv : g2 ≠ cg1 := hT3.ne_gv rfl
    have ncg : cb1 ≠ cg1 := hT3.ne_cg
    have hlen : (t1.es ++ [x]).length = n1 + 1 := HN2.out
    have hro := HRO.out
    have hrl := room_lt t1.L
    have hent : (entOf (t1.es ++ [x]) ((n1 : Nat) : Int)).hash = h := by rw [HN1.out, entOf_last, HX.out]
    obtain ⟨E1, E2, E3⟩ := hro.1.laid.end h
    have hroom := room_le hro.1.laid.hi
    have hn1 := HN1.out
    have LA := Lib.hid (lay_any hT3 n1 (by omega) (by omega) (may_room (by rw [HN1.out]; exact hro.2)) (endK t1.f t1.L h) E1 (by rw [hent]; exact E2) (by rw [hent]; exact E3))
    rw [hent] at LA
    have d3 := k3.cell (i := 0) rfl
    have HT3 := Lib.hid hT3
    have HM3 := Lib.hid hm3
    have HK3 := Lib.hid k3
    clear hro hrl hroom hn1 hent E1 E2 E3 hT3 hm3 k3 g0 g1 gf1 g4 ha0 ha1 ha4 hap u3
    go_wp2_with fail
    refine LA.out.mono ?_
    rintro e w4 ⟨rfl, hc4, hu4⟩
    have k4 := HK3.out.upd hu4 (by simpa using nBg)
    have b4 := HT3.out.blk.upd hu4 (by simpa using nbg)
    have r4 := ownsRow_keep HT3.out.row hu4 (fun j hj => by simp [Value.ownBlock] at hj; subst hj; simpa using ngv)
    have hm4 := HM3.out.upd hu4 (fun y hy => by simp; exact fun e => ngm (e ▸ hy))
    have d4 := k4.cell (i := 0) rfl
    have b43 := b4.cell (i := 3) rfl
    have b44 := b4.cell (i := 4) rfl
    have b46 := b4.cell (i := 6) rfl
    have f4 := b4.free
    have HC4 := Lib.hid hc4
    have HU4 := Lib.hid hu4
    have HK4 := Lib.hid k4
    have HB4 := Lib.hid b4
    have HR4 := Lib.hid r4
    have HM4 := Lib.hid hm4
    clear hc4 hu4 k4 b4 r4 hm4 LA d3
    go_wp2_with fail
    go_ret2
    rw [← HN1.out] at hplace
    have HPL := Lib.hid hplace
    have u4 := ((((Upd.refl [b] w4).setCell (p := ⟨b, 4, none⟩) (.inl (by simp)) (.int .i64 (wrap64 (t1.births + 1)))).setCell (p := ⟨b, 3, none⟩) (.inl (by simp)) (.int .i64 (t1.live + 1)))).setCell (p := ⟨b, 6, none⟩) (.inl (by simp)) (.int .i64 (wrap64 (t1.turns + 1)))
    have hB5 := ((HB4.out.set 4 (.int .i64 (wrap64 (t1.births + 1)))).set 3 (.int .i64 (t1.live + 1))).set 6 (.int .i64 (wrap64 (t1.turns + 1)))
    have hr5 := ownsRow_keep HR4.out u4 (fun j hj => by simp [Value.ownBlock] at hj; subst hj; simpa using fun e => nbv e.symm)
    have hc5 := HC4.out.upd u4 (by simpa using fun e => nbc e.symm) (by simpa using fun e => nbg e.symm)
    have hm5 := HM4.out.upd u4 (fun y hy => by simp; exact fun e => nbm (e ▸ hy))
    generalize ((w4.setCell _ _).setCell _ _).setCell _ _ = w5 at *
    have hlv5 := Tab.push_live t1 h k z
    have hpok := Tab.push_ok HRO.out.1 HRO.out.2 h k z
    have hesx : (t1.push h k z).es = t1.es ++ [x] := by rw [HX.out]; rfl
    have hU : Upd (tabFp b (Value.slice va t.es.length vc) cb cg ++ Met.fp m) w w5 := by
      have hsz := HUR.out.size
      have v2 := HUR.out.trans HU2.out (fun y hy => by
        rw [Option.mem_toList] at hy
        rcases HFP.out y (by simp [tabFp, hy]) with h | h
        · exact .inl (by simp [h])
        · exact .inr (by omega))
      have v3 := v2.then (hU3.out.2.mono (fp' := tabFp b (Value.slice va t.es.length vc) cb cg ++ Met.fp m) (by simp [tabFp]))
      have v4 := v3.trans HU4.out (fun y hy => by
        simp at hy
        subst hy
        rcases HFP.out y (by simp [tabFp]) with h | h
        · exact .inl (by simp [h])
        · exact .inr (by omega))
      exact v4.then (u4.mono (fp' := tabFp b (Value.slice va t.es.length vc) cb cg ++ Met.fp m) (by simp [tabFp]))
    have hwz := HUR.out.size
    refine ⟨?_, hm5, hU, .slice (some ⟨g2, 0, none⟩) (n1 + 1) cap2, cb1, cg1, ?_, ?_⟩
    · rw [← HT1.out, ← HN1.out]; rfl
    · rw [HPU.out]
      refine ⟨hpok, ?_, ?_, by rw [HN1.out] at hc5; exact hc5⟩
      · rw [hlv5]
        exact hB5
      · rw [hesx]
        exact hr5
    · intro y hy
      simp only [tabFp, List.mem_cons, Option.mem_toList] at hy
      rcases hy with rfl | rfl | rfl | hy
      · exact .inl (by simp [tabFp])
      · rcases HFP.out y (by simp [tabFp]) with h | h
        · exact .inl h
        · exact .inr (by omega)
      · rcases HFP.out y (by simp [tabFp]) with h | h
        · exact .inl h
        · exact .inr (by omega)
      · rcases HPL.out with h0 | h0
        · rw [h0] at hy
          have hy2 : (Value.slice a1 t1.es.length c1).ownBlock = some y := by rw [HN1.out] at hy; exact hy
          rcases HFP.out y (by simp [tabFp, hy2]) with h | h
          · exact .inl h
          · exact .inr (by omega)
        · rw [h0] at hy
          simp at hy
          exact .inr (by omega)
end Go.Proofs.Ytnaeehnnjhklbaa
