/- The walk of Set on a namespace that stands on the key table, and stays there. -/
import Derived.Test.YtnaeehnnjhklbaaSpace
set_option linter.unusedVariables false
set_option maxRecDepth 100000
namespace Go.Proofs.Ytnaeehnnjhklbaa
open Go.RowKit Go.MapKept Go.ChangeMaps
variable {w w' : World} {b : Nat} {v : Value} {cb cg : Nat} {m : Option Addr} {t : Tab} {q : Cnt}
variable {fb : Nat} {tb : Nat} {nv : Value} {nb : Nat} {most pairs : Int} {names : List ByteArray}
variable {rb sb : Nat} {rv : Value} {vals : List Int} {s : ByteArray} {ver : Int}

set_option maxHeartbeats 1000000 in
theorem set_full (hS : Blk w sb 63 (spcL fb (rowWay rb) ver)) (hr : RowB w rb rv vals) (hF : FamB w fb m b nv nb most pairs names) (h : TabB w b v cb cg m t) (hm : Met w m q) (hs : s.size ≤ 200)
    (hz : rowAt t names vals s = -1) (hfull : pairs ≤ (vals.length : Int)) (z : Int) :
    Calls Try.prog 38 #[.pointer (some ⟨sb, 0, none⟩), .string s, .int .i64 z] w fun e w' => e = .returned (.int .i64 6) ∧ Met w' m (t.findQ s (numOf names s) q) ∧ Upd (Met.fp m) w w' := by
  have hge : (vals.length : Int) ≥ pairs := hfull
  have hd := (Upd.refl [] w).drew
  have NO := Lib.hid (sp_no hS)
  have hrd := hr.upd hd (by simp)
  have hSd := hS.upd hd (by simp)
  have hFd := hF.upd hd (by simp)
  have hTd := h.upd hd (by simp)
  have FD := Lib.hid (rowFind_any hrd hFd hTd (hm.upd hd (by simp)) hs (hm.ne_blk hr.blk (by decide)))
  have HMR := Lib.hid (hm.ne_rowB hr)
  have HMF := Lib.hid (hm.ne_fam hF)
  have HMT := Lib.hid (hm.ne_tab h)
  have HMS := Lib.hid (hm.ne_blk hS (by decide))
  have HSL := Lib.hid hS.lt
  have c0 := hSd.cell (i := 0) rfl
  have c1 := hSd.cell (i := 1) rfl
  have HS := Lib.hid hSd
  have HR := Lib.hid hrd
  have HF := Lib.hid hFd
  have HT := Lib.hid hTd
  obtain ⟨q1, hq1⟩ : ∃ q1, q1 = t.findQ s (numOf names s) q := ⟨_, rfl⟩
  rw [← hq1] at FD ⊢
  rw [hz] at FD
  have HQ1 := Lib.hid hq1
  clear hS hr hF h hm hd hrd hSd hFd hTd hz hq1
  go_enter Try.func38, Try.ntmps38
  go_wp2_with fail
  refine NO.out.mono ?_
  rintro e w1 ⟨rfl, rfl⟩
  go_wp2_with fail
  go_region_held3 (fun w' => w'.cell? ⟨sb, 0, none⟩ = some (.pointer (some ⟨fb, 0, none⟩)) ∧ w'.cell? ⟨sb, 1, none⟩ = some (rowWay rb))
    (first | exact ⟨c0, c1⟩ | exact ⟨d0, d1⟩)
    (first
    | (go_at_call 148
       refine FD.out.mono ?_
       rintro e w2 ⟨rfl, hm2, hu2⟩
       have HS2 := Lib.hid (HS.out.upd hu2 HMS.out)
       have HR2 := Lib.hid (HR.out.upd hu2 HMR.out)
       have HF2 := Lib.hid (HF.out.upd hu2 HMF.out)
       have HT2 := Lib.hid (HT.out.upd hu2 HMT.out)
       have HM2 := Lib.hid hm2
       have HU2 : Hid (Upd (Met.fp m) w w2) := Lib.hid (((Upd.refl _ w).drew).then hu2)
       have d0 := HS2.out.cell (i := 0) rfl
       have d1 := HS2.out.cell (i := 1) rfl))
  clear FD HS HR HF HT c0 c1 NO
  go_wp2_with fail
  have LN := Lib.hid (fun W (hu : Upd [] w2 W) => rowLen_any (HR2.out.upd hu (by simp)))
  have K0 := HS2.out.later (i := 0) rfl
  have K1 := HS2.out.later (i := 1) rfl
  have F1 := HF2.out.blk.later (i := 1) rfl
  refine wp_region_calm (by kernel_rfl) (by kernel_rfl) ?_
  repeat (first | go_big_quiet_skip | (go_big_quiet_want; refine quiet_ex ?_; apply Exists.intro; refine ⟨fun wq hwq => ?_, ?_⟩; ((try go_simp); first | exact rfl | (go_at_call 149; exact Calls.calm_same hwq (LN.out wq hwq))); ((try go_simp); go_big_quiet_on)))
  refine wpQuiet_nil ?_
  intro wq hwq
  have HS3 := Lib.hid (HS2.out.upd hwq (by simp))
  have HR3 := Lib.hid (HR2.out.upd hwq (by simp))
  have HF3 := Lib.hid (HF2.out.upd hwq (by simp))
  have HT3 := Lib.hid (HT2.out.upd hwq (by simp))
  have HM3 := Lib.hid (HM2.out.upd hwq (by simp))
  have HU3 := Lib.hid (HU2.out.nil hwq)
  clear LN K0 K1 F1 hwq HS2 HR2 HF2 HT2 HM2 HU2 d0 d1
  go_wp2_with fail
  go_ret
  exact ⟨rfl, HM3.out, HU3.out⟩
theorem spc_ne_row {wy : Value} (h : Blk w sb 63 (spcL fb wy ver)) (hr : RowB w rb rv vals) : sb ∉ rowFp rb rv := by
  intro hy
  simp only [rowFp, List.mem_cons, Option.mem_toList] at hy
  rcases hy with rfl | hy
  · exact blk_ne hr.blk h (by decide) rfl
  · obtain ⟨cur, hg⟩ := own_block hr.row hy
    exact blk_ne h hg (by decide) rfl
theorem spc_ne_fam {wy : Value} {fb' : Nat} (h : Blk w sb 63 (spcL fb' wy ver)) (hF : FamB w fb m tb nv nb most pairs names) : sb ∉ famFp fb nv nb := by
  intro hy
  simp only [famFp, List.mem_cons, Option.mem_toList] at hy
  rcases hy with rfl | rfl | hy
  · exact blk_ne hF.blk h (by decide) rfl
  · exact hF.num.not_blk h rfl
  · obtain ⟨cur, hg⟩ := own_block hF.row hy
    exact blk_ne h hg (by decide) rfl
theorem kind_E5 (L : Nat) : 63 ≠ (kindOf L).E := by
  rcases kindOf_ok L with e | e | e <;> rw [e] <;> simp [K8, K16, K32]
theorem spc_ne_tab {wy : Value} {fb' : Nat} (hS : Blk w sb 63 (spcL fb' wy ver)) (h : TabB w b v cb cg m t) : sb ∉ tabFp b v cb cg := by
  intro hx
  simp only [tabFp, List.mem_cons, Option.mem_toList] at hx
  rcases hx with rfl | rfl | rfl | hx
  · exact blk_ne hS (show w.heap[_]? = _ from h.blk) (by decide) rfl
  · exact blk_ne hS (show w.heap[_]? = _ from h.cc.c) (by decide) rfl
  · obtain ⟨cur, hg⟩ := rowIs_block h.cc.r
    exact blk_ne hS hg (kind_E5 _) rfl
  · obtain ⟨cur, hg⟩ := own_block h.row hx
    exact blk_ne hS hg (by decide) rfl

set_option maxHeartbeats 1000000 in
theorem set_turn (hS : Blk w sb 63 (spcL fb (rowWay rb) ver)) (hr : RowB w rb rv vals) (hF : FamB w fb m b nv nb most pairs names) (h : TabB w b v cb cg m t) (hm : Met w m q) (hs : s.size ≤ 200)
    (i : Nat) (hz : rowAt t names vals s = i) (hi : i < vals.length) (z : Int) :
    Calls Try.prog 38 #[.pointer (some ⟨sb, 0, none⟩), .string s, .int .i64 z] w fun e w' => e = .returned (.int .i64 0) ∧ Met w' m (t.findQ s (numOf names s) q) ∧
      Blk w' sb 63 (spcL fb (rowWay rb) (IntKind.u64.wrap (ver + 1))) ∧ RowB w' rb rv (vals.set i z) ∧ Upd (sb :: (rowFp rb rv ++ Met.fp m)) w w' := by
  have hd := (Upd.refl [] w).drew
  have NO := Lib.hid (sp_no hS)
  have hrd := hr.upd hd (by simp)
  have hSd := hS.upd hd (by simp)
  have hFd := hF.upd hd (by simp)
  have hTd := h.upd hd (by simp)
  have FD := Lib.hid (rowFind_any hrd hFd hTd (hm.upd hd (by simp)) hs (hm.ne_blk hr.blk (by decide)))
  have HMR := Lib.hid (hm.ne_rowB hr)
  have HMF := Lib.hid (hm.ne_fam hF)
  have HMT := Lib.hid (hm.ne_tab h)
  have HMS := Lib.hid (hm.ne_blk hS (by decide))
  have HSL := Lib.hid hS.lt
  have c0 := hSd.cell (i := 0) rfl
  have c1 := hSd.cell (i := 1) rfl
  have HS := Lib.hid hSd
  have HR := Lib.hid hrd
  have HF := Lib.hid hFd
  have HT := Lib.hid hTd
  obtain ⟨q1, hq1⟩ : ∃ q1, q1 = t.findQ s (numOf names s) q := ⟨_, rfl⟩
  rw [← hq1] at FD ⊢
  rw [hz] at FD
  have HQ1 := Lib.hid hq1
  clear hS hr hF h hm hd hrd hSd hFd hTd hz hq1
  go_enter Try.func38, Try.ntmps38
  go_wp2_with fail
  refine NO.out.mono ?_
  rintro e w1 ⟨rfl, rfl⟩
  go_wp2_with fail
  go_region_held3 (fun w' => w'.cell? ⟨sb, 0, none⟩ = some (.pointer (some ⟨fb, 0, none⟩)) ∧ w'.cell? ⟨sb, 1, none⟩ = some (rowWay rb))
    (first | exact ⟨c0, c1⟩ | exact ⟨d0, d1⟩)
    (first
    | (go_at_call 148
       refine FD.out.mono ?_
       rintro e w2 ⟨rfl, hm2, hu2⟩
       have HS2 := Lib.hid (HS.out.upd hu2 HMS.out)
       have HR2 := Lib.hid (HR.out.upd hu2 HMR.out)
       have HF2 := Lib.hid (HF.out.upd hu2 HMF.out)
       have HT2 := Lib.hid (HT.out.upd hu2 HMT.out)
       have HM2 := Lib.hid hm2
       have HU2 : Hid (Upd (Met.fp m) w w2) := Lib.hid (((Upd.refl _ w).drew).then hu2)
       have d0 := HS2.out.cell (i := 0) rfl
       have d1 := HS2.out.cell (i := 1) rfl))
  clear FD HS HR HF HT c0 c1 NO
  have TN := Lib.hid (rowTurn_any HR2.out i z hi)
  go_wp2_with fail
  refine TN.out.mono ?_
  rintro e w5 ⟨rfl, hr5, hu5⟩
  have HSR := Lib.hid (spc_ne_row HS2.out HR2.out)
  have HS5 := Lib.hid (HS2.out.upd hu5 HSR.out)
  have HR5 := Lib.hid hr5
  have HM5 := Lib.hid (HM2.out.upd hu5 (fun x hx hf => HMR.out x hf hx))
  have HU5 : Hid (Upd (sb :: (rowFp rb rv ++ Met.fp m)) w w5) := Lib.hid ((HU2.out.mono (fun x hx => by simp [hx])).then (hu5.mono (fun x hx => by simp [hx])))
  obtain ⟨W5, rfl⟩ : ∃ W5 : World, W5 = w5 := ⟨_, rfl⟩
  clear hr5 hu5 TN HS2 HR2 HF2 HT2 HM2 HU2 d0 d1
  have s2 := HS5.out.cell (i := 2) rfl
  have sf2 := HS5.out.free 2
  go_wp2_with fail
  go_ret
  have uv : Upd [sb] W5 (W5.setCell ⟨sb, 2, none⟩ (.int .u64 (IntKind.u64.wrap (ver + 1)))) := (Upd.refl [sb] W5).setCell (p := ⟨sb, 2, none⟩) (.inl (by simp)) _
  have hS6 := HS5.out.set 2 (.int .u64 (IntKind.u64.wrap (ver + 1)))
  exact ⟨rfl, HM5.out.upd uv (fun x hx => by simp; exact fun e => HMS.out (e ▸ hx)), hS6, HR5.out.upd uv (fun x hx => by simp; exact fun e => HSR.out (e ▸ hx)), HU5.out.then (uv.mono (by simp))⟩

set_option maxHeartbeats 1000000 in
theorem set_old (hS : Blk w sb 63 (spcL fb (rowWay rb) ver)) (hr : RowB w rb rv vals) (hF : FamB w fb m b nv nb most pairs names) (h : TabB w b v cb cg m t) (hm : Met w m q) (hs : s.size ≤ 200)
    (hz : rowAt t names vals s = -1) (hroom : (vals.length : Int) < pairs) (hall : AllLive t) (hlt : vals.length < t.es.length)
    (hk : (entOf t.es (vals.length : Int)).key = numOf names s) (hvl : vals.length ≤ 1048576) (z : Int) :
    Calls Try.prog 38 #[.pointer (some ⟨sb, 0, none⟩), .string s, .int .i64 z] w fun e w' => e = .returned (.int .i64 0) ∧
      Blk w' sb 63 (spcL fb (rowWay rb) (IntKind.u64.wrap (ver + 1))) ∧ RowAdded w rb rv vals m (t.findQ s (numOf names s) q) z w' ∧ Upd (sb :: (rowFp rb rv ++ Met.fp m)) w w' := by
  have hge : ¬ ((vals.length : Int) ≥ pairs) := by omega
  have HVL := Lib.hid hvl
  have HKK := Lib.hid (And.intro hall hk)
  clear hall hk hvl
  have hd := (Upd.refl [] w).drew
  have NO := Lib.hid (sp_no hS)
  have hrd := hr.upd hd (by simp)
  have hSd := hS.upd hd (by simp)
  have hFd := hF.upd hd (by simp)
  have hTd := h.upd hd (by simp)
  have FD := Lib.hid (rowFind_any hrd hFd hTd (hm.upd hd (by simp)) hs (hm.ne_blk hr.blk (by decide)))
  have HMR := Lib.hid (hm.ne_rowB hr)
  have HMF := Lib.hid (hm.ne_fam hF)
  have HMT := Lib.hid (hm.ne_tab h)
  have HMS := Lib.hid (hm.ne_blk hS (by decide))
  have HSL := Lib.hid hS.lt
  have c0 := hSd.cell (i := 0) rfl
  have c1 := hSd.cell (i := 1) rfl
  have HS := Lib.hid hSd
  have HR := Lib.hid hrd
  have HF := Lib.hid hFd
  have HT := Lib.hid hTd
  obtain ⟨q1, hq1⟩ : ∃ q1, q1 = t.findQ s (numOf names s) q := ⟨_, rfl⟩
  rw [← hq1] at FD ⊢
  rw [hz] at FD
  have HQ1 := Lib.hid hq1
  clear hS hr hF h hm hd hrd hSd hFd hTd hz hq1
  go_enter Try.func38, Try.ntmps38
  go_wp2_with fail
  refine NO.out.mono ?_
  rintro e w1 ⟨rfl, rfl⟩
  go_wp2_with fail
  go_region_held3 (fun w' => w'.cell? ⟨sb, 0, none⟩ = some (.pointer (some ⟨fb, 0, none⟩)) ∧ w'.cell? ⟨sb, 1, none⟩ = some (rowWay rb))
    (first | exact ⟨c0, c1⟩ | exact ⟨d0, d1⟩)
    (first
    | (go_at_call 148
       refine FD.out.mono ?_
       rintro e w2 ⟨rfl, hm2, hu2⟩
       have HS2 := Lib.hid (HS.out.upd hu2 HMS.out)
       have HR2 := Lib.hid (HR.out.upd hu2 HMR.out)
       have HF2 := Lib.hid (HF.out.upd hu2 HMF.out)
       have HT2 := Lib.hid (HT.out.upd hu2 HMT.out)
       have HM2 := Lib.hid hm2
       have HU2 : Hid (Upd (Met.fp m) w w2) := Lib.hid (((Upd.refl _ w).drew).then hu2)
       have d0 := HS2.out.cell (i := 0) rfl
       have d1 := HS2.out.cell (i := 1) rfl))
  clear FD HS HR HF HT c0 c1 NO
  go_wp2_with fail
  have LN := Lib.hid (fun W (hu : Upd [] w2 W) => rowLen_any (HR2.out.upd hu (by simp)))
  have K0 := HS2.out.later (i := 0) rfl
  have K1 := HS2.out.later (i := 1) rfl
  have F1 := HF2.out.blk.later (i := 1) rfl
  refine wp_region_calm (by kernel_rfl) (by kernel_rfl) ?_
  repeat (first | go_big_quiet_skip | (go_big_quiet_want; refine quiet_ex ?_; apply Exists.intro; refine ⟨fun wq hwq => ?_, ?_⟩; ((try go_simp); first | exact rfl | (go_at_call 149; exact Calls.calm_same hwq (LN.out wq hwq))); ((try go_simp); go_big_quiet_on)))
  refine wpQuiet_nil ?_
  intro wq hwq
  have HS3 := Lib.hid (HS2.out.upd hwq (by simp))
  have HR3 := Lib.hid (HR2.out.upd hwq (by simp))
  have HF3 := Lib.hid (HF2.out.upd hwq (by simp))
  have HT3 := Lib.hid (HT2.out.upd hwq (by simp))
  have HM3 := Lib.hid (HM2.out.upd hwq (by simp))
  have HU3 := Lib.hid (HU2.out.nil hwq)
  clear LN K0 K1 F1 hwq HS2 HR2 HF2 HT2 HM2 HU2 d0 d1
  have hdq := (Upd.refl [] wq).drew
  have AD := Lib.hid (rowAdd_old (HR3.out.upd hdq (by simp)) (HF3.out.upd hdq (by simp)) (HT3.out.upd hdq (by simp)) (HM3.out.upd hdq (by simp)) hs HKK.out.1 hlt HKK.out.2 HVL.out z)
  have HSR := Lib.hid (spc_ne_row HS3.out HR3.out)
  have HSd := Lib.hid (HS3.out.upd hdq (by simp))
  have c0 := HSd.out.cell (i := 0) rfl
  have c1 := HSd.out.cell (i := 1) rfl
  clear hdq
  go_wp2_with fail
  go_region_held3 (fun w' => w'.cell? ⟨sb, 0, none⟩ = some (.pointer (some ⟨fb, 0, none⟩)) ∧ w'.cell? ⟨sb, 1, none⟩ = some (rowWay rb))
    (first | exact ⟨c0, c1⟩ | exact ⟨d0, d1⟩)
    (first
    | (go_at_call 147
       refine AD.out.mono ?_
       rintro e w5 ⟨rfl, hA5, hu5⟩
       have HS5 := Lib.hid (HSd.out.upd hu5 (fun hf => by rcases List.mem_append.1 hf with hf | hf; exact HSR.out hf; exact HMS.out hf))
       have HA5 := Lib.hid hA5
       have HU5 := Lib.hid hu5
       have d0 := HS5.out.cell (i := 0) rfl
       have d1 := HS5.out.cell (i := 1) rfl))
  obtain ⟨W5, rfl⟩ : ∃ W5 : World, W5 = w5 := ⟨_, rfl⟩
  clear AD HR3 HF3 HT3 HM3 HS3 HSd c0 c1 d0 d1
  have s2 := HS5.out.cell (i := 2) rfl
  have sf2 := HS5.out.free 2
  go_wp2_with fail
  go_ret
  have uv : Upd [sb] W5 (W5.setCell ⟨sb, 2, none⟩ (.int .u64 (IntKind.u64.wrap (ver + 1)))) := (Upd.refl [sb] W5).setCell (p := ⟨sb, 2, none⟩) (.inl (by simp)) _
  have hS6 := HS5.out.set 2 (.int .u64 (IntKind.u64.wrap (ver + 1)))
  obtain ⟨⟨rv', hrb, hfp⟩, hmm⟩ := HA5.out
  have hsz := HU3.out.size
  have hsl : sb < w.heap.size := HSL.out
  have hsr' : sb ∉ rowFp rb rv' := spc_ne_row HS5.out hrb
  have hsm' : sb ∉ Met.fp m := HMS.out
  refine ⟨rfl, hS6, ⟨⟨rv', hrb.upd uv (fun x hx => by simp; exact fun e => hsr' (e ▸ hx)), fun x hx => (hfp x hx).imp id (fun h => Nat.le_trans hsz h)⟩, hmm.upd uv (fun x hx => by simp; exact fun e => hsm' (e ▸ hx))⟩, ?_⟩
  exact (((HU3.out.mono (fun x hx => by simp [hx])).then (((Upd.refl [] wq).drew).mono (by simp))).then (HU5.out.mono (fun x hx => List.mem_cons_of_mem _ hx))).then (uv.mono (by simp))
set_option maxHeartbeats 1000000 in
theorem set_new (hS : Blk w sb 63 (spcL fb (rowWay rb) ver)) (hr : RowB w rb rv vals) (hF : FamB w fb m b nv nb most pairs names) (h : TabB w b v cb cg m t) (hm : Met w m q) (hs : s.size ≤ 200)
    (hz : rowAt t names vals s = -1) (hroom : (vals.length : Int) < pairs) (hall : AllLive t) (hle : t.es.length ≤ vals.length)
    (hmost : (vals.length : Int) < most) (hvl : vals.length ≤ 1048576) (hnl : names.length ≤ 1048576) (hlv : 3 * t.live ≤ 1048576) (z : Int) :
    Calls Try.prog 38 #[.pointer (some ⟨sb, 0, none⟩), .string s, .int .i64 z] w fun e w' => e = .returned (.int .i64 0) ∧
      Blk w' sb 63 (spcL fb (rowWay rb) (IntKind.u64.wrap (ver + 1))) ∧ RowAdded w rb rv vals m (t.addQ (t.findQ s (numOf names s) q)) z w' ∧
      (∃ nv', FamB w' fb m b nv' nb most pairs (given names s) ∧ ∀ x ∈ famFp fb nv' nb, x ∈ famFp fb nv nb ∨ w.heap.size ≤ x) ∧
      (∃ v' cb' cg', TabB w' b v' cb' cg' m (t.add (txt s) (numOf (given names s) s) 0) ∧ ∀ x ∈ tabFp b v' cb' cg', x ∈ tabFp b v cb cg ∨ w.heap.size ≤ x) ∧
      Upd (sb :: (rowFp rb rv ++ (Met.fp m ++ (famFp fb nv nb ++ tabFp b v cb cg)))) w w' := by
  have hge : ¬ ((vals.length : Int) ≥ pairs) := by omega
  have HVL := Lib.hid hvl
  have HKK := Lib.hid hall
  have HLV := Lib.hid hlv
  clear hall hvl hlv
  have hd := (Upd.refl [] w).drew
  have NO := Lib.hid (sp_no hS)
  have hrd := hr.upd hd (by simp)
  have hSd := hS.upd hd (by simp)
  have hFd := hF.upd hd (by simp)
  have hTd := h.upd hd (by simp)
  have FD := Lib.hid (rowFind_any hrd hFd hTd (hm.upd hd (by simp)) hs (hm.ne_blk hr.blk (by decide)))
  have HMR := Lib.hid (hm.ne_rowB hr)
  have HMF := Lib.hid (hm.ne_fam hF)
  have HMT := Lib.hid (hm.ne_tab h)
  have HMS := Lib.hid (hm.ne_blk hS (by decide))
  have HSL := Lib.hid hS.lt
  have c0 := hSd.cell (i := 0) rfl
  have c1 := hSd.cell (i := 1) rfl
  have HS := Lib.hid hSd
  have HR := Lib.hid hrd
  have HF := Lib.hid hFd
  have HT := Lib.hid hTd
  obtain ⟨q1, hq1⟩ : ∃ q1, q1 = t.findQ s (numOf names s) q := ⟨_, rfl⟩
  rw [← hq1] at FD ⊢
  rw [hz] at FD
  have HQ1 := Lib.hid hq1
  clear hS hr hF h hm hd hrd hSd hFd hTd hz hq1
  go_enter Try.func38, Try.ntmps38
  go_wp2_with fail
  refine NO.out.mono ?_
  rintro e w1 ⟨rfl, rfl⟩
  go_wp2_with fail
  go_region_held3 (fun w' => w'.cell? ⟨sb, 0, none⟩ = some (.pointer (some ⟨fb, 0, none⟩)) ∧ w'.cell? ⟨sb, 1, none⟩ = some (rowWay rb))
    (first | exact ⟨c0, c1⟩ | exact ⟨d0, d1⟩)
    (first
    | (go_at_call 148
       refine FD.out.mono ?_
       rintro e w2 ⟨rfl, hm2, hu2⟩
       have HS2 := Lib.hid (HS.out.upd hu2 HMS.out)
       have HR2 := Lib.hid (HR.out.upd hu2 HMR.out)
       have HF2 := Lib.hid (HF.out.upd hu2 HMF.out)
       have HT2 := Lib.hid (HT.out.upd hu2 HMT.out)
       have HM2 := Lib.hid hm2
       have HU2 : Hid (Upd (Met.fp m) w w2) := Lib.hid (((Upd.refl _ w).drew).then hu2)
       have d0 := HS2.out.cell (i := 0) rfl
       have d1 := HS2.out.cell (i := 1) rfl))
  clear FD HS HR HF HT c0 c1 NO
  go_wp2_with fail
  have LN := Lib.hid (fun W (hu : Upd [] w2 W) => rowLen_any (HR2.out.upd hu (by simp)))
  have K0 := HS2.out.later (i := 0) rfl
  have K1 := HS2.out.later (i := 1) rfl
  have F1 := HF2.out.blk.later (i := 1) rfl
  refine wp_region_calm (by kernel_rfl) (by kernel_rfl) ?_
  repeat (first | go_big_quiet_skip | (go_big_quiet_want; refine quiet_ex ?_; apply Exists.intro; refine ⟨fun wq hwq => ?_, ?_⟩; ((try go_simp); first | exact rfl | (go_at_call 149; exact Calls.calm_same hwq (LN.out wq hwq))); ((try go_simp); go_big_quiet_on)))
  refine wpQuiet_nil ?_
  intro wq hwq
  have HS3 := Lib.hid (HS2.out.upd hwq (by simp))
  have HR3 := Lib.hid (HR2.out.upd hwq (by simp))
  have HF3 := Lib.hid (HF2.out.upd hwq (by simp))
  have HT3 := Lib.hid (HT2.out.upd hwq (by simp))
  have HM3 := Lib.hid (HM2.out.upd hwq (by simp))
  have HU3 := Lib.hid (HU2.out.nil hwq)
  clear LN K0 K1 F1 hwq HS2 HR2 HF2 HT2 HM2 HU2 d0 d1
  have hdq := (Upd.refl [] wq).drew
  have AD := Lib.hid (rowAdd_new (HR3.out.upd hdq (by simp)) (HF3.out.upd hdq (by simp)) (HT3.out.upd hdq (by simp)) (HM3.out.upd hdq (by simp)) hs HKK.out hle hmost HVL.out hnl HLV.out z)
  have HSR : Hid (sb ∉ rowFp rb rv ++ (Met.fp m ++ (famFp fb nv nb ++ tabFp b v cb cg))) := Lib.hid (by
    simp only [List.mem_append, not_or]
    exact ⟨spc_ne_row HS3.out HR3.out, HMS.out, spc_ne_fam HS3.out HF3.out, spc_ne_tab HS3.out HT3.out⟩)
  have HSd := Lib.hid (HS3.out.upd hdq (by simp))
  have c0 := HSd.out.cell (i := 0) rfl
  have c1 := HSd.out.cell (i := 1) rfl
  clear hdq
  go_wp2_with fail
  go_region_held3 (fun w' => w'.cell? ⟨sb, 0, none⟩ = some (.pointer (some ⟨fb, 0, none⟩)) ∧ w'.cell? ⟨sb, 1, none⟩ = some (rowWay rb))
    (first | exact ⟨c0, c1⟩ | exact ⟨d0, d1⟩)
    (first
    | (go_at_call 147
       refine AD.out.mono ?_
       rintro e w5 ⟨rfl, hA5, hF5, hT5, hu5⟩
       have HS5 := Lib.hid (HSd.out.upd hu5 HSR.out)
       have HA5 := Lib.hid hA5
       have HF5 := Lib.hid hF5
       have HT5 := Lib.hid hT5
       clear hA5 hF5 hT5
       have HU5 := Lib.hid hu5
       have d0 := HS5.out.cell (i := 0) rfl
       have d1 := HS5.out.cell (i := 1) rfl))
  obtain ⟨W5, rfl⟩ : ∃ W5 : World, W5 = w5 := ⟨_, rfl⟩
  clear AD HR3 HF3 HT3 HM3 HS3 HSd c0 c1 d0 d1
  have s2 := HS5.out.cell (i := 2) rfl
  have sf2 := HS5.out.free 2
  go_wp2_with fail
  go_ret
  have uv : Upd [sb] W5 (W5.setCell ⟨sb, 2, none⟩ (.int .u64 (IntKind.u64.wrap (ver + 1)))) := (Upd.refl [sb] W5).setCell (p := ⟨sb, 2, none⟩) (.inl (by simp)) _
  have hS6 := HS5.out.set 2 (.int .u64 (IntKind.u64.wrap (ver + 1)))
  obtain ⟨⟨rv', hrb, hfp⟩, hmm⟩ := HA5.out
  have hsz := HU3.out.size
  have hsl : sb < w.heap.size := HSL.out
  have hsr' : sb ∉ rowFp rb rv' := spc_ne_row HS5.out hrb
  have hsm' : sb ∉ Met.fp m := HMS.out
  obtain ⟨nv', hF5, hfpF⟩ := HF5.out
  obtain ⟨v', cb', cg', hT5, hfpT⟩ := HT5.out
  have nf := spc_ne_fam HS5.out hF5
  have nt := spc_ne_tab HS5.out hT5
  refine ⟨rfl, hS6, ⟨⟨rv', hrb.upd uv (fun x hx => by simp; exact fun e => hsr' (e ▸ hx)), fun x hx => (hfp x hx).imp id (fun h => Nat.le_trans hsz h)⟩, hmm.upd uv (fun x hx => by simp; exact fun e => hsm' (e ▸ hx))⟩, ⟨nv', hF5.upd uv (fun x hx => by simp; exact fun e => nf (e ▸ hx)), fun x hx => (hfpF x hx).imp id (fun h => Nat.le_trans hsz h)⟩, ⟨v', cb', cg', hT5.upd uv (fun x hx => by simp; exact fun e => nt (e ▸ hx)), fun x hx => (hfpT x hx).imp id (fun h => Nat.le_trans hsz h)⟩, ?_⟩
  exact (((HU3.out.mono (fun x hx => by simp [hx])).then (((Upd.refl [] wq).drew).mono (by simp))).then (HU5.out.mono (fun x hx => List.mem_cons_of_mem _ hx))).then (uv.mono (by simp))
end Go.Proofs.Ytnaeehnnjhklbaa
