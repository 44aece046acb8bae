/- SharedFresh: the walk. -/
import Derived.Test.YtnaeehnnjhklbaaFresh
import Derived.Test.YtnaeehnnjhklbaaOpenS
set_option linter.unusedVariables false
set_option maxRecDepth 100000
namespace Go.Proofs.Ytnaeehnnjhklbaa
open Go.RowKit Go.MapKept Go.ChangeMaps

set_option maxHeartbeats 4000000 in
theorem sharedFresh_walk (a0 : Option Addr) (len0 cap0 : Nat) (l : List ByteArray) (a1 : Option Addr) (len1 cap1 : Nat) (cs : List Int) (a2 : Option Addr) (len2 cap2 : Nat) (ag : List Int) (n : Int) (W : World)
    (h0 : IsNames W a0 len0 l) (h1 : IsNums W a1 len1 cs) (h2 : IsNums W a2 len2 ag) (hn : (Lit.int .i64 n).wf = true) :
    Calls Try.prog 16 #[.slice a0 len0 cap0, .slice a1 len1 cap1, .slice a2 len2 cap2, .int .i64 n] W (OkV W) := by
  have H0 := Lib.hid h0
  have H1 := Lib.hid h1
  have H2 := Lib.hid h2
  have hml : len0 ≤ maxLen ∧ len1 ≤ maxLen ∧ len2 ≤ maxLen := ⟨h0.2.1, h1.2.1, h2.2.1⟩
  have hmax : maxLen = 9223372036854775807 := rfl
  clear h0 h1 h2
  by_cases hbig : 60 < len0 ∨ 20 < len1 ∨ 60 < len2
  · have hb : ((decide ((len0 : Int) > 60) || decide ((len1 : Int) > 20)) || decide ((len2 : Int) > 60)) = true := by simp; omega
    go_enter Try.func16, Try.ntmps16
    go_wp2_with (go_at_call 32; refine awake_any.mono ?_; rintro e w1 ⟨rfl, hu⟩)
    all_goals go_ret
    all_goals exact ⟨rfl, by assumption⟩
  · have b0 : ¬ (len0 : Int) > 60 := by omega
    have b1 : ¬ (len1 : Int) > 20 := by omega
    have b2 : ¬ (len2 : Int) > 60 := by omega
    have hl0 : l.length = len0 := H0.out.1
    obtain ⟨N, hN⟩ : ∃ N, N = len0 := ⟨_, rfl⟩
    go_enter Try.func16, Try.ntmps16
    go_wp2_with fail
    go_loopw [9] (fun i wr => ∃ k : Nat, k ≤ len0 ∧ i = .int .i64 k ∧ wr = W ∧ Hid (∀ s ∈ l.take k, s.size ≤ 200)) (fun i _ => len0 - (intOf i).toNat)
    case atStart => exact ⟨0, Nat.zero_le _, rfl, rfl, Lib.hid (by simp)⟩
    case round =>
      obtain ⟨k, hkn, rfl, rfl, htk⟩ := hrel
      by_cases hlt : k < len0
      · have hli : (k : Int) < (len0 : Int) := by omega
        have hkl : k < l.length := by omega
        rcases H0.out.2.2.1 with h | ⟨b, off, rfl, hb, hcell⟩
        · exfalso; rw [h] at hkl; simp at hkl
        have hck := hcell k hkl
        have hss := H0.out.2.2.2 _ (List.getElem_mem hkl)
        have HTK : Hid (l[k].size ≤ 200 → ∀ s ∈ l.take (k + 1), s.size ≤ 200) := Lib.hid (fun h s hs => by
          rw [List.take_add_one, List.getElem?_eq_getElem hkl] at hs
          rcases List.mem_append.1 hs with hs | hs
          · exact htk.out s hs
          · simp at hs; rw [hs]; exact h)
        clear hcell
        generalize l[k] = s at *
        by_cases hbg : 200 < s.size
        · have hbi : (s.size : Int) > 200 := by omega
          go_wp2_with fail
          refine awake_any.mono ?_
          rintro e w1 ⟨rfl, hu⟩
          have HU := Lib.hid hu
          clear hu
          go_wp2_with fail
          go_ret
          exact ⟨rfl, HU.out⟩
        · have hbi : ¬ (s.size : Int) > 200 := by omega
          have HS := Lib.hid (HTK.out (by omega))
          go_wp2_with fail
          go_roundw
          case rel => exact ⟨k + 1, by omega, by go_num, by trivial, HS⟩
          case measure => simp [intOf]; omega
      · obtain rfl : k = len0 := by omega
        have HSZ : Hid (∀ s ∈ l, s.size ≤ 200) := Lib.hid (by
          have := htk.out
          rwa [List.take_of_length_le (by omega)] at this)
        have UN := Lib.hid (unlike_any wr a0 k cap0 l H0.out (by omega))
        clear htk
        go_wp2_with fail
        refine UN.out.mono ?_
        rintro e w1 ⟨o, rfl, ho⟩
        obtain ⟨oa, oc, rfl⟩ := own_shape ho.1
        have HO := Lib.hid ho
        obtain ⟨u, hu⟩ : ∃ u, u = unlikeL l := ⟨_, rfl⟩
        have HUD : Hid (u.Nodup ∧ (∀ s ∈ u, s.size ≤ 200) ∧ u.length ≤ 60) := Lib.hid (by
          rw [hu]
          refine ⟨unlikeL_nodup l [] List.nodup_nil, fun s hs => ?_, ?_⟩
          · rcases unlikeL_mem l [] s hs with h | h
            · simp at h
            · exact HSZ.out s h
          · have := unlikeL_len l []
            unfold unlikeL
            simp at this
            omega)
        have HUE := Lib.hid hu
        rw [← hu]
        have hM := Blk.new w1 32 Cnt.zero.cells
        have huM := (Upd.refl [] w1).alloc (.cells Cnt.zero.cells.toArray 32)
        clear ho UN hu
        go_wp2_with fail
        have hmet : Met (w1.alloc (.cells Cnt.zero.cells.toArray 32)) (some ⟨w1.heap.size, 0, none⟩) Cnt.zero := ⟨_, rfl, hM⟩
        have NF := Lib.hid (St.start hmet (most := (u.length : Int)) (pairs := 1000) (by omega) (by have := HUD.out.2.2; omega) (by omega) (by omega))
        obtain ⟨B, hB⟩ : ∃ B, B = w1.heap.size := ⟨_, rfl⟩
        rw [← hB] at NF hmet ⊢
        have HO2 := Lib.hid (own_keep HO.out.1 huM (fun _ _ => by simp))
        have HU2 := Lib.hid (HO.out.2.then huM)
        have HBW : Hid (wr.heap.size ≤ B) := Lib.hid (by rw [hB]; exact HO.out.2.size)
        have HBO : Hid (∀ j, (Value.slice oa (unlikeL l).length oc).ownBlock = some j → j < B) := Lib.hid (fun j hj => by rw [hB]; exact (HO.out.1.lt j hj).2)
        refine NF.out.mono ?_
        rintro e w2 ⟨fb, tb, v, cb, cg, nb, nv, rfl, hst⟩
        have HST := Lib.hid hst
        clear hst NF hmet hM huM HO hB
        go_wp2_with fail
        obtain ⟨w0, hw0⟩ : ∃ w0 : World, w0 = wr := ⟨_, rfl⟩
        have HUW : Hid (Upd [] w0 (w1.alloc (.cells Cnt.zero.cells.toArray 32))) := Lib.hid (by rw [hw0]; exact HU2.out)
        have H1' : Hid (IsNums w0 a1 len1 cs) := Lib.hid (by rw [hw0]; exact H1.out)
        have H2' : Hid (IsNums w0 a2 len2 ag) := Lib.hid (by rw [hw0]; exact H2.out)
        have HB' : Hid (w0.heap.size ≤ B) := Lib.hid (by rw [hw0]; exact HBW.out)
        generalize hwm : w1.alloc (.cells Cnt.zero.cells.toArray 32) = wm at *
        go_loopw [14, 15] (fun mo i wy => ∃ (c M : Nat) (v : Value) (cb cg : Nat) (nv : Value) (t : Tab) (q : Cnt), c ≤ len1 ∧ i = .int .i64 c ∧ mo = .int .i64 M ∧ M ≤ u.length ∧ Hid (St wm wy fb tb v cb cg nb nv (some ⟨B, 0, none⟩) q u.length 1000 (u.take M) t) ∧ Hid (q.s = 0 ∧ wrap64 q.c = q.c)) (fun _ i _ => len1 - (intOf i).toNat)
        case atStart => exact ⟨0, 0, v, cb, cg, nv, _, _, Nat.zero_le _, rfl, rfl, Nat.zero_le _, HST, Lib.hid ⟨rfl, by show wrap64 0 = 0; unfold wrap64; omega⟩⟩
        case round =>
          obtain ⟨c, M, v, cb, cg, nv, t, q, hc, rfl, rfl, hM, HS, HQ⟩ := hrel
          by_cases hlt : c < len1
          · have hli : (c : Int) < (len1 : Int) := by omega
            have MK := Lib.hid HS.out.make
            go_wp2_with fail
            refine MK.out.mono ?_
            rintro e w3 ⟨sb, rb, rv, rfl, h3, p3, _⟩
            have HS3 := Lib.hid h3
            have HP3 := Lib.hid p3
            clear h3 p3 MK
            go_wp2_with fail
            obtain ⟨cv, hcv⟩ : ∃ cv, cv = cs.getD c 0 := ⟨_, rfl⟩
            clear HS
            go_loopw [14, 17] (fun mo i wz => ∃ (M : Nat) (vals : List Int) (v : Value) (cb cg : Nat) (nv : Value) (t : Tab) (q : Cnt) (rv : Value) (ver : Int), i = .int .i64 vals.length ∧ mo = .int .i64 M ∧ vals.length ≤ M ∧ M ≤ u.length ∧ Hid (St wm wz fb tb v cb cg nb nv (some ⟨B, 0, none⟩) q u.length 1000 (u.take M) t) ∧ Hid (Sp wm wz fb sb rb rv vals ver) ∧ Hid (q.s = 0 ∧ wrap64 q.c = q.c)) (fun _ i _ => u.length - (intOf i).toNat)
            case atStart => exact ⟨M, [], v, cb, cg, nv, t, q, rv, 0, rfl, rfl, Nat.zero_le _, hM, HS3, HP3, HQ⟩
            case round =>
              obtain ⟨M, vals, v, cb, cg, nv, t, q, rv, ver, rfl, rfl, hvM, hM, HS, HP, HQ⟩ := hrel
              have hcc : ∃ b off, a1 = some ⟨b, off, none⟩ ∧ wr.cell? ⟨b, off + c, none⟩ = some (.int .i64 cv) := by
                rcases H1'.out.2.2.1 with h | ⟨b, off, e, hb, hcell⟩
                · exfalso; have := H1'.out.1; rw [h] at this; simp at this; omega
                · have hcl : c < cs.length := by rw [H1'.out.1]; exact hlt
                  have hb0 : b < w0.heap.size := hb
                  have hu : Upd [B] w0 wr := (HUW.out.mono (by simp)).then HS.out.upd
                  have h1 := hcell c hcl
                  refine ⟨b, off, e, ?_⟩
                  have h2 := HB'.out
                  have h3 := (World.cell?_of_block (w := w0) (a := ⟨b, off + c, none⟩) (hu.block b hb0 (by simp; omega))).trans h1
                  rw [h3, hcv]
                  simp [List.getD, hcl]
              obtain ⟨b, off, rfl, hcc⟩ := hcc
              have huu : (unlikeL l).length = u.length := by rw [HUE.out]
              by_cases hk1 : (vals.length : Int) < cv
              · by_cases hk2 : vals.length < u.length
                · obtain ⟨g, gcap, hv, hgc⟩ := own_some HO2.out (by rw [huu]; omega)
                  obtain ⟨rfl, -, rfl⟩ : oa = some ⟨g, 0, none⟩ ∧ (unlikeL l).length = (unlikeL l).length ∧ oc = gcap := by simpa using hv
                  have hgB : g < B := HBO.out g rfl
                  have hgl : g < wm.heap.size := (HO2.out.lt g rfl).2
                  have hrow := fun (wz : World) (hu : Upd [B] wm wz) => own_keep HO2.out hu (fun j hj => by simp [Value.ownBlock] at hj; subst hj; simp; omega)
                  have HCELL : Hid (∀ (wz : World), Upd [B] wm wz → ∀ (k : Nat) (hk : k < u.length), wz.cell? ⟨g, k, none⟩ = some (.string u[k])) := Lib.hid (fun wz hu k hk => by
                    have := StrAt.cell (hrow wz hu) (k := k) (by rw [huu]; exact hk)
                    rw [this]
                    congr 2
                    simp [HUE.out])
                  have hck := HCELL.out wr HS.out.upd vals.length hk2
                  have HSN := Lib.hid (HS.out.setNext HP.out HUD.out.1 HUD.out.2.1 hM hvM hk2 rfl HUD.out.2.2 rfl (c : Int))
                  have huu2 : (vals.length : Int) < ((unlikeL l).length : Int) := by omega
                  have hlen60 := HUD.out.2.2
                  clear hrow hv huu hcv
                  generalize u[vals.length]'hk2 = s at hck HSN
                  go_wp2_with fail
                  refine HSN.out.mono ?_
                  rintro e w4 ⟨rfl, v, cb, cg, nv, rv, ver, t, q4, M', h4, p4, hM', hq4, hw4, _⟩
                  have HS4 := Lib.hid h4
                  have HP4 := Lib.hid p4
                  have HQ4 : Hid (q4.s = 0 ∧ wrap64 q4.c = q4.c) := Lib.hid ⟨hq4.trans HQ.out.1, hw4⟩
                  clear h4 p4 hq4 hw4 HSN HS HP hck hcc
                  have HAG : Hid (∀ (wz : World), Upd [B] wm wz → ∀ k, k < len2 → ∃ b off, a2 = some ⟨b, off, none⟩ ∧ wz.cell? ⟨b, off + k, none⟩ = some (.int .i64 (ag.getD k 0)) ∧ (Lit.int .i64 (ag.getD k 0)).wf = true) := Lib.hid (fun wz hu k hk => by
                    rcases H2'.out.2.2.1 with h | ⟨b, off, e, hb, hcell⟩
                    · exfalso; have := H2'.out.1; rw [h] at this; simp at this; omega
                    · have hcl : k < ag.length := by rw [H2'.out.1]; exact hk
                      have hu2 : Upd [B] w0 wz := (HUW.out.mono (by simp)).then hu
                      have h1 := hcell k hcl
                      have hb2 := HB'.out
                      have h3 := (World.cell?_of_block (w := w0) (a := ⟨b, off + k, none⟩) (hu2.block b hb (by simp; omega))).trans h1
                      have hg : ag.getD k 0 = ag[k] := by simp [List.getD, hcl]
                      rw [hg]
                      exact ⟨b, off, e, h3, H2'.out.2.2.2 _ (List.getElem_mem hcl)⟩)
                  have HM' := Lib.hid hM'
                  have hM'2 : vals.length + 1 ≤ M' ∧ M' ≤ u.length := by rw [hM']; split <;> omega
                  have hMB : (M : Int) ≤ 60 := by omega
                  clear hM'
                  by_cases hMk : M < vals.length + 1
                  · have hMki : (vals.length : Int) + 1 > (M : Int) := by omega
                    have HMM : Hid (M' = vals.length + 1) := Lib.hid (by rw [HM'.out, if_pos hMk])
                    by_cases ha : vals.length < len2
                    · obtain ⟨b2', off2, rfl, hca, hwf⟩ := HAG.out w4 HS4.out.upd vals.length ha
                      generalize ag.getD vals.length 0 = av at hca hwf
                      have hai : (vals.length : Int) < (len2 : Int) := by omega
                      by_cases hav : 0 ≤ av
                      · obtain ⟨r, hr, hrk⟩ : ∃ r : Nat, av % ((vals.length : Int) + 1) = r ∧ r < vals.length + 1 := by
                          have h1 := Int.emod_nonneg av (b := (vals.length : Int) + 1) (by omega)
                          have h2 := Int.emod_lt_of_pos av (b := (vals.length : Int) + 1) (by omega)
                          exact ⟨(av % ((vals.length : Int) + 1)).toNat, by omega, by omega⟩
                        have hcr := HCELL.out w4 HS4.out.upd r (by omega)
                        have HST := Lib.hid (HS4.out.setTurn HP4.out (s := u[r]'(by omega)) (HUD.out.2.1 _ (List.getElem_mem _)) (i := r) (numOf_at HS4.out.key.nodup (by rw [List.getElem?_take, if_pos (by omega), List.getElem?_eq_getElem (by omega)])) (by simp; omega) 7)
                        have hri : (r : Int) < ((unlikeL l).length : Int) := by omega
                        generalize u[r]'(by omega) = s2 at hcr HST
                        clear hwf
                        go_wp2_with fail
                        refine HST.out.mono ?_
                        rintro e w6 ⟨rfl, ver6, h6, p6⟩
                        have HS6 := Lib.hid h6
                        have HP6 := Lib.hid p6
                        have HQ6 : Hid ((t.findQ s2 (numOf (u.take M') s2) q4).s = 0 ∧ wrap64 (t.findQ s2 (numOf (u.take M') s2) q4).c = (t.findQ s2 (numOf (u.take M') s2) q4).c) := Lib.hid ⟨(findQ_keep t s2 _ q4).2.2.trans HQ4.out.1, by rw [(findQ_keep t s2 _ q4).2.1]; exact HQ4.out.2⟩
                        clear h6 p6 HST HS4 HP4 hcr hca hr
                        go_wp2_with fail
                        go_roundw
                        case rel => exact ⟨M', (vals ++ [(c : Int)]).set r 7, v, cb, cg, nv, t, _, rv, ver6, by simp, by first | (rw [HMM.out]; go_num) | rw [HMM.out], by simp; omega, hM'2.2, HS6, HP6, HQ6⟩
                        case measure => simp [intOf]; omega
                      · have hav' : ¬ av ≥ 0 := hav
                        clear hwf
                        go_wp2_with fail
                        go_roundw
                        case rel => exact ⟨M', vals ++ [(c : Int)], v, cb, cg, nv, t, q4, rv, ver, by simp, by first | (rw [HMM.out]; go_num) | rw [HMM.out], by simp; omega, hM'2.2, HS4, HP4, HQ4⟩
                        case measure => simp [intOf]; omega
                    · have hai : ¬ (vals.length : Int) < (len2 : Int) := by omega
                      go_wp2_with fail
                      go_roundw
                      case rel => exact ⟨M', vals ++ [(c : Int)], v, cb, cg, nv, t, q4, rv, ver, by simp, by first | (rw [HMM.out]; go_num) | rw [HMM.out], by simp; omega, hM'2.2, HS4, HP4, HQ4⟩
                      case measure => simp [intOf]; omega
                  · have hMki : ¬ ((vals.length : Int) + 1 > (M : Int)) := by omega
                    have HMM : Hid (M' = M) := Lib.hid (by rw [HM'.out, if_neg hMk])
                    by_cases ha : vals.length < len2
                    · obtain ⟨b2', off2, rfl, hca, hwf⟩ := HAG.out w4 HS4.out.upd vals.length ha
                      generalize ag.getD vals.length 0 = av at hca hwf
                      have hai : (vals.length : Int) < (len2 : Int) := by omega
                      by_cases hav : 0 ≤ av
                      · obtain ⟨r, hr, hrk⟩ : ∃ r : Nat, av % ((vals.length : Int) + 1) = r ∧ r < vals.length + 1 := by
                          have h1 := Int.emod_nonneg av (b := (vals.length : Int) + 1) (by omega)
                          have h2 := Int.emod_lt_of_pos av (b := (vals.length : Int) + 1) (by omega)
                          exact ⟨(av % ((vals.length : Int) + 1)).toNat, by omega, by omega⟩
                        have hcr := HCELL.out w4 HS4.out.upd r (by omega)
                        have HST := Lib.hid (HS4.out.setTurn HP4.out (s := u[r]'(by omega)) (HUD.out.2.1 _ (List.getElem_mem _)) (i := r) (numOf_at HS4.out.key.nodup (by rw [List.getElem?_take, if_pos (by omega), List.getElem?_eq_getElem (by omega)])) (by simp; omega) 7)
                        have hri : (r : Int) < ((unlikeL l).length : Int) := by omega
                        generalize u[r]'(by omega) = s2 at hcr HST
                        clear hwf
                        go_wp2_with fail
                        refine HST.out.mono ?_
                        rintro e w6 ⟨rfl, ver6, h6, p6⟩
                        have HS6 := Lib.hid h6
                        have HP6 := Lib.hid p6
                        have HQ6 : Hid ((t.findQ s2 (numOf (u.take M') s2) q4).s = 0 ∧ wrap64 (t.findQ s2 (numOf (u.take M') s2) q4).c = (t.findQ s2 (numOf (u.take M') s2) q4).c) := Lib.hid ⟨(findQ_keep t s2 _ q4).2.2.trans HQ4.out.1, by rw [(findQ_keep t s2 _ q4).2.1]; exact HQ4.out.2⟩
                        clear h6 p6 HST HS4 HP4 hcr hca hr
                        go_wp2_with fail
                        go_roundw
                        case rel => exact ⟨M', (vals ++ [(c : Int)]).set r 7, v, cb, cg, nv, t, _, rv, ver6, by simp, by first | (rw [HMM.out]; go_num) | rw [HMM.out], by simp; omega, hM'2.2, HS6, HP6, HQ6⟩
                        case measure => simp [intOf]; omega
                      · have hav' : ¬ av ≥ 0 := hav
                        clear hwf
                        go_wp2_with fail
                        go_roundw
                        case rel => exact ⟨M', vals ++ [(c : Int)], v, cb, cg, nv, t, q4, rv, ver, by simp, by first | (rw [HMM.out]; go_num) | rw [HMM.out], by simp; omega, hM'2.2, HS4, HP4, HQ4⟩
                        case measure => simp [intOf]; omega
                    · have hai : ¬ (vals.length : Int) < (len2 : Int) := by omega
                      go_wp2_with fail
                      go_roundw
                      case rel => exact ⟨M', vals ++ [(c : Int)], v, cb, cg, nv, t, q4, rv, ver, by simp, by first | (rw [HMM.out]; go_num) | rw [HMM.out], by simp; omega, hM'2.2, HS4, HP4, HQ4⟩
                      case measure => simp [intOf]; omega
                · have hk2' : ¬ (vals.length : Int) < ((unlikeL l).length : Int) := by omega
                  clear hcv
                  have SH := Lib.hid (shared_row HP.out.blk)
                  go_wp2_with fail
                  refine SH.out.mono ?_
                  rintro e w5 ⟨rfl, rfl⟩
                  go_wp2_with fail
                  go_roundw
                  case rel => exact ⟨c + 1, M, v, cb, cg, nv, t, q, by omega, by go_num, rfl, hM, HS, HQ⟩
                  case measure => simp [intOf]; omega
              · clear hcv huu
                have SH := Lib.hid (shared_row HP.out.blk)
                go_wp2_with fail
                refine SH.out.mono ?_
                rintro e w5 ⟨rfl, rfl⟩
                go_wp2_with fail
                go_roundw
                case rel => exact ⟨c + 1, M, v, cb, cg, nv, t, q, by omega, by go_num, rfl, hM, HS, HQ⟩
                case measure => simp [intOf]; omega
          · obtain rfl : c = len1 := by omega
            have RD := Lib.hid (read_any _ _ _ HS.out.met (by simp))
            have hMoc : (M : Int) ≤ (oc : Int) := by have := (str_take HO2.out M (by rw [← HUE.out]; exact hM)).1; omega
            have HSV : Hid (∀ W' : World, Upd [B] wm W' → StrAt W' (.slice oa M oc) (u.take M)) := Lib.hid (fun W' hu => by
              have h1 := own_keep HO2.out hu (fun j hj => by have := HBO.out j hj; simp; omega)
              rw [HUE.out]
              exact ⟨_, (str_take h1 M (by rw [← HUE.out]; exact hM)).2⟩)
            obtain ⟨qs, hqs⟩ : ∃ x, x = q.s := ⟨_, rfl⟩
            have hqs0 : qs = 0 := hqs.trans HQ.out.1
            obtain ⟨qt, hqt⟩ : ∃ x, x = q.t := ⟨_, rfl⟩
            obtain ⟨qc, hqc⟩ : ∃ x, x = q.c := ⟨_, rfl⟩
            obtain ⟨qv, hqv⟩ : ∃ x, x = q.v := ⟨_, rfl⟩
            have HQE := Lib.hid (And.intro hqt (And.intro hqc (And.intro hqs HQ.out)))
            unfold countsV at RD
            rw [← hqs, ← hqt, ← hqc, ← hqv, hqs0] at RD
            clear hqs hqt hqc hqv hqs0
            go_wp2_with fail
            refine RD.out.mono ?_
            rintro e w3 ⟨rfl, hu3⟩
            have HS3 := Lib.hid (HS.out.later hu3)
            clear hu3 RD HS
            go_wp2_with fail
            have hwb := Blk.new w3 34 [.int .i64 qt, .int .i64 qv, .int .i64 qc, .int .i64 0]
            have HS5 := Lib.hid (HS3.out.later ((Upd.refl [] w3).alloc (.cells [.int .i64 qt, .int .i64 qv, .int .i64 qc, .int .i64 0].toArray 34)))
            have hwB : B < w3.heap.size := by have := HS3.out.met.lt B (by simp [Met.fp]); exact this
            obtain ⟨wb, hwbe⟩ : ∃ wb, wb = w3.heap.size := ⟨_, rfl⟩
            rw [← hwbe] at hwb hwB ⊢
            generalize w3.alloc _ = W5 at *
            have HWB := Lib.hid hwb.drew
            have HS5d := Lib.hid (HS5.out.later ((Upd.refl [] W5).drew))
            have c3 := hwb.drew.cell (i := 3) rfl
            have hM60 : (M : Int) ≤ 60 := by have := HUD.out.2.2; omega
            clear hwb hwbe HS3 HS5
            go_region_held3 (fun w' => w'.cell? ⟨wb, 3, none⟩ = some (.int .i64 0))
              (first | exact c3 | exact d3 | exact e3)
              (first
              | (go_at_call 34
                 refine HS5d.out.tell.mono ?_
                 rintro e w6 ⟨o6, rfl, ho6, hu6⟩
                 have HO6 := Lib.hid ho6
                 have HS6 := Lib.hid (HS5d.out.later hu6)
                 have HWB6 := Lib.hid (HWB.out.upd hu6 (by simp))
                 have d3 := HWB6.out.cell (i := 3) rfl
                 clear ho6 hu6)
              | (go_at_call 65
                 refine (names_eq HO6.out (HSV.out _ HS6.out.upd) (by have := HUD.out.2.2; rw [List.length_take]; omega)).mono ?_
                 rw [decide_eq_true rfl]
                 rintro e w7 ⟨rfl, hu7⟩
                 have HS7 := Lib.hid (HS6.out.later hu7)
                 have HWB7 := Lib.hid (HWB6.out.upd hu7 (by simp))
                 have e3 := HWB7.out.cell (i := 3) rfl
                 clear hu7))
            have HUS := Lib.hid (HS7.out.upd)
            obtain ⟨w9, hw9⟩ : ∃ w9 : World, w9 = w7 := ⟨_, rfl⟩
            rw [← hw9] at HS7 HWB7 ⊢
            clear hw9 HUS HS6 HS5d HWB HWB6 HO6 c3 d3 e3
            have MK := Lib.hid HS7.out.make
            go_wp2_with fail
            refine MK.out.mono ?_
            rintro e w10 ⟨sb, rb, rv, rfl, h10, p10, u10⟩
            have HS10 := Lib.hid h10
            have HP10 := Lib.hid p10
            have hwbm : Hid (Upd [B] wm w10) := Lib.hid h10.upd
            have HWB10 := Lib.hid (HWB7.out.upd u10 (by simp))
            clear h10 p10 u10 MK
            have HWBX : Hid (Blk w10 wb 34 [.int .i64 qt, .int .i64 qv, .int .i64 qc, .int .i64 0]) := HWB10
            go_wp2_with fail
            obtain ⟨w11, hw11⟩ : ∃ w11 : World, w11 = w10 := ⟨_, rfl⟩
            rw [← hw11] at HS10 HP10 HWBX ⊢
            clear hw11 hwbm HWB10 HS7 HWB7
            go_loopw [20, 21] (fun gi i wz => ∃ (vals : List Int) (q : Cnt) (rv : Value) (ver : Int), i = .int .i64 vals.length ∧ gi = .int .i64 vals.length ∧ vals.length ≤ M ∧ Hid (St wm wz fb tb v cb cg nb nv (some ⟨B, 0, none⟩) q u.length 1000 (u.take M) t) ∧ Hid (Sp wm wz fb sb rb rv vals ver) ∧ Hid (Blk wz wb 34 [.int .i64 qt, .int .i64 qv, .int .i64 qc, .int .i64 0]) ∧ Hid (q.t = qt ∧ q.s = 0 ∧ q.c = wrap64 (qc + (vals.length : Int)))) (fun _ i _ => M - (intOf i).toNat)
            case atStart => exact ⟨[], q, rv, 0, rfl, rfl, Nat.zero_le _, HS10, HP10, HWBX, Lib.hid (by
              obtain ⟨h1, h2, h3, h4, h5⟩ := HQE.out
              refine ⟨h1.symm, h4, ?_⟩
              simp only [List.length_nil, Int.natCast_zero, Int.add_zero, h2]
              exact h5.symm)⟩
            case round =>
              obtain ⟨vals, q, rv, ver, rfl, rfl, hvM, HS, HP, HWB, HQ⟩ := hrel
              by_cases hk : (vals.length : Int) < n ∧ vals.length < M
              · obtain ⟨hk1, hk2⟩ := hk
                have hlu : (unlikeL l).length = u.length := by rw [HUE.out]
                have hk2i : (vals.length : Int) < (M : Int) := by omega
                obtain ⟨g, gcap, hv, hgc⟩ := own_some HO2.out (by rw [hlu]; omega)
                obtain ⟨rfl, -, rfl⟩ : oa = some ⟨g, 0, none⟩ ∧ (unlikeL l).length = (unlikeL l).length ∧ oc = gcap := by simpa using hv
                have hku : vals.length < u.length := by omega
                have hck : wr.cell? ⟨g, vals.length, none⟩ = some (.string (u[vals.length]'hku)) := by
                  have := StrAt.cell (own_keep HO2.out HS.out.upd (fun j hj => by have := HBO.out j hj; simp [Met.fp]; omega)) (k := vals.length) (by rw [hlu]; exact hku)
                  rw [this]
                  congr 2
                  simp [HUE.out]
                have hnm : (u.take M)[vals.length]? = some (u[vals.length]'hku) := by rw [List.getElem?_take, if_pos hk2, List.getElem?_eq_getElem hku]
                have HSN := Lib.hid (HS.out.setOld HP.out (HUD.out.2.1 _ (List.getElem_mem hku)) hnm (by have := HUD.out.2.2; omega) (by rw [List.length_take]; have := HUD.out.2.2; omega) (vals.length : Int))
                have huu2 : (vals.length : Int) < ((unlikeL l).length : Int) := by omega
                have hlen60 := HUD.out.2.2
                have hvl60 : (vals.length : Int) ≤ 60 := by omega
                clear hv hlu hnm
                generalize u[vals.length]'hku = s at hck HSN
                go_wp2_with fail
                refine HSN.out.mono ?_
                rintro e w12 ⟨rfl, rv', ver', h12, p12, u12⟩
                have HS12 := Lib.hid h12
                have HP12 := Lib.hid p12
                have HWB12 : Hid (Blk w12 wb 34 [.int .i64 qt, .int .i64 qv, .int .i64 qc, .int .i64 0]) := Lib.hid (HWB.out.upd u12 (fun hx => by
                  simp only [List.mem_cons, List.mem_append] at hx
                  rcases hx with rfl | hx | hx
                  · exact blk_ne HP.out.blk HWB.out (by decide) rfl
                  · simp only [rowFp, List.mem_cons, Option.mem_toList] at hx
                    rcases hx with rfl | hx
                    · exact blk_ne HP.out.row.blk HWB.out (by decide) rfl
                    · obtain ⟨cur, hg⟩ := own_block HP.out.row.row hx
                      exact blk_ne HWB.out hg (by decide) rfl
                  · exact HS.out.met.ne_blk HWB.out (by decide) hx))
                have HQ12 : Hid (((t.findQ s (numOf (u.take M) s) q).add 2 1).t = qt ∧ ((t.findQ s (numOf (u.take M) s) q).add 2 1).s = 0 ∧ ((t.findQ s (numOf (u.take M) s) q).add 2 1).c = wrap64 (qc + ((vals.length + 1 : Nat) : Int))) := Lib.hid (by
                  obtain ⟨k1, k2, k3⟩ := findQ_keep t s (numOf (u.take M) s) q
                  obtain ⟨a1, a2, a3⟩ := add2_keep (t.findQ s (numOf (u.take M) s) q) 1
                  obtain ⟨e1, e2, e3⟩ := HQ.out
                  exact ⟨by rw [a1, k1, e1], by rw [a2, k3, e2], by rw [a3, k2, e3, bump_one, wrap_next]⟩)
                clear h12 p12 u12 HSN HS HP HWB HQ hck
                go_wp2_with fail
                go_roundw
                case rel => exact ⟨vals ++ [(vals.length : Int)], _, rv', ver', by simp, by simp, by simp; omega, HS12, HP12, HWB12, Lib.hid (by rw [List.length_append]; exact HQ12.out)⟩
                case measure => simp [intOf]; omega
              · have hkk : ¬ (vals.length : Int) < n ∨ ((vals.length : Int) < n ∧ ¬ (vals.length : Int) < (M : Int)) := by omega
                have RD := Lib.hid (read_any _ _ _ HS.out.met (by simp))
                unfold countsV at RD
                rw [HQ.out.1, HQ.out.2.1, HQ.out.2.2] at RD
                have hM60' : (vals.length : Int) ≤ 60 := by omega
                have HSB := Lib.hid HS.out.upd
                clear HQ
                rcases hkk with hk1 | ⟨hk1, hk2⟩
                all_goals
                  clear hk
                  go_wp2_with fail
                  refine RD.out.mono ?_
                  rintro e w13 ⟨rfl, hu13⟩
                  have HWB13 := Lib.hid (HWB.out.upd hu13 (by simp))
                  have HS13 := Lib.hid (HS.out.later hu13)
                  have HP13 := Lib.hid (HP.out.later hu13)
                  clear hu13 RD HWB HS HP
                  generalize q.v = qv2 at *
                  have hu14 := (Upd.refl [] w13).alloc (.cells [.int .i64 qt, .int .i64 qv2, .int .i64 (wrap64 (qc + (vals.length : Int))), .int .i64 0].toArray 34)
                  have hnb := Blk.new w13 34 [.int .i64 qt, .int .i64 qv2, .int .i64 (wrap64 (qc + (vals.length : Int))), .int .i64 0]
                  have HWB14 := HWB13.out.upd hu14 (by simp)
                  have SH := Lib.hid (shared_row (HP13.out.later hu14).blk)
                  have LN := Lib.hid (len_row (HP13.out.later hu14).blk (HP13.out.later hu14).row)
                  have HUE2 := Lib.hid ((HUW.out.mono (fp' := [B]) (by simp)).then (HS13.out.later hu14).upd)
                  have c0 := HWB14.cell (i := 0) rfl
                  have c2 := HWB14.cell (i := 2) rfl
                  have n0 := hnb.cell (i := 0) rfl
                  have n2 := hnb.cell (i := 2) rfl
                  have n3 := hnb.cell (i := 3) rfl
                  clear hnb HWB14 hu14
                  go_wp2_with (first
                    | (go_at_call 43; refine SH.out.mono ?_; rintro e w15 ⟨rfl, rfl⟩)
                    | (go_at_call 40; refine LN.out.mono ?_; rintro e w16 ⟨rfl, rfl⟩)
                    | (go_at_call 32; refine awake_any.mono ?_; rintro e w17 ⟨rfl, hu17⟩))
                  go_ret
                  rw [← hw0]
                  exact ⟨rfl, (((Upd.refl [] w0).trans HUE2.out (fun x hx => .inr (by simp at hx; subst hx; exact HB'.out))).nil hu17)⟩
end Go.Proofs.Ytnaeehnnjhklbaa
