/- SharedNothing: the walk. -/
import Derived.Test.YtnaeehnnjhklbaaState
import Derived.Test.YtnaeehnnjhklbaaOpenS
set_option linter.unusedVariables false
set_option maxRecDepth 100000
namespace Go.Proofs.Ytnaeehnnjhklbaa
open Go.RowKit Go.MapKept Go.ChangeMaps
variable {w w' : World}

/-- Is a script more than is looked at? -/
def muchL (l : List Call) : Bool := decide (300 < l.length) || l.any fun c => decide (200 < c.n.size)
theorem much_any (a : Option Addr) (len cap : Nat) (l : List Call) (w : World) (h : IsCalls w a len l) :
    Calls Try.prog 31 #[.slice a len cap] w fun e w' => e = .returned (.bool (muchL l)) ∧ w = w' := by
  obtain ⟨rfl, hm, hc, hwf⟩ := h
  obtain ⟨n, hn⟩ : ∃ n, n = l.length := ⟨_, rfl⟩
  have HN := Lib.hid hn
  have HC := Lib.hid hc
  have HW := Lib.hid hwf
  unfold muchL
  rw [← hn] at hm ⊢
  clear hn hc hwf
  have hmax : maxLen = 9223372036854775807 := rfl
  by_cases h3 : 300 < n
  · have h3' : (n : Int) > 300 := by omega
    go_enter Try.func31, Try.ntmps31
    go_wp2_with fail
    go_ret
    exact ⟨by rw [decide_eq_true h3]; rfl, rfl⟩
  · have h3' : ¬ (n : Int) > 300 := by omega
    rw [decide_eq_false h3, Bool.false_or]
    go_enter Try.func31, Try.ntmps31
    go_wp2_with fail
    go_loopw [3] (fun i wr => ∃ k : Nat, k ≤ n ∧ i = .int .i64 k ∧ wr = w ∧ Hid ((l.take k).any (fun c => decide (200 < c.n.size)) = false)) (fun i _ => n - (intOf i).toNat)
    case atStart => exact ⟨0, Nat.zero_le _, rfl, rfl, Lib.hid rfl⟩
    case round =>
      obtain ⟨k, hkn, rfl, rfl, htk⟩ := hrel
      by_cases hlt : k < n
      · have hl : (k : Int) < (n : Int) := by omega
        have hkl : k < l.length := by rw [← HN.out]; exact hlt
        rcases HC.out with h0 | ⟨b, off, rfl, hb, hcell⟩
        · exfalso; rw [h0] at hkl; simp at hkl
        obtain ⟨_, _, e2, _⟩ := hcell k hkl
        have hs := (HW.out _ (List.getElem_mem hkl)).2.2.2
        have hTK : (l.take (k + 1)).any (fun c => decide (200 < c.n.size)) = decide (200 < l[k].n.size) := by
          rw [List.take_add_one, List.getElem?_eq_getElem hkl, List.any_append, htk.out]
          simp
        have hAL : 200 < l[k].n.size → l.any (fun c => decide (200 < c.n.size)) = true := fun h => List.any_eq_true.2 ⟨l[k], List.getElem_mem hkl, by simpa using h⟩
        have HTK := Lib.hid hTK
        have HAL := Lib.hid hAL
        clear hcell htk hTK hAL
        generalize l[k] = c at *
        generalize c.n = s at *
        by_cases hbig : 200 < s.size
        · have hb' : (s.size : Int) > 200 := by omega
          have HA := Lib.hid (HAL.out hbig)
          go_wp2_with fail
          go_ret
          exact ⟨by rw [HA.out]; rfl, rfl⟩
        · have hb' : ¬ (s.size : Int) > 200 := by omega
          have HT := HTK.out
          rw [decide_eq_false hbig] at HT
          have HTT := Lib.hid HT
          clear HT
          go_wp2_with fail
          go_roundw
          case rel => exact ⟨k + 1, by omega, by go_num, by trivial, HTT⟩
          case measure => simp [intOf]; omega
      · obtain rfl : k = n := by omega
        go_wp2_with fail
        go_ret
        have := htk.out
        rw [List.take_of_length_le (by rw [HN.out]; exact Nat.le_refl _)] at this
        exact ⟨by rw [this]; rfl, rfl⟩

theorem sight_zero : Calls Try.prog 35 #[.agg sightZ.toArray, .agg sightZ.toArray] w fun e w' => e = .returned (.bool true) ∧ Upd [] w w' := by
  have u0 := ((Upd.refl [] w).alloc (.cells sightZ.toArray 70)).alloc (.cells sightZ.toArray 70)
  go_enter Try.func35, Try.ntmps35
  go_wp2_with fail
  have hB := (Blk.new w 70 sightZ).alloc (.cells sightZ.toArray 70)
  have c2 := hB.cell (i := 2) rfl
  have c3 := hB.cell (i := 3) rfl
  generalize (w.alloc _).alloc _ = W at *
  go_loopw [5] (fun i wr => i = .int .i64 0 ∧ wr = W) (fun _ _ => 0)
  case atStart => exact ⟨rfl, rfl⟩
  case round =>
    obtain ⟨rfl, rfl⟩ := hrel
    go_wp2_with fail
    go_loopw [6] (fun i wr2 => i = .int .i64 0 ∧ wr2 = wr) (fun _ _ => 0)
    case atStart => exact ⟨rfl, rfl⟩
    case round =>
      obtain ⟨rfl, rfl⟩ := hrel
      go_wp2_with fail
      go_ret
      exact ⟨rfl, u0⟩
set_option maxHeartbeats 8000000 in
theorem sharedNothing_walk (a : Option Addr) (len cap : Nat) (l : List Call) (W : World) (h : IsCalls W a len l) : Calls Try.prog 7 #[.slice a len cap] W (OkV W) := by
  have MU := Lib.hid (much_any a len cap l W h)
  have HI := Lib.hid h
  by_cases hmu : muchL l = true
  · rw [hmu] at MU
    clear h hmu HI
    go_enter Try.func7, Try.ntmps7
    go_wp2_with fail
    refine MU.out.mono ?_
    rintro e w1 ⟨rfl, rfl⟩
    go_wp2_with fail
    refine awake_any.mono ?_
    rintro e w1 ⟨rfl, hu⟩
    have HU := Lib.hid hu
    clear hu
    go_wp2_with fail
    go_ret
    exact ⟨rfl, HU.out⟩
  · have hmu' : muchL l = false := by simpa using hmu
    rw [hmu'] at MU
    clear h hmu
    go_enter Try.func7, Try.ntmps7
    go_wp2_with fail
    refine MU.out.mono ?_
    rintro e w1 ⟨rfl, rfl⟩
    clear MU
    have hZ := ((Blk.new W 58 zeroFam).alloc (.cells #[.pointer none, .nilIface, .int .u64 0] 63)).alloc (.cells #[.pointer none, .pointer (some ⟨W.heap.size + 1, 0, none⟩)] 53)
    have hQ := (Blk.new1 W (.cells zeroFam.toArray 58) 63 [.pointer none, .nilIface, .int .u64 0]).alloc (.cells #[.pointer none, .pointer (some ⟨W.heap.size + 1, 0, none⟩)] 53)
    have hA := Blk.new2 W (.cells zeroFam.toArray 58) (.cells #[.pointer none, .nilIface, .int .u64 0] 63) 53 [.pointer none, .pointer (some ⟨W.heap.size + 1, 0, none⟩)]
    have hU := (((Upd.refl [] W).alloc (.cells zeroFam.toArray 58)).alloc (.cells #[.pointer none, .nilIface, .int .u64 0] 63)).alloc (.cells #[.pointer none, .pointer (some ⟨W.heap.size + 1, 0, none⟩)] 53)
    go_wp2_with fail
    generalize ((W.alloc _).alloc _).alloc _ = W3 at *
    have HZ := Lib.hid hZ
    have HQ := Lib.hid hQ
    have HA := Lib.hid hA
    have HU := Lib.hid hU
    obtain ⟨Z, hZe⟩ : ∃ n, n = W.heap.size := ⟨_, rfl⟩
    have HZE := Lib.hid hZe
    rw [← hZe] at HZ HQ HA ⊢
    clear hZ hQ hA hU hZe
    refine make_nil.mono ?_
    rintro e w1 ⟨rfl, rfl⟩
    go_wp2_with fail
    refine names_nil.mono ?_
    rintro e w2 ⟨rfl, hu2⟩
    have HU2 := Lib.hid (HU.out.then hu2)
    have HZ2 := Lib.hid (HZ.out.upd hu2 (by simp))
    have HQ2 := Lib.hid (HQ.out.upd hu2 (by simp))
    have HA2 := Lib.hid (HA.out.upd hu2 (by simp))
    clear hu2 HU HZ HQ HA
    go_wp2_with fail
    refine fSight.mono ?_
    rintro e w3 ⟨rfl, hu3⟩
    have HU3 := Lib.hid (HU2.out.then hu3)
    have HZ3 := Lib.hid (HZ2.out.upd hu3 (by simp))
    have HQ3 := Lib.hid (HQ2.out.upd hu3 (by simp))
    have HA3 := Lib.hid (HA2.out.upd hu3 (by simp))
    clear hu3 HU2 HZ2 HQ2 HA2
    go_wp2_with fail
    refine sight_zero.mono ?_
    rintro e w4 ⟨rfl, hu4⟩
    have HU4 := Lib.hid (HU3.out.then hu4)
    have HZ4 := Lib.hid (HZ3.out.upd hu4 (by simp))
    have HQ4 := Lib.hid (HQ3.out.upd hu4 (by simp))
    have HA4 := Lib.hid (HA3.out.upd hu4 (by simp))
    clear hu4 HU3 HZ3 HQ3 HA3
    go_wp2_with fail
    refine (make_zero HZ4.out).mono ?_
    rintro e w5 ⟨w4', tb, v, cb, cg, nb, ⟨hF, hT, hnew, huB⟩, sb, rb, rfl, hS, hR, hsb, hrb, huM⟩
    have hz0 := HU4.out.size
    have hz4 := huB.size
    have hZW : W.heap.size ≤ Z := by rw [HZE.out]; exact Nat.le_refl _
    have hZ4 := HZ4.out.lt
    have hst : St W w5 Z tb v cb cg nb (.slice none 0 0) none ⟨0, 0, 0, 0⟩ 0 0 [] Tab.new := ⟨hF.upd huM (by simp), hT.upd huM (by simp), trivial, keyTab_new, fun x hx => by
      rcases List.mem_append.1 hx with hx | hx
      · simp [famFp, Value.ownBlock] at hx
        rcases hx with rfl | rfl
        · exact hZW
        · have := hnew x (by simp); omega
      · have := hnew x (List.mem_cons_of_mem _ hx); omega, (HU4.out.trans huB (fun x hx => .inr (by simp at hx; subst hx; exact hZW))).trans huM (fun x hx => by simp at hx)⟩
    have hsp : Sp W w5 Z sb rb (.slice none 0 0) [] 0 := ⟨hS, hR, fun x hx => by simp [rowFp, Value.ownBlock] at hx; omega⟩
    have HST := Lib.hid hst
    have HSP := Lib.hid hsp
    have HQ5 := Lib.hid ((HQ4.out.upd huB (by simp)).upd huM (by simp))
    have HA5 := Lib.hid ((HA4.out.upd huB (by simp; omega)).upd huM (by simp))
    clear hF hT hnew huB hS hR hsb hrb huM hst hsp HU4 HZ4 HQ4 HA4 hz0 hz4 hZ4
    go_wp2_with fail
    refine HST.out.tell.mono ?_
    rintro e w6 ⟨o, rfl, ho, hu6⟩
    obtain ⟨base, ho⟩ := ho
    obtain ⟨oa, oc, rfl⟩ := own_shape ho
    have HST6 := Lib.hid (HST.out.later hu6)
    have HSP6 := Lib.hid (HSP.out.later hu6)
    have HQ6 := Lib.hid (HQ5.out.upd hu6 (by simp))
    have HA6 := Lib.hid (HA5.out.upd hu6 (by simp))
    clear ho hu6 HST HSP HQ5 HA5
    go_wp2_with fail
    obtain ⟨rfl, hmx, hcell, _⟩ := HI.out
    obtain ⟨n, hn⟩ : ∃ n, n = l.length := ⟨_, rfl⟩
    have HN := Lib.hid hn
    have HC := Lib.hid hcell
    have hnm : n ≤ 300 := by
      unfold muchL at hmu'
      simp at hmu'
      omega
    have HSM : Hid (∀ c ∈ l, c.n.size ≤ 200) := Lib.hid (fun c hc => by
      unfold muchL at hmu'
      simp at hmu'
      exact hmu'.2 c hc)
    rw [← hn]
    clear hn hcell hmu' hmx HI
    go_loopw [8] (fun i wr => ∃ (k : Nat) (q : Cnt), k ≤ n ∧ i = .int .i64 k ∧ Hid (St W wr Z tb v cb cg nb (.slice none 0 0) none q 0 0 [] Tab.new) ∧ Hid (Sp W wr Z sb rb (.slice none 0 0) [] 0) ∧ Hid (Blk wr (Z + 1) 63 [.pointer none, .nilIface, .int .u64 0]) ∧ Hid (Blk wr (Z + 1 + 1) 53 [.pointer none, .pointer (some ⟨Z + 1, 0, none⟩)])) (fun i _ => n - (intOf i).toNat)
    case atStart => exact ⟨0, _, Nat.zero_le _, rfl, HST6, HSP6, HQ6, HA6⟩
    case round =>
      obtain ⟨k, q, hkn, rfl, HST, HSP, HQ, HA⟩ := hrel
      clear HST6 HSP6 HQ6 HA6
      by_cases hlt : k < n
      · have hl : (k : Int) < (n : Int) := by omega
        have hkl : k < l.length := by rw [← HN.out]; exact hlt
        rcases HC.out with h0 | ⟨b, off, rfl, hb, hcell⟩
        · exfalso; rw [h0] at hkl; simp at hkl
        have huW : Upd [] W wr := HST.out.upd
        obtain ⟨x0, x1, x2, x3⟩ := hcell k hkl
        have hsm := HSM.out _ (List.getElem_mem hkl)
        generalize l[k] = c at *
        have y0 := (huW.below.cell (p := ⟨b, off + k * 4, none⟩) hb).trans x0
        have y1 := (huW.below.cell (p := ⟨b, off + k * 4 + 1, none⟩) hb).trans x1
        have y2 := (huW.below.cell (p := ⟨b, off + k * 4 + 2, none⟩) hb).trans x2
        have y3 := (huW.below.cell (p := ⟨b, off + k * 4 + 3, none⟩) hb).trans x3
        clear x0 x1 x2 x3 hcell huW
        go_wp2_with fail
        have hX := Blk.new wr 73 [.int .i64 c.k, .int .i64 c.s, .string c.n, .int .i64 c.v]
        have hu7 := (Upd.refl [] wr).alloc (.cells #[.int .i64 c.k, .int .i64 c.s, .string c.n, .int .i64 c.v] 73)
        generalize hX0 : wr.heap.size = X at *
        generalize wr.alloc _ = W7 at *
        have HST7 := Lib.hid (HST.out.later hu7)
        have HSP7 := Lib.hid (HSP.out.later hu7)
        have HQ7 := Lib.hid (HQ.out.upd hu7 (by simp))
        have HA7 := Lib.hid (HA.out.upd hu7 (by simp))
        have HX := Lib.hid hX
        clear hX hX0 hu7 HST HSP HQ HA y0 y1 y2 y3
        go_loopw [10] (fun i wr2 => ∃ j : Nat, j ≤ 2 ∧ i = .int .i64 j ∧ Hid (Upd [] W7 wr2)) (fun i _ => 2 - (intOf i).toNat)
        case atStart => exact ⟨0, by omega, rfl, Lib.hid (Upd.refl _ _)⟩
        case round =>
          obtain ⟨j, hj, rfl, hu8⟩ := hrel
          by_cases hj2 : j < 2
          · have hjl : (j : Int) < 2 := by omega
            obtain ⟨p, hp, hnone⟩ : ∃ p : Option Addr, [Value.pointer none, .pointer (some ⟨Z + 1, 0, none⟩)][j]? = some (.pointer p) ∧ ∀ w', Upd [] wr w' → IsNone w' p := by
              have hj' : j = 0 ∨ j = 1 := by omega
              rcases hj' with rfl | rfl
              · exact ⟨none, rfl, fun w' _ => .inl rfl⟩
              · exact ⟨_, rfl, fun w' h => .inr ⟨Z + 1, rfl, (HQ7.out.upd hu8.out (by simp)).upd h (by simp)⟩⟩
            have hAj := (HA7.out.upd hu8.out (by simp)).later hp
            have hX2 := (HX.out.upd hu8.out (by simp)).later (i := 2) rfl
            have hX3 := (HX.out.upd hu8.out (by simp)).later (i := 3) rfl
            have hAj0 := hAj _ (Upd.refl _ _)
            have hX20 := hX2 _ (Upd.refl _ _)
            have HNO := Lib.hid hnone
            clear hnone hp
            go_wp2_with fail
            refine wp_region_calm (by kernel_rfl) (by kernel_rfl) ?_
            repeat (first | go_big_quiet_skip | (go_big_quiet_want; refine quiet_ex ?_; apply Exists.intro; refine ⟨fun wq hwq => ?_, ?_⟩; ((try go_simp); first | exact rfl | (go_at_call 37; exact Calls.calm_same hwq (nGet (HNO.out wq hwq)))); ((try go_simp); go_big_quiet_on)))
            refine wpQuiet_nil ?_
            intro wq hwq
            have HN2 := Lib.hid (fun w' (h : Upd [] wq w') => HNO.out w' (hwq.then h))
            have hB : ∀ w', Upd [] wq w' → w'.cell? ⟨Z + 1 + 1, j, none⟩ = some (.pointer p) := fun w' h => hAj w' (hwq.then h)
            have hY2 : ∀ w', Upd [] wq w' → w'.cell? ⟨X, 2, none⟩ = some (.string c.n) := fun w' h => hX2 w' (hwq.then h)
            have hY3 : ∀ w', Upd [] wq w' → w'.cell? ⟨X, 3, none⟩ = some (.int .i64 c.v) := fun w' h => hX3 w' (hwq.then h)
            have HU8 := Lib.hid (hu8.out.then hwq)
            obtain ⟨wy, rfl⟩ : ∃ wy : World, wy = wq := ⟨_, rfl⟩
            clear hAj hX2 hX3 hAj0 hX20 hwq HNO
            go_wp2_with fail
            refine wp_region_calm (by kernel_rfl) (by kernel_rfl) ?_
            simp only [List.append]
            repeat (first | go_big_quiet_skip | (go_big_quiet_want; refine quiet_ex ?_; apply Exists.intro; refine ⟨fun wq hwq => ?_, ?_⟩; ((try go_simp); first | exact rfl | (first | (go_at_call 38; exact Calls.calm_same hwq (nSet (HN2.out wq hwq) _)) | (go_at_call 39; exact Calls.calm_same hwq (nDel (HN2.out wq hwq))) | (go_at_call 40; exact Calls.calm_same hwq (nLen (HN2.out wq hwq))) | (go_at_call 41; exact Calls.calm_same hwq (nPairs (HN2.out wq hwq))) | (go_at_call 42; exact Calls.calm_same hwq (nVersion (HN2.out wq hwq))) | (go_at_call 43; exact Calls.calm_same hwq (nShared (HN2.out wq hwq))) | (go_at_call 44; exact Calls.calm hwq (nSight (HN2.out wq hwq))) | (go_at_call 35; exact Calls.calm hwq sight_zero))); ((try go_simp); go_big_quiet_on)))
            refine wpQuiet_nil ?_
            intro wq hwq
            have HU9 := Lib.hid (HU8.out.then hwq)
            clear hB hY2 hY3 hwq HN2
            go_wp2_with fail
            go_roundw
            case rel => exact ⟨j + 1, by omega, by go_num, HU9⟩
            case measure => simp [intOf]; omega
          · obtain rfl : j = 2 := by omega
            have hX20 := (HX.out.upd hu8.out (by simp)).cell (i := 2) rfl
            have hX30 := (HX.out.upd hu8.out (by simp)).cell (i := 3) rfl
            have SF := Lib.hid ((HST7.out.later hu8.out).setFull (HSP7.out.later hu8.out) hsm (by rw [keyTab_new.rowAt]; rfl) (by simp) c.v)
            have hno : ¬ ((2 : Nat) : Int) < 2 := by omega
            go_wp2_with fail
            refine SF.out.mono ?_
            rintro e w9 ⟨rfl, ⟨q9, h9⟩, p9, hu9⟩
            have HST9 := Lib.hid h9
            have HSP9 := Lib.hid p9
            have hu79 : Upd [] W7 w9 := hu8.out.then hu9
            have HQ9 := Lib.hid (HQ7.out.upd hu79 (by simp))
            have HA9 := Lib.hid (HA7.out.upd hu79 (by simp))
            clear SF h9 p9 hu9 hu79 hX20 hX30 HST7 HSP7 HQ7 HA7 HX hu8
            go_wp2_with fail
            refine (len_row HSP9.out.blk HSP9.out.row).mono ?_
            rintro e w10 ⟨rfl, rfl⟩
            go_wp2_with fail
            go_roundw
            case rel => exact ⟨k + 1, q9, by omega, by go_num, HST9, HSP9, HQ9, HA9⟩
            case measure => simp [intOf]; omega
      · obtain rfl : k = n := by omega
        go_wp2_with fail
        refine awake_any.mono ?_
        rintro e w9 ⟨rfl, hu9⟩
        have HUE : Hid (Upd [] W w9) := Lib.hid (Upd.then (show Upd [] W wr from HST.out.upd) hu9)
        clear hu9
        go_wp2_with fail
        go_ret
        exact ⟨rfl, HUE.out⟩
end Go.Proofs.Ytnaeehnnjhklbaa
