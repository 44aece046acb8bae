/- The walk of CellsLoad. -/
import Derived.Test.YtnaeehnnjhklbaaLoadLaw
set_option linter.unusedVariables false
namespace Go.Proofs.Ytnaeehnnjhklbaa
open Go.RowKit

def bl (F : Nat → Int) (n : Nat) : List Value := (List.range n).map fun j => .int .u8 (F j)
theorem bl_length (F : Nat → Int) (n : Nat) : (bl F n).length = n := by simp [bl]
theorem bnums_own {w : World} {base n : Nat} {a : Option Addr} {cap : Nat} {F : Nat → Int} {xs : List Value} (h : w.ownsRow base 5 1 (.slice a n cap) n xs) (hx : ∀ i, i < n → xs[i]? = some (.int .u8 (F i))) : BNums w a n F := by
  rcases h.2 with ⟨_, h0⟩ | ⟨g, cap', cur, hv, hb, hg, hnc, _, hs, ht⟩
  · exact .inl h0
  · simp at hv
    obtain ⟨rfl, rfl⟩ := hv
    refine .inr ⟨g, 0, rfl, (Array.getElem?_eq_some_iff.1 hg).1, fun i hi => ?_⟩
    have h1 := hx i hi
    rw [← ht, List.getElem?_take, if_pos (by omega)] at h1
    simp [World.cell?, hg]
    simpa using h1

theorem ownsRow_cap {w : World} {base : Nat} {e : TypeId} {size : Nat} {a : Option Addr} {n cap : Nat} {xs : List Value} (h : w.ownsRow base e size (.slice a n cap) n xs) (h0 : 0 < n) : n ≤ cap := by
  rcases h.2 with ⟨_, h0'⟩ | ⟨g, cap', cur, hv, hb, hg, hnc, _⟩
  · omega
  · simp at hv
    omega

/-- append of an argument's bytes to none. -/
theorem wpList_append_bytes {w : World} {ops : Array Oper} {rest : List Oper} {o : Oper} {a : Act} {Q : Exit → Act → World → Prop} (hgd : o.guard = none) (s x : Operand)
    (ho : o.op = .call { callee := .builtin .append, args := #[s, x], argTypes := #[103, 103] }) (hs : a.eval s = .slice none 0 0)
    (ad : Option Addr) (n c : Nat) (F : Nat → Int) (hx : a.eval x = .slice ad n c) (hn : n ≤ 20000) (hB : IsBytes w ad n c F)
    (h : ∀ v' w', w'.ownsRow w.heap.size 5 1 v' n (bl F n) → Upd [] w w' → wpList Try.prog ops Q rest (a.put o.dst v') w') : wpList Try.prog ops Q (o :: rest) a w := by
  obtain ⟨j0, hj, hy0, hy1, hy2⟩ := info_parts info8u
  obtain ⟨h1, h2, h3⟩ := hB
  cases ad with
  | none =>
    obtain ⟨rfl, rfl⟩ := h1 rfl
    exact wpList_append_own_none hgd s x 103 ho w.heap.size 5 j0 1 Try.underlying103 hj _ 0 [] hs (World.ownsRow_nil _ _ _ _) hx (h _ _ (World.ownsRow_nil _ _ _ _) (Upd.refl _ _))
  | some ad =>
    refine wpList_append_own w hgd s x 103 ho w.heap.size 5 j0 (.int .u8 0) 1 1 Try.underlying103 hj hy0 hy1 hy2 rfl (by decide) _ 0 [] hs (World.ownsRow_nil _ _ _ _) ad n c (bl F n) hx (by simp [bl]) ?_ ?_ (by unfold maxLen; omega) (by omega) (Nat.le_refl _) ?_
    · intro j u hu
      have hj : j < n := by have := (List.getElem?_eq_some_iff.1 hu).1; simpa [bl] using this
      rcases h3 with h0 | ⟨b, off, e, hb, hc⟩
      · omega
      · cases e
        rw [plain_addr, hc j hj]
        simpa [bl, hj] using hu
    · intro u hu
      simp [bl] at hu
      obtain ⟨j, _, rfl⟩ := hu
      rfl
    · intro v' w' hown hg _
      refine h v' w' ?_ ((Upd.refl _ _).grown hg (fun k e => by simp [Value.ownBlock] at e))
      simpa using hown

theorem load_ok {w : World} {L : Nat} {a : Option Addr} {n cap : Nat} {F : Nat → Int} (h3 : 3 ≤ L) (h12 : L ≤ 12) (hn : n = 2 ^ L * wd12 L) (hok : LoadOk L (wd12 L) F) (hF : ∀ j, 0 ≤ F j ∧ F j ≤ 255) (hb : BNums w a n F) :
    Calls Try.prog 61 #[.int .i64 L, .slice a n cap] w fun e w' => ∃ b g, e = .returned (.tuple #[.pointer (some ⟨b, 0, none⟩), .int .i64 0]) ∧ CellsAt w' b g L (valF F (wd12 L)) ∧ w.heap.size ≤ b ∧ w.heap.size ≤ g ∧ Upd [] w w' := by
  subst hn
  refine (load_in w L (wd12 L) a cap F h3 h12 (wd12_kind h12) hF hb).mono fun e w' h => ?_
  rcases h with ⟨_, hno, _⟩ | ⟨b, g, he, _, h1, h2, h3, h4⟩
  · exact absurd hok hno
  · exact ⟨b, g, he, h1, h2, h3, h4⟩
theorem refLoad_ok {w : World} {L : Nat} {a : Option Addr} {n cap : Nat} {F : Nat → Int} (h3 : 3 ≤ L) (h12 : L ≤ 12) (hn : n = 2 ^ L * wd12 L) (hok : LoadOk L (wd12 L) F) (hF : ∀ j, 0 ≤ F j ∧ F j ≤ 255) (hb : BNums w a n F) (hn2 : n ≤ 20000) :
    Calls Try.prog 62 #[.int .i64 L, .slice a n cap] w fun e w' => ∃ g, e = .returned (.tuple #[refV g L (2 ^ L), .int .i64 0]) ∧ RefAt w' g L (valF F (wd12 L)) ∧ w.heap.size ≤ g ∧ Upd [] w w' := by
  refine (refLoad_any w L a n cap F h3 h12 hF hb hn2).mono fun e w' h => ?_
  rcases h with ⟨_, h, _⟩ | ⟨_, _, h, _⟩ | ⟨g, he, _, _, h1, h2, h3⟩
  · exact absurd hn h
  · exact absurd hok h
  · exact ⟨g, he, h1, h2, h3⟩

set_option maxHeartbeats 2000000 in
theorem cellsLoad_no (L : Int) (a : Option Addr) (n cap : Nat) (F : Nat → Int) (al : Option Addr) (len capl : Nat) (w : World) (hb : IsBytes w a n cap F) (hn : n ≤ 20000) (hlen : len ≤ 300) (hL : ¬ (12 < L ∧ L ≤ 20)) (c : Int) (hc : LdNo L n F c) (hc14 : c = 1 ∨ c = 4) :
    Calls Try.prog 15 #[.int .i64 L, .slice a n cap, .slice al len capl] w (OkV w) := by
  have t1 : ¬ (20000 : Int) < (n : Int) := by omega
  have t2 : ¬ (300 : Int) < (len : Int) := by omega
  have hB := Lib.hid hb
  have HC := Lib.hid hc
  have hbx := Lib.hid (fun (W : World) (hu : Upd [] w W) => hb.2.2.upd hu (by simp))
  have hF := Lib.hid hb.2.1
  have hc0 : (c != 0) = true := by rcases hc14 with rfl | rfl <;> rfl
  obtain ⟨j0, hj, hy0, hy1, hy2⟩ := info_parts info8u
  clear hb hc hc14
  have fin : Hid (∀ (X : Nat) (xc : Nat) (w1 : World), Upd [] w w1 → w1.ownsRow w.heap.size 5 1 (.slice (some ⟨X, 0, none⟩) (n + 1 : Nat) xc) (n + 1) (bl F n ++ [.int .u8 77]) → BNums w1 (some ⟨X, 0, none⟩) n F ∧ w1.cell? ⟨X, n, none⟩ = some (.int .u8 77)) := by
    refine Lib.hid fun X xc w1 hu ho => ?_
    rcases ho.2 with ⟨h, _⟩ | ⟨g, cap', cur, hv, hb, hg, hnc, hcur, hs, ht⟩
    · simp at h
    · simp at hv
      obtain ⟨rfl, rfl⟩ := hv
      have hx : ∀ i u, (bl F n ++ [Value.int .u8 77])[i]? = some u → w1.cell? ⟨X, i, none⟩ = some u := by
        intro i u hi
        have hin : i < n + 1 := by have := (List.getElem?_eq_some_iff.1 hi).1; simpa [bl] using this
        rw [← ht, List.getElem?_take, if_pos (by omega)] at hi
        simp [World.cell?, hg]
        simpa using hi
      refine ⟨.inr ⟨X, 0, rfl, (Array.getElem?_eq_some_iff.1 hg).1, fun i hi => ?_⟩, hx n _ (by simp [bl])⟩
      rw [Nat.zero_add]
      exact hx i _ (by rw [List.getElem?_append_left (by simpa [bl] using hi)]; simp [bl, hi])
  have walk : (¬ 12 < L) ∨ (12 < L ∧ ¬ L ≤ 20) := by omega
  rcases walk with h12 | ⟨h12, h20⟩
  all_goals
    clear hL
    go_enter Try.func15, Try.ntmps15
    go_wp2_with (first
      | (at_builtin; refine wpList_append_bytes rfl _ _ rfl rfl a n cap F rfl hn hB.out ?_; intro v1 w1 hown1 hu1; obtain ⟨va, vc, rfl⟩ := ownsRow_shape hown1; have hs1 := hu1.size)
      | (at_builtin; refine wpList_append_own _ rfl _ _ 103 rfl w.heap.size 5 j0 (.int .u8 0) 1 1 Try.underlying103 hj hy0 hy1 hy2 rfl (by decide) _ _ _ rfl (hown1.alloc _) ⟨w1.heap.size, 0, none⟩ 1 1 [.int .u8 77] rfl rfl ?_ ?_ ?_ ?_ ?_ ?_))
    · rfl
    · unfold maxLen; omega
    · omega
    · omega
    intro v2 w2 hown2 hg2 _
    obtain ⟨X, xc, rfl, hXb, hO⟩ := openB_of hown2 (by omega)
    have hu2 : Upd [] w w2 := (hu1.alloc _).grown hg2 (fun x hx => .inr (hown1.lt x hx).1)
    obtain ⟨hx, h77⟩ := fin.out X xc w2 hu2 hown2
    have HX := Lib.hid (fun (W : World) (hu : Upd [] w2 W) => hx.upd hu (by simp))
    have hxl := hO.lt
    have H77 := Lib.hid h77
    have hcap := ownsRow_cap hown2 (by omega)
    clear hown1 hs1 hu1 hown2 hg2 hO hx h77
    go_wp2_with (first
      | (go_at_call 61; refine (load_no HC.out _ _ _ hF.out (HX.out _ (Upd.refl _ _))).mono ?_; rintro e w3 ⟨rfl, hu3⟩; have hU3 := hu2.then hu3)
      | (go_at_call 62; refine (refLoad_no HC.out a cap _ hF.out (hbx.out _ hU3) hn).mono ?_; rintro e w4 ⟨rfl, hu4⟩; have hX4 := (hu3.then hu4).alloc (.cells #[.int .i64 0, .slice none 0 0] 94); have hU4 := hu2.then hX4)
      | (go_at_call 58; refine (bytes_yes _ _ _ n _ _ F (by omega) (HX.out _ hX4) (hbx.out _ hU4)).mono ?_; rintro e w5 ⟨rfl, hu5⟩; have hX5 := hX4.then hu5; have h5 := (World.cell?_of_block (a := ⟨X, n, none⟩) (hX5.block X hxl (by simp))).trans H77.out; have hU5 := hU4.then hu5)
      | (go_at_call 48; refine (awake6 _).mono ?_; rintro e w6 ⟨rfl, hu6⟩; have hU6 := hU5.then hu6))
    go_ret
    exact ⟨rfl, hU6⟩

set_option maxHeartbeats 4000000 in
theorem cellsLoad_yes (L : Nat) (a : Option Addr) (n cap : Nat) (F : Nat → Int) (al : Option Addr) (len capl : Nat) (l : List (Int × Int)) (w : World) (hb : IsBytes w a n cap F) (hl : IsSteps w al len l) (hn : n ≤ 20000) (hlen : len ≤ 300) (h3 : 3 ≤ L) (h12 : L ≤ 12) (hnn : n = 2 ^ L * wd12 L) (hok : LoadOk L (wd12 L) F) :
    Calls Try.prog 15 #[.int .i64 L, .slice a n cap, .slice al len capl] w (OkV w) := by
  have t1 : ¬ (20000 : Int) < (n : Int) := by omega
  have t2 : ¬ (300 : Int) < (len : Int) := by omega
  have t3 : ¬ (12 : Int) < (L : Int) := by omega
  have hB := Lib.hid hb
  have hl := Lib.hid hl
  have hbx := Lib.hid (fun (W : World) (hu : Upd [] w W) => hb.2.2.upd hu (by simp))
  have hF := Lib.hid hb.2.1
  have hOK := Lib.hid hok
  have hM := wd12_wd h12
  have hm2 := wd12_le L
  have hm12 : wd12 L = 1 ∨ wd12 L = 2 := by omega
  have hby := Lib.hid (load_bytes F (wd12 L) hm12 hF.out)
  have hnl := Lib.hid hnn
  obtain ⟨m, hm⟩ : ∃ m, m = wd12 L := ⟨_, rfl⟩
  have Hm := Lib.hid hm
  rw [← hm] at hM hm2 hby
  have HM := Lib.hid hM
  obtain ⟨f, hf⟩ : ∃ f, f = valF F (wd12 L) := ⟨_, rfl⟩
  have Hf := Lib.hid hf
  rw [← hm] at hf
  rw [← hf] at hby
  obtain ⟨j0, hj, hy0, hy1, hy2⟩ := info_parts info8u
  clear hb hok hnn hM hm hf hm12
  have fin : Hid (∀ (X : Nat) (xc : Nat) (w1 : World), Upd [] w w1 → w1.ownsRow w.heap.size 5 1 (.slice (some ⟨X, 0, none⟩) (n + 1 : Nat) xc) (n + 1) (bl F n ++ [.int .u8 77]) → BNums w1 (some ⟨X, 0, none⟩) n F ∧ w1.cell? ⟨X, n, none⟩ = some (.int .u8 77)) := by
    refine Lib.hid fun X xc w1 hu ho => ?_
    rcases ho.2 with ⟨h, _⟩ | ⟨g, cap', cur, hv, hb, hg, hnc, hcur, hs, ht⟩
    · simp at h
    · simp at hv
      obtain ⟨rfl, rfl⟩ := hv
      have hx : ∀ i u, (bl F n ++ [Value.int .u8 77])[i]? = some u → w1.cell? ⟨X, i, none⟩ = some u := by
        intro i u hi
        have hin : i < n + 1 := by have := (List.getElem?_eq_some_iff.1 hi).1; simpa [bl] using this
        rw [← ht, List.getElem?_take, if_pos (by omega)] at hi
        simp [World.cell?, hg]
        simpa using hi
      refine ⟨.inr ⟨X, 0, rfl, (Array.getElem?_eq_some_iff.1 hg).1, fun i hi => ?_⟩, hx n _ (by simp [bl])⟩
      rw [Nat.zero_add]
      exact hx i _ (by rw [List.getElem?_append_left (by simpa [bl] using hi)]; simp [bl, hi])
  go_enter Try.func15, Try.ntmps15
  go_wp2_with (first
      | (at_builtin; refine wpList_append_bytes rfl _ _ rfl rfl a n cap F rfl hn hB.out ?_; intro v1 w1 hown1 hu1; obtain ⟨va, vc, rfl⟩ := ownsRow_shape hown1; have hs1 := hu1.size)
      | (at_builtin; refine wpList_append_own _ rfl _ _ 103 rfl w.heap.size 5 j0 (.int .u8 0) 1 1 Try.underlying103 hj hy0 hy1 hy2 rfl (by decide) _ _ _ rfl (hown1.alloc _) ⟨w1.heap.size, 0, none⟩ 1 1 [.int .u8 77] rfl rfl ?_ ?_ ?_ ?_ ?_ ?_))
  · rfl
  · unfold maxLen; omega
  · omega
  · omega
  intro v2 w2 hown2 hg2 _
  obtain ⟨X, xc, rfl, hXb, hO⟩ := openB_of hown2 (by omega)
  have hu2 : Upd [] w w2 := (hu1.alloc _).grown hg2 (fun x hx => .inr (hown1.lt x hx).1)
  obtain ⟨hx, h77⟩ := fin.out X xc w2 hu2 hown2
  have HX := Lib.hid (fun (W : World) (hu : Upd [] w2 W) => hx.upd hu (by simp))
  have hxl := hO.lt
  have H77 := Lib.hid h77
  have hcap := ownsRow_cap hown2 (by omega)
  have HO := Lib.hid hO
  clear hown1 hs1 hu1 hown2 hg2 hO hx h77 fin
  go_wp2_with fail
  refine (load_ok h3 h12 hnl.out hOK.out hF.out (HX.out _ (Upd.refl _ _))).mono ?_
  rw [← Hf.out]
  rintro e w3 ⟨b, g, rfl, hc, hbl, hgl, hu3⟩
  have HC := Lib.hid hc
  have hU3 := hu2.then hu3
  clear hc
  go_wp2_with fail
  refine (refLoad_ok h3 h12 hnl.out hOK.out hF.out (hbx.out _ hU3) hn).mono ?_
  rw [← Hf.out]
  rintro e w4 ⟨r, rfl, hr, hrl, hu4⟩
  have hb3 := HC.out.c.lt
  have hg3 := World.rowIs.lt HC.out.r
  have h23 := hu3.size
  have h34 := hu4.size
  have hT := Blk.new w4 94 [.int .i64 L, .slice (some ⟨r, 0, none⟩) (2 ^ L : Nat) (2 ^ L : Nat)]
  have hA := (Upd.refl [] w4).alloc (.cells #[.int .i64 L, .slice (some ⟨r, 0, none⟩) (2 ^ L : Nat) (2 ^ L : Nat)] 94)
  have HH := Lib.hid (Both.mk ((HC.out.upd hu4 (by simp) (by simp)).upd hA (by simp) (by simp)) (hr.upd hA (by simp)) (by omega) (by omega))
  have hX4 := (hu3.then hu4).then hA
  have hU4 := hu2.then hX4
  have hr4 := World.rowIs.lt hr
  clear HC hr hA hu3 hU3 hu4 hu2
  go_wp2_with (first
    | (go_at_call 58; refine (bytes_yes _ _ _ n _ _ F (by omega) (HX.out _ hX4) (hbx.out _ hU4)).mono ?_; rintro e w5 ⟨rfl, hu5⟩; have hX5 := hX4.then hu5; have h5 := (World.cell?_of_block (a := ⟨X, n, none⟩) (hX5.block X hxl (by simp))).trans H77.out))
  have hU5 := hU4.then hu5
  have hT5 := hT.upd hu5 (by simp)
  have H5 := Lib.hid (HH.out.upd hu5 (by simp) (by simp) (by simp))
  have hO5 : OpenB w5 X (n + 1) := by
    obtain ⟨cur, hcu, hs⟩ := HO.out
    exact ⟨cur, (hX5.block X hxl (by simp)).trans hcu, hs⟩
  obtain ⟨T, hTT⟩ : ∃ T, T = w4.heap.size := ⟨_, rfl⟩
  rw [← hTT] at hT5 hr4 h34 ⊢
  clear hTT hT HH hX4 hU4 hu5 hX5 h5
  have hXw := hXb
  go_loopw [12] (fun i wr => ∃ k : Nat, k ≤ n + 1 ∧ i = .int .i64 k ∧ OpenB wr X (n + 1) ∧ Upd [X] w5 wr) (fun i _ => n + 1 - (intOf i).toNat)
  case atStart => exact ⟨0, by omega, rfl, hO5, Upd.refl _ _⟩
  case round =>
    obtain ⟨k, hk, rfl, hOk, hur⟩ := hrel
    by_cases hlt : k < n + 1
    · have hli : (k : Int) < (n : Int) + 1 := by omega
      obtain ⟨u, hcell⟩ := hOk.cell hlt
      have hfr := hOk.free k
      have hO6 := hOk.set k (.int .u8 99)
      have hu6 := hur.setCell (p := ⟨X, k, none⟩) (.inl (by simp)) (.int .u8 99)
      go_wp2_with fail
      go_roundw
      case rel => exact ⟨k + 1, by omega, by go_num, hO6, hu6⟩
      case measure => simp [intOf]; omega
    · have hli : ¬ (k : Int) < (n : Int) + 1 := by omega
      have hUr : Upd [] w wr := hU5.trans hur (by simp; omega)
      have hTr := hT5.upd hur (by simp; omega)
      have HR := Lib.hid (H5.out.upd hur (by simp; omega) (by simp; omega) (by simp; omega))
      clear hOk hur hT5 H5 hU5 hO5
      go_wp2_with fail
      have hTW := hTr.drew
      have hUW := hUr.drew
      have HW := Lib.hid (HR.out.upd (Upd.refl [] wr).drew (by simp) (by simp) (by simp))
      have c0 := hTW.cell (i := 0) rfl
      have c1 := hTW.cell (i := 1) rfl
      have hnm : 2 ^ L * m = n := by rw [Hm.out]; exact hnl.out.symm
      have HNM := Lib.hid hnm
      have hm0 := hm2.1
      have hm4 : m ≤ 4 := by have := hm2.2; omega
      have hrT : r ≠ T := by omega
      have hgT : g ≠ T := by omega
      clear hTr hUr HR hnm hm2
      have tok : True := trivial
      go_region_held3 (fun w' => w'.cell? ⟨T, 0, none⟩ = some (.int .i64 L) ∧ w'.cell? ⟨T, 1, none⟩ = some (.slice (some ⟨r, 0, none⟩) (2 ^ L : Nat) (2 ^ L : Nat)))
        (first | exact ⟨c0, c1⟩ | exact ⟨d0, d1⟩ | exact ⟨e0, e1⟩ | exact ⟨f0, f1⟩ | exact ⟨g0, g1⟩ | exact ⟨i0, i1⟩ | exact ⟨k0, k1⟩ | exact ⟨l0, l1⟩)
        (first
        | (go_at_call 55
           have _t := tok
           refine (cellsBytes_any HW.out.cc HM.out hm0 hm4).mono ?_
           rw [HNM.out]
           rintro e w6 ⟨v6, rfl, hv6, hu6⟩
           have H6 := Lib.hid (HW.out.upd hu6 (by simp) (by simp) (by simp))
           have hT6 := hTW.upd hu6 (by simp)
           have hU6 := hUW.then hu6
           have d0 := hT6.cell (i := 0) rfl
           have d1 := hT6.cell (i := 1) rfl
           obtain ⟨va6, vc6, rfl⟩ := ownsRow_shape hv6
           have x6 := Lib.hid ((BNums.ofOwn hv6).congr (fun i _ => hby.out i))
           clear tok hv6 HW)
        | (go_at_call 58
           have _t := x6
           refine (bytes_yes _ _ _ n _ _ F (by omega) x6.out (hbx.out _ hU6)).mono ?_
           rintro e w7 ⟨rfl, hu7⟩
           have H7 := Lib.hid (H6.out.upd hu7 (by simp) (by simp) (by simp))
           have hT7 := hT6.upd hu7 (by simp)
           have hU7 := hU6.then hu7
           have e0 := hT7.cell (i := 0) rfl
           have e1 := hT7.cell (i := 1) rfl
           clear x6 H6)
        | (go_at_call 52
           refine (plays_any al len capl l _ (hl.out.upd hU7) hlen (hl.out.apart (by omega) (by omega)) H7.out).mono ?_
           rintro e w8 ⟨rfl, ⟨f', hf'⟩, hu8⟩
           have H8 := Lib.hid hf'
           have hT8 := hT7.upd hu8 (by simp; omega)
           have hU8 : Upd [] w w8 := hU7.trans hu8 (by simp; omega)
           have f0 := hT8.cell (i := 0) rfl
           have f1 := hT8.cell (i := 1) rfl
           have tok2 : True := trivial
           clear H7 hf')
        | (go_at_call 55
           have _t := tok2
           refine (cellsBytes_any H8.out.cc HM.out hm0 hm4).mono ?_
           rw [HNM.out]
           rintro e w9 ⟨v9, rfl, hv9, hu9⟩
           have H9 := Lib.hid (H8.out.upd hu9 (by simp) (by simp) (by simp))
           have hT9 := hT8.upd hu9 (by simp)
           have hU9 := hU8.then hu9
           have g0 := hT9.cell (i := 0) rfl
           have g1 := hT9.cell (i := 1) rfl
           obtain ⟨va9, vc9, rfl⟩ := ownsRow_shape hv9
           have x9 := Lib.hid (BNums.ofOwn hv9)
           clear tok2 hv9 H8)
        | (go_at_call 59
           refine (refBytes_any H9.out.rr h3 (by omega) H9.out.cc.range HM.out hm0 hm4).mono ?_
           rw [HNM.out]
           rintro e w10 ⟨v10, rfl, hv10, hu10⟩
           have hT10 := hT9.upd hu10 (by simp)
           have hU10 := hU9.then hu10
           have i0 := hT10.cell (i := 0) rfl
           have i1 := hT10.cell (i := 1) rfl
           obtain ⟨va10, vc10, rfl⟩ := ownsRow_shape hv10
           have y9 := Lib.hid (x9.out.upd hu10 (by simp))
           have y10 := Lib.hid (BNums.ofOwn hv10)
           clear hv10 x9 H9)
        | (go_at_call 58
           refine (bytes_yes _ _ _ n _ _ _ (by omega) y9.out y10.out).mono ?_
           rintro e w11 ⟨rfl, hu11⟩
           have hT11 := hT10.upd hu11 (by simp)
           have hU11 := hU10.then hu11
           have k0 := hT11.cell (i := 0) rfl
           have k1 := hT11.cell (i := 1) rfl
           clear y9)
        | (go_at_call 48
           refine (awake6 _).mono ?_
           rintro e w12 ⟨rfl, hu12⟩
           have hT12 := hT11.upd hu12 (by simp)
           have hU12 := hU11.then hu12
           have l0 := hT12.cell (i := 0) rfl
           have l1 := hT12.cell (i := 1) rfl))
      go_wp2_with fail
      go_ret
      exact ⟨rfl, hU12⟩

theorem cellsLoad_walk (L : Int) (a : Option Addr) (n cap : Nat) (F : Nat → Int) (al : Option Addr) (len capl : Nat) (l : List (Int × Int)) (w : World) (_ : (Lit.int .i64 L).wf = true) (hb : IsBytes w a n cap F) (hl : IsSteps w al len l) :
    Calls Try.prog 15 #[.int .i64 L, .slice a n cap, .slice al len capl] w (OkV w) := by
  by_cases hn : n ≤ 20000
  · by_cases hlen : len ≤ 300
    · by_cases hmid : 12 < L ∧ L ≤ 20
      · have t1 : ¬ (20000 : Int) < (n : Int) := by omega
        have t2 : ¬ (300 : Int) < (len : Int) := by omega
        obtain ⟨h1, h2⟩ := hmid
        clear hb hl
        go_enter Try.func15, Try.ntmps15
        go_wp2_with (go_at_call 48; refine (awake6 _).mono ?_; rintro e w' ⟨rfl, hu⟩)
        go_ret
        exact ⟨rfl, hu⟩
      · rcases ld_cases L n F hmid with ⟨c, hc, hc14⟩ | ⟨k, rfl, h3, h12, hnn, hok⟩
        · exact cellsLoad_no L a n cap F al len capl w hb hn hlen hmid c hc hc14
        · exact cellsLoad_yes k a n cap F al len capl l w hb hl hn hlen h3 h12 hnn hok
    · have t1 : ¬ (20000 : Int) < (n : Int) := by omega
      have t2 : (300 : Int) < (len : Int) := by omega
      clear hb hl
      go_enter Try.func15, Try.ntmps15
      go_wp2_with (go_at_call 48; refine (awake6 _).mono ?_; rintro e w' ⟨rfl, hu⟩)
      go_ret
      exact ⟨rfl, hu⟩
  · have t1 : (20000 : Int) < (n : Int) := by omega
    clear hb hl
    go_enter Try.func15, Try.ntmps15
    go_wp2_with (go_at_call 48; refine (awake6 _).mono ?_; rintro e w' ⟨rfl, hu⟩)
    go_ret
    exact ⟨rfl, hu⟩
end Go.Proofs.Ytnaeehnnjhklbaa
