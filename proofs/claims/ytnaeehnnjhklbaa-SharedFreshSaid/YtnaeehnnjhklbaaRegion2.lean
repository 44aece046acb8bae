/- XRegion once more, with the head's and the tail's operations told by number: head in any order, tail forced, the operations from M on wait for all of the head. -/
import Derived.Test.YtnaeehnnjhklbaaRegion
namespace Go.Proofs.Ytnaeehnnjhklbaa
open Go.RowKit

section
variable {P : Program} {ops : Array Oper} {C : World → Prop} {S : List Nat} {Q : Exit → Act → World → Prop}

def wpAnyS (P : Program) (ops : Array Oper) (C : World → Prop) (S : List Nat) (Q : Exit → Act → World → Prop) : Nat → Array Bool → Act → World → Prop
  | 0, listed, a, w => Region.ready .any ops listed = [] ∧ Q .normal a w
  | f + 1, listed, a, w => Region.ready .any ops listed ≠ [] ∧ ∀ i ∈ Region.ready .any ops listed, ∃ o v w', ops[i]? = some o ∧ Runs P ops o a w v w' ∧ (i ∈ S → C w → C w') ∧ wpAnyS P ops C S Q f (listed.setIfInBounds i true) (a.put o.dst v) w'

theorem wpAny_of_runsS : ∀ (f : Nat) (listed : Array Bool) (a : Act) (w : World), wpAnyS P ops C S Q f listed a w → wpAny P .any ops Q f listed a w
  | 0, _, _, _, h => h
  | f + 1, listed, a, w, h => ⟨fun h0 => absurd h0 h.1, fun i hi => by
    obtain ⟨o, v, w', ho, hr, _, hn⟩ := h.2 i hi
    exact wpOp_of_runs ho hr (wpAny_of_runsS f _ _ _ hn)⟩
theorem wpAnyIn_of_runsS {F : Fence} {n : Nat} (hF : ∀ f, F.fn f) : ∀ (f : Nat) (listed : Array Bool) (a : Act) (w : World), wpAnyS P ops C S Q f listed a w → wpAnyIn F n P .any ops Q f listed a w
  | 0, _, _, _, h => h
  | f + 1, listed, a, w, h => ⟨fun h0 => absurd h0 h.1, fun i hi => by
    obtain ⟨o, v, w', ho, hr, _, hn⟩ := h.2 i hi
    exact wpOpIn_of_runs hF ho hr (wpAnyIn_of_runsS hF f _ _ _ hn)⟩

/-- The operations that are not soft wait for i. -/
def waitB (ops : Array Oper) (S : List Nat) (i : Nat) : Bool := (List.range ops.size).all fun j => S.contains j || Region.waitsFor .any ops j i
/-- What the operation yields hangs on no world. -/
def pureO (o : Oper) : Bool := match o.op with | .move _ => true | .nilCheck _ => true | .fieldAddr .. => true | .extract .. => true | _ => false
def pureAt (ops : Array Oper) (i : Nat) : Bool := match ops[i]? with | some o => pureO o | none => false

theorem wpAnyS_first {pf : Bool} {i : Nat} {oi : Oper} {v : Value} (hi : ops[i]? = some oi) (hsel : ∀ (j : Nat) (o : Oper) cs b, ops[j]? = some o → o.op ≠ .select cs b) (hL : pf = true ∨ waitB ops S i = true)
    (hq : Act → Prop) (hqv : ∀ a, hq a → ∀ w, (pf = false → C w) → Runs P ops oi a w v w) (hqp : ∀ a (o : Oper) u, oi.apart ops o = true → hq a → hq (a.put o.dst u)) :
    ∀ (f : Nat) (listed : Array Bool) (a : Act) (w : World), (pf = false → C w) →
      (∀ j oj, ops[j]? = some oj → j ≠ i → listed.getD j true = false → (∀ e ∈ oj.after, Region.binds .any e = true → e.on ≠ i) → oi.apart ops oj = true) →
      i ∈ Region.ready .any ops listed → hq a →
      wpAnyS P ops C S Q f (listed.setIfInBounds i true) (a.put oi.dst v) w → wpAnyS P ops C S Q (f + 1) listed a w := by
  intro f
  induction f with
  | zero =>
    intro listed a w hC _ hr hy H
    refine ⟨fun h => (by rw [h] at hr; cases hr), fun j hj => ?_⟩
    by_cases hji : j = i
    · subst hji; exact ⟨oi, v, w, hi, hqv a hy w hC, fun _ h => h, H⟩
    · have := ready_mono hj hji
      rw [H.1] at this
      cases this
  | succ f ih =>
    intro listed a w hC hfree hr hy H
    refine ⟨fun h => (by rw [h] at hr; cases hr), fun j hj => ?_⟩
    by_cases hji : j = i
    · subst hji; exact ⟨oi, v, w, hi, hqv a hy w hC, fun _ h => h, H⟩
    · obtain ⟨oj, u, w', hoj, hrun, hCw, hn⟩ := H.2 j (ready_mono hj hji)
      obtain ⟨hjun, oj', hoj', hall⟩ := mem_ready.1 hj
      obtain rfl : oj' = oj := Option.some.inj (hoj'.symm.trans hoj)
      have hnot : ∀ e ∈ oj'.after, Region.binds .any e = true → e.on ≠ i := fun e he hb heq => by
        have h1 := hall e he hb
        have h0 := (mem_ready.1 hr).1
        rw [heq] at h1
        rcases Nat.lt_or_ge i listed.size with h' | h'
        · simp [h'] at h0 h1; rw [h0] at h1; cases h1
        · simp [Array.getElem?_eq_none h'] at h1
      have hap := hfree j oj' hoj hji hjun hnot
      have hjM : pf = false → j ∈ S := fun hpf => by
        rcases hL with hL | hL
        · rw [hpf] at hL; cases hL
        have hjs : j < ops.size := (Array.getElem?_eq_some_iff.1 hoj).1
        have h1 := List.all_eq_true.1 hL j (List.mem_range.2 hjs)
        simp only [Bool.or_eq_true, List.contains_iff_mem] at h1
        rcases h1 with h1 | h1
        · exact h1
        · obtain ⟨oj2, hj2, e, he, hb, hon⟩ := Region.waitsFor_spec h1
          obtain rfl : oj2 = oj' := Option.some.inj (hj2.symm.trans hoj)
          exact absurd hon (hnot e he hb)
      refine ⟨oj', u, w', hoj, (Runs.put hap (fun cs b => hsel j oj' cs b hoj)).1 hrun, hCw, ?_⟩
      refine ih (listed.setIfInBounds j true) (a.put oj'.dst u) w' (fun hpf => hCw (hjM hpf) (hC hpf)) ?_ (ready_mono hr (Ne.symm hji)) (hqp a oj' u hap hy) ?_
      · intro k ok hk hki hun hno
        refine hfree k ok hk hki ?_ hno
        by_cases hjk : j = k
        · subst hjk; exact hjun
        · rw [getD_set_ne true hjk] at hun; exact hun
      · rw [Array.setIfInBounds_comm _ _ hji, Act.put_comm a u v (fun d hd hd' => (Oper.apart_spec hap).2.1 d hd' hd)]
        exact hn

/-- The tail, in its order: numbers beside operations. -/
def tailS (P : Program) (ops : Array Oper) (C : World → Prop) (S : List Nat) (Q : Exit → Act → World → Prop) : List (Nat × Oper) → Act → World → Prop
  | [], a, w => Q .normal a w
  | (k, o) :: l, a, w => ∃ v w', Runs P ops o a w v w' ∧ (k ∈ S → C w → C w') ∧ tailS P ops C S Q l (a.put o.dst v) w'
def seqS (ops : Array Oper) : List Nat → Array Bool → Bool
  | [], listed => (Region.ready .any ops listed).isEmpty
  | k :: l, listed => decide (Region.ready .any ops listed = [k]) && seqS ops l (listed.setIfInBounds k true)
def pickS (l : List Oper) : List Nat → List (Nat × Oper)
  | [] => []
  | i :: r => match l[i]? with | some o => (i, o) :: pickS l r | none => pickS l r

theorem wpAnyS_tail (ol : List Oper) (hops : ops = ol.toArray) : ∀ (l : List Nat) (listed : Array Bool) (a : Act) (w : World), (∀ i ∈ l, i < ol.length) → seqS ops l listed = true → tailS P ops C S Q (pickS ol l) a w → wpAnyS P ops C S Q l.length listed a w
  | [], listed, a, w, _, hB, h => ⟨by simpa [seqS] using hB, h⟩
  | k :: l, listed, a, w, hl, hB, h => by
    simp only [seqS, Bool.and_eq_true, decide_eq_true_eq] at hB
    have hk := hl k (by simp)
    have hok : ol[k]? = some ol[k] := List.getElem?_eq_getElem hk
    simp only [pickS, hok, tailS] at h
    obtain ⟨v, w', hr, hc, hq⟩ := h
    refine ⟨fun h1 => (by rw [hB.1] at h1; cases h1), fun i hi => ?_⟩
    rw [hB.1] at hi
    have hik : i = k := by simpa using hi
    subst hik
    exact ⟨ol[i], v, w', by rw [hops, List.getElem?_toArray]; exact hok, hr, hc, wpAnyS_tail ol hops l _ _ w' (fun j hj => hl j (by simp [hj])) hB.2 hq⟩

/-- The head's operations. -/
def headS (P : Program) (ops : Array Oper) (C : World → Prop) (K : Act → Prop) : List Oper → Act → Prop
  | [], a => K a
  | o :: l, a => ∃ v, (∀ w, (pureO o = false → C w) → Runs P ops o a w v w) ∧ headS P ops C K l (a.put o.dst v)
def headB (ops : Array Oper) (S : List Nat) (ts : List Nat) : List Nat → Array Bool → Bool
  | [], listed => seqS ops ts listed
  | i :: l, listed => ((pureAt ops i || waitB ops S i) && ((Region.ready .any ops listed).contains i && Region.free .any ops listed i)) && headB ops S ts l (listed.setIfInBounds i true)

theorem wpAnyS_head (ol : List Oper) (hops : ops = ol.toArray) (hsel : Region.noSelect ops = true) {ts : List Nat} (hts : ∀ i ∈ ts, i < ol.length) {w : World} (hC : C w) :
    ∀ (l : List Nat) (listed : Array Bool) (a : Act), (∀ i ∈ l, i < ol.length) → headB ops S ts l listed = true → headS P ops C (fun a' => tailS P ops C S Q (pickS ol ts) a' w) ((pickS ol l).map (·.2)) a → wpAnyS P ops C S Q (l.length + ts.length) listed a w
  | [], listed, a, _, hB, h => by
    rw [List.length_nil, Nat.zero_add]
    exact wpAnyS_tail ol hops ts listed a w hts hB h
  | i :: l, listed, a, hl, hB, h => by
    have hi := hl i (by simp)
    have hoi : ol[i]? = some ol[i] := List.getElem?_eq_getElem hi
    have h0 : ops[i]? = some ol[i] := by rw [hops, List.getElem?_toArray]; exact hoi
    simp only [headB, Bool.and_eq_true] at hB
    obtain ⟨⟨hw, hr, hf⟩, hB'⟩ := hB
    have hr' : i ∈ Region.ready .any ops listed := by simpa using hr
    simp only [pickS, hoi, List.map_cons, headS] at h
    obtain ⟨v, hv, hn⟩ := h
    have hs := Region.noSelect_spec hsel
    rw [List.length_cons, show l.length + 1 + ts.length = (l.length + ts.length) + 1 by omega]
    have hw' : pureO ol[i] = true ∨ waitB ops S i = true := by simpa [pureAt, h0] using hw
    refine wpAnyS_first (pf := pureO ol[i]) (v := v) h0 hs hw' (fun a => ∀ w, (pureO ol[i] = false → C w) → Runs P ops ol[i] a w v w) (fun _ h => h)
      (fun a o' u hap h w hw => (Runs.put' hap (fun cs b => hs i ol[i] cs b h0)).2 (h w hw)) _ listed a w (fun _ => hC) (Region.free_spec h0 hf) hr' hv ?_
    exact wpAnyS_head ol hops hsel hts hC l _ _ (fun j hj => hl j (by simp [hj])) hB' hn

/-- What the kernel looks at. -/
def chainB2 (l : List Oper) (S : List Nat) (hs ts : List Nat) : Bool :=
  Region.noSelect l.toArray && (decide (hs.length + ts.length = l.length) && (hs.all (fun i => decide (i < l.length)) && (ts.all (fun i => decide (i < l.length)) && headB l.toArray S ts hs (Array.replicate l.length false))))

theorem wpAnyS_region {l : List Oper} {hs ts : List Nat} (hB : chainB2 l S hs ts = true) {a : Act} {w : World} (hC : C w) (h : headS P l.toArray C (fun a' => tailS P l.toArray C S Q (pickS l ts) a' w) ((pickS l hs).map (·.2)) a) :
    wpAnyS P l.toArray C S Q l.toArray.size (Array.replicate l.toArray.size false) a w := by
  simp only [chainB2, Bool.and_eq_true, decide_eq_true_eq, List.all_eq_true] at hB
  obtain ⟨hsel, hn, h1, h2, h3⟩ := hB
  have := wpAnyS_head (Q := Q) l rfl hsel h2 hC hs (Array.replicate l.length false) a h1 h3 h
  rw [hn] at this
  simpa using this

theorem wp_region_chain2 {id : Nat} {a : Act} {w : World} {l : List Oper} (S hs ts : List Nat) (hm : P.follows .mixedOrders = true) (hB : chainB2 l S hs ts = true) (hC : C w.drew)
    (h : headS P l.toArray C (fun a' => tailS P l.toArray C S Q (pickS l ts) a' w.drew) ((pickS l hs).map (·.2)) a) : (Code.region id l.toArray true).wp P Q a w :=
  wp_region_any hm (wpAny_of_runsS _ _ _ _ (wpAnyS_region hB hC h))
theorem wpIn_region_chain2 {F : Fence} {nF : Nat} (hF : ∀ f, F.fn f) {id : Nat} {a : Act} {w : World} {l : List Oper} (S hs ts : List Nat) (hm : P.follows .mixedOrders = true) (hB : chainB2 l S hs ts = true) (hC : C w.drew)
    (h : headS P l.toArray C (fun a' => tailS P l.toArray C S Q (pickS l ts) a' w.drew) ((pickS l hs).map (·.2)) a) : (Code.region id l.toArray true).wpIn F nF P Q a w :=
  wpIn_region_any hm (wpAnyIn_of_runsS hF _ _ _ _ (wpAnyS_region hB hC h))

theorem headS_nil {a : Act} {K : Act → Prop} (h : K a) : headS P ops C K [] a := h
theorem headS_step {o : Oper} {l : List Oper} {a : Act} {K : Act → Prop} (h : ∀ K' : Act → Prop, (∀ a, headS P ops C K l a → K' a) → ∃ v, (∀ w, (pureO o = false → C w) → Runs P ops o a w v w) ∧ K' (a.put o.dst v)) : headS P ops C K (o :: l) a :=
  h _ (fun _ h => h)
theorem tailS_step {k : Nat} {o : Oper} {l : List (Nat × Oper)} {a : Act} {w : World} (h : ∀ K' : Act → World → Prop, (∀ a w, tailS P ops C S Q l a w → K' a w) → ∃ v w', Runs P ops o a w v w' ∧ (k ∈ S → C w → C w') ∧ K' (a.put o.dst v) w') : tailS P ops C S Q ((k, o) :: l) a w :=
  h _ (fun _ _ h => h)
theorem tailS_nil {a : Act} {w : World} (h : Q .normal a w) : tailS P ops C S Q [] a w := h
end
end Go.Proofs.Ytnaeehnnjhklbaa
