/- A drawn region without calls whose last operations write: its head yields the same in every world of a class, its tail runs in one forced order, and the last of all waits for all: one walk serves every order, in a round too. -/
import Derived.Test.YtnaeehnnjhklbaaCalmTail
import Derived.OrdersIn
import Derived.TacticsIn
namespace Go.Proofs.Ytnaeehnnjhklbaa
open Go.RowKit

section
variable {P : Program} {ops : Array Oper} {C : World → Prop} {Q : Exit → Act → World → Prop}

/-- The operation, at this state, goes just there. -/
def Runs (P : Program) (ops : Array Oper) (o : Oper) (a : Act) (w : World) (v : Value) (w' : World) : Prop :=
  (∀ c, o.op ≠ .defer c) ∧ (if Region.wanted o (yielded ops a.tmps) then ((execOp a.eval o).run P w = .ok (.value v) w' ∨ ((execOp a.eval o).run P w = .ok .skip w' ∧ v = undef)) else v = undef ∧ w' = w)

theorem Runs.put {oi o : Oper} {a : Act} {w : World} {u v : Value} {w' : World} (hap : oi.apart ops o = true) (hs : ∀ cs b, o.op ≠ .select cs b) : Runs P ops o (a.put oi.dst v) w u w' ↔ Runs P ops o a w u w' := by
  obtain ⟨h1, h2, h3⟩ := Oper.apart_spec hap
  unfold Runs
  rw [wanted_put o a oi.dst v h1, execOp_put o hs a oi.dst v h1]
theorem Runs.put' {oi o : Oper} {a : Act} {w : World} {u v : Value} {w' : World} (hap : oi.apart ops o = true) (hs : ∀ cs b, oi.op ≠ .select cs b) : Runs P ops oi (a.put o.dst u) w v w' ↔ Runs P ops oi a w v w' := by
  obtain ⟨h1, h2, h3⟩ := Oper.apart_spec hap
  unfold Runs
  rw [wanted_put oi a o.dst u h3, execOp_put oi hs a o.dst u h3]

theorem wpOp_of_runs {i : Nat} {o : Oper} (hi : ops[i]? = some o) {a : Act} {w : World} {v : Value} {w' : World} {K : Act → World → Prop} (h : Runs P ops o a w v w') (hK : K (a.put o.dst v) w') : wpOp P ops Q i K a w := by
  unfold wpOp
  simp only [hi]
  obtain ⟨_, h⟩ := h
  split
  · rename_i hw
    rw [if_pos hw] at h
    refine .inl ?_
    unfold Oper.wp
    rcases h with h | ⟨h, rfl⟩ <;> rw [h] <;> exact hK
  · rename_i hw
    rw [if_neg hw] at h
    obtain ⟨rfl, rfl⟩ := h
    exact hK
theorem wpOpIn_of_runs {F : Fence} {n : Nat} (hF : ∀ f, F.fn f) {i : Nat} {o : Oper} (hi : ops[i]? = some o) {a : Act} {w : World} {v : Value} {w' : World} {K : Act → World → Prop} (h : Runs P ops o a w v w') (hK : K (a.put o.dst v) w') : wpOpIn F n P ops Q i K a w := by
  unfold wpOpIn
  simp only [hi]
  obtain ⟨hd, h⟩ := h
  split
  · rename_i hw
    rw [if_pos hw] at h
    refine ⟨fun f _ => hF f, ?_⟩
    rw [Oper.semAt_eq _ _ _ hd]
    rcases h with h | ⟨h, rfl⟩ <;> rw [h] <;> exact hK
  · rename_i hw
    rw [if_neg hw] at h
    obtain ⟨rfl, rfl⟩ := h
    exact ⟨fun f _ => hF f, hK⟩

/-- Whatever order is picked from here on: each operation goes just somewhere, and all but the last leave a world of the class. -/
def wpAnyR (P : Program) (ops : Array Oper) (C : World → Prop) (L : Nat) (Q : Exit → Act → World → Prop) : Nat → Array Bool → Act → World → Prop
  | 0, listed, a, w => Region.ready .any ops listed = [] ∧ Q .normal a w
  | f + 1, listed, a, w => Region.ready .any ops listed ≠ [] ∧ ∀ i ∈ Region.ready .any ops listed, ∃ o v w', ops[i]? = some o ∧ Runs P ops o a w v w' ∧ (i ≠ L → C w') ∧ wpAnyR P ops C L Q f (listed.setIfInBounds i true) (a.put o.dst v) w'

theorem wpAny_of_runs {L : Nat} : ∀ (f : Nat) (listed : Array Bool) (a : Act) (w : World), wpAnyR P ops C L Q f listed a w → wpAny P .any ops Q f listed a w
  | 0, _, _, _, h => h
  | f + 1, listed, a, w, h => ⟨fun h0 => absurd h0 h.1, fun i hi => by
    obtain ⟨o, v, w', ho, hr, _, hn⟩ := h.2 i hi
    exact wpOp_of_runs ho hr (wpAny_of_runs f _ _ _ hn)⟩
theorem wpAnyIn_of_runs {F : Fence} {n : Nat} (hF : ∀ f, F.fn f) {L : Nat} : ∀ (f : Nat) (listed : Array Bool) (a : Act) (w : World), wpAnyR P ops C L Q f listed a w → wpAnyIn F n P .any ops Q f listed a w
  | 0, _, _, _, h => h
  | f + 1, listed, a, w, h => ⟨fun h0 => absurd h0 h.1, fun i hi => by
    obtain ⟨o, v, w', ho, hr, _, hn⟩ := h.2 i hi
    exact wpOpIn_of_runs hF ho hr (wpAnyIn_of_runs hF f _ _ _ hn)⟩

/-- The last operation waits for all others. -/
def lastB (ops : Array Oper) (n L : Nat) : Bool := (List.range n).all fun i => Region.waitsFor .any ops L i

theorem wpAnyR_first {L i : Nat} {oi : Oper} {v : Value} (hi : ops[i]? = some oi) (hsel : ∀ (j : Nat) (o : Oper) cs b, ops[j]? = some o → o.op ≠ .select cs b) {n : Nat} (hL : lastB ops n L = true) (hiL : i < n)
    (hq : Act → Prop) (hqv : ∀ a, hq a → ∀ w, C w → Runs P ops oi a w v w) (hqp : ∀ a (o : Oper) u, oi.apart ops o = true → hq a → hq (a.put o.dst u)) :
    ∀ (f : Nat) (listed : Array Bool) (a : Act) (w : World), C w →
      (∀ j oj, ops[j]? = some oj → j ≠ i → listed.getD j true = false → (∀ e ∈ oj.after, Region.binds .any e = true → e.on ≠ i) → oi.apart ops oj = true) →
      i ∈ Region.ready .any ops listed → hq a →
      wpAnyR P ops C L Q f (listed.setIfInBounds i true) (a.put oi.dst v) w → wpAnyR P ops C L Q (f + 1) listed a w := by
  intro f
  induction f with
  | zero =>
    intro listed a w hC _ hr hy H
    refine ⟨fun h => (by rw [h] at hr; cases hr), fun j hj => ?_⟩
    by_cases hji : j = i
    · subst hji; exact ⟨oi, v, w, hi, hqv a hy w hC, fun _ => hC, H⟩
    · have := ready_mono hj hji
      rw [H.1] at this
      cases this
  | succ f ih =>
    intro listed a w hC hfree hr hy H
    refine ⟨fun h => (by rw [h] at hr; cases hr), fun j hj => ?_⟩
    by_cases hji : j = i
    · subst hji; exact ⟨oi, v, w, hi, hqv a hy w hC, fun _ => hC, H⟩
    · obtain ⟨oj, u, w', hoj, hrun, hCw, hn⟩ := H.2 j (ready_mono hj hji)
      obtain ⟨hjun, oj', hoj', hall⟩ := mem_ready.1 hj
      obtain rfl : oj' = oj := Option.some.inj (hoj'.symm.trans hoj)
      have hnot : ∀ e ∈ oj'.after, Region.binds .any e = true → e.on ≠ i := fun e he hb heq => by
        have h1 := hall e he hb
        have h0 := (mem_ready.1 hr).1
        rw [heq] at h1
        rcases Nat.lt_or_ge i listed.size with h' | h'
        · simp [h'] at h0 h1; rw [h0] at h1; cases h1
        · simp [Array.getElem?_eq_none h'] at h1
      have hap := hfree j oj' hoj hji hjun hnot
      have hjL : j ≠ L := fun e => by
        subst e
        have h1 := List.all_eq_true.1 hL i (List.mem_range.2 hiL)
        obtain ⟨oj2, hj2, e, he, hb, hon⟩ := Region.waitsFor_spec h1
        obtain rfl : oj2 = oj' := Option.some.inj (hj2.symm.trans hoj)
        exact hnot e he hb hon
      refine ⟨oj', u, w', hoj, (Runs.put hap (fun cs b => hsel j oj' cs b hoj)).1 hrun, hCw, ?_⟩
      refine ih (listed.setIfInBounds j true) (a.put oj'.dst u) w' (hCw hjL) ?_ (ready_mono hr (Ne.symm hji)) (hqp a oj' u hap hy) ?_
      · intro k ok hk hki hun hno
        refine hfree k ok hk hki ?_ hno
        by_cases hjk : j = k
        · subst hjk; exact hjun
        · rw [getD_set_ne true hjk] at hun; exact hun
      · rw [Array.setIfInBounds_comm _ _ hji, Act.put_comm a u v (fun d hd hd' => (Oper.apart_spec hap).2.1 d hd' hd)]
        exact hn

/-- The tail, in its order. -/
def tailR (P : Program) (ops : Array Oper) (C : World → Prop) (Q : Exit → Act → World → Prop) : List Oper → Act → World → Prop
  | [], a, w => Q .normal a w
  | [o], a, w => ∃ v w', Runs P ops o a w v w' ∧ Q .normal (a.put o.dst v) w'
  | o :: o' :: l, a, w => ∃ v w', Runs P ops o a w v w' ∧ C w' ∧ tailR P ops C Q (o' :: l) (a.put o.dst v) w'

theorem wpAnyR_tail : ∀ (l : List Oper) (k : Nat) (listed : Array Bool) (a : Act) (w : World), (∀ j, l[j]? = ops[k + j]?) → Region.seqB .any ops l.length k listed = true → tailR P ops C Q l a w → wpAnyR P ops C (k + l.length - 1) Q l.length listed a w
  | [], _, _, _, _, _, hB, h => ⟨by simpa [Region.seqB] using hB, h⟩
  | [o], k, listed, a, w, hl, hB, h => by
    have h0 : ops[k]? = some o := by simpa using (hl 0).symm
    simp only [List.length_cons, List.length_nil, Region.seqB, Bool.and_eq_true, decide_eq_true_eq] at hB
    obtain ⟨v, w', hr, hq⟩ := h
    refine ⟨fun h1 => (by rw [hB.1] at h1; cases h1), fun i hi => ?_⟩
    rw [hB.1] at hi
    have hik : i = k := by simpa using hi
    subst hik
    exact ⟨o, v, w', h0, hr, fun hne => (hne (by simp)).elim, by simpa [Region.seqB] using hB.2, hq⟩
  | o :: o' :: l, k, listed, a, w, hl, hB, h => by
    have h0 : ops[k]? = some o := by simpa using (hl 0).symm
    rw [List.length_cons] at hB ⊢
    simp only [Region.seqB, Bool.and_eq_true, decide_eq_true_eq] at hB
    obtain ⟨v, w', hr, hc, hq⟩ := h
    refine ⟨fun h1 => (by rw [hB.1] at h1; cases h1), fun i hi => ?_⟩
    rw [hB.1] at hi
    have hik : i = k := by simpa using hi
    subst hik
    have := wpAnyR_tail (o' :: l) (i + 1) _ _ w' (fun j => by have := hl (j + 1); simpa [Nat.add_assoc, Nat.add_comm 1 j] using this) hB.2 hq
    rw [show i + 1 + (o' :: l).length - 1 = i + ((o' :: l).length + 1) - 1 by omega] at this
    exact ⟨o, v, w', h0, hr, fun _ => hc, this⟩

/-- The head's operations, in the text's order: each the same in every world of the class. -/
def headR (P : Program) (ops : Array Oper) (C : World → Prop) (K : Act → Prop) : List Oper → Act → Prop
  | [], a => K a
  | o :: l, a => ∃ v, (∀ w, C w → Runs P ops o a w v w) ∧ headR P ops C K l (a.put o.dst v)

theorem wpAnyR_lex {g L : Nat} {K : Act → Prop} (hsel : Region.noSelect ops = true) {n : Nat} (hL : lastB ops n L = true) {w : World} (hC : C w) (hK : ∀ listed a, Region.seqB .any ops g n listed = true → K a → wpAnyR P ops C L Q g listed a w) :
    ∀ (l : List Oper) (k : Nat) (listed : Array Bool) (a : Act), (∀ j, j < l.length → l[j]? = ops[k + j]?) → k + l.length = n → Region.lexHead .any ops g l.length k listed = true → headR P ops C K l a →
    wpAnyR P ops C L Q (l.length + g) listed a w
  | [], k, listed, a, _, hk, hB, h => by
    have : k = n := by simpa using hk
    subst this
    rw [List.length_nil, Nat.zero_add]
    exact hK _ _ (by simpa [Region.lexHead] using hB) h
  | o :: l, k, listed, a, hl, hk, hB, h => by
    have h0 : ops[k]? = some o := by simpa using (hl 0 (by simp)).symm
    simp only [List.length_cons, Region.lexHead, Bool.and_eq_true] at hB
    obtain ⟨⟨hr, hf⟩, hB'⟩ := hB
    have hr' : k ∈ Region.ready .any ops listed := by simpa using hr
    obtain ⟨v, hv, hn⟩ := h
    have hs := Region.noSelect_spec hsel
    rw [List.length_cons, show l.length + 1 + g = (l.length + g) + 1 by omega]
    refine wpAnyR_first (v := v) h0 hs hL (by simp only [List.length_cons] at hk; omega) (fun a => ∀ w, C w → Runs P ops o a w v w) (fun _ h => h)
      (fun a o' u hap h w hw => (Runs.put' hap (fun cs b => hs k o cs b h0)).2 (h w hw)) _ listed a w hC (Region.free_spec h0 hf) hr' hv ?_
    exact wpAnyR_lex hsel hL hC hK l (k + 1) _ _ (fun j hj => by have := hl (j + 1) (by simp; omega); simpa [Nat.add_assoc, Nat.add_comm 1 j] using this) (by simp only [List.length_cons] at hk; omega) hB' hn

/-- What the kernel looks at: the head's order is free, the tail's is forced, and the last waits for all. -/
def chainTailB (ops : Array Oper) (n : Nat) : Bool :=
  Region.noSelect ops && (decide (n < ops.size) && (lastB ops n (ops.size - 1) && Region.lexHead .any ops (ops.size - n) n 0 (Array.replicate ops.size false)))

theorem wpAnyR_region {l : List Oper} {n : Nat} (hB : chainTailB l.toArray n = true) {a : Act} {w : World} (hC : C w) (h : headR P l.toArray C (fun a' => tailR P l.toArray C Q (l.drop n) a' w) (l.take n) a) :
    wpAnyR P l.toArray C (l.toArray.size - 1) Q l.toArray.size (Array.replicate l.toArray.size false) a w := by
  simp only [chainTailB, Bool.and_eq_true, decide_eq_true_eq] at hB
  obtain ⟨hsel, hn, hL, hlex⟩ := hB
  have hn' : n < l.length := by simpa using hn
  have htl : (l.take n).length = n := by simp; omega
  have hdl : (l.drop n).length = l.toArray.size - n := by simp
  have H := wpAnyR_lex (g := l.toArray.size - n) (L := l.toArray.size - 1) (Q := Q) hsel hL (n := n) hC (fun listed a' hs ht => by
    have := wpAnyR_tail (P := P) (C := C) (Q := Q) (ops := l.toArray) (l.drop n) n listed a' w (fun j => by simp [List.getElem?_drop]) (by rw [hdl]; exact hs) ht
    rw [hdl, show n + (l.toArray.size - n) - 1 = l.toArray.size - 1 by omega] at this
    exact this) (l.take n) 0 _ a (fun j hj => by
    have hj' : j < n := by rw [htl] at hj; exact hj
    simp [hj']) (by simpa using htl) (by rw [htl]; exact hlex) h
  rw [htl, show n + (l.toArray.size - n) = l.toArray.size by omega] at H
  exact H

/-- THE LAW. -/
theorem wp_region_chain {id : Nat} {a : Act} {w : World} {l : List Oper} (n : Nat) (hm : P.follows .mixedOrders = true) (hB : chainTailB l.toArray n = true) (hC : C w.drew)
    (h : headR P l.toArray C (fun a' => tailR P l.toArray C Q (l.drop n) a' w.drew) (l.take n) a) : (Code.region id l.toArray true).wp P Q a w :=
  wp_region_any hm (wpAny_of_runs _ _ _ _ (wpAnyR_region hB hC h))
theorem wpIn_region_chain {F : Fence} {nF : Nat} (hF : ∀ f, F.fn f) {id : Nat} {a : Act} {w : World} {l : List Oper} (n : Nat) (hm : P.follows .mixedOrders = true) (hB : chainTailB l.toArray n = true) (hC : C w.drew)
    (h : headR P l.toArray C (fun a' => tailR P l.toArray C Q (l.drop n) a' w.drew) (l.take n) a) : (Code.region id l.toArray true).wpIn F nF P Q a w :=
  wpIn_region_any hm (wpAnyIn_of_runs hF _ _ _ _ (wpAnyR_region hB hC h))

theorem runs_value {o : Oper} {a : Act} {w : World} {v : Value} {w' : World} (hd : ∀ c, o.op ≠ .defer c) (hg : o.guard = none) (h : (execOp a.eval o).run P w = .ok (.value v) w') : Runs P ops o a w v w' :=
  ⟨hd, by rw [if_pos (by simp [Region.wanted, hg])]; exact .inl h⟩
theorem runs_skip {o : Oper} {a : Act} {w : World} {w' : World} (hd : ∀ c, o.op ≠ .defer c) (hg : o.guard = none) (h : (execOp a.eval o).run P w = .ok .skip w') : Runs P ops o a w undef w' :=
  ⟨hd, by rw [if_pos (by simp [Region.wanted, hg])]; exact .inr ⟨h, rfl⟩⟩
theorem runs_append {o : Oper} {a : Act} {w : World} {v y v' : Value} {w' : World} (hg : o.guard = none) (s x : Operand) (t : TypeId) (hop : o.op = Op.call { callee := Callee.builtin Builtin.append, args := #[s, x], argTypes := #[t, t] })
    (hr : (Builtin.append_ #[t, t] o.type #[v, y]).run P w = .ok v' w') (hs : a.eval s = v) (hx : a.eval x = y) : Runs P ops o a w v' w' :=
  runs_value (fun c h => by rw [hop] at h; cases h) hg (by simp [execOp, hop, resolve, invoke, builtin, hs, hx, hr, Result.andThen])
theorem runs_quiet {o : Oper} {a : Act} {w : World} {v : Value} (hd : ∀ c, o.op ≠ .defer c) (hg : o.guard = none) (h : Oper.quietUpon P (fun _ => False) w v ((execOp a.eval o).run P w)) : Runs P ops o a w v w := by
  refine ⟨hd, ?_⟩
  rw [if_pos (by simp [Region.wanted, hg])]
  generalize (execOp a.eval o).run P w = r at *
  cases r with
  | ok n w' =>
    cases n <;> simp only [Oper.quietUpon] at h
    case value u => obtain ⟨rfl, rfl⟩ := h; exact .inl rfl
    case skip => obtain ⟨rfl, rfl⟩ := h; exact .inr ⟨rfl, rfl⟩
    case enter f args =>
      obtain ⟨_, hc⟩ := h
      exfalso
      obtain ⟨e, w'', fr', hR, _⟩ := hc []
      exact hR.2
  | halt x w' => simp only [Oper.quietUpon] at h
theorem headR_nil {a : Act} {K : Act → Prop} (h : K a) : headR P ops C K [] a := h
theorem headR_step {o : Oper} {l : List Oper} {a : Act} {K : Act → Prop} (h : ∀ K' : Act → Prop, (∀ a, headR P ops C K l a → K' a) → ∃ v, (∀ w, C w → Runs P ops o a w v w) ∧ K' (a.put o.dst v)) : headR P ops C K (o :: l) a :=
  h _ (fun _ h => h)
theorem tailR_step {o o' : Oper} {l : List Oper} {a : Act} {w : World} (h : ∀ K' : Act → World → Prop, (∀ a w, tailR P ops C Q (o' :: l) a w → K' a w) → ∃ v w', Runs P ops o a w v w' ∧ C w' ∧ K' (a.put o.dst v) w') : tailR P ops C Q (o :: o' :: l) a w :=
  h _ (fun _ _ h => h)
theorem tailR_last {o : Oper} {a : Act} {w : World} (h : ∀ K' : Act → World → Prop, (∀ a w, Q .normal a w → K' a w) → ∃ v w', Runs P ops o a w v w' ∧ K' (a.put o.dst v) w') : tailR P ops C Q [o] a w :=
  h _ (fun _ _ h => h)
end
end Go.Proofs.Ytnaeehnnjhklbaa
