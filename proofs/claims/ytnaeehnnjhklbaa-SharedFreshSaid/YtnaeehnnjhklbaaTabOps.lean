/- Compact tables in plain numbers: what Add, Put, Kill make of one. -/
import Derived.Test.YtnaeehnnjhklbaaTab
set_option linter.unusedVariables false
namespace Go.Proofs.Ytnaeehnnjhklbaa
open Go.RowKit

/-- A table. -/
structure Tab where
  L : Nat
  f : Nat → Int
  es : List Ent
  births : Int
  made : Int
  turns : Int
def liveL (es : List Ent) : List Ent := es.filter Ent.live
def Tab.live (t : Tab) : Nat := (liveL t.es).length
structure Tab.ok (t : Tab) : Prop where
  laid : Laid t.L t.f t.es t.es.length
  fits : t.es.length ≤ room t.L

theorem liveL_app (a b : List Ent) : liveL (a ++ b) = liveL a ++ liveL b := List.filter_append ..
theorem liveL_one (x : Ent) (h : x.live = true) : liveL [x] = [x] := by simp [liveL, h]
theorem liveL_le (es : List Ent) : (liveL es).length ≤ es.length := List.length_filter_le ..
theorem liveL_all {es : List Ent} {x : Ent} (h : x ∈ liveL es) : x.live = true := (List.mem_filter.1 h).2
theorem liveL_liveL (es : List Ent) : liveL (liveL es) = liveL es := by simp [liveL]
theorem entOf_mem {es : List Ent} {e : Nat} (h : e < es.length) : entOf es (e : Int) ∈ es := by
  rw [entOf_nat, List.getD, List.getElem?_eq_getElem h]; exact List.getElem_mem h
theorem entOf_liveL {es : List Ent} {e : Nat} (h : e < (liveL es).length) : (entOf (liveL es) (e : Int)).live = true := liveL_all (entOf_mem h)
theorem mem_entOf {es : List Ent} {x : Ent} (h : x ∈ es) : ∃ e : Nat, e < es.length ∧ entOf es (e : Int) = x := by
  obtain ⟨e, he, hx⟩ := List.mem_iff_getElem.1 h
  exact ⟨e, he, by rw [entOf_nat, List.getD, List.getElem?_eq_getElem he]; exact hx⟩
theorem liveL_set {es : List Ent} {e : Nat} (h : e < es.length) (x : Ent) : liveL (es.set e x) = liveL (es.take e) ++ (liveL [x] ++ liveL (es.drop (e + 1))) := by
  rw [List.set_eq_take_append_cons_drop, if_pos h, liveL_app]
  congr 1
  show liveL ([x] ++ _) = _
  rw [liveL_app]
theorem liveL_at {es : List Ent} {e : Nat} (h : e < es.length) : liveL es = liveL (es.take e) ++ (liveL [entOf es (e : Int)] ++ liveL (es.drop (e + 1))) := by
  have h1 : es.set e (entOf es (e : Int)) = es := by
    rw [entOf_nat, List.getD, List.getElem?_eq_getElem h]
    simp
  have := liveL_set h (entOf es (e : Int))
  rw [h1] at this
  exact this
theorem liveL_none {es : List Ent} {e : Nat} (h : e < es.length) : liveL (es.set e Ent.none) = liveL (es.take e) ++ liveL (es.drop (e + 1)) := by
  rw [liveL_set h]; rfl

/-- The live entries laid anew. -/
def layN (L : Nat) (es : List Ent) : Nat → (Nat → Int)
  | 0 => fun _ => -1
  | m + 1 => layF (layN L es m) L (entOf es (m : Int)).hash m
theorem layN_laid (L : Nat) (es : List Ent) (lo : 3 ≤ L) (hi : L ≤ 20) (hl : ∀ e : Nat, e < es.length → (entOf es (e : Int)).live = true) : ∀ m, m ≤ es.length → m < 2 ^ L → Laid L (layN L es m) es m := by
  intro m
  induction m with
  | zero => intro _ _; exact laid_none L es lo hi
  | succ m ih =>
    intro h1 h2
    exact (ih (by omega) (by omega)).lay h2 (hl m (by omega))

/-- The logarithm that so many cells ask for. -/
def logOf (n : Nat) : Nat := lst (fun l => decide (n ≤ 2 ^ l)) 18 3
theorem logOf_spec (n : Nat) (h : n ≤ 1048576) : 3 ≤ logOf n ∧ logOf n ≤ 20 ∧ n ≤ 2 ^ logOf n ∧ ∀ l, 3 ≤ l → l < logOf n → ¬ n ≤ 2 ^ l := by
  obtain ⟨a, b, c, d⟩ := lst_spec (fun l => decide (n ≤ 2 ^ l)) 18 3 20 (by omega) (by omega) (by simpa using h)
  rw [decide_eq_true_eq] at a
  exact ⟨b, c, a, fun l h1 h2 => by simpa using d l h1 h2⟩

def Tab.new : Tab := ⟨3, fun _ => -1, [], 0, 1, 0⟩
def Tab.compact (t : Tab) : Tab := { t with L := logOf (3 * t.live), es := liveL t.es, f := layN (logOf (3 * t.live)) (liveL t.es) t.live, made := wrap64 (t.made + 1) }
def Tab.roomy (t : Tab) : Tab := if t.es.length = room t.L then t.compact else t
def Tab.push (t : Tab) (h k v : Int) : Tab := { t with es := t.es ++ [⟨true, h, k, v, t.births⟩], f := layF t.f t.L h t.es.length, births := wrap64 (t.births + 1), turns := wrap64 (t.turns + 1) }
def Tab.add (t : Tab) (h k v : Int) : Tab := t.roomy.push h k v
def Tab.put (t : Tab) (e : Nat) (v : Int) : Tab := { t with es := t.es.set e { entOf t.es (e : Int) with value := v } }
def Tab.kill (t : Tab) (e : Nat) : Tab := { t with f := killF t.f e, es := t.es.set e Ent.none, turns := wrap64 (t.turns + 1) }

theorem room_lt (L : Nat) : room L < 2 ^ L := by have := Nat.two_pow_pos L; unfold room; omega
theorem room_three (L n : Nat) (h3 : 3 ≤ L) (h : 3 * n ≤ 2 ^ L) : n < room L := by
  have : 2 ^ 3 ≤ 2 ^ L := Nat.pow_le_pow_right (by omega) h3
  unfold room; omega

theorem Tab.new_ok : Tab.new.ok := ⟨laid_none 3 [] (by omega) (by omega), Nat.zero_le _⟩
theorem Tab.live_le (t : Tab) : t.live ≤ t.es.length := liveL_le _

theorem Tab.compact_ok (t : Tab) (hl : 3 * t.live ≤ 1048576) : t.compact.ok ∧ t.compact.es.length < room t.compact.L := by
  obtain ⟨a, b, c, d⟩ := logOf_spec _ hl
  have hr : t.live < room (logOf (3 * t.live)) := room_three _ _ a c
  have := room_lt (logOf (3 * t.live))
  exact ⟨⟨layN_laid _ _ a b (fun e he => entOf_liveL he) t.live (Nat.le_refl _) (by omega), Nat.le_of_lt hr⟩, hr⟩
theorem Tab.roomy_ok {t : Tab} (h : t.ok) (hl : 3 * t.live ≤ 1048576) : t.roomy.ok ∧ t.roomy.es.length < room t.roomy.L := by
  unfold Tab.roomy
  split
  · exact t.compact_ok hl
  · have := h.fits; exact ⟨h, by omega⟩
theorem Tab.roomy_live (t : Tab) : liveL t.roomy.es = liveL t.es := by
  unfold Tab.roomy
  split
  · exact liveL_liveL _
  · rfl
theorem Tab.push_ok {t : Tab} (h : t.ok) (hl : t.es.length < room t.L) (hs k v : Int) : (t.push hs k v).ok := by
  have hr := room_lt t.L
  have e := entOf_last t.es ⟨true, hs, k, v, t.births⟩
  have H := (h.laid.app (Nat.le_refl _) ⟨true, hs, k, v, t.births⟩).lay (by omega) (by rw [e])
  rw [e] at H
  exact ⟨by simpa [Tab.push] using H, by simp [Tab.push]; omega⟩
theorem Tab.add_ok {t : Tab} (h : t.ok) (hl : 3 * t.live ≤ 1048576) (hs k v : Int) : (t.add hs k v).ok :=
  let ⟨a, b⟩ := Tab.roomy_ok h hl
  Tab.push_ok a b hs k v
theorem Tab.add_live (t : Tab) (h k v : Int) : liveL (t.add h k v).es = liveL t.es ++ [⟨true, h, k, v, t.roomy.births⟩] := by
  show liveL (t.roomy.es ++ [_]) = _
  rw [liveL_app, Tab.roomy_live, liveL_one _ rfl]
theorem Tab.roomy_births (t : Tab) : t.roomy.births = t.births := by unfold Tab.roomy; split <;> rfl
theorem Tab.put_ok {t : Tab} (h : t.ok) (e : Nat) (v : Int) (he : e < t.es.length) : (t.put e v).ok := by
  refine ⟨?_, by simpa [Tab.put] using h.fits⟩
  have : Laid t.L t.f (t.es.set e { entOf t.es (e : Int) with value := v }) t.es.length := h.laid.congr fun i hi => by
    rw [entOf_set _ _ _ _ he]
    split
    · rename_i hi; subst hi; exact ⟨rfl, rfl⟩
    · exact ⟨rfl, rfl⟩
  simpa [Tab.put] using this
theorem Tab.kill_ok {t : Tab} (h : t.ok) (e : Nat) (he : e < t.es.length) : (t.kill e).ok := by
  refine ⟨?_, by simpa [Tab.kill] using h.fits⟩
  have := h.laid.kill e he
  simpa [Tab.kill] using this
theorem Tab.put_live {t : Tab} (e : Nat) (v : Int) (he : e < t.es.length) (hl : (entOf t.es (e : Int)).live = true) : (t.put e v).live = t.live := by
  unfold Tab.live Tab.put
  rw [liveL_set he, liveL_at (es := t.es) he]
  simp [liveL, hl]
theorem Tab.kill_live {t : Tab} (e : Nat) (he : e < t.es.length) (hl : (entOf t.es (e : Int)).live = true) : (t.kill e).live + 1 = t.live := by
  unfold Tab.live Tab.kill
  rw [liveL_none he, liveL_at (es := t.es) he]
  simp [liveL, hl]
  omega
end Go.Proofs.Ytnaeehnnjhklbaa
