/- A family none of whose namespaces is private: the key table's entries are the names in their order. Plain law. -/
import Derived.Test.YtnaeehnnjhklbaaNames
set_option linter.unusedVariables false
namespace Go.Proofs.Ytnaeehnnjhklbaa
open Go.RowKit

structure KeyTab (t : Tab) (names : List ByteArray) : Prop where
  ok : t.ok
  nodup : names.Nodup
  len : t.es.length = names.length
  ent : ∀ (e : Nat) (s : ByteArray), names[e]? = some s → (entOf t.es (e : Int)).live = true ∧ (entOf t.es (e : Int)).key = e ∧ (entOf t.es (e : Int)).hash = txt s

variable {t : Tab} {names : List ByteArray}
theorem KeyTab.get (h : KeyTab t names) {e : Nat} (he : e < t.es.length) : ∃ s, names[e]? = some s := ⟨names[e]'(by rw [← h.len]; exact he), List.getElem?_eq_getElem _⟩
theorem KeyTab.all (h : KeyTab t names) : AllLive t := fun e he => by
  obtain ⟨s, hs⟩ := h.get he
  exact (h.ent e s hs).1
theorem KeyTab.keys (h : KeyTab t names) : KeysOk t names := fun e he _ => by
  obtain ⟨s, hs⟩ := h.get he
  exact ⟨e, s, (h.ent e s hs).2.1, hs, (h.ent e s hs).2.2⟩
theorem keyTab_new : KeyTab Tab.new [] := ⟨Tab.new_ok, List.nodup_nil, rfl, fun e s h => by simp at h⟩
theorem KeyTab.find (h : KeyTab t names) (s : ByteArray) : t.findE s (numOf names s) = numOf names s := by
  unfold Tab.findE
  rcases numOf_spec names s with ⟨h1, h2⟩ | ⟨i, h1, h2⟩
  · rw [h1]
    refine find_none h.ok.laid _ _ (fun e he _ _ hk => ?_)
    obtain ⟨s', hs'⟩ := h.get he
    have := (h.ent e s' hs').2.1
    omega
  · have hi : i < t.es.length := by rw [h.len]; exact (List.getElem?_eq_some_iff.1 h2).1
    obtain ⟨e1, e2, e3⟩ := h.ent i s h2
    have := find_some h.ok.laid i hi e1 (fun e' he' _ hk => by
      obtain ⟨s', hs'⟩ := h.get he'
      have := (h.ent e' s' hs').2.1
      rw [e2] at hk
      omega)
    rw [e2, e3] at this
    rw [h1]
    exact this
theorem KeyTab.rowAt (h : KeyTab t names) (vals : List Int) (s : ByteArray) : rowAt t names vals s = if numOf names s < (vals.length : Int) then numOf names s else -1 := by
  unfold Ytnaeehnnjhklbaa.rowAt
  rw [h.find]
theorem AllLive.liveL (h : AllLive t) : liveL t.es = t.es := by
  unfold Ytnaeehnnjhklbaa.liveL
  rw [List.filter_eq_self.2]
  intro x hx
  obtain ⟨e, he, rfl⟩ := mem_entOf hx
  exact h e he
theorem AllLive.roomy (h : AllLive t) : t.roomy.es = t.es := by
  unfold Tab.roomy
  split
  · exact h.liveL
  · rfl
theorem entOf_left {es : List Ent} {e : Nat} (x : Ent) (h : e < es.length) : entOf (es ++ [x]) (e : Int) = entOf es (e : Int) := by
  rw [entOf_nat, entOf_nat, List.getD, List.getD, List.getElem?_append_left h]
theorem KeyTab.add (h : KeyTab t names) {s : ByteArray} (hs : s ∉ names) (hl : names.length ≤ 300000) : KeyTab (t.add (txt s) (numOf (given names s) s) 0) (names ++ [s]) := by
  have hg : given names s = names ++ [s] := by unfold given; rw [if_pos (by rw [numOf_none hs]; omega)]
  rw [hg, given_new hs]
  have hlv : t.live = t.es.length := h.all.live
  have hes : (t.add (txt s) (names.length : Nat) 0).es = t.es ++ [⟨true, txt s, (names.length : Nat), 0, t.roomy.births⟩] := by
    show t.roomy.es ++ [_] = _
    rw [h.all.roomy]
  refine ⟨Tab.add_ok h.ok (by rw [hlv, h.len]; omega) _ _ _, List.nodup_append.2 ⟨h.nodup, by simp, fun a ha c hc e => by simp at hc; subst hc; exact hs (e ▸ ha)⟩, by rw [hes]; simp [h.len], fun e s' he => ?_⟩
  rw [hes]
  rcases Nat.lt_or_ge e names.length with h1 | h1
  · rw [List.getElem?_append_left h1] at he
    rw [entOf_left _ (by rw [h.len]; exact h1)]
    exact h.ent e s' he
  · have h2 := (List.getElem?_eq_some_iff.1 he).1
    obtain rfl : e = names.length := by simp at h2; omega
    simp at he
    subst he
    have := entOf_last t.es ⟨true, txt s, (names.length : Nat), 0, t.roomy.births⟩
    rw [h.len] at this
    rw [this]
    exact ⟨rfl, rfl, rfl⟩
theorem KeyTab.lived (h : KeyTab t names) : ∀ k, k ≤ names.length → (livedL t.es k).map (fun x => nameOf names x.2) = names.take k := by
  intro k
  induction k with
  | zero => intro _; rfl
  | succ k ih =>
    intro hk
    have hk' : k < names.length := hk
    obtain ⟨e1, e2, _⟩ := h.ent k names[k] (List.getElem?_eq_getElem hk')
    simp only [livedL, e1, if_true, List.map_append, ih (by omega), List.map_cons, List.map_nil]
    rw [List.take_add_one, List.getElem?_eq_getElem hk']
    unfold nameOf
    rw [e2]
    simp [hk']
theorem KeyTab.namesL (h : KeyTab t names) : namesL t names = names := by
  unfold Ytnaeehnnjhklbaa.namesL
  rw [h.len, h.lived _ (Nat.le_refl _), List.take_length]
end Go.Proofs.Ytnaeehnnjhklbaa
