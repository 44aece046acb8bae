/- Compact tables in plain numbers: cells, entries, trails, and what a search along a trail comes to. -/
import Derived.Test.YtnaeehnnjhklbaaCellsOps
import Derived.Test.YtnaeehnnjhklbaaTrailMath
set_option linter.unusedVariables false
namespace Go.Proofs.Ytnaeehnnjhklbaa
open Go.RowKit

/-- No n + 1 numbers below n are unlike. -/
theorem holes : ∀ (n : Nat) (g : Nat → Nat), (∀ x, x ≤ n → g x < n) → ∃ x y, x < y ∧ y ≤ n ∧ g x = g y := by
  intro n
  induction n with
  | zero => intro g h; have := h 0 (by omega); omega
  | succ n ih =>
    intro g h
    by_cases he : ∃ x, x ≤ n ∧ g x = g (n + 1)
    · obtain ⟨x, hx, e⟩ := he
      exact ⟨x, n + 1, by omega, by omega, e⟩
    have hne : ∀ x, x ≤ n → g x ≠ g (n + 1) := fun x hx e => he ⟨x, hx, e⟩
    have hc := h (n + 1) (by omega)
    obtain ⟨x, y, hxy, hy, e⟩ := ih (fun x => if g x = n then g (n + 1) else g x) (fun x hx => by
      show (if g x = n then g (n + 1) else g x) < n
      have h1 := h x (by omega)
      have h2 := hne x hx
      split <;> omega)
    have e' : (if g x = n then g (n + 1) else g x) = (if g y = n then g (n + 1) else g y) := e
    have h1 := hne x (by omega)
    have h2 := hne y hy
    refine ⟨x, y, hxy, by omega, ?_⟩
    split at e' <;> split at e' <;> omega

/-- n unlike numbers below n are all of them. -/
theorem reaches (n : Nat) (f : Nat → Nat) (hb : ∀ x, x < n → f x < n) (hi : ∀ x y, x < y → y < n → f x ≠ f y) (y : Nat) (hy : y < n) : ∃ x, x < n ∧ f x = y := by
  by_cases he : ∃ x, x < n ∧ f x = y
  · exact he
  have hne : ∀ x, x < n → f x ≠ y := fun x hx e => he ⟨x, hx, e⟩
  obtain ⟨m, rfl⟩ : ∃ m, n = m + 1 := ⟨n - 1, by omega⟩
  obtain ⟨a, b, hab, hbm, e⟩ := holes m (fun x => if f x = m then y else f x) (fun x hx => by
    show (if f x = m then y else f x) < m
    have h1 := hb x (by omega)
    have h2 := hne x (by omega)
    split
    · rename_i h3; omega
    · omega)
  have e' : (if f a = m then y else f a) = (if f b = m then y else f b) := e
  have h1 := hne a (by omega)
  have h2 := hne b (by omega)
  have h3 := hi a b hab (by omega)
  split at e' <;> split at e' <;> omega

theorem trail_covers (h : Int) (L c : Nat) (hc : c < 2 ^ L) : ∃ k, k < 2 ^ L + 13 ∧ trC h L k = c := by
  obtain ⟨x, hx, e⟩ := reaches (2 ^ L) (fun x => trC h L (trS h + x)) (fun x _ => trC_lt h L _) (fun x y hxy hy => trC_apart h L _ _ (by omega) (by omega) (by omega)) c hc
  have := trS_le h
  exact ⟨trS h + x, by omega, e⟩

/-- The least k from the number k on with p k; n are tried. -/
def lst (p : Nat → Bool) : Nat → Nat → Nat
  | 0, k => k
  | n + 1, k => if p k then k else lst p n (k + 1)
theorem lst_spec (p : Nat → Bool) : ∀ (n k j : Nat), k ≤ j → j < k + n → p j = true → p (lst p n k) = true ∧ k ≤ lst p n k ∧ lst p n k ≤ j ∧ ∀ i, k ≤ i → i < lst p n k → p i = false := by
  intro n
  induction n with
  | zero => intro k j h1 h2; omega
  | succ n ih =>
    intro k j h1 h2 hj
    unfold lst
    by_cases hk : p k = true
    · rw [if_pos hk]
      exact ⟨hk, Nat.le_refl _, h1, fun i h3 h4 => by omega⟩
    · rw [if_neg hk]
      have hkj : k ≠ j := fun e => by subst e; exact hk hj
      obtain ⟨a, b, c, d⟩ := ih (k + 1) j (by omega) (by omega) hj
      refine ⟨a, by omega, c, fun i h3 h4 => ?_⟩
      by_cases hik : i = k
      · subst hik; simpa using hk
      · exact d i (by omega) h4
theorem lst_eq (p : Nat → Bool) (n k j : Nat) (h1 : k ≤ j) (h2 : j < k + n) (hj : p j = true) (hn : ∀ i, k ≤ i → i < j → p i = false) : lst p n k = j := by
  obtain ⟨a, b, c, d⟩ := lst_spec p n k j h1 h2 hj
  rcases Nat.lt_or_ge (lst p n k) j with h | h
  · rw [hn _ b h] at a; cases a
  · omega

/-- An entry. -/
structure Ent where
  live : Bool
  hash : Int
  key : Int
  value : Int
  birth : Int
def Ent.none : Ent := ⟨false, 0, 0, 0, 0⟩
def entOf (es : List Ent) (v : Int) : Ent := es.getD v.toNat Ent.none
theorem entOf_nat (es : List Ent) (e : Nat) : entOf es (e : Int) = es.getD e Ent.none := by simp [entOf]
theorem entOf_app (es : List Ent) (x : Ent) (e : Nat) (h : e < es.length) : entOf (es ++ [x]) (e : Int) = entOf es (e : Int) := by
  simp [entOf, List.getD, List.getElem?_append_left h]
theorem entOf_last (es : List Ent) (x : Ent) : entOf (es ++ [x]) (es.length : Int) = x := by simp [entOf, List.getD]
theorem entOf_set (es : List Ent) (x : Ent) (e i : Nat) (h : e < es.length) : entOf (es.set e x) (i : Int) = if i = e then x else entOf es (i : Int) := by
  simp only [entOf, List.getD, Int.toNat_natCast, List.getElem?_set]
  by_cases hi : e = i
  · subst hi; simp [h]
  · rw [if_neg hi, if_neg (fun e' => hi e'.symm)]
theorem entOf_live {es : List Ent} {e : Nat} (h : (entOf es (e : Int)).live = true) : e < es.length := by
  rcases Nat.lt_or_ge e es.length with h' | h'
  · exact h'
  · rw [entOf_nat, List.getD, List.getElem?_eq_none h'] at h; simp [Ent.none] at h

/-- How many of the first n cells are not empty. -/
def occ (f : Nat → Int) : Nat → Nat
  | 0 => 0
  | n + 1 => occ f n + if f n = -1 then 0 else 1
theorem occ_none (n : Nat) : occ (fun _ => -1) n = 0 := by
  induction n with
  | zero => rfl
  | succ n ih => simp [occ, ih]
theorem occ_free (f : Nat → Int) (n : Nat) (h : occ f n < n) : ∃ i, i < n ∧ f i = -1 := by
  induction n with
  | zero => omega
  | succ n ih =>
    by_cases e : f n = -1
    · exact ⟨n, by omega, e⟩
    · simp only [occ, if_neg e] at h
      obtain ⟨i, hi, e'⟩ := ih (by omega)
      exact ⟨i, by omega, e'⟩
theorem occ_same (f g : Nat → Int) (n : Nat) (h : ∀ i, i < n → (f i = -1 ↔ g i = -1)) : occ f n = occ g n := by
  induction n with
  | zero => rfl
  | succ n ih =>
    have := h n (by omega)
    simp only [occ, ih (fun i hi => h i (by omega))]
    by_cases e : f n = -1
    · rw [if_pos e, if_pos (this.1 e)]
    · rw [if_neg e, if_neg (fun e' => e (this.2 e'))]
theorem occ_put (f : Nat → Int) (c : Nat) (v : Int) (n : Nat) : occ (putAt f c v) n ≤ occ f n + 1 := by
  have same : ∀ n, n ≤ c → occ (putAt f c v) n = occ f n := fun n hn => occ_same _ _ _ (fun i hi => by
    have : i ≠ c := by omega
    simp [putAt, this])
  induction n with
  | zero => simp [occ]
  | succ n ih =>
    by_cases hn : n ≤ c
    · have := same n hn
      simp only [occ, this]
      split <;> split <;> omega
    · have : n ≠ c := by omega
      have e : putAt f c v n = f n := by simp [putAt, this]
      simp only [occ, e]
      omega

/-- What stands in the k-th cell of a hash's trail. -/
def tr (f : Nat → Int) (L : Nat) (h : Int) (k : Nat) : Int := f (trC h L k)
/-- The first empty cell of a trail. -/
def endK (f : Nat → Int) (L : Nat) (h : Int) : Nat := lst (fun k => tr f L h k == -1) (2 ^ L + 13) 0
def layF (f : Nat → Int) (L : Nat) (h : Int) (n : Int) : Nat → Int := putAt f (trC h L (endK f L h)) n

/-- Cells into which the first m entries were laid. -/
structure Laid (L : Nat) (f : Nat → Int) (es : List Ent) (m : Nat) : Prop where
  lo : 3 ≤ L
  hi : L ≤ 20
  lt : m < 2 ^ L
  occ : occ f (2 ^ L) ≤ m
  cell : ∀ i, i < 2 ^ L → f i = -1 ∨ f i = -2 ∨ ∃ e : Nat, f i = (e : Int) ∧ e < m ∧ (entOf es e).live = true
  once : ∀ i j, i < 2 ^ L → j < 2 ^ L → 0 ≤ f i → f i = f j → i = j
  found : ∀ e : Nat, e < m → (entOf es e).live = true → ∃ k, tr f L (entOf es e).hash k = e ∧ ∀ j, j < k → tr f L (entOf es e).hash j ≠ -1
  order : ∀ e e' : Nat, e < e' → e' < m → (entOf es e).live = true → (entOf es e').live = true → (entOf es e).hash = (entOf es e').hash → ∀ k, tr f L (entOf es e).hash k = e' → ∃ j, j < k ∧ tr f L (entOf es e).hash j = e

variable {L : Nat} {f : Nat → Int} {es : List Ent} {m : Nat}

theorem Laid.end (H : Laid L f es m) (h : Int) : endK f L h < 2 ^ L + 13 ∧ tr f L h (endK f L h) = -1 ∧ ∀ j, j < endK f L h → tr f L h j ≠ -1 := by
  obtain ⟨i, hi, e⟩ := occ_free f (2 ^ L) (Nat.lt_of_le_of_lt H.occ H.lt)
  obtain ⟨k, hk, e'⟩ := trail_covers h L i hi
  have ht : tr f L h k = -1 := by unfold tr; rw [e', e]
  obtain ⟨a, b, c, d⟩ := lst_spec (fun k => tr f L h k == -1) (2 ^ L + 13) 0 k (by omega) (by omega) (by simpa using ht)
  have a' : tr f L h (lst (fun k => tr f L h k == -1) (2 ^ L + 13) 0) = -1 := by simpa using a
  refine ⟨?_, a', fun j hj => ?_⟩
  · show lst _ _ _ < _
    omega
  · have := d j (by omega) hj
    simpa using this

theorem Laid.before (H : Laid L f es m) (h : Int) (k : Nat) (h0 : 0 ≤ tr f L h k) (hp : ∀ j, j < k → tr f L h j ≠ -1) : k < endK f L h := by
  obtain ⟨_, b, _⟩ := H.end h
  rcases Nat.lt_or_ge k (endK f L h) with hk | hk
  · exact hk
  · exfalso
    rcases Nat.lt_or_ge (endK f L h) k with hk' | hk'
    · exact hp _ hk' b
    · obtain rfl : k = endK f L h := by omega
      omega

theorem laid_none (L : Nat) (es : List Ent) (lo : 3 ≤ L) (hi : L ≤ 20) : Laid L (fun _ => -1) es 0 where
  lo := lo
  hi := hi
  lt := Nat.two_pow_pos L
  occ := by rw [occ_none]; omega
  cell := fun _ _ => .inl rfl
  once := fun i j _ _ h _ => by simp at h
  found := fun e h => by omega
  order := fun e e' _ h => by omega

theorem tr_lay (h h' : Int) (n : Int) (k : Nat) : tr (layF f L h n) L h' k = if trC h' L k = trC h L (endK f L h) then n else tr f L h' k := rfl

theorem Laid.lay (H : Laid L f es m) (hlt : m + 1 < 2 ^ L) (hl : (entOf es m).live = true) : Laid L (layF f L (entOf es m).hash m) es (m + 1) := by
  obtain ⟨hE, hEe, hEb⟩ := H.end (entOf es m).hash
  obtain ⟨E, hEd⟩ : ∃ E, E = endK f L (entOf es m).hash := ⟨_, rfl⟩
  rw [← hEd] at hE hEe hEb
  have tl : ∀ (h' : Int) (k : Nat), tr (layF f L (entOf es m).hash m) L h' k = if trC h' L k = trC (entOf es m).hash L E then (m : Int) else tr f L h' k := fun h' k => by rw [hEd]; rfl
  have old : ∀ (h' : Int) (k : Nat), tr f L h' k ≠ -1 → tr (layF f L (entOf es m).hash m) L h' k = tr f L h' k := fun h' k hk => by
    rw [tl, if_neg (fun e => hk (by unfold tr at hEe ⊢; rw [e]; exact hEe))]
  have lf : ∀ i, layF f L (entOf es m).hash m i = if i = trC (entOf es m).hash L E then (m : Int) else f i := fun i => by rw [hEd]; rfl
  have ncell : ∀ i, i < 2 ^ L → f i ≠ (m : Int) := fun i hi e => by
    rcases H.cell i hi with h | h | ⟨e', h, h', _⟩
    · omega
    · omega
    · omega
  exact {
    lo := H.lo
    hi := H.hi
    lt := hlt
    occ := by
      have := H.occ
      exact Nat.le_trans (occ_put f _ _ _) (by omega)
    cell := fun i hi => by
      rw [lf]
      split
      · exact .inr (.inr ⟨m, rfl, by omega, hl⟩)
      · rcases H.cell i hi with h | h | ⟨e, h, h', h''⟩
        · exact .inl h
        · exact .inr (.inl h)
        · exact .inr (.inr ⟨e, h, by omega, h''⟩)
    once := fun i j hi hj h0 he => by
      rw [lf] at h0
      rw [lf, lf] at he
      by_cases e1 : i = trC (entOf es m).hash L E
      · by_cases e2 : j = trC (entOf es m).hash L E
        · rw [e1, e2]
        · rw [if_pos e1, if_neg e2] at he
          exact absurd he.symm (ncell j hj)
      · by_cases e2 : j = trC (entOf es m).hash L E
        · rw [if_neg e1, if_pos e2] at he
          exact absurd he (ncell i hi)
        · rw [if_neg e1] at h0 he
          rw [if_neg e2] at he
          exact H.once i j hi hj h0 he
    found := fun e he hle => by
      by_cases e1 : e = m
      · subst e1
        refine ⟨E, by rw [tl, if_pos rfl], fun j hj => ?_⟩
        rw [old _ _ (hEb j hj)]
        exact hEb j hj
      · obtain ⟨k, hk, hb⟩ := H.found e (by omega) hle
        refine ⟨k, ?_, fun j hj => ?_⟩
        · rw [old _ _ (by omega)]; exact hk
        · rw [old _ _ (hb j hj)]; exact hb j hj
    order := fun e e' h1 h2 l1 l2 hh k hk => by
      by_cases e1 : e' = m
      · subst e1
        obtain ⟨k1, hk1, hb1⟩ := H.found e (by omega) l1
        have hb := H.before (entOf es e).hash k1 (by omega) hb1
        refine ⟨k1, ?_, by rw [old _ _ (by omega)]; exact hk1⟩
        rw [hh, ← hEd] at hb
        rw [tl] at hk
        have hc : trC (entOf es e).hash L k = trC (entOf es e').hash L E := by
          by_cases hc : trC (entOf es e).hash L k = trC (entOf es e').hash L E
          · exact hc
          · rw [if_neg hc] at hk
            exact absurd hk (ncell _ (trC_lt _ _ _))
        have hke : tr f L (entOf es e').hash k = -1 := by
          unfold tr at hEe ⊢
          rw [hh] at hc
          rw [hc]; exact hEe
        rcases Nat.lt_or_ge k1 k with h | h
        · exact h
        · exact absurd hke (hEb k (by omega))
      · have hk' : tr f L (entOf es e).hash k = e' := by
          rw [tl] at hk
          split at hk
          · omega
          · exact hk
        obtain ⟨j, hj, hje⟩ := H.order e e' h1 (by omega) l1 l2 hh k hk'
        exact ⟨j, hj, by rw [old _ _ (by omega)]; exact hje⟩ }

/-- What is appended changes nothing of what was laid. -/
theorem Laid.congr {es' : List Ent} (H : Laid L f es m) (he : ∀ e : Nat, e < m → (entOf es' e).live = (entOf es e).live ∧ (entOf es' e).hash = (entOf es e).hash) : Laid L f es' m where
  lo := H.lo
  hi := H.hi
  lt := H.lt
  occ := H.occ
  cell := fun i hi => by
    rcases H.cell i hi with h | h | ⟨e, h, h', h''⟩
    · exact .inl h
    · exact .inr (.inl h)
    · exact .inr (.inr ⟨e, h, h', by rw [(he e h').1]; exact h''⟩)
  once := H.once
  found := fun e h hl => by
    rw [(he e h).1] at hl
    rw [(he e h).2]
    exact H.found e h hl
  order := fun e e' h1 h2 l1 l2 hh => by
    rw [(he e (by omega)).1] at l1
    rw [(he e' h2).1] at l2
    rw [(he e (by omega)).2, (he e' h2).2] at hh
    rw [(he e (by omega)).2]
    exact H.order e e' h1 h2 l1 l2 hh
theorem Laid.app (H : Laid L f es m) (hm : m ≤ es.length) (x : Ent) : Laid L f (es ++ [x]) m :=
  H.congr fun e he => by rw [entOf_app es x e (by omega)]; exact ⟨rfl, rfl⟩

/-- An entry taken out. -/
def killF (f : Nat → Int) (e : Nat) : Nat → Int := fun i => if f i = e then -2 else f i
theorem Laid.kill (H : Laid L f es m) (e : Nat) (hm : e < es.length) : Laid L (killF f e) (es.set e Ent.none) m := by
  have ev : ∀ i : Nat, (entOf (es.set e Ent.none) i).live = true → i ≠ e ∧ entOf (es.set e Ent.none) i = entOf es i := fun i hi => by
    rw [entOf_set es _ e i hm] at hi ⊢
    by_cases hie : i = e
    · rw [if_pos hie] at hi; simp [Ent.none] at hi
    · rw [if_neg hie]; exact ⟨hie, rfl⟩
  have kt : ∀ h k, tr (killF f e) L h k = if tr f L h k = e then -2 else tr f L h k := fun _ _ => rfl
  exact {
    lo := H.lo
    hi := H.hi
    lt := H.lt
    occ := by
      rw [occ_same (killF f e) f (2 ^ L) (fun i _ => by unfold killF; split <;> omega)]
      exact H.occ
    cell := fun i hi => by
      unfold killF
      split
      · exact .inr (.inl rfl)
      · rename_i hne
        rcases H.cell i hi with h | h | ⟨e', h, h', h''⟩
        · exact .inl h
        · exact .inr (.inl h)
        · refine .inr (.inr ⟨e', h, h', ?_⟩)
          rw [entOf_set es _ e e' hm, if_neg (fun he => hne (by rw [h, he]))]
          exact h''
    once := fun i j hi hj h0 he => by
      unfold killF at h0 he
      by_cases e1 : f i = e
      · rw [if_pos e1] at h0; omega
      · rw [if_neg e1] at h0 he
        by_cases e2 : f j = e
        · rw [if_pos e2] at he; omega
        · rw [if_neg e2] at he
          exact H.once i j hi hj h0 he
    found := fun i hi hl => by
      obtain ⟨hne, hs⟩ := ev i hl
      rw [hs] at hl ⊢
      obtain ⟨k, hk, hb⟩ := H.found i hi hl
      refine ⟨k, by rw [kt, if_neg (by omega)]; exact hk, fun j hj => ?_⟩
      rw [kt]
      have := hb j hj
      split <;> omega
    order := fun i i' h1 h2 l1 l2 hh k hk => by
      obtain ⟨hne, hs⟩ := ev i l1
      obtain ⟨hne', hs'⟩ := ev i' l2
      rw [hs] at l1 hh hk ⊢
      rw [hs'] at l2 hh
      rw [kt] at hk
      have hk' : tr f L (entOf es i).hash k = i' := by
        split at hk
        · omega
        · exact hk
      obtain ⟨j, hj, hje⟩ := H.order i i' h1 h2 l1 l2 hh k hk'
      exact ⟨j, hj, by rw [kt, if_neg (by omega)]; exact hje⟩ }

/-- The cell of a live entry: the one that holds its number. -/
theorem Laid.where (H : Laid L f es m) (e : Nat) (he : e < m) (hl : (entOf es e).live = true) :
    ∃ k, k < 2 ^ L + 13 ∧ tr f L (entOf es e).hash k = e ∧ (∀ j, j < k → tr f L (entOf es e).hash j ≠ e) ∧ ∀ i, i < 2 ^ L → killF f e i = putAt f (trC (entOf es e).hash L k) (-2) i := by
  obtain ⟨k0, hk0, hb0⟩ := H.found e he hl
  have hlt0 := H.before _ k0 (by omega) hb0
  have hE := (H.end (entOf es e).hash).1
  obtain ⟨a, b, c, d⟩ := lst_spec (fun k => tr f L (entOf es e).hash k == e) (2 ^ L + 13) 0 k0 (by omega) (by omega) (by simpa using hk0)
  have a' : tr f L (entOf es e).hash (lst (fun k => tr f L (entOf es e).hash k == e) (2 ^ L + 13) 0) = e := by simpa using a
  refine ⟨_, by omega, a', fun j hj => by simpa using d j (by omega) hj, fun i hi => ?_⟩
  unfold killF putAt
  by_cases hfi : f i = e
  · rw [if_pos hfi, if_pos]
    exact H.once i _ hi (trC_lt _ _ _) (by omega) (by rw [hfi]; exact a'.symm)
  · rw [if_neg hfi, if_neg]
    intro hie
    rw [hie] at hfi
    exact hfi a'

/-- What a Seeker told last, ahead of the k-th cell. -/
def told (f : Nat → Int) (L : Nat) (es : List Ent) (h : Int) : Nat → Int
  | 0 => -1
  | k + 1 => if told f L es h k < tr f L h k ∧ (entOf es (tr f L h k)).hash = h then tr f L h k else told f L es h k
def hit (f : Nat → Int) (L : Nat) (es : List Ent) (h : Int) (k : Nat) : Bool := decide (told f L es h k < tr f L h k) && decide ((entOf es (tr f L h k)).hash = h)
theorem told_ge (f : Nat → Int) (L : Nat) (es : List Ent) (h : Int) (k : Nat) : -1 ≤ told f L es h k := by
  induction k with
  | zero => simp [told]
  | succ k ih => unfold told; split <;> omega
theorem told_hit {h : Int} {k : Nat} (hh : hit f L es h k = true) : told f L es h (k + 1) = tr f L h k := by
  simp [hit] at hh
  simp [told, hh]
theorem told_not {h : Int} {k : Nat} (hh : hit f L es h k = false) : told f L es h (k + 1) = told f L es h k := by
  simp [hit] at hh
  show (if told f L es h k < tr f L h k ∧ (entOf es (tr f L h k)).hash = h then tr f L h k else told f L es h k) = _
  rw [if_neg (fun hc => hh hc.1 hc.2)]
theorem hit_live (H : Laid L f es m) {h : Int} {k : Nat} (hh : hit f L es h k = true) : ∃ e : Nat, tr f L h k = e ∧ e < m ∧ (entOf es e).live = true ∧ (entOf es e).hash = h := by
  simp [hit] at hh
  have := told_ge f L es h k
  rcases H.cell _ (trC_lt h L k) with h' | h' | ⟨e, h', h1, h2⟩
  · have : tr f L h k = -1 := h'; omega
  · have : tr f L h k = -2 := h'; omega
  · have e' : tr f L h k = e := h'
    rw [e'] at hh
    exact ⟨e, e', h1, h2, hh.2⟩
theorem told_from (H : Laid L f es m) (h : Int) (k : Nat) : told f L es h k = -1 ∨ ∃ j, j < k ∧ hit f L es h j = true ∧ told f L es h k = tr f L h j := by
  induction k with
  | zero => exact .inl rfl
  | succ k ih =>
    cases hh : hit f L es h k
    · rw [told_not hh]
      rcases ih with h' | ⟨j, hj, h1, h2⟩
      · exact .inl h'
      · exact .inr ⟨j, by omega, h1, h2⟩
    · rw [told_hit hh]
      exact .inr ⟨k, by omega, hh, rfl⟩

/-- Where a search for an entry of a key ends: at it, or at an empty cell. -/
def findK (f : Nat → Int) (L : Nat) (es : List Ent) (h n : Int) : Nat := lst (fun k => tr f L h k == -1 || (hit f L es h k && (entOf es (tr f L h k)).key == n)) (2 ^ L + 13) 0
def findE (f : Nat → Int) (L : Nat) (es : List Ent) (h n : Int) : Int := tr f L h (findK f L es h n)

theorem findK_spec (H : Laid L f es m) (h n : Int) : findK f L es h n ≤ endK f L h ∧ (∀ j, j < findK f L es h n → tr f L h j ≠ -1 ∧ (hit f L es h j = true → (entOf es (tr f L h j)).key ≠ n)) ∧
    (tr f L h (findK f L es h n) = -1 ∨ (hit f L es h (findK f L es h n) = true ∧ (entOf es (tr f L h (findK f L es h n))).key = n)) := by
  obtain ⟨hE, hEe, hEb⟩ := H.end h
  obtain ⟨a, b, c, d⟩ := lst_spec (fun k => tr f L h k == -1 || (hit f L es h k && (entOf es (tr f L h k)).key == n)) (2 ^ L + 13) 0 (endK f L h) (by omega) (by omega) (by simp [hEe])
  simp only [Bool.or_eq_true, Bool.and_eq_true, beq_iff_eq] at a
  refine ⟨c, fun j hj => ?_, a⟩
  have := d j (by omega) hj
  simp at this
  exact this

/-- A live entry of that hash is met, all of them, each once. -/
theorem Laid.hits (H : Laid L f es m) (e : Nat) (he : e < m) (hl : (entOf es e).live = true) : ∃ k, k < endK f L (entOf es e).hash ∧ tr f L (entOf es e).hash k = e ∧ hit f L es (entOf es e).hash k = true := by
  obtain ⟨k0, hk0, hb0⟩ := H.found e he hl
  obtain ⟨a, b, c, d⟩ := lst_spec (fun k => tr f L (entOf es e).hash k == e) (k0 + 1) 0 k0 (by omega) (by omega) (by simpa using hk0)
  generalize hk : lst (fun k => tr f L (entOf es e).hash k == e) (k0 + 1) 0 = k at *
  have a' : tr f L (entOf es e).hash k = e := by simpa using a
  refine ⟨k, H.before _ k (by omega) (fun j hj => hb0 j (by omega)), a', ?_⟩
  simp only [hit, Bool.and_eq_true, decide_eq_true_eq]
  rw [a']
  refine ⟨?_, rfl⟩
  rcases told_from H (entOf es e).hash k with h' | ⟨j, hj, h1, h2⟩
  · omega
  · obtain ⟨e', t1, t2, t3, t4⟩ := hit_live H h1
    rw [h2, t1]
    have hne : e' ≠ e := by
      intro hee
      have := d j (by omega) hj
      rw [t1, hee] at this
      simp at this
    rcases Nat.lt_or_ge e' e with h | h
    · omega
    · exfalso
      obtain ⟨i, hi, hie⟩ := H.order e e' (by omega) t2 hl t3 t4.symm j t1
      have := d i (by omega) (by omega)
      rw [hie] at this
      simp at this

theorem find_some (H : Laid L f es m) (e : Nat) (he : e < m) (hl : (entOf es e).live = true) (huniq : ∀ e' : Nat, e' < m → (entOf es e').live = true → (entOf es e').key = (entOf es e).key → e' = e) :
    findE f L es (entOf es e).hash (entOf es e).key = e := by
  obtain ⟨k, hk, hke, hh⟩ := H.hits e he hl
  obtain ⟨a, b, c⟩ := findK_spec H (entOf es e).hash (entOf es e).key
  unfold findE
  generalize findK f L es (entOf es e).hash (entOf es e).key = K at *
  have hKk : K ≤ k := by
    rcases Nat.lt_or_ge k K with h | h
    · exact absurd (by rw [hke]) ((b k h).2 hh)
    · exact h
  rcases c with h | ⟨h1, h2⟩
  · obtain ⟨_, _, hb⟩ := H.end (entOf es e).hash
    exact absurd h (hb K (by omega))
  · obtain ⟨e', t1, t2, t3, t4⟩ := hit_live H h1
    rw [t1] at h2 ⊢
    rw [huniq e' t2 t3 h2]

theorem find_none (H : Laid L f es m) (h n : Int) (hno : ∀ e : Nat, e < m → (entOf es e).live = true → (entOf es e).hash = h → (entOf es e).key ≠ n) : findE f L es h n = -1 := by
  obtain ⟨a, b, c⟩ := findK_spec H h n
  unfold findE
  rcases c with h' | ⟨h1, h2⟩
  · exact h'
  · obtain ⟨e', t1, t2, t3, t4⟩ := hit_live H h1
    rw [t1] at h2
    exact absurd h2 (hno e' t2 t3 t4)

theorem find_cases (H : Laid L f es m) (h n : Int) : findE f L es h n = -1 ∨ ∃ e : Nat, findE f L es h n = e ∧ e < m ∧ (entOf es e).live = true ∧ (entOf es e).hash = h ∧ (entOf es e).key = n := by
  obtain ⟨a, b, c⟩ := findK_spec H h n
  rcases c with h' | ⟨h1, h2⟩
  · exact .inl h'
  · obtain ⟨e', t1, t2, t3, t4⟩ := hit_live H h1
    rw [t1] at h2
    exact .inr ⟨e', t1, t2, t3, t4, h2⟩
end Go.Proofs.Ytnaeehnnjhklbaa
