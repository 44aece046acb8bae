/- SharedFresh: facts on counters for the walk. -/
import Derived.Test.YtnaeehnnjhklbaaUnlike
set_option linter.unusedVariables false
set_option maxRecDepth 100000
namespace Go.Proofs.Ytnaeehnnjhklbaa
open Go.RowKit Go.MapKept Go.ChangeMaps

/-- Visits leave tables and turns as they are. -/
theorem visQ_keep (n : Nat) (q : Cnt) : (visQ n q).t = q.t ∧ (visQ n q).c = q.c ∧ (visQ n q).s = q.s := by
  induction n with
  | zero => exact ⟨rfl, rfl, rfl⟩
  | succ n ih =>
    obtain ⟨a, b, c⟩ := ih
    unfold visQ Cnt.add
    simp [a, b, c]
theorem findQ_keep (t : Tab) (s : ByteArray) (n : Int) (q : Cnt) : (t.findQ s n q).t = q.t ∧ (t.findQ s n q).c = q.c ∧ (t.findQ s n q).s = q.s := visQ_keep _ q
theorem addQ_keep (t : Tab) (q : Cnt) : (t.addQ q).c = q.c ∧ (t.addQ q).s = q.s := by
  unfold Tab.addQ Cnt.add
  split <;> simp
theorem add2_keep (q : Cnt) (n : Int) : (q.add 2 n).t = q.t ∧ (q.add 2 n).s = q.s ∧ (q.add 2 n).c = bump q.c n := by
  unfold Cnt.add
  simp

theorem bump_one (x : Int) : bump x 1 = wrap64 (x + 1) := rfl
theorem wrap_wrap (x : Int) : wrap64 (wrap64 x) = wrap64 x := by unfold wrap64; omega
theorem wrap_next (c : Int) (k : Nat) : wrap64 (wrap64 (c + (k : Int)) + 1) = wrap64 (c + ((k + 1 : Nat) : Int)) := by unfold wrap64; omega
theorem addr_add0 (a : Addr) : a.add 0 = a := by unfold Addr.add; rfl
@[go_sem high] theorem slice_str (a : Option Addr) (len cap : Nat) (h : Int) (h0 : 0 ≤ h) (h2 : h ≤ (cap : Int)) (w : World) :
    (Instr.slice 55 (.slice a len cap) none (some (.int .i64 h)) none).run Try.prog w = .ok (.slice a h.toNat cap) w := by
  obtain ⟨i0, hi0, hz0, hz1, hz2⟩ := info_parts infoStr
  have he : Try.prog.elem 55 = 9 := by kernel_rfl
  rw [run_slice_h w _ _ _ _ (by kernel_rfl) .i64 h h0 h2, he]
  simp [sizeOf, typeInfo, hi0, hz1, sliced, Result.andThen, addr_add0]
/-- The first so many of a row of texts. -/
theorem str_take {W : World} {base : Nat} {a : Option Addr} {c n : Nat} {l : List ByteArray} (h : W.ownsRow base 9 1 (.slice a n c) l.length (l.map .string)) (M : Nat) (hM : M ≤ l.length) :
    M ≤ c ∧ W.ownsRow base 9 1 (.slice a M c) (l.take M).length ((l.take M).map .string) := by
  have hlen : (l.take M).length = M := by rw [List.length_take]; omega
  rcases h.2 with ⟨e1, h0⟩ | ⟨g, cap, cur, e1, hb, hg, h1, h2, h3, h4⟩
  · obtain rfl : M = 0 := by omega
    simp at e1
    obtain ⟨rfl, rfl, rfl⟩ := e1
    exact ⟨Nat.zero_le _, by simp, .inl ⟨rfl, by simp⟩⟩
  · simp at e1
    obtain ⟨rfl, rfl, rfl⟩ := e1
    refine ⟨by omega, by simp, .inr ⟨g, c, cur, by rw [hlen], hb, hg, by omega, h2, h3, ?_⟩⟩
    rw [hlen, List.map_take, ← h4, List.take_take]
    congr 1
    omega

variable {w0 w w' : World} {fb tb : Nat} {v : Value} {cb cg nb : Nat} {nv : Value} {m : Option Addr} {q : Cnt} {most pairs : Int} {t : Tab}
variable {sb rb : Nat} {rv : Value} {vals : List Int} {ver : Int} {l : List ByteArray}

/-- The next of the names in the common order, be it new or not. -/
theorem St.setNext {M : Nat} (h : St w0 w fb tb v cb cg nb nv m q most pairs (l.take M) t) (hp : Sp w0 w fb sb rb rv vals ver) (hnd : l.Nodup) (hsz : ∀ s ∈ l, s.size ≤ 200) (hM : M ≤ l.length) (hkM : vals.length ≤ M) (hk : vals.length < l.length) (hmost : most = (l.length : Int)) (hl : l.length ≤ 60) (hpairs : pairs = 1000) (z : Int) :
    Calls Try.prog 38 #[.pointer (some ⟨sb, 0, none⟩), .string l[vals.length], .int .i64 z] w fun e w' => e = .returned (.int .i64 0) ∧ ∃ v' cb' cg' nv' rv' ver' t' q' M', St w0 w' fb tb v' cb' cg' nb nv' m q' most pairs (l.take M') t' ∧ Sp w0 w' fb sb rb rv' (vals ++ [z]) ver' ∧
      M' = (if M < vals.length + 1 then vals.length + 1 else M) ∧ q'.s = q.s ∧ wrap64 q'.c = q'.c ∧ (vals.length < M → q'.t = q.t ∧ q'.c = wrap64 (q.c + 1)) := by
  have hs := hsz _ (List.getElem_mem hk)
  have hlen : (l.take M).length = M := by rw [List.length_take]; omega
  rcases Nat.lt_or_ge vals.length M with hlt | hge
  · have hget : (l.take M)[vals.length]? = some l[vals.length] := by rw [List.getElem?_take, if_pos hlt, List.getElem?_eq_getElem hk]
    refine (h.setOld hp hs hget (by omega) (by omega) z).mono ?_
    rintro e w1 ⟨rfl, rv', ver', h1, p1, _⟩
    obtain ⟨k1, k2, k3⟩ := findQ_keep t l[vals.length] (numOf (l.take M) l[vals.length]) q
    obtain ⟨a1, a2, a3⟩ := add2_keep (t.findQ l[vals.length] (numOf (l.take M) l[vals.length]) q) 1
    exact ⟨rfl, _, _, _, _, _, _, _, _, M, h1, p1, by rw [if_neg (by omega)], by rw [a2, k3], by rw [a3, bump_one, wrap_wrap], fun _ => ⟨by rw [a1, k1], by rw [a3, k2, bump_one]⟩⟩
  · have hMe : M = vals.length := by omega
    have hno : l[vals.length] ∉ l.take M := fun hm => by
      obtain ⟨i, hi, he⟩ := List.mem_iff_getElem.1 hm
      rw [hlen] at hi
      rw [List.getElem_take] at he
      have := nodup_at hnd (i := i) (j := vals.length) (s := l[vals.length]) (by rw [List.getElem?_eq_getElem (by omega), he]) (List.getElem?_eq_getElem hk)
      omega
    refine (h.setNew hp hs hno (by omega) (by omega) (by omega) (by omega) z).mono ?_
    rintro e w1 ⟨rfl, v', cb', cg', nv', rv', ver', t', q', h1, p1, _, hq⟩
    have htk : l.take M ++ [l[vals.length]] = l.take (vals.length + 1) := by
      rw [hMe, List.take_add_one, List.getElem?_eq_getElem hk]; rfl
    rw [htk] at h1
    obtain ⟨k1, k2, k3⟩ := findQ_keep t l[vals.length] (numOf (l.take M) l[vals.length]) q
    obtain ⟨b1, b2⟩ := addQ_keep t (t.findQ l[vals.length] (numOf (l.take M) l[vals.length]) q)
    obtain ⟨a1, a2, a3⟩ := add2_keep (t.addQ (t.findQ l[vals.length] (numOf (l.take M) l[vals.length]) q)) 1
    exact ⟨rfl, _, _, _, _, _, _, _, _, vals.length + 1, h1, p1, by rw [if_pos (by omega)], by rw [hq, a2, b2, k3], by rw [hq, a3, bump_one, wrap_wrap], fun hc => absurd hc (by omega)⟩
end Go.Proofs.Ytnaeehnnjhklbaa
