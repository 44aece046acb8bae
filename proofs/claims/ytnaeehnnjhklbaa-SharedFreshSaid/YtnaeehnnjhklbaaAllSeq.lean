/- The walk of a table's All, and the contract of the function that it hands back. -/
import Derived.Test.YtnaeehnnjhklbaaLived
import Derived.Test.YtnaeehnnjhklbaaSeq
import Derived.RangeFuncKeeps
set_option linter.unusedVariables false
set_option maxRecDepth 100000
namespace Go.Proofs.Ytnaeehnnjhklbaa
open Go.RowKit Go.Shelf
attribute [local go_sem] Oper.semAt_some
variable {w w' : World} {b : Nat} {v : Value} {cb cg : Nat} {m : Option Addr} {t : Tab} {q : Cnt}

/-- These blocks, where they are cells, stay what they are. -/
def KeepsB (l : List Nat) (W W' : World) : Prop := ∀ x ∈ l, ∀ c T, W.heap[x]? = some (.cells c T (0, 0)) → W'.heap[x]? = some (.cells c T (0, 0))
theorem KeepsB.trans {l : List Nat} {A B C : World} (h : KeepsB l A B) (k : KeepsB l B C) : KeepsB l A C := fun x hx c T e => k x hx c T (h x hx c T e)
theorem KeepsB.upd {l fp : List Nat} {W W' : World} (hu : Upd fp W W') (hn : ∀ x ∈ l, x ∉ fp) : KeepsB l W W' := fun x hx c T e => (hu.block x (Array.getElem?_eq_some_iff.1 e).1 (hn x hx)).trans e
theorem KeepsB.own {l : List Nat} {W W' : World} {base : Nat} {e : TypeId} {size n : Nat} {v : Value} {xs : List Value} (h : KeepsB l W W') (hr : W.ownsRow base e size v n xs) (hl : ∀ k, v.ownBlock = some k → k ∈ l) : W'.ownsRow base e size v n xs := by
  refine ⟨hr.1, ?_⟩
  rcases hr.2 with h0 | ⟨g, cap, cur, hv, hb, hg, rest⟩
  · exact .inl h0
  · exact .inr ⟨g, cap, cur, hv, hb, h g (hl g (by rw [hv]; rfl)) _ _ hg, rest⟩

theorem own_shape {W : World} {base : Nat} {e : TypeId} {size n : Nat} {v : Value} {xs : List Value} (h : W.ownsRow base e size v n xs) : ∃ a c, v = .slice a n c := by
  rcases h.2 with ⟨e1, e2⟩ | ⟨g, cap, cur, e, _⟩
  · exact ⟨none, 0, by rw [e1, e2]⟩
  · exact ⟨_, _, e⟩
theorem own_some {W : World} {base : Nat} {e : TypeId} {size n : Nat} {v : Value} {xs : List Value} (h : W.ownsRow base e size v n xs) (h0 : 0 < n) : ∃ g cap, v = .slice (some ⟨g, 0, none⟩) n cap ∧ n ≤ cap := by
  rcases h.2 with ⟨e1, e2⟩ | ⟨g, cap, cur, e, _, _, hc, _⟩
  · omega
  · exact ⟨g, cap, e, hc⟩
theorem numsL_get (l : List (Nat × Ent)) : ∀ (i j : Nat) (x : Nat × Ent), l[i]? = some x → j < 6 → (numsL l)[i * 6 + j]? = (numVals x)[j]? := by
  induction l with
  | nil => intro i j x h; simp at h
  | cons y l ih =>
    intro i j x h hj
    have e : numsL (y :: l) = numVals y ++ numsL l := by simp [numsL]
    have hl : (numVals y).length = 6 := rfl
    rw [e]
    cases i with
    | zero =>
      simp at h
      subst h
      rw [Nat.zero_mul, Nat.zero_add, List.getElem?_append_left (by omega)]
    | succ i =>
      rw [List.getElem?_append_right (by omega), hl, show (i + 1) * 6 + j - 6 = i * 6 + j by omega]
      exact ih i j x (by simpa using h) hj

/-- What All hands back, and what it stands on. -/
abbrev allTV (B : Nat) : Value := .func (.func 107) #[] #[.pointer (some ⟨B, 0, none⟩)]
structure AllT (w : World) (base B : Nat) (o : Value) (l : List (Nat × Ent)) : Prop where
  b : Blk w B 173 [o]
  r : w.ownsRow base 177 6 o l.length (numsL l)
theorem tableAll_any (h : TabB w b v cb cg m t) : Calls Try.prog 82 #[.pointer (some ⟨b, 0, none⟩)] w fun e w' => ∃ B o, e = .returned (allTV B) ∧ AllT w' w.heap.size B o (livedL t.es t.es.length) ∧ w.heap.size ≤ B ∧ Upd [] w w' := by
  have LV := Lib.hid (lived_any h)
  clear h
  go_enter Try.func82, Try.ntmps82
  go_wp2_with fail
  refine LV.out.mono ?_
  rintro e w1 ⟨o, rfl, hl⟩
  obtain ⟨a, c, rfl⟩ := own_shape hl.1
  have HL := Lib.hid hl
  clear hl LV
  go_wp2_with fail
  go_ret
  exact ⟨w1.heap.size, _, rfl, ⟨Blk.new w1 173 [_], HL.out.1.alloc _⟩, HL.out.2.size, HL.out.2.alloc _⟩

set_option maxHeartbeats 2000000 in
theorem all_seq (l : List (Nat × Ent)) (hlen : l.length ≤ 1048576) (n : Nat) (hn : 1 ≤ n) (B : Nat) (a : Option Addr) (c : Nat) (w : World) (base : Nat) (h : AllT w base B (.slice a l.length c) l) :
    SeqStopsK Fence.wide n Try.prog 107 #[.pointer (some ⟨B, 0, none⟩)] (fun x : { x : Nat × Ent // x ∈ l } => #[.int .i64 x.1.1, entV x.1.2]) (KeepsB (B :: (Value.slice a l.length c).ownBlock.toList)) (fun xs => xs = l.attach) (fun pre => pre <+: l.attach) l.length w := fun lp J Jx W hW hJa _ hY h0 => by
  have hB : Blk W B 173 [.slice a l.length c] := (hW.block B h.b.lt).trans h.b
  have hc := hB.cell (i := 0) rfl
  have hrow : W.ownsRow base 177 6 (.slice a l.length c) l.length (numsL l) := by
    refine ⟨h.r.1, ?_⟩
    rcases h.r.2 with h0 | ⟨g, cap, cur, hv, hb, hg, rest⟩
    · exact .inl h0
    · exact .inr ⟨g, cap, cur, hv, hb, (hW.block g (Array.getElem?_eq_some_iff.1 hg).1).trans hg, rest⟩
  have hYY := Lib.hid hY
  have HJA := Lib.hid hJa
  have HR := Lib.hid hrow
  obtain ⟨N, hN⟩ : ∃ N, N = l.length := ⟨_, rfl⟩
  have HN := Lib.hid hN
  rw [← hN] at hc hlen
  clear hY hW hJa hB hrow h hN
  refine callsIn_of_wp Try.func107 rfl trivial ?_ rfl
  simp only [Try.ntmps107, List.size_toArray, List.length_cons, List.length_nil, Nat.reduceAdd, Nat.reduceSub, Array.replicate_succ, Array.replicate_zero, List.push_toArray, List.append_toArray, List.nil_append, List.cons_append]
  gi_wp2
  gi_loopw [7] (fun i wr => ∃ k : Nat, k ≤ N ∧ i = .int .i64 k ∧ J (l.attach.take k) wr ∧ Hid (wr.ownsRow base 177 6 (.slice a l.length c) l.length (numsL l))) (fun i _ => N - (intOf i).toNat)
  case atStart => exact ⟨0, Nat.zero_le _, rfl, h0, HR⟩
  case round =>
    obtain ⟨k, hk, rfl, hJ, HRr⟩ := hrel
    clear HR
    by_cases hlt : k < N
    · have hl : (k : Int) < (N : Int) := by omega
      have hkl : k < l.length := by rw [← HN.out]; exact hlt
      obtain ⟨g, cap, hv, hcap⟩ := own_some HRr.out (by omega)
      have hva : a = some ⟨g, 0, none⟩ := by injection hv
      subst hva
      have hget : l[k]? = some l[k] := List.getElem?_eq_getElem hkl
      have hcell : ∀ j u, (numVals l[k])[j]? = some u → j < 6 → wr.cell? ⟨g, k * 6 + j, none⟩ = some u := fun j u hu hj => by
        have := HRr.out.cells (g := g) rfl (k * 6 + j) u (by rw [numsL_get l k j _ hget hj]; exact hu)
        rwa [plain_addr, Nat.zero_add] at this
      obtain ⟨sx, hsx⟩ : ∃ sx : { x : Nat × Ent // x ∈ l }, sx = ⟨l[k], List.getElem_mem hkl⟩ := ⟨_, rfl⟩
      have HTK : Hid (l.attach.take (k + 1) = l.attach.take k ++ [sx]) := Lib.hid (by
        rw [List.take_add_one, hsx]
        congr 1
        simp [hkl])
      have hs1 : l[k] = sx.1 := by rw [hsx]
      rw [hs1] at hcell
      have e0 := hcell 0 _ rfl (by omega)
      have e1 := hcell 1 _ rfl (by omega)
      have e2 := hcell 2 _ rfl (by omega)
      have e3 := hcell 3 _ rfl (by omega)
      have e4 := hcell 4 _ rfl (by omega)
      have e5 := hcell 5 _ rfl (by omega)
      rw [Nat.add_zero] at e0
      obtain ⟨o, ho⟩ : ∃ o : Obj, o = .cells #[.int .i64 sx.1.1, .bool sx.1.2.live, .int .i64 sx.1.2.hash, .int .i64 sx.1.2.key, .int .i64 sx.1.2.value, .int .i64 sx.1.2.birth] 177 := ⟨_, rfl⟩
      have hJ' : J (l.attach.take k) (wr.alloc o) := HJA.out _ _ _ none hJ (World.grownBy_alloc _ _ none) (fun r e => by cases e)
      have HR' := Lib.hid (HRr.out.alloc o)
      obtain ⟨fn, tmps, assign, body, hy, hR⟩ := hYY.out (l.attach.take k) sx (wr.alloc o) hJ' (by rw [List.length_take, List.length_attach]; have := HN.out; omega)
      try dsimp only at hy
      unfold entV at hy
      rw [ho] at hy hR
      have hRR := Lib.hid hR
      rw [ho] at HR'
      clear hcell hs1 hget hv hJ hJ' hR HRr hsx
      gi_wp2
      refine hRR.out.mono ?_
      rintro e W3 (⟨rfl, hJ3, hk3⟩ | ⟨rfl, hJx3⟩)
      · have HJ3 : Hid (J (l.attach.take (k + 1)) W3) := Lib.hid (by rw [HTK.out]; exact hJ3)
        have HR3 := Lib.hid (hk3.own HR'.out (fun j hj => by simp [hj]))
        clear hJ3 hk3
        gi_wp2
        go_roundw
        case rel => exact ⟨k + 1, by omega, by go_num, HJ3.out, HR3⟩
        case measure => simp [intOf]; omega
      · gi_wp2
        refine bodyPost_ret (results_none rfl _ _ _) rfl ?_
        exact ⟨⟨_, rfl⟩, .inr ⟨_, by rw [← HTK.out]; exact List.take_prefix _ _, hJx3⟩⟩
    · obtain rfl : k = N := by omega
      gi_wp2
      refine bodyPost_end (results_none rfl _ _ _) rfl ?_
      exact ⟨⟨_, rfl⟩, .inl ⟨_, rfl, by rw [List.take_of_length_le (by rw [List.length_attach, HN.out]; exact Nat.le_refl _)] at hJ; exact hJ⟩⟩
end Go.Proofs.Ytnaeehnnjhklbaa
