/- Ranges over functions: what a loop's own book-keeping leaves alone, and the contract of the function that trail.All hands back. -/
import Derived.RangeFuncNested
import Derived.RangeFuncBound
import Derived.RangeFuncCalls
import Derived.RangeFuncLeaves
import Derived.RangeFuncWrites
import Derived.Shelf.Abstract
import Derived.Shelf.RegionOpen
import Derived.WalkKit
import Derived.OwnWalkIn
import Derived.TacticsInMore
import Derived.LoopNIn
import Derived.LoopIn
import Derived.Test.YtnaeehnnjhklbaaCellsOps
import Derived.Test.YtnaeehnnjhklbaaTrailFns
set_option linter.unusedVariables false
namespace Go.Proofs.Ytnaeehnnjhklbaa
open Go.RowKit Go.Shelf
attribute [local go_sem] Oper.semAt_some

/-- W' is W but for a turn of a block that is no cells. -/
def Turned (W W' : World) : Prop := ∃ row, W.grownBy W' row ∧ ∀ r, row = some r → ∃ o : Obj, W.heap[r]? = some o ∧ o.isCells = false
theorem Turned.block {W W' : World} (h : Turned W W') {k : Nat} {c : Array Value} {T : TypeId} {fr : Nat × Nat} (hk : W.heap[k]? = some (.cells c T fr)) : W'.heap[k]? = some (.cells c T fr) := by
  obtain ⟨row, hg, hr⟩ := h
  refine (hg.block k (Array.getElem?_eq_some_iff.1 hk).1 (fun e => ?_)).trans hk
  obtain ⟨o, ho, hc⟩ := hr k e.symm
  rw [hk] at ho
  cases ho
  simp [Obj.isCells] at hc
theorem Blk.turned {W W' : World} {b : Nat} {T : TypeId} {c : List Value} (h : Blk W b T c) (ht : Turned W W') : Blk W' b T c := ht.block h
theorem rowIs_turned {W W' : World} {b T n : Nat} {f : Nat → Value} (h : W.rowIs b T n f) (ht : Turned W W') : W'.rowIs b T n f := by
  obtain ⟨c, hb, hr⟩ := h
  exact ⟨c, ht.block hb, hr⟩
theorem ownsRow_turned {W W' : World} {base : Nat} {e : TypeId} {size n : Nat} {v : Value} {xs : List Value} (h : W.ownsRow base e size v n xs) (ht : Turned W W') : W'.ownsRow base e size v n xs := by
  refine ⟨h.1, ?_⟩
  rcases h.2 with h0 | ⟨g, cap, cur, hv, hb, hg, rest⟩
  · exact .inl h0
  · exact .inr ⟨g, cap, cur, hv, hb, ht.block hg, rest⟩
theorem CellsAt.turned {W W' : World} {b g L : Nat} {f : Nat → Int} (h : CellsAt W b g L f) (ht : Turned W W') : CellsAt W' b g L f :=
  ⟨h.lo, h.hi, h.c.turned ht, rowIs_turned h.r ht, h.v⟩
theorem Upd.turned {fp : List Nat} {w W W' : World} {row : Option Nat} (h : Upd fp w W) (hg : W.grownBy W' row) (hr : ∀ r, row = some r → w.heap.size ≤ r) : Upd fp w W' :=
  h.grown hg (fun k e => .inr (hr k e))
theorem Turned.of {W W' : World} {row : Option Nat} {B : Nat} (hg : W.grownBy W' row) (hr : ∀ r, row = some r → B ≤ r ∧ ∃ o : Obj, W.heap[r]? = some o ∧ o.isCells = false) : Turned W W' := ⟨row, hg, fun r e => (hr r e).2⟩
theorem Turned.putObj {W : World} {l : Nat} {o o' : Obj} (hl : W.heap[l]? = some o) (ho : o.isCells = false) : Turned W (W.putObj l o') :=
  ⟨some l, grownBy_putObj' W l o', fun r e => by cases e; exact ⟨o, hl, ho⟩⟩
theorem Upd.putObj {fp : List Nat} {w W : World} (h : Upd fp w W) {l : Nat} (hl : w.heap.size ≤ l) (o' : Obj) : Upd fp w (W.putObj l o') :=
  h.turned (grownBy_putObj' W l o') (fun r e => by cases e; exact hl)

/-- What turns cells alone keeps whatever is none. -/
theorem keepsFrom_upd {fp : List Nat} {W W' : World} (B : Nat) (h : Upd fp W W') (hf : ∀ x ∈ fp, ∃ c T, W.heap[x]? = some (.cells c T (0, 0))) : KeepsFrom B W W' :=
  ⟨h.size, fun k o _ hk ho => by
    refine (h.block k (Array.getElem?_eq_some_iff.1 hk).1 (fun hx => ?_)).trans hk
    obtain ⟨c, T, hc⟩ := hf k hx
    rw [hk] at hc
    cases hc
    simp [Obj.isCells] at ho⟩
theorem Blk.isCells {W : World} {b : Nat} {T : TypeId} {c : List Value} (h : Blk W b T c) : ∃ c T, W.heap[b]? = some (.cells c T (0, 0)) := ⟨_, _, h⟩

/-- The cells of a trail, as what they are: numbers of cells. -/
abbrev Cel (L : Nat) := { c : Nat // c < 2 ^ L }
def trAll (h : Int) (L : Nat) : List (Cel L) := (List.range (2 ^ L + 13)).map fun k => ⟨trC h L k, trC_lt h L k⟩
theorem trAll_length (h : Int) (L : Nat) : (trAll h L).length = 2 ^ L + 13 := by simp [trAll]
theorem trAll_get (h : Int) (L k : Nat) (hk : k < 2 ^ L + 13) : (trAll h L)[k]? = some ⟨trC h L k, trC_lt h L k⟩ := by simp [trAll, hk]
theorem trAll_take (h : Int) (L k : Nat) (hk : k < 2 ^ L + 13) : (trAll h L).take (k + 1) = (trAll h L).take k ++ [⟨trC h L k, trC_lt h L k⟩] := by
  rw [List.take_add_one, trAll_get h L k hk]
  rfl

set_option maxRecDepth 100000 in
set_option maxHeartbeats 1000000 in
theorem trail_seq (h : Int) (L : Nat) (hL : L ≤ 20) (n : Nat) (hn : 1 ≤ n) (B B' : Nat) (w : World) (hB : w.cell? ⟨B, 0, none⟩ = some (.int .i64 L)) (hB' : w.cell? ⟨B', 0, none⟩ = some (.int .i64 h)) (hl : B < w.heap.size) (hl' : B' < w.heap.size) :
    SeqStopsK Fence.wide n Try.prog 87 #[.pointer (some ⟨B, 0, none⟩), .pointer (some ⟨B', 0, none⟩)] (fun c : Cel L => #[.int .i64 (c.1 : Nat)]) (fun _ _ => True) (fun xs => xs = trAll h L) (fun pre => pre <+: trAll h L) (2 ^ L + 13) w := fun l J Jx W hW _ _ hY h0 => by
  have hc := (hW.cell (p := ⟨B, 0, none⟩) hl).trans hB
  have hc' := (hW.cell (p := ⟨B', 0, none⟩) hl').trans hB'
  have hYY := Lib.hid hY
  have h1 : ¬ (L : Int) < 0 := by omega
  have h2 : ¬ (20 : Int) < (L : Int) := by omega
  clear hY hW hB hB' hl hl'
  refine callsIn_of_wp Try.func87 rfl trivial ?_ rfl
  simp only [Try.ntmps87, List.size_toArray, List.length_cons, List.length_nil, Nat.reduceAdd, Nat.reduceSub, Array.replicate_succ, Array.replicate_zero, List.push_toArray, List.append_toArray, List.nil_append, List.cons_append]
  gi_wp2
  rw [rounds_eq hL, wrap_mask hL, wrap_U, and_mask hL (U_lt h)]
  have hpow := pow_le20 hL
  obtain ⟨M, hM⟩ : ∃ M : Nat, M = 2 ^ L - 1 := ⟨_, rfl⟩
  obtain ⟨N, hN⟩ : ∃ N : Nat, N = 2 ^ L + 13 := ⟨_, rfl⟩
  have hN' : N ≤ 1048589 := by omega
  rw [← hM, ← hN]
  have HM := Lib.hid hM
  have HN := Lib.hid hN
  have hlen := trAll_length h L
  have hget := trAll_get h L
  have htk := trAll_take h L
  rw [← hN] at hlen hget htk hYY
  have HG := Lib.hid hget
  have HT := Lib.hid htk
  have HLN := Lib.hid hlen
  clear hM hN hpow hlen hget htk
  gi_loopw [5, 6, 24] (fun p c i wr => ∃ k : Nat, k ≤ N ∧ i = .int .i64 k ∧ c = .int .u64 (trC h L k) ∧ p = .int .u64 (trP h k) ∧ J ((trAll h L).take k) wr) (fun _ _ i _ => N - (intOf i).toNat)
  case atStart => exact ⟨0, Nat.zero_le _, rfl, rfl, by rw [trP_zero], h0⟩
  case round =>
    obtain ⟨k, hk, rfl, rfl, rfl, hJ⟩ := hrel
    have hC := trC_lt20 h hL k
    have hP := trP_lt h k
    by_cases hlt : k < N
    · obtain ⟨fn, tmps, assign, body, hy, hR⟩ := hYY.out ((trAll h L).take k) ⟨trC h L k, trC_lt h L k⟩ wr hJ (by rw [List.length_take, HLN.out]; omega)
      dsimp only at hy
      have hs := trC_succ h L k
      have hps := trP_succ h k
      have hq := nextm_eq (trC h L k) (trP h k) hL hC hP
      rw [← HM.out, ← hs] at hq
      have HQ := Lib.hid hq
      have HP := Lib.hid hps
      have HTK := Lib.hid (HT.out k hlt)
      have hR' := Lib.hid hR
      clear hs hps hq hJ hR
      gi_wp2
      refine hR'.out.mono ?_
      rintro e W3 (⟨rfl, hJ3, _⟩ | ⟨rfl, hJx3⟩)
      · have HJ3 : Hid (J ((trAll h L).take (k + 1)) W3) := Lib.hid (by rw [HTK.out]; exact hJ3)
        clear hJ3
        gi_wp2
        go_roundw
        case rel =>
          (repeat apply Exists.intro)
          exact ⟨⟨k + 1, by omega, by go_num, by rw [HQ.out], by rw [HP.out]; rfl, HJ3.out⟩, rfl⟩
        case measure => simp [intOf]; omega
      · gi_wp2
        refine bodyPost_ret (results_none rfl _ _ _) rfl ?_
        exact ⟨⟨_, rfl⟩, .inr ⟨_, by rw [← HTK.out]; exact List.take_prefix _ _, hJx3⟩⟩
    · obtain rfl : k = N := by omega
      gi_wp2
      refine bodyPost_end (results_none rfl _ _ _) rfl ?_
      exact ⟨⟨_, rfl⟩, .inl ⟨_, rfl, by rw [List.take_of_length_le (by rw [HLN.out]; omega)] at hJ; exact hJ⟩⟩
end Go.Proofs.Ytnaeehnnjhklbaa
