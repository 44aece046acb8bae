/- The walk of CellsOwn. -/
import Derived.Test.YtnaeehnnjhklbaaCellsPlay
set_option linter.unusedVariables false
namespace Go.Proofs.Ytnaeehnnjhklbaa
open Go.RowKit

theorem Nums.lt {w : World} {a : Option Addr} {n : Nat} {f : Nat → Int} (h : Nums w a n f) (hn : 0 < n) : ∀ b off, a = some ⟨b, off, none⟩ → b < w.heap.size := by
  intro b off e
  rcases h with h | ⟨b', off', e', hb, _⟩
  · omega
  · rw [e] at e'; simp at e'; omega
theorem BNums.lt {w : World} {a : Option Addr} {n : Nat} {f : Nat → Int} (h : BNums w a n f) (hn : 0 < n) : ∀ b off, a = some ⟨b, off, none⟩ → b < w.heap.size := by
  intro b off e
  rcases h with h | ⟨b', off', e', hb, _⟩
  · omega
  · rw [e] at e'; simp at e'; omega

/-- A block of bytes of ours that may be written. -/
def OpenB (w : World) (g n : Nat) : Prop := ∃ cur, w.heap[g]? = some (.cells cur 5 (0, 0)) ∧ n ≤ cur.size
theorem OpenB.cell {w : World} {g n : Nat} (h : OpenB w g n) {i : Nat} (hi : i < n) : ∃ v, w.cell? ⟨g, i, none⟩ = some v := by
  obtain ⟨cur, hc, hn⟩ := h
  exact ⟨cur[i], by simp [World.cell?, hc, Array.getElem?_eq_getElem (show i < cur.size by omega)]⟩
theorem OpenB.free {w : World} {g n : Nat} (h : OpenB w g n) (i : Nat) : w.frozen? ⟨g, i, none⟩ = false := by
  obtain ⟨cur, hc, hn⟩ := h
  simp [World.frozen?, hc]
theorem OpenB.set {w : World} {g n : Nat} (h : OpenB w g n) (i : Nat) (v : Value) : OpenB (w.setCell ⟨g, i, none⟩ v) g n := by
  obtain ⟨cur, hc, hn⟩ := h
  refine ⟨cur.setIfInBounds i v, ?_, by simpa using hn⟩
  simp [World.setCell, Array.getElem?_modify, hc]
theorem OpenB.lt {w : World} {g n : Nat} (h : OpenB w g n) : g < w.heap.size := by
  obtain ⟨cur, hc, hn⟩ := h
  exact (Array.getElem?_eq_some_iff.1 hc).1
theorem openB_of {w : World} {base n : Nat} {v : Value} {xs : List Value} (h : w.ownsRow base 5 1 v n xs) (hn : 0 < n) : ∃ g cap, v = .slice (some ⟨g, 0, none⟩) n cap ∧ base ≤ g ∧ OpenB w g n := by
  rcases h.2 with ⟨_, h0⟩ | ⟨g, cap, cur, hv, hb, hg, hnc, _, hs, ht⟩
  · omega
  · exact ⟨g, cap, hv, hb, cur, hg, by omega⟩

/-- What the law holds together: two tables, what All told, and the list that it is held against. -/
structure Keep (W : World) (b g b2 g2 B G n : Nat) (f : Nat → Int) (a : Option Addr) : Prop where
  c : CellsAt W b g n f
  d : CellsAt W b2 g2 n (fun _ => -1)
  t : AllAt W B G (2 ^ n) (fun _ => -1)
  l : Nums W a (2 ^ n) (fun _ => -1)
  nb : b2 ≠ g
  ng : g2 ≠ g
  nB : B ≠ g
  nG : G ≠ g
  na : ∀ x off, a = some ⟨x, off, none⟩ → x ≠ g

variable {W W' : World} {b g b2 g2 B G n : Nat} {f f' : Nat → Int} {a : Option Addr}
theorem Keep.far (h : Keep W b g b2 g2 B G n f a) {fp : List Nat} (hu : Upd fp W W') (hf : ∀ x ∈ fp, W.heap.size ≤ x) : Keep W' b g b2 g2 B G n f a := by
  have k : ∀ x, x < W.heap.size → x ∉ fp := fun x hx hm => by have := hf x hm; omega
  exact ⟨h.c.upd hu (k _ h.c.c.lt) (k _ (World.rowIs.lt h.c.r)), h.d.upd hu (k _ h.d.c.lt) (k _ (World.rowIs.lt h.d.r)), h.t.upd hu (k _ h.t.b.lt) (k _ (World.rowIs.lt h.t.r)),
    h.l.upd hu (fun x off e => k _ (h.l.lt (Nat.two_pow_pos n) x off e)), h.nb, h.ng, h.nB, h.nG, h.na⟩
theorem Keep.turn (h : Keep W b g b2 g2 B G n f a) (hc : CellsAt W' b g n f') (hu : Upd [g] W W') : Keep W' b g b2 g2 B G n f' a :=
  ⟨hc, h.d.upd hu (by simpa using h.nb) (by simpa using h.ng), h.t.upd hu (by simpa using h.nB) (by simpa using h.nG), h.l.upd hu (fun x off e => by simpa using h.na x off e), h.nb, h.ng, h.nB, h.nG, h.na⟩

def minus (k : Nat) : List Value := List.replicate k (.int .i64 (-1))
theorem nums_minus {w : World} {base k : Nat} {a : Option Addr} {cap : Nat} (h : w.ownsRow base 3 1 (.slice a k cap) k (minus k)) : Nums w a k (fun _ => -1) := by
  rcases h.2 with ⟨_, h0⟩ | ⟨g, cap', cur, hv, hb, hg, hnc, _, hs, ht⟩
  · exact .inl h0
  · simp at hv
    obtain ⟨rfl, rfl⟩ := hv
    refine .inr ⟨g, 0, rfl, (Array.getElem?_eq_some_iff.1 hg).1, fun i hi => ?_⟩
    have h1 : (minus k)[i]? = some (.int .i64 (-1)) := by simp [minus, hi]
    rw [← ht, List.getElem?_take, if_pos (by omega)] at h1
    simp [World.cell?, hg]
    simpa using h1
end Go.Proofs.Ytnaeehnnjhklbaa
