/- Arguments that are slices of structs, or of strings, opened to their cells. -/
import Derived.Test.YtnaeehnnjhklbaaBase
import Derived.Deep.Fields
import Derived.ProofKit
import Derived.ChangeOld
namespace Go.Proofs.Ytnaeehnnjhklbaa
open Go.RowKit Go.ChangeShapes Go.WideShapes Go.Deep

section
variable {H : Type} {enc : TypeId × Value → H} {P : Program} {w : World} {base : Nat} {spare : Nat → Bool} {held : Bool}

/-- A slice of structs of one-cell fields: each field's cell, and its own reading. -/
theorem open_rows {t e : TypeId} {fs : Array Field} {fuel : Nat} {a : Option Addr} {len cap : Nat} {x : DataW H × List MemPlace} (ht : P.underlying t = some (.slice e)) (he : P.underlying e = some (.struct fs))
    (hone : oneCellFields P fs = true) (hC : P.cellsOf e = fs.size) (hpos : 0 < fs.size) (h : DataW.trod enc P w base spare held fuel t [.slice a len cap] = some x) :
    len ≤ maxLen ∧ len ≤ cap ∧ (len = 0 ∨ ∃ b off, a = some ⟨b, off, none⟩ ∧ b < w.heap.size ∧
      ∀ i, i < len → ∀ (j : Nat) (f : Field), fs[j]? = some f → ∃ (v : Value) (y : DataW H × List MemPlace) (n : Nat), w.cell? ⟨b, off + i * fs.size + j, none⟩ = some v ∧ DataW.trod enc P w base spare held n f.type [v] = some y) := by
  rcases open_slice ht h with ⟨h0, _⟩ | ⟨a', len', cap', m, n, D, Pl, hcs, hb, hl, hm, hmm, hx, hi⟩
  · simp at h0
    obtain ⟨rfl, rfl, rfl⟩ := h0
    exact ⟨Nat.zero_le _, Nat.le_refl _, .inl rfl⟩
  · simp at hcs
    obtain ⟨rfl, rfl, rfl⟩ := hcs
    refine ⟨Nat.le_trans hl hm, hl, ?_⟩
    by_cases hz : len = 0
    · exact .inl hz
    have key : ∀ i, i < len → ∀ (j : Nat) (f : Field), fs[j]? = some f → ∃ (v : Value) (y : DataW H × List MemPlace) (n : Nat), w.cell? (a'.add (i * fs.size + j)) = some v ∧ DataW.trod enc P w base spare held n f.type [v] = some y := by
      intro i hil j f hj
      have him : i < m := by rw [hmm]; split <;> omega
      obtain ⟨cs, hc, hr⟩ := hi i him
      rw [hC] at hc
      obtain ⟨_, hcl, hat⟩ := World.cells?_some hc
      obtain ⟨ys, n', _, _, hlen', hyl, hf⟩ := DataW.trod_struct he hr
      have hj' : j < fs.size := (Array.getElem?_eq_some_iff.1 hj).1
      obtain ⟨ho, hk⟩ := hone_of hone j f hj
      have hfj := hf j f hj
      rw [ho, hk, take1_drop cs j undef (by omega)] at hfj
      have hyj : ys[j]? = some (ys[j]'(by omega)) := List.getElem?_eq_getElem (by omega)
      refine ⟨cs.getD j undef, _, n', ?_, hfj.trans hyj⟩
      rw [← Go.Deep.add_add, hat j hj']
      simp [List.getD, List.getElem?_eq_getElem (show j < cs.length by omega)]
    obtain ⟨b, off, sp⟩ := a'
    have f0 : fs[0]? = some (fs[0]'hpos) := Array.getElem?_eq_getElem hpos
    obtain ⟨v, _, _, hc0, _⟩ := key 0 (by omega) 0 _ f0
    have hsp : sp = none := by simpa [Addr.add] using World.cell?_spot hc0
    refine .inr ⟨b, off, by rw [hsp], ?_, fun i hil j f hj => ?_⟩
    · simpa [Addr.add] using World.block_lt_of_cell? _ _ hc0
    · obtain ⟨v, y, n, h1, h2⟩ := key i hil j f hj
      rw [hsp, plain_addr, ← Nat.add_assoc] at h1
      exact ⟨v, y, n, h1, h2⟩
end

def IsSteps (w : World) (a : Option Addr) (len : Nat) (l : List (Int × Int)) : Prop :=
  l.length = len ∧ len ≤ maxLen ∧ (l = [] ∨ ∃ b off, a = some ⟨b, off, none⟩ ∧ b < w.heap.size ∧
    ∀ i (h : i < l.length), w.cell? ⟨b, off + i * 2, none⟩ = some (.int .i64 l[i].1) ∧ w.cell? ⟨b, off + i * 2 + 1, none⟩ = some (.int .i64 l[i].2)) ∧
  ∀ p ∈ l, (Lit.int .i64 p.1).wf = true ∧ (Lit.int .i64 p.2).wf = true

theorem open_steps {H : Type} {enc : TypeId × Value → H} {P : Program} {w : World} {base : Nat} {spare : Nat → Bool} {held : Bool} {t e : TypeId} {f0 f1 : Field} {fuel : Nat} {a : Option Addr} {len cap : Nat} {x : DataW H × List MemPlace} (ht : P.underlying t = some (.slice e)) (he : P.underlying e = some (.struct #[f0, f1]))
    (hone : oneCellFields P #[f0, f1] = true) (hC : P.cellsOf e = 2) (h0 : P.underlying f0.type = some (.int .i64)) (h1 : P.underlying f1.type = some (.int .i64)) (h : DataW.trod enc P w base spare held fuel t [.slice a len cap] = some x) :
    ∃ l, IsSteps w a len l := by
  obtain ⟨hm, hlc, hr⟩ := open_rows ht he hone hC (by simp) h
  rcases hr with rfl | ⟨b, off, rfl, hb, hcell⟩
  · exact ⟨[], rfl, hm, .inl rfl, by simp⟩
  have key : ∀ i, i < len → ∃ p : Int × Int, (w.cell? ⟨b, off + i * 2, none⟩ = some (.int .i64 p.1) ∧ w.cell? ⟨b, off + i * 2 + 1, none⟩ = some (.int .i64 p.2)) ∧ (Lit.int .i64 p.1).wf = true ∧ (Lit.int .i64 p.2).wf = true := by
    intro i hi
    obtain ⟨v0, y0, n0, hc0, hy0⟩ := hcell i hi 0 f0 rfl
    obtain ⟨v1, y1, n1, hc1, hy1⟩ := hcell i hi 1 f1 rfl
    obtain ⟨p0, e0, _, w0⟩ := DataW.trod_int h0 hy0
    obtain ⟨p1, e1, _, w1⟩ := DataW.trod_int h1 hy1
    simp at e0 e1
    subst e0; subst e1
    exact ⟨(p0, p1), ⟨by simpa using hc0, by simpa using hc1⟩, w0, w1⟩
  obtain ⟨F, hF⟩ := choose_lt (α := Int × Int) key
  refine ⟨(List.range len).map F, by simp, hm, .inr ⟨b, off, rfl, hb, fun i hi => ?_⟩, fun p hp => ?_⟩
  · simp at hi
    simpa using (hF i hi).1
  · obtain ⟨i, hi, rfl⟩ := List.mem_map.1 hp
    exact (hF i (by simpa using hi)).2
end Go.Proofs.Ytnaeehnnjhklbaa
