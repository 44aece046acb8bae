/- Arguments that are slices of calls with a name, opened to their cells. -/
import Derived.Test.YtnaeehnnjhklbaaOpen
namespace Go.Proofs.Ytnaeehnnjhklbaa
open Go.RowKit Go.ChangeShapes Go.WideShapes Go.Deep

structure Call where
  k : Int
  s : Int
  n : ByteArray
  v : Int
instance : Inhabited Call := ⟨⟨0, 0, ByteArray.empty, 0⟩⟩
def IsCalls (w : World) (a : Option Addr) (len : Nat) (l : List Call) : Prop :=
  l.length = len ∧ len ≤ maxLen ∧ (l = [] ∨ ∃ b off, a = some ⟨b, off, none⟩ ∧ b < w.heap.size ∧
    ∀ i (h : i < l.length), w.cell? ⟨b, off + i * 4, none⟩ = some (.int .i64 l[i].k) ∧ w.cell? ⟨b, off + i * 4 + 1, none⟩ = some (.int .i64 l[i].s) ∧ w.cell? ⟨b, off + i * 4 + 2, none⟩ = some (.string l[i].n) ∧ w.cell? ⟨b, off + i * 4 + 3, none⟩ = some (.int .i64 l[i].v)) ∧
  ∀ p ∈ l, (Lit.int .i64 p.k).wf = true ∧ (Lit.int .i64 p.s).wf = true ∧ (Lit.int .i64 p.v).wf = true ∧ p.n.size ≤ maxLen

theorem open_calls {H : Type} {enc : TypeId × Value → H} {P : Program} {w : World} {base : Nat} {spare : Nat → Bool} {held : Bool} {t e : TypeId} {f0 f1 f2 f3 : Field} {fuel : Nat} {a : Option Addr} {len cap : Nat} {x : DataW H × List MemPlace} (ht : P.underlying t = some (.slice e)) (he : P.underlying e = some (.struct #[f0, f1, f2, f3]))
    (hone : oneCellFields P #[f0, f1, f2, f3] = true) (hC : P.cellsOf e = 4) (h0 : P.underlying f0.type = some (.int .i64)) (h1 : P.underlying f1.type = some (.int .i64)) (h2 : P.underlying f2.type = some .string) (h3 : P.underlying f3.type = some (.int .i64)) (h : DataW.trod enc P w base spare held fuel t [.slice a len cap] = some x) :
    ∃ l, IsCalls w a len l := by
  obtain ⟨hm, hlc, hr⟩ := open_rows ht he hone hC (by simp) h
  rcases hr with rfl | ⟨b, off, rfl, hb, hcell⟩
  · exact ⟨[], rfl, hm, .inl rfl, by simp⟩
  have key : ∀ i, i < len → ∃ p : Call, (w.cell? ⟨b, off + i * 4, none⟩ = some (.int .i64 p.k) ∧ w.cell? ⟨b, off + i * 4 + 1, none⟩ = some (.int .i64 p.s) ∧ w.cell? ⟨b, off + i * 4 + 2, none⟩ = some (.string p.n) ∧ w.cell? ⟨b, off + i * 4 + 3, none⟩ = some (.int .i64 p.v)) ∧ (Lit.int .i64 p.k).wf = true ∧ (Lit.int .i64 p.s).wf = true ∧ (Lit.int .i64 p.v).wf = true ∧ p.n.size ≤ maxLen := by
    intro i hi
    obtain ⟨v0, y0, n0, hc0, hy0⟩ := hcell i hi 0 f0 rfl
    obtain ⟨v1, y1, n1, hc1, hy1⟩ := hcell i hi 1 f1 rfl
    obtain ⟨v2, y2, n2, hc2, hy2⟩ := hcell i hi 2 f2 rfl
    obtain ⟨v3, y3, n3, hc3, hy3⟩ := hcell i hi 3 f3 rfl
    obtain ⟨p0, e0, _, w0⟩ := DataW.trod_int h0 hy0
    obtain ⟨p1, e1, _, w1⟩ := DataW.trod_int h1 hy1
    obtain ⟨p2, e2, _, w2⟩ := DataW.trod_string h2 hy2
    obtain ⟨p3, e3, _, w3⟩ := DataW.trod_int h3 hy3
    simp at e0 e1 e2 e3
    subst e0; subst e1; subst e2; subst e3
    exact ⟨⟨p0, p1, p2, p3⟩, ⟨by simpa using hc0, by simpa using hc1, by simpa using hc2, by simpa using hc3⟩, w0, w1, w3, w2⟩
  obtain ⟨F, hF⟩ := choose_lt (α := Call) key
  refine ⟨(List.range len).map F, by simp, hm, .inr ⟨b, off, rfl, hb, fun i hi => ?_⟩, fun p hp => ?_⟩
  · simp at hi
    simpa using (hF i hi).1
  · obtain ⟨i, hi, rfl⟩ := List.mem_map.1 hp
    exact (hF i (by simpa using hi)).2
end Go.Proofs.Ytnaeehnnjhklbaa
