/- Arguments that are slices of texts, or of numbers, opened to their cells. -/
import Derived.Test.YtnaeehnnjhklbaaBase
import Derived.ProofKit
import Derived.ChangeOld
import Derived.SliceStrings
import Derived.ChangeSlices
namespace Go.Proofs.Ytnaeehnnjhklbaa
open Go.RowKit Go.ChangeShapes Go.WideShapes

def IsNames (w : World) (a : Option Addr) (len : Nat) (l : List ByteArray) : Prop :=
  l.length = len ∧ len ≤ maxLen ∧ (l = [] ∨ ∃ b off, a = some ⟨b, off, none⟩ ∧ b < w.heap.size ∧ ∀ i (h : i < l.length), w.cell? ⟨b, off + i, none⟩ = some (.string l[i])) ∧ ∀ s ∈ l, s.size ≤ maxLen
def IsNums (w : World) (a : Option Addr) (len : Nat) (l : List Int) : Prop :=
  l.length = len ∧ len ≤ maxLen ∧ (l = [] ∨ ∃ b off, a = some ⟨b, off, none⟩ ∧ b < w.heap.size ∧ ∀ i (h : i < l.length), w.cell? ⟨b, off + i, none⟩ = some (.int .i64 l[i])) ∧ ∀ z ∈ l, (Lit.int .i64 z).wf = true

section
variable {H : Type} {enc : TypeId × Value → H} {P : Program} {w : World} {base : Nat} {spare : Nat → Bool} {held : Bool}
theorem open_names {t e : TypeId} {fuel : Nat} {a : Option Addr} {len cap : Nat} {x : DataW H × List MemPlace} (ht : P.underlying t = some (.slice e)) (he : P.underlying e = some .string) (hc : P.cellsOf e = 1)
    (h : DataW.trod enc P w base spare held fuel t [.slice a len cap] = some x) : ∃ l, IsNames w a len l := by
  rcases open_strings ht he hc h with ⟨h0, _⟩ | ⟨a', len', cap', ss, hcs, _, hl, hm, hlen, _, hcell, hwf⟩
  · simp at h0
    obtain ⟨rfl, rfl, rfl⟩ := h0
    exact ⟨[], rfl, Nat.zero_le _, .inl rfl, by simp⟩
  · simp at hcs
    obtain ⟨rfl, rfl, rfl⟩ := hcs
    have hle : len ≤ ss.length := by rw [hlen]; split <;> omega
    refine ⟨ss.take len, by simp; omega, Nat.le_trans hl hm, ?_, fun s hs => hwf s (List.mem_of_mem_take hs)⟩
    by_cases hz : len = 0
    · left; subst hz; simp
    obtain ⟨b, off, sp⟩ := a'
    have h0 := hcell 0 (by omega)
    have hsp : sp = none := by simpa [Addr.add] using World.cell?_spot h0
    refine .inr ⟨b, off, by rw [hsp], ?_, fun i hi => ?_⟩
    · simpa [Addr.add] using World.block_lt_of_cell? _ _ h0
    · simp at hi
      have := hcell i (by omega)
      rw [hsp, plain_addr] at this
      rw [this]
      simp [List.getD, List.getElem?_eq_getElem (show i < ss.length by omega)]
theorem open_nums {t e : TypeId} {fuel : Nat} {a : Option Addr} {len cap : Nat} {x : DataW H × List MemPlace} (ht : P.underlying t = some (.slice e)) (he : P.underlying e = some (.int .i64)) (hc : P.cellsOf e = 1)
    (h : DataW.trod enc P w base spare held fuel t [.slice a len cap] = some x) : ∃ l, IsNums w a len l := by
  rcases open_ints ht he hc h with ⟨h0, _⟩ | ⟨a', len', cap', ss, hcs, _, hl, hm, hlen, _, hcell, hwf⟩
  · simp at h0
    obtain ⟨rfl, rfl, rfl⟩ := h0
    exact ⟨[], rfl, Nat.zero_le _, .inl rfl, by simp⟩
  · simp at hcs
    obtain ⟨rfl, rfl, rfl⟩ := hcs
    have hle : len ≤ ss.length := by rw [hlen]; split <;> omega
    refine ⟨ss.take len, by simp; omega, Nat.le_trans hl hm, ?_, fun s hs => hwf s (List.mem_of_mem_take hs)⟩
    by_cases hz : len = 0
    · left; subst hz; simp
    obtain ⟨b, off, sp⟩ := a'
    have h0 := hcell 0 (by omega)
    have hsp : sp = none := by simpa [Addr.add] using World.cell?_spot h0
    refine .inr ⟨b, off, by rw [hsp], ?_, fun i hi => ?_⟩
    · simpa [Addr.add] using World.block_lt_of_cell? _ _ h0
    · simp at hi
      have := hcell i (by omega)
      rw [hsp, plain_addr] at this
      rw [this]
      simp [List.getD, List.getElem?_eq_getElem (show i < ss.length by omega)]
end
end Go.Proofs.Ytnaeehnnjhklbaa
