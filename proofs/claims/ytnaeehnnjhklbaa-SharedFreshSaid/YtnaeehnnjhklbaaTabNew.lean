/- The walks of package table: New, index, Seek, on. -/
import Derived.Test.YtnaeehnnjhklbaaTabFns
set_option linter.unusedVariables false
namespace Go.Proofs.Ytnaeehnnjhklbaa
open Go.RowKit

variable {w : World} {b : Nat} {v : Value} {cb cg : Nat} {m : Option Addr} {t : Tab} {q : Cnt}

theorem index_any {live births made turns : Int} {c : Value} {L : Nat} (h : Blk w b 179 [.pointer m, v, c, .int .i64 live, .int .i64 births, .int .i64 made, .int .i64 turns]) (hm : Met w m q) (hb : b ∉ Met.fp m) (h3 : 3 ≤ L) (hL : L ≤ 20) :
    Calls Try.prog 111 #[.pointer (some ⟨b, 0, none⟩), .int .i64 L] w fun e w' => e = .returned (.tuple #[]) ∧ ∃ cb cg, Blk w' b 179 [.pointer m, v, .pointer (some ⟨cb, 0, none⟩), .int .i64 live, .int .i64 births, .int .i64 (wrap64 (made + 1)), .int .i64 turns] ∧ CellsAt w' cb cg L (fun _ => -1) ∧ w.heap.size ≤ cb ∧ w.heap.size ≤ cg ∧ Met w' m (q.add 0 1) ∧ Upd (b :: Met.fp m) w w' := by
  have N := Lib.hid (new_in L w h3 hL)
  have hbl := h.lt
  have hml := hm.lt
  go_enter Try.func111, Try.ntmps111
  go_wp2_with fail
  refine N.out.mono ?_
  rintro e w1 ⟨cb, cg, rfl, hc, hcb, hcg, hu⟩
  have h1 := h.upd hu (by simp)
  have hm1 := hm.upd hu (by simp)
  have HC := Lib.hid hc
  have f2 := h1.free 2
  have f5 := h1.free 5
  have c0 := h1.cell (i := 0) rfl
  have c2 := h1.cell (i := 2) rfl
  have c5 := h1.cell (i := 5) rfl
  have hu2 := ((hu.mono (fp' := b :: Met.fp m) (by simp)).setCell (p := ⟨b, 2, none⟩) (.inl (by simp)) (.pointer (some ⟨cb, 0, none⟩))).setCell (p := ⟨b, 5, none⟩) (.inl (by simp)) (.int .i64 (wrap64 (made + 1)))
  have hbb := (h1.set 2 (.pointer (some ⟨cb, 0, none⟩))).set 5 (.int .i64 (wrap64 (made + 1)))
  have hs : Upd [b] w1 ((w1.setCell ⟨b, 2, none⟩ (.pointer (some ⟨cb, 0, none⟩))).setCell ⟨b, 5, none⟩ (.int .i64 (wrap64 (made + 1)))) := ((Upd.refl [b] w1).setCell (p := ⟨b, 2, none⟩) (.inl (by simp)) _).setCell (p := ⟨b, 5, none⟩) (.inl (by simp)) _
  have HC2 := Lib.hid (HC.out.upd hs (by simp; omega) (by simp; omega))
  have hm2 := hm1.upd hs (by intro x hx; simp; rintro rfl; exact hb hx)
  have HM := Lib.hid (table_any m q _ hm2)
  have hne : ∀ x ∈ Met.fp m, x ≠ cb ∧ x ≠ cg := fun x hx => by have := hml x hx; omega
  have HN := Lib.hid hne
  clear h hm hu h1 hm1 hc HC hs hm2 hne N hml
  go_wp2_with (go_at_call 69; refine HM.out.mono ?_; rintro e w2 ⟨rfl, hm3, hu3⟩)
  go_end0
  refine ⟨rfl, cb, cg, hbb.upd hu3 hb, HC2.out.upd hu3 (fun hx => (HN.out _ hx).1 rfl) (fun hx => (HN.out _ hx).2 rfl), hcb, hcg, hm3, hu2.trans hu3 (fun x hx => .inl (by simp [hx]))⟩

/-- A new table. -/
def NewTab (w : World) (m : Option Addr) (q : Cnt) (e : Ending) (w' : World) : Prop :=
  ∃ b v cb cg, e = .returned (.pointer (some ⟨b, 0, none⟩)) ∧ TabB w' b v cb cg m Tab.new ∧ (∀ x ∈ tabFp b v cb cg, w.heap.size ≤ x) ∧ Met w' m (q.add 0 1) ∧ Upd (Met.fp m) w w'

theorem tnew_any (w : World) (m : Option Addr) (q : Cnt) (hm : Met w m q) : Calls Try.prog 102 #[.pointer m] w (NewTab w m q) := by
  have hb := Blk.new w 179 [.pointer m, .slice none 0 0, .pointer none, .int .i64 0, .int .i64 0, .int .i64 0, .int .i64 0]
  have hu := (Upd.refl [] w).alloc (.cells #[.pointer m, .slice none 0 0, .pointer none, .int .i64 0, .int .i64 0, .int .i64 0, .int .i64 0] 179)
  have hml := hm.lt
  have hm1 := hm.upd hu (by simp)
  have I := Lib.hid (index_any (L := 3) hb hm1 (fun hx => by have := hml _ hx; omega) (by omega) (by omega))
  clear hm hm1 hb
  go_enter Try.func102, Try.ntmps102
  go_wp2_with fail
  refine I.out.mono ?_
  rintro e w1 ⟨rfl, cb, cg, h1, hc, hcb, hcg, hm1, hu1⟩
  simp only [World.size_alloc] at hcb hcg
  have HC := Lib.hid hc
  have HM := Lib.hid hm1
  have HU : Hid (Upd (Met.fp m) w w1) := Lib.hid ((hu.mono (fp' := Met.fp m) (by simp)).trans hu1 (fun x hx => by
    simp only [List.mem_cons] at hx
    rcases hx with rfl | hx
    · exact .inr (Nat.le_refl _)
    · exact .inl hx))
  rw [show wrap64 (0 + 1) = 1 by unfold wrap64; omega] at h1
  clear hc hm1 hu1 I
  go_wp2_with fail
  go_ret
  exact ⟨w.heap.size, .slice none 0 0, cb, cg, rfl, ⟨Tab.new_ok, h1, World.ownsRow_nil _ _ _ _, HC.out⟩, by simp [tabFp, Value.ownBlock]; omega, HM.out, HU.out⟩
end Go.Proofs.Ytnaeehnnjhklbaa
