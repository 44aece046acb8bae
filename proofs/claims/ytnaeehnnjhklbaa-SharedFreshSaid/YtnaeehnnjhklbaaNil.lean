/- Namespaces and families that are none. -/
import Derived.Test.YtnaeehnnjhklbaaMake
import Derived.Laws.Rows
set_option linter.unusedVariables false
set_option maxRecDepth 100000
namespace Go.Proofs.Ytnaeehnnjhklbaa
open Go.RowKit Go.MapKept Go.ChangeMaps
variable {w w' : World} {p : Option Addr} {s : ByteArray}

/-- A namespace that is none. -/
def IsNone (w : World) (p : Option Addr) : Prop := p = none ∨ ∃ sb, p = some ⟨sb, 0, none⟩ ∧ Blk w sb 63 [.pointer none, .nilIface, .int .u64 0]
theorem IsNone.none (h : IsNone w p) : Calls Try.prog 84 #[.pointer p] w fun e w' => e = .returned (.bool true) ∧ w = w' := by
  rcases h with rfl | ⟨sb, rfl, h⟩
  · exact sp_nil
  · exact sp_zero h
theorem IsNone.upd {fq : List Nat} (h : IsNone w p) (hu : Upd fq w w') (hn : ∀ a, p = some a → a.block ∉ fq) : IsNone w' p := by
  rcases h with rfl | ⟨sb, rfl, h⟩
  · exact .inl rfl
  · exact .inr ⟨sb, rfl, h.upd hu (hn _ rfl)⟩

theorem nGet (h : IsNone w p) : Calls Try.prog 37 #[.pointer p, .string s] w fun e w' => e = .returned (.tuple #[.int .i64 0, .bool false]) ∧ w = w' := by
  have NO := Lib.hid h.none
  clear h
  go_enter Try.func37, Try.ntmps37
  go_wp2_with fail
  refine NO.out.mono ?_
  rintro e w1 ⟨rfl, rfl⟩
  go_wp2_with fail
  go_ret2
  exact ⟨rfl, rfl⟩
theorem nSet (h : IsNone w p) (z : Int) : Calls Try.prog 38 #[.pointer p, .string s, .int .i64 z] w fun e w' => e = .returned (.int .i64 1) ∧ w = w' := by
  have NO := Lib.hid h.none
  clear h
  go_enter Try.func38, Try.ntmps38
  go_wp2_with fail
  refine NO.out.mono ?_
  rintro e w1 ⟨rfl, rfl⟩
  go_wp2_with fail
  go_ret
  exact ⟨rfl, rfl⟩
theorem nDel (h : IsNone w p) : Calls Try.prog 39 #[.pointer p, .string s] w fun e w' => e = .returned (.int .i64 1) ∧ w = w' := by
  have NO := Lib.hid h.none
  clear h
  go_enter Try.func39, Try.ntmps39
  go_wp2_with fail
  refine NO.out.mono ?_
  rintro e w1 ⟨rfl, rfl⟩
  go_wp2_with fail
  go_ret
  exact ⟨rfl, rfl⟩
theorem nLen (h : IsNone w p) : Calls Try.prog 40 #[.pointer p] w fun e w' => e = .returned (.int .i64 0) ∧ w = w' := by
  have NO := Lib.hid h.none
  clear h
  go_enter Try.func40, Try.ntmps40
  go_wp2_with fail
  refine NO.out.mono ?_
  rintro e w1 ⟨rfl, rfl⟩
  go_wp2_with fail
  go_ret
  exact ⟨rfl, rfl⟩
theorem nPairs (h : IsNone w p) : Calls Try.prog 41 #[.pointer p] w fun e w' => e = .returned (.slice none 0 0) ∧ w = w' := by
  have NO := Lib.hid h.none
  clear h
  go_enter Try.func41, Try.ntmps41
  go_wp2_with fail
  refine NO.out.mono ?_
  rintro e w1 ⟨rfl, rfl⟩
  go_wp2_with fail
  go_ret
  exact ⟨rfl, rfl⟩
theorem nShared (h : IsNone w p) : Calls Try.prog 43 #[.pointer p] w fun e w' => e = .returned (.bool false) ∧ w = w' := by
  have NO := Lib.hid h.none
  clear h
  go_enter Try.func43, Try.ntmps43
  go_wp2_with fail
  refine NO.out.mono ?_
  rintro e w1 ⟨rfl, rfl⟩
  go_wp2_with fail
  go_ret
  exact ⟨rfl, rfl⟩
theorem nVersion (h : IsNone w p) : Calls Try.prog 42 #[.pointer p] w fun e w' => e = .returned (.int .i64 0) ∧ w = w' := by
  rcases h with rfl | ⟨sb, rfl, h⟩
  · go_enter Try.func42, Try.ntmps42
    go_wp2_with fail
    go_ret
    exact ⟨rfl, rfl⟩
  · have c2 := h.cell (i := 2) rfl
    clear h
    go_enter Try.func42, Try.ntmps42
    go_wp2_with fail
    go_ret
    exact ⟨rfl, rfl⟩

abbrev sightZ : List Value := [.int .i64 0, .int .i64 0, .slice none 0 0, .slice none 0 0, .int .i64 0, .int .i64 0, .int .i64 0]
theorem nSight (h : IsNone w p) : Calls Try.prog 44 #[.pointer p] w fun e w' => e = .returned (.agg sightZ.toArray) ∧ Upd [] w w' := by
  have u0 := (Upd.refl [] w).alloc (.cells sightZ.toArray 70)
  have NO := Lib.hid (h.upd u0 (by simp)).none
  clear h
  go_enter Try.func44, Try.ntmps44
  go_wp2_with fail
  refine NO.out.mono ?_
  rintro e w1 ⟨rfl, rfl⟩
  go_wp2_with fail
  refine bodyPost_ret (results_cell_row rfl _ _ w.heap.size 70 sightZ.toArray (0, 0) _ rfl (Blk.new w 70 sightZ) Try.underlying70 rfl (by kernel_rfl)) rfl ⟨rfl, (Upd.refl [] w).alloc _⟩
theorem fSight : Calls Try.prog 36 #[.pointer none] w fun e w' => e = .returned (.agg sightZ.toArray) ∧ Upd [] w w' := by
  go_enter Try.func36, Try.ntmps36
  go_wp2_with fail
  refine bodyPost_ret (results_cell_row rfl _ _ w.heap.size 70 sightZ.toArray (0, 0) _ rfl (Blk.new w 70 sightZ) Try.underlying70 rfl (by kernel_rfl)) rfl ⟨rfl, (Upd.refl [] w).alloc _⟩
end Go.Proofs.Ytnaeehnnjhklbaa
