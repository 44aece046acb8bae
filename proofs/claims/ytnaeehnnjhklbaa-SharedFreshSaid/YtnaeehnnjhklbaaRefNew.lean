/- The walks of the document's own cells: Room, Width, New. -/
import Derived.Test.YtnaeehnnjhklbaaCellsNew
set_option linter.unusedVariables false
namespace Go.Proofs.Ytnaeehnnjhklbaa
open Go.RowKit
abbrev refV (g L n : Nat) : Value := .agg #[.int .i64 L, .slice (some ⟨g, 0, none⟩) n n]
def RefAt (w : World) (g L : Nat) (f : Nat → Int) : Prop := w.rowIs g 3 (2 ^ L) (fun i => .int .i64 (f i))

theorem shl2 {L : Nat} (hL : L ≤ 20) : wrap64 (2 * 2 ^ L) = ((2 * 2 ^ L : Nat) : Int) := by
  have h := pow20 hL
  rw [show (2 : Int) * 2 ^ L = ((2 * 2 ^ L : Nat) : Int) by simp]
  generalize 2 ^ L = n at *
  unfold wrap64
  omega

theorem refRoom_in (L : Nat) (w : World) (h3 : 3 ≤ L) (hL : L ≤ 20) :
    Calls Try.prog 91 #[.int .i64 L] w fun e w' => e = .returned (.int .i64 (room L : Nat)) ∧ w = w' := by
  have h1 : ¬ (L : Int) < 3 := by omega
  have h2 : ¬ (20 : Int) < (L : Int) := by omega
  have hp := pow20 hL
  have hs := shl2 hL
  have e : (room L : Int) = ((2 * 2 ^ L : Nat) : Int) / 3 := by unfold room; omega
  rw [e]
  clear e
  have hn : 2 * 2 ^ L ≤ 2097152 := by omega
  generalize 2 * 2 ^ L = n at *
  go_enter Try.func91, Try.ntmps91
  go_wp2_with fail
  go_ret
  exact ⟨rfl, rfl⟩
theorem refRoom_out (L : Int) (w : World) (h : L < 3 ∨ 20 < L) :
    Calls Try.prog 91 #[.int .i64 L] w fun e w' => e = .returned (.int .i64 0) ∧ w = w' := by
  by_cases h1 : L < 3
  · go_enter Try.func91, Try.ntmps91
    go_wp2_with fail
    go_ret
    exact ⟨rfl, rfl⟩
  · have h2 : 20 < L := by omega
    clear h
    go_enter Try.func91, Try.ntmps91
    go_wp2_with fail
    go_ret
    exact ⟨rfl, rfl⟩
theorem refWidth_in (L : Nat) (w : World) (h3 : 3 ≤ L) (hL : L ≤ 20) :
    Calls Try.prog 93 #[.int .i64 L] w fun e w' => e = .returned (.int .i64 (kindOf L).wd) ∧ w = w' := by
  have h1 : ¬ (L : Int) < 3 := by omega
  have h2 : ¬ (20 : Int) < (L : Int) := by omega
  unfold kindOf
  by_cases h7 : L ≤ 7
  · have h7' : (L : Int) ≤ 7 := by omega
    rw [if_pos h7]
    go_enter Try.func93, Try.ntmps93
    go_wp2_with fail
    go_ret
    exact ⟨rfl, rfl⟩
  · have h7' : ¬ (L : Int) ≤ 7 := by omega
    rw [if_neg h7]
    by_cases h15 : L ≤ 15
    · have h15' : (L : Int) ≤ 15 := by omega
      rw [if_pos h15]
      go_enter Try.func93, Try.ntmps93
      go_wp2_with fail
      go_ret
      exact ⟨rfl, rfl⟩
    · have h15' : ¬ (L : Int) ≤ 15 := by omega
      rw [if_neg h15]
      go_enter Try.func93, Try.ntmps93
      go_wp2_with fail
      go_ret
      exact ⟨rfl, rfl⟩
theorem refWidth_zero (w : World) : Calls Try.prog 93 #[.int .i64 0] w fun e w' => e = .returned (.int .i64 0) ∧ w = w' := by
  go_enter Try.func93, Try.ntmps93
  go_wp2_with fail
  go_ret
  exact ⟨rfl, rfl⟩

theorem info64 : (Try.prog.info? 3).map (fun i => (i.zero, i.size, i.bytes)) = some (some (.int .i64 0), 1, 8) := by kernel_rfl

theorem cells_ret (w : World) (b : Nat) (T : TypeId) (x y u : Value) (tmps : Array Value) (hb : Blk w b T [x, y])
    (hp : tmps.getD 2 undef = .pointer (some ⟨b, 0, none⟩)) (hu : tmps.getD 3 undef = u) :
    (results Try.f50 tmps).run Try.prog w = .ok (.tuple #[.agg #[x, y], u]) w := by
  rw [results_cell_tmp rfl, hp, hu]
  have h := run_loadVar_row (P := Try.prog) w b T 94 #[x, y] (0, 0) _ hb Try.underlying94 rfl (by kernel_rfl)
  simp [asAddr, h, Result.andThen]

theorem refNew_out (L : Int) (w : World) (hL : L < 3 ∨ 20 < L) :
    Calls Try.prog 50 #[.int .i64 L] w fun e w' => e = .returned (.tuple #[.agg #[.int .i64 0, .slice none 0 0], .int .i64 1]) ∧ Upd [] w w' := by
  have hb := Blk.new w 94 [.int .i64 0, .slice none 0 0]
  have hu := (Upd.refl [] w).alloc (.cells #[.int .i64 0, .slice none 0 0] 94)
  by_cases h1 : L < 3
  · go_enter Try.func50, Try.ntmps50
    go_wp2_with fail
    exact bodyPost_ret (cells_ret _ w.heap.size _ _ _ _ _ hb rfl rfl) rfl ⟨rfl, hu⟩
  · have h2 : 20 < L := by omega
    clear hL
    go_enter Try.func50, Try.ntmps50
    go_wp2_with fail
    exact bodyPost_ret (cells_ret _ w.heap.size _ _ _ _ _ hb rfl rfl) rfl ⟨rfl, hu⟩

theorem refNew_in (L : Nat) (w : World) (h3 : 3 ≤ L) (hL : L ≤ 20) :
    Calls Try.prog 50 #[.int .i64 L] w fun e w' => ∃ g, e = .returned (.tuple #[refV g L (2 ^ L), .int .i64 0]) ∧ RefAt w' g L (fun _ => -1) ∧ w.heap.size ≤ g ∧ Upd [] w w' := by
  have h1 : ¬ (L : Int) < 3 := by omega
  have h2 : ¬ (20 : Int) < (L : Int) := by omega
  have hp := pow20 hL
  have hw := wrap64_pow hL
  unfold RefAt
  generalize hn : 2 ^ L = n at *
  have HN := Lib.hid hn
  clear hn
  have hmk := fun W => run_make_row' (P := Try.prog) 42 3 (.int .i64 0) 8 Try.underlying42 info64 rfl .i64 .i64 n (by omega) (by omega) W
  have hb2 := Blk.new2 w (Obj.cells #[Value.int IntKind.i64 0, Value.slice none 0 0] 94) (Obj.cells (madeCells #[Value.int IntKind.i64 0] n) 3) 94 [Value.int IntKind.i64 ↑L, Value.slice (some { block := w.heap.size + 1, off := 0 }) n n]
  have hb0 := ((Blk.new w 94 [.int .i64 0, .slice none 0 0]).alloc (Obj.cells (madeCells #[Value.int IntKind.i64 0] n) 3)).alloc (Obj.cells #[Value.int IntKind.i64 ↑L, Value.slice (some { block := w.heap.size + 1, off := 0 }) n n] 94)
  have hr := (World.rowIs_made (w.alloc (Obj.cells #[Value.int IntKind.i64 0, Value.slice none 0 0] 94)) (.int .i64 0) n 3).alloc (Obj.cells #[Value.int IntKind.i64 ↑L, Value.slice (some { block := w.heap.size + 1, off := 0 }) n n] 94)
  have hu0 := (((Upd.refl [] w).alloc (Obj.cells #[Value.int IntKind.i64 0, Value.slice none 0 0] 94)).alloc (Obj.cells (madeCells #[Value.int IntKind.i64 0] n) 3)).alloc (Obj.cells #[Value.int IntKind.i64 ↑L, Value.slice (some { block := w.heap.size + 1, off := 0 }) n n] 94)
  simp only [World.size_alloc] at hr
  go_enter Try.func50, Try.ntmps50
  go_wp2_with fail
  generalize (((w.alloc _).alloc _).alloc _) = W0 at *
  go_loopw [5] (fun i wr => ∃ k : Nat, k ≤ n ∧ i = .int .i64 k
      ∧ Blk wr (w.heap.size + 1 + 1) 94 [Value.int IntKind.i64 ↑L, Value.slice (some { block := w.heap.size + 1, off := 0 }) n n]
      ∧ Blk wr w.heap.size 94 [.int .i64 0, .slice none 0 0]
      ∧ wr.rowIs (w.heap.size + 1) 3 n (fun j => .int .i64 (if j < k then -1 else 0)) ∧ Upd [] w wr) (fun i _ => n - (intOf i).toNat)
  case atStart => exact ⟨0, Nat.zero_le _, rfl, hb2, hb0, hr.congr (fun j _ => by simp), hu0⟩
  case round =>
    obtain ⟨k, hkn, rfl, hb, hb', hr', hu⟩ := hrel
    clear hb2 hr hu0
    have c0 := hb.cell (i := 0) rfl
    have c1 := hb.cell (i := 1) rfl
    by_cases hlt : k < n
    · have hl : (k : Int) < (n : Int) := by omega
      have cc := hr'.cell hlt
      have cf := hr'.frozen k
      have hb3 := (hb.other (a := ⟨w.heap.size + 1, k, none⟩) (.int .i64 (-1)) (by simp))
      have hb3' := (hb'.other (a := ⟨w.heap.size + 1, k, none⟩) (.int .i64 (-1)) (by simp))
      have hr3 := ((hr'.set k (.int .i64 (-1))).congr (g := fun j => .int .i64 (if j < k + 1 then -1 else 0)) (fun j _ => by
        by_cases e1 : j = k
        · subst e1; simp
        · by_cases e2 : j < k
          · simp [e1, e2, Nat.lt_succ_of_lt e2]
          · have : ¬ j < k + 1 := by omega
            simp [e1, e2, this]))
      have hu3 := (hu.setCell (p := ⟨w.heap.size + 1, k, none⟩) (.inr (Nat.le_succ _)) (.int .i64 (-1)))
      go_wp2_with fail
      go_roundw
      case rel => exact ⟨k + 1, by omega, by go_num, hb3, hb3', hr3, hu3⟩
      case measure => simp [intOf]; omega
    · obtain rfl : k = n := by omega
      have f0 := hb'.free 0
      have f1 := hb'.free 1
      have d0 := hb'.cell (i := 0) rfl
      have d1 := hb'.cell (i := 1) rfl
      go_wp2_with fail
      refine bodyPost_ret (cells_ret _ w.heap.size _ _ _ _ _ ((hb'.set 0 _).set 1 _) rfl rfl) rfl ⟨_, rfl, ?_, Nat.le_succ _, ?_⟩
      · have hr4 : wr.rowIs (w.heap.size + 1) 3 k (fun _ => .int .i64 (-1)) := hr'.congr (fun j hj => by simp [hj])
        exact (hr4.setOther (a := ⟨w.heap.size, 0, none⟩) (by simp) _).setOther (a := ⟨w.heap.size, 1, none⟩) (by simp) _
      · exact (hu.setCell (p := ⟨w.heap.size, 0, none⟩) (.inr (Nat.le_refl _)) _).setCell (p := ⟨w.heap.size, 1, none⟩) (.inr (Nat.le_refl _)) _

theorem RefAt.upd {w w' : World} {g L : Nat} {f : Nat → Int} {fp : List Nat} (h : RefAt w g L f) (hu : Upd fp w w') (hg : g ∉ fp) : RefAt w' g L f := rowIs_upd h hu hg

end Go.Proofs.Ytnaeehnnjhklbaa
