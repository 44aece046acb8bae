/- The walks of package cells: New. -/
import Derived.Test.YtnaeehnnjhklbaaCellsOps
set_option linter.unusedVariables false
namespace Go.Proofs.Ytnaeehnnjhklbaa
open Go.RowKit

theorem info8 : (Try.prog.info? 216).map (fun i => (i.zero, i.size, i.bytes)) = some (some (.int .i8 0), 1, 1) := by kernel_rfl
theorem info16 : (Try.prog.info? 217).map (fun i => (i.zero, i.size, i.bytes)) = some (some (.int .i16 0), 1, 2) := by kernel_rfl
theorem info32 : (Try.prog.info? 21).map (fun i => (i.zero, i.size, i.bytes)) = some (some (.int .i32 0), 1, 4) := by kernel_rfl

theorem wrap64_pow {L : Nat} (hL : L ≤ 20) : wrap64 (2 ^ L) = ((2 ^ L : Nat) : Int) := by
  have h := pow20 hL
  rw [show (2 : Int) ^ L = ((2 ^ L : Nat) : Int) by simp]
  generalize 2 ^ L = n at *
  unfold wrap64
  omega

theorem made_any (L : Nat) (w : World) (hL : L ≤ 20) :
    Calls Try.prog 89 #[.int .i64 L] w fun e w' => e = .returned (.iface (kindOf L).T (rowV (kindOf L) w.heap.size (2 ^ L))) ∧ w.alloc (.cells (madeCells #[.int (kindOf L).k 0] (2 ^ L)) (kindOf L).E) = w' := by
  have hp := pow20 hL
  have hw := wrap64_pow hL
  generalize hn : 2 ^ L = n at *
  unfold kindOf
  by_cases h7 : L ≤ 7
  · have hmk := fun W => run_make_row' (P := Try.prog) 180 216 (.int .i8 0) 1 Try.underlying180 info8 rfl .i64 .i64 n (by omega) (by omega) W
    have h7' : (L : Int) ≤ 7 := by omega
    rw [if_pos h7]
    clear hn
    go_enter Try.func89, Try.ntmps89
    go_wp2_with fail
    go_ret
    exact ⟨rfl, rfl⟩
  · have h7' : ¬ (L : Int) ≤ 7 := by omega
    rw [if_neg h7]
    by_cases h15 : L ≤ 15
    · have hmk := fun W => run_make_row' (P := Try.prog) 183 217 (.int .i16 0) 2 Try.underlying183 info16 rfl .i64 .i64 n (by omega) (by omega) W
      have h15' : (L : Int) ≤ 15 := by omega
      rw [if_pos h15]
      clear hn
      go_enter Try.func89, Try.ntmps89
      go_wp2_with fail
      go_ret
      exact ⟨rfl, rfl⟩
    · have hmk := fun W => run_make_row' (P := Try.prog) 186 21 (.int .i32 0) 4 Try.underlying186 info32 rfl .i64 .i64 n (by omega) (by omega) W
      have h15' : ¬ (L : Int) ≤ 15 := by omega
      rw [if_neg h15]
      clear hn
      go_enter Try.func89, Try.ntmps89
      go_wp2_with fail
      go_ret
      exact ⟨rfl, rfl⟩

theorem new_out (L : Int) (w : World) (hL : L < 3 ∨ 20 < L) :
    Calls Try.prog 49 #[.int .i64 L] w fun e w' => e = .returned (.tuple #[.pointer none, .int .i64 1]) ∧ w = w' := by
  by_cases h1 : L < 3
  · go_enter Try.func49, Try.ntmps49
    go_wp2_with fail
    go_ret2
    exact ⟨rfl, rfl⟩
  · have h2 : 20 < L := by omega
    clear hL
    go_enter Try.func49, Try.ntmps49
    go_wp2_with fail
    go_ret2
    exact ⟨rfl, rfl⟩

/-- The cells that New has just made, all Empty. -/
def NewAt (w : World) (L : Nat) (e : Ending) (w' : World) : Prop :=
  ∃ b g, e = .returned (.tuple #[.pointer (some ⟨b, 0, none⟩), .int .i64 0]) ∧ CellsAt w' b g L (fun _ => -1) ∧ w.heap.size ≤ b ∧ w.heap.size ≤ g ∧ Upd [] w w'

theorem new_in (L : Nat) (w : World) (h3 : 3 ≤ L) (hL : L ≤ 20) : Calls Try.prog 49 #[.int .i64 L] w (NewAt w L) := by
  have h1 : ¬ (L : Int) < 3 := by omega
  have h2 : ¬ (20 : Int) < (L : Int) := by omega
  have hk := kindOf_ok L
  have hp := pow20 hL
  obtain ⟨κ, hκ⟩ : ∃ κ, κ = kindOf L := ⟨_, rfl⟩
  obtain ⟨n, hn⟩ : ∃ n, n = 2 ^ L := ⟨_, rfl⟩
  have M := Lib.hid (made_any L w hL)
  rw [← hn, ← hκ] at M
  rw [← hκ] at hk
  have hb := Blk.new1 w (.cells (madeCells #[.int κ.k 0] n) κ.E) 115 (cellsL κ L w.heap.size n)
  have hr := (World.rowIs_made w (.int κ.k 0) n κ.E).alloc (.cells (cellsL κ L w.heap.size n).toArray 115)
  have hu0 := ((Upd.refl [] w).alloc (.cells (madeCells #[.int κ.k 0] n) κ.E)).alloc (.cells (cellsL κ L w.heap.size n).toArray 115)
  rw [← hn] at hp
  have HN := Lib.hid hn
  have HK := Lib.hid hκ
  clear hn hκ
  go_enter Try.func49, Try.ntmps49
  go_wp2_with fail
  refine M.out.mono ?_
  rintro e w1 ⟨rfl, rfl⟩
  have m := hk.m_len
  have c := hk.c_len
  have LN := Lib.hid (fun W => hk.len_any w.heap.size n W)
  go_wp2_with fail
  refine (LN.out _).mono ?_
  rintro e w2 ⟨rfl, hu⟩
  have hb2 := hb.upd hu (by simp)
  have hr2 := rowIs_upd hr hu (by simp)
  have hu2 := hu0.then hu
  clear hb hr hu0 hu m c LN
  go_wp2_with fail
  have m := hk.m_set
  have c := hk.c_set
  have hwr : κ.k.wrap (-1) = -1 := by rcases hk with rfl | rfl | rfl <;> simp [K8, K16, K32, IntKind.wrap, IntKind.bits, IntKind.signed]
  have HW := Lib.hid hwr
  clear hwr
  go_loopw [5, 22] (fun _ i wr => ∃ k : Nat, k ≤ n ∧ i = .int .i64 k ∧ Blk wr (w.heap.size + 1) 115 (cellsL κ L w.heap.size n) ∧ wr.rowIs w.heap.size κ.E n (fun j => .int κ.k (if j < k then -1 else 0)) ∧ Upd [] w wr) (fun _ i _ => n - (intOf i).toNat)
  case atStart => exact ⟨0, Nat.zero_le _, rfl, hb2, hr2.congr (fun j _ => by simp), hu2⟩
  case round =>
    obtain ⟨k, hkn, rfl, hb, hr, hu⟩ := hrel
    clear hb2 hr2 hu2
    by_cases hlt : k < n
    · have hl : (k : Int) < (n : Int) := by omega
      have c1 := hb.cell (i := 1) rfl
      have G := Lib.hid (hk.set_any w.heap.size n k _ (-1) wr hlt (by omega) (hr.cell hlt) (hr.frozen k))
      go_wp2_with fail
      refine G.out.mono ?_
      rintro e w3 ⟨rfl, o, rfl⟩
      rw [HW.out]
      have hb3 := (hb.other (a := ⟨w.heap.size, k, none⟩) (.int κ.k (-1)) (by simp)).alloc o
      have hr3 := ((hr.set k (.int κ.k (-1))).congr (g := fun j => .int κ.k (if j < k + 1 then -1 else 0)) (fun j _ => by
        by_cases e1 : j = k
        · subst e1; simp
        · by_cases e2 : j < k
          · simp [e1, e2, Nat.lt_succ_of_lt e2]
          · have : ¬ j < k + 1 := by omega
            simp [e1, e2, this])).alloc o
      have hu3 := (hu.setCell (p := ⟨w.heap.size, k, none⟩) (.inr (Nat.le_refl _)) (.int κ.k (-1))).alloc o
      clear hb hr hu G c1
      go_wp2_with fail
      go_roundw
      case rel => exact ⟨k + 1, by omega, by go_num, hb3, hr3, hu3⟩
      case measure => simp [intOf]; omega
    · obtain rfl : k = n := by omega
      go_wp2_with fail
      go_ret2
      refine ⟨_, _, rfl, ⟨h3, hL, ?_, ?_, ?_⟩, Nat.le_succ _, Nat.le_refl _, hu⟩
      · rw [← HN.out, ← HK.out]; exact hb
      · rw [← HN.out, ← HK.out]
        exact hr.congr (fun j hj => by simp [hj])
      · intro j _
        simp [mayB]
end Go.Proofs.Ytnaeehnnjhklbaa
