/- The walk of TrailCovers. -/
import Derived.Test.YtnaeehnnjhklbaaTrailLaw
import Derived.Deep.OwnRows
import Derived.Deep.RegionWith
namespace Go.Proofs.Ytnaeehnnjhklbaa
open Go.RowKit

theorem infoBool : (Try.prog.info? 4).map (fun i => (i.zero, i.size, i.bytes)) = some (some (.bool false), 1, 1) := by kernel_rfl

/-- Has the cell c come among those from number f to before number j? -/
def come (h : Int) (L f j c : Nat) : Bool := (List.range j).any fun t => decide (f ≤ t) && decide (trC h L t = c)
theorem come_succ (h : Int) (L f j c : Nat) (hf : f ≤ j) : come h L f (j + 1) c = (come h L f j c || decide (trC h L j = c)) := by
  simp [come, List.range_succ, hf]
theorem come_none (h : Int) (L f c : Nat) : come h L f f c = false := by
  simp [come]
  intro x h1 h2
  omega
theorem come_fresh (h : Int) (L f j : Nat) (hs : trS h ≤ f) (hj : j < f + 2 ^ L) : come h L f j (trC h L j) = false := by
  simp [come]
  intro x h1 h2
  exact trC_apart h L x j (by omega) h1 (by omega)

theorem trailCovers_in (h : Int) (L : Nat) (w : World) (hL : L ≤ 11) :
    Calls Try.prog 9 #[.int .i64 h, .int .i64 L] w (OkV w) := by
  have h1 : ¬ (L : Int) < 0 := by omega
  have h2 : ¬ (11 : Int) < (L : Int) := by omega
  obtain ⟨S, hS⟩ : ∃ S : Nat, S = 2 ^ L := ⟨_, rfl⟩
  have hS1 : S ≤ 2048 := by rw [hS]; exact Nat.pow_le_pow_right (by omega) hL
  have hS0 : 0 < S := by rw [hS]; exact Nat.two_pow_pos L
  have hw : wrap64 (2 ^ L) = (S : Int) := by rw [pow_cast, ← hS]; unfold wrap64; omega
  have hlist : trList h L ((S : Int) + 13) = trRow h L (S + 13) := by
    have hin : trIn (L : Int) := ⟨by omega, by omega⟩
    have e : ((S : Int) + 13).toNat = S + 13 := by clear hw; omega
    unfold trList
    rw [if_pos hin, Int.toNat_natCast, e, ← hS, Nat.min_self]
  have HS := Lib.hid hS
  have Hlist := Lib.hid hlist
  clear hS hlist
  go_enter Try.func9, Try.ntmps9
  go_wp2_with fail
  refine (cells_any h L ((S : Int) + 13) _ (by omega) (by omega)).mono ?_
  rintro e w1 ⟨v1, rfl, hl1⟩
  rw [Hlist.out] at hl1
  have r1 := hl1.reads (by rw [trRow_length]; omega)
  have hu1 := hl1.2
  clear hl1
  obtain ⟨va, vc, rfl, _, hcell⟩ := r1
  rw [trRow_length] at *
  obtain ⟨b, off, rfl, hb, hc0⟩ := hcell 0 (by simp [trRow_length])
  have hcell' : ∀ i, i < S + 13 → w1.cell? ⟨b, off + i, none⟩ = some (.int .i64 (trC h L i)) := by
    intro i hi
    obtain ⟨b', off', e, _, hc⟩ := hcell i (by rw [trRow_length]; exact hi)
    simp at e
    obtain ⟨rfl, rfl⟩ := e
    simpa [trRow] using hc
  have c0 : w1.cell? ⟨b, off, none⟩ = some (.int .i64 (trC h L 0)) := hcell' 0 (by omega)
  have Hc := Lib.hid hcell'
  clear hcell hcell' hc0
  go_wp2_with fail
  go_quiet ((go_at_call 26; exact Calls.quiet_of_same ((first_in h L _ (by omega)).mono fun e w' ⟨h1, h2⟩ => ⟨h1, h2.symm⟩)))
  have hs13 := trS_le h
  have hmk : ∀ W, (Instr.makeSlice 86 (.int .i64 (S : Int)) (.int .i64 (S : Int))).run Try.prog W = .ok (.slice (some ⟨W.heap.size, 0, none⟩) S S) (W.alloc (.cells (madeCells #[.bool false] S) 4)) :=
    fun W => run_make_row' 86 4 (.bool false) 1 Try.underlying86 infoBool rfl .i64 .i64 S (by omega) (by omega) W
  go_wp2_with (go_at_call 28; refine (shifts_any h _).mono ?_; rintro e w' ⟨rfl, rfl⟩)
  go_loopw [9, 10, 11] (fun f _ _ wr => ∃ n : Nat, trS h ≤ n ∧ n ≤ 14 ∧ f = .int .i64 n ∧ Upd [] w1 wr) (fun f _ _ _ => 14 - (intOf f).toNat)
  case atStart => exact ⟨trS h, Nat.le_refl _, by omega, rfl, (Upd.refl _ _).drewN _⟩
  case round =>
    obtain ⟨n, hn1, hn2, rfl, hu⟩ := hrel
    by_cases hlt : n ≤ 13
    · obtain ⟨wo, rfl⟩ : ∃ wo : World, wo = wr := ⟨_, rfl⟩
      have hrow0 := World.rowIs_made wo (.bool false) S 4
      have hrow : (wo.alloc (.cells (madeCells #[.bool false] S) 4)).rowIs wo.heap.size 4 S (fun c => .bool (come h L n n c)) := hrow0.congr (fun c _ => by rw [come_none])
      have hua := hu.alloc (.cells (madeCells #[.bool false] S) 4)
      have hgs : w1.heap.size ≤ wo.heap.size := hu.size
      have hle : (n : Int) + (S : Int) ≤ (S : Int) + 13 := by omega
      clear hrow0
      go_wp2_with fail
      obtain ⟨g, hg⟩ : ∃ g, g = wo.heap.size := ⟨_, rfl⟩
      rw [← hg] at hrow hgs ⊢
      have Hg := Lib.hid hg
      clear hg
      go_loopw [4, 11] (fun _ i wr => ∃ j : Nat, n ≤ j ∧ j ≤ n + S ∧ i = .int .i64 j ∧ wr.rowIs g 4 S (fun c => .bool (come h L n j c)) ∧ Upd [] w1 wr) (fun _ i _ => n + S - (intOf i).toNat)
      case atStart => exact ⟨n, Nat.le_refl _, by omega, rfl, hrow, hua⟩
      case round =>
        obtain ⟨j, hj1, hj2, rfl, hr, hui⟩ := hrel
        clear hrow hua hu hmk
        by_cases hjl : j < n + S
        · have hC : trC h L j < S := by rw [HS.out]; exact trC_lt h L j
          have x0 := (hui.below.cell (p := ⟨b, off + j, none⟩) hb).trans (Hc.out j (by omega))
          have y0 := hr.cell hC
          have y1 := hr.frozen (trC h L j)
          rw [come_fresh h L n j hn1 (by rw [← HS.out]; omega)] at y0
          have hset : (wr.setCell ⟨g, trC h L j, none⟩ (.bool true)).rowIs g 4 S (fun c => .bool (come h L n (j + 1) c)) :=
            (hr.set (trC h L j) (.bool true)).congr (fun c hc => by
              by_cases hcc : c = trC h L j
              · subst hcc; simp [come_succ h L n j _ hj1]
              · have : ¬ trC h L j = c := fun e => hcc e.symm
                simp [come_succ h L n j _ hj1, hcc, this])
          have hus := hui.setCell (p := ⟨g, trC h L j, none⟩) (.inr hgs) (.bool true)
          have hC0 : ¬ ((trC h L j : Int) < 0) := by omega
          have hC1 : ¬ ((S : Int) ≤ (trC h L j : Int)) := by omega
          generalize trC h L j = c at *
          have l1 : (j : Int) < (n : Int) + (S : Int) := by omega
          clear hr hui
          go_wp2_with fail
          go_roundw
          case rel => exact ⟨j + 1, by omega, by omega, by go_num, hset, hus⟩
          case measure => simp [intOf]; omega
        · go_wp2_with fail
          go_roundw
          case rel => exact ⟨n + 1, by omega, by omega, by go_num, hui⟩
          case measure => simp [intOf]; omega
    · go_wp2_with (go_at_call 30; refine (awake5 _).mono ?_; rintro e w' ⟨rfl, rfl⟩)
      go_ret
      exact ⟨rfl, hu1.nil hu⟩

theorem trailCovers_walk (h : Int) (L : Int) (w : World) (_ : (Lit.int .i64 h).wf = true) (_ : (Lit.int .i64 L).wf = true) :
    Calls Try.prog 9 #[.int .i64 h, .int .i64 L] w (OkV w) := by
  by_cases h1 : L < 0
  · go_enter Try.func9, Try.ntmps9
    go_wp2_with (go_at_call 30; refine (awake5 _).mono ?_; rintro e w' ⟨rfl, rfl⟩)
    go_ret
    exact ⟨rfl, Upd.refl _ _⟩
  by_cases h2 : 11 < L
  · go_enter Try.func9, Try.ntmps9
    go_wp2_with (go_at_call 30; refine (awake5 _).mono ?_; rintro e w' ⟨rfl, rfl⟩)
    go_ret
    exact ⟨rfl, Upd.refl _ _⟩
  obtain ⟨l, rfl⟩ := Int.eq_ofNat_of_zero_le (show 0 ≤ L by omega)
  exact trailCovers_in h l w (by omega)
end Go.Proofs.Ytnaeehnnjhklbaa
