/- The walks of what the laws of trail lean on: the document's own trail, and the list of what All goes through. -/
import Derived.Test.YtnaeehnnjhklbaaTrail
import Derived.Maps.AppendAt
namespace Go.Proofs.Ytnaeehnnjhklbaa
open Go.RowKit

theorem infoInt : (Try.prog.info? 3).map (fun i => (i.zero, i.size, i.bytes)) = some (some (.int .i64 0), 1, 8) := by kernel_rfl

theorem refFirst_in (h : Int) (L : Nat) (w : World) (hL : L ≤ 20) :
    Calls Try.prog 27 #[.int .i64 h, .int .i64 L] w fun e w' => e = .returned (.int .i64 (trC h L 0)) ∧ w = w' := by
  have h1 : ¬ (L : Int) < 0 := by omega
  have h2 : ¬ (20 : Int) < (L : Int) := by omega
  have h3 : ¬ IntKind.u64.wrap (2 ^ L) = 0 := by rw [wrap_pow hL]; have := Nat.two_pow_pos L; omega
  go_enter Try.func27, Try.ntmps27
  go_wp2_with fail
  go_ret
  exact ⟨ret_int (firstr_eq h hL), rfl⟩
theorem refFirst_out (h L : Int) (w : World) (hL : L < 0 ∨ 20 < L) :
    Calls Try.prog 27 #[.int .i64 h, .int .i64 L] w fun e w' => e = .returned (.int .i64 0) ∧ w = w' := by
  by_cases h1 : L < 0
  · go_enter Try.func27, Try.ntmps27
    go_wp2_with fail
    go_ret
    exact ⟨rfl, rfl⟩
  · have h2 : 20 < L := by omega
    clear hL
    go_enter Try.func27, Try.ntmps27
    go_wp2_with fail
    go_ret
    exact ⟨rfl, rfl⟩
theorem refNext_any (c p L : Nat) (w : World) (hL : L ≤ 20) (hc : c < 1048576) (hp : p < 18446744073709551616) :
    Calls Try.prog 80 #[.int .i64 c, .int .u64 p, .int .i64 L] w fun e w' => e = .returned (.tuple #[.int .i64 (nextC c p L), .int .u64 (p / 32 : Nat)]) ∧ w = w' := by
  have h1 : ¬ (L : Int) < 0 := by omega
  have h2 : ¬ (20 : Int) < (L : Int) := by omega
  have h3 : ¬ IntKind.u64.wrap (2 ^ L) = 0 := by rw [wrap_pow hL]; have := Nat.two_pow_pos L; omega
  go_enter Try.func80, Try.ntmps80
  go_wp2_with fail
  go_ret2
  exact ⟨by rw [next_eq c p hL]; rfl, rfl⟩
theorem refShifts_any (h : Int) (w : World) :
    Calls Try.prog 29 #[.int .i64 h] w fun e w' => e = .returned (.int .i64 (trS h)) ∧ w = w' := by
  go_enter Try.func29, Try.ntmps29
  go_wp2_with fail
  go_loop [3, 4] (fun n p => ∃ k : Nat, k ≤ trS h ∧ n = .int .i64 k ∧ p = .int .u64 (trP h k)) (fun n _ => trS h - (intOf n).toNat)
  case atStart => exact ⟨0, Nat.zero_le _, rfl, by rw [trP_zero, ← wrap_U]⟩
  case round =>
    obtain ⟨k, hk, rfl, rfl⟩ := hrel
    have hs := trS_le h
    have hz := trP_zero_iff h k
    have hp := trP_succ h k
    by_cases hlt : k < trS h
    · have h0 : (0 : Int) < (trP h k : Int) := by omega
      have Hp := Lib.hid hp
      have hlt' : trP h k < 18446744073709551616 := trP_lt h k
      clear hz hp
      go_wp2_with fail
      go_round
      case rel => exact ⟨k + 1, by omega, by go_num, by rw [Hp.out]; rfl⟩
      case measure => simp [intOf]; omega
    · have h0 : ¬ (0 : Int) < (trP h k : Int) := by omega
      clear hz hp
      go_wp2_with fail
      go_ret
      exact ⟨ret_int (by omega), rfl⟩

/-- The numbers of a row as its cells hold them. -/
def ints (xs : List Nat) : List Value := xs.map fun (x : Nat) => .int .i64 (x : Int)

theorem ownsRow_shape {w : World} {base : Nat} {e : TypeId} {size : Nat} {v : Value} {n : Nat} {xs : List Value} (h : w.ownsRow base e size v n xs) : ∃ a cap, v = .slice a n cap := by
  rcases h.2 with ⟨rfl, rfl⟩ | ⟨g, cap, cur, rfl, _⟩
  · exact ⟨none, 0, rfl⟩
  · exact ⟨_, cap, rfl⟩

/-- What the list's closure holds on to: the list's variable, the bound's. -/
structure Gath (w0 : World) (Bl Bm base most : Nat) (xs : List Nat) (w : World) : Prop where
  size : base ≤ w.heap.size
  u : Upd [] w0 w
  l : ∃ v, Blk w Bl 42 [v] ∧ w.ownsRow base 3 1 v xs.length (ints xs)
  m : Blk w Bm 3 [.int .i64 most]

theorem cells1_any (Bl Bm base c most : Nat) (xs : List Nat) (w0 w : World) (hb0 : w0.heap.size ≤ Bl) (hbl : Bl < base) (hbm : Bm < base) (hne : Bm ≠ Bl)
    (hg : Gath w0 Bl Bm base most xs w) (hlen : xs.length < most) (hmost : most ≤ 3000) :
    Calls Try.prog 79 #[.int .i64 c, .pointer (some ⟨Bl, 0, none⟩), .pointer (some ⟨Bm, 0, none⟩)] w fun e w' => e = .returned (.bool (decide (xs.length + 1 < most))) ∧ Gath w0 Bl Bm base most (xs ++ [c]) w' := by
  obtain ⟨hbw, hu, ⟨v, hl, ho⟩, hm⟩ := hg
  obtain ⟨va, vc, rfl⟩ := ownsRow_shape ho
  have hl0 := hl.cell (i := 0) rfl
  have hlf := hl.free
  have hm0 := hm.cell (i := 0) rfl
  obtain ⟨i0, hi, hz0, hz1, hz2⟩ := info_parts infoInt
  have hlt : (xs.length : Int) < (most : Int) := by omega
  go_enter Try.func79, Try.ntmps79
  go_wp2_with (at_builtin; refine wpList_append_own _ rfl _ _ 42 rfl base 3 i0 (.int .i64 0) 1 8 Try.underlying42 hi hz0 hz1 hz2 rfl (by decide) _ _ _ rfl (ho.alloc _) ⟨w.heap.size, 0, none⟩ 1 1 [.int .i64 c] rfl rfl ?c1 ?c2 ?c3 ?c4 ?c5 ?_)
  case c1 => exact cell_one_new _ _ _
  case c2 => intro u hu; simp at hu; subst hu; rfl
  case c3 => unfold maxLen; omega
  case c4 => omega
  case c5 => simp; omega
  intro v' w1 hown hgrow _
  obtain ⟨va', vc', rfl⟩ := ownsRow_shape hown
  have hblk : ∀ k, (Value.slice va xs.length vc).ownBlock = some k → base ≤ k := fun k hk => (ho.lt k hk).1
  have hu1 : Upd [] w0 w1 := (hu.alloc (.cells #[.int .i64 c] 3)).grown hgrow (fun k hk => .inr (by have := hblk k hk; omega))
  have hl1 : Blk w1 Bl 42 [.slice va xs.length vc] := (hgrow.block Bl ((hl.alloc (.cells #[.int .i64 c] 3)).lt) (fun e => by have := hblk Bl e.symm; omega)).trans (hl.alloc _)
  have hm1 : Blk w1 Bm 3 [.int .i64 most] := (hgrow.block Bm ((hm.alloc (.cells #[.int .i64 c] 3)).lt) (fun e => by have := hblk Bm e.symm; omega)).trans (hm.alloc _)
  have hs1 : base ≤ w1.heap.size := Nat.le_trans (by simp; omega) hgrow.size
  have hown' := ownsRow_setCell_below hown (a := ⟨Bl, 0, none⟩) hbl (.slice va' (xs.length + 1) vc')
  have hE : Gath w0 Bl Bm base most (xs ++ [c]) (w1.setCell ⟨Bl, 0, none⟩ (.slice va' (xs.length + 1) vc')) :=
    ⟨by simpa using hs1, hu1.setCell (.inr hb0) _, ⟨_, hl1.set 0 _, by simpa [ints] using hown'⟩, hm1.other _ (by simpa using hne)⟩
  have l0 := hl1.cell (i := 0) rfl
  have lf := hl1.free
  have l1 := (hl1.set 0 (.slice va' (xs.length + 1) vc')).cell (i := 0) rfl
  have m0 := (hm1.other (a := ⟨Bl, 0, none⟩) (.slice va' (xs.length + 1) vc') (by simpa using hne)).cell (i := 0) rfl
  clear hgrow hown hown' hu1 hl1 hm1 hl0 hlf hm0 hl hm ho hu hblk
  go_wp2_with fail
  go_ret
  exact ⟨ret_bool (by simp [decide_eq_decide]; omega), hE⟩

theorem call_cells1 (args : Array Value) (w : World) : (callFunc 79 args).run Try.prog w = .ok (.enter 79 args) w := by
  simp [go_sem]

def trRow (h : Int) (L n : Nat) : List Nat := (List.range n).map (trC h L)
theorem trRow_succ (h : Int) (L n : Nat) : trRow h L (n + 1) = trRow h L n ++ [trC h L n] := by simp [trRow, List.range_succ]
theorem trRow_length (h : Int) (L n : Nat) : (trRow h L n).length = n := by simp [trRow]

/-- What a list that is handed back is: an owned row. -/
def Lists (w : World) (xs : List Nat) (v : Value) (w' : World) : Prop := w'.ownsRow w.heap.size 3 1 v xs.length (ints xs) ∧ Upd [] w w'
def ListsOk (w : World) (xs : List Nat) (e : Ending) (w' : World) : Prop := ∃ v, e = .returned (.tuple #[v, .bool true]) ∧ Lists w xs v w'

theorem eqlNilSeq (fn : Fn) (first cap : Array Value) (w : World) : (binOp .eql 83 (.func fn first cap) .nilFunc).run Try.prog w = .ok (.bool false) w := by kernel_rfl

theorem cells_in (h : Int) (L most : Nat) (w : World) (hL : L ≤ 20) (h0 : 0 < most) (hmost : most ≤ 3000) :
    Calls Try.prog 23 #[.int .i64 h, .int .i64 L, .int .i64 most] w (ListsOk w (trRow h L (min (2 ^ L + 13) most))) := by
  have hG : Gath w (w.heap.size + 1 + 1 + 1) w.heap.size (w.heap.size + 1 + 1 + 1 + 1) most [] ((((w.alloc (.cells #[.int .i64 most] 3)).alloc (.cells #[.int .i64 h] 3)).alloc (.cells #[.int .i64 L] 3)).alloc (.cells #[.slice none 0 0] 42)) :=
    ⟨by simp, ((((Upd.refl [] w).alloc _).alloc _).alloc _).alloc _, ⟨_, by exact Blk.new3 w _ _ _ _ _, World.ownsRow_nil _ _ _ _⟩, (((Blk.new w 3 [.int .i64 most]).alloc _).alloc _).alloc _⟩
  have kh := ((Blk.new1 w (.cells #[.int .i64 most] 3) 3 [.int .i64 h]).alloc (.cells #[.int .i64 L] 3)).alloc (.cells #[.slice none 0 0] 42)
  have kl := (Blk.new2 w (.cells #[.int .i64 most] 3) (.cells #[.int .i64 h] 3) 3 [.int .i64 L]).alloc (.cells #[.slice none 0 0] 42)
  have hstep : Hid (∀ i W, i < 2 ^ L + 13 → (i < most ∧ Gath w (w.heap.size + 1 + 1 + 1) w.heap.size (w.heap.size + 1 + 1 + 1 + 1) most (trRow h L i) W) →
      Calls Try.prog 79 (#[.int .i64 (trC h L i)] ++ #[.pointer (some ⟨w.heap.size + 1 + 1 + 1, 0, none⟩), .pointer (some ⟨w.heap.size, 0, none⟩)]) W fun e W' =>
        (e = .returned (.bool true) ∧ (i + 1 < most ∧ Gath w (w.heap.size + 1 + 1 + 1) w.heap.size (w.heap.size + 1 + 1 + 1 + 1) most (trRow h L (i + 1)) W')) ∨
        (e = .returned (.bool false) ∧ (i + 1 = most ∧ Gath w (w.heap.size + 1 + 1 + 1) w.heap.size (w.heap.size + 1 + 1 + 1 + 1) most (trRow h L (i + 1)) W'))) := by
    intro i W hi ⟨him, hg⟩
    refine (cells1_any (w.heap.size + 1 + 1 + 1) w.heap.size (w.heap.size + 1 + 1 + 1 + 1) (trC h L i) most (trRow h L i) w W (by omega) (by omega) (by omega) (by omega) hg (by rw [trRow_length]; exact him) hmost).mono ?_
    rintro e W' ⟨rfl, hg'⟩
    rw [← trRow_succ] at hg'
    rw [trRow_length]
    by_cases hm : i + 1 < most
    · exact .inl ⟨by rw [decide_eq_true hm], hm, hg'⟩
    · exact .inr ⟨by rw [decide_eq_false hm], by omega, hg'⟩
  have hq := eqlNilSeq
  go_enter Try.func23, Try.ntmps23
  go_wp2_with fail
  refine (all_any h L _).mono ?_
  rintro e w1 ⟨rfl, rfl⟩
  go_wp2_with fail
  refine (all1_any 79 _ _ _ h L hL _ _ call_cells1 hstep _ ⟨h0, hG⟩ (kl.cell rfl) (kh.cell rfl)).mono ?_
  rintro e w2 ⟨rfl, hend⟩
  have hfin : Gath w (w.heap.size + 1 + 1 + 1) w.heap.size (w.heap.size + 1 + 1 + 1 + 1) most (trRow h L (min (2 ^ L + 13) most)) w2 := by
    rcases hend with ⟨h1, h2⟩ | ⟨i, hi, h1, h2⟩
    · rw [Nat.min_eq_left (by omega)]; exact h2
    · have e : min (2 ^ L + 13) most = i + 1 := by omega
      rw [e]; exact h2
  clear hend hstep hG kh kl
  obtain ⟨_, hu, ⟨v, hl, ho⟩, _⟩ := hfin
  obtain ⟨va, vc, rfl⟩ := ownsRow_shape ho
  have hl0 := hl.cell (i := 0) rfl
  go_wp2_with fail
  go_ret2
  exact ⟨_, rfl, ⟨ho.1, ho.2.imp id (fun ⟨g, cap, cur, h1, h2, h3⟩ => ⟨g, cap, cur, h1, by omega, h3⟩)⟩, hu⟩

theorem cells_out (h L most : Int) (w : World) (hL : L < 0 ∨ 20 < L) :
    Calls Try.prog 23 #[.int .i64 h, .int .i64 L, .int .i64 most] w (ListsOk w []) := by
  have kl := (Blk.new2 w (.cells #[.int .i64 most] 3) (.cells #[.int .i64 h] 3) 3 [.int .i64 L]).alloc (.cells #[.slice none 0 0] 42)
  have hq := eqlNilSeq
  go_enter Try.func23, Try.ntmps23
  go_wp2_with fail
  refine (all_any h L _).mono ?_
  rintro e w1 ⟨rfl, rfl⟩
  go_wp2_with fail
  refine (all1_out _ _ _ L _ hL (kl.cell rfl)).mono ?_
  rintro e w2 ⟨rfl, rfl⟩
  go_wp2_with fail
  go_ret2
  exact ⟨_, rfl, World.ownsRow_nil _ _ _ _, ((((Upd.refl [] w).alloc _).alloc _).alloc _).alloc _⟩

/-- Two owned rows (or nil), read cell by cell. -/
def Reads (w : World) (xs : List Nat) (v : Value) : Prop := ∃ a cap, v = .slice a xs.length cap ∧ xs.length ≤ 4611686018427387904 ∧ ∀ i (hi : i < xs.length), ∃ b off, a = some ⟨b, off, none⟩ ∧ b < w.heap.size ∧ w.cell? ⟨b, off + i, none⟩ = some (.int .i64 (xs[i] : Int))

theorem same_yes (xs : List Nat) (a b : Value) (w : World) (ha : Reads w xs a) (hb : Reads w xs b) :
    Calls Try.prog 24 #[a, b] w fun e w' => e = .returned (.bool true) ∧ Upd [] w w' := by
  obtain ⟨aa, ac, rfl, hl, hca⟩ := ha
  obtain ⟨ba, bc, rfl, _, hcb⟩ := hb
  have hne : ((xs.length : Int) != (xs.length : Int)) = false := by simp
  go_enter Try.func24, Try.ntmps24
  go_wp2_with fail
  go_loopw [5] (fun i wr => ∃ k : Nat, k ≤ xs.length ∧ i = .int .i64 k ∧ Upd [] w wr) (fun i _ => xs.length - (intOf i).toNat)
  case atStart => exact ⟨0, Nat.zero_le _, rfl, Upd.refl _ _⟩
  case round =>
    obtain ⟨k, hk, rfl, hu⟩ := hrel
    by_cases hlt : k < xs.length
    · obtain ⟨b1, o1, rfl, hb1, x1⟩ := hca k hlt
      obtain ⟨b2, o2, rfl, hb2, x2⟩ := hcb k hlt
      have y1 := (hu.below.cell (p := ⟨b1, o1 + k, none⟩) hb1).trans x1
      have y2 := (hu.below.cell (p := ⟨b2, o2 + k, none⟩) hb2).trans x2
      have hlt' : (k : Int) < (xs.length : Int) := by omega
      generalize ((xs[k]'hlt : Nat) : Int) = z at y1 y2
      clear hca hcb x1 x2
      go_wp2_with fail
      go_quiet (fail)
      go_wp2_with fail
      go_roundw
      case rel => exact ⟨k + 1, by omega, by go_num, hu.drewN _⟩
      case measure => simp [intOf]; omega
    · go_wp2_with fail
      go_ret
      exact ⟨rfl, hu⟩

theorem Lists.reads {w w' : World} {xs : List Nat} {v : Value} (h : Lists w xs v w') (hl : xs.length ≤ 1000000) : Reads w' xs v := by
  obtain ⟨ho, _⟩ := h
  rcases ho.2 with ⟨rfl, h0⟩ | ⟨g, cap, cur, rfl, hg, hb, _⟩
  · have : xs = [] := List.eq_nil_of_length_eq_zero h0
    subst this
    exact ⟨none, 0, rfl, by simp, fun i hi => by simp at hi⟩
  · refine ⟨_, cap, rfl, by omega, fun i hi => ⟨g, 0, rfl, ?_, ?_⟩⟩
    · exact (Array.getElem?_eq_some_iff.1 hb).1
    · have := ho.cells (g := g) rfl i (.int .i64 (xs[i] : Int)) (by simp [ints, List.getElem?_eq_getElem hi])
      rw [plain_addr] at this
      exact this

theorem refAll_in (h : Int) (L most : Nat) (w : World) (hL : L ≤ 20) (hmost : most ≤ 1000000) :
    Calls Try.prog 25 #[.int .i64 h, .int .i64 L, .int .i64 most] w fun e w' => ∃ v, e = .returned v ∧ Lists w (trRow h L (min (2 ^ L + 13) most)) v w' := by
  have h1 : ¬ (L : Int) < 0 := by omega
  have h2 : ¬ (20 : Int) < (L : Int) := by omega
  obtain ⟨i0, hi, hz0, hz1, hz2⟩ := info_parts infoInt
  go_enter Try.func25, Try.ntmps25
  go_wp2_with (go_at_call 27; refine (refFirst_in h L _ hL).mono ?_; rintro e w' ⟨rfl, rfl⟩)
  rw [wrap_U]
  have hr := rounds_eq hL
  obtain ⟨N, hN⟩ : ∃ N : Nat, N = 2 ^ L + 13 := ⟨_, rfl⟩
  have hN' : N ≤ 1048589 := by have := pow_le20 hL; omega
  rw [← hN] at hr
  have HN := Lib.hid hN
  clear hN
  go_loopw [7, 8, 9, 10] (fun o c p i wr => ∃ k : Nat, k ≤ min N most ∧ i = .int .i64 k ∧ c = .int .i64 (trC h L k) ∧ p = .int .u64 (trP h k) ∧ Lists w (trRow h L k) o wr) (fun _ _ _ i _ => min N most - (intOf i).toNat)
  case atStart => exact ⟨0, Nat.zero_le _, rfl, rfl, by rw [trP_zero], World.ownsRow_nil _ _ _ _, Upd.refl _ _⟩
  case round =>
    obtain ⟨k, hk, rfl, rfl, rfl, ho, hu⟩ := hrel
    rw [trRow_length] at ho
    have hC := trC_lt20 h hL k
    have hP := trP_lt h k
    obtain ⟨va, vc, rfl⟩ := ownsRow_shape ho
    by_cases hlt : k < min N most
    · have l1 : (k : Int) < (N : Int) := by omega
      have l2 : (k : Int) < (most : Int) := by omega
      have hsz := hu.size
      go_wp2_with (at_builtin; refine wpList_append_own _ rfl _ _ 42 rfl w.heap.size 3 i0 (.int .i64 0) 1 8 Try.underlying42 hi hz0 hz1 hz2 rfl (by decide) _ _ _ rfl (ho.alloc _) ⟨wr.heap.size, 0, none⟩ 1 1 [.int .i64 (trC h L k)] rfl rfl ?c1 ?c2 ?c3 ?c4 ?c5 ?_)
      case c1 => exact cell_one_new _ _ _
      case c2 => intro u hu; simp at hu; subst hu; rfl
      case c3 => unfold maxLen; omega
      case c4 => omega
      case c5 => simp; omega
      intro v' w1 hown hgrow _
      have e1 := trRow_succ h L k
      have e2 : Lists w (trRow h L (k + 1)) v' w1 := ⟨by rw [trRow_length, e1]; simpa [ints] using hown, (hu.alloc _).grown hgrow (fun b hb => .inr (ho.lt b hb).1)⟩
      have e3 := trC_succ h L k
      have e4 := trP_succ h k
      have E3 := Lib.hid e3
      have E4 := Lib.hid e4
      clear e1 e3 e4 hown hgrow ho hu
      go_wp2_with (go_at_call 80; refine (refNext_any (trC h L k) (trP h k) L _ hL hC hP).mono ?_; rintro e w' ⟨rfl, rfl⟩)
      go_roundw
      case rel => exact ⟨k + 1, by omega, by go_num, by rw [E3.out], by rw [E4.out]; rfl, e2⟩
      case measure => simp [intOf]; omega
    · have hk' : k = min N most := by omega
      by_cases hkN : k < N
      · have l1 : (k : Int) < (N : Int) := by omega
        have l2 : ¬ (k : Int) < (most : Int) := by omega
        have Hk := Lib.hid hk'
        clear hk'
        go_wp2_with fail
        go_ret
        exact ⟨_, rfl, by rw [← HN.out, ← Hk.out, trRow_length]; exact ho, hu⟩
      · have l1 : ¬ (k : Int) < (N : Int) := by omega
        have Hk := Lib.hid hk'
        clear hk'
        go_wp2_with fail
        go_ret
        exact ⟨_, rfl, by rw [← HN.out, ← Hk.out, trRow_length]; exact ho, hu⟩
theorem refAll_out (h L most : Int) (w : World) (hL : L < 0 ∨ 20 < L) :
    Calls Try.prog 25 #[.int .i64 h, .int .i64 L, .int .i64 most] w fun e w' => ∃ v, e = .returned v ∧ Lists w [] v w' := by
  by_cases h1 : L < 0
  · go_enter Try.func25, Try.ntmps25
    go_wp2_with fail
    go_ret
    exact ⟨_, rfl, World.ownsRow_nil _ _ _ _, Upd.refl _ _⟩
  · have h2 : 20 < L := by omega
    clear hL
    go_enter Try.func25, Try.ntmps25
    go_wp2_with fail
    go_ret
    exact ⟨_, rfl, World.ownsRow_nil _ _ _ _, Upd.refl _ _⟩

theorem awake5 (w : World) : Calls Try.prog 30 #[] w fun e w' => e = .returned (.bool true) ∧ w = w' := by
  have h1 : trC (-1) 3 0 = 7 := by decide
  have h2 : trS 32 = 2 := by decide
  have hf := first_in (-1) 3 w (by omega)
  have hs := shifts_any 32 w
  rw [h1] at hf
  rw [h2] at hs
  clear h1 h2
  go_enter Try.func30, Try.ntmps30
  go_wp2_with (first | (go_at_call 26; refine hf.mono ?_; rintro e w' ⟨rfl, rfl⟩) | (go_at_call 28; refine hs.mono ?_; rintro e w' ⟨rfl, rfl⟩))
  go_ret
  exact ⟨rfl, rfl⟩

def trIn (L : Int) : Prop := 0 ≤ L ∧ L ≤ 20
instance (L : Int) : Decidable (trIn L) := by unfold trIn; exact inferInstance
def trList (h L most : Int) : List Nat := if trIn L then trRow h L.toNat (min (2 ^ L.toNat + 13) most.toNat) else []
def trFirst (h L : Int) : Int := if trIn L then trC h L.toNat 0 else 0

theorem trList_len (h L most : Int) (hm : most ≤ 1000000) : (trList h L most).length ≤ 1000000 := by
  unfold trList
  split
  · rw [trRow_length]; omega
  · simp

theorem cells_any (h L most : Int) (w : World) (h0 : 0 < most) (hmost : most ≤ 3000) :
    Calls Try.prog 23 #[.int .i64 h, .int .i64 L, .int .i64 most] w (ListsOk w (trList h L most)) := by
  obtain ⟨m, rfl⟩ := Int.eq_ofNat_of_zero_le (Int.le_of_lt h0)
  unfold trList
  by_cases hL : trIn L
  · rw [if_pos hL]
    obtain ⟨l, rfl⟩ := Int.eq_ofNat_of_zero_le hL.1
    exact cells_in h l m w (by have := hL.2; omega) (by omega) (by omega)
  · rw [if_neg hL]
    exact cells_out h L m w (by unfold trIn at hL; omega)
theorem refAll_any (h L most : Int) (w : World) (h0 : 0 < most) (hmost : most ≤ 1000000) :
    Calls Try.prog 25 #[.int .i64 h, .int .i64 L, .int .i64 most] w fun e w' => ∃ v, e = .returned v ∧ Lists w (trList h L most) v w' := by
  obtain ⟨m, rfl⟩ := Int.eq_ofNat_of_zero_le (Int.le_of_lt h0)
  unfold trList
  by_cases hL : trIn L
  · rw [if_pos hL]
    obtain ⟨l, rfl⟩ := Int.eq_ofNat_of_zero_le hL.1
    exact refAll_in h l m w (by have := hL.2; omega) (by omega)
  · rw [if_neg hL]
    exact refAll_out h L m w (by unfold trIn at hL; omega)
theorem first_any (h L : Int) (w : World) : Calls Try.prog 26 #[.int .i64 h, .int .i64 L] w fun e w' => e = .returned (.int .i64 (trFirst h L)) ∧ w = w' := by
  unfold trFirst
  by_cases hL : trIn L
  · rw [if_pos hL]
    obtain ⟨l, rfl⟩ := Int.eq_ofNat_of_zero_le hL.1
    exact first_in h l w (by have := hL.2; omega)
  · rw [if_neg hL]
    exact first_out h L w (by unfold trIn at hL; omega)
theorem refFirst_any (h L : Int) (w : World) : Calls Try.prog 27 #[.int .i64 h, .int .i64 L] w fun e w' => e = .returned (.int .i64 (trFirst h L)) ∧ w = w' := by
  unfold trFirst
  by_cases hL : trIn L
  · rw [if_pos hL]
    obtain ⟨l, rfl⟩ := Int.eq_ofNat_of_zero_le hL.1
    exact refFirst_in h l w (by have := hL.2; omega)
  · rw [if_neg hL]
    exact refFirst_out h L w (by unfold trIn at hL; omega)

theorem Reads.upd {w w' : World} {xs : List Nat} {v : Value} (h : Reads w xs v) (hu : Upd [] w w') : Reads w' xs v := by
  obtain ⟨a, cap, rfl, hl, hc⟩ := h
  refine ⟨a, cap, rfl, hl, fun i hi => ?_⟩
  obtain ⟨b, off, ha, hb, hcell⟩ := hc i hi
  exact ⟨b, off, ha, Nat.lt_of_lt_of_le hb hu.size, (hu.below.cell (p := ⟨b, off + i, none⟩) hb).trans hcell⟩
end Go.Proofs.Ytnaeehnnjhklbaa
