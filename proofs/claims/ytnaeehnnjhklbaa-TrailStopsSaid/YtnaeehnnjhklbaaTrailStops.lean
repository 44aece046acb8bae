/- The walk of TrailStops. -/
import Derived.Test.YtnaeehnnjhklbaaTrailLaw
import Derived.Deep.RegionWith
import Derived.Laws.EntriesVeiled
set_option linter.unusedVariables false
namespace Go.Proofs.Ytnaeehnnjhklbaa
open Go.RowKit

abbrev itV (bL bh : Nat) : Value := .func (.func 87) #[] #[.pointer (some ⟨bL, 0, none⟩), .pointer (some ⟨bh, 0, none⟩)]

/-- What stands while the trails are gone through, all of it below block number B. -/
structure Env (w0 : World) (B : Nat) (h : Int) (L : Nat) (stop : Int) (bs bw bh bL bi : Nat) (a : Option Addr) (cap : Nat) (W : World) : Prop where
  size : B ≤ W.heap.size
  lo : w0.heap.size ≤ B
  u : Upd [] w0 W
  ls : bs < B
  lw : bw < B
  lh : bh < B
  lL : bL < B
  li : bi < B
  s : Blk W bs 3 [.int .i64 stop]
  wt : Blk W bw 42 [.slice a (2 ^ L + 13) cap]
  rd : ∀ i, i < 2 ^ L + 13 → ∃ b off, a = some ⟨b, off, none⟩ ∧ b < B ∧ W.cell? ⟨b, off + i, none⟩ = some (.int .i64 (trC h L i : Int))
  hh : Blk W bh 3 [.int .i64 h]
  hL : Blk W bL 3 [.int .i64 L]
  it : Blk W bi 83 [itV bL bh]

variable {w0 : World} {B : Nat} {h : Int} {L : Nat} {stop : Int} {bs bw bh bL bi : Nat} {a : Option Addr} {cap : Nat} {W W' : World}

theorem Env.next {fp : List Nat} (E : Env w0 B h L stop bs bw bh bL bi a cap W) (hu : Upd fp W W') (hf : ∀ x ∈ fp, B ≤ x) : Env w0 B h L stop bs bw bh bL bi a cap W' where
  size := Nat.le_trans E.size hu.size
  lo := E.lo
  u := E.u.trans hu (fun x hx => .inr (Nat.le_trans E.lo (hf x hx)))
  ls := E.ls
  lw := E.lw
  lh := E.lh
  lL := E.lL
  li := E.li
  s := E.s.upd hu (fun hx => by have := hf _ hx; have := E.ls; omega)
  wt := E.wt.upd hu (fun hx => by have := hf _ hx; have := E.lw; omega)
  rd := fun i hi => by
    obtain ⟨b, off, ha, hb, hc⟩ := E.rd i hi
    exact ⟨b, off, ha, hb, (World.cell?_of_block (w := W) (a := ⟨b, off + i, none⟩) (hu.block b (Nat.lt_of_lt_of_le hb E.size) (fun hx => by have := hf _ hx; omega))).trans hc⟩
  hh := E.hh.upd hu (fun hx => by have := hf _ hx; have := E.lh; omega)
  hL := E.hL.upd hu (fun hx => by have := hf _ hx; have := E.lL; omega)
  it := E.it.upd hu (fun hx => by have := hf _ hx; have := E.li; omega)

/-- The inner closure: the k-th cell is held against the list's. -/
theorem stops11_any (E : Env w0 B h L stop bs bw bh bL bi a cap W) (bo bk k : Nat) (ho : B ≤ bo) (hk : B ≤ bk) (hne : bo ≠ bk) (hk3 : k < 3) (hLk : L ≤ 10)
    (hbo : Blk W bo 4 [.bool true]) (hbk : Blk W bk 3 [.int .i64 k]) :
    Calls Try.prog 47 #[.int .i64 (trC h L k), .pointer (some ⟨bo, 0, none⟩), .pointer (some ⟨bk, 0, none⟩), .pointer (some ⟨bw, 0, none⟩)] W fun e W' =>
      e = .returned (.bool (decide (k + 1 < 3))) ∧ Blk W' bo 4 [.bool true] ∧ Blk W' bk 3 [.int .i64 ((k + 1 : Nat) : Int)] ∧ Upd [bo, bk] W W' := by
  have hp : 0 < 2 ^ L := Nat.two_pow_pos L
  have hp2 : 2 ^ L ≤ 1024 := Nat.pow_le_pow_right (by omega) hLk
  obtain ⟨N, hN⟩ : ∃ N, N = 2 ^ L + 13 := ⟨_, rfl⟩
  obtain ⟨b, off, rfl, hb, hc⟩ := E.rd k (by omega)
  have w0c := E.wt.cell (i := 0) rfl
  rw [← hN] at w0c
  have hkN : (k : Int) < (N : Int) := by omega
  have hN3 : N ≤ 2000 := by omega
  have o0 := hbo.cell (i := 0) rfl
  have of := hbo.free
  have k0 := hbk.cell (i := 0) rfl
  have kf := hbk.free
  have hne' : ¬ bk = bo := fun e => hne e.symm
  have lw := E.lw
  have hbb : b ≠ bo := by omega
  have hbb' : bw ≠ bo := by omega
  have e1 : Blk ((W.setCell ⟨bo, 0, none⟩ (.bool true)).setCell ⟨bk, 0, none⟩ (.int .i64 ((k + 1 : Nat) : Int))) bo 4 [.bool true] := (hbo.set 0 _).other _ hne
  have e2 : Blk ((W.setCell ⟨bo, 0, none⟩ (.bool true)).setCell ⟨bk, 0, none⟩ (.int .i64 ((k + 1 : Nat) : Int))) bk 3 [.int .i64 ((k + 1 : Nat) : Int)] := (hbk.other _ (fun e => hne e.symm)).set 0 _
  have e3 := e2.cell (i := 0) rfl
  have hu := ((Upd.refl [bo, bk] W).setCell (p := ⟨bo, 0, none⟩) (.inl (by simp)) (.bool true)).setCell (p := ⟨bk, 0, none⟩) (.inl (by simp)) (.int .i64 ((k + 1 : Nat) : Int))
  clear hN
  go_enter Try.func47, Try.ntmps47
  go_wp2_with fail
  go_ret
  exact ⟨ret_bool (by rw [decide_eq_decide]; omega), e1, e2, hu⟩

theorem call_stops1 (args : Array Value) (w : World) : (callFunc 46 args).run Try.prog w = .ok (.enter 46 args) w := by
  simp [go_sem]
theorem call_stops11 (args : Array Value) (w : World) : (callFunc 47 args).run Try.prog w = .ok (.enter 47 args) w := by
  simp [go_sem]

/-- The trail gone through within itself: three cells. -/
theorem inner_run (E : Env w0 B h L stop bs bw bh bL bi a cap W) (bo bk : Nat) (ho : B ≤ bo) (hk : B ≤ bk) (hne : bo ≠ bk) (hLk : L ≤ 10)
    (hbo : Blk W bo 4 [.bool true]) (hbk : Blk W bk 3 [.int .i64 0]) :
    Calls Try.prog 87 #[.func (.func 47) #[] #[.pointer (some ⟨bo, 0, none⟩), .pointer (some ⟨bk, 0, none⟩), .pointer (some ⟨bw, 0, none⟩)], .pointer (some ⟨bL, 0, none⟩), .pointer (some ⟨bh, 0, none⟩)] W fun e W' =>
      e = .returned (.tuple #[]) ∧ Blk W' bo 4 [.bool true] ∧ Upd [bo, bk] W W' := by
  have hfp : ∀ x ∈ [bo, bk], B ≤ x := by intro x hx; simp at hx; omega
  have hstep : Hid (∀ (i : Nat) V, i < 2 ^ L + 13 → (i < 3 ∧ Blk V bo 4 [.bool true] ∧ Blk V bk 3 [.int .i64 (i : Int)] ∧ Upd [bo, bk] W V) →
      Calls Try.prog 47 (#[.int .i64 (trC h L i)] ++ #[.pointer (some ⟨bo, 0, none⟩), .pointer (some ⟨bk, 0, none⟩), .pointer (some ⟨bw, 0, none⟩)]) V fun e V' =>
        (e = .returned (.bool true) ∧ (i + 1 < 3 ∧ Blk V' bo 4 [.bool true] ∧ Blk V' bk 3 [.int .i64 ((i + 1 : Nat) : Int)] ∧ Upd [bo, bk] W V')) ∨
        (e = .returned (.bool false) ∧ (i + 1 = 3 ∧ Blk V' bo 4 [.bool true] ∧ Upd [bo, bk] W V'))) := by
    rintro i V hi ⟨h3, hb1, hb2, hu⟩
    refine (stops11_any (E.next hu hfp) bo bk i ho hk hne h3 hLk hb1 hb2).mono ?_
    rintro e V' ⟨rfl, c1, c2, c3⟩
    by_cases h4 : i + 1 < 3
    · exact .inl ⟨by rw [decide_eq_true h4], h4, c1, c2, hu.then c3⟩
    · exact .inr ⟨by rw [decide_eq_false h4], by omega, c1, hu.then c3⟩
  refine (all1_any 47 _ bL bh h L (by omega) _ _ call_stops11 hstep W ⟨by omega, hbo, hbk, Upd.refl _ _⟩ (E.hL.cell rfl) (E.hh.cell rfl)).mono ?_
  rintro e V ⟨rfl, ⟨h3, c1, c2, c3⟩ | ⟨i, hi, h3, c1, c3⟩⟩
  · have := Nat.two_pow_pos L
    omega
  · exact ⟨rfl, c1, c3⟩

/-- The outer closure: the i-th cell. -/
theorem stops1_any (E : Env w0 B h L stop bs bw bh bL bi a cap W) (bo bv bn i : Nat) (ho : B ≤ bo) (hv : B ≤ bv) (hn : B ≤ bn) (hov : bo ≠ bv) (hon : bo ≠ bn) (hvn : bv ≠ bn) (hLk : L ≤ 10)
    (hi : i < 2 ^ L + 13) (his : (i : Int) < stop)
    (hbo : Blk W bo 4 [.bool true]) (hbv : Blk W bv 4 [.bool false]) (hbn : Blk W bn 3 [.int .i64 i]) :
    Calls Try.prog 46 #[.int .i64 (trC h L i), .pointer (some ⟨bo, 0, none⟩), .pointer (some ⟨bv, 0, none⟩), .pointer (some ⟨bn, 0, none⟩), .pointer (some ⟨bw, 0, none⟩), .pointer (some ⟨bi, 0, none⟩), .pointer (some ⟨bs, 0, none⟩)] W fun e W' =>
      e = .returned (.bool (!decide ((i : Int) + 1 = stop))) ∧ Blk W' bo 4 [.bool true] ∧ Blk W' bv 4 [.bool (decide ((i : Int) + 1 = stop))] ∧ Blk W' bn 3 [.int .i64 ((i + 1 : Nat) : Int)] ∧ Upd [bo, bv, bn] W W' := by
  have hp : 0 < 2 ^ L := Nat.two_pow_pos L
  have hp2 : 2 ^ L ≤ 1024 := Nat.pow_le_pow_right (by omega) hLk
  obtain ⟨N, hN⟩ : ∃ N, N = 2 ^ L + 13 := ⟨_, rfl⟩
  obtain ⟨b, off, rfl, hb, hc⟩ := E.rd i (by omega)
  have w0c := E.wt.cell (i := 0) rfl
  rw [← hN] at w0c
  have hkN : (i : Int) < (N : Int) := by omega
  have hN3 : N ≤ 2000 := by omega
  have lw := E.lw
  have li := E.li
  have ls := E.ls
  have hbb : b ≠ bo := by omega
  have hbb' : bw ≠ bo := by omega
  have o0 := hbo.cell (i := 0) rfl
  have of := hbo.free
  have v0 := hbv.cell (i := 0) rfl
  have n0 := hbn.cell (i := 0) rfl
  -- behind the first statement
  have eo := hbo.set 0 (.bool true)
  have ev := hbv.other (a := ⟨bo, 0, none⟩) (.bool true) (by simp; omega)
  have en := hbn.other (a := ⟨bo, 0, none⟩) (.bool true) (by simp; omega)
  have eE := E.next ((Upd.refl [bo] W).setCell (p := ⟨bo, 0, none⟩) (.inl (by simp)) (.bool true)) (by simp; omega)
  have eu := (Upd.refl [bo, bv, bn] W).setCell (p := ⟨bo, 0, none⟩) (.inl (by simp)) (.bool true)
  clear hN
  have es := eE.s.cell (i := 0) rfl
  have fin : ∀ V, Blk V bo 4 [.bool true] → Blk V bv 4 [.bool false] → Blk V bn 3 [.int .i64 i] → Upd [bo, bv, bn] W V →
      Blk ((V.setCell ⟨bn, 0, none⟩ (.int .i64 ((i : Int) + 1))).setCell ⟨bv, 0, none⟩ (.bool (decide ((i : Int) + 1 = stop)))) bo 4 [.bool true] ∧
      Blk ((V.setCell ⟨bn, 0, none⟩ (.int .i64 ((i : Int) + 1))).setCell ⟨bv, 0, none⟩ (.bool (decide ((i : Int) + 1 = stop)))) bv 4 [.bool (decide ((i : Int) + 1 = stop))] ∧
      Blk ((V.setCell ⟨bn, 0, none⟩ (.int .i64 ((i : Int) + 1))).setCell ⟨bv, 0, none⟩ (.bool (decide ((i : Int) + 1 = stop)))) bn 3 [.int .i64 ((i + 1 : Nat) : Int)] ∧
      Upd [bo, bv, bn] W ((V.setCell ⟨bn, 0, none⟩ (.int .i64 ((i : Int) + 1))).setCell ⟨bv, 0, none⟩ (.bool (decide ((i : Int) + 1 = stop)))) := by
    intro V c1 c2 c3 c4
    refine ⟨(c1.other _ (by simp; omega)).other _ (by simp; omega), (c2.other _ (by simp; omega)).set 0 _, ?_, (c4.setCell (.inl (by simp)) _).setCell (.inl (by simp)) _⟩
    have := (c3.set 0 (.int .i64 ((i : Int) + 1))).other (a := ⟨bv, 0, none⟩) (.bool (decide ((i : Int) + 1 = stop))) (by simp; omega)
    simpa using this
  by_cases h1 : (i : Int) = 1
  · obtain rfl : i = 1 := by omega
    have ei : (W.setCell ⟨bo, 0, none⟩ (.bool true)).cell? ⟨bi, 0, none⟩ = some (itV bL bh) := eE.it.cell rfl
    have en0 := en.cell (i := 0) rfl
    have hli : bi < W.heap.size := Nat.lt_of_lt_of_le li E.size
    have hK := (Blk.new (W.setCell ⟨bo, 0, none⟩ (.bool true)) 3 [.int .i64 0])
    rw [World.size_setCell] at hK
    have eE2 := eE.next ((Upd.refl [] _).alloc (.cells #[.int .i64 0] 3)) (by simp)
    have eo2 := Blk.alloc eo (.cells #[.int .i64 0] 3)
    have ev2 := Blk.alloc ev (.cells #[.int .i64 0] 3)
    have en2 := Blk.alloc en (.cells #[.int .i64 0] 3)
    have eu2 := eu.alloc (.cells #[.int .i64 0] 3)
    have hbol := hbo.lt
    have hbvl := hbv.lt
    have hbnl := hbn.lt
    have hEs := E.size
    clear h1
    go_enter Try.func46, Try.ntmps46
    go_wp2_with fail
    refine (inner_run eE2 bo W.heap.size ho hEs (by omega) hLk eo2 hK).mono ?_
    rintro e V ⟨rfl, c1, c3⟩
    have d2 := ev2.upd c3 (by simp; omega)
    have d3 := en2.upd c3 (by simp; omega)
    have d4 := eu2.trans c3 (fun x hx => by simp at hx; rcases hx with rfl | rfl; exact .inl (by simp); exact .inr (Nat.le_refl _))
    have dE := eE2.next c3 (by simp; omega)
    have F := fin V c1 d2 d3 d4
    have x0 := c1.cell (i := 0) rfl
    have x1 := d2.cell (i := 0) rfl
    have x2 := d3.cell (i := 0) rfl
    have x3 := d2.free
    have x4 := d3.free
    have x5 := dE.s.cell (i := 0) rfl
    have hvn' : ¬ bn = bo := fun e => hon e.symm
    have hbs : bs ≠ bn := by omega
    clear fin eE2 eo2 ev2 en2 eu2 hK eE eo ev en eu es ei en0 c1 c3 d2 d3 d4 dE
    go_wp2_with fail
    go_ret
    exact ⟨rfl, F⟩
  · have h1' : ((i : Int) == 1) = false := by simpa using h1
    have F := fin _ eo ev en eu
    have s1 := (ev.other (a := ⟨bn, 0, none⟩) (.int .i64 ((i : Int) + 1)) (by simp; omega)).cell (i := 0) rfl
    go_enter Try.func46, Try.ntmps46
    have x2 := en.cell (i := 0) rfl
    have x1 := ev.cell (i := 0) rfl
    have x0 := eo.cell (i := 0) rfl
    have hbs : bs ≠ bn := by omega
    have fv := hbv.free
    have fn := hbn.free
    clear fin eE eo ev en eu h1
    go_wp2_with fail
    go_ret
    exact ⟨rfl, F⟩

/-- One turn: the trail gone through, left behind cell number stop, or at its end. -/
theorem outer_run (E : Env w0 B h L stop bs bw bh bL bi a cap W) (bo bv bn : Nat) (ho : B ≤ bo) (hv : B ≤ bv) (hn : B ≤ bn) (hov : bo ≠ bv) (hon : bo ≠ bn) (hvn : bv ≠ bn) (hLk : L ≤ 10) (h1 : 1 ≤ stop)
    (hbo : Blk W bo 4 [.bool true]) (hbv : Blk W bv 4 [.bool false]) (hbn : Blk W bn 3 [.int .i64 0]) :
    Calls Try.prog 87 #[.func (.func 46) #[] #[.pointer (some ⟨bo, 0, none⟩), .pointer (some ⟨bv, 0, none⟩), .pointer (some ⟨bn, 0, none⟩), .pointer (some ⟨bw, 0, none⟩), .pointer (some ⟨bi, 0, none⟩), .pointer (some ⟨bs, 0, none⟩)], .pointer (some ⟨bL, 0, none⟩), .pointer (some ⟨bh, 0, none⟩)] W fun e W' =>
      e = .returned (.tuple #[]) ∧ Blk W' bo 4 [.bool true] ∧ (∃ n : Nat, ((n : Int) = stop ∨ n = 2 ^ L + 13) ∧ n ≤ 2000 ∧ Blk W' bn 3 [.int .i64 (n : Int)]) ∧ Upd [bo, bv, bn] W W' := by
  have hp2 : 2 ^ L ≤ 1024 := Nat.pow_le_pow_right (by omega) hLk
  have hfp : ∀ x ∈ [bo, bv, bn], B ≤ x := by intro x hx; simp at hx; omega
  have hstep : Hid (∀ (i : Nat) V, i < 2 ^ L + 13 → ((i : Int) < stop ∧ Blk V bo 4 [.bool true] ∧ Blk V bv 4 [.bool false] ∧ Blk V bn 3 [.int .i64 (i : Int)] ∧ Upd [bo, bv, bn] W V) →
      Calls Try.prog 46 (#[.int .i64 (trC h L i)] ++ #[.pointer (some ⟨bo, 0, none⟩), .pointer (some ⟨bv, 0, none⟩), .pointer (some ⟨bn, 0, none⟩), .pointer (some ⟨bw, 0, none⟩), .pointer (some ⟨bi, 0, none⟩), .pointer (some ⟨bs, 0, none⟩)]) V fun e V' =>
        (e = .returned (.bool true) ∧ (((i + 1 : Nat) : Int) < stop ∧ Blk V' bo 4 [.bool true] ∧ Blk V' bv 4 [.bool false] ∧ Blk V' bn 3 [.int .i64 ((i + 1 : Nat) : Int)] ∧ Upd [bo, bv, bn] W V')) ∨
        (e = .returned (.bool false) ∧ (((i + 1 : Nat) : Int) = stop ∧ Blk V' bo 4 [.bool true] ∧ Blk V' bn 3 [.int .i64 ((i + 1 : Nat) : Int)] ∧ Upd [bo, bv, bn] W V'))) := by
    rintro i V hi ⟨h3, hb1, hb2, hb3, hu⟩
    refine (stops1_any (E.next hu hfp) bo bv bn i ho hv hn hov hon hvn hLk hi h3 hb1 hb2 hb3).mono ?_
    rintro e V' ⟨rfl, c1, c2, c3, c4⟩
    by_cases h4 : (i : Int) + 1 = stop
    · exact .inr ⟨by rw [decide_eq_true h4]; rfl, by omega, c1, c3, hu.then c4⟩
    · rw [decide_eq_false h4] at c2
      exact .inl ⟨by rw [decide_eq_false h4]; rfl, by omega, c1, c2, c3, hu.then c4⟩
  refine (all1_any 46 _ bL bh h L (by omega) _ _ call_stops1 hstep W ⟨by omega, hbo, hbv, hbn, Upd.refl _ _⟩ (E.hL.cell rfl) (E.hh.cell rfl)).mono ?_
  rintro e V ⟨rfl, ⟨h3, c1, c2, c3, c4⟩ | ⟨i, hi, h3, c1, c3, c4⟩⟩
  · exact ⟨rfl, c1, ⟨_, .inr rfl, by omega, c3⟩, c4⟩
  · exact ⟨rfl, c1, ⟨i + 1, .inl h3, by omega, c3⟩, c4⟩

theorem env_start (w W2 : World) (h : Int) (L : Nat) (st : Int) (bs : Nat) (a : Option Addr) (cap : Nat) (hs : Blk W2 bs 3 [.int .i64 st]) (hu : Upd [] w W2)
    (hl : ∀ i, i < 2 ^ L + 13 → ∃ b off, a = some ⟨b, off, none⟩ ∧ b < W2.heap.size ∧ W2.cell? ⟨b, off + i, none⟩ = some (.int .i64 (trC h L i : Int))) :
    Env w (W2.heap.size + 1 + 1 + 1 + 1) h L st bs W2.heap.size (W2.heap.size + 1) (W2.heap.size + 1 + 1) (W2.heap.size + 1 + 1 + 1) a cap
      ((((W2.alloc (.cells #[.slice a (2 ^ L + 13) cap] 42)).alloc (.cells #[.int .i64 h] 3)).alloc (.cells #[.int .i64 L] 3)).alloc (.cells #[itV (W2.heap.size + 1 + 1) (W2.heap.size + 1)] 83)) where
  size := by simp
  lo := by have := hu.size; omega
  u := (((hu.alloc _).alloc _).alloc _).alloc _
  ls := by have := hs.lt; omega
  lw := by omega
  lh := by omega
  lL := by omega
  li := by omega
  s := (((hs.alloc _).alloc _).alloc _).alloc _
  wt := (((Blk.new W2 _ _).alloc _).alloc _).alloc _
  rd := fun i hi => by
    obtain ⟨b, off, ha, hb, hc⟩ := hl i hi
    refine ⟨b, off, ha, by omega, ?_⟩
    exact (World.cell?_of_block (w := W2) (a := ⟨b, off + i, none⟩) (((((Upd.refl [] W2).alloc _).alloc _).alloc _).alloc _ |>.block b hb (by simp))).trans hc
  hh := ((Blk.new1 W2 _ _ _).alloc _).alloc _
  hL := (Blk.new2 W2 _ _ _ _).alloc _
  it := Blk.new3 W2 _ _ _ _ _

theorem Lists.far {w w' : World} {xs : List Nat} {v : Value} (h : Lists w xs v w') : ∃ a cap, v = .slice a xs.length cap ∧ ∀ i (hi : i < xs.length), ∃ b off, a = some ⟨b, off, none⟩ ∧ w.heap.size ≤ b ∧ b < w'.heap.size ∧ w'.cell? ⟨b, off + i, none⟩ = some (.int .i64 (xs[i] : Int)) := by
  obtain ⟨ho, _⟩ := h
  rcases ho.2 with ⟨rfl, h0⟩ | ⟨g, cap, cur, rfl, hg, hb, _⟩
  · have : xs = [] := List.eq_nil_of_length_eq_zero h0
    subst this
    exact ⟨none, 0, rfl, fun i hi => by simp at hi⟩
  · refine ⟨_, cap, rfl, fun i hi => ⟨g, 0, rfl, hg, (Array.getElem?_eq_some_iff.1 hb).1, ?_⟩⟩
    have := ho.cells (g := g) rfl i (.int .i64 (xs[i] : Int)) (by simp [ints, List.getElem?_eq_getElem hi])
    rw [plain_addr] at this
    exact this

set_option maxHeartbeats 4000000 in
theorem trailStops_in (h : Int) (L : Nat) (stop : Int) (w : World) (hL : L ≤ 10) :
    Calls Try.prog 8 #[.int .i64 h, .int .i64 L, .int .i64 stop] w (OkV w) := by
  have h1 : ¬ (L : Int) < 0 := by omega
  have h2 : ¬ (10 : Int) < (L : Int) := by omega
  obtain ⟨S, hS⟩ : ∃ S : Nat, S = 2 ^ L := ⟨_, rfl⟩
  have hS1 : S ≤ 1024 := by rw [hS]; exact Nat.pow_le_pow_right (by omega) hL
  have hS0 : 0 < S := by rw [hS]; exact Nat.two_pow_pos L
  have hw : wrap64 (2 ^ L) = (S : Int) := by rw [pow_cast, ← hS]; unfold wrap64; omega
  have hlist : trList h L ((S : Int) + 13) = trRow h L (S + 13) := by
    have hin : trIn (L : Int) := ⟨by omega, by omega⟩
    have e : ((S : Int) + 13).toNat = S + 13 := by clear hw; omega
    unfold trList
    rw [if_pos hin, Int.toNat_natCast, e, ← hS, Nat.min_self]
  have HS := Lib.hid hS
  have Hlist := Lib.hid hlist
  have hs0 := Blk.new w 3 [.int .i64 stop]
  have hu0 := (Upd.refl [] w).alloc (.cells #[.int .i64 stop] 3)
  have hq := eqlNilSeq
  clear hS hlist
  go_enter Try.func8, Try.ntmps8
  go_wp2_with fail
  refine (refAll_any h L ((S : Int) + 13) _ (by omega) (by omega)).mono ?_
  rintro e w1 ⟨v1, rfl, hl1⟩
  rw [Hlist.out] at hl1
  have hu1 := hl1.2
  obtain ⟨va, vc, rfl, hfar⟩ := hl1.far
  clear hl1
  have hfar' : ∀ i, i < S + 13 → ∃ b off, va = some ⟨b, off, none⟩ ∧ w.heap.size < b ∧ b < w1.heap.size ∧ w1.cell? ⟨b, off + i, none⟩ = some (.int .i64 (trC h L i : Int)) := by
    intro i hi
    obtain ⟨b, off, e, hb1, hb2, hc⟩ := hfar i (by rw [trRow_length]; exact hi)
    exact ⟨b, off, e, by simp at hb1; omega, hb2, by simpa [trRow] using hc⟩
  rw [trRow_length]
  have hs1 := hs0.upd hu1 (by simp)
  have hsl : w.heap.size < w1.heap.size := hs1.lt
  have hs1c := hs1.cell (i := 0) rfl
  have hs1f := hs1.free
  have hW1 := hu0.then hu1
  have Hf := Lib.hid hfar'
  clear hs0 hu0 hu1 hfar hfar'
  obtain ⟨st, W2, hst1, hsW2, hW2, hlW2, hcase⟩ : ∃ (st : Int) (W2 : World), 1 ≤ st ∧ Blk W2 w.heap.size 3 [.int .i64 st] ∧ Upd [] w W2 ∧
      (∀ i, i < S + 13 → ∃ b off, va = some ⟨b, off, none⟩ ∧ b < W2.heap.size ∧ W2.cell? ⟨b, off + i, none⟩ = some (.int .i64 (trC h L i : Int))) ∧
      ((stop < 1 ∧ st = 1 ∧ W2 = w1.setCell ⟨w.heap.size, 0, none⟩ (.int .i64 1)) ∨ (¬ stop < 1 ∧ st = stop ∧ W2 = w1)) := by
    by_cases hst : stop < 1
    · refine ⟨1, _, by omega, hs1.set 0 _, hW1.setCell (.inr (Nat.le_refl _)) _, fun i hi => ?_, .inl ⟨hst, rfl, rfl⟩⟩
      obtain ⟨b, off, e, hb1, hb2, hc⟩ := Hf.out i hi
      refine ⟨b, off, e, by simpa using hb2, ?_⟩
      rw [World.cell?_setCell_other _ _ _ _ (by simp <;> omega)]
      exact hc
    · refine ⟨stop, _, by omega, hs1, hW1, fun i hi => ?_, .inr ⟨hst, rfl, rfl⟩⟩
      obtain ⟨b, off, e, hb1, hb2, hc⟩ := Hf.out i hi
      exact ⟨b, off, e, hb2, hc⟩
  rw [HS.out] at hlW2
  have E0 := env_start w W2 h L st w.heap.size va vc hsW2 hW2 hlW2
  rw [← HS.out] at E0
  have HE0 := Lib.hid E0
  clear hlW2 hs1 hW1 E0 Hf
  rcases hcase with ⟨hst, rfl, rfl⟩ | ⟨hst, rfl, rfl⟩
  · go_wp2_with fail
    refine (all_any h L _).mono ?_
    rintro e w2 ⟨rfl, rfl⟩
    go_wp2_with fail
    have E0 := HE0.out
    try simp only [World.size_setCell] at E0
    obtain ⟨B, hB⟩ : ∃ B, B = w1.heap.size + 1 + 1 + 1 + 1 := ⟨_, rfl⟩
    obtain ⟨bw, hbw⟩ : ∃ bw, bw = w1.heap.size := ⟨_, rfl⟩
    obtain ⟨bi, hbi⟩ : ∃ bi, bi = w1.heap.size + 1 + 1 + 1 := ⟨_, rfl⟩
    obtain ⟨bL, hbL⟩ : ∃ bL, bL = w1.heap.size + 1 + 1 := ⟨_, rfl⟩
    obtain ⟨bh, hbh⟩ : ∃ bh, bh = w1.heap.size + 1 := ⟨_, rfl⟩
    rw [← hB, ← hbi, ← hbL, ← hbh] at E0
    rw [← hbi, ← hbL, ← hbh]
    rw [← hbw] at E0
    rw [show (w1.heap.size) = bw from hbw.symm]
    have lo := E0.lo
    have hN0 := trS_le h
    clear hB hbw hbi hbL hbh HE0 hs1c hs1f hsW2 hW2 hsl hN0
    go_loopw [6, 9, 10, 11, 12] (fun _ t _ _ _ wr => ∃ n : Nat, n ≤ 2 ∧ t = .int .i64 n ∧ Env w B h L 1 w.heap.size bw bh bL bi va vc wr) (fun _ t _ _ _ _ => 2 - (intOf t).toNat)
    case atStart => exact ⟨0, by omega, rfl, E0⟩
    case round =>
      obtain ⟨t, ht, rfl, E⟩ := hrel
      clear E0
      by_cases hlt : t < 2
      · have hsz := E.size
        have kn := ((Blk.new wr 3 [.int .i64 0]).alloc (.cells #[.bool true] 4)).alloc (.cells #[.bool false] 4)
        have ko := (Blk.new1 wr (.cells #[.int .i64 0] 3) 4 [.bool true]).alloc (.cells #[.bool false] 4)
        have kv := Blk.new2 wr (.cells #[.int .i64 0] 3) (.cells #[.bool true] 4) 4 [.bool false]
        have EV := E.next ((((Upd.refl [] wr).alloc (.cells #[.int .i64 0] 3)).alloc (.cells #[.bool true] 4)).alloc (.cells #[.bool false] 4)) (by simp)
        have i0 := EV.it.cell (i := 0) rfl
        have i1 := E.it.cell (i := 0) rfl
        have l1 : bi < wr.heap.size + 1 := by have := E.li; omega
        have l2 : bi < wr.heap.size + 1 + 1 := by have := E.li; omega
        have hbi := E.li
        have hbi' : bi < wr.heap.size := by omega
        go_wp2_with fail
        refine (outer_run EV (wr.heap.size + 1) (wr.heap.size + 1 + 1) wr.heap.size (by omega) (by omega) (by omega) (by omega) (by omega) (by omega) hL hst1 ko kv kn).mono ?_
        rintro e V ⟨rfl, c1, ⟨n, hn, hn2, c2⟩, c3⟩
        have EE := EV.next c3 (by simp; omega)
        have x1 := c1.cell (i := 0) rfl
        have x2 := c2.cell (i := 0) rfl
        have x3 := EE.s.cell (i := 0) rfl
        have x4 := EE.wt.cell (i := 0) rfl
        rw [← HS.out] at x4
        clear c1 c2 c3 EV kn ko kv E
        rcases hn with hn | hn
        · have b1 : ((n : Int) != 1) = false := by simp [hn]
          clear hn
          go_wp2_with fail
          go_roundw
          case rel => exact ⟨t + 1, by omega, by go_num, EE⟩
          case measure => simp [intOf]; omega
        · have b1 : ((n : Int) != (S : Int) + 13) = false := by have := HS.out; simp; omega
          clear hn
          by_cases hns : (n : Int) = 1
          · have b2 : ((n : Int) != 1) = false := by simp [hns]
            clear hns
            go_wp2_with fail
            go_roundw
            case rel => exact ⟨t + 1, by omega, by go_num, EE⟩
            case measure => simp [intOf]; omega
          · have b2 : ((n : Int) != 1) = true := by simp [hns]
            clear hns
            go_wp2_with fail
            go_roundw
            case rel => exact ⟨t + 1, by omega, by go_num, EE⟩
            case measure => simp [intOf]; omega
      · go_wp2_with (go_at_call 30; refine (awake5 _).mono ?_; rintro e w' ⟨rfl, rfl⟩)
        go_ret
        exact ⟨rfl, E.u⟩
  · go_wp2_with fail
    refine (all_any h L _).mono ?_
    rintro e w2 ⟨rfl, rfl⟩
    go_wp2_with fail
    have E0 := HE0.out
    try simp only [World.size_setCell] at E0
    obtain ⟨B, hB⟩ : ∃ B, B = W2.heap.size + 1 + 1 + 1 + 1 := ⟨_, rfl⟩
    obtain ⟨bw, hbw⟩ : ∃ bw, bw = W2.heap.size := ⟨_, rfl⟩
    obtain ⟨bi, hbi⟩ : ∃ bi, bi = W2.heap.size + 1 + 1 + 1 := ⟨_, rfl⟩
    obtain ⟨bL, hbL⟩ : ∃ bL, bL = W2.heap.size + 1 + 1 := ⟨_, rfl⟩
    obtain ⟨bh, hbh⟩ : ∃ bh, bh = W2.heap.size + 1 := ⟨_, rfl⟩
    rw [← hB, ← hbi, ← hbL, ← hbh] at E0
    rw [← hbi, ← hbL, ← hbh]
    rw [← hbw] at E0
    rw [show (W2.heap.size) = bw from hbw.symm]
    have lo := E0.lo
    have hN0 := trS_le h
    clear hB hbw hbi hbL hbh HE0 hs1c hs1f hsW2 hW2 hsl hN0
    go_loopw [6, 9, 10, 11, 12] (fun _ t _ _ _ wr => ∃ n : Nat, n ≤ 2 ∧ t = .int .i64 n ∧ Env w B h L st w.heap.size bw bh bL bi va vc wr) (fun _ t _ _ _ _ => 2 - (intOf t).toNat)
    case atStart => exact ⟨0, by omega, rfl, E0⟩
    case round =>
      obtain ⟨t, ht, rfl, E⟩ := hrel
      clear E0
      by_cases hlt : t < 2
      · have hsz := E.size
        have kn := ((Blk.new wr 3 [.int .i64 0]).alloc (.cells #[.bool true] 4)).alloc (.cells #[.bool false] 4)
        have ko := (Blk.new1 wr (.cells #[.int .i64 0] 3) 4 [.bool true]).alloc (.cells #[.bool false] 4)
        have kv := Blk.new2 wr (.cells #[.int .i64 0] 3) (.cells #[.bool true] 4) 4 [.bool false]
        have EV := E.next ((((Upd.refl [] wr).alloc (.cells #[.int .i64 0] 3)).alloc (.cells #[.bool true] 4)).alloc (.cells #[.bool false] 4)) (by simp)
        have i0 := EV.it.cell (i := 0) rfl
        have i1 := E.it.cell (i := 0) rfl
        have l1 : bi < wr.heap.size + 1 := by have := E.li; omega
        have l2 : bi < wr.heap.size + 1 + 1 := by have := E.li; omega
        have hbi := E.li
        have hbi' : bi < wr.heap.size := by omega
        go_wp2_with fail
        refine (outer_run EV (wr.heap.size + 1) (wr.heap.size + 1 + 1) wr.heap.size (by omega) (by omega) (by omega) (by omega) (by omega) (by omega) hL hst1 ko kv kn).mono ?_
        rintro e V ⟨rfl, c1, ⟨n, hn, hn2, c2⟩, c3⟩
        have EE := EV.next c3 (by simp; omega)
        have x1 := c1.cell (i := 0) rfl
        have x2 := c2.cell (i := 0) rfl
        have x3 := EE.s.cell (i := 0) rfl
        have x4 := EE.wt.cell (i := 0) rfl
        rw [← HS.out] at x4
        clear c1 c2 c3 EV kn ko kv E
        rcases hn with hn | hn
        · have b1 : ((n : Int) != st) = false := by simp [hn]
          clear hn
          go_wp2_with fail
          go_roundw
          case rel => exact ⟨t + 1, by omega, by go_num, EE⟩
          case measure => simp [intOf]; omega
        · have b1 : ((n : Int) != (S : Int) + 13) = false := by have := HS.out; simp; omega
          clear hn
          by_cases hns : (n : Int) = st
          · have b2 : ((n : Int) != st) = false := by simp [hns]
            clear hns
            go_wp2_with fail
            go_roundw
            case rel => exact ⟨t + 1, by omega, by go_num, EE⟩
            case measure => simp [intOf]; omega
          · have b2 : ((n : Int) != st) = true := by simp [hns]
            clear hns
            go_wp2_with fail
            go_roundw
            case rel => exact ⟨t + 1, by omega, by go_num, EE⟩
            case measure => simp [intOf]; omega
      · go_wp2_with (go_at_call 30; refine (awake5 _).mono ?_; rintro e w' ⟨rfl, rfl⟩)
        go_ret
        exact ⟨rfl, E.u⟩

theorem trailStops_walk (h : Int) (L : Int) (stop : Int) (w : World) (_ : (Lit.int .i64 h).wf = true) (_ : (Lit.int .i64 L).wf = true) (_ : (Lit.int .i64 stop).wf = true) :
    Calls Try.prog 8 #[.int .i64 h, .int .i64 L, .int .i64 stop] w (OkV w) := by
  by_cases h1 : L < 0
  · go_enter Try.func8, Try.ntmps8
    go_wp2_with (go_at_call 30; refine (awake5 _).mono ?_; rintro e w' ⟨rfl, rfl⟩)
    go_ret
    exact ⟨rfl, (Upd.refl _ _).alloc _⟩
  by_cases h2 : 10 < L
  · go_enter Try.func8, Try.ntmps8
    go_wp2_with (go_at_call 30; refine (awake5 _).mono ?_; rintro e w' ⟨rfl, rfl⟩)
    go_ret
    exact ⟨rfl, (Upd.refl _ _).alloc _⟩
  obtain ⟨l, rfl⟩ := Int.eq_ofNat_of_zero_le (show 0 ≤ L by omega)
  exact trailStops_in h l stop w (by omega)
end Go.Proofs.Ytnaeehnnjhklbaa
