/- The walks of All, of its closure, and of the law's goes. -/
import Derived.Test.YtnaeehnnjhklbaaCellsPlays
import Derived.Deep.RegionHeld3
import Derived.Laws.EntriesVeiled
set_option linter.unusedVariables false
namespace Go.Proofs.Ytnaeehnnjhklbaa
open Go.RowKit

/-- A slice of n integers reads as f. -/
def Nums (w : World) (a : Option Addr) (n : Nat) (f : Nat → Int) : Prop :=
  n = 0 ∨ ∃ b off, a = some ⟨b, off, none⟩ ∧ b < w.heap.size ∧ ∀ i, i < n → w.cell? ⟨b, off + i, none⟩ = some (.int .i64 (f i))
theorem Nums.upd {w w' : World} {fp : List Nat} {a : Option Addr} {n : Nat} {f : Nat → Int} (h : Nums w a n f) (hu : Upd fp w w') (hn : ∀ b off, a = some ⟨b, off, none⟩ → b ∉ fp) : Nums w' a n f := by
  rcases h with h | ⟨b, off, e, hb, hc⟩
  · exact .inl h
  · exact .inr ⟨b, off, e, Nat.lt_of_lt_of_le hb hu.size, fun i hi => (World.cell?_of_block (w := w) (a := ⟨b, off + i, none⟩) (hu.block b hb (hn b off e))).trans (hc i hi)⟩
theorem Nums.row {w : World} {g n : Nat} {f : Nat → Int} {t : TypeId} (h : w.rowIs g t n (fun i => .int .i64 (f i))) : Nums w (some ⟨g, 0, none⟩) n f :=
  .inr ⟨g, 0, rfl, h.lt, fun i hi => by simpa using h.cell hi⟩

abbrev allV (B : Nat) : Value := .func (.func 97) #[] #[.pointer (some ⟨B, 0, none⟩)]
structure AllAt (w : World) (B g n : Nat) (f : Nat → Int) : Prop where
  b : Blk w B 42 [.slice (some ⟨g, 0, none⟩) n n]
  r : w.rowIs g 3 n (fun i => .int .i64 (f i))
theorem AllAt.upd {w w' : World} {B g n : Nat} {f : Nat → Int} {fp : List Nat} (h : AllAt w B g n f) (hu : Upd fp w w') (hb : B ∉ fp) (hg : g ∉ fp) : AllAt w' B g n f :=
  ⟨h.b.upd hu hb, rowIs_upd h.r hu hg⟩

/-- What the law's closure has before it: H: the list; H+1: the stop; H+2: how many; H+3: ok; H+4: over. -/
structure GoSt (w0 W : World) (H : Nat) (a : Option Addr) (N cap : Nat) (f : Nat → Int) (stop : Int) (k : Nat) (over : Bool) : Prop where
  l : Blk W H 42 [.slice a N cap]
  s : Blk W (H + 1) 3 [.int .i64 stop]
  n : Blk W (H + 1 + 1) 3 [.int .i64 k]
  o : Blk W (H + 1 + 1 + 1) 4 [.bool true]
  v : Blk W (H + 1 + 1 + 1 + 1) 4 [.bool over]
  rd : Nums W a N f
  lt : ∀ b off, a = some ⟨b, off, none⟩ → 0 < N → b < H
  u : Upd [H + 1 + 1, H + 1 + 1 + 1, H + 1 + 1 + 1 + 1] w0 W

theorem GoSt.next {w0 W : World} {H : Nat} {a : Option Addr} {N cap : Nat} {f : Nat → Int} {stop : Int} {k : Nat} {over : Bool} (h : GoSt w0 W H a N cap f stop k over) (hk : k < N) (ov : Bool) :
    GoSt w0 (((W.setCell ⟨H + 1 + 1 + 1, 0, none⟩ (.bool true)).setCell ⟨H + 1 + 1, 0, none⟩ (.int .i64 ((k : Int) + 1))).setCell ⟨H + 1 + 1 + 1 + 1, 0, none⟩ (.bool ov)) H a N cap f stop (k + 1) ov where
  l := ((h.l.other _ (by simp; omega)).other _ (by simp; omega)).other _ (by simp; omega)
  s := ((h.s.other _ (by simp)).other _ (by simp)).other _ (by simp)
  n := ((h.n.other _ (by simp)).set 0 _).other _ (by simp)
  o := ((h.o.set 0 _).other _ (by simp)).other _ (by simp)
  v := ((h.v.other _ (by simp)).other _ (by simp; omega)).set 0 _
  rd := h.rd.upd ((((Upd.refl [H + 1 + 1, H + 1 + 1 + 1, H + 1 + 1 + 1 + 1] W).setCell (p := ⟨H + 1 + 1 + 1, 0, none⟩) (.inl (by simp)) _).setCell (p := ⟨H + 1 + 1, 0, none⟩) (.inl (by simp)) _).setCell (p := ⟨H + 1 + 1 + 1 + 1, 0, none⟩) (.inl (by simp)) _)
    (fun b off e => by have := h.lt b off e (by omega); simp; omega)
  lt := h.lt
  u := ((h.u.setCell (p := ⟨H + 1 + 1 + 1, 0, none⟩) (.inl (by simp)) _).setCell (p := ⟨H + 1 + 1, 0, none⟩) (.inl (by simp)) _).setCell (p := ⟨H + 1 + 1 + 1 + 1, 0, none⟩) (.inl (by simp)) _

section
variable {w0 W : World} {H : Nat} {a : Option Addr} {N cap : Nat} {f : Nat → Int} {stop : Int} {k : Nat}

set_option maxHeartbeats 1000000 in
theorem goes1_any (h : GoSt w0 W H a N cap f stop k false) (hk : k < N) (hN : N ≤ 1048576) :
    Calls Try.prog 100 #[.int .i64 k, .int .i64 (f k), .pointer (some ⟨H + 1 + 1 + 1, 0, none⟩), .pointer (some ⟨H + 1 + 1 + 1 + 1, 0, none⟩), .pointer (some ⟨H + 1 + 1, 0, none⟩), .pointer (some ⟨H, 0, none⟩), .pointer (some ⟨H + 1, 0, none⟩)] W
      fun e W' => e = .returned (.bool (!((k : Int) + 1 == stop))) ∧ GoSt w0 W' H a N cap f stop (k + 1) ((k : Int) + 1 == stop) ∧ Upd [H + 1 + 1, H + 1 + 1 + 1, H + 1 + 1 + 1 + 1] W W' := by
  have hx := fun ov => h.next hk ov
  rcases h.rd with h0 | ⟨b, off, rfl, hb, hc⟩
  · omega
  have c0 := h.l.cell (i := 0) rfl
  have c1 := h.s.cell (i := 0) rfl
  have c2 := h.n.cell (i := 0) rfl
  have c3 := h.o.cell (i := 0) rfl
  have c4 := h.v.cell (i := 0) rfl
  have f2 := h.n.free 0
  have f3 := h.o.free 0
  have f4 := h.v.free 0
  have ci := hc k hk
  have hbH := h.lt b off rfl (by omega)
  have HX := Lib.hid hx
  clear h hc hx
  have hk' : (k : Int) < (N : Int) := by omega
  have e1 : wrap64 ((k : Int) + 1) = ((k + 1 : Nat) : Int) := by unfold wrap64; omega
  go_enter Try.func100, Try.ntmps100
  go_wp2_with fail
  go_ret
  exact ⟨rfl, HX.out _, (((Upd.refl _ _).setCell (p := ⟨H + 1 + 1 + 1, 0, none⟩) (.inl (by simp)) _).setCell (p := ⟨H + 1 + 1, 0, none⟩) (.inl (by simp)) _).setCell (p := ⟨H + 1 + 1 + 1 + 1, 0, none⟩) (.inl (by simp)) _⟩

def Gone (w0 : World) (H : Nat) (a : Option Addr) (N cap : Nat) (f : Nat → Int) (stop : Int) (e : Ending) (W' : World) : Prop :=
  e = .returned (.tuple #[]) ∧ ∃ k ov, GoSt w0 W' H a N cap f stop k ov ∧ (k = N ∨ ((k : Int) = stop ∧ 0 < k))

theorem all1_goes (h : GoSt w0 W H a N cap f stop 0 false) (hN : N ≤ 1048576) {B g : Nat} (hA : AllAt W B g N f) (hB : B < H) (hg : g < H) :
    Calls Try.prog 97 #[.func (.func 100) #[] #[.pointer (some ⟨H + 1 + 1 + 1, 0, none⟩), .pointer (some ⟨H + 1 + 1 + 1 + 1, 0, none⟩), .pointer (some ⟨H + 1 + 1, 0, none⟩), .pointer (some ⟨H, 0, none⟩), .pointer (some ⟨H + 1, 0, none⟩)], .pointer (some ⟨B, 0, none⟩)] W (Gone w0 H a N cap f stop) := by
  have b0 := hA.b.cell (i := 0) rfl
  have HA := Lib.hid hA
  have Hh := Lib.hid h
  clear h hA
  go_enter Try.func97, Try.ntmps97
  go_wp2_with fail
  go_loopw [7] (fun i wr => ∃ k : Nat, k ≤ N ∧ i = .int .i64 k ∧ Hid (GoSt w0 wr H a N cap f stop k false) ∧ Hid (AllAt wr B g N f)) (fun i _ => N - (intOf i).toNat)
  case atStart => exact ⟨0, Nat.zero_le _, rfl, Hh, HA⟩
  case round =>
    obtain ⟨k, hk, rfl, Hg, Ha⟩ := hrel
    clear HA Hh
    by_cases hlt : k < N
    · have hl : (k : Int) < (N : Int) := by omega
      have cc := Ha.out.r.cell hlt
      have S := Lib.hid (goes1_any Hg.out hlt hN)
      go_wp2_with fail
      refine S.out.mono ?_
      rintro e w1 ⟨rfl, h1, hu1⟩
      have A1 := Lib.hid (Ha.out.upd hu1 (by simp; omega) (by simp; omega))
      have H1 := Lib.hid h1
      clear hu1 S Ha cc
      cases hst : ((k : Int) + 1 == stop)
      · rw [hst] at H1
        go_wp2_with fail
        go_roundw
        case rel =>
          exact ⟨k + 1, by omega, by go_num, H1, A1⟩
        case measure => simp [intOf]; omega
      · rw [hst] at H1
        have hst' : ((k + 1 : Nat) : Int) = stop := by simpa using hst
        have Hs := Lib.hid hst'
        clear hst'
        go_wp2_with fail
        exact bodyPost_ret (results_none rfl _ _ _) rfl ⟨rfl, k + 1, true, H1.out, .inr ⟨Hs.out, by omega⟩⟩
    · obtain rfl : k = N := by omega
      go_wp2_with fail
      exact bodyPost_end (results_none rfl _ _ _) rfl ⟨rfl, k, false, Hg.out, .inl rfl⟩
end

theorem goes_any (w : World) (a : Option Addr) (N cap : Nat) (f : Nat → Int) (stop : Int) (hN : N ≤ 1048576) (hrd : Nums w a N f) {B g : Nat} (hA : AllAt w B g N f) :
    Calls Try.prog 57 #[allV B, .slice a N cap, .int .i64 stop] w (OkV w) := by
  have hB := hA.b.lt
  have hg := World.rowIs.lt hA.r
  have k1 := Blk.new w 42 [.slice a N cap]
  have hu := (((((Upd.refl [] w).alloc (.cells #[.slice a N cap] 42)).alloc (.cells #[.int .i64 stop] 3)).alloc (.cells #[.int .i64 0] 3)).alloc (.cells #[.bool true] 4)).alloc (.cells #[.bool false] 4)
  have st : GoSt (((((w.alloc (.cells #[.slice a N cap] 42)).alloc (.cells #[.int .i64 stop] 3)).alloc (.cells #[.int .i64 0] 3)).alloc (.cells #[.bool true] 4)).alloc (.cells #[.bool false] 4)) (((((w.alloc (.cells #[.slice a N cap] 42)).alloc (.cells #[.int .i64 stop] 3)).alloc (.cells #[.int .i64 0] 3)).alloc (.cells #[.bool true] 4)).alloc (.cells #[.bool false] 4)) w.heap.size a N cap f stop 0 false :=
    ⟨(((k1.alloc _).alloc _).alloc _).alloc _, (((Blk.new1 w _ _ [.int .i64 stop]).alloc _).alloc _).alloc _, ((Blk.new2 w _ _ _ [.int .i64 0]).alloc _).alloc _, (Blk.new3 w _ _ _ _ [.bool true]).alloc _, Blk.new4 w _ _ _ _ _ [.bool false],
      hrd.upd hu (by simp), fun b off e h0 => (by
        rcases hrd with h | ⟨b', off', e', hb, _⟩
        · omega
        · rw [e] at e'
          simp at e'
          omega), Upd.refl _ _⟩
  have hA1 := hA.upd hu (by simp) (by simp)
  have ST := Lib.hid st
  have HA := Lib.hid hA1
  clear st hA1 k1 hA hrd
  go_enter Try.func57, Try.ntmps57
  go_wp2_with fail
  refine (all1_goes ST.out hN HA.out hB hg).mono ?_
  generalize World.alloc _ _ = W at *
  rintro e w1 ⟨rfl, k, ov, h, hk⟩
  have huE : Upd [] w w1 := hu.trans h.u (by simp; omega)
  have c0 := h.l.cell (i := 0) rfl
  have c1 := h.s.cell (i := 0) rfl
  have c2 := h.n.cell (i := 0) rfl
  have c3 := h.o.cell (i := 0) rfl
  clear h ST HA hu
  by_cases hs : (k : Int) = stop
  · subst hs
    by_cases h0 : 0 < k
    · have h0' : (0 : Int) < (k : Int) := by omega
      clear hk
      go_wp2_with fail
      go_ret
      exact ⟨rfl, huE⟩
    · obtain rfl : k = N := by omega
      obtain rfl : k = 0 := by omega
      clear hk
      go_wp2_with fail
      go_ret
      exact ⟨rfl, huE⟩
  · obtain rfl : k = N := by omega
    have hs' : ((k : Int) == stop) = false := by simpa using hs
    clear hk
    go_wp2_with fail
    go_ret
    exact ⟨rfl, huE⟩

/-- What All hands back. -/
def AllV (w : World) (n : Nat) (f : Nat → Int) (e : Ending) (w' : World) : Prop :=
  ∃ B g, e = .returned (allV B) ∧ AllAt w' B g n f ∧ w.heap.size ≤ B ∧ w.heap.size ≤ g ∧ Upd [] w w'

theorem cellsAll_any {w : World} {b g L : Nat} {f : Nat → Int} (h : CellsAt w b g L f) :
    Calls Try.prog 54 #[.pointer (some ⟨b, 0, none⟩)] w (AllV w (2 ^ L) f) := by
  have S := Lib.hid h.size
  have hp := pow20 h.hi
  have hk := kindOf_ok L
  have G := Lib.hid (fun (W : World) (i : Nat) (hi : i < 2 ^ L) (hu : Upd [] w W) => hk.get_any g (2 ^ L) i (f i) W hi (by omega) ((rowIs_upd h.r hu (by simp)).cell hi) (by have := (h.range i hi).1; omega) (by have := (h.range i hi).2; omega))
  have hc := h.c
  clear h
  generalize kindOf L = κ at *
  generalize 2 ^ L = n at *
  have hmk := fun W => run_make_row' (P := Try.prog) 42 3 (.int .i64 0) 8 Try.underlying42 info64 rfl .i64 .i64 n (by omega) (by omega) W
  go_enter Try.func54, Try.ntmps54
  go_wp2_with (go_at_call 53; refine S.out.mono ?_; rintro e w1 ⟨rfl, hu⟩)
  have hr := (World.rowIs_made w1 (.int .i64 0) n 3).alloc (.cells #[.slice (some ⟨w1.heap.size, 0, none⟩) n n] 42)
  have hT := Blk.new1 w1 (.cells (madeCells #[.int .i64 0] n) 3) 42 [.slice (some ⟨w1.heap.size, 0, none⟩) n n]
  have hU := (hu.alloc (.cells (madeCells #[.int .i64 0] n) 3)).alloc (.cells #[.slice (some ⟨w1.heap.size, 0, none⟩) n n] 42)
  have hle := hu.size
  have hbl := hc.lt
  generalize (w1.alloc _).alloc _ = W at *
  obtain ⟨R, hR⟩ : ∃ R, R = w1.heap.size := ⟨_, rfl⟩
  rw [← hR] at hr hT hle ⊢
  clear hR hu S hmk
  have m := hk.m_get
  have c := hk.c_get
  go_loopw [10] (fun i wr => ∃ k : Nat, k ≤ n ∧ i = .int .i64 k ∧ Blk wr (R + 1) 42 [.slice (some ⟨R, 0, none⟩) n n] ∧ wr.rowIs R 3 n (fun j => .int .i64 (if j < k then f j else 0)) ∧ Upd [] w wr) (fun i _ => n - (intOf i).toNat)
  case atStart => exact ⟨0, Nat.zero_le _, rfl, hT, hr.congr (fun j _ => by simp), hU⟩
  case round =>
    obtain ⟨k, hkn, rfl, hT', hr', hu'⟩ := hrel
    clear hr hT hU
    by_cases hlt : k < n
    · have hl : (k : Int) < (n : Int) := by omega
      have hcW := (hc.upd hu' (by simp)).drew
      have hTW := hT'.drew
      have hrW := hr'.drew
      have huW := hu'.drew
      have GG := Lib.hid (G.out wr.drew k hlt huW)
      have c0 := hcW.cell (i := 1) rfl
      have c1 := hTW.cell (i := 0) rfl
      go_wp2_with fail
      go_region_held3 (fun w' => w'.cell? ⟨b, 1, none⟩ = some (.iface κ.T (rowV κ g n)) ∧ w'.cell? ⟨R + 1, 0, none⟩ = some (.slice (some ⟨R, 0, none⟩) n n))
        (first | exact ⟨c0, c1⟩ | exact ⟨d0, d1⟩ | exact ⟨d2, d3⟩)
        (first
        | (refine GG.out.mono ?_
           rintro e w2 ⟨rfl, hu2⟩
           have hc2 := hcW.upd hu2 (by simp)
           have hT2 := hTW.upd hu2 (by simp)
           have hr2 := rowIs_upd hrW hu2 (by simp)
           have hu22 := huW.then hu2
           have d0 := hc2.cell (i := 1) rfl
           have d1 := hT2.cell (i := 0) rfl
           have cf := hr2.frozen k
           have cc := hr2.cell hlt
           have hT3 := hT2.other (a := ⟨R, k, none⟩) (.int .i64 (f k)) (by simp)
           have d2 := (hc2.other (a := ⟨R, k, none⟩) (.int .i64 (f k)) (by simp; omega)).cell (i := 1) rfl
           have d3 := hT3.cell (i := 0) rfl))
      have hr3 := ((hr2.set k (.int .i64 (f k))).congr (g := fun j => .int .i64 (if j < k + 1 then f j else 0)) (fun j _ => by
        by_cases e1 : j = k
        · subst e1; simp
        · by_cases e2 : j < k
          · simp [e1, e2, Nat.lt_succ_of_lt e2]
          · have : ¬ j < k + 1 := by omega
            simp [e1, e2, this]))
      have hu3 := hu22.setCell (p := ⟨R, k, none⟩) (.inr hle) (.int .i64 (f k))
      clear hc2 hT2 hr2 hu22 d0 d1 d2 d3 cf cc hu2 hcW hTW hrW huW GG c0 c1 hT' hr' hu'
      go_wp2_with fail
      go_roundw
      case rel => exact ⟨k + 1, by omega, by go_num, hT3, hr3, hu3⟩
      case measure => simp [intOf]; omega
    · obtain rfl : k = n := by omega
      go_wp2_with fail
      go_ret
      exact ⟨R + 1, R, rfl, ⟨hT', hr'.congr (fun j hj => by simp [hj])⟩, by omega, hle, hu'⟩
end Go.Proofs.Ytnaeehnnjhklbaa
