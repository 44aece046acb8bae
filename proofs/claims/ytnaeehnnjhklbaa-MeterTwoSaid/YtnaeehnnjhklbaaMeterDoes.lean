/- The walks of the laws of meter: a step. -/
import Derived.Test.YtnaeehnnjhklbaaMeter
import Derived.Deep.RegionWith
import Derived.Deep.RegionHeld3
namespace Go.Proofs.Ytnaeehnnjhklbaa
open Go.RowKit

abbrev stepV (k n : Int) : Value := .agg #[.int .i64 k, .int .i64 n]
def Cnt.step (q : Cnt) (k n : Int) : Cnt :=
  if k = 1 then q.add 0 1 else if k = 2 then q.add 1 n else if k = 3 then q.add 2 n else if k = 4 then q.add 3 1 else if k = 6 then Cnt.zero else q

theorem counts_yes (n : Int) (w : World) (h : Counts n = true) : Calls Try.prog 71 #[.int .i64 n] w fun e w' => e = .returned (.bool true) ∧ w = w' := by
  have h1 : 1 ≤ n := by simp [Counts] at h; omega
  have h2 : n ≤ 2147483647 := by simp [Counts] at h; omega
  clear h
  go_enter Try.func71, Try.ntmps71
  go_wp2
  go_ret
  exact ⟨rfl, rfl⟩
theorem counts_no (n : Int) (w : World) (h : Counts n = false) : Calls Try.prog 71 #[.int .i64 n] w fun e w' => e = .returned (.bool false) ∧ w = w' := by
  by_cases h1 : 1 ≤ n
  · have h2 : ¬ n ≤ 2147483647 := by simp [Counts] at h; omega
    clear h
    go_enter Try.func71, Try.ntmps71
    go_wp2
    go_ret
    exact ⟨rfl, rfl⟩
  · clear h
    go_enter Try.func71, Try.ntmps71
    go_wp2
    go_ret
    exact ⟨rfl, rfl⟩

/-- What a step's call has laid: its counts, its step, its result. -/
structure Laid (w W : World) (mm : Option Addr) (m q : Cnt) (k n : Int) : Prop where
  hb : Met W mm m
  lt : ∀ x ∈ Met.fp mm, x < w.heap.size
  r0 : Blk W w.heap.size 34 q.cells
  r1 : Blk W (w.heap.size + 1) 38 [.int .i64 k, .int .i64 n]
  r2 : Blk W (w.heap.size + 1 + 1) 34 [.int .i64 0, .int .i64 0, .int .i64 0, .int .i64 0]
  u : Upd (Met.fp mm) w W

theorem Laid.first (w : World) (mm : Option Addr) (q : Cnt) (k n : Int) (hb : Met w mm q) :
    Laid w (((w.alloc (.cells #[.int .i64 q.t, .int .i64 q.v, .int .i64 q.c, .int .i64 q.s] 34)).alloc (.cells #[.int .i64 k, .int .i64 n] 38)).alloc (.cells #[.int .i64 0, .int .i64 0, .int .i64 0, .int .i64 0] 34)) mm q q k n where
  hb := hb.upd ((((Upd.refl [] w).alloc _).alloc _).alloc _) (by simp)
  lt := hb.lt
  r0 := ((Blk.new w 34 q.cells).alloc _).alloc _
  r1 := (Blk.new1 w _ 38 [.int .i64 k, .int .i64 n]).alloc _
  r2 := Blk.new2 w _ _ 34 _
  u := (((Upd.refl _ w).alloc _).alloc _).alloc _

theorem Laid.next {w W W' : World} {mm : Option Addr} {m m' q : Cnt} {k n : Int} (h : Laid w W mm m q k n) (hm : Met W' mm m') (hu : Upd (Met.fp mm) W W') : Laid w W' mm m' q k n := by
  have hl := h.lt
  exact ⟨hm, hl, h.r0.upd hu (fun hx => by have := hl _ hx; omega), h.r1.upd hu (fun hx => by have := hl _ hx; omega), h.r2.upd hu (fun hx => by have := hl _ hx; omega), h.u.then hu⟩

theorem Laid.quiet {w W W' : World} {mm : Option Addr} {m q : Cnt} {k n : Int} (h : Laid w W mm m q k n) (hu : Upd [] W W') : Laid w W' mm m q k n :=
  ⟨h.hb.upd hu (by simp), h.lt, h.r0.upd hu (by simp), h.r1.upd hu (by simp), h.r2.upd hu (by simp), h.u.nil hu⟩
theorem Laid.drew {w W : World} {mm : Option Addr} {m q : Cnt} {k n : Int} (h : Laid w W mm m q k n) : Laid w W.drew mm m q k n := h.quiet ((Upd.refl [] W).drew)
theorem Laid.set {w W : World} {mm : Option Addr} {m q q' : Cnt} {k n : Int} (h : Laid w W mm m q k n) (i : Nat) (v : Value) (hs : q.cells.set i v = q'.cells) : Laid w (W.setCell ⟨w.heap.size, i, none⟩ v) mm m q' k n := by
  have hl := h.lt
  exact ⟨h.hb.upd ((Upd.refl [w.heap.size] W).setCell (.inl (by simp)) _) (fun x hx => by have := hl _ hx; simp; omega), hl, hs ▸ h.r0.set i v, h.r1.other _ (by simp), h.r2.other _ (by simp; omega), h.u.setCell (.inr (by simp)) _⟩

/-- The cells of the counts and of the result, as the walk asks for them. -/
theorem Laid.cells {w W : World} {mm : Option Addr} {m q : Cnt} {k n : Int} (h : Laid w W mm m q k n) :
    W.cell? ⟨w.heap.size, 0, none⟩ = some (.int .i64 q.t) ∧ W.cell? ⟨w.heap.size, 1, none⟩ = some (.int .i64 q.v) ∧ W.cell? ⟨w.heap.size, 2, none⟩ = some (.int .i64 q.c) ∧ W.cell? ⟨w.heap.size, 3, none⟩ = some (.int .i64 q.s) ∧ (∀ i, W.frozen? ⟨w.heap.size, i, none⟩ = false) ∧
    W.cell? ⟨w.heap.size + 1, 1, none⟩ = some (.int .i64 n) ∧
    W.cell? ⟨w.heap.size + 1 + 1, 0, none⟩ = some (.int .i64 0) ∧ W.cell? ⟨w.heap.size + 1 + 1, 1, none⟩ = some (.int .i64 0) ∧ W.cell? ⟨w.heap.size + 1 + 1, 2, none⟩ = some (.int .i64 0) ∧ W.cell? ⟨w.heap.size + 1 + 1, 3, none⟩ = some (.int .i64 0) ∧ (∀ i, W.frozen? ⟨w.heap.size + 1 + 1, i, none⟩ = false) :=
  ⟨h.r0.cell rfl, h.r0.cell rfl, h.r0.cell rfl, h.r0.cell rfl, h.r0.free, h.r1.cell rfl, h.r2.cell rfl, h.r2.cell rfl, h.r2.cell rfl, h.r2.cell rfl, h.r2.free⟩

def Said (mm : Option Addr) (q' : Cnt) (w : World) (e : Ending) (w' : World) : Prop :=
  e = .returned (.tuple #[countsV q', .bool true]) ∧ Met w' mm q' ∧ Upd (Met.fp mm) w w'

/-- The end: the result has been stored; it is handed back. -/
theorem Laid.ends {w W : World} {mm : Option Addr} {m x q' : Cnt} {k n : Int} {tmps : Array Value} (h : Laid w W mm m x k n) (hm : m = q')
    (h6 : tmps.getD 6 undef = .pointer (some ⟨w.heap.size + 1 + 1, 0, none⟩)) (h7 : tmps.getD 7 undef = .bool true) :
    bodyPost Try.prog Try.f20 (Said mm q' w) .ret { tmps := tmps, defers := [] } ((((W.setCell ⟨w.heap.size + 1 + 1, 0, none⟩ (.int .i64 q'.t)).setCell ⟨w.heap.size + 1 + 1, 1, none⟩ (.int .i64 q'.v)).setCell ⟨w.heap.size + 1 + 1, 2, none⟩ (.int .i64 q'.c)).setCell ⟨w.heap.size + 1 + 1, 3, none⟩ (.int .i64 q'.s)) := by
  subst hm
  have hE := h.r2.set4 (.int .i64 m.t) (.int .i64 m.v) (.int .i64 m.c) (.int .i64 m.s)
  have e0 := hE.cell (i := 0) rfl
  have e1 := hE.cell (i := 1) rfl
  have e2 := hE.cell (i := 2) rfl
  have e3 := hE.cell (i := 3) rfl
  have hl := h.lt
  refine bodyPost_ret (v := .tuple #[countsV m, .bool true]) ?_ rfl ⟨rfl, ?_, ?_⟩
  · simp only [Array.getD_eq_getD_getElem?] at h6 h7
    simp [results, Try.results20, go_sem, h6, h7, e0, e1, e2, e3]
  · exact h.hb.upd ((Upd.refl [w.heap.size + 1 + 1] W).set4 (.inl (by simp)) _ _ _ _) (fun x hx => by have := hl _ hx; simp; omega)
  · exact h.u.set4 (.inr (by omega)) _ _ _ _

theorem does_1 (mm : Option Addr) (q : Cnt) (n : Int) (w : World) (hb : Met w mm q) :
    Calls Try.prog 20 #[.pointer mm, countsV q, stepV 1 n] w (Said mm (q.step 1 n) w) := by
  have L := Laid.first w mm q 1 n hb
  go_enter Try.func20, Try.ntmps20
  go_wp2_with fail
  generalize World.alloc (World.alloc (World.alloc w _) _) _ = W at L ⊢
  refine (table_any mm q _ L.hb).mono ?_
  rintro e w1 ⟨rfl, hm, hu⟩
  replace L := L.next hm hu
  clear hm hu
  obtain ⟨a0, a1, a2, a3, f0, x0, d0, d1, d2, d3, g0⟩ := L.cells
  go_wp2_with fail
  exact (L.set (q' := q.step 1 n) 0 (.int .i64 (wrap64 (q.t + 1))) rfl).ends rfl rfl rfl

theorem does_4 (mm : Option Addr) (q : Cnt) (n : Int) (w : World) (hb : Met w mm q) :
    Calls Try.prog 20 #[.pointer mm, countsV q, stepV 4 n] w (Said mm (q.step 4 n) w) := by
  have L := Laid.first w mm q 4 n hb
  go_enter Try.func20, Try.ntmps20
  go_wp2_with fail
  generalize World.alloc (World.alloc (World.alloc w _) _) _ = W at L ⊢
  refine (turn_any mm q _ L.hb).mono ?_
  rintro e w1 ⟨rfl, hm, hu⟩
  replace L := L.next hm hu
  clear hm hu
  obtain ⟨a0, a1, a2, a3, f0, x0, d0, d1, d2, d3, g0⟩ := L.cells
  go_wp2_with fail
  exact (L.set (q' := q.step 4 n) 3 (.int .i64 (wrap64 (q.s + 1))) rfl).ends rfl rfl rfl

theorem does_2 (mm : Option Addr) (q : Cnt) (n : Int) (w : World) (hb : Met w mm q) :
    Calls Try.prog 20 #[.pointer mm, countsV q, stepV 2 n] w (Said mm (q.step 2 n) w) := by
  have L := Laid.first w mm q 2 n hb
  have hq2 : q.add 1 n = q.step 2 n := rfl
  cases hc : Counts n with
  | true =>
    have hq : q.step 2 n = ⟨q.t, wrap64 (q.v + n), q.c, q.s⟩ := by simp [Cnt.step, Cnt.add, bump, hc]
    rw [hq]
    rw [hq] at hq2
    have Hc := Lib.hid hc
    have Hq2 := Lib.hid hq2
    clear hc hq hq2
    go_enter Try.func20, Try.ntmps20
    go_wp2_with fail
    generalize World.alloc (World.alloc (World.alloc w _) _) _ = W at L ⊢
    refine (visit_any mm q n _ L.hb).mono ?_
    rintro e w1 ⟨rfl, hm, hu⟩
    replace L := L.next hm hu
    rw [Hq2.out] at L
    clear hm hu
    obtain ⟨a0, a1, a2, a3, f0, x0, d0, d1, d2, d3, g0⟩ := L.cells
    go_wp2_with (go_at_call 71; refine (counts_yes _ _ Hc.out).mono ?_; rintro e w' ⟨rfl, rfl⟩)
    exact (L.set (q' := ⟨q.t, wrap64 (q.v + n), q.c, q.s⟩) 1 (.int .i64 (wrap64 (q.v + n))) rfl).ends rfl rfl rfl
  | false =>
    have hq : q.step 2 n = q := by simp [Cnt.step, Cnt.add, bump, hc]
    rw [hq]
    rw [hq] at hq2
    have Hc := Lib.hid hc
    have Hq2 := Lib.hid hq2
    clear hc hq hq2
    go_enter Try.func20, Try.ntmps20
    go_wp2_with fail
    generalize World.alloc (World.alloc (World.alloc w _) _) _ = W at L ⊢
    refine (visit_any mm q n _ L.hb).mono ?_
    rintro e w1 ⟨rfl, hm, hu⟩
    replace L := L.next hm hu
    rw [Hq2.out] at L
    clear hm hu
    obtain ⟨a0, a1, a2, a3, f0, x0, d0, d1, d2, d3, g0⟩ := L.cells
    go_wp2_with (go_at_call 71; refine (counts_no _ _ Hc.out).mono ?_; rintro e w' ⟨rfl, rfl⟩)
    exact L.ends rfl rfl rfl

theorem does_3 (mm : Option Addr) (q : Cnt) (n : Int) (w : World) (hb : Met w mm q) :
    Calls Try.prog 20 #[.pointer mm, countsV q, stepV 3 n] w (Said mm (q.step 3 n) w) := by
  have L := Laid.first w mm q 3 n hb
  have hq2 : q.add 2 n = q.step 3 n := rfl
  cases hc : Counts n with
  | true =>
    have hq : q.step 3 n = ⟨q.t, q.v, wrap64 (q.c + n), q.s⟩ := by simp [Cnt.step, Cnt.add, bump, hc]
    rw [hq]
    rw [hq] at hq2
    have Hc := Lib.hid hc
    have Hq2 := Lib.hid hq2
    clear hc hq hq2
    go_enter Try.func20, Try.ntmps20
    go_wp2_with fail
    generalize World.alloc (World.alloc (World.alloc w _) _) _ = W at L ⊢
    refine (charge_any mm q n _ L.hb).mono ?_
    rintro e w1 ⟨rfl, hm, hu⟩
    replace L := L.next hm hu
    rw [Hq2.out] at L
    clear hm hu
    obtain ⟨a0, a1, a2, a3, f0, x0, d0, d1, d2, d3, g0⟩ := L.cells
    go_wp2_with (go_at_call 71; refine (counts_yes _ _ Hc.out).mono ?_; rintro e w' ⟨rfl, rfl⟩)
    exact (L.set (q' := ⟨q.t, q.v, wrap64 (q.c + n), q.s⟩) 2 (.int .i64 (wrap64 (q.c + n))) rfl).ends rfl rfl rfl
  | false =>
    have hq : q.step 3 n = q := by simp [Cnt.step, Cnt.add, bump, hc]
    rw [hq]
    rw [hq] at hq2
    have Hc := Lib.hid hc
    have Hq2 := Lib.hid hq2
    clear hc hq hq2
    go_enter Try.func20, Try.ntmps20
    go_wp2_with fail
    generalize World.alloc (World.alloc (World.alloc w _) _) _ = W at L ⊢
    refine (charge_any mm q n _ L.hb).mono ?_
    rintro e w1 ⟨rfl, hm, hu⟩
    replace L := L.next hm hu
    rw [Hq2.out] at L
    clear hm hu
    obtain ⟨a0, a1, a2, a3, f0, x0, d0, d1, d2, d3, g0⟩ := L.cells
    go_wp2_with (go_at_call 71; refine (counts_no _ _ Hc.out).mono ?_; rintro e w' ⟨rfl, rfl⟩)
    exact L.ends rfl rfl rfl

theorem does_o (mm : Option Addr) (q : Cnt) (k n : Int) (w : World) (hb : Met w mm q) (k1 : (k == 1) = false) (k2 : (k == 2) = false) (k3 : (k == 3) = false) (k4 : (k == 4) = false) (k5 : (k == 5) = false) (k6 : (k == 6) = false) :
    Calls Try.prog 20 #[.pointer mm, countsV q, stepV k n] w (Said mm q w) := by
  have L := Laid.first w mm q k n hb
  go_enter Try.func20, Try.ntmps20
  go_wp2_with fail
  refine bodyPost_ret (v := .tuple #[countsV q, .bool true]) (by simp [results, Try.results20, go_sem]) rfl ⟨rfl, ?_, ?_⟩
  · exact hb.upd ((((Upd.refl [] w).alloc _).alloc _).alloc _) (by simp)
  · exact (((Upd.refl _ _).alloc _).alloc _).alloc _

set_option maxHeartbeats 1000000 in
theorem does_5 (mm : Option Addr) (q : Cnt) (n : Int) (w : World) (hb : Met w mm q) (hz : mm = none → q = Cnt.zero) :
    Calls Try.prog 20 #[.pointer mm, countsV q, stepV 5 n] w (Said mm q w) := by
  have L := Laid.first w mm q 5 n hb
  go_enter Try.func20, Try.ntmps20
  go_wp2_with fail
  generalize World.alloc (World.alloc (World.alloc w _) _) _ = W at L ⊢
  obtain ⟨a0, a1, a2, a3, f0, x0, d0, d1, d2, d3, g0⟩ := L.cells
  go_region_with (go_at_call 22; refine (read_any mm q _ (by exact L.drew.hb) hz).mono ?_; rintro e w1 ⟨rfl, hu⟩; replace L := L.drew.quiet (by exact hu); obtain ⟨a0, a1, a2, a3, f0, x0, d0, d1, d2, d3, g0⟩ := L.cells)
  all_goals
    go_wp2_with fail
    exact L.ends rfl rfl rfl

set_option maxHeartbeats 1000000 in
theorem does_6 (mm : Option Addr) (q : Cnt) (n : Int) (w : World) (hb : Met w mm q) (hz : mm = none → q = Cnt.zero) :
    Calls Try.prog 20 #[.pointer mm, countsV q, stepV 6 n] w (Said mm Cnt.zero w) := by
  have L := Laid.first w mm q 6 n hb
  go_enter Try.func20, Try.ntmps20
  go_wp2_with fail
  generalize World.alloc (World.alloc (World.alloc w _) _) _ = W at L ⊢
  obtain ⟨a0, a1, a2, a3, f0, x0, d0, d1, d2, d3, g0⟩ := L.cells
  go_region_with (go_at_call 21; refine (take_any mm q _ (by exact L.drew.hb) hz).mono ?_; rintro e w1 ⟨rfl, hm, hu⟩; replace L := L.drew.next hm (by exact hu); obtain ⟨a0, a1, a2, a3, f0, x0, d0, d1, d2, d3, g0⟩ := L.cells)
  all_goals
    go_wp2_with fail
    exact L.ends rfl rfl rfl

theorem does_any (mm : Option Addr) (q : Cnt) (k n : Int) (w : World) (hb : Met w mm q) (hz : mm = none → q = Cnt.zero) :
    Calls Try.prog 20 #[.pointer mm, countsV q, stepV k n] w (Said mm (q.step k n) w) := by
  by_cases k1 : k = 1
  · subst k1; exact does_1 mm q n w hb
  by_cases k2 : k = 2
  · subst k2; exact does_2 mm q n w hb
  by_cases k3 : k = 3
  · subst k3; exact does_3 mm q n w hb
  by_cases k4 : k = 4
  · subst k4; exact does_4 mm q n w hb
  by_cases k5 : k = 5
  · subst k5; exact does_5 mm q n w hb hz
  by_cases k6 : k = 6
  · subst k6; exact does_6 mm q n w hb hz
  have e : q.step k n = q := by simp [Cnt.step, k1, k2, k3, k4, k6]
  rw [e]
  exact does_o mm q k n w hb (by simpa using k1) (by simpa using k2) (by simpa using k3) (by simpa using k4) (by simpa using k5) (by simpa using k6)
end Go.Proofs.Ytnaeehnnjhklbaa
