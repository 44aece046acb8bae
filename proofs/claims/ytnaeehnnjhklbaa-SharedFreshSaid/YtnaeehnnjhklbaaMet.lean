/- The walks of package meter, but Take. -/
import Derived.Test.YtnaeehnnjhklbaaBase
import Derived.Test.YtnaeehnnjhklbaaRows
import Derived.Laws.LoneSync
import Derived.Deep.QuietTactic
import Derived.BigQuiet
namespace Go.Proofs.Ytnaeehnnjhklbaa
open Go.RowKit
theorem addInt64 {a : Addr} {x y : Int} {w : World} (hc : w.cell? a = some (.int .i64 x)) (hz : w.frozen? a = false) :
    (callFunc 116 #[.pointer (some a), .int .i64 y]).run Try.prog w = .ok (.value (.int .i64 (wrap64 (x + y)))) (w.setCell a (.int .i64 (wrap64 (x + y)))) :=
  run_call_add (P := Try.prog) Try.func116 (by kernel_rfl) (by kernel_rfl) (by kernel_rfl) .i64 (by kernel_rfl) hc hz (by simp [go_sem, wrap64, IntKind.wrap_i64])

theorem count_does (b k : Nat) (n x : Int) (w : World) (hk : k < 4) (h1 : 1 ≤ n) (h2 : n ≤ 2147483647) (hc : w.cell? ⟨b, k, none⟩ = some (.int .i64 x)) (hz : w.frozen? ⟨b, k, none⟩ = false) :
    Calls Try.prog 103 #[.pointer (some ⟨b, 0, none⟩), .int .i64 k, .int .i64 n] w fun e w' => e = .returned (.tuple #[]) ∧ w' = w.setCell ⟨b, k, none⟩ (.int .i64 (wrap64 (x + n))) := by
  have ha := addInt64 (y := n) hc hz
  go_enter Try.func103, Try.ntmps103
  go_wp2
  go_end0
  exact ⟨rfl, rfl⟩

theorem count_nil (k n : Int) (w : World) :
    Calls Try.prog 103 #[.pointer none, .int .i64 k, .int .i64 n] w fun e w' => e = .returned (.tuple #[]) ∧ w' = w := by
  go_enter Try.func103, Try.ntmps103
  go_wp2
  go_end0
  exact ⟨rfl, rfl⟩

theorem count_low (m : Option Addr) (k n : Int) (w : World) (h : n < 1) :
    Calls Try.prog 103 #[.pointer m, .int .i64 k, .int .i64 n] w fun e w' => e = .returned (.tuple #[]) ∧ w' = w := by
  have h' : ¬ 1 ≤ n := by omega
  cases m <;>
  · go_enter Try.func103, Try.ntmps103
    go_wp2
    go_end0
    exact ⟨rfl, rfl⟩

theorem count_high (m : Option Addr) (k n : Int) (w : World) (h : 2147483647 < n) :
    Calls Try.prog 103 #[.pointer m, .int .i64 k, .int .i64 n] w fun e w' => e = .returned (.tuple #[]) ∧ w' = w := by
  have h' : ¬ n ≤ 2147483647 := by omega
  have h'' : 1 ≤ n := by omega
  cases m <;>
  · go_enter Try.func103, Try.ntmps103
    go_wp2
    go_end0
    exact ⟨rfl, rfl⟩

/-- What a meter holds: nothing is asked of one that is none. -/
structure Cnt where
  t : Int
  v : Int
  c : Int
  s : Int
def Cnt.cells (q : Cnt) : List Value := [.int .i64 q.t, .int .i64 q.v, .int .i64 q.c, .int .i64 q.s]
def Met (w : World) (m : Option Addr) (q : Cnt) : Prop := match m with
  | none => True
  | some a => ∃ b, a = ⟨b, 0, none⟩ ∧ Blk w b 32 q.cells
def Met.fp : Option Addr → List Nat
  | none => []
  | some a => [a.block]
def Counts (n : Int) : Bool := decide (1 ≤ n) && decide (n ≤ 2147483647)
def bump (x n : Int) : Int := if Counts n then wrap64 (x + n) else x
def Cnt.add (q : Cnt) (k : Nat) (n : Int) : Cnt :=
  if k = 0 then { q with t := bump q.t n } else if k = 1 then { q with v := bump q.v n } else if k = 2 then { q with c := bump q.c n } else { q with s := bump q.s n }

theorem Met.upd {w w' : World} {fp : List Nat} {m : Option Addr} {q : Cnt} (h : Met w m q) (hu : Upd fp w w') (hn : ∀ x ∈ Met.fp m, x ∉ fp) : Met w' m q := by
  cases m with
  | none => trivial
  | some a => obtain ⟨b, rfl, hb⟩ := h; exact ⟨b, rfl, hb.upd hu (hn b (by simp [Met.fp]))⟩

theorem Met.lt {w : World} {m : Option Addr} {q : Cnt} (h : Met w m q) : ∀ x ∈ Met.fp m, x < w.heap.size := by
  intro x hx
  cases m with
  | none => simp [Met.fp] at hx
  | some a => obtain ⟨b, rfl, hb⟩ := h; simp [Met.fp] at hx; subst hx; exact hb.lt

theorem count_any (m : Option Addr) (q : Cnt) (k : Nat) (n : Int) (w : World) (hk : k < 4) (hm : Met w m q) :
    Calls Try.prog 103 #[.pointer m, .int .i64 k, .int .i64 n] w fun e w' => e = .returned (.tuple #[]) ∧ Met w' m (q.add k n) ∧ Upd (Met.fp m) w w' := by
  cases m with
  | none => exact (count_nil k n w).mono fun e w' ⟨he, hw⟩ => ⟨he, trivial, hw ▸ Upd.refl _ _⟩
  | some a =>
    obtain ⟨b, rfl, hb⟩ := hm
    by_cases h1 : n < 1
    · have hc : Counts n = false := by simp [Counts]; omega
      have hq : q.add k n = q := by simp [Cnt.add, bump, hc]
      rw [hq]
      exact (count_low _ k n w h1).mono fun e w' ⟨he, hw⟩ => ⟨he, ⟨b, rfl, hw ▸ hb⟩, hw ▸ Upd.refl _ _⟩
    by_cases h2 : 2147483647 < n
    · have hc : Counts n = false := by simp [Counts]; omega
      have hq : q.add k n = q := by simp [Cnt.add, bump, hc]
      rw [hq]
      exact (count_high _ k n w h2).mono fun e w' ⟨he, hw⟩ => ⟨he, ⟨b, rfl, hw ▸ hb⟩, hw ▸ Upd.refl _ _⟩
    have hc : Counts n = true := by simp [Counts]; omega
    have key : ∀ x, q.cells[k]? = some (.int .i64 x) → (q.add k n).cells = q.cells.set k (.int .i64 (wrap64 (x + n))) → Calls Try.prog 103 #[.pointer (some ⟨b, 0, none⟩), .int .i64 k, .int .i64 n] w
        fun e w' => e = .returned (.tuple #[]) ∧ Met w' (some ⟨b, 0, none⟩) (q.add k n) ∧ Upd (Met.fp (some ⟨b, 0, none⟩)) w w' := by
      intro x hx hs
      refine (count_does b k n x w hk (by omega) (by omega) (hb.cell hx) (hb.free k)).mono fun e w' ⟨he, hw⟩ => ⟨he, ⟨b, rfl, ?_⟩, ?_⟩
      · rw [hs, hw]; exact hb.set k _
      · rw [hw]; exact (Upd.refl _ _).setCell (.inl (by simp [Met.fp])) _
    rcases k with _ | _ | _ | _ | k
    · exact key q.t rfl (by simp [Cnt.add, bump, hc, Cnt.cells])
    · exact key q.v rfl (by simp [Cnt.add, bump, hc, Cnt.cells])
    · exact key q.c rfl (by simp [Cnt.add, bump, hc, Cnt.cells])
    · exact key q.s rfl (by simp [Cnt.add, bump, hc, Cnt.cells])
    · omega

theorem table_any (m : Option Addr) (q : Cnt) (w : World) (hm : Met w m q) :
    Calls Try.prog 69 #[.pointer m] w fun e w' => e = .returned (.tuple #[]) ∧ Met w' m (q.add 0 1) ∧ Upd (Met.fp m) w w' := by
  have H := count_any m q 0 1 w (by omega) hm
  go_enter Try.func69, Try.ntmps69
  go_wp2_with (go_at_call 103; refine H.mono ?_; rintro e w' ⟨rfl, h1, h2⟩)
  go_end0
  exact ⟨rfl, ‹_›, ‹_›⟩
theorem visit_any (m : Option Addr) (q : Cnt) (n : Int) (w : World) (hm : Met w m q) :
    Calls Try.prog 70 #[.pointer m, .int .i64 n] w fun e w' => e = .returned (.tuple #[]) ∧ Met w' m (q.add 1 n) ∧ Upd (Met.fp m) w w' := by
  have H := count_any m q 1 n w (by omega) hm
  go_enter Try.func70, Try.ntmps70
  go_wp2_with (go_at_call 103; refine H.mono ?_; rintro e w' ⟨rfl, h1, h2⟩)
  go_end0
  exact ⟨rfl, ‹_›, ‹_›⟩
theorem charge_any (m : Option Addr) (q : Cnt) (n : Int) (w : World) (hm : Met w m q) :
    Calls Try.prog 72 #[.pointer m, .int .i64 n] w fun e w' => e = .returned (.tuple #[]) ∧ Met w' m (q.add 2 n) ∧ Upd (Met.fp m) w w' := by
  have H := count_any m q 2 n w (by omega) hm
  go_enter Try.func72, Try.ntmps72
  go_wp2_with (go_at_call 103; refine H.mono ?_; rintro e w' ⟨rfl, h1, h2⟩)
  go_end0
  exact ⟨rfl, ‹_›, ‹_›⟩
theorem turn_any (m : Option Addr) (q : Cnt) (w : World) (hm : Met w m q) :
    Calls Try.prog 73 #[.pointer m] w fun e w' => e = .returned (.tuple #[]) ∧ Met w' m (q.add 3 1) ∧ Upd (Met.fp m) w w' := by
  have H := count_any m q 3 1 w (by omega) hm
  go_enter Try.func73, Try.ntmps73
  go_wp2_with (go_at_call 103; refine H.mono ?_; rintro e w' ⟨rfl, h1, h2⟩)
  go_end0
  exact ⟨rfl, ‹_›, ‹_›⟩

theorem loadInt64 {a : Addr} {x : Int} {w : World} (hc : w.cell? a = some (.int .i64 x)) :
    (callFunc 105 #[.pointer (some a)]).run Try.prog w = .ok (.value (.int .i64 x)) w :=
  run_call_load (P := Try.prog) Try.func105 (by kernel_rfl) (by kernel_rfl) (by kernel_rfl) .i64 (by kernel_rfl) hc

theorem read1 (b k B : Nat) (x : Int) (w : World) (hk : k < 4) (hp : w.cell? ⟨B, 0, none⟩ = some (.pointer (some ⟨b, 0, none⟩))) (hc : w.cell? ⟨b, k, none⟩ = some (.int .i64 x)) :
    Calls Try.prog 77 #[.int .i64 k, .pointer (some ⟨B, 0, none⟩)] w fun e w' => e = .returned (.int .i64 x) ∧ w = w' := by
  have ha := loadInt64 hc
  go_enter Try.func77, Try.ntmps77
  go_wp2
  go_ret
  exact ⟨rfl, rfl⟩

abbrev countsV (q : Cnt) : Value := .agg #[.int .i64 q.t, .int .i64 q.v, .int .i64 q.c, .int .i64 q.s]
def Cnt.zero : Cnt := ⟨0, 0, 0, 0⟩
def Cnt.get (q : Cnt) (k : Int) : Int := if k = 0 then q.t else if k = 1 then q.v else if k = 2 then q.c else q.s
theorem read1_q (b B : Nat) (k : Int) (q : Cnt) (w : World) (h0 : 0 ≤ k) (hk : k < 4) (hp : Blk w B 24 [.pointer (some ⟨b, 0, none⟩)]) (hb : Blk w b 32 q.cells) :
    Calls Try.prog 77 #[.int .i64 k, .pointer (some ⟨B, 0, none⟩)] w fun e w' => e = .returned (.int .i64 (q.get k)) ∧ w = w' := by
  obtain ⟨n, rfl⟩ := Int.eq_ofNat_of_zero_le h0
  refine read1 b n B _ w (by omega) (hp.cell rfl) (hb.cell ?_)
  rcases n with _ | _ | _ | _ | n
  all_goals first | rfl | omega

theorem told_read (b B : Nat) (q : Cnt) (w : World) (hp : Blk w B 24 [.pointer (some ⟨b, 0, none⟩)]) (hb : Blk w b 32 q.cells) :
    Calls Try.prog 74 #[.func (.func 77) #[] #[.pointer (some ⟨B, 0, none⟩)]] w fun e w' => e = .returned (countsV q) ∧ Upd [] w w' := by
  go_enter Try.func74, Try.ntmps74
  go_wp2_with (go_at_call 77; refine (read1_q b B _ q _ (by omega) (by omega) (by exact hp.alloc _) (by exact hb.alloc _)).mono ?_; rintro e w' ⟨rfl, rfl⟩)
  refine bodyPost_ret (v := countsV q) (by simp [results, Try.results74, go_sem, countsV, Cnt.get]) rfl ⟨rfl, ?_⟩
  exact (Upd.refl _ _).alloc _

theorem read_none (w : World) :
    Calls Try.prog 22 #[.pointer none] w fun e w' => e = .returned (countsV Cnt.zero) ∧ Upd [] w w' := by
  go_enter Try.func22, Try.ntmps22
  go_wp2
  refine bodyPost_ret (v := countsV Cnt.zero) (by simp [results, Try.results22, go_sem, Cnt.zero]) rfl ⟨rfl, ?_⟩
  exact ((Upd.refl _ _).alloc _).alloc _

theorem read_some (b : Nat) (q : Cnt) (w : World) (hb : Blk w b 32 q.cells) :
    Calls Try.prog 22 #[.pointer (some ⟨b, 0, none⟩)] w fun e w' => e = .returned (countsV q) ∧ Upd [] w w' := by
  have hp : Blk (w.alloc (.cells #[.pointer (some ⟨b, 0, none⟩)] 24)) w.heap.size 24 [.pointer (some ⟨b, 0, none⟩)] := Blk.new w _ _
  have hr : Blk ((w.alloc (.cells #[.pointer (some ⟨b, 0, none⟩)] 24)).alloc (.cells #[.int .i64 0, .int .i64 0, .int .i64 0, .int .i64 0] 34)) (w.heap.size + 1) 34 [.int .i64 0, .int .i64 0, .int .i64 0, .int .i64 0] := by
    have := Blk.new (w.alloc (.cells #[.pointer (some ⟨b, 0, none⟩)] 24)) 34 [.int .i64 0, .int .i64 0, .int .i64 0, .int .i64 0]
    simpa using this
  go_enter Try.func22, Try.ntmps22
  go_wp2_with (go_at_call 74; refine (told_read b w.heap.size q _ (by exact hp.alloc _) (by exact (hb.alloc _).alloc _)).mono ?_; rintro e w' ⟨rfl, hu⟩; have hr' := hr.upd hu (by simp); have c0 := hr'.cell (i := 0) rfl; have c1 := hr'.cell (i := 1) rfl; have c2 := hr'.cell (i := 2) rfl; have c3 := hr'.cell (i := 3) rfl; have f0 := hr'.free)
  have hE := ((((hr'.set 0 (.int .i64 q.t)).set 1 (.int .i64 q.v)).set 2 (.int .i64 q.c)).set 3 (.int .i64 q.s))
  have e0 := hE.cell (i := 0) rfl
  have e1 := hE.cell (i := 1) rfl
  have e2 := hE.cell (i := 2) rfl
  have e3 := hE.cell (i := 3) rfl
  refine bodyPost_ret (v := countsV q) (by simp [results, Try.results22, go_sem, e0, e1, e2, e3]) rfl ⟨rfl, ?_⟩
  exact ((((((Upd.refl [] w).alloc _).alloc _).then hu).setCell (.inr (by simp)) _).setCell (.inr (by simp)) _).setCell (.inr (by simp)) _ |>.setCell (.inr (by simp)) _

theorem read_any (m : Option Addr) (q : Cnt) (w : World) (hm : Met w m q) (hz : m = none → q = Cnt.zero) :
    Calls Try.prog 22 #[.pointer m] w fun e w' => e = .returned (countsV q) ∧ Upd [] w w' := by
  cases m with
  | none => rw [hz rfl]; exact read_none w
  | some a => obtain ⟨b, rfl, hb⟩ := hm; exact read_some b q w hb
end Go.Proofs.Ytnaeehnnjhklbaa
