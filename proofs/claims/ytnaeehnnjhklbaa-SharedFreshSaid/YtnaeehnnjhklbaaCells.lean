/- The walks of package cells: the rows of the three widths, and how an interface value leads to them. -/
import Derived.Test.YtnaeehnnjhklbaaBase
import Derived.Test.YtnaeehnnjhklbaaRows
import Derived.Deep.OwnRows
import Derived.Deep.QuietTactic
import Derived.BigQuiet
import Derived.Deep.RegionWith
set_option linter.unusedVariables false
namespace Go.Proofs.Ytnaeehnnjhklbaa
open Go.RowKit

/-- One of the three kinds of rows: the numbers that it has here. -/
structure Kind where
  T : Nat
  S : Nat
  E : Nat
  k : IntKind
  wd : Int
  get : Nat
  set : Nat
  len : Nat
  width : Nat
def K8 : Kind := ⟨182, 180, 216, .i8, 1, 160, 162, 161, 163⟩
def K16 : Kind := ⟨185, 183, 217, .i16, 2, 164, 166, 165, 167⟩
def K32 : Kind := ⟨188, 186, 21, .i32, 4, 168, 170, 169, 171⟩
def Kind.ok (κ : Kind) : Prop := κ = K8 ∨ κ = K16 ∨ κ = K32
abbrev rowV (κ : Kind) (g n : Nat) : Value := .agg #[.slice (some ⟨g, 0, none⟩) n n, .int .i64 κ.wd]


theorem get8 (g n i : Nat) (x wd : Int) (w : World) (hi : i < n) (hn : n ≤ 2000000) (hc : w.cell? ⟨g, i, none⟩ = some (.int .i8 x)) (h1 : -2147483648 ≤ x) (h2 : x ≤ 2147483647) :
    Calls Try.prog 160 #[.agg #[.slice (some ⟨g, 0, none⟩) n n, .int .i64 wd], .int .i64 i] w fun e w' => e = .returned (.int .i64 x) ∧ Upd [] w w' := by
  have hg := World.block_lt_of_cell? _ _ hc
  have hi' : (i : Int) < (n : Int) := by omega
  go_enter Try.func160, Try.ntmps160
  go_wp2_with fail
  go_ret
  exact ⟨rfl, (Upd.refl _ _).alloc _⟩
theorem set8 (g n i : Nat) (x wd v : Int) (w : World) (hi : i < n) (hn : n ≤ 2000000) (hc : w.cell? ⟨g, i, none⟩ = some (.int .i8 x)) (hf : w.frozen? ⟨g, i, none⟩ = false) :
    Calls Try.prog 162 #[.agg #[.slice (some ⟨g, 0, none⟩) n n, .int .i64 wd], .int .i64 i, .int .i64 v] w fun e w' => e = .returned (.tuple #[]) ∧ ∃ o, w' = (w.setCell ⟨g, i, none⟩ (.int .i8 (IntKind.i8.wrap v))).alloc o := by
  have hg := World.block_lt_of_cell? _ _ hc
  have hi' : (i : Int) < (n : Int) := by omega
  go_enter Try.func162, Try.ntmps162
  go_wp2_with fail
  go_end0
  exact ⟨rfl, .cells #[.slice (some ⟨g, 0, none⟩) n n, .int .i64 wd] 182, rfl⟩
theorem len8 (a : Option Addr) (n m : Nat) (wd : Int) (w : World) :
    Calls Try.prog 161 #[.agg #[.slice a n m, .int .i64 wd]] w fun e w' => e = .returned (.int .i64 n) ∧ Upd [] w w' := by
  go_enter Try.func161, Try.ntmps161
  go_wp2_with fail
  go_ret
  exact ⟨rfl, (Upd.refl _ _).alloc _⟩
theorem width8 (a : Option Addr) (n m : Nat) (wd : Int) (w : World) :
    Calls Try.prog 163 #[.agg #[.slice a n m, .int .i64 wd]] w fun e w' => e = .returned (.int .i64 wd) ∧ Upd [] w w' := by
  go_enter Try.func163, Try.ntmps163
  go_wp2_with fail
  go_ret
  exact ⟨rfl, (Upd.refl _ _).alloc _⟩

theorem get16 (g n i : Nat) (x wd : Int) (w : World) (hi : i < n) (hn : n ≤ 2000000) (hc : w.cell? ⟨g, i, none⟩ = some (.int .i16 x)) (h1 : -2147483648 ≤ x) (h2 : x ≤ 2147483647) :
    Calls Try.prog 164 #[.agg #[.slice (some ⟨g, 0, none⟩) n n, .int .i64 wd], .int .i64 i] w fun e w' => e = .returned (.int .i64 x) ∧ Upd [] w w' := by
  have hg := World.block_lt_of_cell? _ _ hc
  have hi' : (i : Int) < (n : Int) := by omega
  go_enter Try.func164, Try.ntmps164
  go_wp2_with fail
  go_ret
  exact ⟨rfl, (Upd.refl _ _).alloc _⟩
theorem set16 (g n i : Nat) (x wd v : Int) (w : World) (hi : i < n) (hn : n ≤ 2000000) (hc : w.cell? ⟨g, i, none⟩ = some (.int .i16 x)) (hf : w.frozen? ⟨g, i, none⟩ = false) :
    Calls Try.prog 166 #[.agg #[.slice (some ⟨g, 0, none⟩) n n, .int .i64 wd], .int .i64 i, .int .i64 v] w fun e w' => e = .returned (.tuple #[]) ∧ ∃ o, w' = (w.setCell ⟨g, i, none⟩ (.int .i16 (IntKind.i16.wrap v))).alloc o := by
  have hg := World.block_lt_of_cell? _ _ hc
  have hi' : (i : Int) < (n : Int) := by omega
  go_enter Try.func166, Try.ntmps166
  go_wp2_with fail
  go_end0
  exact ⟨rfl, .cells #[.slice (some ⟨g, 0, none⟩) n n, .int .i64 wd] 185, rfl⟩
theorem len16 (a : Option Addr) (n m : Nat) (wd : Int) (w : World) :
    Calls Try.prog 165 #[.agg #[.slice a n m, .int .i64 wd]] w fun e w' => e = .returned (.int .i64 n) ∧ Upd [] w w' := by
  go_enter Try.func165, Try.ntmps165
  go_wp2_with fail
  go_ret
  exact ⟨rfl, (Upd.refl _ _).alloc _⟩
theorem width16 (a : Option Addr) (n m : Nat) (wd : Int) (w : World) :
    Calls Try.prog 167 #[.agg #[.slice a n m, .int .i64 wd]] w fun e w' => e = .returned (.int .i64 wd) ∧ Upd [] w w' := by
  go_enter Try.func167, Try.ntmps167
  go_wp2_with fail
  go_ret
  exact ⟨rfl, (Upd.refl _ _).alloc _⟩

theorem get32 (g n i : Nat) (x wd : Int) (w : World) (hi : i < n) (hn : n ≤ 2000000) (hc : w.cell? ⟨g, i, none⟩ = some (.int .i32 x)) (h1 : -2147483648 ≤ x) (h2 : x ≤ 2147483647) :
    Calls Try.prog 168 #[.agg #[.slice (some ⟨g, 0, none⟩) n n, .int .i64 wd], .int .i64 i] w fun e w' => e = .returned (.int .i64 x) ∧ Upd [] w w' := by
  have hg := World.block_lt_of_cell? _ _ hc
  have hi' : (i : Int) < (n : Int) := by omega
  go_enter Try.func168, Try.ntmps168
  go_wp2_with fail
  go_ret
  exact ⟨rfl, (Upd.refl _ _).alloc _⟩
theorem set32 (g n i : Nat) (x wd v : Int) (w : World) (hi : i < n) (hn : n ≤ 2000000) (hc : w.cell? ⟨g, i, none⟩ = some (.int .i32 x)) (hf : w.frozen? ⟨g, i, none⟩ = false) :
    Calls Try.prog 170 #[.agg #[.slice (some ⟨g, 0, none⟩) n n, .int .i64 wd], .int .i64 i, .int .i64 v] w fun e w' => e = .returned (.tuple #[]) ∧ ∃ o, w' = (w.setCell ⟨g, i, none⟩ (.int .i32 (IntKind.i32.wrap v))).alloc o := by
  have hg := World.block_lt_of_cell? _ _ hc
  have hi' : (i : Int) < (n : Int) := by omega
  go_enter Try.func170, Try.ntmps170
  go_wp2_with fail
  go_end0
  exact ⟨rfl, .cells #[.slice (some ⟨g, 0, none⟩) n n, .int .i64 wd] 188, by rw [IntKind.wrap_i32, wrap32]⟩
theorem len32 (a : Option Addr) (n m : Nat) (wd : Int) (w : World) :
    Calls Try.prog 169 #[.agg #[.slice a n m, .int .i64 wd]] w fun e w' => e = .returned (.int .i64 n) ∧ Upd [] w w' := by
  go_enter Try.func169, Try.ntmps169
  go_wp2_with fail
  go_ret
  exact ⟨rfl, (Upd.refl _ _).alloc _⟩
theorem width32 (a : Option Addr) (n m : Nat) (wd : Int) (w : World) :
    Calls Try.prog 171 #[.agg #[.slice a n m, .int .i64 wd]] w fun e w' => e = .returned (.int .i64 wd) ∧ Upd [] w w' := by
  go_enter Try.func171, Try.ntmps171
  go_wp2_with fail
  go_ret
  exact ⟨rfl, (Upd.refl _ _).alloc _⟩

variable {κ : Kind}
theorem Kind.ok.get_any (h : κ.ok) (g n i : Nat) (x : Int) (w : World) (hi : i < n) (hn : n ≤ 2000000) (hc : w.cell? ⟨g, i, none⟩ = some (.int κ.k x)) (h1 : -2147483648 ≤ x) (h2 : x ≤ 2147483647) :
    Calls Try.prog κ.get #[rowV κ g n, .int .i64 i] w fun e w' => e = .returned (.int .i64 x) ∧ Upd [] w w' := by
  rcases h with rfl | rfl | rfl
  · exact get8 g n i x _ w hi hn hc h1 h2
  · exact get16 g n i x _ w hi hn hc h1 h2
  · exact get32 g n i x _ w hi hn hc h1 h2
theorem Kind.ok.set_any (h : κ.ok) (g n i : Nat) (x v : Int) (w : World) (hi : i < n) (hn : n ≤ 2000000) (hc : w.cell? ⟨g, i, none⟩ = some (.int κ.k x)) (hf : w.frozen? ⟨g, i, none⟩ = false) :
    Calls Try.prog κ.set #[rowV κ g n, .int .i64 i, .int .i64 v] w fun e w' => e = .returned (.tuple #[]) ∧ ∃ o, w' = (w.setCell ⟨g, i, none⟩ (.int κ.k (κ.k.wrap v))).alloc o := by
  rcases h with rfl | rfl | rfl
  · exact set8 g n i x _ v w hi hn hc hf
  · exact set16 g n i x _ v w hi hn hc hf
  · exact set32 g n i x _ v w hi hn hc hf
theorem Kind.ok.len_any (h : κ.ok) (g n : Nat) (w : World) : Calls Try.prog κ.len #[rowV κ g n] w fun e w' => e = .returned (.int .i64 n) ∧ Upd [] w w' := by
  rcases h with rfl | rfl | rfl
  · exact len8 _ _ _ _ w
  · exact len16 _ _ _ _ w
  · exact len32 _ _ _ _ w
theorem Kind.ok.width_any (h : κ.ok) (g n : Nat) (w : World) : Calls Try.prog κ.width #[rowV κ g n] w fun e w' => e = .returned (.int .i64 κ.wd) ∧ Upd [] w w' := by
  rcases h with rfl | rfl | rfl
  · exact width8 _ _ _ _ w
  · exact width16 _ _ _ _ w
  · exact width32 _ _ _ _ w

-- how an interface value leads to its row
theorem Kind.ok.m_get (h : κ.ok) (v : Value) (w : World) : (method 319 κ.T v "lexicon/cells.get").run Try.prog w = .ok (κ.get, v) w := by
  rcases h with rfl | rfl | rfl
  · kernel_rfl
  · kernel_rfl
  · kernel_rfl
theorem Kind.ok.m_set (h : κ.ok) (v : Value) (w : World) : (method 319 κ.T v "lexicon/cells.set").run Try.prog w = .ok (κ.set, v) w := by
  rcases h with rfl | rfl | rfl
  · kernel_rfl
  · kernel_rfl
  · kernel_rfl
theorem Kind.ok.m_len (h : κ.ok) (v : Value) (w : World) : (method 319 κ.T v "lexicon/cells.len").run Try.prog w = .ok (κ.len, v) w := by
  rcases h with rfl | rfl | rfl
  · kernel_rfl
  · kernel_rfl
  · kernel_rfl
theorem Kind.ok.m_width (h : κ.ok) (v : Value) (w : World) : (method 319 κ.T v "lexicon/cells.width").run Try.prog w = .ok (κ.width, v) w := by
  rcases h with rfl | rfl | rfl
  · kernel_rfl
  · kernel_rfl
  · kernel_rfl
theorem Kind.ok.c_get (h : κ.ok) (args : Array Value) (w : World) : (callFunc κ.get args).run Try.prog w = .ok (.enter κ.get args) w := by
  rcases h with rfl | rfl | rfl <;> simp [go_sem, K8, K16, K32]
theorem Kind.ok.c_set (h : κ.ok) (args : Array Value) (w : World) : (callFunc κ.set args).run Try.prog w = .ok (.enter κ.set args) w := by
  rcases h with rfl | rfl | rfl <;> simp [go_sem, K8, K16, K32]
theorem Kind.ok.c_len (h : κ.ok) (args : Array Value) (w : World) : (callFunc κ.len args).run Try.prog w = .ok (.enter κ.len args) w := by
  rcases h with rfl | rfl | rfl <;> simp [go_sem, K8, K16, K32]
theorem Kind.ok.c_width (h : κ.ok) (args : Array Value) (w : World) : (callFunc κ.width args).run Try.prog w = .ok (.enter κ.width args) w := by
  rcases h with rfl | rfl | rfl <;> simp [go_sem, K8, K16, K32]

theorem eqlRow (T : Nat) (v : Value) (w : World) : (binOp .eql 113 (.iface T v) .nilIface).run Try.prog w = .ok (.bool false) w := by kernel_rfl
theorem eqlRowNil (w : World) : (binOp .eql 113 .nilIface .nilIface).run Try.prog w = .ok (.bool true) w := by kernel_rfl

theorem none_some (b T : Nat) (v x : Value) (w : World) (hc : Blk w b 115 [x, .iface T v]) :
    Calls Try.prog 96 #[.pointer (some ⟨b, 0, none⟩)] w fun e w' => e = .returned (.bool false) ∧ w = w' := by
  have c1 := hc.cell (i := 1) rfl
  have hq := eqlRow T v
  go_enter Try.func96, Try.ntmps96
  go_wp2_with fail
  go_ret
  exact ⟨rfl, rfl⟩
theorem none_nil (w : World) :
    Calls Try.prog 96 #[.pointer none] w fun e w' => e = .returned (.bool true) ∧ w = w' := by
  go_enter Try.func96, Try.ntmps96
  go_wp2_with fail
  go_ret
  exact ⟨rfl, rfl⟩
theorem none_zero (b : Nat) (x : Value) (w : World) (hc : Blk w b 115 [x, .nilIface]) :
    Calls Try.prog 96 #[.pointer (some ⟨b, 0, none⟩)] w fun e w' => e = .returned (.bool true) ∧ w = w' := by
  have c1 := hc.cell (i := 1) rfl
  have hq := eqlRowNil
  go_enter Try.func96, Try.ntmps96
  go_wp2_with fail
  go_ret
  exact ⟨rfl, rfl⟩

abbrev cellsL (κ : Kind) (L : Int) (g n : Nat) : List Value := [.int .i64 L, .iface κ.T (rowV κ g n)]

theorem size_some (h : κ.ok) (b g n : Nat) (L : Int) (w : World) (hc : Blk w b 115 (cellsL κ L g n)) :
    Calls Try.prog 53 #[.pointer (some ⟨b, 0, none⟩)] w fun e w' => e = .returned (.int .i64 n) ∧ Upd [] w w' := by
  have c1 := hc.cell (i := 1) rfl
  have m := h.m_len
  have c := h.c_len
  have H := h.len_any g n w
  have HH := Lib.hid H
  clear H
  go_enter Try.func53, Try.ntmps53
  go_wp2_with (go_at_call 96; refine (none_some b _ _ _ _ hc).mono ?_; rintro e w' ⟨rfl, rfl⟩)
  refine HH.out.mono ?_
  rintro e w' ⟨rfl, hu⟩
  go_wp2_with fail
  go_ret
  exact ⟨rfl, hu⟩
end Go.Proofs.Ytnaeehnnjhklbaa
