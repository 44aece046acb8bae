/- Words on blocks of memory: what a block holds (Blk), and what may have turned between two worlds (Upd). -/
import Derived.WalkKit
import Derived.WalkSpells
import Derived.WalkLawsBesides
import Derived.Lib.Hide
import Derived.Deep.Draws
namespace Go.Proofs.Ytnaeehnnjhklbaa
open Go.RowKit

/-- Block b holds just the cells c. -/
def Blk (w : World) (b : Nat) (T : TypeId) (c : List Value) : Prop := w.heap[b]? = some (.cells c.toArray T (0, 0))

/-- w' is w with new blocks, and with turns of the blocks of fp alone. -/
structure Upd (fp : List Nat) (w w' : World) : Prop where
  os : w'.os = w.os
  tape : w'.tape = w.tape
  output : w'.output = w.output
  size : w.heap.size ≤ w'.heap.size
  block : ∀ k, k < w.heap.size → k ∉ fp → w'.heap[k]? = w.heap[k]?

theorem Upd.refl (fp : List Nat) (w : World) : Upd fp w w := ⟨rfl, rfl, rfl, Nat.le_refl _, fun _ _ _ => rfl⟩

theorem Upd.trans {fp fp' : List Nat} {a b c : World} (h : Upd fp a b) (k : Upd fp' b c) (hf : ∀ x, x ∈ fp' → x ∈ fp ∨ a.heap.size ≤ x) : Upd fp a c :=
  ⟨k.os.trans h.os, k.tape.trans h.tape, k.output.trans h.output, Nat.le_trans h.size k.size, fun i hi hn =>
    (k.block i (Nat.lt_of_lt_of_le hi h.size) (fun hm => by rcases hf i hm with h' | h'; exact hn h'; omega)).trans (h.block i hi hn)⟩

theorem Upd.mono {fp fp' : List Nat} {a b : World} (h : Upd fp a b) (hf : ∀ x, x ∈ fp → x ∈ fp') : Upd fp' a b :=
  ⟨h.os, h.tape, h.output, h.size, fun i hi hn => h.block i hi (fun hm => hn (hf i hm))⟩

theorem Upd.then {fp : List Nat} {a b c : World} (h : Upd fp a b) (k : Upd fp b c) : Upd fp a c := h.trans k (fun _ => .inl)
theorem Upd.nil {fp : List Nat} {a b c : World} (h : Upd fp a b) (k : Upd [] b c) : Upd fp a c := h.trans k (fun _ hx => by simp at hx)

theorem Upd.alloc {fp : List Nat} {a w : World} (h : Upd fp a w) (o : Obj) : Upd fp a (w.alloc o) :=
  h.nil ⟨rfl, rfl, rfl, by simp, fun k hk _ => Below.heap_alloc _ _ _ hk⟩

theorem Upd.drew {fp : List Nat} {a w : World} (h : Upd fp a w) : Upd fp a w.drew := ⟨h.os, h.tape, h.output, h.size, h.block⟩

theorem Upd.drewN {fp : List Nat} {a w : World} (h : Upd fp a w) (n : Nat) : Upd fp a (w.drewN n) := ⟨h.os, h.tape, h.output, h.size, h.block⟩

theorem Upd.setCell {fp : List Nat} {a w : World} (h : Upd fp a w) {p : Addr} (hp : p.block ∈ fp ∨ a.heap.size ≤ p.block) (u : Value) : Upd fp a (w.setCell p u) :=
  ⟨h.os, h.tape, h.output, by simpa using h.size, fun k hk hn => (Below.heap_setCell _ _ _ _ (fun e => by subst e; rcases hp with hp | hp; exact hn hp; omega)).trans (h.block k hk hn)⟩

theorem Upd.grown {fp : List Nat} {a w w' : World} {row : Option Nat} (h : Upd fp a w) (hg : w.grownBy w' row) (hr : ∀ k, row = some k → k ∈ fp ∨ a.heap.size ≤ k) : Upd fp a w' :=
  ⟨hg.os.trans h.os, hg.tape.trans h.tape, hg.output.trans h.output, Nat.le_trans h.size hg.size, fun k hk hn =>
    (hg.block k (Nat.lt_of_lt_of_le hk h.size) (fun e => by rcases hr k e.symm with h' | h'; exact hn h'; omega)).trans (h.block k hk hn)⟩

theorem Upd.below {w w' : World} (h : Upd [] w w') : Below w.heap.size w w' := ⟨h.os, h.tape, h.output, h.size, fun k hk => h.block k hk (by simp)⟩
theorem Upd.ofBelow {w w' : World} (h : Below w.heap.size w w') : Upd [] w w' := ⟨h.os, h.tape, h.output, h.size, fun k hk _ => h.block k hk⟩

theorem Blk.lt {w : World} {b : Nat} {T : TypeId} {c : List Value} (h : Blk w b T c) : b < w.heap.size := (Array.getElem?_eq_some_iff.1 h).1
theorem Blk.cell {w : World} {b : Nat} {T : TypeId} {c : List Value} (h : Blk w b T c) {i : Nat} {v : Value} (hv : c[i]? = some v) : w.cell? ⟨b, i, none⟩ = some v := by
  unfold Blk at h; simp [World.cell?, h, hv]
theorem Blk.free {w : World} {b : Nat} {T : TypeId} {c : List Value} (h : Blk w b T c) (i : Nat) : w.frozen? ⟨b, i, none⟩ = false := by
  unfold Blk at h; simp [World.frozen?, h]
theorem Blk.upd {w w' : World} {fp : List Nat} {b : Nat} {T : TypeId} {c : List Value} (h : Blk w b T c) (hu : Upd fp w w') (hn : b ∉ fp) : Blk w' b T c :=
  (hu.block b h.lt hn).trans h
theorem Blk.new (w : World) (T : TypeId) (c : List Value) : Blk (w.alloc (.cells c.toArray T)) w.heap.size T c := by
  unfold Blk World.alloc; simp
theorem Blk.alloc {w : World} {b : Nat} {T : TypeId} {c : List Value} (h : Blk w b T c) (o : Obj) : Blk (w.alloc o) b T c :=
  (Below.heap_alloc _ _ _ h.lt).trans h
theorem Blk.drew {w : World} {b : Nat} {T : TypeId} {c : List Value} (h : Blk w b T c) : Blk w.drew b T c := h
theorem Blk.drewN {w : World} {b : Nat} {T : TypeId} {c : List Value} (h : Blk w b T c) (n : Nat) : Blk (w.drewN n) b T c := h
theorem Blk.set {w : World} {b : Nat} {T : TypeId} {c : List Value} (h : Blk w b T c) (i : Nat) (v : Value) : Blk (w.setCell ⟨b, i, none⟩ v) b T (c.set i v) := by
  unfold Blk at *; simp [World.setCell, Array.getElem?_modify, h]
theorem Blk.other {w : World} {b : Nat} {T : TypeId} {c : List Value} (h : Blk w b T c) {a : Addr} (v : Value) (hne : b ≠ a.block) : Blk (w.setCell a v) b T c :=
  (Below.heap_setCell _ _ _ _ hne).trans h

theorem Blk.new1 (w : World) (o : Obj) (T : TypeId) (c : List Value) : Blk ((w.alloc o).alloc (.cells c.toArray T)) (w.heap.size + 1) T c := by
  have := Blk.new (w.alloc o) T c; simpa using this
theorem Blk.new2 (w : World) (o o' : Obj) (T : TypeId) (c : List Value) : Blk (((w.alloc o).alloc o').alloc (.cells c.toArray T)) (w.heap.size + 1 + 1) T c := by
  have := Blk.new ((w.alloc o).alloc o') T c; simpa using this
theorem Blk.new3 (w : World) (o o' o'' : Obj) (T : TypeId) (c : List Value) : Blk ((((w.alloc o).alloc o').alloc o'').alloc (.cells c.toArray T)) (w.heap.size + 1 + 1 + 1) T c := by
  have := Blk.new (((w.alloc o).alloc o').alloc o'') T c; simpa using this
theorem Blk.new4 (w : World) (o o' o'' o3 : Obj) (T : TypeId) (c : List Value) : Blk (((((w.alloc o).alloc o').alloc o'').alloc o3).alloc (.cells c.toArray T)) (w.heap.size + 1 + 1 + 1 + 1) T c := by
  have := Blk.new ((((w.alloc o).alloc o').alloc o'').alloc o3) T c; simpa using this

/-- A struct of four cells stored into a block of four. -/
theorem Blk.set4 {w : World} {b : Nat} {T : TypeId} {x0 x1 x2 x3 : Value} (h : Blk w b T [x0, x1, x2, x3]) (y0 y1 y2 y3 : Value) :
    Blk ((((w.setCell ⟨b, 0, none⟩ y0).setCell ⟨b, 1, none⟩ y1).setCell ⟨b, 2, none⟩ y2).setCell ⟨b, 3, none⟩ y3) b T [y0, y1, y2, y3] := (((h.set 0 y0).set 1 y1).set 2 y2).set 3 y3
theorem Blk.other4 {w : World} {b d : Nat} {T : TypeId} {c : List Value} (h : Blk w b T c) (hne : b ≠ d) (y0 y1 y2 y3 : Value) :
    Blk ((((w.setCell ⟨d, 0, none⟩ y0).setCell ⟨d, 1, none⟩ y1).setCell ⟨d, 2, none⟩ y2).setCell ⟨d, 3, none⟩ y3) b T c := (((h.other y0 hne).other y1 hne).other y2 hne).other y3 hne
theorem Upd.set4 {fp : List Nat} {a w : World} (h : Upd fp a w) {d : Nat} (hp : d ∈ fp ∨ a.heap.size ≤ d) (y0 y1 y2 y3 : Value) :
    Upd fp a ((((w.setCell ⟨d, 0, none⟩ y0).setCell ⟨d, 1, none⟩ y1).setCell ⟨d, 2, none⟩ y2).setCell ⟨d, 3, none⟩ y3) := (((h.setCell (p := ⟨d, 0, none⟩) hp y0).setCell (p := ⟨d, 1, none⟩) hp y1).setCell (p := ⟨d, 2, none⟩) hp y2).setCell (p := ⟨d, 3, none⟩) hp y3

theorem plain_addr (b off n : Nat) : (⟨b, off, none⟩ : Addr).add n = ⟨b, off + n, none⟩ := by
  unfold Addr.add
  split
  · rename_i h0; subst h0; rfl
  · rfl

/-- The law's word: true; nothing that was there has turned. -/
def OkV (w : World) (e : Ending) (w' : World) : Prop := e = .returned (.bool true) ∧ Upd [] w w'

theorem ret_int {k : IntKind} {a b : Int} (h : a = b) : Ending.returned (.int k a) = .returned (.int k b) := by rw [h]
theorem ret_bool {a b : Bool} (h : a = b) : Ending.returned (.bool a) = .returned (.bool b) := by rw [h]
end Go.Proofs.Ytnaeehnnjhklbaa
