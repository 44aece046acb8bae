/- The walk of New, begin, Make. -/
import Derived.Test.YtnaeehnnjhklbaaSpaceSet
import Derived.Test.YtnaeehnnjhklbaaTabNew
import Derived.Carry
set_option linter.unusedVariables false
set_option maxRecDepth 100000
namespace Go.Proofs.Ytnaeehnnjhklbaa
open Go.RowKit Go.MapKept Go.ChangeMaps
variable {w w' : World} {b : Nat} {v : Value} {cb cg : Nat} {m : Option Addr} {t : Tab} {q : Cnt}
variable {fb : Nat} {tb : Nat} {nv : Value} {nb : Nat} {most pairs : Int} {names : List ByteArray}
variable {rb sb : Nat} {rv : Value} {vals : List Int} {s : ByteArray} {ver : Int}

theorem begin_fam (h : FamB w fb m b nv nb most pairs names) : Calls Try.prog 81 #[.pointer (some ⟨fb, 0, none⟩)] w fun e w' => e = .returned (.pointer (some ⟨fb, 0, none⟩)) ∧ w = w' := by
  have c3 := h.blk.cell (i := 3) rfl
  clear h
  go_enter Try.func81, Try.ntmps81
  go_wp2_with fail
  go_ret
  exact ⟨rfl, rfl⟩

/-- A new namespace. -/
def Made (w : World) (fb : Nat) (e : Ending) (w' : World) : Prop := ∃ sb rb, e = .returned (.pointer (some ⟨sb, 0, none⟩)) ∧ Blk w' sb 63 (spcL fb (rowWay rb) 0) ∧ RowB w' rb (.slice none 0 0) [] ∧ w.heap.size ≤ sb ∧ w.heap.size ≤ rb ∧ Upd [] w w'
theorem make_fam (h : FamB w fb m b nv nb most pairs names) : Calls Try.prog 33 #[.pointer (some ⟨fb, 0, none⟩)] w (Made w fb) := by
  have BG := Lib.hid (begin_fam h)
  clear h
  go_enter Try.func33, Try.ntmps33
  go_wp2_with fail
  refine BG.out.mono ?_
  rintro e w1 ⟨rfl, rfl⟩
  go_wp2_with fail
  go_ret
  have hr := (Blk.new w 149 [.slice none 0 0]).alloc (.cells #[.pointer (some ⟨fb, 0, none⟩), rowWay w.heap.size, .int .u64 0] 63)
  have hs := Blk.new1 w (.cells #[.slice none 0 0] 149) 63 [.pointer (some ⟨fb, 0, none⟩), rowWay w.heap.size, .int .u64 0]
  exact ⟨w.heap.size + 1, w.heap.size, rfl, hs, ⟨hr, World.ownsRow_nil _ _ _ _⟩, by omega, Nat.le_refl _, ((Upd.refl [] w).alloc _).alloc _⟩
theorem make_nil : Calls Try.prog 33 #[.pointer none] w fun e w' => e = .returned (.pointer none) ∧ w = w' := by
  go_enter Try.func33, Try.ntmps33
  go_wp2_with fail
  go_ret
  exact ⟨rfl, rfl⟩
/-- A new family. -/
def NewFam (w : World) (m : Option Addr) (q : Cnt) (most pairs : Int) (fb tb : Nat) (v : Value) (cb cg nb : Nat) (w' : World) : Prop :=
  FamB w' fb m tb (.slice none 0 0) nb most pairs [] ∧ TabB w' tb v cb cg m Tab.new ∧ Met w' m (q.add 0 1) ∧ (∀ x ∈ famFp fb (.slice none 0 0) nb ++ tabFp tb v cb cg, w.heap.size ≤ x) ∧ Upd (Met.fp m) w w'
theorem new_fam (hm : Met w m q) (h1 : 0 ≤ most) (h2 : most ≤ 256) (h3 : 0 ≤ pairs) (h4 : pairs ≤ 65536) : Calls Try.prog 64 #[.int .i64 most, .int .i64 pairs, .pointer m] w fun e w' => ∃ fb tb v cb cg nb, e = .returned (.tuple #[.pointer (some ⟨fb, 0, none⟩), .int .i64 0]) ∧ NewFam w m q most pairs fb tb v cb cg nb w' := by
  have NT := Lib.hid (tnew_any w m q hm)
  have hml := Lib.hid hm.lt
  clear hm
  have g1 : ¬ most < 0 := by omega
  have g2 : ¬ most > 256 := by omega
  have g3 : ¬ pairs < 0 := by omega
  have g4 : ¬ pairs > 65536 := by omega
  go_enter Try.func64, Try.ntmps64
  go_wp2_with fail
  refine NT.out.mono ?_
  rintro e w1 ⟨tb, v, cb, cg, rfl, hT, hfp, hm1, hu1⟩
  have HT := Lib.hid hT
  have HM := Lib.hid hm1
  have HU := Lib.hid hu1
  have HFP := Lib.hid hfp
  clear hT hm1 hu1 hfp NT
  have hmm : (Instr.makeMap 56 none).run Try.prog w1 = .ok (.map (some w1.heap.size)) (w1.alloc (.map #[] 0)) := rfl
  go_wp2_with fail
  go_ret2
  have hnum := (NumAt.new w1)
  have u1 := (Upd.refl [] w1).alloc (.map #[] 0)
  have u2 := u1.alloc (.cells #[.int .i64 most, .int .i64 pairs, .pointer m, .pointer (some ⟨tb, 0, none⟩), .slice none 0 0, .map (some w1.heap.size)] 58)
  have u2' := (Upd.refl [] (w1.alloc (.map #[] 0))).alloc (.cells #[.int .i64 most, .int .i64 pairs, .pointer m, .pointer (some ⟨tb, 0, none⟩), .slice none 0 0, .map (some w1.heap.size)] 58)
  have hb := Blk.new1 w1 (.map #[] 0) 58 (famL most pairs m tb (.slice none 0 0) w1.heap.size)
  have hz := HU.out.size
  refine ⟨w1.heap.size + 1, tb, v, cb, cg, w1.heap.size, rfl, ⟨hb, World.ownsRow_nil _ _ _ _, hnum.upd u2' (by simp), List.nodup_nil, by simp⟩, HT.out.upd u2 (by simp), HM.out.upd u2 (by simp), fun x hx => ?_, HU.out.nil u2⟩
  rcases List.mem_append.1 hx with hx | hx
  · simp [famFp, Value.ownBlock] at hx
    omega
  · exact HFP.out x hx
abbrev zeroFam : List Value := [.int .i64 0, .int .i64 0, .pointer none, .pointer none, .slice none 0 0, .map none]
def Begun (w : World) (fb tb : Nat) (v : Value) (cb cg nb : Nat) (w' : World) : Prop :=
  FamB w' fb none tb (.slice none 0 0) nb 0 0 [] ∧ TabB w' tb v cb cg none Tab.new ∧ (∀ x ∈ nb :: tabFp tb v cb cg, w.heap.size ≤ x) ∧ Upd [fb] w w'
theorem begin_zero (h : Blk w fb 58 zeroFam) : Calls Try.prog 81 #[.pointer (some ⟨fb, 0, none⟩)] w fun e w' => ∃ tb v cb cg nb, e = .returned (.pointer (some ⟨fb, 0, none⟩)) ∧ Begun w fb tb v cb cg nb w' := by
  have c3 := h.cell (i := 3) rfl
  have HB := Lib.hid h
  have NT := Lib.hid (tnew_any w none ⟨0, 0, 0, 0⟩ trivial)
  have HL := Lib.hid h.lt
  clear h
  go_enter Try.func81, Try.ntmps81
  go_wp2_with fail
  refine NT.out.mono ?_
  rintro e w1 ⟨tb, v, cb, cg, rfl, hT, hfp, hm1, hu1⟩
  have hB1 := HB.out.upd hu1 (by simp [Met.fp])
  have hB2 := hB1.alloc (.map #[] 0)
  have f3 := hB2.free 3
  have d3 := hB2.cell (i := 3) rfl
  have hB3 := hB2.set 3 (.pointer (some ⟨tb, 0, none⟩))
  have f5 := hB3.free 5
  have d5 := hB3.cell (i := 5) rfl
  have hB4 := hB3.set 5 (.map (some w1.heap.size))
  have HB4 := Lib.hid hB4
  have HT := Lib.hid hT
  have HU := Lib.hid hu1
  have HFP := Lib.hid hfp
  have hmm : (Instr.makeMap 56 none).run Try.prog w1 = .ok (.map (some w1.heap.size)) (w1.alloc (.map #[] 0)) := rfl
  clear hT hu1 hfp hm1 NT hB1 hB2 hB3 hB4
  go_wp2_with fail
  go_ret
  have hz := HU.out.size
  have hfl := HL.out
  have u1 := (Upd.refl [] w1).alloc (.map #[] 0)
  have u2 : Upd [fb] (w1.alloc (.map #[] 0)) (((w1.alloc (.map #[] 0)).setCell ⟨fb, 3, none⟩ (.pointer (some ⟨tb, 0, none⟩))).setCell ⟨fb, 5, none⟩ (.map (some w1.heap.size))) := ((Upd.refl [fb] _).setCell (p := ⟨fb, 3, none⟩) (.inl (by simp)) _).setCell (p := ⟨fb, 5, none⟩) (.inl (by simp)) _
  have hnf : ∀ x ∈ tabFp tb v cb cg, x ∉ [fb] := fun x hx => by have := HFP.out x hx; simp; omega
  refine ⟨tb, v, cb, cg, w1.heap.size, rfl, ⟨HB4.out, World.ownsRow_nil _ _ _ _, (NumAt.new w1).upd u2 (by simp; omega), List.nodup_nil, by simp⟩, (HT.out.upd u1 (by simp)).upd u2 hnf, fun x hx => ?_, ((HU.out.mono (by simp [Met.fp])).then (u1.mono (by simp))).then u2⟩
  rcases List.mem_cons.1 hx with rfl | hx
  · exact hz
  · exact HFP.out x hx

theorem make_zero (h : Blk w fb 58 zeroFam) : Calls Try.prog 33 #[.pointer (some ⟨fb, 0, none⟩)] w fun e w' => ∃ w1 tb v cb cg nb, Begun w fb tb v cb cg nb w1 ∧ Made w1 fb e w' := by
  have BG := Lib.hid (begin_zero h)
  clear h
  go_enter Try.func33, Try.ntmps33
  go_wp2_with fail
  refine BG.out.mono ?_
  rintro e w1 ⟨tb, v, cb, cg, nb, rfl, hbg⟩
  have HBG := Lib.hid hbg
  clear hbg
  go_wp2_with fail
  go_ret
  have hr := (Blk.new w1 149 [.slice none 0 0]).alloc (.cells #[.pointer (some ⟨fb, 0, none⟩), rowWay w1.heap.size, .int .u64 0] 63)
  have hs := Blk.new1 w1 (.cells #[.slice none 0 0] 149) 63 [.pointer (some ⟨fb, 0, none⟩), rowWay w1.heap.size, .int .u64 0]
  exact ⟨w1, tb, v, cb, cg, nb, HBG.out, w1.heap.size + 1, w1.heap.size, rfl, hs, ⟨hr, World.ownsRow_nil _ _ _ _⟩, by omega, Nat.le_refl _, ((Upd.refl [] w1).alloc _).alloc _⟩
end Go.Proofs.Ytnaeehnnjhklbaa
