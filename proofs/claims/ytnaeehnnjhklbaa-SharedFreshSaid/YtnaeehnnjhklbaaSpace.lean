/- The walk of a namespace that stands on the key table: Len, Get, Set, Shared. -/
import Derived.Test.YtnaeehnnjhklbaaRowAdd
set_option linter.unusedVariables false
set_option maxRecDepth 100000
namespace Go.Proofs.Ytnaeehnnjhklbaa
open Go.RowKit Go.MapKept Go.ChangeMaps
variable {w w' : World} {b : Nat} {v : Value} {cb cg : Nat} {m : Option Addr} {t : Tab} {q : Cnt}
variable {fb : Nat} {tb : Nat} {nv : Value} {nb : Nat} {most pairs : Int} {names : List ByteArray}
variable {rb sb : Nat} {rv : Value} {vals : List Int} {s : ByteArray} {ver : Int}

@[go_sem] theorem me_row_len (x : Value) (w : World) : (method 319 147 x "lexicon/shared.len").run Try.prog w = .ok (149, x) w := by kernel_rfl
@[go_sem] theorem me_row_find (x : Value) (w : World) : (method 319 147 x "lexicon/shared.find").run Try.prog w = .ok (148, x) w := by kernel_rfl
@[go_sem] theorem me_row_value (x : Value) (w : World) : (method 319 147 x "lexicon/shared.value").run Try.prog w = .ok (152, x) w := by kernel_rfl
@[go_sem] theorem me_row_turn (x : Value) (w : World) : (method 319 147 x "lexicon/shared.turn").run Try.prog w = .ok (151, x) w := by kernel_rfl
@[go_sem] theorem me_row_add (x : Value) (w : World) : (method 319 147 x "lexicon/shared.add").run Try.prog w = .ok (147, x) w := by kernel_rfl
@[go_sem] theorem me_row_pairs (x : Value) (w : World) : (method 319 147 x "lexicon/shared.pairs").run Try.prog w = .ok (150, x) w := by kernel_rfl
@[go_sem] theorem me_own_len (x : Value) (w : World) : (method 319 156 x "lexicon/shared.len").run Try.prog w = .ok (155, x) w := by kernel_rfl
@[go_sem] theorem me_own_find (x : Value) (w : World) : (method 319 156 x "lexicon/shared.find").run Try.prog w = .ok (154, x) w := by kernel_rfl
@[go_sem] theorem me_own_value (x : Value) (w : World) : (method 319 156 x "lexicon/shared.value").run Try.prog w = .ok (158, x) w := by kernel_rfl
@[go_sem] theorem me_own_turn (x : Value) (w : World) : (method 319 156 x "lexicon/shared.turn").run Try.prog w = .ok (157, x) w := by kernel_rfl
@[go_sem] theorem me_own_add (x : Value) (w : World) : (method 319 156 x "lexicon/shared.add").run Try.prog w = .ok (109, x) w := by kernel_rfl
@[go_sem] theorem me_own_pairs (x : Value) (w : World) : (method 319 156 x "lexicon/shared.pairs").run Try.prog w = .ok (156, x) w := by kernel_rfl
@[go_sem] theorem as_row_row (v : Value) (w : World) : (Instr.typeAssert (.iface 147 v) 60 147 true).run Try.prog w = .ok (.tuple #[v, .bool true]) w := by kernel_rfl
@[go_sem] theorem as_own_row (v : Value) (w : World) : (Instr.typeAssert (.iface 156 v) 60 147 true).run Try.prog w = .ok (.tuple #[.pointer none, .bool false]) w := by kernel_rfl
@[go_sem] theorem as_own_own (v : Value) (w : World) : (Instr.typeAssert (.iface 156 v) 60 156 true).run Try.prog w = .ok (.tuple #[v, .bool true]) w := by kernel_rfl
@[go_sem] theorem as_row_own (v : Value) (w : World) : (Instr.typeAssert (.iface 147 v) 60 156 true).run Try.prog w = .ok (.tuple #[.pointer none, .bool false]) w := by kernel_rfl

abbrev spcL (fb : Nat) (wy : Value) (ver : Int) : List Value := [.pointer (some ⟨fb, 0, none⟩), wy, .int .u64 ver]
abbrev rowWay (rb : Nat) : Value := .iface 147 (.pointer (some ⟨rb, 0, none⟩))

theorem sp_no {wy : Value} (h : Blk w sb 63 (spcL fb wy ver)) : Calls Try.prog 84 #[.pointer (some ⟨sb, 0, none⟩)] w fun e w' => e = .returned (.bool false) ∧ w = w' := by
  have c0 := h.cell (i := 0) rfl
  clear h
  go_enter Try.func84, Try.ntmps84
  go_wp2_with fail
  go_ret
  exact ⟨rfl, rfl⟩
theorem sp_nil : Calls Try.prog 84 #[.pointer none] w fun e w' => e = .returned (.bool true) ∧ w = w' := by
  go_enter Try.func84, Try.ntmps84
  go_wp2_with fail
  go_ret
  exact ⟨rfl, rfl⟩
theorem sp_zero (h : Blk w sb 63 [.pointer none, .nilIface, .int .u64 0]) : Calls Try.prog 84 #[.pointer (some ⟨sb, 0, none⟩)] w fun e w' => e = .returned (.bool true) ∧ w = w' := by
  have c0 := h.cell (i := 0) rfl
  clear h
  go_enter Try.func84, Try.ntmps84
  go_wp2_with fail
  go_ret
  exact ⟨rfl, rfl⟩

theorem len_row (h : Blk w sb 63 (spcL fb (rowWay rb) ver)) (hr : RowB w rb rv vals) : Calls Try.prog 40 #[.pointer (some ⟨sb, 0, none⟩)] w fun e w' => e = .returned (.int .i64 vals.length) ∧ w = w' := by
  have c1 := h.cell (i := 1) rfl
  have NO := Lib.hid (sp_no h)
  have LN := Lib.hid (rowLen_any hr)
  generalize vals.length = n at *
  clear h hr
  go_enter Try.func40, Try.ntmps40
  go_wp2_with fail
  refine NO.out.mono ?_
  rintro e w1 ⟨rfl, rfl⟩
  go_wp2_with fail
  refine LN.out.mono ?_
  rintro e w1 ⟨rfl, rfl⟩
  go_wp2_with fail
  go_ret
  exact ⟨rfl, rfl⟩
theorem shared_row (h : Blk w sb 63 (spcL fb (rowWay rb) ver)) : Calls Try.prog 43 #[.pointer (some ⟨sb, 0, none⟩)] w fun e w' => e = .returned (.bool true) ∧ w = w' := by
  have c1 := h.cell (i := 1) rfl
  have NO := Lib.hid (sp_no h)
  clear h
  go_enter Try.func43, Try.ntmps43
  go_wp2_with fail
  refine NO.out.mono ?_
  rintro e w1 ⟨rfl, rfl⟩
  go_wp2_with fail
  go_ret
  exact ⟨rfl, rfl⟩

theorem rowAt_cases (t : Tab) (names : List ByteArray) (vals : List Int) (s : ByteArray) (hok : t.ok) : rowAt t names vals s = -1 ∨ ∃ i : Nat, rowAt t names vals s = i ∧ i < vals.length := by
  unfold rowAt
  rcases find_cases hok.laid (txt s) (numOf names s) with h | ⟨e, h, _⟩
  · have : t.findE s (numOf names s) = -1 := h
    rw [this]
    split <;> exact .inl rfl
  · have : t.findE s (numOf names s) = e := h
    rw [this]
    split
    · exact .inr ⟨e, rfl, by omega⟩
    · exact .inl rfl

/-- What a Get tells of a row. -/
def getV (t : Tab) (names : List ByteArray) (vals : List Int) (s : ByteArray) : Int := if rowAt t names vals s < 0 then 0 else vals[(rowAt t names vals s).toNat]?.getD 0
set_option maxHeartbeats 1000000 in
theorem get_row (hS : Blk w sb 63 (spcL fb (rowWay rb) ver)) (hr : RowB w rb rv vals) (hF : FamB w fb m b nv nb most pairs names) (h : TabB w b v cb cg m t) (hm : Met w m q) (hs : s.size ≤ 200) :
    Calls Try.prog 37 #[.pointer (some ⟨sb, 0, none⟩), .string s] w fun e w' => e = .returned (.tuple #[.int .i64 (getV t names vals s), .bool (decide (0 ≤ rowAt t names vals s))]) ∧ Met w' m (t.findQ s (numOf names s) q) ∧ Upd (Met.fp m) w w' := by
  have hd := (Upd.refl [] w).drew
  have NO := Lib.hid (sp_no hS)
  have hrd := hr.upd hd (by simp)
  have hSd := hS.upd hd (by simp)
  have FD := Lib.hid (rowFind_any hrd (hF.upd hd (by simp)) (h.upd hd (by simp)) (hm.upd hd (by simp)) hs (hm.ne_blk hr.blk (by decide)))
  have HMR := Lib.hid (hm.ne_rowB hr)
  have HMS := Lib.hid (hm.ne_blk hS (by decide))
  have c0 := hSd.cell (i := 0) rfl
  have c1 := hSd.cell (i := 1) rfl
  have HS := Lib.hid hSd
  have HR := Lib.hid hrd
  unfold getV
  have hca := rowAt_cases t names vals s h.ok
  generalize Tab.findQ t s (numOf names s) q = q1 at *
  generalize rowAt t names vals s = z at *
  have HCA := Lib.hid hca
  clear hS hr hF h hm hd hrd hSd hca
  go_enter Try.func37, Try.ntmps37
  go_wp2_with fail
  refine NO.out.mono ?_
  rintro e w1 ⟨rfl, rfl⟩
  go_wp2_with fail
  go_region_held3 (fun w' => w'.cell? ⟨sb, 0, none⟩ = some (.pointer (some ⟨fb, 0, none⟩)) ∧ w'.cell? ⟨sb, 1, none⟩ = some (rowWay rb))
    (first | exact ⟨c0, c1⟩ | exact ⟨d0, d1⟩)
    (first
    | (go_at_call 148
       refine FD.out.mono ?_
       rintro e w2 ⟨rfl, hm2, hu2⟩
       have HS2 := Lib.hid (HS.out.upd hu2 HMS.out)
       have HR2 := Lib.hid (HR.out.upd hu2 HMR.out)
       have HM2 := Lib.hid hm2
       have HU2 : Hid (Upd (Met.fp m) w w2) := Lib.hid (((Upd.refl _ w).drew).then hu2)
       have d0 := HS2.out.cell (i := 0) rfl
       have d1 := HS2.out.cell (i := 1) rfl))
  rcases HCA.out with hz | ⟨i, hz, hi⟩
  · subst hz
    go_wp2_with fail
    go_ret2
    exact ⟨rfl, HM2.out, HU2.out⟩
  · subst hz
    have VL := Lib.hid (rowValue_any HR2.out i hi)
    obtain ⟨x, hx⟩ : ∃ x, x = vals[i] := ⟨_, rfl⟩
    rw [← hx] at VL
    have HX := Lib.hid hx
    clear hx
    go_wp2_with fail
    refine VL.out.mono ?_
    rintro e w3 ⟨rfl, rfl⟩
    go_wp2_with fail
    go_ret2
    refine ⟨?_, HM2.out, HU2.out⟩
    rw [HX.out]; rfl
end Go.Proofs.Ytnaeehnnjhklbaa
