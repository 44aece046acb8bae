/- The walks of package cells: what cells tell, one cell read, one cell written. -/
import Derived.Test.YtnaeehnnjhklbaaCells
set_option linter.unusedVariables false
namespace Go.Proofs.Ytnaeehnnjhklbaa
open Go.RowKit

def kindOf (L : Nat) : Kind := if L ≤ 7 then K8 else if L ≤ 15 then K16 else K32
theorem kindOf_ok (L : Nat) : (kindOf L).ok := by
  unfold kindOf Kind.ok
  split
  · exact .inl rfl
  · split
    · exact .inr (.inl rfl)
    · exact .inr (.inr rfl)
def room (L : Nat) : Nat := 2 * 2 ^ L / 3
/-- May a cell hold it? -/
def mayB (L : Nat) (v : Int) : Bool := (v == -1) || ((v == -2) || (decide (0 ≤ v) && decide (v < (room L : Int))))
theorem pow20 {L : Nat} (h : L ≤ 20) : 2 ^ L ≤ 1048576 := Nat.pow_le_pow_right (by omega) h
theorem room_le {L : Nat} (h : L ≤ 20) : room L ≤ 1048576 := by have := pow20 h; unfold room; omega
theorem mayB_range {L : Nat} {v : Int} (hL : L ≤ 20) (h : mayB L v = true) : -2 ≤ v ∧ v < 1048576 := by
  have := room_le hL
  simp [mayB] at h
  omega

/-- The cells of a table: the struct, the row. -/
structure CellsAt (w : World) (b g L : Nat) (f : Nat → Int) : Prop where
  lo : 3 ≤ L
  hi : L ≤ 20
  c : Blk w b 115 (cellsL (kindOf L) L g (2 ^ L))
  r : w.rowIs g (kindOf L).E (2 ^ L) (fun i => .int (kindOf L).k (f i))
  v : ∀ i, i < 2 ^ L → mayB L (f i) = true

theorem CellsAt.ne {w : World} {b g L : Nat} {f : Nat → Int} (h : CellsAt w b g L f) : b ≠ g := by
  intro e
  subst e
  obtain ⟨c, hb, _⟩ := h.r
  have hc := h.c
  unfold Blk at hc
  rw [hb] at hc
  have : (kindOf L).E = 115 := by simp at hc; exact hc.2
  rcases kindOf_ok L with e | e | e <;> rw [e] at this <;> simp [K8, K16, K32] at this

theorem rowIs_upd {w w' : World} {fp : List Nat} {b t n : Nat} {f : Nat → Value} (h : w.rowIs b t n f) (hu : Upd fp w w') (hn : b ∉ fp) : w'.rowIs b t n f := h.of_block (hu.block b h.lt hn)

theorem CellsAt.upd {w w' : World} {b g L : Nat} {f : Nat → Int} {fp : List Nat} (h : CellsAt w b g L f) (hu : Upd fp w w') (hb : b ∉ fp) (hg : g ∉ fp) : CellsAt w' b g L f :=
  ⟨h.lo, h.hi, h.c.upd hu hb, rowIs_upd h.r hu hg, h.v⟩

variable {w : World} {b g L : Nat} {f : Nat → Int}

theorem CellsAt.log (h : CellsAt w b g L f) : Calls Try.prog 90 #[.pointer (some ⟨b, 0, none⟩)] w fun e w' => e = .returned (.int .i64 L) ∧ w = w' := by
  have hc := h.c
  have c0 := hc.cell (i := 0) rfl
  clear h
  go_enter Try.func90, Try.ntmps90
  go_wp2_with (go_at_call 96; refine (none_some b _ _ _ _ hc).mono ?_; rintro e w' ⟨rfl, rfl⟩)
  go_ret
  exact ⟨rfl, rfl⟩
theorem CellsAt.size (h : CellsAt w b g L f) : Calls Try.prog 53 #[.pointer (some ⟨b, 0, none⟩)] w fun e w' => e = .returned (.int .i64 ((2 ^ L : Nat) : Int)) ∧ Upd [] w w' :=
  size_some (kindOf_ok L) b g (2 ^ L) L w h.c
theorem CellsAt.room (h : CellsAt w b g L f) : Calls Try.prog 88 #[.pointer (some ⟨b, 0, none⟩)] w fun e w' => e = .returned (.int .i64 (room L : Nat)) ∧ Upd [] w w' := by
  have H := Lib.hid h.size
  have hp := pow20 h.hi
  have e : (Ytnaeehnnjhklbaa.room L : Int) = 2 * ((2 ^ L : Nat) : Int) / 3 := by unfold Ytnaeehnnjhklbaa.room; omega
  rw [e]
  clear h e
  generalize 2 ^ L = n at *
  go_enter Try.func88, Try.ntmps88
  go_wp2_with (go_at_call 53; refine H.out.mono ?_; rintro e w' ⟨rfl, hu⟩)
  go_ret
  exact ⟨rfl, hu⟩
theorem CellsAt.width (h : CellsAt w b g L f) : Calls Try.prog 92 #[.pointer (some ⟨b, 0, none⟩)] w fun e w' => e = .returned (.int .i64 (kindOf L).wd) ∧ Upd [] w w' := by
  have hc := h.c
  have hk := kindOf_ok L
  clear h
  generalize kindOf L = κ at *
  generalize 2 ^ L = n at *
  have c1 := hc.cell (i := 1) rfl
  have m := hk.m_width
  have c := hk.c_width
  have H := hk.width_any g n w
  have HH := Lib.hid H
  clear H
  go_enter Try.func92, Try.ntmps92
  go_wp2_with (go_at_call 96; refine (none_some b _ _ _ _ hc).mono ?_; rintro e w' ⟨rfl, rfl⟩)
  refine HH.out.mono ?_
  rintro e w' ⟨rfl, hu⟩
  go_wp2_with fail
  go_ret
  exact ⟨rfl, hu⟩

theorem CellsAt.wrong_in (h : CellsAt w b g L f) (i : Nat) (hi : i < 2 ^ L) : Calls Try.prog 98 #[.pointer (some ⟨b, 0, none⟩), .int .i64 i] w fun e w' => e = .returned (.int .i64 0) ∧ Upd [] w w' := by
  have H := Lib.hid h.size
  have hc := h.c
  clear h
  generalize 2 ^ L = n at *
  have h1 : ¬ (n : Int) ≤ (i : Int) := by omega
  go_enter Try.func98, Try.ntmps98
  go_wp2_with (first | (go_at_call 96; refine (none_some b _ _ _ _ hc).mono ?_; rintro e w' ⟨rfl, rfl⟩) | (go_at_call 53; refine H.out.mono ?_; rintro e w' ⟨rfl, hu⟩))
  go_ret
  exact ⟨rfl, hu⟩
theorem CellsAt.wrong_out (h : CellsAt w b g L f) (i : Int) (hi : i < 0 ∨ ((2 ^ L : Nat) : Int) ≤ i) : Calls Try.prog 98 #[.pointer (some ⟨b, 0, none⟩), .int .i64 i] w fun e w' => e = .returned (.int .i64 5) ∧ Upd [] w w' := by
  have H := Lib.hid h.size
  have hc := h.c
  clear h
  generalize 2 ^ L = n at *
  by_cases h0 : i < 0
  · go_enter Try.func98, Try.ntmps98
    go_wp2_with (first | (go_at_call 96; refine (none_some b _ _ _ _ hc).mono ?_; rintro e w' ⟨rfl, rfl⟩) | (go_at_call 53; refine H.out.mono ?_; rintro e w' ⟨rfl, hu⟩))
    go_ret
    exact ⟨rfl, Upd.refl _ _⟩
  · have h1 : (n : Int) ≤ i := by omega
    clear hi
    go_enter Try.func98, Try.ntmps98
    go_wp2_with (first | (go_at_call 96; refine (none_some b _ _ _ _ hc).mono ?_; rintro e w' ⟨rfl, rfl⟩) | (go_at_call 53; refine H.out.mono ?_; rintro e w' ⟨rfl, hu⟩))
    go_ret
    exact ⟨rfl, hu⟩

theorem CellsAt.may (h : CellsAt w b g L f) (v : Int) : Calls Try.prog 99 #[.pointer (some ⟨b, 0, none⟩), .int .i64 v] w fun e w' => e = .returned (.bool (mayB L v)) ∧ Upd [] w w' := by
  have H := Lib.hid h.room
  have hr := room_le h.hi
  clear h
  unfold mayB
  generalize Ytnaeehnnjhklbaa.room L = n at *
  by_cases h1 : v = -1
  · subst h1
    go_enter Try.func99, Try.ntmps99
    go_wp2_with (go_at_call 88; refine H.out.mono ?_; rintro e w' ⟨rfl, hu⟩)
    go_ret
    exact ⟨rfl, Upd.refl _ _⟩
  have h1' : (v == -1) = false := by simpa using h1
  by_cases h2 : v = -2
  · subst h2
    go_enter Try.func99, Try.ntmps99
    go_wp2_with (go_at_call 88; refine H.out.mono ?_; rintro e w' ⟨rfl, hu⟩)
    go_ret
    exact ⟨rfl, Upd.refl _ _⟩
  have h2' : (v == -2) = false := by simpa using h2
  rw [h1', h2']
  clear h1 h2
  by_cases h3 : 0 ≤ v
  · go_enter Try.func99, Try.ntmps99
    go_wp2_with (go_at_call 88; refine H.out.mono ?_; rintro e w' ⟨rfl, hu⟩)
    go_ret
    exact ⟨ret_bool (by simp [h3]), hu⟩
  · go_enter Try.func99, Try.ntmps99
    go_wp2_with (go_at_call 88; refine H.out.mono ?_; rintro e w' ⟨rfl, hu⟩)
    go_ret
    exact ⟨ret_bool (by simp; omega), Upd.refl _ _⟩

theorem CellsAt.range (h : CellsAt w b g L f) (i : Nat) (hi : i < 2 ^ L) : -2 ≤ f i ∧ f i < 1048576 := mayB_range h.hi (h.v i hi)

theorem CellsAt.get_in (h : CellsAt w b g L f) (i : Nat) (hi : i < 2 ^ L) : Calls Try.prog 60 #[.pointer (some ⟨b, 0, none⟩), .int .i64 i] w fun e w' => e = .returned (.tuple #[.int .i64 (f i), .int .i64 0]) ∧ Upd [] w w' := by
  have H := Lib.hid (h.wrong_in i hi)
  have hk := kindOf_ok L
  have hp := pow20 h.hi
  have G := Lib.hid (fun (W : World) (hu : Upd [] w W) => hk.get_any g (2 ^ L) i (f i) W hi (by omega) ((rowIs_upd h.r hu (by simp)).cell hi) (by have := (h.range i hi).1; omega) (by have := (h.range i hi).2; omega))
  have hc := h.c
  clear h
  generalize kindOf L = κ at *
  generalize 2 ^ L = n at *
  have c1 := hc.cell (i := 1) rfl
  have m := hk.m_get
  have c := hk.c_get
  go_enter Try.func60, Try.ntmps60
  go_wp2_with fail
  refine H.out.mono ?_
  rintro e w1 ⟨rfl, hu⟩
  have c1' := (hc.upd hu (by simp)).cell (i := 1) rfl
  go_wp2_with fail
  refine (G.out w1 hu).mono ?_
  rintro e w2 ⟨rfl, hu2⟩
  go_wp2_with fail
  go_ret2
  exact ⟨rfl, hu.then hu2⟩
theorem CellsAt.get_out (h : CellsAt w b g L f) (i : Int) (hi : i < 0 ∨ ((2 ^ L : Nat) : Int) ≤ i) : Calls Try.prog 60 #[.pointer (some ⟨b, 0, none⟩), .int .i64 i] w fun e w' => e = .returned (.tuple #[.int .i64 0, .int .i64 5]) ∧ Upd [] w w' := by
  have H := Lib.hid (h.wrong_out i hi)
  clear h hi
  go_enter Try.func60, Try.ntmps60
  go_wp2_with fail
  refine H.out.mono ?_
  rintro e w1 ⟨rfl, hu⟩
  go_wp2_with fail
  go_ret2
  exact ⟨rfl, hu⟩

/-- f, but v at i. -/
def putAt (f : Nat → Int) (i : Nat) (v : Int) : Nat → Int := fun j => if j = i then v else f j
theorem kind_wrap {L : Nat} {v : Int} (hL : L ≤ 20) (h : mayB L v = true) : (kindOf L).k.wrap v = v := by
  have hr := mayB_range hL h
  have h2 : v < (Ytnaeehnnjhklbaa.room L : Int) ∨ v < 0 := by simp [mayB] at h; omega
  unfold kindOf
  split
  · have : Ytnaeehnnjhklbaa.room L ≤ 85 := by
      have hp : 2 ^ L ≤ 128 := Nat.pow_le_pow_right (by omega) (show L ≤ 7 by omega)
      unfold Ytnaeehnnjhklbaa.room; omega
    simp only [K8, IntKind.wrap, IntKind.bits, IntKind.signed]
    simp
    omega
  · split
    · have : Ytnaeehnnjhklbaa.room L ≤ 21845 := by
        have hp : 2 ^ L ≤ 32768 := Nat.pow_le_pow_right (by omega) (show L ≤ 15 by omega)
        unfold Ytnaeehnnjhklbaa.room; omega
      simp only [K16, IntKind.wrap, IntKind.bits, IntKind.signed]
      simp
      omega
    · simp only [K32, IntKind.wrap, IntKind.bits, IntKind.signed]
      simp
      omega

theorem CellsAt.put (h : CellsAt w b g L f) (i : Nat) (v : Int) (hi : i < 2 ^ L) (hv : mayB L v = true) (o : Obj) : CellsAt ((w.setCell ⟨g, i, none⟩ (.int (kindOf L).k v)).alloc o) b g L (putAt f i v) where
  lo := h.lo
  hi := h.hi
  c := (h.c.other _ h.ne).alloc _
  r := ((h.r.set i (.int (kindOf L).k v)).congr (fun j _ => by unfold putAt; split <;> rfl)).alloc o
  v := fun j hj => by unfold putAt; split; exact hv; exact h.v j hj

theorem CellsAt.set_in (h : CellsAt w b g L f) (i : Nat) (v : Int) (hi : i < 2 ^ L) (hv : mayB L v = true) :
    Calls Try.prog 56 #[.pointer (some ⟨b, 0, none⟩), .int .i64 i, .int .i64 v] w fun e w' => e = .returned (.int .i64 0) ∧ CellsAt w' b g L (putAt f i v) ∧ Upd [g] w w' := by
  have H := Lib.hid (h.wrong_in i hi)
  have M := Lib.hid (fun (W : World) (hu : Upd [] w W) => (h.upd hu (by simp) (by simp)).may v)
  have hk := kindOf_ok L
  have hp := pow20 h.hi
  have G := Lib.hid (fun (W : World) (hu : Upd [] w W) => hk.set_any g (2 ^ L) i (f i) v W hi (by omega) ((rowIs_upd h.r hu (by simp)).cell hi) ((rowIs_upd h.r hu (by simp)).frozen i))
  have F := Lib.hid (fun (W : World) (hu : Upd [] w W) (o : Obj) => (h.upd hu (by simp) (by simp)).put i v hi hv o)
  have hw := kind_wrap h.hi hv
  rw [hw] at G
  have hc := h.c
  have Hv := Lib.hid hv
  clear h hv hw
  have c1 := hc.cell (i := 1) rfl
  have m := hk.m_set
  have c := hk.c_set
  go_enter Try.func56, Try.ntmps56
  go_wp2_with fail
  refine H.out.mono ?_
  rintro e w1 ⟨rfl, hu⟩
  go_wp2_with fail
  refine (M.out w1 hu).mono ?_
  rintro e w2 ⟨rfl, hu2⟩
  rw [Hv.out]
  have hu12 := hu.then hu2
  have c1' := (hc.upd hu12 (by simp)).cell (i := 1) rfl
  clear hu hu2
  go_wp2_with fail
  refine (G.out w2 hu12).mono ?_
  rintro e w3 ⟨rfl, o, rfl⟩
  go_wp2_with fail
  go_ret
  exact ⟨rfl, F.out w2 hu12 o, ((hu12.mono (by simp)).setCell (.inl (by simp)) _).alloc _⟩
theorem CellsAt.set_not (h : CellsAt w b g L f) (i : Nat) (v : Int) (hi : i < 2 ^ L) (hv : mayB L v = false) :
    Calls Try.prog 56 #[.pointer (some ⟨b, 0, none⟩), .int .i64 i, .int .i64 v] w fun e w' => e = .returned (.int .i64 1) ∧ Upd [] w w' := by
  have H := Lib.hid (h.wrong_in i hi)
  have M := Lib.hid (fun (W : World) (hu : Upd [] w W) => (h.upd hu (by simp) (by simp)).may v)
  have Hv := Lib.hid hv
  clear h hv
  go_enter Try.func56, Try.ntmps56
  go_wp2_with fail
  refine H.out.mono ?_
  rintro e w1 ⟨rfl, hu⟩
  go_wp2_with fail
  refine (M.out w1 hu).mono ?_
  rintro e w2 ⟨rfl, hu2⟩
  rw [Hv.out]
  go_wp2_with fail
  go_ret
  exact ⟨rfl, hu.then hu2⟩
theorem CellsAt.set_out (h : CellsAt w b g L f) (i v : Int) (hi : i < 0 ∨ ((2 ^ L : Nat) : Int) ≤ i) :
    Calls Try.prog 56 #[.pointer (some ⟨b, 0, none⟩), .int .i64 i, .int .i64 v] w fun e w' => e = .returned (.int .i64 5) ∧ Upd [] w w' := by
  have H := Lib.hid (h.wrong_out i hi)
  clear h hi
  go_enter Try.func56, Try.ntmps56
  go_wp2_with fail
  refine H.out.mono ?_
  rintro e w1 ⟨rfl, hu⟩
  go_wp2_with fail
  go_ret
  exact ⟨rfl, hu⟩
end Go.Proofs.Ytnaeehnnjhklbaa
