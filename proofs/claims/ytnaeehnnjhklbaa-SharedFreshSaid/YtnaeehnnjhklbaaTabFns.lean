/- The walks of package table: what asks a table, and what makes one. -/
import Derived.Test.YtnaeehnnjhklbaaTabAt
import Derived.Test.YtnaeehnnjhklbaaCalm
set_option linter.unusedVariables false
namespace Go.Proofs.Ytnaeehnnjhklbaa
open Go.RowKit

variable {w : World} {b : Nat} {v : Value} {cb cg : Nat} {m : Option Addr} {t : Tab}

theorem tabLen_any (h : TabB w b v cb cg m t) : Calls Try.prog 153 #[.pointer (some ⟨b, 0, none⟩)] w fun e w' => e = .returned (.int .i64 t.live) ∧ w = w' := by
  have c3 := h.blk.cell (i := 3) rfl
  clear h
  go_enter Try.func153, Try.ntmps153
  go_wp2_with fail
  go_ret
  exact ⟨rfl, rfl⟩

theorem es_le (h : t.ok) : t.es.length ≤ 1048576 := Nat.le_trans h.fits (room_le h.laid.hi)

theorem wrong_ok (h : TabB w b v cb cg m t) (e : Nat) (he : e < t.es.length) (hl : (entOf t.es (e : Int)).live = true) :
    Calls Try.prog 110 #[.pointer (some ⟨b, 0, none⟩), .int .i64 e] w fun e w' => e = .returned (.int .i64 0) ∧ w = w' := by
  obtain ⟨g, cap, rfl, hcap⟩ := erow_some h.row (by omega)
  have c1 := h.blk.cell (i := 1) rfl
  have cl := erow_cell h.row he (j := 0) (by omega) rfl
  have hm := es_le h.ok
  rw [hl, Nat.add_zero] at cl
  clear h hl
  generalize t.es.length = n at *
  have h1 : ¬ (e : Int) < 0 := by omega
  have h2 : ¬ (n : Int) ≤ (e : Int) := by omega
  have h3 : (e : Int) < (n : Int) := by omega
  go_enter Try.func110, Try.ntmps110
  go_wp2_with fail
  go_ret
  exact ⟨rfl, rfl⟩

theorem begin_any (h : TabB w b v cb cg m t) : Calls Try.prog 108 #[.pointer (some ⟨b, 0, none⟩)] w fun e w' => e = .returned (.tuple #[]) ∧ w = w' := by
  have c2 := h.blk.cell (i := 2) rfl
  clear h
  go_enter Try.func108, Try.ntmps108
  go_wp2_with fail
  go_end0
  exact ⟨rfl, rfl⟩

abbrev zeroE : Obj := .cells #[.bool false, .int .i64 0, .int .i64 0, .int .i64 0, .int .i64 0] 130
abbrev entV (x : Ent) : Value := .agg #[.bool x.live, .int .i64 x.hash, .int .i64 x.key, .int .i64 x.value, .int .i64 x.birth]

theorem ent_ret (w : World) (b : Nat) (x : Ent) (u : Value) (tmps : Array Value) (hb : Blk w b 130 x.vals)
    (hp : tmps.getD 4 undef = .pointer (some ⟨b, 0, none⟩)) (hu : tmps.getD 5 undef = u) :
    (results Try.f144 tmps).run Try.prog w = .ok (.tuple #[entV x, u]) w := by
  rw [results_cell_tmp rfl, hp, hu]
  have h := run_loadVar_row (P := Try.prog) w b 130 130 x.vals.toArray (0, 0) _ hb Try.underlying130 rfl (by kernel_rfl)
  simp [asAddr, h, Result.andThen, Ent.vals]

theorem at_ok (h : TabB w b v cb cg m t) (e : Nat) (he : e < t.es.length) (hl : (entOf t.es (e : Int)).live = true) :
    Calls Try.prog 144 #[.pointer (some ⟨b, 0, none⟩), .int .i64 e] w fun e' w' => e' = .returned (.tuple #[entV (entOf t.es (e : Int)), .int .i64 0]) ∧ Upd [] w w' := by
  have hu0 := (Upd.refl [] w).alloc (.cells #[.bool false, .int .i64 0, .int .i64 0, .int .i64 0, .int .i64 0] 130)
  have h1 := h.upd hu0 (by simp)
  have hb0 := Blk.new w 130 [.bool false, .int .i64 0, .int .i64 0, .int .i64 0, .int .i64 0]
  have f0 := hb0.free 0
  have f1 := hb0.free 1
  have f2 := hb0.free 2
  have f3 := hb0.free 3
  have f4 := hb0.free 4
  have z0 := hb0.cell (i := 0) rfl
  have z1 := hb0.cell (i := 1) rfl
  have z2 := hb0.cell (i := 2) rfl
  have z3 := hb0.cell (i := 3) rfl
  have z4 := hb0.cell (i := 4) rfl
  have W := Lib.hid (wrong_ok h1 e he hl)
  obtain ⟨g, cap, rfl, hcap⟩ := erow_some h.row (by omega)
  have c1 := h1.blk.cell (i := 1) rfl
  have d0 := erow_cell h1.row he (j := 0) (by omega) rfl
  have d1 := erow_cell h1.row he (j := 1) (by omega) rfl
  have d2 := erow_cell h1.row he (j := 2) (by omega) rfl
  have d3 := erow_cell h1.row he (j := 3) (by omega) rfl
  have d4 := erow_cell h1.row he (j := 4) (by omega) rfl
  rw [Nat.add_zero] at d0
  have hm := es_le h.ok
  clear h hl h1
  generalize entOf t.es (e : Int) = x at *
  generalize t.es.length = n at *
  have h3 : (e : Int) < (n : Int) := by omega
  go_enter Try.func144, Try.ntmps144
  go_wp2_with (go_at_call 110; refine W.out.mono ?_; rintro e w1 ⟨rfl, rfl⟩)
  exact bodyPost_ret (ent_ret _ w.heap.size x _ _ (Blk.new w 130 x.vals) rfl rfl) rfl ⟨rfl, (Upd.refl _ _).alloc _⟩

theorem set_mid {A B C : List Value} {a j : Nat} (hA : A.length = a) (hj : j < B.length) (u : Value) : (A ++ (B ++ C)).set (a + j) u = A ++ (B.set j u ++ C) := by
  rw [List.set_append_right _ _ (by omega), hA, show a + j - a = j by omega, List.set_append_left _ _ hj]
theorem entsL_put (es : List Ent) (e : Nat) (he : e < es.length) (j : Nat) (hj : j < 5) (u : Value) (x : Ent) (hx : x.vals = (entOf es (e : Int)).vals.set j u) : entsL (es.set e x) = (entsL es).set (e * 5 + j) u := by
  have hs : es.set e (entOf es (e : Int)) = es := by
    rw [entOf_nat, List.getD, List.getElem?_eq_getElem he]; simp
  have e2 := entsL_set es e (entOf es (e : Int)) he
  rw [hs] at e2
  have hA : ((entsL es).take (e * 5)).length = e * 5 := by rw [List.length_take, entsL_length]; omega
  rw [entsL_set es e x he, hx]
  generalize (entsL es).take (e * 5) = A at *
  generalize (entsL es).drop (e * 5 + 5) = C at *
  rw [e2, set_mid hA (by rw [vals_length]; exact hj)]

theorem put_ok (h : TabB w b v cb cg m t) (e : Nat) (z : Int) (he : e < t.es.length) (hl : (entOf t.es (e : Int)).live = true) :
    Calls Try.prog 159 #[.pointer (some ⟨b, 0, none⟩), .int .i64 e, .int .i64 z] w fun e' w' => e' = .returned (.int .i64 0) ∧ TabB w' b v cb cg m (t.put e z) ∧ Upd (tabFp b v cb cg) w w' := by
  have W := Lib.hid (wrong_ok h e he hl)
  have T := Lib.hid h
  have hok := Lib.hid (Tab.put_ok h.ok e z he)
  have hlv := Lib.hid (Tab.put_live e z he hl)
  have hne : ∀ k, v.ownBlock = some k → b ≠ k ∧ cb ≠ k ∧ cg ≠ k := fun k hk => ⟨h.ne_bv hk, h.ne_cv hk, h.ne_gv hk⟩
  obtain ⟨g, cap, rfl, hcap⟩ := erow_some h.row (by omega)
  obtain ⟨nb, nc, ng⟩ := hne g rfl
  have c1 := h.blk.cell (i := 1) rfl
  have d3 := erow_cell h.row he (j := 3) (by omega) rfl
  have f3 := erow_free h.row (e * 5 + 3)
  have hm := es_le h.ok
  have hset : entsL (t.es.set e { entOf t.es (e : Int) with value := z }) = (entsL t.es).set (e * 5 + 3) (.int .i64 z) := by
    exact entsL_put t.es e he 3 (by omega) _ _ rfl
  have HS := Lib.hid hset
  clear h hl hset hne
  generalize hn : t.es.length = n at *
  have HN := Lib.hid hn
  have h3 : (e : Int) < (n : Int) := by omega
  clear hn
  go_enter Try.func159, Try.ntmps159
  go_wp2_with (go_at_call 110; refine W.out.mono ?_; rintro e w1 ⟨rfl, rfl⟩)
  go_ret
  refine ⟨rfl, ⟨hok.out, ?_, ?_, ?_⟩, (Upd.refl _ _).setCell (p := ⟨g, e * 5 + 3, none⟩) (.inl (by simp [tabFp, Value.ownBlock])) _⟩
  · rw [hlv.out]
    exact T.out.blk.other _ nb
  · exact erow_put T.out.row _ _ HS.out (by simp [Tab.put])
  · exact T.out.cc.upd ((Upd.refl [g] w).setCell (p := ⟨g, e * 5 + 3, none⟩) (.inl (by simp)) _) (by simpa using nc) (by simpa using ng)
end Go.Proofs.Ytnaeehnnjhklbaa
