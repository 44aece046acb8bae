/- What the statements on shared namespaces share: names, awake. -/
import Derived.Test.YtnaeehnnjhklbaaKeyTab
import Derived.Test.YtnaeehnnjhklbaaNil
import Derived.Laws.OwnMore
import Derived.Laws.Strings
set_option linter.unusedVariables false
set_option maxRecDepth 100000
namespace Go.Proofs.Ytnaeehnnjhklbaa
open Go.RowKit Go.MapKept Go.ChangeMaps
variable {w w' : World}

/-- A slice that reads as this list of texts. -/
def StrAt (w : World) (v : Value) (l : List ByteArray) : Prop := ∃ base, w.ownsRow base 9 1 v l.length (l.map .string)
theorem StrAt.cell {w : World} {g n c : Nat} {l : List ByteArray} {base : Nat} (h : w.ownsRow base 9 1 (.slice (some ⟨g, 0, none⟩) n c) l.length (l.map .string)) {k : Nat} (hk : k < l.length) : w.cell? ⟨g, k, none⟩ = some (.string l[k]) := by
  have := h.cells (g := g) rfl k (.string l[k]) (by simp [hk])
  rwa [plain_addr, Nat.zero_add] at this

theorem bytes_eq (x y : ByteArray) : (x.toList == y.toList) = decide (x = y) := by
  rw [ByteArray.toList_eq, ByteArray.toList_eq]
  by_cases h : x = y
  · subst h; simp
  · rw [decide_eq_false h]
    refine Bool.eq_false_iff.2 (fun e => h ?_)
    have e' : x.data.toList = y.data.toList := by simpa using e
    cases x; cases y
    simp at e'
    rw [e']
theorem names_eq {va vb : Value} {la lb : List ByteArray} (ha : StrAt w va la) (hb : StrAt w vb lb) (hla : la.length ≤ 1048576) :
    Calls Try.prog 65 #[va, vb] w fun e w' => e = .returned (.bool (decide (la = lb))) ∧ Upd [] w w' := by
  obtain ⟨b1, ha⟩ := ha
  obtain ⟨b2, hb⟩ := hb
  obtain ⟨a1, c1, rfl⟩ := own_shape ha
  obtain ⟨a2, c2, rfl⟩ := own_shape hb
  have HA := Lib.hid ha
  have HB := Lib.hid hb
  by_cases hl : la.length = lb.length
  · have hl' : ((la.length : Int) == (lb.length : Int)) = true := by simp; omega
    have HL := Lib.hid hl
    obtain ⟨n, hn⟩ : ∃ n, n = la.length := ⟨_, rfl⟩
    rw [← hn] at hl hl' hla
    rw [← hl] at hl'
    have HN := Lib.hid hn
    rw [← HN.out, ← hl]
    clear hl ha hb hn
    go_enter Try.func65, Try.ntmps65
    go_wp2_with fail
    go_loopw [5] (fun i wr => ∃ k : Nat, k ≤ n ∧ i = .int .i64 k ∧ Hid (Upd [] w wr) ∧ Hid (la.take k = lb.take k)) (fun i _ => n - (intOf i).toNat)
    case atStart => exact ⟨0, Nat.zero_le _, rfl, Lib.hid (Upd.refl _ _), Lib.hid rfl⟩
    case round =>
      obtain ⟨k, hkn, rfl, hu, htk⟩ := hrel
      by_cases hlt : k < n
      · have hli : (k : Int) < (n : Int) := by omega
        have hka : k < la.length := by rw [← HN.out]; exact hlt
        have hkb : k < lb.length := by rw [← HL.out]; exact hka
        obtain ⟨g1, d1, e1, _⟩ := own_some HA.out (by omega)
        obtain ⟨g2, d2, e2, _⟩ := own_some HB.out (by omega)
        have e1' : a1 = some ⟨g1, 0, none⟩ := by injection e1
        have e2' : a2 = some ⟨g2, 0, none⟩ := by injection e2
        subst e1'
        subst e2'
        have hA := own_keep HA.out hu.out (fun _ _ => by simp)
        have hB := own_keep HB.out hu.out (fun _ _ => by simp)
        have ca : ∀ w', Upd [] wr w' → w'.cell? ⟨g1, k, none⟩ = some (.string la[k]) := fun w' h => StrAt.cell (own_keep hA h (fun _ _ => by simp)) hka
        have cb : ∀ w', Upd [] wr w' → w'.cell? ⟨g2, k, none⟩ = some (.string lb[k]) := fun w' h => StrAt.cell (own_keep hB h (fun _ _ => by simp)) hkb
        have hsucc : la[k] = lb[k] → la.take (k + 1) = lb.take (k + 1) := fun h => by
          rw [List.take_add_one, List.take_add_one, List.getElem?_eq_getElem hka, List.getElem?_eq_getElem hkb, h, htk.out]
        have hno : la[k] ≠ lb[k] → la ≠ lb := fun h e => h (by subst e; rfl)
        have HSU := Lib.hid hsucc
        have HNO := Lib.hid hno
        clear hsucc hno hA hB e1 e2
        generalize la[k] = x at *
        generalize lb[k] = y at *
        go_wp2_with fail
        refine wp_region_calm (by kernel_rfl) (by kernel_rfl) ?_
        repeat (first | go_big_quiet_skip | (go_big_quiet_want; refine quiet_ex ?_; apply Exists.intro; refine ⟨fun wq hwq => ?_, ?_⟩; ((try go_simp); first | exact rfl | (fail)); ((try go_simp); go_big_quiet_on)))
        refine wpQuiet_nil ?_
        intro wq hwq
        have hb := bytes_eq x y
        have HU := Lib.hid (hu.out.then hwq)
        by_cases hxy : x = y
        · rw [decide_eq_true hxy] at hb
          rw [hb, Bool.not_true]
          have HS := Lib.hid (HSU.out hxy)
          clear hxy HSU HNO ca cb hwq
          go_wp2_with fail
          go_roundw
          case rel => exact ⟨k + 1, by omega, by go_num, HU, HS⟩
          case measure => simp [intOf]; omega
        · rw [decide_eq_false hxy] at hb
          rw [hb, Bool.not_false]
          have HS := Lib.hid (HNO.out hxy)
          clear hxy HSU HNO ca cb hwq
          go_wp2_with fail
          go_ret
          exact ⟨by rw [decide_eq_false HS.out]; rfl, HU.out⟩
      · obtain rfl : k = n := by omega
        go_wp2_with fail
        go_ret
        have : la = lb := by
          have := htk.out
          rw [List.take_of_length_le (by rw [← HN.out]; exact Nat.le_refl _), List.take_of_length_le (by rw [← HL.out, ← HN.out]; exact Nat.le_refl _)] at this
          exact this
        exact ⟨by rw [decide_eq_true this]; rfl, hu.out⟩
  · have hl' : ((la.length : Int) == (lb.length : Int)) = false := by simp; omega
    have hne : la ≠ lb := fun e => hl (by rw [e])
    generalize la.length = n at *
    generalize lb.length = n2 at *
    go_enter Try.func65, Try.ntmps65
    go_wp2_with fail
    go_ret
    exact ⟨by rw [decide_eq_false hne]; rfl, Upd.refl _ _⟩
end Go.Proofs.Ytnaeehnnjhklbaa
