/- The walk of lived and All. -/
import Derived.Test.YtnaeehnnjhklbaaDrop
import Derived.Laws.MakeOwn
set_option linter.unusedVariables false
set_option maxRecDepth 100000
namespace Go.Proofs.Ytnaeehnnjhklbaa
open Go.RowKit
variable {w w' : World} {b : Nat} {v : Value} {cb cg : Nat} {m : Option Addr} {t : Tab} {q : Cnt}

/-- The live entries among the first k, with their numbers. -/
def livedL (es : List Ent) : Nat → List (Nat × Ent)
  | 0 => []
  | k + 1 => livedL es k ++ (if (entOf es (k : Int)).live then [(k, entOf es (k : Int))] else [])
theorem livedL_len (es : List Ent) (k : Nat) : (livedL es k).length ≤ k := by
  induction k with
  | zero => simp [livedL]
  | succ k ih => simp only [livedL, List.length_append]; split <;> simp <;> omega
def numVals (x : Nat × Ent) : List Value := .int .i64 x.1 :: x.2.vals
def numsL (l : List (Nat × Ent)) : List Value := l.flatMap numVals
theorem numsL_app (a c : List (Nat × Ent)) : numsL (a ++ c) = numsL a ++ numsL c := by simp [numsL]
theorem numsL_one (x : Nat × Ent) : numsL [x] = numVals x := by simp [numsL]
theorem numsL_length (l : List (Nat × Ent)) : (numsL l).length = l.length * 6 := by
  induction l with
  | nil => rfl
  | cons x l ih =>
    have : numsL (x :: l) = numVals x ++ numsL l := by simp [numsL]
    rw [this, List.length_append, ih]
    simp [numVals, Ent.vals]
    omega
theorem infoNum : (Try.prog.info? 177).map (fun i => (i.zero, i.size, i.bytes)) = some (some (.agg #[.int .i64 0, .bool false, .int .i64 0, .int .i64 0, .int .i64 0, .int .i64 0]), 6, 48) := by kernel_rfl
theorem vals_six (x : Nat × Ent) : ∀ u ∈ numVals x, u.oneCell' = true := by
  intro u hu
  simp [numVals, Ent.vals] at hu
  rcases hu with rfl | rfl | rfl | rfl | rfl | rfl <;> rfl

def Lived (w : World) (l : List (Nat × Ent)) (o : Value) (w' : World) : Prop := w'.ownsRow w.heap.size 177 6 o l.length (numsL l) ∧ Upd [] w w'

set_option maxHeartbeats 2000000 in
theorem lived_any (h : TabB w b v cb cg m t) : Calls Try.prog 106 #[.pointer (some ⟨b, 0, none⟩)] w fun e w' => ∃ o, e = .returned o ∧ Lived w (livedL t.es t.es.length) o w' := by
  have HT := Lib.hid h
  obtain ⟨a, c, rfl⟩ := erow_shape h.row
  have c1 := h.blk.cell (i := 1) rfl
  have c3 := h.blk.cell (i := 3) rfl
  have hE := es_le h.ok
  have hlv : t.live ≤ 1048576 := Nat.le_trans t.live_le hE
  obtain ⟨i0, hi0, hz0, hz1, hz2⟩ := info_parts infoNum
  obtain ⟨wm, hmk, hom, hgm⟩ := run_make_own (P := Try.prog) w w.heap.size 173 177 i0 _ 6 Try.underlying173 hi0 hz0 hz1 .i64 .i64 t.live (by rw [hz2]; omega) (by unfold maxLen; omega) (Nat.le_refl _)
  have hum : Upd [] w wm := (Upd.refl [] w).grown hgm (fun k hk => by simp at hk)
  have c1m := (h.blk.upd hum (by simp)).cell (i := 1) rfl
  have HL0 : Hid (Lived w (livedL t.es 0) (.slice (some ⟨w.heap.size, 0, none⟩) 0 t.live) wm) := Lib.hid ⟨hom, hum⟩
  obtain ⟨n, hn⟩ : ∃ n, n = t.es.length := ⟨_, rfl⟩
  have HN := Lib.hid hn
  rw [← hn] at c1 hE c1m
  clear h hn hom hum hgm hlv
  rw [← HN.out]
  go_enter Try.func106, Try.ntmps106
  go_wp2_with fail
  generalize Value.slice (some ⟨w.heap.size, 0, none⟩) 0 t.live = o0 at *
  clear hmk c1 c3 c1m
  go_loopw [3, 18] (fun o i wr => ∃ k : Nat, k ≤ n ∧ i = .int .i64 k ∧ Hid (Lived w (livedL t.es k) o wr)) (fun _ i _ => n - (intOf i).toNat)
  case atStart => exact ⟨0, Nat.zero_le _, rfl, HL0⟩
  case round =>
    obtain ⟨k, hkn, rfl, hb⟩ := hrel
    clear HL0
    by_cases hlt : k < n
    · have hl : (k : Int) < (n : Int) := by omega
      have hkl : k < t.es.length := by rw [← HN.out]; exact hlt
      have HTr := Lib.hid (HT.out.upd hb.out.2 (by simp))
      obtain ⟨g, cap, hva, hcap⟩ := erow_some HTr.out.row (by omega)
      have hva' : a = some ⟨g, 0, none⟩ := by injection hva
      subst hva'
      have d0 := erow_cell HTr.out.row hkl (j := 0) (by omega) rfl
      have d1 := erow_cell HTr.out.row hkl (j := 1) (by omega) rfl
      have d2 := erow_cell HTr.out.row hkl (j := 2) (by omega) rfl
      have d3 := erow_cell HTr.out.row hkl (j := 3) (by omega) rfl
      have d4 := erow_cell HTr.out.row hkl (j := 4) (by omega) rfl
      rw [Nat.add_zero] at d0
      have hsucc : livedL t.es (k + 1) = livedL t.es k ++ (if (entOf t.es (k : Int)).live then [(k, entOf t.es (k : Int))] else []) := rfl
      have hlen := livedL_len t.es k
      generalize entOf t.es (k : Int) = x at *
      have HS := Lib.hid hsucc
      clear hsucc hva
      by_cases hx : x.live = true
      · rw [hx] at d0
        have HSS : Hid (livedL t.es (k + 1) = livedL t.es k ++ [(k, x)]) := Lib.hid (by rw [HS.out, if_pos hx])
        clear HS HTr
        go_wp2_with (at_builtin; refine wpList_append_own _ rfl _ _ 173 rfl w.heap.size 177 i0 _ 6 48 Try.underlying173 hi0 hz0 hz1 hz2 rfl (by decide) _ _ _ rfl ((hb.out.1.alloc _).alloc _) ⟨wr.heap.size + 1, 0, none⟩ 1 1 [.int .i64 k, .bool true, .int .i64 x.hash, .int .i64 x.key, .int .i64 x.value, .int .i64 x.birth] rfl rfl ?c1 ?c2 ?c3 ?c4 ?c5 ?_)
        case c1 =>
          intro j u hu
          rw [plain_addr, Nat.zero_add]
          exact (Blk.new1 wr _ 177 [.int .i64 k, .bool true, .int .i64 x.hash, .int .i64 x.key, .int .i64 x.value, .int .i64 x.birth]).cell hu
        case c2 =>
          intro u hu
          simp at hu
          rcases hu with rfl | rfl | rfl | rfl | rfl | rfl <;> rfl
        case c3 => unfold maxLen; omega
        case c4 => omega
        case c5 => simp; have := hb.out.2.size; omega
        intro v' w6 hown hgrow _
        have hL : Hid (Lived w (livedL t.es (k + 1)) v' w6) := Lib.hid (by
          refine ⟨?_, ((hb.out.2.alloc _).alloc _).grown hgrow (fun y hy => .inr (hb.out.1.lt y hy).1)⟩
          rw [HSS.out, numsL_app, numsL_one, List.length_append]
          have e : numVals (k, x) = [.int .i64 k, .bool true, .int .i64 x.hash, .int .i64 x.key, .int .i64 x.value, .int .i64 x.birth] := by simp [numVals, Ent.vals, hx]
          rw [e]
          exact hown)
        clear hown hgrow hb d0 d1 d2 d3 d4
        go_wp2_with fail
        go_roundw
        case rel => exact ⟨k + 1, by omega, by go_num, hL⟩
        case measure => simp [intOf]; omega
      · have hxf : x.live = false := by simpa using hx
        rw [hxf] at d0
        have HSS : Hid (livedL t.es (k + 1) = livedL t.es k) := Lib.hid (by rw [HS.out, if_neg hx, List.append_nil])
        clear HS HTr
        go_wp2_with fail
        go_roundw
        case rel => exact ⟨k + 1, by omega, by go_num, by rw [HSS.out]; exact Lib.hid ⟨hb.out.1.alloc _, hb.out.2.alloc _⟩⟩
        case measure => simp [intOf]; omega
    · obtain rfl : k = n := by omega
      go_wp2_with fail
      go_ret
      exact ⟨_, rfl, hb.out⟩
end Go.Proofs.Ytnaeehnnjhklbaa
