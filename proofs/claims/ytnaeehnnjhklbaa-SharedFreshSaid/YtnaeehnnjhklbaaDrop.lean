/- The walk of package table: drop. -/
import Derived.Test.YtnaeehnnjhklbaaLayAll
import Derived.Test.YtnaeehnnjhklbaaCalmTail
import Derived.Laws.CopyOwn
import Derived.BigRegion
import Derived.RegionTactic
import Derived.ChangeAlike
set_option linter.unusedVariables false
namespace Go.Proofs.Ytnaeehnnjhklbaa
open Go.RowKit

variable {w w' : World} {b : Nat} {v : Value} {cb cg : Nat} {m : Option Addr} {t : Tab} {q : Cnt} {es : List Ent} {L : Nat} {f : Nat → Int} {live births made turns : Int}

theorem infoEnt : (Try.prog.info? 130).map (fun i => (i.zero, i.size, i.bytes)) = some (some (.agg #[.bool false, .int .i64 0, .int .i64 0, .int .i64 0, .int .i64 0]), 5, 40) := by kernel_rfl
theorem upd_setRow (w : World) (g : Nat) (c : Array Value) : Upd [g] w (w.setRow g c) := by
  refine ⟨rfl, rfl, rfl, by simp [World.setRow], fun k hk hn => ?_⟩
  simp at hn
  have hgk : g ≠ k := fun e => hn e.symm
  simp [World.setRow, Array.getElem?_modify, hgk]

theorem splice_take (l vs : List Value) (a d N : Nat) (hv : vs.length = d) (ha : a + d ≤ N) (hN : N ≤ l.length) : (l.take a ++ vs ++ l.drop (a + d)).take N = (l.take N).take a ++ (vs ++ (l.take N).drop (a + d)) := by
  have hla : (l.take a).length = a := by rw [List.length_take]; omega
  have e1 : (l.take N).take a = l.take a := by rw [List.take_take]; congr 1; omega
  have e2 : (l.take N).drop (a + d) = (l.drop (a + d)).take (N - (a + d)) := List.drop_take ..
  rw [e1, e2, List.append_assoc, List.take_append, hla, List.take_of_length_le (l := l.take a) (by omega)]
  congr 1
  rw [List.take_append, hv, List.take_of_length_le (l := vs) (by omega)]
  congr 2
  omega

/-- The cells of a row as a list of entries, and what lies behind. -/
theorem erow_block {es : List Ent} {g n cap : Nat} (h : ERow w (.slice (some ⟨g, 0, none⟩) n cap) es) : ∃ cur, w.heap[g]? = some (.cells cur 130 (0, 0)) ∧ n = es.length ∧ es.length ≤ cap ∧ cap ≤ maxLen ∧ cur.size = cap * 5 ∧ cur.toList.take (es.length * 5) = entsL es := by
  rcases h.2 with ⟨hv, _⟩ | ⟨g', cap', cur, hv, _, hg, h1, h2, h3, h4⟩
  · simp at hv
  · simp at hv
    obtain ⟨rfl, rfl, rfl⟩ := hv
    exact ⟨cur, hg, rfl, h1, h2, h3, h4⟩
theorem erow_mk {es : List Ent} {g cap : Nat} {cur : Array Value} (hg : w.heap[g]? = some (.cells cur 130 (0, 0))) (h1 : es.length ≤ cap) (h2 : cap ≤ maxLen) (h3 : cur.size = cap * 5) (h4 : cur.toList.take (es.length * 5) = entsL es) : ERow w (.slice (some ⟨g, 0, none⟩) es.length cap) es :=
  ⟨entsL_length es, .inr ⟨g, cap, cur, rfl, Nat.zero_le _, hg, h1, h2, h3, h4⟩⟩

theorem vals_one (x : Ent) : ∀ u ∈ x.vals, u.oneCell' = true := by
  intro u hu
  simp [Ent.vals] at hu
  rcases hu with rfl | rfl | rfl | rfl | rfl <;> rfl

theorem copy_one {es : List Ent} {g n cap k i : Nat} (h : ERow w (.slice (some ⟨g, 0, none⟩) n cap) es) (hk : k < es.length) (hi : i < es.length) (c1 c2 : Nat) (ty : TypeId) :
    ∃ w', (Builtin.copy_ #[68, 68] ty #[.slice (some ⟨g, k * 5, none⟩) 1 c1, .slice (some ⟨g, i * 5, none⟩) 1 c2]).run Try.prog w = .ok (.int .i64 1) w' ∧ ERow w' (.slice (some ⟨g, 0, none⟩) n cap) (es.set k (entOf es (i : Int))) ∧ Upd [g] w w' := by
  obtain ⟨cur, hg, rfl, hcap, hmx, hsz, htk⟩ := erow_block h
  have hst := run_storeCells_at Try.prog g (k * 5) 130 (entOf es (i : Int)).vals 0 cur w hg (by rw [vals_length, hsz]; omega) (vals_one _)
  have hl := run_loadCells_list (P := Try.prog) w ⟨g, i * 5, none⟩ (entOf es (i : Int)).vals (fun j u hu => by
    rw [plain_addr]
    exact erow_cell h hi (by have := (List.getElem?_eq_some_iff.1 hu).1; rwa [vals_length] at this) hu)
  obtain ⟨i0, hi0, hz0, hz1, hz2⟩ := info_parts infoEnt
  refine ⟨_, ?_, ?_, upd_setRow w g (cur.toList.take (k * 5 + 0) ++ (entOf es (i : Int)).vals ++ cur.toList.drop (k * 5 + 0 + (entOf es (i : Int)).vals.length)).toArray⟩
  · have hl' : (loadCells ⟨g, i * 5, none⟩ 5).run Try.prog w = .ok (entOf es (i : Int)).vals.toArray w := hl
    simp [Builtin.copy_, run_underlying Try.underlying68, Builtin.lenOf, Builtin.firstCells, sizeOf, typeInfo, hi0, hz1, hl', hst, goInt]
  · have hkl : (cur.toList.take (k * 5)).length = k * 5 := by simp [hsz]; omega
    have e := erow_mk (w := w.setRow g (cur.toList.take (k * 5 + 0) ++ (entOf es (i : Int)).vals ++ cur.toList.drop (k * 5 + 0 + (entOf es (i : Int)).vals.length)).toArray) (es := es.set k (entOf es (i : Int))) (g := g) (cap := cap) (setRow_heap w g cur _ _ _ hg) (by simpa using hcap) hmx (by simp [vals_length, hsz]; omega) (by
      rw [List.length_set, entsL_set es k _ hk, ← htk]
      simp only [Nat.add_zero, vals_length]
      exact splice_take cur.toList _ (k * 5) 5 (es.length * 5) (vals_length _) (by omega) (by simp [hsz]; omega))
    simpa using e

theorem zeroEnt (w : World) : (zeroValue 130).run Try.prog w = .ok (.agg #[.bool false, .int .i64 0, .int .i64 0, .int .i64 0, .int .i64 0]) w := by kernel_rfl

theorem clear_rest {es : List Ent} {g n cap k : Nat} (h : ERow w (.slice (some ⟨g, 0, none⟩) n cap) es) (hk : k < es.length) (c : Nat) (ty : TypeId) :
    ∃ w', (Builtin.clear_ #[68] ty #[.slice (some ⟨g, k * 5, none⟩) (es.length - k) c]).run Try.prog w = .ok (.tuple #[]) w' ∧ ERow w' (.slice (some ⟨g, 0, none⟩) k cap) (es.take k) ∧ Upd [g] w w' := by
  obtain ⟨cur, hg, rfl, hcap, hmx, hsz, htk⟩ := erow_block h
  obtain ⟨d, hd⟩ : ∃ d, es.length - k = d + 1 := ⟨es.length - k - 1, by omega⟩
  obtain ⟨z, hz⟩ : ∃ z, z = (Builtin.zeroCells #[Value.bool false, .int .i64 0, .int .i64 0, .int .i64 0, .int .i64 0] (d + 1)) := ⟨_, rfl⟩
  have hzl : z.toList.length = (d + 1) * 5 := by rw [hz]; simp [Builtin.zeroCells]
  have hz1 : ∀ u ∈ z.toList, u.oneCell' = true := by
    intro u hu
    rw [hz] at hu
    simp only [Builtin.zeroCells, Array.toList_map, List.mem_map] at hu
    obtain ⟨x, _, rfl⟩ := hu
    show (#[Value.bool false, .int .i64 0, .int .i64 0, .int .i64 0, .int .i64 0][x % 5]!).oneCell' = true
    rcases (by omega : x % 5 = 0 ∨ x % 5 = 1 ∨ x % 5 = 2 ∨ x % 5 = 3 ∨ x % 5 = 4) with h | h | h | h | h <;> rw [h] <;> rfl
  have hst := run_storeCells_at Try.prog g (k * 5) 130 z.toList 0 cur w hg (by rw [hzl, hsz]; omega) hz1
  refine ⟨_, ?_, ?_, upd_setRow w g (cur.toList.take (k * 5 + 0) ++ z.toList ++ cur.toList.drop (k * 5 + 0 + z.toList.length)).toArray⟩
  · rw [hd]
    have hz' : (zeroValue 130).run Try.prog w = .ok (.agg #[.bool false, .int .i64 0, .int .i64 0, .int .i64 0, .int .i64 0]) w := zeroEnt w
    have hc : (Value.agg #[.bool false, .int .i64 0, .int .i64 0, .int .i64 0, .int .i64 0]).cells = #[Value.bool false, .int .i64 0, .int .i64 0, .int .i64 0, .int .i64 0] := by rfl
    simp [Builtin.clear_, run_underlying Try.underlying68, hz', hc, ← hz, hst]
  · have hkl : (es.take k).length = k := by rw [List.length_take]; omega
    have e := erow_mk (w := w.setRow g (cur.toList.take (k * 5 + 0) ++ z.toList ++ cur.toList.drop (k * 5 + 0 + z.toList.length)).toArray) (es := es.take k) (g := g) (cap := cap) (setRow_heap w g cur _ _ _ hg) (by rw [hkl]; omega) hmx (by simp [hsz] at hzl ⊢; omega) (by
      rw [hkl, ← entsL_take, ← htk, List.take_take]
      simp only [Nat.add_zero, List.append_assoc]
      rw [List.take_append, List.length_take, List.take_take]
      have : min (k * 5) cur.toList.length = k * 5 := by simp [hsz]; omega
      rw [this, Nat.sub_self, List.take_zero, List.append_nil, Nat.min_self, Nat.min_eq_left (by omega)])
    rw [hkl] at e
    exact e

theorem clear_none (a : Option Addr) (c : Nat) (ty : TypeId) (w : World) : (Builtin.clear_ #[68] ty #[.slice a 0 c]).run Try.prog w = .ok (.tuple #[]) w := by
  cases a <;> simp [Builtin.clear_, run_underlying Try.underlying68]

/-- What drop's loop has made of the entries ahead of number i. -/
def DropAt (es es' : List Ent) (i : Nat) : Prop := es'.length = es.length ∧ es'.take (liveL (es.take i)).length = liveL (es.take i) ∧ es'.drop i = es.drop i
theorem dropAt_zero (es : List Ent) : DropAt es es 0 := ⟨rfl, rfl, rfl⟩
theorem liveL_take_succ (es : List Ent) (i : Nat) (hi : i < es.length) : liveL (es.take (i + 1)) = liveL (es.take i) ++ liveL [entOf es (i : Int)] := by
  rw [List.take_succ_eq_append_getElem hi, liveL_app, entOf_nat, List.getD, List.getElem?_eq_getElem hi]
  rfl
theorem dropAt_ent {es es' : List Ent} {i : Nat} (h : DropAt es es' i) (hi : i < es.length) : entOf es' (i : Int) = entOf es (i : Int) := by
  have h1 : (es'.drop i)[0]? = (es.drop i)[0]? := by rw [h.2.2]
  rw [List.getElem?_drop, List.getElem?_drop, Nat.add_zero] at h1
  rw [entOf_nat, entOf_nat, List.getD, List.getD, h1]
theorem dropAt_dead {es es' : List Ent} {i : Nat} (h : DropAt es es' i) (hi : i < es.length) (hl : (entOf es (i : Int)).live = false) : DropAt es es' (i + 1) := by
  have e : liveL (es.take (i + 1)) = liveL (es.take i) := by rw [liveL_take_succ es i hi]; simp [liveL, hl]
  refine ⟨h.1, by rw [e]; exact h.2.1, ?_⟩
  rw [← List.drop_drop, ← List.drop_drop, h.2.2]
theorem take_set_last {l p : List Ent} {k : Nat} {x : Ent} (hk : k < l.length) (hp : l.take k = p) : (l.set k x).take (k + 1) = p ++ [x] := by
  rw [List.take_add_one, List.take_set_of_le (Nat.le_refl _), hp]
  simp [hk]
theorem dropAt_live {es es' : List Ent} {i : Nat} (h : DropAt es es' i) (hi : i < es.length) (hl : (entOf es (i : Int)).live = true) : DropAt es (es'.set (liveL (es.take i)).length (entOf es' (i : Int))) (i + 1) := by
  have hle : (liveL (es.take i)).length ≤ i := Nat.le_trans (liveL_le _) (by rw [List.length_take]; omega)
  have e : liveL (es.take (i + 1)) = liveL (es.take i) ++ [entOf es (i : Int)] := by rw [liveL_take_succ es i hi, liveL_one _ hl]
  refine ⟨by rw [List.length_set]; exact h.1, ?_, ?_⟩
  · rw [e, List.length_append]
    show (es'.set _ _).take ((liveL (es.take i)).length + 1) = _
    rw [dropAt_ent h hi]
    exact take_set_last (by rw [h.1]; omega) h.2.1
  · rw [List.drop_set_of_lt (by omega), ← List.drop_drop, ← List.drop_drop, h.2.2]

theorem slice_one (g N cap D : Nat) (h : D + 1 ≤ cap) (w : World) :
    (Instr.slice 68 (.slice (some ⟨g, 0, none⟩) N cap) (some (.int .i64 D)) (some (.int .i64 ((D : Int) + 1))) none).run Try.prog w = .ok (.slice (some ⟨g, D * 5, none⟩) 1 (cap - D)) w := by
  obtain ⟨i0, hi0, hz0, hz1, hz2⟩ := info_parts infoEnt
  have h1 : (D : Int) + 1 ≤ (cap : Int) := by omega
  have h2 : ¬ cap = D := by omega
  have h3 : (D : Int) + 1 = ((D + 1 : Nat) : Int) := by omega
  have h4 : (((D + 1 : Nat) : Int)).toNat = D + 1 := by omega
  rw [run_slice_lh w _ _ _ _ (by kernel_rfl) .i64 .i64 (D : Int) ((D : Int) + 1) (by omega) (by omega) h1]
  have he : Try.prog.elem 68 = 130 := by kernel_rfl
  rw [he]
  simp [sizeOf, typeInfo, hi0, hz1, sliced, h2, Result.andThen, plain_addr]
theorem slice_from (g N cap D : Nat) (h : D < N) (hc : N ≤ cap) (w : World) :
    (Instr.slice 68 (.slice (some ⟨g, 0, none⟩) N cap) (some (.int .i64 D)) none none).run Try.prog w = .ok (.slice (some ⟨g, D * 5, none⟩) (N - D) (cap - D)) w := by
  obtain ⟨i0, hi0, hz0, hz1, hz2⟩ := info_parts infoEnt
  have h2 : ¬ cap = D := by omega
  rw [run_slice_l w _ _ _ _ (by kernel_rfl) .i64 (D : Int) (by omega) (by omega)]
  have he : Try.prog.elem 68 = 130 := by kernel_rfl
  rw [he]
  simp [sizeOf, typeInfo, hi0, hz1, sliced, h2, Result.andThen, plain_addr]

theorem slice_end (g N cap : Nat) (hc : N ≤ cap) (w : World) :
    ∃ a c, (Instr.slice 68 (.slice (some ⟨g, 0, none⟩) N cap) (some (.int .i64 N)) none none).run Try.prog w = .ok (.slice a 0 c) w := by
  obtain ⟨i0, hi0, hz0, hz1, hz2⟩ := info_parts infoEnt
  rw [run_slice_l w _ _ _ _ (by kernel_rfl) .i64 (N : Int) (by omega) (by omega)]
  have he : Try.prog.elem 68 = 130 := by kernel_rfl
  rw [he]
  simp [sizeOf, typeInfo, hi0, hz1, sliced, Result.andThen]
theorem slice_to (g N cap D : Nat) (h : D ≤ cap) (w : World) :
    (Instr.slice 68 (.slice (some ⟨g, 0, none⟩) N cap) none (some (.int .i64 D)) none).run Try.prog w = .ok (.slice (some ⟨g, 0, none⟩) D cap) w := by
  obtain ⟨i0, hi0, hz0, hz1, hz2⟩ := info_parts infoEnt
  rw [run_slice_h w _ _ _ _ (by kernel_rfl) .i64 (D : Int) (by omega) (by omega)]
  have he : Try.prog.elem 68 = 130 := by kernel_rfl
  rw [he]
  simp [sizeOf, typeInfo, hi0, hz1, sliced, Result.andThen, plain_addr]

/-- What drop leaves. -/
def Dropped (w : World) (b : Nat) (g cap cb : Nat) (m : Option Addr) (es : List Ent) (live births made turns : Int) (e : Ending) (w' : World) : Prop :=
  e = .returned (.tuple #[]) ∧ Blk w' b 179 [.pointer m, .slice (some ⟨g, 0, none⟩) (liveL es).length cap, .pointer (some ⟨cb, 0, none⟩), .int .i64 live, .int .i64 births, .int .i64 made, .int .i64 turns] ∧
    ERow w' (.slice (some ⟨g, 0, none⟩) (liveL es).length cap) (liveL es) ∧ Upd [b, g] w w'

set_option maxHeartbeats 1000000 in
theorem drop_any {g cap : Nat} (h : TabM w b (.slice (some ⟨g, 0, none⟩) es.length cap) cb cg m es L f live births made turns) (hE : es.length ≤ 1048576) :
    Calls Try.prog 119 #[.pointer (some ⟨b, 0, none⟩)] w (Dropped w b g cap cb m es live births made turns) := by
  have hcap : es.length ≤ cap := by
    obtain ⟨_, _, _, h1, _⟩ := erow_block h.row
    exact h1
  have nbg : b ≠ g := by
    obtain ⟨cur, hg⟩ := own_block h.row (k := g) rfl
    exact blk_ne h.blk hg (by decide)
  have hbl := h.blk.lt
  have hgl := (h.row.lt g rfl).2
  have HB := Lib.hid h.blk
  have HR := Lib.hid h.row
  have c1 := h.blk.cell (i := 1) rfl
  clear h
  obtain ⟨N, hN⟩ : ∃ N, N = es.length := ⟨_, rfl⟩
  have HN := Lib.hid hN
  rw [← hN] at hcap hE HB HR c1
  clear hN
  go_enter Try.func119, Try.ntmps119
  go_wp2_with fail
  go_loopw [2, 3, 4, 10] (fun n _ _ i wr => ∃ (k : Nat) (es' : List Ent), k ≤ N ∧ i = .int .i64 k ∧ n = .int .i64 (liveL (es.take k)).length ∧ Hid (DropAt es es' k) ∧ Hid (ERow wr (.slice (some ⟨g, 0, none⟩) N cap) es') ∧ Hid (Upd [g] w wr)) (fun _ _ _ i _ => N - (intOf i).toNat)
  case atStart => exact ⟨0, es, Nat.zero_le _, rfl, rfl, Lib.hid (dropAt_zero es), HR, Lib.hid (Upd.refl _ _)⟩
  case round =>
    obtain ⟨k, es', hk, rfl, rfl, HD, HE, HU⟩ := hrel
    obtain ⟨D, hD⟩ : ∃ D, D = (liveL (es.take k)).length := ⟨_, rfl⟩
    have hDk : D ≤ k := by rw [hD]; exact Nat.le_trans (liveL_le _) (by rw [List.length_take]; omega)
    have HDD := Lib.hid hD
    rw [← hD]
    clear hD
    have hlen : es'.length = N := by rw [HD.out.1]; exact HN.out.symm
    by_cases hlt : k < N
    · have hli : (k : Int) < (N : Int) := by omega
      have hkl : k < es'.length := by omega
      have d0 := erow_cell HE.out hkl (j := 0) (by omega) rfl
      have d1 := erow_cell HE.out hkl (j := 1) (by omega) rfl
      have d2 := erow_cell HE.out hkl (j := 2) (by omega) rfl
      have d3 := erow_cell HE.out hkl (j := 3) (by omega) rfl
      have d4 := erow_cell HE.out hkl (j := 4) (by omega) rfl
      have hent := dropAt_ent HD.out (by have := HN.out; omega : k < es.length)
      have HENT := Lib.hid hent
      rw [Nat.add_zero] at d0
      rw [hent] at d0 d1 d2 d3 d4
      have HLN := Lib.hid hlen
      have hlv : (entOf es (k : Int)).live = true ∨ (entOf es (k : Int)).live = false := by cases (entOf es (k : Int)).live <;> simp
      have hwb := Blk.new wr 130 (entOf es (k : Int)).vals
      have hub : Upd [g] w (wr.alloc (.cells (entOf es (k : Int)).vals.toArray 130)) := HU.out.alloc _
      have HA := Lib.hid (fun (o : Obj) => And.intro (HE.out.alloc o) (HU.out.alloc o))
      clear hent hlen hwb hub
      obtain ⟨x, hx⟩ : ∃ x, x = entOf es (k : Int) := ⟨_, rfl⟩
      rw [← hx] at d0 d1 d2 d3 d4 hlv HENT
      have HX := Lib.hid hx
      clear hx
      rcases hlv with hl | hl
      · go_wp2_with fail
        generalize hWW : wr.alloc _ = W at *
        have HWW := Lib.hid hWW
        have hbW : Blk W b 179 [.pointer m, .slice (some ⟨g, 0, none⟩) N cap, .pointer (some ⟨cb, 0, none⟩), .int .i64 live, .int .i64 births, .int .i64 made, .int .i64 turns] := by
          rw [← hWW]; exact HB.out.upd (HU.out.alloc _) (by simpa using nbg)
        have H1 := hbW.later (i := 1) rfl
        clear hWW d0 d1 d2 d3 d4 hbW
        have s1 : IntKind.i64.wrap ((D : Int) + 1) = (D : Int) + 1 := IntWalk.i64_in _ (by omega)
        have s2 : IntKind.i64.wrap ((k : Int) + 1) = (k : Int) + 1 := IntWalk.i64_in _ (by omega)
        have s3 : ((D : Int) + 1).toNat = D + 1 := by omega
        have s4 : ((k : Int) + 1).toNat = k + 1 := by omega
        have sl1 := slice_one g N cap D (by omega) W.drew
        have sl2 := slice_one g N cap k (by omega) W.drew
        have b1 := H1 W.drew (Upd.refl [] W).drew
        have hEW : ERow W.drew (.slice (some ⟨g, 0, none⟩) N cap) es' := by rw [← HWW.out]; exact (HA.out _).1
        obtain ⟨W', hcp, hE', hu'⟩ := copy_one hEW (show D < es'.length by omega) hkl (cap - D) (cap - k) 3
        have HE' := Lib.hid hE'
        have HU' := Lib.hid hu'
        clear hEW hE' hu' H1
        go_region
        go_wp2_with fail
        go_roundw
        case rel => exact ⟨k + 1, es'.set D (entOf es' (k : Int)), by omega, by go_num, by rw [HDD.out, liveL_take_succ es k (by have := HN.out; omega), ← HX.out, liveL_one _ hl]; simp, Lib.hid (by have := dropAt_live HD.out (by have := HN.out; omega) (by rw [← HX.out]; exact hl); rw [← HDD.out] at this; exact this), HE', Lib.hid (by
            have h1 := (HA.out (.cells #[.bool true, .int .i64 x.hash, .int .i64 x.key, .int .i64 x.value, .int .i64 x.birth] 130)).2
            rw [HWW.out] at h1
            exact h1.drew.then HU'.out)⟩
        case measure => simp [intOf]; omega
      · go_wp2_with fail
        go_roundw
        case rel => exact ⟨k + 1, es', by omega, by go_num, by rw [HDD.out, liveL_take_succ es k (by have := HN.out; omega), ← HX.out]; simp [liveL, hl], Lib.hid (dropAt_dead HD.out (by have := HN.out; omega) (by rw [← HX.out]; exact hl)), Lib.hid (HA.out _).1, Lib.hid (HA.out _).2⟩
        case measure => simp [intOf]; omega
    · obtain rfl : k = N := by omega
      have hkes : es.take k = es := List.take_of_length_le (by have := HN.out; omega)
      have hDL : D = (liveL es).length := by rw [HDD.out, hkes]
      have htk : es'.take D = liveL es := by
        have := HD.out.2.1
        rw [hkes] at this
        rw [hDL]; exact this
      have hb := HB.out.upd HU.out (by simpa using nbg)
      have cb1 := hb.cell (i := 1) rfl
      have fb1 := hb.free 1
      have sl3 := fun W => slice_to g k cap D (by omega) W
      have HTK := Lib.hid htk
      have HDL := Lib.hid hDL
      clear htk hDL hkes
      by_cases hDk' : D < k
      · have sl2 := slice_from g k cap D hDk' hcap wr
        obtain ⟨W', hcl, hE', hu'⟩ := clear_rest HE.out (show D < es'.length by omega) (cap - D) 0
        rw [hlen] at hcl
        rw [HTK.out] at hE'
        have HE' := Lib.hid hE'
        have HU' := Lib.hid hu'
        have hb' := hb.upd hu' (by simpa using nbg)
        have cb1' := hb'.cell (i := 1) rfl
        have fb1' := hb'.free 1
        have HBs := Lib.hid (hb'.set 1 (.slice (some ⟨g, 0, none⟩) D cap))
        clear hE' hu' hb' hb
        go_wp2_with fail
        go_end0
        have hs1 : Upd [b] W' (W'.setCell ⟨b, 1, none⟩ (.slice (some ⟨g, 0, none⟩) D cap)) := (Upd.refl _ _).setCell (p := ⟨b, 1, none⟩) (.inl (by simp)) _
        refine ⟨rfl, by rw [← HDL.out]; exact HBs.out, ?_, ((HU.out.then HU'.out).mono (fp' := [b, g]) (by simp)).then (hs1.mono (by simp))⟩
        rw [← HDL.out]
        exact ownsRow_keep HE'.out hs1 (fun j hj => by simp [Value.ownBlock] at hj ⊢; omega)
      · obtain rfl : D = k := by omega
        obtain ⟨sa, sc, sl2⟩ := slice_end g D cap hcap wr
        have hcl := clear_none sa sc 0 wr
        have he : es' = liveL es := by rw [← HTK.out]; exact (List.take_of_length_le (by omega)).symm
        have HEQ := Lib.hid he
        have HBs := Lib.hid (hb.set 1 (.slice (some ⟨g, 0, none⟩) D cap))
        clear he hb
        go_wp2_with fail
        go_end0
        have hs1 : Upd [b] wr (wr.setCell ⟨b, 1, none⟩ (.slice (some ⟨g, 0, none⟩) D cap)) := (Upd.refl _ _).setCell (p := ⟨b, 1, none⟩) (.inl (by simp)) _
        refine ⟨rfl, by rw [← HDL.out]; exact HBs.out, ?_, (HU.out.mono (fp' := [b, g]) (by simp)).then (hs1.mono (by simp))⟩
        rw [← HDL.out, ← HEQ.out]
        exact ownsRow_keep HE.out hs1 (fun j hj => by simp [Value.ownBlock] at hj ⊢; omega)
end Go.Proofs.Ytnaeehnnjhklbaa
