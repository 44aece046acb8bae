/- The walk of a row's add. -/
import Derived.Test.YtnaeehnnjhklbaaRow
import Derived.Test.YtnaeehnnjhklbaaRefNew
import Derived.Deep.RegionHeld3
set_option linter.unusedVariables false
namespace Go.Proofs.Ytnaeehnnjhklbaa
open Go.RowKit Go.MapKept Go.ChangeMaps
variable {w w' : World} {b : Nat} {v : Value} {cb cg : Nat} {m : Option Addr} {t : Tab} {q : Cnt}
variable {fb : Nat} {tb : Nat} {nv : Value} {nb : Nat} {most pairs : Int} {names : List ByteArray}
variable {rb : Nat} {rv : Value} {vals : List Int} {s : ByteArray}

theorem Met.ne_blk {d : Nat} {T : TypeId} {c : List Value} (hm : Met w m q) (h : Blk w d T c) (hT : 32 ≠ T) : d ∉ Met.fp m := by
  intro hd
  cases m with
  | none => simp [Met.fp] at hd
  | some a =>
    obtain ⟨k, rfl, hk⟩ := hm
    simp [Met.fp] at hd
    exact blk_ne hk h hT hd.symm
theorem Met.ne_row {d : Nat} {T : TypeId} {cur : Array Value} (hm : Met w m q) (h : w.heap[d]? = some (.cells cur T (0, 0))) (hT : 32 ≠ T) : d ∉ Met.fp m := by
  intro hd
  cases m with
  | none => simp [Met.fp] at hd
  | some a =>
    obtain ⟨k, rfl, hk⟩ := hm
    simp [Met.fp] at hd
    exact blk_ne hk h hT hd.symm
theorem Met.ne_map {d : Nat} {l : List ByteArray} (hm : Met w m q) (h : NumAt w d l) : d ∉ Met.fp m := by
  intro hd
  cases m with
  | none => simp [Met.fp] at hd
  | some a =>
    obtain ⟨k, rfl, hk⟩ := hm
    simp [Met.fp] at hd
    exact h.not_blk hk hd
theorem Met.ne_fam (hm : Met w m q) (h : FamB w fb m tb nv nb most pairs names) : ∀ x ∈ famFp fb nv nb, x ∉ Met.fp m := by
  intro x hx
  simp only [famFp, List.mem_cons, Option.mem_toList] at hx
  rcases hx with rfl | rfl | hx
  · exact hm.ne_blk h.blk (by decide)
  · exact hm.ne_map h.num
  · obtain ⟨cur, hg⟩ := own_block h.row hx
    exact hm.ne_row hg (by decide)
theorem Met.ne_rowB (hm : Met w m q) (h : RowB w rb rv vals) : ∀ x ∈ rowFp rb rv, x ∉ Met.fp m := by
  intro x hx
  simp only [rowFp, List.mem_cons, Option.mem_toList] at hx
  rcases hx with rfl | hx
  · exact hm.ne_blk h.blk (by decide)
  · obtain ⟨cur, hg⟩ := own_block h.row hx
    exact hm.ne_row hg (by decide)

theorem kind_E3 (L : Nat) : 149 ≠ (kindOf L).E ∧ 3 ≠ (kindOf L).E := by
  rcases kindOf_ok L with e | e | e <;> rw [e] <;> simp [K8, K16, K32]
theorem kind_E4 (L : Nat) : 58 ≠ (kindOf L).E ∧ 9 ≠ (kindOf L).E := by
  rcases kindOf_ok L with e | e | e <;> rw [e] <;> simp [K8, K16, K32]
theorem fam_ne_row (hF : FamB w fb m tb nv nb most pairs names) (hr : RowB w rb rv vals) : ∀ x ∈ famFp fb nv nb, x ∉ rowFp rb rv := by
  intro x hx hy
  simp only [rowFp, List.mem_cons, Option.mem_toList] at hy
  simp only [famFp, List.mem_cons, Option.mem_toList] at hx
  rcases hy with rfl | hy
  · rcases hx with hx | hx | hx
    · exact blk_ne hF.blk hr.blk (by decide) hx.symm
    · exact hF.num.not_blk hr.blk hx.symm
    · obtain ⟨cur, hg⟩ := own_block hF.row hx
      exact blk_ne hr.blk hg (by decide) rfl
  · obtain ⟨cur, hg⟩ := own_block hr.row hy
    rcases hx with rfl | rfl | hx
    · exact blk_ne hF.blk hg (by decide) rfl
    · exact hF.num.not_blk hg rfl
    · obtain ⟨cur', hg'⟩ := own_block hF.row hx
      rw [hg] at hg'
      simp at hg'
theorem tab_ne_row (h : TabB w b v cb cg m t) (hr : RowB w rb rv vals) : ∀ x ∈ tabFp b v cb cg, x ∉ rowFp rb rv := by
  intro x hx hy
  simp only [rowFp, List.mem_cons, Option.mem_toList] at hy
  simp only [tabFp, List.mem_cons, Option.mem_toList] at hx
  rcases hy with rfl | hy
  · rcases hx with rfl | rfl | rfl | hx
    · exact blk_ne hr.blk (show w.heap[_]? = _ from h.blk) (by decide) rfl
    · exact blk_ne hr.blk (show w.heap[_]? = _ from h.cc.c) (by decide) rfl
    · obtain ⟨cur, hg⟩ := rowIs_block h.cc.r
      exact blk_ne hr.blk hg (kind_E3 _).1 rfl
    · obtain ⟨cur, hg⟩ := own_block h.row hx
      exact blk_ne hr.blk hg (by decide) rfl
  · obtain ⟨cur, hg⟩ := own_block hr.row hy
    rcases hx with rfl | rfl | rfl | hx
    · exact blk_ne h.blk hg (by decide) rfl
    · exact blk_ne h.cc.c hg (by decide) rfl
    · obtain ⟨cur', hg'⟩ := rowIs_block h.cc.r
      rw [hg] at hg'
      simp at hg'
      exact (kind_E3 _).2 hg'.2
    · obtain ⟨cur', hg'⟩ := own_block h.row hx
      rw [hg] at hg'
      simp at hg'
theorem tab_ne_fam {mm : Option Addr} {tb' : Nat} (h : TabB w b v cb cg m t) (hF : FamB w fb mm tb' nv nb most pairs names) : ∀ x ∈ tabFp b v cb cg, x ∉ famFp fb nv nb := by
  intro x hx hy
  simp only [famFp, List.mem_cons, Option.mem_toList] at hy
  simp only [tabFp, List.mem_cons, Option.mem_toList] at hx
  rcases hy with rfl | rfl | hy
  · rcases hx with rfl | rfl | rfl | hx
    · exact blk_ne hF.blk (show w.heap[_]? = _ from h.blk) (by decide) rfl
    · exact blk_ne hF.blk (show w.heap[_]? = _ from h.cc.c) (by decide) rfl
    · obtain ⟨cur, hg⟩ := rowIs_block h.cc.r
      exact blk_ne hF.blk hg (kind_E4 _).1 rfl
    · obtain ⟨cur, hg⟩ := own_block h.row hx
      exact blk_ne hF.blk hg (by decide) rfl
  · rcases hx with rfl | rfl | rfl | hx
    · exact hF.num.not_blk h.blk rfl
    · exact hF.num.not_blk h.cc.c rfl
    · obtain ⟨cur, hg⟩ := rowIs_block h.cc.r
      exact hF.num.not_blk hg rfl
    · obtain ⟨cur, hg⟩ := own_block h.row hx
      exact hF.num.not_blk hg rfl
  · obtain ⟨cur, hg⟩ := own_block hF.row hy
    rcases hx with rfl | rfl | rfl | hx
    · exact blk_ne h.blk hg (by decide) rfl
    · exact blk_ne h.cc.c hg (by decide) rfl
    · obtain ⟨cur', hg'⟩ := rowIs_block h.cc.r
      rw [hg] at hg'
      simp at hg'
      exact (kind_E4 _).2 hg'.2
    · obtain ⟨cur', hg'⟩ := own_block h.row hx
      rw [hg] at hg'
      simp at hg'

/-- Every entry lives. -/
def AllLive (t : Tab) : Prop := ∀ e : Nat, e < t.es.length → (entOf t.es (e : Int)).live = true
theorem AllLive.live (h : AllLive t) : t.live = t.es.length := by
  unfold Tab.live liveL
  rw [List.filter_eq_self.2]
  intro x hx
  obtain ⟨e, he, rfl⟩ := mem_entOf hx
  exact h e he

theorem rowAdd_no1 (hr : RowB w rb rv vals) (hF : FamB w fb m b nv nb most pairs names) (h : TabB w b v cb cg m t) (hs : s.size ≤ 200) (hall : AllLive t) (hlt : vals.length < t.es.length)
    (hk : (entOf t.es (vals.length : Int)).key ≠ numOf names s) (z : Int) :
    Calls Try.prog 147 #[.pointer (some ⟨rb, 0, none⟩), .pointer (some ⟨fb, 0, none⟩), .string s, .int .i64 z] w fun e w' => e = .returned (.bool false) ∧ Upd [] w w' := by
  obtain ⟨a, c, rfl⟩ := row_shape hr.row
  have c0 := hr.blk.cell (i := 0) rfl
  have c3 := hF.blk.cell (i := 3) rfl
  have LN := Lib.hid (tabLen_any h)
  have AT := Lib.hid (at_ok h vals.length hlt (hall _ hlt))
  rw [hall.live] at LN
  have NB := Lib.hid (fun W (hu : Upd [] w W) => number_any (hF.upd hu (by simp)) hs)
  have c3l := hF.blk.later (i := 3) rfl
  have hge : ((t.es.length : Int) > (vals.length : Int)) := by omega
  unfold entV at AT
  generalize entOf t.es (vals.length : Int) = x at *
  generalize hn : numOf names s = nn at *
  have hk' : (x.key == nn) = false := by simpa using hk
  generalize vals.length = n at *
  generalize t.es.length = L at *
  clear hr hF h hall hn
  go_enter Try.func147, Try.ntmps147
  go_wp2_with fail
  refine LN.out.mono ?_
  rintro e w1 ⟨rfl, rfl⟩
  go_wp2_with fail
  refine AT.out.mono ?_
  rintro e w2 ⟨rfl, hu2⟩
  have c3' := c3l _ hu2
  go_wp2_with fail
  have hB := Blk.new w2 130 [.bool x.live, .int .i64 x.hash, .int .i64 x.key, .int .i64 x.value, .int .i64 x.birth]
  have huW := hu2.alloc (.cells #[.bool x.live, .int .i64 x.hash, .int .i64 x.key, .int .i64 x.value, .int .i64 x.birth] 130)
  generalize w2.alloc _ = W at *
  have K2 := hB.later (i := 2) rfl
  refine wp_region_calm (by kernel_rfl) (by kernel_rfl) ?_
  repeat (first | go_big_quiet_skip | (go_big_quiet_want; refine quiet_ex ?_; apply Exists.intro; refine ⟨fun wq hwq => ?_, ?_⟩; ((try go_simp); first | exact rfl | (go_at_call 124; exact Calls.calm_same hwq (NB.out wq (huW.then hwq)))); ((try go_simp); go_big_quiet_on)))
  refine wpQuiet_nil ?_
  intro wq hwq
  go_wp2_with fail
  go_ret
  exact ⟨rfl, huW.then hwq⟩

/-- What an add to a row comes to, beyond its own row. -/
def RowAdded (w : World) (rb : Nat) (rv : Value) (vals : List Int) (m : Option Addr) (q' : Cnt) (z : Int) (w' : World) : Prop :=
  (∃ rv', RowB w' rb rv' (vals ++ [z]) ∧ ∀ x ∈ rowFp rb rv', x ∈ rowFp rb rv ∨ w.heap.size ≤ x) ∧ Met w' m (q'.add 2 1)

set_option maxRecDepth 100000 in
set_option maxHeartbeats 2000000 in
theorem rowAdd_old (hr : RowB w rb rv vals) (hF : FamB w fb m b nv nb most pairs names) (h : TabB w b v cb cg m t) {q1 : Cnt} (hm : Met w m q1) (hs : s.size ≤ 200) (hall : AllLive t) (hlt : vals.length < t.es.length)
    (hk : (entOf t.es (vals.length : Int)).key = numOf names s) (hvl : vals.length ≤ 1048576) (z : Int) :
    Calls Try.prog 147 #[.pointer (some ⟨rb, 0, none⟩), .pointer (some ⟨fb, 0, none⟩), .string s, .int .i64 z] w fun e w' => e = .returned (.bool true) ∧ RowAdded w rb rv vals m q1 z w' ∧ Upd (rowFp rb rv ++ Met.fp m) w w' := by
  obtain ⟨a, c, rfl⟩ := row_shape hr.row
  have c0 := hr.blk.cell (i := 0) rfl
  have c3 := hF.blk.cell (i := 3) rfl
  have LN := Lib.hid (tabLen_any h)
  have AT := Lib.hid (at_ok h vals.length hlt (hall _ hlt))
  rw [hall.live] at LN
  have NB := Lib.hid (fun W (hu : Upd [] w W) => number_any (hF.upd hu (by simp)) hs)
  have c3l := hF.blk.later (i := 3) rfl
  have hge : ((t.es.length : Int) > (vals.length : Int)) := by omega
  unfold entV at AT
  have HVL := Lib.hid hvl
  have HR0 := Lib.hid hr
  have HF0 := Lib.hid hF
  have HM0 := Lib.hid hm
  generalize entOf t.es (vals.length : Int) = x at *
  obtain ⟨nn, hn⟩ : ∃ nn, nn = numOf names s := ⟨_, rfl⟩
  rw [← hn] at NB hk
  have hk' : (x.key == nn) = true := by simpa using hk
  clear hk
  generalize t.es.length = L at *
  clear hr hF h hall hn hm hvl
  go_enter Try.func147, Try.ntmps147
  go_wp2_with fail
  refine LN.out.mono ?_
  rintro e w1 ⟨rfl, rfl⟩
  go_wp2_with fail
  refine AT.out.mono ?_
  rintro e w2 ⟨rfl, hu2⟩
  have c3' := c3l _ hu2
  go_wp2_with fail
  have hB := Blk.new w2 130 [.bool x.live, .int .i64 x.hash, .int .i64 x.key, .int .i64 x.value, .int .i64 x.birth]
  have huW := hu2.alloc (.cells #[.bool x.live, .int .i64 x.hash, .int .i64 x.key, .int .i64 x.value, .int .i64 x.birth] 130)
  generalize w2.alloc _ = W at *
  have K2 := hB.later (i := 2) rfl
  refine wp_region_calm (by kernel_rfl) (by kernel_rfl) ?_
  repeat (first | go_big_quiet_skip | (go_big_quiet_want; refine quiet_ex ?_; apply Exists.intro; refine ⟨fun wq hwq => ?_, ?_⟩; ((try go_simp); first | exact rfl | (go_at_call 124; exact Calls.calm_same hwq (NB.out wq (huW.then hwq)))); ((try go_simp); go_big_quiet_on)))
  refine wpQuiet_nil ?_
  intro wq hwq
  have HU0 := Lib.hid (huW.then hwq)
  have HRB := Lib.hid (HR0.out.upd HU0.out (by simp))
  have HFB := Lib.hid (HF0.out.upd HU0.out (by simp))
  have HM := Lib.hid (HM0.out.upd HU0.out (by simp))
  obtain ⟨Wz, rfl⟩ : ∃ Wz : World, Wz = wq := ⟨_, rfl⟩
  clear hB huW hwq K2 c3l c3' hu2 LN AT NB c0 c3
  have hmr := HM.out.ne_rowB HRB.out
  have hfr := fam_ne_row HFB.out HRB.out
  obtain ⟨i0, hi0, hz0, hz1, hz2⟩ := info_parts info64
  have q0 := HRB.out.blk.cell (i := 0) rfl
  go_wp2_with (at_builtin; refine wpList_append_own_at _ rfl _ _ 42 rfl 0 3 i0 (.int .i64 0) 1 8 Try.underlying42 hi0 hz0 hz1 hz2 rfl (by decide) _ _ _ rfl (HRB.out.row.alloc _) ⟨Wz.heap.size, 0, none⟩ 1 1 [.int .i64 z] rfl rfl ?c1 ?c2 ?c3 ?c4 ?c5 ?_)
  case c1 => exact cell_one_new _ _ _
  case c2 => intro u hu; simp at hu; subst hu; rfl
  case c3 => have := HVL.out; unfold maxLen; omega
  case c4 => have := HVL.out; omega
  case c5 => exact Nat.zero_le _
  intro v2 w2 hown hgr _ hpl
  have hnbv : ∀ k, (Value.slice a vals.length c).ownBlock = some k → rb ≠ k := fun k hk => by
    obtain ⟨cur, hg⟩ := own_block HRB.out.row hk
    exact blk_ne HRB.out.blk hg (by decide)
  have hu2 : Upd (Value.slice a vals.length c).ownBlock.toList Wz w2 := (((Upd.refl _ Wz).alloc (.cells #[.int .i64 z] 3))).grown hgr (fun k hk => .inl (by rw [Option.mem_toList]; exact hk))
  have hb2 := HRB.out.blk.upd hu2 (by simpa using fun hk => (hnbv rb hk) rfl)
  obtain ⟨g2, cap2, rfl⟩ := ownsRow_succ hown
  obtain ⟨curg, hgg⟩ := own_block hown (k := g2) rfl
  have nrg : rb ≠ g2 := blk_ne hb2 hgg (by decide)
  have hu3 : Upd [rb] w2 (w2.setCell ⟨rb, 0, none⟩ (.slice (some ⟨g2, 0, none⟩) (vals.length + 1) cap2)) := (Upd.refl [rb] w2).setCell (.inl (by simp)) _
  have hb3 := hb2.set 0 (.slice (some ⟨g2, 0, none⟩) (vals.length + 1) cap2)
  have hr3 := ownsRow_keep hown hu3 (fun j hj => by simp [Value.ownBlock] at hj; subst hj; simpa using fun e => nrg e.symm)
  have hu23 : Upd (rowFp rb (.slice a vals.length c)) Wz (w2.setCell ⟨rb, 0, none⟩ (.slice (some ⟨g2, 0, none⟩) (vals.length + 1) cap2)) := (hu2.mono (by simp [rowFp]; exact fun x h => .inr h)).then (hu3.mono (by simp [rowFp]))
  have hm3 := HM.out.upd hu23 (fun x hx hr => hmr x hr hx)
  have hf3 := HFB.out.blk.upd hu23 (hfr fb (by simp [famFp]))
  have ngm : g2 ∉ Met.fp m := by obtain ⟨cur, hg⟩ := own_block hr3 (k := g2) rfl; exact hm3.ne_row hg (by decide)
  have g0 := hb2.cell (i := 0) rfl
  have gf0 := hb2.free 0
  have h3c2 := hf3.cell (i := 2) rfl
  have CH2 := Lib.hid (charge_any m q1 1 _ hm3)
  have HPL := Lib.hid hpl
  have HB3 := Lib.hid hb3
  have HR3 := Lib.hid hr3
  have HU23 := Lib.hid hu23
  clear hu2 hu3 hb3 hr3 hm3 hf3 hown hgr hb2 hpl hu23
  go_wp2_with fail
  refine CH2.out.mono ?_
  rintro e w4 ⟨rfl, hm4, hu4⟩
  have HM4 := Lib.hid hm4
  have HU4 := Lib.hid hu4
  clear hm4 hu4
  go_wp2_with fail
  go_ret
  have hrb4 : RowB w4 rb (.slice (some ⟨g2, 0, none⟩) (vals.length + 1) cap2) (vals ++ [z]) := ⟨HB3.out.upd HU4.out (fun h => hmr rb (by simp [rowFp]) h), by
    unfold intsV
    rw [List.map_append, List.length_append]
    exact ownsRow_keep HR3.out HU4.out (fun j hj => by simp [Value.ownBlock] at hj; subst hj; exact ngm)⟩
  have hfp4 : ∀ x ∈ rowFp rb (.slice (some ⟨g2, 0, none⟩) (vals.length + 1) cap2), x ∈ rowFp rb (.slice a vals.length c) ∨ Wz.heap.size ≤ x := fun y hy => by
    simp only [rowFp, List.mem_cons, Option.mem_toList] at hy
    rcases hy with rfl | hy
    · exact .inl (by simp [rowFp])
    · rcases HPL.out with h0 | h0
      · rw [h0] at hy
        exact .inl (by simp [rowFp, hy])
      · rw [h0] at hy
        simp at hy
        exact .inr (by omega)
  have hU4 : Upd (rowFp rb (.slice a vals.length c) ++ Met.fp m) Wz w4 := (HU23.out.mono (fun x h => List.mem_append.2 (.inl h))).then (HU4.out.mono (fun x h => List.mem_append.2 (.inr h)))
  refine ⟨rfl, ⟨⟨_, hrb4, fun x hx => (hfp4 x hx).imp id (fun h => Nat.le_trans HU0.out.size h)⟩, HM4.out⟩, (HU0.out.mono (by simp)).then hU4⟩
set_option maxRecDepth 100000 in
set_option maxHeartbeats 4000000 in
theorem rowAdd_new (hr : RowB w rb rv vals) (hF : FamB w fb m b nv nb most pairs names) (h : TabB w b v cb cg m t) (hm : Met w m q) (hs : s.size ≤ 200) (hall : AllLive t) (hle : t.es.length ≤ vals.length)
    (hmost : (vals.length : Int) < most) (hvl : vals.length ≤ 1048576) (hnl : names.length ≤ 1048576) (hlv : 3 * t.live ≤ 1048576) (z : Int) :
    Calls Try.prog 147 #[.pointer (some ⟨rb, 0, none⟩), .pointer (some ⟨fb, 0, none⟩), .string s, .int .i64 z] w fun e w' => e = .returned (.bool true) ∧ RowAdded w rb rv vals m (t.addQ q) z w' ∧
      (∃ nv', FamB w' fb m b nv' nb most pairs (given names s) ∧ ∀ x ∈ famFp fb nv' nb, x ∈ famFp fb nv nb ∨ w.heap.size ≤ x) ∧
      (∃ v' cb' cg', TabB w' b v' cb' cg' m (t.add (txt s) (numOf (given names s) s) 0) ∧ ∀ x ∈ tabFp b v' cb' cg', x ∈ tabFp b v cb cg ∨ w.heap.size ≤ x) ∧
      Upd (rowFp rb rv ++ (Met.fp m ++ (famFp fb nv nb ++ tabFp b v cb cg))) w w' := by
  obtain ⟨a, c, rfl⟩ := row_shape hr.row
  have c0 := hr.blk.cell (i := 0) rfl
  have c3 := hF.blk.cell (i := 3) rfl
  have k0 := hF.blk.cell (i := 0) rfl
  have LN := Lib.hid (tabLen_any h)
  rw [hall.live] at LN
  have HF0 := Lib.hid (hF.upd ((Upd.refl [] w).drew) (by simp))
  have HT0 := Lib.hid (h.upd ((Upd.refl [] w).drew) (by simp))
  have HR0 := Lib.hid (hr.upd ((Upd.refl [] w).drew) (by simp))
  have HM0 := Lib.hid (hm.upd ((Upd.refl [] w).drew) (by simp))
  have HVL := Lib.hid hvl
  have HLV := Lib.hid hlv
  have hgt : ¬ ((t.es.length : Int) > (vals.length : Int)) := by omega
  have hnge : ¬ ((vals.length : Int) ≥ most) := by omega
  obtain ⟨hsv, hhs⟩ : ∃ hs, hs = txt s := ⟨_, rfl⟩
  have TX := Lib.hid (fun W => text_any s W (by omega))
  rw [← hhs] at TX ⊢
  obtain ⟨q1, hq1⟩ : ∃ q1, q1 = t.addQ q := ⟨_, rfl⟩
  rw [← hq1]
  have HQ := Lib.hid hq1
  obtain ⟨kn, hkn⟩ : ∃ kn, kn = numOf (given names s) s := ⟨_, rfl⟩
  rw [← hkn]
  have HK := Lib.hid hkn
  have c3d := HF0.out.blk.cell (i := 3) rfl
  generalize hL : t.es.length = L at *
  clear hr hF h hall hm hle hmost hvl hlv hhs hq1 hkn hL
  go_enter Try.func147, Try.ntmps147
  go_wp2_with fail
  refine LN.out.mono ?_
  rintro e w1 ⟨rfl, rfl⟩
  go_wp2_with fail
  go_region_held3 (fun w' => w'.cell? ⟨fb, 3, none⟩ = some (.pointer (some ⟨b, 0, none⟩)))
    (first | exact c3d | exact d3 | exact e3 | exact f3)
    (first
    | (go_at_call 114
       refine (TX.out _).mono ?_
       rintro e w1 ⟨rfl, hu1⟩
       have HF1 := Lib.hid (HF0.out.upd hu1 (by simp))
       have HT1 := Lib.hid (HT0.out.upd hu1 (by simp))
       have HR1 := Lib.hid (HR0.out.upd hu1 (by simp))
       have HM1 := Lib.hid (HM0.out.upd hu1 (by simp))
       have HU1 := Lib.hid hu1
       have d3 := HF1.out.blk.cell (i := 3) rfl)
    | (go_at_call 115
       refine (give_any HF1.out hs hnl).mono ?_
       rintro e w2 ⟨he, nv', hF2, hfp2, hu2⟩
       rw [← HK.out] at he
       subst he
       have HF2 := Lib.hid hF2
       have HT2 := Lib.hid (HT1.out.upd hu2 (tab_ne_fam HT1.out HF1.out))
       have HR2 := Lib.hid (HR1.out.upd hu2 (fun x hx hf => fam_ne_row HF1.out HR1.out x hf hx))
       have HM2 := Lib.hid (HM1.out.upd hu2 (fun x hx hf => HM1.out.ne_fam HF1.out x hf hx))
       have HU2 := Lib.hid hu2
       have HFP2 := Lib.hid hfp2
       have e3 := HF2.out.blk.cell (i := 3) rfl)
    | (go_at_call 113
       refine (add_any HT2.out HM2.out HLV.out _ _ _).mono ?_
       rintro e w3 ⟨rfl, hm3, hu3, v', cb', cg', hT3, hfp3⟩
       rw [← HQ.out] at hm3
       have hd : ∀ x ∈ tabFp b v cb cg ++ Met.fp m, x ∉ famFp fb nv' nb := fun x hx hf => by
         rcases List.mem_append.1 hx with hx | hx
         · exact tab_ne_fam HT2.out HF2.out x hx hf
         · exact HM2.out.ne_fam HF2.out x hf hx
       have hd2 : ∀ x ∈ tabFp b v cb cg ++ Met.fp m, x ∉ rowFp rb (.slice a vals.length c) := fun x hx hf => by
         rcases List.mem_append.1 hx with hx | hx
         · exact tab_ne_row HT2.out HR2.out x hx hf
         · exact HM2.out.ne_rowB HR2.out x hf hx
       have HF3 := Lib.hid (HF2.out.upd hu3 (fun x hx hf => hd x hf hx))
       have HR3' := Lib.hid (HR2.out.upd hu3 (fun x hx hf => hd2 x hf hx))
       have HT3 := Lib.hid hT3
       have HM3 := Lib.hid hm3
       have HU3 := Lib.hid hu3
       have HFP3 := Lib.hid hfp3
       have f3 := HF3.out.blk.cell (i := 3) rfl
       clear hd hd2 hT3 hm3 hu3 hfp3))
  have HFA : Hid (∀ x ∈ tabFp b v cb cg, x < w1.heap.size) := Lib.hid (fun x hx => HT1.out.lt x hx)
  have HRB := HR3'
  have HFB := HF3
  have HM := HM3
  have HSZ : Hid (w.heap.size ≤ w1.heap.size ∧ w1.heap.size ≤ w2.heap.size ∧ w2.heap.size ≤ w3.heap.size) := Lib.hid ⟨HU1.out.size, HU2.out.size, HU3.out.size⟩
  have HUA : Hid (Upd (rowFp rb (Value.slice a vals.length c) ++ (Met.fp m ++ (famFp fb nv nb ++ tabFp b v cb cg))) w w3) := Lib.hid (by
    have u1 : Upd (rowFp rb (Value.slice a vals.length c) ++ (Met.fp m ++ (famFp fb nv nb ++ tabFp b v cb cg))) w w1 := (((Upd.refl [] w).drew).then HU1.out).mono (by simp)
    refine (u1.then (HU2.out.mono (fun x hx => ?_))).then (HU3.out.mono (fun x hx => ?_))
    · simp only [List.mem_append]; exact .inr (.inr (.inl hx))
    · simp only [List.mem_append] at hx ⊢; rcases hx with hx | hx
      · exact .inr (.inr (.inr hx))
      · exact .inr (.inl hx))
  obtain ⟨Wz, rfl⟩ : ∃ Wz : World, Wz = w3 := ⟨_, rfl⟩
  clear HU1 HU2 HU3 HF0 HT0 HR0 HM0 HF1 HT1 HR1 HM1 HF2 HT2 HR2 HM2 LN TX c0 c3 k0 c3d d3 e3 f3
  have hmr := HM.out.ne_rowB HRB.out
  have hfr := fam_ne_row HFB.out HRB.out
  obtain ⟨i0, hi0, hz0, hz1, hz2⟩ := info_parts info64
  have q0 := HRB.out.blk.cell (i := 0) rfl
  go_wp2_with (at_builtin; refine wpList_append_own_at _ rfl _ _ 42 rfl 0 3 i0 (.int .i64 0) 1 8 Try.underlying42 hi0 hz0 hz1 hz2 rfl (by decide) _ _ _ rfl (HRB.out.row.alloc _) ⟨Wz.heap.size, 0, none⟩ 1 1 [.int .i64 z] rfl rfl ?c1 ?c2 ?c3 ?c4 ?c5 ?_)
  case c1 => exact cell_one_new _ _ _
  case c2 => intro u hu; simp at hu; subst hu; rfl
  case c3 => have := HVL.out; unfold maxLen; omega
  case c4 => have := HVL.out; omega
  case c5 => exact Nat.zero_le _
  intro v2 w2 hown hgr _ hpl
  have hnbv : ∀ k, (Value.slice a vals.length c).ownBlock = some k → rb ≠ k := fun k hk => by
    obtain ⟨cur, hg⟩ := own_block HRB.out.row hk
    exact blk_ne HRB.out.blk hg (by decide)
  have hu2 : Upd (Value.slice a vals.length c).ownBlock.toList Wz w2 := (((Upd.refl _ Wz).alloc (.cells #[.int .i64 z] 3))).grown hgr (fun k hk => .inl (by rw [Option.mem_toList]; exact hk))
  have hb2 := HRB.out.blk.upd hu2 (by simpa using fun hk => (hnbv rb hk) rfl)
  obtain ⟨g2, cap2, rfl⟩ := ownsRow_succ hown
  obtain ⟨curg, hgg⟩ := own_block hown (k := g2) rfl
  have nrg : rb ≠ g2 := blk_ne hb2 hgg (by decide)
  have hu3 : Upd [rb] w2 (w2.setCell ⟨rb, 0, none⟩ (.slice (some ⟨g2, 0, none⟩) (vals.length + 1) cap2)) := (Upd.refl [rb] w2).setCell (.inl (by simp)) _
  have hb3 := hb2.set 0 (.slice (some ⟨g2, 0, none⟩) (vals.length + 1) cap2)
  have hr3 := ownsRow_keep hown hu3 (fun j hj => by simp [Value.ownBlock] at hj; subst hj; simpa using fun e => nrg e.symm)
  have hu23 : Upd (rowFp rb (.slice a vals.length c)) Wz (w2.setCell ⟨rb, 0, none⟩ (.slice (some ⟨g2, 0, none⟩) (vals.length + 1) cap2)) := (hu2.mono (by simp [rowFp]; exact fun x h => .inr h)).then (hu3.mono (by simp [rowFp]))
  have hm3 := HM.out.upd hu23 (fun x hx hr => hmr x hr hx)
  have hf3 := HFB.out.blk.upd hu23 (hfr fb (by simp [famFp]))
  have ngm : g2 ∉ Met.fp m := by obtain ⟨cur, hg⟩ := own_block hr3 (k := g2) rfl; exact hm3.ne_row hg (by decide)
  have g0 := hb2.cell (i := 0) rfl
  have gf0 := hb2.free 0
  have h3c2 := hf3.cell (i := 2) rfl
  have CH2 := Lib.hid (charge_any m q1 1 _ hm3)
  have HPL := Lib.hid hpl
  have HB3 := Lib.hid hb3
  have HR3 := Lib.hid hr3
  have HU23 := Lib.hid hu23
  clear hu2 hu3 hb3 hr3 hm3 hf3 hown hgr hb2 hpl hu23
  go_wp2_with fail
  refine CH2.out.mono ?_
  rintro e w4 ⟨rfl, hm4, hu4⟩
  have HM4 := Lib.hid hm4
  have HU4 := Lib.hid hu4
  clear hm4 hu4
  go_wp2_with fail
  go_ret
  have hrb4 : RowB w4 rb (.slice (some ⟨g2, 0, none⟩) (vals.length + 1) cap2) (vals ++ [z]) := ⟨HB3.out.upd HU4.out (fun h => hmr rb (by simp [rowFp]) h), by
    unfold intsV
    rw [List.map_append, List.length_append]
    exact ownsRow_keep HR3.out HU4.out (fun j hj => by simp [Value.ownBlock] at hj; subst hj; exact ngm)⟩
  have hfp4 : ∀ x ∈ rowFp rb (.slice (some ⟨g2, 0, none⟩) (vals.length + 1) cap2), x ∈ rowFp rb (.slice a vals.length c) ∨ Wz.heap.size ≤ x := fun y hy => by
    simp only [rowFp, List.mem_cons, Option.mem_toList] at hy
    rcases hy with rfl | hy
    · exact .inl (by simp [rowFp])
    · rcases HPL.out with h0 | h0
      · rw [h0] at hy
        exact .inl (by simp [rowFp, hy])
      · rw [h0] at hy
        simp at hy
        exact .inr (by omega)
  have hU4 : Upd (rowFp rb (.slice a vals.length c) ++ Met.fp m) Wz w4 := (HU23.out.mono (fun x h => List.mem_append.2 (.inl h))).then (HU4.out.mono (fun x h => List.mem_append.2 (.inr h)))
  have hne : ∀ x ∈ famFp fb nv' nb, x ∉ rowFp rb (Value.slice a vals.length c) ++ Met.fp m := fun x hx hf => by
    rcases List.mem_append.1 hf with hf | hf
    · exact fam_ne_row HF3.out HR3'.out x hx hf
    · exact HM3.out.ne_fam HF3.out x hx hf
  have hne2 : ∀ x ∈ tabFp b v' cb' cg', x ∉ rowFp rb (Value.slice a vals.length c) ++ Met.fp m := fun x hx hf => by
    rcases List.mem_append.1 hf with hf | hf
    · exact tab_ne_row HT3.out HR3'.out x hx hf
    · exact HM3.out.ne_tab HT3.out x hx hf
  obtain ⟨z1, z2, z3⟩ := HSZ.out
  refine ⟨rfl, ⟨⟨_, hrb4, fun x hx => (hfp4 x hx).imp id (fun h => by omega)⟩, HM4.out⟩, ⟨nv', HF3.out.upd hU4 hne, fun x hx => (HFP2.out x hx).imp id (fun h => by omega)⟩, ⟨v', cb', cg', HT3.out.upd hU4 hne2, fun x hx => (HFP3.out x hx).imp id (fun h => by omega)⟩, HUA.out.then (hU4.mono (fun x hx => ?_))⟩
  simp only [List.mem_append] at hx ⊢
  rcases hx with hx | hx
  · exact .inl hx
  · exact .inr (.inl hx)
end Go.Proofs.Ytnaeehnnjhklbaa
