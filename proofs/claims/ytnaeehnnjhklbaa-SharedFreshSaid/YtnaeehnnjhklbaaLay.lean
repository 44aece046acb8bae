/- The walk of package table: lay. -/
import Derived.Test.YtnaeehnnjhklbaaTabNew
import Derived.Test.YtnaeehnnjhklbaaCalmTail
import Derived.Test.YtnaeehnnjhklbaaSeq
set_option linter.unusedVariables false
namespace Go.Proofs.Ytnaeehnnjhklbaa
open Go.RowKit Go.Shelf
attribute [local go_sem] Oper.semAt_some

/-- A table's blocks, whatever was laid so far. -/
structure TabM (w : World) (b : Nat) (v : Value) (cb cg : Nat) (m : Option Addr) (es : List Ent) (L : Nat) (f : Nat → Int) (live births made turns : Int) : Prop where
  blk : Blk w b 179 [.pointer m, v, .pointer (some ⟨cb, 0, none⟩), .int .i64 live, .int .i64 births, .int .i64 made, .int .i64 turns]
  row : ERow w v es
  cc : CellsAt w cb cg L f
variable {w w' : World} {b : Nat} {v : Value} {cb cg : Nat} {m : Option Addr} {t : Tab} {q : Cnt} {es : List Ent} {L : Nat} {f : Nat → Int} {live births made turns : Int}
theorem TabB.tabM (h : TabB w b v cb cg m t) : TabM w b v cb cg m t.es t.L t.f t.live t.births t.made t.turns := ⟨h.blk, h.row, h.cc⟩
theorem TabM.upd (h : TabM w b v cb cg m es L f live births made turns) {fq : List Nat} (hu : Upd fq w w') (hd : ∀ x ∈ tabFp b v cb cg, x ∉ fq) : TabM w' b v cb cg m es L f live births made turns where
  blk := h.blk.upd hu (hd b (by simp [tabFp]))
  row := ownsRow_keep h.row hu (fun k hk => hd k (by simp [tabFp, hk]))
  cc := h.cc.upd hu (hd cb (by simp [tabFp])) (hd cg (by simp [tabFp]))
theorem TabM.ne_bg (h : TabM w b v cb cg m es L f live births made turns) : b ≠ cg := by
  obtain ⟨cur, hg⟩ := rowIs_block h.cc.r
  exact blk_ne h.blk hg (fun e => (kind_E L).1 e.symm)
theorem TabM.ne_cg (h : TabM w b v cb cg m es L f live births made turns) : cb ≠ cg := by
  obtain ⟨cur, hg⟩ := rowIs_block h.cc.r
  exact blk_ne h.cc.c hg (fun e => (kind_E L).2.2 e.symm)
theorem TabM.ne_gv (h : TabM w b v cb cg m es L f live births made turns) {k : Nat} (hk : v.ownBlock = some k) : k ≠ cg := by
  rintro rfl
  obtain ⟨cur, hg⟩ := own_block h.row hk
  obtain ⟨cur', hg'⟩ := rowIs_block h.cc.r
  rw [hg] at hg'
  simp at hg'
  exact (kind_E L).2.1 hg'.2.symm

set_option maxHeartbeats 2000000 in
theorem lay_any (h : TabM w b v cb cg m es L f live births made turns) (e : Nat) (he : e < es.length) (hE20 : es.length ≤ 1048576) (hmay : mayB L e = true) (K : Nat) (hK : K < 2 ^ L + 13) (hKe : tr f L (entOf es (e : Int)).hash K = -1) (hKb : ∀ j, j < K → tr f L (entOf es (e : Int)).hash j ≠ -1) :
    Calls Try.prog 121 #[.pointer (some ⟨b, 0, none⟩), .int .i64 e] w fun e' w' => e' = .returned (.tuple #[]) ∧ CellsAt w' cb cg L (putAt f (trC (entOf es (e : Int)).hash L K) e) ∧ Upd [cg] w w' := by
  obtain ⟨g, cap, rfl, hcap⟩ := erow_some h.row (by omega)
  have hu0 := ((Upd.refl [] w).alloc (.cells #[.pointer (some ⟨b, 0, none⟩)] 54)).alloc (.cells #[.int .i64 e] 3)
  have h0 := h.upd hu0 (by simp)
  have k0 := (Blk.new w 54 [.pointer (some ⟨b, 0, none⟩)]).alloc (.cells #[.int .i64 e] 3)
  have k1 := Blk.new1 w (.cells #[.pointer (some ⟨b, 0, none⟩)] 54) 3 [.int .i64 e]
  have H0 := Lib.hid h0
  have HX := Lib.hid (And.intro hKe hKb)
  have hsz : w.heap.size + 1 < ((w.alloc (.cells #[.pointer (some ⟨b, 0, none⟩)] 54)).alloc (.cells #[.int .i64 e] 3)).heap.size := by simp
  clear h h0 hKe hKb
  refine (callsIn_wide (n := 5)).1 ?_
  refine callsIn_of_wp_marks Try.func121 rfl trivial ?_ rfl
  simp only [Try.ntmps121, List.size_toArray, List.length_cons, List.length_nil, Nat.reduceAdd, Nat.reduceSub, Array.replicate_succ, Array.replicate_zero, List.push_toArray, List.append_toArray, List.nil_append, List.cons_append]
  refine (wpIn_wide (n := 5)).2 ?_
  go_wp2_with fail
  generalize hW : (w.alloc _).alloc _ = W at *
  have LG := Lib.hid (fun W' (hu : Upd [] W W') => (H0.out.cc.upd hu (by simp) (by simp)).log)
  have A0 := k0.later (i := 0) rfl
  have A1 := k1.later (i := 0) rfl
  have T1 := H0.out.blk.later (i := 1) rfl
  have T2 := H0.out.blk.later (i := 2) rfl
  have E1 : ∀ w', Upd [] W w' → w'.cell? ⟨g, e * 5 + 1, none⟩ = some (.int .i64 (entOf es (e : Int)).hash) := fun w' hu => erow_cell (H0.out.upd hu (by simp)).row he (j := 1) (by omega) rfl
  obtain ⟨hs, hhs⟩ : ∃ hs, hs = (entOf es (e : Int)).hash := ⟨_, rfl⟩
  rw [← hhs] at E1 HX
  have hei : (e : Int) < (es.length : Int) := by omega
  have HL := Lib.hid hhs
  clear hW hhs
  generalize hn : es.length = nn at *
  have HN := Lib.hid hn
  clear hn
  go_step3
  go_wp2_with fail
  go_step3
  go_wp2_with fail
  refine wp_region_calm_tail 13 (by kernel_rfl) (by kernel_rfl) ?_
  simp only [List.take_succ_cons, List.take_zero, List.drop_succ_cons, List.drop_zero]
  repeat (first | go_big_quiet_skip | (go_big_quiet_want; refine quiet_ex ?_; apply Exists.intro; refine ⟨fun wq hwq => ?_, ?_⟩; ((try go_simp); first | exact rfl | (first | (go_at_call 90; exact Calls.calm_same hwq (LG.out wq hwq)))); ((try go_simp); go_big_quiet_on)))
  refine wpQuiet_nil ?_
  intro wq hwq
  go_wp2_with (go_at_call 45; refine (all_any _ _ _).mono ?_; rintro e w1 ⟨rfl, rfl⟩)
  have hu1 := (hwq.alloc (.cells #[.int .i64 hs] 3)).alloc (.cells #[.int .i64 L] 3)
  have cB := (Blk.new1 wq (.cells #[.int .i64 hs] 3) 3 [.int .i64 L]).cell (i := 0) rfl
  have cB' := ((Blk.new wq 3 [.int .i64 hs]).alloc (.cells #[.int .i64 L] 3)).cell (i := 0) rfl
  have lB : wq.heap.size + 1 < ((wq.alloc (.cells #[.int .i64 hs] 3)).alloc (.cells #[.int .i64 L] 3)).heap.size := by simp
  have lB' : wq.heap.size < ((wq.alloc (.cells #[.int .i64 hs] 3)).alloc (.cells #[.int .i64 L] 3)).heap.size := by simp; omega
  have HC1 := H0.out.cc.upd hu1 (by simp) (by simp)
  have K0 := k0.upd hu1 (by simp)
  have K1 := k1.upd hu1 (by simp)
  have B1 := H0.out.blk.upd hu1 (by simp)
  generalize hW1 : (wq.alloc _).alloc _ = W1 at *
  clear A0 A1 T1 T2 E1 LG hW1
  refine (wpIn_wide (n := 5)).1 ?_
  refine wpIn_rangeFunc_ownG rfl (by omega) (gf := 87) (lb := #[.pointer (some ⟨wq.heap.size + 1, 0, none⟩), .pointer (some ⟨wq.heap.size, 0, none⟩)]) rfl trivial (enters_of Try.func87 (by kernel_rfl) rfl)
    (trail_seq hs L H0.out.cc.hi (5 - 1) (by omega) (wq.heap.size + 1) wq.heap.size W1 cB cB' lB lB') (fun _ _ => trivial) (fun _ _ _ _ _ _ _ _ => trivial) (Below.refl _ _) (fun _ => rfl)
    (fun pre W => (CellsAt W cb cg L f ∧ Upd [] W1 W) ∧ ∀ x ∈ pre, f x.1 ≠ -1)
    (fun c pre W => c = .exit 0 ∧ ∃ (pr : List (Cel L)) (x : Cel L), pre = pr ++ [x] ∧ (∀ y ∈ pr, f y.1 ≠ -1) ∧ f x.1 = -1 ∧ CellsAt W cb cg L (putAt f x.1 e) ∧ Upd [cg] W1 W)
    (fun s A B row hs hg hr => ⟨⟨hs.1.1.turned (Turned.of hg hr), hs.1.2.turned hg (fun r e => (hr r e).1)⟩, hs.2⟩)
    (fun c s A B row hs hg hr => by
      obtain ⟨hc, pr, x, h1, h2, h3, h4, h5⟩ := hs
      exact ⟨hc, pr, x, h1, h2, h3, h4.turned (Turned.of hg hr), h5.turned hg (fun r e => (hr r e).1)⟩)
    ⟨⟨HC1, Upd.refl _ _⟩, fun x hx => by simp at hx⟩
    (fun x => { tmps := #[.pointer (some ⟨b, 0, none⟩), .int .i64 e, .pointer (some ⟨w.heap.size, 0, none⟩), .pointer (some ⟨w.heap.size + 1, 0, none⟩), .int .i64 (x.1 : Nat), undef, undef, .pointer (some ⟨b, 0, none⟩), .pointer (some ⟨b, 0, none⟩), .pointer (some ⟨b, 1, none⟩), .slice (some ⟨g, 0, none⟩) nn cap, .int .i64 e, .pointer (some ⟨g, e * 5, none⟩), .pointer (some ⟨g, e * 5 + 1, none⟩), .int .i64 hs, .pointer (some ⟨b, 0, none⟩), .pointer (some ⟨b, 0, none⟩), .pointer (some ⟨b, 2, none⟩), .pointer (some ⟨cb, 0, none⟩), .int .i64 L, .func (.func 87) #[] #[.pointer (some ⟨wq.heap.size + 1, 0, none⟩), .pointer (some ⟨wq.heap.size, 0, none⟩)], .int .i64 (x.1 : Nat), undef, undef, undef, undef, undef, undef, undef, undef, undef, undef, undef, undef, undef, undef, undef, undef, undef, undef], defers := [] }) ?assign ?body ?done ?stop
  case assign =>
    intro l x W K hK
    gi_wp2
    exact hK
  case body =>
    rintro l pre x W2 ⟨⟨hc, hu⟩, hp⟩ hlt
    have GT := Lib.hid (hc.get_in x.1 x.2)
    have c0 := (K0.upd hu (by simp)).cell (i := 0) rfl
    have c1 := (K1.upd hu (by simp)).cell (i := 0) rfl
    have b2 := (B1.upd hu (by simp)).cell (i := 2) rfl
    have hc3 := fun w' (h3 : Upd [] W2 w') => (hc.upd h3 (by simp) (by simp))
    have hbb := Lib.hid (And.intro hc hu)
    clear hc hu
    by_cases hx : f x.1 = -1
    · have hxb : (f x.1 == -1) = true := by simpa using hx
      have hmix : Try.prog.follows .mixedOrders = true := by kernel_rfl
      have HCC := Lib.hid hc3
      have HB2 := Lib.hid (fun W' (hu : Upd [] W1 W') => And.intro ((K0.upd hu (by simp)).later (i := 0) rfl) (And.intro ((K1.upd hu (by simp)).later (i := 0) rfl) ((B1.upd hu (by simp)).later (i := 2) rfl)))
      clear hc3
      gi_wp2_with (refine ⟨trivial, ?_⟩; gi_at_call 60; refine (CallsIn.inRound l (callsIn_wide.2 GT.out)).mono ?_; rintro e w3 ⟨rfl, hu3⟩)
      have hU3 := hbb.out.2.then hu3
      have c0 := (HB2.out w3 hU3).1 w3 (Upd.refl _ _)
      have c1 := (HB2.out w3 hU3).2.1 w3 (Upd.refl _ _)
      have b2 := (HB2.out w3 hU3).2.2 w3 (Upd.refl _ _)
      have HC3 := Lib.hid (HCC.out w3.drew hu3.drew)
      have hU3d := hU3.drew
      have hu3d := Lib.hid hu3.drew
      have hcg := Lib.hid (rowIs_block hbb.out.1.r)
      clear hu3
      gi_region_with_o (refine ⟨trivial, ?_⟩; gi_at_call 56; refine (CallsIn.inRound l (callsIn_wide.2 (HC3.out.set_in x.1 e x.2 hmay))).mono ?_; rintro e w4 ⟨rfl, hc4, hu4⟩)
      all_goals gi_wp2
      all_goals exact ⟨keepsFrom_upd _ ((hu3d.out.mono (fp' := [cg]) (by simp)).then hu4) (by simp; obtain ⟨c, h⟩ := hcg.out; exact ⟨c, _, h⟩), rfl, pre, x, rfl, hp, hx, hc4, (hU3d.mono (fp' := [cg]) (by simp)).then hu4⟩
    · have hxb : (f x.1 == -1) = false := by simpa using hx
      gi_wp2_with (refine ⟨trivial, ?_⟩; gi_at_call 60; refine (CallsIn.inRound l (callsIn_wide.2 GT.out)).mono ?_; rintro e w3 ⟨rfl, hu3⟩)
      exact ⟨keepsFrom_upd _ hu3 (by simp), trivial, ⟨hc3 w3 hu3, hbb.out.2.then hu3⟩, fun y hy => by
        simp only [List.mem_append, List.mem_singleton] at hy
        rcases hy with hy | rfl
        · exact hp y hy
        · exact hx⟩
  case done =>
    rintro D xs W2 hD rfl ⟨_, hp⟩ hK2
    exfalso
    have hm : (⟨trC hs L K, trC_lt hs L K⟩ : Cel L) ∈ trAll hs L := List.mem_of_getElem? (trAll_get hs L K hK)
    exact hp _ hm HX.out.1
  case stop =>
    rintro D c pre W2 hD hSp ⟨rfl, pr, x, rfl, h2, h3, h4, h5⟩ hK2
    have hxK : x.1 = trC hs L K := by
      have hk : pr.length < 2 ^ L + 13 := by have := hSp.length_le; rw [trAll_length] at this; simp at this; omega
      have hg1 : (trAll hs L)[pr.length]? = some x := by
        obtain ⟨r, hr⟩ := hSp
        rw [← hr, List.append_assoc, List.getElem?_append_right (Nat.le_refl _)]
        simp
      rw [trAll_get hs L _ hk] at hg1
      have hx1 : trC hs L pr.length = x.1 := congrArg Subtype.val (Option.some.inj hg1)
      have hKp : pr.length = K := by
        rcases Nat.lt_trichotomy pr.length K with h | h | h
        · exfalso
          refine HX.out.2 _ h ?_
          unfold tr; rw [hx1]; exact h3
        · exact h
        · exfalso
          have hg2 : pr[K]? = some ⟨trC hs L K, trC_lt hs L K⟩ := by
            obtain ⟨r, hr⟩ := hSp
            have := trAll_get hs L K hK
            rw [← hr, List.append_assoc, List.getElem?_append_left h] at this
            exact this
          exact h2 _ (List.mem_of_getElem? hg2) HX.out.1
      rw [← hKp, hx1]
    rw [hxK] at h4
    have hU : Upd [cg] w (W2.putObj D (.deferred none)) := ((hu0.mono (fp' := [cg]) (by simp)).trans ((hu1.mono (fp' := [cg]) (by simp)).trans h5 (fun x hx => .inl hx)) (fun x hx => .inl hx)).putObj (by have := hu0.size; have := hu1.size; omega) _
    have hC := h4.turned (Turned.putObj (o' := .deferred none) hK2 rfl)
    have HCC := Lib.hid (And.intro hC hU)
    clear h2 h3 h4 h5 hSp hC hU
    gi_wp2
    try rw [Exit.noGoto_ret]
    refine ⟨by simp, .inl ⟨_, _, rfl, run_takeDeferred hK2, ?_⟩⟩
    exact ⟨_, results_none rfl _ _ _, rfl, by rw [← HL.out]; exact HCC.out.1, HCC.out.2⟩
end Go.Proofs.Ytnaeehnnjhklbaa
