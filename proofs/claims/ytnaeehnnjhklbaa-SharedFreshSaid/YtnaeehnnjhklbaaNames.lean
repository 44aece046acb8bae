/- The walk of a family's Names. -/
import Derived.Test.YtnaeehnnjhklbaaAllSeq
import Derived.Test.YtnaeehnnjhklbaaRowAdd
import Derived.Maps.AppendAt
set_option linter.unusedVariables false
set_option maxRecDepth 100000
namespace Go.Proofs.Ytnaeehnnjhklbaa
open Go.RowKit Go.MapKept Go.ChangeMaps Go.Shelf
attribute [local go_sem] Oper.semAt_some
variable {w w' : World} {b : Nat} {v : Value} {cb cg : Nat} {m : Option Addr} {t : Tab} {q : Cnt}
variable {fb : Nat} {tb : Nat} {nv : Value} {nb : Nat} {most pairs : Int} {names : List ByteArray}

/-- A table's keys are numbers of names, its hashes theirs. -/
def KeysOk (t : Tab) (names : List ByteArray) : Prop := ∀ e : Nat, e < t.es.length → (entOf t.es (e : Int)).live = true → ∃ (i : Nat) (s : ByteArray), (entOf t.es (e : Int)).key = i ∧ names[i]? = some s ∧ (entOf t.es (e : Int)).hash = txt s
def nameOf (names : List ByteArray) (x : Ent) : ByteArray := names[x.key.toNat]?.getD ByteArray.empty
theorem livedL_mem {es : List Ent} : ∀ {k : Nat} {x : Nat × Ent}, x ∈ livedL es k → x.1 < k ∧ x.2 = entOf es (x.1 : Int) ∧ x.2.live = true
  | 0, x, h => by simp [livedL] at h
  | k + 1, x, h => by
    simp only [livedL, List.mem_append] at h
    rcases h with h | h
    · obtain ⟨h1, h2⟩ := livedL_mem h
      exact ⟨by omega, h2⟩
    · split at h
      · rename_i hl
        simp at h
        subst h
        exact ⟨by simp, rfl, hl⟩
      · simp at h
theorem keyAt (hk : KeysOk t names) {x : Nat × Ent} (hx : x ∈ livedL t.es t.es.length) : ∃ (i : Nat) (s : ByteArray), x.2.key = i ∧ names[i]? = some s := by
  obtain ⟨h1, h2, h3⟩ := livedL_mem hx
  rw [h2] at h3 ⊢
  obtain ⟨i, s, h4, h5, _⟩ := hk x.1 h1 h3
  exact ⟨i, s, h4, h5⟩
/-- What Names tells. -/
def namesL (t : Tab) (names : List ByteArray) : List ByteArray := (livedL t.es t.es.length).map fun x => nameOf names x.2

theorem own_block' {W : World} {base : Nat} {e : TypeId} {size n : Nat} {v : Value} {xs : List Value} (h : W.ownsRow base e size v n xs) {k : Nat} (hk : v.ownBlock = some k) : ∃ cur, W.heap[k]? = some (.cells cur e (0, 0)) := by
  rcases h.2 with ⟨e1, _⟩ | ⟨g, cap, cur, e1, _, hg, _⟩
  · rw [e1] at hk; cases hk
  · rw [e1] at hk
    have : g = k := by simpa [Value.ownBlock] using hk
    subst this
    exact ⟨cur, hg⟩
theorem own_keep {W W' : World} {fq : List Nat} {base : Nat} {e : TypeId} {size n : Nat} {v : Value} {xs : List Value} (h : W.ownsRow base e size v n xs) (hu : Upd fq W W') (hn : ∀ k, v.ownBlock = some k → k ∉ fq) : W'.ownsRow base e size v n xs := by
  refine ⟨h.1, ?_⟩
  rcases h.2 with h0 | ⟨g, cap, cur, hv, hb, hg, rest⟩
  · exact .inl h0
  · exact .inr ⟨g, cap, cur, hv, hb, (hu.block g (Array.getElem?_eq_some_iff.1 hg).1 (hn g (by rw [hv]; rfl))).trans hg, rest⟩

theorem own_base {W : World} {base base' : Nat} {e : TypeId} {size n : Nat} {v : Value} {xs : List Value} (h : W.ownsRow base e size v n xs) (hb : base' ≤ base) : W.ownsRow base' e size v n xs := by
  refine ⟨h.1, ?_⟩
  rcases h.2 with h0 | ⟨g, cap, cur, hv, hbb, rest⟩
  · exact .inl h0
  · exact .inr ⟨g, cap, cur, hv, Nat.le_trans hb hbb, rest⟩
set_option maxHeartbeats 4000000 in
theorem names_any (hF : FamB w fb m b nv nb most pairs names) (h : TabB w b v cb cg m t) (hk : KeysOk t names) :
    Calls Try.prog 34 #[.pointer (some ⟨fb, 0, none⟩)] w fun e w' => ∃ o, e = .returned o ∧ w'.ownsRow w.heap.size 9 1 o (namesL t names).length ((namesL t names).map .string) ∧ Upd [] w w' := by
  have hu0 := ((Upd.refl [] w).alloc (.cells #[.pointer (some ⟨fb, 0, none⟩)] 52)).alloc (.cells #[.slice none 0 0] 55)
  have hF0 := hF.upd hu0 (by simp)
  have hT0 := h.upd hu0 (by simp)
  have k0 := (Blk.new w 52 [.pointer (some ⟨fb, 0, none⟩)]).alloc (.cells #[.slice none 0 0] 55)
  have k1 := Blk.new1 w (.cells #[.pointer (some ⟨fb, 0, none⟩)] 52) 55 [.slice none 0 0]
  have HF0 := Lib.hid hF0
  have HT0 := Lib.hid hT0
  have HU0 := Lib.hid hu0
  have HL := Lib.hid hF.lt
  have c3 := hF0.blk.cell (i := 3) rfl
  have AL := Lib.hid (tableAll_any hT0)
  have HK := Lib.hid hk
  have hsz : w.heap.size + 1 < ((w.alloc (.cells #[.pointer (some ⟨fb, 0, none⟩)] 52)).alloc (.cells #[.slice none 0 0] 55)).heap.size := by simp
  clear hF h hk hu0 hF0 hT0
  refine (callsIn_wide (n := 5)).1 ?_
  refine callsIn_of_wp_marks Try.func34 rfl trivial ?_ rfl
  simp only [Try.ntmps34, List.size_toArray, List.length_cons, List.length_nil, Nat.reduceAdd, Nat.reduceSub, Array.replicate_succ, Array.replicate_zero, List.push_toArray, List.append_toArray, List.nil_append, List.cons_append]
  refine (wpIn_wide (n := 5)).2 ?_
  go_wp2_with fail
  generalize hW : (w.alloc _).alloc _ = W0 at *
  clear hW
  have d0 := k0.cell (i := 0) rfl
  go_wp2_with fail
  refine AL.out.mono ?_
  rintro e w1 ⟨B, o, rfl, hat, hBs, hu1⟩
  obtain ⟨a, c, rfl⟩ := own_shape hat.r
  have HAT := Lib.hid hat
  have HU1 := Lib.hid hu1
  have HBS := Lib.hid hBs
  have HF1 := Lib.hid (HF0.out.upd hu1 (by simp))
  have K0 := Lib.hid (k0.upd hu1 (by simp))
  have K1 := Lib.hid (k1.upd hu1 (by simp))
  clear hat hu1 hBs AL k0 k1 d0 c3
  go_wp2_with fail
  obtain ⟨lst, hlst⟩ : ∃ l, l = livedL t.es t.es.length := ⟨_, rfl⟩
  rw [← hlst] at HAT
  have hll : lst.length ≤ 1048576 := by rw [hlst]; exact Nat.le_trans (livedL_len _ _) (es_le HT0.out.ok)
  have HKX : Hid (∀ x ∈ lst, ∃ (i : Nat) (s : ByteArray), x.2.key = i ∧ names[i]? = some s) := Lib.hid (fun x hx => keyAt HK.out (hlst ▸ hx))
  have hres : namesL t names = lst.map (fun x => nameOf names x.2) := by unfold namesL; rw [hlst]
  have HRES := Lib.hid hres
  have hz01 := HU0.out.size
  have hz1 := HU1.out.size
  obtain ⟨O0, hO0⟩ : ∃ n, n = w.heap.size + 1 := ⟨_, rfl⟩
  rw [← hO0] at K1 hsz ⊢
  have hO1 : O0 < w1.heap.size := by omega
  have hOB : O0 < B := by have := HBS.out; omega
  have hOF : ∀ x ∈ famFp fb nv nb, x ∉ [O0] := fun x hx => by have := HL.out x hx; simp; omega
  have hB1 : B < w1.heap.size := HAT.out.b.lt
  have hog : ∀ k, (Value.slice a lst.length c).ownBlock = some k → O0 ≠ k ∧ k < w1.heap.size := fun k hk => by
    obtain ⟨z1, z2⟩ := HAT.out.r.lt k hk
    exact ⟨by omega, z2⟩
  have hP0 : w.heap.size < O0 := by omega
  have HO0 := Lib.hid hO0
  clear hlst hres hO0
  refine (wpIn_wide (n := 5)).1 ?_
  refine wpIn_rangeFunc_ownH rfl (by omega) (gf := 107) (lb := #[.pointer (some ⟨B, 0, none⟩)]) rfl trivial (enters_of Try.func107 (by kernel_rfl) rfl)
    (all_seq lst hll (5 - 1) (by omega) B a c w1 W0.heap.size HAT.out) (fun h k => h.trans k)
    (fun W l o o' _ hl hc _ => fun x hx cc T e => (Turned.putObj (o' := o') hl hc).block e) (Below.refl _ _) (fun _ => rfl)
    (fun pre W => Upd [O0] w1 W ∧ ∃ ov, Blk W O0 55 [ov] ∧ W.ownsRow w1.heap.size 9 1 ov pre.length (pre.map fun x => .string (nameOf names x.1.2)))
    (fun _ _ _ => False)
    (fun s X Y row hs hg hr => ⟨hs.1.turned hg (fun r e => (hr r e).1), by
      obtain ⟨ov, h1, h2⟩ := hs.2
      exact ⟨ov, h1.turned (Turned.of hg hr), ownsRow_turned h2 (Turned.of hg hr)⟩⟩)
    (fun c s X Y row hs hg hr => hs)
    ⟨Upd.refl _ _, .slice none 0 0, K1.out, World.ownsRow_nil _ _ _ _⟩
    (fun x a' W => ∃ p, a' = ({ tmps := #[.pointer (some ⟨fb, 0, none⟩), .pointer (some ⟨w.heap.size, 0, none⟩), .slice none 0 0, .pointer (some ⟨O0, 0, none⟩), undef, .pointer (some ⟨p, 0, none⟩), .pointer (some ⟨fb, 0, none⟩), .bool false, .pointer (some ⟨fb, 0, none⟩), .pointer (some ⟨fb, 0, none⟩), .pointer (some ⟨fb, 3, none⟩), .pointer (some ⟨b, 0, none⟩), allTV B, .int .i64 x.1.1, entV x.1.2, undef, undef, undef, undef, undef, undef, undef, undef, undef, undef, undef, undef], defers := [] } : Act) ∧ Blk W p 130 x.1.2.vals ∧ w1.heap.size ≤ p)
    (fun x a' s X Y row hs hg hr => by
      obtain ⟨p, h1, h2, h3⟩ := hs
      exact ⟨p, h1, h2.turned (Turned.of hg hr), h3⟩) ?assign ?body ?done ?stop
  case assign =>
    rintro l pre x W K ⟨hu, ov, h1, h2⟩ hK
    have hz := hu.size
    gi_wp2
    have u1 := (Upd.refl [] W).alloc (.cells x.1.2.vals.toArray 130)
    exact hK _ _ (keepsFrom_upd _ u1 (by simp)) (KeepsB.upd u1 (by simp)) ⟨hu.alloc _, ov, h1.alloc _, h2.alloc _⟩ ⟨W.heap.size, by rw [HO0.out], Blk.new W 130 x.1.2.vals, hz⟩
  case body =>
    rintro l pre x a' W hlw _ ⟨hu, ov, h1, h2⟩ ⟨p, rfl, hp, hpw⟩ hlt
    obtain ⟨ki, s, hki, hs⟩ := HKX.out x.1 x.2
    have hkin : ki < names.length := (List.getElem?_eq_some_iff.1 hs).1
    have hFW := HF1.out.upd hu hOF
    obtain ⟨gn, ncap, hnv, hncap⟩ := own_some hFW.row (by omega)
    subst hnv
    obtain ⟨a2, c2, rfl⟩ := own_shape h2
    have hnm : nameOf names x.1.2 = s := by unfold nameOf; rw [hki]; simp [hs]
    have HNM := Lib.hid hnm
    have hK0 := (K0.out.upd hu (by simp; omega))
    have hcs : W.cell? ⟨gn, ki, none⟩ = some (.string s) := by
      have := hFW.row.cells (g := gn) rfl ki (.string s) (by simp [hs])
      rwa [plain_addr, Nat.zero_add] at this
    have hpl := pre.length
    have hple : pre.length < 1048576 := by omega
    have hk2 : W.cell? ⟨p, 2, none⟩ = some (.int .i64 ki) := by have := hp.cell (i := 2) rfl; rw [hki] at this; exact this
    have hkl : (ki : Int) < (names.length : Int) := by omega
    obtain ⟨i0, hi0, hz0, hz1', hz2⟩ := info_parts infoStr
    have hrow := (h2.alloc (.cells #[.string s] 9)).drew
    have hnb := (Blk.new W 9 [.string s]).drew
    have hzW := hu.size
    obtain ⟨v2, w2, hap, hown, hgr, _, hpl⟩ := run_append_own_at (P := Try.prog) (W.alloc (.cells #[.string s] 9)).drew w1.heap.size 55 55 9 i0 (.string ByteArray.empty) 1 16 Try.underlying55 hi0 hz0 hz1' hz2 rfl (by decide) (.slice a2 pre.length c2) pre.length _ hrow ⟨W.heap.size, 0, none⟩ 1 1 [.string s] rfl (fun j u hu => by rw [plain_addr, Nat.zero_add]; exact hnb.cell hu) (fun u hu => by simp at hu; subst hu; rfl) (by unfold maxLen; omega) (by omega) (by simp; omega)
    have hbig : ∀ k, (Value.slice a2 pre.length c2).ownBlock = some k → w1.heap.size ≤ k ∧ k < W.heap.size := fun k hk => h2.lt k hk
    have hcel : ∀ k, (Value.slice a2 pre.length c2).ownBlock = some k → ∃ cc T, W.heap[k]? = some (.cells cc T (0, 0)) := fun k hk => by obtain ⟨cur, hg⟩ := own_block' h2 hk; exact ⟨cur, _, hg⟩
    have hu2 : Upd (Value.slice a2 pre.length c2).ownBlock.toList W w2 := ((((Upd.refl _ W).alloc (.cells #[.string s] 9)).drew)).grown hgr (fun k hk => .inl (by rw [Option.mem_toList]; exact hk))
    have hOo : O0 ∉ (Value.slice a2 pre.length c2).ownBlock.toList := fun hk => by rw [Option.mem_toList] at hk; have := (hbig O0 hk).1; omega
    have hb2 := h1.upd hu2 hOo
    obtain ⟨g2, cap2, rfl⟩ := ownsRow_succ hown
    have hg2 : w1.heap.size ≤ g2 := (hown.lt g2 rfl).1
    have hu3 : Upd [O0] w2 (w2.setCell ⟨O0, 0, none⟩ (.slice (some ⟨g2, 0, none⟩) (pre.length + 1) cap2)) := (Upd.refl [O0] w2).setCell (.inl (by simp)) _
    have hb3 := hb2.set 0 (.slice (some ⟨g2, 0, none⟩) (pre.length + 1) cap2)
    have hr3 := own_keep hown hu3 (fun j hj => by simp [Value.ownBlock] at hj; subst hj; simp; omega)
    have hU23 : Upd (O0 :: (Value.slice a2 pre.length c2).ownBlock.toList) W (w2.setCell ⟨O0, 0, none⟩ (.slice (some ⟨g2, 0, none⟩) (pre.length + 1) cap2)) := (hu2.mono (fun x h => List.mem_cons_of_mem _ h)).then (hu3.mono (by simp))
    have hKF : KeepsFrom w1.heap.size W (w2.setCell ⟨O0, 0, none⟩ (.slice (some ⟨g2, 0, none⟩) (pre.length + 1) cap2)) := keepsFrom_upd _ hU23 (fun y hy => by
      rcases List.mem_cons.1 hy with rfl | hy
      · exact h1.isCells
      · rw [Option.mem_toList] at hy; exact hcel y hy)
    have hKB : KeepsB (B :: (Value.slice a lst.length c).ownBlock.toList) W (w2.setCell ⟨O0, 0, none⟩ (.slice (some ⟨g2, 0, none⟩) (pre.length + 1) cap2)) := KeepsB.upd hU23 (fun y hy hf => by
      have hy1 : O0 ≠ y ∧ y < w1.heap.size := by
        rcases List.mem_cons.1 hy with rfl | hy
        · exact ⟨by omega, hB1⟩
        · rw [Option.mem_toList] at hy; exact hog y hy
      rcases List.mem_cons.1 hf with rfl | hf
      · exact hy1.1 rfl
      · rw [Option.mem_toList] at hf; have := (hbig y hf).1; omega)
    have hI3 : Upd [O0] w1 (w2.setCell ⟨O0, 0, none⟩ (.slice (some ⟨g2, 0, none⟩) (pre.length + 1) cap2)) := hu.trans hU23 (fun y hy => by
      rcases List.mem_cons.1 hy with rfl | hy
      · exact .inl (by simp)
      · rw [Option.mem_toList] at hy; exact .inr (hbig y hy).1)
    have hR3 : (w2.setCell ⟨O0, 0, none⟩ (.slice (some ⟨g2, 0, none⟩) (pre.length + 1) cap2)).ownsRow w1.heap.size 9 1 (.slice (some ⟨g2, 0, none⟩) (pre.length + 1) cap2) (pre ++ [x]).length ((pre ++ [x]).map fun x => .string (nameOf names x.1.2)) := by
      rw [List.length_append, List.map_append]
      have : ([x].map fun (x : { x : Nat × Ent // x ∈ lst }) => Value.string (nameOf names x.1.2)) = [.string s] := by simp [hnm]
      rw [this]
      exact hr3
    have HEND : Hid (KeepsFrom w1.heap.size W (w2.setCell ⟨O0, 0, none⟩ (.slice (some ⟨g2, 0, none⟩) (pre.length + 1) cap2)) ∧ KeepsB (B :: (Value.slice a lst.length c).ownBlock.toList) W (w2.setCell ⟨O0, 0, none⟩ (.slice (some ⟨g2, 0, none⟩) (pre.length + 1) cap2)) ∧
        (Upd [O0] w1 (w2.setCell ⟨O0, 0, none⟩ (.slice (some ⟨g2, 0, none⟩) (pre.length + 1) cap2)) ∧ ∃ ov, Blk (w2.setCell ⟨O0, 0, none⟩ (.slice (some ⟨g2, 0, none⟩) (pre.length + 1) cap2)) O0 55 [ov] ∧
          (w2.setCell ⟨O0, 0, none⟩ (.slice (some ⟨g2, 0, none⟩) (pre.length + 1) cap2)).ownsRow w1.heap.size 9 1 ov (pre ++ [x]).length ((pre ++ [x]).map fun x => .string (nameOf names x.1.2)))) := Lib.hid ⟨hKF, hKB, hI3, _, hb3, hR3⟩
    have q0 := h1.drew.cell (i := 0) rfl
    have q1 := hK0.drew.cell (i := 0) rfl
    have q2 := hFW.blk.drew.cell (i := 4) rfl
    have q3 : W.drew.cell? ⟨p, 2, none⟩ = _ := hk2
    have q4 : W.drew.cell? ⟨gn, ki, none⟩ = _ := hcs
    have g0 := hb2.cell (i := 0) rfl
    have gf0 := hb2.free 0
    have gcell : ∀ {W' : World}, W'.ownsRow 0 9 1 (.slice (some ⟨gn, 0, none⟩) names.length ncap) names.length (names.map .string) → W'.cell? ⟨gn, ki, none⟩ = some (.string s) := fun h => by
      have := h.cells (g := gn) rfl ki (.string s) (by simp [hs])
      rwa [plain_addr, Nat.zero_add] at this
    have pcell : ∀ {W' : World}, Blk W' p 130 x.1.2.vals → W'.cell? ⟨p, 2, none⟩ = some (.int .i64 ki) := fun h => by have := h.cell (i := 2) rfl; rw [hki] at this; exact this
    have HCA := Lib.hid (And.intro (((h1.alloc (.cells #[.string s] 9)).drew).cell (i := 0) rfl) (And.intro (((hK0.alloc (.cells #[.string s] 9)).drew).cell (i := 0) rfl) (And.intro (((hFW.blk.alloc (.cells #[.string s] 9)).drew).cell (i := 4) rfl) (And.intro (pcell ((hp.alloc (.cells #[.string s] 9)).drew)) (gcell ((hFW.row.alloc (.cells #[.string s] 9)).drew))))))
    have hnb1 : ∀ y, y < w1.heap.size → y ∉ (Value.slice a2 pre.length c2).ownBlock.toList := fun y hy hk => by rw [Option.mem_toList] at hk; have := (hbig y hk).1; omega
    have hHL := HL.out
    have hgnl : gn < w.heap.size := hHL gn (by simp [famFp, Value.ownBlock])
    have hfbl : fb < w.heap.size := hHL fb (by simp [famFp])
    have HCB := Lib.hid (And.intro g0 (And.intro ((hK0.upd hu2 (hnb1 _ (by omega))).cell (i := 0) rfl) (And.intro ((hFW.blk.upd hu2 (hnb1 fb (by omega))).cell (i := 4) rfl) (And.intro (pcell (hp.upd hu2 (fun hk => by rw [Option.mem_toList] at hk; obtain ⟨cur, hg⟩ := own_block' h2 hk; exact blk_ne hp hg (by decide) rfl))) (gcell (own_keep hFW.row hu2 (fun j hj => by simp [Value.ownBlock] at hj; subst hj; exact hnb1 gn (by omega))))))))
    clear hr3 hb3 hU23 hKF hKB hI3 hR3 hu3 hu2 hb2 hrow hnb hown hgr hpl hbig hcel hog hnb1 h1 h2 hp hu hFW hK0
    refine wpIn_block ?_
    refine wpIn_region_chain (by intro _; trivial) 9 (C := fun w' => w'.cell? ⟨O0, 0, none⟩ = some (.slice a2 pre.length c2) ∧ w'.cell? ⟨w.heap.size, 0, none⟩ = some (.pointer (some ⟨fb, 0, none⟩)) ∧ w'.cell? ⟨fb, 4, none⟩ = some (.slice (some ⟨gn, 0, none⟩) names.length ncap) ∧ w'.cell? ⟨p, 2, none⟩ = some (.int .i64 ki) ∧ w'.cell? ⟨gn, ki, none⟩ = some (.string s)) (by kernel_rfl) (by kernel_rfl) ⟨q0, q1, q2, q3, q4⟩ ?_
    simp only [List.take_succ_cons, List.take_zero, List.drop_succ_cons, List.drop_zero]
    repeat (refine headR_step (fun K hK => ?_); apply Exists.intro; refine ⟨fun wq hwq => ?_, ?_⟩; (focus (obtain ⟨y0, y1, y2, y3, y4⟩ := hwq; apply runs_quiet; (focus (intro c h; cases h)); (focus rfl); go_simp; try exact rfl)); go_simp; refine hK _ ?_; clear hK K)
    refine headR_nil ?_
    refine tailR_step (fun K hK => ?_)
    refine ⟨.slice (some ⟨W.heap.size, 0, none⟩) 1 1, (W.alloc (.cells #[.string s] 9)).drew, runs_value (fun c h => by cases h) rfl (by go_simp; try exact rfl), HCA.out, ?_⟩
    go_simp
    refine hK _ _ ?_
    clear hK K
    refine tailR_step (fun K hK => ?_)
    refine ⟨_, w2, runs_append rfl _ _ _ rfl hap (by go_simp) (by go_simp), HCB.out, ?_⟩
    go_simp
    refine hK _ _ ?_
    clear hK K
    refine tailR_last (fun K hK => ?_)
    refine ⟨_, _, runs_skip (fun c h => by cases h) rfl (by go_simp; try exact rfl), ?_⟩
    go_simp
    refine hK _ _ ?_
    exact HEND.out
  case done =>
    rintro D xs W2 hD rfl ⟨hu, ov, h1, h2⟩ hK2
    have hUW : Upd [] w W2 := (((HU0.out.then HU1.out).mono (fp' := []) (by simp)).trans hu (fun x hx => .inr (by simp at hx; omega)))
    have hd := h1.cell (i := 0) rfl
    have hlen' : (lst.attach.map fun x => Value.string (nameOf names x.1.2)) = (namesL t names).map .string := by
      rw [HRES.out, List.map_map]
      have := List.attach_map_val (l := lst) (f := fun x => Value.string (nameOf names x.2))
      exact this
    have hll' : lst.attach.length = (namesL t names).length := by rw [List.length_attach, HRES.out, List.length_map]
    rw [hlen', hll'] at h2
    have HEND : Hid (∃ o, o = ov ∧ (W2.putObj D (.deferred none)).ownsRow w.heap.size 9 1 o (namesL t names).length ((namesL t names).map .string) ∧ Upd [] w (W2.putObj D (.deferred none))) := Lib.hid ⟨ov, rfl, own_base (ownsRow_turned h2 (Turned.putObj hK2 rfl)) (by omega), hUW.putObj (by omega) _⟩
    clear h2 hUW hu h1 hlen' hll'
    go_wp2_with fail
    refine ⟨by simp, .inl ⟨_, _, rfl, run_takeDeferred hK2, ?_⟩⟩
    obtain ⟨o, rfl, e1, e2⟩ := HEND.out
    exact ⟨_, results_tmp rfl _ _ _, o, rfl, e1, e2⟩
  case stop =>
    rintro D c pre W2 hD hSp hf hK2
    exact hf.elim
theorem names_nil : Calls Try.prog 34 #[.pointer none] w fun e w' => e = .returned (.slice none 0 0) ∧ Upd [] w w' := by
  have k0 := Blk.new w 52 [.pointer none]
  have u0 := (Upd.refl [] w).alloc (.cells #[.pointer none] 52)
  have c0 := k0.cell (i := 0) rfl
  go_enter Try.func34, Try.ntmps34
  go_wp2_with fail
  go_ret
  exact ⟨rfl, u0⟩
end Go.Proofs.Ytnaeehnnjhklbaa
