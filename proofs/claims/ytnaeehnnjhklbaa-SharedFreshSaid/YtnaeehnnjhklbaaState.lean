/- A family none of whose namespaces is private, with one of them at hand: its calls as steps. -/
import Derived.Test.YtnaeehnnjhklbaaLaw10
set_option linter.unusedVariables false
set_option maxRecDepth 100000
namespace Go.Proofs.Ytnaeehnnjhklbaa
open Go.RowKit Go.MapKept Go.ChangeMaps

structure St (w0 w : World) (fb tb : Nat) (v : Value) (cb cg nb : Nat) (nv : Value) (m : Option Addr) (q : Cnt) (most pairs : Int) (names : List ByteArray) (t : Tab) : Prop where
  fam : FamB w fb m tb nv nb most pairs names
  tab : TabB w tb v cb cg m t
  met : Met w m q
  key : KeyTab t names
  new : ∀ x ∈ famFp fb nv nb ++ tabFp tb v cb cg, w0.heap.size ≤ x
  upd : Upd (Met.fp m) w0 w
structure Sp (w0 w : World) (fb sb rb : Nat) (rv : Value) (vals : List Int) (ver : Int) : Prop where
  blk : Blk w sb 63 (spcL fb (rowWay rb) ver)
  row : RowB w rb rv vals
  new : ∀ x ∈ sb :: rowFp rb rv, w0.heap.size ≤ x
variable {w0 w w' : World} {fb tb : Nat} {v : Value} {cb cg nb : Nat} {nv : Value} {m : Option Addr} {q : Cnt} {most pairs : Int} {names : List ByteArray} {t : Tab}
variable {sb rb : Nat} {rv : Value} {vals : List Int} {ver : Int} {s : ByteArray}

theorem St.later (h : St w0 w fb tb v cb cg nb nv m q most pairs names t) (hu : Upd [] w w') : St w0 w' fb tb v cb cg nb nv m q most pairs names t :=
  ⟨h.fam.upd hu (by simp), h.tab.upd hu (by simp), h.met.upd hu (by simp), h.key, h.new, h.upd.nil hu⟩
theorem Sp.later (h : Sp w0 w fb sb rb rv vals ver) (hu : Upd [] w w') : Sp w0 w' fb sb rb rv vals ver := ⟨h.blk.upd hu (by simp), h.row.upd hu (by simp), h.new⟩

theorem St.start (hm : Met w m q) (h1 : 0 ≤ most) (h2 : most ≤ 256) (h3 : 0 ≤ pairs) (h4 : pairs ≤ 65536) :
    Calls Try.prog 64 #[.int .i64 most, .int .i64 pairs, .pointer m] w fun e w' => ∃ fb tb v cb cg nb nv, e = .returned (.tuple #[.pointer (some ⟨fb, 0, none⟩), .int .i64 0]) ∧ St w w' fb tb v cb cg nb nv m (q.add 0 1) most pairs [] Tab.new := by
  refine (new_fam hm h1 h2 h3 h4).mono ?_
  rintro e w1 ⟨fb, tb, v, cb, cg, nb, rfl, hF, hT, hM, hn, hu⟩
  exact ⟨fb, tb, v, cb, cg, nb, _, rfl, hF, hT, hM, keyTab_new, hn, hu⟩
theorem St.make (h : St w0 w fb tb v cb cg nb nv m q most pairs names t) :
    Calls Try.prog 33 #[.pointer (some ⟨fb, 0, none⟩)] w fun e w' => ∃ sb rb rv, e = .returned (.pointer (some ⟨sb, 0, none⟩)) ∧ St w0 w' fb tb v cb cg nb nv m q most pairs names t ∧ Sp w0 w' fb sb rb rv [] 0 ∧ Upd [] w w' := by
  refine (make_fam h.fam).mono ?_
  rintro e w1 ⟨sb, rb, rfl, hS, hR, h1, h2, hu⟩
  have hz := h.upd.size
  exact ⟨sb, rb, _, rfl, h.later hu, ⟨hS, hR, fun x hx => by simp [rowFp, Value.ownBlock] at hx; omega⟩, hu⟩

theorem numOf_lt_len (h : 0 ≤ numOf names s) : numOf names s < (names.length : Int) := by
  rcases numOf_spec names s with ⟨h1, _⟩ | ⟨i, h1, h2⟩
  · omega
  · rw [h1]; have := (List.getElem?_eq_some_iff.1 h2).1; omega

/-- A new name. -/
theorem St.setNew (h : St w0 w fb tb v cb cg nb nv m q most pairs names t) (hp : Sp w0 w fb sb rb rv vals ver) (hs : s.size ≤ 200) (hno : s ∉ names) (hlen : names.length ≤ vals.length) (hmost : (vals.length : Int) < most) (hm256 : most ≤ 256) (hroom : (vals.length : Int) < pairs) (z : Int) :
    Calls Try.prog 38 #[.pointer (some ⟨sb, 0, none⟩), .string s, .int .i64 z] w fun e w' => e = .returned (.int .i64 0) ∧ ∃ v' cb' cg' nv' rv' ver' t' q', St w0 w' fb tb v' cb' cg' nb nv' m q' most pairs (names ++ [s]) t' ∧ Sp w0 w' fb sb rb rv' (vals ++ [z]) ver' ∧
      t' = t.add (txt s) (numOf (given names s) s) 0 ∧ q' = (t.addQ (t.findQ s (numOf names s) q)).add 2 1 := by
  have hz : rowAt t names vals s = -1 := by rw [h.key.rowAt, numOf_none hno]; split <;> rfl
  have hg : given names s = names ++ [s] := by unfold given; rw [if_pos (by rw [numOf_none hno]; omega)]
  have hlv : t.live = t.es.length := h.key.all.live
  have hel := h.key.len
  refine (set_new hp.blk hp.row h.fam h.tab h.met hs hz hroom h.key.all (by omega) hmost (by omega) (by omega) (by omega) z).mono ?_
  rintro e w1 ⟨rfl, hS, ⟨⟨rv', hR, hRf⟩, hM⟩, ⟨nv', hF, hFf⟩, ⟨v', cb', cg', hT, hTf⟩, hu⟩
  rw [hg] at hF
  have hz0 := h.upd.size
  refine ⟨rfl, v', cb', cg', nv', rv', _, _, _, ⟨hF, hT, hM, h.key.add hno (by omega), fun x hx => ?_, h.upd.trans hu (fun x hx => ?_)⟩, ⟨hS, hR, fun x hx => ?_⟩, rfl, rfl⟩
  · rcases List.mem_append.1 hx with hx | hx
    · rcases hFf x hx with h1 | h1
      · exact h.new x (List.mem_append.2 (.inl h1))
      · omega
    · rcases hTf x hx with h1 | h1
      · exact h.new x (List.mem_append.2 (.inr h1))
      · omega
  · simp only [List.mem_cons, List.mem_append] at hx
    rcases hx with rfl | hx | hx | hx | hx
    · exact .inr (hp.new _ (by simp))
    · exact .inr (hp.new _ (List.mem_cons_of_mem _ hx))
    · exact .inl hx
    · exact .inr (h.new _ (List.mem_append.2 (.inl hx)))
    · exact .inr (h.new _ (List.mem_append.2 (.inr hx)))
  · rcases List.mem_cons.1 hx with rfl | hx
    · exact hp.new _ (by simp)
    · rcases hRf x hx with h1 | h1
      · exact hp.new x (List.mem_cons_of_mem _ h1)
      · omega

theorem St.setFull (h : St w0 w fb tb v cb cg nb nv m q most pairs names t) (hp : Sp w0 w fb sb rb rv vals ver) (hs : s.size ≤ 200) (hz : rowAt t names vals s = -1) (hfull : pairs ≤ (vals.length : Int)) (z : Int) :
    Calls Try.prog 38 #[.pointer (some ⟨sb, 0, none⟩), .string s, .int .i64 z] w fun e w' => e = .returned (.int .i64 6) ∧ (∃ q', St w0 w' fb tb v cb cg nb nv m q' most pairs names t) ∧ Sp w0 w' fb sb rb rv vals ver ∧ Upd (Met.fp m) w w' := by
  refine (set_full hp.blk hp.row h.fam h.tab h.met hs hz hfull z).mono ?_
  rintro e w1 ⟨rfl, hM, hu⟩
  exact ⟨rfl, ⟨_, h.fam.upd hu (h.met.ne_fam h.fam), h.tab.upd hu (h.met.ne_tab h.tab), hM, h.key, h.new, h.upd.then hu⟩, ⟨hp.blk.upd hu (h.met.ne_blk hp.blk (by decide)), hp.row.upd hu (h.met.ne_rowB hp.row), hp.new⟩, hu⟩
/-- What a Get tells. -/
theorem St.get (h : St w0 w fb tb v cb cg nb nv m q most pairs names t) (hp : Sp w0 w fb sb rb rv vals ver) (hs : s.size ≤ 200) :
    Calls Try.prog 37 #[.pointer (some ⟨sb, 0, none⟩), .string s] w fun e w' => e = .returned (.tuple #[.int .i64 (getV t names vals s), .bool (decide (0 ≤ rowAt t names vals s))]) ∧ St w0 w' fb tb v cb cg nb nv m (t.findQ s (numOf names s) q) most pairs names t ∧ Sp w0 w' fb sb rb rv vals ver := by
  refine (get_row hp.blk hp.row h.fam h.tab h.met hs).mono ?_
  rintro e w1 ⟨rfl, hM, hu⟩
  exact ⟨rfl, ⟨h.fam.upd hu (h.met.ne_fam h.fam), h.tab.upd hu (h.met.ne_tab h.tab), hM, h.key, h.new, h.upd.then hu⟩, ⟨hp.blk.upd hu (h.met.ne_blk hp.blk (by decide)), hp.row.upd hu (h.met.ne_rowB hp.row), hp.new⟩⟩
/-- What Names tells. -/
theorem St.tell (h : St w0 w fb tb v cb cg nb nv m q most pairs names t) : Calls Try.prog 34 #[.pointer (some ⟨fb, 0, none⟩)] w fun e w' => ∃ o, e = .returned o ∧ StrAt w' o names ∧ Upd [] w w' := by
  refine (names_any h.fam h.tab h.key.keys).mono ?_
  rintro e w1 ⟨o, rfl, ho, hu⟩
  rw [h.key.namesL] at ho
  exact ⟨o, rfl, ⟨_, ho⟩, hu⟩

abbrev tx : ByteArray := ⟨#[120]⟩
abbrev ty : ByteArray := ⟨#[121]⟩
theorem tx_ne : ty ∉ ([tx] : List ByteArray) := by
  intro h
  simp at h
theorem awake_any : Calls Try.prog 32 #[] w fun e w' => e = .returned (.bool true) ∧ Upd [] w w' := by
  go_enter Try.func32, Try.ntmps32
  go_wp2_with fail
  refine (St.start (m := none) (q := ⟨0, 0, 0, 0⟩) (w := w) trivial (by omega) (by omega) (by omega) (by omega)).mono ?_
  rintro e w1 ⟨fb, tb, v, cb, cg, nb, nv, rfl, h1⟩
  have H1 := Lib.hid h1
  clear h1
  go_wp2_with fail
  refine H1.out.make.mono ?_
  rintro e w2 ⟨sb, rb, rv, rfl, h2, p2, _⟩
  have H2 := Lib.hid h2
  have P2 := Lib.hid p2
  clear h2 p2 H1
  go_wp2_with fail
  refine (H2.out.setNew P2.out (s := tx) (by decide) (by simp) (by simp) (by simp) (by omega) (by simp) 1).mono ?_
  rintro e w3 ⟨rfl, v3, cb3, cg3, nv3, rv3, ver3, t3, q3, h3, p3, _, _⟩
  have H3 := Lib.hid h3
  have P3 := Lib.hid p3
  clear h3 p3 H2 P2
  go_wp2_with fail
  refine (H3.out.setNew P3.out (s := ty) (by decide) tx_ne (by simp) (by simp) (by omega) (by simp) 2).mono ?_
  rintro e w4 ⟨rfl, v4, cb4, cg4, nv4, rv4, ver4, t4, q4, h4, p4, _, _⟩
  have H4 := Lib.hid h4
  have P4 := Lib.hid p4
  have ha : rowAt t4 ([] ++ [tx] ++ [ty]) ([] ++ [1] ++ [2]) ty = 1 := by
    rw [h4.key.rowAt, numOf_at h4.key.nodup (i := 1) (s := ty) (by simp)]
    rfl
  have hv : getV t4 ([] ++ [tx] ++ [ty]) ([] ++ [1] ++ [2]) ty = 2 := by unfold getV; rw [ha]; rfl
  have GT := Lib.hid (h4.get p4 (s := ty) (by decide))
  rw [ha, hv] at GT
  clear h4 p4 H3 P3 ha hv
  go_wp2_with fail
  refine GT.out.mono ?_
  rintro e w5 ⟨rfl, h5, p5⟩
  have H5 := Lib.hid h5
  have P5 := Lib.hid p5
  clear h5 p5 H4 P4 GT
  go_wp2_with fail
  refine (shared_row P5.out.blk).mono ?_
  rintro e w6 ⟨rfl, rfl⟩
  go_wp2_with fail
  refine H5.out.tell.mono ?_
  rintro e w7 ⟨o, rfl, ho, hu7⟩
  have HO := Lib.hid ho
  have H7 := Lib.hid (H5.out.later hu7)
  clear ho hu7 H5 P5
  go_wp2_with fail
  have hs1 : StrAt (w7.alloc (.cells #[.string tx, .string ty] 9)) o ([] ++ [tx] ++ [ty]) := by
    obtain ⟨base, h⟩ := HO.out
    exact ⟨base, h.alloc _⟩
  have hs2 : StrAt (w7.alloc (.cells #[.string tx, .string ty] 9)) (.slice (some ⟨w7.heap.size, 0, none⟩) 2 2) ([] ++ [tx] ++ [ty]) := ⟨0, World.ownsRow_lit (base := 0) (e := 9) (size := 1) w7 #[.string tx, .string ty] 2 (Nat.zero_le _) (by unfold maxLen; omega) rfl⟩
  refine (names_eq hs1 hs2 (by simp)).mono ?_
  rintro e w8 ⟨rfl, hu8⟩
  have HU := Lib.hid ((H7.out.upd.alloc (.cells #[.string tx, .string ty] 9)).then (hu8.mono (by simp)))
  clear hs1 hs2 hu8
  rw [decide_eq_true rfl]
  go_wp2_with fail
  go_ret
  exact ⟨rfl, HU.out⟩
end Go.Proofs.Ytnaeehnnjhklbaa
