/- The walk of a family's give. -/
import Derived.Test.YtnaeehnnjhklbaaFam
import Derived.Test.YtnaeehnnjhklbaaRegion2
import Derived.Maps.AppendAt
set_option linter.unusedVariables false
namespace Go.Proofs.Ytnaeehnnjhklbaa
open Go.RowKit Go.MapKept Go.ChangeMaps
variable {w w' : World} {fb : Nat} {m : Option Addr} {tb : Nat} {nv : Value} {nb : Nat} {most pairs : Int} {names : List ByteArray}

/-- The names with one more, if it is new. -/
def given (names : List ByteArray) (s : ByteArray) : List ByteArray := if numOf names s < 0 then names ++ [s] else names

theorem Upd.setBlock {fp : List Nat} {a w : World} (h : Upd fp a w) {b : Nat} (hb : b ∈ fp) (o : Obj) : Upd fp a (setBlock w b o) :=
  ⟨h.os, h.tape, h.output, by simpa [Go.ChangeMaps.setBlock] using h.size, fun k hk hn => by
    have hne : b ≠ k := fun e => hn (e ▸ hb)
    have : (Go.ChangeMaps.setBlock w b o).heap[k]? = w.heap[k]? := by simp [Go.ChangeMaps.setBlock, Array.getElem?_setIfInBounds_ne hne]
    exact this.trans (h.block k hk hn)⟩
theorem setBlock_at {w : World} {b : Nat} {o : Obj} (h : b < w.heap.size) : (setBlock w b o).heap[b]? = some o := by simp [Go.ChangeMaps.setBlock, h]
theorem infoStr : (Try.prog.info? 9).map (fun i => (i.zero, i.size, i.bytes)) = some (some (.string ByteArray.empty), 1, 16) := by kernel_rfl
theorem given_new {names : List ByteArray} {s : ByteArray} (h : s ∉ names) : numOf (names ++ [s]) s = names.length := by
  rcases numOf_spec (names ++ [s]) s with ⟨_, h'⟩ | ⟨i, h1, h2⟩
  · simp at h'
  · rw [h1]
    rcases Nat.lt_or_ge i names.length with h3 | h3
    · rw [List.getElem?_append_left h3] at h2; exact absurd (List.mem_of_getElem? h2) h
    · have := (List.getElem?_eq_some_iff.1 h2).1
      simp at this
      omega
set_option maxHeartbeats 2000000 in
theorem give_any (h : FamB w fb m tb nv nb most pairs names) {s : ByteArray} (hs : s.size ≤ 200) (hl : names.length ≤ 1048576) :
    Calls Try.prog 115 #[.pointer (some ⟨fb, 0, none⟩), .string s] w fun e w' => e = .returned (.int .i64 (numOf (given names s) s)) ∧
      ∃ nv', FamB w' fb m tb nv' nb most pairs (given names s) ∧ (∀ x ∈ famFp fb nv' nb, x ∈ famFp fb nv nb ∨ w.heap.size ≤ x) ∧ Upd (famFp fb nv nb) w w' := by
  have NB := Lib.hid (number_any h hs)
  have H := Lib.hid h
  rcases numOf_spec names s with ⟨h1, h2⟩ | ⟨i, h1, h2⟩
  · have hg : given names s = names ++ [s] := if_pos (by omega)
    have HG := Lib.hid hg
    rw [h1] at NB
    obtain ⟨a1, c1, rfl⟩ : ∃ a c, nv = .slice a names.length c := by
      rcases h.row.2 with ⟨e1, e2⟩ | ⟨r, off, cap, e, _⟩
      · exact ⟨none, 0, by rw [e1, e2]⟩
      · exact ⟨_, _, e⟩
    have b4 := h.blk.cell (i := 4) rfl
    have b5 := h.blk.cell (i := 5) rfl
    obtain ⟨n, hn⟩ : ∃ n, n = names.length := ⟨_, rfl⟩
    have HN := Lib.hid hn
    rw [← hn] at b4 hl
    clear hn hg h1
    go_enter Try.func115, Try.ntmps115
    go_wp2_with (go_at_call 124; refine NB.out.mono ?_; rintro e w1 ⟨rfl, rfl⟩)
    obtain ⟨i0, hi0, hz0, hz1, hz2⟩ := info_parts infoStr
    have hrow := (h.row.alloc (.cells #[.string s] 9)).drew
    have hnb := (Blk.new w 9 [.string s]).drew
    obtain ⟨v2, w2, hap, hown, hgr, _, hpl⟩ := run_append_own_at (P := Try.prog) (w.alloc (.cells #[.string s] 9)).drew 0 55 55 9 i0 (.string ByteArray.empty) 1 16 Try.underlying55 hi0 hz0 hz1 hz2 rfl (by decide) (.slice a1 names.length c1) names.length (names.map .string) hrow ⟨w.heap.size, 0, none⟩ 1 1 [.string s] rfl (fun j u hu => by rw [plain_addr, Nat.zero_add]; exact hnb.cell hu) (fun u hu => by simp at hu; subst hu; rfl) (by have := HN.out; unfold maxLen; omega) (by have := HN.out; omega) (Nat.zero_le _)
    have hnbv : ∀ k, (Value.slice a1 names.length c1).ownBlock = some k → fb ≠ k ∧ nb ≠ k := fun k hk => by
      obtain ⟨cur, hg⟩ := own_block h.row hk
      exact ⟨blk_ne h.blk hg (by decide), h.num.not_blk hg⟩
    have hnf : nb ≠ fb := h.num.not_blk h.blk
    have hu2 : Upd (Value.slice a1 names.length c1).ownBlock.toList w w2 := ((((Upd.refl _ w).alloc (.cells #[.string s] 9)).drew)).grown hgr (fun k hk => .inl (by rw [Option.mem_toList]; exact hk))
    have hb2 := h.blk.upd hu2 (by simpa using fun hk => (hnbv fb hk).1 rfl)
    have hn2 := h.num.upd hu2 (by simpa using fun hk => (hnbv nb hk).2 rfl)
    obtain ⟨g2, cap2, rfl⟩ := ownsRow_succ hown
    have gb := own_block hown (k := g2) rfl
    have nfg : fb ≠ g2 := by obtain ⟨cur, hg⟩ := gb; exact blk_ne hb2 hg (by decide)
    have nng : nb ≠ g2 := by obtain ⟨cur, hg⟩ := gb; exact hn2.not_blk hg
    have hu3 : Upd [fb] w2 (w2.setCell ⟨fb, 4, none⟩ (.slice (some ⟨g2, 0, none⟩) (names.length + 1) cap2)) := (Upd.refl [fb] w2).setCell (.inl (by simp)) _
    have hb3 := hb2.set 4 (.slice (some ⟨g2, 0, none⟩) (names.length + 1) cap2)
    have hn3 := hn2.upd hu3 (by simpa using hnf)
    have hr3 := ownsRow_keep hown hu3 (fun j hj => by simp [Value.ownBlock] at hj; subst hj; simpa using fun e => nfg e.symm)
    obtain ⟨v0, st, o1, hE, hS⟩ := hn3.give hs (by have := HN.out; unfold maxLen; omega) h2
    have hlt3 := hn3.lt
    obtain ⟨o2, hS1, hn5⟩ := hS _ (setBlock_at (o := o1) hlt3)
    unfold goInt at hS1 hE
    have hu5 := ((Upd.refl [nb] (w2.setCell ⟨fb, 4, none⟩ (.slice (some ⟨g2, 0, none⟩) (names.length + 1) cap2))).setBlock (b := nb) (by simp) o1).setBlock (b := nb) (by simp) o2
    have HU5 := Lib.hid hu5
    have HN5 := Lib.hid hn5
    clear hu5 hn5 hS
    have g4 := hb2.cell (i := 4) rfl
    have gf4 := hb2.free 4
    rw [← HN.out] at hap g4 hE hS1 HU5 HN5
    have HB2 := Lib.hid hb2
    have HCA := Lib.hid (And.intro (((h.blk.alloc (.cells #[.string s] 9)).drew).cell (i := 4) rfl) (((h.blk.alloc (.cells #[.string s] 9)).drew).cell (i := 5) rfl))
    have HCB := Lib.hid (And.intro (hb2.cell (i := 4) rfl) (hb2.cell (i := 5) rfl))
    rw [← HN.out] at HCA HCB
    have b4d : w.drew.cell? ⟨fb, 4, none⟩ = _ := b4
    have b5d : w.drew.cell? ⟨fb, 5, none⟩ = _ := b5
    refine wp_region_chain2 [0, 1, 2, 3, 4, 5, 6, 7, 8, 9, 10, 11, 12, 13, 18] [0, 1, 2, 3, 4, 5, 6, 7, 8, 9, 10, 13] [11, 12, 14, 15, 16, 17, 18, 19] (C := fun w' => w'.cell? ⟨fb, 4, none⟩ = some (.slice a1 n c1) ∧ w'.cell? ⟨fb, 5, none⟩ = some (.map (some nb))) (by kernel_rfl) (by kernel_rfl) ⟨b4d, b5d⟩ ?_
    simp only [pickS, List.getElem?_cons_succ, List.getElem?_cons_zero, List.map_cons, List.map_nil]
    repeat (refine headS_step (fun K hK => ?_); apply Exists.intro; refine ⟨fun wq hwq => ?_, ?_⟩; (focus ((first | (clear hwq; apply runs_quiet; (focus (intro c h; cases h)); (focus rfl); (focus ((try go_simp); (try exact rfl); done))) | (obtain ⟨q4, q5⟩ := hwq rfl; apply runs_quiet; (focus (intro c h; cases h)); (focus rfl); (focus ((try go_simp); (try exact rfl); done)))))); go_simp; refine hK _ ?_; clear hK K)
    refine headS_nil ?_
    rw [← HN.out] at hu3 hb3 hr3
    have HU2 := Lib.hid hu2
    have HU3 := Lib.hid hu3
    have HB3 := Lib.hid hb3
    have HR3 := Lib.hid hr3
    clear hu2 hu3 hb3 hr3 hn3 hn2 hrow hnb hown hgr hb2
    refine tailS_step (fun K hK => ?_)
    refine ⟨.slice (some ⟨w.heap.size, 0, none⟩) 1 1, (w.alloc (.cells #[.string s] 9)).drew, runs_value (fun c h => by cases h) rfl (by go_simp; try exact rfl), fun _ _ => HCA.out, ?_⟩
    go_simp
    refine hK _ _ ?_
    clear hK K
    refine tailS_step (fun K hK => ?_)
    refine ⟨_, w2, runs_append rfl _ _ _ rfl hap (by go_simp) (by go_simp), fun _ _ => HCB.out, ?_⟩
    go_simp
    refine hK _ _ ?_
    clear hK K
    refine tailS_step (fun K hK => ?_)
    refine ⟨_, w2, runs_value (fun c h => by cases h) rfl (by go_simp; try exact rfl), fun h => absurd h (by decide), ?_⟩
    go_simp
    refine hK _ _ ?_
    clear hK K
    refine tailS_step (fun K hK => ?_)
    refine ⟨_, w2, runs_value (fun c h => by cases h) rfl (by go_simp; try exact rfl), fun h => absurd h (by decide), ?_⟩
    go_simp
    refine hK _ _ ?_
    clear hK K
    refine tailS_step (fun K hK => ?_)
    refine ⟨_, _, runs_skip (fun c h => by cases h) rfl (by go_simp; try exact rfl), fun h => absurd h (by decide), ?_⟩
    go_simp
    refine hK _ _ ?_
    clear hK K
    refine tailS_step (fun K hK => ?_)
    refine ⟨_, _, runs_value (fun c h => by cases h) rfl (by go_simp; exact ⟨rfl, rfl⟩), fun h => absurd h (by decide), ?_⟩
    go_simp
    refine hK _ _ ?_
    clear hK K
    refine tailS_step (fun K hK => ?_)
    refine ⟨_, _, runs_value (fun c h => by cases h) rfl (by go_simp; try exact rfl), fun _ h => h, ?_⟩
    go_simp
    refine hK _ _ ?_
    clear hK K
    refine tailS_step (fun K hK => ?_)
    refine ⟨_, _, runs_skip (fun c h => by cases h) rfl (by go_simp; try exact rfl), fun h => absurd h (by decide), ?_⟩
    go_simp
    refine hK _ _ ?_
    clear hK K
    refine tailS_nil ?_
    generalize setBlock (setBlock _ _ _) _ _ = w5 at *
    generalize w2.setCell _ _ = w3 at *
    clear g4 gf4 hE hS1 hap b4d b5d
    go_wp2_with fail
    go_ret
    have hb5 := HB3.out.upd HU5.out (by simpa using fun e => hnf e.symm)
    have hr5 := ownsRow_keep HR3.out HU5.out (fun j hj => by simp [Value.ownBlock] at hj; subst hj; simpa using fun e => nng e.symm)
    have hU : Upd (famFp fb (Value.slice a1 names.length c1) nb) w w5 := ((HU2.out.mono (by simp [famFp]; exact fun x h => .inr (.inr h))).then (HU3.out.mono (by simp [famFp]))).then (HU5.out.mono (by simp [famFp]))
    rw [HG.out, given_new h2]
    refine ⟨by rw [HN.out]; rfl, .slice (some ⟨g2, 0, none⟩) (n + 1) cap2, ⟨hb5, ?_, HN5.out, ?_, ?_⟩, ?_, hU⟩
    · rw [List.map_append, List.length_append]
      rw [HN.out] at hr5 ⊢
      exact hr5
    · exact List.nodup_append.2 ⟨h.nodup, by simp, fun a ha c hc e => by simp at hc; subst hc; exact h2 (e ▸ ha)⟩
    · intro y hy
      rw [List.mem_append] at hy
      rcases hy with hy | hy
      · exact h.small y hy
      · simp at hy; rw [hy]; exact hs
    · intro y hy
      simp only [famFp, List.mem_cons, Option.mem_toList] at hy
      rcases hy with rfl | rfl | hy
      · exact .inl (by simp [famFp])
      · exact .inl (by simp [famFp])
      · have hy' : (Value.slice (some ⟨g2, 0, none⟩) (names.length + 1) cap2).ownBlock = some y := hy
        rcases hpl with h0 | h0
        · rw [h0] at hy'
          exact .inl (by simp [famFp, hy'])
        · rw [h0] at hy'
          simp at hy'
          exact .inr (by omega)
  · have hg : given names s = names := if_neg (by omega)
    have e : numOf (given names s) s = i := by rw [hg, h1]
    rw [h1] at NB
    go_enter Try.func115, Try.ntmps115
    go_wp2_with (go_at_call 124; refine NB.out.mono ?_; rintro e w1 ⟨rfl, rfl⟩)
    go_ret
    refine ⟨by rw [e]; rfl, nv, by rw [hg]; exact h, fun x hx => .inl hx, Upd.refl _ _⟩
end Go.Proofs.Ytnaeehnnjhklbaa
