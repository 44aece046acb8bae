/- A family none of whose namespaces is private: the other steps of Set. -/
import Derived.Test.YtnaeehnnjhklbaaState
set_option linter.unusedVariables false
set_option maxRecDepth 100000
namespace Go.Proofs.Ytnaeehnnjhklbaa
open Go.RowKit Go.MapKept Go.ChangeMaps
variable {w0 w w' : World} {fb tb : Nat} {v : Value} {cb cg nb : Nat} {nv : Value} {m : Option Addr} {q : Cnt} {most pairs : Int} {names : List ByteArray} {t : Tab}
variable {sb rb : Nat} {rv : Value} {vals : List Int} {ver : Int} {s : ByteArray}

theorem St.keep (h : St w0 w fb tb v cb cg nb nv m q most pairs names t) {q' : Cnt} (hm : Met w' m q') {fq : List Nat} (hu : Upd fq w w') (h1 : ∀ x ∈ famFp fb nv nb, x ∉ fq) (h2 : ∀ x ∈ tabFp tb v cb cg, x ∉ fq) (h3 : ∀ x ∈ fq, x ∈ Met.fp m ∨ w0.heap.size ≤ x) :
    St w0 w' fb tb v cb cg nb nv m q' most pairs names t := ⟨h.fam.upd hu h1, h.tab.upd hu h2, hm, h.key, h.new, h.upd.trans hu h3⟩

/-- A name that the namespace has. -/
theorem St.setTurn (h : St w0 w fb tb v cb cg nb nv m q most pairs names t) (hp : Sp w0 w fb sb rb rv vals ver) (hs : s.size ≤ 200) {i : Nat} (hn : numOf names s = i) (hi : i < vals.length) (z : Int) :
    Calls Try.prog 38 #[.pointer (some ⟨sb, 0, none⟩), .string s, .int .i64 z] w fun e w' => e = .returned (.int .i64 0) ∧ ∃ ver', St w0 w' fb tb v cb cg nb nv m (t.findQ s (numOf names s) q) most pairs names t ∧ Sp w0 w' fb sb rb rv (vals.set i z) ver' := by
  have hz : rowAt t names vals s = i := by rw [h.key.rowAt, hn, if_pos (by omega)]
  refine (set_turn hp.blk hp.row h.fam h.tab h.met hs i hz hi z).mono ?_
  rintro e w1 ⟨rfl, hM, hS, hR, hu⟩
  refine ⟨rfl, _, h.keep hM hu (fun x hx hf => ?_) (fun x hx hf => ?_) (fun x hx => ?_), hS, hR, hp.new⟩
  · simp only [List.mem_cons, List.mem_append] at hf
    rcases hf with rfl | hf | hf
    · exact spc_ne_fam hp.blk h.fam hx
    · exact fam_ne_row h.fam hp.row x hx hf
    · exact h.met.ne_fam h.fam x hx hf
  · simp only [List.mem_cons, List.mem_append] at hf
    rcases hf with rfl | hf | hf
    · exact spc_ne_tab hp.blk h.tab hx
    · exact tab_ne_row h.tab hp.row x hx hf
    · exact h.met.ne_tab h.tab x hx hf
  · simp only [List.mem_cons, List.mem_append] at hx
    rcases hx with rfl | hx | hx
    · exact .inr (hp.new _ (by simp))
    · exact .inr (hp.new _ (List.mem_cons_of_mem _ hx))
    · exact .inl hx

/-- The next name in the common order. -/
theorem St.setOld (h : St w0 w fb tb v cb cg nb nv m q most pairs names t) (hp : Sp w0 w fb sb rb rv vals ver) (hs : s.size ≤ 200) (hn : names[vals.length]? = some s) (hroom : (vals.length : Int) < pairs) (hl : names.length ≤ 1048576) (z : Int) :
    Calls Try.prog 38 #[.pointer (some ⟨sb, 0, none⟩), .string s, .int .i64 z] w fun e w' => e = .returned (.int .i64 0) ∧ ∃ rv' ver', St w0 w' fb tb v cb cg nb nv m ((t.findQ s (numOf names s) q).add 2 1) most pairs names t ∧ Sp w0 w' fb sb rb rv' (vals ++ [z]) ver' ∧ Upd (sb :: (rowFp rb rv ++ Met.fp m)) w w' := by
  have hnum := numOf_at h.key.nodup hn
  have hlt : vals.length < names.length := (List.getElem?_eq_some_iff.1 hn).1
  have hz : rowAt t names vals s = -1 := by rw [h.key.rowAt, hnum, if_neg (by omega)]
  have hk : (entOf t.es (vals.length : Int)).key = numOf names s := by rw [(h.key.ent _ _ hn).2.1, hnum]
  refine (set_old hp.blk hp.row h.fam h.tab h.met hs hz hroom h.key.all (by rw [h.key.len]; exact hlt) hk (by omega) z).mono ?_
  rintro e w1 ⟨rfl, hS, ⟨⟨rv', hR, hRf⟩, hM⟩, hu⟩
  have hz0 := h.upd.size
  refine ⟨rfl, rv', _, h.keep hM hu (fun x hx hf => ?_) (fun x hx hf => ?_) (fun x hx => ?_), ⟨hS, hR, fun x hx => ?_⟩, hu⟩
  · simp only [List.mem_cons, List.mem_append] at hf
    rcases hf with rfl | hf | hf
    · exact spc_ne_fam hp.blk h.fam hx
    · exact fam_ne_row h.fam hp.row x hx hf
    · exact h.met.ne_fam h.fam x hx hf
  · simp only [List.mem_cons, List.mem_append] at hf
    rcases hf with rfl | hf | hf
    · exact spc_ne_tab hp.blk h.tab hx
    · exact tab_ne_row h.tab hp.row x hx hf
    · exact h.met.ne_tab h.tab x hx hf
  · simp only [List.mem_cons, List.mem_append] at hx
    rcases hx with rfl | hx | hx
    · exact .inr (hp.new _ (by simp))
    · exact .inr (hp.new _ (List.mem_cons_of_mem _ hx))
    · exact .inl hx
  · rcases List.mem_cons.1 hx with rfl | hx
    · exact hp.new _ (by simp)
    · rcases hRf x hx with h1 | h1
      · exact hp.new x (List.mem_cons_of_mem _ h1)
      · omega
end Go.Proofs.Ytnaeehnnjhklbaa
