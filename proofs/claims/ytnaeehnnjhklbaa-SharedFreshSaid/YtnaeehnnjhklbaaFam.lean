/- The walk of a family's small functions: number, begin. -/
import Derived.Test.YtnaeehnnjhklbaaNums
import Derived.Test.YtnaeehnnjhklbaaAdd
set_option linter.unusedVariables false
namespace Go.Proofs.Ytnaeehnnjhklbaa
open Go.RowKit Go.MapKept Go.ChangeMaps

structure Fam where
  most : Int
  pairs : Int
  keys : Tab
  names : List ByteArray

abbrev famL (most pairs : Int) (m : Option Addr) (tb : Nat) (nv : Value) (nb : Nat) : List Value := [.int .i64 most, .int .i64 pairs, .pointer m, .pointer (some ⟨tb, 0, none⟩), nv, .map (some nb)]
/-- A family's own blocks, its key table aside. -/
structure FamB (w : World) (fb : Nat) (m : Option Addr) (tb : Nat) (nv : Value) (nb : Nat) (most pairs : Int) (names : List ByteArray) : Prop where
  blk : Blk w fb 58 (famL most pairs m tb nv nb)
  row : w.ownsRow 0 9 1 nv names.length (names.map .string)
  num : NumAt w nb names
  nodup : names.Nodup
  small : ∀ s ∈ names, s.size ≤ 200
def famFp (fb : Nat) (nv : Value) (nb : Nat) : List Nat := fb :: nb :: nv.ownBlock.toList
variable {w w' : World} {fb : Nat} {m : Option Addr} {tb : Nat} {nv : Value} {nb : Nat} {most pairs : Int} {names : List ByteArray}
theorem FamB.upd (h : FamB w fb m tb nv nb most pairs names) {fq : List Nat} (hu : Upd fq w w') (hd : ∀ x ∈ famFp fb nv nb, x ∉ fq) : FamB w' fb m tb nv nb most pairs names where
  blk := h.blk.upd hu (hd fb (by simp [famFp]))
  row := ownsRow_keep h.row hu (fun k hk => hd k (by simp [famFp, hk]))
  num := h.num.upd hu (hd nb (by simp [famFp]))
  nodup := h.nodup
  small := h.small
theorem FamB.lt (h : FamB w fb m tb nv nb most pairs names) : ∀ x ∈ famFp fb nv nb, x < w.heap.size := by
  intro x hx
  simp only [famFp, List.mem_cons, Option.mem_toList] at hx
  rcases hx with rfl | rfl | hx
  · exact h.blk.lt
  · exact h.num.lt
  · obtain ⟨cur, hg⟩ := own_block h.row hx
    exact (Array.getElem?_eq_some_iff.1 hg).1

theorem lit_inj {a b : Int} (h : (DataW.lit (.int .i64 a) : DataW Unit) = .lit (.int .i64 b)) : a = b := by
  simp only [DataW.lit.injEq, Lit.int.injEq, true_and] at h; exact h
set_option maxRecDepth 100000 in
theorem number_any (h : FamB w fb m tb nv nb most pairs names) {s : ByteArray} (hs : s.size ≤ 200) :
    Calls Try.prog 124 #[.pointer (some ⟨fb, 0, none⟩), .string s] w fun e w' => e = .returned (.int .i64 (numOf names s)) ∧ w = w' := by
  obtain ⟨D, ho, hk⟩ := h.num
  have c5 := h.blk.cell (i := 5) rfl
  have hkey := keyS_key hs
  have hn := h.nodup
  obtain ⟨B, hB⟩ : ∃ B, B = Go.Maps.has D (keyS s) := ⟨_, rfl⟩
  obtain ⟨z, hz⟩ : ∃ z, z = numOf names s := ⟨_, rfl⟩
  have HC : Hid (∀ c : Int, D.atKey (keyS s) (.lit (.int .i64 0)) = .lit (.int .i64 c) → (B = true → c = z) ∧ (B = false → z = -1)) := Lib.hid (fun c hc => by
    rcases numOf_spec names s with ⟨h1, h2⟩ | ⟨i, h1, h2⟩
    · refine ⟨fun hb => ?_, fun _ => by rw [hz, h1]⟩
      rw [hB] at hb
      exact absurd ((hk.has s).1 hb) h2
    · refine ⟨fun _ => ?_, fun hb => ?_⟩
      · rw [hk.at_ i s h2] at hc
        rw [hz, h1]
        exact (lit_inj hc).symm
      · rw [hB] at hb
        have := (hk.has s).2 (List.mem_of_getElem? h2)
        rw [hb] at this; cases this)
  clear hk hn h
  go_enter Try.func124, Try.ntmps124
  go_wp2_with (at_lookup; refine wpList_lookup_own_ok_int _ rfl _ _ 56 rfl 9 3 .i64 strK Try.underlying56 Try.underlying3 (zeroI _) nb names.length D rfl ho _ _ rfl hkey ?_; intro c hat hwc)
  · rename_i hh
    obtain ⟨h1, h2⟩ := HC.out c hat
    have e := h2 (by rw [hB]; simpa using hh)
    rw [hz] at e
    go_ret
    exact ⟨by rw [e]; rfl, rfl⟩
  · rename_i hh
    obtain ⟨h1, h2⟩ := HC.out c hat
    have e := h1 (by rw [hB]; simpa using hh)
    rw [hz] at e
    go_ret
    exact ⟨by rw [e]; rfl, rfl⟩
end Go.Proofs.Ytnaeehnnjhklbaa
