/- The walk of plays. -/
import Derived.Test.YtnaeehnnjhklbaaCellsPlays
import Derived.Deep.RegionHeld3
set_option linter.unusedVariables false
namespace Go.Proofs.Ytnaeehnnjhklbaa
open Go.RowKit

/-- The cells and the document's own, with the same in them. -/
structure Both (w : World) (b g r L : Nat) (f : Nat → Int) : Prop where
  cc : CellsAt w b g L f
  rr : RefAt w r L f
  nb : r ≠ b
  ng : r ≠ g
theorem Both.upd {w w' : World} {b g r L : Nat} {f : Nat → Int} {fp : List Nat} (h : Both w b g r L f) (hu : Upd fp w w') (hb : b ∉ fp) (hg : g ∉ fp) (hr : r ∉ fp) : Both w' b g r L f :=
  ⟨h.cc.upd hu hb hg, h.rr.upd hu hr, h.nb, h.ng⟩

set_option maxHeartbeats 2000000 in
theorem plays_any {b g r L : Nat} {f : Nat → Int} (a : Option Addr) (len cap : Nat) (l : List (Int × Int)) (w : World) (hl : IsSteps w a len l) (hlen3 : len ≤ 300) (hsep : l = [] ∨ ∀ p ∈ a, p.block ≠ g ∧ p.block ≠ r) (h : Both w b g r L f) :
    Calls Try.prog 52 #[.pointer (some ⟨b, 0, none⟩), refV r L (2 ^ L), .slice a len cap] w fun e w' => e = .returned (.bool true) ∧ (∃ f', Both w' b g r L f') ∧ Upd [g, r] w w' := by
  obtain ⟨hlen, hmax, hl, _⟩ := hl
  have hi := h.cc.hi
  have lo := h.cc.lo
  have hgb := h.cc.ne
  have hrl := World.rowIs.lt h.rr
  have hgl := World.rowIs.lt h.cc.r
  have hb := Blk.new w 94 [.int .i64 L, .slice (some ⟨r, 0, none⟩) (2 ^ L : Nat) (2 ^ L : Nat)]
  have hu := (Upd.refl [g, r] w).alloc (.cells #[.int .i64 L, .slice (some ⟨r, 0, none⟩) (2 ^ L : Nat) (2 ^ L : Nat)] 94)
  have H := Lib.hid (h.upd ((Upd.refl [] w).alloc (.cells #[.int .i64 L, .slice (some ⟨r, 0, none⟩) (2 ^ L : Nat) (2 ^ L : Nat)] 94)) (by simp) (by simp) (by simp))
  have hnb := h.nb
  have hng := h.ng
  clear h
  go_enter Try.func52, Try.ntmps52
  go_wp2_with fail
  obtain ⟨B, hB⟩ : ∃ B, B = w.heap.size := ⟨_, rfl⟩
  rw [← hB] at hb hrl hgl ⊢
  generalize w.alloc _ = W at *
  have HB := Lib.hid hB
  clear hB
  go_loopw [7] (fun i wr => ∃ (k : Nat), k ≤ len ∧ i = .int .i64 k ∧ Blk wr B 94 [.int .i64 L, .slice (some ⟨r, 0, none⟩) (2 ^ L : Nat) (2 ^ L : Nat)] ∧ Hid (∃ f', Both wr b g r L f') ∧ Upd [g, r] w wr)
    (fun i _ => len - (intOf i).toNat)
  case atStart => exact ⟨0, Nat.zero_le _, rfl, hb, Lib.hid ⟨_, H.out⟩, hu⟩
  case round =>
    obtain ⟨k, hk, rfl, hb', H', hur⟩ := hrel
    clear H hb hu
    obtain ⟨f', hf'⟩ := H'.out
    have H := Lib.hid hf'
    clear H' hf'
    by_cases hlt : k < len
    · rcases hl with rfl | ⟨bs, off, rfl, hbs, hcell⟩
      · simp at hlen; omega
      obtain ⟨x0, x1⟩ := hcell k (by omega)
      rcases hsep with rfl | hsep
      · simp at hlen; omega
      obtain ⟨s1, s2⟩ := hsep _ rfl
      have s1 : bs ≠ g := s1
      have s2 : bs ≠ r := s2
      have hk0 := hur.block bs hbs (by simp; omega)
      have y0 : wr.cell? ⟨bs, off + k * 2, none⟩ = w.cell? ⟨bs, off + k * 2, none⟩ := by simp [World.cell?, hk0]
      have y1 : wr.cell? ⟨bs, off + k * 2 + 1, none⟩ = w.cell? ⟨bs, off + k * 2 + 1, none⟩ := by simp [World.cell?, hk0]
      rw [x0] at y0
      rw [x1] at y1
      generalize l[k].1 = x at y0
      generalize l[k].2 = v at y1
      clear x0 x1 hcell hlen hk0 s1 s2 hsep
      go_wp2_with fail
      have hsz := hur.size
      have hX := (Blk.new wr 107 [.int .i64 x, .int .i64 v]).drew
      have hT := (hb'.alloc (.cells #[.int .i64 x, .int .i64 v] 107)).drew
      have hU := (hur.alloc (.cells #[.int .i64 x, .int .i64 v] 107)).drew
      have HC := Lib.hid (H.out.upd ((Upd.refl [] wr).alloc (.cells #[.int .i64 x, .int .i64 v] 107)).drew (by simp) (by simp) (by simp))
      have hgx : g ≠ wr.heap.size := by have := HB.out; omega
      have hrx : r ≠ wr.heap.size := by have := HB.out; omega
      obtain ⟨X, hX0⟩ : ∃ X, X = wr.heap.size := ⟨_, rfl⟩
      rw [← hX0] at hX hgx hrx ⊢
      clear H hX0
      generalize wr.alloc _ = W1 at *
      have c0 := hX.cell (i := 0) rfl
      have c1 := hX.cell (i := 1) rfl
      have d0 := hT.cell (i := 0) rfl
      have d1 := hT.cell (i := 1) rfl
      have hgB : g ≠ B := by omega
      have hrB : r ≠ B := by omega
      go_region_held3 (fun w' => w'.cell? ⟨X, 0, none⟩ = some (.int .i64 x) ∧ w'.cell? ⟨X, 1, none⟩ = some (.int .i64 v) ∧ w'.cell? ⟨B, 0, none⟩ = some (.int .i64 L) ∧ w'.cell? ⟨B, 1, none⟩ = some (.slice (some ⟨r, 0, none⟩) (2 ^ L : Nat) (2 ^ L : Nat)))
        (first | exact ⟨c0, c1, d0, d1⟩ | exact ⟨e0, e1, g0, g1⟩ | exact ⟨i0, i1, j0, j1⟩)
        (first
        | (go_at_call 56
           refine (HC.out.cc.set_any x v).mono ?_
           rintro e w1 ⟨rfl, h1, hu1⟩
           have H1 := Lib.hid h1
           have R1 := Lib.hid (HC.out.rr.upd hu1 (by simpa using hng))
           have hX1 := hX.upd hu1 (by simp; omega)
           have hT1 := hT.upd hu1 (by simp; omega)
           have hU1 := hU.then (hu1.mono (by simp))
           have e0 := hX1.cell (i := 0) rfl
           have e1 := hX1.cell (i := 1) rfl
           have g0 := hT1.cell (i := 0) rfl
           have g1 := hT1.cell (i := 1) rfl)
        | (go_at_call 94
           refine (refSet_any R1.out lo hi x v).mono ?_
           rintro e w2 ⟨rfl, h2, hu2⟩
           have H2 := Lib.hid (Both.mk (H1.out.upd hu2 (by simp; omega) (by simp; omega)) h2 hnb hng)
           have hX2 := hX1.upd hu2 (by simp; omega)
           have hT2 := hT1.upd hu2 (by simp; omega)
           have hU2 := hU1.then (hu2.mono (by simp))
           have i0 := hX2.cell (i := 0) rfl
           have i1 := hX2.cell (i := 1) rfl
           have j0 := hT2.cell (i := 0) rfl
           have j1 := hT2.cell (i := 1) rfl))
      clear hX hT hU HC c0 c1 d0 d1 h1 hu1 H1 R1 hX1 hT1 hU1 e0 e1 g0 g1 h2 hu2
      go_wp2_with (first
        | (go_at_call 60
           refine (H2.out.cc.get_any x).mono ?_
           rintro e w3 ⟨rfl, hu3⟩
           have H3 := Lib.hid (H2.out.upd hu3 (by simp) (by simp) (by simp))
           have hX3 := hX2.upd hu3 (by simp)
           have hT3 := hT2.upd hu3 (by simp)
           have hU3 := hU2.nil hu3
           have k0 := hX3.cell (i := 0) rfl
           have k1 := hX3.cell (i := 1) rfl
           have m0 := hT3.cell (i := 0) rfl
           have m1 := hT3.cell (i := 1) rfl)
        | (go_at_call 95
           refine (refGet_any H3.out.rr lo hi x).mono ?_
           rintro e w4 ⟨rfl, hu4⟩
           have H4 := Lib.hid (H3.out.upd hu4 (by simp) (by simp) (by simp))
           have hT4 := hT3.upd hu4 (by simp)
           have hU4 := hU3.nil hu4))
      go_roundw
      case rel => exact ⟨k + 1, by omega, by go_num, hT4, Lib.hid ⟨_, H4.out⟩, hU4⟩
      case measure => simp [intOf]; omega
    · have d0 := hb'.cell (i := 0) rfl
      have d1 := hb'.cell (i := 1) rfl
      go_wp2_with (first
        | (go_at_call 51
           refine (alike_any H.out.cc r).mono ?_
           rintro e w3 ⟨rfl, hu3⟩))
      go_ret
      exact ⟨rfl, ⟨_, H.out.upd hu3 (by simp) (by simp) (by simp)⟩, hur.nil hu3⟩
end Go.Proofs.Ytnaeehnnjhklbaa
