/- The walk of unlike: names, each once. -/
import Derived.Test.YtnaeehnnjhklbaaStateMore
import Derived.Test.YtnaeehnnjhklbaaStrings
set_option linter.unusedVariables false
set_option maxRecDepth 100000
namespace Go.Proofs.Ytnaeehnnjhklbaa
open Go.RowKit Go.MapKept Go.ChangeMaps

def unlikeL (l : List ByteArray) : List ByteArray := l.foldl given []
theorem unlikeL_snoc (l : List ByteArray) (s : ByteArray) : unlikeL (l ++ [s]) = given (unlikeL l) s := by simp [unlikeL]
theorem given_mem {o : List ByteArray} {s x : ByteArray} : x ∈ given o s ↔ x ∈ o ∨ x = s := by
  unfold given
  split
  · simp
  · rename_i h
    rcases numOf_spec o s with ⟨h1, _⟩ | ⟨i, _, h2⟩
    · omega
    · exact ⟨.inl, fun hx => hx.elim id (fun e => e ▸ List.mem_of_getElem? h2)⟩
theorem given_nodup {o : List ByteArray} {s : ByteArray} (h : o.Nodup) : (given o s).Nodup := by
  unfold given
  split
  · rename_i h1
    exact List.nodup_append.2 ⟨h, by simp, fun a ha c hc e => by simp at hc; subst hc; exact numOf_lt h1 (e ▸ ha)⟩
  · exact h
theorem given_len {o : List ByteArray} {s : ByteArray} : (given o s).length ≤ o.length + 1 := by
  unfold given
  split <;> simp
theorem unlikeL_nodup (l : List ByteArray) : ∀ o : List ByteArray, o.Nodup → (l.foldl given o).Nodup := by
  induction l with
  | nil => exact fun o h => h
  | cons s l ih => exact fun o h => ih _ (given_nodup h)
theorem unlikeL_mem (l : List ByteArray) : ∀ (o : List ByteArray) (x : ByteArray), x ∈ l.foldl given o → x ∈ o ∨ x ∈ l := by
  induction l with
  | nil => exact fun o x h => .inl h
  | cons s l ih =>
    intro o x h
    rcases ih _ x h with h | h
    · rcases given_mem.1 h with h | h
      · exact .inl h
      · exact .inr (by simp [h])
    · exact .inr (by simp [h])
theorem unlikeL_len (l : List ByteArray) : ∀ o : List ByteArray, (l.foldl given o).length ≤ o.length + l.length := by
  induction l with
  | nil => intro o; simp
  | cons s l ih =>
    intro o
    have := ih (given o s)
    have := given_len (o := o) (s := s)
    simp only [List.foldl_cons, List.length_cons]
    omega

def Unl (w : World) (l : List ByteArray) (o : Value) (w' : World) : Prop := w'.ownsRow w.heap.size 9 1 o (unlikeL l).length ((unlikeL l).map .string) ∧ Upd [] w w'
set_option maxHeartbeats 2000000 in
theorem unlike_any (w : World) (a : Option Addr) (len cap : Nat) (l : List ByteArray) (h : IsNames w a len l) (hs : l.length ≤ 60) :
    Calls Try.prog 63 #[.slice a len cap] w fun e w' => ∃ o, e = .returned o ∧ Unl w l o w' := by
  obtain ⟨rfl, hm, hc, hwf⟩ := h
  obtain ⟨n, hn⟩ : ∃ n, n = l.length := ⟨_, rfl⟩
  have HN := Lib.hid hn
  have HC := Lib.hid hc
  have H0 : Hid (Unl w (l.take 0) (.slice none 0 0) w) := Lib.hid ⟨World.ownsRow_nil _ _ _ _, Upd.refl _ _⟩
  obtain ⟨i0, hi0, hz0, hz1, hz2⟩ := info_parts infoStr
  rw [← hn] at hs ⊢
  clear hn hc hwf hm
  go_enter Try.func63, Try.ntmps63
  go_wp2_with fail
  go_loopw [3, 4] (fun o i wr => ∃ k : Nat, k ≤ n ∧ i = .int .i64 k ∧ Hid (Unl w (l.take k) o wr)) (fun _ i _ => n - (intOf i).toNat)
  case atStart => exact ⟨0, Nat.zero_le _, rfl, H0⟩
  case round =>
    obtain ⟨k, hkn, rfl, HO⟩ := hrel
    clear H0
    by_cases hlt : k < n
    · have hli : (k : Int) < (n : Int) := by omega
      have hkl : k < l.length := by rw [← HN.out]; exact hlt
      rcases HC.out with h0 | ⟨b, off, rfl, hb, hcell⟩
      · exfalso; rw [h0] at hkl; simp at hkl
      have hck := hcell k hkl
      have HSN : Hid (unlikeL (l.take (k + 1)) = given (unlikeL (l.take k)) l[k]) := Lib.hid (by
        rw [List.take_add_one, List.getElem?_eq_getElem hkl]; exact unlikeL_snoc _ _)
      have hlen : (unlikeL (l.take k)).length ≤ 60 := by
        have := unlikeL_len (l.take k) []
        have h2 := List.length_take_le k l
        unfold unlikeL
        simp at this
        omega
      obtain ⟨oa, oc, ho⟩ := own_shape HO.out.1
      generalize l[k] = s at *
      obtain ⟨out, hout⟩ : ∃ out, out = unlikeL (l.take k) := ⟨_, rfl⟩
      have HOUT := Lib.hid hout
      rw [← hout] at ho hlen HSN
      subst ho
      have HR : Hid (wr.ownsRow w.heap.size 9 1 (.slice oa out.length oc) out.length (out.map .string)) := Lib.hid (by rw [hout]; rw [hout] at HO; exact HO.out.1)
      have HU : Hid (Upd [] w wr) := Lib.hid HO.out.2
      clear hout HO hcell
      go_wp2_with fail
      go_loopw [5, 6] (fun f j wr2 => ∃ (j0 : Nat) (nb : Bool), j0 ≤ out.length ∧ j = .int .i64 j0 ∧ f = .bool nb ∧ Hid (nb = true ↔ s ∉ out.take j0) ∧ Hid (Upd [] wr wr2)) (fun _ j _ => out.length - (intOf j).toNat)
      case atStart => exact ⟨0, true, Nat.zero_le _, rfl, rfl, Lib.hid (by simp), Lib.hid (Upd.refl _ _)⟩
      case round =>
        obtain ⟨j, nb, hj, rfl, rfl, hnb, hu2⟩ := hrel
        have hR2 := own_keep HR.out hu2.out (fun _ _ => by simp)
        have hU2 := HU.out.then hu2.out
        have hcs : ∀ w', Upd [] wr w' → w'.cell? ⟨b, off + k, none⟩ = some (.string s) := fun w' h => ((hU2.then h).below.cell (p := ⟨b, off + k, none⟩) hb).trans hck
        by_cases hjl : j < out.length
        · have hji : (j : Int) < (out.length : Int) := by omega
          obtain ⟨g, gc, hv, _⟩ := own_some hR2 (by omega)
          have hga : oa = some ⟨g, 0, none⟩ := by injection hv
          subst hga
          have hco : ∀ w', Upd [] wr w' → w'.cell? ⟨g, j, none⟩ = some (.string out[j]) := fun w' h => StrAt.cell (own_keep hR2 h (fun _ _ => by simp)) hjl
          have htk : out.take (j + 1) = out.take j ++ [out[j]] := by rw [List.take_add_one, List.getElem?_eq_getElem hjl]; rfl
          have HTK := Lib.hid htk
          clear htk hv
          generalize out[j] = y at *
          have hbe := Lib.hid (bytes_eq y s)
          cases nb
          · have hn2 : Hid (false = true ↔ s ∉ out.take (j + 1)) := Lib.hid (by
              have := hnb.out
              rw [HTK.out]
              simp at this ⊢
              exact fun h => absurd this h)
            go_wp2_with fail
            refine wp_region_calm (by kernel_rfl) (by kernel_rfl) ?_
            repeat (first | go_big_quiet_skip | (go_big_quiet_want; refine quiet_ex ?_; apply Exists.intro; refine ⟨fun wq hwq => ?_, ?_⟩; ((try go_simp); first | exact rfl | (fail)); ((try go_simp); go_big_quiet_on)))
            refine wpQuiet_nil ?_
            intro wq hwq
            have hu3 := Lib.hid (hu2.out.then hwq)
            clear hcs hco hwq
            go_wp2_with fail
            go_roundw
            case rel => exact ⟨j + 1, false, by omega, by go_num, rfl, hn2, hu3⟩
            case measure => simp [intOf]; omega
          · have hn2 : Hid ((!(y.toList == s.toList)) = true ↔ s ∉ out.take (j + 1)) := Lib.hid (by
              have := hnb.out
              rw [HTK.out, hbe.out]
              simp at this ⊢
              exact ⟨fun h => ⟨this, fun e => h e.symm⟩, fun h e => h.2 e.symm⟩)
            go_wp2_with fail
            refine wp_region_calm (by kernel_rfl) (by kernel_rfl) ?_
            repeat (first | go_big_quiet_skip | (go_big_quiet_want; refine quiet_ex ?_; apply Exists.intro; refine ⟨fun wq hwq => ?_, ?_⟩; ((try go_simp); first | exact rfl | (fail)); ((try go_simp); go_big_quiet_on)))
            refine wpQuiet_nil ?_
            intro wq hwq
            have hu3 := Lib.hid (hu2.out.then hwq)
            clear hcs hco hwq
            go_wp2_with fail
            go_roundw
            case rel => exact ⟨j + 1, _, by omega, by go_num, rfl, hn2, hu3⟩
            case measure => simp [intOf]; omega
        · obtain rfl : j = out.length := by omega
          have hnb2 := hnb.out
          rw [List.take_length] at hnb2
          have HNB := Lib.hid hnb2
          have hc0 := hcs _ (Upd.refl _ _)
          clear hnb2 hcs
          cases nb
          · have hg : given out s = out := by
              unfold given
              rw [if_neg]
              intro h
              have := HNB.out.2 (numOf_lt h)
              cases this
            have HE : Hid (Unl w (l.take (k + 1)) (.slice oa out.length oc) wr) := Lib.hid (by unfold Unl; rw [HSN.out, hg]; exact ⟨hR2, hU2⟩)
            clear hR2 hU2 hg
            go_wp2_with fail
            go_roundw
            case rel => exact ⟨k + 1, by omega, by go_num, HE⟩
            case measure => simp [intOf]; omega
          · have hg : given out s = out ++ [s] := by
              unfold given
              rw [if_pos (by rw [numOf_none (HNB.out.1 rfl)]; omega)]
            have HG := Lib.hid hg
            have HR2 := Lib.hid hR2
            have HU2 := Lib.hid hU2
            clear hg hR2 hU2
            go_wp2_with (at_builtin; refine wpList_append_own _ rfl _ _ 55 rfl w.heap.size 9 i0 _ 1 16 Try.underlying55 hi0 hz0 hz1 hz2 rfl (by decide) _ _ _ rfl (HR2.out.alloc _) ⟨wr.heap.size, 0, none⟩ 1 1 [.string s] rfl rfl ?c1 ?c2 ?c3 ?c4 ?c5 ?_)
            try (case c1 => exact cell_one_new _ _ _)
            case c2 => first | rfl | (intro u hu; simp at hu; subst hu; rfl)
            case c3 => unfold maxLen; omega
            case c4 => omega
            case c5 => have := HU2.out.size; first | omega | (simp; omega)
            intro v' w6 hown hgrow _
            have HE : Hid (Unl w (l.take (k + 1)) v' w6) := Lib.hid (by
              unfold Unl
              rw [HSN.out, HG.out, List.map_append, List.length_append]
              exact ⟨hown, (HU2.out.alloc _).grown hgrow (fun y hy => .inr (HR2.out.lt y hy).1)⟩)
            clear hown hgrow
            go_wp2_with fail
            go_roundw
            case rel => exact ⟨k + 1, by omega, by go_num, HE⟩
            case measure => simp [intOf]; omega
    · obtain rfl : k = n := by omega
      go_wp2_with fail
      go_ret
      have := HO.out
      rw [List.take_of_length_le (by rw [← HN.out]; exact Nat.le_refl _)] at this
      exact ⟨_, rfl, this⟩
end Go.Proofs.Ytnaeehnnjhklbaa
