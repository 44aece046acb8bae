/- A drawn region whose operations only read and whose callees read or make new blocks: one walk serves every order. -/
import Derived.Test.YtnaeehnnjhklbaaBase
import Derived.BigQuiet
namespace Go.Proofs.Ytnaeehnnjhklbaa
open Go.RowKit Go.BigFrame

theorem wp_region_calm {P : Program} {id : Nat} {Q : Exit → Act → World → Prop} {a : Act} {w : World} {l : List Oper} (hm : P.follows .mixedOrders = true) (hB : Region.lexB .any l.toArray = true)
    (h : wpQuiet P l.toArray (Upd [] w) (fun a' => ∀ w', Upd [] w w' → Q .normal a' w') l a) : (Code.region id l.toArray true).wp P Q a w :=
  wp_region_quiet (C := Upd [] w) hm hB (Upd.refl _ _).drew (by simpa using h)

theorem quiet_ex {P : Program} {o : Oper} {a : Act} {C : World → Prop} {K : Act → Prop}
    (h : ∃ v, (∀ w, C w → Oper.quietUpon P C w v ((execOp a.eval o).run P w)) ∧ K (a.put o.dst v)) : o.quiet P a C K := h

/-- A call's contract, met in a world of the class. -/
theorem Calls.calm {P : Program} {f : FuncId} {args : Array Value} {W w : World} {v : Value} (hw : Upd [] W w)
    (h : Calls P f args w fun e w' => e = .returned v ∧ Upd [] w w') : Calls P f args w fun e w' => e = .returned v ∧ Upd [] W w' :=
  h.mono fun _ _ ⟨he, hu⟩ => ⟨he, hw.then hu⟩
theorem Calls.calm_same {P : Program} {f : FuncId} {args : Array Value} {W w : World} {v : Value} (hw : Upd [] W w)
    (h : Calls P f args w fun e w' => e = .returned v ∧ w = w') : Calls P f args w fun e w' => e = .returned v ∧ Upd [] W w' :=
  h.mono fun _ _ ⟨he, hu⟩ => ⟨he, hu ▸ hw⟩
theorem Blk.later {w : World} {b : Nat} {T : TypeId} {c : List Value} (h : Blk w b T c) {i : Nat} {v : Value} (hv : c[i]? = some v) : ∀ w', Upd [] w w' → w'.cell? ⟨b, i, none⟩ = some v :=
  fun _ hu => (h.upd hu (by simp)).cell hv
end Go.Proofs.Ytnaeehnnjhklbaa
