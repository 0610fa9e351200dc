/-
  The list of statuses: what the condition gives the walks; a start that meets it.
-/
import Derived.Test.YtibegbmehpggbaaDoorRows
import Derived.Test.YtibegbmehpggbaaDoorAnsW
import Derived.LaidMore
import Derived.Stop.Joined
import Derived.OpenShut
import Derived.ProofKit
namespace Go.Proofs.YtibegbmehpggbaaDoor
open Go.ChangeShapes Go.WideShapes Go.ChangeAt Go.RowKit Go.Mem
set_option linter.unusedVariables false
abbrev laidL {H : Type} : List (String × DataW H) := [("inquest/wire.codes", Rows.laid_inquest_wire_codes)]
theorem gCodes : Tryd.prog.globalNamed "inquest/wire.codes" = some 0 := by kernel_rfl
theorem tCodes : (Tryd.prog.globals[0]?).map (·.type) = some 42 := by kernel_rfl
theorem door_met (os : Os) (args : Array Value) : laidMetH Tryd.prog laidL ((World.doorLaid Tryd.prog 14 os).forCall (fun _ _ => 0) ⟨#[], args, []⟩).memory :=
  laidMetH_of_parts3 (fuel := 8) (laidMet_of_run' 8 (by kernel_rfl) (by kernel_rfl)) (by kernel_rfl) (by kernel_rfl)
theorem laid_is {H : Type} : (Rows.laid_inquest_wire_codes : DataW H) = .slice (Ans.codes.map fun n => .lit (.int .i64 n)) [] := rfl
theorem of_laid {W : World} (h : laidMetH Tryd.prog laidL W) : ∃ b o c, CodesIn W b o c := by
  rw [MakeChecks.laidMetH_plain _ _ _ (by kernel_rfl)] at h
  obtain ⟨ps, ⟨g0, t0, cs0, f0, p0, q0, hg0, ht0, hv0, hd0, _⟩, _, _⟩ := h
  obtain rfl := Option.some.inj (gCodes.symm.trans hg0)
  obtain rfl := Option.some.inj (tCodes.symm.trans ht0)
  rw [laid_is] at hd0
  obtain ⟨a, cap, hcs, hle, hel⟩ := open_row Tryd.underlying42 (by kernel_rfl) hd0
  have cells : ∀ (k : Nat) (x : Int), Ans.codes[k]? = some x → W.cell? (a.add k) = some (.int .i64 x) := by
    intro k x hx
    obtain ⟨v, n, q, hc, ht⟩ := hel k (.lit (.int .i64 x)) (by rw [List.getElem?_map, hx]; rfl)
    obtain ⟨z, e1, e2, _⟩ := DataW.trod_int Tryd.underlying3 ht
    have e3 : v = .int .i64 z := by simpa using e1
    have e4 : z = x := by have := congrArg Prod.fst e2; simpa using this.symm
    rw [hc, e3, e4]
  have hcell : W.cell? ⟨0, 0, none⟩ = some (.slice (some a) 12 cap) := by
    have := World.var?_cell hg0 hv0 0
    rw [Array.eq_one_of_toList hcs] at this
    simpa [show Ans.codes.length = 12 from rfl] using this
  have hs : a.spot = none := by
    have := World.cell?_spot (cells 0 200 rfl)
    simpa [Addr.add] using this
  obtain ⟨b, o, sp⟩ := a
  simp only at hs
  subst hs
  refine ⟨b, o, cap, hcell, fun k x hx => ?_⟩
  have := cells k x hx
  rwa [Addr.add_mid] at this
end Go.Proofs.YtibegbmehpggbaaDoor
