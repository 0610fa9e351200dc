/-
  No cell of these rows narrows 'for every input' (looked for: loops, veiled, ifaces, maps, wideKeys, modest, calm, conditions, laid).
  DERIVED. THE GIVEN ROWS OF THIS SEAT. 8 by the template 'for every input the law returns true; each argument reads behind the call as it read before'; 0 by the template 'total and deterministic' (their statements: YtibegbmehpggbaaTotals.lean).
  GIVEN WITH THE SEED: the statements are not yours to turn. If you find one false, say at which input.
  Laid BY PROGRAM, IN A SANDBOX (cutbox-rows.mjs): the forced cells as the released guide's own fill.sh prints them over the translation 415d9e73202eca53… (all of the seat's roots in one cut). By AI agents, Wed Nov 11 2026. No macro, syntax, notation, axiom, sorry.
-/
import Derived.Test.YtibegbmehpggbaaChecked
import GoSem.Claim
import GoSem.ClaimJoined
import GoSem.ClaimMapViews
import Derived.JoinedTies
import Derived.KernelRfl
namespace Go.Proofs.Ytibegbmehpggbaa
/- THE CELL 'sum', in the pinned program and in every row, IS THE sha256 OF THE DUMP (.gsa) THAT YtibegbmehpggbaaProg.lean LOADS. Nothing in Lean hashes anything: it is a label: what it is worth is what the hold of that sum in a sandbox is worth. -/
noncomputable def Try.pinned : Pinned := { name := "ytibegbmehpggbaa", sum := "415d9e73202eca53084ee4eef80dddf4194d2cf0c84e47eba81841aaa387f4b6", checked := Try.checked }
namespace Rows
def none {H : Type} : Left H := { results := [], args := [] }

/-- 'inquestlaw13.WireReads': WHATEVER THE INPUT: true; the input reads as it did. -/
def wireReadsSpec : ChangeSpec := { name := "wireReads", fn := fun _ => fun
  | [d] => { results := [.lit (.bool true)], args := [d] }
  | _ => none }
def wireReadsRow : OpenClaim := { program := "ytibegbmehpggbaa", sum := "415d9e73202eca53084ee4eef80dddf4194d2cf0c84e47eba81841aaa387f4b6", func := "inquest/inquestlaw13.WireReads", spec := "wireReads", unfollowed := true, recurses := true, apart := false }
def WireReadsSaid : Prop := wireReadsRow.holds Try.pinned (OpenSpec.ofChange wireReadsSpec)

/-- ITS FALSE NEIGHBOUR: 'it returns false'. Refute it at one input. -/
def wireReadsWrong : ChangeSpec := { name := "wireReads", fn := fun _ => fun
  | [d] => { results := [.lit (.bool false)], args := [d] }
  | _ => none }
def WireReadsWrongFalsely : Prop := wireReadsRow.holds Try.pinned (OpenSpec.ofChange wireReadsWrong)

/-- 'inquestlaw13.WireCase': WHATEVER THE INPUT: true; the input reads as it did. -/
def wireCaseSpec : ChangeSpec := { name := "wireCase", fn := fun _ => fun
  | [d1, d2] => { results := [.lit (.bool true)], args := [d1, d2] }
  | _ => none }
def wireCaseRow : OpenClaim := { program := "ytibegbmehpggbaa", sum := "415d9e73202eca53084ee4eef80dddf4194d2cf0c84e47eba81841aaa387f4b6", func := "inquest/inquestlaw13.WireCase", spec := "wireCase", unfollowed := true, recurses := true, apart := false }
def WireCaseSaid : Prop := wireCaseRow.holds Try.pinned (OpenSpec.ofChange wireCaseSpec)

/-- ITS FALSE NEIGHBOUR: 'it returns false'. Refute it at one input. -/
def wireCaseWrong : ChangeSpec := { name := "wireCase", fn := fun _ => fun
  | [d1, d2] => { results := [.lit (.bool false)], args := [d1, d2] }
  | _ => none }
def WireCaseWrongFalsely : Prop := wireCaseRow.holds Try.pinned (OpenSpec.ofChange wireCaseWrong)

/-- 'inquestlaw13.WireSteps': WHATEVER THE INPUT: true; the input reads as it did. -/
def wireStepsSpec : ChangeSpec := { name := "wireSteps", fn := fun _ => fun
  | [d1, d2] => { results := [.lit (.bool true)], args := [d1, d2] }
  | _ => none }
def wireStepsRow : OpenClaim := { program := "ytibegbmehpggbaa", sum := "415d9e73202eca53084ee4eef80dddf4194d2cf0c84e47eba81841aaa387f4b6", func := "inquest/inquestlaw13.WireSteps", spec := "wireSteps", unfollowed := true, recurses := true, apart := false }
def WireStepsSaid : Prop := wireStepsRow.holds Try.pinned (OpenSpec.ofChange wireStepsSpec)

/-- ITS FALSE NEIGHBOUR: 'it returns false'. Refute it at one input. -/
def wireStepsWrong : ChangeSpec := { name := "wireSteps", fn := fun _ => fun
  | [d1, d2] => { results := [.lit (.bool false)], args := [d1, d2] }
  | _ => none }
def WireStepsWrongFalsely : Prop := wireStepsRow.holds Try.pinned (OpenSpec.ofChange wireStepsWrong)

/-- 'inquestlaw13.WireNobody': WHATEVER THE INPUT: true; the input reads as it did. -/
def wireNobodySpec : ChangeSpec := { name := "wireNobody", fn := fun _ => fun
  | [d] => { results := [.lit (.bool true)], args := [d] }
  | _ => none }
def wireNobodyRow : OpenClaim := { program := "ytibegbmehpggbaa", sum := "415d9e73202eca53084ee4eef80dddf4194d2cf0c84e47eba81841aaa387f4b6", func := "inquest/inquestlaw13.WireNobody", spec := "wireNobody", unfollowed := true, recurses := true, apart := false }
def WireNobodySaid : Prop := wireNobodyRow.holds Try.pinned (OpenSpec.ofChange wireNobodySpec)

/-- ITS FALSE NEIGHBOUR: 'it returns false'. Refute it at one input. -/
def wireNobodyWrong : ChangeSpec := { name := "wireNobody", fn := fun _ => fun
  | [d] => { results := [.lit (.bool false)], args := [d] }
  | _ => none }
def WireNobodyWrongFalsely : Prop := wireNobodyRow.holds Try.pinned (OpenSpec.ofChange wireNobodyWrong)

/-- 'inquestlaw13.WirePrints': WHATEVER THE INPUT: true; the input reads as it did. -/
def wirePrintsSpec : ChangeSpec := { name := "wirePrints", fn := fun _ => fun
  | [d] => { results := [.lit (.bool true)], args := [d] }
  | _ => none }
def wirePrintsRow : OpenClaim := { program := "ytibegbmehpggbaa", sum := "415d9e73202eca53084ee4eef80dddf4194d2cf0c84e47eba81841aaa387f4b6", func := "inquest/inquestlaw13.WirePrints", spec := "wirePrints", unfollowed := true, recurses := true, apart := false }
def WirePrintsSaid : Prop := wirePrintsRow.holds Try.pinned (OpenSpec.ofChange wirePrintsSpec)

/-- ITS FALSE NEIGHBOUR: 'it returns false'. Refute it at one input. -/
def wirePrintsWrong : ChangeSpec := { name := "wirePrints", fn := fun _ => fun
  | [d] => { results := [.lit (.bool false)], args := [d] }
  | _ => none }
def WirePrintsWrongFalsely : Prop := wirePrintsRow.holds Try.pinned (OpenSpec.ofChange wirePrintsWrong)

/-- 'inquestlaw13.WireBack': WHATEVER THE INPUT: true; the input reads as it did. -/
def wireBackSpec : ChangeSpec := { name := "wireBack", fn := fun _ => fun
  | [d1, d2, d3] => { results := [.lit (.bool true)], args := [d1, d2, d3] }
  | _ => none }
def wireBackRow : OpenClaim := { program := "ytibegbmehpggbaa", sum := "415d9e73202eca53084ee4eef80dddf4194d2cf0c84e47eba81841aaa387f4b6", func := "inquest/inquestlaw13.WireBack", spec := "wireBack", unfollowed := true, recurses := true, apart := false }
def WireBackSaid : Prop := wireBackRow.holds Try.pinned (OpenSpec.ofChange wireBackSpec)

/-- ITS FALSE NEIGHBOUR: 'it returns false'. Refute it at one input. -/
def wireBackWrong : ChangeSpec := { name := "wireBack", fn := fun _ => fun
  | [d1, d2, d3] => { results := [.lit (.bool false)], args := [d1, d2, d3] }
  | _ => none }
def WireBackWrongFalsely : Prop := wireBackRow.holds Try.pinned (OpenSpec.ofChange wireBackWrong)

/-- 'inquestlaw13.WireNext': WHATEVER THE INPUT: true; the input reads as it did. -/
def wireNextSpec : ChangeSpec := { name := "wireNext", fn := fun _ => fun
  | [d1, d2] => { results := [.lit (.bool true)], args := [d1, d2] }
  | _ => none }
def wireNextRow : OpenClaim := { program := "ytibegbmehpggbaa", sum := "415d9e73202eca53084ee4eef80dddf4194d2cf0c84e47eba81841aaa387f4b6", func := "inquest/inquestlaw13.WireNext", spec := "wireNext", unfollowed := true, recurses := true, apart := false }
def WireNextSaid : Prop := wireNextRow.holds Try.pinned (OpenSpec.ofChange wireNextSpec)

/-- ITS FALSE NEIGHBOUR: 'it returns false'. Refute it at one input. -/
def wireNextWrong : ChangeSpec := { name := "wireNext", fn := fun _ => fun
  | [d1, d2] => { results := [.lit (.bool false)], args := [d1, d2] }
  | _ => none }
def WireNextWrongFalsely : Prop := wireNextRow.holds Try.pinned (OpenSpec.ofChange wireNextWrong)

/-- 'inquestlaw23.RouteBack': WHATEVER THE INPUT: true; the input reads as it did. -/
def routeBackSpec : ChangeSpec := { name := "routeBack", fn := fun _ => fun
  | [d1, d2] => { results := [.lit (.bool true)], args := [d1, d2] }
  | _ => none }
def routeBackRow : OpenClaim := { program := "ytibegbmehpggbaa", sum := "415d9e73202eca53084ee4eef80dddf4194d2cf0c84e47eba81841aaa387f4b6", func := "inquest/inquestlaw23.RouteBack", spec := "routeBack", unfollowed := true, recurses := true, apart := false }
def RouteBackSaid : Prop := routeBackRow.holds Try.pinned (OpenSpec.ofChange routeBackSpec)

/-- ITS FALSE NEIGHBOUR: 'it returns false'. Refute it at one input. -/
def routeBackWrong : ChangeSpec := { name := "routeBack", fn := fun _ => fun
  | [d1, d2] => { results := [.lit (.bool false)], args := [d1, d2] }
  | _ => none }
def RouteBackWrongFalsely : Prop := routeBackRow.holds Try.pinned (OpenSpec.ofChange routeBackWrong)

/- THE SECOND FORM. 'bulk': how many values and letters a reading holds, each counted each time it is reached (what is shared counts as often as it is met; a slice's spare places count too). A statement '..UptoSaid' is the law's where the arguments, and the package variables that the reading takes, are together of bulk at most 1048576: NARROWER than '..Said'. Prove '..Said' where nothing that the law and all that it calls make is longer than what came in: it says more and counts as full. Else prove '..UptoSaid'. A law counts once. -/
mutual
def uptoBulk {H : Type} : DataW H → Nat
  | .lit (.string bytes) => bytes.length + 1
  | .lit _ => 1
  | .nil => 1
  | .ptr d => uptoBulk d + 1
  | .slice elems spare => uptoBulkAll elems + uptoBulkAll spare + 1
  | .agg parts => uptoBulkAll parts + 1
  | .iface _ d => uptoBulk d + 1
  | .map entries => uptoBulkEntries entries + 1
  | .held _ => 1
def uptoBulkAll {H : Type} : List (DataW H) → Nat
  | [] => 0
  | d :: r => uptoBulk d + uptoBulkAll r
def uptoBulkEntries {H : Type} : List (Lit × DataW H) → Nat
  | [] => 0
  | x :: r => uptoBulkEntry x + uptoBulkEntries r
def uptoBulkEntry {H : Type} : Lit × DataW H → Nat
  | (.string bytes, d) => bytes.length + uptoBulk d + 1
  | (_, d) => uptoBulk d + 1
 end
def uptoSmall : (H : Type) → List (DataW H) → Bool := fun _ ds => decide (uptoBulkAll ds ≤ 1048576)
def OpenSpec.upto (s : _root_.Go.ChangeSpec) : _root_.Go.OpenSpec := { _root_.Go.OpenSpec.ofChange s with cond := some uptoSmall }

/-- 'inquestlaw13.WireReads', WHERE WHAT IT READS IS OF BULK AT MOST 1048576: true; the input reads as it did. -/
def wireReadsUptoRow : OpenClaim := { program := "ytibegbmehpggbaa", sum := "415d9e73202eca53084ee4eef80dddf4194d2cf0c84e47eba81841aaa387f4b6", func := "inquest/inquestlaw13.WireReads", spec := "wireReads", unfollowed := true, recurses := true, apart := false, narrowed := true }
def WireReadsUptoSaid : Prop := wireReadsUptoRow.holds Try.pinned (OpenSpec.upto wireReadsSpec)

/-- 'inquestlaw13.WireCase', WHERE WHAT IT READS IS OF BULK AT MOST 1048576: true; the input reads as it did. -/
def wireCaseUptoRow : OpenClaim := { program := "ytibegbmehpggbaa", sum := "415d9e73202eca53084ee4eef80dddf4194d2cf0c84e47eba81841aaa387f4b6", func := "inquest/inquestlaw13.WireCase", spec := "wireCase", unfollowed := true, recurses := true, apart := false, narrowed := true }
def WireCaseUptoSaid : Prop := wireCaseUptoRow.holds Try.pinned (OpenSpec.upto wireCaseSpec)

/-- 'inquestlaw13.WireSteps', WHERE WHAT IT READS IS OF BULK AT MOST 1048576: true; the input reads as it did. -/
def wireStepsUptoRow : OpenClaim := { program := "ytibegbmehpggbaa", sum := "415d9e73202eca53084ee4eef80dddf4194d2cf0c84e47eba81841aaa387f4b6", func := "inquest/inquestlaw13.WireSteps", spec := "wireSteps", unfollowed := true, recurses := true, apart := false, narrowed := true }
def WireStepsUptoSaid : Prop := wireStepsUptoRow.holds Try.pinned (OpenSpec.upto wireStepsSpec)

/-- 'inquestlaw13.WireNobody', WHERE WHAT IT READS IS OF BULK AT MOST 1048576: true; the input reads as it did. -/
def wireNobodyUptoRow : OpenClaim := { program := "ytibegbmehpggbaa", sum := "415d9e73202eca53084ee4eef80dddf4194d2cf0c84e47eba81841aaa387f4b6", func := "inquest/inquestlaw13.WireNobody", spec := "wireNobody", unfollowed := true, recurses := true, apart := false, narrowed := true }
def WireNobodyUptoSaid : Prop := wireNobodyUptoRow.holds Try.pinned (OpenSpec.upto wireNobodySpec)

/-- 'inquestlaw13.WirePrints', WHERE WHAT IT READS IS OF BULK AT MOST 1048576: true; the input reads as it did. -/
def wirePrintsUptoRow : OpenClaim := { program := "ytibegbmehpggbaa", sum := "415d9e73202eca53084ee4eef80dddf4194d2cf0c84e47eba81841aaa387f4b6", func := "inquest/inquestlaw13.WirePrints", spec := "wirePrints", unfollowed := true, recurses := true, apart := false, narrowed := true }
def WirePrintsUptoSaid : Prop := wirePrintsUptoRow.holds Try.pinned (OpenSpec.upto wirePrintsSpec)

/-- 'inquestlaw13.WireBack', WHERE WHAT IT READS IS OF BULK AT MOST 1048576: true; the input reads as it did. -/
def wireBackUptoRow : OpenClaim := { program := "ytibegbmehpggbaa", sum := "415d9e73202eca53084ee4eef80dddf4194d2cf0c84e47eba81841aaa387f4b6", func := "inquest/inquestlaw13.WireBack", spec := "wireBack", unfollowed := true, recurses := true, apart := false, narrowed := true }
def WireBackUptoSaid : Prop := wireBackUptoRow.holds Try.pinned (OpenSpec.upto wireBackSpec)

/-- 'inquestlaw13.WireNext', WHERE WHAT IT READS IS OF BULK AT MOST 1048576: true; the input reads as it did. -/
def wireNextUptoRow : OpenClaim := { program := "ytibegbmehpggbaa", sum := "415d9e73202eca53084ee4eef80dddf4194d2cf0c84e47eba81841aaa387f4b6", func := "inquest/inquestlaw13.WireNext", spec := "wireNext", unfollowed := true, recurses := true, apart := false, narrowed := true }
def WireNextUptoSaid : Prop := wireNextUptoRow.holds Try.pinned (OpenSpec.upto wireNextSpec)

/-- 'inquestlaw23.RouteBack', WHERE WHAT IT READS IS OF BULK AT MOST 1048576: true; the input reads as it did. -/
def routeBackUptoRow : OpenClaim := { program := "ytibegbmehpggbaa", sum := "415d9e73202eca53084ee4eef80dddf4194d2cf0c84e47eba81841aaa387f4b6", func := "inquest/inquestlaw23.RouteBack", spec := "routeBack", unfollowed := true, recurses := true, apart := false, narrowed := true }
def RouteBackUptoSaid : Prop := routeBackUptoRow.holds Try.pinned (OpenSpec.upto routeBackSpec)

end Rows
end Go.Proofs.Ytibegbmehpggbaa
