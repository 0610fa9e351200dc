/-
  No cell of these rows narrows 'for every input' (looked for: loops, veiled, ifaces, maps, wideKeys, modest, calm, conditions, laid).
  DERIVED. THE GIVEN ROWS OF THIS SEAT. 9 by the template 'for every input the law returns true; each argument reads behind the call as it read before'; 0 by the template 'total and deterministic' (their statements: YtomnkdjlljobeaaTotals.lean).
  GIVEN WITH THE SEED: the statements are not yours to turn. If you find one false, say at which input.
  Laid BY PROGRAM, IN A SANDBOX (cutbox-rows.mjs): the forced cells as the released guide's own fill.sh prints them over the translation 029a25445936eedf… (all of the seat's roots in one cut). By AI agents, Wed Nov 11 2026. No macro, syntax, notation, axiom, sorry.
-/
import Derived.Test.YtomnkdjlljobeaaChecked
import GoSem.Claim
import GoSem.ClaimJoined
import GoSem.ClaimMapViews
import Derived.JoinedTies
import Derived.KernelRfl
namespace Go.Proofs.Ytomnkdjlljobeaa
/- THE CELL 'sum', in the pinned program and in every row, IS THE sha256 OF THE DUMP (.gsa) THAT YtomnkdjlljobeaaProg.lean LOADS. Nothing in Lean hashes anything: it is a label: what it is worth is what the hold of that sum in a sandbox is worth. -/
noncomputable def Try.pinned : Pinned := { name := "ytomnkdjlljobeaa", sum := "029a25445936eedfb4edc451d0a40905d4bc19fa574702248469c93ce6052710", checked := Try.checked }
namespace Rows
def none {H : Type} : Left H := { results := [], args := [] }

/-- 'inquestlaw12.ChunkReads': WHATEVER THE INPUT: true; the input reads as it did. -/
def chunkReadsSpec : ChangeSpec := { name := "chunkReads", fn := fun _ => fun
  | [d1, d2] => { results := [.lit (.bool true)], args := [d1, d2] }
  | _ => none }
def chunkReadsRow : OpenClaim := { program := "ytomnkdjlljobeaa", sum := "029a25445936eedfb4edc451d0a40905d4bc19fa574702248469c93ce6052710", func := "inquest/inquestlaw12.ChunkReads", spec := "chunkReads", apart := false }
def ChunkReadsSaid : Prop := chunkReadsRow.holds Try.pinned (OpenSpec.ofChange chunkReadsSpec)

/-- ITS FALSE NEIGHBOUR: 'it returns false'. Refute it at one input. -/
def chunkReadsWrong : ChangeSpec := { name := "chunkReads", fn := fun _ => fun
  | [d1, d2] => { results := [.lit (.bool false)], args := [d1, d2] }
  | _ => none }
def ChunkReadsWrongFalsely : Prop := chunkReadsRow.holds Try.pinned (OpenSpec.ofChange chunkReadsWrong)

/-- 'inquestlaw12.ChunkSteps': WHATEVER THE INPUT: true; the input reads as it did. -/
def chunkStepsSpec : ChangeSpec := { name := "chunkSteps", fn := fun _ => fun
  | [d1, d2] => { results := [.lit (.bool true)], args := [d1, d2] }
  | _ => none }
def chunkStepsRow : OpenClaim := { program := "ytomnkdjlljobeaa", sum := "029a25445936eedfb4edc451d0a40905d4bc19fa574702248469c93ce6052710", func := "inquest/inquestlaw12.ChunkSteps", spec := "chunkSteps", apart := false }
def ChunkStepsSaid : Prop := chunkStepsRow.holds Try.pinned (OpenSpec.ofChange chunkStepsSpec)

/-- ITS FALSE NEIGHBOUR: 'it returns false'. Refute it at one input. -/
def chunkStepsWrong : ChangeSpec := { name := "chunkSteps", fn := fun _ => fun
  | [d1, d2] => { results := [.lit (.bool false)], args := [d1, d2] }
  | _ => none }
def ChunkStepsWrongFalsely : Prop := chunkStepsRow.holds Try.pinned (OpenSpec.ofChange chunkStepsWrong)

/-- 'inquestlaw12.ChunkNobody': WHATEVER THE INPUT: true; the input reads as it did. -/
def chunkNobodySpec : ChangeSpec := { name := "chunkNobody", fn := fun _ => fun
  | [d] => { results := [.lit (.bool true)], args := [d] }
  | _ => none }
def chunkNobodyRow : OpenClaim := { program := "ytomnkdjlljobeaa", sum := "029a25445936eedfb4edc451d0a40905d4bc19fa574702248469c93ce6052710", func := "inquest/inquestlaw12.ChunkNobody", spec := "chunkNobody", apart := false }
def ChunkNobodySaid : Prop := chunkNobodyRow.holds Try.pinned (OpenSpec.ofChange chunkNobodySpec)

/-- ITS FALSE NEIGHBOUR: 'it returns false'. Refute it at one input. -/
def chunkNobodyWrong : ChangeSpec := { name := "chunkNobody", fn := fun _ => fun
  | [d] => { results := [.lit (.bool false)], args := [d] }
  | _ => none }
def ChunkNobodyWrongFalsely : Prop := chunkNobodyRow.holds Try.pinned (OpenSpec.ofChange chunkNobodyWrong)

/-- 'inquestlaw12.ChunkPrints': WHATEVER THE INPUT: true; the input reads as it did. -/
def chunkPrintsSpec : ChangeSpec := { name := "chunkPrints", fn := fun _ => fun
  | [d1, d2] => { results := [.lit (.bool true)], args := [d1, d2] }
  | _ => none }
def chunkPrintsRow : OpenClaim := { program := "ytomnkdjlljobeaa", sum := "029a25445936eedfb4edc451d0a40905d4bc19fa574702248469c93ce6052710", func := "inquest/inquestlaw12.ChunkPrints", spec := "chunkPrints", recurses := true, apart := false }
def ChunkPrintsSaid : Prop := chunkPrintsRow.holds Try.pinned (OpenSpec.ofChange chunkPrintsSpec)

/-- ITS FALSE NEIGHBOUR: 'it returns false'. Refute it at one input. -/
def chunkPrintsWrong : ChangeSpec := { name := "chunkPrints", fn := fun _ => fun
  | [d1, d2] => { results := [.lit (.bool false)], args := [d1, d2] }
  | _ => none }
def ChunkPrintsWrongFalsely : Prop := chunkPrintsRow.holds Try.pinned (OpenSpec.ofChange chunkPrintsWrong)

/-- 'inquestlaw12.ChunkBack': WHATEVER THE INPUT: true; the input reads as it did. -/
def chunkBackSpec : ChangeSpec := { name := "chunkBack", fn := fun _ => fun
  | [d1, d2, d3, d4] => { results := [.lit (.bool true)], args := [d1, d2, d3, d4] }
  | _ => none }
def chunkBackRow : OpenClaim := { program := "ytomnkdjlljobeaa", sum := "029a25445936eedfb4edc451d0a40905d4bc19fa574702248469c93ce6052710", func := "inquest/inquestlaw12.ChunkBack", spec := "chunkBack", recurses := true, apart := false }
def ChunkBackSaid : Prop := chunkBackRow.holds Try.pinned (OpenSpec.ofChange chunkBackSpec)

/-- ITS FALSE NEIGHBOUR: 'it returns false'. Refute it at one input. -/
def chunkBackWrong : ChangeSpec := { name := "chunkBack", fn := fun _ => fun
  | [d1, d2, d3, d4] => { results := [.lit (.bool false)], args := [d1, d2, d3, d4] }
  | _ => none }
def ChunkBackWrongFalsely : Prop := chunkBackRow.holds Try.pinned (OpenSpec.ofChange chunkBackWrong)

/-- 'inquestlaw12.ChunkRoom': WHATEVER THE INPUT: true; the input reads as it did. -/
def chunkRoomSpec : ChangeSpec := { name := "chunkRoom", fn := fun _ => fun
  | [d1, d2, d3] => { results := [.lit (.bool true)], args := [d1, d2, d3] }
  | _ => none }
def chunkRoomRow : OpenClaim := { program := "ytomnkdjlljobeaa", sum := "029a25445936eedfb4edc451d0a40905d4bc19fa574702248469c93ce6052710", func := "inquest/inquestlaw12.ChunkRoom", spec := "chunkRoom", recurses := true, apart := false }
def ChunkRoomSaid : Prop := chunkRoomRow.holds Try.pinned (OpenSpec.ofChange chunkRoomSpec)

/-- ITS FALSE NEIGHBOUR: 'it returns false'. Refute it at one input. -/
def chunkRoomWrong : ChangeSpec := { name := "chunkRoom", fn := fun _ => fun
  | [d1, d2, d3] => { results := [.lit (.bool false)], args := [d1, d2, d3] }
  | _ => none }
def ChunkRoomWrongFalsely : Prop := chunkRoomRow.holds Try.pinned (OpenSpec.ofChange chunkRoomWrong)

/-- 'inquestlaw23.RouteParses': WHATEVER THE INPUT: true; the input reads as it did. -/
def routeParsesSpec : ChangeSpec := { name := "routeParses", fn := fun _ => fun
  | [d] => { results := [.lit (.bool true)], args := [d] }
  | _ => none }
def routeParsesRow : OpenClaim := { program := "ytomnkdjlljobeaa", sum := "029a25445936eedfb4edc451d0a40905d4bc19fa574702248469c93ce6052710", func := "inquest/inquestlaw23.RouteParses", spec := "routeParses", recurses := true, apart := false }
def RouteParsesSaid : Prop := routeParsesRow.holds Try.pinned (OpenSpec.ofChange routeParsesSpec)

/-- ITS FALSE NEIGHBOUR: 'it returns false'. Refute it at one input. -/
def routeParsesWrong : ChangeSpec := { name := "routeParses", fn := fun _ => fun
  | [d] => { results := [.lit (.bool false)], args := [d] }
  | _ => none }
def RouteParsesWrongFalsely : Prop := routeParsesRow.holds Try.pinned (OpenSpec.ofChange routeParsesWrong)

/-- 'inquestlaw23.RoutePrints': WHATEVER THE INPUT: true; the input reads as it did. -/
def routePrintsSpec : ChangeSpec := { name := "routePrints", fn := fun _ => fun
  | [d] => { results := [.lit (.bool true)], args := [d] }
  | _ => none }
def routePrintsRow : OpenClaim := { program := "ytomnkdjlljobeaa", sum := "029a25445936eedfb4edc451d0a40905d4bc19fa574702248469c93ce6052710", func := "inquest/inquestlaw23.RoutePrints", spec := "routePrints", recurses := true, apart := false }
def RoutePrintsSaid : Prop := routePrintsRow.holds Try.pinned (OpenSpec.ofChange routePrintsSpec)

/-- ITS FALSE NEIGHBOUR: 'it returns false'. Refute it at one input. -/
def routePrintsWrong : ChangeSpec := { name := "routePrints", fn := fun _ => fun
  | [d] => { results := [.lit (.bool false)], args := [d] }
  | _ => none }
def RoutePrintsWrongFalsely : Prop := routePrintsRow.holds Try.pinned (OpenSpec.ofChange routePrintsWrong)

/-- 'inquestlaw23.RouteOne': WHATEVER THE INPUT: true; the input reads as it did. -/
def routeOneSpec : ChangeSpec := { name := "routeOne", fn := fun _ => fun
  | [d1, d2] => { results := [.lit (.bool true)], args := [d1, d2] }
  | _ => none }
def routeOneRow : OpenClaim := { program := "ytomnkdjlljobeaa", sum := "029a25445936eedfb4edc451d0a40905d4bc19fa574702248469c93ce6052710", func := "inquest/inquestlaw23.RouteOne", spec := "routeOne", apart := false }
def RouteOneSaid : Prop := routeOneRow.holds Try.pinned (OpenSpec.ofChange routeOneSpec)

/-- ITS FALSE NEIGHBOUR: 'it returns false'. Refute it at one input. -/
def routeOneWrong : ChangeSpec := { name := "routeOne", fn := fun _ => fun
  | [d1, d2] => { results := [.lit (.bool false)], args := [d1, d2] }
  | _ => none }
def RouteOneWrongFalsely : Prop := routeOneRow.holds Try.pinned (OpenSpec.ofChange routeOneWrong)

/- THE SECOND FORM. 'bulk': how many values and letters a reading holds, each counted each time it is reached (what is shared counts as often as it is met; a slice's spare places count too). A statement '..UptoSaid' is the law's where the arguments, and the package variables that the reading takes, are together of bulk at most 1048576: NARROWER than '..Said'. Prove '..Said' where nothing that the law and all that it calls make is longer than what came in: it says more and counts as full. Else prove '..UptoSaid'. A law counts once. -/
mutual
def uptoBulk {H : Type} : DataW H → Nat
  | .lit (.string bytes) => bytes.length + 1
  | .lit _ => 1
  | .nil => 1
  | .ptr d => uptoBulk d + 1
  | .slice elems spare => uptoBulkAll elems + uptoBulkAll spare + 1
  | .agg parts => uptoBulkAll parts + 1
  | .iface _ d => uptoBulk d + 1
  | .map entries => uptoBulkEntries entries + 1
  | .held _ => 1
def uptoBulkAll {H : Type} : List (DataW H) → Nat
  | [] => 0
  | d :: r => uptoBulk d + uptoBulkAll r
def uptoBulkEntries {H : Type} : List (Lit × DataW H) → Nat
  | [] => 0
  | x :: r => uptoBulkEntry x + uptoBulkEntries r
def uptoBulkEntry {H : Type} : Lit × DataW H → Nat
  | (.string bytes, d) => bytes.length + uptoBulk d + 1
  | (_, d) => uptoBulk d + 1
 end
def uptoSmall : (H : Type) → List (DataW H) → Bool := fun _ ds => decide (uptoBulkAll ds ≤ 1048576)
def OpenSpec.upto (s : _root_.Go.ChangeSpec) : _root_.Go.OpenSpec := { _root_.Go.OpenSpec.ofChange s with cond := some uptoSmall }

/-- 'inquestlaw12.ChunkReads', WHERE WHAT IT READS IS OF BULK AT MOST 1048576: true; the input reads as it did. -/
def chunkReadsUptoRow : OpenClaim := { program := "ytomnkdjlljobeaa", sum := "029a25445936eedfb4edc451d0a40905d4bc19fa574702248469c93ce6052710", func := "inquest/inquestlaw12.ChunkReads", spec := "chunkReads", apart := false, narrowed := true }
def ChunkReadsUptoSaid : Prop := chunkReadsUptoRow.holds Try.pinned (OpenSpec.upto chunkReadsSpec)

/-- 'inquestlaw12.ChunkSteps', WHERE WHAT IT READS IS OF BULK AT MOST 1048576: true; the input reads as it did. -/
def chunkStepsUptoRow : OpenClaim := { program := "ytomnkdjlljobeaa", sum := "029a25445936eedfb4edc451d0a40905d4bc19fa574702248469c93ce6052710", func := "inquest/inquestlaw12.ChunkSteps", spec := "chunkSteps", apart := false, narrowed := true }
def ChunkStepsUptoSaid : Prop := chunkStepsUptoRow.holds Try.pinned (OpenSpec.upto chunkStepsSpec)

/-- 'inquestlaw12.ChunkNobody', WHERE WHAT IT READS IS OF BULK AT MOST 1048576: true; the input reads as it did. -/
def chunkNobodyUptoRow : OpenClaim := { program := "ytomnkdjlljobeaa", sum := "029a25445936eedfb4edc451d0a40905d4bc19fa574702248469c93ce6052710", func := "inquest/inquestlaw12.ChunkNobody", spec := "chunkNobody", apart := false, narrowed := true }
def ChunkNobodyUptoSaid : Prop := chunkNobodyUptoRow.holds Try.pinned (OpenSpec.upto chunkNobodySpec)

/-- 'inquestlaw12.ChunkPrints', WHERE WHAT IT READS IS OF BULK AT MOST 1048576: true; the input reads as it did. -/
def chunkPrintsUptoRow : OpenClaim := { program := "ytomnkdjlljobeaa", sum := "029a25445936eedfb4edc451d0a40905d4bc19fa574702248469c93ce6052710", func := "inquest/inquestlaw12.ChunkPrints", spec := "chunkPrints", recurses := true, apart := false, narrowed := true }
def ChunkPrintsUptoSaid : Prop := chunkPrintsUptoRow.holds Try.pinned (OpenSpec.upto chunkPrintsSpec)

/-- 'inquestlaw12.ChunkBack', WHERE WHAT IT READS IS OF BULK AT MOST 1048576: true; the input reads as it did. -/
def chunkBackUptoRow : OpenClaim := { program := "ytomnkdjlljobeaa", sum := "029a25445936eedfb4edc451d0a40905d4bc19fa574702248469c93ce6052710", func := "inquest/inquestlaw12.ChunkBack", spec := "chunkBack", recurses := true, apart := false, narrowed := true }
def ChunkBackUptoSaid : Prop := chunkBackUptoRow.holds Try.pinned (OpenSpec.upto chunkBackSpec)

/-- 'inquestlaw12.ChunkRoom', WHERE WHAT IT READS IS OF BULK AT MOST 1048576: true; the input reads as it did. -/
def chunkRoomUptoRow : OpenClaim := { program := "ytomnkdjlljobeaa", sum := "029a25445936eedfb4edc451d0a40905d4bc19fa574702248469c93ce6052710", func := "inquest/inquestlaw12.ChunkRoom", spec := "chunkRoom", recurses := true, apart := false, narrowed := true }
def ChunkRoomUptoSaid : Prop := chunkRoomUptoRow.holds Try.pinned (OpenSpec.upto chunkRoomSpec)

/-- 'inquestlaw23.RouteParses', WHERE WHAT IT READS IS OF BULK AT MOST 1048576: true; the input reads as it did. -/
def routeParsesUptoRow : OpenClaim := { program := "ytomnkdjlljobeaa", sum := "029a25445936eedfb4edc451d0a40905d4bc19fa574702248469c93ce6052710", func := "inquest/inquestlaw23.RouteParses", spec := "routeParses", recurses := true, apart := false, narrowed := true }
def RouteParsesUptoSaid : Prop := routeParsesUptoRow.holds Try.pinned (OpenSpec.upto routeParsesSpec)

/-- 'inquestlaw23.RoutePrints', WHERE WHAT IT READS IS OF BULK AT MOST 1048576: true; the input reads as it did. -/
def routePrintsUptoRow : OpenClaim := { program := "ytomnkdjlljobeaa", sum := "029a25445936eedfb4edc451d0a40905d4bc19fa574702248469c93ce6052710", func := "inquest/inquestlaw23.RoutePrints", spec := "routePrints", recurses := true, apart := false, narrowed := true }
def RoutePrintsUptoSaid : Prop := routePrintsUptoRow.holds Try.pinned (OpenSpec.upto routePrintsSpec)

/-- 'inquestlaw23.RouteOne', WHERE WHAT IT READS IS OF BULK AT MOST 1048576: true; the input reads as it did. -/
def routeOneUptoRow : OpenClaim := { program := "ytomnkdjlljobeaa", sum := "029a25445936eedfb4edc451d0a40905d4bc19fa574702248469c93ce6052710", func := "inquest/inquestlaw23.RouteOne", spec := "routeOne", apart := false, narrowed := true }
def RouteOneUptoSaid : Prop := routeOneUptoRow.holds Try.pinned (OpenSpec.upto routeOneSpec)

end Rows
end Go.Proofs.Ytomnkdjlljobeaa
