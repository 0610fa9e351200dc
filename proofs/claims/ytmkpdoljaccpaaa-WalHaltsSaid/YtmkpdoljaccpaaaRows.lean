/-
  No cell of these rows narrows 'for every input' (looked for: loops, veiled, ifaces, maps, wideKeys, modest, calm, conditions, laid).
  DERIVED. THE GIVEN ROWS OF THIS SEAT. 10 by the template 'for every input the law returns true; each argument reads behind the call as it read before'; 0 by the template 'total and deterministic' (their statements: YtmkpdoljaccpaaaTotals.lean).
  GIVEN WITH THE SEED: the statements are not yours to turn. If you find one false, say at which input.
  Laid BY PROGRAM, IN A SANDBOX (cutbox-rows.mjs): the forced cells as the released guide's own fill.sh prints them over the translation f960c8133963aa4a… (all of the seat's roots in one cut). By AI agents, Wed Nov 11 2026. No macro, syntax, notation, axiom, sorry.
-/
import Derived.Test.YtmkpdoljaccpaaaChecked
import GoSem.Claim
import GoSem.ClaimJoined
import GoSem.ClaimMapViews
import Derived.JoinedTies
import Derived.KernelRfl
namespace Go.Proofs.Ytmkpdoljaccpaaa
/- THE CELL 'sum', in the pinned program and in every row, IS THE sha256 OF THE DUMP (.gsa) THAT YtmkpdoljaccpaaaProg.lean LOADS. Nothing in Lean hashes anything: it is a label: what it is worth is what the hold of that sum in a sandbox is worth. -/
noncomputable def Try.pinned : Pinned := { name := "ytmkpdoljaccpaaa", sum := "f960c8133963aa4abd8f4c3a5ae0fc489e4c7aa13b4882e0dc3078bdc6284f6c", checked := Try.checked }
namespace Rows
def none {H : Type} : Left H := { results := [], args := [] }

/-- 'inquestlaw09.DiskFast': WHATEVER THE INPUT: true; the input reads as it did. -/
def diskFastSpec : ChangeSpec := { name := "diskFast", fn := fun _ => fun
  | [d1, d2] => { results := [.lit (.bool true)], args := [d1, d2] }
  | _ => none }
def diskFastRow : OpenClaim := { program := "ytmkpdoljaccpaaa", sum := "f960c8133963aa4abd8f4c3a5ae0fc489e4c7aa13b4882e0dc3078bdc6284f6c", func := "inquest/inquestlaw09.DiskFast", spec := "diskFast", apart := false }
def DiskFastSaid : Prop := diskFastRow.holds Try.pinned (OpenSpec.ofChange diskFastSpec)

/-- ITS FALSE NEIGHBOUR: 'it returns false'. Refute it at one input. -/
def diskFastWrong : ChangeSpec := { name := "diskFast", fn := fun _ => fun
  | [d1, d2] => { results := [.lit (.bool false)], args := [d1, d2] }
  | _ => none }
def DiskFastWrongFalsely : Prop := diskFastRow.holds Try.pinned (OpenSpec.ofChange diskFastWrong)

/-- 'inquestlaw09.DiskTears': WHATEVER THE INPUT: true; the input reads as it did. -/
def diskTearsSpec : ChangeSpec := { name := "diskTears", fn := fun _ => fun
  | [d1, d2, d3] => { results := [.lit (.bool true)], args := [d1, d2, d3] }
  | _ => none }
def diskTearsRow : OpenClaim := { program := "ytmkpdoljaccpaaa", sum := "f960c8133963aa4abd8f4c3a5ae0fc489e4c7aa13b4882e0dc3078bdc6284f6c", func := "inquest/inquestlaw09.DiskTears", spec := "diskTears", apart := false }
def DiskTearsSaid : Prop := diskTearsRow.holds Try.pinned (OpenSpec.ofChange diskTearsSpec)

/-- ITS FALSE NEIGHBOUR: 'it returns false'. Refute it at one input. -/
def diskTearsWrong : ChangeSpec := { name := "diskTears", fn := fun _ => fun
  | [d1, d2, d3] => { results := [.lit (.bool false)], args := [d1, d2, d3] }
  | _ => none }
def DiskTearsWrongFalsely : Prop := diskTearsRow.holds Try.pinned (OpenSpec.ofChange diskTearsWrong)

/-- 'inquestlaw09.DiskOff': WHATEVER THE INPUT: true; the input reads as it did. -/
def diskOffSpec : ChangeSpec := { name := "diskOff", fn := fun _ => fun
  | [d1, d2, d3] => { results := [.lit (.bool true)], args := [d1, d2, d3] }
  | _ => none }
def diskOffRow : OpenClaim := { program := "ytmkpdoljaccpaaa", sum := "f960c8133963aa4abd8f4c3a5ae0fc489e4c7aa13b4882e0dc3078bdc6284f6c", func := "inquest/inquestlaw09.DiskOff", spec := "diskOff", apart := false }
def DiskOffSaid : Prop := diskOffRow.holds Try.pinned (OpenSpec.ofChange diskOffSpec)

/-- ITS FALSE NEIGHBOUR: 'it returns false'. Refute it at one input. -/
def diskOffWrong : ChangeSpec := { name := "diskOff", fn := fun _ => fun
  | [d1, d2, d3] => { results := [.lit (.bool false)], args := [d1, d2, d3] }
  | _ => none }
def DiskOffWrongFalsely : Prop := diskOffRow.holds Try.pinned (OpenSpec.ofChange diskOffWrong)

/-- 'inquestlaw09.DiskPlays': WHATEVER THE INPUT: true; the input reads as it did. -/
def diskPlaysSpec : ChangeSpec := { name := "diskPlays", fn := fun _ => fun
  | [d1, d2] => { results := [.lit (.bool true)], args := [d1, d2] }
  | _ => none }
def diskPlaysRow : OpenClaim := { program := "ytmkpdoljaccpaaa", sum := "f960c8133963aa4abd8f4c3a5ae0fc489e4c7aa13b4882e0dc3078bdc6284f6c", func := "inquest/inquestlaw09.DiskPlays", spec := "diskPlays", apart := false }
def DiskPlaysSaid : Prop := diskPlaysRow.holds Try.pinned (OpenSpec.ofChange diskPlaysSpec)

/-- ITS FALSE NEIGHBOUR: 'it returns false'. Refute it at one input. -/
def diskPlaysWrong : ChangeSpec := { name := "diskPlays", fn := fun _ => fun
  | [d1, d2] => { results := [.lit (.bool false)], args := [d1, d2] }
  | _ => none }
def DiskPlaysWrongFalsely : Prop := diskPlaysRow.holds Try.pinned (OpenSpec.ofChange diskPlaysWrong)

/-- 'inquestlaw09.DiskNobody': WHATEVER THE INPUT: true; the input reads as it did. -/
def diskNobodySpec : ChangeSpec := { name := "diskNobody", fn := fun _ => fun
  | [d] => { results := [.lit (.bool true)], args := [d] }
  | _ => none }
def diskNobodyRow : OpenClaim := { program := "ytmkpdoljaccpaaa", sum := "f960c8133963aa4abd8f4c3a5ae0fc489e4c7aa13b4882e0dc3078bdc6284f6c", func := "inquest/inquestlaw09.DiskNobody", spec := "diskNobody", apart := false }
def DiskNobodySaid : Prop := diskNobodyRow.holds Try.pinned (OpenSpec.ofChange diskNobodySpec)

/-- ITS FALSE NEIGHBOUR: 'it returns false'. Refute it at one input. -/
def diskNobodyWrong : ChangeSpec := { name := "diskNobody", fn := fun _ => fun
  | [d] => { results := [.lit (.bool false)], args := [d] }
  | _ => none }
def DiskNobodyWrongFalsely : Prop := diskNobodyRow.holds Try.pinned (OpenSpec.ofChange diskNobodyWrong)

/-- 'inquestlaw10.WalHalts': WHATEVER THE INPUT: true; the input reads as it did. -/
def walHaltsSpec : ChangeSpec := { name := "walHalts", fn := fun _ => fun
  | [d1, d2, d3, d4] => { results := [.lit (.bool true)], args := [d1, d2, d3, d4] }
  | _ => none }
def walHaltsRow : OpenClaim := { program := "ytmkpdoljaccpaaa", sum := "f960c8133963aa4abd8f4c3a5ae0fc489e4c7aa13b4882e0dc3078bdc6284f6c", func := "inquest/inquestlaw10.WalHalts", spec := "walHalts", apart := false }
def WalHaltsSaid : Prop := walHaltsRow.holds Try.pinned (OpenSpec.ofChange walHaltsSpec)

/-- ITS FALSE NEIGHBOUR: 'it returns false'. Refute it at one input. -/
def walHaltsWrong : ChangeSpec := { name := "walHalts", fn := fun _ => fun
  | [d1, d2, d3, d4] => { results := [.lit (.bool false)], args := [d1, d2, d3, d4] }
  | _ => none }
def WalHaltsWrongFalsely : Prop := walHaltsRow.holds Try.pinned (OpenSpec.ofChange walHaltsWrong)

/-- 'inquestlaw10.WalNobody': WHATEVER THE INPUT: true; the input reads as it did. -/
def walNobodySpec : ChangeSpec := { name := "walNobody", fn := fun _ => fun
  | [d] => { results := [.lit (.bool true)], args := [d] }
  | _ => none }
def walNobodyRow : OpenClaim := { program := "ytmkpdoljaccpaaa", sum := "f960c8133963aa4abd8f4c3a5ae0fc489e4c7aa13b4882e0dc3078bdc6284f6c", func := "inquest/inquestlaw10.WalNobody", spec := "walNobody", apart := false }
def WalNobodySaid : Prop := walNobodyRow.holds Try.pinned (OpenSpec.ofChange walNobodySpec)

/-- ITS FALSE NEIGHBOUR: 'it returns false'. Refute it at one input. -/
def walNobodyWrong : ChangeSpec := { name := "walNobody", fn := fun _ => fun
  | [d] => { results := [.lit (.bool false)], args := [d] }
  | _ => none }
def WalNobodyWrongFalsely : Prop := walNobodyRow.holds Try.pinned (OpenSpec.ofChange walNobodyWrong)

/-- 'inquestlaw10.WalKept': WHATEVER THE INPUT: true; the input reads as it did. -/
def walKeptSpec : ChangeSpec := { name := "walKept", fn := fun _ => fun
  | [d1, d2] => { results := [.lit (.bool true)], args := [d1, d2] }
  | _ => none }
def walKeptRow : OpenClaim := { program := "ytmkpdoljaccpaaa", sum := "f960c8133963aa4abd8f4c3a5ae0fc489e4c7aa13b4882e0dc3078bdc6284f6c", func := "inquest/inquestlaw10.WalKept", spec := "walKept", apart := false }
def WalKeptSaid : Prop := walKeptRow.holds Try.pinned (OpenSpec.ofChange walKeptSpec)

/-- ITS FALSE NEIGHBOUR: 'it returns false'. Refute it at one input. -/
def walKeptWrong : ChangeSpec := { name := "walKept", fn := fun _ => fun
  | [d1, d2] => { results := [.lit (.bool false)], args := [d1, d2] }
  | _ => none }
def WalKeptWrongFalsely : Prop := walKeptRow.holds Try.pinned (OpenSpec.ofChange walKeptWrong)

/-- 'inquestlaw10.WalAgain': WHATEVER THE INPUT: true; the input reads as it did. -/
def walAgainSpec : ChangeSpec := { name := "walAgain", fn := fun _ => fun
  | [d1, d2] => { results := [.lit (.bool true)], args := [d1, d2] }
  | _ => none }
def walAgainRow : OpenClaim := { program := "ytmkpdoljaccpaaa", sum := "f960c8133963aa4abd8f4c3a5ae0fc489e4c7aa13b4882e0dc3078bdc6284f6c", func := "inquest/inquestlaw10.WalAgain", spec := "walAgain", apart := false }
def WalAgainSaid : Prop := walAgainRow.holds Try.pinned (OpenSpec.ofChange walAgainSpec)

/-- ITS FALSE NEIGHBOUR: 'it returns false'. Refute it at one input. -/
def walAgainWrong : ChangeSpec := { name := "walAgain", fn := fun _ => fun
  | [d1, d2] => { results := [.lit (.bool false)], args := [d1, d2] }
  | _ => none }
def WalAgainWrongFalsely : Prop := walAgainRow.holds Try.pinned (OpenSpec.ofChange walAgainWrong)

/-- 'inquestlaw10.WalForged': WHATEVER THE INPUT: true; the input reads as it did. -/
def walForgedSpec : ChangeSpec := { name := "walForged", fn := fun _ => fun
  | [d1, d2, d3, d4] => { results := [.lit (.bool true)], args := [d1, d2, d3, d4] }
  | _ => none }
def walForgedRow : OpenClaim := { program := "ytmkpdoljaccpaaa", sum := "f960c8133963aa4abd8f4c3a5ae0fc489e4c7aa13b4882e0dc3078bdc6284f6c", func := "inquest/inquestlaw10.WalForged", spec := "walForged", apart := false }
def WalForgedSaid : Prop := walForgedRow.holds Try.pinned (OpenSpec.ofChange walForgedSpec)

/-- ITS FALSE NEIGHBOUR: 'it returns false'. Refute it at one input. -/
def walForgedWrong : ChangeSpec := { name := "walForged", fn := fun _ => fun
  | [d1, d2, d3, d4] => { results := [.lit (.bool false)], args := [d1, d2, d3, d4] }
  | _ => none }
def WalForgedWrongFalsely : Prop := walForgedRow.holds Try.pinned (OpenSpec.ofChange walForgedWrong)

/- THE SECOND FORM. 'bulk': how many values and letters a reading holds, each counted each time it is reached (what is shared counts as often as it is met; a slice's spare places count too). A statement '..UptoSaid' is the law's where the arguments, and the package variables that the reading takes, are together of bulk at most 1048576: NARROWER than '..Said'. Prove '..Said' where nothing that the law and all that it calls make is longer than what came in: it says more and counts as full. Else prove '..UptoSaid'. A law counts once. -/
mutual
def uptoBulk {H : Type} : DataW H → Nat
  | .lit (.string bytes) => bytes.length + 1
  | .lit _ => 1
  | .nil => 1
  | .ptr d => uptoBulk d + 1
  | .slice elems spare => uptoBulkAll elems + uptoBulkAll spare + 1
  | .agg parts => uptoBulkAll parts + 1
  | .iface _ d => uptoBulk d + 1
  | .map entries => uptoBulkEntries entries + 1
  | .held _ => 1
def uptoBulkAll {H : Type} : List (DataW H) → Nat
  | [] => 0
  | d :: r => uptoBulk d + uptoBulkAll r
def uptoBulkEntries {H : Type} : List (Lit × DataW H) → Nat
  | [] => 0
  | x :: r => uptoBulkEntry x + uptoBulkEntries r
def uptoBulkEntry {H : Type} : Lit × DataW H → Nat
  | (.string bytes, d) => bytes.length + uptoBulk d + 1
  | (_, d) => uptoBulk d + 1
 end
def uptoSmall : (H : Type) → List (DataW H) → Bool := fun _ ds => decide (uptoBulkAll ds ≤ 1048576)
def OpenSpec.upto (s : _root_.Go.ChangeSpec) : _root_.Go.OpenSpec := { _root_.Go.OpenSpec.ofChange s with cond := some uptoSmall }

/-- 'inquestlaw09.DiskFast', WHERE WHAT IT READS IS OF BULK AT MOST 1048576: true; the input reads as it did. -/
def diskFastUptoRow : OpenClaim := { program := "ytmkpdoljaccpaaa", sum := "f960c8133963aa4abd8f4c3a5ae0fc489e4c7aa13b4882e0dc3078bdc6284f6c", func := "inquest/inquestlaw09.DiskFast", spec := "diskFast", apart := false, narrowed := true }
def DiskFastUptoSaid : Prop := diskFastUptoRow.holds Try.pinned (OpenSpec.upto diskFastSpec)

/-- 'inquestlaw09.DiskTears', WHERE WHAT IT READS IS OF BULK AT MOST 1048576: true; the input reads as it did. -/
def diskTearsUptoRow : OpenClaim := { program := "ytmkpdoljaccpaaa", sum := "f960c8133963aa4abd8f4c3a5ae0fc489e4c7aa13b4882e0dc3078bdc6284f6c", func := "inquest/inquestlaw09.DiskTears", spec := "diskTears", apart := false, narrowed := true }
def DiskTearsUptoSaid : Prop := diskTearsUptoRow.holds Try.pinned (OpenSpec.upto diskTearsSpec)

/-- 'inquestlaw09.DiskOff', WHERE WHAT IT READS IS OF BULK AT MOST 1048576: true; the input reads as it did. -/
def diskOffUptoRow : OpenClaim := { program := "ytmkpdoljaccpaaa", sum := "f960c8133963aa4abd8f4c3a5ae0fc489e4c7aa13b4882e0dc3078bdc6284f6c", func := "inquest/inquestlaw09.DiskOff", spec := "diskOff", apart := false, narrowed := true }
def DiskOffUptoSaid : Prop := diskOffUptoRow.holds Try.pinned (OpenSpec.upto diskOffSpec)

/-- 'inquestlaw09.DiskPlays', WHERE WHAT IT READS IS OF BULK AT MOST 1048576: true; the input reads as it did. -/
def diskPlaysUptoRow : OpenClaim := { program := "ytmkpdoljaccpaaa", sum := "f960c8133963aa4abd8f4c3a5ae0fc489e4c7aa13b4882e0dc3078bdc6284f6c", func := "inquest/inquestlaw09.DiskPlays", spec := "diskPlays", apart := false, narrowed := true }
def DiskPlaysUptoSaid : Prop := diskPlaysUptoRow.holds Try.pinned (OpenSpec.upto diskPlaysSpec)

/-- 'inquestlaw09.DiskNobody', WHERE WHAT IT READS IS OF BULK AT MOST 1048576: true; the input reads as it did. -/
def diskNobodyUptoRow : OpenClaim := { program := "ytmkpdoljaccpaaa", sum := "f960c8133963aa4abd8f4c3a5ae0fc489e4c7aa13b4882e0dc3078bdc6284f6c", func := "inquest/inquestlaw09.DiskNobody", spec := "diskNobody", apart := false, narrowed := true }
def DiskNobodyUptoSaid : Prop := diskNobodyUptoRow.holds Try.pinned (OpenSpec.upto diskNobodySpec)

/-- 'inquestlaw10.WalHalts', WHERE WHAT IT READS IS OF BULK AT MOST 1048576: true; the input reads as it did. -/
def walHaltsUptoRow : OpenClaim := { program := "ytmkpdoljaccpaaa", sum := "f960c8133963aa4abd8f4c3a5ae0fc489e4c7aa13b4882e0dc3078bdc6284f6c", func := "inquest/inquestlaw10.WalHalts", spec := "walHalts", apart := false, narrowed := true }
def WalHaltsUptoSaid : Prop := walHaltsUptoRow.holds Try.pinned (OpenSpec.upto walHaltsSpec)

/-- 'inquestlaw10.WalNobody', WHERE WHAT IT READS IS OF BULK AT MOST 1048576: true; the input reads as it did. -/
def walNobodyUptoRow : OpenClaim := { program := "ytmkpdoljaccpaaa", sum := "f960c8133963aa4abd8f4c3a5ae0fc489e4c7aa13b4882e0dc3078bdc6284f6c", func := "inquest/inquestlaw10.WalNobody", spec := "walNobody", apart := false, narrowed := true }
def WalNobodyUptoSaid : Prop := walNobodyUptoRow.holds Try.pinned (OpenSpec.upto walNobodySpec)

/-- 'inquestlaw10.WalKept', WHERE WHAT IT READS IS OF BULK AT MOST 1048576: true; the input reads as it did. -/
def walKeptUptoRow : OpenClaim := { program := "ytmkpdoljaccpaaa", sum := "f960c8133963aa4abd8f4c3a5ae0fc489e4c7aa13b4882e0dc3078bdc6284f6c", func := "inquest/inquestlaw10.WalKept", spec := "walKept", apart := false, narrowed := true }
def WalKeptUptoSaid : Prop := walKeptUptoRow.holds Try.pinned (OpenSpec.upto walKeptSpec)

/-- 'inquestlaw10.WalAgain', WHERE WHAT IT READS IS OF BULK AT MOST 1048576: true; the input reads as it did. -/
def walAgainUptoRow : OpenClaim := { program := "ytmkpdoljaccpaaa", sum := "f960c8133963aa4abd8f4c3a5ae0fc489e4c7aa13b4882e0dc3078bdc6284f6c", func := "inquest/inquestlaw10.WalAgain", spec := "walAgain", apart := false, narrowed := true }
def WalAgainUptoSaid : Prop := walAgainUptoRow.holds Try.pinned (OpenSpec.upto walAgainSpec)

/-- 'inquestlaw10.WalForged', WHERE WHAT IT READS IS OF BULK AT MOST 1048576: true; the input reads as it did. -/
def walForgedUptoRow : OpenClaim := { program := "ytmkpdoljaccpaaa", sum := "f960c8133963aa4abd8f4c3a5ae0fc489e4c7aa13b4882e0dc3078bdc6284f6c", func := "inquest/inquestlaw10.WalForged", spec := "walForged", apart := false, narrowed := true }
def WalForgedUptoSaid : Prop := walForgedUptoRow.holds Try.pinned (OpenSpec.upto walForgedSpec)

end Rows
end Go.Proofs.Ytmkpdoljaccpaaa
