/-
  NARROWER THAN 'FOR EVERY INPUT', by the rows' own cells (each row's printed sentence says how): WireAnswers: laid · WireReplies: laid · WireTold: laid.
  DERIVED. THE GIVEN ROWS OF THIS SEAT. 3 by the template 'for every input the law returns true; each argument reads behind the call as it read before'; 0 by the template 'total and deterministic' (their statements: YtibegbmehpggbaaDoorTotals.lean).
  GIVEN WITH THE SEED: the statements are not yours to turn. If you find one false, say at which input.
  Laid BY PROGRAM, IN A SANDBOX (cutbox-rows.mjs): the forced cells as the released guide's own fill.sh prints them over the translation 05492a5681d0f3f4… (all of the seat's roots in one cut). By AI agents, Wed Nov 11 2026. No macro, syntax, notation, axiom, sorry.
-/
import Derived.Test.YtibegbmehpggbaaDoorChecked
import GoSem.Claim
import GoSem.ClaimJoined
import GoSem.ClaimMapViews
import Derived.JoinedTies
import Derived.KernelRfl
namespace Go.Proofs.YtibegbmehpggbaaDoor
/- THE CELL 'sum', in the pinned program and in every row, IS THE sha256 OF THE DUMP (.gsa) THAT YtibegbmehpggbaaDoorProg.lean LOADS. Nothing in Lean hashes anything: it is a label: what it is worth is what the hold of that sum in a sandbox is worth. -/
noncomputable def Tryd.pinned : Pinned := { name := "ytibegbmehpggbaadoor", sum := "05492a5681d0f3f401424ead689c4f8bfb07fc46c612a6d86063e14487a5f1ec", checked := Tryd.checked }
namespace Rows
def none {H : Type} : Left H := { results := [], args := [] }

/- WHAT THE LISTED PACKAGE-LEVEL VARIABLES READ AS WHEN THE CALL BEGINS. Each datum BY PROGRAM (the guide's laid-datum.mjs) off the statement by which the dump's own 'gosem.cut.vars' lays the variable. In a bare row this is a premise. The card (YtibegbmehpggbaaDoorCards.lean) ties it to the program's text. -/
def laid_inquest_wire_codes {H : Type} : DataW H := .slice [.lit (.int .i64 200), .lit (.int .i64 400), .lit (.int .i64 401), .lit (.int .i64 403), .lit (.int .i64 404), .lit (.int .i64 405), .lit (.int .i64 409), .lit (.int .i64 413), .lit (.int .i64 422), .lit (.int .i64 429), .lit (.int .i64 503), .lit (.int .i64 507)] []

/-- 'inquestlaw13.WireAnswers': WHATEVER THE INPUT: true; the input reads as it did. -/
def wireAnswersSpec : ChangeSpec := { name := "wireAnswers", fn := fun _ => fun
  | [d1, d2] => { results := [.lit (.bool true)], args := [d1, d2] }
  | _ => none }
def wireAnswersRow : OpenClaim := { program := "ytibegbmehpggbaadoor", sum := "05492a5681d0f3f401424ead689c4f8bfb07fc46c612a6d86063e14487a5f1ec", func := "inquest/inquestlaw13.WireAnswers", spec := "wireAnswers", unfollowed := true, recurses := true, named := ["inquest/wire.codes"], apart := false, laid := [("inquest/wire.codes", laid_inquest_wire_codes)] }
def WireAnswersSaid : Prop := wireAnswersRow.holds Tryd.pinned (OpenSpec.ofChange wireAnswersSpec)

/-- ITS FALSE NEIGHBOUR: 'it returns false'. Refute it at one input. -/
def wireAnswersWrong : ChangeSpec := { name := "wireAnswers", fn := fun _ => fun
  | [d1, d2] => { results := [.lit (.bool false)], args := [d1, d2] }
  | _ => none }
def WireAnswersWrongFalsely : Prop := wireAnswersRow.holds Tryd.pinned (OpenSpec.ofChange wireAnswersWrong)

/-- 'inquestlaw13.WireReplies': WHATEVER THE INPUT: true; the input reads as it did. -/
def wireRepliesSpec : ChangeSpec := { name := "wireReplies", fn := fun _ => fun
  | [d] => { results := [.lit (.bool true)], args := [d] }
  | _ => none }
def wireRepliesRow : OpenClaim := { program := "ytibegbmehpggbaadoor", sum := "05492a5681d0f3f401424ead689c4f8bfb07fc46c612a6d86063e14487a5f1ec", func := "inquest/inquestlaw13.WireReplies", spec := "wireReplies", unfollowed := true, recurses := true, named := ["inquest/wire.codes"], apart := false, laid := [("inquest/wire.codes", laid_inquest_wire_codes)] }
def WireRepliesSaid : Prop := wireRepliesRow.holds Tryd.pinned (OpenSpec.ofChange wireRepliesSpec)

/-- ITS FALSE NEIGHBOUR: 'it returns false'. Refute it at one input. -/
def wireRepliesWrong : ChangeSpec := { name := "wireReplies", fn := fun _ => fun
  | [d] => { results := [.lit (.bool false)], args := [d] }
  | _ => none }
def WireRepliesWrongFalsely : Prop := wireRepliesRow.holds Tryd.pinned (OpenSpec.ofChange wireRepliesWrong)

/-- 'inquestlaw13.WireTold': WHATEVER THE INPUT: true; the input reads as it did. -/
def wireToldSpec : ChangeSpec := { name := "wireTold", fn := fun _ => fun
  | [d1, d2, d3, d4] => { results := [.lit (.bool true)], args := [d1, d2, d3, d4] }
  | _ => none }
def wireToldRow : OpenClaim := { program := "ytibegbmehpggbaadoor", sum := "05492a5681d0f3f401424ead689c4f8bfb07fc46c612a6d86063e14487a5f1ec", func := "inquest/inquestlaw13.WireTold", spec := "wireTold", unfollowed := true, recurses := true, named := ["inquest/wire.codes"], apart := false, laid := [("inquest/wire.codes", laid_inquest_wire_codes)] }
def WireToldSaid : Prop := wireToldRow.holds Tryd.pinned (OpenSpec.ofChange wireToldSpec)

/-- ITS FALSE NEIGHBOUR: 'it returns false'. Refute it at one input. -/
def wireToldWrong : ChangeSpec := { name := "wireTold", fn := fun _ => fun
  | [d1, d2, d3, d4] => { results := [.lit (.bool false)], args := [d1, d2, d3, d4] }
  | _ => none }
def WireToldWrongFalsely : Prop := wireToldRow.holds Tryd.pinned (OpenSpec.ofChange wireToldWrong)

/- THE SECOND FORM. 'bulk': how many values and letters a reading holds, each counted each time it is reached (what is shared counts as often as it is met; a slice's spare places count too). A statement '..UptoSaid' is the law's where the arguments, and the package variables that the reading takes, are together of bulk at most 1048576: NARROWER than '..Said'. Prove '..Said' where nothing that the law and all that it calls make is longer than what came in: it says more and counts as full. Else prove '..UptoSaid'. A law counts once. -/
mutual
def uptoBulk {H : Type} : DataW H → Nat
  | .lit (.string bytes) => bytes.length + 1
  | .lit _ => 1
  | .nil => 1
  | .ptr d => uptoBulk d + 1
  | .slice elems spare => uptoBulkAll elems + uptoBulkAll spare + 1
  | .agg parts => uptoBulkAll parts + 1
  | .iface _ d => uptoBulk d + 1
  | .map entries => uptoBulkEntries entries + 1
  | .held _ => 1
def uptoBulkAll {H : Type} : List (DataW H) → Nat
  | [] => 0
  | d :: r => uptoBulk d + uptoBulkAll r
def uptoBulkEntries {H : Type} : List (Lit × DataW H) → Nat
  | [] => 0
  | x :: r => uptoBulkEntry x + uptoBulkEntries r
def uptoBulkEntry {H : Type} : Lit × DataW H → Nat
  | (.string bytes, d) => bytes.length + uptoBulk d + 1
  | (_, d) => uptoBulk d + 1
 end
def uptoSmall : (H : Type) → List (DataW H) → Bool := fun _ ds => decide (uptoBulkAll ds ≤ 1048576)
def OpenSpec.upto (s : _root_.Go.ChangeSpec) : _root_.Go.OpenSpec := { _root_.Go.OpenSpec.ofChange s with cond := some uptoSmall }

/-- 'inquestlaw13.WireAnswers', WHERE WHAT IT READS IS OF BULK AT MOST 1048576: true; the input reads as it did. -/
def wireAnswersUptoRow : OpenClaim := { program := "ytibegbmehpggbaadoor", sum := "05492a5681d0f3f401424ead689c4f8bfb07fc46c612a6d86063e14487a5f1ec", func := "inquest/inquestlaw13.WireAnswers", spec := "wireAnswers", unfollowed := true, recurses := true, named := ["inquest/wire.codes"], apart := false, laid := [("inquest/wire.codes", laid_inquest_wire_codes)], narrowed := true }
def WireAnswersUptoSaid : Prop := wireAnswersUptoRow.holds Tryd.pinned (OpenSpec.upto wireAnswersSpec)

/-- 'inquestlaw13.WireReplies', WHERE WHAT IT READS IS OF BULK AT MOST 1048576: true; the input reads as it did. -/
def wireRepliesUptoRow : OpenClaim := { program := "ytibegbmehpggbaadoor", sum := "05492a5681d0f3f401424ead689c4f8bfb07fc46c612a6d86063e14487a5f1ec", func := "inquest/inquestlaw13.WireReplies", spec := "wireReplies", unfollowed := true, recurses := true, named := ["inquest/wire.codes"], apart := false, laid := [("inquest/wire.codes", laid_inquest_wire_codes)], narrowed := true }
def WireRepliesUptoSaid : Prop := wireRepliesUptoRow.holds Tryd.pinned (OpenSpec.upto wireRepliesSpec)

/-- 'inquestlaw13.WireTold', WHERE WHAT IT READS IS OF BULK AT MOST 1048576: true; the input reads as it did. -/
def wireToldUptoRow : OpenClaim := { program := "ytibegbmehpggbaadoor", sum := "05492a5681d0f3f401424ead689c4f8bfb07fc46c612a6d86063e14487a5f1ec", func := "inquest/inquestlaw13.WireTold", spec := "wireTold", unfollowed := true, recurses := true, named := ["inquest/wire.codes"], apart := false, laid := [("inquest/wire.codes", laid_inquest_wire_codes)], narrowed := true }
def WireToldUptoSaid : Prop := wireToldUptoRow.holds Tryd.pinned (OpenSpec.upto wireToldSpec)

end Rows
end Go.Proofs.YtibegbmehpggbaaDoor
