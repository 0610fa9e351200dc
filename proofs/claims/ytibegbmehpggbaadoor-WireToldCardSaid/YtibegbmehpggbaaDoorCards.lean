/-
  DERIVED. GIVEN WITH THE SEED: THE CARDS: each row of YtibegbmehpggbaaDoorRows.lean that lists a variable, with what it lists TIED to the program's text (the seventh form; the later family's looks); each row that meets fmt, with fmt's text TOLD by the authors' own Lean function (tested against real Go, not proved from fmt's source: count such statements apart). THE CARD IS WHAT COUNTS. Prove the row's statement (the work); the ties are given (YtibegbmehpggbaaDoorTie.lean); close each card by the builder's one call (the guide's Derived/Test/ToyasCard.lean, 'card_holds'). Laid BY PROGRAM, IN A SANDBOX (cutbox-door.mjs). By AI agents, Wed Nov 11 2026. No macro, syntax, notation, axiom, sorry.
-/
import Derived.Test.YtibegbmehpggbaaDoorRows
import GoSem.ClaimSeven
namespace Go.Proofs.YtibegbmehpggbaaDoor
namespace Rows

/-- THE TIED CARD OF 'inquestlaw13.WireAnswers'. -/
def wireAnswersCard : Claim7 := { stood := { row := wireAnswersRow, standIns := [], harness := (true, "dbc74d41e72bd0f08feca9f930f7e57c720285395eb5e573d162fd86a99cb2c4"), looks := false }, kinds := [], alts := [], laidByText := true, laidKinds := [.data], laidTests := true, laidLooks := .later }
def WireAnswersCardSaid : Prop := Claim7.holds Tryd.pinned (.plain (OpenSpec.ofChange wireAnswersSpec)) wireAnswersCard

/-- THE TIED CARD OF 'inquestlaw13.WireReplies'. -/
def wireRepliesCard : Claim7 := { stood := { row := wireRepliesRow, standIns := [], harness := (true, "dbc74d41e72bd0f08feca9f930f7e57c720285395eb5e573d162fd86a99cb2c4"), looks := false }, kinds := [], alts := [], laidByText := true, laidKinds := [.data], laidTests := true, laidLooks := .later }
def WireRepliesCardSaid : Prop := Claim7.holds Tryd.pinned (.plain (OpenSpec.ofChange wireRepliesSpec)) wireRepliesCard

/-- THE TIED CARD OF 'inquestlaw13.WireTold'. -/
def wireToldCard : Claim7 := { stood := { row := wireToldRow, standIns := [], harness := (true, "dbc74d41e72bd0f08feca9f930f7e57c720285395eb5e573d162fd86a99cb2c4"), looks := false }, kinds := [], alts := [], laidByText := true, laidKinds := [.data], laidTests := true, laidLooks := .later }
def WireToldCardSaid : Prop := Claim7.holds Tryd.pinned (.plain (OpenSpec.ofChange wireToldSpec)) wireToldCard

/-- THE SECOND FORM's CARD OF 'inquestlaw13.WireAnswers'. -/
def wireAnswersUptoCard : Claim7 := { stood := { row := wireAnswersUptoRow, standIns := [], harness := (true, "dbc74d41e72bd0f08feca9f930f7e57c720285395eb5e573d162fd86a99cb2c4"), looks := false }, kinds := [], alts := [], laidByText := true, laidKinds := [.data], laidTests := true, laidLooks := .later }
def WireAnswersUptoCardSaid : Prop := Claim7.holds Tryd.pinned (.plain (OpenSpec.upto wireAnswersSpec)) wireAnswersUptoCard

/-- THE SECOND FORM's CARD OF 'inquestlaw13.WireReplies'. -/
def wireRepliesUptoCard : Claim7 := { stood := { row := wireRepliesUptoRow, standIns := [], harness := (true, "dbc74d41e72bd0f08feca9f930f7e57c720285395eb5e573d162fd86a99cb2c4"), looks := false }, kinds := [], alts := [], laidByText := true, laidKinds := [.data], laidTests := true, laidLooks := .later }
def WireRepliesUptoCardSaid : Prop := Claim7.holds Tryd.pinned (.plain (OpenSpec.upto wireRepliesSpec)) wireRepliesUptoCard

/-- THE SECOND FORM's CARD OF 'inquestlaw13.WireTold'. -/
def wireToldUptoCard : Claim7 := { stood := { row := wireToldUptoRow, standIns := [], harness := (true, "dbc74d41e72bd0f08feca9f930f7e57c720285395eb5e573d162fd86a99cb2c4"), looks := false }, kinds := [], alts := [], laidByText := true, laidKinds := [.data], laidTests := true, laidLooks := .later }
def WireToldUptoCardSaid : Prop := Claim7.holds Tryd.pinned (.plain (OpenSpec.upto wireToldSpec)) wireToldUptoCard
end Rows
end Go.Proofs.YtibegbmehpggbaaDoor
