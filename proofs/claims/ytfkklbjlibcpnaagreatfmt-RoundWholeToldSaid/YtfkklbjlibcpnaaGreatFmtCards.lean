/-
  DERIVED. GIVEN WITH THE SEED: THE CARDS: each row of YtfkklbjlibcpnaaGreatFmtRows.lean that lists a variable, with what it lists TIED to the program's text (the seventh form; the later family's looks); each row that meets fmt, with fmt's text TOLD by the authors' own Lean function (tested against real Go, not proved from fmt's source: count such statements apart). THE CARD IS WHAT COUNTS. Prove the row's statement (the work); the ties are given (YtfkklbjlibcpnaaGreatFmtTie.lean); close each card by the builder's one call (the guide's Derived/Test/ToyasCard.lean, 'card_holds'). Laid BY PROGRAM, IN A SANDBOX (cutbox-door.mjs). By AI agents, Wed Nov 11 2026. No macro, syntax, notation, axiom, sorry.
-/
import Derived.Test.YtfkklbjlibcpnaaGreatFmtRows
import GoSem.ClaimSeven
namespace Go.Proofs.YtfkklbjlibcpnaaGreatFmt
namespace Rows

/-- THE TOLD AND TIED CARD OF 'plumblaw4.RoundWhole'. -/
def roundWholeCard : Claim7 := { stood := { row := roundWholeRow, standIns := [], harness := (true, "850495afab302cf217c8654563e11e20950b4253f046ff479e70b9b03b034b33"), looks := true }, told := true, laidByText := true, laidKinds := [.data, .data, .data, .data, .data, .data, .data, .data, .data, .pinned], laidTests := true, laidLooks := .later, goes := false }
def RoundWholeToldSaid : Prop := Claim7.holds Tryz.pinned (.plain (OpenSpec.ofChange roundWholeSpec)) roundWholeCard
/-- ITS FALSE NEIGHBOUR. Refute it at one input. -/
def RoundWholeToldWrongFalsely : Prop := Claim7.holds Tryz.pinned (.plain (OpenSpec.ofChange roundWholeWrong)) roundWholeCard

/-- THE TOLD AND TIED CARD OF 'plumblaw4.RoundTurns'. -/
def roundTurnsCard : Claim7 := { stood := { row := roundTurnsRow, standIns := [], harness := (true, "850495afab302cf217c8654563e11e20950b4253f046ff479e70b9b03b034b33"), looks := true }, told := true, laidByText := true, laidKinds := [.data, .data, .data, .data, .data, .data, .data, .data, .data, .pinned], laidTests := true, laidLooks := .later, goes := false }
def RoundTurnsToldSaid : Prop := Claim7.holds Tryz.pinned (.plain (OpenSpec.ofChange roundTurnsSpec)) roundTurnsCard
/-- ITS FALSE NEIGHBOUR. Refute it at one input. -/
def RoundTurnsToldWrongFalsely : Prop := Claim7.holds Tryz.pinned (.plain (OpenSpec.ofChange roundTurnsWrong)) roundTurnsCard

/-- THE TOLD AND TIED CARD OF 'plumblaw4.RoundOwn'. -/
def roundOwnCard : Claim7 := { stood := { row := roundOwnRow, standIns := [], harness := (true, "850495afab302cf217c8654563e11e20950b4253f046ff479e70b9b03b034b33"), looks := true }, told := true, laidByText := true, laidKinds := [.data, .data, .data, .data, .data, .data, .data, .data, .data, .pinned], laidTests := true, laidLooks := .later, goes := false }
def RoundOwnToldSaid : Prop := Claim7.holds Tryz.pinned (.plain (OpenSpec.ofChange roundOwnSpec)) roundOwnCard
/-- ITS FALSE NEIGHBOUR. Refute it at one input. -/
def RoundOwnToldWrongFalsely : Prop := Claim7.holds Tryz.pinned (.plain (OpenSpec.ofChange roundOwnWrong)) roundOwnCard
end Rows
end Go.Proofs.YtfkklbjlibcpnaaGreatFmt
