/- Proved here: closed facts on the row of RoundWhole and the program, the first part. -/
import Derived.Test.YtfkklbjlibcpnaaGreatFmtTie
import Derived.Test.YtfkklbjlibcpnaaGreatFmtCards
import Derived.ProofKit
import Derived.SevenTiedAt
import Derived.Stop.JoinedTold
namespace Go.Proofs.YtfkklbjlibcpnaaGreatFmt
open Go.ChangeShapes Go.WideShapes Go.ChangeAt Go.RowKit
open Go.Extern.Stop Go.Stop Go.Extern

theorem own : ownKnob Tryz.prog.godebug = none := by kernel_rfl
theorem laidOut : laidOutB Tryz.pinned.checked.prog = true := by kernel_rfl
theorem stops : Tryz.pinned.checked.prog.stops = ["fmt.Sprintf"] := by kernel_rfl
theorem stopKnobs : Tryz.pinned.checked.prog.stopKnobs = [] := by kernel_rfl
theorem quiet (os : Os) : Stop.quiet Tryz.pinned.checked.prog os := by
  intro k hk
  rw [stopKnobs] at hk
  cases hk

theorem k01 : Rows.roundWholeRow.wfByText (OpenSpec.ofChange Rows.roundWholeSpec) = true := by kernel_rfl
theorem k02 : mapsRowed Tryz.pinned.checked.prog = true := by kernel_rfl
theorem k03 : namedTie Tryz.pinned.checked.prog Rows.roundWholeRow.namedList (OpenSpec.ofChange Rows.roundWholeSpec).vars = true := by kernel_rfl
theorem k04 : Tryz.pinned.checked.prog.funcNamed Rows.roundWholeRow.func = some 3 := by kernel_rfl
theorem k05 : (Tryz.f3.params.toList.all fun t => Tryz.pinned.checked.prog.readableRec t) = true := by kernel_rfl
theorem k06 : Tryz.f3.isInstance Tryz.pinned.checked.prog Rows.roundWholeRow.origin Rows.roundWholeRow.targs := of_decide_eq_true (by kernel_rfl)
theorem k07 : Tryz.f3.isWrapper Tryz.pinned.checked.prog Rows.roundWholeRow.wrapper Rows.roundWholeRow.mainSum := of_decide_eq_true (by kernel_rfl)
theorem k08 : Tryz.pinned.checked.prog.envWorded = true := by kernel_rfl
theorem k09 : Rows.roundWholeRow.inPlace = Tryz.pinned.checked.prog.inPlace 3 := by kernel_rfl
theorem k10 : Rows.roundWholeRow.unfollowed = Tryz.pinned.checked.prog.unfollowed 3 := by kernel_rfl
theorem k11 : Rows.roundWholeRow.recurses = Tryz.pinned.checked.prog.recurses 3 := by kernel_rfl
theorem k12 : Rows.roundWholeRow.named = Tryz.pinned.checked.prog.varsNamed 3 := by kernel_rfl
end Go.Proofs.YtfkklbjlibcpnaaGreatFmt
