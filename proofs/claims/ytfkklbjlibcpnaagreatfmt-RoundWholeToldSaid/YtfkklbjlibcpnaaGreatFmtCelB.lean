/- Proved here: closed facts on the row of RoundWhole and the program, the second part. -/
import Derived.Test.YtfkklbjlibcpnaaGreatFmtTie
import Derived.Test.YtfkklbjlibcpnaaGreatFmtCards
import Derived.ProofKit
import Derived.SevenTiedAt
import Derived.Stop.JoinedTold
namespace Go.Proofs.YtfkklbjlibcpnaaGreatFmt
open Go.ChangeShapes Go.WideShapes Go.ChangeAt Go.RowKit
open Go.Extern.Stop Go.Stop Go.Extern

theorem k13 : Rows.roundWholeRow.maps = (Tryz.f3.params.toList ++ (OpenSpec.ofChange Rows.roundWholeSpec).bare.plain.varTypes Tryz.pinned.checked.prog).any (Tryz.pinned.checked.prog.mapsRec ·) := by kernel_rfl
theorem k14 : Rows.roundWholeRow.ifaces = (Tryz.f3.params.toList ++ (OpenSpec.ofChange Rows.roundWholeSpec).bare.plain.varTypes Tryz.pinned.checked.prog).any (Tryz.pinned.checked.prog.ifacesRec ·) := by kernel_rfl
theorem k15 : Rows.roundWholeRow.mapsOut = Tryz.pinned.checked.prog.mapsAmong Tryz.f3.resultTypes.toList := by kernel_rfl
theorem k16 : Rows.roundWholeRow.loops = (Tryz.f3.params.toList ++ (OpenSpec.ofChange Rows.roundWholeSpec).bare.plain.varTypes Tryz.pinned.checked.prog).any (Tryz.pinned.checked.prog.loopsFrom ·) := by kernel_rfl
theorem k17 : Rows.roundWholeRow.wideKeys = (Tryz.f3.params.toList ++ (OpenSpec.ofChange Rows.roundWholeSpec).bare.plain.varTypes Tryz.pinned.checked.prog ++ Tryz.f3.resultTypes.toList).any (Tryz.pinned.checked.prog.wideKeysFrom ·) := by kernel_rfl
theorem k18 : ((OpenSpec.ofChange Rows.roundWholeSpec).vars.all fun n => Tryz.pinned.checked.prog.varReadable n) = true := by kernel_rfl
theorem k19 : Tryz.pinned.checked.prog.mainIs = some (true, "850495afab302cf217c8654563e11e20950b4253f046ff479e70b9b03b034b33".toList) := by kernel_rfl
theorem k20 : true = Tryz.pinned.checked.prog.looks [] := by kernel_rfl
theorem k21 : (Tryz.f3.params.toList.all fun t => !Tryz.pinned.checked.prog.wantsStandIn t) = true := by kernel_rfl
theorem k22 : Stop.anyFmt Rows.roundWholeRow.stops = true := by decide
theorem k23 : false = Rows.roundWholeRow.goesBy Tryz.pinned.checked.prog := by kernel_rfl
theorem k24 : Rows.roundWholeRow.veiled = (Tryz.f3.params.toList ++ (OpenSpec.ofChange Rows.roundWholeSpec).bare.plain.varTypes Tryz.pinned.checked.prog ++ Tryz.f3.resultTypes.toList).any (Tryz.pinned.checked.prog.veiledRec ·) := by kernel_rfl
theorem k25 : Rows.roundWholeRow.veiledFits Tryz.pinned.checked.prog Tryz.f3.params.toList (Tryz.f3.params.toList ++ (OpenSpec.ofChange Rows.roundWholeSpec).bare.plain.varTypes Tryz.pinned.checked.prog ++ Tryz.f3.resultTypes.toList) = true := by kernel_rfl
theorem k30 : Rows.roundWholeRow.moreEntering Tryz.pinned.checked.prog Tryz.f3 :=
  OpenClaim.moreEntering_of (by kernel_rfl) (by kernel_rfl) (by kernel_rfl) (by kernel_rfl) (by kernel_rfl) (by kernel_rfl) (by kernel_rfl) (by kernel_rfl) (by kernel_rfl) (by kernel_rfl)
end Go.Proofs.YtfkklbjlibcpnaaGreatFmt
