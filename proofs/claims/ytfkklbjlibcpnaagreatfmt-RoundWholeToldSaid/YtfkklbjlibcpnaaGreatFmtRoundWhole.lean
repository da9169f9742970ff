/- Proved here: plumblaw4.RoundWhole returns true for every two ints, told and tied: an int that comes back from its float rounded down is not greater, and the same where it has 53 bits at most; ToInt in all ways lies within 1 of the float. Conditions: the row's own (package variables as the program's text lays them). -/
import Derived.Test.YtfkklbjlibcpnaaGreatFmtCelA
import Derived.Test.YtfkklbjlibcpnaaGreatFmtCelB
import Derived.Test.YtfkklbjlibcpnaaGreatFmtWhoB
import Derived.Test.YtfkklbjlibcpnaaGreatFmtQuo1
import Derived.WalkKit
import Derived.OpenShut
import Derived.Lay
namespace Go.Proofs.YtfkklbjlibcpnaaGreatFmt
open Go.ChangeShapes Go.WideShapes Go.ChangeAt Go.RowKit Go.PB
open Go.Extern.Stop Go.Stop Go.Extern

theorem walked (n b : Int) (w : World) (h1 : -9223372036854775808 ≤ n) (h2 : n ≤ 9223372036854775807) (h3 : -9223372036854775808 ≤ b) (h4 : b ≤ 9223372036854775807) :
    Calls Tryz.prog 3 #[.int .i64 n, .int .i64 b] w fun e w' => e = .returned (.bool true) ∧ Chg [] w w' :=
  whole_walk n b h1 h2 h3 h4 w fun W => alive_walk W fun W ob xa xb ba bb na nb A B hA a0 hB b0 ho => quotient_c ob xa xb ba bb na nb A B W hA a0 hB b0 ho

set_option maxRecDepth 100000 in
theorem lifted (os : Os) (started : os.Started) (H : Type) (enc : TypeId × Value → H) :
    ReturnsInTold none {} Tryz.checked os 3 .any Input.okWide ((OpenSpec.ofChange Rows.roundWholeSpec).preRow enc Tryz.prog Tryz.f3 [] false Rows.roundWholeRow.laid) (fun F => ((OpenSpec.ofChange Rows.roundWholeSpec).at F).post enc Tryz.prog Tryz.f3 false true false false) (aloneAtReturn Tryz.prog) nothingAlways := by
  refine returnsInTold_of_row (C := Tryz.checked) (s := OpenSpec.ofChange Rows.roundWholeSpec) (by kernel_rfl) own started (by kernel_rfl) Tryz.func3
    (fun F => ⟨World.laidAll Tryz.prog os Rows.roundWholeRow.laid, F.over fun _ _ => 0, ⟨#[], #[.int .i64 0, .int .i64 0], []⟩, World.laidAll_os _ _ _, World.shaped_of_ZipB (by kernel_rfl) (by kernel_rfl), rfl, (Input.okWide_of_okWideB (by kernel_rfl)).2,
      OpenSpec.preRow_of_B rfl 8 (by kernel_rfl) (by kernel_rfl) (by rw [MakeChecks.laidMetH_plain _ _ _ (by kernel_rfl)]; exact laidMet_laidAll _ (by kernel_rfl) (by kernel_rfl)), by
        simp only [Assume.holds]
        exact ⟨nofun, nofun, nofun, nofun, nofun, nofun⟩, F.over_answers _⟩) ?_
  intro F W base args ds gs before _ hF hval0 hW _ _ _ _ _
  have hval : ∀ (j : Nat) t v, Tryz.f3.params[j]? = some t → args[j]? = some v → Value.okWide Tryz.prog W .any base t v := hval0
  have hW' := hW
  obtain ⟨p, q, hA0, hV, rfl, hfz, hnd⟩ := hW
  have hA : DataW.TrodAll enc Tryz.prog W 0 (fun _ => true) true Tryz.f3.params.toList args.toList ds p := hA0
  rw [Tryz.params3] at hA hval
  obtain ⟨v0, v1, d0, d1, p0, p1, rfl, rfl, rfl, h0, h1⟩ := trodAll_two hA
  obtain ⟨rfl, rfl⟩ := trodVars_none hV
  obtain ⟨n, rfl, rfl, rfl, wn⟩ := open_int Tryz.underlying3 (hval 0 3 v0 rfl rfl) h0
  obtain ⟨b, rfl, rfl, rfl, wb⟩ := open_int Tryz.underlying3 (hval 1 3 v1 rfl rfl) h1
  have hn : -9223372036854775808 ≤ n ∧ n ≤ 9223372036854775807 := by simpa [Lit.wf, IntKind.min, IntKind.max, IntKind.signed, IntKind.bits] using wn
  have hb : -9223372036854775808 ≤ b ∧ b ≤ 9223372036854775807 := by simpa [Lit.wf, IntKind.min, IntKind.max, IntKind.signed, IntKind.bits] using wb
  refine (walked n b W hn.1 hn.2 hb.1 hb.2).mono fun e W' ⟨he, hc⟩ => ?_
  subst he
  have hB := hc.below
  exact ⟨_, rfl, _, _, _, [], [] ++ [], [], hW', trodAll_mk1 (shut_bool Tryz.underlying4 _), trodAll_mk2 (shut_int Tryz.underlying3 wn) (shut_int Tryz.underlying3 wb), rfl, hB.frame _, fun h => by cases h⟩

set_option maxRecDepth 100000 in
theorem roundWhole_holds : Rows.RoundWholeToldSaid :=
  Claim7.holds_of_told_tied_any_at .later 3 Tryz.f3 "fmt.Sprintf" [] [] _ _ _ _ _ k01 rfl rfl rfl laidOut k02 rfl ⟨rfl, rfl, rfl, rfl, rfl, rfl, rfl⟩ rfl rfl k03 k04 Tryz.func3 k05
    k06 k07 stops.symm rfl stopKnobs.symm k08
    k09 k10 k11 k12 k13 k14 k15 k16 k17 rfl k18 rfl rfl
    rfl rfl
    rfl k19 k20 k21 k22 k23 roundWhole_row_tie k30
    ⟨_, WideRow.started_initial, quiet _⟩
    (fun os started _ H enc _ => lifted os started H enc) ⟨k24, k25⟩
end Go.Proofs.YtfkklbjlibcpnaaGreatFmt
