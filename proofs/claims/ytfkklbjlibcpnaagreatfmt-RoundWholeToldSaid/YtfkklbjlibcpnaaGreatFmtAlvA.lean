/- Proved here: walks of Add and Add32 of one and one, for every input that the statements name. -/
import Derived.Test.YtfkklbjlibcpnaaGreatFmtRndB
import Derived.Test.YtfkklbjlibcpnaaGreatFmtBitB
import Derived.Laws.Cover2
import Derived.Laws.FloatArith
namespace Go.Proofs
open Go Go.RowKit Go.PB

theorem run_f32frombits (x : Int) (w : World) : (callFunc 114 #[.int .u32 x]).run Tryz.prog w = .ok (.value (.float .f32 x.toNat)) w := by
  rw [run_callFunc_extern (fn := Tryz.f114) (e := Extern.MathFloatBits.float32frombits) Tryz.func114 (by kernel_rfl) (by kernel_rfl) (by rfl) (by rfl)]
  rfl
theorem run_f32bits (x : Nat) (w : World) : (callFunc 56 #[.float .f32 x]).run Tryz.prog w = .ok (.value (.int .u32 x)) w := by
  rw [run_callFunc_extern (fn := Tryz.f56) (e := Extern.MathFloatBits.float32bits) Tryz.func56 (by kernel_rfl) (by kernel_rfl) (by rfl) (by rfl)]
  rfl

set_option maxRecDepth 100000 in
set_option maxHeartbeats 1000000 in
theorem pattern_one (w : World) : Calls Tryz.prog 113 #[.int .i64 1065353216] w fun e w' => e = .returned (.bool true) ∧ w = w' := by
  go_enter Tryz.func113, Tryz.ntmps113
  go_wp2
  go_ret
  exact ⟨rfl, rfl⟩
set_option maxRecDepth 100000 in
set_option maxHeartbeats 1000000 in
theorem Float32_one (w : World) : Calls Tryz.prog 74 #[.int .i64 1065353216] w fun e w' => e = .returned (.float .f32 1065353216) ∧ w = w' := by
  have hP := pattern_one w
  have hr := run_f32frombits 1065353216
  go_enter Tryz.func74, Tryz.ntmps74
  go_wp2_with (first | (go_at_call 113; (with_reducible refine hP.mono ?_); rintro e w' ⟨rfl, rfl⟩))
  go_ret
  exact ⟨rfl, rfl⟩
set_option maxRecDepth 100000 in
set_option maxHeartbeats 1000000 in
theorem Of32_two (w : World) : Calls Tryz.prog 20 #[.float .f32 1073741824] w fun e w' => e = .returned (.int .i64 1073741824) ∧ w = w' := by
  have hr := run_f32bits 1073741824
  simp only [Int.cast_ofNat_Int] at hr
  have hs : (FloatKind.f32.format.order 1073741824 1073741824 != some .eq) = false := by decide
  go_enter Tryz.func20, Tryz.ntmps20
  go_wp2
  go_ret
  exact ⟨rfl, rfl⟩
set_option maxRecDepth 100000 in
set_option maxHeartbeats 1000000 in
theorem Widen_one (w : World) : Calls Tryz.prog 37 #[.int .i64 1065353216] w fun e w' => e = .returned (.int .i64 4607182418800017408) ∧ w = w' := by
  have hF := Float32_one w
  have hc : ∀ w, (convert 37 29 (.float .f32 1065353216)).run Tryz.prog w = .ok (.float .f64 4607182418800017408) w := fun w =>
    run_convert_float_float w 37 29 .f32 .f64 1065353216 4607182418800017408 (by kernel_rfl) (by kernel_rfl) (by decide)
  have hO := Of_walk 4607182418800017408 4607182418800017408 (by decide) w (by
    have : (FloatKind.f64.format.order 4607182418800017408 4607182418800017408 != some .eq) = false := by decide
    simp [binOp_float_cmp_neq, this])
  go_enter Tryz.func37, Tryz.ntmps37
  go_wp2_with (first | (go_at_call 74; (with_reducible refine hF.mono ?_); rintro e w' ⟨rfl, rfl⟩) | (go_at_call 18; (with_reducible refine hO.mono ?_); rintro e w' ⟨rfl, rfl⟩))
  go_ret
  exact ⟨rfl, rfl⟩

theorem nrm_one : Nrm 4607182418800017408 false 4607182418800017408 := ⟨by decide, by decide, rfl⟩

set_option maxRecDepth 100000 in
set_option maxHeartbeats 1000000 in
theorem both_one (w : World) : Calls Tryz.prog 73 #[.int .i64 1065353216, .int .i64 1065353216] w fun e w' => e = .returned (.tuple #[.int .i64 4607182418800017408, .int .i64 4607182418800017408, .bool true]) ∧ Chg [] w w' := by
  have hW := Widen_one w
  obtain ⟨W, hWW⟩ : ∃ W, w.alloc (.cells #[.int .i64 4607182418800017408, .int .i64 4607182418800017408] 3) = W := ⟨_, rfl⟩
  have g1 : Has W w.heap.size (.cells #[.int .i64 4607182418800017408, .int .i64 4607182418800017408] 3) := by rw [← hWW]; exact Has.new _ _
  have hc : Chg [] w W := by rw [← hWW]; exact (Chg.refl [] w).alloc _
  have hf := finite2_walk 4607182418800017408 4607182418800017408 w.heap.size 2 2 2 W (by rw [g1.cell]; rfl) (by rw [g1.cell]; rfl) (Class_nrm nrm_one W) (Class_nrm nrm_one W) (by omega) (by omega)
  go_enter Tryz.func73, Tryz.ntmps73
  go_wp2_with (first | (go_at_call 37; (with_reducible refine hW.mono ?_); rintro e w' ⟨rfl, rfl⟩) | (go_at_call 41; (with_reducible refine hf.mono ?_); rintro e w' ⟨rfl, rfl⟩))
  go_ret3
  exact ⟨rfl, hc⟩

set_option maxRecDepth 100000 in
set_option maxHeartbeats 2000000 in
theorem single0_two (ok : Bool) (f : Value) (w : World) :
    Calls Tryz.prog 52 #[.int .i64 0, .float .f32 1073741824, .bool ok, f] w fun x w' => x = .returned (.tuple #[.int .i64 1073741824, .int .i64 0]) ∧ Chg [] w w' := by
  have hF := find0_walk w
  have hO := fun w => Of32_two w
  have HO := Lib.hid hO
  clear hO
  go_enter Tryz.func52, Tryz.ntmps52
  go_wp2_with (first | (go_at_call 57; (with_reducible refine hF.mono ?_); clear hF; rintro e w1 ⟨rfl, hc1⟩) | (go_at_call 20; (with_reducible refine (HO.out _).mono ?_); rintro e w2 ⟨rfl, rfl⟩))
  all_goals go_ret2
  all_goals exact ⟨rfl, hc1.alloc _⟩

set_option maxRecDepth 100000 in
set_option maxHeartbeats 2000000 in
theorem Add32_one (w : World) : Calls Tryz.prog 29 #[.int .i64 1065353216, .int .i64 1065353216, .int .i64 0] w fun x w' => x = .returned (.tuple #[.int .i64 1073741824, .int .i64 0]) ∧ Chg [] w w' := by
  have hB := both_one w
  have hF := fun w => Float32_one w
  have hS := fun f w => single0_two true f w
  have ha : ∀ w, (binOp .add 37 (.float .f32 1065353216) (.float .f32 1065353216)).run Tryz.prog w = .ok (.float .f32 1073741824) w := fun w => run_float_arith w .add 37 .f32 _ _ _ (by decide)
  have HF := Lib.hid hF; have HS := Lib.hid hS
  clear hF hS
  go_enter Tryz.func29, Tryz.ntmps29
  go_wp2_with (first | (go_at_call 73; (with_reducible refine hB.mono ?_); clear hB; rintro e w1 ⟨rfl, hc1⟩) | (go_at_call 74; (with_reducible refine (HF.out _).mono ?_); rintro e w2 ⟨rfl, rfl⟩) | (go_at_call 52; (with_reducible refine (HS.out _ _).mono ?_); rintro e w3 ⟨rfl, hc3⟩))
  all_goals go_ret2
  all_goals exact ⟨rfl, ((hc1.alloc _).alloc _).trans hc3⟩

theorem Add_one (w : World) : Calls Tryz.prog 12 #[.int .i64 4607182418800017408, .int .i64 4607182418800017408, .int .i64 0] w fun x w' => x = .returned (.tuple #[.int .i64 4611686018427387904, .int .i64 0]) ∧ Chg [] w w' :=
  Add0_walk 4607182418800017408 4607182418800017408 4611686018427387904 4607182418800017408 4607182418800017408 4611686018427387904 2 2 w (by decide) (by decide)
    (fun w => run_float_arith w .add 29 .f64 _ _ _ (by decide))
    (fun w => Of_walk 4611686018427387904 4611686018427387904 (by decide) w (by
      have : (FloatKind.f64.format.order 4611686018427387904 4611686018427387904 != some .eq) = false := by decide
      simp [binOp_float_cmp_neq, this]))
    (Class_nrm nrm_one) (Class_nrm nrm_one) (by omega) (by omega)
end Go.Proofs
