/- Proved here: walks of bits.Float, Of, Class, for every input that the statements name. -/
import Derived.Test.YtfkklbjlibcpnaaGreatFmtFloZ
namespace Go.Proofs
open Go Go.RowKit Go.PB
theorem run_frombits2 (x : Int) (w : World) : (callFunc 31 #[.int .u64 x]).run Tryz.prog w = .ok (.value (.float .f64 x.toNat)) w := by
  rw [run_callFunc_extern (fn := Tryz.f31) (e := Extern.MathFloatBits.float64frombits) Tryz.func31 (by kernel_rfl) (by kernel_rfl) (by rfl) (by rfl)]
  rfl
theorem run_f64bits (x : Nat) (w : World) : (callFunc 54 #[.float .f64 x]).run Tryz.prog w = .ok (.value (.int .u64 x)) w := by
  rw [run_callFunc_extern (fn := Tryz.f54) (e := Extern.MathFloatBits.float64bits) Tryz.func54 (by kernel_rfl) (by kernel_rfl) (by rfl) (by rfl)]
  rfl

set_option maxRecDepth 100000 in
set_option maxHeartbeats 1000000 in
theorem Float_walk (b : Int) (x : Nat) (hx : (IntKind.u64.wrap b).toNat = x) (w : World) : Calls Tryz.prog 10 #[.int .i64 b] w fun e w' => e = .returned (.float .f64 x) ∧ w = w' := by
  have hr := run_frombits2 (IntKind.u64.wrap b)
  rw [hx] at hr
  clear hx
  go_enter Tryz.func10, Tryz.ntmps10
  go_wp2
  go_ret
  exact ⟨rfl, rfl⟩

set_option maxRecDepth 100000 in
set_option maxHeartbeats 1000000 in
theorem Of_walk (x : Nat) (b : Int) (hb : IntKind.i64.wrap (x : Int) = b) (w : World) (hne : (binOp .neq 29 (.float .f64 x) (.float .f64 x)).run Tryz.prog w = .ok (.bool false) w) : Calls Tryz.prog 18 #[.float .f64 x] w fun e w' => e = .returned (.int .i64 b) ∧ w = w' := by
  have hr := run_f64bits x
  go_enter Tryz.func18, Tryz.ntmps18
  go_wp2
  go_ret
  exact ⟨rfl, rfl⟩
end Go.Proofs

namespace Go.Proofs
open Go Go.RowKit Go.PB

/-- the class by exponent and fraction: 0 zero, 1 denormal, 2 normal, 3 infinite, 4 NaN -/
def clsOf (e f t : Int) : Int := if e = t then (if f = 0 then 3 else 4) else if e = 0 then (if f = 0 then 0 else 1) else 2

set_option maxRecDepth 100000 in
set_option maxHeartbeats 2000000 in
theorem classed_walk (e f t : Int) (w : World) : Calls Tryz.prog 30 #[.int .i64 e, .int .i64 f, .int .i64 t] w fun x w' => x = .returned (.int .i64 (clsOf e f t)) ∧ w = w' := by
  go_enter Tryz.func30, Tryz.ntmps30
  go_wp2
  all_goals go_ret
  all_goals (refine ⟨?_, rfl⟩; simp only [clsOf]; simp_all)

set_option maxRecDepth 100000 in
set_option maxHeartbeats 2000000 in
theorem Class_walk (b ev fv c : Int) (he : bits BinOp.and IntKind.i64 (b / 4503599627370496) 2047 = ev) (hf : bits BinOp.and IntKind.i64 b 4503599627370495 = fv) (hc : clsOf ev fv 2047 = c) (w : World) :
    Calls Tryz.prog 9 #[.int .i64 b] w fun x w' => x = .returned (.int .i64 c) ∧ w = w' := by
  have hC := classed_walk ev fv 2047 w
  rw [hc] at hC
  clear hc
  go_enter Tryz.func9, Tryz.ntmps9
  go_wp2_with (first | (go_at_call 30; (with_reducible refine hC.mono ?_); rintro e w' ⟨rfl, rfl⟩))
  go_ret
  exact ⟨rfl, rfl⟩
end Go.Proofs
