/- Proved here: walks of finite, settle and Add to the nearest, for every input that the statements name. -/
import Derived.Test.YtfkklbjlibcpnaaGreatFmtBitA
import Derived.Test.YtfkklbjlibcpnaaGreatFmtRndA
import Derived.LoopN
import Derived.Deep.QuietTactic
import Derived.BigQuiet
namespace Go.Proofs
open Go Go.RowKit Go.PB

set_option maxRecDepth 100000 in
set_option maxHeartbeats 2000000 in
theorem finite2_walk (a b : Int) (mb mc : Nat) (ca cb : Int) (w : World) (ha : w.cell? ⟨mb, 0, none⟩ = some (.int .i64 a)) (hb : w.cell? ⟨mb, 1, none⟩ = some (.int .i64 b))
    (hA : Calls Tryz.prog 9 #[.int .i64 a] w fun x w' => x = .returned (.int .i64 ca) ∧ w = w') (hB : Calls Tryz.prog 9 #[.int .i64 b] w fun x w' => x = .returned (.int .i64 cb) ∧ w = w') (h1 : ca < 3) (h2 : cb < 3) :
    Calls Tryz.prog 41 #[.slice (some ⟨mb, 0, none⟩) 2 mc] w fun x w' => x = .returned (.bool true) ∧ w = w' := by
  have e1 : ((3 : Int) ≤ ca) = False := by simp; omega
  have e2 : ((3 : Int) ≤ cb) = False := by simp; omega
  have e3 : (ca < 3) = True := by simp; omega
  have e4 : (cb < 3) = True := by simp; omega
  clear h1 h2
  go_enter Tryz.func41, Tryz.ntmps41
  go_wp2
  refine wp_loop_rounds 3 ?_
  rw [rounds_succ]
  go_wp2_with (first | (go_at_call 9; (with_reducible refine hA.mono ?_); rintro e w' ⟨rfl, rfl⟩))
  rw [rounds_succ]
  go_wp2_with (first | (go_at_call 9; (with_reducible refine hB.mono ?_); rintro e w' ⟨rfl, rfl⟩))
  rw [rounds_succ]
  go_wp2
  all_goals go_ret
  all_goals exact ⟨rfl, rfl⟩

set_option maxRecDepth 100000 in
set_option maxHeartbeats 2000000 in
theorem settle0_walk (n : Int) (ok : Bool) (f : Value) (w : World) :
    Calls Tryz.prog 21 #[.int .i64 0, .int .i64 n, .bool ok, f] w fun x w' => x = .returned (.tuple #[.int .i64 n, .int .i64 0]) ∧ Chg [] w w' := by
  have hF := find0_walk w
  go_enter Tryz.func21, Tryz.ntmps21
  go_wp2_with (first | (go_at_call 57; (with_reducible refine hF.mono ?_); clear hF; rintro e w1 ⟨rfl, hc1⟩))
  all_goals go_ret2
  all_goals exact ⟨rfl, hc1.alloc _⟩
end Go.Proofs

namespace Go.Proofs
open Go Go.RowKit Go.PB

set_option maxRecDepth 100000 in
set_option maxHeartbeats 2000000 in
/-- Add at way 0, both finite -/
theorem Add0_walk (a b n : Int) (x y z : Nat) (ca cb : Int) (w : World) (hx : (IntKind.u64.wrap a).toNat = x) (hy : (IntKind.u64.wrap b).toNat = y)
    (hadd : ∀ w, (binOp .add 29 (.float .f64 x) (.float .f64 y)).run Tryz.prog w = .ok (.float .f64 z) w)
    (hO : ∀ w, Calls Tryz.prog 18 #[.float .f64 z] w fun e w' => e = .returned (.int .i64 n) ∧ w = w')
    (hA : ∀ w, Calls Tryz.prog 9 #[.int .i64 a] w fun x w' => x = .returned (.int .i64 ca) ∧ w = w') (hB : ∀ w, Calls Tryz.prog 9 #[.int .i64 b] w fun x w' => x = .returned (.int .i64 cb) ∧ w = w') (h1 : ca < 3) (h2 : cb < 3) :
    Calls Tryz.prog 12 #[.int .i64 a, .int .i64 b, .int .i64 0] w fun e w' => e = .returned (.tuple #[.int .i64 n, .int .i64 0]) ∧ Chg [] w w' := by
  have hFa := fun w => (Float_walk a x hx w)
  have hFb := fun w => (Float_walk b y hy w)
  have HA := Lib.hid hA; have HB := Lib.hid hB; have HO := Lib.hid hO; have HFa := Lib.hid hFa; have HFb := Lib.hid hFb
  clear hA hB hO hFa hFb hx hy
  go_enter Tryz.func12, Tryz.ntmps12
  go_wp2
  go_quiet (first | (go_at_call 10; exact Calls.quiet_of_same ((HFa.out _).mono (fun _ _ h => ⟨h.1, h.2.symm⟩))) | (go_at_call 10; exact Calls.quiet_of_same ((HFb.out _).mono (fun _ _ h => ⟨h.1, h.2.symm⟩))) | (go_at_call 18; exact Calls.quiet_of_same ((HO.out _).mono (fun _ _ h => ⟨h.1, h.2.symm⟩))))
  go_wp2_with fail
  obtain ⟨W, hW⟩ : ∃ x, ((((w.alloc (.cells #[.int .i64 a] 3)).alloc (.cells #[.int .i64 b] 3)).drewN nq).alloc (.cells #[.int .i64 a, .int .i64 b] 3)) = x := ⟨_, rfl⟩
  have hc : Chg [] w W := by rw [← hW]; exact ((((Chg.refl [] w).alloc _).alloc _).drewN nq).alloc _
  have g1 : Has W (w.heap.size + 1 + 1) (.cells #[.int .i64 a, .int .i64 b] 3) := by
    have := Has.new ((((w.alloc (.cells #[.int .i64 a] 3)).alloc (.cells #[.int .i64 b] 3)).drewN nq)) (.cells #[.int .i64 a, .int .i64 b] 3)
    rw [hW] at this
    rw [show ((((w.alloc (.cells #[.int .i64 a] 3)).alloc (.cells #[.int .i64 b] 3)).drewN nq)).heap.size = w.heap.size + 1 + 1 by simp] at this
    exact this
  have hf := finite2_walk a b (w.heap.size + 1 + 1) 2 ca cb W (by rw [g1.cell]; rfl) (by rw [g1.cell]; rfl) (HA.out W) (HB.out W) h1 h2
  rw [hW]
  clear hW
  refine hf.mono ?_
  clear hf
  rintro e w1 ⟨rfl, rfl⟩
  have hs := fun f => settle0_walk n true f W
  go_wp2_with (first | (go_at_call 21; (with_reducible refine (hs _).mono ?_); clear hs; rintro e w2 ⟨rfl, hc2⟩))
  go_ret2
  exact ⟨rfl, hc.trans hc2⟩
end Go.Proofs
