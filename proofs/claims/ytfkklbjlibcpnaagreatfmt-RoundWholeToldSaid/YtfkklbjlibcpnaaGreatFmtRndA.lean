/- Proved here: walks of Valid, ways and find, for every input that the statements name. -/
import Derived.Test.YtfkklbjlibcpnaaGreatFmtIntB
import Derived.LoopN
import Derived.Laws.EntriesVeiled
import Derived.Laws.Rows
namespace Go.Proofs
open Go Go.RowKit Go.PB

set_option maxRecDepth 100000 in
set_option maxHeartbeats 2000000 in
theorem natValid_one_walk (d mb mc : Nat) (w : World) (h1 : 1 ≤ d) (h2 : d < 1073741824) (hm : w.cell? ⟨mb, 0, none⟩ = some (.int .i64 d)) :
    Calls Tryz.prog 160 #[.slice (some ⟨mb, 0, none⟩) 1 mc] w fun e w' => e = .returned (.bool true) ∧ w = w' := by
  have e1 : ¬ (d : Int) < 0 := by omega
  have e2 : ((d : Int) < 1073741824) = True := by simp; omega
  have e4 : ((1073741824 : Int) ≤ d) = False := by simp; omega
  have e3 : ¬ (d : Int) = 0 := by omega
  clear h1 h2
  go_enter Tryz.func160, Tryz.ntmps160
  go_wp2
  refine wp_loop_rounds 2 ?_
  rw [rounds_succ]
  go_wp2
  clear e1 e2 e4
  rw [rounds_succ]
  go_wp2
  all_goals go_ret
  all_goals (refine ⟨?_, rfl⟩; simp; try omega)

set_option maxRecDepth 100000 in
set_option maxHeartbeats 2000000 in
theorem dValid_one_walk (d mb mc : Nat) (w : World) (h1 : 1 ≤ d) (h2 : d < 1073741824) (hb : bits BinOp.and IntKind.i64 (d : Int) 1 = 1) (hm : w.cell? ⟨mb, 0, none⟩ = some (.int .i64 d)) (hmb : mb < w.heap.size) :
    Calls Tryz.prog 112 #[.agg #[.bool false, .slice (some ⟨mb, 0, none⟩) 1 mc, .int .i64 0]] w fun e w' => e = .returned (.bool true) ∧ Chg [] w w' := by
  obtain ⟨W0, hW0⟩ : ∃ W0, w.alloc (.cells #[.bool false, .slice (some ⟨mb, 0, none⟩) 1 mc, .int .i64 0] 47) = W0 := ⟨_, rfl⟩
  have hc0 : Chg [] w W0 := by rw [← hW0]; exact (Chg.refl [] w).alloc _
  have g1 : Has W0 w.heap.size (.cells #[.bool false, .slice (some ⟨mb, 0, none⟩) 1 mc, .int .i64 0] 47) := by rw [← hW0]; exact Has.new _ _
  have k1 : W0.cell? ⟨mb, 0, none⟩ = some (.int .i64 d) := by
    simp only [World.cell?] at hm ⊢
    rw [hc0.block mb hmb (by simp)]; exact hm
  have q1 : W0.cell? ⟨w.heap.size, 1, none⟩ = some (.slice (some ⟨mb, 0, none⟩) 1 mc) := by rw [g1.cell]; rfl
  have q2 : W0.cell? ⟨w.heap.size, 2, none⟩ = some (.int .i64 0) := by rw [g1.cell]; rfl
  have q0 : W0.cell? ⟨w.heap.size, 0, none⟩ = some (.bool false) := by rw [g1.cell]; rfl
  have hN := natValid_one_walk d mb mc W0 h1 h2 k1
  clear h1 h2 hm
  go_enter Tryz.func112, Tryz.ntmps112
  go_wp2_with (first | (go_at_call 160; (with_reducible refine hN.mono ?_); rintro e w' ⟨rfl, rfl⟩))
  go_ret
  exact ⟨rfl, hc0⟩
end Go.Proofs

namespace Go.Proofs
open Go Go.RowKit Go.PB

set_option maxRecDepth 100000 in
set_option maxHeartbeats 2000000 in
theorem ways_walk (w : World) :
    Calls Tryz.prog 99 #[] w fun e w' => ∃ v3, e = .returned (.agg #[.func (.func 147) #[] #[], .func (.func 145) #[] #[], .func (.func 146) #[] #[], v3]) ∧ Chg [] w w' := by
  go_enter Tryz.func99, Tryz.ntmps99
  go_wp2
  refine bodyPost_ret (v := .agg #[.func (.func 147) #[] #[], .func (.func 145) #[] #[], .func (.func 146) #[] #[], .func (.func 148) #[] #[.pointer (some ⟨w.heap.size + 1 + 1, 0, none⟩), .pointer (some ⟨w.heap.size + 1, 0, none⟩)]]) ?_ rfl ?_
  · have hq := ((Has.new w (.cells #[.func (.func 147) #[] #[], .func (.func 145) #[] #[], .func (.func 146) #[] #[], .func (.func 148) #[] #[.pointer (some ⟨w.heap.size + 1 + 1, 0, none⟩), .pointer (some ⟨w.heap.size + 1, 0, none⟩)]] 114)).alloc (.cells #[.func (.func 145) #[] #[]] 72)).alloc (.cells #[.func (.func 146) #[] #[]] 72)
    have hl := run_loadVar_row (P := Tryz.prog) _ w.heap.size 114 114 _ (0, 0) _ hq Tryz.underlying114 rfl (by kernel_rfl)
    simp [results, Tryz.f99, asAddr]
    exact hl
  · exact ⟨_, rfl, (((Chg.refl [] w).alloc _).alloc _).alloc _⟩

theorem idx0 (f : Fn) (v1 v2 v3 : Value) (w : World) : (Instr.index 114 (.agg #[.func f #[] #[], v1, v2, v3]) (.int .i64 0)).run Tryz.prog w = .ok (.agg #[.func f #[] #[]]) w := by
  have h1 := run_underlying Tryz.underlying114 w
  have h2 : (Tryz.prog.info? 74).map (fun i => (i.size)) = some 1 := by kernel_rfl
  obtain ⟨i, hi, hs⟩ := Option.map_eq_some_iff.1 h2
  have h3 := run_underlying Tryz.underlying74 w
  simp [Instr.index, Sem.run_bind, Result.andThen, asIntOf, h1, sizeOf, typeInfo, hi, part, hs, h3, isAgg]

set_option maxRecDepth 100000 in
set_option maxHeartbeats 2000000 in
theorem find0_walk (w : World) :
    Calls Tryz.prog 57 #[.int .i64 0] w fun e w' => e = .returned (.tuple #[.agg #[.func (.func 147) #[] #[]], .bool true]) ∧ Chg [] w w' := by
  obtain ⟨W0, hW0⟩ : ∃ W0, w.alloc (.cells #[.nilFunc] 74) = W0 := ⟨_, rfl⟩
  have g1 : Has W0 w.heap.size (.cells #[.nilFunc] 74) := by rw [← hW0]; exact Has.new _ _
  have hc0 : Chg [] w W0 := by rw [← hW0]; exact (Chg.refl [] w).alloc _
  have k1 := ways_walk W0
  have hix := fun v w => idx0 (.func 147) (.func (.func 145) #[] #[]) (.func (.func 146) #[] #[]) v w
  have hs0 : w.heap.size < W0.heap.size := g1.lt
  go_enter Tryz.func57, Tryz.ntmps57
  go_wp2_with (first | (go_at_call 99; (with_reducible refine k1.mono ?_); clear k1; rintro e w1 ⟨v3, rfl, hc1⟩))
  have k2 := ways_walk w1
  go_wp2_with (first | (go_at_call 99; (with_reducible refine k2.mono ?_); clear k2; rintro e w2 ⟨v4, rfl, hc2⟩; have h2 := (hc2.has (hc1.has g1 (by simp)) (by simp)); have z1 : w2.cell? ⟨w.heap.size, 0, none⟩ = some .nilFunc := (by rw [h2.cell]; rfl); have z2 := h2.free 0))
  refine bodyPost_ret (v := .tuple #[.agg #[.func (.func 147) #[] #[]], .bool true]) ?_ rfl ?_
  · have hq := h2.setSame 0 (.func (.func 147) #[] #[])
    have hl := run_loadVar_row (P := Tryz.prog) _ w.heap.size 74 74 _ (0, 0) _ hq Tryz.underlying74 rfl (by kernel_rfl)
    simp [results, Tryz.f57, asAddr]
    exact (congrArg (fun r => Result.andThen r fun a w' => Result.ok (Value.tuple #[a, Value.bool true]) w') hl).trans rfl
  · exact ⟨rfl, (((hc0.trans hc1).trans hc2).setCell (.inr (Nat.le_refl _)) _)⟩
end Go.Proofs

namespace Go.Proofs
open Go Go.RowKit Go.PB

theorem idx1 (f : Fn) (v1 v2 v3 : Value) (w : World) : (Instr.index 114 (.agg #[v1, .func f #[] #[], v2, v3]) (.int .i64 1)).run Tryz.prog w = .ok (.agg #[.func f #[] #[]]) w := by
  have h1 := run_underlying Tryz.underlying114 w
  have h2 : (Tryz.prog.info? 74).map (fun i => (i.size)) = some 1 := by kernel_rfl
  obtain ⟨i, hi, hs⟩ := Option.map_eq_some_iff.1 h2
  have h3 := run_underlying Tryz.underlying74 w
  simp [Instr.index, Sem.run_bind, Result.andThen, asIntOf, h1, sizeOf, typeInfo, hi, part, hs, h3, isAgg]

set_option maxRecDepth 100000 in
set_option maxHeartbeats 2000000 in
theorem find1_walk (w : World) :
    Calls Tryz.prog 57 #[.int .i64 1] w fun e w' => e = .returned (.tuple #[.agg #[.func (.func 145) #[] #[]], .bool true]) ∧ Chg [] w w' := by
  obtain ⟨W0, hW0⟩ : ∃ W0, w.alloc (.cells #[.nilFunc] 74) = W0 := ⟨_, rfl⟩
  have g1 : Has W0 w.heap.size (.cells #[.nilFunc] 74) := by rw [← hW0]; exact Has.new _ _
  have hc0 : Chg [] w W0 := by rw [← hW0]; exact (Chg.refl [] w).alloc _
  have k1 := ways_walk W0
  have hix := fun v w => idx1 (.func 145) (.func (.func 147) #[] #[]) (.func (.func 146) #[] #[]) v w
  have hs0 : w.heap.size < W0.heap.size := g1.lt
  go_enter Tryz.func57, Tryz.ntmps57
  go_wp2_with (first | (go_at_call 99; (with_reducible refine k1.mono ?_); clear k1; rintro e w1 ⟨v3, rfl, hc1⟩))
  have k2 := ways_walk w1
  go_wp2_with (first | (go_at_call 99; (with_reducible refine k2.mono ?_); clear k2; rintro e w2 ⟨v4, rfl, hc2⟩; have h2 := (hc2.has (hc1.has g1 (by simp)) (by simp)); have z1 : w2.cell? ⟨w.heap.size, 0, none⟩ = some .nilFunc := (by rw [h2.cell]; rfl); have z2 := h2.free 0))
  refine bodyPost_ret (v := .tuple #[.agg #[.func (.func 145) #[] #[]], .bool true]) ?_ rfl ?_
  · have hq := h2.setSame 0 (.func (.func 145) #[] #[])
    have hl := run_loadVar_row (P := Tryz.prog) _ w.heap.size 74 74 _ (0, 0) _ hq Tryz.underlying74 rfl (by kernel_rfl)
    simp [results, Tryz.f57, asAddr]
    exact (congrArg (fun r => Result.andThen r fun a w' => Result.ok (Value.tuple #[a, Value.bool true]) w') hl).trans rfl
  · exact ⟨rfl, (((hc0.trans hc1).trans hc2).setCell (.inr (Nat.le_refl _)) _)⟩
end Go.Proofs
