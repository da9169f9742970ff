/- Proved here: walks of NewInt of a negative number and of stuck of an exact one, for every input that the statements name. -/
import Derived.Test.YtfkklbjlibcpnaaGreatFmtIntB
namespace Go.Proofs
open Go Go.RowKit Go.PB

set_option maxRecDepth 100000 in
set_option maxHeartbeats 1000000 in
theorem NewInt_neg_walk (x : Nat) (h1 : 1 ≤ x) (hx : x ≤ 2 ^ 63) (w : World) : Calls Tryz.prog 23 #[.int .i64 (-(x : Int))] w fun e w' => e = .returned (.pointer (some ⟨w.heap.size + 1, 0, none⟩)) ∧ IntOf w' (w.heap.size + 1) true (.slice (some ⟨w.heap.size, 0, none⟩) 1 1) 1 1 (fun _ => x) [w.heap.size] ∧ Chg [] w w' := by
  have e1 : IntKind.u64.wrap (-(x : Int)) = 18446744073709551616 - (x : Int) := by simp [IntKind.wrap, IntKind.bits, IntKind.signed]; omega
  have e1b : IntKind.u64.wrap (-(18446744073709551616 - (x : Int))) = x := by simp [IntKind.wrap, IntKind.bits, IntKind.signed]; omega
  have e1c : IntKind.u64.wrap ((x : Int) - 18446744073709551616) = x := by simp [IntKind.wrap, IntKind.bits, IntKind.signed]; omega
  have e2 : (-(x : Int)) < 0 := by omega
  have e3 : ¬ (-(x : Int)) = 0 := by omega
  have e4 : ¬ (x : Int) = 0 := by omega
  have e5 : (0 : Int) < x := by omega
  have Hx := Lib.hid hx; clear hx
  go_enter Tryz.func23, Tryz.ntmps23
  go_wp2
  all_goals go_ret
  have hN := Has.new (w.alloc (.cells #[.int .u64 x] 80)) (.cells #[.bool true, .slice (some ⟨w.heap.size, 0, none⟩) 1 1] 83)
  rw [show (w.alloc (.cells #[.int .u64 (x : Int)] 80)).heap.size = w.heap.size + 1 by simp] at hN
  refine ⟨rfl, ⟨⟨_, hN⟩, ⟨?_, by omega, by omega, .inr ⟨_, rfl, ⟨80, ?_⟩, rfl⟩⟩, by simp⟩, Chg.alloc (Chg.alloc (Chg.refl [] w) _) _⟩
  · intro j hj; have := Hx.out; show x < 2 ^ 64; omega
  · exact (Has.new _ _).alloc _

/-- what stuck leaves: a new Int of m + 1 words -/
def StuckPost (neg more : Bool) (e1 : Int) (m : Nat) (X : Nat → Nat) (w : World) (e : Ending) (w' : World) : Prop :=
  ∃ a xb n D, e = .returned (.agg #[.pointer (some ⟨a, 0, none⟩), .int .i64 e1, .bool more]) ∧ IntOf w' a neg (.slice (some ⟨xb, 0, none⟩) (m + 1) n) (m + 1) n D [xb] ∧ Chg [] w w' ∧ w.heap.size ≤ a ∧ w.heap.size ≤ xb ∧ Hid (∀ j, j < m + 1 → D j = X j)

set_option maxRecDepth 100000 in
set_option maxHeartbeats 4000000 in
/-- stuck of a number that is all there -/
theorem stuck_walk (x m xn : Nat) (xp : Option Addr) (X : Nat → Nat) (Fx : List Nat) (neg : Bool) (ex e1 : Int) (w : World) (L : Nat)
    (hx : IntOf w x neg (.slice xp m xn) m xn X Fx) (h1 : 1 ≤ m) (hm : m ≤ 900000) (he : IntKind.i64.wrap (ex - 1) = e1) (hL : nlen (shD m 0 1 X) (m + 0 + 1) = L + 1) :
    Calls Tryz.prog 100 #[.agg #[.pointer (some ⟨x, 0, none⟩), .int .i64 ex, .bool false]] w (StuckPost neg false e1 L (shD m 0 1 X) w) := by
  have hLle : L + 1 ≤ m + 1 := by rw [← hL]; exact nlen_le _ _
  have hxl := hx.lt
  obtain ⟨W0, hW0⟩ : ∃ W0, ((w.alloc (.cells #[.pointer (some ⟨x, 0, none⟩), .int .i64 ex, .bool false] 41)).alloc (.cells #[.pointer none, .int .i64 0, .bool false] 41)).alloc (.cells #[.bool false, .slice none 0 0] 83) = W0 := ⟨_, rfl⟩
  have hc0 : Chg [] w W0 := by rw [← hW0]; exact (((Chg.refl [] w).alloc _).alloc _).alloc _
  have g1 : Has W0 w.heap.size (.cells #[.pointer (some ⟨x, 0, none⟩), .int .i64 ex, .bool false] 41) := by rw [← hW0]; exact ((Has.new _ _).alloc _).alloc _
  have g2 : Has W0 (w.heap.size + 1) (.cells #[.pointer none, .int .i64 0, .bool false] 41) := by
    have := (Has.new (w.alloc (.cells #[.pointer (some ⟨x, 0, none⟩), .int .i64 ex, .bool false] 41)) (.cells #[.pointer none, .int .i64 0, .bool false] 41)).alloc (.cells #[.bool false, .slice none 0 0] 83)
    rw [hW0] at this; simpa using this
  have g3 : Has W0 (w.heap.size + 1 + 1) (.cells #[.bool false, .slice none 0 0] 83) := by
    have := Has.new ((w.alloc (.cells #[.pointer (some ⟨x, 0, none⟩), .int .i64 ex, .bool false] 41)).alloc (.cells #[.pointer none, .int .i64 0, .bool false] 41)) (.cells #[.bool false, .slice none 0 0] 83)
    rw [hW0] at this; simpa using this
  have hs0 : W0.heap.size = w.heap.size + 3 := by rw [← hW0]; simp
  have hx0 := hx.chg hc0 (by simp) (by simp)
  have hLs := Lsh_walk (w.heap.size + 1 + 1) x 0 0 m xn 0 1 (.slice none 0 0) _ (fun _ => 0) X [] Fx false neg W0 ⟨⟨83, g3⟩, Sl.nil _ _, by simp⟩ hx0 h1 (by omega) (by omega) (by omega) (.inr (by simp)) (by simp)
  simp only [Nat.mul_zero, Nat.zero_add, Nat.add_zero, Int.natCast_one] at hLs hL
  have q0 : W0.cell? ⟨w.heap.size, 0, none⟩ = some (.pointer (some ⟨x, 0, none⟩)) := by rw [g1.cell]; rfl
  have q1 : W0.cell? ⟨w.heap.size, 1, none⟩ = some (.int .i64 ex) := by rw [g1.cell]; rfl
  have Hm := Lib.hid hm; have HL := Lib.hid hL; have HLle := Lib.hid hLle; have Hc0 := Lib.hid hc0; clear hm hL hLle hc0
  go_enter Tryz.func100, Tryz.ntmps100
  go_wp2_with (first | (go_at_call 89; (with_reducible refine hLs.mono ?_); clear hLs; rintro e w1 ⟨neg1, p1, len1, n1, D1, F1, rfl, hI1, hc1, hf1, hR1⟩; have u1 := hc1.has g1 (by simp <;> omega); have u2 := hc1.has g2 (by simp <;> omega); have u3 : w1.cell? ⟨w.heap.size, 2, none⟩ = some (.bool false) := (by rw [u1.cell]; rfl); have u4 : w1.cell? ⟨w.heap.size, 1, none⟩ = some (.int .i64 ex) := (by rw [u1.cell]; rfl); have p9 : w1.cell? ⟨w.heap.size + 1, 0, none⟩ = some (.pointer none) := (by rw [u2.cell]; rfl); have p10 : w1.cell? ⟨w.heap.size + 1, 1, none⟩ = some (.int .i64 0) := (by rw [u2.cell]; rfl); have p11 : w1.cell? ⟨w.heap.size + 1, 2, none⟩ = some (.bool false) := (by rw [u2.cell]; rfl); have p12 := u2.free 0; have p13 := u2.free 1; have p14 := u2.free 2))
  refine bodyPost_ret (v := .agg #[.pointer (some ⟨w.heap.size + 1 + 1, 0, none⟩), .int .i64 e1, .bool false]) ?_ rfl ?_
  · have hq := ((u2.setSame 0 (.pointer (some ⟨w.heap.size + 1 + 1, 0, none⟩))).setSame 1 (.int .i64 e1)).setSame 2 (.bool false)
    have hl := run_loadVar_row (P := Tryz.prog) _ (w.heap.size + 1) 41 41 _ (0, 0) _ hq Tryz.underlying41 rfl (by kernel_rfl)
    simp [results, Tryz.f100, asAddr]
    exact hl
  · have hf1 := hf1
    have hR := hR1.out
    rw [HL.out] at hR
    obtain ⟨r1, r2, r3⟩ := hR
    rw [r1, r2] at hI1
    have hC1 : Chg [] w w1 := Hc0.out.comp (R := []) hc1 (by simp) (fun x hx hl => by simp at hx; omega)
    have hst : ∀ x : Nat, x = w.heap.size + 1 → w.heap.size ≤ x := fun x h => by omega
    have hC2 := ((hC1.setCell (a := ⟨w.heap.size + 1, 0, none⟩) (.inr (hst _ rfl)) (.pointer (some ⟨w.heap.size + 1 + 1, 0, none⟩))).setCell (a := ⟨w.heap.size + 1, 1, none⟩) (.inr (hst _ rfl)) (.int .i64 e1)).setCell (a := ⟨w.heap.size + 1, 2, none⟩) (.inr (hst _ rfl)) (.bool false)
    have hC3 : Chg [w.heap.size + 1] w1 (((w1.setCell ⟨w.heap.size + 1, 0, none⟩ (.pointer (some ⟨w.heap.size + 1 + 1, 0, none⟩))).setCell ⟨w.heap.size + 1, 1, none⟩ (.int .i64 e1)).setCell ⟨w.heap.size + 1, 2, none⟩ (.bool false)) :=
      (((Chg.refl _ w1).setCell (.inl (by simp)) _).setCell (.inl (by simp)) _).setCell (.inl (by simp)) _
    have hF1 : ∀ b ∈ F1, w.heap.size + 3 ≤ b := fun b hb => by rcases hf1 b hb with h | h; simp at h; omega
    have hI5 := hI1.chg hC3 (by simp) (fun b hb h => by have := hF1 b hb; simp at h; omega)
    obtain ⟨hx1, hx2, hx3⟩ := hI5
    have hx2' := hx2
    obtain ⟨y1, y2, y3, y4⟩ := hx2
    rcases y4 with ⟨_, h0, _⟩ | ⟨b, hb, hrow, rfl⟩
    · omega
    · refine ⟨w.heap.size + 1 + 1, b, n1, D1, rfl, ?_, hC2, by omega, by have := hF1 b (by simp); omega, Lib.hid (fun j hj => r3 j (by have := HLle.out; omega))⟩
      rw [← hb]
      exact ⟨hx1, hx2', hx3⟩
end Go.Proofs
