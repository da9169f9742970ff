/- Proved here: walks of round.FromInt, rounding down, at every int, for every input that the statements name. -/
import Derived.Test.YtfkklbjlibcpnaaGreatFmtTo1
import Derived.Test.YtfkklbjlibcpnaaGreatFmtBitB
import Derived.Test.YtfkklbjlibcpnaaGreatFmtRndA
namespace Go.Proofs
open Go Go.RowKit Go.PB Go.WL

/-- what the exact number of an int is -/
def ExPost (neg : Bool) (m : Nat) (w : World) (e : Ending) (w' : World) : Prop :=
  ∃ a xb, e = .returned (.agg #[.pointer (some ⟨a, 0, none⟩), .int .i64 0, .bool false]) ∧ IntOf w' a neg (.slice (some ⟨xb, 0, none⟩) 1 1) 1 1 (fun _ => m) [xb] ∧ Chg [] w w' ∧ w.heap.size ≤ a ∧ w.heap.size ≤ xb
def Ex0Post (w : World) (e : Ending) (w' : World) : Prop :=
  ∃ a, e = .returned (.agg #[.pointer (some ⟨a, 0, none⟩), .int .i64 0, .bool false]) ∧ IntOf w' a false (.slice none 0 0) 0 0 (fun _ => 0) [] ∧ Chg [] w w' ∧ w.heap.size ≤ a

theorem NewInt_walk (n : Int) (neg : Bool) (m : Nat) (hn : n = if neg then -(m : Int) else m) (h1 : 1 ≤ m) (h2 : m ≤ 2 ^ 63) (h3 : neg = false → m < 2 ^ 63) (w : World) :
    Calls Tryz.prog 23 #[.int .i64 n] w fun e w' => e = .returned (.pointer (some ⟨w.heap.size + 1, 0, none⟩)) ∧ IntOf w' (w.heap.size + 1) neg (.slice (some ⟨w.heap.size, 0, none⟩) 1 1) 1 1 (fun _ => m) [w.heap.size] ∧ Chg [] w w' := by
  subst hn
  cases neg
  · exact NewInt_pos_walk m h1 (h3 rfl) w
  · exact NewInt_neg_walk m h1 h2 w

set_option maxRecDepth 100000 in
set_option maxHeartbeats 4000000 in
theorem exact_walk (n : Int) (neg : Bool) (m p : Nat) (hn : n = if neg then -(m : Int) else m) (h1 : 1 ≤ m) (h2 : m ≤ 2 ^ 63) (h3 : neg = false → m < 2 ^ 63) (w : World) (hp : w.cell? ⟨p, 0, none⟩ = some (.int .i64 n)) (hpl : p < w.heap.size) :
    Calls Tryz.prog 22 #[.pointer (some ⟨p, 0, none⟩)] w (ExPost neg m w) := by
  obtain ⟨W0, hW0⟩ : ∃ W0, w.alloc (.cells #[.pointer none, .int .i64 0, .bool false] 41) = W0 := ⟨_, rfl⟩
  have hc0 : Chg [] w W0 := by rw [← hW0]; exact (Chg.refl [] w).alloc _
  have g1 : Has W0 w.heap.size (.cells #[.pointer none, .int .i64 0, .bool false] 41) := by rw [← hW0]; exact Has.new _ _
  have hs0 : W0.heap.size = w.heap.size + 1 := by rw [← hW0]; simp
  have hN := NewInt_walk n neg m hn h1 h2 h3 W0
  have k1 : W0.cell? ⟨p, 0, none⟩ = some (.int .i64 n) := by
    simp only [World.cell?] at hp ⊢
    rw [hc0.block p hpl (by simp)]; exact hp
  clear hn h1 h2 h3 hp
  go_enter Tryz.func22, Tryz.ntmps22
  go_wp2_with (first | (go_at_call 23; (with_reducible refine hN.mono ?_); clear hN; rintro e w1 ⟨rfl, hI, hc1⟩; have u2 := hc1.has g1 (by simp); have p9 : w1.cell? ⟨w.heap.size, 0, none⟩ = some (.pointer none) := (by rw [u2.cell]; rfl); have p10 : w1.cell? ⟨w.heap.size, 1, none⟩ = some (.int .i64 0) := (by rw [u2.cell]; rfl); have p11 : w1.cell? ⟨w.heap.size, 2, none⟩ = some (.bool false) := (by rw [u2.cell]; rfl); have p12 := u2.free 0; have p13 := u2.free 1; have p14 := u2.free 2))
  refine bodyPost_ret (v := .agg #[.pointer (some ⟨w.heap.size + 1 + 1, 0, none⟩), .int .i64 0, .bool false]) ?_ rfl ?_
  · have hq := ((u2.setSame 0 (.pointer (some ⟨w.heap.size + 1 + 1, 0, none⟩))).setSame 1 (.int .i64 0)).setSame 2 (.bool false)
    have hl := run_loadVar_row (P := Tryz.prog) _ w.heap.size 41 41 _ (0, 0) _ hq Tryz.underlying41 rfl (by kernel_rfl)
    simp [results, Tryz.f22, asAddr]
    exact hl
  · have hC1 : Chg [] w w1 := hc0.trans hc1
    have hst : ∀ x : Nat, x = w.heap.size → w.heap.size ≤ x := fun x h => by omega
    have hC2 := ((hC1.setCell (a := ⟨w.heap.size, 0, none⟩) (.inr (hst _ rfl)) (.pointer (some ⟨w.heap.size + 1 + 1, 0, none⟩))).setCell (a := ⟨w.heap.size, 1, none⟩) (.inr (hst _ rfl)) (.int .i64 0)).setCell (a := ⟨w.heap.size, 2, none⟩) (.inr (hst _ rfl)) (.bool false)
    have hC3 : Chg [w.heap.size] w1 (((w1.setCell ⟨w.heap.size, 0, none⟩ (.pointer (some ⟨w.heap.size + 1 + 1, 0, none⟩))).setCell ⟨w.heap.size, 1, none⟩ (.int .i64 0)).setCell ⟨w.heap.size, 2, none⟩ (.bool false)) :=
      (((Chg.refl _ w1).setCell (.inl (by simp)) _).setCell (.inl (by simp)) _).setCell (.inl (by simp)) _
    rw [hs0] at hI
    exact ⟨_, _, rfl, hI.chg hC3 (by simp <;> omega) (by simp <;> omega), hC2, by omega, by omega⟩
set_option maxRecDepth 100000 in
set_option maxHeartbeats 4000000 in
theorem exact0_walk (p : Nat) (w : World) (hp : w.cell? ⟨p, 0, none⟩ = some (.int .i64 0)) (hpl : p < w.heap.size) :
    Calls Tryz.prog 22 #[.pointer (some ⟨p, 0, none⟩)] w (Ex0Post w) := by
  obtain ⟨W0, hW0⟩ : ∃ W0, w.alloc (.cells #[.pointer none, .int .i64 0, .bool false] 41) = W0 := ⟨_, rfl⟩
  have hc0 : Chg [] w W0 := by rw [← hW0]; exact (Chg.refl [] w).alloc _
  have g1 : Has W0 w.heap.size (.cells #[.pointer none, .int .i64 0, .bool false] 41) := by rw [← hW0]; exact Has.new _ _
  have hs0 : W0.heap.size = w.heap.size + 1 := by rw [← hW0]; simp
  have hN := NewInt_zero_walk W0
  have k1 : W0.cell? ⟨p, 0, none⟩ = some (.int .i64 0) := by
    simp only [World.cell?] at hp ⊢
    rw [hc0.block p hpl (by simp)]; exact hp
  clear hp
  go_enter Tryz.func22, Tryz.ntmps22
  go_wp2_with (first | (go_at_call 23; (with_reducible refine hN.mono ?_); clear hN; rintro e w1 ⟨rfl, hI, hc1⟩; have u2 := hc1.has g1 (by simp); have p9 : w1.cell? ⟨w.heap.size, 0, none⟩ = some (.pointer none) := (by rw [u2.cell]; rfl); have p10 : w1.cell? ⟨w.heap.size, 1, none⟩ = some (.int .i64 0) := (by rw [u2.cell]; rfl); have p11 : w1.cell? ⟨w.heap.size, 2, none⟩ = some (.bool false) := (by rw [u2.cell]; rfl); have p12 := u2.free 0; have p13 := u2.free 1; have p14 := u2.free 2))
  refine bodyPost_ret (v := .agg #[.pointer (some ⟨w.heap.size + 1, 0, none⟩), .int .i64 0, .bool false]) ?_ rfl ?_
  · have hq := ((u2.setSame 0 (.pointer (some ⟨w.heap.size + 1, 0, none⟩))).setSame 1 (.int .i64 0)).setSame 2 (.bool false)
    have hl := run_loadVar_row (P := Tryz.prog) _ w.heap.size 41 41 _ (0, 0) _ hq Tryz.underlying41 rfl (by kernel_rfl)
    simp [results, Tryz.f22, asAddr]
    exact hl
  · have hC1 : Chg [] w w1 := hc0.trans hc1
    have hst : ∀ x : Nat, x = w.heap.size → w.heap.size ≤ x := fun x h => by omega
    have hC2 := ((hC1.setCell (a := ⟨w.heap.size, 0, none⟩) (.inr (hst _ rfl)) (.pointer (some ⟨w.heap.size + 1, 0, none⟩))).setCell (a := ⟨w.heap.size, 1, none⟩) (.inr (hst _ rfl)) (.int .i64 0)).setCell (a := ⟨w.heap.size, 2, none⟩) (.inr (hst _ rfl)) (.bool false)
    have hC3 : Chg [w.heap.size] w1 (((w1.setCell ⟨w.heap.size, 0, none⟩ (.pointer (some ⟨w.heap.size + 1, 0, none⟩))).setCell ⟨w.heap.size, 1, none⟩ (.int .i64 0)).setCell ⟨w.heap.size, 2, none⟩ (.bool false)) :=
      (((Chg.refl _ w1).setCell (.inl (by simp)) _).setCell (.inl (by simp)) _).setCell (.inl (by simp)) _
    rw [hs0] at hI
    exact ⟨_, rfl, hI.chg hC3 (by simp <;> omega) (by simp <;> omega), hC2, by omega⟩

set_option maxRecDepth 100000 in
set_option maxHeartbeats 4000000 in
theorem settle1_walk (nat b : Int) (odd neg : Bool) (m p : Nat) (w : World) (_h1 : 1 ≤ m)
    (hE : ∀ W, Chg [] w W → Calls Tryz.prog 22 #[.pointer (some ⟨p, 0, none⟩)] W (ExPost neg m W))
    (hT : ∀ a xb W, IntOf W a neg (.slice (some ⟨xb, 0, none⟩) 1 1) 1 1 (fun _ => m) [xb] → Calls Tryz.prog 59 #[.agg #[.pointer (some ⟨a, 0, none⟩), .int .i64 0, .bool false], .agg #[.func (.func 145) #[] #[]]] W (ToPost b odd W)) :
    Calls Tryz.prog 21 #[.int .i64 1, .int .i64 nat, .bool true, .func (.func 22) #[] #[.pointer (some ⟨p, 0, none⟩)]] w fun e w' => e = .returned (.tuple #[.int .i64 b, .int .i64 0]) ∧ Chg [] w w' := by
  have hF := find1_walk w
  have HE := Lib.hid hE; have HT := Lib.hid hT
  clear hE hT
  go_enter Tryz.func21, Tryz.ntmps21
  go_wp2_with (first | (go_at_call 57; (with_reducible refine hF.mono ?_); clear hF; rintro e w1 ⟨rfl, hc1⟩))
  refine (HE.out _ (hc1.alloc _)).mono ?_
  rintro e w2 ⟨a, xb, rfl, hI, hc2, ha, hxb⟩
  have g1 := hc2.has (Has.new w1 (.cells #[.func (.func 145) #[] #[]] 74)) (by simp)
  have hI' := hI
  obtain ⟨⟨Ta, hIa⟩, _, _⟩ := hI'
  have hsgn : sgn neg 1 = if neg then -1 else 1 := by simp [sgn]
  have hs := fun W (hW : Has W a (.cells #[.bool neg, .slice (some ⟨xb, 0, none⟩) 1 1] Ta (0, 0))) => (Sign_walk a 1 1 (some ⟨xb, 0, none⟩) neg Ta W hW)
  rw [hsgn] at hs
  have Hs := Lib.hid hs
  clear hs hsgn
  have g2 := g1.alloc (.cells #[.pointer (some ⟨a, 0, none⟩), .int .i64 0, .bool false] 41)
  have g3 := Has.new w2 (.cells #[.pointer (some ⟨a, 0, none⟩), .int .i64 0, .bool false] 41)
  have c10 := g2.cell 0
  have hIc := hIa.alloc (.cells #[.pointer (some ⟨a, 0, none⟩), .int .i64 0, .bool false] 41)
  have hI2 := hI.chg ((Chg.refl [] w2).alloc (.cells #[.pointer (some ⟨a, 0, none⟩), .int .i64 0, .bool false] 41)) (by simp) (by simp)
  have hl := g1.lt
  cases neg
  all_goals
    go_wp2_with (first | (go_at_call 58; (with_reducible refine (Hs.out _ hIc).mono ?_); rintro e w3 ⟨rfl, rfl⟩) | (go_at_call 59; (with_reducible refine (HT.out _ _ _ hI2).mono ?_); rintro e w4 ⟨rfl, hc4⟩))
    go_ret2
    exact ⟨rfl, (((hc1.alloc _).trans hc2).alloc _).trans hc4⟩
end Go.Proofs

namespace Go.Proofs
open Go Go.RowKit Go.PB Go.WL Ieee

theorem order_self_word (neg : Bool) (r : Nat) (h : r ≤ 9218868437227405312) : double.order (double.word neg r) (double.word neg r) = some .eq := by
  unfold Format.order
  rcases read_cases (double.word neg r) with ⟨s, m, e, hr, h1, _⟩ | ⟨s, hr⟩ | ⟨s, t, hr⟩
  · rw [hr, order_units _ _ _ _ _ _ h1 h1]; simp [compare, compareOfLessAndEq]
  · rw [hr]; cases s <;> rfl
  · exfalso
    obtain ⟨a, b⟩ := word_mod neg (r := r) (by omega)
    unfold Format.read at hr
    rw [a, b, dbl_bin, dbl_inf] at hr
    by_cases h1 : r < 2 ^ 52
    · rw [if_pos h1] at hr; cases hr
    · rw [if_neg h1] at hr
      by_cases h2 : r < 2047 * 2 ^ 52
      · rw [if_pos h2] at hr; cases hr
      · rw [if_neg h2, if_pos (by omega)] at hr; cases hr
theorem nearest_word (neg : Bool) (m : Nat) (p : Int) : ∃ r, r ≤ 9218868437227405312 ∧ double.nearest neg m p = double.word neg r := by
  unfold Format.nearest
  by_cases h : m = 0
  · rw [if_pos h]; exact ⟨0, by omega, rfl⟩
  · rw [if_neg h]
    refine ⟨_, ?_, rfl⟩
    have : double.infRung = 9218868437227405312 := by decide
    rw [this]
    exact Nat.min_le_right _ _
theorem floatOf_self (n : Int) : (FloatKind.f64.format.order (floatOfInt .f64 n) (floatOfInt .f64 n) != some .eq) = false := by
  obtain ⟨r, hr, he⟩ := nearest_word (n < 0) n.natAbs 0
  have : FloatKind.f64.format.order (floatOfInt .f64 n) (floatOfInt .f64 n) = some .eq := by
    show double.order (double.nearest (n < 0) n.natAbs 0) (double.nearest (n < 0) n.natAbs 0) = _
    rw [he]; exact order_self_word _ r hr
  rw [this]; rfl
theorem Of_int_walk (n : Int) (w : World) : Calls Tryz.prog 18 #[.float .f64 (floatOfInt .f64 n)] w fun e w' => e = .returned (.int .i64 (IntKind.i64.wrap ((floatOfInt .f64 n : Nat) : Int))) ∧ w = w' :=
  Of_walk _ _ rfl w (by have := floatOf_self n; simp [binOp_float_cmp_neq, this])

set_option maxRecDepth 100000 in
set_option maxHeartbeats 4000000 in
theorem settle10_walk (nat : Int) (p : Nat) (w : World)
    (hE : ∀ W, Chg [] w W → Calls Tryz.prog 22 #[.pointer (some ⟨p, 0, none⟩)] W (Ex0Post W)) :
    Calls Tryz.prog 21 #[.int .i64 1, .int .i64 nat, .bool true, .func (.func 22) #[] #[.pointer (some ⟨p, 0, none⟩)]] w fun e w' => e = .returned (.tuple #[.int .i64 nat, .int .i64 0]) ∧ Chg [] w w' := by
  have hF := find1_walk w
  have HE := Lib.hid hE
  clear hE
  go_enter Tryz.func21, Tryz.ntmps21
  go_wp2_with (first | (go_at_call 57; (with_reducible refine hF.mono ?_); clear hF; rintro e w1 ⟨rfl, hc1⟩))
  refine (HE.out _ (hc1.alloc _)).mono ?_
  rintro e w2 ⟨a, rfl, hI, hc2, ha⟩
  have g1 := hc2.has (Has.new w1 (.cells #[.func (.func 145) #[] #[]] 74)) (by simp)
  obtain ⟨⟨Ta, hIa⟩, _, _⟩ := hI
  have hsgn : sgn false 0 = 0 := by simp [sgn]
  have hs := fun W (hW : Has W a (.cells #[.bool false, .slice none 0 0] Ta (0, 0))) => (Sign_walk a 0 0 none false Ta W hW)
  rw [hsgn] at hs
  have Hs := Lib.hid hs
  clear hs hsgn
  have hIc := hIa.alloc (.cells #[.pointer (some ⟨a, 0, none⟩), .int .i64 0, .bool false] 41)
  go_wp2_with (first | (go_at_call 58; (with_reducible refine (Hs.out _ hIc).mono ?_); rintro e w3 ⟨rfl, rfl⟩))
  go_ret2
  exact ⟨rfl, ((hc1.alloc _).trans hc2).alloc _⟩

set_option maxRecDepth 100000 in
set_option maxHeartbeats 4000000 in
theorem FromInt_core (n b : Int) (w : World)
    (hS : ∀ W, W = w.alloc (.cells #[.int .i64 n] 3) → Calls Tryz.prog 21 #[.int .i64 1, .int .i64 (IntKind.i64.wrap ((floatOfInt .f64 n : Nat) : Int)), .bool true, .func (.func 22) #[] #[.pointer (some ⟨w.heap.size, 0, none⟩)]] W fun e w' => e = .returned (.tuple #[.int .i64 b, .int .i64 0]) ∧ Chg [] W w') :
    Calls Tryz.prog 6 #[.int .i64 n, .int .i64 1] w fun e w' => e = .returned (.tuple #[.int .i64 b, .int .i64 0]) ∧ Chg [] w w' := by
  have hO := fun w => Of_int_walk n w
  have hS' := hS _ rfl
  generalize IntKind.i64.wrap ((floatOfInt .f64 n : Nat) : Int) = nat at *
  have HO := Lib.hid hO
  clear hO hS
  go_enter Tryz.func6, Tryz.ntmps6
  go_wp2_with (first | (go_at_call 18; (with_reducible refine (HO.out _).mono ?_); rintro e w' ⟨rfl, rfl⟩) | (go_at_call 21; (with_reducible refine hS'.mono ?_); rintro e w2 ⟨rfl, hc⟩))
  go_ret2
  exact ⟨rfl, ((Chg.refl [] w).alloc _).trans hc⟩

theorem FromInt0_walk (w : World) : Calls Tryz.prog 6 #[.int .i64 0, .int .i64 1] w fun e w' => e = .returned (.tuple #[.int .i64 0, .int .i64 0]) ∧ Chg [] w w' := by
  refine FromInt_core 0 0 w fun W hW => ?_
  have h0 : IntKind.i64.wrap ((floatOfInt .f64 0 : Nat) : Int) = 0 := by decide
  rw [h0]
  have hb : Has W w.heap.size (.cells #[.int .i64 0] 3) := by rw [hW]; exact Has.new _ _
  exact settle10_walk 0 w.heap.size W fun W' hc => exact0_walk w.heap.size W' (by rw [(hc.has hb (by simp)).cell]; rfl) (hc.has hb (by simp)).lt

/-- the words of the doubled number -/
theorem twice (m : Nat) (h1 : 1 ≤ m) (h2 : m ≤ 2 ^ 63) : ∃ L0 L, L0 ≤ 1 ∧ 1 ≤ L ∧ L ≤ 64 ∧ 2 ^ (L - 1) ≤ m ∧ m < 2 ^ L ∧ nlen (shD 1 0 1 (fun _ => m)) (1 + 0 + 1) = L0 + 1 ∧ shD 1 0 1 (fun _ => m) L0 ≠ 0 ∧
    64 * L0 + Lib.bitLen (shD 1 0 1 (fun _ => m) L0) = L + 1 ∧
    ∀ Y, (∀ j, j < L0 + 1 → Y j < 2 ^ 64) → val (L0 + 1) Y = val (L0 + 1) (shD 1 0 1 (fun _ => m)) * 2 ^ (64 * (L0 + 1) - (L + 1)) → Y L0 = m * 2 ^ (64 - L) ∧ stk L0 10 Y = if m * 2 ^ (64 - L) % 2 ^ 10 ≠ 0 then 1 else 0 := by
  have hv := shD_val 1 0 1 (fun _ => m) (by omega) (by omega) (fun j _ => by show m < 2 ^ 64; omega)
  have hl := fun j => shD_lt 1 0 1 (fun _ => m) (by omega) (fun j _ => by show m < 2 ^ 64; omega) j
  obtain ⟨X, hX⟩ : ∃ X, shD 1 0 1 (fun _ => m) = X := ⟨_, rfl⟩
  rw [hX] at hv hl ⊢
  simp only [val] at hv
  have l0 := hl 0
  have l1 := hl 1
  by_cases hm : m < 2 ^ 63
  · have y1 : X 1 = 0 := by omega
    have y0 : X 0 = 2 * m := by omega
    obtain ⟨b1, b2, b3⟩ := bitLen_bounds (X 0) l0 (by omega)
    have b4 := bitLen_le64 (X 0) l0
    obtain ⟨B, hB⟩ : ∃ B, Lib.bitLen (X 0) = B := ⟨_, rfl⟩
    rw [hB] at b1 b2 b3 b4
    have hB2 : 2 ≤ B := by
      rcases Nat.lt_or_ge B 2 with h | h
      · have : B = 1 := by omega
        subst this; omega
      · exact h
    obtain ⟨L, rfl⟩ : ∃ L, B = L + 1 := ⟨B - 1, by omega⟩
    have e1 : 2 ^ (L + 1) = 2 * 2 ^ L := by rw [Nat.pow_succ]; omega
    have e2 : 2 ^ (L + 1 - 1) = 2 * 2 ^ (L - 1) := by rw [show L + 1 - 1 = (L - 1) + 1 by omega, Nat.pow_succ]; omega
    refine ⟨0, L, by omega, by omega, by omega, by omega, by omega, ?_, by omega, by rw [hB]; omega, ?_⟩
    · simp [nlen, y1]; omega
    · intro Y hY hv2
      simp only [val] at hv2
      have e3 : 2 * m * 2 ^ (64 - (L + 1)) = m * 2 ^ (64 - L) := by
        rw [show 64 - L = 64 - (L + 1) + 1 by omega, Nat.pow_succ]
        rw [Nat.mul_comm 2 m, Nat.mul_assoc, Nat.mul_comm 2]
      have hY0 : Y 0 = m * 2 ^ (64 - L) := by
        rw [← e3, ← y0]; simpa using hv2
      refine ⟨hY0, ?_⟩
      unfold stk
      rw [hY0]
      have : (∃ j, j < 0 ∧ Y j ≠ 0) ↔ False := ⟨fun ⟨j, hj, _⟩ => by omega, False.elim⟩
      simp only [this, false_or]
  · have hm2 : m = 2 ^ 63 := by omega
    have y1 : X 1 = 1 := by omega
    have y0 : X 0 = 0 := by omega
    have hB : Lib.bitLen 1 = 1 := by decide
    refine ⟨1, 64, by omega, by omega, by omega, by rw [hm2]; decide, by rw [hm2]; decide, ?_, by omega, by rw [y1, hB], ?_⟩
    · simp [nlen, y1]
    · intro Y hY hv2
      simp only [val, y0, y1] at hv2
      have q0 := hY 0 (by omega)
      have q1 := hY 1 (by omega)
      have yy1 : Y 1 = 2 ^ 63 := by omega
      have h0 : Y 0 = 0 := by omega
      subst hm2
      refine ⟨by rw [yy1], ?_⟩
      unfold stk
      rw [yy1, if_neg, if_neg]
      · decide
      · rintro (⟨j, hj, hne⟩ | h)
        · obtain rfl : j = 0 := by omega
          exact hne h0
        · exact h (by decide)
end Go.Proofs

namespace Go.Proofs
open Go Go.RowKit Go.PB Go.WL Ieee

/-- what FromInt answers at way 1: a pattern whose value is a whole number V, not above n -/
def IsDown (n d : Int) : Prop :=
  ∃ V : Int, Real (double.read (IntKind.u64.wrap d).toNat) ∧ units (double.read (IntKind.u64.wrap d).toNat) = V * 2 ^ 1074 ∧ -9223372036854775808 ≤ V ∧ V < 9223372036854775808 ∧ V ≤ n ∧ (n < 9007199254740992 → -9007199254740992 < n → V = n)
def FromPost (n : Int) (w : World) (e : Ending) (w' : World) : Prop := ∃ d, e = .returned (.tuple #[.int .i64 d, .int .i64 0]) ∧ Chg [] w w' ∧ IsDown n d

theorem isDown_zero : IsDown 0 0 := by
  have h0 : (IntKind.u64.wrap 0).toNat = 0 := by decide
  refine ⟨0, ?_, ?_, by omega, by omega, by omega, fun _ _ => rfl⟩
  · rw [h0]
    exact ⟨false, 0, -1074, by decide, by omega, by omega, by omega, by omega⟩
  · rw [h0, read_zero, Int.zero_mul]; simp only [units, signed, Nat.zero_shiftLeft]; rfl

theorem from_nz (n : Int) (neg : Bool) (m : Nat) (hn : n = if neg then -(m : Int) else m) (h1 : 1 ≤ m) (h2 : m ≤ 2 ^ 63) (h3 : neg = false → m < 2 ^ 63) (w : World) :
    Calls Tryz.prog 6 #[.int .i64 n, .int .i64 1] w (FromPost n w) := by
  obtain ⟨L0, L, a1, a2, a3, a4, a5, a6, a7, a8, a9⟩ := twice m h1 h2
  obtain ⟨b1, b2, _, _⟩ := top53 m L a4 a5 a2 a3
  obtain ⟨x, hx⟩ : ∃ x, m * 2 ^ (64 - L) = x := ⟨_, rfl⟩
  rw [hx] at a9 b1 b2
  obtain ⟨s, hs⟩ : ∃ s, (if x % 2 ^ 10 ≠ 0 then 1 else 0) = s := ⟨_, rfl⟩
  rw [hs] at a9
  have hs01 : s = 0 ∧ x % 2 ^ 10 = 0 ∨ s = 1 ∧ x % 2 ^ 10 ≠ 0 := by
    by_cases h : x % 2 ^ 10 = 0
    · rw [if_neg (by simp [h])] at hs; exact .inl ⟨hs.symm, h⟩
    · rw [if_pos h] at hs; exact .inr ⟨hs.symm, h⟩
  -- the rung of the nearest, the rung of the answer
  obtain ⟨q, hq⟩ : ∃ q, x / 2 ^ 11 = q := ⟨_, rfl⟩
  rw [hq] at b1 b2
  have hinc : incOf x s = 0 ∨ incOf x s = 1 := by unfold incOf; split <;> simp
  obtain ⟨R, hR⟩ : ∃ R, (L + 1021) * 4503599627370496 + (q + incOf x s) = R := ⟨_, rfl⟩
  obtain ⟨F, hF⟩ : ∃ F, (L + 1021) * 4503599627370496 + (q + (if neg = true ∧ x % 2 ^ 11 ≠ 0 then 1 else 0)) = F := ⟨_, rfl⟩
  have hR2 : 4607182418800017408 ≤ R ∧ R < 5000000000000000000 := by omega
  have hF2 : 4607182418800017408 ≤ F ∧ F < 5000000000000000000 := by
    have : (if neg = true ∧ x % 2 ^ 11 ≠ 0 then 1 else 0) ≤ 1 := by split <;> omega
    omega
  obtain ⟨b, hb⟩ : ∃ b : Int, (if neg then (R : Int) - 9223372036854775808 else R) = b := ⟨_, rfl⟩
  obtain ⟨d, hd⟩ : ∃ d : Int, (if neg then (F : Int) - 9223372036854775808 else F) = d := ⟨_, rfl⟩
  have nR : Nrm b neg R := ⟨by omega, by omega, hb.symm⟩
  have nF : Nrm d neg F := ⟨by omega, by omega, hd.symm⟩
  -- how they stand to each other
  obtain ⟨ac, hac⟩ : ∃ ac, accOf x s neg = ac := ⟨_, rfl⟩
  have hcmp : (ac = 0 → F = R) ∧ (ac = 1 → F = if neg then R + 1 else R - 1) ∧ (ac = -1 → F = R) := by
    have e10 : (2 : Nat) ^ 10 = 1024 := rfl
    have e11 : (2 : Nat) ^ 11 = 2048 := rfl
    unfold accOf at hac
    by_cases hex : x / 2 ^ 10 % 2 = 0 ∧ s = 0
    · rw [if_pos hex] at hac
      have hi0 : incOf x s = 0 := by unfold incOf; rw [if_neg (by omega)]
      have hz : x % 2 ^ 11 = 0 := by omega
      rw [if_neg (by simp [hz])] at hF
      exact ⟨fun _ => by omega, fun h => by omega, fun h => by omega⟩
    · rw [if_neg hex] at hac
      have hz : x % 2 ^ 11 ≠ 0 := by omega
      rcases hinc with hi | hi
      · rw [hi] at hac hR
        simp at hac
        cases neg
        · simp at hac hF ⊢
          subst hac
          exact ⟨by omega, by omega, fun _ => by omega⟩
        · rw [if_pos ⟨rfl, hz⟩] at hF
          simp at hac ⊢
          subst hac
          exact ⟨by omega, fun _ => by omega, by omega⟩
      · rw [hi] at hac hR
        simp at hac
        cases neg
        · simp at hac hF ⊢
          subst hac
          exact ⟨by omega, fun _ => by omega, by omega⟩
        · rw [if_pos ⟨rfl, hz⟩] at hF
          simp at hac ⊢
          subst hac
          exact ⟨by omega, by omega, fun _ => by omega⟩
  have hN : bitsOf neg ((L + 1 : Nat) + (-1 : Int)) x s = ((Ieee.double.word neg R : Nat) : Int) := by
    unfold bitsOf Ieee.Format.word
    rw [dbl_sw, hq]
    cases neg
    · simp; omega
    · simp; omega
  have hself : ∀ w, (binOp .neq 29 (.float .f64 (Ieee.double.word neg R)) (.float .f64 (Ieee.double.word neg R))).run Tryz.prog w = .ok (.bool false) w := fun w => by
    have := (ords neg R (by omega) (by omega)).self
    simp [binOp_float_cmp_neq, this]
  have hto : ∀ a xb W, IntOf W a neg (.slice (some ⟨xb, 0, none⟩) 1 1) 1 1 (fun _ => m) [xb] → Calls Tryz.prog 59 #[.agg #[.pointer (some ⟨a, 0, none⟩), .int .i64 0, .bool false], .agg #[.func (.func 145) #[] #[]]] W (ToPost d (decide (ac ≠ 0) || false) W) := by
    intro a xb W hI
    refine to_walk a 145 0 (-1) false neg L0 (shD 1 0 1 (fun _ => m)) (L + 1) x s _ b d ac W ?_ (by omega) a7 a8 a9 (by omega) (by omega) (by omega) (by omega) hN (by rw [word_i64 neg R (by omega)]; exact hb) hself hac ?_ call145 ?_ ?_ ?_
    · intro W' hc
      exact stuck_walk a 1 1 (some ⟨xb, 0, none⟩) (fun _ => m) [xb] neg 0 (-1) W' L0 (hI.chg hc (by simp) (by simp)) (by omega) (by omega) (by decide) a6
    · intro h
      rw [← hd, ← hb, hcmp.1 h]
    · intro h W'
      exact down_above nR (hcmp.2.1 h) (by omega) (by omega) hd neg _ W'
    · intro h W'
      have : d = b := by rw [← hd, ← hb, hcmp.2.2 h]
      rw [this]
      exact down_below b neg _ _ W'
    · intro _ W'
      exact signed_nrm nF neg W'
  refine (FromInt_core n d w fun W hW => ?_).mono ?_
  · have hbx : Has W w.heap.size (.cells #[.int .i64 n] 3) := by rw [hW]; exact Has.new _ _
    exact settle1_walk _ d _ neg m w.heap.size W h1 (fun W' hc => exact_walk n neg m w.heap.size hn h1 h2 h3 W' (by rw [(hc.has hbx (by simp)).cell]; rfl) (hc.has hbx (by simp)).lt) hto
  · rintro e w' ⟨rfl, hc⟩
    refine ⟨d, rfl, hc, ?_⟩
    have hl := fromInt_law neg m L (q + (if neg = true ∧ x % 2 ^ 11 ≠ 0 then 1 else 0)) a4 a5 a2 a3 h2 h3 (by rw [hx, hq])
    have hF' : (L + 1021) * 2 ^ 52 + (q + (if neg = true ∧ x % 2 ^ 11 ≠ 0 then 1 else 0)) = F := hF
    rw [hF', ← hn, ← nF.word] at hl
    obtain ⟨V, v1, v2, v3, v4, v5, v6⟩ := hl
    refine ⟨V, v1, v2, v3, v4, v5, fun g1 g2 => v6 ?_⟩
    cases neg <;> simp at hn <;> omega

theorem FromInt1_walk (n : Int) (h1 : -9223372036854775808 ≤ n) (h2 : n ≤ 9223372036854775807) (w : World) : Calls Tryz.prog 6 #[.int .i64 n, .int .i64 1] w (FromPost n w) := by
  by_cases h0 : n = 0
  · subst h0
    refine (FromInt0_walk w).mono ?_
    rintro e w' ⟨rfl, hc⟩
    exact ⟨0, rfl, hc, isDown_zero⟩
  · by_cases hp : 0 < n
    · exact from_nz n false n.toNat (by simp; omega) (by omega) (by omega) (fun _ => by omega) w
    · exact from_nz n true (-n).toNat (by simp; omega) (by omega) (by omega) (by simp) w
end Go.Proofs
