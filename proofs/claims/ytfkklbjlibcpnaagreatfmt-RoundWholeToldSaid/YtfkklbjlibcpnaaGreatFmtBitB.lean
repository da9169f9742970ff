/- Proved here: walks of Neg, Next, Prev and of the ways of a normal pattern, for every input that the statements name. -/
import Derived.Test.YtfkklbjlibcpnaaGreatFmtBitA
import Derived.Test.YtfkklbjlibcpnaaGreatFmtLawA
import Derived.Laws.Cover2
namespace Go.Proofs
open Go Go.RowKit Go.PB Go.WL Ieee

theorem i64_and2047 (n : Int) : bits .and .i64 n 2047 = n % 2048 := by
  have h127 : (BitVec.ofInt 64 2047).toNat = 2 ^ 11 - 1 := by decide
  have key : (BitVec.ofInt 64 n &&& BitVec.ofInt 64 2047).toNat = (n % ((2 ^ 64 : Nat) : Int)).toNat % 2 ^ 11 := by
    rw [BitVec.toNat_and, BitVec.toNat_ofInt, h127, Nat.and_two_pow_sub_one_eq_mod]
  show IntKind.i64.wrap ((BitVec.ofInt 64 n &&& BitVec.ofInt 64 2047).toNat : Nat) = n % 2048
  rw [key, IntKind.wrap_i64]
  omega
theorem i64_andfrac (n : Int) : bits .and .i64 n 4503599627370495 = n % 4503599627370496 := by
  have h127 : (BitVec.ofInt 64 4503599627370495).toNat = 2 ^ 52 - 1 := by decide
  have key : (BitVec.ofInt 64 n &&& BitVec.ofInt 64 4503599627370495).toNat = (n % ((2 ^ 64 : Nat) : Int)).toNat % 2 ^ 52 := by
    rw [BitVec.toNat_and, BitVec.toNat_ofInt, h127, Nat.and_two_pow_sub_one_eq_mod]
  show IntKind.i64.wrap ((BitVec.ofInt 64 n &&& BitVec.ofInt 64 4503599627370495).toNat : Nat) = n % 4503599627370496
  rw [key, IntKind.wrap_i64]
  omega
theorem xor_top1 (a : Nat) (h : a < 2 ^ 63) : a ^^^ 2 ^ 63 = 2 ^ 63 + a := by
  apply Nat.eq_of_testBit_eq
  intro i
  rw [Nat.testBit_xor, Nat.testBit_two_pow]
  by_cases h1 : i = 63
  · subst h1
    rw [Nat.testBit_two_pow_add_eq, Nat.testBit_lt_two_pow h]; simp
  · by_cases h2 : i < 63
    · rw [Nat.testBit_two_pow_add_gt h2, show decide (63 = i) = false from decide_eq_false (by omega), Bool.xor_false]
    · have e1 : a.testBit i = false := Nat.testBit_lt_two_pow (Nat.lt_of_lt_of_le h (Nat.pow_le_pow_right (by decide) (by omega)))
      have e2 : (2 ^ 63 + a).testBit i = false := Nat.testBit_lt_two_pow (Nat.lt_of_lt_of_le (by omega : 2 ^ 63 + a < 2 ^ 64) (Nat.pow_le_pow_right (by decide) (by omega)))
      rw [e1, e2, show decide (63 = i) = false from decide_eq_false (by omega), Bool.xor_false]
theorem xor_top2 (a : Nat) (h : a < 2 ^ 63) : (2 ^ 63 + a) ^^^ 2 ^ 63 = a := by
  rw [← xor_top1 a h, Nat.xor_assoc, Nat.xor_self, Nat.xor_zero]
theorem i64_xortop (n m : Int) (h1 : -9223372036854775808 ≤ n) (h2 : n ≤ 9223372036854775807) (hm : m = n + 9223372036854775808 ∨ m = n - 9223372036854775808) (h3 : -9223372036854775808 ≤ m) (h4 : m ≤ 9223372036854775807) : bits .xor .i64 n (-9223372036854775808) = m := by
  have ht : (BitVec.ofInt 64 (-9223372036854775808)).toNat = 2 ^ 63 := by decide
  show IntKind.i64.wrap ((BitVec.ofInt 64 n ^^^ BitVec.ofInt 64 (-9223372036854775808)).toNat : Nat) = m
  rw [BitVec.toNat_xor, ht, BitVec.toNat_ofInt, IntKind.wrap_i64]
  by_cases h : 0 ≤ n
  · rw [xor_top1 _ (by omega)]; omega
  · obtain ⟨r, hr⟩ : ∃ r : Nat, n + 9223372036854775808 = r := ⟨(n + 9223372036854775808).toNat, by omega⟩
    have : (n % ((2 ^ 64 : Nat) : Int)).toNat = 2 ^ 63 + r := by omega
    rw [this, xor_top2 _ (by omega)]; omega

/-- a pattern of a normal number: its rung, its sign -/
def Nrm (b : Int) (neg : Bool) (R : Nat) : Prop := 4503599627370496 ≤ R ∧ R < 9218868437227405312 ∧ b = (if neg then (R : Int) - 9223372036854775808 else R)

theorem Nrm.cls {b : Int} {neg : Bool} {R : Nat} (h : Nrm b neg R) : clsOf (b / 4503599627370496 % 2048) (b % 4503599627370496) 2047 = 2 := by
  obtain ⟨h1, h2, rfl⟩ := h
  unfold clsOf
  cases neg
  · simp only [Bool.false_eq_true, if_false]
    rw [if_neg (by omega), if_neg (by omega)]
  · simp only [if_true]
    rw [if_neg (by omega), if_neg (by omega)]
theorem Class_nrm {b : Int} {neg : Bool} {R : Nat} (h : Nrm b neg R) (w : World) : Calls Tryz.prog 9 #[.int .i64 b] w fun x w' => x = .returned (.int .i64 2) ∧ w = w' :=
  Class_walk b _ _ 2 (i64_and2047 _) (i64_andfrac _) h.cls w

set_option maxRecDepth 100000 in
set_option maxHeartbeats 1000000 in
theorem signed_nrm {b : Int} {neg : Bool} {R : Nat} (h : Nrm b neg R) (s : Bool) (w : World) : Calls Tryz.prog 106 #[.int .i64 b, .bool s] w fun x w' => x = .returned (.int .i64 b) ∧ w = w' := by
  have hC := Class_nrm h w
  clear h
  go_enter Tryz.func106, Tryz.ntmps106
  go_wp2_with (first | (go_at_call 9; (with_reducible refine hC.mono ?_); rintro e w' ⟨rfl, rfl⟩))
  go_ret
  exact ⟨rfl, rfl⟩

theorem Nrm.flip {b : Int} {neg : Bool} {R : Nat} (h : Nrm b neg R) : bits .xor .i64 b (-9223372036854775808) = (if neg then (R : Int) else (R : Int) - 9223372036854775808) := by
  obtain ⟨h1, h2, rfl⟩ := h
  cases neg
  · simp only [Bool.false_eq_true, if_false]
    exact i64_xortop _ _ (by omega) (by omega) (.inr rfl) (by omega) (by omega)
  · simp only [if_true]
    exact i64_xortop _ _ (by omega) (by omega) (.inl (by omega)) (by omega) (by omega)

set_option maxRecDepth 100000 in
set_option maxHeartbeats 1000000 in
theorem Neg_nrm {b b' : Int} {neg : Bool} {R : Nat} (h : Nrm b neg R) (hb' : (if neg then (R : Int) else (R : Int) - 9223372036854775808) = b') (w : World) : Calls Tryz.prog 42 #[.int .i64 b] w fun x w' => x = .returned (.int .i64 b') ∧ w = w' := by
  have hC := Class_nrm h w
  have hx := h.flip
  rw [hb'] at hx
  clear h hb'
  go_enter Tryz.func42, Tryz.ntmps42
  go_wp2_with (first | (go_at_call 9; (with_reducible refine hC.mono ?_); rintro e w' ⟨rfl, rfl⟩))
  go_ret
  exact ⟨rfl, rfl⟩
end Go.Proofs

namespace Go.Proofs
open Go Go.RowKit Go.PB Go.WL Ieee

theorem read_nrm (neg : Bool) (R : Nat) (h1 : 4503599627370496 ≤ R) (h2 : R < 9218868437227405312) : ∃ q e, double.read (double.word neg R) = .number neg q e ∧ 0 < q ∧ -1074 ≤ e := by
  obtain ⟨a, b⟩ := word_mod neg (r := R) (by omega)
  have hr : double.read (double.word neg R) = .number neg (2 ^ 52 + R % 2 ^ 52) (-1074 + ((R / 2 ^ 52 - 1 : Nat) : Int)) := by
    unfold Format.read
    rw [a, b, dbl_bin, dbl_inf, dbl_lp]
    rw [if_neg (by omega), if_pos (by omega)]
  exact ⟨_, _, hr, by omega, by omega⟩
theorem read_inf : double.read 9218868437227405312 = .infinity false := by decide
theorem read_zero : double.read 0 = .number false 0 (-1074) := by decide

/-- what a normal pattern's comparisons answer -/
structure Ords (x : Nat) (neg : Bool) : Prop where
  self : (FloatKind.f64.format.order x x != some .eq) = false
  inf1 : (FloatKind.f64.format.order x 9218868437227405312 == some .eq) = false
  zero : (FloatKind.f64.format.order x 0 == some .eq) = false
  inf2 : (FloatKind.f64.format.order 9218868437227405312 x == some .gt) = true
  pos : (FloatKind.f64.format.order x 0 == some .gt) = !neg
theorem inf_self : (FloatKind.f64.format.order 9218868437227405312 9218868437227405312 != some .eq) = false := by decide
theorem ords (neg : Bool) (R : Nat) (h1 : 4503599627370496 ≤ R) (h2 : R < 9218868437227405312) : Ords (double.word neg R) neg := by
  obtain ⟨q, e, hr, hq, he⟩ := read_nrm neg R h1 h2
  have o1 : FloatKind.f64.format.order (double.word neg R) (double.word neg R) = some .eq := by
    show (double.read _).order (double.read _) = _
    rw [hr, order_units _ _ _ _ _ _ he he]
    simp [compare, compareOfLessAndEq]
  have o2 : FloatKind.f64.format.order (double.word neg R) 9218868437227405312 = some .lt := by
    show (double.read _).order (double.read _) = _
    rw [hr, read_inf]; rfl
  have o3 : FloatKind.f64.format.order 9218868437227405312 (double.word neg R) = some .gt := by
    show (double.read _).order (double.read _) = _
    rw [hr, read_inf]; rfl
  have o4 : FloatKind.f64.format.order (double.word neg R) 0 = some (if neg then .lt else .gt) := by
    show (double.read _).order (double.read _) = _
    rw [hr, read_zero, order_units _ _ _ _ _ _ he (by omega)]
    have hp : 0 < q <<< (e + 1074).toNat := by rw [Nat.shiftLeft_eq]; exact Nat.mul_pos hq (Nat.two_pow_pos _)
    simp only [units, signed]
    generalize q <<< (e + 1074).toNat = v at *
    cases neg
    · simp only [Bool.false_eq_true, if_false, Nat.zero_shiftLeft, compare, compareOfLessAndEq]
      rw [if_neg (by omega), if_neg (by omega)]
    · simp only [Bool.false_eq_true, if_false, if_true, Nat.zero_shiftLeft, compare, compareOfLessAndEq]
      rw [if_pos (by omega)]
  exact ⟨by rw [o1]; rfl, by rw [o2]; rfl, by rw [o4]; cases neg <;> rfl, by rw [o3]; rfl, by rw [o4]; cases neg <;> rfl⟩

set_option maxRecDepth 100000 in
set_option maxHeartbeats 1000000 in
theorem IsNaN_walk (x : Nat) (h : (FloatKind.f64.format.order x x != some .eq) = false) (w : World) : Calls Tryz.prog 107 #[.float .f64 x] w fun e w' => e = .returned (.bool false) ∧ w = w' := by
  go_enter Tryz.func107, Tryz.ntmps107
  go_wp2
  go_ret
  exact ⟨rfl, rfl⟩

set_option maxRecDepth 100000 in
set_option maxHeartbeats 1000000 in
theorem Inf_walk (w : World) : Calls Tryz.prog 157 #[.int .i64 1] w fun e w' => e = .returned (.float .f64 9218868437227405312) ∧ w = w' := by
  have hr := run_frombits2 9218868437227405312
  go_enter Tryz.func157, Tryz.ntmps157
  go_wp2
  go_ret
  exact ⟨rfl, rfl⟩

set_option maxRecDepth 100000 in
set_option maxHeartbeats 2000000 in
theorem Nextafter_walk (x y : Nat) (neg : Bool) (h : Ords x neg) (hy : (if neg then (x : Int) - 1 else (x : Int) + 1) = (y : Int)) (h1 : x < 18446744073709551615) (h0 : 1 ≤ x) (w : World) :
    Calls Tryz.prog 159 #[.float .f64 x, .float .f64 9218868437227405312] w fun e w' => e = .returned (.float .f64 y) ∧ w = w' := by
  obtain ⟨c1, c2, c3, c4, c5⟩ := h
  have hA := IsNaN_walk x c1
  have hB := IsNaN_walk _ inf_self
  have HA := Lib.hid hA; have HB := Lib.hid hB
  clear hA hB
  have hr := run_f64bits x
  have hf := run_frombits2 (y : Int)
  simp only [Int.toNat_natCast] at hf
  have e1 : neg = false → IntKind.u64.wrap ((x : Int) + 1) = y := by rintro rfl; simp at hy; rw [← hy]; exact u64of _ (by omega) (by omega)
  have e2 : neg = true → IntKind.u64.wrap ((x : Int) - 1) = y := by rintro rfl; simp at hy; rw [← hy]; exact u64of _ (by omega) (by omega)
  have E1 := Lib.hid e1; have E2 := Lib.hid e2
  clear e1 e2 hy c1
  cases neg
  · have e1 := E1.out rfl
    clear E1 E2
    go_enter Tryz.func159, Tryz.ntmps159
    go_wp2_with (first | (go_at_call 107; (with_reducible refine (HA.out _).mono ?_); rintro e w' ⟨rfl, rfl⟩) | (go_at_call 107; (with_reducible refine (HB.out _).mono ?_); rintro e w' ⟨rfl, rfl⟩))
    go_ret
    exact ⟨rfl, rfl⟩
  · have e1 := E2.out rfl
    clear E1 E2
    go_enter Tryz.func159, Tryz.ntmps159
    go_wp2_with (first | (go_at_call 107; (with_reducible refine (HA.out _).mono ?_); rintro e w' ⟨rfl, rfl⟩) | (go_at_call 107; (with_reducible refine (HB.out _).mono ?_); rintro e w' ⟨rfl, rfl⟩))
    go_ret
    exact ⟨rfl, rfl⟩

/-- the word of a normal pattern -/
theorem Nrm.word {b : Int} {neg : Bool} {R : Nat} (h : Nrm b neg R) : (IntKind.u64.wrap b).toNat = double.word neg R := by
  obtain ⟨h1, h2, rfl⟩ := h
  unfold Format.word
  rw [dbl_sw]
  have e : ∀ a : Int, IntKind.u64.wrap a = a % 18446744073709551616 := fun a => by simp [IntKind.wrap, IntKind.bits, IntKind.signed]
  rw [e]
  cases neg
  · simp; omega
  · simp; omega
theorem word_i64 (neg : Bool) (R : Nat) (h2 : R < 9223372036854775808) : IntKind.i64.wrap ((double.word neg R : Nat) : Int) = if neg then (R : Int) - 9223372036854775808 else R := by
  unfold Format.word
  rw [dbl_sw, IntKind.wrap_i64]
  cases neg
  · simp; omega
  · simp; omega

set_option maxRecDepth 100000 in
set_option maxHeartbeats 2000000 in
theorem Next_nrm {b b' : Int} {neg : Bool} {R R' : Nat} (h : Nrm b neg R) (hR : R' = if neg then R - 1 else R + 1) (h1 : 4503599627370496 ≤ R') (h2 : R' < 9218868437227405312) (hb' : (if neg then (R' : Int) - 9223372036854775808 else R') = b') (w : World) :
    Calls Tryz.prog 104 #[.int .i64 b] w fun e w' => e = .returned (.int .i64 b') ∧ w = w' := by
  have hF := Float_walk b _ h.word w
  have hI := Inf_walk w
  have ho := ords neg R h.1 h.2.1
  have ho' := ords neg R' h1 h2
  have g1 := h.1
  have g2 := h.2.1
  have hN := Nextafter_walk _ (double.word neg R') neg ho (by
    unfold Format.word
    rw [dbl_sw, hR]
    cases neg
    · simp
    · simp; omega) (by unfold Format.word; rw [dbl_sw]; split <;> omega) (by unfold Format.word; rw [dbl_sw]; split <;> omega) w
  have hO := Of_walk (double.word neg R') b' (by rw [word_i64 neg R' (by omega)]; exact hb') w (by
    have := ho'.self
    simp [binOp_float_cmp_neq, this])
  clear h ho ho' g1 g2 hR h1 h2 hb'
  generalize double.word neg R = x at *
  generalize double.word neg R' = y at *
  go_enter Tryz.func104, Tryz.ntmps104
  go_wp2_with (first | (go_at_call 10; (with_reducible refine hF.mono ?_); rintro e w' ⟨rfl, rfl⟩) | (go_at_call 157; (with_reducible refine hI.mono ?_); rintro e w' ⟨rfl, rfl⟩) | (go_at_call 159; (with_reducible refine hN.mono ?_); rintro e w' ⟨rfl, rfl⟩) | (go_at_call 18; (with_reducible refine hO.mono ?_); rintro e w' ⟨rfl, rfl⟩))
  go_ret
  exact ⟨rfl, rfl⟩
end Go.Proofs

namespace Go.Proofs
open Go Go.RowKit Go.PB Go.WL Ieee

set_option maxRecDepth 100000 in
set_option maxHeartbeats 2000000 in
theorem Prev_nrm {b b' : Int} {neg : Bool} {R R' : Nat} (h : Nrm b neg R) (hR : R' = if neg then R + 1 else R - 1) (h1 : 4503599627370496 ≤ R') (h2 : R' < 9218868437227405312) (hb' : (if neg then (R' : Int) - 9223372036854775808 else R') = b') (w : World) :
    Calls Tryz.prog 105 #[.int .i64 b] w fun e w' => e = .returned (.int .i64 b') ∧ w = w' := by
  obtain ⟨nb, hnb⟩ : ∃ nb : Int, (if neg then (R : Int) else (R : Int) - 9223372036854775808) = nb := ⟨_, rfl⟩
  obtain ⟨nb', hnb'⟩ : ∃ nb' : Int, (if !neg then (R' : Int) - 9223372036854775808 else (R' : Int)) = nb' := ⟨_, rfl⟩
  have hn : Nrm nb (!neg) R := ⟨h.1, h.2.1, by rw [← hnb]; cases neg <;> rfl⟩
  have hn' : Nrm nb' (!neg) R' := ⟨h1, h2, hnb'.symm⟩
  have hA := Neg_nrm h hnb w
  have hN := Next_nrm hn (by rw [hR]; cases neg <;> rfl) h1 h2 hnb' w
  have hB := Neg_nrm (b' := b') hn' (by rw [← hb']; cases neg <;> rfl) w
  clear h hR h1 h2 hb' hnb hnb' hn hn'
  go_enter Tryz.func105, Tryz.ntmps105
  go_wp2_with (first | (go_at_call 42; (with_reducible refine hA.mono ?_); rintro e w' ⟨rfl, rfl⟩) | (go_at_call 104; (with_reducible refine hN.mono ?_); rintro e w' ⟨rfl, rfl⟩) | (go_at_call 42; (with_reducible refine hB.mono ?_); rintro e w' ⟨rfl, rfl⟩))
  go_ret
  exact ⟨rfl, rfl⟩

set_option maxRecDepth 100000 in
set_option maxHeartbeats 2000000 in
theorem down_above {b b' : Int} {neg : Bool} {R R' : Nat} (h : Nrm b neg R) (hR : R' = if neg then R + 1 else R - 1) (h1 : 4503599627370496 ≤ R') (h2 : R' < 9218868437227405312) (hb' : (if neg then (R' : Int) - 9223372036854775808 else R') = b') (s : Bool) (f : Value) (w : World) :
    Calls Tryz.prog 145 #[.int .i64 b, .bool s, .bool true, f, .func (.func 105) #[] #[]] w fun e w' => e = .returned (.int .i64 b') ∧ w = w' := by
  have hP := Prev_nrm h hR h1 h2 hb' w
  clear h hR h1 h2 hb'
  go_enter Tryz.func145, Tryz.ntmps145
  go_wp2_with (first | (go_at_call 105; (with_reducible refine hP.mono ?_); rintro e w' ⟨rfl, rfl⟩))
  go_ret
  exact ⟨rfl, rfl⟩
set_option maxRecDepth 100000 in
set_option maxHeartbeats 2000000 in
theorem down_below (b : Int) (s : Bool) (f g : Value) (w : World) :
    Calls Tryz.prog 145 #[.int .i64 b, .bool s, .bool false, f, g] w fun e w' => e = .returned (.int .i64 b) ∧ w = w' := by
  go_enter Tryz.func145, Tryz.ntmps145
  go_wp2
  go_ret
  exact ⟨rfl, rfl⟩
set_option maxRecDepth 100000 in
set_option maxHeartbeats 2000000 in
theorem near_turn (b : Int) (s t : Bool) (f g : Value) (w : World) :
    Calls Tryz.prog 147 #[.int .i64 b, .bool s, .bool t, f, g] w fun e w' => e = .returned (.int .i64 b) ∧ w = w' := by
  go_enter Tryz.func147, Tryz.ntmps147
  go_wp2
  go_ret
  exact ⟨rfl, rfl⟩
end Go.Proofs
