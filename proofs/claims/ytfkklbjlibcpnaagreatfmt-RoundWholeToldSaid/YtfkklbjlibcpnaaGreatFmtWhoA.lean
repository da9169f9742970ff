/- Proved here: what the four answers of ToInt have to do with one another, for every input that the statements name. -/
import Derived.Test.YtfkklbjlibcpnaaGreatFmtToiA
import Derived.Test.YtfkklbjlibcpnaaGreatFmtBitB
namespace Go.Proofs
open Go Go.RowKit Go.PB Go.WL Ieee

/-- the class tells what a pattern is -/
theorem cls_real (b : Int) (_h1 : -9223372036854775808 ≤ b) (_h2 : b ≤ 9223372036854775807) : (clsOf (b / 4503599627370496 % 2048) (b % 4503599627370496) 2047 ≤ 2 ↔ Real (double.read (IntKind.u64.wrap b).toNat)) := by
  have e : IntKind.u64.wrap b = b % 18446744073709551616 := by simp [IntKind.wrap, IntKind.bits, IntKind.signed]
  obtain ⟨x, hx⟩ : ∃ x : Nat, IntKind.u64.wrap b = x := ⟨(IntKind.u64.wrap b).toNat, by rw [e]; omega⟩
  rw [hx, Int.toNat_natCast]
  rw [e] at hx
  have hcls : clsOf (b / 4503599627370496 % 2048) (b % 4503599627370496) 2047 ≤ 2 ↔ ¬ (b / 4503599627370496 % 2048 = 2047) := by
    unfold clsOf
    by_cases h : b / 4503599627370496 % 2048 = 2047
    · rw [if_pos h]; split <;> simp [h]
    · rw [if_neg h]; simp only [h, not_false_eq_true, iff_true]; split
      · split <;> omega
      · omega
  rw [hcls]
  have hm : x % 2 ^ 63 < 2 ^ 63 := Nat.mod_lt _ (by decide)
  have hr : ¬ (b / 4503599627370496 % 2048 = 2047) ↔ x % 2 ^ 63 < 2047 * 2 ^ 52 := by omega
  rw [hr]
  rcases read_cases x with h | ⟨s, h⟩ | ⟨s, t, h⟩
  · simp only [h, iff_true]
    obtain ⟨s, m, e', h', _⟩ := h
    unfold Format.read at h'
    rw [dbl_sw, dbl_bin, dbl_inf] at h'
    by_cases g1 : x % 2 ^ 63 < 2047 * 2 ^ 52
    · exact g1
    · simp only at h'
      rw [if_neg (by omega), if_neg g1] at h'
      split at h' <;> cases h'
  · constructor
    · intro g
      exfalso
      unfold Format.read at h
      rw [dbl_sw, dbl_bin, dbl_inf] at h
      simp only at h
      by_cases g1 : x % 2 ^ 63 < 2 ^ 52
      · rw [if_pos g1] at h; cases h
      · rw [if_neg g1, if_pos g] at h; cases h
    · rintro ⟨_, _, _, g, _⟩; rw [h] at g; cases g
  · constructor
    · intro g
      exfalso
      unfold Format.read at h
      rw [dbl_sw, dbl_bin, dbl_inf] at h
      simp only at h
      by_cases g1 : x % 2 ^ 63 < 2 ^ 52
      · rw [if_pos g1] at h; cases h
      · rw [if_neg g1, if_pos g] at h; cases h
    · rintro ⟨_, _, _, g, _⟩; rw [h] at g; cases g

theorem TI_not (way : Toward) (x : Nat) (h : ¬ Real (double.read x)) : TI way x = (0, false) := by
  unfold TI
  rcases read_cases x with g | ⟨s, g⟩ | ⟨s, t, g⟩
  · exact absurd g h
  · rw [g]
  · rw [g]
theorem TI_is (way : Toward) (x : Nat) (h : Real (double.read x)) : TI way x = if -9223372036854775808 ≤ whole way (double.read x) ∧ whole way (double.read x) < 9223372036854775808 then (whole way (double.read x), true) else (0, false) := by
  obtain ⟨s, m, e, hr, _⟩ := h
  unfold TI
  rw [hr]

/-- a whole number of a number's making is a double -/
theorem whole_fit (way : Toward) (d : Datum) (h : Real d) : (whole way d).natAbs = 0 ∨ Fit (whole way d).natAbs := by
  obtain ⟨s, m, e, rfl, h1, h2, h3, h4⟩ := h
  have := integral_fit way s m e h1 h2 h3 h4
  simp only [whole, signed_zero]
  cases s
  · simpa using this
  · simpa using this
theorem floatOf_read (p : Int) (h : p.natAbs = 0 ∨ Fit p.natAbs) : ∃ s q e, double.read (floatOfInt .f64 p) = .number s q e ∧ -1074 ≤ e ∧ units (.number s q e) = p * 2 ^ 1074 := by
  obtain ⟨q, e, hr, he, hu, _⟩ := read_whole (decide (p < 0)) p.natAbs h
  refine ⟨_, q, e, hr, he, ?_⟩
  rw [hu, show (1074 : Nat) = 0 + 1074 from rfl, signed_mul, signed_zero]
  congr 1
  by_cases hp : p < 0
  · simp [hp]; omega
  · simp [hp]; omega
theorem order_ix (p : Int) (x : Nat) (h : p.natAbs = 0 ∨ Fit p.natAbs) (hx : Real (double.read x)) :
    FloatKind.f64.format.order (floatOfInt .f64 p) x = some (compare (p * 2 ^ 1074) (units (double.read x))) ∧ FloatKind.f64.format.order x (floatOfInt .f64 p) = some (compare (units (double.read x)) (p * 2 ^ 1074)) := by
  obtain ⟨s, q, e, hr, he, hu⟩ := floatOf_read p h
  obtain ⟨t, n, j, hx', hj, _⟩ := hx
  constructor
  · show (double.read _).order (double.read _) = _
    rw [hr, hx', order_units _ _ _ _ _ _ he hj, hu]
  · show (double.read _).order (double.read _) = _
    rw [hr, hx', order_units _ _ _ _ _ _ hj he, hu]
theorem order_x0 (x : Nat) (hx : Real (double.read x)) : FloatKind.f64.format.order x 0 = some (compare (units (double.read x)) 0) := by
  obtain ⟨t, n, j, hx', hj, _⟩ := hx
  show (double.read _).order (double.read _) = _
  have h0 : double.read 0 = .number false 0 (-1074) := by decide
  rw [hx', h0, order_units _ _ _ _ _ _ hj (by omega)]
  simp [units, signed]
theorem cmp_le (a b : Int) (h : a ≤ b) : (some (compare a b) == some Ordering.lt || some (compare a b) == some Ordering.eq) = true := by
  simp only [compare, compareOfLessAndEq]
  split
  · rfl
  · rw [if_pos (by omega)]; rfl
theorem cmp_ge (a b : Int) (h : b ≤ a) : (some (compare a b) == some Ordering.gt || some (compare a b) == some Ordering.eq) = true := by
  simp only [compare, compareOfLessAndEq]
  rw [if_neg (by omega)]
  split <;> rfl
theorem cmp_eq (a b : Int) (h : a = b) : (some (compare a b) == some Ordering.eq) = true := by
  subst h
  simp [compare, compareOfLessAndEq]

/-- what ToInt's four answers have to do with one another, and with the number -/
structure BLaw (x : Nat) (p q z m : Int) : Prop where
  le1 : (FloatKind.f64.format.order (floatOfInt .f64 p) x == some .lt || FloatKind.f64.format.order (floatOfInt .f64 p) x == some .eq) = true
  le2 : (FloatKind.f64.format.order x (floatOfInt .f64 q) == some .lt || FloatKind.f64.format.order x (floatOfInt .f64 q) == some .eq) = true
  zz : (z = p ∧ (FloatKind.f64.format.order x 0 == some .gt || FloatKind.f64.format.order x 0 == some .eq) = true) ∨ (z = q ∧ (FloatKind.f64.format.order x 0 == some .lt || FloatKind.f64.format.order x 0 == some .eq) = true)
  mm : m = p ∨ m = q
  eq : q = p → (FloatKind.f64.format.order (floatOfInt .f64 p) x == some .eq) = true
  d : q = p ∨ q = p + 1
theorem b_law (x : Nat) (hx : Real (double.read x)) (dn : (TI .down x).2 = true) (up : (TI .up x).2 = true) :
    (TI .zero x).2 = true ∧ (TI .even x).2 = true ∧ BLaw x (TI .down x).1 (TI .up x).1 (TI .zero x).1 (TI .even x).1 := by
  obtain ⟨w1, w2, w3, w4, w5, w6, w7⟩ := ways_law _ hx
  have fd := whole_fit .down _ hx
  have fu := whole_fit .up _ hx
  rw [TI_is .down x hx] at dn
  rw [TI_is .up x hx] at up
  rw [TI_is .down x hx, TI_is .up x hx, TI_is .zero x hx, TI_is .even x hx]
  have o0 := order_x0 x hx
  have op := order_ix (whole .down (double.read x)) x fd hx
  have oq := order_ix (whole .up (double.read x)) x fu hx
  generalize whole .down (double.read x) = p at *
  generalize whole .up (double.read x) = q at *
  generalize whole .zero (double.read x) = z at *
  generalize whole .even (double.read x) = m at *
  generalize units (double.read x) = U at *
  by_cases hp : -9223372036854775808 ≤ p ∧ p < 9223372036854775808
  · by_cases hq : -9223372036854775808 ≤ q ∧ q < 9223372036854775808
    · have hz : -9223372036854775808 ≤ z ∧ z < 9223372036854775808 := by omega
      have hm : -9223372036854775808 ≤ m ∧ m < 9223372036854775808 := by omega
      rw [if_pos hp, if_pos hq, if_pos hz, if_pos hm]
      refine ⟨rfl, rfl, ?_, ?_, ?_, w6, ?_, by omega⟩
      · rw [op.1]; exact cmp_le _ _ w1
      · rw [oq.2]; exact cmp_le _ _ w2
      · rw [o0]
        rcases w5 with ⟨a, b⟩ | ⟨a, b⟩
        · exact .inl ⟨a, cmp_ge _ _ b⟩
        · exact .inr ⟨a, cmp_le _ _ b⟩
      · intro h
        rw [op.1]
        exact cmp_eq _ _ (w7 h)
    · rw [if_neg hq] at up; cases up
  · rw [if_neg hp] at dn; cases dn
theorem TI_off (way : Toward) (x : Nat) (h : (TI way x).2 = false) : (TI way x).1 = 0 := by
  unfold TI at *
  split at h
  · split at h
    · cases h
    · rename_i g; rw [if_neg g]
  · rfl
end Go.Proofs
