/- Proved here: plain laws of binary64: whole numbers, the four ways to one, the top 53 bits, for every input that the statements name. -/
import Ieee.Arith
namespace Go.WL
open Ieee

theorem dbl_sw : double.signWeight = 2 ^ 63 := rfl
theorem dbl_bin : double.binade = 2 ^ 52 := rfl
theorem dbl_inf : double.infRung = 2047 * 2 ^ 52 := by decide
theorem dbl_lp : double.leastPlace = -1074 := by decide

/-- what a whole number has that is a double: no digit behind the 53rd -/
def Fit (M : Nat) : Prop := M ≠ 0 ∧ M.log2 ≤ 1023 ∧ M % 2 ^ (M.log2 - 52) = 0

/-- its digits, 53 of them -/
def top (M : Nat) : Nat := M * 2 ^ (52 - M.log2) / 2 ^ (M.log2 - 52)

theorem log2_bounds {M : Nat} (h : M ≠ 0) : 2 ^ M.log2 ≤ M ∧ M < 2 ^ (M.log2 + 1) := ⟨Nat.log2_self_le h, Nat.lt_log2_self⟩

theorem top_mul {M : Nat} (h : Fit M) : top M * 2 ^ (M.log2 - 52) = M * 2 ^ (52 - M.log2) := by
  obtain ⟨h0, h1, h2⟩ := h
  unfold top
  apply Nat.div_mul_cancel
  exact Nat.dvd_trans (Nat.dvd_of_mod_eq_zero h2) (Nat.dvd_mul_right _ _)
theorem top_bounds {M : Nat} (h : Fit M) : 2 ^ 52 ≤ top M ∧ top M < 2 ^ 53 := by
  have ht := top_mul h
  obtain ⟨h0, h1, h2⟩ := h
  obtain ⟨a, b⟩ := log2_bounds h0
  generalize M.log2 = L at *
  by_cases hL : L ≤ 52
  · rw [show L - 52 = 0 by omega, Nat.pow_zero, Nat.mul_one] at ht
    rw [ht]
    have e : 2 ^ L * 2 ^ (52 - L) = 2 ^ 52 := by rw [← Nat.pow_add]; congr 1; omega
    have e2 : 2 ^ (L + 1) * 2 ^ (52 - L) = 2 ^ 53 := by rw [← Nat.pow_add]; congr 1; omega
    have p := Nat.two_pow_pos (52 - L)
    exact ⟨by rw [← e]; exact Nat.mul_le_mul_right _ a, by rw [← e2]; exact Nat.mul_lt_mul_of_pos_right b p⟩
  · rw [show 52 - L = 0 by omega, Nat.pow_zero, Nat.mul_one] at ht
    have e : 2 ^ 52 * 2 ^ (L - 52) = 2 ^ L := by rw [← Nat.pow_add]; congr 1; omega
    have e2 : 2 ^ 53 * 2 ^ (L - 52) = 2 ^ (L + 1) := by rw [← Nat.pow_add]; congr 1; omega
    have p := Nat.two_pow_pos (L - 52)
    constructor
    · apply Nat.le_of_mul_le_mul_right _ p; rw [e, ht]; exact a
    · apply Nat.lt_of_mul_lt_mul_right (a := 2 ^ (L - 52)); rw [e2, ht]; exact b

theorem le_inf (A B : Nat) (h : A ≤ 2045 * 2 ^ 52) (h2 : B < 2 ^ 53) : A + B ≤ 2047 * 2 ^ 52 := by omega
/-- the word of a whole number that is a double -/
theorem nearest_fit (neg : Bool) {M : Nat} (h : Fit M) : double.nearest neg M 0 = double.word neg ((M.log2 + 1022) * 2 ^ 52 + top M) := by
  have hb := top_bounds h
  have ht := top_mul h
  obtain ⟨h0, h1, h2⟩ := h
  have hl := h1
  unfold Format.nearest
  rw [if_neg h0, dbl_lp, dbl_bin, dbl_inf]
  show double.word neg _ = _
  have e1 : max ((0 : Int) + M.log2 - double.fractionBits) (-1074) = (M.log2 : Int) - 52 := by
    show max ((0 : Int) + M.log2 - (52 : Nat)) (-1074) = _; omega
  simp only [e1]
  have e2 : ((M.log2 : Int) - 52 - -1074).toNat = M.log2 + 1022 := by omega
  have e3 : ((0 : Int) - ((M.log2 : Int) - 52)).toNat = 52 - M.log2 := by omega
  have e4 : ((M.log2 : Int) - 52 - 0).toNat = M.log2 - 52 := by omega
  rw [e2, e3, e4]
  have e5 : Toward.even.cut neg (M <<< (52 - M.log2)) (M.log2 - 52) = top M := by
    unfold Toward.cut
    rw [Nat.shiftLeft_eq]
    have hmin : min (M.log2 - 52) ((M * 2 ^ (52 - M.log2)).log2 + 2) = M.log2 - 52 := by
      by_cases hL : M.log2 ≤ 52
      · omega
      · rw [show 52 - M.log2 = 0 by omega, Nat.pow_zero, Nat.mul_one]; omega
    simp only [hmin, Nat.shiftLeft_eq, Nat.one_mul]
    have hr : M * 2 ^ (52 - M.log2) % 2 ^ (M.log2 - 52) = 0 := by rw [← ht]; exact Nat.mul_mod_left _ _
    have p := Nat.two_pow_pos (M.log2 - 52)
    rw [hr]
    have hq : M * 2 ^ (52 - M.log2) / 2 ^ (M.log2 - 52) = top M := rfl
    rw [hq]
    simp
  rw [e5, Nat.min_eq_left]
  have h3 : (M.log2 + 1022) * 2 ^ 52 ≤ 2045 * 2 ^ 52 := Nat.mul_le_mul_right _ (by omega)
  exact le_inf _ _ h3 hb.2

theorem word_mod (neg : Bool) {r : Nat} (h : r < 2 ^ 63) : double.word neg r % double.signWeight = r ∧ (double.word neg r / double.signWeight % 2 == 1) = neg := by
  rw [dbl_sw]
  unfold Format.word
  rw [dbl_sw]
  cases neg
  · simp; omega
  · simp; omega

/-- a normal word is read as what it is -/
theorem read_word (neg : Bool) (E q : Nat) (hE : E ≤ 2045) (h1 : 2 ^ 52 ≤ q) (h2 : q < 2 ^ 53) : double.read (double.word neg (E * 2 ^ 52 + q)) = .number neg q ((E : Int) - 1074) := by
  have hlt : E * 2 ^ 52 ≤ 2045 * 2 ^ 52 := Nat.mul_le_mul_right _ hE
  obtain ⟨a, b⟩ := word_mod neg (r := E * 2 ^ 52 + q) (by omega)
  unfold Format.read
  rw [a, b, dbl_bin, dbl_inf, dbl_lp]
  have hd : (E * 2 ^ 52 + q) / 2 ^ 52 = E + 1 := by omega
  have hm : (E * 2 ^ 52 + q) % 2 ^ 52 = q - 2 ^ 52 := by omega
  simp only [hd, hm]
  rw [if_neg (by omega), if_pos (by omega)]
  rw [show 2 ^ 52 + (q - 2 ^ 52) = q by omega, show (-1074 : Int) + ((E + 1 - 1 : Nat) : Int) = (E : Int) - 1074 by omega]

theorem read_nearest (neg : Bool) {M : Nat} (h : Fit M) : double.read (double.nearest neg M 0) = .number neg (top M) ((M.log2 : Int) - 52) := by
  have hb := top_bounds h
  have hE : M.log2 + 1022 ≤ 2045 := by have := h.2.1; omega
  rw [nearest_fit neg h, read_word neg _ _ hE hb.1 hb.2, show ((M.log2 + 1022 : Nat) : Int) - 1074 = (M.log2 : Int) - 52 by omega]
end Go.WL

namespace Go.WL
open Ieee

theorem pow_split (a b c : Nat) (h : a + b = c) : 2 ^ a * 2 ^ b = 2 ^ c := by rw [← Nat.pow_add, h]
theorem signed_mul (s : Bool) (m a b : Nat) : signed s m (a + b) = signed s m a * 2 ^ b := by
  unfold signed
  cases s <;> simp [Nat.shiftLeft_eq, Nat.pow_add, Int.mul_assoc, Int.neg_mul]
theorem compare_mul (a b : Int) (k : Nat) : compare (a * 2 ^ k) (b * 2 ^ k) = compare a b := by
  have p : (0 : Int) < 2 ^ k := Int.pow_pos (by decide)
  simp only [compare, compareOfLessAndEq]
  have h1 : a * 2 ^ k < b * 2 ^ k ↔ a < b := ⟨fun h => Int.lt_of_mul_lt_mul_right h (Int.le_of_lt p), fun h => Int.mul_lt_mul_of_pos_right h p⟩
  have h2 : a * 2 ^ k = b * 2 ^ k ↔ a = b := ⟨fun h => Int.eq_of_mul_eq_mul_right (Int.ne_of_gt p) h, fun h => by rw [h]⟩
  simp only [h1, h2]

/-- a number's value in units of the least place -/
def units : Datum → Int
  | .number s m e => signed s m (e + 1074).toNat
  | _ => 0
theorem order_units (s t : Bool) (m n : Nat) (i j : Int) (hi : -1074 ≤ i) (hj : -1074 ≤ j) :
    Datum.order (.number s m i) (.number t n j) = some (compare (units (.number s m i)) (units (.number t n j))) := by
  unfold Datum.order units
  simp only
  have e1 : (i + 1074).toNat = (i - min i j).toNat + (min i j + 1074).toNat := by omega
  have e2 : (j + 1074).toNat = (j - min i j).toNat + (min i j + 1074).toNat := by omega
  rw [e1, e2, signed_mul, signed_mul, compare_mul]

/-- what read gives of a number -/
def Real (d : Datum) : Prop := ∃ s m e, d = .number s m e ∧ -1074 ≤ e ∧ e ≤ 971 ∧ m < 2 ^ 53 ∧ (e ≠ -1074 → 2 ^ 52 ≤ m)
theorem read_cases (x : Nat) : Real (double.read x) ∨ (∃ s, double.read x = .infinity s) ∨ ∃ s t, double.read x = .nan s t := by
  unfold Format.read
  simp only
  by_cases h1 : x % double.signWeight < double.binade
  · rw [if_pos h1]
    rw [dbl_bin] at h1
    exact .inl ⟨_, _, _, rfl, by rw [dbl_lp]; omega, by rw [dbl_lp]; omega, by omega, by rw [dbl_lp]; omega⟩
  rw [if_neg h1]
  by_cases h2 : x % double.signWeight < double.infRung
  · rw [if_pos h2]
    rw [dbl_bin] at h1 ⊢
    rw [dbl_inf] at h2
    have h3 : x % double.signWeight / 2 ^ 52 ≤ 2046 := by omega
    have h4 : x % double.signWeight % 2 ^ 52 < 2 ^ 52 := Nat.mod_lt _ (by decide)
    refine .inl ⟨_, _, _, rfl, by rw [dbl_lp]; omega, by rw [dbl_lp]; omega, by omega, fun _ => by omega⟩
  rw [if_neg h2]
  by_cases h3 : x % double.signWeight = double.infRung
  · rw [if_pos h3]; exact .inr (.inl ⟨_, rfl⟩)
  · rw [if_neg h3]; exact .inr (.inr ⟨_, _, rfl⟩)

/-- how a number is cut -/
theorem cut_spec (way : Toward) (neg : Bool) (n drop : Nat) : ∃ c : Nat, way.cut neg n drop = n / 2 ^ drop + c ∧ c ≤ 1 ∧ (n % 2 ^ drop = 0 → c = 0) ∧
    (way = .down → c = if neg = true ∧ n % 2 ^ drop ≠ 0 then 1 else 0) ∧ (way = .up → c = if neg = false ∧ n % 2 ^ drop ≠ 0 then 1 else 0) ∧ (way = .zero → c = 0) := by
  have hgap : n / (1 <<< min drop (n.log2 + 2)) = n / 2 ^ drop ∧ (n % (1 <<< min drop (n.log2 + 2))) = n % 2 ^ drop := by
    rw [Nat.shiftLeft_eq, Nat.one_mul]
    by_cases h : drop ≤ n.log2 + 2
    · rw [Nat.min_eq_left h]; exact ⟨rfl, rfl⟩
    · rw [Nat.min_eq_right (by omega)]
      have h1 : n < 2 ^ (n.log2 + 2) := by
        have := Nat.lt_log2_self (n := n)
        exact Nat.lt_of_lt_of_le this (Nat.pow_le_pow_right (by decide) (by omega))
      have h2 : n < 2 ^ drop := Nat.lt_of_lt_of_le h1 (Nat.pow_le_pow_right (by decide) (by omega))
      rw [Nat.div_eq_of_lt h1, Nat.div_eq_of_lt h2, Nat.mod_eq_of_lt h1, Nat.mod_eq_of_lt h2]
      exact ⟨rfl, rfl⟩
  have hpos : 0 < 1 <<< min drop (n.log2 + 2) := by rw [Nat.shiftLeft_eq, Nat.one_mul]; exact Nat.two_pow_pos _
  unfold Toward.cut
  simp only [hgap.1, hgap.2]
  generalize 1 <<< min drop (n.log2 + 2) = g at *
  generalize n % 2 ^ drop = r at *
  refine ⟨_, rfl, ?_, ?_, ?_, ?_, ?_⟩
  · exact Bool.toNat_le _
  · rintro rfl
    cases way <;> simp
    omega
  · rintro rfl
    cases neg <;> by_cases h : r = 0 <;> simp [h]
  · rintro rfl
    cases neg <;> by_cases h : r = 0 <;> simp [h]
  · rintro rfl
    rfl

/-- a number made whole: its digits, and that these are a double -/
theorem integral_fit (way : Toward) (s : Bool) (m : Nat) (e : Int) (h1 : -1074 ≤ e) (h2 : e ≤ 971) (h3 : m < 2 ^ 53) (h4 : e ≠ -1074 → 2 ^ 52 ≤ m) :
    way.cut s (m <<< e.toNat) (-e).toNat = 0 ∨ Fit (way.cut s (m <<< e.toNat) (-e).toNat) := by
  obtain ⟨c, hc, hc1, hc0, _⟩ := cut_spec way s (m <<< e.toNat) (-e).toNat
  rw [hc, Nat.shiftLeft_eq] at *
  by_cases he : 0 ≤ e
  · have hd : (-e).toNat = 0 := by omega
    have h5 := h4 (by omega)
    rw [hd] at hc0 ⊢
    rw [hc0 (by rw [Nat.pow_zero, Nat.mod_one])]
    rw [Nat.pow_zero, Nat.div_one, Nat.add_zero]
    right
    obtain ⟨k, hk⟩ : ∃ k : Nat, e = k := ⟨e.toNat, by omega⟩
    subst hk
    rw [Int.toNat_natCast]
    have hp := Nat.two_pow_pos k
    have hlog : (m * 2 ^ k).log2 = 52 + k := by
      rw [Nat.log2_eq_iff (by have := Nat.mul_pos (show 0 < m by omega) hp; omega)]
      rw [Nat.pow_add, show 52 + k + 1 = 53 + k by omega, Nat.pow_add]
      exact ⟨Nat.mul_le_mul_right _ h5, Nat.mul_lt_mul_of_pos_right h3 hp⟩
    refine ⟨by have := Nat.mul_pos (show 0 < m by omega) hp; omega, by rw [hlog]; omega, ?_⟩
    rw [hlog, show 52 + k - 52 = k by omega]
    exact Nat.mul_mod_left _ _
  · have ht : e.toNat = 0 := by omega
    rw [ht, Nat.pow_zero, Nat.mul_one]
    obtain ⟨d, hd⟩ : ∃ d, (-e).toNat = d + 1 := ⟨(-e).toNat - 1, by omega⟩
    rw [hd]
    have hq : m / 2 ^ (d + 1) < 2 ^ 52 := by
      have : m / 2 ^ (d + 1) ≤ m / 2 := by
        apply Nat.div_le_div_left _ (by decide)
        rw [Nat.pow_succ]; have := Nat.two_pow_pos d; omega
      omega
    generalize m / 2 ^ (d + 1) = q at *
    by_cases hz : q + c = 0
    · exact .inl hz
    · right
      have hl : (q + c).log2 ≤ 52 := by
        have : (q + c).log2 < 53 := (Nat.log2_lt hz).2 (by omega)
        omega
      exact ⟨hz, by omega, by rw [show (q + c).log2 - 52 = 0 by omega, Nat.pow_zero, Nat.mod_one]⟩

/-- the double of a whole number, and its value -/
theorem read_whole (s : Bool) (M : Nat) (h : M = 0 ∨ Fit M) : ∃ q e, double.read (double.nearest s M 0) = .number s q e ∧ -1074 ≤ e ∧ units (.number s q e) = signed s M 1074 ∧
    (Datum.toInt .zero (double.read (double.nearest s M 0)) = some (signed s M 0)) := by
  rcases h with rfl | h
  · have h0 : double.nearest s 0 0 = double.word s 0 := by simp [Format.nearest]
    have hr : double.read (double.word s 0) = .number s 0 (-1074) := by cases s <;> rfl
    rw [h0, hr]
    refine ⟨0, -1074, rfl, by omega, ?_, ?_⟩
    · simp only [units, signed, Nat.zero_shiftLeft]
    · cases s <;> rfl
  · rw [read_nearest s h]
    have ht := top_mul h
    have hf := h
    obtain ⟨h0, h1, h2⟩ := h
    refine ⟨_, _, rfl, by omega, ?_, ?_⟩
    · have e0 : top M <<< ((M.log2 : Int) - 52 + 1074).toNat = M <<< 1074 := by
        rw [Nat.shiftLeft_eq, Nat.shiftLeft_eq]
        clear hf h2
        generalize M.log2 = L at *
        generalize top M = q at *
        by_cases hL : L ≤ 52
        · rw [show L - 52 = 0 by omega, Nat.pow_zero, Nat.mul_one] at ht
          rw [ht, Nat.mul_assoc, ← Nat.pow_add, show 52 - L + ((L : Int) - 52 + 1074).toNat = 1074 by omega]
        · rw [show 52 - L = 0 by omega, Nat.pow_zero, Nat.mul_one] at ht
          rw [← ht, Nat.mul_assoc, pow_split (L - 52) 1074 ((L : Int) - 52 + 1074).toNat (by omega)]
      simp only [units, signed]
      rw [e0]
    · unfold Datum.toInt Datum.integral
      simp only
      have e0 : Toward.zero.cut s (top M <<< ((M.log2 : Int) - 52).toNat) (-((M.log2 : Int) - 52)).toNat = M := by
        obtain ⟨c, hc, _, _, _, _, hz⟩ := cut_spec .zero s (top M <<< ((M.log2 : Int) - 52).toNat) (-((M.log2 : Int) - 52)).toNat
        rw [hc, hz rfl, Nat.add_zero, Nat.shiftLeft_eq]
        by_cases hL : M.log2 ≤ 52
        · rw [show M.log2 - 52 = 0 by omega, Nat.pow_zero, Nat.mul_one] at ht
          rw [ht, show ((M.log2 : Int) - 52).toNat = 0 by omega, show (-((M.log2 : Int) - 52)).toNat = 52 - M.log2 by omega, Nat.pow_zero, Nat.mul_one]
          exact Nat.mul_div_cancel _ (Nat.two_pow_pos _)
        · rw [show 52 - M.log2 = 0 by omega, Nat.pow_zero, Nat.mul_one] at ht
          rw [show ((M.log2 : Int) - 52).toNat = M.log2 - 52 by omega, show (-((M.log2 : Int) - 52)).toNat = 0 by omega, ht]
          simp
      rw [e0]
end Go.WL

namespace Go.WL
open Ieee

/-- a datum made whole, as an integer (0 where it is no number) -/
def whole (way : Toward) : Datum → Int
  | .number s m e => signed s (way.cut s (m <<< e.toNat) (-e).toNat) 0
  | _ => 0

theorem signed_zero (s : Bool) (m : Nat) : signed s m 0 = if s then -(m : Int) else m := by
  unfold signed; simp

/-- the same in units: what lies below, what lies above -/
theorem units_split (s : Bool) (m : Nat) (e : Int) (h1 : -1074 ≤ e) : ∃ K G r low : Nat, 0 < G ∧ r < G ∧ G * K = 2 ^ 1074 ∧ 0 < K ∧
    low = (m <<< e.toNat) / 2 ^ (-e).toNat ∧ r = (m <<< e.toNat) % 2 ^ (-e).toNat ∧ units (.number s m e) = (if s then -(((low * G + r) * K : Nat) : Int) else ((low * G + r) * K : Nat)) := by
  refine ⟨2 ^ (1074 - (-e).toNat), 2 ^ (-e).toNat, _, _, Nat.two_pow_pos _, Nat.mod_lt _ (Nat.two_pow_pos _), ?_, Nat.two_pow_pos _, rfl, rfl, ?_⟩
  · rw [← Nat.pow_add]; congr 1; omega
  · have hd : (m <<< e.toNat) / 2 ^ (-e).toNat * 2 ^ (-e).toNat + (m <<< e.toNat) % 2 ^ (-e).toNat = m <<< e.toNat := Nat.div_add_mod' _ _
    rw [hd, Nat.shiftLeft_eq, Nat.mul_assoc, ← Nat.pow_add]
    have e1 : e.toNat + (1074 - (-e).toNat) = (e + 1074).toNat := by omega
    rw [e1]
    simp only [units, signed, Nat.shiftLeft_eq]

/-- what ToInt's four ways have to do with one another -/
theorem ways_law (d : Datum) (hd : Real d) :
    whole .down d * 2 ^ 1074 ≤ units d ∧ units d ≤ whole .up d * 2 ^ 1074 ∧ whole .up d - whole .down d ≤ 1 ∧ whole .down d ≤ whole .up d ∧
    ((whole .zero d = whole .down d ∧ 0 ≤ units d) ∨ (whole .zero d = whole .up d ∧ units d ≤ 0)) ∧ (whole .even d = whole .down d ∨ whole .even d = whole .up d) ∧
    (whole .up d = whole .down d → whole .down d * 2 ^ 1074 = units d) := by
  obtain ⟨s, m, e, rfl, h1, h2, h3, h4⟩ := hd
  obtain ⟨K, G, r, low, hG, hr, hGK, hK, hlow, hrr, hu⟩ := units_split s m e h1
  obtain ⟨cd, ed, _, _, hcd, _, _⟩ := cut_spec .down s (m <<< e.toNat) (-e).toNat
  obtain ⟨cu, eu, _, _, _, hcu, _⟩ := cut_spec .up s (m <<< e.toNat) (-e).toNat
  obtain ⟨cz, ez, _, _, _, _, hcz⟩ := cut_spec .zero s (m <<< e.toNat) (-e).toNat
  obtain ⟨ce, ee, hce, hce0, _, _, _⟩ := cut_spec .even s (m <<< e.toNat) (-e).toNat
  replace hcd := hcd rfl
  replace hcu := hcu rfl
  replace hcz := hcz rfl
  rw [← hlow] at ed eu ez ee
  rw [← hrr] at hcd hcu hce0
  simp only [whole, ed, eu, ez, ee, signed_zero, hu, hcz]
  have hP : ((2 : Int) ^ 1074) = ((G * K : Nat) : Int) := by rw [hGK]; exact (Int.natCast_pow 2 1074).symm
  rw [hP]
  have key : (low * G + r) * K = low * (G * K) + r * K := by rw [Nat.add_mul, Nat.mul_assoc]
  rw [key]
  have hrK : r * K < G * K := Nat.mul_lt_mul_of_pos_right hr hK
  have hr0 : r * K = 0 ↔ r = 0 := by rw [Nat.mul_eq_zero]; omega
  generalize G * K = W at *
  generalize r * K = R at *
  clear hu key hP hGK ed eu ez ee hlow hrr hcz
  have hlW : ((low * W : Nat) : Int) = (low : Int) * W := by simp
  have h0 : 0 ≤ low * W := Nat.zero_le _
  generalize hA : low * W = A at *
  by_cases hz : r = 0
  · have hR : R = 0 := hr0.2 hz
    have hce1 := hce0 hz
    subst hR
    have e2 : (-(low : Int)) * W = -(A : Int) := by rw [Int.neg_mul, ← hlW]
    cases s
    all_goals
      rw [if_neg (by simp [hz])] at hcd hcu
      subst hcd hcu hce1
      simp [e2]
      try omega
  · have hR : R ≠ 0 := fun h => hz (hr0.1 h)
    clear hce0
    cases s
    · rw [if_neg (by simp)] at hcd
      rw [if_pos ⟨rfl, hz⟩] at hcu
      subst hcd hcu
      have e1 : ((low : Int) + 1) * W = A + W := by rw [Int.add_mul, Int.one_mul, ← hlW]
      simp [e1]
      omega
    · rw [if_pos ⟨rfl, hz⟩] at hcd
      rw [if_neg (by simp)] at hcu
      subst hcd hcu
      have e1 : ((low : Int) + 1) * W = A + W := by rw [Int.add_mul, Int.one_mul, ← hlW]
      have e2 : (-(low : Int)) * W = -(A : Int) := by rw [Int.neg_mul, ← hlW]
      have e3 : (-((low : Int) + 1)) * W = -((A : Int) + W) := by rw [Int.neg_mul, e1]
      simp only [if_true, Int.natCast_add, Int.natCast_one, Int.natCast_zero, Int.add_zero, e2, e3, true_and]
      omega
end Go.WL

namespace Go.WL
open Ieee

theorem whole_exact (way : Toward) (d : Datum) (hd : Real d) (V : Int) (hV : units d = V * 2 ^ 1074) : whole way d = V := by
  obtain ⟨s, m, e, rfl, h1, h2, h3, h4⟩ := hd
  obtain ⟨K, G, r, low, hG, hr, hGK, hK, hlow, hrr, hu⟩ := units_split s m e h1
  obtain ⟨c, ec, _, hc0, _⟩ := cut_spec way s (m <<< e.toNat) (-e).toNat
  rw [← hlow] at ec
  rw [← hrr] at hc0
  simp only [whole, ec, signed_zero]
  have hP : ((2 : Int) ^ 1074) = ((G * K : Nat) : Int) := by rw [hGK]; exact (Int.natCast_pow 2 1074).symm
  rw [hu, hP] at hV
  have key : ∃ v : Nat, (low * G + r) * K = v * (G * K) ∧ V = if s then -(v : Int) else v := by
    have hW : (0 : Int) < ((G * K : Nat) : Int) := by exact_mod_cast Nat.mul_pos hG hK
    refine ⟨V.natAbs, ?_, ?_⟩
    · have h : (low * G + r) * K = (V * ((G * K : Nat) : Int)).natAbs := by
        rw [← hV]
        cases s
        · rw [if_neg (by simp), Int.natAbs_natCast]
        · rw [if_pos rfl, Int.natAbs_neg, Int.natAbs_natCast]
      rw [Int.natAbs_mul, Int.natAbs_natCast] at h
      exact h
    · have hn : (0 : Int) ≤ ((((low * G + r) * K : Nat) : Int)) := Int.natCast_nonneg _
      cases s
      · rw [if_neg (by simp)] at hV
        have : 0 ≤ V := by
          by_cases h : V < 0
          · have h5 := Int.mul_neg_of_neg_of_pos h hW
            omega
          · omega
        simp; omega
      · rw [if_pos rfl] at hV
        have : V ≤ 0 := by
          by_cases h : 0 < V
          · have h5 := Int.mul_pos h hW
            omega
          · omega
        simp; omega
  obtain ⟨v, hv, rfl⟩ := key
  rw [← Nat.mul_assoc] at hv
  have hv2 : low * G + r = v * G := Nat.eq_of_mul_eq_mul_right hK hv
  have hr0 : r = 0 := by
    have : (low * G + r) % G = r := by rw [Nat.mul_comm, Nat.mul_add_mod, Nat.mod_eq_of_lt hr]
    rw [hv2, Nat.mul_mod_left] at this
    omega
  have hl : low = v := by
    rw [hr0, Nat.add_zero] at hv2
    exact Nat.eq_of_mul_eq_mul_right hG hv2
  rw [hc0 hr0, hl]
  simp

theorem sgn_mul (neg : Bool) (m k : Nat) : (if neg = true then -((m * 2 ^ k : Nat) : Int) else ((m * 2 ^ k : Nat) : Int)) = (if neg = true then -(m : Int) else m) * 2 ^ k := by
  cases neg <;> simp [Int.neg_mul]
/-- a double near a whole number's value -/
theorem read_norm (neg : Bool) (L q : Nat) (hL1 : 1 ≤ L) (hL : L ≤ 64) (h1 : 2 ^ 52 ≤ q) (h2 : q ≤ 2 ^ 53) :
    Real (double.read (double.word neg ((L + 1021) * 2 ^ 52 + q))) ∧ units (double.read (double.word neg ((L + 1021) * 2 ^ 52 + q))) = signed neg q (L + 1021) := by
  by_cases hq : q < 2 ^ 53
  · rw [read_word neg (L + 1021) q (by omega) h1 hq]
    refine ⟨⟨_, _, _, rfl, by omega, by omega, hq, fun _ => h1⟩, ?_⟩
    simp only [units]
    rw [show (((L + 1021 : Nat) : Int) - 1074 + 1074).toNat = L + 1021 by omega]
  · have hq2 : q = 2 ^ 53 := by omega
    subst hq2
    rw [show (L + 1021) * 2 ^ 52 + 2 ^ 53 = (L + 1022) * 2 ^ 52 + 2 ^ 52 by omega, read_word neg (L + 1022) (2 ^ 52) (by omega) (by omega) (by omega)]
    refine ⟨⟨_, _, _, rfl, by omega, by omega, by omega, fun _ => by omega⟩, ?_⟩
    simp only [units]
    rw [show (((L + 1022 : Nat) : Int) - 1074 + 1074).toNat = L + 1021 + 1 by omega]
    have e : 2 ^ 52 * 2 ^ (L + 1021 + 1) = 2 ^ 53 * 2 ^ (L + 1021) := by rw [Nat.pow_succ 2 (L + 1021), show 2 ^ 53 = 2 ^ 52 * 2 from rfl, Nat.mul_assoc, Nat.mul_comm (2 ^ (L + 1021)) 2]
    simp only [signed, Nat.shiftLeft_eq]
    rw [e]

/-- the top 53 bits of a whole number -/
theorem top53 (m L : Nat) (h1 : 2 ^ (L - 1) ≤ m) (h2 : m < 2 ^ L) (hL1 : 1 ≤ L) (hL : L ≤ 64) :
    2 ^ 52 ≤ m * 2 ^ (64 - L) / 2 ^ 11 ∧ m * 2 ^ (64 - L) / 2 ^ 11 < 2 ^ 53 ∧
    (L ≤ 53 → m * 2 ^ (64 - L) / 2 ^ 11 = m * 2 ^ (53 - L) ∧ m * 2 ^ (64 - L) % 2 ^ 11 = 0) ∧
    (53 ≤ L → m * 2 ^ (64 - L) / 2 ^ 11 = m / 2 ^ (L - 53) ∧ m * 2 ^ (64 - L) % 2 ^ 11 = m % 2 ^ (L - 53) * 2 ^ (64 - L)) := by
  have a1 : 2 ^ 63 ≤ m * 2 ^ (64 - L) := by
    have : 2 ^ (L - 1) * 2 ^ (64 - L) = 2 ^ 63 := by rw [← Nat.pow_add]; congr 1; omega
    rw [← this]; exact Nat.mul_le_mul_right _ h1
  have a2 : m * 2 ^ (64 - L) < 2 ^ 64 := by
    have : 2 ^ L * 2 ^ (64 - L) = 2 ^ 64 := by rw [← Nat.pow_add]; congr 1; omega
    rw [← this]; exact Nat.mul_lt_mul_of_pos_right h2 (Nat.two_pow_pos _)
  refine ⟨by omega, by omega, fun h => ?_, fun h => ?_⟩
  · have : 2 ^ (64 - L) = 2 ^ (53 - L) * 2 ^ 11 := by rw [← Nat.pow_add]; congr 1; omega
    rw [this, ← Nat.mul_assoc]
    exact ⟨Nat.mul_div_cancel _ (Nat.two_pow_pos _), Nat.mul_mod_left _ _⟩
  · have e : 2 ^ 11 = 2 ^ (L - 53) * 2 ^ (64 - L) := by rw [← Nat.pow_add]; congr 1; omega
    rw [e]
    exact ⟨Nat.mul_div_mul_right _ _ (Nat.two_pow_pos _), Nat.mul_mod_mul_right _ _ _⟩

theorem fromInt_law (neg : Bool) (m L q : Nat) (h1 : 2 ^ (L - 1) ≤ m) (h2 : m < 2 ^ L) (hL1 : 1 ≤ L) (hL : L ≤ 64) (hm : m ≤ 2 ^ 63) (hp : neg = false → m < 2 ^ 63)
    (hq : q = m * 2 ^ (64 - L) / 2 ^ 11 + (if neg = true ∧ m * 2 ^ (64 - L) % 2 ^ 11 ≠ 0 then 1 else 0)) :
    ∃ V : Int, Real (double.read (double.word neg ((L + 1021) * 2 ^ 52 + q))) ∧ units (double.read (double.word neg ((L + 1021) * 2 ^ 52 + q))) = V * 2 ^ 1074 ∧
      -9223372036854775808 ≤ V ∧ V < 9223372036854775808 ∧ V ≤ (if neg then -(m : Int) else m) ∧ (m < 2 ^ 53 → V = (if neg then -(m : Int) else m)) := by
  obtain ⟨b1, b2, b3, b4⟩ := top53 m L h1 h2 hL1 hL
  have hq1 : 2 ^ 52 ≤ q ∧ q ≤ 2 ^ 53 := by rw [hq]; split <;> omega
  obtain ⟨r1, r2⟩ := read_norm neg L q hL1 hL hq1.1 hq1.2
  by_cases h53 : L ≤ 53
  · obtain ⟨c1, c2⟩ := b3 h53
    rw [c1, if_neg (by rw [c2]; simp), Nat.add_zero] at hq
    refine ⟨if neg then -(m : Int) else m, r1, ?_, ?_, ?_, Int.le_refl _, fun _ => rfl⟩
    · rw [r2, hq]
      have e : m * 2 ^ (53 - L) * 2 ^ (L + 1021) = m * 2 ^ 1074 := by rw [Nat.mul_assoc, ← Nat.pow_add]; rw [show 53 - L + (L + 1021) = 1074 by omega]
      simp only [signed, Nat.shiftLeft_eq, e]
      exact sgn_mul neg m 1074
    · split <;> omega
    · cases neg
      · have := hp rfl; simp; omega
      · simp; omega
  · obtain ⟨c1, c2⟩ := b4 (by omega)
    have hs : 2 ^ (L - 53) * 2 ^ (116 - L) = 2 ^ 63 := by rw [← Nat.pow_add]; congr 1; omega
    have hd := Nat.div_add_mod m (2 ^ (L - 53))
    have hlt := Nat.mod_lt m (Nat.two_pow_pos (L - 53))
    have hz : m * 2 ^ (64 - L) % 2 ^ 11 = 0 ↔ m % 2 ^ (L - 53) = 0 := by
      rw [c2, Nat.mul_eq_zero]
      have := Nat.two_pow_pos (64 - L)
      omega
    have hm53 : ¬ m < 2 ^ 53 := by
      have : 2 ^ 53 ≤ 2 ^ (L - 1) := Nat.pow_le_pow_right (by decide) (by omega)
      omega
    have hS := Nat.two_pow_pos (L - 53)
    have e : q * 2 ^ (L + 1021) = q * 2 ^ (L - 53) * 2 ^ 1074 := by rw [Nat.mul_assoc, pow_split (L - 53) 1074 (L + 1021) (by omega)]
    refine ⟨if neg then -((q * 2 ^ (L - 53) : Nat) : Int) else (q * 2 ^ (L - 53) : Nat), r1, ?_, ?_, ?_, ?_, fun h => absurd h hm53⟩
    · rw [r2]
      simp only [signed, Nat.shiftLeft_eq, e]
      exact sgn_mul neg (q * 2 ^ (L - 53)) 1074
    · cases neg
      · simp only [Bool.false_eq_true, if_false]; omega
      · simp only [if_true]
        have : q * 2 ^ (L - 53) ≤ 2 ^ 63 := by
          rw [← hs, Nat.mul_comm q]
          apply Nat.mul_le_mul_left
          rw [hq, c1]
          by_cases h0 : m % 2 ^ (L - 53) = 0
          · rw [if_neg (by rw [hz.2 h0]; simp), Nat.add_zero]
            rw [Nat.div_le_iff_le_mul_add_pred hS]
            rw [← hs] at hm; omega
          · have : m / 2 ^ (L - 53) < 2 ^ (116 - L) := by
              rw [Nat.div_lt_iff_lt_mul hS, Nat.mul_comm, hs]
              have : m ≠ 2 ^ 63 := by
                rintro rfl
                rw [← hs] at h0
                exact h0 (Nat.mul_mod_right _ _)
              omega
            split <;> omega
        omega
    · cases neg
      · have := hp rfl
        rw [if_neg (by simp), Nat.add_zero] at hq
        simp only [Bool.false_eq_true, if_false]
        rw [hq, c1, Nat.mul_comm]
        omega
      · simp only [if_true]; omega
    · cases neg
      · rw [if_neg (by simp), Nat.add_zero] at hq
        simp only [Bool.false_eq_true, if_false]
        rw [hq, c1, Nat.mul_comm]
        omega
      · simp only [if_true]
        rw [hq, c1, Nat.add_mul, Nat.mul_comm]
        by_cases h0 : m % 2 ^ (L - 53) = 0
        · rw [if_neg (by rw [hz.2 h0]; simp)]
          omega
        · rw [if_pos ⟨rfl, fun h => h0 (hz.1 h)⟩]
          omega
end Go.WL
