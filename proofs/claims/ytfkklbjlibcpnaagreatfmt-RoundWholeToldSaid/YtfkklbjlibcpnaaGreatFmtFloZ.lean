/- Proved here: what a Float in memory is, and the first part of round, for every input that the statements name. -/
import Derived.Test.YtfkklbjlibcpnaaGreatFmtNatB
import Derived.Deep.RegionWith
import Derived.Deep.DeepCutAuto
namespace Go.Proofs
open Go Go.RowKit Go.PB

/-- a Float in block a (its mode: to the nearest, of two the even one) -/
def FloOf (w : World) (a prec : Nat) (acc : Int) (form : Nat) (neg : Bool) (s : Value) (exp : Int) : Prop :=
  ∃ T, Has w a (.cells #[.int .u32 prec, .int .u8 0, .int .i8 acc, .int .u8 form, .bool neg, s, .int .i32 exp] T (0, 0))

/-- round: the mantissa fits -/
def RoundFit (z prec : Nat) (neg : Bool) (s : Value) (exp : Int) (w : World) (e : Ending) (w' : World) : Prop :=
  e = .returned (.tuple #[]) ∧ FloOf w' z prec 0 1 neg s exp ∧ Chg [z] w w'

theorem u32of (a : Int) (h0 : 0 ≤ a) (h : a < 4294967296) : IntKind.u32.wrap a = a := by unfold IntKind.wrap; simp [IntKind.bits, IntKind.signed]; omega
theorem u64of (a : Int) (h0 : 0 ≤ a) (h : a < 18446744073709551616) : IntKind.u64.wrap a = a := by unfold IntKind.wrap; simp [IntKind.bits, IntKind.signed]; omega

set_option maxRecDepth 100000 in
set_option maxHeartbeats 1000000 in
theorem round_fit_walk (z prec : Nat) (acc : Int) (neg : Bool) (b n m : Nat) (exp : Int) (w : World)
    (hz : FloOf w z prec acc 1 neg (.slice (some ⟨b, 0, none⟩) m n) exp) (hm : m ≤ 1000000) (_hp : prec ≤ 1000000000) (hfit : 64 * m ≤ prec) :
    Calls Tryz.prog 198 #[.pointer (some ⟨z, 0, none⟩), .int .u64 0] w (RoundFit z prec neg (.slice (some ⟨b, 0, none⟩) m n) exp w) := by
  obtain ⟨T, hzc⟩ := hz
  have c0 : w.cell? ⟨z, 0, none⟩ = some (.int .u32 prec) := by rw [hzc.cell]; rfl
  have c2 : w.cell? ⟨z, 2, none⟩ = some (.int .i8 acc) := by rw [hzc.cell]; rfl
  have c3 : w.cell? ⟨z, 3, none⟩ = some (.int .u8 1) := by rw [hzc.cell]; rfl
  have c5 : w.cell? ⟨z, 5, none⟩ = some (.slice (some ⟨b, 0, none⟩) m n) := by rw [hzc.cell]; rfl
  have f2 := hzc.free 2
  have e1 : IntKind.u32.wrap ((m : Int)) = (m : Int) := u32of _ (by omega) (by omega)
  have e2 : IntKind.u32.wrap ((m : Int) * 64) = (m : Int) * 64 := u32of _ (by omega) (by omega)
  have hle : (m : Int) * 64 ≤ prec := by omega
  go_enter Tryz.func198, Tryz.ntmps198
  go_wp2
  go_end0
  exact ⟨rfl, ⟨T, hzc.setSame 2 _⟩, (Chg.refl _ _).setCell (.inl (by simp)) _⟩

theorem and_pow_eq (x k : Nat) : x &&& 2 ^ k = (x / 2 ^ k % 2) * 2 ^ k := by
  apply Nat.eq_of_testBit_eq
  intro i
  rw [Nat.testBit_and, Nat.testBit_two_pow]
  by_cases h : k = i
  · subst h
    simp [Nat.testBit_eq_decide_div_mod_eq, Nat.mul_div_cancel _ (Nat.two_pow_pos k)]
  · have : ((x / 2 ^ k % 2) * 2 ^ k).testBit i = false := by
      rcases Nat.mod_two_eq_zero_or_one (x / 2 ^ k) with e | e <;> rw [e]
      · simp
      · simp [h]
    rw [this]; simp [h]

theorem clear_low (x k : Nat) (hk : k ≤ 63) (hx : x < 2 ^ 64) : bits BinOp.andNot IntKind.u64 (x : Int) ((2 ^ k - 1 : Nat) : Int) = ((x / 2 ^ k * 2 ^ k : Nat) : Int) := by
  have hk2 : 2 ^ k ≤ 2 ^ 63 := Nat.pow_le_pow_right (by decide) hk
  rw [u64_andNot_nat _ _ hx (by omega)]
  congr 1
  apply Nat.eq_of_testBit_eq
  intro i
  have e1 : (18446744073709551615 - (2 ^ k - 1) : Nat) = 2 ^ 64 - (2 ^ k - 1 + 1) := by omega
  rw [Nat.testBit_and, e1, Nat.testBit_two_pow_sub_succ (by omega), Nat.testBit_two_pow_sub_one, Nat.testBit_mul_two_pow, Nat.testBit_div_two_pow]
  by_cases hi : i < k
  · simp [hi, show ¬ k ≤ i by omega]
  · by_cases h64 : i < 64
    · simp [hi, h64, show k ≤ i by omega]
    · have : x.testBit i = false := Nat.testBit_lt_two_pow (Nat.lt_of_lt_of_le hx (Nat.pow_le_pow_right (by decide) (by omega)))
      have h3 : i - k + k = i := by omega
      simp [hi, h64, this, h3]

theorem makeAcc_walk (a : Bool) (c : Int) (hc : (if a then 1 else -1) = c) (w : World) : Calls Tryz.prog 197 #[.bool a] w fun e w' => e = .returned (.int .i8 c) ∧ w = w' := by
  subst hc
  cases a
  all_goals
    go_enter Tryz.func197, Tryz.ntmps197
    go_wp2
    go_ret
    exact ⟨rfl, rfl⟩

/-- round: to p bits -/
def RoundPost (z p b n : Nat) (neg : Bool) (acc exp' : Int) (word : Nat) (w : World) (e : Ending) (w' : World) : Prop :=
  e = .returned (.tuple #[]) ∧ Chg [z, b] w w' ∧ ∃ X', FloOf w' z p acc 1 neg (.slice (some ⟨b, 0, none⟩) 1 n) exp' ∧ Row w' b n X' ∧ X' 0 = word ∧ ∀ j, j < n → X' j < 2 ^ 64
/-- the state behind the cut of the words that are too many -/
def RoundMid (z p b n : Nat) (neg : Bool) (exp : Int) (x : Nat) (w wc : World) : Prop :=
  Chg [z, b] w wc ∧ FloOf wc z p 0 1 neg (.slice (some ⟨b, 0, none⟩) 1 n) exp ∧ ∃ X', Row wc b n X' ∧ X' 0 = x ∧ ∀ j, j < n → X' j < 2 ^ 64

end Go.Proofs
