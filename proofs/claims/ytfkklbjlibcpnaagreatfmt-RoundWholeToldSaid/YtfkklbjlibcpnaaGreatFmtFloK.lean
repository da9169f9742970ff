/- Proved here: round where nothing is lost, for every input that the statements name. -/
import Derived.Test.YtfkklbjlibcpnaaGreatFmtFloZ
namespace Go.Proofs
open Go Go.RowKit Go.PB

set_option maxRecDepth 100000 in
set_option maxHeartbeats 4000000 in
/-- round: what is behind the precision is 0, in the lowest word -/
theorem round_keep (z d prec : Nat) (acc : Int) (neg : Bool) (b n m : Nat) (X : Nat → Nat) (exp : Int) (w : World)
    (hz : FloOf w z prec acc 1 neg (.slice (some ⟨b, 0, none⟩) m n) exp) (hrow : Row w b n X) (hX : ∀ j, j < n → X j < 2 ^ 64) (hzb : z ≠ b) (hmn : m ≤ n) (h1 : 1 ≤ m) (hm : m ≤ 1000000)
    (hprec : prec + d = 64 * m) (hd : 1 ≤ d) (hd2 : d ≤ 63) (hlow : X 0 % 2 ^ d = 0) :
    Calls Tryz.prog 198 #[.pointer (some ⟨z, 0, none⟩), .int .u64 0] w fun e w' => e = .returned (.tuple #[]) ∧ FloOf w' z prec 0 1 neg (.slice (some ⟨b, 0, none⟩) m n) exp ∧ Chg [z, b] w w' ∧ Row w' b n X := by
  obtain ⟨T, hzc⟩ := hz
  have c0 : w.cell? ⟨z, 0, none⟩ = some (.int .u32 prec) := by rw [hzc.cell]; rfl
  have c1 : w.cell? ⟨z, 1, none⟩ = some (.int .u8 0) := by rw [hzc.cell]; rfl
  have c2 : w.cell? ⟨z, 2, none⟩ = some (.int .i8 acc) := by rw [hzc.cell]; rfl
  have c3 : w.cell? ⟨z, 3, none⟩ = some (.int .u8 1) := by rw [hzc.cell]; rfl
  have c5 : w.cell? ⟨z, 5, none⟩ = some (.slice (some ⟨b, 0, none⟩) m n) := by rw [hzc.cell]; rfl
  have f2 := hzc.free 2
  obtain ⟨s, hs⟩ : ∃ s, 64 * 0 + (d - 1) = s := ⟨_, rfl⟩
  have e1 : IntKind.u32.wrap ((m : Int)) = (m : Int) := u32of _ (by omega) (by omega)
  have e2 : IntKind.u32.wrap ((m : Int) * 64) = (m : Int) * 64 := u32of _ (by omega) (by omega)
  have e3 : IntKind.u32.wrap ((m : Int) * 64 - prec) = (d : Int) := by rw [u32of _ (by omega) (by omega)]; omega
  have e4 : IntKind.u32.wrap ((d : Int) - 1) = (s : Int) := by rw [u32of _ (by omega) (by omega)]; omega
  have e5 : IntKind.u64.wrap (s : Int) = (s : Int) := u64of _ (by omega) (by omega)
  have e6 : IntKind.u32.wrap ((prec : Int) + 63) = (prec : Int) + 63 := u32of _ (by omega) (by omega)
  have e7t : ((prec : Int) + 63).tdiv 64 = (m : Int) := by rw [Int.tdiv_eq_ediv_of_nonneg (by omega)]; omega
  have e7 : ((prec : Int) + 63) / 64 = (m : Int) := by omega
  have hle : ¬ (m : Int) * 64 ≤ prec := by omega
  have hmm : ¬ (m : Int) < m := by omega
  obtain ⟨x, hx⟩ : ∃ x, X 0 = x := ⟨_, rfl⟩
  have hxl := hX 0 (by omega)
  rw [hx] at hxl hlow
  have hrb : x / 2 ^ (d - 1) % 2 = 0 ∧ x % 2 ^ (d - 1) = 0 := by
    obtain ⟨q, hq⟩ : ∃ q, x = 2 ^ (d - 1) * (2 * q) := ⟨x / 2 ^ d, by
      have h := Nat.div_add_mod x (2 ^ d)
      have h2 : (2 : Nat) ^ d = 2 ^ (d - 1) * 2 := by rw [← Nat.pow_succ]; congr 1; omega
      rw [hlow, Nat.add_zero] at h
      rw [← Nat.mul_assoc, ← h2]; exact h.symm⟩
    have hp := Nat.two_pow_pos (d - 1)
    rw [hq]
    refine ⟨?_, Nat.mul_mod_right _ _⟩
    rw [Nat.mul_div_cancel_left _ hp]; omega
  have hst : stk 0 (d - 1) X = 0 := by
    unfold stk
    rw [if_neg (by rintro (⟨j, hj, _⟩ | h); omega; exact h (by rw [hx]; exact hrb.2))]
  have g0 : w.cell? ⟨b, 0, none⟩ = some (.int .u64 x) := by rw [hrow.cell (by omega), hx]
  have hbit := bit_walk b 0 m n 0 (d - 1) x (w.setCell ⟨z, 2, none⟩ (.int .i8 0)) hxl (by omega) (by omega) hm (by rw [Nat.zero_add, (hrow.setOther (a := ⟨z, 2, none⟩) hzb.symm _).cell (by omega), hx])
  have hstk := sticky_walk b 0 m n 0 (d - 1) X (w.setCell ⟨z, 2, none⟩ (.int .i8 0)) (by omega) (by omega) hm hmn (fun j hj => by rw [Nat.zero_add]; exact (hrow.setOther (a := ⟨z, 2, none⟩) hzb.symm _).cell (by omega)) (fun j hj => hX j (by omega))
  rw [hs] at hbit hstk
  rw [hrb.1] at hbit
  rw [hst] at hstk
  simp only [Int.natCast_zero] at hbit hstk
  have i1 : bits BinOp.and IntKind.u64 0 1 = 0 := by decide
  have i2 : bits BinOp.or IntKind.u64 0 0 = 0 := by decide
  obtain ⟨L, hL⟩ : ∃ L, 2 ^ d = L := ⟨_, rfl⟩
  have hL0 : 0 < L := by rw [← hL]; exact Nat.two_pow_pos _
  have hLm : L ≤ 2 ^ 63 := by rw [← hL]; exact Nat.pow_le_pow_right (by decide) hd2
  have eL0 : ((2 : Int) ^ d) = (L : Int) := by rw [← hL]; simp
  have eL : IntKind.u64.wrap (2 ^ d) = (L : Int) := by rw [eL0, u64of _ (by omega) (by omega)]
  clear eL0
  have eL1 : IntKind.u64.wrap ((L : Int) - 1) = ((L - 1 : Nat) : Int) := by rw [u64of _ (by omega) (by omega)]; omega
  have eF : bits BinOp.andNot IntKind.u64 (x : Int) ((L - 1 : Nat) : Int) = (x : Int) := by
    rw [← hL, clear_low x d hd2 hxl]
    congr 1
    exact Nat.div_mul_cancel (Nat.dvd_of_mod_eq_zero hlow)
  have g1 := hrow.free 0
  have HX := Lib.hid hX; have Hs := Lib.hid hs; have Hx := Lib.hid hx; have Hxl := Lib.hid hxl
  clear hX hs hx hxl hlow hrb hst hL hL0 hLm
  go_enter Tryz.func198, Tryz.ntmps198
  go_wp2_with (first | (go_at_call 228; (with_reducible refine hbit.mono ?_); rintro e w' ⟨rfl, rfl⟩) | (go_at_call 155; (with_reducible refine hstk.mono ?_); rintro e w' ⟨rfl, rfl⟩))
  go_end0
  exact ⟨rfl, ⟨T, (hzc.setSame 2 _).setOther (a := ⟨b, 0, none⟩) hzb _⟩, ((Chg.refl _ _).setCell (.inl (by simp)) _).setCell (.inl (by simp)) _, ((hrow.setOther hzb.symm _).set 0 x).congr fun j _ => by
    by_cases e : j = 0
    · subst e; simp [Hx.out]
    · simp [e]⟩
end Go.Proofs
