/- Proved here: walks of bitLen, nlz, fnorm, bit, sticky, Add64, Sub64, addVW, rshVU, for every input that the statements name. -/
import Derived.Test.YtfkklbjlibcpnaaGreatFmtNat5
import Derived.Test.YtfkklbjlibcpnaaGreatFmtSh
import Derived.Lib.ItoaNum
import Derived.Shelf.Spec.BitsCarry
import Derived.LaidEqlPtr
namespace Go.Proofs
open Go Go.RowKit Go.PB

theorem bitLen_bounds (x : Nat) (h : x < 2 ^ 64) (h0 : x ≠ 0) : 1 ≤ Lib.bitLen x ∧ 2 ^ (Lib.bitLen x - 1) ≤ x ∧ x < 2 ^ Lib.bitLen x :=
  Lib.bitLenAux_bounds 64 x h h0
theorem bitLen_zero : Lib.bitLen 0 = 0 := rfl
theorem bitLen_le64 (x : Nat) (h : x < 2 ^ 64) : Lib.bitLen x ≤ 64 := Lib.bitLen_le x 64 (Nat.le_refl _) h
theorem bitLen_unique (x b : Nat) (h : x < 2 ^ 64) (h1 : 2 ^ (b - 1) ≤ x) (h2 : x < 2 ^ b) (hb : 1 ≤ b) : Lib.bitLen x = b := by
  have h0 : x ≠ 0 := by have := Nat.two_pow_pos (b - 1); omega
  obtain ⟨a1, a2, a3⟩ := bitLen_bounds x h h0
  have c1 : b - 1 < Lib.bitLen x := (Nat.pow_lt_pow_iff_right (by decide : 1 < 2)).1 (Nat.lt_of_le_of_lt h1 a3)
  have c2 : Lib.bitLen x - 1 < b := (Nat.pow_lt_pow_iff_right (by decide : 1 < 2)).1 (Nat.lt_of_le_of_lt a2 h2)
  omega
theorem bitLen_smear (y c : Nat) (hy : y < 2 ^ 64) : Lib.bitLen (y ||| y / c) = Lib.bitLen y := by
  by_cases h0 : y = 0
  · subst h0; simp
  obtain ⟨a1, a2, a3⟩ := bitLen_bounds y hy h0
  refine bitLen_unique _ _ (Nat.or_lt_two_pow hy (Nat.lt_of_le_of_lt (Nat.div_le_self _ _) hy)) (Nat.le_trans a2 Nat.left_le_or) (Nat.or_lt_two_pow a3 (Nat.lt_of_le_of_lt (Nat.div_le_self _ _) a3)) a1
theorem smear_fact (x c : Nat) (hx : x < 2 ^ 64) : ∃ t, bits BinOp.or IntKind.u64 (x : Int) ((x : Int) / (c : Int)) = ((t : Nat) : Int) ∧ t < 2 ^ 64 ∧ Lib.bitLen t = Lib.bitLen x := by
  refine ⟨x ||| x / c, ?_, Nat.or_lt_two_pow hx (Nat.lt_of_le_of_lt (Nat.div_le_self _ _) hx), bitLen_smear x c hx⟩
  rw [← u64_or_nat x (x / c) hx (Nat.lt_of_le_of_lt (Nat.div_le_self _ _) hx)]
  simp

set_option maxRecDepth 100000 in
set_option maxHeartbeats 1000000 in
theorem bitLen_walk (b off m cap : Nat) (x : Nat) (w : World) (hx : x < 2 ^ 64) (hm : m < 1000000)
    (hc : w.cell? ⟨b, off + m, none⟩ = some (.int .u64 x)) :
    Calls Tryz.prog 139 #[.slice (some ⟨b, off, none⟩) (m + 1) cap] w fun e w' => e = .returned (.int .i64 ((64 * m + Lib.bitLen x : Nat) : Int)) ∧ w = w' := by
  obtain ⟨t1, e1, h1, l1⟩ := smear_fact x 2 hx
  obtain ⟨t2, e2, h2, l2⟩ := smear_fact t1 4 h1
  obtain ⟨t3, e3, h3, l3⟩ := smear_fact t2 16 h2
  obtain ⟨t4, e4, h4, l4⟩ := smear_fact t3 256 h3
  obtain ⟨t5, e5, h5, l5⟩ := smear_fact t4 65536 h4
  obtain ⟨t6, e6, h6, l6⟩ := smear_fact t5 (65536 * 65536) h5
  have e6' : bits BinOp.or IntKind.u64 (t5 : Int) ((t5 : Int) / 65536 / 65536) = (t6 : Int) := by
    rw [← e6, Int.ediv_ediv_of_nonneg (by omega)]; rfl
  simp only [Int.cast_ofNat_Int] at e1 e2 e3 e4 e5
  have hb := bitLen_le64 t6 h6
  have hlen := Tryz.bits_Len t6 w (by omega) (by omega)
  have hL : Lib.bitLen t6 = Lib.bitLen x := by rw [l6, l5, l4, l3, l2, l1]
  simp only [Int.toNat_natCast] at hlen
  rw [hL] at hlen hb
  clear e6 l1 l2 l3 l4 l5 l6 h1 h2 h3 h4 h5 h6 hL hx
  generalize Lib.bitLen x = L at *
  go_enter Tryz.func139, Tryz.ntmps139
  go_wp2_with (go_at_call 186; refine hlen.mono ?_; rintro e w' ⟨rfl, rfl⟩)
  go_ret
  refine ⟨?_, rfl⟩
  congr 1
  simp
  omega
theorem bitLen_zero_walk (p : Option Addr) (cap : Nat) (w : World) : Calls Tryz.prog 139 #[.slice p 0 cap] w fun e w' => e = .returned (.int .i64 0) ∧ w = w' := by
  go_enter Tryz.func139, Tryz.ntmps139
  go_wp2
  go_ret
  exact ⟨rfl, rfl⟩

theorem nlz_walk (x : Nat) (w : World) (hx : x < 2 ^ 64) : Calls Tryz.prog 196 #[.int .u64 x] w fun e w' => e = .returned (.int .u64 ((64 - Lib.bitLen x : Nat) : Int)) ∧ w = w' := by
  have hb := bitLen_le64 x hx
  have hlen := Tryz.bits_LeadingZeros x w (by omega) (by omega)
  simp only [Int.toNat_natCast] at hlen
  generalize Lib.bitLen x = L at *
  clear hx
  go_enter Tryz.func196, Tryz.ntmps196
  go_wp2_with (go_at_call 227; refine hlen.mono ?_; rintro e w' ⟨rfl, rfl⟩)
  go_ret
  refine ⟨?_, rfl⟩
  show Ending.returned (.int .u64 (64 - (L : Int))) = _
  congr 2
  omega

/-- what fnorm leaves: the top bit is set -/
def FnormPost (b n m : Nat) (D : Nat → Nat) (w : World) (e : Ending) (w' : World) : Prop :=
  ∃ D', Chg [b] w w' ∧ Row w' b n D' ∧ e = .returned (.int .i64 ((64 - Lib.bitLen (D (m - 1)) : Nat) : Int)) ∧ Hid (val m D' = val m D * 2 ^ (64 - Lib.bitLen (D (m - 1))) ∧ (∀ j, j < n → D' j < 2 ^ 64) ∧ 2 ^ 63 ≤ D' (m - 1))

theorem norm_shift (m : Nat) (D : Nat → Nat) (h1 : 1 ≤ m) (hD : ∀ j, j < m → D j < 2 ^ 64) (s : Nat) (hs : s = 64 - Lib.bitLen (D (m - 1))) (htop : D (m - 1) ≠ 0) :
    val m (fun j => shw s (D j) (if j = 0 then 0 else D (j - 1))) = val m D * 2 ^ s ∧ 2 ^ 63 ≤ shw s (D (m - 1)) (if m - 1 = 0 then 0 else D (m - 1 - 1)) := by
  obtain ⟨a1, a2, a3⟩ := bitLen_bounds (D (m - 1)) (hD _ (by omega)) htop
  have hl := bitLen_le64 (D (m - 1)) (hD _ (by omega))
  have hsl : 64 - s = Lib.bitLen (D (m - 1)) := by omega
  constructor
  · have h := shD_val_aux m 0 s D (by omega) hD m (Nat.le_refl _)
    rw [if_neg (by omega), hsl, Nat.div_eq_of_lt a3] at h
    simp only [Nat.zero_add, Nat.zero_mul, Nat.add_zero, Nat.mul_zero] at h
    rw [← h]
    refine val_congr fun j hj => ?_
    have : shD m 0 s D j = shw s (D (j - 0)) (if j = 0 then 0 else D (j - 0 - 1)) := by
      unfold shD
      rw [if_neg (show ¬ j < 0 by omega), if_pos (show j < 0 + m by omega)]
    rw [this]
    simp
  · refine Nat.le_trans ?_ Nat.left_le_or
    have e64 : (2 : Nat) ^ 64 = 2 ^ Lib.bitLen (D (m - 1)) * 2 ^ s := by rw [← Nat.pow_add]; congr 1; omega
    rw [Nat.mod_eq_of_lt (by rw [e64]; exact Nat.mul_lt_mul_of_pos_right a3 (Nat.two_pow_pos _))]
    have e63 : (2 : Nat) ^ 63 = 2 ^ (Lib.bitLen (D (m - 1)) - 1) * 2 ^ s := by rw [← Nat.pow_add]; congr 1; omega
    rw [e63]
    exact Nat.mul_le_mul_right _ a2

set_option maxRecDepth 100000 in
set_option maxHeartbeats 1000000 in
theorem fnorm_walk (b n cap m : Nat) (D : Nat → Nat) (w : World) (hrow : Row w b n D) (hD : ∀ j, j < n → D j < 2 ^ 64) (h1 : 1 ≤ m) (hmn : m ≤ n) (hm : m ≤ 1000000) (htop : D (m - 1) ≠ 0) :
    Calls Tryz.prog 151 #[.slice (some ⟨b, 0, none⟩) m cap] w (FnormPost b n m D w) := by
  have HD := Lib.hid hD; clear hD
  obtain ⟨s, hs⟩ : ∃ s, 64 - Lib.bitLen (D (m - 1)) = s := ⟨_, rfl⟩
  have c1 := hrow.cell (k := m - 1) (by omega)
  have hnlz := nlz_walk (D (m - 1)) w (HD.out _ (by omega))
  have hns := norm_shift m D h1 (fun j hj => HD.out j (by omega)) s hs.symm htop
  have hl := bitLen_le64 (D (m - 1)) (HD.out _ (by omega))
  have hb1 := (bitLen_bounds (D (m - 1)) (HD.out _ (by omega)) htop).1
  unfold FnormPost
  rw [hs] at hnlz ⊢
  have hs63 : s ≤ 63 := by omega
  have Hns := Lib.hid hns; clear hns hl hb1 hs htop
  have hsc : IntKind.i64.wrap (s : Int) = (s : Int) := IntWalk.i64_in _ (by omega)
  by_cases hs0 : s = 0
  · subst hs0
    simp only [Int.natCast_zero] at hnlz
    go_enter Tryz.func151, Tryz.ntmps151
    go_wp2_with (go_at_call 196; refine hnlz.mono ?_; rintro e w' ⟨rfl, rfl⟩)
    go_ret
    refine ⟨D, Chg.refl _ _, hrow, rfl, Lib.hid ⟨by simp, HD.out, ?_⟩⟩
    have := Hns.out.2
    refine Nat.le_trans this ?_
    have h64 := HD.out (m - 1) (by omega)
    have h65 : (if m - 1 = 0 then 0 else D (m - 1 - 1)) < 2 ^ 64 := by split; decide; exact HD.out _ (by omega)
    unfold shw
    rw [Nat.pow_zero, Nat.mul_one, Nat.mod_eq_of_lt h64, Nat.div_eq_of_lt h65]
    simp
  · have hL := lshVU_g_walk b 0 n cap b 0 cap m s D D w (by omega) hs63 h1 (by omega) hrow (by omega) (fun k hk => by rw [Nat.zero_add]; exact hrow.cell (by omega)) (fun k hk => by have := HD.out k (by omega); omega) (.inr (by omega))
    have hs0' : (0 : Int) < s := by omega
    go_enter Tryz.func151, Tryz.ntmps151
    go_wp2_with (first | (go_at_call 196; refine hnlz.mono ?_; rintro e w' ⟨rfl, rfl⟩) | (go_at_call 62; refine hL.mono ?_; rintro e w' ⟨rfl, hc, hr⟩))
    go_ret
    refine ⟨_, hc, hr, rfl, Lib.hid ⟨?_, ?_, ?_⟩⟩
    · rw [← Hns.out.1]
      refine val_congr fun j hj => ?_
      rw [if_pos (by omega)]
      simp
    · intro j hj
      split
      · refine shw_lt _ _ _ ?_
        split
        · decide
        · exact HD.out _ (by omega)
      · exact HD.out _ hj
    · rw [if_pos (by omega)]
      exact Hns.out.2
end Go.Proofs

namespace Go.Proofs
open Go Go.RowKit Go.PB

set_option maxRecDepth 100000 in
set_option maxHeartbeats 1000000 in
theorem bit_walk (b off m cap q r : Nat) (x : Nat) (w : World) (hx : x < 2 ^ 64) (hr : r < 64) (hq : q < m) (hm : m ≤ 1000000)
    (hc : w.cell? ⟨b, off + q, none⟩ = some (.int .u64 x)) :
    Calls Tryz.prog 228 #[.slice (some ⟨b, off, none⟩) m cap, .int .u64 ((64 * q + r : Nat) : Int)] w fun e w' => e = .returned (.int .u64 ((x / 2 ^ r % 2 : Nat) : Int)) ∧ w = w' := by
  obtain ⟨s, hs⟩ : ∃ s, 64 * q + r = s := ⟨_, rfl⟩
  rw [hs]
  have hq1 : (s : Int) / 64 = (q : Int) := by omega
  have hr1 : (s : Int) % 64 = (r : Int) := by omega
  have Hs := Lib.hid hs; clear hs
  have e1 : bits BinOp.and IntKind.u64 ((x : Int) / 2 ^ r) 1 = ((x / 2 ^ r % 2 : Nat) : Int) := by
    have h2 : ((x : Int) / 2 ^ r) = ((x / 2 ^ r : Nat) : Int) := by simp
    rw [h2, show (1 : Int) = ((1 : Nat) : Int) from rfl, u64_and_nat _ _ (Nat.lt_of_le_of_lt (Nat.div_le_self _ _) hx) (by decide), Nat.and_one_is_mod]
  generalize x / 2 ^ r % 2 = t at *
  clear hx
  go_enter Tryz.func228, Tryz.ntmps228
  go_wp2
  go_ret
  exact ⟨rfl, rfl⟩

/-- what is behind place 64 q + r -/
def stk (q r : Nat) (X : Nat → Nat) : Nat := if (∃ j, j < q ∧ X j ≠ 0) ∨ X q % 2 ^ r ≠ 0 then 1 else 0

set_option maxRecDepth 100000 in
set_option maxHeartbeats 1000000 in
theorem sticky_walk (b off m cap q r : Nat) (X : Nat → Nat) (w : World) (hr : r < 64) (hq : q < m) (hm : m ≤ 1000000) (hmc : m ≤ cap)
    (hc : ∀ j, j ≤ q → w.cell? ⟨b, off + j, none⟩ = some (.int .u64 (X j))) (hX : ∀ j, j ≤ q → X j < 2 ^ 64) :
    Calls Tryz.prog 155 #[.slice (some ⟨b, off, none⟩) m cap, .int .u64 ((64 * q + r : Nat) : Int)] w fun e w' => e = .returned (.int .u64 ((stk q r X : Nat) : Int)) ∧ w = w' := by
  obtain ⟨s, hs⟩ : ∃ s, 64 * q + r = s := ⟨_, rfl⟩
  rw [hs]
  have hq1 : (s : Int) / 64 = (q : Int) := by omega
  have hr1 : (s : Int) % 64 = (r : Int) := by omega
  have hcq := hc q (by omega)
  have e1 : IntKind.u64.wrap (64 - (r : Int)) = ((64 - r : Nat) : Int) := u64sub 64 r (by omega) (by decide)
  obtain ⟨t, ht⟩ : ∃ t : Nat, IntKind.u64.wrap ((X q : Int) * 2 ^ (64 - r)) = (t : Int) ∧ (t = 0 ↔ X q % 2 ^ r = 0) := by
    refine ⟨X q * 2 ^ (64 - r) % 2 ^ 64, ?_, ?_⟩
    · unfold IntKind.wrap
      simp [IntKind.bits, IntKind.signed]
    · have e64 : (2 : Nat) ^ 64 = 2 ^ (64 - r) * 2 ^ r := by rw [← Nat.pow_add]; congr 1; omega
      rw [e64, Nat.mul_comm (X q), Nat.mul_mod_mul_left]
      have := Nat.two_pow_pos (64 - r)
      constructor
      · intro h; rcases Nat.mul_eq_zero.1 h with h | h
        · omega
        · exact h
      · intro h; rw [h, Nat.mul_zero]
  obtain ⟨ht1, ht2⟩ := ht
  have Ht2 := Lib.hid ht2; clear ht2
  have Hs := Lib.hid hs; clear hs
  have HX := Lib.hid hX; clear hX
  have hqm : (q : Int) < m := by omega
  obtain ⟨p, hp⟩ : ∃ p, p = stk q r X := ⟨_, rfl⟩
  rw [← hp]
  have Hp := Lib.hid hp; clear hp
  go_enter Tryz.func155, Tryz.ntmps155
  go_wp2
  go_loop [22] (fun i => ∃ k : Nat, k ≤ q ∧ i = .int .i64 k ∧ Hid (∀ j, j < k → X j = 0)) (fun i => q - (intOf i).toNat)
  case atStart => exact ⟨0, by omega, rfl, Lib.hid (by omega)⟩
  case round =>
    obtain ⟨k, hk, rfl, hz⟩ := hrel
    by_cases hkq : k < q
    · have hck := hc k (by omega)
      have hkm : (k : Int) < q := by omega
      obtain ⟨x, hx⟩ : ∃ x, X k = x := ⟨_, rfl⟩
      rw [hx] at hck
      have Hx := Lib.hid hx; clear hx
      have Hc := Lib.hid hc; clear hc
      by_cases h0 : x = 0
      · have h0' : ((x : Int) != 0) = false := by simpa using h0
        have H0 := Lib.hid h0; clear h0
        go_wp2
        go_round
        case rel => exact ⟨k + 1, by omega, by go_num, Lib.hid fun j hj => by
          by_cases e : j = k
          · subst e; rw [Hx.out, H0.out]
          · exact hz.out j (by omega)⟩
        case measure => simp [intOf]; omega
      · have h0' : ((x : Int) != 0) = true := by simpa using h0
        have H0 := Lib.hid h0; clear h0
        go_wp2
        go_ret
        refine ⟨?_, rfl⟩
        rw [Hp.out]
        unfold stk
        rw [if_pos (.inl ⟨k, hkq, by rw [Hx.out]; exact H0.out⟩)]
        rfl
    · obtain rfl : k = q := by omega
      have Hc := Lib.hid hc; clear hc
      have hkk : ¬ (k : Int) < k := by omega
      have hno : ¬ ∃ j, j < k ∧ X j ≠ 0 := fun ⟨j, h1, h2⟩ => h2 (hz.out j h1)
      have Hno := Lib.hid hno; clear hno
      by_cases h0 : t = 0
      · have h0' : ((t : Int) != 0) = false := by simpa using h0
        have H0 := Lib.hid h0; clear h0
        go_wp2
        go_ret
        refine ⟨?_, rfl⟩
        rw [Hp.out]
        unfold stk
        rw [if_neg (by rintro (h | h); exact Hno.out h; exact h (Ht2.out.1 H0.out))]
        rfl
      · have h0' : ((t : Int) != 0) = true := by simpa using h0
        have H0 := Lib.hid h0; clear h0
        go_wp2
        go_ret
        refine ⟨?_, rfl⟩
        rw [Hp.out]
        unfold stk
        rw [if_pos (.inr (fun h => H0.out (Ht2.out.2 h)))]
        rfl

end Go.Proofs

namespace Go.Proofs
open Go Go.RowKit Go.PB

theorem run_neq_ptr_same {P : Program} {tp te : TypeId} {j : TypeInfo} (w : World) (a : Addr) (hp : P.underlying tp = some (.pointer te)) (hte : P.info? te = some j) :
    (binOp .neq tp (.pointer (some a)) (.pointer (some a))).run P w = .ok (.bool false) w := by
  have h : ∀ d : Nat, (Op.equalIn (d + 1) tp (.pointer (some a)) (.pointer (some a))).run P w = .ok true w := fun d => by
    simp [Op.equalIn, run_underlying hp, sizeOf, typeInfo, hte, run_sameAddr_same]
  simp only [binOp]
  simp [Op.equal, Op.maxDepth, h 9999]
theorem run_neq_ptr_other {P : Program} {tp te : TypeId} {j : TypeInfo} (w : World) {a b : Addr} {ca cb : Array Value} {ta tb : TypeId} (hp : P.underlying tp = some (.pointer te)) (hte : P.info? te = some j) (hsz : j.size ≠ 0)
    (hne : a ≠ b) (ha : w.heap[a.block]? = some (.cells ca ta (0, 0))) (hb : w.heap[b.block]? = some (.cells cb tb (0, 0))) :
    (binOp .neq tp (.pointer (some a)) (.pointer (some b))).run P w = .ok (.bool true) w := by
  have h : ∀ d : Nat, (Op.equalIn (d + 1) tp (.pointer (some a)) (.pointer (some b))).run P w = .ok false w := fun d => by
    simp [Op.equalIn, run_underlying hp, sizeOf, typeInfo, hte, hsz, run_sameAddr_other w hne ha hb]
  simp only [binOp]
  simp [Op.equal, Op.maxDepth, h 9999]
theorem neqW (w : World) (a : Addr) : (binOp .neq 193 (.pointer (some a)) (.pointer (some a))).run Tryz.prog w = .ok (.bool false) w := by
  obtain ⟨i, hi, _, _, _⟩ := info_parts infoW
  exact run_neq_ptr_same w a Tryz.underlying193 hi

theorem run_Add64 (x y c : Nat) (hc : c ≤ 1) (w : World) :
    (callFunc 203 #[.int .u64 x, .int .u64 y, .int .u64 c]).run Tryz.prog w =
      .ok (.value (.tuple #[.int .u64 (((x + y + c) % 18446744073709551616 : Nat) : Int), .int .u64 (((x + y + c) / 18446744073709551616 : Nat) : Int)])) w := by
  rw [run_callFunc_extern Tryz.func203 (by kernel_rfl) (by kernel_rfl) (by kernel_rfl) (e := add64Entry) (by kernel_rfl), run_add64 x y c (by omega) (by omega) (by omega) (by omega)]
  simp only [Result.andThen]
  congr 5 <;> omega
theorem run_Sub64 (x y b : Nat) (hb : b ≤ 1) (w : World) :
    (callFunc 205 #[.int .u64 x, .int .u64 y, .int .u64 b]).run Tryz.prog w =
      .ok (.value (.tuple #[.int .u64 (((x + 18446744073709551616 - y - b) % 18446744073709551616 : Nat) : Int), .int .u64 ((if x < y + b then 1 else 0 : Nat) : Int)])) w := by
  rw [run_callFunc_extern Tryz.func205 (by kernel_rfl) (by kernel_rfl) (by kernel_rfl) (e := sub64Entry) (by kernel_rfl), run_sub64 x y b hb]
  rfl

set_option maxRecDepth 100000 in
set_option maxHeartbeats 1000000 in
theorem bitsAdd_walk (x y c t cc : Nat) (hc : c ≤ 1) (ht : (x + y + c) % 18446744073709551616 = t) (hcc : (x + y + c) / 18446744073709551616 = cc) (w : World) :
    Calls Tryz.prog 175 #[.int .u64 x, .int .u64 y, .int .u64 c] w fun e w' => e = .returned (.tuple #[.int .u64 t, .int .u64 cc]) ∧ w = w' := by
  have hr := fun w => run_Add64 x y c hc w
  rw [ht, hcc] at hr
  clear ht hcc hc
  go_enter Tryz.func175, Tryz.ntmps175
  go_wp2
  go_ret2
  exact ⟨rfl, rfl⟩
set_option maxRecDepth 100000 in
set_option maxHeartbeats 1000000 in
theorem bitsSub_walk (x y c t cc : Nat) (hc : c ≤ 1) (ht : (x + 18446744073709551616 - y - c) % 18446744073709551616 = t) (hcc : (if x < y + c then 1 else 0) = cc) (w : World) :
    Calls Tryz.prog 178 #[.int .u64 x, .int .u64 y, .int .u64 c] w fun e w' => e = .returned (.tuple #[.int .u64 t, .int .u64 cc]) ∧ w = w' := by
  have hr := fun w => run_Sub64 x y c hc w
  rw [ht, hcc] at hr
  clear ht hcc hc
  go_enter Tryz.func178, Tryz.ntmps178
  go_wp2
  go_ret2
  exact ⟨rfl, rfl⟩

set_option maxRecDepth 100000 in
set_option maxHeartbeats 1000000 in
theorem addVW1_walk (b n x y t cc : Nat) (D : Nat → Nat) (w : World) (hrow : Row w b n D) (hn : 1 ≤ n) (hx : D 0 = x) (hcc1 : cc ≤ 1)
    (ht : (x + y + 0) % 18446744073709551616 = t) (hcc : (x + y + 0) / 18446744073709551616 = cc) :
    Calls Tryz.prog 174 #[.slice (some ⟨b, 0, none⟩) 1 n, .slice (some ⟨b, 0, none⟩) 1 n, .int .u64 y] w fun e w' => e = .returned (.int .u64 cc) ∧ ∃ k, w' = (w.setCell ⟨b, 0, none⟩ (.int .u64 t)).drewN k := by
  have c0 : w.cell? ⟨b, 0, none⟩ = some (.int .u64 x) := by rw [hrow.cell (by omega), hx]
  have f0 := hrow.free 0
  have hA := bitsAdd_walk x y 0 t cc (by omega) ht hcc w
  simp only [Int.natCast_zero] at hA
  clear hx ht hcc
  rcases Nat.le_one_iff_eq_zero_or_eq_one.1 hcc1 with rfl | rfl
  · go_enter Tryz.func174, Tryz.ntmps174
    go_wp2_with (go_at_call 175; (with_reducible refine hA.mono ?_); rintro e w' ⟨rfl, rfl⟩)
    have hpe := neqW
    go_region
    all_goals
      go_wp2
      go_ret
      exact ⟨rfl, 1, rfl⟩
  · go_enter Tryz.func174, Tryz.ntmps174
    go_wp2_with (go_at_call 175; (with_reducible refine hA.mono ?_); rintro e w' ⟨rfl, rfl⟩)
    go_loop [9] (fun i => i = .int .i64 1) (fun i => 0)
    case atStart => rfl
    case round =>
      subst hrel
      go_wp2
      go_ret
      exact ⟨rfl, 0, rfl⟩

theorem addVW1_walk' (b n x y t cc : Nat) (D : Nat → Nat) (w : World) (hrow : Row w b n D) (hn : 1 ≤ n) (hx : D 0 = x) (hcc1 : cc ≤ 1)
    (ht : (x + y + 0) % 18446744073709551616 = t) (hcc : (x + y + 0) / 18446744073709551616 = cc) :
    Calls Tryz.prog 174 #[.slice (some ⟨b, 0, none⟩) 1 n, .slice (some ⟨b, 0, none⟩) 1 n, .int .u64 y] w fun e w' => e = .returned (.int .u64 cc) ∧ Chg [b] w w' ∧ Row w' b n (fun j => if j = 0 then t else D j) :=
  (addVW1_walk b n x y t cc D w hrow hn hx hcc1 ht hcc).mono fun e w' ⟨he, k, hw⟩ => ⟨he, by rw [hw]; exact ((Chg.refl _ _).setCell (.inl (by simp)) _).drewN k, by rw [hw]; exact (hrow.set 0 t).drewN k⟩

set_option maxRecDepth 100000 in
set_option maxHeartbeats 1000000 in
theorem rshVU1_walk (b n x : Nat) (D : Nat → Nat) (w : World) (hrow : Row w b n D) (hn : 1 ≤ n) (hx : D 0 = x) :
    Calls Tryz.prog 63 #[.slice (some ⟨b, 0, none⟩) 1 n, .slice (some ⟨b, 0, none⟩) 1 n, .int .u64 1] w fun e w' => (∃ c : Int, e = .returned (.int .u64 c)) ∧ w' = w.setCell ⟨b, 0, none⟩ (.int .u64 ((x / 2 : Nat) : Int)) := by
  have c0 : w.cell? ⟨b, 0, none⟩ = some (.int .u64 x) := by rw [hrow.cell (by omega), hx]
  have f0 := hrow.free 0
  have e0 : bits BinOp.and IntKind.u64 1 63 = 1 := by decide
  have e1 : bits BinOp.and IntKind.u64 63 63 = 63 := by decide
  have h2 : ((x / 2 : Nat) : Int) = (x : Int) / 2 := by simp
  rw [h2]
  clear hx h2
  go_enter Tryz.func63, Tryz.ntmps63
  go_wp2
  go_loop [8] (fun i => i = .int .i64 1) (fun i => 0)
  case atStart => rfl
  case round =>
    subst hrel
    go_wp2
    go_ret
    exact ⟨⟨_, rfl⟩, rfl⟩
theorem rshVU1_walk' (b n x : Nat) (D : Nat → Nat) (w : World) (hrow : Row w b n D) (hn : 1 ≤ n) (hx : D 0 = x) :
    Calls Tryz.prog 63 #[.slice (some ⟨b, 0, none⟩) 1 n, .slice (some ⟨b, 0, none⟩) 1 n, .int .u64 1] w fun e w' => (∃ c : Int, e = .returned (.int .u64 c)) ∧ Chg [b] w w' ∧ Row w' b n (fun j => if j = 0 then x / 2 else D j) :=
  (rshVU1_walk b n x D w hrow hn hx).mono fun e w' ⟨he, hw⟩ => ⟨he, by rw [hw]; exact ((Chg.refl _ _).setCell (.inl (by simp)) _), by rw [hw]; exact hrow.set 0 _⟩
end Go.Proofs
