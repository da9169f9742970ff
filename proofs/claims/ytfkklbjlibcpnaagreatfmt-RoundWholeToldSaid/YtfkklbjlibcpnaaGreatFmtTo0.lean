/- Proved here: rounding to 53 bits in one statement, and Float64 by it, for every input that the statements name. -/
import Derived.Test.YtfkklbjlibcpnaaGreatFmtFloF
import Derived.Test.YtfkklbjlibcpnaaGreatFmtFloA
import Derived.Test.YtfkklbjlibcpnaaGreatFmtFloB
import Derived.Test.YtfkklbjlibcpnaaGreatFmtFloC
import Derived.Test.YtfkklbjlibcpnaaGreatFmtFloD
namespace Go.Proofs
open Go Go.RowKit Go.PB

/-- is the 53-bit head counted up? -/
def incOf (x s : Nat) : Nat := if x / 2 ^ 10 % 2 = 1 ∧ (s = 1 ∨ x / 2 ^ 11 % 2 = 1) then 1 else 0
/-- how the answer lies -/
def accOf (x s : Nat) (neg : Bool) : Int := if x / 2 ^ 10 % 2 = 0 ∧ s = 0 then 0 else if incOf x s = 1 then (if neg then -1 else 1) else (if neg then 1 else -1)

theorem stk_01 (q r : Nat) (X : Nat → Nat) : stk q r X = 0 ∨ stk q r X = 1 := by unfold stk; split <;> simp

/-- round to 53 bits, and the exponent that comes of it -/
theorem round53 (x s : Nat) (neg : Bool) (E : Int) (hx : 2 ^ 63 ≤ x) (hx2 : x < 2 ^ 64) (hs : s = 0 ∨ s = 1) (hE : -2147483648 ≤ E) (hE2 : E < 2147483647) : ∃ word E', E ≤ E' ∧ E' ≤ E + 1 ∧ word < 2 ^ 64 ∧
    (E' + 1022) * 4503599627370496 + ((word / 2048 % 2 ^ 52 : Nat) : Int) = (E + 1021) * 4503599627370496 + ((x / 2 ^ 11 + incOf x s : Nat) : Int) ∧
    ∀ (z acc : _) (b n m : Nat) (X : Nat → Nat) (w : World), FloOf w z 53 acc 1 neg (.slice (some ⟨b, 0, none⟩) m n) E → Row w b n X → (∀ j, j < n → X j < 2 ^ 64) → z ≠ b → m ≤ n → 1 ≤ m → m ≤ 1000000 → X (m - 1) = x → stk (m - 1) 10 X = s →
      Calls Tryz.prog 198 #[.pointer (some ⟨z, 0, none⟩), .int .u64 0] w (RoundPost z 53 b n neg (accOf x s neg) E' word w) := by
  have e10 : (2 : Nat) ^ 10 = 1024 := rfl
  have e11 : (2 : Nat) ^ 11 = 2048 := rfl
  by_cases hi : incOf x s = 1
  · by_cases hc : x / 2 ^ 11 + 1 = 2 ^ 53
    · refine ⟨2 ^ 63, E + 1, by omega, by omega, by omega, by rw [hi, hc]; omega, ?_⟩
      intro z acc b n m X w hz hr hX hzb hmn h1 hm hxx hss
      have hcond : x / 2 ^ 10 % 2 = 1 ∧ (s = 1 ∨ x / 2 ^ 11 % 2 = 1) := by
        unfold incOf at hi; split at hi
        · assumption
        · cases hi
      have hac : (if neg then (-1 : Int) else 1) = accOf x s neg := Eq.symm (by unfold accOf; rw [if_neg (by omega), if_pos hi])
      rcases hs with rfl | rfl
      · exact round_incO_c z 53 _ _ acc neg b n m X E w hz hr hX hzb hmn h1 hm (by omega) (by omega) rfl hac (by rw [hxx]; exact hcond.1) hss (by rw [hxx]; exact hcond.2.resolve_left (by omega)) (by rw [hxx]; exact hc) hE2 hE
      · exact round_incS_c z 53 _ _ acc neg b n m X E w hz hr hX hzb hmn h1 hm (by omega) (by omega) rfl hac (by rw [hxx]; exact hcond.1) hss (by rw [hxx]; exact hc) hE2 hE
    · refine ⟨(x / 2 ^ 11 + 1) * 2 ^ 11, E, by omega, by omega, by omega, by rw [hi]; omega, ?_⟩
      intro z acc b n m X w hz hr hX hzb hmn h1 hm hxx hss
      have hcond : x / 2 ^ 10 % 2 = 1 ∧ (s = 1 ∨ x / 2 ^ 11 % 2 = 1) := by
        unfold incOf at hi; split at hi
        · assumption
        · cases hi
      have hac : (if neg then (-1 : Int) else 1) = accOf x s neg := Eq.symm (by unfold accOf; rw [if_neg (by omega), if_pos hi])
      rcases hs with rfl | rfl
      · exact round_incO z 53 _ _ acc neg b n m X E w hz hr hX hzb hmn h1 hm (by omega) (by omega) (by rw [hxx]) hac (by rw [hxx]; exact hcond.1) hss (by rw [hxx]; exact hcond.2.resolve_left (by omega)) (by rw [hxx]; exact hc)
      · exact round_incS z 53 _ _ acc neg b n m X E w hz hr hX hzb hmn h1 hm (by omega) (by omega) (by rw [hxx]) hac (by rw [hxx]; exact hcond.1) hss (by rw [hxx]; exact hc)
  · have hi0 : incOf x s = 0 := by unfold incOf at *; split at hi <;> simp_all
    refine ⟨x / 2 ^ 11 * 2 ^ 11, E, by omega, by omega, by omega, by rw [hi0]; omega, ?_⟩
    intro z acc b n m X w hz hr hX hzb hmn h1 hm hxx hss
    have hcond : ¬ (x / 2 ^ 10 % 2 = 1 ∧ (s = 1 ∨ x / 2 ^ 11 % 2 = 1)) := by
      unfold incOf at hi0; split at hi0
      · cases hi0
      · assumption
    by_cases hex : x / 2 ^ 10 % 2 = 0 ∧ s = 0
    · have hac : (0 : Int) = accOf x s neg := by unfold accOf; rw [if_pos hex]
      exact round_exact z 53 _ _ acc neg b n m X E w hz hr hX hzb hmn h1 hm (by omega) (by omega) (by rw [hxx]) hac (by rw [hxx]; exact hex.1) (hss.trans hex.2)
    · have hac : (if neg then (1 : Int) else -1) = accOf x s neg := Eq.symm (by unfold accOf; rw [if_neg hex, if_neg (by omega)])
      rcases hs with rfl | rfl
      · exact round_tr1 z 53 _ _ acc neg b n m X E w hz hr hX hzb hmn h1 hm (by omega) (by omega) (by rw [hxx]) hac (by rw [hxx]; omega) hss (by rw [hxx]; omega)
      · exact round_tr0 z 53 _ _ acc neg b n m X E w hz hr hX hzb hmn h1 hm (by omega) (by omega) (by rw [hxx]) hac (by rw [hxx]; omega) hss

/-- the pattern that Float64 answers -/
def bitsOf (neg : Bool) (E : Int) (x s : Nat) : Int := (if neg then 9223372036854775808 else 0) + (E + 1021) * 4503599627370496 + ((x / 2 ^ 11 + incOf x s : Nat) : Int)

theorem F64_walk (z P : Nat) (acc : Int) (neg : Bool) (b n m : Nat) (Y : Nat → Nat) (E : Int) (w : World) (x s : Nat)
    (hz : FloOf w z P acc 1 neg (.slice (some ⟨b, 0, none⟩) m n) E) (hrow : Row w b n Y) (hY : ∀ j, j < n → Y j < 2 ^ 64) (hmn : m ≤ n) (h1 : 1 ≤ m) (hm : m ≤ 1000000) (hn : n ≤ 1099511627776)
    (hP : 53 < P) (hE : -1021 ≤ E) (hE1 : E ≤ 1023) (hx : Y (m - 1) = x) (hx2 : 2 ^ 63 ≤ x) (hs : stk (m - 1) 10 Y = s) (N : Nat) (hN : bitsOf neg E x s = N) :
    Calls Tryz.prog 103 #[.pointer (some ⟨z, 0, none⟩)] w (F64Post N (accOf x s neg) w) := by
  have hxl : x < 2 ^ 64 := by rw [← hx]; exact hY _ (by omega)
  have hs01 := stk_01 (m - 1) 10 Y
  rw [hs] at hs01
  obtain ⟨word, E', h2, h3, h4, h5, h6⟩ := round53 x s neg E hx2 hxl hs01 (by omega) (by omega)
  have hMl : word / 2048 % 2 ^ 52 < 2 ^ 52 := Nat.mod_lt _ (by decide)
  refine Float64_walk z P acc neg b n m Y E w word (accOf x s neg) E' hz hrow hY hmn h1 hm hn hP hE (by omega) h2 (by omega) h4 ?_ ((E' + 1022) * 4503599627370496).toNat _ N (by omega) rfl ?_
  · intro W r b' n' Y' g1 g2 g3 g4 g5 g6
    have hst : stk (m - 1) 10 Y' = s := by
      rw [← hs]
      unfold stk
      have e1 : Y' (m - 1) = Y (m - 1) := g4 _ (by omega)
      have e2 : (∃ j, j < m - 1 ∧ Y' j ≠ 0) ↔ (∃ j, j < m - 1 ∧ Y j ≠ 0) := by
        constructor
        · rintro ⟨j, hj, hne⟩; exact ⟨j, hj, by rw [← g4 j (by omega)]; exact hne⟩
        · rintro ⟨j, hj, hne⟩; exact ⟨j, hj, by rw [g4 j (by omega)]; exact hne⟩
      rw [e1]
      simp only [e2]
    exact h6 r 0 b' n' m Y' W g1 g2 g3 g5 g6 h1 hm (by rw [g4 _ (by omega)]; exact hx) hst
  · unfold bitsOf at hN
    cases neg
    · simp at hN ⊢; omega
    · simp at hN ⊢; omega
end Go.Proofs
