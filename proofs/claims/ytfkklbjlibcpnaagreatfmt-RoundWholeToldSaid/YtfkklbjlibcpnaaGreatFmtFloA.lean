/- Proved here: round to p bits, without a step up, for every input that the statements name. -/
import Derived.Test.YtfkklbjlibcpnaaGreatFmtFloZ
namespace Go.Proofs
open Go Go.RowKit Go.PB

set_option maxRecDepth 100000 in
set_option maxHeartbeats 4000000 in
theorem round_exact (z p y : Nat) (ac : Int) (acc : Int) (neg : Bool) (b n m : Nat) (X : Nat → Nat) (exp : Int) (w : World)
    (hz : FloOf w z p acc 1 neg (.slice (some ⟨b, 0, none⟩) m n) exp) (hrow : Row w b n X) (hX : ∀ j, j < n → X j < 2 ^ 64) (hzb : z ≠ b) (hmn : m ≤ n) (h1 : 1 ≤ m) (hm : m ≤ 1000000) (hp : 1 ≤ p) (hp2 : p ≤ 63)
    (hy : (X (m - 1) / 2 ^ (64 - p) * 2 ^ (64 - p)) = y) (hac : 0 = ac) (hrb : X (m - 1) / 2 ^ (63 - p) % 2 = 0) (hsb : stk (m - 1) (63 - p) X = 0) :
    Calls Tryz.prog 198 #[.pointer (some ⟨z, 0, none⟩), .int .u64 0] w (RoundPost z p b n neg ac exp y w) := by
  obtain ⟨T, hzc⟩ := hz
  have c0 : w.cell? ⟨z, 0, none⟩ = some (.int .u32 p) := by rw [hzc.cell]; rfl
  have c1 : w.cell? ⟨z, 1, none⟩ = some (.int .u8 0) := by rw [hzc.cell]; rfl
  have c2 : w.cell? ⟨z, 2, none⟩ = some (.int .i8 acc) := by rw [hzc.cell]; rfl
  have c3 : w.cell? ⟨z, 3, none⟩ = some (.int .u8 1) := by rw [hzc.cell]; rfl
  have c5 : w.cell? ⟨z, 5, none⟩ = some (.slice (some ⟨b, 0, none⟩) m n) := by rw [hzc.cell]; rfl
  have f2 := hzc.free 2
  obtain ⟨s, hs⟩ : ∃ s, 64 * (m - 1) + (63 - p) = s := ⟨_, rfl⟩
  have e1 : IntKind.u32.wrap ((m : Int)) = (m : Int) := u32of _ (by omega) (by omega)
  have e2 : IntKind.u32.wrap ((m : Int) * 64) = (m : Int) * 64 := u32of _ (by omega) (by omega)
  have e3 : IntKind.u32.wrap ((m : Int) * 64 - p) = (s : Int) + 1 := by rw [u32of _ (by omega) (by omega)]; omega
  have e4 : IntKind.u32.wrap (s : Int) = (s : Int) := u32of _ (by omega) (by omega)
  have e5 : IntKind.u64.wrap (s : Int) = (s : Int) := u64of _ (by omega) (by omega)
  have e6 : IntKind.u32.wrap ((p : Int) + 63) = (p : Int) + 63 := u32of _ (by omega) (by omega)
  have e7 : ((p : Int) + 63) / 64 = 1 := by omega
  have e7t : ((p : Int) + 63).tdiv 64 = 1 := by rw [Int.tdiv_eq_ediv_of_nonneg (by omega)]; exact e7
  have hle : ¬ (m : Int) * 64 ≤ p := by omega
  have hbit := bit_walk b 0 m n (m - 1) (63 - p) (X (m - 1)) (w.setCell ⟨z, 2, none⟩ (.int .i8 0)) (hX _ (by omega)) (by omega) (by omega) hm (by rw [Nat.zero_add]; exact (hrow.setOther hzb.symm _).cell (by omega))
  have hstk := sticky_walk b 0 m n (m - 1) (63 - p) X (w.setCell ⟨z, 2, none⟩ (.int .i8 0)) (by omega) (by omega) hm hmn (fun j hj => by rw [Nat.zero_add]; exact (hrow.setOther hzb.symm _).cell (by omega)) (fun j hj => hX j (by omega))
  rw [hs] at hbit hstk
  rw [hrb] at hbit
  rw [hsb] at hstk
  simp only [Int.natCast_zero] at hbit hstk
  have HX := Lib.hid hX; clear hX
  have Hy := Lib.hid hy; clear hy
  have Hac := Lib.hid hac; clear hac
  have Hs := Lib.hid hs; clear hs
  have Hrb := Lib.hid hrb; clear hrb
  have Hsb := Lib.hid hsb; clear hsb
  have a00 : bits BinOp.and IntKind.u64 0 1 = 0 := by decide
  have a11 : bits BinOp.and IntKind.u64 1 1 = 1 := by decide
  have o00 : bits BinOp.or IntKind.u64 0 0 = 0 := by decide
  go_enter Tryz.func198, Tryz.ntmps198
  go_upto_if 80 with (first | (go_at_call 228; (with_reducible refine hbit.mono ?_); rintro e w' ⟨rfl, rfl⟩) | (go_at_call 155; (with_reducible refine hstk.mono ?_); rintro e w' ⟨rfl, rfl⟩))
  go_cut [] from 80 to 102 (fun wc => RoundMid z p b n neg exp (X (m - 1)) w wc)
  case first =>
    have hz0 := hzc.setSame 2 (.int .i8 0)
    have hC0 : Chg [z, b] w (w.setCell ⟨z, 2, none⟩ (.int .i8 0)) := (Chg.refl _ _).setCell (.inl (by simp)) _
    have hr0 := hrow.setOther (a := ⟨z, 2, none⟩) hzb.symm (.int .i8 0)
    by_cases hm1 : m = 1
    · have hm1' : ¬ (1 : Int) < m := by omega
      have Hm1 := Lib.hid hm1; clear hm1
      go_wp2
      go_meet
      have hm1 := Hm1.out
      subst hm1
      exact ⟨hC0, ⟨T, hz0⟩, X, hr0, rfl, HX.out⟩
    · have hm1' : (1 : Int) < m := by omega
      have e8 : IntKind.u32.wrap ((m : Int) - 1) = ((m - 1 : Nat) : Int) := by rw [u32of _ (by omega) (by omega)]; omega
      obtain ⟨M, hM⟩ : ∃ M, m - 1 = M := ⟨_, rfl⟩
      rw [hM] at e8
      have hn1 : ¬ n = M := by omega
      have hMm : M ≤ m := by omega
      obtain ⟨w2, hcp, hr2, hc2⟩ := copy_words (w := (w.setCell ⟨z, 2, none⟩ (.int .i8 0)).drew) (P := Tryz.prog) (dT := 81) (sT := 81) (dLen := m) (dCap := n) (sLen := m - M) (sCap := n - M) (xb := b) (xo := M) (zo := 0) (m := 1) (X := fun j => X (M + j)) Tryz.underlying81 sizeW hr0.drew (by show 1 = min (m - M) m; omega) (fun j hj => hr0.drew.cell (by omega)) (by omega)
      have hz2 := hc2.has hz0.drew (by simpa using hzb)
      have g5 : w2.cell? ⟨z, 5, none⟩ = some (.slice (some ⟨b, 0, none⟩) m n) := by rw [hz2.cell]; rfl
      have gf := hz2.free 5
      have hX2 : ∀ j, j < n → lay 0 1 (fun j => X (M + j)) X j < 2 ^ 64 := fun j hj => by
        unfold lay
        split
        · exact HX.out _ (by omega)
        · exact HX.out _ hj
      have HX2 := Lib.hid hX2; clear hX2
      have HM := Lib.hid hM; clear hM
      go_wp2
      go_region
      all_goals
        go_wp2
        go_meet
        refine ⟨((hC0.drew.comp hc2 (R := [z, b]) (fun x hx _ => hx) (fun x hx _ => by simp at hx; simp [hx])).setCell (.inl (by simp)) _), ⟨T, hz2.setSame 5 _⟩, _, hr2.setOther hzb.symm _, by simp [lay, HM.out], HX2.out⟩
  case rest =>
    obtain ⟨hC, ⟨T', hz1⟩, X', hr1, hx1, hX1⟩ := hcut
    have hxl := HX.out (m - 1) (by omega)
    obtain ⟨x, hx⟩ : ∃ x, X (m - 1) = x := ⟨_, rfl⟩
    rw [hx] at hx1 hxl
    have HX1 := Lib.hid hX1; clear hX1
    have d0 : wc.cell? ⟨z, 0, none⟩ = some (.int .u32 p) := by rw [hz1.cell]; rfl
    have g0 : wc.cell? ⟨b, 0, none⟩ = some (.int .u64 x) := by rw [hr1.cell (by omega), hx1]
    have g1 := hr1.free 0
    have e8 : IntKind.u32.wrap (64 - (p : Int)) = ((64 - p : Nat) : Int) := by rw [u32of _ (by omega) (by omega)]; omega
    obtain ⟨L, hL⟩ : ∃ L, 2 ^ (64 - p) = L := ⟨_, rfl⟩
    have hL63 : L * 2 ^ (p - 1) = 2 ^ 63 := by rw [← hL, ← Nat.pow_add]; congr 1; omega
    have hLp : L * 2 ^ p = 2 ^ 64 := by rw [← hL, ← Nat.pow_add]; congr 1; omega
    have hL0 : 0 < L := by rw [← hL]; exact Nat.two_pow_pos _
    have hLm : L ≤ 2 ^ 63 := by rw [← hL63]; exact Nat.le_mul_of_pos_right _ (Nat.two_pow_pos _)
    have eL0 : ((2 : Int) ^ (64 - p)) = (L : Int) := by rw [← hL]; simp
    have eL : IntKind.u64.wrap (2 ^ (64 - p)) = (L : Int) := by rw [eL0, u64of _ (by omega) (by omega)]
    clear eL0
    have eL1 : IntKind.u64.wrap ((L : Int) - 1) = ((L - 1 : Nat) : Int) := by rw [u64of _ (by omega) (by omega)]; omega
    have d5 : wc.cell? ⟨z, 5, none⟩ = some (.slice (some ⟨b, 0, none⟩) 1 n) := by rw [hz1.cell]; rfl
    have eF : bits BinOp.andNot IntKind.u64 (x : Int) ((L - 1 : Nat) : Int) = ((x / L * L : Nat) : Int) := by
      rw [← hL]; exact clear_low x (64 - p) (by omega) hxl
    have hw2 := Nat.div_mul_le_self x L
    have hy := Hy.out
    rw [hx, hL] at hy
    rw [hy] at eF hw2
    have hyl : y < 2 ^ 64 := by omega
    clear hy hw2
    have Hyl := Lib.hid hyl
    have Hxl := Lib.hid hxl
    have hLl : L < 2 ^ 64 := by omega
    have HLl := Lib.hid hLl
    have Hx := Lib.hid hx
    have Hx1 := Lib.hid hx1
    clear hL hL63 hLp hL0 hLm hyl hxl hx hx1 hLl hbit hstk c0 c1 c2 c3 c5 f2
    go_wp2
    go_end0
    obtain rfl := Hac.out
    exact ⟨rfl, hC.setCell (.inl (by simp)) _, _, ⟨T', hz1.setOther hzb _⟩, hr1.set 0 y, rfl, fun j hj => by
      by_cases e : j = 0
      · simp only [e, if_true]; exact Hyl.out
      · simp only [e, if_false]; exact HX1.out j hj⟩

set_option maxRecDepth 100000 in
set_option maxHeartbeats 4000000 in
theorem round_tr0 (z p y : Nat) (ac : Int) (acc : Int) (neg : Bool) (b n m : Nat) (X : Nat → Nat) (exp : Int) (w : World)
    (hz : FloOf w z p acc 1 neg (.slice (some ⟨b, 0, none⟩) m n) exp) (hrow : Row w b n X) (hX : ∀ j, j < n → X j < 2 ^ 64) (hzb : z ≠ b) (hmn : m ≤ n) (h1 : 1 ≤ m) (hm : m ≤ 1000000) (hp : 1 ≤ p) (hp2 : p ≤ 63)
    (hy : (X (m - 1) / 2 ^ (64 - p) * 2 ^ (64 - p)) = y) (hac : (if neg then 1 else -1) = ac) (hrb : X (m - 1) / 2 ^ (63 - p) % 2 = 0) (hsb : stk (m - 1) (63 - p) X = 1) :
    Calls Tryz.prog 198 #[.pointer (some ⟨z, 0, none⟩), .int .u64 0] w (RoundPost z p b n neg ac exp y w) := by
  obtain ⟨T, hzc⟩ := hz
  have c0 : w.cell? ⟨z, 0, none⟩ = some (.int .u32 p) := by rw [hzc.cell]; rfl
  have c1 : w.cell? ⟨z, 1, none⟩ = some (.int .u8 0) := by rw [hzc.cell]; rfl
  have c2 : w.cell? ⟨z, 2, none⟩ = some (.int .i8 acc) := by rw [hzc.cell]; rfl
  have c3 : w.cell? ⟨z, 3, none⟩ = some (.int .u8 1) := by rw [hzc.cell]; rfl
  have c5 : w.cell? ⟨z, 5, none⟩ = some (.slice (some ⟨b, 0, none⟩) m n) := by rw [hzc.cell]; rfl
  have f2 := hzc.free 2
  obtain ⟨s, hs⟩ : ∃ s, 64 * (m - 1) + (63 - p) = s := ⟨_, rfl⟩
  have e1 : IntKind.u32.wrap ((m : Int)) = (m : Int) := u32of _ (by omega) (by omega)
  have e2 : IntKind.u32.wrap ((m : Int) * 64) = (m : Int) * 64 := u32of _ (by omega) (by omega)
  have e3 : IntKind.u32.wrap ((m : Int) * 64 - p) = (s : Int) + 1 := by rw [u32of _ (by omega) (by omega)]; omega
  have e4 : IntKind.u32.wrap (s : Int) = (s : Int) := u32of _ (by omega) (by omega)
  have e5 : IntKind.u64.wrap (s : Int) = (s : Int) := u64of _ (by omega) (by omega)
  have e6 : IntKind.u32.wrap ((p : Int) + 63) = (p : Int) + 63 := u32of _ (by omega) (by omega)
  have e7 : ((p : Int) + 63) / 64 = 1 := by omega
  have e7t : ((p : Int) + 63).tdiv 64 = 1 := by rw [Int.tdiv_eq_ediv_of_nonneg (by omega)]; exact e7
  have hle : ¬ (m : Int) * 64 ≤ p := by omega
  have hbit := bit_walk b 0 m n (m - 1) (63 - p) (X (m - 1)) (w.setCell ⟨z, 2, none⟩ (.int .i8 0)) (hX _ (by omega)) (by omega) (by omega) hm (by rw [Nat.zero_add]; exact (hrow.setOther hzb.symm _).cell (by omega))
  have hstk := sticky_walk b 0 m n (m - 1) (63 - p) X (w.setCell ⟨z, 2, none⟩ (.int .i8 0)) (by omega) (by omega) hm hmn (fun j hj => by rw [Nat.zero_add]; exact (hrow.setOther hzb.symm _).cell (by omega)) (fun j hj => hX j (by omega))
  rw [hs] at hbit hstk
  rw [hrb] at hbit
  rw [hsb] at hstk
  simp only [Int.natCast_zero, Int.natCast_one] at hbit hstk
  have HX := Lib.hid hX; clear hX
  have Hy := Lib.hid hy; clear hy
  have Hac := Lib.hid hac; clear hac
  have Hs := Lib.hid hs; clear hs
  have Hrb := Lib.hid hrb; clear hrb
  have Hsb := Lib.hid hsb; clear hsb
  have a00 : bits BinOp.and IntKind.u64 0 1 = 0 := by decide
  have a11 : bits BinOp.and IntKind.u64 1 1 = 1 := by decide
  have o01 : bits BinOp.or IntKind.u64 0 1 = 1 := by decide
  go_enter Tryz.func198, Tryz.ntmps198
  go_upto_if 80 with (first | (go_at_call 228; (with_reducible refine hbit.mono ?_); rintro e w' ⟨rfl, rfl⟩) | (go_at_call 155; (with_reducible refine hstk.mono ?_); rintro e w' ⟨rfl, rfl⟩))
  go_cut [] from 80 to 102 (fun wc => RoundMid z p b n neg exp (X (m - 1)) w wc)
  case first =>
    have hz0 := hzc.setSame 2 (.int .i8 0)
    have hC0 : Chg [z, b] w (w.setCell ⟨z, 2, none⟩ (.int .i8 0)) := (Chg.refl _ _).setCell (.inl (by simp)) _
    have hr0 := hrow.setOther (a := ⟨z, 2, none⟩) hzb.symm (.int .i8 0)
    by_cases hm1 : m = 1
    · have hm1' : ¬ (1 : Int) < m := by omega
      have Hm1 := Lib.hid hm1; clear hm1
      go_wp2
      go_meet
      have hm1 := Hm1.out
      subst hm1
      exact ⟨hC0, ⟨T, hz0⟩, X, hr0, rfl, HX.out⟩
    · have hm1' : (1 : Int) < m := by omega
      have e8 : IntKind.u32.wrap ((m : Int) - 1) = ((m - 1 : Nat) : Int) := by rw [u32of _ (by omega) (by omega)]; omega
      obtain ⟨M, hM⟩ : ∃ M, m - 1 = M := ⟨_, rfl⟩
      rw [hM] at e8
      have hn1 : ¬ n = M := by omega
      have hMm : M ≤ m := by omega
      obtain ⟨w2, hcp, hr2, hc2⟩ := copy_words (w := (w.setCell ⟨z, 2, none⟩ (.int .i8 0)).drew) (P := Tryz.prog) (dT := 81) (sT := 81) (dLen := m) (dCap := n) (sLen := m - M) (sCap := n - M) (xb := b) (xo := M) (zo := 0) (m := 1) (X := fun j => X (M + j)) Tryz.underlying81 sizeW hr0.drew (by show 1 = min (m - M) m; omega) (fun j hj => hr0.drew.cell (by omega)) (by omega)
      have hz2 := hc2.has hz0.drew (by simpa using hzb)
      have g5 : w2.cell? ⟨z, 5, none⟩ = some (.slice (some ⟨b, 0, none⟩) m n) := by rw [hz2.cell]; rfl
      have gf := hz2.free 5
      have hX2 : ∀ j, j < n → lay 0 1 (fun j => X (M + j)) X j < 2 ^ 64 := fun j hj => by
        unfold lay
        split
        · exact HX.out _ (by omega)
        · exact HX.out _ hj
      have HX2 := Lib.hid hX2; clear hX2
      have HM := Lib.hid hM; clear hM
      go_wp2
      go_region
      all_goals
        go_wp2
        go_meet
        refine ⟨((hC0.drew.comp hc2 (R := [z, b]) (fun x hx _ => hx) (fun x hx _ => by simp at hx; simp [hx])).setCell (.inl (by simp)) _), ⟨T, hz2.setSame 5 _⟩, _, hr2.setOther hzb.symm _, by simp [lay, HM.out], HX2.out⟩
  case rest =>
    obtain ⟨hC, ⟨T', hz1⟩, X', hr1, hx1, hX1⟩ := hcut
    have hxl := HX.out (m - 1) (by omega)
    obtain ⟨x, hx⟩ : ∃ x, X (m - 1) = x := ⟨_, rfl⟩
    rw [hx] at hx1 hxl
    have HX1 := Lib.hid hX1; clear hX1
    have d0 : wc.cell? ⟨z, 0, none⟩ = some (.int .u32 p) := by rw [hz1.cell]; rfl
    have g0 : wc.cell? ⟨b, 0, none⟩ = some (.int .u64 x) := by rw [hr1.cell (by omega), hx1]
    have g1 := hr1.free 0
    have e8 : IntKind.u32.wrap (64 - (p : Int)) = ((64 - p : Nat) : Int) := by rw [u32of _ (by omega) (by omega)]; omega
    obtain ⟨L, hL⟩ : ∃ L, 2 ^ (64 - p) = L := ⟨_, rfl⟩
    have hL63 : L * 2 ^ (p - 1) = 2 ^ 63 := by rw [← hL, ← Nat.pow_add]; congr 1; omega
    have hLp : L * 2 ^ p = 2 ^ 64 := by rw [← hL, ← Nat.pow_add]; congr 1; omega
    have hL0 : 0 < L := by rw [← hL]; exact Nat.two_pow_pos _
    have hLm : L ≤ 2 ^ 63 := by rw [← hL63]; exact Nat.le_mul_of_pos_right _ (Nat.two_pow_pos _)
    have eL0 : ((2 : Int) ^ (64 - p)) = (L : Int) := by rw [← hL]; simp
    have eL : IntKind.u64.wrap (2 ^ (64 - p)) = (L : Int) := by rw [eL0, u64of _ (by omega) (by omega)]
    clear eL0
    have eL1 : IntKind.u64.wrap ((L : Int) - 1) = ((L - 1 : Nat) : Int) := by rw [u64of _ (by omega) (by omega)]; omega
    have d1 : wc.cell? ⟨z, 1, none⟩ = some (.int .u8 0) := by rw [hz1.cell]; rfl
    have d2 : wc.cell? ⟨z, 2, none⟩ = some (.int .i8 0) := by rw [hz1.cell]; rfl
    have d4 : wc.cell? ⟨z, 4, none⟩ = some (.bool neg) := by rw [hz1.cell]; rfl
    have v2 := hz1.free 2
    have d5 : wc.cell? ⟨z, 5, none⟩ = some (.slice (some ⟨b, 0, none⟩) 1 n) := by rw [hz1.cell]; rfl
    have eF : bits BinOp.andNot IntKind.u64 (x : Int) ((L - 1 : Nat) : Int) = ((x / L * L : Nat) : Int) := by
      rw [← hL]; exact clear_low x (64 - p) (by omega) hxl
    have hw2 := Nat.div_mul_le_self x L
    have hy := Hy.out
    rw [hx, hL] at hy
    rw [hy] at eF hw2
    have hyl : y < 2 ^ 64 := by omega
    clear hy hw2
    have Hyl := Lib.hid hyl
    have Hxl := Lib.hid hxl
    have hLl : L < 2 ^ 64 := by omega
    have HLl := Lib.hid hLl
    have Hx := Lib.hid hx
    have Hx1 := Lib.hid hx1
    clear hL hL63 hLp hL0 hLm hyl hxl hx hx1 hLl hbit hstk c0 c1 c2 c3 c5 f2
    have hacc : (if neg then (1 : Int) else -1) = ac := Hac.out
    have Hacc := Lib.hid hacc; clear hacc
    have hMA := fun W => makeAcc_walk neg ac Hacc.out W
    go_wp2_with (go_at_call 197; (with_reducible refine (hMA _).mono ?_); rintro e w' ⟨rfl, rfl⟩)
    go_end0
    exact ⟨rfl, (hC.setCell (.inl (by simp)) _).setCell (.inl (by simp)) _, _, ⟨T', (hz1.setSame 2 _).setOther (a := ⟨b, 0, none⟩) hzb (.int .u64 y)⟩, (hr1.setOther hzb.symm _).set 0 y, rfl, fun j hj => by
      by_cases e : j = 0
      · simp only [e, if_true]; exact Hyl.out
      · simp only [e, if_false]; exact HX1.out j hj⟩

set_option maxRecDepth 100000 in
set_option maxHeartbeats 4000000 in
theorem round_tr1 (z p y : Nat) (ac : Int) (acc : Int) (neg : Bool) (b n m : Nat) (X : Nat → Nat) (exp : Int) (w : World)
    (hz : FloOf w z p acc 1 neg (.slice (some ⟨b, 0, none⟩) m n) exp) (hrow : Row w b n X) (hX : ∀ j, j < n → X j < 2 ^ 64) (hzb : z ≠ b) (hmn : m ≤ n) (h1 : 1 ≤ m) (hm : m ≤ 1000000) (hp : 1 ≤ p) (hp2 : p ≤ 63)
    (hy : (X (m - 1) / 2 ^ (64 - p) * 2 ^ (64 - p)) = y) (hac : (if neg then 1 else -1) = ac) (hrb : X (m - 1) / 2 ^ (63 - p) % 2 = 1) (hsb : stk (m - 1) (63 - p) X = 0) (hpar : X (m - 1) / 2 ^ (64 - p) % 2 = 0) :
    Calls Tryz.prog 198 #[.pointer (some ⟨z, 0, none⟩), .int .u64 0] w (RoundPost z p b n neg ac exp y w) := by
  obtain ⟨T, hzc⟩ := hz
  have c0 : w.cell? ⟨z, 0, none⟩ = some (.int .u32 p) := by rw [hzc.cell]; rfl
  have c1 : w.cell? ⟨z, 1, none⟩ = some (.int .u8 0) := by rw [hzc.cell]; rfl
  have c2 : w.cell? ⟨z, 2, none⟩ = some (.int .i8 acc) := by rw [hzc.cell]; rfl
  have c3 : w.cell? ⟨z, 3, none⟩ = some (.int .u8 1) := by rw [hzc.cell]; rfl
  have c5 : w.cell? ⟨z, 5, none⟩ = some (.slice (some ⟨b, 0, none⟩) m n) := by rw [hzc.cell]; rfl
  have f2 := hzc.free 2
  obtain ⟨s, hs⟩ : ∃ s, 64 * (m - 1) + (63 - p) = s := ⟨_, rfl⟩
  have e1 : IntKind.u32.wrap ((m : Int)) = (m : Int) := u32of _ (by omega) (by omega)
  have e2 : IntKind.u32.wrap ((m : Int) * 64) = (m : Int) * 64 := u32of _ (by omega) (by omega)
  have e3 : IntKind.u32.wrap ((m : Int) * 64 - p) = (s : Int) + 1 := by rw [u32of _ (by omega) (by omega)]; omega
  have e4 : IntKind.u32.wrap (s : Int) = (s : Int) := u32of _ (by omega) (by omega)
  have e5 : IntKind.u64.wrap (s : Int) = (s : Int) := u64of _ (by omega) (by omega)
  have e6 : IntKind.u32.wrap ((p : Int) + 63) = (p : Int) + 63 := u32of _ (by omega) (by omega)
  have e7 : ((p : Int) + 63) / 64 = 1 := by omega
  have e7t : ((p : Int) + 63).tdiv 64 = 1 := by rw [Int.tdiv_eq_ediv_of_nonneg (by omega)]; exact e7
  have hle : ¬ (m : Int) * 64 ≤ p := by omega
  have hbit := bit_walk b 0 m n (m - 1) (63 - p) (X (m - 1)) (w.setCell ⟨z, 2, none⟩ (.int .i8 0)) (hX _ (by omega)) (by omega) (by omega) hm (by rw [Nat.zero_add]; exact (hrow.setOther hzb.symm _).cell (by omega))
  have hstk := sticky_walk b 0 m n (m - 1) (63 - p) X (w.setCell ⟨z, 2, none⟩ (.int .i8 0)) (by omega) (by omega) hm hmn (fun j hj => by rw [Nat.zero_add]; exact (hrow.setOther hzb.symm _).cell (by omega)) (fun j hj => hX j (by omega))
  rw [hs] at hbit hstk
  rw [hrb] at hbit
  rw [hsb] at hstk
  simp only [Int.natCast_zero, Int.natCast_one] at hbit hstk
  have HX := Lib.hid hX; clear hX
  have Hpar := Lib.hid hpar; clear hpar
  have Hy := Lib.hid hy; clear hy
  have Hac := Lib.hid hac; clear hac
  have Hs := Lib.hid hs; clear hs
  have Hrb := Lib.hid hrb; clear hrb
  have Hsb := Lib.hid hsb; clear hsb
  have a00 : bits BinOp.and IntKind.u64 0 1 = 0 := by decide
  have a11 : bits BinOp.and IntKind.u64 1 1 = 1 := by decide
  have o10 : bits BinOp.or IntKind.u64 1 0 = 1 := by decide
  go_enter Tryz.func198, Tryz.ntmps198
  go_upto_if 80 with (first | (go_at_call 228; (with_reducible refine hbit.mono ?_); rintro e w' ⟨rfl, rfl⟩) | (go_at_call 155; (with_reducible refine hstk.mono ?_); rintro e w' ⟨rfl, rfl⟩))
  go_cut [] from 80 to 102 (fun wc => RoundMid z p b n neg exp (X (m - 1)) w wc)
  case first =>
    have hz0 := hzc.setSame 2 (.int .i8 0)
    have hC0 : Chg [z, b] w (w.setCell ⟨z, 2, none⟩ (.int .i8 0)) := (Chg.refl _ _).setCell (.inl (by simp)) _
    have hr0 := hrow.setOther (a := ⟨z, 2, none⟩) hzb.symm (.int .i8 0)
    by_cases hm1 : m = 1
    · have hm1' : ¬ (1 : Int) < m := by omega
      have Hm1 := Lib.hid hm1; clear hm1
      go_wp2
      go_meet
      have hm1 := Hm1.out
      subst hm1
      exact ⟨hC0, ⟨T, hz0⟩, X, hr0, rfl, HX.out⟩
    · have hm1' : (1 : Int) < m := by omega
      have e8 : IntKind.u32.wrap ((m : Int) - 1) = ((m - 1 : Nat) : Int) := by rw [u32of _ (by omega) (by omega)]; omega
      obtain ⟨M, hM⟩ : ∃ M, m - 1 = M := ⟨_, rfl⟩
      rw [hM] at e8
      have hn1 : ¬ n = M := by omega
      have hMm : M ≤ m := by omega
      obtain ⟨w2, hcp, hr2, hc2⟩ := copy_words (w := (w.setCell ⟨z, 2, none⟩ (.int .i8 0)).drew) (P := Tryz.prog) (dT := 81) (sT := 81) (dLen := m) (dCap := n) (sLen := m - M) (sCap := n - M) (xb := b) (xo := M) (zo := 0) (m := 1) (X := fun j => X (M + j)) Tryz.underlying81 sizeW hr0.drew (by show 1 = min (m - M) m; omega) (fun j hj => hr0.drew.cell (by omega)) (by omega)
      have hz2 := hc2.has hz0.drew (by simpa using hzb)
      have g5 : w2.cell? ⟨z, 5, none⟩ = some (.slice (some ⟨b, 0, none⟩) m n) := by rw [hz2.cell]; rfl
      have gf := hz2.free 5
      have hX2 : ∀ j, j < n → lay 0 1 (fun j => X (M + j)) X j < 2 ^ 64 := fun j hj => by
        unfold lay
        split
        · exact HX.out _ (by omega)
        · exact HX.out _ hj
      have HX2 := Lib.hid hX2; clear hX2
      have HM := Lib.hid hM; clear hM
      go_wp2
      go_region
      all_goals
        go_wp2
        go_meet
        refine ⟨((hC0.drew.comp hc2 (R := [z, b]) (fun x hx _ => hx) (fun x hx _ => by simp at hx; simp [hx])).setCell (.inl (by simp)) _), ⟨T, hz2.setSame 5 _⟩, _, hr2.setOther hzb.symm _, by simp [lay, HM.out], HX2.out⟩
  case rest =>
    obtain ⟨hC, ⟨T', hz1⟩, X', hr1, hx1, hX1⟩ := hcut
    have hxl := HX.out (m - 1) (by omega)
    obtain ⟨x, hx⟩ : ∃ x, X (m - 1) = x := ⟨_, rfl⟩
    rw [hx] at hx1 hxl
    have HX1 := Lib.hid hX1; clear hX1
    have d0 : wc.cell? ⟨z, 0, none⟩ = some (.int .u32 p) := by rw [hz1.cell]; rfl
    have g0 : wc.cell? ⟨b, 0, none⟩ = some (.int .u64 x) := by rw [hr1.cell (by omega), hx1]
    have g1 := hr1.free 0
    have e8 : IntKind.u32.wrap (64 - (p : Int)) = ((64 - p : Nat) : Int) := by rw [u32of _ (by omega) (by omega)]; omega
    obtain ⟨L, hL⟩ : ∃ L, 2 ^ (64 - p) = L := ⟨_, rfl⟩
    have hL63 : L * 2 ^ (p - 1) = 2 ^ 63 := by rw [← hL, ← Nat.pow_add]; congr 1; omega
    have hLp : L * 2 ^ p = 2 ^ 64 := by rw [← hL, ← Nat.pow_add]; congr 1; omega
    have hL0 : 0 < L := by rw [← hL]; exact Nat.two_pow_pos _
    have hLm : L ≤ 2 ^ 63 := by rw [← hL63]; exact Nat.le_mul_of_pos_right _ (Nat.two_pow_pos _)
    have eL0 : ((2 : Int) ^ (64 - p)) = (L : Int) := by rw [← hL]; simp
    have eL : IntKind.u64.wrap (2 ^ (64 - p)) = (L : Int) := by rw [eL0, u64of _ (by omega) (by omega)]
    clear eL0
    have eL1 : IntKind.u64.wrap ((L : Int) - 1) = ((L - 1 : Nat) : Int) := by rw [u64of _ (by omega) (by omega)]; omega
    have d1 : wc.cell? ⟨z, 1, none⟩ = some (.int .u8 0) := by rw [hz1.cell]; rfl
    have d2 : wc.cell? ⟨z, 2, none⟩ = some (.int .i8 0) := by rw [hz1.cell]; rfl
    have d4 : wc.cell? ⟨z, 4, none⟩ = some (.bool neg) := by rw [hz1.cell]; rfl
    have v2 := hz1.free 2
    have d5 : wc.cell? ⟨z, 5, none⟩ = some (.slice (some ⟨b, 0, none⟩) 1 n) := by rw [hz1.cell]; rfl
    have eP : bits BinOp.and IntKind.u64 (x : Int) (L : Int) = 0 := by
      have := Hpar.out
      rw [hx, hL] at this
      rw [u64_and_nat _ _ hxl (by omega), ← hL, and_pow_eq, hL, this]; simp
    have eF : bits BinOp.andNot IntKind.u64 (x : Int) ((L - 1 : Nat) : Int) = ((x / L * L : Nat) : Int) := by
      rw [← hL]; exact clear_low x (64 - p) (by omega) hxl
    have hw2 := Nat.div_mul_le_self x L
    have hy := Hy.out
    rw [hx, hL] at hy
    rw [hy] at eF hw2
    have hyl : y < 2 ^ 64 := by omega
    clear hy hw2
    have Hyl := Lib.hid hyl
    have Hxl := Lib.hid hxl
    have hLl : L < 2 ^ 64 := by omega
    have HLl := Lib.hid hLl
    have Hx := Lib.hid hx
    have Hx1 := Lib.hid hx1
    clear hL hL63 hLp hL0 hLm hyl hxl hx hx1 hLl hbit hstk c0 c1 c2 c3 c5 f2
    have hacc : (if neg then (1 : Int) else -1) = ac := Hac.out
    have Hacc := Lib.hid hacc; clear hacc
    have hMA := fun W => makeAcc_walk neg ac Hacc.out W
    go_wp2_with (go_at_call 197; (with_reducible refine (hMA _).mono ?_); rintro e w' ⟨rfl, rfl⟩)
    go_end0
    exact ⟨rfl, (hC.setCell (.inl (by simp)) _).setCell (.inl (by simp)) _, _, ⟨T', (hz1.setSame 2 _).setOther (a := ⟨b, 0, none⟩) hzb (.int .u64 y)⟩, (hr1.setOther hzb.symm _).set 0 y, rfl, fun j hj => by
      by_cases e : j = 0
      · simp only [e, if_true]; exact Hyl.out
      · simp only [e, if_false]; exact HX1.out j hj⟩

end Go.Proofs
