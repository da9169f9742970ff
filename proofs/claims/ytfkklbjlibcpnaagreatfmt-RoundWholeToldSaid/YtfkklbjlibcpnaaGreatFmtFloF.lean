/- Proved here: walks of Float.Set and Float.Float64 in the normal range, for every input that the statements name. -/
import Derived.Test.YtfkklbjlibcpnaaGreatFmtFloE
namespace Go.Proofs
open Go Go.RowKit Go.PB

set_option maxRecDepth 100000 in
set_option maxHeartbeats 2000000 in
/-- Set, into a new Float with fewer bits -/
theorem Set_walk (r z p P : Nat) (acc : Int) (neg : Bool) (b n m : Nat) (Y : Nat → Nat) (E : Int) (w : World) (R : World → Prop)
    (hr0 : FloOf w r p 0 0 false (.slice none 0 0) 0) (hz : FloOf w z P acc 1 neg (.slice (some ⟨b, 0, none⟩) m n) E) (hrow : Row w b n Y) (hY : ∀ j, j < n → Y j < 2 ^ 64) (hrz : r ≠ z) (hrb : r ≠ b) (hmn : m ≤ n) (h1 : 1 ≤ m) (hm : m ≤ 1000000) (hn : n ≤ 1099511627776)
    (hp : 1 ≤ p) (hpP : p < P)
    (hR : ∀ W b' n' Y', FloOf W r p 0 1 neg (.slice (some ⟨b', 0, none⟩) m n') E → Row W b' n' Y' → (∀ j, j < n' → Y' j < 2 ^ 64) → (∀ j, j < m → Y' j = Y j) → r ≠ b' → m ≤ n' → w.heap.size ≤ b' → Chg [r] w W → Calls Tryz.prog 198 #[.pointer (some ⟨r, 0, none⟩), .int .u64 0] W fun e w' => e = .returned (.tuple #[]) ∧ R w') :
    Calls Tryz.prog 156 #[.pointer (some ⟨r, 0, none⟩), .pointer (some ⟨z, 0, none⟩)] w fun e w' => e = .returned (.pointer (some ⟨r, 0, none⟩)) ∧ R w' := by
  obtain ⟨T, hrc⟩ := hr0
  obtain ⟨T', hzc⟩ := hz
  have c0 : w.cell? ⟨r, 0, none⟩ = some (.int .u32 p) := by rw [hrc.cell]; rfl
  have c2 : w.cell? ⟨r, 2, none⟩ = some (.int .i8 0) := by rw [hrc.cell]; rfl
  have c3 : w.cell? ⟨r, 3, none⟩ = some (.int .u8 0) := by rw [hrc.cell]; rfl
  have c4 : w.cell? ⟨r, 4, none⟩ = some (.bool false) := by rw [hrc.cell]; rfl
  have c5 : w.cell? ⟨r, 5, none⟩ = some (.slice none 0 0) := by rw [hrc.cell]; rfl
  have c6 : w.cell? ⟨r, 6, none⟩ = some (.int .i32 0) := by rw [hrc.cell]; rfl
  have f2 := hrc.free 2
  have f3 := hrc.free 3
  have f4 := hrc.free 4
  have f6 := hrc.free 6
  have z0 : w.cell? ⟨z, 0, none⟩ = some (.int .u32 P) := by rw [hzc.cell]; rfl
  have z3 : w.cell? ⟨z, 3, none⟩ = some (.int .u8 1) := by rw [hzc.cell]; rfl
  have z4 : w.cell? ⟨z, 4, none⟩ = some (.bool neg) := by rw [hzc.cell]; rfl
  have z5 : w.cell? ⟨z, 5, none⟩ = some (.slice (some ⟨b, 0, none⟩) m n) := by rw [hzc.cell]; rfl
  have z6 : w.cell? ⟨z, 6, none⟩ = some (.int .i32 E) := by rw [hzc.cell]; rfl
  have hz1 := (((hrc.setSame 2 (.int .i8 0)).setSame 3 (.int .u8 1)).setSame 4 (.bool neg)).setSame 6 (.int .i32 E)
  have hzz := (((hzc.setOther (a := ⟨r, 2, none⟩) hrz.symm (.int .i8 0)).setOther (a := ⟨r, 3, none⟩) hrz.symm (.int .u8 1)).setOther (a := ⟨r, 4, none⟩) hrz.symm (.bool neg)).setOther (a := ⟨r, 6, none⟩) hrz.symm (.int .i32 E)
  have hneq := neqF2 (w.setCell ⟨r, 2, none⟩ (.int .i8 0)) r z hrz (hrc.setSame 2 _) (hzc.setOther (a := ⟨r, 2, none⟩) hrz.symm _)
  have hC1 : Chg [r] w ((((w.setCell ⟨r, 2, none⟩ (.int .i8 0)).setCell ⟨r, 3, none⟩ (.int .u8 1)).setCell ⟨r, 4, none⟩ (.bool neg)).setCell ⟨r, 6, none⟩ (.int .i32 E)).drew :=
    ((((((Chg.refl _ _).setCell (.inl (by simp)) _).setCell (.inl (by simp)) _).setCell (.inl (by simp)) _).setCell (.inl (by simp)) _)).drew
  have hxs1 : Sl ((((w.setCell ⟨r, 2, none⟩ (.int .i8 0)).setCell ⟨r, 3, none⟩ (.int .u8 1)).setCell ⟨r, 4, none⟩ (.bool neg)).setCell ⟨r, 6, none⟩ (.int .i32 E)).drew (.slice (some ⟨b, 0, none⟩) m n) m n Y [b] :=
    Sl.chg ⟨hY, hmn, hn, .inr ⟨b, rfl, hrow, rfl⟩⟩ hC1 (by simpa using (Ne.symm hrb))
  have hS := set_walk (.slice none 0 0) 0 0 (fun _ => 0) [] _ m n Y [b] _ (Sl.nil _ _) hxs1 h1 hm
  have Hn := Lib.hid hn; have HY := Lib.hid hY
  clear hn hY hxs1
  go_enter Tryz.func156, Tryz.ntmps156
  go_wp2
  go_region_with (go_at_call 150; (with_reducible refine hS.mono ?_); rintro e w1 ⟨p1, len, n1, D1, F1, rfl, hsl, hc1, hf, hRr⟩; have g5 : w1.cell? ⟨r, 5, none⟩ = some (.slice none 0 0) := (by rw [(hc1.has hz1.drew (by simp)).cell]; rfl); have g6 := (hc1.has hz1.drew (by simp)).free 5)
  all_goals
    have hhr := (hc1.has hz1.drew (by simp)).setSame 5 (.slice p1 len n1)
    have hhz := (hc1.has hzz.drew (by simp)).setOther (a := ⟨r, 5, none⟩) hrz.symm (.slice p1 len n1)
    obtain ⟨hd1, hln1, hmx1, hs1⟩ := hsl
    have hlen : len = m := hRr.out.1
    rcases hs1 with ⟨h0, h00, _⟩ | ⟨b', hb', hrow1, hF1⟩
    · omega
    obtain rfl : p1 = some ⟨b', 0, none⟩ := by injection hb'
    have hbn : w.heap.size ≤ b' := by
      have := hf b' (by rw [hF1]; simp)
      simpa using this
    have hrl := hrc.lt
    have hrb' : r ≠ b' := by omega
    have q0 : (w1.setCell ⟨r, 5, none⟩ (.slice (some ⟨b', 0, none⟩) len n1)).cell? ⟨r, 0, none⟩ = some (.int .u32 p) := by rw [hhr.cell]; rfl
    have q1 : (w1.setCell ⟨r, 5, none⟩ (.slice (some ⟨b', 0, none⟩) len n1)).cell? ⟨z, 0, none⟩ = some (.int .u32 P) := by rw [hhz.cell]; rfl
    have hp0 : ((p : Int) == 0) = false := by simp; omega
    have hpP' : (p : Int) < P := by omega
    have hRd := fun k => hR ((w1.setCell ⟨r, 5, none⟩ (.slice (some ⟨b', 0, none⟩) len n1)).drewN k) b' n1 D1 (by rw [← hlen]; exact ⟨T, hhr.drewN k⟩) ((hrow1.setOther (a := ⟨r, 5, none⟩) hrb'.symm _).drewN k) hd1 (hRr.out.2) hrb' (by omega) hbn (((hC1.comp hc1 (R := [r]) (fun x hx _ => hx) (by simp)).setCell (.inl (by simp)) _).drewN k)
    have Hd1 := Lib.hid hd1; have Hmx1 := Lib.hid hmx1; have Hlen := Lib.hid hlen; have Hb' := Lib.hid hb'
    clear hd1 hmx1 hlen hS hR hb' hneq hpP hp
    go_wp2
    go_quiet (fail)
    go_wp2_with (go_at_call 198; (with_reducible refine (hRd _).mono ?_); rintro e w7 ⟨rfl, hr7⟩)
    go_ret
    exact ⟨rfl, hr7⟩
end Go.Proofs

namespace Go.Proofs
open Go Go.RowKit Go.PB

theorem run_frombits (x : Int) (w : World) : (callFunc 31 #[.int .u64 x]).run Tryz.prog w = .ok (.value (.float .f64 x.toNat)) w := by
  rw [run_callFunc_extern (fn := Tryz.f31) (e := Extern.MathFloatBits.float64frombits) Tryz.func31 (by kernel_rfl) (by kernel_rfl) (by rfl) (by rfl)]
  rfl
theorem or_high (a k x : Nat) (hx : x < 2 ^ k) (h : a * 2 ^ k + x < 2 ^ 64) : bits BinOp.or IntKind.u64 ((a * 2 ^ k : Nat) : Int) (x : Int) = ((a * 2 ^ k + x : Nat) : Int) := by
  have e : (a * 2 ^ k ||| x) = a * 2 ^ k + x := by rw [Nat.mul_comm, ← Nat.two_pow_add_eq_or_of_lt hx]
  rw [u64_or_nat _ _ (by omega) (by omega), e]
theorem and_low (x k : Nat) (hx : x < 2 ^ 64) (hk : k ≤ 63) : bits BinOp.and IntKind.u64 (x : Int) ((2 ^ k - 1 : Nat) : Int) = ((x % 2 ^ k : Nat) : Int) := by
  have hk2 : 2 ^ k ≤ 2 ^ 63 := Nat.pow_le_pow_right (by decide) hk
  have e : (x &&& (2 ^ k - 1)) = x % 2 ^ k := Nat.and_two_pow_sub_one_eq_mod x k
  rw [u64_and_nat _ _ (by omega) (by omega), e]

set_option maxRecDepth 100000 in
set_option maxHeartbeats 1000000 in
theorem msb64_walk (b n x : Nat) (D : Nat → Nat) (w : World) (hrow : Row w b n D) (hn : 1 ≤ n) (hx : D 0 = x) : Calls Tryz.prog 158 #[.slice (some ⟨b, 0, none⟩) 1 n] w fun e w' => e = .returned (.int .u64 x) ∧ w = w' := by
  have c0 : w.cell? ⟨b, 0, none⟩ = some (.int .u64 x) := by rw [hrow.cell (by omega), hx]
  clear hx
  go_enter Tryz.func158, Tryz.ntmps158
  go_wp2
  go_ret
  exact ⟨rfl, rfl⟩

def floCells (p : Nat) : Array Value := #[.int .u32 p, .int .u8 0, .int .i8 0, .int .u8 0, .bool false, .slice none 0 0, .int .i32 0]

/-- what Float64 leaves -/
def F64Post (bits : Nat) (ac : Int) (w : World) (e : Ending) (w' : World) : Prop :=
  e = .returned (.tuple #[.float .f64 bits, .int .i8 ac]) ∧ Chg [] w w'

set_option maxRecDepth 100000 in
set_option maxHeartbeats 4000000 in
/-- Float64, where the number is a normal one and no more than the greatest -/
theorem Float64_walk (z P : Nat) (acc : Int) (neg : Bool) (b n m : Nat) (Y : Nat → Nat) (E : Int) (w : World) (word : Nat) (ac E' : Int)
    (hz : FloOf w z P acc 1 neg (.slice (some ⟨b, 0, none⟩) m n) E) (hrow : Row w b n Y) (hY : ∀ j, j < n → Y j < 2 ^ 64) (hmn : m ≤ n) (h1 : 1 ≤ m) (hm : m ≤ 1000000) (hn : n ≤ 1099511627776)
    (hP : 53 < P) (hE : -1021 ≤ E) (hE1 : E ≤ 2000) (hE2 : E ≤ E') (hE3 : E' ≤ 1024) (hword : word < 2 ^ 64)
    (hR : ∀ W r b' n' Y', FloOf W r 53 0 1 neg (.slice (some ⟨b', 0, none⟩) m n') E → Row W b' n' Y' → (∀ j, j < n' → Y' j < 2 ^ 64) → (∀ j, j < m → Y' j = Y j) → r ≠ b' → m ≤ n' → Calls Tryz.prog 198 #[.pointer (some ⟨r, 0, none⟩), .int .u64 0] W (RoundPost r 53 b' n' neg ac E' word W))
    (B M N : Nat) (hB : (B : Int) = (E' + 1022) * 4503599627370496) (hM : word / 2048 % 2 ^ 52 = M) (hN : (if neg then 2 ^ 63 else 0) + B + M = N) :
    Calls Tryz.prog 103 #[.pointer (some ⟨z, 0, none⟩)] w (F64Post N ac w) := by
  obtain ⟨T, hzc⟩ := hz
  have z3 : w.cell? ⟨z, 3, none⟩ = some (.int .u8 1) := by rw [hzc.cell]; rfl
  have z4 : w.cell? ⟨z, 4, none⟩ = some (.bool neg) := by rw [hzc.cell]; rfl
  have z6 : w.cell? ⟨z, 6, none⟩ = some (.int .i32 E) := by rw [hzc.cell]; rfl
  have hzl := hzc.lt
  have hrl := hrow.lt
  have e1 : IntKind.i32.wrap (E - 1) = E - 1 := i32of _ (by omega) (by omega)
  have e2 : ¬ E - 1 < -1022 := by omega
  have hr0 : FloOf (w.alloc (.cells (floCells 53) 122)) w.heap.size 53 0 0 false (.slice none 0 0) 0 := ⟨122, Has.new _ _⟩
  have hSet := Set_walk w.heap.size z 53 P acc neg b n m Y E (w.alloc (.cells (floCells 53) 122))
    (fun w' => ∃ b' n' X', w.heap.size < b' ∧ 1 ≤ n' ∧ Chg [w.heap.size] (w.alloc (.cells (floCells 53) 122)) w' ∧ FloOf w' w.heap.size 53 ac 1 neg (.slice (some ⟨b', 0, none⟩) 1 n') E' ∧ Row w' b' n' X' ∧ X' 0 = word ∧ ∀ j, j < n' → X' j < 2 ^ 64)
    hr0 ⟨T, hzc.alloc _⟩ (hrow.alloc _) hY (by omega) (by omega) hmn h1 hm hn (by omega) hP
    (fun W b' n' Y' g1 g2 g3 g4 g5 g6 g7 g8 => (hR W w.heap.size b' n' Y' g1 g2 g3 g4 g5 g6).mono (by
      rintro e w' ⟨he, hc, X', k1, k2, k3, k4⟩
      have hs : (w.alloc (.cells (floCells 53) 122)).heap.size = w.heap.size + 1 := by simp
      refine ⟨he, b', n', X', by omega, by omega, ?_, k1, k2, k3, k4⟩
      exact g8.comp hc (fun x hx _ => hx) (fun x hx hl => by simp at hx; rcases hx with rfl | rfl; simp; omega)))
  obtain ⟨q, hq⟩ : ∃ q : Nat, E' + 1022 = (q : Int) := ⟨(E' + 1022).toNat, by omega⟩
  have hqB : B = q * 2 ^ 52 := by rw [hq] at hB; omega
  have hq1 : q ≤ 2046 := by omega
  have hMl : M < 2 ^ 52 := by rw [← hM]; exact Nat.mod_lt _ (by decide)
  have i1 : (E' + 1022) * 4503599627370496 = (B : Int) := by rw [hB]
  have i2 : bits BinOp.and IntKind.u64 ((word : Int) / 2048) 4503599627370495 = (M : Int) := by
    have := and_low (word / 2048) 52 (by omega) (by omega)
    rw [hM] at this
    simpa using this
  have i3 : bits BinOp.or IntKind.u64 9223372036854775808 (B : Int) = ((2 ^ 63 + B : Nat) : Int) := by
    have := or_high 1 63 B (by omega) (by omega)
    simpa using this
  have i4 : bits BinOp.or IntKind.u64 ((2 ^ 63 + B : Nat) : Int) (M : Int) = ((2 ^ 63 + B + M : Nat) : Int) := by
    have := or_high (2 ^ 11 + q) 52 M hMl (by omega)
    rw [show (2 ^ 11 + q) * 2 ^ 52 = 2 ^ 63 + B by omega] at this
    exact this
  have i5 : bits BinOp.or IntKind.u64 0 (B : Int) = (B : Int) := by
    have := or_high 0 63 B (by omega) (by omega)
    simpa using this
  have i6 : bits BinOp.or IntKind.u64 (B : Int) (M : Int) = ((B + M : Nat) : Int) := by
    have := or_high q 52 M hMl (by omega)
    rw [← hqB] at this
    exact this
  clear hq hqB hq1 hMl q
  obtain ⟨N1, hN1⟩ : ∃ x, 2 ^ 63 + B + M = x := ⟨_, rfl⟩
  obtain ⟨Q1, hQ1⟩ : ∃ x, 2 ^ 63 + B = x := ⟨_, rfl⟩
  obtain ⟨N0, hN0⟩ : ∃ x, B + M = x := ⟨_, rfl⟩
  rw [hN1, hQ1] at i4
  rw [hQ1] at i3
  rw [hN0] at i6
  have hNt : neg = true → N1 = N := by rintro rfl; rw [← hN1, ← hN]; simp
  have hNf : neg = false → N0 = N := by rintro rfl; rw [← hN0, ← hN]; simp
  have HNt := Lib.hid hNt; have HNf := Lib.hid hNf
  clear hNt hNf hN1 hN0 hQ1
  have hF1 := run_frombits (N1 : Int)
  have hF0 := run_frombits (N0 : Int)
  simp only [Int.toNat_natCast] at hF1 hF0
  have Hhn := Lib.hid hn; have HY := Lib.hid hY; have Hword := Lib.hid hword; have HB := Lib.hid hB; have HM := Lib.hid hM; have HN := Lib.hid hN
  clear hR hn hY hword hB hM hN
  simp only [floCells, Int.cast_ofNat_Int] at hSet
  have f1 : IntKind.i32.wrap (E' - 1) = E' - 1 := i32of _ (by omega) (by omega)
  have f2 : ¬ E' - 1 > 1023 := by omega
  have f3 : ¬ E' - 1 < -1022 := by omega
  have f4 : IntKind.i32.wrap (E' - 1 + 1023) = E' + 1022 := by rw [show E' - 1 + 1023 = E' + 1022 by omega]; exact i32of _ (by omega) (by omega)
  have f5 : IntKind.u64.wrap (E' + 1022) = E' + 1022 := by simp [IntKind.wrap, IntKind.bits, IntKind.signed]; omega
  go_enter Tryz.func103, Tryz.ntmps103
  go_wp2_with (first | (go_at_call 156; (with_reducible refine hSet.mono ?_); rintro e w2 ⟨rfl, b', n', X', hb', hrow2n, hc2, ⟨T2, hr2⟩, hrow2, hX0, hXl⟩; have r6 : w2.cell? ⟨w.heap.size, 6, none⟩ = some (.int .i32 E') := (by rw [hr2.cell]; rfl); have r4 : w2.cell? ⟨w.heap.size, 4, none⟩ = some (.bool neg) := (by rw [hr2.cell]; rfl); have r3 : w2.cell? ⟨w.heap.size, 3, none⟩ = some (.int .u8 1) := (by rw [hr2.cell]; rfl); have r2 : w2.cell? ⟨w.heap.size, 2, none⟩ = some (.int .i8 ac) := (by rw [hr2.cell]; rfl); have zz4 : w2.cell? ⟨z, 4, none⟩ = some (.bool neg) := (by rw [(hc2.has (hzc.alloc _) (by simp; omega)).cell]; rfl); have r5 : w2.cell? ⟨w.heap.size, 5, none⟩ = some (.slice (some ⟨b', 0, none⟩) 1 n') := (by rw [hr2.cell]; rfl)) | (go_at_call 158; (with_reducible refine (msb64_walk b' n' word X' w2 hrow2 hrow2n hX0).mono ?_); rintro e w3 ⟨rfl, rfl⟩))
  all_goals (
    go_quiet (fail)
    go_wp2)
  all_goals go_ret2
  all_goals (
    refine ⟨?_, ?_⟩
    · first | rw [HNt.out (by assumption)] | rw [HNf.out (by assumption)] | rw [HNt.out rfl] | rw [HNf.out rfl]
      all_goals rfl
    · refine (Chg.then (Chg.alloc (Chg.refl [] w) _) (hc2.drewN _) ?_)
      intro x hx hl
      simp at hx
      omega)
end Go.Proofs
