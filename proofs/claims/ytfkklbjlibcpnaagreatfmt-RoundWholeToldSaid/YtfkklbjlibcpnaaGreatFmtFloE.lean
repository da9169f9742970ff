/- Proved here: walks of setExp, BitLen, SetInt, Copy, SetMantExp, for every input that the statements name. -/
import Derived.Test.YtfkklbjlibcpnaaGreatFmtFloK
import Derived.Test.YtfkklbjlibcpnaaGreatFmtInt1
namespace Go.Proofs
open Go Go.RowKit Go.PB

theorem i32of (a : Int) (h0 : -2147483648 ≤ a) (h : a < 2147483648) : IntKind.i32.wrap a = a := by unfold IntKind.wrap; simp [IntKind.bits, IntKind.signed]; omega
theorem i64of (a : Int) (h0 : -9223372036854775808 ≤ a) (h : a < 9223372036854775808) : IntKind.i64.wrap a = a := by unfold IntKind.wrap; simp [IntKind.bits, IntKind.signed]; omega

set_option maxRecDepth 100000 in
set_option maxHeartbeats 1000000 in
theorem setExp_walk (z prec form : Nat) (acc : Int) (neg : Bool) (s : Value) (exp0 exp : Int) (w : World) (R : World → Prop)
    (hz : FloOf w z prec acc form neg s exp0) (h0 : -2000000000 ≤ exp) (h1 : exp ≤ 2000000000)
    (hR : ∀ W, FloOf W z prec acc 1 neg s exp → Chg [z] w W → (∀ b n D, b ≠ z → Row w b n D → Row W b n D) → Calls Tryz.prog 198 #[.pointer (some ⟨z, 0, none⟩), .int .u64 0] W fun e w' => e = .returned (.tuple #[]) ∧ R w') :
    Calls Tryz.prog 152 #[.pointer (some ⟨z, 0, none⟩), .int .i64 exp, .int .u64 0] w fun e w' => e = .returned (.tuple #[]) ∧ R w' := by
  obtain ⟨T, hzc⟩ := hz
  have c3 : w.cell? ⟨z, 3, none⟩ = some (.int .u8 form) := by rw [hzc.cell]; rfl
  have c6 : w.cell? ⟨z, 6, none⟩ = some (.int .i32 exp0) := by rw [hzc.cell]; rfl
  have f3 := hzc.free 3
  have f6 := hzc.free 6
  have e1 : IntKind.i32.wrap exp = exp := i32of _ (by omega) (by omega)
  have hlt1 : ¬ exp < -2147483648 := by omega
  have hlt2 : ¬ (2147483647 : Int) < exp := by omega
  have hR' := hR ((w.setCell ⟨z, 3, none⟩ (.int .u8 1)).setCell ⟨z, 6, none⟩ (.int .i32 exp)) ⟨T, (hzc.setSame 3 _).setSame 6 _⟩
    (((Chg.refl _ _).setCell (.inl (by simp)) _).setCell (.inl (by simp)) _) (fun b n D hb hr => (hr.setOther hb _).setOther hb _)
  clear hR
  go_enter Tryz.func152, Tryz.ntmps152
  go_wp2_with (go_at_call 198; (with_reducible refine hR'.mono ?_); rintro e w' ⟨rfl, hR2⟩)
  go_end0
  exact ⟨rfl, hR2⟩
end Go.Proofs

namespace Go.Proofs
open Go Go.RowKit Go.PB

set_option maxRecDepth 100000 in
set_option maxHeartbeats 1000000 in
theorem BitLen_walk (x m xn xb : Nat) (X : Nat → Nat) (xneg : Bool) (w : World)
    (hx : IntOf w x xneg (.slice (some ⟨xb, 0, none⟩) (m + 1) xn) (m + 1) xn X [xb]) (hm : m < 1000000) :
    Calls Tryz.prog 94 #[.pointer (some ⟨x, 0, none⟩)] w fun e w' => e = .returned (.int .i64 ((64 * m + Lib.bitLen (X m) : Nat) : Int)) ∧ w = w' := by
  obtain ⟨⟨T, hxc⟩, ⟨hd, hln, _, hs⟩, _⟩ := hx
  rcases hs with ⟨h0, _⟩ | ⟨b, hb, hrow, _⟩
  · cases h0
  obtain rfl : xb = b := by injection hb with h1; injection h1 with h1; injection h1
  have c1 : w.cell? ⟨x, 1, none⟩ = some (.slice (some ⟨xb, 0, none⟩) (m + 1) xn) := by rw [hxc.cell]; rfl
  have hB := bitLen_walk xb 0 m xn (X m) w (hd _ (by omega)) hm (by rw [Nat.zero_add]; exact hrow.cell (by omega))
  clear hd
  generalize 64 * m + Lib.bitLen (X m) = B at *
  go_enter Tryz.func94, Tryz.ntmps94
  go_wp2_with (go_at_call 139; (with_reducible refine hB.mono ?_); rintro e w' ⟨rfl, rfl⟩)
  go_ret
  exact ⟨rfl, rfl⟩

/-- what SetInt leaves: the mantissa is x's digits, moved up so that the top bit is set -/
def SetIntPost (z m : Nat) (X : Nat → Nat) (xneg : Bool) (B : Nat) (w : World) (e : Ending) (w' : World) : Prop :=
  e = .returned (.pointer (some ⟨z, 0, none⟩)) ∧ Chg [z] w w' ∧ ∃ b n Y, FloOf w' z (max B 64) 0 1 xneg (.slice (some ⟨b, 0, none⟩) m n) B ∧ Row w' b n Y ∧ m ≤ n ∧ w.heap.size ≤ b ∧
    (∀ j, j < n → Y j < 2 ^ 64) ∧ val m Y = val m X * 2 ^ (64 * m - B) ∧ 2 ^ 63 ≤ Y (m - 1) ∧ n ≤ 1099511627776

theorem val_low {m : Nat} {D : Nat → Nat} (h1 : 1 ≤ m) : val m D % 2 ^ 64 = D 0 % 2 ^ 64 := by
  have : ∀ k, val (k + 1) D % 2 ^ 64 = D 0 % 2 ^ 64 := by
    intro k
    induction k with
    | zero => simp [val]
    | succ k ih =>
      rw [val_succ, Nat.add_mod, ih, show 64 * (k + 1) = 64 + 64 * k by omega, Nat.pow_add, ← Nat.mul_assoc, Nat.mul_comm (D (k + 1)), Nat.mul_assoc, Nat.mul_mod_right]
      simp
  obtain ⟨k, rfl⟩ : ∃ k, m = k + 1 := ⟨m - 1, by omega⟩
  exact this k

set_option maxRecDepth 100000 in
set_option maxHeartbeats 4000000 in
theorem SetInt_walk (z x m xn xb : Nat) (X : Nat → Nat) (xneg : Bool) (B : Nat) (w : World)
    (hz : FloOf w z 0 0 0 false (.slice none 0 0) 0)
    (hx : IntOf w x xneg (.slice (some ⟨xb, 0, none⟩) (m + 1) xn) (m + 1) xn X [xb]) (hm : m < 1000000) (htop : X m ≠ 0) (hzx : z ≠ x) (hzb : z ≠ xb)
    (hB : 64 * m + Lib.bitLen (X m) = B) :
    Calls Tryz.prog 101 #[.pointer (some ⟨z, 0, none⟩), .pointer (some ⟨x, 0, none⟩)] w (SetIntPost z (m + 1) X xneg B w) := by
  have hBL := BitLen_walk x m xn xb X xneg w hx hm
  rw [hB] at hBL
  obtain ⟨T, hzc⟩ := hz
  obtain ⟨⟨T', hxc⟩, hxs, _⟩ := hx
  have c0 : w.cell? ⟨z, 0, none⟩ = some (.int .u32 0) := by rw [hzc.cell]; rfl
  have c2 : w.cell? ⟨z, 2, none⟩ = some (.int .i8 0) := by rw [hzc.cell]; rfl
  have c4 : w.cell? ⟨z, 4, none⟩ = some (.bool false) := by rw [hzc.cell]; rfl
  have c5 : w.cell? ⟨z, 5, none⟩ = some (.slice none 0 0) := by rw [hzc.cell]; rfl
  have f0 := hzc.free 0
  have f2 := hzc.free 2
  have f4 := hzc.free 4
  have x0 : w.cell? ⟨x, 0, none⟩ = some (.bool xneg) := by rw [hxc.cell]; rfl
  have x1 : w.cell? ⟨x, 1, none⟩ = some (.slice (some ⟨xb, 0, none⟩) (m + 1) xn) := by rw [hxc.cell]; rfl
  have hXd := hxs.1
  have hBb : 1 ≤ Lib.bitLen (X m) ∧ Lib.bitLen (X m) ≤ 64 := ⟨(bitLen_bounds _ (hXd m (by have := hxs.2.1; omega)) htop).1, bitLen_le64 _ (hXd m (by have := hxs.2.1; omega))⟩
  have hB1 : 64 * m + 1 ≤ B ∧ B ≤ 64 * m + 64 := by omega
  have e1 : IntKind.u32.wrap (B : Int) = (B : Int) := u32of _ (by omega) (by omega)
  have e2 : IntKind.i64.wrap (B : Int) = (B : Int) := i64of _ (by omega) (by omega)
  obtain ⟨P, hP⟩ : ∃ P, max B 64 = P := ⟨_, rfl⟩
  have e3 : max (B : Int) 64 = (P : Int) := by rw [← hP]; omega
  have hz1 := (((hzc.setSame 0 (.int .u32 P)).setSame 2 (.int .i8 0)).setSame 4 (.bool xneg)).drew
  have hC1 : Chg [z] w (((w.setCell ⟨z, 0, none⟩ (.int .u32 P)).setCell ⟨z, 2, none⟩ (.int .i8 0)).setCell ⟨z, 4, none⟩ (.bool xneg)).drew := (((((Chg.refl _ _).setCell (.inl (by simp)) _).setCell (.inl (by simp)) _).setCell (.inl (by simp)) _)).drew
  have hxs1 := hxs.chg hC1 (by simpa using (Ne.symm hzb))
  have hS := set_walk (.slice none 0 0) 0 0 (fun _ => 0) [] _ (m + 1) xn X [xb] _ (Sl.nil _ _) hxs1 (by omega) (by omega)
  have HB1 := Lib.hid hB1; have HXd := Lib.hid hXd; have HP := Lib.hid hP; have HBb := Lib.hid hBb; have HB := Lib.hid hB
  clear hXd hP hB hBb hxs1
  go_enter Tryz.func101, Tryz.ntmps101
  go_wp2_with (go_at_call 94; (with_reducible refine hBL.mono ?_); rintro e w' ⟨rfl, rfl⟩)
  go_region_with (go_at_call 150; (with_reducible refine hS.mono ?_); rintro e w1 ⟨p1, len, n1, D1, F1, rfl, hsl, hc1, hf, hR⟩; have g5 : w1.cell? ⟨z, 5, none⟩ = some (.slice none 0 0) := (by rw [(hc1.has hz1 (by simp)).cell]; rfl); have g6 := (hc1.has hz1 (by simp)).free 5)
  all_goals
    have hhz := hc1.has hz1 (by simp)
    obtain ⟨hd1, hln1, hmx1, hs1⟩ := hsl
    have hlen : len = m + 1 := hR.out.1
    rcases hs1 with ⟨h0, h00, _⟩ | ⟨b', hb', hrow1, hF1⟩
    · omega
    obtain rfl : p1 = some ⟨b', 0, none⟩ := by injection hb'
    have hbn : w.heap.size ≤ b' := by
      have := hf b' (by rw [hF1]; simp)
      simpa using this
    have hzl := hzc.lt
    have hzb' : z ≠ b' := by omega
    have Hd1 := Lib.hid hd1; have Hmx1 := Lib.hid hmx1; have Hb' := Lib.hid hb'
    have hDX : val (m + 1) D1 = val (m + 1) X := val_congr fun j hj => hR.out.2 j hj
    have htop1 : D1 m = X m := hR.out.2 m (by omega)
    have HDX := Lib.hid hDX
    have hFn := fnorm_walk b' n1 n1 (m + 1) D1 (w1.setCell ⟨z, 5, none⟩ (.slice (some ⟨b', 0, none⟩) len n1)) (hrow1.setOther (a := ⟨z, 5, none⟩) hzb'.symm _) hd1 (by omega) (by omega) (by omega) (by rw [Nat.add_sub_cancel, htop1]; exact htop)
    rw [← hlen] at hFn
    have hhz2 := hhz.setSame 5 (.slice (some ⟨b', 0, none⟩) len n1)
    have hC2 : Chg [z] w (w1.setCell ⟨z, 5, none⟩ (.slice (some ⟨b', 0, none⟩) len n1)) := (hC1.comp hc1 (R := [z]) (fun x hx _ => hx) (by simp)).setCell (.inl (by simp)) _
    have q5 : (w1.setCell ⟨z, 5, none⟩ (.slice (some ⟨b', 0, none⟩) len n1)).cell? ⟨z, 5, none⟩ = some (.slice (some ⟨b', 0, none⟩) len n1) := by rw [hhz2.cell]; rfl
    have Hlen := Lib.hid hlen; have Htop1 := Lib.hid htop1
    clear hd1 hmx1 hb' hDX hlen htop1 hS hBL
    go_wp2_with (go_at_call 151; (with_reducible refine hFn.mono ?_); rintro e w6 ⟨Y, hc6, hr6, rfl, hY⟩)
    have hzb2 : z ∉ [b'] := by simpa using hzb'
    have hz6 : FloOf w6 z P 0 0 xneg (.slice (some ⟨b', 0, none⟩) len n1) 0 := ⟨T, hc6.has hhz2 hzb2⟩
    have hlen := Hlen.out
    have hsh : 64 - Lib.bitLen (D1 (len - 1)) = 64 * (m + 1) - B := by
      rw [hlen, Nat.add_sub_cancel, Htop1.out]
      have := HB.out
      omega
    have hSE := setExp_walk z P 0 0 xneg (.slice (some ⟨b', 0, none⟩) len n1) 0 B w6 (fun w' => Chg [z, b'] w6 w' ∧ FloOf w' z P 0 1 xneg (.slice (some ⟨b', 0, none⟩) len n1) B ∧ Row w' b' n1 Y) hz6 (by omega) (by have := HB1.out; omega) (fun W hW hCW hRW => by
      have hrW := hRW b' n1 Y (Ne.symm hzb') hr6
      have hPP := HP.out
      have hBB := HB1.out
      by_cases hfit : 64 * len ≤ P
      · refine (round_fit_walk z P 0 xneg b' n1 len B W hW (by omega) (by omega) hfit).mono ?_
        rintro e w' ⟨he, h1, h2⟩
        exact ⟨he, (hCW.comp h2 (R := [z, b']) (fun x hx _ => by simp at hx; simp [hx]) (fun x hx _ => by simp at hx; simp [hx])), h1, h2.row hrW (by simpa using (Ne.symm hzb'))⟩
      · have hPB : P = B := by omega
        have hlow : Y 0 % 2 ^ (64 * (m + 1) - B) = 0 := by
          obtain ⟨y1, y2, y3⟩ := hY.out
          have v1 := val_low (m := len) (D := Y) (by omega)
          rw [y1, hsh, Nat.mod_eq_of_lt (y2 0 (by omega))] at v1
          have e64 : (2 : Nat) ^ 64 = 2 ^ (64 * (m + 1) - B) * 2 ^ (64 - (64 * (m + 1) - B)) := by rw [← Nat.pow_add]; congr 1; omega
          rw [← v1, e64, Nat.mul_comm (val len D1), Nat.mul_mod_mul_left, Nat.mul_mod_right]
        refine (round_keep z (64 * (m + 1) - B) P 0 xneg b' n1 len Y B W hW hrW hY.out.2.1 hzb' (by omega) (by omega) (by omega) (by omega) (by omega) (by have := HBb.out; have := HB.out; omega) hlow).mono ?_
        rintro e w' ⟨he, h1, h2, h3⟩
        exact ⟨he, (hCW.comp h2 (R := [z, b']) (fun x hx _ => by simp at hx; simp [hx]) (fun x hx _ => hx)), h1, h3⟩)
    have Hsh := Lib.hid hsh; have Hlen' := Lib.hid hlen
    clear hsh hlen
    go_wp2_with (go_at_call 152; (with_reducible refine hSE.mono ?_); rintro e w7 ⟨rfl, hc7, hz7, hr7⟩)
    go_ret
    have hlen := Hlen.out
    subst hlen
    refine ⟨rfl, ?_, b', n1, Y, by rw [HP.out]; exact hz7, hr7, by omega, hbn, hY.out.2.1, by rw [hY.out.1, Hsh.out, HDX.out], hY.out.2.2, Hmx1.out⟩
    refine (hC2.comp hc6 (R := [z]) (fun x hx _ => hx) (fun x hx hl => by simp at hx; omega)).comp hc7 (fun x hx _ => hx) (fun x hx hl => by simp at hx; rcases hx with rfl | rfl; simp; omega)
end Go.Proofs

namespace Go.Proofs
open Go Go.RowKit Go.PB

theorem neqF (w : World) (a : Addr) : (binOp .neq 116 (.pointer (some a)) (.pointer (some a))).run Tryz.prog w = .ok (.bool false) w := by
  have h : (Tryz.prog.info? 122).isSome = true := by kernel_rfl
  obtain ⟨i, hi⟩ := Option.isSome_iff_exists.1 h
  exact run_neq_ptr_same w a Tryz.underlying116 hi
theorem neqF2 (w : World) (a b : Nat) {ca cb : Array Value} {ta tb : TypeId} (hne : a ≠ b) (ha : Has w a (.cells ca ta (0, 0))) (hb : Has w b (.cells cb tb (0, 0))) : (binOp .neq 116 (.pointer (some ⟨a, 0, none⟩)) (.pointer (some ⟨b, 0, none⟩))).run Tryz.prog w = .ok (.bool true) w := by
  have h : (Tryz.prog.info? 122).map (fun i => (i.size != 0)) = some true := by kernel_rfl
  obtain ⟨i, hi, h2⟩ := Option.map_eq_some_iff.1 h
  exact run_neq_ptr_other w Tryz.underlying116 hi (by simpa using h2) (by intro h; injection h; contradiction) ha hb

set_option maxRecDepth 100000 in
set_option maxHeartbeats 1000000 in
theorem Copy_same_walk (z : Nat) (w : World) : Calls Tryz.prog 154 #[.pointer (some ⟨z, 0, none⟩), .pointer (some ⟨z, 0, none⟩)] w fun e w' => e = .returned (.pointer (some ⟨z, 0, none⟩)) ∧ w = w' := by
  have hne := neqF
  go_enter Tryz.func154, Tryz.ntmps154
  go_wp2
  go_ret
  exact ⟨rfl, rfl⟩

set_option maxRecDepth 100000 in
set_option maxHeartbeats 1000000 in
theorem SetMantExp_walk (z P : Nat) (acc : Int) (neg : Bool) (b n m : Nat) (Y : Nat → Nat) (E k : Int) (w : World)
    (hz : FloOf w z P acc 1 neg (.slice (some ⟨b, 0, none⟩) m n) E) (hr : Row w b n Y) (hY : ∀ j, j < n → Y j < 2 ^ 64) (hzb : z ≠ b) (hmn : m ≤ n) (h1 : 1 ≤ m) (hm : m ≤ 1000000) (hP : P ≤ 1000000000)
    (hfit : 64 * m ≤ P ∨ ∃ d, P + d = 64 * m ∧ 1 ≤ d ∧ d ≤ 63 ∧ Y 0 % 2 ^ d = 0) (hE : -1000000000 ≤ E ∧ E ≤ 1000000000) (hk : -1000000000 ≤ k ∧ k ≤ 1000000000) :
    Calls Tryz.prog 102 #[.pointer (some ⟨z, 0, none⟩), .pointer (some ⟨z, 0, none⟩), .int .i64 k] w fun e w' => e = .returned (.pointer (some ⟨z, 0, none⟩)) ∧ FloOf w' z P 0 1 neg (.slice (some ⟨b, 0, none⟩) m n) (E + k) ∧ Chg [z, b] w w' ∧ Row w' b n Y := by
  have hSE := setExp_walk z P 1 acc neg (.slice (some ⟨b, 0, none⟩) m n) E (E + k) w (fun w' => FloOf w' z P 0 1 neg (.slice (some ⟨b, 0, none⟩) m n) (E + k) ∧ Chg [z, b] w w' ∧ Row w' b n Y) hz (by omega) (by omega) (fun W hW hCW hRW => by
    have hrW := hRW b n Y (Ne.symm hzb) hr
    rcases hfit with hfit | ⟨d, h2, h3, h4, h5⟩
    · refine (round_fit_walk z P acc neg b n m (E + k) W hW hm hP hfit).mono ?_
      rintro e w' ⟨he, h1, h2⟩
      exact ⟨he, h1, (hCW.comp h2 (R := [z, b]) (fun x hx _ => by simp at hx; simp [hx]) (fun x hx _ => by simp at hx; simp [hx])), h2.row hrW (by simpa using (Ne.symm hzb))⟩
    · refine (round_keep z d P acc neg b n m Y (E + k) W hW hrW hY hzb hmn h1 hm h2 h3 h4 h5).mono ?_
      rintro e w' ⟨he, h1, h2, h3⟩
      exact ⟨he, h1, (hCW.comp h2 (R := [z, b]) (fun x hx _ => by simp at hx; simp [hx]) (fun x hx _ => hx)), h3⟩)
  obtain ⟨T, hzc⟩ := hz
  have c3 : w.cell? ⟨z, 3, none⟩ = some (.int .u8 1) := by rw [hzc.cell]; rfl
  have c6 : w.cell? ⟨z, 6, none⟩ = some (.int .i32 E) := by rw [hzc.cell]; rfl
  have e1 : IntKind.i64.wrap E = E := i64of _ (by omega) (by omega)
  have e2 : IntKind.i64.wrap (E + k) = E + k := i64of _ (by omega) (by omega)
  have hcp := fun W => Copy_same_walk z W
  clear hfit hY
  go_enter Tryz.func102, Tryz.ntmps102
  go_wp2_with (first | (go_at_call 154; (with_reducible refine (hcp _).mono ?_); rintro e w' ⟨rfl, rfl⟩) | (go_at_call 152; (with_reducible refine hSE.mono ?_); rintro e w7 ⟨rfl, hz7, hc7, hr7⟩))
  go_ret
  exact ⟨rfl, hz7, hc7, hr7⟩

end Go.Proofs
