/- Proved here: walks of the division of 2^65 by 3, for every input that the statements name. -/
import Derived.Test.YtfkklbjlibcpnaaGreatFmtIntB
import Derived.LoopN
namespace Go.Proofs
open Go Go.RowKit Go.PB

set_option maxRecDepth 100000 in
set_option maxHeartbeats 4000000 in
theorem Div64_c (w : World) : Calls Tryz.prog 266 #[.int .u64 4611686018427387903, .int .u64 18446744073709551615, .int .u64 13835058055282163712] w fun e w' => e = .returned (.tuple #[.int .u64 6148914691236517205, .int .u64 4611686018427387903]) ∧ w = w' := by
  have hZ := Tryz.bits_LeadingZeros64 13835058055282163712 w (by decide) (by decide)
  have hb : Lib.bitLen (13835058055282163712 : Int).toNat = 64 := by decide
  rw [hb] at hZ
  have hz : (64 - ((64 : Nat) : Int)) = 0 := by decide
  rw [hz] at hZ
  have a1 : bits BinOp.and IntKind.u64 13835058055282163712 4294967295 = 0 := by decide
  have a2 : bits BinOp.and IntKind.u64 18446744073709551615 4294967295 = 4294967295 := by decide
  have a3 : bits BinOp.or IntKind.u64 4611686018427387903 0 = 4611686018427387903 := by decide
  have w1 : IntKind.u64.wrap 19807040628566084394091020288 = 18446744069414584320 := by decide
  have w2 : IntKind.u64.wrap 19807040623954398379958599680 = 13835058055282163712 := by decide
  clear hb hz
  go_enter Tryz.func266, Tryz.ntmps266
  go_wp2_with (first | (go_at_call 290; (with_reducible refine hZ.mono ?_); rintro e w' ⟨rfl, rfl⟩))
  refine wp_loop_rounds 1 ?_
  rw [rounds_succ]
  go_wp2
  refine wp_loop_rounds 1 ?_
  rw [rounds_succ]
  go_wp2
  go_ret2
  exact ⟨rfl, rfl⟩
set_option maxRecDepth 100000 in
set_option maxHeartbeats 4000000 in
theorem Div_c (w : World) : Calls Tryz.prog 244 #[.int .u64 4611686018427387903, .int .u64 18446744073709551615, .int .u64 13835058055282163712] w fun e w' => e = .returned (.tuple #[.int .u64 6148914691236517205, .int .u64 4611686018427387903]) ∧ w = w' := by
  have m0 := Div64_c w
  go_enter Tryz.func244, Tryz.ntmps244
  go_wp2_with (first | (go_at_call 266; (with_reducible refine m0.mono ?_); rintro e w' ⟨rfl, rfl⟩))
  go_ret2
  exact ⟨rfl, rfl⟩
set_option maxRecDepth 100000 in
set_option maxHeartbeats 4000000 in
theorem recip_c (w : World) : Calls Tryz.prog 245 #[.int .u64 3] w fun e w' => e = .returned (.int .u64 6148914691236517205) ∧ w = w' := by
  have m0 := Div_c w
  have x1 : bits BinOp.xor IntKind.u64 IntKind.u64.max 13835058055282163712 = 4611686018427387903 := by decide
  have m1 : Calls Tryz.prog 196 #[.int .u64 3] w (fun e w' => e = .returned (.int .u64 62) ∧ w = w') := (nlz_walk 3 w (by decide)).mono (by rintro e w' ⟨rfl, rfl⟩; exact ⟨rfl, rfl⟩)
  go_enter Tryz.func245, Tryz.ntmps245
  go_wp2_with (first | (go_at_call 244; (with_reducible refine m0.mono ?_); rintro e w' ⟨rfl, rfl⟩) | (go_at_call 196; (with_reducible refine m1.mono ?_); rintro e w' ⟨rfl, rfl⟩))
  go_ret
  exact ⟨rfl, rfl⟩
set_option maxRecDepth 100000 in
set_option maxHeartbeats 4000000 in
theorem divWW_c1 (w : World) : Calls Tryz.prog 246 #[.int .u64 0, .int .u64 2, .int .u64 3, .int .u64 6148914691236517205] w fun e w' => e = .returned (.tuple #[.int .u64 0, .int .u64 2]) ∧ w = w' := by
  have m0 : Calls Tryz.prog 196 #[.int .u64 3] w (fun e w' => e = .returned (.int .u64 62) ∧ w = w') := (nlz_walk 3 w (by decide)).mono (by rintro e w' ⟨rfl, rfl⟩; exact ⟨rfl, rfl⟩)
  have m1 : Calls Tryz.prog 233 #[.int .u64 6148914691236517205, .int .u64 0] w (fun e w' => e = .returned (.tuple #[.int .u64 0, .int .u64 0]) ∧ w = w') := (Tryz.bits_Mul 6148914691236517205 0 (by decide) (by decide) w).mono (by rintro e w' ⟨rfl, rfl⟩; exact ⟨rfl, rfl⟩)
  have m2 : Calls Tryz.prog 175 #[.int .u64 0, .int .u64 9223372036854775808, .int .u64 0] w (fun e w' => e = .returned (.tuple #[.int .u64 9223372036854775808, .int .u64 0]) ∧ w = w') := (bitsAdd_walk 0 9223372036854775808 0 9223372036854775808 0 (by decide) (by decide) (by decide) w)
  have m3 : Calls Tryz.prog 175 #[.int .u64 0, .int .u64 0, .int .u64 0] w (fun e w' => e = .returned (.tuple #[.int .u64 0, .int .u64 0]) ∧ w = w') := (bitsAdd_walk 0 0 0 0 0 (by decide) (by decide) (by decide) w)
  have m4 : Calls Tryz.prog 233 #[.int .u64 13835058055282163712, .int .u64 0] w (fun e w' => e = .returned (.tuple #[.int .u64 0, .int .u64 0]) ∧ w = w') := (Tryz.bits_Mul 13835058055282163712 0 (by decide) (by decide) w).mono (by rintro e w' ⟨rfl, rfl⟩; exact ⟨rfl, rfl⟩)
  have m5 : Calls Tryz.prog 178 #[.int .u64 9223372036854775808, .int .u64 0, .int .u64 0] w (fun e w' => e = .returned (.tuple #[.int .u64 9223372036854775808, .int .u64 0]) ∧ w = w') := (bitsSub_walk 9223372036854775808 0 0 9223372036854775808 0 (by decide) (by decide) (by decide) w)
  have m6 : Calls Tryz.prog 178 #[.int .u64 0, .int .u64 0, .int .u64 0] w (fun e w' => e = .returned (.tuple #[.int .u64 0, .int .u64 0]) ∧ w = w') := (bitsSub_walk 0 0 0 0 0 (by decide) (by decide) (by decide) w)
  have e2 : bits BinOp.or IntKind.u64 0 0 = 0 := by decide
  go_enter Tryz.func246, Tryz.ntmps246
  go_wp2_with (first | (go_at_call 196; (with_reducible refine m0.mono ?_); rintro e w' ⟨rfl, rfl⟩) | (go_at_call 233; (with_reducible refine m1.mono ?_); rintro e w' ⟨rfl, rfl⟩) | (go_at_call 175; (with_reducible refine m2.mono ?_); rintro e w' ⟨rfl, rfl⟩) | (go_at_call 175; (with_reducible refine m3.mono ?_); rintro e w' ⟨rfl, rfl⟩) | (go_at_call 233; (with_reducible refine m4.mono ?_); rintro e w' ⟨rfl, rfl⟩) | (go_at_call 178; (with_reducible refine m5.mono ?_); rintro e w' ⟨rfl, rfl⟩) | (go_at_call 178; (with_reducible refine m6.mono ?_); rintro e w' ⟨rfl, rfl⟩))
  go_ret2
  exact ⟨rfl, rfl⟩
set_option maxRecDepth 100000 in
set_option maxHeartbeats 4000000 in
theorem divWW_c2 (w : World) : Calls Tryz.prog 246 #[.int .u64 2, .int .u64 0, .int .u64 3, .int .u64 6148914691236517205] w fun e w' => e = .returned (.tuple #[.int .u64 12297829382473034410, .int .u64 2]) ∧ w = w' := by
  have m0 : Calls Tryz.prog 196 #[.int .u64 3] w (fun e w' => e = .returned (.int .u64 62) ∧ w = w') := (nlz_walk 3 w (by decide)).mono (by rintro e w' ⟨rfl, rfl⟩; exact ⟨rfl, rfl⟩)
  have m1 : Calls Tryz.prog 233 #[.int .u64 6148914691236517205, .int .u64 9223372036854775808] w (fun e w' => e = .returned (.tuple #[.int .u64 3074457345618258602, .int .u64 9223372036854775808]) ∧ w = w') := (Tryz.bits_Mul 6148914691236517205 9223372036854775808 (by decide) (by decide) w).mono (by rintro e w' ⟨rfl, rfl⟩; exact ⟨rfl, rfl⟩)
  have m2 : Calls Tryz.prog 175 #[.int .u64 9223372036854775808, .int .u64 0, .int .u64 0] w (fun e w' => e = .returned (.tuple #[.int .u64 9223372036854775808, .int .u64 0]) ∧ w = w') := (bitsAdd_walk 9223372036854775808 0 0 9223372036854775808 0 (by decide) (by decide) (by decide) w)
  have m3 : Calls Tryz.prog 175 #[.int .u64 3074457345618258602, .int .u64 9223372036854775808, .int .u64 0] w (fun e w' => e = .returned (.tuple #[.int .u64 12297829382473034410, .int .u64 0]) ∧ w = w') := (bitsAdd_walk 3074457345618258602 9223372036854775808 0 12297829382473034410 0 (by decide) (by decide) (by decide) w)
  have m4 : Calls Tryz.prog 233 #[.int .u64 13835058055282163712, .int .u64 12297829382473034410] w (fun e w' => e = .returned (.tuple #[.int .u64 9223372036854775807, .int .u64 9223372036854775808]) ∧ w = w') := (Tryz.bits_Mul 13835058055282163712 12297829382473034410 (by decide) (by decide) w).mono (by rintro e w' ⟨rfl, rfl⟩; exact ⟨rfl, rfl⟩)
  have m5 : Calls Tryz.prog 178 #[.int .u64 0, .int .u64 9223372036854775808, .int .u64 0] w (fun e w' => e = .returned (.tuple #[.int .u64 9223372036854775808, .int .u64 1]) ∧ w = w') := (bitsSub_walk 0 9223372036854775808 0 9223372036854775808 1 (by decide) (by decide) (by decide) w)
  have m6 : Calls Tryz.prog 178 #[.int .u64 9223372036854775808, .int .u64 9223372036854775807, .int .u64 1] w (fun e w' => e = .returned (.tuple #[.int .u64 0, .int .u64 0]) ∧ w = w') := (bitsSub_walk 9223372036854775808 9223372036854775807 1 0 0 (by decide) (by decide) (by decide) w)
  have e2 : bits BinOp.or IntKind.u64 9223372036854775808 0 = 9223372036854775808 := by decide
  go_enter Tryz.func246, Tryz.ntmps246
  go_wp2_with (first | (go_at_call 196; (with_reducible refine m0.mono ?_); rintro e w' ⟨rfl, rfl⟩) | (go_at_call 233; (with_reducible refine m1.mono ?_); rintro e w' ⟨rfl, rfl⟩) | (go_at_call 175; (with_reducible refine m2.mono ?_); rintro e w' ⟨rfl, rfl⟩) | (go_at_call 175; (with_reducible refine m3.mono ?_); rintro e w' ⟨rfl, rfl⟩) | (go_at_call 233; (with_reducible refine m4.mono ?_); rintro e w' ⟨rfl, rfl⟩) | (go_at_call 178; (with_reducible refine m5.mono ?_); rintro e w' ⟨rfl, rfl⟩) | (go_at_call 178; (with_reducible refine m6.mono ?_); rintro e w' ⟨rfl, rfl⟩))
  go_ret2
  exact ⟨rfl, rfl⟩
end Go.Proofs

namespace Go.Proofs
open Go Go.RowKit Go.PB

set_option maxRecDepth 100000 in
set_option maxHeartbeats 4000000 in
theorem divWVW_c (zb zn xb xn : Nat) (D X : Nat → Nat) (w : World) (hz : Row w zb zn D) (hx : Row w xb xn X) (hzn : 2 ≤ zn) (hxn : 2 ≤ xn) (h0 : X 0 = 0) (h1 : X 1 = 2) :
    Calls Tryz.prog 222 #[.slice (some ⟨zb, 0, none⟩) 2 zn, .int .u64 0, .slice (some ⟨xb, 0, none⟩) 2 xn, .int .u64 3] w fun e w' => e = .returned (.int .u64 2) ∧ w' = (w.setCell ⟨zb, 1, none⟩ (.int .u64 0)).setCell ⟨zb, 0, none⟩ (.int .u64 12297829382473034410) := by
  have c0 : w.cell? ⟨xb, 0, none⟩ = some (.int .u64 0) := by rw [hx.cell (by omega), h0]; rfl
  have c1 : w.cell? ⟨xb, 1, none⟩ = some (.int .u64 2) := by rw [hx.cell (by omega), h1]; rfl
  have d0 : w.cell? ⟨zb, 0, none⟩ = some (.int .u64 (D 0)) := hz.cell (by omega)
  have d1 : w.cell? ⟨zb, 1, none⟩ = some (.int .u64 (D 1)) := hz.cell (by omega)
  obtain ⟨T, hzT⟩ := hz
  have f0 := hzT.free 0
  have f1 := hzT.free 1
  have k1 := recip_c w
  have k2 := divWW_c1 w
  have k3 := divWW_c2 (w.setCell ⟨zb, 1, none⟩ (.int .u64 0))
  clear hzT hx h0 h1
  go_enter Tryz.func222, Tryz.ntmps222
  go_wp2_with (first | (go_at_call 245; (with_reducible refine k1.mono ?_); rintro e w' ⟨rfl, rfl⟩))
  refine wp_loop_rounds 3 ?_
  rw [rounds_succ]
  go_wp2_with (first | (go_at_call 246; (with_reducible refine k2.mono ?_); rintro e w' ⟨rfl, rfl⟩))
  rw [rounds_succ]
  go_wp2_with (first | (go_at_call 246; (with_reducible refine k3.mono ?_); rintro e w' ⟨rfl, rfl⟩))
  rw [rounds_succ]
  go_wp2
  go_ret
  exact ⟨rfl, rfl⟩

set_option maxRecDepth 100000 in
set_option maxHeartbeats 4000000 in
theorem divW_c (xb xn : Nat) (X : Nat → Nat) (w : World) (hx : Row w xb xn X) (hxn : 2 ≤ xn) (h0 : X 0 = 0) (h1 : X 1 = 2) :
    Calls Tryz.prog 187 #[.slice none 0 0, .slice (some ⟨xb, 0, none⟩) 2 xn, .int .u64 3] w fun e w' =>
      ∃ zb zn D, e = .returned (.tuple #[.slice (some ⟨zb, 0, none⟩) 1 zn, .int .u64 2]) ∧ Sl w' (.slice (some ⟨zb, 0, none⟩) 1 zn) 1 zn D [zb] ∧ D 0 = 12297829382473034410 ∧ Chg [] w w' ∧ w.heap.size ≤ zb := by
  have hM := make_walk (.slice none 0 0) 0 0 (fun _ => 0) [] w (Sl.nil _ _) 2 (by omega) (by omega)
  simp only [Int.cast_ofNat_Int] at hM
  have hxl := hx.lt
  go_enter Tryz.func187, Tryz.ntmps187
  go_wp2_with (first | (go_at_call 170; (with_reducible refine hM.mono ?_); rintro e w1 ⟨zb, zn, D, rfl, hr, hle, hmx1, hd1, hc1, hF⟩))
  have hz : zb = w.heap.size := by rcases hF with h | h; simp at h; exact h
  clear hF
  obtain ⟨w2, hw2⟩ : ∃ x, (w1.setCell ⟨zb, 1, none⟩ (.int .u64 0)).setCell ⟨zb, 0, none⟩ (.int .u64 12297829382473034410) = x := ⟨_, rfl⟩
  have hD := divWVW_c zb zn xb xn D X w1 hr (hc1.row hx (by simp)) hle hxn h0 h1
  rw [hw2] at hD
  have hr2 := (hr.set 1 0).set 0 12297829382473034410
  simp only [Int.cast_ofNat_Int] at hr2
  rw [hw2] at hr2
  have hN := norm_walk zb 0 2 zn (fun j => if j = 0 then 12297829382473034410 else if j = 1 then 0 else D j) w2 (by omega) hle (fun k hk => by rw [Nat.zero_add]; exact hr2.cell (by omega))
  have hn2 : nlen (fun j => if j = 0 then 12297829382473034410 else if j = 1 then 0 else D j) 2 = 1 := by simp [nlen]
  rw [hn2] at hN
  have Hd1 := Lib.hid hd1; have Hh0 := Lib.hid h0; have Hh1 := Lib.hid h1; have Hhz := Lib.hid hz; have Hw2 := Lib.hid hw2; have Hr2 := Lib.hid hr2
  clear hd1 h0 h1 hz hw2 hn2 hr2
  refine hD.mono ?_
  clear hD
  rintro e w3 ⟨rfl, rfl⟩
  go_wp2_with (first | (go_at_call 172; (with_reducible refine hN.mono ?_); rintro e w4 ⟨rfl, rfl⟩))
  go_ret2
  have hd1 := Hd1.out
  refine ⟨zb, zn, _, rfl, ⟨?_, by omega, hmx1, .inr ⟨zb, rfl, Hr2.out, rfl⟩⟩, by simp, ?_, by have := Hhz.out; omega⟩
  · intro j hj
    have := hd1 j hj
    show (if j = 0 then 12297829382473034410 else if j = 1 then 0 else D j) < 2 ^ 64
    split
    · omega
    · split <;> omega
  · rw [← Hw2.out]
    have := Hhz.out
    exact (hc1.setCell (.inr (by show w.heap.size ≤ zb; omega)) _).setCell (.inr (by show w.heap.size ≤ zb; omega)) _
set_option maxRecDepth 100000 in
set_option maxHeartbeats 4000000 in
theorem setWord_c (x : Nat) (hx1 : 1 ≤ x) (hx : x < 2 ^ 64) (w : World) :
    Calls Tryz.prog 188 #[.slice none 0 0, .int .u64 x] w fun e w' =>
      ∃ zb zn D, e = .returned (.slice (some ⟨zb, 0, none⟩) 1 zn) ∧ Sl w' (.slice (some ⟨zb, 0, none⟩) 1 zn) 1 zn D [zb] ∧ D 0 = x ∧ Chg [] w w' ∧ w.heap.size ≤ zb := by
  have hM := make_walk (.slice none 0 0) 0 0 (fun _ => 0) [] w (Sl.nil _ _) 1 (by omega) (by omega)
  simp only [Int.natCast_one] at hM
  have e1 : ¬ (x : Int) = 0 := by omega
  have Hx := Lib.hid hx; clear hx
  go_enter Tryz.func188, Tryz.ntmps188
  go_wp2_with (first | (go_at_call 170; (with_reducible refine hM.mono ?_); rintro e w1 ⟨zb, zn, D, rfl, hr, hle, hmx1, hd1, hc1, hF⟩; have g0 : w1.cell? ⟨zb, 0, none⟩ = some (.int .u64 (D 0)) := hr.cell (by omega); have g1 := hr.free 0; have Hd1 := Lib.hid hd1; clear hd1; have HF := Lib.hid hF; clear hF))
  go_ret
  have hz : w.heap.size = zb := by rcases HF.out with h | h; simp at h; exact h.symm
  refine ⟨zb, zn, _, rfl, ⟨?_, by omega, hmx1, .inr ⟨zb, rfl, hr.set 0 x, rfl⟩⟩, by simp, hc1.setCell (.inr (by show w.heap.size ≤ zb; omega)) _, by omega⟩
  intro j hj
  have := Hd1.out j hj
  have := Hx.out
  show (if j = 0 then x else D j) < 2 ^ 64
  split <;> omega

set_option maxRecDepth 100000 in
set_option maxHeartbeats 4000000 in
theorem div_c (xb xn yb yn : Nat) (X Y : Nat → Nat) (w : World) (hx : Row w xb xn X) (hxn : 2 ≤ xn) (h0 : X 0 = 0) (h1 : X 1 = 2) (hy : Row w yb yn Y) (hyn : 1 ≤ yn) (hy0 : Y 0 = 3) :
    Calls Tryz.prog 140 #[.slice none 0 0, .pointer none, .slice none 0 0, .slice (some ⟨xb, 0, none⟩) 2 xn, .slice (some ⟨yb, 0, none⟩) 1 yn] w fun e w' =>
      ∃ zb zn D rb rn D', e = .returned (.tuple #[.slice (some ⟨zb, 0, none⟩) 1 zn, .slice (some ⟨rb, 0, none⟩) 1 rn]) ∧ Sl w' (.slice (some ⟨zb, 0, none⟩) 1 zn) 1 zn D [zb] ∧ D 0 = 12297829382473034410 ∧
        Sl w' (.slice (some ⟨rb, 0, none⟩) 1 rn) 1 rn D' [rb] ∧ Chg [] w w' ∧ w.heap.size ≤ zb ∧ w.heap.size ≤ rb := by
  have hD := divW_c xb xn X w hx hxn h0 h1
  have y0 : w.cell? ⟨yb, 0, none⟩ = some (.int .u64 3) := by rw [hy.cell (by omega), hy0]; rfl
  clear h0 h1 hy0
  go_enter Tryz.func140, Tryz.ntmps140
  go_wp2_with (first | (go_at_call 187; (with_reducible refine hD.mono ?_); rintro e w1 ⟨zb, zn, D, rfl, hz, hD0, hc1, hzb⟩))
  have hS := setWord_c 2 (by omega) (by omega) w1
  simp only [Int.cast_ofNat_Int] at hS
  go_wp2_with (first | (go_at_call 188; (with_reducible refine hS.mono ?_); rintro e w2 ⟨rb, rn, D2, rfl, hr, hr0, hc2, hrb⟩))
  go_ret2
  have := hc1.size
  exact ⟨zb, zn, D, rb, rn, D2, rfl, hz.chg hc2 (by simp), hD0, hr, hc1.trans hc2, hzb, by omega⟩
end Go.Proofs
