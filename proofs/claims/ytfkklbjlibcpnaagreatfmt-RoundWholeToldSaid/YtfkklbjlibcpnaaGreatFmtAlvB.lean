/- Proved here: walks of Quot of 1 and 3 and of alive, given quotient, for every input that the statements name. -/
import Derived.Test.YtfkklbjlibcpnaaGreatFmtTo1
import Derived.Test.YtfkklbjlibcpnaaGreatFmtBitB
import Derived.Test.YtfkklbjlibcpnaaGreatFmtRndA
import Derived.Test.YtfkklbjlibcpnaaGreatFmtAlvA
namespace Go.Proofs
open Go Go.RowKit Go.PB Go.WL

/-- the words of 2^65 / 3, doubled, and one -/
def thirdX : Nat → Nat := fun j => if j = 0 then 6148914691236517205 else 1

theorem stuck_third (a xn : Nat) (xp : Option Addr) (X : Nat → Nat) (Fx : List Nat) (w : World) (hx : IntOf w a false (.slice xp 1 xn) 1 xn X Fx) (hX : X 0 = 12297829382473034410) :
    Calls Tryz.prog 100 #[.agg #[.pointer (some ⟨a, 0, none⟩), .int .i64 (-65), .bool true]] w (StuckPost false true (-66) 1 thirdX w) := by
  have s0 : shD 1 0 1 X 0 = 6148914691236517204 := by simp [shD, shw, hX]
  have s1 : shD 1 0 1 X 1 = 1 := by simp [shD, hX]
  refine (stuck_more_walk a 1 xn xp X Fx (-65) (-66) w 2 hx (by omega) (by omega) (by decide) (by simp [nlen, s1]) (by omega)).mono ?_
  rintro e w' ⟨b, p, len, n, D, F, rfl, hI, hc, hb, hF, hR⟩
  obtain ⟨hlen, hD⟩ := hR.out
  have d0 : D 0 = 6148914691236517205 := by rw [hD 0 (by omega)]; simp [orD, s0]
  have d1 : D 1 = 1 := by rw [hD 1 (by omega)]; simp [orD, s1]
  have hl2 : len = 2 := by rw [hlen]; simp [nlen, d1]
  subst hl2
  obtain ⟨hx1, hx2, hx3⟩ := hI
  have hx2' := hx2
  obtain ⟨y1, y2, y3, y4⟩ := hx2
  rcases y4 with ⟨_, h0, _⟩ | ⟨xb, hxb, hrow, rfl⟩
  · omega
  · refine ⟨b, xb, n, D, rfl, ?_, hc, hb, hF xb (by simp), Lib.hid ?_⟩
    · rw [← hxb]; exact ⟨hx1, hx2', hx3⟩
    · intro j hj
      obtain rfl | rfl : j = 0 ∨ j = 1 := by omega
      · rw [d0]; rfl
      · rw [d1]; rfl

theorem nrm_third : Nrm 4599676419421066581 false 4599676419421066581 := ⟨by decide, by decide, rfl⟩

theorem to_third (a xn : Nat) (xp : Option Addr) (X : Nat → Nat) (Fx : List Nat) (w : World) (hx : IntOf w a false (.slice xp 1 xn) 1 xn X Fx) (hX : X 0 = 12297829382473034410) :
    Calls Tryz.prog 59 #[.agg #[.pointer (some ⟨a, 0, none⟩), .int .i64 (-65), .bool true], .agg #[.func (.func 147) #[] #[]]] w (ToPost 4599676419421066581 true w) := by
  have h := to_walk a 147 (-65) (-66) true false 1 thirdX 65 12297829382473034410 1 4599676419421066581 4599676419421066581 4599676419421066581 (accOf 12297829382473034410 1 false) w
    (fun W hc => stuck_third a xn xp X Fx W (hx.chg hc (by simp) (by simp)) hX) (by omega) (by decide) (by decide) (by
      intro Y hY hv
      have q0 := hY 0 (by omega)
      have q1 := hY 1 (by omega)
      have hv2 : val 2 Y = val 2 thirdX * 2 ^ 63 := hv
      have e : val 2 thirdX = 24595658764946068821 := by decide
      rw [e] at hv2
      simp only [val] at hv2
      have y0 : Y 0 = 9223372036854775808 := by omega
      have y1 : Y 1 = 12297829382473034410 := by omega
      refine ⟨y1, ?_⟩
      unfold stk
      rw [if_pos (.inl ⟨0, by omega, by rw [y0]; decide⟩)]) (by omega) (by omega) (by omega) (by omega) (by decide) (by decide)
    (fun w => by
      have := (ords false 4599676419421066581 (by decide) (by decide)).self
      rw [show Ieee.double.word false 4599676419421066581 = 4599676419421066581 from rfl] at this
      simp [binOp_float_cmp_neq, this]) rfl (fun h => rfl) call147 (fun _ W => near_turn _ _ _ _ _ W) (fun _ W => near_turn _ _ _ _ _ W) (fun _ W => signed_nrm nrm_third false W)
  simpa using h

def QPost (w : World) (e : Ending) (w' : World) : Prop :=
  ∃ q zp zn D F, e = .returned (.tuple #[.agg #[.pointer (some ⟨q, 0, none⟩), .int .i64 (-65), .bool true], .int .i64 0]) ∧ IntOf w' q false (.slice zp 1 zn) 1 zn D F ∧ D 0 = 12297829382473034410 ∧ Chg [] w w'
def QtPost (w : World) (e : Ending) (w' : World) : Prop := e = .returned (.tuple #[.int .i64 4599676419421066581, .bool true, .int .i64 0]) ∧ Chg [] w w'

theorem mk67 (w : World) : (Instr.makeSlice 67 (.int .i64 2) (.int .i64 2)).run Tryz.prog w = .ok (.slice (some ⟨w.heap.size, 0, none⟩) 2 2) (w.alloc (.cells #[.pointer none, .int .i64 0, .bool false, .pointer none, .int .i64 0, .bool false] 41 (0, 0))) := by
  have hi : (Tryz.prog.info? 41).map (fun i => (i.zero, i.size, i.bytes)) = some (some (.agg #[.pointer none, .int .i64 0, .bool false]), 3, 24) := by kernel_rfl
  obtain ⟨i, h1, h2⟩ := Option.map_eq_some_iff.1 hi
  simp only [Prod.mk.injEq] at h2
  obtain ⟨hz, hs, hb⟩ := h2
  rw [run_make (P := Tryz.prog) w 67 41 i _ (by kernel_rfl) h1 hz .i64 .i64 2 2 (by omega) (by omega) (by rw [hb]; omega) (by omega), hs]
  have hm : madeCells (Value.agg #[.pointer none, .int .i64 0, .bool false]).cells ((2 : Int).toNat * 3) = #[.pointer none, .int .i64 0, .bool false, .pointer none, .int .i64 0, .bool false] := by kernel_rfl
  rw [hm]
  rfl
set_option maxRecDepth 100000 in
set_option maxHeartbeats 4000000 in
theorem rounded_third (lb ab bb : Nat) (w : World) (hl : Has w lb (.cells #[.bool false, .slice (some ⟨ab, 0, none⟩) 1 1, .int .i64 0, .bool false, .slice (some ⟨bb, 0, none⟩) 1 1, .int .i64 0] 47 (0, 0)))
    (ha : Has w ab (.cells #[.int .i64 1] 3 (0, 0))) (hb : Has w bb (.cells #[.int .i64 3] 3 (0, 0)))
    (hQ : ∀ W ob xa xb ba bb na nb A B, IntOf W xa false (.slice (some ⟨ba, 0, none⟩) 1 na) 1 na A [ba] → A 0 = 1 → IntOf W xb false (.slice (some ⟨bb, 0, none⟩) 1 nb) 1 nb B [bb] → B 0 = 3 → Has W ob (.cells #[.pointer (some ⟨xa, 0, none⟩), .int .i64 0, .bool false, .pointer (some ⟨xb, 0, none⟩), .int .i64 0, .bool false] 41 (0, 0)) →
      Calls Tryz.prog 49 #[.slice (some ⟨ob, 0, none⟩) 2 2] W (QPost W)) :
    Calls Tryz.prog 72 #[.int .i64 0, .slice (some ⟨lb, 0, none⟩) 2 2, .func (.func 49) #[] #[], .func (.func 59) #[] #[], .int .i64 (-9223372036854775808)] w (QtPost w) := by
  have hF := find0_walk w
  have HQ := Lib.hid hQ
  clear hQ
  have hms := mk67
  have hab : w.cell? ⟨ab, 0, none⟩ = some (.int .i64 1) := by rw [ha.cell]; rfl
  go_enter Tryz.func72, Tryz.ntmps72
  go_wp2_with (first | (go_at_call 57; (with_reducible refine hF.mono ?_); clear hF; rintro e w1 ⟨rfl, hc1⟩; have hl1 := hc1.has hl (by simp); have ha1 := hc1.has ha (by simp); have hb1 := hc1.has hb (by simp)))
  obtain ⟨ob, hob⟩ : ∃ ob, w1.heap.size + 1 = ob := ⟨_, rfl⟩
  obtain ⟨yb, hyb⟩ : ∃ yb, w1.heap.size = yb := ⟨_, rfl⟩
  obtain ⟨W2, hW2⟩ : ∃ W2, (w1.alloc (.cells #[.func (.func 147) #[] #[]] 74)).alloc (.cells #[.pointer none, .int .i64 0, .bool false, .pointer none, .int .i64 0, .bool false] 41) = W2 := ⟨_, rfl⟩
  have hc2 : Chg [] w1 W2 := by rw [← hW2]; exact ((Chg.refl [] w1).alloc _).alloc _
  have g3 : Has W2 yb (.cells #[.func (.func 147) #[] #[]] 74 (0, 0)) := by rw [← hW2, ← hyb]; exact (Has.new _ _).alloc _
  have g4 : Has W2 ob (.cells #[.pointer none, .int .i64 0, .bool false, .pointer none, .int .i64 0, .bool false] 41 (0, 0)) := by
    have := Has.new (w1.alloc (.cells #[.func (.func 147) #[] #[]] 74)) (.cells #[.pointer none, .int .i64 0, .bool false, .pointer none, .int .i64 0, .bool false] 41)
    rw [hW2] at this; simpa [hob] using this
  have hl2 := hc2.has hl1 (by simp)
  have ha2 := hc2.has ha1 (by simp)
  have hb2 := hc2.has hb1 (by simp)
  have s1 := hc1.size
  have s2 := hc2.size
  have k1 := hl1.lt
  have k2 := ha1.lt
  have k3 := hb1.lt
  have k4 := g3.lt
  have k5 := g4.lt
  have l0 : W2.cell? ⟨lb, 0, none⟩ = some (.bool false) := by rw [hl2.cell]; rfl
  have l1 : W2.cell? ⟨lb, 1, none⟩ = some (.slice (some ⟨ab, 0, none⟩) 1 1) := by rw [hl2.cell]; rfl
  have l2 : W2.cell? ⟨lb, 2, none⟩ = some (.int .i64 0) := by rw [hl2.cell]; rfl
  rw [hob, hyb, hW2]
  clear hW2
  refine wp_loop_rounds 3 ?_
  rw [rounds_succ]
  obtain ⟨W3, hW3⟩ : ∃ W3, W2.alloc (.cells #[.bool false, .slice (some ⟨ab, 0, none⟩) 1 1, .int .i64 0] 47) = W3 := ⟨_, rfl⟩
  have hc3 : Chg [] W2 W3 := by rw [← hW3]; exact (Chg.refl [] _).alloc _
  have ha3 := hc3.has ha2 (by simp)
  have hv := dValid_one_walk 1 ab 1 W3 (by omega) (by omega) (by decide) (by rw [ha3.cell]; rfl) ha3.lt
  have n3 : Has W3 W2.heap.size (.cells #[.bool false, .slice (some ⟨ab, 0, none⟩) 1 1, .int .i64 0] 47 (0, 0)) := by rw [← hW3]; exact Has.new _ _
  have HW3 := Lib.hid hW3; clear hW3
  go_wp2_with (first | (go_at_call 112; rw [HW3.out]; (with_reducible refine hv.mono ?_); clear hv; rintro e w4 ⟨rfl, hc4⟩; have n4 := hc4.has n3 (by simp); have p0 : w4.cell? ⟨W2.heap.size, 0, none⟩ = some (.bool false) := (by rw [n4.cell]; rfl); have p1 : w4.cell? ⟨W2.heap.size, 1, none⟩ = some (.slice (some ⟨ab, 0, none⟩) 1 1) := (by rw [n4.cell]; rfl); have p2 : w4.cell? ⟨W2.heap.size, 2, none⟩ = some (.int .i64 0) := (by rw [n4.cell]; rfl)))
  have ha4 := hc4.has ha3 (by simp)
  have hO := open_one_walk 1 ab 1 0 w4 (by omega) (by omega) (by rw [ha4.cell]; rfl) ha4.lt
  have g45 := hc4.has (hc3.has g4 (by simp)) (by simp)
  go_wp2_with (first | (go_at_call 92; (with_reducible refine hO.mono ?_); clear hO; rintro e w5 ⟨xa, na, ba, A, rfl, hIa, hc5, hxa, hba, hA⟩; have g46 := hc5.has g45 (by simp); have r0 : w5.cell? ⟨ob, 0, none⟩ = some (.pointer none) := (by rw [g46.cell]; rfl); have r1 : w5.cell? ⟨ob, 1, none⟩ = some (.int .i64 0) := (by rw [g46.cell]; rfl); have r2 : w5.cell? ⟨ob, 2, none⟩ = some (.bool false) := (by rw [g46.cell]; rfl); have f0 := g46.free 0; have f1 := g46.free 1; have f2 := g46.free 2))
  obtain ⟨W6, hW6⟩ : ∃ W6, ((w5.setCell ⟨ob, 0, none⟩ (.pointer (some ⟨xa, 0, none⟩))).setCell ⟨ob, 1, none⟩ (.int .i64 0)).setCell ⟨ob, 2, none⟩ (.bool false) = W6 := ⟨_, rfl⟩
  have hc6 : Chg [ob] w5 W6 := by rw [← hW6]; exact (((Chg.refl _ w5).setCell (.inl (by simp)) _).setCell (.inl (by simp)) _).setCell (.inl (by simp)) _
  have g6 : Has W6 ob (.cells #[.pointer (some ⟨xa, 0, none⟩), .int .i64 0, .bool false, .pointer none, .int .i64 0, .bool false] 41 (0, 0)) := by
    have := ((g46.setSame 0 (.pointer (some ⟨xa, 0, none⟩))).setSame 1 (.int .i64 0)).setSame 2 (.bool false)
    rw [hW6] at this; simpa using this
  have s3 := hc3.size
  have s4 := hc4.size
  have s5 := hc5.size
  have s6 := hc6.size
  have hIa6 := hIa.chg hc6 (by simp; omega) (by simp; omega)
  have hl6 := hc6.has (hc5.has (hc4.has (hc3.has hl2 (by simp)) (by simp)) (by simp)) (by simp; omega)
  have hb6 := hc6.has (hc5.has (hc4.has (hc3.has hb2 (by simp)) (by simp)) (by simp)) (by simp; omega)
  have y6 := hc6.has (hc5.has (hc4.has (hc3.has g3 (by simp)) (by simp)) (by simp)) (by simp; omega)
  have m0 : W6.cell? ⟨lb, 3, none⟩ = some (.bool false) := by rw [hl6.cell]; rfl
  have m1 : W6.cell? ⟨lb, 4, none⟩ = some (.slice (some ⟨bb, 0, none⟩) 1 1) := by rw [hl6.cell]; rfl
  have m2 : W6.cell? ⟨lb, 5, none⟩ = some (.int .i64 0) := by rw [hl6.cell]; rfl
  have k6 := hl6.lt
  rw [hW6]
  have HW6 := Lib.hid hW6
  clear hW6
  rw [rounds_succ]
  obtain ⟨W7, hW7⟩ : ∃ W7, W6.alloc (.cells #[.bool false, .slice (some ⟨bb, 0, none⟩) 1 1, .int .i64 0] 47) = W7 := ⟨_, rfl⟩
  have hc7 : Chg [] W6 W7 := by rw [← hW7]; exact (Chg.refl [] _).alloc _
  have hb7 := hc7.has hb6 (by simp)
  have hv := dValid_one_walk 3 bb 1 W7 (by omega) (by omega) (by decide) (by rw [hb7.cell]; rfl) hb7.lt
  have n7 : Has W7 W6.heap.size (.cells #[.bool false, .slice (some ⟨bb, 0, none⟩) 1 1, .int .i64 0] 47 (0, 0)) := by rw [← hW7]; exact Has.new _ _
  have HW7 := Lib.hid hW7; clear hW7
  go_wp2_with (first | (go_at_call 112; rw [HW7.out]; (with_reducible refine hv.mono ?_); clear hv; rintro e w8 ⟨rfl, hc8⟩; have n8 := hc8.has n7 (by simp); have p3 : w8.cell? ⟨W6.heap.size, 0, none⟩ = some (.bool false) := (by rw [n8.cell]; rfl); have p4 : w8.cell? ⟨W6.heap.size, 1, none⟩ = some (.slice (some ⟨bb, 0, none⟩) 1 1) := (by rw [n8.cell]; rfl); have p5 : w8.cell? ⟨W6.heap.size, 2, none⟩ = some (.int .i64 0) := (by rw [n8.cell]; rfl)))
  have hb8 := hc8.has hb7 (by simp)
  have hO := open_one_walk 3 bb 1 0 w8 (by omega) (by omega) (by rw [hb8.cell]; rfl) hb8.lt
  have g8 := hc8.has (hc7.has g6 (by simp)) (by simp)
  go_wp2_with (first | (go_at_call 92; (with_reducible refine hO.mono ?_); clear hO; rintro e w9 ⟨xb, nb, bb', B, rfl, hIb, hc9, hxb, hbb, hB⟩; have g9 := hc9.has g8 (by simp); have r3 : w9.cell? ⟨ob, 3, none⟩ = some (.pointer none) := (by rw [g9.cell]; rfl); have r4 : w9.cell? ⟨ob, 4, none⟩ = some (.int .i64 0) := (by rw [g9.cell]; rfl); have r5 : w9.cell? ⟨ob, 5, none⟩ = some (.bool false) := (by rw [g9.cell]; rfl); have f3 := g9.free 3; have f4 := g9.free 4; have f5 := g9.free 5))
  obtain ⟨W10, hW10⟩ : ∃ W10, ((w9.setCell ⟨ob, 3, none⟩ (.pointer (some ⟨xb, 0, none⟩))).setCell ⟨ob, 4, none⟩ (.int .i64 0)).setCell ⟨ob, 5, none⟩ (.bool false) = W10 := ⟨_, rfl⟩
  have hc10 : Chg [ob] w9 W10 := by rw [← hW10]; exact (((Chg.refl _ w9).setCell (.inl (by simp)) _).setCell (.inl (by simp)) _).setCell (.inl (by simp)) _
  have g10 : Has W10 ob (.cells #[.pointer (some ⟨xa, 0, none⟩), .int .i64 0, .bool false, .pointer (some ⟨xb, 0, none⟩), .int .i64 0, .bool false] 41 (0, 0)) := by
    have := ((g9.setSame 3 (.pointer (some ⟨xb, 0, none⟩))).setSame 4 (.int .i64 0)).setSame 5 (.bool false)
    rw [hW10] at this; simpa using this
  have s7 := hc7.size
  have s8 := hc8.size
  have s9 := hc9.size
  have s10 := hc10.size
  have la := hIa6.lt
  have lfa := hIa6.2.1.lt
  have hIa10 := (((hIa6.chg hc7 (by simp) (by simp)).chg hc8 (by simp) (by simp)).chg hc9 (by simp) (by simp)).chg hc10 (by simp; omega) (by simp; omega)
  have hIb10 := hIb.chg hc10 (by simp; omega) (by simp; omega)
  have y10 := hc10.has (hc9.has (hc8.has (hc7.has y6 (by simp)) (by simp)) (by simp)) (by simp; omega)
  have hQ := HQ.out W10 ob xa xb ba bb' na nb A B hIa10 (hA.out 0 (by omega)) hIb10 (hB.out 0 (by omega)) g10
  rw [hW10]
  have HW10 := Lib.hid hW10
  clear hW10
  have z0 : W10.cell? ⟨yb, 0, none⟩ = some (.func (.func 147) #[] #[]) := by rw [y10.cell]; rfl
  rw [rounds_succ]
  go_wp2_with (first | (go_at_call 49; (with_reducible refine hQ.mono ?_); clear hQ; rintro e w11 ⟨q, zp, zn, D, F, rfl, hI11, hD0, hc11⟩; have y11 := hc11.has y10 (by simp); have z1 : w11.cell? ⟨yb, 0, none⟩ = some (.func (.func 147) #[] #[]) := (by rw [y11.cell]; rfl); have k11 := y11.lt))
  have hT := to_third q zn zp D F _ (hI11.chg ((Chg.refl [] w11).alloc (.cells #[.pointer (some ⟨q, 0, none⟩), .int .i64 (-65), .bool true] 41)) (by simp) (by simp)) hD0
  have hst := hc1.size
  have hC : Chg [] w w11 := ((((((((hc1.trans hc2).trans hc3).trans hc4).trans hc5).comp (R := []) hc6 (by simp) (fun x hx hl => by simp at hx; omega)).trans hc7).trans hc8).trans hc9).comp (R := []) hc10 (by simp) (fun x hx hl => by simp at hx; omega) |>.trans hc11
  have HC := Lib.hid hC
  clear hC
  go_wp2_with (first | (go_at_call 59; (with_reducible refine hT.mono ?_); clear hT; rintro e w12 ⟨rfl, hc12⟩))
  go_ret3
  exact ⟨rfl, (HC.out.alloc _).trans hc12⟩

set_option maxRecDepth 100000 in
set_option maxHeartbeats 4000000 in
theorem Quot_third (ab bb : Nat) (w : World) (ha : Has w ab (.cells #[.int .i64 1] 3 (0, 0))) (hb : Has w bb (.cells #[.int .i64 3] 3 (0, 0)))
    (hQ : ∀ W ob xa xb ba bb na nb A B, IntOf W xa false (.slice (some ⟨ba, 0, none⟩) 1 na) 1 na A [ba] → A 0 = 1 → IntOf W xb false (.slice (some ⟨bb, 0, none⟩) 1 nb) 1 nb B [bb] → B 0 = 3 → Has W ob (.cells #[.pointer (some ⟨xa, 0, none⟩), .int .i64 0, .bool false, .pointer (some ⟨xb, 0, none⟩), .int .i64 0, .bool false] 41 (0, 0)) →
      Calls Tryz.prog 49 #[.slice (some ⟨ob, 0, none⟩) 2 2] W (QPost W)) :
    Calls Tryz.prog 28 #[.agg #[.bool false, .slice (some ⟨ab, 0, none⟩) 1 1, .int .i64 0], .agg #[.bool false, .slice (some ⟨bb, 0, none⟩) 1 1, .int .i64 0], .int .i64 0] w (QtPost w) := by
  have HQ := Lib.hid hQ
  clear hQ
  go_enter Tryz.func28, Tryz.ntmps28
  go_wp2_with fail
  obtain ⟨W, hW⟩ : ∃ W, ((w.alloc (.cells #[.bool false, .slice (some ⟨ab, 0, none⟩) 1 1, .int .i64 0] 47)).alloc (.cells #[.bool false, .slice (some ⟨bb, 0, none⟩) 1 1, .int .i64 0] 47)).alloc (.cells #[.bool false, .slice (some ⟨ab, 0, none⟩) 1 1, .int .i64 0, .bool false, .slice (some ⟨bb, 0, none⟩) 1 1, .int .i64 0] 47) = W := ⟨_, rfl⟩
  have hc : Chg [] w W := by rw [← hW]; exact (((Chg.refl [] w).alloc _).alloc _).alloc _
  have hl : Has W (w.heap.size + 1 + 1) (.cells #[.bool false, .slice (some ⟨ab, 0, none⟩) 1 1, .int .i64 0, .bool false, .slice (some ⟨bb, 0, none⟩) 1 1, .int .i64 0] 47 (0, 0)) := by
    have := Has.new ((w.alloc (.cells #[.bool false, .slice (some ⟨ab, 0, none⟩) 1 1, .int .i64 0] 47)).alloc (.cells #[.bool false, .slice (some ⟨bb, 0, none⟩) 1 1, .int .i64 0] 47)) (.cells #[.bool false, .slice (some ⟨ab, 0, none⟩) 1 1, .int .i64 0, .bool false, .slice (some ⟨bb, 0, none⟩) 1 1, .int .i64 0] 47)
    rw [hW] at this; simpa using this
  have hR := rounded_third _ ab bb W hl (hc.has ha (by simp)) (hc.has hb (by simp)) HQ.out
  rw [hW]
  refine hR.mono ?_
  clear hR
  rintro e w2 ⟨rfl, hc2⟩
  go_wp2_with fail
  go_ret3
  exact ⟨rfl, hc.trans hc2⟩

set_option maxRecDepth 100000 in
set_option maxHeartbeats 4000000 in
theorem alive_walk (w : World)
    (hQ : ∀ W ob xa xb ba bb na nb A B, IntOf W xa false (.slice (some ⟨ba, 0, none⟩) 1 na) 1 na A [ba] → A 0 = 1 → IntOf W xb false (.slice (some ⟨bb, 0, none⟩) 1 nb) 1 nb B [bb] → B 0 = 3 → Has W ob (.cells #[.pointer (some ⟨xa, 0, none⟩), .int .i64 0, .bool false, .pointer (some ⟨xb, 0, none⟩), .int .i64 0, .bool false] 41 (0, 0)) →
      Calls Tryz.prog 49 #[.slice (some ⟨ob, 0, none⟩) 2 2] W (QPost W)) :
    Calls Tryz.prog 8 #[] w fun e w' => e = .returned (.bool true) ∧ Chg [] w w' := by
  have HQ := Lib.hid hQ
  clear hQ
  obtain ⟨W, hW⟩ : ∃ W, (w.alloc (.cells #[.int .i64 1] 3)).alloc (.cells #[.int .i64 3] 3) = W := ⟨_, rfl⟩
  have hc : Chg [] w W := by rw [← hW]; exact ((Chg.refl [] w).alloc _).alloc _
  have ha : Has W w.heap.size (.cells #[.int .i64 1] 3 (0, 0)) := by rw [← hW]; exact (Has.new _ _).alloc _
  have hb : Has W (w.heap.size + 1) (.cells #[.int .i64 3] 3 (0, 0)) := by
    have := Has.new (w.alloc (.cells #[.int .i64 1] 3)) (.cells #[.int .i64 3] 3)
    rw [hW] at this; simpa using this
  have hQt := Quot_third _ _ W ha hb HQ.out
  have HW := Lib.hid hW; clear hW
  have hA := fun w => Add_one w
  have hB := fun w => Add32_one w
  have HA := Lib.hid hA; have HB := Lib.hid hB
  clear hA hB
  go_enter Tryz.func8, Tryz.ntmps8
  go_wp2_with (first | (go_at_call 28; rw [HW.out]; (with_reducible refine hQt.mono ?_); clear hQt; rintro e w1 ⟨rfl, hc1⟩) | (go_at_call 12; (with_reducible refine (HA.out _).mono ?_); rintro e w2 ⟨rfl, hc2⟩) | (go_at_call 29; (with_reducible refine (HB.out _).mono ?_); rintro e w3 ⟨rfl, hc3⟩))
  go_ret
  exact ⟨rfl, ((hc.trans hc1).trans hc2).trans hc3⟩
end Go.Proofs
