/- Proved here: a walk of number.to, given what its callees answer, for every input that the statements name. -/
import Derived.Test.YtfkklbjlibcpnaaGreatFmtNum1
import Derived.Test.YtfkklbjlibcpnaaGreatFmtTo0
import Derived.Test.YtfkklbjlibcpnaaGreatFmtBitA
import Derived.Deep.QuietTactic
import Derived.BigQuiet
namespace Go.Proofs
open Go Go.RowKit Go.PB

def ToPost (b2 : Int) (odd : Bool) (w : World) (e : Ending) (w' : World) : Prop := e = .returned (.tuple #[.int .i64 b2, .bool odd]) ∧ Chg [] w w'

set_option maxRecDepth 100000 in
set_option maxHeartbeats 4000000 in
theorem to_walk (x k : Nat) (ex e1 : Int) (more neg : Bool) (m : Nat) (X : Nat → Nat) (B xw s N : Nat) (b b2 ac : Int) (w : World)
    (hS : ∀ W, Chg [] w W → Calls Tryz.prog 100 #[.agg #[.pointer (some ⟨x, 0, none⟩), .int .i64 ex, .bool more]] W (StuckPost neg more e1 m X W))
    (hm : m < 900000) (htop : X m ≠ 0) (hB : 64 * m + Lib.bitLen (X m) = B)
    (hY : ∀ Y, (∀ j, j < m + 1 → Y j < 2 ^ 64) → val (m + 1) Y = val (m + 1) X * 2 ^ (64 * (m + 1) - B) → Y m = xw ∧ stk m 10 Y = s)
    (he1 : -4194304 ≤ e1) (he2 : e1 ≤ 4194304) (hE1 : -1021 ≤ B + e1) (hE2 : B + e1 ≤ 1023)
    (hN : bitsOf neg (B + e1) xw s = N) (hb : IntKind.i64.wrap (N : Int) = b)
    (hne : ∀ w, (binOp .neq 29 (.float .f64 N) (.float .f64 N)).run Tryz.prog w = .ok (.bool false) w)
    (hac : accOf xw s neg = ac) (hb0 : ac = 0 → b2 = b)
    (hk : ∀ (args : Array Value) (W : World), (callFunc k args).run Tryz.prog W = .ok (.enter k args) W)
    (hT1 : ac = 1 → ∀ W, Calls Tryz.prog k #[.int .i64 b, .bool neg, .bool true, .func (.func 104) #[] #[], .func (.func 105) #[] #[]] W fun e w' => e = .returned (.int .i64 b2) ∧ W = w')
    (hT2 : ac = -1 → ∀ W, Calls Tryz.prog k #[.int .i64 b, .bool neg, .bool false, .func (.func 104) #[] #[], .func (.func 105) #[] #[]] W fun e w' => e = .returned (.int .i64 b2) ∧ W = w')
    (hSg : ac ≠ 0 → ∀ W, Calls Tryz.prog 106 #[.int .i64 b2, .bool neg] W fun e w' => e = .returned (.int .i64 b2) ∧ W = w') :
    Calls Tryz.prog 59 #[.agg #[.pointer (some ⟨x, 0, none⟩), .int .i64 ex, .bool more], .agg #[.func (.func k) #[] #[]]] w (ToPost b2 (decide (ac ≠ 0) || more) w) := by
  obtain ⟨W0, hW0⟩ : ∃ W0, (w.alloc (.cells #[.pointer (some ⟨x, 0, none⟩), .int .i64 ex, .bool more] 41)).alloc (.cells #[.func (.func k) #[] #[]] 74) = W0 := ⟨_, rfl⟩
  have hc0 : Chg [] w W0 := by rw [← hW0]; exact ((Chg.refl [] w).alloc _).alloc _
  have g1 : Has W0 w.heap.size (.cells #[.pointer (some ⟨x, 0, none⟩), .int .i64 ex, .bool more] 41) := by rw [← hW0]; exact (Has.new _ _).alloc _
  have g2 : Has W0 (w.heap.size + 1) (.cells #[.func (.func k) #[] #[]] 74) := by
    have := Has.new (w.alloc (.cells #[.pointer (some ⟨x, 0, none⟩), .int .i64 ex, .bool more] 41)) (.cells #[.func (.func k) #[] #[]] 74)
    rw [hW0] at this; simpa using this
  have hS0 := hS W0 hc0
  clear hS
  have q0 : W0.cell? ⟨w.heap.size, 0, none⟩ = some (.pointer (some ⟨x, 0, none⟩)) := by rw [g1.cell]; rfl
  have q1 : W0.cell? ⟨w.heap.size, 1, none⟩ = some (.int .i64 ex) := by rw [g1.cell]; rfl
  have q2 : W0.cell? ⟨w.heap.size, 2, none⟩ = some (.bool more) := by rw [g1.cell]; rfl
  have HY := Lib.hid hY; have Htop := Lib.hid htop; have HB := Lib.hid hB; have HN := Lib.hid hN; have Hb := Lib.hid hb; have Hac := Lib.hid hac; have Hne := Lib.hid hne; have Hc0 := Lib.hid hc0; have Hb0 := Lib.hid hb0; have HT1 := Lib.hid hT1; have HT2 := Lib.hid hT2; have HSg := Lib.hid hSg
  clear hb0 hT1 hT2 hSg hY htop hB hN hb hac hne hc0
  go_enter Tryz.func59, Tryz.ntmps59
  go_wp2_with fail
  refine hS0.mono ?_
  clear hS0
  rintro e w1 ⟨a, xb, xn, D, rfl, hI, hc1, ha, hxb, hD⟩
  have hs1 := hc1.size
  have u1 := hc1.has g1 (by simp)
  have u2 := hc1.has g2 (by simp)
  go_wp2_with fail
  obtain ⟨f, hf⟩ : ∃ f, w1.heap.size + 1 = f := ⟨_, rfl⟩
  obtain ⟨yb, hyb⟩ : ∃ yb, w1.heap.size = yb := ⟨_, rfl⟩
  obtain ⟨W2, hW2⟩ : ∃ W2, (w1.alloc (.cells #[.pointer (some ⟨a, 0, none⟩), .int .i64 e1, .bool more] 41)).alloc (.cells (floCells 0) 122) = W2 := ⟨_, rfl⟩
  have hc2 : Chg [] w1 W2 := by rw [← hW2]; exact ((Chg.refl [] w1).alloc _).alloc _
  have g3 : Has W2 yb (.cells #[.pointer (some ⟨a, 0, none⟩), .int .i64 e1, .bool more] 41) := by rw [← hW2, ← hyb]; exact (Has.new _ _).alloc _
  have g4 : Has W2 f (.cells (floCells 0) 122) := by
    have := Has.new (w1.alloc (.cells #[.pointer (some ⟨a, 0, none⟩), .int .i64 e1, .bool more] 41)) (.cells (floCells 0) 122)
    rw [hW2] at this; simpa [hf] using this
  have hs2 := hc2.size
  have hI2 := hI.chg hc2 (by simp) (by simp)
  have hDtop : D m ≠ 0 := by rw [hD.out m (by omega)]; exact Htop.out
  have hal := hI.lt
  have hbl := hI.2.1.lt xb (by simp)
  have hSI := SetInt_walk f a m xn xb D neg B W2 ⟨122, g4⟩ hI2 (by omega) hDtop (by omega) (by omega) (by rw [hD.out m (by omega)]; exact HB.out)
  simp only [floCells, Int.natCast_zero] at hW2
  rw [hf, hyb, hW2]
  refine hSI.mono ?_
  clear hSI
  rintro e w3 ⟨rfl, hc3, b3, n3, Y, hF3, hr3, hmn3, hb3, hYl, hYv, hYt, hn3⟩
  have l2 := u2.lt
  have v1 := hc3.has g3 (by simp; omega)
  have v2 := hc3.has (hc2.has u1 (by simp)) (by simp; omega)
  have v3 := hc3.has (hc2.has u2 (by simp)) (by simp; omega)
  have r1 : w3.cell? ⟨yb, 1, none⟩ = some (.int .i64 e1) := by rw [v1.cell]; rfl
  have x1 : max e1 (-4194304) = e1 := by omega
  have x2 : min e1 4194304 = e1 := by omega
  have HW2 := Lib.hid hW2
  clear hW2
  go_wp2_with fail
  have hDX : val (m + 1) D = val (m + 1) X := val_congr fun j hj => hD.out j hj
  obtain ⟨hYm, hYs⟩ := HY.out Y (fun j hj => hYl j (by omega)) (by rw [hYv, hDX])
  have hfl := hF3
  have hBb : 1 ≤ Lib.bitLen (X m) ∧ Lib.bitLen (X m) ≤ 64 := by
    have h1 : X m < 2 ^ 64 := by rw [← hD.out m (by omega)]; exact hI.2.1.1 m (by have := hI.2.1.2.1; omega)
    exact ⟨(bitLen_bounds _ h1 Htop.out).1, bitLen_le64 _ h1⟩
  have hB1 : 64 * m + 1 ≤ B ∧ B ≤ 64 * m + 64 := by have := HB.out; omega
  have hfb : f ≠ b3 := by have := g4.lt; omega
  have hlow : Y 0 % 2 ^ (64 * (m + 1) - B) = 0 := by
    have v1 := val_low (m := m + 1) (D := Y) (by omega)
    rw [hYv, Nat.mod_eq_of_lt (hYl 0 (by omega))] at v1
    have e64 : (2 : Nat) ^ 64 = 2 ^ (64 * (m + 1) - B) * 2 ^ (64 - (64 * (m + 1) - B)) := by rw [← Nat.pow_add]; congr 1; omega
    rw [← v1, e64, Nat.mul_comm (val (m + 1) D), Nat.mul_mod_mul_left, Nat.mul_mod_right]
  have hSM := SetMantExp_walk f (max B 64) 0 neg b3 n3 (m + 1) Y B e1 w3 hF3 hr3 hYl hfb hmn3 (by omega) (by omega) (by omega)
    (by by_cases h : 64 * (m + 1) ≤ max B 64
        · exact .inl h
        · exact .inr ⟨64 * (m + 1) - B, by omega, by omega, by omega, hlow⟩) ⟨by omega, by omega⟩ ⟨by omega, by omega⟩
  have HYl := Lib.hid hYl; have HYv := Lib.hid hYv; have HYm := Lib.hid hYm; have HYs := Lib.hid hYs; have HBb := Lib.hid hBb; have Hlow := Lib.hid hlow; have HDX := Lib.hid hDX; have Hx1 := Lib.hid x1; have Hx2 := Lib.hid x2
  clear hYl hYv hYm hYs hBb hlow hDX x1 x2
  refine hSM.mono ?_
  clear hSM
  rintro e w4 ⟨rfl, hF4, hc4, hr4⟩
  have hF64 := F64_walk f (max B 64) 0 neg b3 n3 (m + 1) Y (B + e1) w4 xw s hF4 hr4 HYl.out hmn3 (by omega) (by omega) hn3 (by omega) hE1 hE2 (by rw [Nat.add_sub_cancel]; exact HYm.out) (by rw [← HYm.out]; rw [Nat.add_sub_cancel] at hYt; exact hYt) (by rw [Nat.add_sub_cancel]; exact HYs.out) N HN.out
  rw [Hac.out] at hF64
  have hO := fun w => Of_walk N b Hb.out w (Hne.out w)
  have HO := Lib.hid hO
  clear hO
  have hac3 : ac = 0 ∨ ac = 1 ∨ ac = -1 := by
    rw [← Hac.out]; unfold accOf; split
    · simp
    · split <;> cases neg <;> simp
  have hI5 := (hI2.chg hc3 (by simp; omega) (by simp; omega)).chg hc4 (by simp; omega) (by simp; omega)
  obtain ⟨⟨Ta, hac5⟩, _, _⟩ := hI5
  have l3 := g3.lt
  have y4 := hc4.has v1 (by simp; omega)
  have t4 := hc4.has v2 (by simp; omega)
  have k4 := hc4.has v3 (by simp; omega)
  have hsgn : sgn neg (m + 1) = if neg then -1 else 1 := by simp [sgn]
  have hCh : Chg [] w w4 := (((Hc0.out.trans hc1).trans hc2).comp (R := []) hc3 (by simp) (fun x hx hl => by have := Hc0.out.size; simp at hx; omega)).comp (R := []) hc4 (by simp) (fun x hx hl => by have := Hc0.out.size; simp at hx; omega)
  have HCh := Lib.hid hCh
  clear hCh
  have hac' := hac5
  obtain rfl | rfl | rfl := hac3
  · have hb2 := Hb0.out rfl
    subst hb2
    go_wp2_with (first | (go_at_call 103; (with_reducible refine hF64.mono ?_); clear hF64; rintro e w5 ⟨rfl, hc5⟩; have t5 := hc5.has t4 (by simp); have j2 : w5.cell? ⟨w.heap.size, 2, none⟩ = some (.bool more) := (by rw [t5.cell]; rfl)) | (go_at_call 18; (with_reducible refine (HO.out _).mono ?_); rintro e w6 ⟨rfl, rfl⟩))
    go_quiet (fail)
    go_wp2
    go_ret2
    refine ⟨by simp, ?_⟩
    have h5 := (HCh.out.trans (hc5.drewN nq))
    first
    | exact h5
    | exact HCh.out.trans ((((Chg.refl [] w4).alloc _)))
  have hT := HT1.out rfl
  rotate_left
  have hT := HT2.out rfl
  rotate_left
  all_goals
    have HT := Lib.hid hT
    have HSg' := Lib.hid (HSg.out (by decide))
    clear hT
    have hac5w : ∀ W, Has W a (.cells #[.bool neg, .slice (some ⟨xb, 0, none⟩) (m + 1) xn] Ta (0, 0)) → Calls Tryz.prog 58 #[.pointer (some ⟨a, 0, none⟩)] W fun e w' => e = .returned (.int .i64 (if neg then -1 else 1)) ∧ w' = W := fun W hW => (Sign_walk a (m + 1) xn _ neg Ta W hW).mono (fun e w' h => ⟨by rw [← hsgn]; exact h.1, h.2.symm⟩)
    go_wp2_with (first | (go_at_call 103; (with_reducible refine hF64.mono ?_); clear hF64; rintro e w5 ⟨rfl, hc5⟩; have t5 := hc5.has t4 (by simp); have j2 : w5.cell? ⟨w.heap.size, 2, none⟩ = some (.bool more) := (by rw [t5.cell]; rfl); have k5 := hc5.has k4 (by simp); have j3 : w5.cell? ⟨w.heap.size + 1, 0, none⟩ = some (.func (.func k) #[] #[]) := (by rw [k5.cell]; rfl); have y5 := hc5.has y4 (by simp); have j4 : w5.cell? ⟨yb, 0, none⟩ = some (.pointer (some ⟨a, 0, none⟩)) := (by rw [y5.cell]; rfl); have a5 := hc5.has hac5 (by simp)) | (go_at_call 18; (with_reducible refine (HO.out _).mono ?_); rintro e w6 ⟨rfl, rfl⟩))
    have HA5 := Lib.hid hac5w
    clear hac5w
    cases neg
    all_goals
      go_quiet (first | (go_at_call 58; exact Calls.quiet_of_same (HA5.out _ (a5.drewN _))) | exact Calls.quiet_of_same ((HT.out _).mono (fun _ _ h => ⟨h.1, h.2.symm⟩)))
      go_wp2_with (first | (go_at_call 58; (with_reducible refine (HA5.out _ (a5.drewN _)).mono ?_); rintro e w6 ⟨rfl, rfl⟩) | (go_at_call 106; (with_reducible refine (HSg'.out _).mono ?_); rintro e w7 ⟨rfl, rfl⟩))
      go_quiet (fail)
      go_wp2
      go_ret2
      refine ⟨by simp, ?_⟩
      exact HCh.out.trans ((hc5.drewN _).drewN _)
theorem call145 (args : Array Value) (W : World) : (callFunc 145 args).run Tryz.prog W = .ok (.enter 145 args) W := by
  simp [go_sem]
theorem call147 (args : Array Value) (W : World) : (callFunc 147 args).run Tryz.prog W = .ok (.enter 147 args) W := by
  simp [go_sem]
end Go.Proofs
