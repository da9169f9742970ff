/- Proved here: walks of open and stuck, for every input that the statements name. -/
import Derived.Test.YtfkklbjlibcpnaaGreatFmtIntA
import Derived.Laws.Rows
namespace Go.Proofs
open Go Go.RowKit Go.PB

set_option maxRecDepth 100000 in
set_option maxHeartbeats 1000000 in
theorem lsh_zero_walk (s : Nat) (h1 : 1 ≤ s) (w : World) : Calls Tryz.prog 129 #[.slice none 0 0, .slice none 0 0, .int .u64 s] w fun e w' => e = .returned (.slice none 0 0) ∧ w = w' := by
  have e1 : ¬ (s : Int) = 0 := by omega
  go_enter Tryz.func129, Tryz.ntmps129
  go_wp2_with fail
  go_ret
  exact ⟨rfl, rfl⟩

set_option maxRecDepth 100000 in
set_option maxHeartbeats 1000000 in
theorem Lsh_zero_walk (z s : Nat) (T : TypeId) (neg : Bool) (w : World) (hzc : Has w z (.cells #[.bool neg, .slice none 0 0] T (0, 0))) (h1 : 1 ≤ s) :
    Calls Tryz.prog 89 #[.pointer (some ⟨z, 0, none⟩), .pointer (some ⟨z, 0, none⟩), .int .u64 s] w
      fun e w' => e = .returned (.pointer (some ⟨z, 0, none⟩)) ∧ Has w' z (.cells #[.bool neg, .slice none 0 0] T (0, 0)) ∧ Chg [z] w w' := by
  have cz1 : w.cell? ⟨z, 1, none⟩ = some (.slice none 0 0) := by rw [hzc.cell]; rfl
  have cz0 : w.cell? ⟨z, 0, none⟩ = some (.bool neg) := by rw [hzc.cell]; rfl
  have f0 := hzc.free 0
  have f1 := hzc.free 1
  have hL := lsh_zero_walk s h1 w.drew
  go_enter Tryz.func89, Tryz.ntmps89
  go_wp2_with fail
  go_region_with (go_at_call 129; refine hL.mono ?_; rintro e w1 ⟨rfl, rfl⟩)
  all_goals
    clear hL
    go_wp2
    go_ret
    refine ⟨rfl, ((hzc.setSame 1 _).setSame 0 _), ((Chg.refl [z] w).drew.setCell (.inl (by simp)) _).setCell (.inl (by simp)) _⟩

/-- what open leaves: a new Int, its exponent, no more -/
def OpenPost (neg : Bool) (ex : Int) (len : Nat) (X : Nat → Nat) (w : World) (e : Ending) (w' : World) : Prop :=
  ∃ a n b D, e = .returned (.agg #[.pointer (some ⟨a, 0, none⟩), .int .i64 ex, .bool false]) ∧ IntOf w' a neg (.slice (some ⟨b, 0, none⟩) len n) len n D [b] ∧ Chg [] w w' ∧ w.heap.size ≤ a ∧ w.heap.size ≤ b ∧ Hid (∀ j, j < len → D j = X j)

set_option maxRecDepth 100000 in
set_option maxHeartbeats 4000000 in
/-- open of one digit, that is not 0 -/
theorem open_one_walk (d mb mc : Nat) (ex : Int) (w : World) (h1 : 1 ≤ d) (h2 : d < 2 ^ 30) (hm : w.cell? ⟨mb, 0, none⟩ = some (.int .i64 d)) (hmb : mb < w.heap.size) :
    Calls Tryz.prog 92 #[.agg #[.bool false, .slice (some ⟨mb, 0, none⟩) 1 mc, .int .i64 ex]] w (OpenPost false ex 1 (fun _ => d) w) := by
  obtain ⟨W0, hW0⟩ : ∃ W0, ((w.alloc (.cells #[.bool false, .slice (some ⟨mb, 0, none⟩) 1 mc, .int .i64 ex] 47)).alloc (.cells #[.pointer none, .int .i64 0, .bool false] 41)).alloc (.cells #[.bool false, .slice none 0 0] 83) = W0 := ⟨_, rfl⟩
  have hc0 : Chg [] w W0 := by rw [← hW0]; exact (((Chg.refl [] w).alloc _).alloc _).alloc _
  have g1 : Has W0 w.heap.size (.cells #[.bool false, .slice (some ⟨mb, 0, none⟩) 1 mc, .int .i64 ex] 47) := by rw [← hW0]; exact ((Has.new _ _).alloc _).alloc _
  have g2 : Has W0 (w.heap.size + 1) (.cells #[.pointer none, .int .i64 0, .bool false] 41) := by
    have := (Has.new (w.alloc (.cells #[.bool false, .slice (some ⟨mb, 0, none⟩) 1 mc, .int .i64 ex] 47)) (.cells #[.pointer none, .int .i64 0, .bool false] 41)).alloc (.cells #[.bool false, .slice none 0 0] 83)
    rw [hW0] at this; simpa using this
  have g3 : Has W0 (w.heap.size + 1 + 1) (.cells #[.bool false, .slice none 0 0] 83) := by
    have := Has.new ((w.alloc (.cells #[.bool false, .slice (some ⟨mb, 0, none⟩) 1 mc, .int .i64 ex] 47)).alloc (.cells #[.pointer none, .int .i64 0, .bool false] 41)) (.cells #[.bool false, .slice none 0 0] 83)
    rw [hW0] at this; simpa using this
  have hs0 : W0.heap.size = w.heap.size + 3 := by rw [← hW0]; simp
  have hL := Lsh_zero_walk (w.heap.size + 1 + 1) 30 83 false W0 g3 (by decide)
  simp only [Int.cast_ofNat_Int] at hL
  have k1 : W0.cell? ⟨mb, 0, none⟩ = some (.int .i64 d) := by
    simp only [World.cell?] at hm ⊢
    rw [hc0.block mb hmb (by simp)]; exact hm
  have q0 : W0.cell? ⟨w.heap.size, 0, none⟩ = some (.bool false) := by rw [g1.cell]; rfl
  have q1 : W0.cell? ⟨w.heap.size, 1, none⟩ = some (.slice (some ⟨mb, 0, none⟩) 1 mc) := by rw [g1.cell]; rfl
  have H1 := Lib.hid h1; have H2 := Lib.hid h2; have Hm := Lib.hid hm; clear h1 h2 hm
  go_enter Tryz.func92, Tryz.ntmps92
  go_wp2_with fail
  have Hw := Lib.hid hW0
  clear hW0
  refine wp_loop_rounds 2 ?_
  rw [rounds_succ]
  go_wp2_with (first | (go_at_call 89; (with_reducible refine hL.mono ?_); rintro e w1 ⟨rfl, hh1, hc1⟩; have p1 := hc1.has g1 (by simp <;> omega); have p2 := hc1.has g2 (by simp <;> omega); have p3 : w1.cell? ⟨w.heap.size, 1, none⟩ = some (.slice (some ⟨mb, 0, none⟩) 1 mc) := (by rw [p1.cell]; rfl); have p4 : w1.cell? ⟨mb, 0, none⟩ = some (.int .i64 d) := (by (have k := k1); simp only [World.cell?] at k ⊢; rw [hc1.block mb (by omega) (by simp; omega)]; exact k)) | (go_at_call 23; (with_reducible refine (NewInt_pos_walk d H1.out (by have := H2.out; omega) w1).mono ?_); rintro e w2 ⟨rfl, hI2, hc2⟩; obtain ⟨W1, hW1⟩ : ∃ x, w1.heap.size = x := ⟨_, rfl⟩; rw [hW1] at hI2; have s3 := hc2.has hh1 (by simp); have ⟨⟨T2, r2⟩, r3, r4⟩ := hI2; have hO := fun k => or_zero_walk (.slice none 0 0) 0 0 (fun _ => 0) [] none 0 _ 1 1 (fun _ => d) [W1] (w2.drewN k).drew (Sl.nil _ _) (Sl.chg (Sl.chg r3 ((Chg.refl [] w2).drewN k) (by simp)) ((Chg.refl [] _).drew) (by simp)) (by omega) (by omega) (by simp); have hOr := IOr_walk (w.heap.size + 1 + 1) (w.heap.size + 1 + 1) (W1 + 1) (.slice none 0 0) _ (.slice none 0 0) false _ _ _ [] _ w2 s3 (by simp) s3 r2 hO; clear hO))
  refine hOr.mono ?_
  clear hOr hL
  rintro e w3 ⟨neg3, p3', len, n3, D3, F3, rfl, hI3, hc3, hf3, hR3⟩
  have p5 := hc3.has (hc2.has p1 (by simp)) (by simp <;> omega)
  have p6 := hc3.has (hc2.has p2 (by simp)) (by simp <;> omega)
  have p7 : w3.cell? ⟨w.heap.size, 0, none⟩ = some (.bool false) := by rw [p5.cell]; rfl
  have p8 : w3.cell? ⟨w.heap.size, 2, none⟩ = some (.int .i64 ex) := by rw [p5.cell]; rfl
  have p9 : w3.cell? ⟨w.heap.size + 1, 0, none⟩ = some (.pointer none) := by rw [p6.cell]; rfl
  have p10 : w3.cell? ⟨w.heap.size + 1, 1, none⟩ = some (.int .i64 0) := by rw [p6.cell]; rfl
  have p11 : w3.cell? ⟨w.heap.size + 1, 2, none⟩ = some (.bool false) := by rw [p6.cell]; rfl
  have p12 := p6.free 0
  have p13 := p6.free 1
  have p14 := p6.free 2
  go_wp2
  rw [rounds_succ]
  go_wp2
  obtain ⟨rfl, hlen, hD⟩ := hR3.out
  refine bodyPost_ret (v := .agg #[.pointer (some ⟨w.heap.size + 1 + 1, 0, none⟩), .int .i64 ex, .bool false]) ?_ rfl ?_
  · have hq := ((p6.setSame 0 (.pointer (some ⟨w.heap.size + 1 + 1, 0, none⟩))).setSame 1 (.int .i64 ex)).setSame 2 (.bool false)
    have hl := run_loadVar_row (P := Tryz.prog) _ (w.heap.size + 1) 41 41 _ (0, 0) _ hq Tryz.underlying41 rfl (by kernel_rfl)
    simp [results, Tryz.f92, asAddr]
    exact hl
  · have hd1 := H1.out
    have hlen1 : len = 1 := by rw [hlen]; simp [nlen]; omega
    subst hlen1
    have hC1 : Chg [] w w3 := ((hc0.comp (R := []) hc1 (by simp) (fun x hx hl => by simp at hx; omega)).comp (R := []) hc2 (by simp) (by simp)).comp (R := []) hc3 (by simp) (fun x hx hl => by simp at hx; omega)
    have hst : ∀ x : Nat, x = w.heap.size + 1 → w.heap.size ≤ x := fun x h => by omega
    have hC2 := ((hC1.setCell (a := ⟨w.heap.size + 1, 0, none⟩) (.inr (hst _ rfl)) (.pointer (some ⟨w.heap.size + 1 + 1, 0, none⟩))).setCell (a := ⟨w.heap.size + 1, 1, none⟩) (.inr (hst _ rfl)) (.int .i64 ex)).setCell (a := ⟨w.heap.size + 1, 2, none⟩) (.inr (hst _ rfl)) (.bool false)
    have hs2 : W1 ≤ w2.heap.size := by rw [← hW1]; exact hc2.size
    have hs1 := hc1.size
    have hC3 : Chg [w.heap.size + 1] w3 (((w3.setCell ⟨w.heap.size + 1, 0, none⟩ (.pointer (some ⟨w.heap.size + 1 + 1, 0, none⟩))).setCell ⟨w.heap.size + 1, 1, none⟩ (.int .i64 ex)).setCell ⟨w.heap.size + 1, 2, none⟩ (.bool false)) :=
      (((Chg.refl _ w3).setCell (.inl (by simp)) _).setCell (.inl (by simp)) _).setCell (.inl (by simp)) _
    have hF3 : ∀ b ∈ F3, w2.heap.size ≤ b := fun b hb => by rcases hf3 b hb with h | h; simp at h; exact h
    have hI4 := hI3.chg hC3 (by simp) (fun b hb h => by have := hF3 b hb; simp at h; omega)
    obtain ⟨hx1, hx2, hx3⟩ := hI4
    have hx2' := hx2
    obtain ⟨y1, y2, y3, y4⟩ := hx2
    rcases y4 with ⟨_, h0, _⟩ | ⟨b, hb, hrow, rfl⟩
    · omega
    · refine ⟨w.heap.size + 1 + 1, n3, b, D3, rfl, ?_, hC2, by omega, by have := hF3 b (by simp); omega, Lib.hid hD⟩
      rw [← hb]
      exact ⟨hx1, hx2', hx3⟩
end Go.Proofs

namespace Go.Proofs
open Go Go.RowKit Go.PB

theorem nlen_congr' {D D' : Nat → Nat} : ∀ {n : Nat}, (∀ j, j < n → D j = D' j) → nlen D n = nlen D' n
  | 0, _ => rfl
  | n + 1, h => by unfold nlen; rw [h n (by omega), nlen_congr' (fun j hj => h j (by omega))]

/-- what stuck and its like leave: a new Int that is not negative -/
def NumPost (ex : Int) (more : Bool) (R : Nat → (Nat → Nat) → Prop) (w : World) (e : Ending) (w' : World) : Prop :=
  ∃ a p len n D F, e = .returned (.agg #[.pointer (some ⟨a, 0, none⟩), .int .i64 ex, .bool more]) ∧ IntOf w' a false (.slice p len n) len n D F ∧ Chg [] w w' ∧ w.heap.size ≤ a ∧ (∀ b, b ∈ F → w.heap.size ≤ b) ∧ Hid (R len D)

set_option maxRecDepth 100000 in
set_option maxHeartbeats 4000000 in
theorem stuck_more_walk (x m xn : Nat) (xp : Option Addr) (X : Nat → Nat) (Fx : List Nat) (ex e1 : Int) (w : World) (L : Nat)
    (hx : IntOf w x false (.slice xp m xn) m xn X Fx) (h1 : 1 ≤ m) (hm : m ≤ 900000) (he : IntKind.i64.wrap (ex - 1) = e1) (hL : nlen (shD m 0 1 X) (m + 0 + 1) = L) (hL1 : 1 ≤ L) :
    Calls Tryz.prog 100 #[.agg #[.pointer (some ⟨x, 0, none⟩), .int .i64 ex, .bool true]] w
      (NumPost e1 true (fun len D => len = nlen D L ∧ ∀ j, j < L → D j = orD 1 (shD m 0 1 X) (fun _ => 1) j) w) := by
  have hLle : L ≤ m + 1 := by rw [← hL]; exact nlen_le _ _
  have hxl := hx.lt
  obtain ⟨W0, hW0⟩ : ∃ W0, ((w.alloc (.cells #[.pointer (some ⟨x, 0, none⟩), .int .i64 ex, .bool true] 41)).alloc (.cells #[.pointer none, .int .i64 0, .bool false] 41)).alloc (.cells #[.bool false, .slice none 0 0] 83) = W0 := ⟨_, rfl⟩
  have hc0 : Chg [] w W0 := by rw [← hW0]; exact (((Chg.refl [] w).alloc _).alloc _).alloc _
  have g1 : Has W0 w.heap.size (.cells #[.pointer (some ⟨x, 0, none⟩), .int .i64 ex, .bool true] 41) := by rw [← hW0]; exact ((Has.new _ _).alloc _).alloc _
  have g2 : Has W0 (w.heap.size + 1) (.cells #[.pointer none, .int .i64 0, .bool false] 41) := by
    have := (Has.new (w.alloc (.cells #[.pointer (some ⟨x, 0, none⟩), .int .i64 ex, .bool true] 41)) (.cells #[.pointer none, .int .i64 0, .bool false] 41)).alloc (.cells #[.bool false, .slice none 0 0] 83)
    rw [hW0] at this; simpa using this
  have g3 : Has W0 (w.heap.size + 1 + 1) (.cells #[.bool false, .slice none 0 0] 83) := by
    have := Has.new ((w.alloc (.cells #[.pointer (some ⟨x, 0, none⟩), .int .i64 ex, .bool true] 41)).alloc (.cells #[.pointer none, .int .i64 0, .bool false] 41)) (.cells #[.bool false, .slice none 0 0] 83)
    rw [hW0] at this; simpa using this
  have hs0 : W0.heap.size = w.heap.size + 3 := by rw [← hW0]; simp
  have hx0 := hx.chg hc0 (by simp) (by simp)
  have hLs := Lsh_walk (w.heap.size + 1 + 1) x 0 0 m xn 0 1 (.slice none 0 0) _ (fun _ => 0) X [] Fx false false W0 ⟨⟨83, g3⟩, Sl.nil _ _, by simp⟩ hx0 h1 (by omega) (by omega) (by omega) (.inr (by simp)) (by simp)
  simp only [Nat.mul_zero, Nat.zero_add, Nat.add_zero, Int.natCast_one] at hLs hL
  have q0 : W0.cell? ⟨w.heap.size, 0, none⟩ = some (.pointer (some ⟨x, 0, none⟩)) := by rw [g1.cell]; rfl
  have q1 : W0.cell? ⟨w.heap.size, 1, none⟩ = some (.int .i64 ex) := by rw [g1.cell]; rfl
  have Hm := Lib.hid hm; have HL := Lib.hid hL; have HLle := Lib.hid hLle; have Hc0 := Lib.hid hc0; clear hm hL hLle hc0
  go_enter Tryz.func100, Tryz.ntmps100
  go_wp2_with (first | (go_at_call 89; (with_reducible refine hLs.mono ?_); clear hLs; rintro e w1 ⟨neg1, p1, len1, n1, D1, F1, rfl, hI1, hc1, hf1, hR1⟩; have u1 := hc1.has g1 (by simp <;> omega); have u2 := hc1.has g2 (by simp <;> omega); have u3 : w1.cell? ⟨w.heap.size, 2, none⟩ = some (.bool true) := (by rw [u1.cell]; rfl); have hI1' : IntOf w1 (w.heap.size + 1 + 1) false (.slice p1 L n1) L n1 D1 F1 := (by (have hR := hR1.out); rw [HL.out] at hR; rw [hR.1, hR.2.1] at hI1; exact hI1); clear hI1; obtain ⟨W1, hW1⟩ : ∃ x, w1.heap.size = x := ⟨_, rfl⟩; have HW1 := Lib.hid hW1))
  obtain ⟨w1a, hw1a⟩ : ∃ x, w1.alloc (.cells #[.bool false, .slice none 0 0] 83) = x := ⟨_, rfl⟩
  have c1a : Chg [] w1 w1a := by rw [← hw1a]; exact (Chg.refl [] w1).alloc _
  have z1a : Has w1a W1 (.cells #[.bool false, .slice none 0 0] 83) := by rw [← hw1a, ← HW1.out]; exact Has.new _ _
  have s1a : w1a.heap.size = W1 + 1 := by rw [← hw1a, ← HW1.out]; simp
  have hI1a := hI1'.chg c1a (by simp) (by simp)
  have l1 := hI1'.lt
  have l2 := hc1.size
  have hF1 : ∀ b ∈ F1, W0.heap.size ≤ b := fun b hb => by rcases hf1 b hb with h | h; simp at h; exact h
  have hA := Abs_walk W1 (w.heap.size + 1 + 1) 0 0 L n1 (.slice none 0 0) _ (fun _ => 0) D1 [] F1 false false w1a ⟨⟨83, z1a⟩, Sl.nil _ _, by simp⟩ hI1a hL1 (by have := HLle.out; have := Hm.out; omega) (by have := HW1.out; omega) (by simp)
  rw [hw1a]
  refine hA.mono ?_
  clear hA
  rintro e w2 ⟨neg2, p2, len2, n2, D2, F2, rfl, hI2, hc2, hf2, hR2⟩
  have hI2' : IntOf w2 W1 false (.slice p2 L n2) L n2 D2 F2 := by
    have hR := hR2.out; rw [hR.1, hR.2.1] at hI2; exact hI2
  clear hI2
  have hN := NewInt_pos_walk 1 (by omega) (by omega) w2
  simp only [Int.natCast_one] at hN
  go_wp2_with (first | (go_at_call 23; (with_reducible refine hN.mono ?_); rintro e w3 ⟨rfl, hI3, hc3⟩))
  have sl1 : W1 < w2.heap.size := hI2'.lt
  have l3 := HW1.out
  have hI1b := (hI1a.chg hc2 (by simp; omega) (fun b hb h => by simp at h; have := hI1'.2.1.lt b hb; have := HW1.out; omega)).chg hc3 (by simp) (by simp)
  have hI2b := hI2'.chg hc3 (by simp) (by simp)
  obtain ⟨⟨Tz, z4⟩, z5, z6⟩ := hI1b
  obtain ⟨⟨Tx, x4⟩, x5, x6⟩ := hI2b
  obtain ⟨⟨Ty, y4⟩, y5, y6⟩ := hI3
  have hO := fun k => or_walk (.slice p1 L n1) L n1 D1 F1 (.slice p2 L n2) L n2 D2 F2 _ 1 1 (fun _ => 1) [w2.heap.size] (w3.drewN k).drew
    (z5.chg (((Chg.refl [] w3).drewN k).drew) (by simp)) (x5.chg (((Chg.refl [] w3).drewN k).drew) (by simp)) (y5.chg (((Chg.refl [] w3).drewN k).drew) (by simp))
    (by omega) hL1 (by have := HLle.out; have := Hm.out; omega) (fun b hb h => by simp at hb; subst hb; exact absurd (hI1'.2.1.lt _ h) (by omega))
  have hOr := IOr_walk (w.heap.size + 1 + 1) W1 (w2.heap.size + 1) (.slice p2 L n2) _ (.slice p1 L n1) false _ _ _ F1 _ w3 z4 z6 x4 y4 hO
  clear hO
  refine hOr.mono ?_
  clear hOr
  rintro e w4 ⟨neg4, p4, len4, n4, D4, F4, rfl, hI4, hc4, hf4, hR4⟩
  have hI4' : IntOf w4 (w.heap.size + 1 + 1) false (.slice p4 len4 n4) len4 n4 D4 F4 := by
    have hR := hR4.out; rw [hR.1] at hI4; exact hI4
  clear hI4
  have HF1 := Lib.hid hF1; clear hF1
  have Hf4 := Lib.hid hf4; clear hf4
  have Hf1 := Lib.hid hf1; clear hf1
  have Hf2 := Lib.hid hf2; clear hf2
  have mm : ∀ o b, Has w1 b o → b < w.heap.size + 2 → Has w4 b o := fun o b h hb => by
    have l4 := h.lt
    refine hc4.has (hc3.has (hc2.has (c1a.has h (by simp)) (by simp; omega)) (by simp)) ?_
    intro h'
    simp at h'
    rcases h' with h' | h'
    · omega
    · have := HF1.out _ h'; omega
  have v1 := mm _ _ u1 (by omega)
  have v2 := mm _ _ u2 (by omega)
  obtain ⟨Tx0, x0c⟩ := hx0.1
  have v3 := mm _ _ (hc1.has x0c (by simp; omega)) (by omega)
  clear mm
  have v0 : w4.cell? ⟨w.heap.size, 0, none⟩ = some (.pointer (some ⟨x, 0, none⟩)) := by rw [v1.cell]; rfl
  have v11 : w4.cell? ⟨w.heap.size, 1, none⟩ = some (.int .i64 ex) := by rw [v1.cell]; rfl
  have v12 : w4.cell? ⟨w.heap.size, 2, none⟩ = some (.bool true) := by rw [v1.cell]; rfl
  have p9 : w4.cell? ⟨w.heap.size + 1, 0, none⟩ = some (.pointer none) := by rw [v2.cell]; rfl
  have p10 : w4.cell? ⟨w.heap.size + 1, 1, none⟩ = some (.int .i64 0) := by rw [v2.cell]; rfl
  have p11 : w4.cell? ⟨w.heap.size + 1, 2, none⟩ = some (.bool false) := by rw [v2.cell]; rfl
  have p12 := v2.free 0
  have p13 := v2.free 1
  have p14 := v2.free 2
  have hsg : sgn false m = 1 := by simp [sgn]; omega
  have hS := Sign_walk x m xn xp false Tx0 w4 v3
  rw [hsg] at hS
  clear hsg
  go_wp2_with (first | (go_at_call 58; (with_reducible refine hS.mono ?_); rintro e w5 ⟨rfl, rfl⟩))
  refine bodyPost_ret (v := .agg #[.pointer (some ⟨w.heap.size + 1 + 1, 0, none⟩), .int .i64 e1, .bool true]) ?_ rfl ?_
  · have hq := ((v2.setSame 0 (.pointer (some ⟨w.heap.size + 1 + 1, 0, none⟩))).setSame 1 (.int .i64 e1)).setSame 2 (.bool true)
    have hl := run_loadVar_row (P := Tryz.prog) _ (w.heap.size + 1) 41 41 _ (0, 0) _ hq Tryz.underlying41 rfl (by kernel_rfl)
    simp [results, Tryz.f100, asAddr]
    exact hl
  · have hf1 := Hf1.out
    have hf2 := Hf2.out
    have hf4 := Hf4.out
    have hF1 := HF1.out
    have hC1 : Chg [] w w4 := ((((Hc0.out.comp (R := []) hc1 (by simp) (fun x hx hl => by simp at hx; omega)).comp (R := []) c1a (by simp) (by simp)).comp (R := []) hc2 (by simp) (fun x hx hl => by simp at hx; omega)).comp (R := []) hc3 (by simp) (by simp)).comp (R := []) hc4 (by simp) (fun x hx hl => by
      simp at hx
      rcases hx with hx | hx
      · omega
      · have := hF1 _ hx; omega)
    have hst : ∀ x : Nat, x = w.heap.size + 1 → w.heap.size ≤ x := fun x h => by omega
    have hC2 := ((hC1.setCell (a := ⟨w.heap.size + 1, 0, none⟩) (.inr (hst _ rfl)) (.pointer (some ⟨w.heap.size + 1 + 1, 0, none⟩))).setCell (a := ⟨w.heap.size + 1, 1, none⟩) (.inr (hst _ rfl)) (.int .i64 e1)).setCell (a := ⟨w.heap.size + 1, 2, none⟩) (.inr (hst _ rfl)) (.bool true)
    have hC3 : Chg [w.heap.size + 1] w4 (((w4.setCell ⟨w.heap.size + 1, 0, none⟩ (.pointer (some ⟨w.heap.size + 1 + 1, 0, none⟩))).setCell ⟨w.heap.size + 1, 1, none⟩ (.int .i64 e1)).setCell ⟨w.heap.size + 1, 2, none⟩ (.bool true)) :=
      (((Chg.refl _ w4).setCell (.inl (by simp)) _).setCell (.inl (by simp)) _).setCell (.inl (by simp)) _
    have hs3 := hc3.size
    have hs2 := hc2.size
    have hs1 := c1a.size
    have hF4 : ∀ b ∈ F4, w.heap.size + 2 < b := fun b hb => by
      rcases hf4 b hb with h | h
      · have := hF1 b h; omega
      · omega
    have hI5 := hI4'.chg hC3 (by simp) (fun b hb h => by have := hF4 b hb; simp at h; omega)
    refine ⟨w.heap.size + 1 + 1, p4, len4, n4, D4, F4, rfl, hI5, hC2, by omega, fun b hb => by have := hF4 b hb; omega, ?_⟩
    have r1 := hR1.out
    have r2 := hR2.out
    have r4 := hR4.out
    have hLle := HLle.out
    refine Lib.hid ⟨?_, ?_⟩
    · rw [r4.2.1]
      exact nlen_congr' fun j hj => (r4.2.2 j hj).symm
    · intro j hj
      rw [r4.2.2 j hj]
      simp only [orD]
      rw [r2.2.2 j hj, r1.2.2 j (by omega)]
end Go.Proofs
