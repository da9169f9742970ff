/- Proved here: a walk of quotient of 1 and 3, for every input that the statements name. -/
import Derived.Test.YtfkklbjlibcpnaaGreatFmtDivB
import Derived.Test.YtfkklbjlibcpnaaGreatFmtAlvB
import Derived.Deep.RegionHeld3
import Derived.Deep.DeepCutAuto
namespace Go.Proofs
open Go Go.RowKit Go.PB

theorem Has.at {w : World} {o : Obj} {b : Nat} (h : b = w.heap.size) : Has (w.alloc o) b o := by subst h; exact Has.new _ _
/-- the two operands, each in a block of its own -/
def QMid (xa xb : Nat) (w : World) (t4 t5 : Value) (wc : World) : Prop :=
  ∃ p4 p5 r, t4 = .pointer (some ⟨p4, 0, none⟩) ∧ t5 = .pointer (some ⟨p5, 0, none⟩) ∧ r = w.heap.size ∧ r < p4 ∧ r < p5 ∧ Has wc p4 (.cells #[.pointer (some ⟨xa, 0, none⟩), .int .i64 0, .bool false] 41 (0, 0)) ∧
    Has wc p5 (.cells #[.pointer (some ⟨xb, 0, none⟩), .int .i64 0, .bool false] 41 (0, 0)) ∧ Has wc r (.cells #[.pointer none, .int .i64 0, .bool false] 41 (0, 0)) ∧ Chg [] w wc

theorem cel1 {w : World} {o : Obj} {p : Nat} {v : Value} (h : p < w.heap.size) (hc : w.cell? ⟨p, 0, none⟩ = some v) : (w.alloc o).cell? ⟨p, 0, none⟩ = some v := by
  simp only [World.cell?] at hc ⊢
  rw [Below.heap_alloc _ _ _ h]; exact hc
theorem cel2 {w : World} {o o' : Obj} {p : Nat} {v : Value} (h : p < w.heap.size) (hc : w.cell? ⟨p, 0, none⟩ = some v) : ((w.alloc o).alloc o').cell? ⟨p, 0, none⟩ = some v :=
  cel1 (by simp; omega) (cel1 h hc)
theorem cel3 {w : World} {o o' o'' : Obj} {p : Nat} {v : Value} (h : p < w.heap.size) (hc : w.cell? ⟨p, 0, none⟩ = some v) : (((w.alloc o).alloc o').alloc o'').drew.cell? ⟨p, 0, none⟩ = some v :=
  cel1 (by simp; omega) (cel2 h hc)
theorem zeroes1 {W w1 : World} {o : Obj} {z : Nat} (_h : Chg [z] (W.alloc o).drew w1) : True ∧ True ∧ True := ⟨trivial, trivial, trivial⟩
theorem zeroes2 {W w1 : World} {o : Obj} {z : Nat} (h : Chg [z] ((W.alloc o).alloc o).drew w1) : (W.heap.size ≠ z → Has w1 W.heap.size o) ∧ (W.heap.size + 1 ≠ z → Has w1 (W.heap.size + 1) o) ∧ True :=
  ⟨fun hz => h.has (Has.drew ((Has.new _ _).alloc _)) (by simpa using hz), fun hz => h.has (Has.drew (Has.at (by simp))) (by simpa using hz), trivial⟩
theorem zeroes3 {W w1 : World} {o : Obj} {z : Nat} (h : Chg [z] (((W.alloc o).alloc o).alloc o).drew w1) : (W.heap.size ≠ z → Has w1 W.heap.size o) ∧ (W.heap.size + 1 ≠ z → Has w1 (W.heap.size + 1) o) ∧ (W.heap.size + 1 + 1 ≠ z → Has w1 (W.heap.size + 1 + 1) o) :=
  ⟨fun hz => h.has (Has.drew (((Has.new _ _).alloc _).alloc _)) (by simpa using hz), fun hz => h.has (Has.drew ((Has.at (by simp)).alloc _)) (by simpa using hz), fun hz => h.has (Has.drew (Has.at (by simp))) (by simpa using hz)⟩
def QMid2 (_p4 _p5 _r _xa _xb : Nat) (_w W2 : World) (t7 t8 : Value) (wc : World) : Prop :=
  ∃ q zb zn D rr rb rn, t7 = .pointer (some ⟨q, 0, none⟩) ∧ t8 = .pointer (some ⟨rr, 0, none⟩) ∧ IntOf wc q false (.slice (some ⟨zb, 0, none⟩) 1 zn) 1 zn D [zb] ∧ D 0 = 12297829382473034410 ∧ W2.heap.size ≤ q ∧ W2.heap.size ≤ zb ∧
    Has wc rr (.cells #[.bool false, .slice (some ⟨rb, 0, none⟩) 1 rn] 83 (0, 0)) ∧ Chg [] W2 wc

theorem qr_c (xb bb nb : Nat) (B : Nat → Nat) (W2 : World) (hB : IntOf W2 xb false (.slice (some ⟨bb, 0, none⟩) 1 nb) 1 nb B [bb]) (b0 : B 0 = 3) (W : World) (z x r : Nat) (Tx : TypeId) (zb zn : Nat) (D : Nat → Nat) (hc : Chg [] W2 W)
    (hz : Has W z (.cells #[.bool false, .slice none 0 0] 83 (0, 0))) (hr : Has W r (.cells #[.bool false, .slice none 0 0] 83 (0, 0))) (hx : Has W x (.cells #[.bool false, .slice (some ⟨zb, 0, none⟩) 2 zn] Tx (0, 0))) (hrow : Row W zb zn D)
    (hzn : 2 ≤ zn) (d0 : D 0 = 0) (d1 : D 1 = 2) (hne : W2.heap.size ≤ z ∧ W2.heap.size ≤ r ∧ z ≠ x ∧ z ≠ r ∧ r ≠ x) :
    Calls Tryz.prog 95 #[.pointer (some ⟨z, 0, none⟩), .pointer (some ⟨x, 0, none⟩), .pointer (some ⟨xb, 0, none⟩), .pointer (some ⟨r, 0, none⟩)] W (QRPost z r W) := by
  have hl := hB.lt
  have hB' := hB.chg hc (by simp) (by simp)
  obtain ⟨⟨Ty, hy⟩, ⟨y1, y2, y3, y4⟩, _⟩ := hB'
  rcases y4 with ⟨h, _, _⟩ | ⟨b', hb', hyr, _⟩
  · cases h
  · obtain rfl : bb = b' := by injection hb' with h1; injection h1 with h1; injection h1
    exact QuoRem_c z x xb r zb zn bb nb D B Tx Ty W hz hr hx hrow hzn d0 d1 hy hyr (by omega) b0 hne.2.2.1 (by omega) hne.2.2.2.1 hne.2.2.2.2 (by omega)

/-- what Lsh leaves: 2^65 -/
def LPost (z : Nat) (W : World) (e : Ending) (w' : World) : Prop :=
  ∃ T zb zn D, e = .returned (.pointer (some ⟨z, 0, none⟩)) ∧ Has w' z (.cells #[.bool false, .slice (some ⟨zb, 0, none⟩) 2 zn] T (0, 0)) ∧ Row w' zb zn D ∧ 2 ≤ zn ∧ D 0 = 0 ∧ D 1 = 2 ∧ Chg [z] W w' ∧ W.heap.size ≤ zb
theorem lsh_c (xa ba na : Nat) (A : Nat → Nat) (W2 : World) (hA : IntOf W2 xa false (.slice (some ⟨ba, 0, none⟩) 1 na) 1 na A [ba]) (a0 : A 0 = 1) (W : World) (z : Nat) (hz : Has W z (.cells #[.bool false, .slice none 0 0] 83 (0, 0))) (hc : Chg [] W2 W) (s : Int) (hs : s = 65) :
    Calls Tryz.prog 89 #[.pointer (some ⟨z, 0, none⟩), .pointer (some ⟨xa, 0, none⟩), .int .u64 s] W (LPost z W) := by
  subst hs
  have h := Lsh_walk z xa 0 0 1 na 1 1 (.slice none 0 0) _ (fun _ => 0) A [] [ba] false false W ⟨⟨83, hz⟩, Sl.nil _ _, by simp⟩ (hA.chg hc (by simp) (by simp)) (by omega) (by omega) (by omega) (by omega) (.inr (by simp)) (by simp)
  simp only [Int.natCast_add, Nat.mul_one] at h
  refine Calls.mono (P := Tryz.prog) h ?_
  rintro e w' ⟨neg, p, len, n, D, F, rfl, ⟨⟨T, hI⟩, hs, hn⟩, hcc, hF, hR⟩
  obtain ⟨rfl, hl, hD⟩ := hR.out
  have s0 : shD 1 1 1 A 0 = 0 := by simp [shD]
  have s1 : shD 1 1 1 A 1 = 2 := by simp [shD, shw, a0]
  have s2 : shD 1 1 1 A 2 = 0 := by simp [shD, a0]
  have hl2 : len = 2 := by rw [hl]; simp [nlen, s1, s2]
  subst hl2
  obtain ⟨y1, y2, y3, y4⟩ := hs
  rcases y4 with ⟨_, h0, _⟩ | ⟨zb, hzb, hrow, rfl⟩
  · omega
  · obtain rfl : p = some ⟨zb, 0, none⟩ := by injection hzb
    refine ⟨T, zb, n, D, rfl, hI, hrow, y2, by rw [hD 0 (by omega), s0], by rw [hD 1 (by omega), s1], hcc, ?_⟩
    rcases hF zb (by simp) with h | h
    · simp at h
    · exact h

set_option maxRecDepth 100000 in
set_option maxHeartbeats 8000000 in
theorem quotient_c (ob xa xb ba bb na nb : Nat) (A B : Nat → Nat) (w : World) (hA : IntOf w xa false (.slice (some ⟨ba, 0, none⟩) 1 na) 1 na A [ba]) (a0 : A 0 = 1) (hB : IntOf w xb false (.slice (some ⟨bb, 0, none⟩) 1 nb) 1 nb B [bb]) (b0 : B 0 = 3)
    (ho : Has w ob (.cells #[.pointer (some ⟨xa, 0, none⟩), .int .i64 0, .bool false, .pointer (some ⟨xb, 0, none⟩), .int .i64 0, .bool false] 41 (0, 0))) :
    Calls Tryz.prog 49 #[.slice (some ⟨ob, 0, none⟩) 2 2] w (QPost w) := by
  obtain ⟨W0, hW0⟩ : ∃ W0, w.alloc (.cells #[.pointer none, .int .i64 0, .bool false] 41) = W0 := ⟨_, rfl⟩
  have hc0 : Chg [] w W0 := by rw [← hW0]; exact (Chg.refl [] _).alloc _
  have ho0 := hc0.has ho (by simp)
  have g0 : Has W0 w.heap.size (.cells #[.pointer none, .int .i64 0, .bool false] 41 (0, 0)) := by rw [← hW0]; exact Has.new _ _
  have hs0 : w.heap.size < W0.heap.size := g0.lt
  have o0 : W0.cell? ⟨ob, 0, none⟩ = some (.pointer (some ⟨xa, 0, none⟩)) := by rw [ho0.cell]; rfl
  have o1 : W0.cell? ⟨ob, 1, none⟩ = some (.int .i64 0) := by rw [ho0.cell]; rfl
  have o2 : W0.cell? ⟨ob, 2, none⟩ = some (.bool false) := by rw [ho0.cell]; rfl
  have o3 : W0.cell? ⟨ob, 3, none⟩ = some (.pointer (some ⟨xb, 0, none⟩)) := by rw [ho0.cell]; rfl
  have o4 : W0.cell? ⟨ob, 4, none⟩ = some (.int .i64 0) := by rw [ho0.cell]; rfl
  have o5 : W0.cell? ⟨ob, 5, none⟩ = some (.bool false) := by rw [ho0.cell]; rfl
  have lo := ho0.lt
  have HA := Lib.hid hA; have HB := Lib.hid hB; have Ha0 := Lib.hid a0; have Hb0 := Lib.hid b0
  clear hA hB a0 b0
  have HW0 := Lib.hid hW0; clear hW0
  go_enter Tryz.func49, Tryz.ntmps49
  go_wp2_with fail
  rw [HW0.out]
  go_cut [4, 5] from 4 to 14 (fun t4 t5 wc => QMid xa xb w t4 t5 wc)
  case first =>
    go_region_held3 (fun w' => w'.cell? ⟨ob, 0, none⟩ = some (.pointer (some ⟨xa, 0, none⟩)) ∧ w'.cell? ⟨ob, 1, none⟩ = some (.int .i64 0) ∧ w'.cell? ⟨ob, 2, none⟩ = some (.bool false) ∧ w'.cell? ⟨ob, 3, none⟩ = some (.pointer (some ⟨xb, 0, none⟩)) ∧ w'.cell? ⟨ob, 4, none⟩ = some (.int .i64 0) ∧ w'.cell? ⟨ob, 5, none⟩ = some (.bool false)) (go_keep) (first | fail)
    all_goals go_wp2_with fail
    all_goals go_meet
    · exact ⟨_, _, _, rfl, rfl, rfl, by omega, by omega, ((Has.new _ _).alloc _).drew, (Has.at (by simp)).drew, ((g0.alloc _).alloc _).drew, ((hc0.alloc _).alloc _).drew⟩
    · exact ⟨_, _, _, rfl, rfl, rfl, by omega, by omega, (Has.at (by simp)).drew, ((Has.new _ _).alloc _).drew, ((g0.alloc _).alloc _).drew, ((hc0.alloc _).alloc _).drew⟩
  case rest =>
    obtain ⟨p4, p5, r, rfl, rfl, hr, hr4, hr5, h4, h5, hr0, hc⟩ := hcut
    subst hr
    generalize wc = W1 at *
    have hA1 := HA.out.chg hc (by simp) (by simp)
    have hB1 := HB.out.chg hc (by simp) (by simp)
    have c40 : W1.cell? ⟨p4, 0, none⟩ = some (.pointer (some ⟨xa, 0, none⟩)) := by rw [h4.cell]; rfl
    have c41 : W1.cell? ⟨p4, 1, none⟩ = some (.int .i64 0) := by rw [h4.cell]; rfl
    have c50 : W1.cell? ⟨p5, 0, none⟩ = some (.pointer (some ⟨xb, 0, none⟩)) := by rw [h5.cell]; rfl
    have c51 : W1.cell? ⟨p5, 1, none⟩ = some (.int .i64 0) := by rw [h5.cell]; rfl
    have hBB := hB1
    obtain ⟨⟨Tb, hbh⟩, _, _⟩ := hBB
    have hsgn : sgn false 1 = 1 := by simp [sgn]
    have hSg := Sign_walk xb 1 nb _ false Tb W1 hbh
    rw [hsgn] at hSg
    have hBL : ∀ W, Chg [] W1 W → Calls Tryz.prog 94 #[.pointer (some ⟨xb, 0, none⟩)] W fun e w' => e = .returned (.int .i64 2) ∧ W = w' := fun W hW => by
      have := BitLen_walk xb 0 nb bb B false W (hB1.chg hW (by simp) (by simp)) (by omega)
      rw [Hb0.out] at this
      exact this
    have hAL : ∀ W, Chg [] W1 W → Calls Tryz.prog 94 #[.pointer (some ⟨xa, 0, none⟩)] W fun e w' => e = .returned (.int .i64 1) ∧ W = w' := fun W hW => by
      have := BitLen_walk xa 0 na ba A false W (hA1.chg hW (by simp) (by simp)) (by omega)
      rw [Ha0.out] at this
      exact this
    have HBL := Lib.hid hBL; have HAL := Lib.hid hAL
    clear hBL hAL
    go_wp2_with (first | (go_at_call 58; (with_reducible refine hSg.mono ?_); rintro e w' ⟨rfl, rfl⟩))
    clear hSg
    go_cut [6] from 20 to 28 (fun t6 wc => t6 = .int .i64 65 ∧ ∃ n, wc = W1.drewN n)
    case first =>
      go_region_held3 (fun w' => w'.cell? ⟨p4, 0, none⟩ = some (.pointer (some ⟨xa, 0, none⟩)) ∧ w'.cell? ⟨p5, 0, none⟩ = some (.pointer (some ⟨xb, 0, none⟩))) (go_keep) (first | (go_at_call 94; (with_reducible refine (HBL.out _ ((Chg.refl [] W1).drew)).mono ?_); rintro e w' ⟨rfl, rfl⟩) | (go_at_call 94; (with_reducible refine (HAL.out _ ((Chg.refl [] W1).drew)).mono ?_); rintro e w' ⟨rfl, rfl⟩))
      all_goals go_wp2_with fail
      all_goals go_meet
      all_goals exact ⟨by rw [show max 0 (IntKind.i64.wrap (IntKind.i64.wrap 1 + 64)) = 65 by decide], 1, rfl⟩
    case rest =>
      obtain ⟨rfl, n, hn⟩ := hcut
      have hc2 : Chg [] W1 wc := by rw [hn]; exact (Chg.refl [] W1).drewN n
      clear hn
      generalize wc = W2 at *
      have hA2 := hA1.chg hc2 (by simp) (by simp)
      have hB2 := hB1.chg hc2 (by simp) (by simp)
      have h42 := hc2.has h4 (by simp)
      have h52 := hc2.has h5 (by simp)
      have hr2 := hc2.has hr0 (by simp)
      have d40 : W2.cell? ⟨p4, 0, none⟩ = some (.pointer (some ⟨xa, 0, none⟩)) := by rw [h42.cell]; rfl
      have d50 : W2.cell? ⟨p5, 0, none⟩ = some (.pointer (some ⟨xb, 0, none⟩)) := by rw [h52.cell]; rfl
      have k4 := h42.lt
      have k5 := h52.lt
      have hLs := fun W z hz hc => lsh_c xa ba na A W2 hA2 Ha0.out W z hz hc
      clear c40 c41 c50 c51 HBL HAL hB1 hA1 h4 h5 hr0
      have hQr := fun W z x r Tx zb zn D => qr_c xb bb nb B W2 hB2 Hb0.out W z x r Tx zb zn D
      have HLs := Lib.hid hLs
      have HQr := Lib.hid hQr
      clear hLs hQr
      go_wp2_with fail
      go_cut [7, 8] from 29 to 42 (fun t7 t8 wc => QMid2 p4 p5 w.heap.size xa xb w W2 t7 t8 wc)
      case first =>
        go_region_held3 (fun w' => w'.cell? ⟨p4, 0, none⟩ = some (.pointer (some ⟨xa, 0, none⟩)) ∧ w'.cell? ⟨p5, 0, none⟩ = some (.pointer (some ⟨xb, 0, none⟩))) (first | exact ⟨e41, e51⟩ | exact ⟨e40, e50⟩ | exact ⟨cel1 k4w e40, cel1 k5w e50⟩ | exact ⟨cel2 k4w e40, cel2 k5w e50⟩ | exact ⟨cel3 k4 d40, cel3 k5 d50⟩ | go_keep)
          (first
            | (go_at_call 89; (with_reducible refine (HLs.out _ _ ?_ ?_ _ (by decide)).mono ?_);
               (refine Has.drew ?_; first | (refine Has.at ?_; solve | rfl | simp) | (refine Has.alloc (Has.at ?_) _; solve | rfl | simp) | (refine Has.alloc (Has.alloc (Has.at ?_) _) _; solve | rfl | simp));
               (first | exact ((Chg.refl [] W2).alloc _).drew | exact (((Chg.refl [] W2).alloc _).alloc _).drew | exact ((((Chg.refl [] W2).alloc _).alloc _).alloc _).drew);
               rintro e w1 ⟨T1, zb1, zn1, D1, rfl, hx1, hrow1, hzn1, d10, d11, hc1, hzb1⟩;
               have hs1 := hc1.size;
               simp at hs1;
               have hcW1 : Chg [] W2 w1 := (by
                 refine Chg.comp (R := []) (S := []) (w' := World.drew _) ?_ hc1 (by simp) (fun x hx hl => by simp at hx; omega)
                 first | exact ((Chg.refl [] W2).alloc _).drew | exact (((Chg.refl [] W2).alloc _).alloc _).drew | exact ((((Chg.refl [] W2).alloc _).alloc _).alloc _).drew);
               (first | have hq := zeroes3 hc1 | have hq := zeroes2 hc1 | have hq := zeroes1 hc1);
               have h4w := hcW1.has h42 (by simp);
               have h5w := hcW1.has h52 (by simp);
               have k4w := h4w.lt;
               have k5w := h5w.lt;
               have e40 : w1.cell? ⟨p4, 0, none⟩ = some (.pointer (some ⟨xa, 0, none⟩)) := (by rw [h4w.cell]; rfl);
               have e50 : w1.cell? ⟨p5, 0, none⟩ = some (.pointer (some ⟨xb, 0, none⟩)) := (by rw [h5w.cell]; rfl))
            | (go_at_call 95; (with_reducible refine (HQr.out _ _ _ _ T1 zb1 zn1 D1 ?_ ?_ ?_ ?_ ?_ hzn1 d10 d11 ?_).mono ?_);
               (first | exact hcW1 | exact hcW1.alloc _ | exact (hcW1.alloc _).alloc _);
               (first | (refine Has.at ?_; solve | rfl | simp) | (refine Has.alloc (Has.at ?_) _; solve | rfl | simp) | (refine hq.1 ?_; omega) | (refine hq.2.1 ?_; omega) | (refine hq.2.2 ?_; omega) | (refine Has.alloc (hq.1 ?_) _; omega) | (refine Has.alloc (hq.2.1 ?_) _; omega) | (refine Has.alloc (hq.2.2 ?_) _; omega) | (refine Has.alloc (Has.alloc (hq.1 ?_) _) _; omega));
               (first | (refine Has.at ?_; solve | rfl | simp) | (refine Has.alloc (Has.at ?_) _; solve | rfl | simp) | (refine hq.1 ?_; omega) | (refine hq.2.1 ?_; omega) | (refine hq.2.2 ?_; omega) | (refine Has.alloc (hq.1 ?_) _; omega) | (refine Has.alloc (hq.2.1 ?_) _; omega) | (refine Has.alloc (hq.2.2 ?_) _; omega) | (refine Has.alloc (Has.alloc (hq.1 ?_) _) _; omega));
               (first | exact hx1 | exact hx1.alloc _ | exact (hx1.alloc _).alloc _);
               (first | exact hrow1 | exact hrow1.alloc _ | exact (hrow1.alloc _).alloc _);
               (refine ⟨?_, ?_, ?_, ?_, ?_⟩ <;> first | omega | (simp; omega) | (simp; done));
               rintro e w2 ⟨zb2, zn2, D2, rb, rn, rfl, hI2, hD2, hzb2, hrr2, hc22⟩;
               (try simp at hzb2);
               have hs2 := hc22.size;
               (try simp at hs2);
               have hcW2 : Chg [] W2 w2 := (by
                 first
                 | exact Chg.comp (R := []) hcW1 hc22 (by simp) (fun x hx hl => by simp at hx; omega)
                 | exact Chg.comp (R := []) (hcW1.alloc _) hc22 (by simp) (fun x hx hl => by simp at hx; omega)
                 | exact Chg.comp (R := []) ((hcW1.alloc _).alloc _) hc22 (by simp) (fun x hx hl => by simp at hx; omega));
               have h4x := hcW2.has h42 (by simp);
               have h5x := hcW2.has h52 (by simp);
               have e41 : w2.cell? ⟨p4, 0, none⟩ = some (.pointer (some ⟨xa, 0, none⟩)) := (by rw [h4x.cell]; rfl);
               have e51 : w2.cell? ⟨p5, 0, none⟩ = some (.pointer (some ⟨xb, 0, none⟩)) := (by rw [h5x.cell]; rfl)))
        all_goals go_wp2_with fail
        all_goals go_meet
        all_goals exact ⟨_, zb2, zn2, D2, _, rb, rn, rfl, rfl, hI2, hD2, by first | omega | (simp; omega) | (simp; done), by omega, hrr2, hcW2⟩
      case rest =>
        obtain ⟨q, zb, zn, D, rr, rb, rn, rfl, rfl, hIq, hD, hq1, hzb, hrr, hc3⟩ := hcut
        clear HLs HQr d40 d50
        generalize wc = W3 at *
        have h43 := hc3.has h42 (by simp)
        have h53 := hc3.has h52 (by simp)
        have hr3 := hc3.has hr2 (by simp)
        have m1 : W3.cell? ⟨p4, 1, none⟩ = some (.int .i64 0) := by rw [h43.cell]; rfl
        have m2 : W3.cell? ⟨p5, 1, none⟩ = some (.int .i64 0) := by rw [h53.cell]; rfl
        have m3 : W3.cell? ⟨w.heap.size, 0, none⟩ = some (.pointer none) := by rw [hr3.cell]; rfl
        have m4 : W3.cell? ⟨w.heap.size, 1, none⟩ = some (.int .i64 0) := by rw [hr3.cell]; rfl
        have m5 : W3.cell? ⟨w.heap.size, 2, none⟩ = some (.bool false) := by rw [hr3.cell]; rfl
        have f0 := hr3.free 0
        have f1 := hr3.free 1
        have f2 := hr3.free 2
        have hSr := Sign_walk rr 1 rn (some ⟨rb, 0, none⟩) false 83 W3.drew hrr.drew
        rw [hsgn] at hSr
        have j4 : w.heap.size ≠ p4 := by omega
        have j5 : w.heap.size ≠ p5 := by omega
        have hrw : w.heap.size < W2.heap.size := by omega
        go_wp2_with fail
        go_region_held3 (fun w' => w'.cell? ⟨p4, 1, none⟩ = some (.int .i64 0) ∧ w'.cell? ⟨p5, 1, none⟩ = some (.int .i64 0)) (go_keep) (first | (go_at_call 58; (with_reducible refine hSr.mono ?_); rintro e w' ⟨rfl, rfl⟩))
        all_goals go_wp2_with fail
        have ew : IntKind.i64.wrap (IntKind.i64.wrap 0 - 65) = -65 := by decide
        rw [ew]
        refine bodyPost_ret (v := .tuple #[.agg #[.pointer (some ⟨q, 0, none⟩), .int .i64 (-65), .bool true], .int .i64 0]) ?_ rfl ?_
        · have hq := (((hr3.setSame 0 (.pointer (some ⟨q, 0, none⟩))).setSame 1 (.int .i64 (-65))).setSame 2 (.bool true)).drew
          have hl := run_loadVar_row (P := Tryz.prog) _ w.heap.size 41 41 _ (0, 0) _ hq Tryz.underlying41 rfl (by kernel_rfl)
          simp [results, Tryz.f49, asAddr]
          exact (congrArg (fun r => Result.andThen r fun a w' => Result.ok (Value.tuple #[a, Value.int IntKind.i64 0]) w') hl).trans rfl
        · have hst : ∀ x : Nat, x = w.heap.size → w.heap.size ≤ x := fun x h => by omega
          have hC1 : Chg [] w W3 := (hc.trans hc2).trans hc3
          have hC2 := ((hC1.setCell (a := ⟨w.heap.size, 0, none⟩) (.inr (hst _ rfl)) (.pointer (some ⟨q, 0, none⟩))).setCell (a := ⟨w.heap.size, 1, none⟩) (.inr (hst _ rfl)) (.int .i64 (-65))).setCell (a := ⟨w.heap.size, 2, none⟩) (.inr (hst _ rfl)) (.bool true)
          have hC3 : Chg [w.heap.size] W3 (((W3.setCell ⟨w.heap.size, 0, none⟩ (.pointer (some ⟨q, 0, none⟩))).setCell ⟨w.heap.size, 1, none⟩ (.int .i64 (-65))).setCell ⟨w.heap.size, 2, none⟩ (.bool true)).drew :=
            ((((Chg.refl _ W3).setCell (.inl (by simp)) _).setCell (.inl (by simp)) _).setCell (.inl (by simp)) _).drew
          exact ⟨q, _, zn, D, _, rfl, hIq.chg hC3 (by simp; omega) (by simp; omega), hD, hC2.drew⟩
end Go.Proofs
