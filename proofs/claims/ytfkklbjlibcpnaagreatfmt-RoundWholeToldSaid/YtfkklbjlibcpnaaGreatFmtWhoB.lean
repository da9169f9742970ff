/- Proved here: the walk of plumblaw4.RoundWhole, given alive, for every input that the statements name. -/
import Derived.Test.YtfkklbjlibcpnaaGreatFmtWhoA
import Derived.Test.YtfkklbjlibcpnaaGreatFmtFromA
import Derived.Deep.DeepCutAuto
namespace Go.Proofs
open Go Go.RowKit Go.PB Go.WL Ieee

theorem ti_down (n d : Int) (h : IsDown n d) : ∃ V : Int, TI .even (IntKind.u64.wrap d).toNat = (V, true) ∧ V ≤ n ∧ (n < 9007199254740992 → -9007199254740992 < n → V = n) := by
  obtain ⟨V, v1, v2, v3, v4, v5, v6⟩ := h
  refine ⟨V, ?_, v5, v6⟩
  rw [TI_is _ _ v1, whole_exact _ _ v1 V v2, if_pos ⟨v3, v4⟩]

def Tru (w : World) (e : Ending) (w' : World) : Prop := e = .returned (.bool true) ∧ Chg [] w w'

set_option maxRecDepth 100000 in
set_option maxHeartbeats 8000000 in
theorem whole_walk (n b : Int) (hn1 : -9223372036854775808 ≤ n) (hn2 : n ≤ 9223372036854775807) (hb1 : -9223372036854775808 ≤ b) (hb2 : b ≤ 9223372036854775807) (w : World)
    (hAl : ∀ W, Calls Tryz.prog 8 #[] W fun e w' => e = .returned (.bool true) ∧ Chg [] W w') :
    Calls Tryz.prog 3 #[.int .i64 n, .int .i64 b] w (Tru w) := by
  have hF := FromInt1_walk n hn1 hn2 w
  have HAl := Lib.hid hAl
  clear hAl
  go_enter Tryz.func3, Tryz.ntmps3
  go_upto_region 3 with (first | (go_at_call 6; (with_reducible refine hF.mono ?_); clear hF; rintro e w1 ⟨d, rfl, hc1, hD⟩; obtain ⟨V, hV, hVn, hV2⟩ := ti_down n d hD; have hT := ToInt0_walk d _ rfl w1; unfold TIPost at hT; rw [hV] at hT) | (go_at_call 7; (with_reducible refine hT.mono ?_); clear hT; rintro e w2 ⟨k, rfl, rfl⟩))
  go_cut [63] from 34 to 63 (fun t63 wc => t63 = .bool false ∧ Chg [] w wc)
  case first =>
    have g0 : (V > n) = False := by simp; omega
    have g0' : (n < V) = False := by simp; omega
    have hcd := hc1.drewN k
    have ha := HAl.out (w1.drewN k)
    have H1 := Lib.hid hn1; have H2 := Lib.hid hn2; have H3 := Lib.hid hb1; have H4 := Lib.hid hb2; have H5 := Lib.hid hVn
    clear hn1 hn2 hb1 hb2 hVn hV hD
    by_cases ga : n < 9007199254740992
    · have ga' : (n < 9007199254740992) = True := by simp [ga]
      by_cases gb : -9007199254740992 < n
      · have gb' : (-9007199254740992 < n) = True := by simp [gb]
        obtain rfl := hV2 ga gb
        clear ga gb hV2
        go_wp2_with (first | (go_at_call 8; (with_reducible refine ha.mono ?_); clear ha; rintro e w3 ⟨rfl, hc3⟩))
        go_meet
        exact ⟨by simp, hcd.trans hc3⟩
      · have gb' : (-9007199254740992 < n) = False := by simp [gb]
        clear ga gb hV2
        go_wp2_with (first | (go_at_call 8; (with_reducible refine ha.mono ?_); clear ha; rintro e w3 ⟨rfl, hc3⟩))
        go_meet
        exact ⟨by simp, hcd.trans hc3⟩
    · have ga' : (n < 9007199254740992) = False := by simp [ga]
      clear ga hV2
      go_wp2_with (first | (go_at_call 8; (with_reducible refine ha.mono ?_); clear ha; rintro e w3 ⟨rfl, hc3⟩))
      go_meet
      exact ⟨by simp, hcd.trans hc3⟩
  case rest =>
    obtain ⟨rfl, hc⟩ := hcut
    generalize wc = W1 at *
    clear hV hVn hV2 hD hc1
    obtain ⟨x, hx⟩ : ∃ x, (IntKind.u64.wrap b).toNat = x := ⟨_, rfl⟩
    have hcr := cls_real b hb1 hb2
    rw [hx] at hcr
    have hFl := fun W => Float_walk b x hx W
    have h1 := fun W => ToInt1_walk b x hx W
    have h2 := fun W => ToInt2_walk b x hx W
    have h3 := fun W => ToInt3_walk b x hx W
    have h0 := fun W => ToInt0_walk b x hx W
    have hC := fun W => Class_walk b _ _ _ (i64_and2047 _) (i64_andfrac _) rfl W
    have hbl := b_law x
    have hn1' := TI_not .down x
    have hn2' := TI_not .up x
    have hn3' := TI_not .zero x
    have hn0' := TI_not .even x
    have ho1 := TI_off .down x
    have ho2 := TI_off .up x
    unfold TIPost at h1 h2 h3 h0
    obtain ⟨⟨p, dn⟩, hp⟩ : ∃ t, TI .down x = t := ⟨_, rfl⟩
    obtain ⟨⟨q, up⟩, hq⟩ : ∃ t, TI .up x = t := ⟨_, rfl⟩
    obtain ⟨⟨z, zr⟩, hz⟩ : ∃ t, TI .zero x = t := ⟨_, rfl⟩
    obtain ⟨⟨m, nr⟩, hm⟩ : ∃ t, TI .even x = t := ⟨_, rfl⟩
    rw [hp] at h1 hbl hn1' ho1
    rw [hq] at h2 hbl hn2' ho2
    rw [hz] at h3 hbl hn3'
    rw [hm] at h0 hbl hn0'
    obtain ⟨c, hcc⟩ : ∃ c, clsOf (b / 4503599627370496 % 2048) (b % 4503599627370496) 2047 = c := ⟨_, rfl⟩
    rw [hcc] at hcr hC
    simp only [Prod.mk.injEq] at hn1' hn2' hn3' hn0'
    simp only at h1 h2 h3 h0 hbl ho1 ho2
    have K1 := Lib.hid h1; have K2 := Lib.hid h2; have K3 := Lib.hid h3; have K0 := Lib.hid h0; have KC := Lib.hid hC; have KF := Lib.hid hFl
    clear h1 h2 h3 h0 hC hFl hp hq hz hm hcc hx hb1 hb2 hn1 hn2
    have KR : (¬ Real (double.read x) ∧ (c > 2) = True ∧ (2 < c) = True ∧ p = 0 ∧ dn = false ∧ q = 0 ∧ up = false ∧ z = 0 ∧ zr = false ∧ m = 0 ∧ nr = false) ∨
        (((c > 2) = False ∧ (2 < c) = False) ∧ ((p = 0 ∧ dn = false) ∨ (dn = true ∧ q = 0 ∧ up = false) ∨ (dn = true ∧ up = true ∧ zr = true ∧ nr = true ∧ BLaw x p q z m))) := by
      by_cases hR : Real (double.read x)
      · right
        have : c ≤ 2 := hcr.2 hR
        refine ⟨⟨by simp; omega, by simp; omega⟩, ?_⟩
        cases dn
        · exact .inl ⟨ho1 rfl, rfl⟩
        · cases up
          · exact .inr (.inl ⟨rfl, ho2 rfl, rfl⟩)
          · obtain ⟨a1, a2, a3⟩ := hbl hR rfl rfl
            exact .inr (.inr ⟨rfl, rfl, a1, a2, a3⟩)
      · left
        have : ¬ c ≤ 2 := fun h => hR (hcr.1 h)
        have a1 := hn1' hR
        have a2 := hn2' hR
        have a3 := hn3' hR
        have a4 := hn0' hR
        exact ⟨hR, by simp; omega, by simp; omega, a1.1, a1.2, a2.1, a2.2, a3.1, a3.2, a4.1, a4.2⟩
    clear hbl hn1' hn2' hn3' hn0' ho1 ho2 hcr
    rcases KR with ⟨_, c1, c2, rfl, rfl, rfl, rfl, rfl, rfl, rfl, rfl⟩ | ⟨⟨c1, c2⟩, ⟨rfl, rfl⟩ | ⟨rfl, rfl, rfl⟩ | ⟨rfl, rfl, rfl, rfl, hB⟩⟩
    · go_wp2_with (first | (go_at_call 7; (with_reducible refine (K1.out _).mono ?_); rintro e w2 ⟨k1, rfl, rfl⟩) | (go_at_call 7; (with_reducible refine (K2.out _).mono ?_); rintro e w2 ⟨k2, rfl, rfl⟩) | (go_at_call 7; (with_reducible refine (K3.out _).mono ?_); rintro e w2 ⟨k3, rfl, rfl⟩) | (go_at_call 7; (with_reducible refine (K0.out _).mono ?_); rintro e w2 ⟨k4, rfl, rfl⟩) | (go_at_call 9; (with_reducible refine (KC.out _).mono ?_); rintro e w2 ⟨rfl, rfl⟩) | (go_at_call 10; (with_reducible refine (KF.out _).mono ?_); rintro e w2 ⟨rfl, rfl⟩))
      go_ret
      exact ⟨rfl, hc.drewN _⟩
    · go_wp2_with (first | (go_at_call 7; (with_reducible refine (K1.out _).mono ?_); rintro e w2 ⟨k1, rfl, rfl⟩) | (go_at_call 7; (with_reducible refine (K2.out _).mono ?_); rintro e w2 ⟨k2, rfl, rfl⟩) | (go_at_call 7; (with_reducible refine (K3.out _).mono ?_); rintro e w2 ⟨k3, rfl, rfl⟩) | (go_at_call 7; (with_reducible refine (K0.out _).mono ?_); rintro e w2 ⟨k4, rfl, rfl⟩) | (go_at_call 9; (with_reducible refine (KC.out _).mono ?_); rintro e w2 ⟨rfl, rfl⟩) | (go_at_call 10; (with_reducible refine (KF.out _).mono ?_); rintro e w2 ⟨rfl, rfl⟩))
      all_goals go_ret
      all_goals exact ⟨by simp, hc.drewN _⟩
    · go_wp2_with (first | (go_at_call 7; (with_reducible refine (K1.out _).mono ?_); rintro e w2 ⟨k1, rfl, rfl⟩) | (go_at_call 7; (with_reducible refine (K2.out _).mono ?_); rintro e w2 ⟨k2, rfl, rfl⟩) | (go_at_call 7; (with_reducible refine (K3.out _).mono ?_); rintro e w2 ⟨k3, rfl, rfl⟩) | (go_at_call 7; (with_reducible refine (K0.out _).mono ?_); rintro e w2 ⟨k4, rfl, rfl⟩) | (go_at_call 9; (with_reducible refine (KC.out _).mono ?_); rintro e w2 ⟨rfl, rfl⟩) | (go_at_call 10; (with_reducible refine (KF.out _).mono ?_); rintro e w2 ⟨rfl, rfl⟩))
      all_goals go_ret
      all_goals exact ⟨by simp, hc.drewN _⟩
    · obtain ⟨b1, b2, b3, b4, b5, b6⟩ := hB
      have hu : undef = Value.tuple #[] := rfl
      rcases b6 with rfl | hqp
      · have w0 : IntKind.i64.wrap (q - q) = 0 := by rw [Int.sub_self]; decide
        have w1' : IntKind.i64.wrap 0 = 0 := by decide
        have b7 := b5 rfl
        have b4' : m = q := by rcases b4 with h | h <;> exact h
        subst b4'
        clear b4 b5
        obtain ⟨k1, hk1⟩ : ∃ k1, (FloatKind.f64.format.order x 0 == some .gt || FloatKind.f64.format.order x 0 == some .eq) = k1 := ⟨_, rfl⟩
        rcases b3 with ⟨rfl, b3⟩ | ⟨rfl, b3⟩
        · clear hk1 k1
          go_wp2_with (first | (go_at_call 7; (with_reducible refine (K1.out _).mono ?_); rintro e w2 ⟨k1, rfl, rfl⟩) | (go_at_call 7; (with_reducible refine (K2.out _).mono ?_); rintro e w2 ⟨k2, rfl, rfl⟩) | (go_at_call 7; (with_reducible refine (K3.out _).mono ?_); rintro e w2 ⟨k3, rfl, rfl⟩) | (go_at_call 7; (with_reducible refine (K0.out _).mono ?_); rintro e w2 ⟨k4, rfl, rfl⟩) | (go_at_call 9; (with_reducible refine (KC.out _).mono ?_); rintro e w2 ⟨rfl, rfl⟩) | (go_at_call 10; (with_reducible refine (KF.out _).mono ?_); rintro e w2 ⟨rfl, rfl⟩))
          all_goals go_ret
          all_goals exact ⟨by simp, hc.drewN _⟩
        · cases k1
          all_goals
            go_wp2_with (first | (go_at_call 7; (with_reducible refine (K1.out _).mono ?_); rintro e w2 ⟨k1, rfl, rfl⟩) | (go_at_call 7; (with_reducible refine (K2.out _).mono ?_); rintro e w2 ⟨k2, rfl, rfl⟩) | (go_at_call 7; (with_reducible refine (K3.out _).mono ?_); rintro e w2 ⟨k3, rfl, rfl⟩) | (go_at_call 7; (with_reducible refine (K0.out _).mono ?_); rintro e w2 ⟨k4, rfl, rfl⟩) | (go_at_call 9; (with_reducible refine (KC.out _).mono ?_); rintro e w2 ⟨rfl, rfl⟩) | (go_at_call 10; (with_reducible refine (KF.out _).mono ?_); rintro e w2 ⟨rfl, rfl⟩))
            all_goals go_ret
            all_goals exact ⟨by simp, hc.drewN _⟩
      · have w0 : IntKind.i64.wrap (q - p) = 1 := by rw [hqp, show p + 1 - p = 1 by omega]; decide
        have g1 : (q = p) = False := by simp; omega
        have g2 : (p ≤ q) = True := by simp; omega
        have g3 : (p = q) = False := by simp; omega
        have f1 : (q == p) = false := by simp; omega
        have f2 : (q != p) = true := by simp; omega
        have f3 : (p == q) = false := by simp; omega
        have f4 : (p != q) = true := by simp; omega
        clear hqp b5
        rcases b3 with ⟨rfl, b3⟩ | ⟨rfl, b3⟩
        all_goals
          rcases b4 with rfl | rfl
          all_goals
            go_wp2_with (first | (go_at_call 7; (with_reducible refine (K1.out _).mono ?_); rintro e w2 ⟨k1, rfl, rfl⟩) | (go_at_call 7; (with_reducible refine (K2.out _).mono ?_); rintro e w2 ⟨k2, rfl, rfl⟩) | (go_at_call 7; (with_reducible refine (K3.out _).mono ?_); rintro e w2 ⟨k3, rfl, rfl⟩) | (go_at_call 7; (with_reducible refine (K0.out _).mono ?_); rintro e w2 ⟨k4, rfl, rfl⟩) | (go_at_call 9; (with_reducible refine (KC.out _).mono ?_); rintro e w2 ⟨rfl, rfl⟩) | (go_at_call 10; (with_reducible refine (KF.out _).mono ?_); rintro e w2 ⟨rfl, rfl⟩))
            all_goals go_ret
            all_goals exact ⟨by simp, hc.drewN _⟩
end Go.Proofs
