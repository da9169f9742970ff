/- Proved here: walks of nat.or, for every input that the statements name. -/
import Derived.Test.YtfkklbjlibcpnaaGreatFmtNatA
namespace Go.Proofs
open Go Go.RowKit Go.PB

theorem copy0 (w : World) (dp sp : Option Addr) (dc sc : Nat) (ty : TypeId) : (Builtin.copy_ #[81, 81] ty #[.slice dp 0 dc, .slice sp 0 sc]).run Tryz.prog w = .ok (.int .i64 0) w :=
  copy_none (P := Tryz.prog) Tryz.underlying81 sizeW w (by simp) ty

set_option maxRecDepth 100000 in
set_option maxHeartbeats 1000000 in
/-- or, where x is 0 -/
theorem or_zero_walk (z : Value) (zl zn : Nat) (Z : Nat → Nat) (Fz : List Nat) (px : Option Addr) (xc : Nat) (y : Value) (n yn : Nat) (Y : Nat → Nat) (Fy : List Nat) (w : World)
    (hz : Sl w z zl zn Z Fz) (hy : Sl w y n yn Y Fy) (h1 : 1 ≤ n) (hn : n ≤ 1000000) (hdis : ∀ b, b ∈ Fy → b ∉ Fz) :
    Calls Tryz.prog 181 #[z, .slice px 0 xc, y] w (NPost Fz w fun len D => len = nlen Y n ∧ ∀ j, j < n → D j = Y j) := by
  obtain ⟨hd, hln, hmx, hs⟩ := hy
  rcases hs with ⟨_, h0, _⟩ | ⟨yb, rfl, hrow, rfl⟩
  · omega
  have Hd := Lib.hid hd; clear hd
  have Hmx := Lib.hid hmx; clear hmx
  have hn1 : (0 : Int) < n := by omega
  go_enter Tryz.func181, Tryz.ntmps181
  go_wp2_with fail
  refine (make_walk z zl zn Z Fz w hz n h1 hn).mono ?_
  rintro e w1 ⟨b', n', D', rfl, hr, hle, hmx1, hd1, hc1, hF⟩
  have hr0 := hc1.row hrow (by simp)
  have hbz : b' ≠ yb := by
    rintro rfl
    rcases hF with rfl | h
    · exact hdis b' (by simp) (by simp)
    · have := hrow.lt; omega
  have Hd1 := Lib.hid hd1; clear hd1
  have Hmx1 := Lib.hid hmx1; clear hmx1
  go_wp2
  go_loopw [10] (fun i wr => i = .int .i64 0 ∧ wr = w1) (fun i _ => 0)
  case atStart => exact ⟨rfl, rfl⟩
  case round =>
    obtain ⟨rfl, rfl⟩ := hrel
    obtain ⟨w2, hcp, hr2, hc2⟩ := copy_words (w := wr.drew) (P := Tryz.prog) (dT := 81) (sT := 81) (dLen := n) (dCap := n') (sLen := n) (sCap := yn) (xo := 0) (zo := 0) (m := n) Tryz.underlying81 sizeW hr (by simp) (fun j hj => by rw [Nat.zero_add]; exact hr0.drew.cell (by omega)) (by omega)
    go_wp2
    go_region
    all_goals go_wp2_with fail
    refine (norm_walk b' 0 n n' Y w2 (by omega) (by omega) (fun k hk => by rw [Nat.zero_add, hr2.cell (by omega)]; simp [lay, hk])).mono ?_
    rintro e w5 ⟨rfl, rfl⟩
    go_wp2
    go_ret
    refine ⟨_, _, n', _, [b'], rfl, ⟨?_, Nat.le_trans (nlen_le _ _) hle, Hmx1.out, .inr ⟨b', rfl, hr2, rfl⟩⟩, ?_, ?_, Lib.hid ⟨rfl, fun j hj => by simp [lay, hj]⟩⟩
    · intro j hj
      unfold lay
      split
      · exact Hd.out _ (by omega)
      · exact Hd1.out j hj
    · refine hc1.drew.comp hc2 (by simp) ?_
      intro k hk hk1
      obtain rfl : k = b' := by simpa using hk
      rcases hF with rfl | rfl
      · simp
      · omega
    · intro k hk
      obtain rfl : k = b' := by simpa using hk
      rcases hF with rfl | rfl
      · simp
      · right; omega

/-- or, word by word; X has m words, Y n -/
def orD (n : Nat) (X Y : Nat → Nat) : Nat → Nat := fun j => if j < n then X j ||| Y j else X j

set_option maxRecDepth 100000 in
set_option maxHeartbeats 2000000 in
/-- or, where x is not shorter than y, and y not 0 -/
theorem or_walk (z : Value) (zl zn : Nat) (Z : Nat → Nat) (Fz : List Nat) (x : Value) (m xn : Nat) (X : Nat → Nat) (Fx : List Nat) (y : Value) (n yn : Nat) (Y : Nat → Nat) (Fy : List Nat) (w : World)
    (hz : Sl w z zl zn Z Fz) (hx : Sl w x m xn X Fx) (hy : Sl w y n yn Y Fy) (h1 : 1 ≤ n) (hnm : n ≤ m) (hm : m ≤ 1000000) (hdis : ∀ b, b ∈ Fy → b ∉ Fz) :
    Calls Tryz.prog 181 #[z, x, y] w (NPost Fz w fun len D => len = nlen (orD n X Y) m ∧ ∀ j, j < m → D j = orD n X Y j) := by
  obtain ⟨hd, hln, hmx, hs⟩ := hy
  obtain ⟨hxd, hxln, hxmx, hxs⟩ := hx
  rcases hs with ⟨_, h0, _⟩ | ⟨yb, rfl, hrow, rfl⟩
  · omega
  rcases hxs with ⟨_, h0, _⟩ | ⟨xb, rfl, hxrow, rfl⟩
  · omega
  have Hd := Lib.hid hd; clear hd
  have Hxd := Lib.hid hxd; clear hxd
  clear hmx hxmx
  have hn1 : ¬ (m : Int) < n := by omega
  go_enter Tryz.func181, Tryz.ntmps181
  go_wp2_with fail
  refine (make_walk z zl zn Z Fz w hz m (by omega) hm).mono ?_
  rintro e w1 ⟨b', n', D', rfl, hr, hle, hmx1, hd1, hc1, hF⟩
  have hr0 := hc1.row hrow (by simp)
  have hx0 := hc1.row hxrow (by simp)
  have hbz : b' ≠ yb := by
    rintro rfl
    rcases hF with rfl | h
    · exact hdis b' (by simp) (by simp)
    · have := hrow.lt; omega
  have Hd1 := Lib.hid hd1; clear hd1
  have Hmx1 := Lib.hid hmx1; clear hmx1
  go_wp2
  go_loopw [10] (fun i wr => ∃ (k : Nat) (E : Nat → Nat), k ≤ n ∧ i = .int .i64 k ∧ Chg [b'] w1 wr ∧ Row wr b' n' E ∧ Row wr yb yn Y ∧
      (∀ j, k ≤ j → j < m → wr.cell? ⟨xb, j, none⟩ = some (.int .u64 (X j))) ∧ (∀ j, j < n' → E j = if j < k then X j ||| Y j else D' j)) (fun i _ => n - (intOf i).toNat)
  case atStart => exact ⟨0, D', by omega, rfl, Chg.refl _ _, hr, hr0, fun j _ hj => hx0.cell (by omega), fun j _ => by simp⟩
  case round =>
    obtain ⟨k, E, hk, rfl, hchg, hrE, hrY, hxs, hE⟩ := hrel
    have HE := Lib.hid hE; clear hE
    by_cases hkn : k < n
    · have c1 := hxs k (by omega) (by omega)
      have c2 := hrY.cell (k := k) (by omega)
      have c3 := hrE.cell (k := k) (by omega)
      have f3 := hrE.free k
      have b1 := Hxd.out k (by omega)
      have b2 := Hd.out k (by omega)
      have e1 := u64_or_nat (X k) (Y k) b1 b2
      have B1 := Lib.hid b1; clear b1
      have B2 := Lib.hid b2; clear b2
      have Hxs := Lib.hid hxs; clear hxs
      go_wp2
      go_region
      all_goals go_wp2
      go_roundw
      case rel =>
        refine ⟨k + 1, (fun j => if j = k then X k ||| Y k else E j), by omega, rfl, (hchg.setCell (.inl (by simp)) _).drew, (hrE.set _ _).drew, (hrY.setOther (Ne.symm hbz) _).drew, fun j hj1 hj2 => ?_, fun j hj => ?_⟩
        · have hne' : (⟨b', k, none⟩ : Addr) ≠ ⟨xb, j, none⟩ := by simp only [ne_eq, Addr.mk.injEq, and_true, not_and]; omega
          rw [World.cell?_drew, World.cell?_setCell_other _ _ _ _ hne']
          exact Hxs.out j (by omega) hj2
        · have := HE.out j hj
          show (if j = k then X k ||| Y k else E j) = _
          by_cases e : j = k
          · subst e; rw [if_pos rfl, if_pos (by omega)]
          · rw [if_neg e, this]; congr 1; simp only [eq_iff_iff]; omega
      case measure => simp [intOf]; omega
    · obtain rfl : k = n := by omega
      have key : ∃ w2, ((∀ ty, (Builtin.copy_ #[81, 81] ty #[.slice (some ⟨b', k, none⟩) (m - k) (n' - k), .slice (some ⟨xb, k, none⟩) (m - k) (xn - k)]).run Tryz.prog wr.drew = .ok (.int .i64 (m - k : Nat)) w2)) ∧ (m = k → w2 = wr.drew) ∧
          (∃ E2, Row w2 b' n' E2 ∧ ∀ j, j < n' → E2 j = if j < m then orD k X Y j else D' j) ∧ Chg [b'] wr.drew w2 := by
        by_cases hmk : m = k
        · subst hmk
          refine ⟨wr.drew, fun ty => by simpa using copy0 wr.drew _ _ _ _ ty, fun _ => rfl, ⟨E, hrE, fun j hj => ?_⟩, Chg.refl _ _⟩
          rw [HE.out j hj]; unfold orD; split <;> rfl
        · obtain ⟨w2, h1, h2, h3⟩ := copy_words (w := wr.drew) (P := Tryz.prog) (dT := 81) (sT := 81) (dLen := m - k) (dCap := n' - k) (sLen := m - k) (sCap := xn - k) (xb := xb) (xo := k) (zo := k) (m := m - k) (X := fun j => X (k + j)) Tryz.underlying81 sizeW hrE.drew (by simp) (fun j hj => hxs (k + j) (by omega) (by omega)) (by omega)
          refine ⟨w2, h1, fun h => absurd h hmk, ⟨_, h2, fun j hj => ?_⟩, h3⟩
          have := HE.out j hj
          simp only [lay, orD]
          by_cases a1 : j < k
          · rw [if_neg (by omega), if_pos (by omega), if_pos a1, this, if_pos a1]
          · by_cases a2 : j < m
            · rw [if_pos (by omega), if_pos a2, if_neg a1]; congr 1; omega
            · rw [if_neg (by omega), if_neg a2, this, if_neg a1]
      obtain ⟨w2, hcp, hw2, ⟨E2, hr2, hE2⟩, hc2⟩ := key
      have HE2 := Lib.hid hE2; clear hE2
      have Hw2 := Lib.hid hw2; clear hw2
      have hkk : ¬ (k : Int) < k := by omega
      clear hxs
      have hC : Chg Fz w w2 := by
        refine (hc1.comp (hchg.drew.comp hc2 (R := [b']) (fun x hx _ => hx) (fun x hx _ => hx)) (by simp) ?_)
        intro k hk hk1
        obtain rfl : k = b' := by simpa using hk
        rcases hF with rfl | rfl
        · simp
        · omega
      have hF' : ∀ b, b ∈ [b'] → b ∈ Fz ∨ w.heap.size ≤ b := by
        intro k hk
        obtain rfl : k = b' := by simpa using hk
        rcases hF with rfl | rfl
        · simp
        · right; omega
      have hNP : NPost Fz w (fun len D => len = nlen (orD k X Y) m ∧ ∀ j, j < m → D j = orD k X Y j) (.returned (.slice (some ⟨b', 0, none⟩) (nlen (orD k X Y) m) n')) w2 := by
        refine ⟨_, _, n', E2, [b'], rfl, ⟨?_, Nat.le_trans (nlen_le _ _) hle, Hmx1.out, .inr ⟨b', rfl, hr2, rfl⟩⟩, hC, hF', Lib.hid ⟨rfl, fun j hj => by rw [HE2.out j (by omega), if_pos hj]⟩⟩
        intro j hj
        rw [HE2.out j hj]
        split
        · unfold orD
          split
          · exact Nat.or_lt_two_pow (Hxd.out j (by omega)) (Hd.out j (by omega))
          · exact Hxd.out j (by omega)
        · exact Hd1.out j hj
      have hnorm := norm_walk b' 0 m n' (orD k X Y) w2 (by omega) (by omega) (fun j hj => by rw [Nat.zero_add, hr2.cell (by omega), HE2.out j (by omega), if_pos hj])
      clear hF hC hF' hr2 hc2 hchg hrE hrY hr0 hx0 hrow hxrow hr hdis hz
      by_cases hmk : m = k
      · subst hmk
        obtain rfl := Hw2.out rfl
        have hc0 := copy0 wr.drew
        by_cases hn' : n' = m
        · subst hn'
          by_cases hxn : xn = n'
          · subst hxn
            go_wp2
            go_region
            all_goals go_wp2_with fail
            refine hnorm.mono ?_
            rintro e w5 ⟨rfl, rfl⟩
            go_wp2
            go_ret
            exact hNP
          · go_wp2
            go_region
            all_goals go_wp2_with fail
            refine hnorm.mono ?_
            rintro e w5 ⟨rfl, rfl⟩
            go_wp2
            go_ret
            exact hNP
        · by_cases hxn : xn = m
          · subst hxn
            go_wp2
            go_region
            all_goals go_wp2_with fail
            refine hnorm.mono ?_
            rintro e w5 ⟨rfl, rfl⟩
            go_wp2
            go_ret
            exact hNP
          · go_wp2
            go_region
            all_goals go_wp2_with fail
            refine hnorm.mono ?_
            rintro e w5 ⟨rfl, rfl⟩
            go_wp2
            go_ret
            exact hNP
      · have hn' : ¬ n' = k := by omega
        have hxn : ¬ xn = k := by omega
        go_wp2
        go_region
        all_goals go_wp2_with fail
        refine hnorm.mono ?_
        rintro e w5 ⟨rfl, rfl⟩
        go_wp2
        go_ret
        exact hNP
end Go.Proofs
