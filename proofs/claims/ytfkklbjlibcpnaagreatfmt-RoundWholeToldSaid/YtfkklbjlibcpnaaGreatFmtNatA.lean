/- Proved here: walks of lshVU, norm, make, set and lsh of math/big's nat, for every input that the statements name. -/
import Derived.Test.YtfkklbjlibcpnaaGreatFmtProg
import Derived.Test.YtfkklbjlibcpnaaGreatFmtMem
import Derived.LoopTactic
import Derived.BigQuiet
import Derived.BigRegion
import Derived.Deep.QuietTactic
import Derived.RegionTactic
import Derived.Lib.Hide
import Derived.Laws.CopyOwn
import Derived.Lib.SliceRun
namespace Go.Proofs
open Go Go.RowKit Go.PB

theorem and63 (s : Nat) (h : s ≤ 63) : bits BinOp.and IntKind.u64 (s : Int) 63 = (s : Int) := by
  have : ∀ s : Fin 64, bits BinOp.and IntKind.u64 ((s.val : Nat) : Int) 63 = ((s.val : Nat) : Int) := by decide +kernel
  exact this ⟨s, by omega⟩
theorem u64sub (a b : Nat) (h : b ≤ a) (ha : a < 18446744073709551616) : IntKind.u64.wrap ((a : Int) - (b : Int)) = ((a - b : Nat) : Int) := by
  unfold IntKind.wrap
  simp [IntKind.bits, IntKind.signed]
  omega

/-- one word of a shift to the left -/
def shw (s x y : Nat) : Nat := (x * 2 ^ s) % 2 ^ 64 ||| y / 2 ^ (64 - s)

/-- what a shift of words to the left leaves -/
def LshPost (zb zo zn len s : Nat) (D : Nat → Nat) (X : Nat → Nat) (w : World) (e : Ending) (w' : World) : Prop :=
  e = .returned (.int .u64 ((X (len - 1) / 2 ^ (64 - s) : Nat) : Int)) ∧ Chg [zb] w w' ∧
    Row w' zb zn fun j => if zo ≤ j ∧ j < zo + len then shw s (X (j - zo)) (if j = zo then 0 else X (j - zo - 1)) else D j

theorem shw_bits (s x y : Nat) (hy : y < 18446744073709551616) : bits BinOp.or IntKind.u64 (IntKind.u64.wrap ((x : Int) * 2 ^ s)) ((y : Int) / 2 ^ (64 - s)) = ((shw s x y : Nat) : Int) := by
  have h1 : IntKind.u64.wrap ((x : Int) * 2 ^ s) = ((x * 2 ^ s % 2 ^ 64 : Nat) : Int) := by
    unfold IntKind.wrap
    simp [IntKind.bits, IntKind.signed]
  have h2 : ((y : Int) / 2 ^ (64 - s)) = ((y / 2 ^ (64 - s) : Nat) : Int) := by simp
  rw [h1, h2, u64_or_nat _ _ (Nat.mod_lt _ (by decide)) (Nat.lt_of_le_of_lt (Nat.div_le_self _ _) hy)]
  rfl
theorem shw_bits0 (s x : Nat) : IntKind.u64.wrap ((x : Int) * 2 ^ s) = ((shw s x 0 : Nat) : Int) := by
  unfold IntKind.wrap shw
  simp [IntKind.bits, IntKind.signed]

set_option maxHeartbeats 1000000 in
theorem lshVU_g_walk (zb zo zn zcap xb xo xcap len : Nat) (s : Nat) (D : Nat → Nat) (X : Nat → Nat) (w : World)
    (h0 : 1 ≤ s) (h1 : s ≤ 63) (hl : 1 ≤ len) (hl2 : len ≤ 4611686018427387904) (hz : Row w zb zn D) (hzo : zo + len ≤ zn)
    (hx : ∀ k, k < len → w.cell? ⟨xb, xo + k, none⟩ = some (.int .u64 (X k))) (hX : ∀ k, k < len → X k ≤ 18446744073709551615)
    (hne : xb ≠ zb ∨ xo ≤ zo) :
    Calls Tryz.prog 62 #[.slice (some ⟨zb, zo, none⟩) len zcap, .slice (some ⟨xb, xo, none⟩) len xcap, .int .u64 s] w (LshPost zb zo zn len s D X w) := by
  have hxl := hx (len - 1) (by omega)
  have hb1 := hX (len - 1) (by omega)
  have e1 := and63 s h1
  have e2 : IntKind.u64.wrap (64 - (s : Int)) = ((64 - s : Nat) : Int) := u64sub 64 s (by omega) (by decide)
  have e3 := and63 (64 - s) (by omega)
  go_enter Tryz.func62, Tryz.ntmps62
  go_wp2
  go_loopw [8] (fun i wr => ∃ (k : Nat) (E : Nat → Nat), k + 1 ≤ len ∧ i = .int .i64 k ∧ Chg [zb] w wr ∧ Row wr zb zn E ∧
      (∀ j, j ≤ k → wr.cell? ⟨xb, xo + j, none⟩ = some (.int .u64 (X j))) ∧
      (∀ j, E j = if zo + k < j ∧ j < zo + len then shw s (X (j - zo)) (X (j - zo - 1)) else D j)) (fun i _ => (intOf i).toNat)
  case atStart => exact ⟨len - 1, D, by omega, by congr 1; omega, Chg.refl _ _, hz, fun j hj => hx j (by omega), fun j => by rw [if_neg (by omega)]⟩
  case round =>
    obtain ⟨k, E, hk, rfl, hchg, hrow, hxs, hval⟩ := hrel
    rcases k with _ | k
    · have c0 : wr.cell? ⟨xb, xo, none⟩ = some (.int .u64 (X 0)) := hxs 0 (by omega)
      have z0 := hrow.cell (k := zo) (by omega)
      have f0 := hrow.free zo
      clear hxs hxl
      have Hval := Lib.hid hval; clear hval
      go_wp2
      go_ret
      refine ⟨by rw [Int.natCast_ediv]; simp, hchg.setCell (.inl (by simp)) _, ?_⟩
      rw [shw_bits0]
      refine (hrow.set _ _).congr fun j _ => ?_
      have := Hval.out j
      by_cases e : j = zo
      · subst e; simp; omega
      · rw [if_neg e, if_neg e, this]
        by_cases h2 : zo < j ∧ j < zo + len
        · rw [if_pos (by omega), if_pos (show zo ≤ j ∧ j < zo + len by omega)]
        · rw [if_neg (by omega), if_neg (show ¬ (zo ≤ j ∧ j < zo + len) by omega)]
    · have c0 := hxs (k + 1) (by omega)
      have c1 := hxs k (by omega)
      have z0 := hrow.cell (k := zo + (k + 1)) (by omega)
      have f0 := hrow.free (zo + (k + 1))
      have hX0 := hX (k + 1) (by omega)
      have hX1 := hX k (by omega)
      have Hxs := Lib.hid hxs; clear hxs hxl
      have Hval := Lib.hid hval; clear hval
      go_wp2
      go_region
      all_goals go_wp2
      go_roundw
      case rel =>
        refine ⟨k, (fun j => if j = zo + (k + 1) then shw s (X (k + 1)) (X k) else E j), by omega, rfl, ((hchg.setCell (.inl (by simp)) _).drew), by rw [shw_bits _ _ _ (by omega)]; exact (hrow.set _ _).drew, fun j hj => ?_, fun j => ?_⟩
        · have hne' : (⟨zb, zo + (k + 1), none⟩ : Addr) ≠ ⟨xb, xo + j, none⟩ := by simp only [ne_eq, Addr.mk.injEq, and_true, not_and]; omega
          rw [World.cell?_drew, World.cell?_setCell_other _ _ _ _ hne']
          exact Hxs.out j (by omega)
        · have := Hval.out j
          show (if j = zo + (k + 1) then shw s (X (k + 1)) (X k) else E j) = _
          by_cases e : j = zo + (k + 1)
          · subst e; rw [if_pos rfl, if_pos (by omega)]; congr 2 <;> omega
          · rw [if_neg e, this]; congr 1; simp only [eq_iff_iff]; omega
      case measure => simp [intOf]

/-- length without zeros on top -/
def nlen (D : Nat → Nat) : Nat → Nat
  | 0 => 0
  | k + 1 => if D k = 0 then nlen D k else k + 1
theorem nlen_le (D : Nat → Nat) : ∀ n, nlen D n ≤ n
  | 0 => Nat.le_refl _
  | n + 1 => by have := nlen_le D n; unfold nlen; split <;> omega
theorem nlen_top (D : Nat → Nat) : ∀ n, nlen D n = 0 ∨ D (nlen D n - 1) ≠ 0
  | 0 => .inl rfl
  | n + 1 => by
    unfold nlen
    split
    · exact nlen_top D n
    · right; simpa
theorem nlen_val (D : Nat → Nat) : ∀ n, val (nlen D n) D = val n D
  | 0 => rfl
  | n + 1 => by
    unfold nlen
    split
    · rename_i h; rw [nlen_val D n]; simp [val, h]
    · rfl

set_option maxHeartbeats 400000 in
theorem norm_walk (b off len cap : Nat) (D : Nat → Nat) (w : World) (hlen : len ≤ 4611686018427387904) (hcap : len ≤ cap)
    (hc : ∀ k, k < len → w.cell? ⟨b, off + k, none⟩ = some (.int .u64 (D k))) :
    Calls Tryz.prog 172 #[.slice (some ⟨b, off, none⟩) len cap] w fun e w' => e = .returned (.slice (some ⟨b, off, none⟩) (nlen D len) cap) ∧ w = w' := by
  go_enter Tryz.func172, Tryz.ntmps172
  go_wp2
  go_loop [3] (fun i => ∃ k : Nat, k ≤ len ∧ nlen D k = nlen D len ∧ i = .int .i64 k) (fun i => (intOf i).toNat)
  case atStart => exact ⟨len, Nat.le_refl _, rfl, rfl⟩
  case round =>
    obtain ⟨k, hk, hn, rfl⟩ := hrel
    have Hn := Lib.hid hn; clear hn
    rcases k with _ | j
    · go_wp2
      refine bodyPost_ret (results_tmp rfl _ _ _) rfl ?_
      rw [← Hn.out]
      simp [nlen]
    · have hcj := hc j (by omega)
      obtain ⟨d, hd⟩ : ∃ d, D j = d := ⟨_, rfl⟩
      rw [hd] at hcj
      have Hd := Lib.hid hd; clear hd
      by_cases hz : d = 0
      · subst hz
        go_wp2
        go_round
        case rel => exact ⟨j, by omega, by rw [← Hn.out]; simp [nlen, Hd.out], rfl⟩
        case measure => simp [intOf]
      · have hz' : ((d : Int) == 0) = false := by simpa using hz
        clear hz
        go_wp2
        refine bodyPost_ret (results_tmp rfl _ _ _) rfl ?_
        have : nlen D len = j + 1 := by
          rw [← Hn.out]; unfold nlen
          rw [if_neg (by rw [Hd.out]; simpa using hz')]
        rw [this]
        simp
theorem norm_nil (w : World) : Calls Tryz.prog 172 #[.slice none 0 0] w fun e w' => e = .returned (.slice none 0 0) ∧ w = w' := by
  go_enter Tryz.func172, Tryz.ntmps172
  go_wp2
  go_loop [3] (fun i => i = .int .i64 0) (fun i => (intOf i).toNat)
  case atStart => rfl
  case round =>
    subst hrel
    go_wp2
    refine bodyPost_ret (results_tmp rfl _ _ _) rfl ?_
    simp
end Go.Proofs

namespace Go.Proofs
open Go Go.RowKit Go.PB

theorem infoW : (Tryz.prog.info? 80).map (fun i => (i.zero, i.size, i.bytes)) = some (some (.int .u64 0), 1, 8) := by kernel_rfl
theorem sizeW : (Tryz.prog.info? 80).map (·.size) = some 1 := by kernel_rfl
theorem zeroW (w : World) : (zeroValue 80).run Tryz.prog w = .ok (.int .u64 0) w := by kernel_rfl

/-- a new row, by make -/
theorem mk81 (w : World) (l c : Nat) (hlc : l ≤ c) (hc : c ≤ 1099511627776) :
    ∃ w1, (Instr.makeSlice 81 (.int .i64 l) (.int .i64 c)).run Tryz.prog w = .ok (.slice (some ⟨w.heap.size, 0, none⟩) l c) w1 ∧ Row w1 w.heap.size c (fun _ => 0) ∧ Chg [] w w1 := by
  obtain ⟨i, hi, h1, h2, h3⟩ := info_parts infoW
  exact ⟨_, make_words Tryz.underlying81 hi h1 h2 h3 w l c hlc hc, Row.new _ _ _ _, (Chg.refl _ _).alloc _⟩

/-- what nat.make leaves -/
def MakePost (n : Nat) (F : List Nat) (w : World) (e : Ending) (w' : World) : Prop :=
  ∃ b' n' D', e = .returned (.slice (some ⟨b', 0, none⟩) n n') ∧ Row w' b' n' D' ∧ n ≤ n' ∧ n' ≤ 1099511627776 ∧ (∀ j, j < n' → D' j < 2 ^ 64) ∧ Chg [] w w' ∧ (F = [b'] ∨ b' = w.heap.size)

set_option maxRecDepth 100000 in
set_option maxHeartbeats 400000 in
theorem make_walk (s : Value) (len0 n0 : Nat) (D0 : Nat → Nat) (F : List Nat) (w : World) (hs : Sl w s len0 n0 D0 F) (n : Nat) (h1 : 1 ≤ n) (hn : n ≤ 1000000) :
    Calls Tryz.prog 170 #[s, .int .i64 n] w (MakePost n F w) := by
  obtain ⟨hd, hln, hmx, hs⟩ := hs
  have Hd := Lib.hid hd; clear hd
  have Hmx := Lib.hid hmx; clear hmx
  by_cases hle : n ≤ n0
  · rcases hs with ⟨_, h0, _⟩ | ⟨b, rfl, hrow, rfl⟩
    · omega
    · go_enter Tryz.func170, Tryz.ntmps170
      go_wp2
      go_ret
      exact ⟨b, n0, D0, rfl, hrow, hle, Hmx.out, Hd.out, Chg.refl _ _, .inl rfl⟩
  · by_cases hn1 : n = 1
    · subst hn1; clear hn h1
      obtain ⟨w1, hmk, hr1, hc1⟩ := mk81 w 1 1 (by omega) (by omega)
      simp only [Int.natCast_one] at hmk
      rcases hs with ⟨rfl, h0, rfl⟩ | ⟨b, rfl, hrow, rfl⟩
      all_goals
        go_enter Tryz.func170, Tryz.ntmps170
        go_wp2
        go_ret
        exact ⟨w.heap.size, 1, _, rfl, hr1, by omega, by omega, fun j _ => by decide, hc1, .inr rfl⟩
    · obtain ⟨w1, hmk, hr1, hc1⟩ := mk81 w n (n + 4) (by omega) (by omega)
      simp only [Int.natCast_add, Int.cast_ofNat_Int] at hmk
      have hn1' : ((n : Int) == 1) = false := by simpa using (by omega : ¬ (n : Int) = 1)
      rcases hs with ⟨rfl, h0, rfl⟩ | ⟨b, rfl, hrow, rfl⟩
      all_goals
        go_enter Tryz.func170, Tryz.ntmps170
        go_wp2
        go_ret
        exact ⟨w.heap.size, n + 4, _, rfl, hr1, by omega, by omega, fun j _ => by decide, hc1, .inr rfl⟩
end Go.Proofs

namespace Go.Proofs
open Go Go.RowKit Go.PB

/-- what a call that answers a nat leaves: a slice of its own (in F's block, or in new memory), of which R holds -/
def NPost (F : List Nat) (w : World) (R : Nat → (Nat → Nat) → Prop) (e : Ending) (w' : World) : Prop :=
  ∃ p len n' D' F', e = .returned (.slice p len n') ∧ Sl w' (.slice p len n') len n' D' F' ∧ Chg F w w' ∧ (∀ b, b ∈ F' → b ∈ F ∨ w.heap.size ≤ b) ∧ Hid (R len D')

set_option maxRecDepth 100000 in
set_option maxHeartbeats 400000 in
theorem set_walk (z : Value) (zl zn : Nat) (Z : Nat → Nat) (Fz : List Nat) (x : Value) (m xn : Nat) (X : Nat → Nat) (Fx : List Nat) (w : World)
    (hz : Sl w z zl zn Z Fz) (hx : Sl w x m xn X Fx) (h1 : 1 ≤ m) (hm : m ≤ 1000000) :
    Calls Tryz.prog 150 #[z, x] w (NPost Fz w fun len D => len = m ∧ ∀ j, j < m → D j = X j) := by
  have hx' := hx
  obtain ⟨hd, hln, hmx, hs⟩ := hx
  rcases hs with ⟨_, h0, _⟩ | ⟨xb, rfl, hrow, rfl⟩
  · omega
  have Hd := Lib.hid hd; clear hd
  have Hmx := Lib.hid hmx; clear hmx
  go_enter Tryz.func150, Tryz.ntmps150
  go_wp2_with fail
  refine (make_walk z zl zn Z Fz w hz m h1 hm).mono ?_
  rintro e w1 ⟨b', n', D', rfl, hr, hle, hmx1, hd1, hc1, hF⟩
  have hr0 := hc1.row hrow (by simp)
  obtain ⟨w2, hcp, hr2, hc2⟩ := copy_words (P := Tryz.prog) (dT := 81) (sT := 81) (dLen := m) (dCap := n') (sLen := m) (sCap := xn) (xo := 0) (zo := 0) (m := m) Tryz.underlying81 sizeW hr (by simp) (fun j hj => by rw [Nat.zero_add]; exact hr0.cell (by omega)) (by omega)
  have Hd1 := Lib.hid hd1; clear hd1
  have Hmx1 := Lib.hid hmx1; clear hmx1
  clear hr0
  go_wp2
  go_ret
  refine ⟨_, m, n', _, [b'], rfl, ⟨?_, hle, Hmx1.out, .inr ⟨b', rfl, hr2, rfl⟩⟩, ?_, ?_, Lib.hid ⟨rfl, fun j hj => ?_⟩⟩
  · intro j hj
    unfold lay
    split
    · exact Hd.out _ (by omega)
    · exact Hd1.out j hj
  · refine hc1.comp hc2 (by simp) ?_
    intro k hk hk1
    obtain rfl : k = b' := by simpa using hk
    rcases hF with rfl | rfl
    · simp
    · omega
  · intro k hk
    obtain rfl : k = b' := by simpa using hk
    rcases hF with rfl | rfl
    · simp
    · right; omega
  · simp [lay, hj]
end Go.Proofs

namespace Go.Proofs
open Go Go.RowKit Go.PB

/-- the shifted row: digit j of X·2^s, cut into words -/
def shD (m q r : Nat) (X : Nat → Nat) : Nat → Nat := fun j =>
  if j < q then 0 else if j < q + m then shw r (X (j - q)) (if j = q then 0 else X (j - q - 1)) else if j = q + m then X (m - 1) / 2 ^ (64 - r) else 0

theorem shw_lt (s x y : Nat) (hy : y < 2 ^ 64) : shw s x y < 2 ^ 64 :=
  Nat.or_lt_two_pow (Nat.mod_lt _ (by decide)) (Nat.lt_of_le_of_lt (Nat.div_le_self _ _) hy)
theorem shD_lt (m q r : Nat) (X : Nat → Nat) (h1 : 1 ≤ m) (hX : ∀ j, j < m → X j < 2 ^ 64) (j : Nat) : shD m q r X j < 2 ^ 64 := by
  unfold shD
  split
  · decide
  · split
    · refine shw_lt _ _ _ ?_
      split
      · decide
      · exact hX _ (by omega)
    · split
      · exact Nat.lt_of_le_of_lt (Nat.div_le_self _ _) (hX _ (by omega))
      · decide

set_option maxRecDepth 100000 in
set_option maxHeartbeats 1000000 in
theorem lsh_walk (z : Value) (zl zn : Nat) (Z : Nat → Nat) (Fz : List Nat) (x : Value) (m xn : Nat) (X : Nat → Nat) (Fx : List Nat) (w : World)
    (hz : Sl w z zl zn Z Fz) (hx : Sl w x m xn X Fx) (h1 : 1 ≤ m) (q r : Nat) (hr1 : 1 ≤ r) (hr : r < 64) (hm : m + q + 1 ≤ 1000000) (hdis : Fx = Fz ∨ ∀ b, b ∈ Fx → b ∉ Fz) :
    Calls Tryz.prog 129 #[z, x, .int .u64 ((64 * q + r : Nat) : Int)] w (NPost Fz w fun len D => len = nlen (shD m q r X) (m + q + 1) ∧ ∀ j, j < m + q + 1 → D j = shD m q r X j) := by
  have hx' := hx
  obtain ⟨hd, hln, hmx, hs⟩ := hx
  rcases hs with ⟨_, h0, _⟩ | ⟨xb, rfl, hrow, rfl⟩
  · omega
  have Hd := Lib.hid hd; clear hd
  have Hmx := Lib.hid hmx; clear hmx
  obtain ⟨s, hs⟩ : ∃ s, 64 * q + r = s := ⟨_, rfl⟩
  rw [hs]
  have hs0 : ((s : Int) == 0) = false := by simpa using (by omega : ¬ s = 0)
  have hq : (s : Int) / 64 = (q : Int) := by omega
  have hrr : (s : Int) % 64 = (r : Int) := by omega
  have Hs := Lib.hid hs; clear hs
  go_enter Tryz.func129, Tryz.ntmps129
  go_wp2_with fail
  have hmake := make_walk z zl zn Z Fz w hz (m + q + 1) (by omega) (by omega)
  simp only [Int.natCast_add, Int.cast_ofNat_Int] at hmake
  refine hmake.mono ?_
  clear hmake
  rintro e w1 ⟨b', n', D', rfl, hrw, hle, hmx1, hd1, hc1, hF⟩
  have hr0 := hc1.row hrow (by simp)
  have Hd1 := Lib.hid hd1; clear hd1
  have Hmx1 := Lib.hid hmx1; clear hmx1
  have hne : ¬ n' = q := by omega
  have hr1' : ((r : Int) == 0) = false := by simpa using (by omega : ¬ r = 0)
  have e1 : IntKind.i64.wrap ((m : Int) + q - m) = (q : Int) := by rw [IntWalk.i64_in _ (by omega)]; omega
  go_wp2_with fail
  have hxs : ∀ k, k < m → w1.cell? ⟨xb, 0 + k, none⟩ = some (.int .u64 (X k)) := fun k hk => by rw [Nat.zero_add]; exact hr0.cell (by omega)
  refine (lshVU_g_walk b' q n' (n' - q) xb 0 xn m r D' X w1 hr1 (by omega) h1 (by omega) hrw (by omega) hxs (fun k hk => by have := Hd.out k (by omega); omega) (.inr (by omega))).mono ?_
  clear hxs
  rintro e w2 ⟨he, hc2, hrw2⟩
  obtain ⟨c, hc⟩ : ∃ c, X (m - 1) / 2 ^ (64 - r) = c := ⟨_, rfl⟩
  rw [hc] at he
  subst he
  have Hc := Lib.hid hc; clear hc
  obtain ⟨v, c2⟩ : ∃ v, w2.cell? ⟨b', m + q, none⟩ = some v := ⟨_, hrw2.cell (by omega)⟩
  have f2 := hrw2.free (m + q)
  have hn' : (m + q : Int) < n' := by omega
  clear hr0
  have hrw3 := hrw2.set (m + q) c
  have hc3 : Chg [b'] w1 (w2.setCell ⟨b', m + q, none⟩ (.int .u64 c)) := hc2.setCell (.inl (by simp)) _
  obtain ⟨w4, hcl, hrw4, hc4⟩ := clear_words (P := Tryz.prog) (t := 81) (zo := 0) (m := q) (cap := n') Tryz.underlying81 zeroW hrw3 (by omega)
  have hrdD : ∀ j, j < m + q + 1 → lay 0 q (fun _ => 0) (fun j => if j = m + q then c else if q ≤ j ∧ j < q + m then shw r (X (j - q)) (if j = q then 0 else X (j - q - 1)) else D' j) j = shD m q r X j := by
    intro j hj
    simp only [lay, shD, Nat.zero_add, Nat.zero_le, true_and, Hc.out]
    by_cases a1 : j < q
    · simp [a1]
    · by_cases a2 : j < q + m
      · simp [a1, a2, show ¬ j = m + q by omega, show q ≤ j by omega]
      · simp [show j = m + q by omega, Nat.add_comm]
  have hcell4 : ∀ k, k < m + q + 1 → w4.cell? ⟨b', 0 + k, none⟩ = some (.int .u64 (shD m q r X k)) := fun k hk => by
    rw [Nat.zero_add, hrw4.cell (by omega), hrdD k hk]
  have Hrd := Lib.hid hrdD; clear hrdD
  have Hcell := Lib.hid hcell4; clear hcell4
  go_wp2_with fail
  refine (norm_walk b' 0 (m + q + 1) n' (shD m q r X) w4 (by omega) (by omega) (fun k hk => Hcell.out k hk)).mono ?_
  rintro e w5 ⟨rfl, rfl⟩
  go_wp2
  go_ret
  refine ⟨_, _, n', _, [b'], rfl, ⟨?_, ?_, Hmx1.out, .inr ⟨b', rfl, hrw4, rfl⟩⟩, ?_, ?_, Lib.hid ⟨rfl, fun j hj => Hrd.out j hj⟩⟩
  · intro j hj
    by_cases hj1 : j < m + q + 1
    · rw [Hrd.out j hj1]
      exact shD_lt m q r X h1 (fun k hk => Hd.out k (by omega)) j
    · simp only [lay]
      rw [if_neg (by omega), if_neg (by omega), if_neg (by omega)]
      exact Hd1.out j hj
  · exact Nat.le_trans (nlen_le _ _) hle
  · refine (hc1.comp (hc3.comp hc4 (R := [b']) (fun x hx _ => hx) (fun x hx _ => hx)) (by simp) ?_)
    intro k hk hk1
    obtain rfl : k = b' := by simpa using hk
    rcases hF with rfl | rfl
    · simp
    · omega
  · intro k hk
    obtain rfl : k = b' := by simpa using hk
    rcases hF with rfl | rfl
    · simp
    · right; omega

theorem shw_split (r x y : Nat) (hr : r ≤ 64) (hy : y < 2 ^ 64) : shw r x y + 2 ^ 64 * (x / 2 ^ (64 - r)) = x * 2 ^ r + y / 2 ^ (64 - r) := by
  unfold shw
  have e64 : (2 : Nat) ^ 64 = 2 ^ r * 2 ^ (64 - r) := by rw [← Nat.pow_add]; congr 1; omega
  have h1 : x * 2 ^ r % 2 ^ 64 = 2 ^ r * (x % 2 ^ (64 - r)) := by
    rw [e64, Nat.mul_comm x, Nat.mul_mod_mul_left]
  have h2 : y / 2 ^ (64 - r) < 2 ^ r := by
    rw [Nat.div_lt_iff_lt_mul (Nat.two_pow_pos _), ← e64]
    exact hy
  rw [h1, ← Nat.two_pow_add_eq_or_of_lt h2]
  have h3 := Nat.div_add_mod x (2 ^ (64 - r))
  have h4 : x * 2 ^ r = 2 ^ r * (2 ^ (64 - r) * (x / 2 ^ (64 - r)) + x % 2 ^ (64 - r)) := by rw [h3, Nat.mul_comm]
  rw [h4, Nat.mul_add, ← Nat.mul_assoc, ← e64]
  omega

theorem val_succ (n : Nat) (D : Nat → Nat) : val (n + 1) D = val n D + D n * 2 ^ (64 * n) := rfl
theorem val_zeros : ∀ q, val q (fun _ => 0) = 0
  | 0 => rfl
  | q + 1 => by simp [val, val_zeros q]
theorem shD_val_aux (m q r : Nat) (X : Nat → Nat) (hr : r ≤ 64) (hX : ∀ j, j < m → X j < 2 ^ 64) : ∀ k, k ≤ m →
    val (q + k) (shD m q r X) + (if k = 0 then 0 else X (k - 1) / 2 ^ (64 - r)) * 2 ^ (64 * (q + k)) = val k X * 2 ^ (64 * q + r)
  | 0, _ => by
    have : val (q + 0) (shD m q r X) = val q (fun _ => 0) := val_congr fun j hj => by unfold shD; rw [if_pos (by omega)]
    rw [this, val_zeros]; simp [val]
  | k + 1, hk => by
    have ih := shD_val_aux m q r X hr hX k (by omega)
    have hv : val (q + (k + 1)) (shD m q r X) = val (q + k) (shD m q r X) + shw r (X k) (if k = 0 then 0 else X (k - 1)) * 2 ^ (64 * (q + k)) := by
      show val (q + k + 1) _ = _
      rw [val_succ]
      have : shD m q r X (q + k) = shw r (X k) (if k = 0 then 0 else X (k - 1)) := by
        unfold shD
        rw [if_neg (by omega), if_pos (by omega), show q + k - q = k by omega]
        by_cases e : k = 0
        · subst e; simp
        · rw [if_neg (show ¬ q + k = q by omega), if_neg e]
      rw [this]
    have hs := shw_split r (X k) (if k = 0 then 0 else X (k - 1)) hr (by split; decide; exact hX _ (by omega))
    have hc : (if k = 0 then 0 else X (k - 1)) / 2 ^ (64 - r) = if k = 0 then 0 else X (k - 1) / 2 ^ (64 - r) := by split <;> simp
    rw [hc] at hs
    rw [hv, if_neg (Nat.succ_ne_zero k), Nat.add_sub_cancel]
    have e1 : (2 : Nat) ^ (64 * (q + (k + 1))) = 2 ^ 64 * 2 ^ (64 * (q + k)) := by rw [show 64 * (q + (k + 1)) = 64 + 64 * (q + k) by omega, Nat.pow_add]
    have e2 : (2 : Nat) ^ (64 * q + r) * 2 ^ (64 * k) = 2 ^ r * 2 ^ (64 * (q + k)) := by rw [← Nat.pow_add, ← Nat.pow_add, show 64 * q + r + 64 * k = r + 64 * (q + k) by omega]
    show _ = (val k X + X k * 2 ^ (64 * k)) * 2 ^ (64 * q + r)
    rw [e1, Nat.add_mul (val k X), ← ih, Nat.mul_assoc (X k), Nat.mul_comm (2 ^ (64 * k)), e2]
    generalize (2 : Nat) ^ (64 * (q + k)) = B at *
    generalize (if k = 0 then 0 else X (k - 1) / 2 ^ (64 - r)) = c at *
    generalize shw r (X k) (if k = 0 then 0 else X (k - 1)) = S at *
    have h5 : (S + 2 ^ 64 * (X k / 2 ^ (64 - r))) * B = (X k * 2 ^ r + c) * B := by rw [hs]
    rw [Nat.add_mul, Nat.add_mul] at h5
    have h6 : X k / 2 ^ (64 - r) * (2 ^ 64 * B) = 2 ^ 64 * (X k / 2 ^ (64 - r)) * B := by rw [← Nat.mul_assoc, Nat.mul_comm (X k / _)]
    have h7 : X k * (2 ^ r * B) = X k * 2 ^ r * B := by rw [Nat.mul_assoc]
    rw [h6, h7]
    omega
theorem shD_val (m q r : Nat) (X : Nat → Nat) (h1 : 1 ≤ m) (hr : r ≤ 64) (hX : ∀ j, j < m → X j < 2 ^ 64) : val (m + q + 1) (shD m q r X) = val m X * 2 ^ (64 * q + r) := by
  rw [← shD_val_aux m q r X hr hX m (Nat.le_refl _), if_neg (by omega)]
  have : shD m q r X (q + m) = X (m - 1) / 2 ^ (64 - r) := by
    unfold shD
    rw [if_neg (by omega), if_neg (by omega), if_pos (by omega)]
  rw [show m + q + 1 = q + m + 1 by omega, val_succ, this]
end Go.Proofs
