/- Proved here: walks of round.ToInt in its four ways, at every pattern, for every input that the statements name. -/
import Derived.Test.YtfkklbjlibcpnaaGreatFmtBitA
import Derived.Test.YtfkklbjlibcpnaaGreatFmtLawA
import Derived.Laws.Cover2
import Derived.Laws.FloatArith
namespace Go.Proofs
open Go Go.RowKit Go.PB Go.WL Ieee

/-- is it a NaN? -/
def IsNan (y : Nat) : Prop := ∃ s t, double.read y = .nan s t

/-- what the four ways to a whole number give: a datum made whole; of a NaN some NaN -/
def WholeOf (way : Toward) (x y : Nat) : Prop :=
  (IsNan x ∧ IsNan y) ∨ (¬ IsNan x ∧ y = double.write ((double.read x).integral way))

theorem quiet_nan (s : Bool) (t : Nat) (h0 : t < 2 ^ 52) : IsNan (FloatKind.f64.encode (.nan s (FloatKind.f64.format.quiet t))) := by
  have hq : FloatKind.f64.format.quiet t < 2 ^ 52 := Nat.or_lt_two_pow h0 (by show 2 ^ 51 < 2 ^ 52; decide)
  have hq0 : FloatKind.f64.format.quiet t ≠ 0 := by
    intro h
    have := Nat.or_eq_zero_iff.1 h
    exact absurd this.2 (by show 2 ^ 51 ≠ 0; decide)
  generalize FloatKind.f64.format.quiet t = q at *
  show IsNan (double.word s (double.infRung + q % double.binade))
  rw [dbl_bin, dbl_inf, Nat.mod_eq_of_lt hq]
  obtain ⟨a, b⟩ := word_mod s (r := 2047 * 2 ^ 52 + q) (by omega)
  refine ⟨s, q, ?_⟩
  unfold Format.read
  rw [a, b, dbl_bin, dbl_inf]
  rw [if_neg (by omega), if_neg (by omega), if_neg (by omega)]
  simp
theorem nan_lt {x : Nat} {s : Bool} {t : Nat} (h : double.read x = .nan s t) : t < 2 ^ 52 := by
  have hm : x % double.signWeight < 2 ^ 63 := Nat.mod_lt _ (by rw [dbl_sw]; exact Nat.two_pow_pos _)
  unfold Format.read at h
  simp only at h
  rw [dbl_bin, dbl_inf] at h
  split at h
  · cases h
  split at h
  · cases h
  split at h
  · cases h
  · injection h with h1 h2
    omega

def tiBody (way : Toward) (x : Nat) : Datum → Sem Value
  | .nan s t =>
      if FloatKind.f64.format.quiet t = t then pure (.float .f64 x) else do
      let kept ← choose (.extern "math.Floor,Ceil,Trunc,RoundToEven.signallingNaN kept" 2)
      pure (.float .f64 (if kept == 1 then x else FloatKind.f64.encode (.nan s (FloatKind.f64.format.quiet t))))
  | d => pure (.float .f64 (FloatKind.f64.encode (d.integral way)))
theorem ti_is (name : String) (way : Toward) (x : Nat) : Extern.MathFloor.toIntegral name way #[.float .f64 x] = tiBody way x (FloatKind.f64.decode x) := rfl

theorem run_integral (name : String) (way : Toward) (x : Nat) (w : World) : ∃ y n, (Extern.MathFloor.toIntegral name way #[.float .f64 x]).run Tryz.prog w = .ok (.float .f64 y) (w.drewN n) ∧ WholeOf way x y := by
  rw [ti_is]
  rcases read_cases x with ⟨s, m, e, hr, _⟩ | ⟨s, hr⟩ | ⟨s, t, hr⟩
  · refine ⟨double.write ((double.read x).integral way), 0, ?_, .inr ⟨?_, rfl⟩⟩
    · have : FloatKind.f64.decode x = .number s m e := hr
      rw [this, hr]
      rfl
    · rintro ⟨s', t', h⟩; rw [hr] at h; cases h
  · refine ⟨double.write ((double.read x).integral way), 0, ?_, .inr ⟨?_, rfl⟩⟩
    · have : FloatKind.f64.decode x = .infinity s := hr
      rw [this, hr]
      rfl
    · rintro ⟨s', t', h⟩; rw [hr] at h; cases h
  · have h0 : FloatKind.f64.decode x = .nan s t := hr
    have hx : IsNan x := ⟨s, t, hr⟩
    have hl := nan_lt hr
    have hq := quiet_nan s t hl
    rw [h0]
    by_cases hqt : FloatKind.f64.format.quiet t = t
    · refine ⟨x, 0, ?_, .inl ⟨hx, hx⟩⟩
      simp only [tiBody, hqt, if_true]
      rfl
    · by_cases hk : (Question.extern "math.Floor,Ceil,Trunc,RoundToEven.signallingNaN kept" 2).cut (w.tape w.drawn (.extern "math.Floor,Ceil,Trunc,RoundToEven.signallingNaN kept" 2)) = 1
      · refine ⟨x, 1, ?_, .inl ⟨hx, hx⟩⟩
        simp only [tiBody, hqt, if_false]
        simp [choose, Sem.run, Question.forced, hk, Result.andThen]
        rfl
      · refine ⟨_, 1, ?_, .inl ⟨hx, hq⟩⟩
        simp only [tiBody, hqt, if_false]
        simp [choose, Sem.run, Question.forced, hk, Result.andThen]
        rfl

/-- what round.ToInt answers -/
def TI (way : Toward) (x : Nat) : Int × Bool :=
  match double.read x with
  | .number s m e => if -9223372036854775808 ≤ whole way (.number s m e) ∧ whole way (.number s m e) < 9223372036854775808 then (whole way (.number s m e), true) else (0, false)
  | _ => (0, false)

theorem read_lo : double.read 14114281232179134464 = .number true 4503599627370496 11 := by decide
theorem read_hi : double.read 4890909195324358656 = .number false 4503599627370496 11 := by decide
theorem lo_units (k : Nat) : (if true = true then -((4503599627370496 * (2 ^ 11 * 2 ^ k) : Nat) : Int) else ((4503599627370496 * (2 ^ 11 * 2 ^ k) : Nat) : Int)) = -9223372036854775808 * 2 ^ k := by
  rw [if_pos rfl, ← Nat.mul_assoc]; simp [Int.neg_mul]
theorem hi_units (k : Nat) : (if false = true then -((4503599627370496 * (2 ^ 11 * 2 ^ k) : Nat) : Int) else ((4503599627370496 * (2 ^ 11 * 2 ^ k) : Nat) : Int)) = 9223372036854775808 * 2 ^ k := by
  rw [if_neg (by simp), ← Nat.mul_assoc]; simp
theorem units_lo : units (.number true 4503599627370496 11) = -9223372036854775808 * 2 ^ 1074 := by
  simp only [units, signed, Nat.shiftLeft_eq]
  rw [← pow_split 11 1074 ((11 : Int) + 1074).toNat (by decide)]
  exact lo_units 1074
theorem units_hi : units (.number false 4503599627370496 11) = 9223372036854775808 * 2 ^ 1074 := by
  simp only [units, signed, Nat.shiftLeft_eq]
  rw [← pow_split 11 1074 ((11 : Int) + 1074).toNat (by decide)]
  exact hi_units 1074
theorem order_whole (s : Bool) (M : Nat) (h : M = 0 ∨ Fit M) (K : Nat) (t : Bool) (n : Nat) (j k : Int) (hK : double.read K = .number t n j) (hj : -1074 ≤ j) (hu : units (.number t n j) = k * 2 ^ 1074) :
    double.order (double.nearest s M 0) K = some (compare (signed s M 0) k) := by
  obtain ⟨q, e, hr, he, hv, _⟩ := read_whole s M h
  unfold Format.order
  rw [hr, hK, order_units _ _ _ _ _ _ he hj, hv, hu, show (1074 : Nat) = 0 + 1074 from rfl, signed_mul, compare_mul]

theorem ti_facts (way : Toward) (x y : Nat) (h : WholeOf way x y) : ∃ c1 c2 : Bool, (FloatKind.f64.format.order y 14114281232179134464 == some .gt || FloatKind.f64.format.order y 14114281232179134464 == some .eq) = c1 ∧
    (FloatKind.f64.format.order y 4890909195324358656 == some .lt) = c2 ∧ ((TI way x).2 = (c1 && c2)) ∧ ((c1 && c2) = false → (TI way x).1 = 0) ∧ (c1 = true → c2 = true → floatToIntVal .f64 y .i64 = some (TI way x).1) := by
  refine ⟨_, _, rfl, rfl, ?_⟩
  rcases h with ⟨⟨s, t, hx⟩, ⟨s', t', hy⟩⟩ | ⟨hx, rfl⟩
  · have e1 : FloatKind.f64.format.order y 14114281232179134464 = none := by
      show (double.read y).order _ = none
      rw [hy]; rfl
    rw [e1]
    simp [TI, hx]
  · rcases read_cases x with ⟨s, m, e, hr, g1, g2, g3, g4⟩ | ⟨s, hr⟩ | ⟨s, t, hr⟩
    · have hf := integral_fit way s m e g1 g2 g3 g4
      obtain ⟨M, hM⟩ : ∃ M, way.cut s (m <<< e.toNat) (-e).toNat = M := ⟨_, rfl⟩
      rw [hM] at hf
      have hi : double.write ((double.read x).integral way) = double.nearest s M 0 := by
        rw [hr]; simp only [Datum.integral, hM]; rfl
      have hw : whole way (.number s m e) = signed s M 0 := by simp only [whole, hM]
      have hT : TI way x = if -9223372036854775808 ≤ signed s M 0 ∧ signed s M 0 < 9223372036854775808 then (signed s M 0, true) else (0, false) := by
        simp only [TI, hr, hw]
      have o1 := order_whole s M hf _ _ _ _ _ read_lo (by omega) units_lo
      have o2 := order_whole s M hf _ _ _ _ _ read_hi (by omega) units_hi
      obtain ⟨_, _, _, _, _, hti⟩ := read_whole s M hf
      rw [hi, hT]
      have e1 : FloatKind.f64.format.order (double.nearest s M 0) 14114281232179134464 = some (compare (signed s M 0) (-9223372036854775808)) := o1
      have e2 : FloatKind.f64.format.order (double.nearest s M 0) 4890909195324358656 = some (compare (signed s M 0) 9223372036854775808) := o2
      have e3 : floatToIntVal .f64 (double.nearest s M 0) .i64 = if IntKind.i64.min ≤ signed s M 0 ∧ signed s M 0 ≤ IntKind.i64.max then some (signed s M 0) else none := by
        unfold floatToIntVal
        have : (FloatKind.f64.decode (double.nearest s M 0)).toInt .zero = some (signed s M 0) := hti
        rw [this]
      rw [e1, e2, e3]
      generalize signed s M 0 = V
      have m1 : IntKind.i64.min = -9223372036854775808 := by decide
      have m2 : IntKind.i64.max = 9223372036854775807 := by decide
      rw [m1, m2]
      have c1 : (some (compare V (-9223372036854775808)) == some Ordering.gt || some (compare V (-9223372036854775808)) == some Ordering.eq) = decide (-9223372036854775808 ≤ V) := by
        simp only [compare, compareOfLessAndEq]
        split
        · rw [decide_eq_false (by omega)]; rfl
        · split
          · rw [decide_eq_true (by omega)]; rfl
          · rw [decide_eq_true (by omega)]; rfl
      have c2 : (some (compare V 9223372036854775808) == some Ordering.lt) = decide (V < 9223372036854775808) := by
        simp only [compare, compareOfLessAndEq]
        split
        · rw [decide_eq_true (by omega)]; rfl
        · split
          · rw [decide_eq_false (by omega)]; rfl
          · rw [decide_eq_false (by omega)]; rfl
      rw [c1, c2]
      by_cases a : -9223372036854775808 ≤ V <;> by_cases b : V < 9223372036854775808
      · rw [if_pos ⟨a, b⟩, decide_eq_true a, decide_eq_true b, if_pos ⟨a, by omega⟩]; simp
      · rw [if_neg (by omega), decide_eq_true a, decide_eq_false b]; simp
      · rw [if_neg (by omega), decide_eq_false a, decide_eq_true b]; simp
      · rw [if_neg (by omega), decide_eq_false a, decide_eq_false b]; simp
    · have e2 : double.read (double.write ((double.read x).integral way)) = .infinity s := by
        rw [hr]
        show double.read (double.write (.infinity s)) = _
        cases s <;> decide
      have o1 : FloatKind.f64.format.order (double.write ((double.read x).integral way)) 14114281232179134464 = some (if s then .lt else .gt) := by
        show (double.read _).order (double.read _) = _
        rw [e2, read_lo]; rfl
      have o2 : FloatKind.f64.format.order (double.write ((double.read x).integral way)) 4890909195324358656 = some (if s then .lt else .gt) := by
        show (double.read _).order (double.read _) = _
        rw [e2, read_hi]; rfl
      rw [o1, o2]
      cases s <;> simp [TI, hr]
    · exact absurd ⟨s, t, hr⟩ hx

/-- what a function from float to whole float leaves -/
def FlPost (way : Toward) (x : Nat) (w : World) (e : Ending) (w' : World) : Prop := ∃ y n, e = .returned (.float .f64 y) ∧ w' = w.drewN n ∧ WholeOf way x y

theorem run_arch (f : FuncId) (fn : Func) (name : String) (way : Toward) (hf : Tryz.prog.funcs[f]? = some fn) (hname : (fn.name == "runtime.NumGoroutine") = false)
    (hb : fn.body.isNone = true) (hn : Extern.findNext fn = none) (he : Extern.find fn = some (Extern.MathFloor.toIntegral name way)) (x : Nat) (w : World) :
    ∃ y n, (callFunc f #[.float .f64 x]).run Tryz.prog w = .ok (.value (.float .f64 y)) (w.drewN n) ∧ WholeOf way x y := by
  obtain ⟨y, n, h, hw⟩ := run_integral name way x w
  refine ⟨y, n, ?_, hw⟩
  rw [run_callFunc_extern hf hname hb hn he, h]
  rfl
theorem run_rte (x : Nat) (w : World) : ∃ y n, (callFunc 24 #[.float .f64 x]).run Tryz.prog w = .ok (.value (.float .f64 y)) (w.drewN n) ∧ WholeOf .even x y :=
  run_arch 24 Tryz.f24 "math.RoundToEven" .even Tryz.func24 (by kernel_rfl) (by kernel_rfl) (by rfl) (by rfl) x w
theorem run_floor (x : Nat) (w : World) : ∃ y n, (callFunc 66 #[.float .f64 x]).run Tryz.prog w = .ok (.value (.float .f64 y)) (w.drewN n) ∧ WholeOf .down x y :=
  run_arch 66 Tryz.f66 "math.archFloor" .down Tryz.func66 (by kernel_rfl) (by kernel_rfl) (by rfl) (by rfl) x w
theorem run_ceil (x : Nat) (w : World) : ∃ y n, (callFunc 68 #[.float .f64 x]).run Tryz.prog w = .ok (.value (.float .f64 y)) (w.drewN n) ∧ WholeOf .up x y :=
  run_arch 68 Tryz.f68 "math.archCeil" .up Tryz.func68 (by kernel_rfl) (by kernel_rfl) (by rfl) (by rfl) x w
theorem run_trunc (x : Nat) (w : World) : ∃ y n, (callFunc 70 #[.float .f64 x]).run Tryz.prog w = .ok (.value (.float .f64 y)) (w.drewN n) ∧ WholeOf .zero x y :=
  run_arch 70 Tryz.f70 "math.archTrunc" .zero Tryz.func70 (by kernel_rfl) (by kernel_rfl) (by rfl) (by rfl) x w

set_option maxRecDepth 100000 in
set_option maxHeartbeats 1000000 in
theorem Floor_walk (x : Nat) (w : World) : Calls Tryz.prog 25 #[.float .f64 x] w (FlPost .down x w) := by
  obtain ⟨y, n, hr, hw⟩ := run_floor x w
  have Hw := Lib.hid hw; clear hw
  go_enter Tryz.func25, Tryz.ntmps25
  go_wp2
  go_ret
  exact ⟨y, n, rfl, rfl, Hw.out⟩
set_option maxRecDepth 100000 in
set_option maxHeartbeats 1000000 in
theorem Ceil_walk (x : Nat) (w : World) : Calls Tryz.prog 26 #[.float .f64 x] w (FlPost .up x w) := by
  obtain ⟨y, n, hr, hw⟩ := run_ceil x w
  have Hw := Lib.hid hw; clear hw
  go_enter Tryz.func26, Tryz.ntmps26
  go_wp2
  go_ret
  exact ⟨y, n, rfl, rfl, Hw.out⟩
set_option maxRecDepth 100000 in
set_option maxHeartbeats 1000000 in
theorem Trunc_walk (x : Nat) (w : World) : Calls Tryz.prog 27 #[.float .f64 x] w (FlPost .zero x w) := by
  obtain ⟨y, n, hr, hw⟩ := run_trunc x w
  have Hw := Lib.hid hw; clear hw
  go_enter Tryz.func27, Tryz.ntmps27
  go_wp2
  go_ret
  exact ⟨y, n, rfl, rfl, Hw.out⟩
end Go.Proofs

namespace Go.Proofs
open Go Go.RowKit Go.PB Go.WL Ieee

/-- what round.ToInt leaves -/
def TIPost (way : Toward) (x : Nat) (w : World) (e : Ending) (w' : World) : Prop := ∃ n, e = .returned (.tuple #[.int .i64 (TI way x).1, .bool (TI way x).2, .int .i64 0]) ∧ w' = w.drewN n
theorem ti_tuple (way : Toward) (x : Nat) (p : Int) (ok : Bool) (h1 : (TI way x).1 = p) (h2 : (TI way x).2 = ok) : Ending.returned (.tuple #[.int .i64 p, .bool ok, .int .i64 0]) = .returned (.tuple #[.int .i64 (TI way x).1, .bool (TI way x).2, .int .i64 0]) := by rw [h1, h2]
theorem ti_conv (y : Nat) (p : Int) (h : floatToIntVal .f64 y .i64 = some p) (w : World) : (convert 29 3 (.float .f64 y)).run Tryz.prog w = .ok (.int .i64 p) w :=
  run_convert_float_int w 29 3 .f64 .i64 y p (by kernel_rfl) (by kernel_rfl) h

set_option maxRecDepth 100000 in
set_option maxHeartbeats 2000000 in
theorem ToInt1_walk (b : Int) (x : Nat) (hx : (IntKind.u64.wrap b).toNat = x) (w : World) : Calls Tryz.prog 7 #[.int .i64 b, .int .i64 1] w (TIPost .down x w) := by
  have hF := Float_walk b x hx w
  have hW := Floor_walk x w
  clear hx
  go_enter Tryz.func7, Tryz.ntmps7
  go_wp2_with (first | (go_at_call 10; (with_reducible refine hF.mono ?_); rintro e w' ⟨rfl, rfl⟩))
  refine hW.mono ?_
  rintro e w1 ⟨y, n, rfl, rfl, hy⟩
  obtain ⟨c1, c2, h1, h2, h3, h4, h5⟩ := ti_facts _ _ _ hy
  clear hy hF hW
  cases c1 <;> cases c2
  all_goals
    have H3 := Lib.hid h3
    have H4 := Lib.hid h4
    clear h3 h4
    try have hcv := ti_conv _ _ (h5 rfl rfl)
    try have hz := H4.out rfl
    generalize hP : (TI .down x).1 = P at *
    have HP := Lib.hid hP
    clear hP h5
    try have Hz := Lib.hid hz
    try clear hz
    go_wp2
    go_ret3
    refine ⟨n, ?_, rfl⟩
    first
    | exact ti_tuple _ _ _ _ HP.out H3.out
    | exact ti_tuple _ _ _ _ (HP.out.trans Hz.out) H3.out

set_option maxRecDepth 100000 in
set_option maxHeartbeats 2000000 in
theorem ToInt2_walk (b : Int) (x : Nat) (hx : (IntKind.u64.wrap b).toNat = x) (w : World) : Calls Tryz.prog 7 #[.int .i64 b, .int .i64 2] w (TIPost .up x w) := by
  have hF := Float_walk b x hx w
  have hW := Ceil_walk x w
  clear hx
  go_enter Tryz.func7, Tryz.ntmps7
  go_wp2_with (first | (go_at_call 10; (with_reducible refine hF.mono ?_); rintro e w' ⟨rfl, rfl⟩))
  refine hW.mono ?_
  rintro e w1 ⟨y, n, rfl, rfl, hy⟩
  obtain ⟨c1, c2, h1, h2, h3, h4, h5⟩ := ti_facts _ _ _ hy
  clear hy hF hW
  cases c1 <;> cases c2
  all_goals
    have H3 := Lib.hid h3
    have H4 := Lib.hid h4
    clear h3 h4
    try have hcv := ti_conv _ _ (h5 rfl rfl)
    try have hz := H4.out rfl
    generalize hP : (TI .up x).1 = P at *
    have HP := Lib.hid hP
    clear hP h5
    try have Hz := Lib.hid hz
    try clear hz
    go_wp2
    go_ret3
    refine ⟨n, ?_, rfl⟩
    first
    | exact ti_tuple _ _ _ _ HP.out H3.out
    | exact ti_tuple _ _ _ _ (HP.out.trans Hz.out) H3.out

set_option maxRecDepth 100000 in
set_option maxHeartbeats 2000000 in
theorem ToInt3_walk (b : Int) (x : Nat) (hx : (IntKind.u64.wrap b).toNat = x) (w : World) : Calls Tryz.prog 7 #[.int .i64 b, .int .i64 3] w (TIPost .zero x w) := by
  have hF := Float_walk b x hx w
  have hW := Trunc_walk x w
  clear hx
  go_enter Tryz.func7, Tryz.ntmps7
  go_wp2_with (first | (go_at_call 10; (with_reducible refine hF.mono ?_); rintro e w' ⟨rfl, rfl⟩))
  refine hW.mono ?_
  rintro e w1 ⟨y, n, rfl, rfl, hy⟩
  obtain ⟨c1, c2, h1, h2, h3, h4, h5⟩ := ti_facts _ _ _ hy
  clear hy hF hW
  cases c1 <;> cases c2
  all_goals
    have H3 := Lib.hid h3
    have H4 := Lib.hid h4
    clear h3 h4
    try have hcv := ti_conv _ _ (h5 rfl rfl)
    try have hz := H4.out rfl
    generalize hP : (TI .zero x).1 = P at *
    have HP := Lib.hid hP
    clear hP h5
    try have Hz := Lib.hid hz
    try clear hz
    go_wp2
    go_ret3
    refine ⟨n, ?_, rfl⟩
    first
    | exact ti_tuple _ _ _ _ HP.out H3.out
    | exact ti_tuple _ _ _ _ (HP.out.trans Hz.out) H3.out

set_option maxRecDepth 100000 in
set_option maxHeartbeats 2000000 in
theorem ToInt0_walk (b : Int) (x : Nat) (hx : (IntKind.u64.wrap b).toNat = x) (w : World) : Calls Tryz.prog 7 #[.int .i64 b, .int .i64 0] w (TIPost .even x w) := by
  have hF := Float_walk b x hx w
  obtain ⟨y, n, hr, hy⟩ := run_rte x w
  obtain ⟨c1, c2, h1, h2, h3, h4, h5⟩ := ti_facts _ _ _ hy
  clear hy
  clear hx
  cases c1 <;> cases c2
  all_goals
    have H3 := Lib.hid h3
    have H4 := Lib.hid h4
    clear h3 h4
    try have hcv := ti_conv _ _ (h5 rfl rfl)
    try have hz := H4.out rfl
    generalize hP : (TI .even x).1 = P at *
    have HP := Lib.hid hP
    clear hP h5
    try have Hz := Lib.hid hz
    try clear hz
    go_enter Tryz.func7, Tryz.ntmps7
    go_wp2_with (first | (go_at_call 10; (with_reducible refine hF.mono ?_); rintro e w' ⟨rfl, rfl⟩))
    go_ret3
    refine ⟨n, ?_, rfl⟩
    first
    | exact ti_tuple _ _ _ _ HP.out H3.out
    | exact ti_tuple _ _ _ _ (HP.out.trans Hz.out) H3.out
end Go.Proofs
