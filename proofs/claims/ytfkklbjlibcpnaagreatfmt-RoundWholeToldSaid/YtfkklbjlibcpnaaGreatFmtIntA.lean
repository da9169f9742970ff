/- Proved here: walks of Sign, NewInt, Set, Abs, Or, for every input that the statements name. -/
import Derived.Test.YtfkklbjlibcpnaaGreatFmtFloF
import Derived.Test.YtfkklbjlibcpnaaGreatFmtNatB
namespace Go.Proofs
open Go Go.RowKit Go.PB

def sgn (neg : Bool) (m : Nat) : Int := if m = 0 then 0 else if neg then -1 else 1

set_option maxRecDepth 100000 in
set_option maxHeartbeats 1000000 in
theorem Sign_walk (x m xn : Nat) (p : Option Addr) (neg : Bool) (T : TypeId) (w : World) (hx : Has w x (.cells #[.bool neg, .slice p m xn] T (0, 0))) :
    Calls Tryz.prog 58 #[.pointer (some ⟨x, 0, none⟩)] w fun e w' => e = .returned (.int .i64 (sgn neg m)) ∧ w = w' := by
  have c0 : w.cell? ⟨x, 0, none⟩ = some (.bool neg) := by rw [hx.cell]; rfl
  have c1 : w.cell? ⟨x, 1, none⟩ = some (.slice p m xn) := by rw [hx.cell]; rfl
  go_enter Tryz.func58, Tryz.ntmps58
  go_wp2
  all_goals go_ret
  all_goals (refine ⟨?_, rfl⟩; simp only [sgn]; simp_all)

set_option maxRecDepth 100000 in
set_option maxHeartbeats 1000000 in
theorem NewInt_zero_walk (w : World) : Calls Tryz.prog 23 #[.int .i64 0] w fun e w' => e = .returned (.pointer (some ⟨w.heap.size, 0, none⟩)) ∧ IntOf w' w.heap.size false (.slice none 0 0) 0 0 (fun _ => 0) [] ∧ Chg [] w w' := by
  go_enter Tryz.func23, Tryz.ntmps23
  go_wp2
  all_goals go_ret
  refine ⟨rfl, ⟨⟨_, Has.new _ _⟩, Sl.nil _ _, by simp⟩, Chg.alloc (Chg.refl [] w) _⟩

set_option maxRecDepth 100000 in
set_option maxHeartbeats 1000000 in
theorem NewInt_pos_walk (x : Nat) (h1 : 1 ≤ x) (hx : x < 2 ^ 63) (w : World) : Calls Tryz.prog 23 #[.int .i64 x] w fun e w' => e = .returned (.pointer (some ⟨w.heap.size + 1, 0, none⟩)) ∧ IntOf w' (w.heap.size + 1) false (.slice (some ⟨w.heap.size, 0, none⟩) 1 1) 1 1 (fun _ => x) [w.heap.size] ∧ Chg [] w w' := by
  have e1 : IntKind.u64.wrap (x : Int) = x := by simp [IntKind.wrap, IntKind.bits, IntKind.signed]; omega
  have e2 : ¬ (x : Int) < 0 := by omega
  have e3 : ¬ (x : Int) = 0 := by omega
  have Hx := Lib.hid hx; clear hx
  go_enter Tryz.func23, Tryz.ntmps23
  go_wp2
  all_goals go_ret
  have hN := Has.new (w.alloc (.cells #[.int .u64 x] 80)) (.cells #[.bool false, .slice (some ⟨w.heap.size, 0, none⟩) 1 1] 83)
  rw [show (w.alloc (.cells #[.int .u64 (x : Int)] 80)).heap.size = w.heap.size + 1 by simp] at hN
  refine ⟨rfl, ⟨⟨_, hN⟩, ⟨?_, by omega, by omega, .inr ⟨_, rfl, ⟨80, ?_⟩, rfl⟩⟩, by simp⟩, Chg.alloc (Chg.alloc (Chg.refl [] w) _) _⟩
  · intro j hj; have := Hx.out; show x < 2 ^ 64; omega
  · exact (Has.new _ _).alloc _

theorem neqI2 (w : World) (a b : Nat) {ca cb : Array Value} {ta tb : TypeId} (hne : a ≠ b) (ha : Has w a (.cells ca ta (0, 0))) (hb : Has w b (.cells cb tb (0, 0))) : (binOp .neq 39 (.pointer (some ⟨a, 0, none⟩)) (.pointer (some ⟨b, 0, none⟩))).run Tryz.prog w = .ok (.bool true) w := by
  have h : (Tryz.prog.info? 83).map (fun i => (i.size != 0)) = some true := by kernel_rfl
  obtain ⟨i, hi, h2⟩ := Option.map_eq_some_iff.1 h
  exact run_neq_ptr_other w Tryz.underlying39 hi (by simpa using h2) (by intro e; injection e; contradiction) ha hb

set_option maxRecDepth 100000 in
set_option maxHeartbeats 1000000 in
/-- Int.Set into another Int -/
theorem ISet_walk (z x zl zn m xn : Nat) (zs xs : Value) (Z X : Nat → Nat) (Fz Fx : List Nat) (zneg xneg : Bool) (w : World)
    (hz : IntOf w z zneg zs zl zn Z Fz) (hx : IntOf w x xneg xs m xn X Fx) (h1 : 1 ≤ m) (hm : m ≤ 1000000) (hne : z ≠ x) (hxF : x ∉ Fz) :
    Calls Tryz.prog 183 #[.pointer (some ⟨z, 0, none⟩), .pointer (some ⟨x, 0, none⟩)] w
      (IPost z Fz w fun neg len D => neg = xneg ∧ len = m ∧ ∀ j, j < m → D j = X j) := by
  have hlt := hz.lt
  obtain ⟨⟨T, hzc⟩, hz, hzF⟩ := hz
  obtain ⟨⟨T', hxc⟩, hx, _⟩ := hx
  have cz1 : w.cell? ⟨z, 1, none⟩ = some zs := by rw [hzc.cell]; rfl
  have cx1 : w.cell? ⟨x, 1, none⟩ = some xs := by rw [hxc.cell]; rfl
  have hL := set_walk zs zl zn Z Fz xs m xn X Fx w.drew hz hx h1 hm
  have hq := neqI2 w z x hne hzc hxc
  go_enter Tryz.func183, Tryz.ntmps183
  go_wp2_with fail
  go_region_with (go_at_call 150; refine hL.mono ?_; rintro e w1 ⟨p1, len, n1, D1, F1, rfl, hsl, hc, hf, hR⟩; have g1 : w1.cell? ⟨z, 1, none⟩ = some zs := (by rw [(hc.has hzc.drew hzF).cell]; rfl); have g3 := (hc.has hzc.drew hzF).free 1; have g4 : w1.cell? ⟨z, 0, none⟩ = some (.bool zneg) := (by rw [(hc.has hzc.drew hzF).cell]; rfl); have g5 := (hc.has hzc.drew hzF).free 0; have g6 : w1.cell? ⟨x, 0, none⟩ = some (.bool xneg) := (by rw [(hc.has hxc.drew hxF).cell]; rfl))
  all_goals
    clear hL
    go_wp2
    go_ret
    have hI := ((hc.has hzc.drew hzF).setSame 1 (.slice p1 len n1)).setSame 0 (.bool xneg)
    have hC : Chg (z :: Fz) w ((w1.setCell ⟨z, 1, none⟩ (.slice p1 len n1)).setCell ⟨z, 0, none⟩ (.bool xneg)) :=
      (((Chg.refl [] w).drew.comp hc (by simp) (fun y hy _ => List.mem_cons_of_mem _ hy)).setCell (.inl (by simp)) _).setCell (.inl (by simp)) _
    have hzs : ∀ b, b ∈ F1 → b ≠ z := fun b hb e => by
      subst e
      rcases hf b hb with h | h
      · exact hzF h
      · have : w.drew.heap.size = w.heap.size := rfl
        omega
    refine ⟨xneg, p1, len, n1, D1, F1, rfl, ⟨⟨T, hI⟩, (hsl.setCell (fun b hb => hzs b hb) _).setCell (fun b hb => hzs b hb) _, fun h => hzs z h rfl⟩, hC, hf, Lib.hid ⟨rfl, hR.out⟩⟩

set_option maxRecDepth 100000 in
set_option maxHeartbeats 1000000 in
theorem Abs_walk (z x zl zn m xn : Nat) (zs xs : Value) (Z X : Nat → Nat) (Fz Fx : List Nat) (zneg xneg : Bool) (w : World)
    (hz : IntOf w z zneg zs zl zn Z Fz) (hx : IntOf w x xneg xs m xn X Fx) (h1 : 1 ≤ m) (hm : m ≤ 1000000) (hne : z ≠ x) (hxF : x ∉ Fz) :
    Calls Tryz.prog 149 #[.pointer (some ⟨z, 0, none⟩), .pointer (some ⟨x, 0, none⟩)] w
      (IPost z Fz w fun neg len D => neg = false ∧ len = m ∧ ∀ j, j < m → D j = X j) := by
  have hL := ISet_walk z x zl zn m xn zs xs Z X Fz Fx zneg xneg w hz hx h1 hm hne hxF
  go_enter Tryz.func149, Tryz.ntmps149
  go_wp2_with (first | (go_at_call 183; (with_reducible refine hL.mono ?_); rintro e w1 ⟨neg1, p1, len, n1, D1, F1, rfl, ⟨⟨T1, hh1⟩, hs1, hn1⟩, hc, hf, hR⟩; have g4 : w1.cell? ⟨z, 0, none⟩ = some (.bool neg1) := (by rw [hh1.cell]; rfl); have g5 := hh1.free 0))
  go_ret
  have hzs : ∀ b, b ∈ F1 → b ≠ z := fun b hb e => hn1 (e ▸ hb)
  exact ⟨false, p1, len, n1, D1, F1, rfl, ⟨⟨T1, hh1.setSame 0 _⟩, hs1.setCell (fun b hb => hzs b hb) _, hn1⟩, hc.setCell (.inl (by simp)) _, hf, Lib.hid ⟨rfl, hR.out.2⟩⟩

set_option maxRecDepth 100000 in
set_option maxHeartbeats 2000000 in
/-- Int.Or of two that are not negative; hO: nat.or -/
theorem IOr_walk (z x y : Nat) (xs ys zs : Value) (zneg : Bool) (T T' T'' : TypeId) (Fz : List Nat) (R : Nat → (Nat → Nat) → Prop) (w : World)
    (hzc : Has w z (.cells #[.bool zneg, zs] T (0, 0))) (hzF : z ∉ Fz)
    (hxc : Has w x (.cells #[.bool false, xs] T' (0, 0))) (hyc : Has w y (.cells #[.bool false, ys] T'' (0, 0)))
    (hO : ∀ k, Calls Tryz.prog 181 #[zs, xs, ys] (w.drewN k).drew (NPost Fz (w.drewN k).drew R)) :
    Calls Tryz.prog 136 #[.pointer (some ⟨z, 0, none⟩), .pointer (some ⟨x, 0, none⟩), .pointer (some ⟨y, 0, none⟩)] w
      (IPost z Fz w fun neg len D => neg = false ∧ R len D) := by
  have hlt := hzc.lt
  have cz1 : w.cell? ⟨z, 1, none⟩ = some zs := by rw [hzc.cell]; rfl
  have cx1 : w.cell? ⟨x, 1, none⟩ = some xs := by rw [hxc.cell]; rfl
  have cy1 : w.cell? ⟨y, 1, none⟩ = some ys := by rw [hyc.cell]; rfl
  have cx0 : w.cell? ⟨x, 0, none⟩ = some (.bool false) := by rw [hxc.cell]; rfl
  have cy0 : w.cell? ⟨y, 0, none⟩ = some (.bool false) := by rw [hyc.cell]; rfl
  have HO := Lib.hid hO; clear hO
  go_enter Tryz.func136, Tryz.ntmps136
  go_wp2_with fail
  go_quiet (fail)
  go_wp2_with fail
  have hL := HO.out nq
  go_region_with (go_at_call 181; refine hL.mono ?_; rintro e w1 ⟨p1, len, n1, D1, F1, rfl, hsl, hc, hf, hR⟩; have g1 : w1.cell? ⟨z, 1, none⟩ = some zs := (by rw [(hc.has (hzc.drewN nq).drew hzF).cell]; rfl); have g3 := (hc.has (hzc.drewN nq).drew hzF).free 1; have g4 : w1.cell? ⟨z, 0, none⟩ = some (.bool zneg) := (by rw [(hc.has (hzc.drewN nq).drew hzF).cell]; rfl); have g5 := (hc.has (hzc.drewN nq).drew hzF).free 0)
  all_goals
    clear hL
    go_wp2
    go_ret
    have hI := ((hc.has (hzc.drewN nq).drew hzF).setSame 1 (.slice p1 len n1)).setSame 0 (.bool false)
    have hC : Chg (z :: Fz) w ((w1.setCell ⟨z, 1, none⟩ (.slice p1 len n1)).setCell ⟨z, 0, none⟩ (.bool false)) :=
      (((Chg.refl [] w).drewN nq).drew.comp hc (by simp) (fun y hy _ => List.mem_cons_of_mem _ hy)).setCell (.inl (by simp)) _ |>.setCell (.inl (by simp)) _
    have hzs : ∀ b, b ∈ F1 → b ≠ z := fun b hb e => by
      subst e
      rcases hf b hb with h | h
      · exact hzF h
      · have : (w.drewN nq).drew.heap.size = w.heap.size := rfl
        omega
    refine ⟨false, p1, len, n1, D1, F1, rfl, ⟨⟨T, hI⟩, (hsl.setCell (fun b hb => hzs b hb) _).setCell (fun b hb => hzs b hb) _, fun h => hzs z h rfl⟩, hC, hf, Lib.hid ⟨rfl, hR.out⟩⟩
end Go.Proofs
