/- Proved here: a walk of Int.Lsh, for every input that the statements name. -/
import Derived.Test.YtfkklbjlibcpnaaGreatFmtNatA
import Derived.Deep.RegionWith
namespace Go.Proofs
open Go Go.RowKit Go.PB

/-- an Int in block a: its sign, its digits -/
def IntOf (w : World) (a : Nat) (neg : Bool) (s : Value) (len n : Nat) (D : Nat → Nat) (F : List Nat) : Prop :=
  (∃ T, Has w a (.cells #[.bool neg, s] T (0, 0))) ∧ Sl w s len n D F ∧ a ∉ F
theorem IntOf.chg {w w' : World} {a : Nat} {neg : Bool} {s : Value} {len n : Nat} {D : Nat → Nat} {F S : List Nat} (h : IntOf w a neg s len n D F) (c : Chg S w w') (ha : a ∉ S) (hd : ∀ b, b ∈ F → b ∉ S) : IntOf w' a neg s len n D F := by
  obtain ⟨⟨T, h1⟩, h2, h3⟩ := h
  exact ⟨⟨T, c.has h1 ha⟩, h2.chg c hd, h3⟩
theorem IntOf.lt {w : World} {a : Nat} {neg : Bool} {s : Value} {len n : Nat} {D : Nat → Nat} {F : List Nat} (h : IntOf w a neg s len n D F) : a < w.heap.size := let ⟨⟨_, h⟩, _⟩ := h; h.lt

/-- what a call that answers its own Int z leaves -/
def IPost (z : Nat) (F : List Nat) (w : World) (R : Bool → Nat → (Nat → Nat) → Prop) (e : Ending) (w' : World) : Prop :=
  ∃ neg p len n D F', e = .returned (.pointer (some ⟨z, 0, none⟩)) ∧ IntOf w' z neg (.slice p len n) len n D F' ∧ Chg (z :: F) w w' ∧ (∀ b, b ∈ F' → b ∈ F ∨ w.heap.size ≤ b) ∧ Hid (R neg len D)

set_option maxRecDepth 100000 in
set_option maxHeartbeats 1000000 in
theorem Lsh_walk (z x zl zn m xn q r : Nat) (zs xs : Value) (Z X : Nat → Nat) (Fz Fx : List Nat) (zneg xneg : Bool) (w : World)
    (hz : IntOf w z zneg zs zl zn Z Fz) (hx : IntOf w x xneg xs m xn X Fx) (h1 : 1 ≤ m) (hr1 : 1 ≤ r) (hr : r < 64) (hm : m + q + 1 ≤ 1000000) (hdis : Fx = Fz ∨ ∀ b, b ∈ Fx → b ∉ Fz) (hxF : x ∉ Fz) :
    Calls Tryz.prog 89 #[.pointer (some ⟨z, 0, none⟩), .pointer (some ⟨x, 0, none⟩), .int .u64 ((64 * q + r : Nat) : Int)] w
      (IPost z Fz w fun neg len D => neg = xneg ∧ len = nlen (shD m q r X) (m + q + 1) ∧ ∀ j, j < m + q + 1 → D j = shD m q r X j) := by
  have hlt := hz.lt
  obtain ⟨⟨T, hzc⟩, hz, hzF⟩ := hz
  obtain ⟨⟨T', hxc⟩, hx, _⟩ := hx
  have cz1 : w.cell? ⟨z, 1, none⟩ = some zs := by rw [hzc.cell]; rfl
  have cx1 : w.cell? ⟨x, 1, none⟩ = some xs := by rw [hxc.cell]; rfl
  obtain ⟨s, hs⟩ : ∃ s, ((64 * q + r : Nat) : Int) = s := ⟨_, rfl⟩
  have hL := lsh_walk zs zl zn Z Fz xs m xn X Fx w.drew hz hx h1 q r hr1 hr hm hdis
  rw [hs] at hL ⊢
  clear hs
  go_enter Tryz.func89, Tryz.ntmps89
  go_wp2_with fail
  go_region_with (go_at_call 129; refine hL.mono ?_; rintro e w1 ⟨p1, len, n1, D1, F1, rfl, hsl, hc, hf, hR⟩; have g1 : w1.cell? ⟨z, 1, none⟩ = some zs := (by rw [(hc.has hzc.drew hzF).cell]; rfl); have g3 := (hc.has hzc.drew hzF).free 1; have g4 : w1.cell? ⟨z, 0, none⟩ = some (.bool zneg) := (by rw [(hc.has hzc.drew hzF).cell]; rfl); have g5 := (hc.has hzc.drew hzF).free 0; have g6 : w1.cell? ⟨x, 0, none⟩ = some (.bool xneg) := (by rw [(hc.has hxc.drew hxF).cell]; rfl))
  all_goals
    clear hL
    go_wp2
    go_ret
    have hI := ((hc.has hzc.drew hzF).setSame 1 (.slice p1 len n1)).setSame 0 (.bool xneg)
    have hC : Chg (z :: Fz) w ((w1.setCell ⟨z, 1, none⟩ (.slice p1 len n1)).setCell ⟨z, 0, none⟩ (.bool xneg)) :=
      (((Chg.refl [] w).drew.comp hc (by simp) (fun y hy _ => List.mem_cons_of_mem _ hy)).setCell (.inl (by simp)) _).setCell (.inl (by simp)) _
    have hzs : ∀ b, b ∈ F1 → b ≠ z := fun b hb e => by
      subst e
      rcases hf b hb with h | h
      · exact hzF h
      · have : w.drew.heap.size = w.heap.size := rfl
        omega
    refine ⟨xneg, p1, len, n1, D1, F1, rfl, ⟨⟨T, hI⟩, (hsl.setCell (fun b hb => hzs b hb) _).setCell (fun b hb => hzs b hb) _, fun h => hzs z h rfl⟩, hC, hf, Lib.hid ⟨rfl, hR.out⟩⟩
end Go.Proofs
