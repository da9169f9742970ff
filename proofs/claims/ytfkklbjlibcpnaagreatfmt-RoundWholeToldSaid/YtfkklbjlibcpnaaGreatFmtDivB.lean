/- Proved here: a walk of QuoRem of 2^65 and 3, for every input that the statements name. -/
import Derived.Test.YtfkklbjlibcpnaaGreatFmtDivA
import Derived.Deep.RegionHeld3
namespace Go.Proofs
open Go Go.RowKit Go.PB

def QRPost (z r : Nat) (w : World) (e : Ending) (w' : World) : Prop :=
  ∃ zb zn D rb rn, e = .returned (.tuple #[.pointer (some ⟨z, 0, none⟩), .pointer (some ⟨r, 0, none⟩)]) ∧
    IntOf w' z false (.slice (some ⟨zb, 0, none⟩) 1 zn) 1 zn D [zb] ∧ D 0 = 12297829382473034410 ∧ w.heap.size ≤ zb ∧
    Has w' r (.cells #[.bool false, .slice (some ⟨rb, 0, none⟩) 1 rn] 83 (0, 0)) ∧ Chg [z, r] w w'

theorem celld (w : World) (a : Addr) : w.drew.cell? a = w.cell? a := rfl
theorem cell01 (w : World) (b : Nat) (v : Value) : (w.setCell ⟨b, 0, none⟩ v).cell? ⟨b, 1, none⟩ = w.cell? ⟨b, 1, none⟩ := by
  simp only [World.cell?, World.setCell, Array.getElem?_modify]
  rcases h : w.heap[b]? with _ | o
  · simp
  · cases o <;> simp
theorem cello (w : World) (b c k j : Nat) (v : Value) (h : b ≠ c) : (w.setCell ⟨b, k, none⟩ v).cell? ⟨c, j, none⟩ = w.cell? ⟨c, j, none⟩ := by
  simp only [World.cell?, World.setCell, Array.getElem?_modify]
  rw [if_neg h]
def QRMid (z x y r : Nat) (Tx Ty : TypeId) (xs ys : Value) (w W2 : World) : Prop :=
  ∃ zb zn D rb rn, Has W2 z (.cells #[.bool false, .slice (some ⟨zb, 0, none⟩) 1 zn] 83 (0, 0)) ∧ Has W2 r (.cells #[.bool false, .slice (some ⟨rb, 0, none⟩) 1 rn] 83 (0, 0)) ∧ Has W2 x (.cells #[.bool false, xs] Tx (0, 0)) ∧ Has W2 y (.cells #[.bool false, ys] Ty (0, 0)) ∧
    Sl W2 (.slice (some ⟨zb, 0, none⟩) 1 zn) 1 zn D [zb] ∧ D 0 = 12297829382473034410 ∧ w.heap.size ≤ zb ∧ z < w.heap.size ∧ r < w.heap.size ∧ Chg [z, r] w W2

set_option maxRecDepth 100000 in
set_option maxHeartbeats 8000000 in
theorem QuoRem_c (z x y r xb xn yb yn : Nat) (X Y : Nat → Nat) (Tx Ty : TypeId) (w : World) (hz : Has w z (.cells #[.bool false, .slice none 0 0] 83 (0, 0))) (hr : Has w r (.cells #[.bool false, .slice none 0 0] 83 (0, 0)))
    (hx : Has w x (.cells #[.bool false, .slice (some ⟨xb, 0, none⟩) 2 xn] Tx (0, 0))) (hxr : Row w xb xn X) (hxn : 2 ≤ xn) (h0 : X 0 = 0) (h1 : X 1 = 2)
    (hy : Has w y (.cells #[.bool false, .slice (some ⟨yb, 0, none⟩) 1 yn] Ty (0, 0))) (hyr : Row w yb yn Y) (hyn : 1 ≤ yn) (hy0 : Y 0 = 3) (hzx : z ≠ x) (hzy : z ≠ y) (hzr : z ≠ r) (hrx : r ≠ x) (hry : r ≠ y) :
    Calls Tryz.prog 95 #[.pointer (some ⟨z, 0, none⟩), .pointer (some ⟨x, 0, none⟩), .pointer (some ⟨y, 0, none⟩), .pointer (some ⟨r, 0, none⟩)] w (QRPost z r w) := by
  have hD := div_c xb xn yb yn X Y w.drew hxr hxn h0 h1 hyr hyn hy0
  have cz1 : w.cell? ⟨z, 1, none⟩ = some (.slice none 0 0) := by rw [hz.cell]; rfl
  have cr1 : w.cell? ⟨r, 1, none⟩ = some (.slice none 0 0) := by rw [hr.cell]; rfl
  have cx1 : w.cell? ⟨x, 1, none⟩ = some (.slice (some ⟨xb, 0, none⟩) 2 xn) := by rw [hx.cell]; rfl
  have cy1 : w.cell? ⟨y, 1, none⟩ = some (.slice (some ⟨yb, 0, none⟩) 1 yn) := by rw [hy.cell]; rfl
  clear h0 h1 hy0
  have n1 : x ≠ z := hzx.symm
  have n2 : y ≠ z := hzy.symm
  have n3 : x ≠ r := hrx.symm
  have n4 : y ≠ r := hry.symm
  have n5 : r ≠ z := hzr.symm
  go_enter Tryz.func95, Tryz.ntmps95
  go_upto_region 1 with (fail)
  go_cut [] from 10 to 35 (fun wc => QRMid z x y r Tx Ty (.slice (some ⟨xb, 0, none⟩) 2 xn) (.slice (some ⟨yb, 0, none⟩) 1 yn) w wc)
  case first =>
    go_wp2_with fail
    go_region_with (go_at_call 140; refine hD.mono ?_; rintro e w1 ⟨zb, zn, D, rb, rn, D2, rfl, hzs, hD0, hrs, hc, hzb, hrb⟩; have hz1 := hc.has hz.drew (by simp); have hr1 := hc.has hr.drew (by simp); have hx1 := hc.has hx.drew (by simp); have hy1 := hc.has hy.drew (by simp); have g1 : w1.cell? ⟨z, 1, none⟩ = some (.slice none 0 0) := (by rw [hz1.cell]; rfl); have g2 := hz1.free 1; have g3 : w1.cell? ⟨r, 1, none⟩ = some (.slice none 0 0) := (by rw [hr1.cell]; rfl); have g4 := hr1.free 1; have g5 : w1.cell? ⟨x, 1, none⟩ = some (.slice (some ⟨xb, 0, none⟩) 2 xn) := (by rw [hx1.cell]; rfl); have g6 : w1.cell? ⟨y, 1, none⟩ = some (.slice (some ⟨yb, 0, none⟩) 1 yn) := (by rw [hy1.cell]; rfl))
    all_goals
      clear hD
      obtain ⟨W2, hW2⟩ : ∃ W2, (w1.setCell ⟨z, 1, none⟩ (.slice (some ⟨zb, 0, none⟩) 1 zn)).setCell ⟨r, 1, none⟩ (.slice (some ⟨rb, 0, none⟩) 1 rn) = W2 := ⟨_, rfl⟩
      rw [hW2]
      have z2 : Has W2 z (.cells #[.bool false, .slice (some ⟨zb, 0, none⟩) 1 zn] 83 (0, 0)) := by
        have := (hz1.setSame 1 (.slice (some ⟨zb, 0, none⟩) 1 zn)).setOther (a := ⟨r, 1, none⟩) hzr (.slice (some ⟨rb, 0, none⟩) 1 rn)
        rw [hW2] at this; simpa using this
      have r2 : Has W2 r (.cells #[.bool false, .slice (some ⟨rb, 0, none⟩) 1 rn] 83 (0, 0)) := by
        have := (hr1.setOther (a := ⟨z, 1, none⟩) hzr.symm (.slice (some ⟨zb, 0, none⟩) 1 zn)).setSame 1 (.slice (some ⟨rb, 0, none⟩) 1 rn)
        rw [hW2] at this; simpa using this
      have x2 := (hx1.setOther (a := ⟨z, 1, none⟩) hzx.symm (.slice (some ⟨zb, 0, none⟩) 1 zn)).setOther (a := ⟨r, 1, none⟩) hrx.symm (.slice (some ⟨rb, 0, none⟩) 1 rn)
      have y2 := (hy1.setOther (a := ⟨z, 1, none⟩) hzy.symm (.slice (some ⟨zb, 0, none⟩) 1 zn)).setOther (a := ⟨r, 1, none⟩) hry.symm (.slice (some ⟨rb, 0, none⟩) 1 rn)
      rw [hW2] at x2 y2
      have hl1 := hz1.lt
      have hl2 := hr1.lt
      have hlz := hz.lt
      have hlr := hr.lt
      have hsz : w.drew.heap.size = w.heap.size := rfl
      have hS2 : Sl W2 (.slice (some ⟨zb, 0, none⟩) 1 zn) 1 zn D [zb] := by rw [← hW2]; exact (hzs.setCell (by simp; omega) _).setCell (by simp; omega) _
      have hC2 : Chg [z, r] w W2 := by rw [← hW2]; exact (((Chg.refl [] w).drew.comp (R := [z, r]) hc (by simp) (by simp)).setCell (.inl (by simp)) _).setCell (.inl (by simp)) _
      go_wp2
      go_meet
      exact ⟨zb, zn, D, rb, rn, z2, r2, x2, y2, hS2, hD0, hzb, hlz, hlr, hC2⟩
  case rest =>
    obtain ⟨zb, zn, D, rb, rn, z2, r2, x2, y2, hS2, hD0, hzb, hlz, hlr, hC2⟩ := hcut
    clear hD cz1 cr1 cx1 cy1
    generalize wc = W2 at *
    have c1 : W2.cell? ⟨z, 1, none⟩ = some (.slice (some ⟨zb, 0, none⟩) 1 zn) := by rw [z2.cell]; rfl
    have c2 : W2.cell? ⟨r, 1, none⟩ = some (.slice (some ⟨rb, 0, none⟩) 1 rn) := by rw [r2.cell]; rfl
    have c3 : W2.cell? ⟨x, 0, none⟩ = some (.bool false) := by rw [x2.cell]; rfl
    have c4 : W2.cell? ⟨y, 0, none⟩ = some (.bool false) := by rw [y2.cell]; rfl
    have c5 : W2.cell? ⟨z, 0, none⟩ = some (.bool false) := by rw [z2.cell]; rfl
    have c6 : W2.cell? ⟨r, 0, none⟩ = some (.bool false) := by rw [r2.cell]; rfl
    have e1 := z2.free 0
    have e2 := r2.free 0
    have HS2 := Lib.hid hS2; have HC2 := Lib.hid hC2
    clear hS2 hC2
    go_wp2_with fail
    go_region_held3 (fun w' => w'.cell? ⟨z, 1, none⟩ = some (.slice (some ⟨zb, 0, none⟩) 1 zn) ∧ w'.cell? ⟨r, 1, none⟩ = some (.slice (some ⟨rb, 0, none⟩) 1 rn) ∧ w'.cell? ⟨x, 0, none⟩ = some (.bool false) ∧ w'.cell? ⟨y, 0, none⟩ = some (.bool false)) (first | (simp [cell01, cello, *]; done)) (first | fail)
    all_goals go_wp2_with fail
    all_goals
      go_ret2
      have hS2 := HS2.out
      have hC2 := HC2.out
      have hsz := hC2.size
      have z3 := (z2.setSame 0 (.bool false)).setOther (a := ⟨r, 0, none⟩) hzr (.bool false)
      have r3 := (r2.setOther (a := ⟨z, 0, none⟩) hzr.symm (.bool false)).setSame 0 (.bool false)
      exact ⟨zb, zn, D, rb, rn, rfl, ⟨⟨83, z3.drew⟩, (((hS2.setCell (a := ⟨z, 0, none⟩) (by simp; omega) (.bool false)).setCell (a := ⟨r, 0, none⟩) (by simp; omega) (.bool false)).chg ((Chg.refl [] _).drew) (by simp)), by simp; omega⟩, hD0, hzb, r3.drew, (((hC2.setCell (.inl (by simp)) _).setCell (.inl (by simp)) _).drew)⟩
end Go.Proofs
