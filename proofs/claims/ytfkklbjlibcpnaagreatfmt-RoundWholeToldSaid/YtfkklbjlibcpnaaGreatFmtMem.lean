/- Proved here: blocks of memory, rows of words, slices of words, for every input that the statements name. -/
import Derived.WalkKit
import Derived.Deep.Draws
import Derived.Laws.CopyOwn
import Derived.Lib.SliceRun
namespace Go.PB
open Go Go.RowKit

/-- block b holds the object o -/
def Has (w : World) (b : Nat) (o : Obj) : Prop := w.heap[b]? = some o

variable {w w' w'' : World} {b k n : Nat} {o o' : Obj} {cs : Array Value} {T : TypeId} {f : Nat × Nat} {v : Value} {a : Addr} {S S' : List Nat}

theorem Has.cell (h : Has w b (.cells cs T f)) (k : Nat) : w.cell? ⟨b, k, none⟩ = cs[k]? := by
  unfold Has at h
  simp [World.cell?, h]

theorem Has.free (h : Has w b (.cells cs T (0, 0))) (k : Nat) : w.frozen? ⟨b, k, none⟩ = false := by
  unfold Has at h
  simp [World.frozen?, h]

theorem Has.lt (h : Has w b o) : b < w.heap.size := by
  unfold Has at h
  rcases Nat.lt_or_ge b w.heap.size with h1 | h1
  · exact h1
  · rw [Array.getElem?_eq_none h1] at h; cases h

theorem Has.shape (h : Has w b (.cells cs T f)) : w.shape? b = some (T, cs.size) := by
  unfold Has at h
  simp [World.shape?, h]

theorem Has.setSame (h : Has w b (.cells cs T f)) (k : Nat) (v : Value) : Has (w.setCell ⟨b, k, none⟩ v) b (.cells (cs.setIfInBounds k v) T f) := by
  unfold Has at h ⊢
  simp [World.setCell, Array.getElem?_modify, h]

theorem Has.setOther (h : Has w b o) (hb : b ≠ a.block) (v : Value) : Has (w.setCell a v) b o := by
  unfold Has at h ⊢
  rw [Below.heap_setCell _ _ _ _ hb]; exact h

theorem Has.alloc (h : Has w b o) (o' : Obj) : Has (w.alloc o') b o := by
  have := h.lt
  unfold Has at h ⊢
  rw [Below.heap_alloc _ _ _ this]; exact h

theorem Has.new (w : World) (o : Obj) : Has (w.alloc o) w.heap.size o := by
  unfold Has World.alloc
  simp

theorem Has.drew (h : Has w b o) : Has w.drew b o := h
theorem Has.drewN (h : Has w b o) (n : Nat) : Has (w.drewN n) b o := h
theorem Has.inj (h : Has w b o) (h' : Has w b o') : o = o' := by
  unfold Has at h h'
  rw [h] at h'; exact Option.some.inj h'

/-- of what w had, only the blocks in S may have turned; blocks may have come -/
structure Chg (S : List Nat) (w w' : World) : Prop where
  os : w'.os = w.os
  tape : w'.tape = w.tape
  output : w'.output = w.output
  size : w.heap.size ≤ w'.heap.size
  block : ∀ k, k < w.heap.size → k ∉ S → w'.heap[k]? = w.heap[k]?

theorem Chg.refl (S : List Nat) (w : World) : Chg S w w := ⟨rfl, rfl, rfl, Nat.le_refl _, fun _ _ _ => rfl⟩
theorem Chg.trans (h : Chg S w w') (k : Chg S w' w'') : Chg S w w'' :=
  ⟨k.os.trans h.os, k.tape.trans h.tape, k.output.trans h.output, Nat.le_trans h.size k.size,
    fun i hi hs => (k.block i (Nat.lt_of_lt_of_le hi h.size) hs).trans (h.block i hi hs)⟩
theorem Chg.mono (h : Chg S w w') (hs : ∀ k, k ∈ S → k < w.heap.size → k ∈ S') : Chg S' w w' :=
  ⟨h.os, h.tape, h.output, h.size, fun k hk hk' => h.block k hk (fun e => hk' (hs k e hk))⟩
theorem Chg.has (h : Chg S w w') (hh : Has w b o) (hb : b ∉ S) : Has w' b o := by
  have hl := hh.lt
  unfold Has at hh ⊢
  rw [h.block b hl hb]; exact hh
theorem Chg.alloc (h : Chg S w w') (o : Obj) : Chg S w (w'.alloc o) :=
  h.trans ⟨rfl, rfl, rfl, by simp, fun k hk _ => Below.heap_alloc _ _ _ hk⟩
theorem Chg.drew (h : Chg S w w') : Chg S w w'.drew := ⟨h.os, h.tape, h.output, h.size, h.block⟩
theorem Chg.drewN (h : Chg S w w') (n : Nat) : Chg S w (w'.drewN n) := ⟨h.os, h.tape, h.output, h.size, h.block⟩
/-- a store into a block of S, or into one that w had not -/
theorem Chg.setCell (h : Chg S w w') {a : Addr} (ha : a.block ∈ S ∨ w.heap.size ≤ a.block) (v : Value) : Chg S w (w'.setCell a v) :=
  ⟨h.os, h.tape, h.output, by simpa [World.setCell] using h.size, fun k hk hs => by
    rw [Below.heap_setCell _ _ _ _ (by rintro rfl; rcases ha with ha | ha; exact hs ha; omega)]; exact h.block k hk hs⟩
theorem Chg.below (h : Chg [] w w') : Below w.heap.size w w' :=
  ⟨h.os, h.tape, h.output, h.size, fun k hk => h.block k hk (by simp)⟩
/-- behind a change of S another one, of what w had not -/
theorem Chg.then (h : Chg S w w') (k : Chg S' w' w'') (hs : ∀ x, x ∈ S' → x < w.heap.size → x ∈ S) : Chg S w w'' :=
  ⟨k.os.trans h.os, k.tape.trans h.tape, k.output.trans h.output, Nat.le_trans h.size k.size,
    fun i hi hn => (k.block i (Nat.lt_of_lt_of_le hi h.size) (fun e => hn (hs i e hi))).trans (h.block i hi hn)⟩

theorem Chg.comp {R : List Nat} (h : Chg S w w') (k : Chg S' w' w'') (hs : ∀ x, x ∈ S → x < w.heap.size → x ∈ R) (hs' : ∀ x, x ∈ S' → x < w.heap.size → x ∈ R) : Chg R w w'' :=
  ⟨k.os.trans h.os, k.tape.trans h.tape, k.output.trans h.output, Nat.le_trans h.size k.size,
    fun i hi hn => (k.block i (Nat.lt_of_lt_of_le hi h.size) (fun e => hn (hs' i e hi))).trans (h.block i hi (fun e => hn (hs i e hi)))⟩

/-- n words -/
def wcells (n : Nat) (D : Nat → Nat) : Array Value := ((List.range n).map (fun j => Value.int .u64 (D j : Int))).toArray
theorem wcells_get {n : Nat} (D : Nat → Nat) {k : Nat} (h : k < n) : (wcells n D)[k]? = some (.int .u64 (D k)) := by
  simp [wcells, h]
theorem wcells_congr {n : Nat} {D D' : Nat → Nat} (h : ∀ j, j < n → D j = D' j) : wcells n D = wcells n D' := by
  unfold wcells
  congr 1
  apply List.map_congr_left
  intro j hj
  rw [h j (by simpa using hj)]
theorem wcells_set (n : Nat) (D : Nat → Nat) (k v : Nat) : (wcells n D).setIfInBounds k (.int .u64 v) = wcells n (fun j => if j = k then v else D j) := by
  apply Array.ext_getElem?
  intro j
  simp only [Array.getElem?_setIfInBounds, wcells, List.getElem?_toArray, List.getElem?_map, List.size_toArray, List.length_map, List.length_range]
  by_cases hj : j < n
  · by_cases e : k = j
    · subst e; simp [hj]
    · simp [e, Ne.symm e, hj]
  · by_cases e : k = j
    · subst e; simp [hj]
    · simp [e, hj]
theorem wcells_size (n : Nat) (D : Nat → Nat) : (wcells n D).size = n := by simp [wcells]

/-- block b is a row of n words D 0, D 1, .. -/
def Row (w : World) (b n : Nat) (D : Nat → Nat) : Prop := ∃ T, Has w b (.cells (wcells n D) T (0, 0))
variable {D D' : Nat → Nat} {m : Nat}
theorem Row.lt (h : Row w b n D) : b < w.heap.size := let ⟨_, h⟩ := h; h.lt
theorem Row.congr (h : Row w b n D) (hd : ∀ j, j < n → D j = D' j) : Row w b n D' := let ⟨T, h⟩ := h; ⟨T, by rw [← wcells_congr hd]; exact h⟩
theorem Row.cell (h : Row w b n D) {k : Nat} (hk : k < n) : w.cell? ⟨b, k, none⟩ = some (.int .u64 (D k)) := by
  obtain ⟨T, h⟩ := h
  rw [h.cell, wcells_get _ hk]
theorem Row.free (h : Row w b n D) (k : Nat) : w.frozen? ⟨b, k, none⟩ = false := let ⟨_, h⟩ := h; h.free k
theorem Row.set (h : Row w b n D) (k : Nat) (v : Nat) : Row (w.setCell ⟨b, k, none⟩ (.int .u64 v)) b n (fun j => if j = k then v else D j) := by
  obtain ⟨T, h⟩ := h
  exact ⟨T, by rw [← wcells_set]; exact h.setSame k _⟩
theorem Row.setOther (h : Row w b n D) (hb : b ≠ a.block) (v : Value) : Row (w.setCell a v) b n D := let ⟨T, h⟩ := h; ⟨T, h.setOther hb v⟩
theorem Row.alloc (h : Row w b n D) (o : Obj) : Row (w.alloc o) b n D := let ⟨T, h⟩ := h; ⟨T, h.alloc o⟩
theorem Row.drew (h : Row w b n D) : Row w.drew b n D := h
theorem Row.drewN (h : Row w b n D) (k : Nat) : Row (w.drewN k) b n D := h
theorem Row.new (w : World) (n : Nat) (D : Nat → Nat) (T : TypeId) : Row (w.alloc (.cells (wcells n D) T (0, 0))) w.heap.size n D := ⟨T, Has.new _ _⟩
theorem Chg.row (h : Chg S w w') (hh : Row w b n D) (hb : b ∉ S) : Row w' b n D := let ⟨T, hh⟩ := hh; ⟨T, h.has hh hb⟩
theorem Row.size (h : Row w b n D) (h' : Row w b m D') : n = m := by
  obtain ⟨T, h⟩ := h
  obtain ⟨T', h'⟩ := h'
  have e := h.inj h'
  simp only [Obj.cells.injEq] at e
  have := congrArg Array.size e.1
  simpa [wcells] using this

/-- the number of n digits -/
def val : Nat → (Nat → Nat) → Nat
  | 0, _ => 0
  | n + 1, D => val n D + D n * 2 ^ (64 * n)
theorem val_congr : ∀ {n : Nat} {D D' : Nat → Nat}, (∀ j, j < n → D j = D' j) → val n D = val n D'
  | 0, _, _, _ => rfl
  | n + 1, D, D', h => by
    unfold val
    rw [val_congr (fun j hj => h j (by omega)), h n (by omega)]
theorem val_lt : ∀ {n : Nat} {D : Nat → Nat}, (∀ j, j < n → D j < 2 ^ 64) → val n D < 2 ^ (64 * n)
  | 0, _, _ => by simp [val]
  | n + 1, D, h => by
    unfold val
    have h1 := val_lt (n := n) (D := D) (fun j hj => h j (by omega))
    have h2 := h n (by omega)
    have h3 : D n * 2 ^ (64 * n) ≤ (2 ^ 64 - 1) * 2 ^ (64 * n) := Nat.mul_le_mul_right _ (by omega)
    have h4 : 2 ^ (64 * (n + 1)) = 2 ^ 64 * 2 ^ (64 * n) := by rw [← Nat.pow_add]; congr 1; omega
    have h5 : (2 ^ 64 - 1) * 2 ^ (64 * n) + 2 ^ (64 * n) = 2 ^ 64 * 2 ^ (64 * n) := by rw [← Nat.succ_mul]
    omega

theorem Has.setRow (h : Has w b (.cells cs T f)) (cs' : Array Value) : Has (w.setRow b cs') b (.cells cs' T f) := by
  unfold Has at h ⊢
  simp [World.setRow, Array.getElem?_modify, h]
theorem Chg.setRow (w : World) (b : Nat) (cs' : Array Value) : Chg [b] w (w.setRow b cs') :=
  ⟨rfl, rfl, rfl, by simp [World.setRow], fun k _ hs => setRow_other w b k cs' (by rintro rfl; exact hs (by simp))⟩

/-- m words laid into a row from place o on -/
def lay (o m : Nat) (X D : Nat → Nat) : Nat → Nat := fun j => if o ≤ j ∧ j < o + m then X (j - o) else D j
theorem wcells_lay (n o m : Nat) (X D : Nat → Nat) (h : o + m ≤ n) :
    ((wcells n D).toList.take o ++ ((wcells m X).toList ++ (wcells n D).toList.drop (o + (wcells m X).toList.length))).toArray = wcells n (lay o m X D) := by
  apply Array.ext_getElem?
  intro j
  simp only [wcells, List.getElem?_toArray, List.getElem?_append, List.length_take, List.length_map, List.length_range, List.getElem?_map, List.getElem?_take, List.getElem?_drop, lay]
  rw [Nat.min_eq_left (by omega)]
  by_cases h1 : j < o
  · rw [if_pos h1, if_pos h1]
    simp [show j < n by omega, show ¬ o ≤ j by omega]
  · rw [if_neg h1]
    by_cases h2 : j < o + m
    · rw [if_pos (by omega)]
      simp [show j < n by omega, show o ≤ j by omega, show j - o < m by omega, h2]
    · rw [if_neg (by omega)]
      rw [show o + m + (j - o - m) = j by omega]
      by_cases h3 : j < n
      · simp [h3, show ¬ j < o + m by omega]
      · simp [h3]

variable {P : Program}
/-- copy of words into a row -/
theorem copy_words {dT sT E : TypeId} (hu : P.underlying dT = some (.slice E)) (hs : (P.info? E).map (·.size) = some 1) {zb zn zo dLen dCap xb xo sLen sCap m : Nat} {D X : Nat → Nat}
    (hrow : Row w zb zn D) (hm : m = Nat.min sLen dLen) (hx : ∀ j, j < m → w.cell? ⟨xb, xo + j, none⟩ = some (.int .u64 (X j))) (hfit : zo + m ≤ zn) :
    ∃ w1, (∀ ty, (Builtin.copy_ #[dT, sT] ty #[.slice (some ⟨zb, zo, none⟩) dLen dCap, .slice (some ⟨xb, xo, none⟩) sLen sCap]).run P w = .ok (.int .i64 m) w1) ∧
      Row w1 zb zn (lay zo m X D) ∧ Chg [zb] w w1 := by
  obtain ⟨T, h⟩ := hrow
  have hl : (wcells m X).toList.length = m := by simp [wcells]
  refine ⟨w.setRow zb ((wcells zn D).toList.take zo ++ ((wcells m X).toList ++ (wcells zn D).toList.drop (zo + (wcells m X).toList.length))).toArray, fun ty => ?_, ⟨T, ?_⟩, ?_⟩
  rotate_left
  · rw [← wcells_lay zn zo m X D hfit]; exact h.setRow _
  · exact Chg.setRow _ _ _
  · have := run_copy_row (P := P) w dT sT ty E zb zo dLen dCap ⟨xb, xo, none⟩ sLen sCap (wcells zn D) T (wcells m X).toList hu hs h (by rw [hl, hm])
      (fun j v hj => by
        have hj' : j < m := by
          have := (List.getElem?_eq_some_iff.1 hj).1; omega
        have : v = .int .u64 (X j) := by
          simp [wcells, hj'] at hj
          exact hj.symm
        rw [this, ← hx j hj']
        congr 1
        unfold Addr.add
        split <;> simp_all)
      (by rw [hl, wcells_size]; exact hfit)
      (fun v hv => by
        simp only [wcells, List.mem_map] at hv
        obtain ⟨_, _, rfl⟩ := hv
        rfl)
    rw [this, hl, List.append_assoc]
    rfl
theorem copy_none {dT sT E : TypeId} (hu : P.underlying dT = some (.slice E)) (hs : (P.info? E).map (·.size) = some 1) (w : World) {dp sp : Option Addr} {dLen dCap sLen sCap : Nat}
    (hm : Nat.min sLen dLen = 0) (ty : TypeId) : (Builtin.copy_ #[dT, sT] ty #[.slice dp dLen dCap, .slice sp sLen sCap]).run P w = .ok (.int .i64 0) w :=
  run_copy_none (P := P) w dT sT ty E dp sp dLen dCap sLen sCap hu hs hm

theorem madeCells_words (n : Nat) : madeCells #[.int .u64 0] n = wcells n (fun _ => 0) := by
  apply Array.ext_getElem?
  intro j
  simp only [madeCells, wcells, List.getElem?_toArray, List.getElem?_map, Array.getElem?_map]
  by_cases h : j < n
  · simp [h, Nat.mod_one]
  · simp [h]
/-- a new row of words -/
theorem make_words {t E : TypeId} {i : TypeInfo} (ht : P.underlying t = some (.slice E)) (hi : P.info? E = some i) (hz : i.zero = some (.int .u64 0)) (hsz : i.size = 1) (hby : i.bytes = 8)
    (w : World) (l c : Nat) (hlc : l ≤ c) (hc : c ≤ 1099511627776) :
    (Instr.makeSlice t (.int .i64 l) (.int .i64 c)).run P w = .ok (.slice (some ⟨w.heap.size, 0, none⟩) l c) (w.alloc (.cells (wcells c (fun _ => 0)) E (0, 0))) := by
  have := run_make (P := P) w t E i (.int .u64 0) ht hi hz .i64 .i64 (l : Int) (c : Int) (by omega) (by omega) (by rw [hby]; omega) (by omega)
  rw [this, hsz]
  simp only [Int.toNat_natCast, Value.cells, Nat.mul_one, madeCells_words]

/-- clear of words -/
theorem clear_words {t E : TypeId} (ht : P.underlying t = some (.slice E)) (hv : ∀ w, (zeroValue E).run P w = .ok (.int .u64 0) w) {zb zn zo m cap : Nat} {D : Nat → Nat}
    (hrow : Row w zb zn D) (hfit : zo + m ≤ zn) :
    ∃ w1, (∀ ty, (Builtin.clear_ #[t] ty #[.slice (some ⟨zb, zo, none⟩) m cap]).run P w = .ok (.tuple #[]) w1) ∧ Row w1 zb zn (lay zo m (fun _ => 0) D) ∧ Chg [zb] w w1 := by
  rcases Nat.eq_zero_or_pos m with rfl | hm
  · exact ⟨w, fun ty => by simp [Builtin.clear_, run_underlying ht, Result.andThen], hrow.congr fun j _ => by simp [lay]; omega, Chg.refl _ _⟩
  refine ⟨_, fun ty => Lib.run_clear_slice w t E ty (.int .u64 0) ht hv rfl rfl zb zo m cap hm (fun j hj => by rw [hrow.cell (by omega)]; rfl) (fun j _ => hrow.free _), ?_, ?_⟩
  · have : ∀ (m o : Nat) (w : World) (D : Nat → Nat), Row w zb zn D → Row (w.setCells zb o (List.replicate m (.int .u64 0))) zb zn (lay o m (fun _ => 0) D) := by
      intro m
      induction m with
      | zero => intro o w D h; exact h.congr fun j _ => by simp [lay]; omega
      | succ m ih =>
        intro o w D h
        simp only [List.replicate_succ, World.setCells]
        refine (ih (o + 1) _ _ (h.set o 0)).congr fun j _ => ?_
        simp only [lay]
        by_cases e : j = o
        · subst e; simp
        · by_cases h2 : o + 1 ≤ j ∧ j < o + 1 + m
          · rw [if_pos h2, if_pos (by omega)]
          · rw [if_neg h2, if_neg e, if_neg (by omega)]
    exact this _ _ _ _ hrow
  · have : ∀ (m o : Nat) (w0 w : World), Chg [zb] w0 w → Chg [zb] w0 (w.setCells zb o (List.replicate m (.int .u64 0))) := by
      intro m
      induction m with
      | zero => intro o w0 w h; exact h
      | succ m ih =>
        intro o w0 w h
        simp only [List.replicate_succ, World.setCells]
        exact ih _ _ _ (h.setCell (.inl (by simp)) _)
    exact this _ _ _ _ (Chg.refl _ _)

/-- a slice of words from the begin of its own row (n words in all), or nil; F: its block -/
def Sl (w : World) (s : Value) (len n : Nat) (D : Nat → Nat) (F : List Nat) : Prop :=
  (∀ j, j < n → D j < 2 ^ 64) ∧ len ≤ n ∧ n ≤ 1099511627776 ∧
    ((s = .slice none 0 0 ∧ n = 0 ∧ F = []) ∨ ∃ b, s = .slice (some ⟨b, 0, none⟩) len n ∧ Row w b n D ∧ F = [b])
theorem Sl.nil (w : World) (D : Nat → Nat) : Sl w (.slice none 0 0) 0 0 D [] := ⟨by omega, by omega, by omega, .inl ⟨rfl, rfl, rfl⟩⟩
variable {F : List Nat} {s : Value} {len : Nat}
theorem Sl.chg (h : Sl w s len n D F) (c : Chg S w w') (hd : ∀ b, b ∈ F → b ∉ S) : Sl w' s len n D F := by
  obtain ⟨h1, h2, h3, h⟩ := h
  refine ⟨h1, h2, h3, ?_⟩
  rcases h with h | ⟨b, rfl, hr, rfl⟩
  · exact .inl h
  · exact .inr ⟨b, rfl, c.row hr (hd b (by simp)), rfl⟩
theorem Sl.setCell (h : Sl w s len n D F) {a : Addr} (ha : ∀ b, b ∈ F → b ≠ a.block) (v : Value) : Sl (w.setCell a v) s len n D F := by
  obtain ⟨h1, h2, h3, h⟩ := h
  refine ⟨h1, h2, h3, ?_⟩
  rcases h with h | ⟨b, rfl, hr, rfl⟩
  · exact .inl h
  · exact .inr ⟨b, rfl, hr.setOther (ha b (by simp)) v, rfl⟩
theorem Sl.lt (h : Sl w s len n D F) : ∀ b, b ∈ F → b < w.heap.size := by
  obtain ⟨h1, h2, h3, h⟩ := h
  rcases h with ⟨_, _, rfl⟩ | ⟨b, rfl, hr, rfl⟩
  · simp
  · intro k hk; simp at hk; subst hk; exact hr.lt

end Go.PB
