/-
  AH: what the model's own small programs come to: types' facts, loads and stores of cells.
-/
import Derived.Test.YtemibbcfbhafeaaDoorAhStep
namespace Go.AH
open Go
variable {P : Program} {M : Mp} {H : Heap} {W W' : World}

theorem run_info {t : TypeId} {i : TypeInfo} (h : P.info? t = some i) (w : World) : (typeInfo t).run P w = .ok i w := by simp [typeInfo, h]
theorem run_size {t : TypeId} {k : Nat} (h : sz P t = some k) (w : World) : (Go.sizeOf t).run P w = .ok k w := by
  unfold sz at h
  cases hi : P.info? t with
  | none => rw [hi] at h; cases h
  | some i => rw [hi] at h; cases h; simp [Go.sizeOf, typeInfo, hi]
theorem run_under {t : TypeId} {d : TypeDesc} (h : P.underlying t = some d) (w : World) : (underlying t).run P w = .ok d w := by simp [underlying, h]
theorem run_isAgg {t : TypeId} {b : Bool} (h : isAggA P t = some b) (w : World) : (isAgg t).run P w = .ok b w := by
  unfold isAggA at h
  cases hu : P.underlying t with
  | none => rw [hu] at h; cases h
  | some d => rw [hu] at h; cases d <;> (cases h; simp [isAgg, underlying, hu])
theorem zeroA_spec {t : TypeId} {c : Array Value} (h : zeroA P t = some c) : ∃ i z, P.info? t = some i ∧ i.zero = some z ∧ z.cells = c ∧ c.toList.all isBase = true := by
  unfold zeroA at h
  cases hi : P.info? t with
  | none => rw [hi] at h; cases h
  | some i =>
    rw [hi] at h
    cases hz : i.zero with
    | none => simp [hz] at h
    | some z =>
      simp only [Option.bind_some, hz] at h
      split at h
      · cases h; exact ⟨i, z, rfl, hz, rfl, by assumption⟩
      · cases h
theorem zeroV_spec {t : TypeId} {v : Value} (h : zeroV P t = some v) : ∃ i, P.info? t = some i ∧ i.zero = some v ∧ v.cells.toList.all isBase = true := by
  unfold zeroV at h
  cases hi : P.info? t with
  | none => rw [hi] at h; cases h
  | some i =>
    rw [hi] at h
    cases hz : i.zero with
    | none => simp [hz] at h
    | some z =>
      simp only [Option.bind_some, hz] at h
      split at h
      · cases h; exact ⟨i, rfl, hz, by assumption⟩
      · cases h
theorem run_zero {t : TypeId} {i : TypeInfo} {z : Value} (hi : P.info? t = some i) (hz : i.zero = some z) (w : World) : (zeroValue t).run P w = .ok z w := by simp [zeroValue, typeInfo, hi, hz]

/-! ### loads -/
theorem run_loads : ∀ (n : Nat) (a : Addr) (i : Nat) (acc : Array Value) (l : List Value), l.length = n → (∀ j v, l[j]? = some v → W.cell? (a.add (i + j)) = some v) →
    (loadCellsFrom a i n acc).run P W = .ok (acc ++ l.toArray) W
  | 0, a, i, acc, l, hl, h => by
    have : l = [] := List.eq_nil_of_length_eq_zero hl
    subst this
    simp [loadCellsFrom]
  | n + 1, a, i, acc, l, hl, h => by
    cases l with
    | nil => simp at hl
    | cons v l =>
      have h0 := h 0 v rfl
      rw [Nat.add_zero] at h0
      have ih := run_loads n a (i + 1) (acc.push v) l (by simpa using hl) (fun j u hu => by
        have := h (j + 1) u (by simpa using hu)
        rwa [show i + (j + 1) = i + 1 + j from by omega] at this)
      simp [loadCellsFrom, h0, ih]

theorem cell_of {b : Nat} {c : Array Value} {t : TypeId} {fz : Nat × Nat} (h : W.heap[b]? = some (.cells c t fz)) (o : Nat) : W.cell? ⟨b, o, none⟩ = c[o]? := by simp [World.cell?, h]

theorem run_loadRow {b o n : Nat} {c : Array Value} {t : TypeId} {fz : Nat × Nat} (h : W.heap[b]? = some (.cells c t fz)) (hn : o + n ≤ c.size) : (loadCells ⟨b, o, none⟩ n).run P W = .ok (c.extract o (o + n)) W := by
  have := run_loads (P := P) (W := W) n ⟨b, o, none⟩ 0 #[] (c.extract o (o + n)).toList (by simp; omega) (fun j v hv => by
    rw [Addr.add_lit, cell_of h]
    simp only [Array.getElem?_toList] at hv
    rw [Array.getElem?_extract] at hv
    split at hv
    · rw [Nat.zero_add]; exact hv
    · cases hv)
  rw [Array.toArray_toList, Array.empty_append] at this
  exact this

/-- The canonical cells from o on, and the model's. -/
theorem CR.extract {d o n : Nat} {c c' : Array Value} (h : CR P M d c c') (hn : o + n ≤ c.size) : d + o + n ≤ c'.size ∧ AR P M (c.extract o (o + n)) (c'.extract (d + o) (d + o + n)) := by
  have h1 := h.1
  refine ⟨by omega, by simp; omega, fun i hi hi' => ?_⟩
  simp only [Array.size_extract] at hi hi'
  obtain ⟨v', e, r⟩ := h.2 (o + i) c[o + i] (Array.getElem?_eq_getElem (by omega))
  simp only [Array.getElem_extract]
  obtain ⟨h2, e2⟩ := Array.getElem?_eq_some_iff.1 e
  have : c'[d + o + i]'(by omega) = v' := by simpa [Nat.add_assoc] using e2
  rw [this]
  exact r

theorem CR.get {d o : Nat} {c c' : Array Value} (h : CR P M d c c') {v : Value} (hv : c[o]? = some v) : ∃ v', c'[d + o]? = some v' ∧ VR P M v v' := h.2 o v hv

/-! ### stores -/
def setBlk (w : World) (b : Nat) (o : Obj) : World := { w with heap := w.heap.setIfInBounds b o }
theorem setBlk_get (w : World) (b : Nat) (o : Obj) (h : b < w.heap.size) : (setBlk w b o).heap[b]? = some o := by simp [setBlk, h]
theorem setBlk_other (w : World) (b k : Nat) (o : Obj) (h : k ≠ b) : (setBlk w b o).heap[k]? = w.heap[k]? := by simp only [setBlk]; rw [Array.getElem?_setIfInBounds, if_neg (by omega)]
theorem setBlk_size (w : World) (b : Nat) (o : Obj) : (setBlk w b o).heap.size = w.heap.size := by simp [setBlk]
theorem setBlk_same (w : World) (b : Nat) (o : Obj) : Same w (setBlk w b o) := ⟨rfl, rfl, rfl, Nat.le_refl _⟩
theorem setBlk_self {w : World} {b : Nat} {o : Obj} (h : w.heap[b]? = some o) : setBlk w b o = w := by
  unfold setBlk
  have : w.heap.setIfInBounds b o = w.heap := by
    apply Array.ext_getElem?
    intro i
    rw [Array.getElem?_setIfInBounds]
    split
    · rename_i e; subst e; rw [h]; obtain ⟨hl, _⟩ := Array.getElem?_eq_some_iff.1 h; simp [hl]
    · rfl
  rw [this]
theorem setBlk_setBlk (w : World) (b : Nat) (o o' : Obj) : setBlk (setBlk w b o) b o' = setBlk w b o' := by
  unfold setBlk
  congr 1
  apply Array.ext_getElem?
  intro i
  simp only [Array.getElem?_setIfInBounds, Array.size_setIfInBounds]
  split <;> rfl

theorem setCell_blk {w : World} {b o : Nat} {c : Array Value} {t : TypeId} {fz : Nat × Nat} (h : w.heap[b]? = some (.cells c t fz)) (v : Value) : w.setCell ⟨b, o, none⟩ v = setBlk w b (.cells (c.setIfInBounds o v) t fz) := by
  unfold World.setCell setBlk
  congr 1
  apply Array.ext_getElem?
  intro i
  rw [Array.getElem?_modify, Array.getElem?_setIfInBounds]
  by_cases hb : b = i
  · subst hb
    obtain ⟨hl, _⟩ := Array.getElem?_eq_some_iff.1 h
    rw [if_pos rfl, if_pos rfl, if_pos hl, h]
    simp
  · rw [if_neg (by simpa using hb), if_neg hb]

theorem wr_size : ∀ (vs : List Value) (c : Array Value) (o : Nat), (wr c o vs).size = c.size
  | [], _, _ => rfl
  | v :: r, c, o => by simp only [wr]; rw [wr_size r]; simp

theorem run_stores {b o : Nat} {t : TypeId} {fz : Nat × Nat} : ∀ (vs : List Value) (i : Nat) (c : Array Value) (w : World), w.heap[b]? = some (.cells c t fz) → (∀ i, i < c.size → (decide (fz.1 ≤ i) && decide (i < fz.2)) = false) →
    vs.all Value.oneCell' = true → o + i + vs.length ≤ c.size → (storeCells ⟨b, o, none⟩ vs i).run P w = .ok () (setBlk w b (.cells (wr c (o + i) vs) t fz))
  | [], i, c, w, h, _, _, _ => by simp only [storeCells, wr]; rw [setBlk_self h]; rfl
  | v :: r, i, c, w, h, hf, h1, hn => by
    simp only [List.all_cons, Bool.and_eq_true] at h1
    simp only [List.length_cons] at hn
    have hlt : b < w.heap.size := (Array.getElem?_eq_some_iff.1 h).1
    have hoi : o + i < c.size := by omega
    have hc : w.cell? ⟨b, o + i, none⟩ = some c[o + i] := by rw [cell_of h]; exact Array.getElem?_eq_getElem hoi
    have hfz : w.frozen? ⟨b, o + i, none⟩ = false := by simpa [World.frozen?, h] using hf (o + i) (by omega)
    have ih := run_stores (b := b) (o := o) (t := t) (fz := fz) r (i + 1) (c.setIfInBounds (o + i) v) (setBlk w b (.cells (c.setIfInBounds (o + i) v) t fz)) (setBlk_get _ _ _ hlt) (by simpa using hf) h1.2 (by simp; omega)
    simp only [storeCells, Sem.run_bind, Addr.add_lit, run_store P w _ v _ h1.1, hc, hfz, Bool.false_eq_true, if_false, Result.andThen_ok, setCell_blk h]
    rw [ih, setBlk_setBlk]
    simp only [wr, Nat.add_assoc]

/-- Written rows stay related. -/
theorem CR.set {d o : Nat} {c c' : Array Value} {v v' : Value} (h : CR P M d c c') (hv : VR P M v v') : CR P M d (c.setIfInBounds o v) (c'.setIfInBounds (d + o) v') := by
  refine ⟨by simpa using h.1, fun i u hu => ?_⟩
  rw [Array.getElem?_setIfInBounds] at hu ⊢
  by_cases ho : o = i
  · subst ho
    rw [if_pos rfl] at hu ⊢
    split at hu
    · rename_i hl
      cases hu
      rw [if_pos (by have := h.1; omega)]
      exact ⟨_, rfl, hv⟩
    · cases hu
  · rw [if_neg ho] at hu
    rw [if_neg (by omega)]
    exact h.2 i u hu
theorem CR.wr {d : Nat} : ∀ {vs vs' : List Value}, LR P M vs vs' → ∀ {c c' : Array Value} {o : Nat}, CR P M d c c' → CR P M d (wr c o vs) (wr c' (d + o) vs')
  | _, _, .nil, _, _, _, h => h
  | _, _, .cons hv r, _, _, _, h => CR.wr r (h.set hv)

theorem CR.base {c : Array Value} (h : c.toList.all isBase = true) : CR P M 0 c c := ⟨by omega, fun i v hv => ⟨v, by simpa using hv, .base (by
  rw [List.all_eq_true] at h
  exact h v (by rw [Array.mem_toList_iff]; exact Array.mem_of_getElem? hv))⟩⟩
theorem CR.of_AR {c c' : Array Value} (h : AR P M c c') : CR P M 0 c c' := ⟨by rw [h.1]; omega, fun i v hv => by
  obtain ⟨v', e, r⟩ := h.get? hv
  exact ⟨v', by simpa using e, r⟩⟩
/-- .. and what stands behind them. -/
theorem CR.of_AR_append {c c' : Array Value} (h : AR P M c c') (x : Array Value) : CR P M 0 c (c' ++ x) := ⟨by simp [h.1], fun i v hv => by
  obtain ⟨v', e, r⟩ := h.get? hv
  obtain ⟨hl, he⟩ := Array.getElem?_eq_some_iff.1 e
  exact ⟨v', by rw [Nat.zero_add, Array.getElem?_append_left hl]; exact e, r⟩⟩

end Go.AH
