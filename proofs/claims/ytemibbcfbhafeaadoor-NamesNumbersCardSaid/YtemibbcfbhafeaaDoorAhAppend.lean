/-
  AH: append, clear, copy.
-/
import Derived.Test.YtemibbcfbhafeaaDoorAhOps3
namespace Go.AH
open Go
variable {P : Program} {M : Mp} {H H' : Heap} {W : World}

theorem sim_row (R : Rel P M H W) {k : Nat} {x x' : Value} {m : Nat} {new : Array Value} (hx : VR P M x x') (h : rowA H k x = some (m, new)) :
    ∃ a' c' new', x' = .slice a' m c' ∧ AR P M new new' ∧ new.size = m * k ∧ ∀ W2 : World, W2.heap = W.heap → (Builtin.firstCells k m x').run P W2 = .ok new' W2 := by
  unfold rowA at h
  split at h
  · rename_i n c
    cases hx.sl_nil_inv
    split at h
    · cases h
      rename_i hn
      subst hn
      exact ⟨none, c, #[], rfl, ⟨rfl, fun i h => by simp at h⟩, by simp, fun W2 _ => by simp [Builtin.firstCells]⟩
    · cases h
  · rename_i b o n c
    split at h
    · rename_i cs t rw_ hb
      split at h
      · rename_i hle
        cases h
        obtain ⟨τ, o', c', hτ, rfl, ho⟩ := hx.slice_inv
        obtain ⟨blk, g1, g2⟩ := R.blk b τ hτ
        rw [hb] at g1; cases g1
        obtain ⟨cs', fz, hw, _, _, hc, _⟩ := g2
        by_cases hm : m * k = 0
        · refine ⟨some ⟨τ.b, o', none⟩, c', #[], rfl, ⟨by simp; omega, fun i h => by simp at h; omega⟩, by simp; omega, fun W2 _ => ?_⟩
          simp [Builtin.firstCells, hm, loadCells, loadCellsFrom]
        · rcases ho with rfl | rfl
          · obtain ⟨e1, e2⟩ := hc.extract hle
            refine ⟨_, c', cs'.extract (τ.d + o) (τ.d + o + m * k), rfl, e2, by simp; omega, fun W2 hW2 => ?_⟩
            have : W2.heap[τ.b]? = some (.cells cs' t fz) := by rw [hW2]; exact hw
            simp [Builtin.firstCells, run_loadRow this e1]
          · simp at hm
      · cases h
    · cases h
  · cases h

section
variable {t0 t1 ty e e1 : TypeId} {i : TypeInfo} {z : Value}

theorem run_room (ht0 : P.underlying t0 = some (.slice e)) (ht1 : P.underlying t1 = some (.slice e1)) (hi : P.info? e = some i) {base : Option Addr} {n c m : Nat} {a' : Option Addr} {c' : Nat} {new : Array Value}
    (hf : (Builtin.firstCells i.size m (.slice a' m c')).run P W = .ok new W) (hroom : n + m ≤ c) :
    (Builtin.append_ #[t0, t1] ty #[.slice base n c, .slice a' m c']).run P W =
      ((match base with | some a => storeCells (a.add (n * i.size)) new.toList | none => pure ()).run P W).andThen fun _ w => .ok (.slice base (n + m) c) w := by
  have hk : sz P e = some i.size := by simp [sz, hi]
  simp only [Builtin.append_, List.getElem?_toArray, List.getElem?_cons_zero, List.getElem?_cons_succ, Sem.run_bind, run_under ht0, run_under ht1, run_size hk, Result.andThen_ok, Sem.run_pure, Bool.false_eq_true, if_false, Builtin.lenOf, if_pos hroom, hf, Bool.not_false, if_true]
  cases base <;> simp

theorem run_grow (ht0 : P.underlying t0 = some (.slice e)) (ht1 : P.underlying t1 = some (.slice e1)) (hi : P.info? e = some i) (hz : i.zero = some z) {base : Option Addr} {n c m : Nat} {a' : Option Addr} {c' : Nat} {old new : Array Value}
    (hfo : ∀ W2 : World, W2.heap = W.heap → (Builtin.firstCells i.size n (.slice base n c)).run P W2 = .ok old W2) (hf : ∀ W2 : World, W2.heap = W.heap → (Builtin.firstCells i.size m (.slice a' m c')).run P W2 = .ok new W2)
    (hg : c < n + m) (h63 : n + m ≤ 9223372036854775807) (hb : (n + m) * i.bytes ≤ 140737488355328) :
    (Builtin.append_ #[t0, t1] ty #[.slice base n c, .slice a' m c']).run P W =
      .ok (.slice (some ⟨W.heap.size, 0, none⟩) (n + m) (grownCap W (n + m) c e)) (W.drew.alloc (.cells (old ++ new ++ Builtin.zeroCells z.cells (grownCap W (n + m) c e - (n + m))) e)) := by
  have hk : sz P e = some i.size := by simp [sz, hi]
  have hn : ¬ (n + m ≤ c) := by omega
  have h63' : ¬ (9223372036854775807 < ((n : Int) + (m : Int))) := by omega
  have h48' : ¬ (281474976710656 < Builtin.nextslicecap (n + m) c * i.bytes) := by have := growslice_fits hg hb; omega
  have hfo' := hfo W.drew rfl
  have hf' := hf W.drew rfl
  simp [Builtin.append_, run_under ht0, run_under ht1, Go.sizeOf, typeInfo, zeroValue, hi, hz, Builtin.lenOf, hn, h63', h48', Question.forced, newRow, grownCap, hfo', hf']
end

theorem zeroCells_size (z : Array Value) (n : Nat) : (Builtin.zeroCells z n).size = n * z.size := by simp [Builtin.zeroCells]

theorem capOK (w : World) (need old : Nat) (e : TypeId) (h : need ≤ 9223372036854775807) : need ≤ grownCap w need old e ∧ grownCap w need old e ≤ maxLen := ⟨grownCap_ge w need old e, grownCap_le_maxLen w need old e (by unfold maxLen; omega)⟩

/-- The row that an append makes. -/
theorem sim_grown (R : Rel P M H W) {e : TypeId} {i : TypeInfo} {z : Value} (hi : P.info? e = some i) (hzs : z.cells.size = i.size) {c c' : Array Value} (hc : AR P M c c') {n old : Nat} (hn : c.size = n * i.size) (h63 : n ≤ 9223372036854775807) :
    ∃ M', VR P M' (.slice (some ⟨H.size, 0, none⟩) n capU) (.slice (some ⟨W.heap.size, 0, none⟩) n (grownCap W n old e)) ∧
      Step P M H W M' (H.push (.cells c e true)) (W.drew.alloc (.cells (c' ++ Builtin.zeroCells z.cells (grownCap W n old e - n)) e)) := by
  obtain ⟨g1, g2⟩ := capOK W n old e h63
  have hle := ins_le (M := M) (τ := ⟨W.heap.size, 0, (c' ++ Builtin.zeroCells z.cells (grownCap W n old e - n)).size, e⟩) (R.none_at (Nat.le_refl _))
  refine ⟨ins M H.size ⟨W.heap.size, 0, (c' ++ Builtin.zeroCells z.cells (grownCap W n old e - n)).size, e⟩, ?_, ?_⟩
  · have := @VR.slU P (ins M H.size ⟨W.heap.size, 0, (c' ++ Builtin.zeroCells z.cells (grownCap W n old e - n)).size, e⟩) H.size 0 n (grownCap W n old e) _ (ins_same _ _ _) g1 g2 (by
      have hs : szD P e = i.size := by simp [szD, hi]
      simp only [Array.size_append, zeroCells_size, hs, hzs, ← hc.1, hn]
      rw [← Nat.add_mul]
      simp only [Nat.zero_add]
      exact Nat.mul_le_mul_right _ (by omega))
    simpa using this
  · refine step_push (W' := W.drew.alloc (.cells (c' ++ Builtin.zeroCells z.cells (grownCap W n old e - n)) e)) (blk := .cells c e true) (τ := ⟨W.heap.size, 0, (c' ++ Builtin.zeroCells z.cells (grownCap W n old e - n)).size, e⟩) R ⟨rfl, rfl, rfl, Nat.le_succ _⟩ _ rfl rfl rfl ⟨_, (0, 0), ?_, rfl, rfl, (CR.of_AR_append hc _).mono hle, fun _ i _ => by simp⟩
    show (W.heap.push _)[W.heap.size]? = _
    simp

theorem AR.append {x x' y y' : Array Value} (h : AR P M x x') (g : AR P M y y') : AR P M (x ++ y) (x' ++ y') := by
  have := h.list.append g.list
  rw [← Array.toList_append, ← Array.toList_append] at this
  exact this.array

theorem LR.one {l l' : List Value} (h : LR P M l l') (h1 : l.all Value.oneCell' = true) : l'.all Value.oneCell' = true := by
  induction h with
  | nil => rfl
  | cons h r ih =>
    simp only [List.all_cons, Bool.and_eq_true] at h1 ⊢
    exact ⟨h.oneCell h1.1, ih h1.2⟩

theorem wr_get_lt : ∀ (vs : List Value) (c : Array Value) (o i : Nat), i < o → (wr c o vs)[i]? = c[i]?
  | [], _, _, _, _ => rfl
  | v :: r, c, o, i, h => by
    simp only [wr]
    rw [wr_get_lt r _ _ _ (by omega), Array.getElem?_setIfInBounds, if_neg (by omega)]
theorem wr_get_ge : ∀ (vs : List Value) (c : Array Value) (o i : Nat), o + vs.length ≤ i → (wr c o vs)[i]? = c[i]?
  | [], _, _, _, _ => rfl
  | v :: r, c, o, i, h => by
    simp only [List.length_cons] at h
    simp only [wr]
    rw [wr_get_ge r _ _ _ (by omega), Array.getElem?_setIfInBounds, if_neg (by omega)]
theorem wr_get_in : ∀ (vs : List Value) (c : Array Value) (o j : Nat), j < vs.length → o + j < c.size → (wr c o vs)[o + j]? = vs[j]?
  | [], _, _, _, h, _ => by simp at h
  | v :: r, c, o, 0, _, h2 => by
    simp only [wr]
    rw [wr_get_lt r _ _ _ (by omega), Array.getElem?_setIfInBounds, if_pos (by omega), if_pos (by omega)]
    rfl
  | v :: r, c, o, j + 1, h, h2 => by
    simp only [wr]
    have := wr_get_in r (c.setIfInBounds o v) (o + 1) j (by simpa using h) (by simp; omega)
    rw [show o + (j + 1) = o + 1 + j from by omega, this]
    rfl

theorem rowA_size {k : Nat} {x : Value} {m : Nat} {new : Array Value} (h : rowA H k x = some (m, new)) : new.size = m * k := by
  unfold rowA at h
  split at h
  · split at h
    · cases h; simp
    · cases h
  · split at h
    · split at h
      · cases h; simp; omega
      · cases h
    · cases h
  · cases h

theorem sim_append (R : Rel P M H W) {t0 t1 ty : TypeId} {s s' x x' v : Value} (hs : VR P M s s') (hx : VR P M x x') (h : appendA P H t0 t1 s x = some (v, H')) :
    VSim P M H W (Builtin.append_ #[t0, t1] ty #[s', x']) v H' := by
  unfold appendA at h
  split at h
  · rename_i e e1 ht0 ht1
    split at h
    · rename_i i z hi hz
      obtain ⟨i', zv, hi', hzv, rfl, hzb⟩ := zeroA_spec hz
      rw [hi] at hi'; cases hi'
      split at h
      · rename_i hcond
        obtain ⟨hpos, hzs, rfl⟩ := hcond
        cases hr : rowA H i.size x with
        | none => simp [hr] at h
        | some p =>
          obtain ⟨m, new⟩ := p
          simp only [hr, Option.bind_some] at h
          have hnsz := rowA_size hr
          obtain ⟨a', c', new', rfl, hnew, _, hfn⟩ := sim_row R hx hr
          split at h
          · rename_i h1
            split at h
            · -- nil
              cases hs.sl_nil_inv
              have hfo : ∀ W2 : World, W2.heap = W.heap → (Builtin.firstCells i.size 0 (.slice none 0 0)).run P W2 = .ok #[] W2 := fun W2 _ => by simp [Builtin.firstCells]
              split at h
              · rename_i hm
                cases h
                subst hm
                refine VSim.same R (v' := .slice none 0 0) ?_ (.base rfl)
                rw [run_room ht0 ht1 hi (hfn W rfl) (by omega)]
                rfl
              · rename_i hm
                split at h
                · rename_i hb
                  simp only [Option.some.injEq, Prod.mk.injEq] at h
                  obtain ⟨rfl, rfl⟩ := h
                  have hrun := run_grow (ty := ty) ht0 ht1 hi hzv hfo hfn (by omega) (by omega) (by rw [Nat.zero_add]; exact hb.1)
                  rw [Nat.zero_add, Array.empty_append] at hrun
                  obtain ⟨M', r, st⟩ := sim_grown (old := 0) R hi hzs hnew hnsz hb.2
                  exact ⟨_, _, M', hrun, r, st⟩
                · cases h
            · rename_i b o n c
              split at h
              · rename_i cs e' rw_ hb
                split at h
                · rename_i hc
                  obtain ⟨rfl, hle, hbytes, h63⟩ := hc
                  -- the old cells
                  have hold : ∀ (a : Option Addr) (c2 : Nat), VR P M (.slice (some ⟨b, o, none⟩) n c) (.slice a n c2) → ∃ old', AR P M (cs.extract o (o + n * i.size)) old' ∧ ∀ W2 : World, W2.heap = W.heap → (Builtin.firstCells i.size n (.slice a n c2)).run P W2 = .ok old' W2 := by
                    intro a c2 hv
                    have hrow : rowA H i.size (.slice (some ⟨b, o, none⟩) n c) = some (n, cs.extract o (o + n * i.size)) := by simp [rowA, hb, hle]
                    obtain ⟨a9, c9, old', e9, h9, _, hf9⟩ := sim_row R hv hrow
                    exact ⟨old', h9, hf9⟩
                  have hosz : (cs.extract o (o + n * i.size)).size = n * i.size := by simp; omega
                  have hsz : (cs.extract o (o + n * i.size) ++ new).size = (n + m) * i.size := by rw [Array.size_append, hosz, hnsz, Nat.add_mul]
                  split at h
                  · -- the capacity isn't known
                    rename_i hcU
                    subst hcU
                    split at h
                    · rename_i hrw
                      subst hrw
                      simp only [Option.some.injEq, Prod.mk.injEq] at h
                      obtain ⟨rfl, rfl⟩ := h
                      obtain ⟨τ, hτ, hs'⟩ := hs.slU_inv
                      have hlt := R.lt' hτ
                      have hnro : ¬ Ro H b := by rintro ⟨c1, t1, h2⟩; rw [hb] at h2; cases h2
                      have hnd : ¬ Dead H b := by intro h2; unfold Dead at h2; rw [hb] at h2; cases h2
                      have st1 : Step P M H W M (H.setIfInBounds b .dead) W := step_set R (Same.refl W) hτ hnro hnd rfl rfl (fun _ _ => rfl) trivial
                      have hsz1 : (H.setIfInBounds b .dead).size = H.size := by simp
                      obtain ⟨blk, g1, g2⟩ := R.blk b τ hτ
                      rw [hb] at g1; cases g1
                      obtain ⟨cs', fz, hw, htt, hcn, hcr, hfz⟩ := g2
                      have grow : ∀ (a : Option Addr) (c2 : Nat), s' = .slice a n c2 → c2 < n + m → VSim P M H W (Builtin.append_ #[t0, t1] ty #[s', .slice a' m c']) (.slice (some ⟨H.size, 0, none⟩) (n + m) capU) ((H.setIfInBounds b .dead).push (.cells (cs.extract o (o + n * i.size) ++ new) e' true)) := by
                        rintro a c2 rfl hlt2
                        obtain ⟨old', h9, hf9⟩ := hold a c2 hs
                        have hrun := run_grow (ty := ty) ht0 ht1 hi hzv hf9 hfn hlt2 h63 hbytes
                        obtain ⟨M', r, st⟩ := sim_grown (old := c2) st1.rel hi hzs (h9.append hnew) hsz h63
                        rw [hsz1] at r
                        exact ⟨_, _, M', hrun, r, Step.trans R st1 st⟩
                      rcases hs' with ⟨ch, rfl, a1, a2, a3⟩ | ⟨o', rfl, rfl⟩
                      · by_cases hroom : n + m ≤ ch
                        · -- in place
                          have hsd : szD P τ.t = i.size := by rw [htt]; simp [szD, hi]
                          rw [hsd] at a3
                          have hmul : (n + m) * i.size ≤ ch * i.size := Nat.mul_le_mul_right _ hroom
                          rw [Nat.add_mul] at hmul
                          have h1' := LR.one hnew.list h1
                          have hlen : new'.toList.length = m * i.size := by rw [Array.length_toList, ← hnew.1, hnsz]
                          have hst := run_stores (P := P) (o := τ.d + o + n * i.size) new'.toList 0 cs' W hw (fun i hi => hfz rfl i (by omega)) h1' (by rw [hlen, hcn]; omega)
                          rw [Nat.add_zero] at hst
                          have hrun := run_room (ty := ty) ht0 ht1 hi (hfn W rfl) hroom (base := some ⟨τ.b, τ.d + o, none⟩)
                          simp only [Addr.add_lit, hst, Result.andThen_ok] at hrun
                          refine ⟨_, _, ins M H.size ⟨τ.b, τ.d + o, τ.n, e'⟩, hrun, ?_, ?_⟩
                          · have := @VR.slU P (ins M H.size ⟨τ.b, τ.d + o, τ.n, e'⟩) H.size 0 (n + m) ch _ (ins_same _ _ _) hroom a2 (by
                              have hs2 : szD P e' = i.size := by simp [szD, hi]
                              simp only [hs2]; omega)
                            simpa using this
                          · have hltb : τ.b < W.heap.size := R.lt b τ hτ
                            refine step_move (τ := ⟨τ.b, τ.d + o, τ.n, e'⟩) R (setBlk_same _ _ _) rfl hτ rfl hnro hnd (setBlk_size _ _ _) (fun k hk => setBlk_other _ _ _ _ hk) ⟨_, fz, setBlk_get _ _ _ hltb, rfl, by rw [wr_size]; exact hcn, ?_, hfz⟩
                            · -- the cells
                              have hle2 := ins_le (M := M) (τ := ⟨τ.b, τ.d + o, τ.n, e'⟩) (R.none_at (Nat.le_refl _))
                              refine CR.mono hle2 ?_
                              have hcs1 := hcr.1
                              refine ⟨by rw [hsz, wr_size, Nat.add_mul]; simp only; omega, fun j u hu => ?_⟩
                              by_cases hj : j < n * i.size
                              · rw [Array.getElem?_append_left (by omega)] at hu
                                rw [Array.getElem?_extract] at hu
                                split at hu
                                · obtain ⟨u', e5, r5⟩ := hcr.2 _ _ hu
                                  refine ⟨u', ?_, r5⟩
                                  rw [wr_get_lt _ _ _ _ (by simp only; omega)]
                                  simpa [Nat.add_assoc] using e5
                                · cases hu
                              · rw [Array.getElem?_append_right (by omega), hosz] at hu
                                obtain ⟨u', e5, r5⟩ := hnew.get? hu
                                obtain ⟨hl5, _⟩ := Array.getElem?_eq_some_iff.1 e5
                                refine ⟨u', ?_, r5⟩
                                have := wr_get_in new'.toList cs' (τ.d + o + n * i.size) (j - n * i.size) (by simpa using hl5) (by rw [← hnew.1, hnsz] at hl5; omega)
                                rw [show τ.d + o + n * i.size + (j - n * i.size) = τ.d + o + j from by omega] at this
                                simp only
                                rw [this, Array.getElem?_toList]
                                exact e5
                        · exact grow _ _ rfl (by omega)
                      · by_cases hroom : 0 + m ≤ 0
                        · obtain rfl : m = 0 := by omega
                          have hn0 : new' = #[] := Array.eq_empty_of_size_eq_zero (by rw [← hnew.1, hnsz]; simp)
                          have hrun := run_room (ty := ty) ht0 ht1 hi (hfn W rfl) hroom (base := some ⟨τ.b, o', none⟩)
                          simp only [hn0, storeCells, Sem.run_pure, Result.andThen_ok] at hrun
                          refine ⟨W, .slice (some ⟨τ.b, o', none⟩) 0 0, ins M H.size ⟨τ.b, 0, τ.n, e'⟩, hrun, ?_, ?_⟩
                          · exact @VR.slE P (ins M H.size ⟨τ.b, 0, τ.n, e'⟩) H.size 0 o' ⟨τ.b, 0, τ.n, e'⟩ (ins_same _ _ _)
                          · refine step_move (τ := ⟨τ.b, 0, τ.n, e'⟩) R (Same.refl W) rfl hτ rfl hnro hnd rfl (fun _ _ => rfl) ⟨cs', fz, hw, rfl, hcn, ?_, hfz⟩
                            · have e0 : cs.extract o (o + 0 * i.size) ++ new = #[] := Array.eq_empty_of_size_eq_zero (by rw [hsz]; simp)
                              rw [e0]
                              exact ⟨by simp, fun j u hu => by simp at hu⟩
                        · exact grow _ _ rfl (by omega)
                    · cases h
                  · rename_i hcU
                    obtain ⟨τ, o', hτ, rfl, ho⟩ := hs.sl_inv hcU
                    split at h
                    · rename_i hroom
                      split at h
                      · rename_i hm
                        cases h
                        subst hm
                        have hn0 : new'.toList = [] := by
                          have : new'.size = 0 := by rw [← hnew.1, hnsz]; simp
                          simpa using this
                        refine VSim.same R (v' := .slice (some ⟨τ.b, o', none⟩) n c) ?_ hs
                        rw [run_room ht0 ht1 hi (hfn W rfl) hroom, hn0]
                        rfl
                      · rename_i hm
                        split at h
                        · rename_i hrw
                          obtain ⟨rfl, hle2⟩ := hrw
                          simp only [Option.some.injEq, Prod.mk.injEq] at h
                          obtain ⟨rfl, rfl⟩ := h
                          rcases ho with rfl | ⟨rfl, rfl⟩
                          · have hlen : new.toList.length = m * i.size := by rw [Array.length_toList, hnsz]
                            obtain ⟨W', M', e9, st⟩ := sim_wr (o := o + n * i.size) R hb hτ hnew.list h1 (by rw [hlen]; rw [Nat.add_mul] at hle2; omega)
                            rw [← Nat.add_assoc] at e9
                            refine ⟨W', .slice (some ⟨τ.b, τ.d + o, none⟩) (n + m) c, M', ?_, .sl (st.ext _ _ hτ) hcU, st⟩
                            rw [run_room ht0 ht1 hi (hfn W rfl) hroom]
                            simp only [Addr.add_lit, e9, Result.andThen_ok]
                          · omega
                        · cases h
                    · rename_i hroom
                      simp only [Option.some.injEq, Prod.mk.injEq] at h
                      obtain ⟨rfl, rfl⟩ := h
                      obtain ⟨old', h9, hf9⟩ := hold _ _ hs
                      have hrun := run_grow (ty := ty) ht0 ht1 hi hzv hf9 hfn (by omega) h63 hbytes
                      obtain ⟨M', r, st⟩ := sim_grown (old := c) R hi hzs (h9.append hnew) hsz h63
                      exact ⟨_, _, M', hrun, r, st⟩
                · cases h
              · cases h
            · cases h
          · cases h
      · cases h
    · cases h
  · cases h

end Go.AH
