/-
  AH and PM: sorting, by the contracts of the library.
-/
import Derived.Test.YtllmlcmhmkkgcaaLib2e
import Derived.Shelf.SlSortCmp.NoneTotal
import Derived.Shelf.Sort.Plain
import Derived.Shelf.Slices.In.SortNone
import Derived.Test.YtllmlcmhmkkgcaaLib5
set_option linter.unusedVariables false
set_option linter.unusedSimpArgs false
set_option linter.unusedSectionVars false

/-
  AH: slices.SortFunc at structs of texts, by the library's own contract: what a call of it does to a block.
-/
namespace Go.AH
open Go Go.Sort Go.RowKit Go.Proofs Go.Shelf
variable {P : Program} {ρ : Ren} {M : Mp} {H H' : Heap} {W W' : World} {k : Nat}

theorem ar_agg {M : Mp} {x : List Value} (h : x.all isBase = true) : VR P M (.agg x.toArray) (.agg x.toArray) := .agg rfl (LR.array (P := P) (M := M) (LR.refl_base (by simpa using h))).2

/-- What reads no block leaves the world as it was, but for new blocks and draws. -/
theorem quiet_of_snd {g : FuncId} {args : Array Value} {v : Value} {H1 : Heap} (he : Ent P g) (h : Snd P g args #[] v H1) (ha : ∀ M, AR P M args args) (hv : isBase v = true) (W : World) :
    Calls P g args W fun e W' => e = .returned v ∧ ∃ q os, W' = grow (W.drewN q) os := by
  rcases h.2 with ⟨_, h⟩ | ⟨hn, _⟩
  · refine (h _ W args (rel_empty W) (ha _)).mono fun e W' k => ?_
    obtain ⟨v', M', rfl, rv, st⟩ := k
    refine ⟨?_, W'.drawn - W.drawn, W'.heap.extract W.heap.size W'.heap.size, ?_⟩
    · cases v <;> simp [isBase] at hv <;> cases rv <;> simp_all
    · have hh : W'.heap = W.heap ++ W'.heap.extract W.heap.size W'.heap.size := by
        apply Array.ext_getElem?
        intro i
        have hs := st.wsize
        by_cases hi : i < W.heap.size
        · rw [Array.getElem?_append_left hi]
          exact st.aframe i hi fun b τ e => by cases e
        · rw [Array.getElem?_append_right (by omega), Array.getElem?_extract]
          by_cases h2 : i < W'.heap.size
          · rw [if_pos (by omega)]; congr 1; omega
          · rw [if_neg (by omega), Array.getElem?_eq_none (by omega)]
      have h1 := st.os; have h2 := st.tape; have h3 := st.output; have h4 := st.drawn
      cases W' with | mk hp tp dr os out =>
      cases W with | mk hp0 tp0 dr0 os0 out0 =>
      simp only [grow, World.drewN] at *
      subst h1 h2 h3
      congr 1
      omega
  · exact absurd he hn

theorem step_grow (R : Rel P M H W) (n : Nat) (os : Array Obj) : Step P M H W M H (grow (Sort.ahead W n) os) := by
  have old : ∀ i, i < W.heap.size → (grow (Sort.ahead W n) os).heap[i]? = W.heap[i]? := fun i hi => by
    simp only [grow, Sort.ahead]; rw [Array.getElem?_append_left hi]
  refine ⟨⟨fun b τ e => ?_, fun b τ e => ?_, R.inj⟩, MLe.refl _, Nat.le_refl _, (fun b τ e e0 => by rw [e] at e0; cases e0), fun _ _ _ => rfl, fun _ _ h => h, fun _ _ h => h, fun _ _ _ => rfl, fun i hi _ => old i hi, ?_, rfl, rfl, rfl, ?_⟩
  · obtain ⟨blk, h1, h2⟩ := R.blk b τ e
    exact ⟨blk, h1, h2.move (MLe.refl _) (old _ (R.lt b τ e))⟩
  · have := R.lt b τ e; rw [size_grow]; exact Nat.lt_of_lt_of_le this (Nat.le_add_right _ _)
  · rw [size_grow]; exact Nat.le_add_right _ _
  · exact Nat.le_add_right _ _

/-- What 'cmp' says of two structs. -/
def cmpA (C : CallR) (g : FuncId) (cf : Row k → Row k → Int) : Prop := ∀ x y, ∃ H1, C g #[.agg (encR x).toArray, .agg (encR y).toArray] #[] (.int .i64 (cf x y)) H1

def mrg (cf : Row k → Row k → Int) (d : Array (Row k)) : Array (Row k) := (d.toList.mergeSort fun x y => !(ltOf cf) y x).toArray
theorem mrg_size (cf : Row k → Row k → Int) (d : Array (Row k)) : (mrg cf d).size = d.size := by simp [mrg]

/-- slices.SortFunc, at a list that is none. -/
def sortN (sf : FuncId) : CallR := fun f args H v H' => f = sf ∧ v = .tuple #[] ∧ H' = H ∧ ∃ g, args = #[.slice none 0 0, .func (.func g) #[] #[]]

/-- slices.SortFunc. -/
def sortR (P : Program) (sf : FuncId) (e : TypeId) (k : Nat) : CallR → CallR := fun C f args H v H' => f = sf ∧ v = .tuple #[] ∧ ∃ (g b c : Nat) (cs : Array Value) (d : Array (Row k)) (cf : Row k → Row k → Int),
  SWO (ltOf cf) ∧ (∀ x y, ltOf cf x y = false → ltOf cf y x = false → x = y) ∧ Ent P g ∧ cmpA C g cf ∧ d.size < 4611686018427387904 ∧ args = #[.slice (some ⟨b, 0, none⟩) d.size c, .func (.func g) #[] #[]] ∧ H[b]? = some (.cells cs e true) ∧ d.size * k ≤ cs.size ∧
  (∀ j, j < d.size * k → cs[j]? = some (Sort.flatK encR k d)[j]!) ∧ H' = H.setIfInBounds b (.cells (Sort.flatK encR k (mrg cf d) ++ cs.extract (d.size * k) cs.size) e true)

theorem flat_base (d : Array (Row k)) (j : Nat) (h : j < d.size * k) : isBase (Sort.flatK encR k d)[j]! = true := by
  rw [get_flatK _ _ _ _ h]
  have k0 : 0 < k := by rcases Nat.eq_zero_or_pos k with h0 | h0; · subst h0; simp at h
                        · exact h0
  have := encR_base d[j / k]!
  rw [List.all_eq_true] at this
  have hl := encR_len d[j / k]!
  have hm := Nat.mod_lt j k0
  rw [getElem!_pos _ _ (by omega)]
  exact this _ (List.getElem_mem _)

theorem ent_enters {g : FuncId} (h : Ent P g) (args : Array Value) (w : World) : (callFunc g args).run P w = .ok (.enter g args) w := by
  obtain ⟨fn, h1, h2, h3⟩ := h
  cases hb : fn.body with
  | none => rw [hb] at h2; cases h2
  | some c => exact enters_of h1 h3 hb args w

theorem sortN_snd (L : SlLaysF0.n6 P ρ) (hent : Ent P (ρ.f 6)) {f : FuncId} {args : Array Value} {v : Value} (h : sortN (ρ.f 6) f args H v H') : Snd P f args H v H' := by
  obtain ⟨rfl, rfl, rfl, g, rfl⟩ := h
  refine ⟨Nat.le_refl _, .inl ⟨hent, fun M W args' R ha => ?_⟩⟩
  obtain ⟨l⟩ := args'
  have hl := ha.list
  cases hl with | cons h1 r => cases r with | cons h2 r => cases r with | nil =>
  rw [h1.sl_nil_inv]
  refine (AnyF.slices_SortFunc_none L none 0 _ W).mono fun e' W' k' => ?_
  obtain ⟨rfl, rfl⟩ := k'
  exact ⟨_, M, rfl, .undef, Step.refl R⟩

theorem sort_snd (L : SlLaysF0.n6 P ρ) (hent : Ent P (ρ.f 6)) (aE : ∀ w, (isAgg (ρ.t 24)).run P w = .ok true w) (zE : ∀ w, (Go.sizeOf (ρ.t 24)).run P w = .ok k w) (e : TypeId)
    {f : FuncId} {args : Array Value} {v : Value} (h : sortR P (ρ.f 6) e k (Snd P) f args H v H') : Snd P f args H v H' := by
  obtain ⟨rfl, rfl, g, b, c, cs, d, cf, hO, hT, hg, hcmp, hsz, rfl, hb, hle, hcs, rfl⟩ := h
  refine ⟨by simp, .inl ⟨hent, fun M W args' R ha => ?_⟩⟩
  obtain ⟨l⟩ := args'
  have hl := ha.list
  cases hl with | cons h1 r => cases r with | cons h2 r => cases r with | nil =>
  obtain ⟨τ, o', c', hτ, rfl, ho⟩ := h1.slice_inv
  obtain ⟨x', y', rfl, hx, hy⟩ := h2.func_inv
  have hx0 : x' = #[] := by have := hx.1; simp at this; exact Array.eq_empty_of_size_eq_zero this.symm
  have hy0 : y' = #[] := by have := hy.1; simp at this; exact Array.eq_empty_of_size_eq_zero this.symm
  subst hx0 hy0
  obtain ⟨blk, g1, g2⟩ := R.blk b τ hτ
  rw [hb] at g1; cases g1
  obtain ⟨c1, t', fz, hw, ht0', ht, hn, hc, hf⟩ := g2
  have ht1' := (ht0' rfl).symm; subst ht1'
  have hlt : τ.b < W.heap.size := R.lt b τ hτ
  have hH : HoldsK encR k W τ.b o' d := by
    intro j hj
    rw [size_flatK] at hj
    have ho1 : o' = τ.d := by
      rcases ho with h | h
      · simpa using h
      · rw [h] at hj; simp at hj
    subst ho1
    have hcj := hcs j hj
    obtain ⟨v', e1, e2⟩ := hc.2 j _ hcj
    have hbse := flat_base d j hj
    have : v' = (Sort.flatK encR k d)[j]! := by
      generalize (Sort.flatK encR k d)[j]! = u at e2 hbse
      cases u <;> simp [isBase] at hbse <;> cases e2 <;> simp_all
    subst this
    refine ⟨?_, ?_⟩
    · simp [World.cell?, hw, e1]
    · have := hf rfl (τ.d + j) (by have := (Array.getElem?_eq_some_iff.1 e1).1; omega)
      simpa [World.frozen?, hw] using this
  have hcl : CmpLays P g #[] encR k cf τ.b o' d.size W := fun m os dk _ x y => by
    obtain ⟨H1, hs⟩ := hcmp x y
    exact quiet_of_snd hg hs (fun M => LR.array (.cons (ar_agg (encR_base x)) (.cons (ar_agg (encR_base y)) .nil))) rfl _
  have hcon := AnyQ.slices_SortFunc_total L k aE zE encR encR_len (fun x v hv => by simp [encR] at hv; obtain ⟨s, _, rfl⟩ := hv; rfl) cf hO g #[] τ.b o' c' d W (ent_enters hg) hcl hH hlt hsz hT
  refine hcon.mono fun e' W' k' => ?_
  obtain ⟨rfl, m, os, rfl⟩ := k'
  refine ⟨_, M, rfl, .undef, ?_⟩
  have hps := mrg_size cf d
  change Step P M H W M (H.setIfInBounds b (.cells (Sort.flatK encR k (mrg cf d) ++ cs.extract (d.size * k) cs.size) e true)) (sortWorldK encR k W τ.b o' m (mrg cf d) os)
  generalize mrg cf d = d1 at hps ⊢
  unfold sortWorldK
  have st1 : Step P M H W M (H.setIfInBounds b (.cells (Sort.flatK encR k d1 ++ cs.extract (d.size * k) cs.size) e true)) (putRowK encR k W τ.b o' d1) := by
    refine step_set (W' := putRowK encR k W τ.b o' d1) (blk1 := .cells (Sort.flatK encR k d1 ++ cs.extract (d.size * k) cs.size) e true) R ⟨rfl, rfl, rfl, Nat.le_refl _⟩ hτ (by rintro ⟨_, _, h⟩; rw [hb] at h; cases h) (by intro h; unfold Dead at h; rw [hb] at h; cases h) rfl (Go.Sort.size_putRow _ _ _ _ _) (fun i hi => ?_) ?_
    · simp only [putRowK, putRow, mapBlock, Array.getElem?_modify]
      rw [if_neg (fun h => hi h.symm)]
    · refine ⟨putCells id o' (Sort.flatK encR k d1) c1, _, fz, ?_, fun _ => rfl, ht, ?_, ⟨?_, fun i v hv => ?_⟩, hf⟩
      · simp only [putRowK, putRow, mapBlock, Array.getElem?_modify, if_pos, hw, Option.map_some, onCells]
      · simp [putCells, hn]
      · have := hc.1
        simp [putCells, hps]
        omega
      · by_cases hi : i < d.size * k
        · rw [Array.getElem?_append_left (by simpa [hps] using hi)] at hv
          have ho1 : o' = τ.d := by
            rcases ho with h | h
            · simpa using h
            · rw [h] at hi; simp at hi
          subst ho1
          have hc1 := hc.1
          have hbse := flat_base d1 i (by rw [hps]; exact hi)
          rw [getElem!_pos _ _ (by simpa [hps] using hi)] at hbse
          rw [Array.getElem?_eq_getElem (by simpa [hps] using hi)] at hv
          cases hv
          refine ⟨_, ?_, .base hbse⟩
          simp only [putCells, Array.getElem?_mapIdx]
          rw [Array.getElem?_eq_getElem (by omega), Option.map_some, if_pos (by simp [hps]; omega)]
          simp only [Nat.add_sub_cancel_left, id]
          rw [getElem!_pos _ _ (by simpa [hps] using hi)]
        · rw [Array.getElem?_append_right (by simp [hps]; omega)] at hv
          simp only [size_flatK, hps, Array.getElem?_extract] at hv
          split at hv
          · rw [show d.size * k + (i - d.size * k) = i by omega] at hv
            obtain ⟨v', q1, q2⟩ := hc.2 i v hv
            refine ⟨v', ?_, q2⟩
            simp only [putCells, Array.getElem?_mapIdx, q1, Option.map_some, size_flatK, hps]
            rw [if_neg]
            rcases ho with h | h
            · rw [h]; omega
            · rw [h]; omega
          · cases hv
  exact Step.trans R st1 (by
    have := step_grow st1.rel m os
    exact this)
end Go.AH

/-
  AH: slices.Sort at texts, by the library's own contract.
-/
namespace Go.AH
open Go Go.Sort Go.RowKit Go.Proofs Go.Shelf
variable {P : Program} {ρ : Ren} {M : Mp} {H H' : Heap} {W W' : World}

/-- Texts, rising. -/
def srtS (ss : List ByteArray) : List ByteArray := ss.mergeSort fun x y => decide (x.data.toList ≤ y.data.toList)
theorem srtS_len (ss : List ByteArray) : (srtS ss).length = ss.length := by simp [srtS]
theorem srtS_map (ss : List ByteArray) : ((ss.map (·.data.toList)).mergeSort fun x y => decide (x ≤ y)).map (fun l => Value.string ⟨l.toArray⟩) = (srtS ss).map .string := by
  unfold srtS
  rw [← List.map_mergeSort (r := fun x y : ByteArray => decide (x.data.toList ≤ y.data.toList)) (s := fun x y : List UInt8 => decide (x ≤ y)) (f := fun b : ByteArray => b.data.toList) (by intros; rfl)]
  rw [List.map_map]
  rfl

def sortSN (sf : FuncId) : CallR := fun f args H v H' => f = sf ∧ v = .tuple #[] ∧ H' = H ∧ args = #[.slice none 0 0]
/-- slices.Sort. -/
def sortSR (sf : FuncId) (e : TypeId) : CallR := fun f args H v H' => f = sf ∧ v = .tuple #[] ∧ ∃ (b c : Nat) (cs : Array Value) (ss : List ByteArray), ss.length < 4611686018427387904 ∧ args = #[.slice (some ⟨b, 0, none⟩) ss.length c] ∧ H[b]? = some (.cells cs e true) ∧ ss.length ≤ cs.size ∧
  (∀ j (h : j < ss.length), cs[j]? = some (.string ss[j])) ∧ H' = H.setIfInBounds b (.cells (((srtS ss).map .string).toArray ++ cs.extract ss.length cs.size) e true)

theorem sortSN_snd (L : Lays.n190 P ρ) (hent : Ent P (ρ.f 190)) {f : FuncId} {args : Array Value} {v : Value} (h : sortSN (ρ.f 190) f args H v H') : Snd P f args H v H' := by
  obtain ⟨rfl, rfl, rfl, rfl⟩ := h
  refine ⟨Nat.le_refl _, .inl ⟨hent, fun M W args' R ha => ?_⟩⟩
  obtain ⟨l⟩ := args'
  have hl := ha.list
  cases hl with | cons h1 r => cases r with | nil =>
  rw [h1.sl_nil_inv]
  refine (Any.slices_Sort_string_none L none 0 W).mono fun e' W' k' => ?_
  obtain ⟨rfl, rfl⟩ := k'
  exact ⟨_, M, rfl, .undef, Step.refl R⟩

theorem sortS_snd (L : Lays.n190 P ρ) (hent : Ent P (ρ.f 190)) (e : TypeId) {f : FuncId} {args : Array Value} {v : Value} (h : sortSR (ρ.f 190) e f args H v H') : Snd P f args H v H' := by
  obtain ⟨rfl, rfl, b, c, cs, ss, hsz, rfl, hb, hle, hcs, rfl⟩ := h
  refine ⟨by simp, .inl ⟨hent, fun M W args' R ha => ?_⟩⟩
  obtain ⟨l⟩ := args'
  have hl := ha.list
  cases hl with | cons h1 r => cases r with | nil =>
  obtain ⟨τ, o', c', hτ, rfl, ho⟩ := h1.slice_inv
  obtain ⟨blk, g1, g2⟩ := R.blk b τ hτ
  rw [hb] at g1; cases g1
  obtain ⟨c1, t', fz, hw, ht0', ht, hn, hc, hf⟩ := g2
  have ht1' := (ht0' rfl).symm; subst ht1'
  have hlt : τ.b < W.heap.size := R.lt b τ hτ
  have hgl : ∀ j (h : j < ss.length), ((ss.map (·.data.toList)).toArray)[j]! = ss[j].data.toList := fun j h => by
    rw [getElem!_pos _ _ (by simpa using h)]; simp
  have hH : Holds encStr W τ.b o' (ss.map (·.data.toList)).toArray := by
    intro j hj
    simp only [List.size_toArray, List.length_map] at hj
    have ho1 : o' = τ.d := by
      rcases ho with h | h
      · simpa using h
      · rw [h] at hj; simp at hj
    subst ho1
    obtain ⟨v', e1, e2⟩ := hc.2 j _ (hcs j hj)
    have : v' = .string ss[j] := e2.string_inv
    subst this
    rw [hgl j hj]
    refine ⟨?_, ?_⟩
    · simp [World.cell?, hw, e1, encStr]
    · have := hf rfl (τ.d + j) (by have := (Array.getElem?_eq_some_iff.1 e1).1; omega)
      simpa [World.frozen?, hw] using this
  have hcon := Any.slices_Sort_string L τ.b o' c' (ss.map (·.data.toList)) W hH hlt (by simpa using hsz)
  rw [List.length_map] at hcon
  refine hcon.mono fun e' W' k' => ?_
  obtain ⟨rfl, m, os, rfl⟩ := k'
  refine ⟨_, M, rfl, .undef, ?_⟩
  have hps := srtS_len ss
  have hmp := srtS_map ss
  generalize hq : ((ss.map (·.data.toList)).mergeSort fun x y => decide (x ≤ y)) = l1 at hmp ⊢
  generalize srtS ss = d1 at hps hmp ⊢
  have hl1 : l1.length = ss.length := by rw [← hq]; simp
  have hget : ∀ i (h : i < ss.length), encStr (l1.toArray)[i]! = .string (d1[i]'(by omega)) := fun i h => by
    rw [getElem!_pos _ _ (by simp; omega)]
    have := congrArg (fun l => l[i]?) hmp
    simp only [List.getElem?_map] at this
    rw [List.getElem?_eq_getElem (by omega), List.getElem?_eq_getElem (by omega)] at this
    simp only [Option.map_some, Option.some.injEq] at this
    simpa [encStr] using this
  have st1 : Step P M H W M (H.setIfInBounds b (.cells ((d1.map Value.string).toArray ++ cs.extract ss.length cs.size) e true)) (putRow encStr W τ.b o' l1.toArray) := by
    refine step_set (W' := putRow encStr W τ.b o' l1.toArray) (blk1 := .cells ((d1.map Value.string).toArray ++ cs.extract ss.length cs.size) e true) R ⟨rfl, rfl, rfl, Nat.le_refl _⟩ hτ (by rintro ⟨_, _, h⟩; rw [hb] at h; cases h) (by intro h; unfold Dead at h; rw [hb] at h; cases h) rfl (Go.Sort.size_putRow _ _ _ _ _) (fun i hi => ?_) ?_
    · simp only [putRow, mapBlock, Array.getElem?_modify]
      rw [if_neg (fun h => hi h.symm)]
    · refine ⟨putCells encStr o' l1.toArray c1, _, fz, ?_, fun _ => rfl, ht, ?_, ⟨?_, fun i v hv => ?_⟩, hf⟩
      · simp only [putRow, mapBlock, Array.getElem?_modify, if_pos, hw, Option.map_some, onCells]
      · simp [putCells, hn]
      · have := hc.1
        simp [putCells, hps]
        omega
      · by_cases hi : i < ss.length
        · rw [Array.getElem?_append_left (by simp; omega)] at hv
          have ho1 : o' = τ.d := by
            rcases ho with h | h
            · simpa using h
            · rw [h] at hi; simp at hi
          subst ho1
          have hc1 := hc.1
          simp only [List.getElem?_toArray, List.getElem?_map] at hv
          rw [List.getElem?_eq_getElem (by omega)] at hv
          simp only [Option.map_some, Option.some.injEq] at hv
          subst hv
          refine ⟨_, ?_, .base rfl⟩
          simp only [putCells, Array.getElem?_mapIdx]
          rw [Array.getElem?_eq_getElem (by omega), Option.map_some, if_pos (by simp; omega)]
          simp only [Nat.add_sub_cancel_left]
          rw [hget i hi]
        · rw [Array.getElem?_append_right (by simp; omega)] at hv
          simp only [List.size_toArray, List.length_map, hps, Array.getElem?_extract] at hv
          split at hv
          · rw [show ss.length + (i - ss.length) = i by omega] at hv
            obtain ⟨v', q1, q2⟩ := hc.2 i v hv
            refine ⟨v', ?_, q2⟩
            simp only [putCells, Array.getElem?_mapIdx, q1, Option.map_some, List.size_toArray, hl1]
            rw [if_neg]
            rcases ho with h | h
            · rw [h]; omega
            · rw [h]; omega
          · cases hv
  exact Step.trans R st1 (by
    have := step_grow st1.rel m os
    exact this)
end Go.AH

/-
  PM: slices.SortFunc at structs of texts: a contract like any other.
-/
namespace Go.PM
open Go Go.AH Go.Sort Go.Proofs
variable {P : Program} {Fn : FuncId → Bool} {Pr : CallR → CallR} {k : Nat} {H : Heap} {Z : Nat → Prop}

theorem cmp_of_snd {g : FuncId} {cf : Row k → Row k → Int} (hcmp : ∀ x y : Row k, ∃ o, SndP P Fn Pr g [.v (rowV x), .v (rowV y)] [.v (.int .i64 (cf x y))] o) : cmpA (CallA P Fn Pr) g cf := fun x y => by
  obtain ⟨o, _, h⟩ := hcmp x y
  obtain ⟨a, H', Z', rs, g', f', h1, h2, h3, _⟩ := h #[] (fun _ => False) [.agg (encR x).toArray, .agg (encR y).toArray] [] (by simp) (.cons (.v (rowV_rr x)) (.cons (.v (rowV_rr y)) .nil)) (by simp) (by simp)
  cases h3 with | cons h3 r => cases r with | nil => cases h3 with | v h3 =>
  cases h3
  refine ⟨H', ?_⟩
  rw [h2] at h1
  exact h1

theorem row_get (d : Array (Row k)) (i j : Nat) (hi : i < d.size) (hj : j < k) : ∃ s, (Sort.flatK encR k d)[i * k + j]! = .string s ∧ (d[i]).1[j]? = some s := by
  have k0 : 0 < k := by omega
  have lt : i * k + j < d.size * k := by
    have := Nat.mul_le_mul_right k (show i + 1 ≤ d.size from hi); rw [Nat.add_mul, Nat.one_mul] at this; omega
  have e1 : (i * k + j) / k = i := (blk_iff k i _ k0).1 ⟨by omega, by omega⟩
  have e2 : (i * k + j) % k = j := by rw [Nat.mod_eq_sub_div_mul, e1]; omega
  rw [get_flatK _ _ _ _ lt, e1, e2, getElem!_pos d i hi]
  have hl := d[i].2
  refine ⟨d[i].1[j], ?_, List.getElem?_eq_getElem (by omega)⟩
  rw [getElem!_pos _ _ (by simp [encR]; omega)]
  simp [encR]

theorem sndP_sort {sf g : FuncId} {e : TypeId} (hN : ∀ R f args H v H', sortN sf f args H v H' → Pr R f args H v H') (hPr : ∀ R f args H v H', sortR P sf e k R f args H v H' → Pr R f args H v H') (hg : Ent P g) {cf : Row k → Row k → Int} (hO : SWO (ltOf cf)) (hT : ∀ x y, ltOf cf x y = false → ltOf cf y x = false → x = y)
    (hcmp : ∀ x y : Row k, ∃ o, SndP P Fn Pr g [.v (rowV x), .v (rowV y)] [.v (.int .i64 (cf x y))] o) (hk : sz P e = some k) (d : Array (Row k)) (hsz : d.size < 4611686018427387904) :
    SndP P Fn Pr sf [.sl e (d.toList.map rowV), .v (.fn g [] [])] [] [.sl e ((mrg cf d).toList.map rowV), .v (.fn g [] [])] := by
  refine ⟨rfl, fun H Z as_ f hz hov hnd hfz => ?_⟩
  have hc := cmp_of_snd hcmp
  cases hov with | cons h1 r => cases r with | cons h2 r => cases r with | nil => cases h2 with | v h2 =>
  rename_i a1 f1 a2
  have e2 : a2 = .func (.func g) #[] #[] := by
    cases h2 with
    | fn ha hc =>
      simp at ha hc
      rw [Array.eq_empty_of_size_eq_zero ha.symm, Array.eq_empty_of_size_eq_zero hc.symm]
  subst e2
  generalize hL : d.toList.map rowV = L at h1
  cases h1 with
  | slN =>
    have hd : d = #[] := by
      have := congrArg List.length hL
      simp at this
      exact this
    subst hd
    refine ⟨.tuple #[], H, Z, [], [], [], fun R hR => hR.1 _ _ _ _ _ (hN _ _ _ _ _ _ ⟨rfl, rfl, rfl, g, rfl⟩), rfl, .nil, ?_, by simp, by simp, Nat.le_refl _, fun _ _ _ => rfl, fun _ h => h, fun _ h => .inl h, hz⟩
    have : mrg cf #[] = #[] := by simp [mrg]
    rw [this]
    exact .cons (.slN e) (.cons (.v h2) .nil)
  | @sl _ _ b c k' cs ag h0 hb hk' hag hcc hcap hle hs h =>
    rw [hk] at hk'; cases hk'
    have hLl : L.length = d.size := by rw [← hL]; simp
    rw [hLl] at hcc hle
    have hi : ∀ i (h1 : i < d.size) (h2 : i < L.length), L[i] = rowV d[i] := fun i h1 h2 => by subst hL; simp
    have hagt : 0 < d.size → ag = true := fun h => by
      have := (hs 0 (by omega)).2
      rw [hi 0 h (by omega)] at this
      exact this.symm
    have hcell : ∀ j, j < d.size * k → cs[j]? = some (Sort.flatK encR k d)[j]! := fun t ht => by
      have k0 : 0 < k := by rcases Nat.eq_zero_or_pos k with h | h; · subst h; simp at ht
                            · exact h
      have q1 : t / k < d.size := (Nat.div_lt_iff_lt_mul k0).2 ht
      have q2 : t % k < k := Nat.mod_lt _ k0
      have q3 : t / k * k + t % k = t := by have := Nat.div_add_mod t k; rw [Nat.mul_comm] at this; exact this
      obtain ⟨s, s1, s2⟩ := row_get d (t / k) (t % k) q1 q2
      rw [q3] at s1
      rw [s1]
      have hh := h (t / k) (t % k) (by omega) (by rw [hi _ q1 (by omega)]; simp [rowV, RV.cells, d[t / k].2, q2]) (by omega)
      simp only [q3] at hh
      simp only [hi _ q1 (show t / k < L.length by omega), rowV, RV.cells, List.getElem_map] at hh
      have s3 : d[t / k].1[t % k]'(by rw [d[t / k].2]; exact q2) = s := by
        rw [List.getElem?_eq_getElem (by rw [d[t / k].2]; exact q2)] at s2
        exact Option.some.inj s2
      rw [s3] at hh
      rw [Array.getElem?_eq_getElem (by omega), rr_str hh]
    have hms := mrg_size cf d
    have hbl : b < H.size := (Array.getElem?_eq_some_iff.1 hb).1
    have hbz : ¬ Z b := hfz b (by simp)
    have old : ∀ b', b' ≠ b → ∀ x, (H.setIfInBounds b x)[b']? = H[b']? := fun b' hne x => by rw [Array.getElem?_setIfInBounds, if_neg (fun h => hne h.symm)]
    refine ⟨.tuple #[], _, Z, [], [], [b], fun R hR => hR.1 _ _ _ _ _ (hPr _ _ _ _ _ _ ⟨rfl, rfl, g, b, c, cs, d, cf, hO, hT, hg, fun x y => ?_, hsz, by simp [hLl], hb, hle, hcell, rfl⟩), rfl, .nil, ?_, by simp, ?_, by simp, ?_, fun _ h => h, fun _ h => .inl h, fun b' hb' => by simpa using hz b' hb'⟩
    · obtain ⟨H1, h⟩ := hc x y
      exact ⟨H1, h R hR⟩
    · generalize hm : mrg cf d = d1 at hms
      have hl1 : ((d1.toList.map rowV).length) = L.length := by simp [hms, hLl]
      refine OVL.cons (f := [b]) (g := [] ++ []) ?_ (.cons (f := []) (.v (h2.mono fun b' hb' => ⟨hb', old b' (fun h => hbz (h ▸ hb')) _⟩)) .nil)
      rw [show Value.slice (some ⟨b, 0, none⟩) L.length c = Value.slice (some ⟨b, 0, none⟩) (d1.toList.map rowV).length c by rw [hl1]]
      have hsize : (Sort.flatK encR k d1 ++ cs.extract (d.size * k) cs.size).size = cs.size := by simp [hms]; omega
      have hi1 : ∀ i (h : i < (d1.toList.map rowV).length), (d1.toList.map rowV)[i] = rowV (d1[i]'(by simpa using h)) := fun i h => by simp
      refine .sl (k := k) (ag := ag) (cs := Sort.flatK encR k d1 ++ cs.extract (d.size * k) cs.size) ?_ (by rw [Array.getElem?_setIfInBounds]; simp [hbl]) hk hag (by rw [hl1, hLl]; exact hcc) (by rw [hsize]; exact hcap) (by rw [hl1, hLl, hsize]; exact hle) (fun i h => ?_) (fun i j a1 a2 a3 => ?_)
      · unfold ones
        rw [List.all_eq_true]
        intro v hv
        rw [Array.toList_append, List.mem_append] at hv
        rcases hv with hv | hv
        · obtain ⟨j, hj, rfl⟩ := List.getElem_of_mem hv
          simp only [Array.length_toList, size_flatK] at hj
          have := flat_base d1 j hj
          rw [getElem!_pos _ _ (by simpa using hj)] at this
          simp only [Array.getElem_toList]
          generalize (Sort.flatK encR k d1)[j]'(by simpa using hj) = u at this
          cases u <;> simp_all [isBase, Value.oneCell']
        · unfold ones at h0
          rw [List.all_eq_true] at h0
          refine h0 v ?_
          simp only [Array.toList_extract] at hv
          exact List.mem_of_mem_drop (List.mem_of_mem_take hv)
      · rw [hi1 i h]
        have hh : i < d.size := by simp [hms] at h; exact h
        exact ⟨by simp [rowV, RV.cells, (d1[i]'(by omega)).2], by rw [hagt (by omega)]; rfl⟩
      · have hh : i < d1.size := by simpa using a1
        have hj : j < k := by rw [hi1 i a1] at a2; simpa [rowV, RV.cells, (d1[i]'hh).2] using a2
        obtain ⟨s, s1, s2⟩ := row_get d1 i j hh hj
        have lt : i * k + j < d1.size * k := by
          have := Nat.mul_le_mul_right k (show i + 1 ≤ d1.size from hh); rw [Nat.add_mul, Nat.one_mul] at this; omega
        rw [Array.getElem_append_left (by simpa using lt)]
        rw [getElem!_pos _ _ (by simpa using lt)] at s1
        rw [s1]
        simp only [hi1 i a1, rowV, RV.cells, List.getElem_map]
        rw [List.getElem?_eq_getElem (by rw [(d1[i]'hh).2]; exact hj)] at s2
        rw [Option.some.inj s2]
        exact .str _
    · intro b' hb'
      simp at hb'
      subst hb'
      exact ⟨hbz, .inl (by simp)⟩
    · intro b' _ hb'
      exact old b' (fun h => hb' (by simp [h])) _
end Go.PM

/-
  PM: slices.Sort at texts: a contract like any other.
-/
namespace Go.PM
open Go Go.AH Go.Sort Go.Proofs
variable {P : Program} {Fn : FuncId → Bool} {Pr : CallR → CallR} {H : Heap} {Z : Nat → Prop}

theorem sndP_sortS {sf : FuncId} {e : TypeId} (hN : ∀ R f args H v H', sortSN sf f args H v H' → Pr R f args H v H') (hPr : ∀ R f args H v H', sortSR sf e f args H v H' → Pr R f args H v H') (hk : sz P e = some 1) (ss : List ByteArray) (hsz : ss.length < 4611686018427387904) :
    SndP P Fn Pr sf [.sl e (ss.map .str)] [] [.sl e ((srtS ss).map .str)] := by
  refine ⟨rfl, fun H Z as_ f hz hov hnd hfz => ?_⟩
  cases hov with | cons h1 r => cases r with | nil =>
  generalize hL : ss.map RV.str = L at h1
  cases h1 with
  | slN =>
    have hd : ss = [] := by simpa using hL
    subst hd
    refine ⟨.tuple #[], H, Z, [], [], [], fun R hR => hR.1 _ _ _ _ _ (hN _ _ _ _ _ _ ⟨rfl, rfl, rfl, rfl⟩), rfl, .nil, ?_, by simp, by simp, Nat.le_refl _, fun _ _ _ => rfl, fun _ h => h, fun _ h => .inl h, hz⟩
    have : srtS [] = [] := by simp [srtS]
    rw [this]
    exact .cons (.slN e) .nil
  | @sl _ _ b c k' cs ag h0 hb hk' hag hcc hcap hle hs h =>
    rw [hk] at hk'; cases hk'
    have hLl : L.length = ss.length := by rw [← hL]; simp
    rw [hLl] at hcc hle
    have hi : ∀ i (h1 : i < ss.length) (h2 : i < L.length), L[i] = .str ss[i] := fun i h1 h2 => by subst hL; simp
    have hagf : 0 < ss.length → ag = false := fun h => by
      have := (hs 0 (by omega)).2
      rw [hi 0 h (by omega)] at this
      exact this.symm
    have hcell : ∀ j (hj : j < ss.length), cs[j]? = some (.string ss[j]) := fun t ht => by
      have hh := h t 0 (by omega) (by rw [hi _ ht (by omega)]; simp [RV.cells]) (by omega)
      simp only [Nat.mul_one, Nat.add_zero, hi _ ht (show t < L.length by omega), RV.cells, List.getElem_cons_zero] at hh
      rw [Array.getElem?_eq_getElem (by omega), rr_str hh]
    have hms := srtS_len ss
    have hbl : b < H.size := (Array.getElem?_eq_some_iff.1 hb).1
    have hbz : ¬ Z b := hfz b (by simp)
    have old : ∀ b', b' ≠ b → ∀ x, (H.setIfInBounds b x)[b']? = H[b']? := fun b' hne x => by rw [Array.getElem?_setIfInBounds, if_neg (fun h => hne h.symm)]
    refine ⟨.tuple #[], _, Z, [], [], [b], fun R hR => hR.1 _ _ _ _ _ (hPr _ _ _ _ _ _ ⟨rfl, rfl, b, c, cs, ss, hsz, by simp [hLl], hb, by omega, hcell, rfl⟩), rfl, .nil, ?_, by simp, ?_, by simp, ?_, fun _ h => h, fun _ h => .inl h, fun b' hb' => by simpa using hz b' hb'⟩
    · generalize hm : srtS ss = d1 at hms
      have hl1 : ((d1.map RV.str).length) = L.length := by simp [hms, hLl]
      refine OVL.cons (f := [b]) (g := []) ?_ .nil
      rw [show Value.slice (some ⟨b, 0, none⟩) L.length c = Value.slice (some ⟨b, 0, none⟩) (d1.map RV.str).length c by rw [hl1]]
      have hsize : ((d1.map Value.string).toArray ++ cs.extract ss.length cs.size).size = cs.size := by simp [hms]; omega
      refine .sl (k := 1) (ag := ag) (cs := (d1.map Value.string).toArray ++ cs.extract ss.length cs.size) ?_ (by rw [Array.getElem?_setIfInBounds]; simp [hbl]) hk hag (by rw [hl1, hLl]; exact hcc) (by rw [hsize]; exact hcap) (by rw [hl1, hLl, hsize]; exact hle) (fun i h => ?_) (fun i j a1 a2 a3 => ?_)
      · unfold ones
        rw [List.all_eq_true]
        intro v hv
        rw [Array.toList_append, List.mem_append] at hv
        rcases hv with hv | hv
        · simp only [List.mem_map] at hv
          obtain ⟨s, _, rfl⟩ := hv
          rfl
        · unfold ones at h0
          rw [List.all_eq_true] at h0
          refine h0 v ?_
          simp only [Array.toList_extract] at hv
          exact List.mem_of_mem_drop (List.mem_of_mem_take hv)
      · simp only [List.getElem_map]
        exact ⟨rfl, by rw [hagf (by simp at h; omega)]; rfl⟩
      · have hh : i < d1.length := by simpa using a1
        have hj : j = 0 := by simp [RV.cells] at a2; exact a2
        subst hj
        simp only [List.getElem_map, RV.cells, List.getElem_cons_zero, Nat.mul_one, Nat.add_zero]
        rw [Array.getElem_append_left (by simpa using hh)]
        simp only [List.getElem_toArray, List.getElem_map]
        exact .str _
    · intro b' hb'
      simp at hb'
      subst hb'
      exact ⟨hbz, .inl (by simp)⟩
    · intro b' _ hb'
      exact old b' (fun h => hb' (by simp [h])) _
end Go.PM
