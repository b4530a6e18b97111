/-
  PM: the door.
-/
import Derived.Test.YtllmlcmhmkkgcaaLib5
import Derived.Test.YtllmlcmhmkkgcaaLib6
import Derived.Carry
import Derived.ChangeSlices
import Derived.Deep.Slices
import Derived.OpenShut
set_option linter.unusedVariables false
set_option linter.unusedSimpArgs false
set_option linter.unusedSectionVars false

/-
  PM: at a law's door: what the world's arguments are, as values; what the law's answer says of the world.
-/
namespace Go.PM
open Go Go.AH Go.RowKit Go.ChangeShapes
variable {P : Program} {W : World}

/-- Blocks that are read alone, one behind the other. -/
structure Dst (P : Program) (W : World) (H : Heap) (M : Mp) : Prop where
  rel : Rel P M H W
  ro : ∀ b, b < H.size → Ro H b

theorem dst_nil : Dst P W #[] (fun _ => none) := ⟨rel_empty W, fun b h => by simp at h⟩

/-- What an argument is: the blocks of before still stand. -/
def Arg (P : Program) (W : World) (H : Heap) (M : Mp) (x : RV) (v : Value) : Prop :=
  ∃ H' M' a, Dst P W H' M' ∧ H.size ≤ H'.size ∧ (∀ b, b < H.size → H'[b]? = H[b]?) ∧ MLe M M' ∧ VR P M' a v ∧ RR P H' (· < H'.size) x a

theorem arg_plain {H : Heap} {M : Mp} (D : Dst P W H M) {x : RV} {v : Value} (hr : RR P H (· < H.size) x v) (hv : VR P M v v) : Arg P W H M x v :=
  ⟨H, M, v, D, Nat.le_refl _, fun _ _ => rfl, MLe.refl _, hv, hr⟩

/-- One more block. -/
theorem dst_push {H : Heap} {M : Mp} (D : Dst P W H M) {c c' : Array Value} {t t' : TypeId} {fz : Nat × Nat} {k d : Nat} (hw : W.heap[k]? = some (.cells c' t' fz)) (hc : Go.AH.CR P M d c c') :
    Dst P W (H.push (.cells c t false)) (ins M H.size ⟨k, d, c'.size, t⟩) ∧ MLe M (ins M H.size ⟨k, d, c'.size, t⟩) := by
  have hM0 : M H.size = none := D.rel.none_at (Nat.le_refl _)
  have hle := ins_le (M := M) (τ := ⟨k, d, c'.size, t⟩) hM0
  have inv : ∀ b τ', ins M H.size ⟨k, d, c'.size, t⟩ b = some τ' → (b = H.size ∧ τ' = ⟨k, d, c'.size, t⟩) ∨ (b < H.size ∧ M b = some τ') := fun b τ' e => by
    by_cases hbs : b = H.size
    · subst hbs; rw [ins_same] at e; cases e; exact .inl ⟨rfl, rfl⟩
    · rw [ins_other hbs] at e; exact .inr ⟨D.rel.lt' e, e⟩
  have roN : ∀ b, b < (H.push (Blk.cells c t false)).size → Ro (H.push (.cells c t false)) b := fun b hb => by
    by_cases h : b = H.size
    · subst h; exact ⟨c, t, get_push_eq _ _⟩
    · have hb2 : b < H.size := by simp at hb; omega
      obtain ⟨c1, t1, e⟩ := D.ro b hb2
      exact ⟨c1, t1, by rw [get_push_lt _ _ hb2]; exact e⟩
  refine ⟨⟨⟨fun b τ' e => ?_, fun b τ' e => ?_, fun b b' τ1 τ2 e1 e2 _ _ => ?_⟩, roN⟩, hle⟩
  · rcases inv b τ' e with ⟨rfl, rfl⟩ | ⟨hb, e⟩
    · exact ⟨_, get_push_eq _ _, c', t', fz, hw, (fun h => by cases h), rfl, rfl, hc.mono hle, fun h => by cases h⟩
    · obtain ⟨blk, h1, h2⟩ := D.rel.blk b τ' e
      exact ⟨blk, by rw [get_push_lt _ _ hb]; exact h1, h2.move hle rfl⟩
  · rcases inv b τ' e with ⟨rfl, rfl⟩ | ⟨hb, e⟩
    · exact (Array.getElem?_eq_some_iff.1 hw).1
    · exact D.rel.lt b τ' e
  · have l1 : b < (H.push (Blk.cells c t false)).size := by
      rcases inv b τ1 e1 with ⟨rfl, _⟩ | ⟨hb, _⟩ <;> simp <;> omega
    have l2 : b' < (H.push (Blk.cells c t false)).size := by
      rcases inv b' τ2 e2 with ⟨rfl, _⟩ | ⟨hb, _⟩ <;> simp <;> omega
    exact .inr (.inr ⟨roN b l1, roN b' l2⟩)

/-- A list whose elements are cells that lead nowhere. -/
theorem arg_list {H : Heap} {M : Mp} (D : Dst P W H M) {e : TypeId} {k : Nat} {ag : Bool} (hk : sz P e = some k) (hag : isAggA P e = some ag) (k0 : 0 < k) {els : List RV} {cs : List Value} {a : Addr} {cap : Nat}
    (hsp : a.spot = none) (hsh : ∃ c' t' fz, W.heap[a.block]? = some (.cells c' t' fz)) (hcap : els.length ≤ cap) (hmax : cap ≤ maxLen) (hcell : ∀ i, i < cap * k → ∃ v, W.cell? (a.add i) = some v)
    (hlen : cs.length = els.length * k) (hcs : ∀ i v, cs[i]? = some v → W.cell? (a.add i) = some v) (hb : cs.all isBase = true) (h1 : cs.all Value.oneCell' = true)
    (hs : ∀ i (h : i < els.length), (els[i].cells).length = k ∧ els[i].isAgg = ag) (hr : ∀ i j (h1 : i < els.length) (h2 : j < (els[i].cells).length) (h3 : i * k + j < cs.length), RR P #[] (fun _ => False) (els[i].cells)[j] cs[i * k + j]) :
    Arg P W H M (.sl e els) (.slice (some a) els.length cap) := by
  obtain ⟨c', t', fz, hw⟩ := hsh
  have hadd : ∀ i, a.add i = ⟨a.block, a.off + i, none⟩ := fun i => by
    unfold Addr.add
    split
    · rename_i h0; subst h0; cases a; simp_all
    · rfl
  have hat : ∀ i v, W.cell? (a.add i) = some v → c'[a.off + i]? = some v := fun i v h => by
    rw [hadd] at h
    simpa [World.cell?, hw] using h
  have hmx : maxLen < capU := by decide
  by_cases hc0 : cap = 0
  · subst hc0
    have hn : els = [] := List.length_eq_zero_iff.1 (by omega)
    subst hn
    obtain ⟨D2, hle⟩ := dst_push D (c := #[]) (t := e) (d := 0) hw ⟨by simp, fun i v h => by simp at h⟩
    refine ⟨_, _, .slice (some ⟨H.size, 0, none⟩) 0 0, D2, by simp, fun b hb => get_push_lt _ _ hb, hle, ?_, ?_⟩
    · have := @VR.sl0 P (ins M H.size ⟨a.block, 0, c'.size, e⟩) H.size 0 a.off _ (ins_same _ _ _)
      cases a
      simp only at hsp
      subst hsp
      exact this
    · exact .sl (rw := false) (k := k) (ag := ag) (cs := #[]) (by simp [ones]) (by simp) (get_push_eq _ _) hk hag (by simp) (.inr (by decide)) (by simp) (fun i h => by simp at h) (fun i j h => by simp at h)
  · have hbig : a.off + cap * k ≤ c'.size := by
      have : 0 < cap * k := Nat.mul_pos (by omega) k0
      obtain ⟨v, hv⟩ := hcell (cap * k - 1) (by omega)
      have := (Array.getElem?_eq_some_iff.1 (hat _ _ hv)).1
      omega
    have hcr : Go.AH.CR P M a.off cs.toArray c' := by
      refine ⟨?_, fun i v hv => ?_⟩
      · have := Nat.mul_le_mul_right k hcap
        simp only [List.size_toArray]
        omega
      · have hv2 : cs[i]? = some v := by simpa using hv
        have hm : v ∈ cs := List.mem_of_getElem? hv2
        exact ⟨v, hat _ _ (hcs _ _ hv2), .base (List.all_eq_true.1 hb v hm)⟩
    obtain ⟨D2, hle⟩ := dst_push D (t := e) hw hcr
    refine ⟨_, _, .slice (some ⟨H.size, 0, none⟩) els.length cap, D2, by simp, fun b hb => get_push_lt _ _ hb, hle, ?_, ?_⟩
    · have := @VR.sl P (ins M H.size ⟨a.block, a.off, c'.size, e⟩) H.size 0 els.length cap _ (ins_same _ _ _) (by omega)
      cases a
      simp only at hsp
      subst hsp
      simpa using this
    · refine .sl (rw := false) (k := k) (ag := ag) (cs := cs.toArray) (by simpa [ones] using h1) (by simp) (get_push_eq _ _) hk hag hcap (.inr (by omega)) (by simp [hlen]) hs (fun i j a1 a2 a3 => ?_)
      have := hr i j a1 a2 (by simpa using a3)
      simp only [Nat.zero_add, List.getElem_toArray]
      exact this.mono (fun b h => h.elim)

/-! ### What is read -/
theorem ok_slice {t e : TypeId} {v : Value} {base : Nat} (ht : P.underlying t = some (.slice e)) (hok : Value.okWide P W .any base t v) :
    v = .slice none 0 0 ∨ ∃ a len cap, v = .slice (some a) len cap ∧ len ≤ cap ∧ a.spot = none ∧ ∃ c' t' fz, W.heap[a.block]? = some (.cells c' t' fz) := by
  unfold Value.okWide at hok
  rw [ht] at hok
  simp only at hok
  unfold Cell.okWide at hok
  rw [ht] at hok
  have hok2 : Cell.ok P W .any base t v := by
    cases v <;> exact hok
  unfold Cell.ok at hok2
  rw [ht] at hok2
  cases v with
  | slice p len cap =>
    cases p with
    | none =>
      left
      simp only at hok2
      split at hok2 <;> simp_all
    | some a =>
      right
      simp only at hok2
      obtain ⟨h1, h2, h3⟩ := hok2
      obtain ⟨_, h4, row, cells, h5, _⟩ := h3
      refine ⟨a, len, cap, rfl, h1, h4, ?_⟩
      unfold World.shape? at h5
      split at h5
      · rename_i c' t' fz hq
        exact ⟨c', t', fz, hq⟩
      · cases h5
  | _ => simp at hok2

section
variable {Ht : Type} {enc : TypeId × Value → Ht}
/-- A list of numbers. -/
theorem arg_ints {H : Heap} {M : Mp} (D : Dst P W H M) {t e : TypeId} {k : IntKind} (ht : P.underlying t = some (.slice e)) (he : P.underlying e = some (.int k)) (hc : P.cellsOf e = 1) (hk : sz P e = some 1) (hag : isAggA P e = some false) {v : Value} {d : DataW Ht} {ps : List MemPlace} {base : Nat}
    (hok : Value.okWide P W .any base t v) (h : DataW.Trod enc P W 0 (fun _ => true) true t v d ps) : ∃ l : List Int, l.length ≤ maxLen ∧ Arg P W H M (.sl e (l.map (.int k))) v := by
  obtain ⟨fuel, h⟩ := h
  rcases ok_slice ht hok with rfl | ⟨a, len, cap, rfl, hl, hsp, hsh⟩
  · exact ⟨[], by simp, arg_plain D (.slN e) (.base rfl)⟩
  · rcases open_ints ht he hc h with ⟨h0, _⟩ | ⟨a', len', cap', zs, h0, _, hl', hm, hz, _, hcell, _⟩
    · simp [Value.cells] at h0
    · simp [Value.cells] at h0
      obtain ⟨rfl, rfl, rfl⟩ := h0
      simp only [if_true] at hz
      have hlen : ((zs.take len).map (RV.int k)).length = len := by simp; omega
      refine ⟨zs.take len, by simp; omega, ?_⟩
      have := arg_list D (els := (zs.take len).map (.int k)) (cs := (zs.take len).map (.int k)) (cap := cap) hk hag (by omega) hsp hsh (by rw [hlen]; exact hl) hm (fun i hi => ⟨_, hcell i (by omega)⟩) (by simp) (fun i v hv => ?_) (by rw [List.all_eq_true]; intro x hx; obtain ⟨z, _, rfl⟩ := List.mem_map.1 hx; rfl) (by rw [List.all_eq_true]; intro x hx; obtain ⟨z, _, rfl⟩ := List.mem_map.1 hx; rfl)
        (fun i h => by simp [RV.cells]) (fun i j h1 h2 h3 => by
          have hj : j = 0 := by simp [RV.cells] at h2; omega
          subst hj
          simp only [List.getElem_map, RV.cells, Nat.mul_one, Nat.add_zero, List.getElem_cons_zero]
          exact .int _ _)
      · rw [hlen] at this
        exact this
      · simp only [List.getElem?_map, Option.map_eq_some_iff] at hv
        obtain ⟨z, hz1, rfl⟩ := hv
        have hi : i < zs.length := by
          have := (List.getElem?_eq_some_iff.1 hz1).1
          simp at this; omega
        rw [hcell i hi]
        rw [List.getElem?_take] at hz1
        split at hz1
        · simp [List.getD, hz1]
        · cases hz1

/-- How many texts a type is, laid one behind the other (and nothing else). -/
def strFs (r : TypeId → Option Nat) (P : Program) : List Field → Nat → Option Nat
  | [], o => some o
  | f :: fs, o => if f.offset = o then (r f.type).bind fun k => if P.cellsOf f.type = k then strFs r P fs (o + k) else none else none
def strK (P : Program) : Nat → TypeId → Option Nat
  | 0, _ => none
  | n + 1, t => match P.underlying t with
    | some .string => some 1
    | some (.struct fs) => (strFs (strK P n) P fs.toList 0).bind fun k => if P.cellsOf t = k then some k else none
    | _ => none

theorem strs_fs {w : World} {base : Nat} {spare : Nat → Bool} {held : Bool} {r : TypeId → Option Nat} (hr : ∀ t k, r t = some k → ∀ fuel cs x, DataW.trod enc P w base spare held fuel t cs = some x → ∃ ss : List ByteArray, ss.length = k ∧ cs = ss.map .string) :
    ∀ (fs : List Field) (o k : Nat) (cs : List Value), strFs r P fs o = some k → (∀ f ∈ fs, ∃ fuel x, DataW.trod enc P w base spare held fuel f.type ((cs.drop f.offset).take (P.cellsOf f.type)) = some x) → cs.length = k → o ≤ k ∧ ∃ ss : List ByteArray, cs.drop o = ss.map .string
  | [], o, k, cs, h, _, hl => by
    simp only [strFs, Option.some.injEq] at h
    subst h
    exact ⟨Nat.le_refl _, [], by rw [List.drop_of_length_le (by omega)]; rfl⟩
  | f :: fs, o, k, cs, h, hf, hl => by
    simp only [strFs] at h
    split at h
    · rename_i ho
      cases hk : r f.type with
      | none => simp [hk] at h
      | some k1 =>
        simp only [hk, Option.bind_some] at h
        split at h
        · rename_i hc
          obtain ⟨h1, ss2, e2⟩ := strs_fs hr fs (o + k1) k cs h (fun g hg => hf g (by simp [hg])) hl
          obtain ⟨fuel, x, hx⟩ := hf f (by simp)
          obtain ⟨ss1, e0, e1⟩ := hr _ _ hk _ _ _ hx
          refine ⟨by omega, ss1 ++ ss2, ?_⟩
          rw [List.map_append, ← e1, ← e2, ho, hc, ← List.drop_drop, List.take_append_drop]
        · cases h
    · cases h
theorem strs_of {w : World} {base : Nat} {spare : Nat → Bool} {held : Bool} : ∀ (n : Nat) (t : TypeId) (k : Nat), strK P n t = some k → ∀ fuel cs x, DataW.trod enc P w base spare held fuel t cs = some x → ∃ ss : List ByteArray, ss.length = k ∧ cs = ss.map .string
  | 0, t, k, h, fuel, cs, x, hx => by simp [strK] at h
  | n + 1, t, k, h, fuel, cs, x, hx => by
    simp only [strK] at h
    split at h
    · rename_i ht
      cases h
      obtain ⟨s, e, _⟩ := DataW.trod_string ht hx
      exact ⟨[s], rfl, e⟩
    · rename_i fs ht
      cases hq : strFs (strK P n) P fs.toList 0 with
      | none => simp [hq] at h
      | some k1 =>
        simp only [hq, Option.bind_some] at h
        split at h
        · rename_i hc
          cases h
          obtain ⟨xs, m, _, _, hl, hlen, hf⟩ := DataW.trod_struct ht hx
          obtain ⟨_, ss, e⟩ := strs_fs (strs_of n) fs.toList 0 _ cs hq (fun f hfm => by
            obtain ⟨i, hi, rfl⟩ := List.getElem_of_mem hfm
            have hi2 : i < fs.size := by simpa using hi
            have := hf i fs[i] (by simp [hi2])
            rw [List.getElem?_eq_getElem (by omega)] at this
            exact ⟨m, _, by simpa using this⟩) (by omega)
          rw [List.drop_zero] at e
          exact ⟨ss, by have := congrArg List.length e; simp at this; omega, e⟩
        · cases h
    · cases h

/-- A list of structs of texts. -/
theorem arg_rows {H : Heap} {M : Mp} (D : Dst P W H M) {t e : TypeId} {k n : Nat} (ht : P.underlying t = some (.slice e)) (hs : strK P n e = some k) (k0 : 0 < k) (hc : P.cellsOf e = k) (hk : sz P e = some k) (hag : isAggA P e = some true) {v : Value} {d : DataW Ht} {ps : List MemPlace} {base : Nat}
    (hok : Value.okWide P W .any base t v) (h : DataW.Trod enc P W 0 (fun _ => true) true t v d ps) : ∃ l : List (Row k), l.length ≤ maxLen ∧ Arg P W H M (.sl e (l.map rowV)) v := by
  obtain ⟨fuel, h⟩ := h
  rcases ok_slice ht hok with rfl | ⟨a, len, cap, rfl, hl, hsp, hsh⟩
  · exact ⟨[], by simp, arg_plain D (.slN e) (.base rfl)⟩
  · rcases Deep.open_slice ht h with ⟨h0, _⟩ | ⟨a', len', cap', m, n', Dd, Pl, h0, _, hl', hm, hmm, _, hx⟩
    · simp [Value.cells] at h0
    · simp [Value.cells] at h0
      obtain ⟨rfl, rfl, rfl⟩ := h0
      simp only [if_true] at hmm
      subst hmm
      have each : ∀ i, i < m → ∃ r : Row k, ∀ j (hj : j < k), W.cell? (a.add (i * k + j)) = some (.string (r.1[j]'(by rw [r.2]; exact hj))) := fun i hi => by
        obtain ⟨cs', h1, h2⟩ := hx i hi
        rw [hc] at h1
        obtain ⟨ss, e1, e2⟩ := strs_of n e k hs _ _ _ h2
        obtain ⟨_, _, h3⟩ := World.cells?_some h1
        refine ⟨⟨ss, e1⟩, fun j hj => ?_⟩
        have := h3 j hj
        rw [e2] at this
        have hadd : (a.add (i * k)).add j = a.add (i * k + j) := by
          unfold Addr.add
          by_cases q1 : i * k = 0
          · simp [q1]
          · by_cases q2 : j = 0
            · simp [q2]
            · have q3 : i * k + j ≠ 0 := by omega
              simp [q1, q2, q3, Nat.add_assoc]
        rw [hadd] at this
        rw [this]
        simp [e1, hj]
      obtain ⟨R, hR⟩ : ∃ R : Nat → Row k, ∀ i, i < m → ∀ j (hj : j < k), W.cell? (a.add (i * k + j)) = some (.string ((R i).1[j]'(by rw [(R i).2]; exact hj))) :=
        ⟨fun i => if h : i < m then Classical.choose (each i h) else default, fun i hi j hj => by simp only [hi, dif_pos]; exact Classical.choose_spec (each i hi) j hj⟩
      obtain ⟨dd_, hdd⟩ : ∃ q : Array (Row k), q = ((List.range len).map R).toArray := ⟨_, rfl⟩
      have hds : dd_.size = len := by rw [hdd]; simp
      have hdg : ∀ i (h : i < dd_.size), dd_[i] = R i := fun i h => by subst hdd; simp
      have hfs : (Sort.flatK encR k dd_).toList.length = len * k := by simp [hds]
      have key : ∀ i j, i < len → j < k → ∃ s, (Sort.flatK encR k dd_).toList[i * k + j]? = some (.string s) ∧ (R i).1[j]? = some s := fun i j hi hj => by
        obtain ⟨s, e1, e2⟩ := row_get dd_ i j (by omega) hj
        rw [hdg] at e2
        have lt : i * k + j < len * k := by
          have := Nat.mul_le_mul_right k (show i + 1 ≤ len from hi); rw [Nat.add_mul, Nat.one_mul] at this; omega
        refine ⟨s, ?_, e2⟩
        rw [getElem!_pos _ _ (by simp [hds]; exact lt)] at e1
        rw [List.getElem?_eq_getElem (by rw [hfs]; exact lt)]
        simp only [Array.getElem_toList]
        rw [e1]
      have hcell : ∀ idx, idx < len * k → ∃ s, (Sort.flatK encR k dd_).toList[idx]? = some (.string s) ∧ W.cell? (a.add idx) = some (.string s) := fun idx h => by
        have q1 : idx / k < len := (Nat.div_lt_iff_lt_mul k0).2 h
        have q2 : idx % k < k := Nat.mod_lt _ k0
        have q3 : idx / k * k + idx % k = idx := by have := Nat.div_add_mod idx k; rw [Nat.mul_comm] at this; exact this
        obtain ⟨s, e1, e2⟩ := key _ _ q1 q2
        rw [q3] at e1
        refine ⟨s, e1, ?_⟩
        have := hR (idx / k) (by omega) (idx % k) q2
        rw [q3] at this
        rw [this]
        obtain ⟨h2, h3⟩ := List.getElem?_eq_some_iff.1 e2
        rw [h3]
      have hall : ∀ v ∈ (Sort.flatK encR k dd_).toList, ∃ s, v = .string s := fun v hv => by
        obtain ⟨idx, hi, rfl⟩ := List.getElem_of_mem hv
        obtain ⟨s, e1, _⟩ := hcell idx (by rw [← hfs]; exact hi)
        rw [List.getElem?_eq_getElem hi] at e1
        exact ⟨s, Option.some.inj e1⟩
      have hlen : (((List.range len).map R).map rowV).length = len := by simp
      refine ⟨(List.range len).map R, by simp; omega, ?_⟩
      have := arg_list D (els := ((List.range len).map R).map rowV) (cs := (Sort.flatK encR k dd_).toList) (cap := m) (a := a) hk hag k0 hsp hsh (by rw [hlen]; exact hl) hm (fun i hi => by
          have q1 : i / k < m := (Nat.div_lt_iff_lt_mul k0).2 hi
          have q3 : i / k * k + i % k = i := by have := Nat.div_add_mod i k; rw [Nat.mul_comm] at this; exact this
          have := hR (i / k) q1 (i % k) (Nat.mod_lt _ k0)
          rw [q3] at this
          exact ⟨_, this⟩) (by rw [hfs, hlen]) (fun i v hv => ?_) (List.all_eq_true.2 fun v hv => by obtain ⟨s, rfl⟩ := hall v hv; rfl) (List.all_eq_true.2 fun v hv => by obtain ⟨s, rfl⟩ := hall v hv; rfl)
        (fun i h => by simp) (fun i j h1 h2 h3 => ?_)
      · rw [hlen] at this
        exact this
      · have hi : i < len * k := by rw [← hfs]; exact (List.getElem?_eq_some_iff.1 hv).1
        obtain ⟨s, e1, e2⟩ := hcell i hi
        rw [e1] at hv
        rw [← hv]; exact e2
      · have hi : i < len := by rw [← hlen]; exact h1
        have hj : j < k := by simpa using h2
        obtain ⟨s, e1, e2⟩ := key i j hi hj
        rw [List.getElem?_eq_getElem h3] at e1
        rw [Option.some.inj e1]
        simp only [List.getElem_map, List.getElem_range, rowV, RV.cells]
        rw [List.getElem?_eq_getElem (by rw [(R i).2]; exact hj)] at e2
        rw [Option.some.inj e2]
        exact .str _

/-- A struct of texts. -/
theorem arg_row {H : Heap} {M : Mp} (D : Dst P W H M) {t : TypeId} {k n : Nat} {fs : Array Field} (ht : P.underlying t = some (.struct fs)) (hs : strK P n t = some k) {v : Value} {d : DataW Ht} {ps : List MemPlace} {base : Nat}
    (hok : Value.okWide P W .any base t v) (h : DataW.Trod enc P W 0 (fun _ => true) true t v d ps) : ∃ r : Row k, Arg P W H M (rowV r) v := by
  obtain ⟨fuel, h⟩ := h
  unfold Value.okWide at hok
  rw [ht] at hok
  obtain ⟨cs, rfl, _⟩ := hok
  obtain ⟨ss, e1, e2⟩ := strs_of n t k hs _ _ _ h
  have e3 : cs = (encR (⟨ss, e1⟩ : Row k)).toArray := by
    apply Array.toList_inj.1
    simpa [Value.cells, encR] using e2
  refine ⟨⟨ss, e1⟩, ?_⟩
  rw [e3]
  exact arg_plain D (rowV_rr _) (ar_agg (encR_base _))
/-- A number. -/
theorem arg_int {H : Heap} {M : Mp} (D : Dst P W H M) {t : TypeId} {k : IntKind} (ht : P.underlying t = some (.int k)) {v : Value} {base : Nat}
    (hok : Value.okWide P W .any base t v) : ∃ i : Int, Arg P W H M (.int k i) v := by
  unfold Value.okWide Cell.okWide Cell.ok at hok
  rw [ht] at hok
  cases v <;> simp at hok
  obtain ⟨⟨rfl, _⟩, _⟩ := hok
  exact ⟨_, arg_plain D (.int _ _) (.base rfl)⟩
end

/-! ### The call -/
/-- Arguments, one behind the other. -/
structure AL (P : Program) (W : World) (H : Heap) (M : Mp) (xs : List RV) (as_ vs : List Value) : Prop where
  dst : Dst P W H M
  rr : RRs P H (· < H.size) xs as_
  vr : LR P M as_ vs
theorem al_nil : AL P W #[] (fun _ => none) [] [] [] := ⟨dst_nil, ⟨rfl, fun i h => by simp at h⟩, .nil⟩
theorem al_snoc {H : Heap} {M : Mp} {xs : List RV} {as_ vs : List Value} (A : AL P W H M xs as_ vs) {x : RV} {v : Value} (h : Arg P W H M x v) : ∃ H' M' a, AL P W H' M' (xs ++ [x]) (as_ ++ [a]) (vs ++ [v]) := by
  obtain ⟨H', M', a, D, hsz, hold, hle, hv, hr⟩ := h
  refine ⟨H', M', a, D, ⟨by have := A.rr.1; simp; omega, fun i h1 h2 => ?_⟩, ?_⟩
  · have hl := A.rr.1
    by_cases hi : i < xs.length
    · rw [List.getElem_append_left hi, List.getElem_append_left (by omega)]
      exact (A.rr.2 i hi (by omega)).mono fun b hb => ⟨by omega, hold b hb⟩
    · have e : i = xs.length := by simp at h1; omega
      subst e
      rw [List.getElem_append_right (by omega), List.getElem_append_right (by omega)]
      simp
      exact hr
  · exact (A.vr.mono hle).append (.cons hv .nil)

theorem ovl_plain {H : Heap} {Z : Nat → Prop} : ∀ {xs : List RV} {as_ : List Value}, RRs P H Z xs as_ → OVL P H Z (xs.map .v) as_ []
  | [], [], _ => .nil
  | [], _ :: _, h => by have := h.1; simp at this
  | _ :: _, [], h => by have := h.1; simp at this
  | x :: xs, a :: as_, h => by
    have h0 := h.2 0 (by simp) (by simp)
    have hr : RRs P H Z xs as_ := ⟨by simpa using h.1, fun i h1 h2 => h.2 (i + 1) (by simpa using h1) (by simpa using h2)⟩
    exact OVL.cons (f := []) (g := []) (.v h0) (ovl_plain hr)

/-- A law that yields true, out of its contract. -/
theorem door_law {F : FuncId → Bool} {Pr : CallR → CallR} (hm : P.follows .mixedOrders = true) (hF : OkF P F) (hP : OkPr P Pr) {f : FuncId} (he : Ent P f) {H : Heap} {M : Mp} {xs : List RV} {as_ : List Value} {args : Array Value} (A : AL P W H M xs as_ args.toList)
    (hC : SndP P F Pr f (xs.map .v) [.v (.bool true)] (xs.map .v)) : Calls P f args W fun e w' => e = .returned (.bool true) ∧ Below W.heap.size W w' := by
  obtain ⟨a, H', Z', rs, g, f', c1, c2, c3, _⟩ := hC.2 H (· < H.size) as_ [] (fun b h => h) (ovl_plain A.rr) (by simp) (by simp)
  have ha : a = .bool true := by
    cases c3 with | cons h r => cases r with | nil => cases h with | v h =>
    cases h
    exact c2
  subst ha
  have hAR : AR P M as_.toArray args := LR.array (by simpa using A.vr)
  refine (callW_sound hm hF hP he (H := H) (Q := fun v _ => v = .bool true) ⟨_, H', c1, rfl⟩ A.dst.rel hAR).mono fun e W' k => ?_
  obtain ⟨v, v', H1, M1, rfl, rfl, rv, st⟩ := k
  refine ⟨by rw [rv.bool_inv], st.os, st.tape, st.output, st.wsize, fun k hk => st.aframe k hk fun b τ e _ => .inl (A.dst.ro b (A.dst.rel.lt' e))⟩

/-- A closed call that yields true: run once from nothing. -/
theorem clos_snd {F : FuncId → Bool} {Pr : CallR → CallR} (hm : P.follows .mixedOrders = true) (hF : OkF P F) (hP : OkPr P Pr) {g : FuncId} (he : Ent P g) (h : callW P F Pr g #[] #[] fun v _ => v = .bool true) {f : FuncId} {args : Array Value} {H H' : Heap} {v : Value} (hc : closPr g f args H v H') : Snd P f args H v H' := by
  obtain ⟨rfl, rfl, rfl, rfl⟩ := hc
  refine ⟨Nat.le_refl _, .inl ⟨he, fun M W args' R ha => ?_⟩⟩
  have e : args' = #[] := Array.eq_empty_of_size_eq_zero ha.1.symm
  subst e
  have e0 : AR P (fun _ => none) #[] #[] := ⟨rfl, fun i h => by simp at h⟩
  refine (callW_sound hm hF hP he h (rel_empty W) e0).mono fun e W' k => ?_
  obtain ⟨v, v', H1, M1, rfl, rfl, rv, st⟩ := k
  have hh : ∀ k, k < W.heap.size → W'.heap[k]? = W.heap[k]? := fun k hk => st.aframe k hk fun b τ e _ => by cases e
  refine ⟨.bool true, M, by rw [rv.bool_inv], .base rfl, ⟨⟨fun b τ e => ?_, fun b τ e => ?_, R.inj⟩, MLe.refl _, Nat.le_refl _, (fun b τ e e0 => by rw [e] at e0; cases e0), fun _ _ _ => rfl, fun _ _ h => h, fun _ _ h => h, fun _ _ _ => rfl, fun k hk _ => hh k hk, st.wsize, st.os, st.tape, st.output, st.drawn⟩⟩
  · obtain ⟨blk, h1, h2⟩ := R.blk b τ e
    exact ⟨blk, h1, h2.move (MLe.refl _) (hh _ (R.lt b τ e))⟩
  · exact Nat.lt_of_lt_of_le (R.lt b τ e) st.wsize
end Go.PM
