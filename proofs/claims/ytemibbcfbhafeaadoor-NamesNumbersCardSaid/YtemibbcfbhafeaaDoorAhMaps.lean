/-
  AH: clear, copy, conversions, maps.
-/
import Derived.Test.YtemibbcfbhafeaaDoorAhAppend
namespace Go.AH
open Go
variable {P : Program} {M : Mp} {H H' : Heap} {W : World}

theorem run_getObj {b : Nat} {es : Array MapEntry} {c : Nat} (h : W.heap[b]? = some (.map es c)) : (getObj b).run P W = .ok (.map es c) W := by simp [getObj, Sem.run, h]
theorem run_setObj {b : Nat} {es : Array MapEntry} {c : Nat} (h : W.heap[b]? = some (.map es c)) (o : Obj) : (setObj b o).run P W = .ok () (setBlk W b o) := by simp [setObj, Sem.run, h, setBlk]

theorem sim_clear (R : Rel P M H W) {t ty : TypeId} {x x' : Value} (hx : VR P M x x') (h : clearA P H t x = some H') : VSim P M H W (Builtin.clear_ #[t] ty #[x']) (.tuple #[]) H' := by
  unfold clearA at h
  split at h
  · rename_i e n c hu
    cases hx.sl_nil_inv
    cases h
    exact VSim.same R (v' := undef) (by simp [Builtin.clear_, run_under hu]; rfl) VR.undef
  · rename_i e b o n c hu
    obtain ⟨τ, o', c', hτ, rfl, ho⟩ := hx.slice_inv
    split at h
    · rename_i hn
      cases h
      subst hn
      exact VSim.same R (v' := undef) (by simp [Builtin.clear_, run_under hu]; rfl) VR.undef
    · rename_i hn
      split at h
      · rename_i cs e' z hb hz
        split at h
        · rename_i hc
          obtain ⟨rfl, hk, hpos, hle, h1⟩ := hc
          cases h
          obtain ⟨i, zv, hi, hzv, rfl, hzb⟩ := zeroA_spec hz
          rcases ho with rfl | rfl
          · have hzb' := zeros_base hzb hpos (n * zv.cells.size)
            have h1' : (zeros zv.cells (n * zv.cells.size)).toList.all Value.oneCell' = true := by
              rw [List.all_eq_true]
              intro v hv
              rw [Array.mem_toList_iff] at hv
              simp only [zeros, Array.mem_map] at hv
              obtain ⟨i, _, rfl⟩ := hv
              rw [List.all_eq_true] at h1
              have hlt := Nat.mod_lt i hpos
              refine h1 _ ?_
              rw [getElem!_pos zv.cells _ hlt]
              exact Array.getElem_mem_toList hlt
            obtain ⟨W', M', e9, st⟩ := sim_wr (o := o) R hb hτ (LR.refl_base hzb') h1' (by simp [zeros]; omega)
            refine ⟨W', undef, M', ?_, VR.undef, st⟩
            have hz2 : Builtin.zeroCells zv.cells n = zeros zv.cells (n * zv.cells.size) := rfl
            simp only [Builtin.clear_, List.getElem?_toArray, List.getElem?_cons_zero, Sem.run_bind, run_under hu, Result.andThen_ok]
            obtain ⟨n, rfl⟩ : ∃ k, n = k + 1 := ⟨n - 1, by omega⟩
            simp only [run_zero hi hzv, Result.andThen_ok, hz2, e9, Sem.run_pure]
            rfl
          · exact absurd rfl hn
        · cases h
      · cases h
  · cases h

theorem sim_convert (R : Rel P M H W) {src dst : TypeId} {x x' v : Value} (hx : VR P M x x') (h : convertA P H src dst x = some (v, H')) : VSim P M H W (convert src dst x') v H' := by
  unfold convertA at h
  split at h
  · rename_i k1 k k2 n h1 h2
    cases hx.int_inv
    cases h
    exact VSim.same R (by simp [convert, run_under h1, run_under h2, Conv.intToInt]) (.base rfl)
  · rename_i s h1 h2
    cases hx.string_inv
    cases h
    exact VSim.same R (by simp [convert, run_under h1, run_under h2]) (.base rfl)
  · cases h

/-! ### maps -/
/-- The entries, and the model's, from the i-th on. -/
inductive KE (P : Program) (M : Mp) (kt : TypeId) (ks : List Sk) : List (Value × Value) → List MapEntry → Nat → Prop
  | nil (i : Nat) : KE P M kt ks [] [] i
  | cons {e : Value × Value} {e' : MapEntry} {es : List (Value × Value)} {es' : List MapEntry} {i : Nat} (hk : e'.key = e.1) (hf : FitsK P kt ks e.1) (hv : VR P M e.2 e'.val) (hb : e'.born = i) (r : KE P M kt ks es es' (i + 1)) :
      KE P M kt ks (e :: es) (e' :: es') i

variable {kt : TypeId} {ks : List Sk} {es : List (Value × Value)} {es' : List MapEntry} {i : Nat}

theorem KE.of : ∀ (es : List (Value × Value)) (es' : List MapEntry) (i : Nat), es'.length = es.length → (∀ j (k v : Value), es[j]? = some (k, v) → ∃ e : MapEntry, es'[j]? = some e ∧ e.key = k ∧ VR P M v e.val ∧ e.born = i + j) → (∀ e ∈ es, FitsK P kt ks e.1) → KE P M kt ks es es' i
  | [], [], i, _, _, _ => .nil i
  | [], _ :: _, _, h, _, _ => by simp at h
  | _ :: _, [], _, h, _, _ => by simp at h
  | (k, v) :: es, e' :: es', i, hl, h, hf => by
    obtain ⟨e, e1, e2, e3, e4⟩ := h 0 k v rfl
    simp only [List.getElem?_cons_zero, Option.some.injEq] at e1
    subst e1
    refine .cons e2 (hf _ (by simp)) e3 (by simpa using e4) (KE.of es es' (i + 1) (by simpa using hl) (fun j k v hj => ?_) (fun e he => hf e (by simp [he])))
    obtain ⟨e, a1, a2, a3, a4⟩ := h (j + 1) k v (by simpa using hj)
    exact ⟨e, by simpa using a1, a2, a3, by omega⟩

theorem KE.length (h : KE P M kt ks es es' i) : es'.length = es.length := by
  induction h with
  | nil => rfl
  | cons _ _ _ _ _ ih => simp [ih]

theorem KE.back (h : KE P M kt ks es es' i) : (∀ j (k v : Value), es[j]? = some (k, v) → ∃ e : MapEntry, es'[j]? = some e ∧ e.key = k ∧ VR P M v e.val ∧ e.born = i + j) ∧ (∀ e ∈ es, FitsK P kt ks e.1) := by
  induction h with
  | nil => exact ⟨fun j k v h => by simp at h, fun e h => by simp at h⟩
  | cons hk hf hv hb r ih =>
    refine ⟨fun j k v hj => ?_, fun e he => ?_⟩
    · cases j with
      | zero =>
        simp only [List.getElem?_cons_zero, Option.some.injEq] at hj
        subst hj
        exact ⟨_, rfl, hk, hv, by omega⟩
      | succ j =>
        obtain ⟨e, a1, a2, a3, a4⟩ := ih.1 j k v (by simpa using hj)
        exact ⟨e, by simpa using a1, a2, a3, by omega⟩
    · rcases List.mem_cons.1 he with rfl | he
      · exact hf
      · exact ih.2 e he

/-- What is found. -/
def findM (k : Value) : List (Value × Value) → List MapEntry → Nat → Option (Nat × Value)
  | e :: es, e' :: es', i => if flatEq k e.1 then some (i, e'.val) else findM k es es' (i + 1)
  | _, _, _ => none

theorem find_rel (h : KE P M kt ks es es' i) (k : Value) : (findA k es i = none ∧ findM k es es' i = none) ∨ ∃ j v v', findA k es i = some (i + j, v) ∧ findM k es es' i = some (i + j, v') ∧ VR P M v v' ∧ (∃ e : Value × Value, es[j]? = some e ∧ e.2 = v ∧ flatEq k e.1 = true) := by
  induction h with
  | nil => exact .inl ⟨rfl, rfl⟩
  | @cons e e' es es' i hk hf hv hb r ih =>
    simp only [findA, findM]
    by_cases hq : flatEq k e.1 = true
    · simp only [hq, if_true]
      exact .inr ⟨0, _, _, rfl, rfl, hv, e, rfl, rfl, hq⟩
    · simp only [hq, if_false, Bool.false_eq_true]
      rcases ih with ⟨h1, h2⟩ | ⟨j, v, v', h1, h2, h3, e0, h4, h5, h6⟩
      · exact .inl ⟨h1, h2⟩
      · exact .inr ⟨j + 1, v, v', by rw [h1]; congr 2; omega, by rw [h2]; congr 2; omega, h3, e0, by simpa using h4, h5, h6⟩

theorem findAsking_run (hf : flatK P 9 kt = some ks) {k : Value} (hk : FitsK P kt ks k) (h : KE P M kt ks es es' i) (w : World) : ∀ n, (Instr.findAsking kt k es' n).run P w = .ok (findM k es es' n) w := by
  induction h with
  | nil => intro n; simp [Instr.findAsking, findM]
  | @cons e e' es es' i hk' hf' hv hb r ih =>
    intro n
    have he := flat_eq 9 kt ks k e.1 hf hk hf' 10000 w (by omega)
    simp only [Instr.findAsking, Op.equal, Op.maxDepth, hk', Sem.run_bind, he, Result.andThen_ok, findM, Sem.run_ite]
    by_cases hq : flatEq k e.1 = true
    · simp [hq]
    · simp only [hq, if_false, Bool.false_eq_true]
      exact ih (n + 1)

theorem findNow_run (_ : flatK P 9 kt = some ks) {k : Value} (hk : FitsK P kt ks k) {d : TypeDesc} (hd : P.underlying kt = some d) (h : KE P M kt ks es es' i) : ∀ n,
    Instr.findNow d k es' n = none ∨ Instr.findNow d k es' n = some (findM k es es' n) := by
  induction h with
  | nil => intro n; exact .inr rfl
  | @cons e e' es es' i hk' hf' hv hb r ih =>
    intro n
    simp only [Instr.findNow, hk', findM]
    cases hs : Instr.sameNow d k e.1 with
    | none => exact .inl rfl
    | some b =>
      have hb : b = flatEq k e.1 := by
        cases k <;> cases hk1 : e.1 <;> rw [hk1] at hs <;> cases d <;> simp [Instr.sameNow] at hs <;> first
          | (obtain ⟨h1, h2⟩ := hs; subst h2; simp [flatEq, scalarEq, h1])
          | (subst hs; simp [flatEq, scalarEq]; done)
          | (subst hs; simp [flatEq, scalarEq, beq_toListBytes])
      subst hb
      cases hq : flatEq k e.1 with
      | true => exact .inr (by simp)
      | false =>
        rcases ih (n + 1) with h1 | h1
        · exact .inl (by simpa using h1)
        · exact .inr (by simpa using h1)

theorem findKey_run (hf : flatK P 9 kt = some ks) {k : Value} (hk : FitsK P kt ks k) (h : KE P M kt ks es es' i) (w : World) : (Instr.findKey kt k es').run P w = .ok (findM k es es' 0) w := by
  obtain ⟨d, hd⟩ : ∃ d, P.underlying kt = some d := by
    simp only [flatK] at hf
    split at hf <;> first | exact ⟨_, by assumption⟩ | cases hf
  simp only [Instr.findKey, Sem.run_bind, run_under hd, Result.andThen_ok]
  rcases findNow_run hf hk hd h 0 with h1 | h1
  · rw [h1]; exact findAsking_run hf hk h w 0
  · rw [h1]; rfl

/-- The entries of a map of AH, and the model's. -/
theorem map_blk (R : Rel P M H W) {r : Nat} {τ : Tgt} (hτ : M r = some τ) (hb : H[r]? = some (.map kt es)) (hf : flatK P 9 kt = some ks) :
    ∃ es' : Array MapEntry, W.heap[τ.b]? = some (.map es' es.length) ∧ KE P M kt ks es es'.toList 0 := by
  obtain ⟨blk, g1, g2⟩ := R.blk r τ hτ
  rw [hb] at g1; cases g1
  obtain ⟨es', h1, h2, h3⟩ := g2
  refine ⟨es', h1, KE.of es es'.toList 0 (by simpa using h2.1) (fun j k v hj => ?_) (fun e he => ?_)⟩
  · obtain ⟨e, a1, a2, a3, a4⟩ := h2.2 j k v hj
    exact ⟨e, by simpa using a1, a2, a3, by omega⟩
  · obtain ⟨ks', k1, k2⟩ := fits_spec (h3 e he)
    rw [hf] at k1; cases k1
    exact k2

theorem flat_VR {v v' : Value} (hf : FitsK P kt ks v) (h : VR P M v v') : v' = v := by
  have flat : ∀ {ks : List Sk} {l l' : List Value}, fitsAll ks l = true → LR P M l l' → l' = l := by
    intro ks l l' hk hl
    induction hl generalizing ks with
    | nil => rfl
    | cons hv _ ih =>
      cases ks with
      | nil => simp [fitsAll] at hk
      | cons k ks =>
        simp only [fitsAll, Bool.and_eq_true] at hk
        rw [hv.scalar (fits_scalar hk.1), ih hk.2]
  by_cases ha : isAggV v = true
  · cases v <;> simp [isAggV] at ha
    obtain ⟨xs', rfl, hxs⟩ := h.agg_inv
    have := flat hf.1 hxs.list
    rw [Array.ext' this]
    rfl
  · have e : v.cells.toList = [v] := by cases v <;> first | rfl | simp [isAggV] at ha
    have h1 := hf.1
    rw [e] at h1
    cases ks with
    | nil => simp [fitsAll] at h1
    | cons k ks =>
      simp only [fitsAll, Bool.and_eq_true] at h1
      exact h.scalar (fits_scalar h1.1)

theorem VR.base_cells {z : Value} (h : z.cells.toList.all isBase = true) : VR P M z z := by
  by_cases ha : isAggV z = true
  · cases z <;> simp [isAggV] at ha
    have := AR.base (P := P) (M := M) h
    exact .agg this.1 this.2
  · have e : z.cells.toList = [z] := by cases z <;> first | rfl | simp [isAggV] at ha
    rw [e] at h
    exact .base (by simpa using h)

theorem sim_lookup (R : Rel P M H W) {t : TypeId} {m m' k k' v : Value} {ok : Bool} (hm : VR P M m m') (hk : VR P M k k') (h : lookupA P t H m k ok = some v) : VSim P M H W (Instr.lookup t m' k' ok) v H := by
  unfold lookupA at h
  split at h
  · rename_i kt et hu
    split at h
    · rename_i hfit
      obtain ⟨ks, hf, hkk⟩ := fits_spec hfit
      have hke := flat_VR hkk hk
      subst hke
      have tup : ∀ (a a' : Value) (b : Bool), VR P M a a' → VR P M (.tuple #[a, .bool b]) (.tuple #[a', .bool b]) := fun a a' b hab => .tuple rfl (fun i h1 h2 => by
        match i, h1 with
        | 0, _ => exact hab
        | 1, _ => exact .base rfl)
      split at h
      · cases hm.map_nil_inv
        simp only [Option.bind_some] at h
        have hc := flat_checkKey true 9 kt ks k' hf hkk 10000 W (by omega)
        have hfk := findKey_run (M := M) hf hkk (.nil 0) W
        cases hz : zeroV P et with
        | none => simp [hz, findA] at h
        | some z =>
          simp only [hz, findA, Option.map_some, Option.some.injEq] at h
          obtain ⟨i, hi, hiz, hb⟩ := zeroV_spec hz
          subst h
          refine VSim.same R (v' := if ok then .tuple #[z, .bool false] else z) ?_ ?_
          · simp [Instr.lookup, run_under hu, hc, hfk, findM, run_zero hi hiz]
          · cases ok
            · exact VR.base_cells hb
            · exact tup _ _ _ (VR.base_cells hb)
      · rename_i r
        obtain ⟨τ, hτ, rfl⟩ := hm.map_inv
        split at h
        · rename_i kt' es hb
          split at h
          · rename_i hkt
            subst hkt
            simp only [Option.bind_some] at h
            obtain ⟨es', hw, hE⟩ := map_blk R hτ hb hf
            have hg := run_getObj (P := P) hw
            have hc := flat_checkKey es'.isEmpty 9 kt' ks k' hf hkk 10000 W (by omega)
            have hfk := findKey_run hf hkk hE W
            rcases find_rel hE k' with ⟨h1, h2⟩ | ⟨j, u, u', h1, h2, h3, _⟩
            · rw [h1] at h
              cases hz : zeroV P et with
              | none => simp [hz] at h
              | some z =>
                simp only [hz, Option.map_some, Option.some.injEq] at h
                obtain ⟨i, hi, hiz, hb⟩ := zeroV_spec hz
                subst h
                refine VSim.same R (v' := if ok then .tuple #[z, .bool false] else z) ?_ ?_
                · simp [Instr.lookup, run_under hu, hg, hc, hfk, h2, run_zero hi hiz]
                · cases ok
                  · exact VR.base_cells hb
                  · exact tup _ _ _ (VR.base_cells hb)
            · rw [h1] at h
              simp only [Option.some.injEq] at h
              subst h
              refine VSim.same R (v' := if ok then .tuple #[u', .bool true] else u') ?_ ?_
              · simp [Instr.lookup, run_under hu, hg, hc, hfk, h2]
              · cases ok
                · exact h3
                · exact tup _ _ _ h3
          · simp at h
        · simp at h
      · simp at h
    · cases h
  · cases h

/-! ### maps that are written -/
theorem scalar_same {k k2 : Value} (h1 : isScalar k = true) (h : scalarEq k k2 = true) (n : Nat) : Instr.sameBits n k2 k = true := by
  have := (scalarEq_iff h1).1 h
  subst this
  cases k <;> simp [isScalar] at h1 <;> simp [Instr.sameBits, beq_toListBytes]

theorem flat_same {k k2 : Value} (h1 : FitsK P kt ks k) (h2 : FitsK P kt ks k2) (h : flatEq k k2 = true) : k2 = k ∧ Instr.sameBits 10000 k2 k = true := by
  by_cases ha : isAggV k = true
  · have hb : isAggV k2 = true := by have := Option.some.inj (h1.2.symm.trans h2.2); rw [← this]; exact ha
    cases k <;> simp [isAggV] at ha
    cases k2 <;> simp [isAggV] at hb
    rename_i x y
    simp only [flatEq] at h
    have e := (listEq_iff h1.1 h2.1).1 h
    have exy : x = y := Array.ext' e
    subst exy
    refine ⟨rfl, ?_⟩
    simp only [Instr.sameBits, beq_self_eq_true, Bool.true_and]
    rw [List.all_eq_true]
    intro p hp
    have hz : ∀ (l : List Value) (ks : List Sk), fitsAll ks l = true → ∀ p ∈ l.zip l, Instr.sameBits 9999 p.1 p.2 = true := by
      intro l
      induction l with
      | nil => intro ks _ p hp; simp at hp
      | cons v l ih =>
        intro ks hk p hp
        cases ks with
        | nil => simp [fitsAll] at hk
        | cons k ks =>
          simp only [fitsAll, Bool.and_eq_true] at hk
          simp only [List.zip_cons_cons, List.mem_cons] at hp
          rcases hp with rfl | hp
          · have := fits_scalar hk.1
            cases v <;> simp [isScalar] at this <;> simp [Instr.sameBits, beq_toListBytes]
          · exact ih ks hk.2 p hp
    exact hz x.toList ks h1.1 p hp
  · have e : k.cells.toList = [k] := by cases k <;> first | rfl | simp [isAggV] at ha
    have h3 := h1.1
    rw [e] at h3
    cases ks with
    | nil => simp [fitsAll] at h3
    | cons s' ks =>
      simp only [fitsAll, Bool.and_eq_true] at h3
      have hs := fits_scalar h3.1
      have hq : scalarEq k k2 = true := by
        cases k <;> simp [isAggV] at ha <;> cases k2 <;> simpa [flatEq] using h
      exact ⟨((scalarEq_iff hs).1 hq).symm, scalar_same hs hq _⟩

theorem run_keyStays {k k2 : Value} (h : Instr.sameBits 10000 k2 k = true) (w : World) : (Instr.keyThatStays k2 k).run P w = .ok k w := by simp [Instr.keyThatStays, h]

/-- One entry is set. -/
theorem KE.set {es : List (Value × Value)} {es' : List MapEntry} {i : Nat} (h : KE P M kt ks es es' i) (j : Nat) {k v v' : Value} (hk : FitsK P kt ks k) (hv : VR P M v v') (f : MapEntry → MapEntry) (hf : ∀ e, es'[j]? = some e → (f e).key = k ∧ (f e).val = v' ∧ (f e).born = e.born) :
    KE P M kt ks (es.set j (k, v)) (es'.modify j f) i := by
  induction h generalizing j with
  | nil => simpa using KE.nil _
  | @cons e e' es es' i hk' hf' hv' hb r ih =>
    cases j with
    | zero =>
      obtain ⟨a1, a2, a3⟩ := hf e' rfl
      simp only [List.set_cons_zero, List.modify_cons, if_true]
      exact .cons a1 hk (by rw [a2]; exact hv) (by rw [a3]; exact hb) r
    | succ j =>
      simp only [List.set_cons_succ, List.modify_succ_cons]
      exact .cons hk' hf' hv' hb (ih j (fun e he => hf e (by simpa using he)))
/-- One entry more. -/
theorem KE.push {es : List (Value × Value)} {es' : List MapEntry} {i : Nat} (h : KE P M kt ks es es' i) {k v v' : Value} (hk : FitsK P kt ks k) (hv : VR P M v v') :
    KE P M kt ks (es ++ [(k, v)]) (es' ++ [{ key := k, val := v', born := i + es.length }]) i := by
  induction h with
  | nil i => exact .cons rfl hk hv rfl (.nil _)
  | @cons e e' es es' i hk' hf' hv' hb r ih =>
    have : i + (e :: es).length = i + 1 + es.length := by simp; omega
    rw [this]
    exact .cons hk' hf' hv' hb ih

theorem KE.blk {es : List (Value × Value)} {es' : Array MapEntry} (hf : flatK P 9 kt = some ks) (h : KE P M kt ks es es'.toList 0) {W' : World} {τ : Tgt} (hw : W'.heap[τ.b]? = some (.map es' es.length)) : BR P M W' τ (.map kt es) := by
  obtain ⟨b1, b2⟩ := h.back
  refine ⟨es', hw, ⟨by simpa using h.length, fun j k v hj => ?_⟩, fun e he => ?_⟩
  · obtain ⟨e, a1, a2, a3, a4⟩ := b1 j k v hj
    exact ⟨e, by simpa using a1, a2, a3, by omega⟩
  · have := b2 e he
    simp only [fits, hf, this.1, this.2, Bool.true_and, beq_self_eq_true]

theorem step_map (R : Rel P M H W) {r : Nat} {τ : Tgt} (hτ : M r = some τ) {es0 es1 : List (Value × Value)} (hb : H[r]? = some (.map kt es0)) (hf : flatK P 9 kt = some ks) {es' : Array MapEntry} (hE : KE P M kt ks es1 es'.toList 0) :
    Step P M H W M (H.setIfInBounds r (.map kt es1)) (setBlk W τ.b (.map es' es1.length)) := by
  refine step_set R (setBlk_same _ _ _) hτ ?_ ?_ rfl (setBlk_size _ _ _) (fun k hk => setBlk_other _ _ _ _ hk) (hE.blk hf (setBlk_get _ _ _ (R.lt r τ hτ)))
  · rintro ⟨c1, t1, h2⟩; rw [hb] at h2; cases h2
  · intro h2; unfold Dead at h2; rw [hb] at h2; cases h2

theorem sim_mapUpdate (R : Rel P M H W) {t : TypeId} {m m' k k' v v' : Value} (hm : VR P M m m') (hk : VR P M k k') (hv : VR P M v v') (h : mapUpdateA P t H m k v = some H') : USim P M H W (Instr.mapUpdate t m' k' v') H' := by
  unfold mapUpdateA at h
  split at h
  · rename_i kt et r hu
    obtain ⟨τ, hτ, rfl⟩ := hm.map_inv
    split at h
    · rename_i hfit
      obtain ⟨ks, hf, hkk⟩ := fits_spec hfit
      have hke := flat_VR hkk hk
      subst hke
      split at h
      · rename_i kt' es hb
        split at h
        · rename_i hkt
          subst hkt
          obtain ⟨es', hw, hE⟩ := map_blk R hτ hb hf
          have hg := run_getObj (P := P) hw
          have hc := flat_checkKey false 9 kt' ks k' hf hkk 10000 W (by omega)
          have hfk := findKey_run hf hkk hE W
          rcases find_rel hE k' with ⟨h1, h2⟩ | ⟨j, u, u', h1, h2, h3, e0, h4, h5, h6⟩
          · rw [h1] at h
            simp only [Option.some.injEq] at h
            subst h
            have hp := hE.push hkk hv
            have hp' : KE P M kt' ks (es ++ [(k', v)]) (es'.push { key := k', val := v', born := es.length }).toList 0 := by simpa using hp
            have st := step_map R hτ hb hf hp'
            rw [List.length_append, List.length_cons, List.length_nil, Nat.zero_add] at st
            refine ⟨_, M, ?_, st⟩
            simp [Instr.mapUpdate, run_under hu, hg, hc, hfk, h2, run_setObj hw]
          · rw [h1] at h
            simp only [Option.some.injEq] at h
            subst h
            rw [Nat.zero_add] at h2 ⊢
            obtain ⟨b1, b2⟩ := hE.back
            obtain ⟨e1, a1, a2, a3, a4⟩ := b1 j e0.1 e0.2 h4
            obtain ⟨s1, s2⟩ := flat_same hkk (b2 e0 (List.mem_of_getElem? h4)) h6
            rw [← a2] at s1 s2
            have hset := hE.set j hkk hv (fun e => { e with key := k', val := v' }) (fun e he => ⟨rfl, rfl, rfl⟩)
            have hset' : KE P M kt' ks (es.set j (k', v)) (es'.modify j fun e => { e with key := k', val := v' }).toList 0 := by simpa using hset
            have st := step_map R hτ hb hf hset'
            rw [List.length_set] at st
            refine ⟨_, M, ?_, st⟩
            have a1' : es'[j]? = some e1 := by simpa using a1
            simp [Instr.mapUpdate, run_under hu, hg, hc, hfk, h2, a1', run_keyStays s2, run_setObj hw]
        · cases h
      · cases h
    · cases h
  · cases h

theorem sim_mapEntry (R : Rel P M H W) {t : TypeId} {m m' k k' v : Value} (hm : VR P M m m') (hk : VR P M k k') (h : mapEntryA P t H m k = some (v, H')) : VSim P M H W (Instr.mapEntry t m' k') v H' := by
  unfold mapEntryA at h
  split at h
  · rename_i kt et r hu
    obtain ⟨τ, hτ, rfl⟩ := hm.map_inv
    split at h
    · rename_i hfit
      obtain ⟨ks, hf, hkk⟩ := fits_spec hfit
      have hke := flat_VR hkk hk
      subst hke
      have tup : ∀ (a a' : Value) (b : Nat), VR P M a a' → VR P M (.tuple #[a, .int .i64 b]) (.tuple #[a', .int .i64 b]) := fun a a' b hab => .tuple rfl (fun i h1 h2 => by
        match i, h1 with
        | 0, _ => exact hab
        | 1, _ => exact .base rfl)
      split at h
      · rename_i kt' es hb
        split at h
        · rename_i hkt
          subst hkt
          obtain ⟨es', hw, hE⟩ := map_blk R hτ hb hf
          have hg := run_getObj (P := P) hw
          have hc := flat_checkKey false 9 kt' ks k' hf hkk 10000 W (by omega)
          have hfk := findKey_run hf hkk hE W
          rcases find_rel hE k' with ⟨h1, h2⟩ | ⟨j, u, u', h1, h2, h3, e0, h4, h5, h6⟩
          · rw [h1] at h
            cases hz : zeroV P et with
            | none => simp [hz] at h
            | some z =>
              simp only [hz, Option.map_some, Option.some.injEq, Prod.mk.injEq] at h
              obtain ⟨rfl, rfl⟩ := h
              obtain ⟨i, hi, hiz, hzb⟩ := zeroV_spec hz
              have hp := hE.push hkk (VR.base_cells (P := P) (M := M) hzb)
              have hp' : KE P M kt' ks (es ++ [(k', z)]) (es'.push { key := k', val := z, born := es.length }).toList 0 := by simpa using hp
              have st := step_map R hτ hb hf hp'
              rw [List.length_append, List.length_cons, List.length_nil, Nat.zero_add] at st
              refine ⟨_, .tuple #[z, .int .i64 es.length], M, ?_, tup _ _ _ (VR.base_cells hzb), st⟩
              simp [Instr.mapEntry, run_under hu, hg, hc, hfk, h2, run_zero hi hiz, run_setObj hw, goInt]
          · rw [h1] at h
            simp only [Option.some.injEq, Prod.mk.injEq] at h
            obtain ⟨rfl, rfl⟩ := h
            rw [Nat.zero_add] at h2 ⊢
            obtain ⟨b1, b2⟩ := hE.back
            obtain ⟨e1, a1, a2, a3, a4⟩ := b1 j e0.1 e0.2 h4
            obtain ⟨s1, s2⟩ := flat_same hkk (b2 e0 (List.mem_of_getElem? h4)) h6
            have a1' : es'[j]? = some e1 := by simpa using a1
            rw [← a2] at s1 s2
            -- the key that stays is the same: nothing turns
            have hself : es'.modify j (fun e => { e with key := k' }) = es' := by
              apply Array.ext_getElem?
              intro i
              rw [Array.getElem?_modify]
              split
              · rename_i hij; subst hij
                rw [a1']
                simp only [Option.map_some]
                rw [← s1]
              · rfl
            refine ⟨W, .tuple #[u', .int .i64 j], M, ?_, tup _ _ _ h3, Step.refl R⟩
            have hself2 : setBlk W τ.b (.map es' es.length) = W := setBlk_self hw
            rw [Nat.zero_add] at a4
            simp [Instr.mapEntry, run_under hu, hg, hc, hfk, h2, a1', run_keyStays s2, run_setObj hw, hself, hself2, goInt, a4]
        · cases h
      · cases h
    · cases h
  · cases h

theorem sim_entryStore (R : Rel P M H W) {t : TypeId} {m m' s s' v v' : Value} (hm : VR P M m m') (hs : VR P M s s') (hv : VR P M v v') (h : entryStoreA P H m s v = some H') : USim P M H W (Instr.entryStore t m' s' v') H' := by
  unfold entryStoreA at h
  split at h
  · rename_i r k n
    obtain ⟨τ, hτ, rfl⟩ := hm.map_inv
    cases hs.int_inv
    split at h
    · rename_i kt es hb
      split at h
      · rename_i h0
        obtain ⟨h0, hfk⟩ := h0
        split at h
        · rename_i e he
          cases h
          cases hf : flatK P 9 kt with
          | none => simp [hf] at hfk
          | some ks =>
            obtain ⟨es', hw, hE⟩ := map_blk R hτ hb hf
            have hg := run_getObj (P := P) hw
            obtain ⟨b1, b2⟩ := hE.back
            obtain ⟨e1, a1, a2, a3, a4⟩ := b1 n.toNat e.1 e.2 he
            have a1' : es'[n.toNat]? = some e1 := by simpa using a1
            have hset := hE.set n.toNat (b2 e (List.mem_of_getElem? he)) hv (fun e => { e with val := v' }) (fun e9 he9 => by
              rw [a1] at he9; cases he9; exact ⟨a2, rfl, rfl⟩)
            have hset' : KE P M kt ks (es.set n.toNat (e.1, v)) (es'.modify n.toNat fun e => { e with val := v' }).toList 0 := by simpa using hset
            have st := step_map R hτ hb hf hset'
            rw [List.length_set] at st
            refine ⟨_, M, ?_, st⟩
            have hidx : es'.findIdx? (fun e => (e.born : Int) == n) = some n.toNat := by
              rw [Array.findIdx?_eq_some_iff_getElem]
              obtain ⟨hl, hl2⟩ := Array.getElem?_eq_some_iff.1 a1'
              refine ⟨hl, by rw [hl2, a4]; simp; omega, fun j hj => ?_⟩
              have hjl : j < es.length := by have := hE.length; simp at this; omega
              obtain ⟨e9, c1, c2, c3, c4⟩ := b1 j es[j].1 es[j].2 (List.getElem?_eq_getElem hjl)
              have c1' : es'[j]? = some e9 := by simpa using c1
              obtain ⟨hl9, hl8⟩ := Array.getElem?_eq_some_iff.1 c1'
              rw [hl8, c4]
              simp
              omega
            simp [Instr.entryStore, hg, asInt, asIntOf, hidx, run_setObj hw]
        · cases h
      · cases h
    · cases h
  · cases h

end Go.AH
