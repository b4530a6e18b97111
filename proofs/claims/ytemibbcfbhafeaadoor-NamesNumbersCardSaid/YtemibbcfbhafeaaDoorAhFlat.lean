/-
  AH: '==' of flat values (scalars, structs of scalars), keys of maps.
-/
import Derived.Test.YtemibbcfbhafeaaDoorAhOps
namespace Go.AH
open Go
variable {P : Program}

theorem bytes_inj {a b : ByteArray} : a.toList = b.toList ↔ a = b := by
  constructor
  · intro h
    rw [ByteArray.toList_eq, ByteArray.toList_eq] at h
    obtain ⟨⟨x⟩⟩ := a
    obtain ⟨⟨y⟩⟩ := b
    simp at h
    subst h
    rfl
  · rintro rfl; rfl
theorem scalarEq_iff {x y : Value} (hx : isScalar x = true) : scalarEq x y = true ↔ x = y := by
  cases x <;> simp [isScalar] at hx <;> cases y <;> simp [scalarEq, bytes_inj]

theorem fits_scalar {k : Sk} {v : Value} (h : k.fits v = true) : isScalar v = true := by
  cases k <;> cases v <;> simp_all [Sk.fits, isScalar]

theorem fitsAll_length : ∀ {ks : List Sk} {vs : List Value}, fitsAll ks vs = true → vs.length = ks.length
  | [], [], _ => rfl
  | [], _ :: _, h => by simp [fitsAll] at h
  | _ :: _, [], h => by simp [fitsAll] at h
  | k :: ks, v :: vs, h => by
    simp only [fitsAll, Bool.and_eq_true] at h
    simp [fitsAll_length h.2]

theorem fitsAll_append : ∀ {ks ks' : List Sk} {vs : List Value}, fitsAll (ks ++ ks') vs = true → fitsAll ks (vs.take ks.length) = true ∧ fitsAll ks' (vs.drop ks.length) = true
  | [], ks', vs, h => by simpa [fitsAll] using h
  | k :: ks, ks', [], h => by simp [fitsAll] at h
  | k :: ks, ks', v :: vs, h => by
    simp only [List.cons_append, fitsAll, Bool.and_eq_true] at h
    obtain ⟨h1, h2⟩ := fitsAll_append h.2
    exact ⟨by simp [fitsAll, h.1, h1], by simpa using h2⟩

theorem listEq_append : ∀ {a a' b b' : List Value}, a.length = a'.length → listEq (a ++ b) (a' ++ b') = (listEq a a' && listEq b b')
  | [], [], b, b', _ => by simp [listEq]
  | [], _ :: _, _, _, h => by simp at h
  | _ :: _, [], _, _, h => by simp at h
  | x :: a, y :: a', b, b', h => by simp [listEq, listEq_append (a := a) (a' := a') (by simpa using h), Bool.and_assoc]

theorem listEq_iff : ∀ {ks : List Sk} {x y : List Value}, fitsAll ks x = true → fitsAll ks y = true → (listEq x y = true ↔ x = y)
  | [], [], [], _, _ => by simp [listEq]
  | [], _ :: _, _, h, _ => by simp [fitsAll] at h
  | [], [], _ :: _, _, h => by simp [fitsAll] at h
  | _ :: _, [], _, h, _ => by simp [fitsAll] at h
  | _ :: _, _ :: _, [], _, h => by simp [fitsAll] at h
  | k :: ks, a :: x, b :: y, h, h' => by
    simp only [fitsAll, Bool.and_eq_true] at h h'
    simp [listEq, scalarEq_iff (fits_scalar h.1), listEq_iff h.2 h'.2]

theorem take_extract (cs : Array Value) (o k : Nat) : (cs.extract o (o + k)).toList = (cs.toList.drop o).take k := by
  rw [Array.toList_extract, List.extract_eq_take_drop]
  congr 1; omega

/-- A value v of the kinds ks, of type t. -/
def FitsK (P : Program) (t : TypeId) (ks : List Sk) (v : Value) : Prop := fitsAll ks v.cells.toList = true ∧ isAggA P t = some (isAggV v)

theorem fits_spec {t : TypeId} {v : Value} (h : fits P t v = true) : ∃ ks, flatK P 9 t = some ks ∧ FitsK P t ks v := by
  unfold fits at h
  cases hk : flatK P 9 t with
  | none => simp [hk] at h
  | some ks =>
    simp only [hk, Bool.and_eq_true, beq_iff_eq] at h
    exact ⟨ks, rfl, h.1, h.2⟩

theorem fits_one {k : Sk} {v : Value} (h : fitsAll [k] v.cells.toList = true) (ha : (isAggV v) = false) : k.fits v = true := by
  have e : v.cells.toList = [v] := by cases v <;> first | rfl | simp [isAggV] at ha
  rw [e] at h
  simpa [fitsAll] using h

/-- A part of a row of scalars. -/
theorem part_fits {t : TypeId} {ks : List Sk} {cs : Array Value} {o d : Nat} (hf : flatK P d t = some ks) (hk : sz P t = some ks.length) (h : fitsAll ks ((cs.toList.drop o).take ks.length) = true) :
    ∃ v, (∀ w, (part t cs o).run P w = .ok v w) ∧ FitsK P t ks v ∧ v.cells.toList = (cs.toList.drop o).take ks.length := by
  cases d with
  | zero => simp [flatK] at hf
  | succ d =>
    simp only [flatK] at hf
    have one : ∀ (k : Sk) (ds : TypeDesc), P.underlying t = some ds → isAggA P t = some false → ks = [k] → ∃ v, (∀ w, (part t cs o).run P w = .ok v w) ∧ FitsK P t ks v ∧ v.cells.toList = (cs.toList.drop o).take ks.length := by
      rintro k ds hu ha rfl
      have hl := fitsAll_length h
      simp only [List.length_cons, List.length_nil, Nat.zero_add] at hl h ⊢
      obtain ⟨v, hv⟩ := List.length_eq_one_iff.1 hl
      have hg : cs[o]? = some v := by
        have : ((cs.toList.drop o).take 1)[0]? = some v := by rw [hv]; rfl
        rw [List.getElem?_take] at this
        simpa using this
      rw [hv] at h ⊢
      have hs := fits_scalar (show k.fits v = true by simpa [fitsAll] using h)
      have hc : v.cells.toList = [v] ∧ (isAggV v) = false := by cases v <;> first | (simp [isScalar] at hs; done) | exact ⟨rfl, rfl⟩
      refine ⟨v, fun w => by simp [part, run_isAgg ha, hg], ⟨by rw [hc.1]; exact h, by rw [ha, hc.2]⟩, hc.1⟩
    split at hf
    · rename_i hu; cases hf; exact one _ _ hu (by simp [isAggA, hu]) rfl
    · rename_i hu; cases hf; exact one _ _ hu (by simp [isAggA, hu]) rfl
    · rename_i hu; cases hf; exact one _ _ hu (by simp [isAggA, hu]) rfl
    · rename_i hu
      have ha : isAggA P t = some true := by simp [isAggA, hu]
      exact ⟨.agg (cs.extract o (o + ks.length)), fun w => by simp [part, run_isAgg ha, run_size hk], ⟨by simp only [Value.cells]; rw [take_extract]; exact h, ha⟩, by simp only [Value.cells]; rw [take_extract]⟩
    · cases hf

theorem flat_eq : ∀ (d : Nat) (t : TypeId) (ks : List Sk) (x y : Value), flatK P d t = some ks → FitsK P t ks x → FitsK P t ks y → ∀ n w, d ≤ n → (Op.equalIn n t x y).run P w = .ok (flatEq x y) w
  | 0, t, ks, x, y, h, _, _, n, w, _ => by simp [flatK] at h
  | d + 1, t, ks, x, y, h, hx, hy, n, w, hn => by
    obtain ⟨n, rfl⟩ : ∃ m, n = m + 1 := ⟨n - 1, by omega⟩
    simp only [flatK] at h
    split at h
    · rename_i hu
      cases h
      have ha : isAggA P t = some false := by simp [isAggA, hu]
      have h1 := fits_one hx.1 (Option.some.inj (hx.2.symm.trans ha))
      have h2 := fits_one hy.1 (Option.some.inj (hy.2.symm.trans ha))
      cases x <;> simp [Sk.fits] at h1
      cases y <;> simp [Sk.fits] at h2
      simp [Op.equalIn, run_under hu, flatEq, scalarEq]
    · rename_i k hu
      cases h
      have ha : isAggA P t = some false := by simp [isAggA, hu]
      have h1 := fits_one hx.1 (Option.some.inj (hx.2.symm.trans ha))
      have h2 := fits_one hy.1 (Option.some.inj (hy.2.symm.trans ha))
      cases x <;> simp [Sk.fits] at h1
      cases y <;> simp [Sk.fits] at h2
      subst h1; subst h2
      simp [Op.equalIn, run_under hu, flatEq, scalarEq]
    · rename_i hu
      cases h
      have ha : isAggA P t = some false := by simp [isAggA, hu]
      have h1 := fits_one hx.1 (Option.some.inj (hx.2.symm.trans ha))
      have h2 := fits_one hy.1 (Option.some.inj (hy.2.symm.trans ha))
      cases x <;> simp [Sk.fits] at h1
      cases y <;> simp [Sk.fits] at h2
      simp [Op.equalIn, run_under hu, flatEq, scalarEq, beq_toListBytes]
    · rename_i fields hu
      split at h
      · cases h
      · rename_i hp
        have ha : isAggA P t = some true := by simp [isAggA, hu]
        have gx := Option.some.inj (hx.2.symm.trans ha)
        have gy := Option.some.inj (hy.2.symm.trans ha)
        cases x <;> simp [isAggV] at gx
        cases y <;> simp [isAggV] at gy
        rename_i xs ys
        have hfo : P.fieldsOf t = fields := by simp [Program.fieldsOf, hu]
        rw [run_equalIn_struct w n t xs ys (by rw [hfo]; exact hu) (by simpa using hp), hfo]
        simp only [flatEq]
        have key : ∀ (fs : List Field) (at_ : Nat) (ks : List Sk), flatFs P (flatK P d) at_ fs = some ks → fitsAll ks (xs.toList.drop at_) = true → fitsAll ks (ys.toList.drop at_) = true →
            (Op.eqFields n xs ys fs).run P w = .ok (listEq (xs.toList.drop at_) (ys.toList.drop at_)) w := by
          intro fs
          induction fs with
          | nil =>
            intro at_ ks h h1 h2
            simp only [flatFs] at h
            cases h
            have l1 := fitsAll_length h1
            have l2 := fitsAll_length h2
            simp only [List.length_nil] at l1 l2
            rw [List.eq_nil_of_length_eq_zero l1, List.eq_nil_of_length_eq_zero l2]
            rfl
          | cons f fs ih =>
            intro at_ ks h h1 h2
            simp only [flatFs] at h
            split at h
            · cases h
            · rename_i hc
              cases hk : flatK P d f.type with
              | none => simp [hk] at h
              | some k1 =>
                simp only [hk, Option.bind_some] at h
                split at h
                · rename_i hs
                  cases hr : flatFs P (flatK P d) (at_ + k1.length) fs with
                  | none => simp [hr] at h
                  | some k2 =>
                    simp only [hr, Option.map_some] at h
                    cases h
                    obtain ⟨a1, a2⟩ := fitsAll_append h1
                    obtain ⟨b1, b2⟩ := fitsAll_append h2
                    rw [List.drop_drop] at a2 b2
                    have ho : f.offset = at_ := by
                      by_cases e : f.offset = at_
                      · exact e
                      · exact absurd (Or.inr e) hc
                    have hnm : f.name ≠ "_" := fun e => hc (Or.inl e)
                    obtain ⟨u, pu, fu, cu⟩ := part_fits (o := at_) hk hs a1
                    obtain ⟨v, pv, fv, cv⟩ := part_fits (o := at_) hk hs b1
                    have he := flat_eq d f.type k1 u v hk fu fv n w (by omega)
                    have e1 : listEq (xs.toList.drop at_) (ys.toList.drop at_) = (flatEq u v && listEq (xs.toList.drop (at_ + k1.length)) (ys.toList.drop (at_ + k1.length))) := by
                      have hl : ((xs.toList.drop at_).take k1.length).length = ((ys.toList.drop at_).take k1.length).length := by rw [fitsAll_length a1, fitsAll_length b1]
                      have := listEq_append (b := (xs.toList.drop at_).drop k1.length) (b' := (ys.toList.drop at_).drop k1.length) hl
                      rw [List.take_append_drop, List.take_append_drop, List.drop_drop, List.drop_drop] at this
                      rw [this]
                      congr 1
                      rw [← cu, ← cv]
                      have huv := Option.some.inj (fu.2.symm.trans fv.2)
                      cases u <;> cases v <;> simp [isAggV] at huv <;> simp [flatEq, Value.cells, listEq]
                    rw [e1]
                    have hih := ih (at_ + k1.length) k2 hr a2 b2
                    simp only [Op.eqFields, if_pos hnm, ho, Sem.run_bind, pu, pv, he, Result.andThen_ok]
                    cases flatEq u v
                    · simp
                    · simpa using hih
                · cases h
        have := key fields.toList 0 ks h (by simpa [Value.cells] using hx.1) (by simpa [Value.cells] using hy.1)
        simpa using this
    · cases h

/-- A key of a flat type is one. -/
theorem flat_checkKey (em : Bool) : ∀ (d : Nat) (t : TypeId) (ks : List Sk) (x : Value), flatK P d t = some ks → FitsK P t ks x → ∀ n w, d ≤ n → (Instr.checkKey em n t x).run P w = .ok () w
  | 0, t, ks, x, h, _, n, w, _ => by simp [flatK] at h
  | d + 1, t, ks, x, h, hx, n, w, hn => by
    obtain ⟨n, rfl⟩ : ∃ m, n = m + 1 := ⟨n - 1, by omega⟩
    simp only [flatK] at h
    split at h
    · rename_i hu; simp [Instr.checkKey, run_under hu]
    · rename_i hu; simp [Instr.checkKey, run_under hu]
    · rename_i hu; simp [Instr.checkKey, run_under hu]
    · rename_i fields hu
      split at h
      · cases h
      · have ha : isAggA P t = some true := by simp [isAggA, hu]
        have gx := Option.some.inj (hx.2.symm.trans ha)
        cases x <;> simp [isAggV] at gx
        rename_i xs
        simp only [Instr.checkKey, Sem.run_bind, run_under hu, Result.andThen_ok]
        rw [← Array.forIn_toList]
        have key : ∀ (fs : List Field) (at_ : Nat) (ks : List Sk), flatFs P (flatK P d) at_ fs = some ks → fitsAll ks (xs.toList.drop at_) = true →
            (forIn fs PUnit.unit fun f _ => if f.name ≠ "_" then do
                let v ← part f.type xs f.offset
                Instr.checkKey em n f.type v
                pure (ForInStep.yield PUnit.unit)
              else pure (ForInStep.yield PUnit.unit) : Sem PUnit).run P w = .ok PUnit.unit w := by
          intro fs
          induction fs with
          | nil => intro at_ ks _ _; simp
          | cons f fs ih =>
            intro at_ ks h h1
            simp only [flatFs] at h
            split at h
            · cases h
            · rename_i hc
              cases hk : flatK P d f.type with
              | none => simp [hk] at h
              | some k1 =>
                simp only [hk, Option.bind_some] at h
                split at h
                · rename_i hs
                  cases hr : flatFs P (flatK P d) (at_ + k1.length) fs with
                  | none => simp [hr] at h
                  | some k2 =>
                    simp only [hr, Option.map_some] at h
                    cases h
                    obtain ⟨a1, a2⟩ := fitsAll_append h1
                    rw [List.drop_drop] at a2
                    have ho : f.offset = at_ := by
                      by_cases e : f.offset = at_
                      · exact e
                      · exact absurd (Or.inr e) hc
                    have hnm : f.name ≠ "_" := fun e => hc (Or.inl e)
                    obtain ⟨u, pu, fu, cu⟩ := part_fits (o := at_) hk hs a1
                    have he := flat_checkKey em d f.type k1 u hk fu n w (by omega)
                    have hih := ih (at_ + k1.length) k2 hr a2
                    simp only [List.forIn_cons, if_pos hnm, ho, Sem.run_bind, pu, he, Result.andThen_ok, Sem.run_pure]
                    exact hih
                · cases h
        rw [key fields.toList 0 ks h (by simpa [Value.cells] using hx.1)]
        rfl
    · cases h

end Go.AH
