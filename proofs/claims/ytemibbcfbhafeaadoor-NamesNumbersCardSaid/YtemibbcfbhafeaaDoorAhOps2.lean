/-
  AH: scalars, slice expressions, lengths, conversions, new rows and maps.
-/
import Derived.Test.YtemibbcfbhafeaaDoorAhFlat
namespace Go.AH
open Go
variable {P : Program} {M : Mp} {H H' : Heap} {W : World}

theorem sim_pick (R : Rel P M H W) {c c' a a' b b' v : Value} (hc : VR P M c c') (ha : VR P M a a') (hb : VR P M b b') (h : pickA c a b = some v) :
    OpSim P M H W (do pure (.value (if ← asBool c' then a' else b'))) v H := by
  unfold pickA at h
  split at h
  · rename_i t
    cases h
    cases hc.bool_inv
    refine ⟨_, W, if t then a' else b', M, by simp [asBool], .inl rfl, ?_, Step.refl R⟩
    cases t <;> assumption
  · cases h

theorem sim_nilCheck (R : Rel P M H W) {x x' v : Value} (hx : VR P M x x') (h : nilCheckA x = some v) (o : Oper) (r : Operand → Value) (a : Operand) (ho : o.op = .nilCheck a) (hr : r a = x') :
    OpSim P M H W (execOp r o) v H := by
  unfold nilCheckA at h
  split at h
  · cases h
    cases hx with
    | base h => simp [isBase] at h
    | ptr h => exact ⟨_, W, _, M, by simp only [execOp, ho, hr, Sem.run_pure], .inl rfl, .ptr h, Step.refl R⟩
  · cases h
    obtain ⟨x', y', rfl, h1, h2⟩ := hx.func_inv
    exact ⟨_, W, _, M, by simp only [execOp, ho, hr, Sem.run_pure], .inl rfl, .func h1.1 h2.1 h1.2 h2.2, Step.refl R⟩
  · cases h

theorem run_intA {op : BinOp} {k : IntKind} {a b : Int} {v : Value} (h : intA op k a b = some v) (hs : op ≠ .shl ∧ op ≠ .shr) (t : TypeId) (w : World) : (binOp op t (.int k a) (.int k b)).run P w = .ok v w := by
  cases op <;> simp [intA, intCmpA] at h hs <;> first
    | (obtain ⟨h0, rfl⟩ := h; simp [binOp, Op.intDiv, h0])
    | (subst h; simp [binOp, Op.intArith, Op.intBits, Op.intCmp])

theorem run_shA {op : BinOp} {k k' : IntKind} {a b : Int} {v : Value} (h : intA op k a b = some v) (hs : op = .shl ∨ op = .shr) (t : TypeId) (w : World) : (binOp op t (.int k a) (.int k' b)).run P w = .ok v w := by
  rcases hs with rfl | rfl <;>
  · simp only [intA] at h
    split at h
    · cases h
    · rename_i h0
      cases h
      simp [binOp, Op.shift, h0]

theorem run_strA {op : BinOp} {a b : ByteArray} {v : Value} (h : strA op a b = some v) (t : TypeId) (w : World) : (binOp op t (.string a) (.string b)).run P w = .ok v w := by
  cases op <;> simp [strA] at h <;> first
    | (obtain ⟨h0, rfl⟩ := h
       have : ¬ ((9223372036854775807 : Int) < a.size + b.size) := by omega
       simp [binOp, Op.stringOp, this])
    | (subst h; simp [binOp, Op.stringOp])

theorem guard_ok {op : BinOp} {t : TypeId} {x y : Operand} {a b : Value} (h1 : a ≠ .nilIface) (h2 : isAggV a = false) (w : World) : (eqGuard op t x y a b).run P w = .ok () w := by
  unfold eqGuard
  cases op <;> (cases a <;> first | (simp at h1; done) | (simp [isAggV] at h2; done) | (simp))

theorem sim_eqA (_ : Rel P M H W) {t : TypeId} {x x' y y' : Value} {b : Bool} (hx : VR P M x x') (hy : VR P M y y') (h : eqA P t x y = some b) :
    (∀ n w, 9 ≤ n → (Op.equalIn (n + 1) t x' y').run P w = .ok b w) ∧ (∀ op a c w, (eqGuard op t a c x' y').run P w = .ok () w) := by
  unfold eqA at h
  have nonagg : ∀ (v : Value), v ≠ .nilIface → isAggV v = false → ∀ (u : Value) op a c w, (eqGuard op t a c v u).run P w = .ok () w := fun v h1 h2 u op a c w => guard_ok h1 h2 w
  split at h
  · rename_i hu
    cases h
    cases hx.bool_inv; cases hy.bool_inv
    exact ⟨fun n w _ => by simp [Op.equalIn, run_under hu], nonagg _ (by simp) rfl _⟩
  · rename_i et e hu
    cases h
    cases hx.ptr_nil_inv
    have : ∃ b2, y' = .pointer b2 ∧ b2.isNone = Option.isNone e := by
      cases hy with
      | base h => exact ⟨_, rfl, rfl⟩
      | ptr h => exact ⟨_, rfl, rfl⟩
    obtain ⟨b2, rfl, e2⟩ := this
    exact ⟨fun n w _ => by simp [Op.equalIn, run_under hu, e2], nonagg _ (by simp) rfl _⟩
  · rename_i e hu
    cases h
    cases hy.ptr_nil_inv
    have : ∃ b2 : Addr, x' = .pointer (some b2) := by
      cases hx with
      | base h => simp [isBase] at h
      | ptr h => exact ⟨_, rfl⟩
    obtain ⟨b2, rfl⟩ := this
    exact ⟨fun n w _ => by simp [Op.equalIn, run_under hu], nonagg _ (by simp) rfl _⟩
  · rename_i et _ _ e _ _ hu
    cases h
    cases hx.sl_nil_inv
    have : ∃ b2 n c, y' = .slice b2 n c ∧ b2.isNone = Option.isNone e := by
      cases hy with
      | base h => exact ⟨_, _, _, rfl, rfl⟩
      | sl h _ => exact ⟨_, _, _, rfl, rfl⟩
      | slU h _ _ _ => exact ⟨_, _, _, rfl, rfl⟩
      | slE h => exact ⟨_, _, _, rfl, rfl⟩
      | sl0 h => exact ⟨_, _, _, rfl, rfl⟩
    obtain ⟨b2, n2, c2, rfl, e2⟩ := this
    exact ⟨fun n w _ => by simp [Op.equalIn, run_under hu, e2], nonagg _ (by simp) rfl _⟩
  · rename_i e hu
    cases h
    cases hy.sl_nil_inv
    have : ∃ (b2 : Addr) (n c : Nat), x' = .slice (some b2) n c := by
      cases hx with
      | base h => simp [isBase] at h
      | sl h _ => exact ⟨_, _, _, rfl⟩
      | slU h _ _ _ => exact ⟨_, _, _, rfl⟩
      | slE h => exact ⟨_, _, _, rfl⟩
      | sl0 h => exact ⟨_, _, _, rfl⟩
    obtain ⟨b2, n2, c2, rfl⟩ := this
    exact ⟨fun n w _ => by simp [Op.equalIn, run_under hu], nonagg _ (by simp) rfl _⟩
  · rename_i et et2 e hu
    cases h
    cases hx.map_nil_inv
    have : ∃ b2, y' = .map b2 ∧ b2.isNone = Option.isNone e := by
      cases hy with
      | base h => exact ⟨_, rfl, rfl⟩
      | map h => exact ⟨_, rfl, rfl⟩
    obtain ⟨b2, rfl, e2⟩ := this
    exact ⟨fun n w _ => by simp [Op.equalIn, run_under hu, e2], nonagg _ (by simp) rfl _⟩
  · rename_i e hu
    cases h
    cases hy.map_nil_inv
    obtain ⟨τ, _, rfl⟩ : ∃ τ : Tgt, True ∧ x' = .map (some τ.b) := by
      cases hx with
      | base h => simp [isBase] at h
      | map h => exact ⟨_, trivial, rfl⟩
    exact ⟨fun n w _ => by simp [Op.equalIn, run_under hu], nonagg _ (by simp) rfl _⟩
  · rename_i fs xs ys hu
    split at h
    · rename_i hc
      simp only [Bool.and_eq_true, Bool.not_eq_true'] at hc
      cases h
      obtain ⟨⟨c1, c2⟩, c3⟩ := hc
      obtain ⟨ks, k1, f1⟩ := fits_spec c1
      obtain ⟨ks2, k2, f2⟩ := fits_spec c2
      rw [k1] at k2; cases k2
      have flat : ∀ {ks : List Sk} {l l' : List Value}, fitsAll ks l = true → LR P M l l' → l' = l := by
        intro ks l l' hk hl
        induction hl generalizing ks with
        | nil => rfl
        | cons hv _ ih =>
          cases ks with
          | nil => simp [fitsAll] at hk
          | cons k ks =>
            simp only [fitsAll, Bool.and_eq_true] at hk
            rw [hv.scalar (fits_scalar hk.1), ih hk.2]
      obtain ⟨xs', rfl, hxs⟩ := hx.agg_inv
      obtain ⟨ys', rfl, hys⟩ := hy.agg_inv
      have ex : xs' = xs := by have := flat f1.1 hxs.list; exact Array.ext' this
      have ey : ys' = ys := by have := flat f2.1 hys.list; exact Array.ext' this
      subst ex; subst ey
      refine ⟨fun n w hn => ?_, fun op a c w => run_eqGuard_agg w op t a c _ _ c3⟩
      have := flat_eq 9 t ks (.agg xs') (.agg ys') k1 f1 f2 (n + 1) w (by omega)
      simpa [flatEq] using this
    · cases h
  · cases h

theorem sim_bin (R : Rel P M H W) {op : BinOp} {t : TypeId} {x x' y y' v : Value} (hx : VR P M x x') (hy : VR P M y y') (h : binA P op t x y = some v) (a b : Operand) :
    VSim P M H W (do eqGuard op t a b x' y'; binOp op t x' y') v H := by
  unfold binA at h
  split at h
  · rename_i k n k' m
    cases hx.int_inv; cases hy.int_inv
    have hg := guard_ok (P := P) (op := op) (t := t) (x := a) (y := b) (a := .int k n) (b := .int k' m) (by simp) rfl W
    split at h
    · rename_i hs
      have hs' : op = .shl ∨ op = .shr := by cases op <;> simp [isShift] at hs <;> simp
      have hb : isBase v = true := by
        rcases hs' with rfl | rfl <;> (simp only [intA] at h; split at h; (cases h); (cases h; rfl))
      exact VSim.same R (v' := v) (by simp only [Sem.run_bind, hg, Result.andThen_ok]; exact run_shA h hs' t W) (.base hb)
    · rename_i hs
      split at h
      · rename_i hk
        subst hk
        have hs' : op ≠ .shl ∧ op ≠ .shr := by cases op <;> simp [isShift] at hs <;> simp
        have hb : isBase v = true := by
          cases op <;> simp [intA, intCmpA] at h <;> first | (obtain ⟨_, rfl⟩ := h; rfl) | (subst h; rfl)
        exact VSim.same R (v' := v) (by simp only [Sem.run_bind, hg, Result.andThen_ok]; exact run_intA h hs' t W) (.base hb)
      · cases h
  · rename_i s s'
    cases hx.string_inv; cases hy.string_inv
    have hg := guard_ok (P := P) (op := op) (t := t) (x := a) (y := b) (a := .string s) (b := .string s') (by simp) rfl W
    have hb : isBase v = true := by
      cases op <;> simp [strA] at h <;> first | (obtain ⟨_, rfl⟩ := h; rfl) | (subst h; rfl)
    exact VSim.same R (v' := v) (by simp only [Sem.run_bind, hg, Result.andThen_ok]; exact run_strA h t W) (.base hb)
  · rename_i h1 h2
    have nint : ∀ (b : Bool), eqA P t x y = some b → (∀ k n k' m, ¬ (x' = .int k n ∧ y' = .int k' m)) ∧ (∀ s s', ¬ (x' = .string s ∧ y' = .string s')) ∧ (∀ k n k' m, ¬ (x' = .float k n ∧ y' = .float k' m)) ∧ (∀ k n l k' m l', ¬ (x' = .complex k n l ∧ y' = .complex k' m l')) := by
      intro b hb
      unfold eqA at hb
      split at hb <;> first
        | (cases hx.bool_inv; simp; done)
        | (cases hb; cases hx <;> simp; done)
        | (obtain ⟨xs', rfl, _⟩ := hx.agg_inv; simp; done)
        | (cases hb)
    split at h
    · cases hq : eqA P t x y with
      | none => simp [hq] at h
      | some b0 =>
        simp only [hq, Option.map_some] at h
        cases h
        obtain ⟨e1, e2⟩ := sim_eqA R hx hy hq
        obtain ⟨n1, n2, n3, n4⟩ := nint b0 hq
        refine VSim.same R (v' := .bool b0) ?_ (.base rfl)
        simp only [Sem.run_bind, e2, Result.andThen_ok]
        have hb : binOp .eql t x' y' = (do pure (.bool (← Op.equal t x' y'))) := by
          unfold binOp
          split <;> first | rfl | (exfalso; first | exact n1 _ _ _ _ ⟨rfl, rfl⟩ | exact n2 _ _ ⟨rfl, rfl⟩ | exact n3 _ _ _ _ ⟨rfl, rfl⟩ | exact n4 _ _ _ _ _ _ ⟨rfl, rfl⟩ | contradiction)
        rw [hb]
        simp [Op.equal, Op.maxDepth, e1 9999 W (by omega)]
    · cases hq : eqA P t x y with
      | none => simp [hq] at h
      | some b0 =>
        simp only [hq, Option.map_some] at h
        cases h
        obtain ⟨e1, e2⟩ := sim_eqA R hx hy hq
        obtain ⟨n1, n2, n3, n4⟩ := nint b0 hq
        refine VSim.same R (v' := .bool !b0) ?_ (.base rfl)
        simp only [Sem.run_bind, e2, Result.andThen_ok]
        have hb : binOp .neq t x' y' = (do pure (.bool (!(← Op.equal t x' y')))) := by
          unfold binOp
          split <;> first | rfl | (exfalso; first | exact n1 _ _ _ _ ⟨rfl, rfl⟩ | exact n2 _ _ ⟨rfl, rfl⟩ | exact n3 _ _ _ _ ⟨rfl, rfl⟩ | exact n4 _ _ _ _ _ _ ⟨rfl, rfl⟩ | contradiction)
        rw [hb]
        simp [Op.equal, Op.maxDepth, e1 9999 W (by omega)]
    · cases h

theorem sim_un (R : Rel P M H W) {op : UnOp} {x x' v : Value} (hx : VR P M x x') (h : unA op x = some v) : VSim P M H W (Op.unary op x') v H := by
  unfold unA at h
  split at h
  · cases hx.bool_inv
    split at h
    · cases h; exact VSim.same R (by simp [Op.unary]) (.base rfl)
    · cases h
  · rename_i k n
    cases hx.int_inv
    split at h
    · cases h; exact VSim.same R (by simp [Op.unary, Op.intArith]) (.base rfl)
    · simp only [intA] at h
      cases h; exact VSim.same R (by simp [Op.unary, Op.intBits]) (.base rfl)
    · cases h
  · cases h

end Go.AH
