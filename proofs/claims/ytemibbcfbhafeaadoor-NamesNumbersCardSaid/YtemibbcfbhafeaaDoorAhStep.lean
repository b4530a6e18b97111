/-
  AH: the steps of which all operations are made: a new block; a block written; a new block that lies where a dead one lay.
-/
import Derived.Test.YtemibbcfbhafeaaDoorAhRel
namespace Go.AH
open Go
variable {P : Program} {M : Mp} {H : Heap} {W W' : World}

def ins (M : Mp) (b : Nat) (τ : Tgt) : Mp := fun b' => if b' = b then some τ else M b'

theorem ins_same (M : Mp) (b : Nat) (τ : Tgt) : ins M b τ b = some τ := by simp [ins]
theorem ins_other {M : Mp} {b b' : Nat} {τ : Tgt} (h : b' ≠ b) : ins M b τ b' = M b' := by simp [ins, h]
theorem ins_le {b : Nat} {τ : Tgt} (h : M b = none) : MLe M (ins M b τ) := fun b' τ' e => by
  by_cases hb : b' = b
  · subst hb; rw [h] at e; cases e
  · rw [ins_other hb]; exact e

theorem Rel.none_at (R : Rel P M H W) {b : Nat} (hb : H.size ≤ b) : M b = none := by
  cases h : M b with
  | none => rfl
  | some τ => have := R.lt' h; omega

theorem CR.mono {M M' : Mp} {d : Nat} {c c' : Array Value} (hM : MLe M M') (h : CR P M d c c') : CR P M' d c c' :=
  ⟨h.1, fun i v hv => by obtain ⟨v', e, r⟩ := h.2 i v hv; exact ⟨v', e, r.mono hM⟩⟩
theorem ER.mono {M M' : Mp} {es : List (Value × Value)} {es' : Array MapEntry} (hM : MLe M M') (h : ER P M es es') : ER P M' es es' :=
  ⟨h.1, fun i k v hv => by obtain ⟨e, a, b, r, d⟩ := h.2 i k v hv; exact ⟨e, a, b, r.mono hM, d⟩⟩
theorem BR.move {M M' : Mp} {τ : Tgt} {blk : Blk} (hM : MLe M M') (hW : W'.heap[τ.b]? = W.heap[τ.b]?) (h : BR P M W τ blk) : BR P M' W' τ blk := by
  cases blk with
  | cells c t rw =>
    obtain ⟨c', fz, a1, a2, a3, a4, a5⟩ := h
    exact ⟨c', fz, hW.trans a1, a2, a3, a4.mono hM, a5⟩
  | map kt es =>
    obtain ⟨es', a1, a2, a3⟩ := h
    exact ⟨es', hW.trans a1, a2.mono hM, a3⟩
  | dead => trivial

theorem ro_of_get {H H' : Heap} {b : Nat} (h : H'[b]? = H[b]?) : Ro H' b ↔ Ro H b := by unfold Ro; rw [h]
theorem dead_of_get {H H' : Heap} {b : Nat} (h : H'[b]? = H[b]?) : Dead H' b ↔ Dead H b := by unfold Dead; rw [h]
theorem get_push_lt (H : Heap) (x : Blk) {b : Nat} (h : b < H.size) : (H.push x)[b]? = H[b]? := by rw [Array.getElem?_push, if_neg (by omega)]
theorem get_push_eq (H : Heap) (x : Blk) : (H.push x)[H.size]? = some x := by rw [Array.getElem?_push, if_pos rfl]
theorem get_set_ne (H : Heap) (x : Blk) {b b' : Nat} (h : b' ≠ b) : (H.setIfInBounds b x)[b']? = H[b']? := by rw [Array.getElem?_setIfInBounds, if_neg (by omega)]
theorem get_set_eq (H : Heap) (x : Blk) {b : Nat} (h : b < H.size) : (H.setIfInBounds b x)[b]? = some x := by rw [Array.getElem?_setIfInBounds, if_pos rfl, if_pos h]

/-- What a world keeps beside its heap. -/
structure Same (W W' : World) : Prop where
  os : W'.os = W.os
  tape : W'.tape = W.tape
  output : W'.output = W.output
  drawn : W.drawn ≤ W'.drawn
theorem Same.refl (W : World) : Same W W := ⟨rfl, rfl, rfl, Nat.le_refl _⟩

/-- A new block. -/
theorem step_push (R : Rel P M H W) (S : Same W W') (o : Obj) (hW : W'.heap = W.heap.push o) {blk : Blk} {τ : Tgt} (hτ : τ.b = W.heap.size) (hnr : roB blk = false) (hb : BR P (ins M H.size τ) W' τ blk) :
    Step P M H W (ins M H.size τ) (H.push blk) W' := by
  have hM0 : M H.size = none := R.none_at (Nat.le_refl _)
  have hle := ins_le (M := M) (τ := τ) hM0
  have old : ∀ k, k < W.heap.size → W'.heap[k]? = W.heap[k]? := fun k hk => by rw [hW, Array.getElem?_push, if_neg (by omega)]
  have inv : ∀ b τ', ins M H.size τ b = some τ' → (b = H.size ∧ τ' = τ) ∨ (b ≠ H.size ∧ M b = some τ') := fun b τ' e => by
    by_cases hbs : b = H.size
    · subst hbs; rw [ins_same] at e; cases e; exact .inl ⟨rfl, rfl⟩
    · rw [ins_other hbs] at e; exact .inr ⟨hbs, e⟩
  have hnro : ¬ Ro (H.push blk) H.size := by
    rintro ⟨c, t, h⟩
    rw [get_push_eq] at h
    cases h
    simp [roB] at hnr
  refine ⟨⟨fun b τ' e => ?_, fun b τ' e => ?_, fun b b' τ1 τ2 e1 e2 hb12 hne => ?_⟩, hle, by simp, fun b τ' e e0 => ?_, fun b hlt _ => get_push_lt _ _ hlt, fun b hlt h => ?_, fun b hlt h => (dead_of_get (get_push_lt _ _ hlt)).2 h, fun b hlt _ => get_push_lt _ _ hlt, fun k hk _ => old k hk, by rw [hW]; simp, S.os, S.tape, S.output, S.drawn⟩
  · rcases inv b τ' e with ⟨rfl, rfl⟩ | ⟨hne, e⟩
    · exact ⟨blk, get_push_eq _ _, hb⟩
    · obtain ⟨blk', h1, h2⟩ := R.blk b τ' e
      exact ⟨blk', (get_push_lt _ _ (R.lt' e)).trans h1, h2.move hle (old _ (R.lt b τ' e))⟩
  · rcases inv b τ' e with ⟨rfl, rfl⟩ | ⟨_, e⟩
    · rw [hW, hτ]; simp
    · rw [hW]; have := R.lt b τ' e; simp; omega
  · rcases inv b τ1 e1 with ⟨rfl, rfl⟩ | ⟨h1, f1⟩ <;> rcases inv b' τ2 e2 with ⟨rfl, rfl⟩ | ⟨h2, f2⟩
    · exact absurd rfl hne
    · have := R.lt _ _ f2; omega
    · have := R.lt _ _ f1; omega
    · have g1 := get_push_lt H blk (R.lt' f1)
      have g2 := get_push_lt H blk (R.lt' f2)
      rw [dead_of_get g1, dead_of_get g2, ro_of_get g1, ro_of_get g2]
      exact R.inj b b' τ1 τ2 f1 f2 hb12 hne
  · rcases inv b τ' e with ⟨rfl, rfl⟩ | ⟨_, e⟩
    · exact ⟨Nat.le_refl _, by simp, .inl (by omega)⟩
    · rw [e0] at e; cases e
  · rw [ro_of_get (get_push_lt _ _ hlt)]; exact h

/-- A block of one's own is written. -/
theorem step_set (R : Rel P M H W) (S : Same W W') {b : Nat} {τ : Tgt} {blk1 : Blk} (hm : M b = some τ) (hro : ¬ Ro H b) (hdead : ¬ Dead H b) (hnr : roB blk1 = false)
    (hsz : W'.heap.size = W.heap.size) (hoth : ∀ k, k ≠ τ.b → W'.heap[k]? = W.heap[k]?) (hb : BR P M W' τ blk1) :
    Step P M H W M (H.setIfInBounds b blk1) W' := by
  have hlt := R.lt' hm
  have hnro : ¬ Ro (H.setIfInBounds b blk1) b := by
    rintro ⟨c, t, h⟩
    rw [get_set_eq _ _ hlt] at h
    cases h
    simp [roB] at hnr
  refine ⟨⟨fun b' τ' e => ?_, (fun b' τ' e => by rw [hsz]; exact R.lt b' τ' e), fun b1 b2 τ1 τ2 e1 e2 h12 hne => ?_⟩, MLe.refl _, by simp, (fun b' τ' e e0 => by rw [e] at e0; cases e0), fun b' _ h => ?_, fun b' hl h => ?_, fun b' hl h => ?_, fun b' _ h => ?_, fun k hk h => ?_, by omega, S.os, S.tape, S.output, S.drawn⟩
  · by_cases hbb : b' = b
    · subst hbb
      rw [hm] at e; cases e
      exact ⟨blk1, get_set_eq _ _ hlt, hb⟩
    · obtain ⟨blk', h1, h2⟩ := R.blk b' τ' e
      refine ⟨blk', (get_set_ne _ _ hbb).trans h1, ?_⟩
      by_cases ht : τ'.b = τ.b
      · rcases R.inj b' b τ' τ e hm ht hbb with h | h | h
        · unfold Dead at h; rw [h1] at h; cases h; trivial
        · exact absurd h hdead
        · exact absurd h.2 hro
      · exact h2.move (MLe.refl _) (hoth _ ht)
  · have key : ∀ x, ¬ x = b → (Dead (H.setIfInBounds b blk1) x ↔ Dead H x) ∧ (Ro (H.setIfInBounds b blk1) x ↔ Ro H x) := fun x hx => ⟨dead_of_get (get_set_ne _ _ hx), ro_of_get (get_set_ne _ _ hx)⟩
    by_cases x1 : b1 = b
    · subst x1
      rw [hm] at e1; cases e1
      rcases R.inj b1 b2 τ τ2 hm e2 h12 hne with h | h | h
      · exact absurd h hdead
      · exact .inr (.inl ((key b2 (Ne.symm hne)).1.2 h))
      · exact absurd h.1 hro
    · by_cases x2 : b2 = b
      · subst x2
        rw [hm] at e2; cases e2
        rcases R.inj b1 b2 τ1 τ e1 hm h12 hne with h | h | h
        · exact .inl ((key b1 x1).1.2 h)
        · exact absurd h hdead
        · exact absurd h.2 hro
      · rw [(key b1 x1).1, (key b2 x2).1, (key b1 x1).2, (key b2 x2).2]
        exact R.inj b1 b2 τ1 τ2 e1 e2 h12 hne
  · by_cases hbb : b' = b
    · subst hbb; exact absurd h hro
    · exact get_set_ne _ _ hbb
  · by_cases hbb : b' = b
    · subst hbb; exact hnro
    · rw [ro_of_get (get_set_ne _ _ hbb)]; exact h
  · by_cases hbb : b' = b
    · subst hbb; exact absurd h hdead
    · exact (dead_of_get (get_set_ne _ _ hbb)).2 h
  · by_cases hbb : b' = b
    · subst hbb; rw [hm] at h; cases h
    · exact get_set_ne _ _ hbb
  · refine hoth k fun e => ?_
    rcases h b τ hm e.symm with h | h
    · exact hro h
    · exact hdead h

/-- A block dies, and a new one lies where it lay. -/
theorem step_move (R : Rel P M H W) (S : Same W W') {blk : Blk} {τ : Tgt} (_ : roB blk = false) {b0 : Nat} {τ0 : Tgt} (h0 : M b0 = some τ0) (hτ : τ0.b = τ.b) (hro : ¬ Ro H b0) (hd0 : ¬ Dead H b0)
    (hsz : W'.heap.size = W.heap.size) (hoth : ∀ k, k ≠ τ.b → W'.heap[k]? = W.heap[k]?) (hb : BR P (ins M H.size τ) W' τ blk) :
    Step P M H W (ins M H.size τ) ((H.setIfInBounds b0 .dead).push blk) W' := by
  have hlt := R.lt' h0
  have st1 : Step P M H W M (H.setIfInBounds b0 .dead) W := step_set R (Same.refl W) h0 hro hd0 rfl rfl (fun _ _ => rfl) trivial
  have hs1 : (H.setIfInBounds b0 .dead).size = H.size := by simp
  have hdead : ∀ b τ', M b = some τ' → τ'.b = τ.b → Dead (H.setIfInBounds b0 .dead) b := by
    intro b2 τ2 h2 e2
    by_cases hb2 : b2 = b0
    · subst hb2; unfold Dead; exact get_set_eq _ _ hlt
    · unfold Dead
      rw [get_set_ne _ _ hb2]
      rcases R.inj b2 b0 τ2 τ0 h2 h0 (e2.trans hτ.symm) hb2 with h3 | h3 | h3
      · exact h3
      · exact absurd h3 hd0
      · exact absurd h3.2 hro
  generalize hH1 : H.setIfInBounds b0 .dead = H1 at st1 hs1 hdead ⊢
  have R1 := st1.rel
  have hM0 : M H.size = none := R.none_at (Nat.le_refl _)
  have hle := ins_le (M := M) (τ := τ) hM0
  have inv : ∀ b τ', ins M H.size τ b = some τ' → (b = H.size ∧ τ' = τ) ∨ (b ≠ H.size ∧ M b = some τ') := fun b τ' e => by
    by_cases hbs : b = H.size
    · subst hbs; rw [ins_same] at e; cases e; exact .inl ⟨rfl, rfl⟩
    · rw [ins_other hbs] at e; exact .inr ⟨hbs, e⟩
  have gl : ∀ {b}, b < H.size → (H1.push blk)[b]? = H1[b]? := fun h => get_push_lt _ _ (by omega)
  have ge : (H1.push blk)[H.size]? = some blk := by rw [← hs1]; exact get_push_eq _ _
  refine ⟨⟨fun b τ' e => ?_, fun b τ' e => ?_, fun b b' τ1 τ2 e1 e2 hb12 hne => ?_⟩, hle, by simp; omega, fun b τ' e e0 => ?_, fun b hlt h => (gl hlt).trans (st1.ro b hlt h), fun b hlt h => ?_, fun b hlt h => (dead_of_get (gl hlt)).2 (st1.dead b hlt h), fun b hlt h => (gl hlt).trans (st1.cframe b hlt h), fun k hk h => ?_, by omega, S.os, S.tape, S.output, S.drawn⟩
  · rcases inv b τ' e with ⟨rfl, rfl⟩ | ⟨hne, e⟩
    · exact ⟨blk, ge, hb⟩
    · obtain ⟨blk', h1, h2⟩ := R1.blk b τ' e
      refine ⟨blk', (gl (R.lt' e)).trans h1, ?_⟩
      by_cases ht : τ'.b = τ.b
      · have := hdead b τ' e ht
        unfold Dead at this; rw [h1] at this; cases this; trivial
      · exact h2.move hle (hoth _ ht)
  · rcases inv b τ' e with ⟨rfl, rfl⟩ | ⟨_, e⟩
    · rw [hsz, ← hτ]; exact R.lt _ _ h0
    · rw [hsz]; exact R.lt b τ' e
  · rcases inv b τ1 e1 with ⟨rfl, rfl⟩ | ⟨h1, f1⟩ <;> rcases inv b' τ2 e2 with ⟨rfl, rfl⟩ | ⟨h2, f2⟩
    · exact absurd rfl hne
    · exact .inr (.inl ((dead_of_get (gl (R.lt' f2))).2 (hdead _ _ f2 hb12.symm)))
    · exact .inl ((dead_of_get (gl (R.lt' f1))).2 (hdead _ _ f1 hb12))
    · have g1 := gl (R.lt' f1)
      have g2 := gl (R.lt' f2)
      rw [dead_of_get g1, dead_of_get g2, ro_of_get g1, ro_of_get g2]
      exact R1.inj b b' τ1 τ2 f1 f2 hb12 hne
  · rcases inv b τ' e with ⟨rfl, rfl⟩ | ⟨_, e⟩
    · exact ⟨Nat.le_refl _, by simp; omega, .inr ⟨b0, τ0, h0, hτ, hro, hd0⟩⟩
    · rw [e0] at e; cases e
  · rw [ro_of_get (gl hlt)]; exact st1.rw b hlt h
  · refine hoth k fun e => ?_
    rcases h b0 τ0 h0 (hτ.trans e.symm) with h | h
    · exact hro h
    · exact hd0 h

end Go.AH
