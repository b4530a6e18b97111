/-
  AH: steps seen through a part of the heap; the classes of the operations.
-/
import Derived.Test.YtemibbcfbhafeaaDoorAhCode
namespace Go.AH
open Go
variable {P : Program} {M M' M'' : Mp} {H H' X X' Y Y' : Heap} {W W' W'' : World}

/-- A step, told of what the map tells alone. -/
structure PStep (P : Program) (M : Mp) (H : Heap) (W : World) (M' : Mp) (H' : Heap) (W' : World) : Prop where
  rel : Rel P M' H' W'
  ext : MLe M M'
  new : ∀ b τ, M' b = some τ → M b = none → (W.heap.size ≤ τ.b ∨ ∃ b0 τ0, M b0 = some τ0 ∧ τ0.b = τ.b ∧ ¬ Ro H b0 ∧ ¬ Dead H b0)
  ro : ∀ b τ, M b = some τ → Ro H b → H'[b]? = H[b]?
  rw : ∀ b τ, M b = some τ → ¬ Ro H b → ¬ Ro H' b
  dead : ∀ b τ, M b = some τ → Dead H b → Dead H' b
  aframe : ∀ k, k < W.heap.size → (∀ b τ, M b = some τ → τ.b = k → Ro H b ∨ Dead H b) → W'.heap[k]? = W.heap[k]?
  wsize : W.heap.size ≤ W'.heap.size
  os : W'.os = W.os
  tape : W'.tape = W.tape
  output : W'.output = W.output
  drawn : W.drawn ≤ W'.drawn

theorem PStep.step (_ : Rel P M H W) (p : PStep P M H W M' H' W') (hs : H.size ≤ H'.size) (hn : ∀ b τ, M' b = some τ → M b = none → H.size ≤ b ∧ b < H'.size) (hc : ∀ b, b < H.size → M b = none → H'[b]? = H[b]?) :
    Step P M H W M' H' W' := by
  refine ⟨p.rel, p.ext, hs, fun b τ h h0 => ⟨(hn b τ h h0).1, (hn b τ h h0).2, p.new b τ h h0⟩, fun b hb h => ?_, fun b hb h => ?_, fun b hb h => ?_, hc, p.aframe, p.wsize, p.os, p.tape, p.output, p.drawn⟩
  · cases hm : M b with
    | none => exact hc b hb hm
    | some τ => exact p.ro b τ hm h
  · cases hm : M b with
    | none => rw [ro_of_get (hc b hb hm)]; exact h
    | some τ => exact p.rw b τ hm h
  · cases hm : M b with
    | none => rw [dead_of_get (hc b hb hm)]; exact h
    | some τ => exact p.dead b τ hm h

theorem PStep.trans (s : PStep P M H W M' H' W') (t : PStep P M' H' W' M'' X W'') : PStep P M H W M'' X W'' where
  rel := t.rel
  ext := s.ext.trans t.ext
  new := fun b τ h h0 => by
    cases h1 : M' b with
    | none =>
      rcases t.new b τ h h1 with a3 | ⟨b0, τ0, e0, e1, e2, e3⟩
      · exact .inl (Nat.le_trans s.wsize a3)
      · cases hm : M b0 with
        | none =>
          rcases s.new b0 τ0 e0 hm with c3 | ⟨b9, τ9, f0, f1, f2⟩
          · exact .inl (e1 ▸ c3)
          · exact .inr ⟨b9, τ9, f0, f1.trans e1, f2⟩
        | some τ9 =>
          have e9 := s.ext _ _ hm
          rw [e0] at e9
          cases e9
          exact .inr ⟨b0, τ0, hm, e1, fun hr => e2 ((ro_of_get (s.ro b0 _ hm hr)).2 hr), fun hd => e3 (s.dead b0 _ hm hd)⟩
    | some τ1 =>
      have e1 := t.ext _ _ h1
      rw [h] at e1
      cases e1
      exact s.new b _ h1 h0
  ro := fun b τ hb h => by
    have h1 := s.ro b τ hb h
    exact (t.ro b τ (s.ext _ _ hb) ((ro_of_get h1).2 h)).trans h1
  rw := fun b τ hb h => t.rw b τ (s.ext _ _ hb) (s.rw b τ hb h)
  dead := fun b τ hb h => t.dead b τ (s.ext _ _ hb) (s.dead b τ hb h)
  aframe := fun k hk h => by
    refine (t.aframe k (Nat.lt_of_lt_of_le hk s.wsize) fun b τ hb e => ?_).trans (s.aframe k hk h)
    cases hm : M b with
    | none =>
      rcases s.new b τ hb hm with a3 | ⟨b0, τ0, e0, e1, e2, e3⟩
      · omega
      · rcases h b0 τ0 e0 (e1.trans e) with h | h
        · exact absurd h e2
        · exact absurd h e3
    | some τ0 =>
      have e0 := s.ext _ _ hm
      rw [hb] at e0
      cases e0
      rcases h b τ hm e with hr | hd
      · exact .inl ((ro_of_get (s.ro b τ hm hr)).2 hr)
      · exact .inr (s.dead b τ hm hd)
  wsize := Nat.le_trans s.wsize t.wsize
  os := t.os.trans s.os
  tape := t.tape.trans s.tape
  output := t.output.trans s.output
  drawn := Nat.le_trans s.drawn t.drawn

def restr (M : Mp) (n : Nat) : Mp := fun b => if b < n then M b else none
def cup (M M' : Mp) : Mp := fun b => match M b with | some τ => some τ | none => M' b

theorem restr_some {n b : Nat} {τ : Tgt} : restr M n b = some τ ↔ b < n ∧ M b = some τ := by
  unfold restr
  by_cases h : b < n
  · rw [if_pos h]; exact ⟨fun e => ⟨h, e⟩, fun e => e.2⟩
  · rw [if_neg h]; exact ⟨fun e => (by cases e), fun e => absurd e.1 h⟩
theorem restr_none {n b : Nat} (hb : b < n) (h : M b = none) : restr M n b = none := by unfold restr; rw [if_pos hb, h]
theorem restr_ge {n b : Nat} (hb : n ≤ b) : restr M n b = none := by unfold restr; rw [if_neg (by omega)]
theorem cup_le : MLe M (cup M M') := fun b τ h => by unfold cup; rw [h]
theorem cup_inv {b : Nat} {τ : Tgt} (h : cup M M' b = some τ) : M b = some τ ∨ (M b = none ∧ M' b = some τ) := by
  unfold cup at h
  split at h
  · rename_i e; cases h; exact .inl e
  · rename_i e; exact .inr ⟨e, h⟩

theorem glue (R : Rel P M Y W) (hX : ∀ b τ, M b = some τ → b < X.size → X[b]? = Y[b]?) (st : Step P (restr M X.size) X W M' X' W')
    (hfree : ∀ b, X.size ≤ b → b < X'.size → M b = none) (hY1 : ∀ b τ, b < X'.size → cup M M' b = some τ → Y'[b]? = X'[b]?) (hY2 : ∀ b τ, X'.size ≤ b → M b = some τ → Y'[b]? = Y[b]?) :
    PStep P M Y W (cup M M') Y' W' := by
  -- what M' tells that is new
  have new' : ∀ b τ, M' b = some τ → restr M X.size b = none → X.size ≤ b ∧ b < X'.size := fun b τ h h0 => let ⟨a, b, _⟩ := st.new b τ h h0; ⟨a, b⟩
  -- what the join tells
  have inv : ∀ b τ, cup M M' b = some τ → (b < X'.size ∧ M' b = some τ) ∨ (X'.size ≤ b ∧ M b = some τ) := by
    intro b τ h
    rcases cup_inv h with h | ⟨h0, h⟩
    · by_cases hb : b < X.size
      · exact .inl ⟨Nat.lt_of_lt_of_le hb st.size, st.ext _ _ (restr_some.2 ⟨hb, h⟩)⟩
      · refine .inr ⟨?_, h⟩
        rcases Nat.lt_or_ge b X'.size with hb' | hb'
        · have := hfree b (by omega) hb'; rw [h] at this; cases this
        · exact hb'
    · refine .inl ⟨?_, h⟩
      rcases Nat.lt_or_ge b X.size with hb | hb
      · exact (new' b τ h (restr_none hb h0)).2
      · exact (new' b τ h (restr_ge hb)).2
  have le' : MLe M' (cup M M') := by
    intro b τ h
    cases hm : M b with
    | none => unfold cup; rw [hm]; exact h
    | some τ2 =>
      rcases Nat.lt_or_ge b X.size with hb | hb
      · have := st.ext _ _ (restr_some.2 ⟨hb, hm⟩)
        rw [h] at this; cases this
        exact cup_le _ _ hm
      · have := (new' b τ h (restr_ge hb)).2
        have := hfree b hb this
        rw [hm] at this; cases this
  have aY : ∀ {b τ}, M b = some τ → b < X.size → (Ro X b ↔ Ro Y b) ∧ (Dead X b ↔ Dead Y b) := fun h hb => ⟨ro_of_get (hX _ _ h hb), dead_of_get (hX _ _ h hb)⟩
  have aX : ∀ {b τ}, b < X'.size → cup M M' b = some τ → (Ro Y' b ↔ Ro X' b) ∧ (Dead Y' b ↔ Dead X' b) := fun hb h => ⟨ro_of_get (hY1 _ _ hb h), dead_of_get (hY1 _ _ hb h)⟩
  have aZ : ∀ {b τ}, X'.size ≤ b → M b = some τ → (Ro Y' b ↔ Ro Y b) ∧ (Dead Y' b ↔ Dead Y b) := fun hb h => ⟨ro_of_get (hY2 _ _ hb h), dead_of_get (hY2 _ _ hb h)⟩
  have wkeep : ∀ {b τ}, X'.size ≤ b → M b = some τ → ¬ Dead Y b → W'.heap[τ.b]? = W.heap[τ.b]? := by
    intro b τ hb h hd
    refine st.aframe τ.b (R.lt b τ h) fun b2 τ2 h2 e2 => ?_
    obtain ⟨hb2, h2⟩ := restr_some.1 h2
    have hs := st.size
    rcases R.inj b2 b τ2 τ h2 h e2 (by omega) with h3 | h3 | h3
    · exact .inr ((aY h2 hb2).2.2 h3)
    · exact absurd h3 hd
    · exact .inl ((aY h2 hb2).1.2 h3.1)
  have mixed : ∀ b1 b2 τ1 τ2, b1 < X'.size → M' b1 = some τ1 → X'.size ≤ b2 → M b2 = some τ2 → τ1.b = τ2.b → Dead Y' b1 ∨ Dead Y' b2 ∨ (Ro Y' b1 ∧ Ro Y' b2) := by
    intro b1 b2 τ1 τ2 l1 h1 l2 h2 e
    have c1 := le' _ _ h1
    cases hm : restr M X.size b1 with
    | some τ9 =>
      have := st.ext _ _ hm
      rw [h1] at this; cases this
      obtain ⟨hb1, hm⟩ := restr_some.1 hm
      have hs := st.size
      rcases R.inj b1 b2 τ1 τ2 hm h2 e (by omega) with h3 | h3 | h3
      · exact .inl ((aX l1 c1).2.2 (st.dead b1 hb1 ((aY hm hb1).2.2 h3)))
      · exact .inr (.inl ((aZ l2 h2).2.2 h3))
      · have hr := (aY hm hb1).1.2 h3.1
        exact .inr (.inr ⟨(aX l1 c1).1.2 ((ro_of_get (st.ro b1 hb1 hr)).2 hr), (aZ l2 h2).1.2 h3.2⟩)
    | none =>
      obtain ⟨a1, a2, a3⟩ := st.new b1 τ1 h1 hm
      rcases a3 with a3 | ⟨b0, τ0, e0, e1, e2, e3⟩
      · have := R.lt b2 τ2 h2; omega
      · obtain ⟨hb0, e0⟩ := restr_some.1 e0
        have hs := st.size
        rcases R.inj b0 b2 τ0 τ2 e0 h2 (e1.trans e) (by omega) with h3 | h3 | h3
        · exact absurd ((aY e0 hb0).2.2 h3) e3
        · exact .inr (.inl ((aZ l2 h2).2.2 h3))
        · exact absurd ((aY e0 hb0).1.2 h3.1) e2
  have dom : ∀ b τ, M b = some τ → b < X.size ∨ X'.size ≤ b := by
    intro b τ h
    rcases Nat.lt_or_ge b X.size with hb | hb
    · exact .inl hb
    · rcases Nat.lt_or_ge b X'.size with hb' | hb'
      · have := hfree b hb hb'; rw [h] at this; cases this
      · exact .inr hb'
  have hs := st.size
  refine ⟨⟨fun b τ h => ?_, fun b τ h => ?_, fun b1 b2 τ1 τ2 h1 h2 e hne => ?_⟩, cup_le, fun b τ h h0 => ?_, fun b τ h hr => ?_, fun b τ h hr => ?_, fun b τ h hd => ?_, fun k hk h => ?_, st.wsize, st.os, st.tape, st.output, st.drawn⟩
  · rcases inv b τ h with ⟨hb, h1⟩ | ⟨hb, h1⟩
    · obtain ⟨blk, g1, g2⟩ := st.rel.blk b τ h1
      exact ⟨blk, (hY1 b τ hb h).trans g1, g2.move le' rfl⟩
    · obtain ⟨blk, g1, g2⟩ := R.blk b τ h1
      refine ⟨blk, (hY2 b τ hb h1).trans g1, ?_⟩
      by_cases hd : Dead Y b
      · unfold Dead at hd; rw [g1] at hd; cases hd; trivial
      · exact g2.move cup_le (wkeep hb h1 hd)
  · rcases inv b τ h with ⟨hb, h1⟩ | ⟨hb, h1⟩
    · exact st.rel.lt b τ h1
    · exact Nat.lt_of_lt_of_le (R.lt b τ h1) st.wsize
  · rcases inv b1 τ1 h1 with ⟨l1, g1⟩ | ⟨l1, g1⟩ <;> rcases inv b2 τ2 h2 with ⟨l2, g2⟩ | ⟨l2, g2⟩
    · rw [(aX l1 h1).2, (aX l2 h2).2, (aX l1 h1).1, (aX l2 h2).1]
      exact st.rel.inj b1 b2 τ1 τ2 g1 g2 e hne
    · exact mixed b1 b2 τ1 τ2 l1 g1 l2 g2 e
    · rcases mixed b2 b1 τ2 τ1 l2 g2 l1 g1 e.symm with h3 | h3 | h3
      · exact .inr (.inl h3)
      · exact .inl h3
      · exact .inr (.inr ⟨h3.2, h3.1⟩)
    · rw [(aZ l1 g1).2, (aZ l2 g2).2, (aZ l1 g1).1, (aZ l2 g2).1]
      exact R.inj b1 b2 τ1 τ2 g1 g2 e hne
  · rcases cup_inv h with h1 | ⟨_, h1⟩
    · rw [h0] at h1; cases h1
    · have hr : restr M X.size b = none := by
        unfold restr; split
        · exact h0
        · rfl
      rcases (st.new b τ h1 hr).2.2 with a3 | ⟨b0, τ0, e0, e1, e2, e3⟩
      · exact .inl a3
      · obtain ⟨hb0, e0⟩ := restr_some.1 e0
        exact .inr ⟨b0, τ0, e0, e1, fun h => e2 ((aY e0 hb0).1.2 h), fun h => e3 ((aY e0 hb0).2.2 h)⟩
  · rcases dom b τ h with hb | hb
    · exact ((hY1 b τ (by omega) (cup_le _ _ h)).trans (st.ro b hb ((aY h hb).1.2 hr))).trans (hX b τ h hb)
    · exact hY2 b τ hb h
  · rcases dom b τ h with hb | hb
    · rw [(aX (by omega) (cup_le _ _ h)).1]
      exact st.rw b hb (fun h2 => hr ((aY h hb).1.1 h2))
    · rw [(aZ hb h).1]; exact hr
  · rcases dom b τ h with hb | hb
    · rw [(aX (by omega) (cup_le _ _ h)).2]
      exact st.dead b hb ((aY h hb).2.2 hd)
    · rw [(aZ hb h).2]; exact hd
  · refine st.aframe k hk fun b τ hb e => ?_
    obtain ⟨hb, h1⟩ := restr_some.1 hb
    rw [(aY h1 hb).1, (aY h1 hb).2]
    exact h b τ h1 e

/-! ### Bounds -/
/-- All blocks that a value tells of lie below n. -/
inductive VIn (n : Nat) : Value → Prop
  | base {v : Value} (h : isBase v = true) : VIn n v
  | junk : VIn n junk
  | ptr {b o : Nat} (h : b < n) : VIn n (.pointer (some ⟨b, o, none⟩))
  | sl {b o k c : Nat} (h : b < n) : VIn n (.slice (some ⟨b, o, none⟩) k c)
  | map {b : Nat} (h : b < n) : VIn n (.map (some b))
  | func {fn : Fn} {x y : Array Value} (h1 : ∀ i (h : i < x.size), VIn n x[i]) (h2 : ∀ i (h : i < y.size), VIn n y[i]) : VIn n (.func fn x y)
  | iface {t : TypeId} {v : Value} (h : VIn n v) : VIn n (.iface t v)
  | agg {x : Array Value} (h : ∀ i (h : i < x.size), VIn n x[i]) : VIn n (.agg x)
  | tuple {x : Array Value} (h : ∀ i (h : i < x.size), VIn n x[i]) : VIn n (.tuple x)

theorem VIn.undef {n : Nat} : VIn n undef := .tuple fun i h => by simp at h
theorem VIn.mono {n m : Nat} (hnm : n ≤ m) {v : Value} (h : VIn n v) : VIn m v := by
  induction h with
  | base h => exact .base h
  | junk => exact .junk
  | ptr h => exact .ptr (by omega)
  | sl h => exact .sl (by omega)
  | map h => exact .map (by omega)
  | func _ _ i1 i2 => exact .func i1 i2
  | iface _ i => exact .iface i
  | agg _ i => exact .agg i
  | tuple _ i => exact .tuple i

theorem VR.vin {n : Nat} (hM : ∀ b τ, M b = some τ → b < n) {v v' : Value} (h : VR P M v v') : VIn n v := by
  induction h with
  | junk v => exact .junk
  | base h => exact .base h
  | ptr h => exact .ptr (hM _ _ h)
  | sl h hc => exact .sl (hM _ _ h)
  | slU h hn hc hs => exact .sl (hM _ _ h)
  | slE h => exact .sl (hM _ _ h)
  | sl0 h => exact .sl (hM _ _ h)
  | map h => exact .map (hM _ _ h)
  | func hx hy _ _ i1 i2 => exact .func (fun i h => i1 i h (hx ▸ h)) (fun i h => i2 i h (hy ▸ h))
  | iface _ i => exact .iface i
  | agg hx _ i => exact .agg fun j h => i j h (hx ▸ h)
  | tuple hx _ i => exact .tuple fun j h => i j h (hx ▸ h)

theorem VR.low {n : Nat} {v v' : Value} (h : VR P M v v') (hn : VIn n v) : VR P (restr M n) v v' := by
  induction h with
  | junk v => exact .junk v
  | base h => exact .base h
  | ptr h =>
    cases hn with
    | base h => simp [isBase] at h
    | ptr hb => exact .ptr (restr_some.2 ⟨hb, h⟩)
  | sl h hc =>
    cases hn with
    | base h => simp [isBase] at h
    | sl hb => exact .sl (restr_some.2 ⟨hb, h⟩) hc
  | slU h h1 h2 h3 =>
    cases hn with
    | base h => simp [isBase] at h
    | sl hb => exact .slU (restr_some.2 ⟨hb, h⟩) h1 h2 h3
  | slE h =>
    cases hn with
    | base h => simp [isBase] at h
    | sl hb => exact .slE (restr_some.2 ⟨hb, h⟩)
  | sl0 h =>
    cases hn with
    | base h => simp [isBase] at h
    | sl hb => exact .sl0 (restr_some.2 ⟨hb, h⟩)
  | map h =>
    cases hn with
    | base h => simp [isBase] at h
    | map hb => exact .map (restr_some.2 ⟨hb, h⟩)
  | func hx hy _ _ i1 i2 =>
    cases hn with
    | base h => simp [isBase] at h
    | func g1 g2 => exact .func hx hy (fun i h h' => i1 i h h' (g1 i h)) (fun i h h' => i2 i h h' (g2 i h))
  | iface _ i =>
    cases hn with
    | base h => simp [isBase] at h
    | iface g => exact .iface (i g)
  | agg hx _ i =>
    cases hn with
    | base h => simp [isBase] at h
    | agg g => exact .agg hx fun j h h' => i j h h' (g j h)
  | @tuple x x' hx _ i =>
    generalize hv : Value.tuple x = v at hn
    cases hn with
    | base h => subst hv; simp [isBase] at h
    | junk => cases hv; exact .junk _
    | tuple g => cases hv; exact .tuple hx fun j h h' => i j h h' (g j h)
    | _ => cases hv

def BIn (n : Nat) : Blk → Prop
  | .cells c _ _ => ∀ (i : Nat) (v : Value), c[i]? = some v → VIn n v
  | .map _ es => ∀ (i : Nat) (k v : Value), es[i]? = some (k, v) → VIn n v
  | .dead => True

theorem BIn.mono {n m : Nat} (hnm : n ≤ m) {blk : Blk} (h : BIn n blk) : BIn m blk := by
  cases blk with
  | cells c t rw => exact fun i v e => (h i v e).mono hnm
  | map kt es => exact fun i k v e => (h i k v e).mono hnm
  | dead => trivial

theorem BR.bin {n : Nat} (hM : ∀ b τ, M b = some τ → b < n) {τ : Tgt} {blk : Blk} (h : BR P M W τ blk) : BIn n blk := by
  cases blk with
  | cells c t rw =>
    obtain ⟨c', fz, a1, a2, a3, a4, a5⟩ := h
    exact fun i v e => by obtain ⟨v', _, r⟩ := a4.2 i v e; exact r.vin hM
  | map kt es =>
    obtain ⟨es', a1, a2, a3⟩ := h
    exact fun i k v e => by obtain ⟨e', _, _, r, _⟩ := a2.2 i k v e; exact r.vin hM
  | dead => trivial

theorem BR.low {n : Nat} {τ : Tgt} {blk : Blk} (h : BR P M W τ blk) (hn : BIn n blk) : BR P (restr M n) W τ blk := by
  cases blk with
  | cells c t rw =>
    obtain ⟨c', fz, a1, a2, a3, a4, a5⟩ := h
    exact ⟨c', fz, a1, a2, a3, ⟨a4.1, fun i v e => by obtain ⟨v', e', r⟩ := a4.2 i v e; exact ⟨v', e', r.low (hn i v e)⟩⟩, a5⟩
  | map kt es =>
    obtain ⟨es', a1, a2, a3⟩ := h
    exact ⟨es', a1, ⟨a2.1, fun i k v e => by obtain ⟨e', x1, x2, r, x3⟩ := a2.2 i k v e; exact ⟨e', x1, x2, r.low (hn i k v e), x3⟩⟩, a3⟩
  | dead => trivial

/-- The part of a relation that lies below a heap's end. -/
theorem Rel.below (R : Rel P M Y W) (hX : ∀ b τ, M b = some τ → b < X.size → X[b]? = Y[b]?) (hb : ∀ b τ blk, M b = some τ → b < X.size → X[b]? = some blk → BIn X.size blk) : Rel P (restr M X.size) X W := by
  refine ⟨fun b τ h => ?_, fun b τ h => R.lt b τ (restr_some.1 h).2, fun b1 b2 τ1 τ2 h1 h2 e hne => ?_⟩
  · obtain ⟨hb', h⟩ := restr_some.1 h
    obtain ⟨blk, g1, g2⟩ := R.blk b τ h
    have g3 := (hX b τ h hb').trans g1
    exact ⟨blk, g3, g2.low (hb b τ blk h hb' g3)⟩
  · obtain ⟨l1, h1⟩ := restr_some.1 h1
    obtain ⟨l2, h2⟩ := restr_some.1 h2
    rw [dead_of_get (hX _ _ h1 l1), dead_of_get (hX _ _ h2 l2), ro_of_get (hX _ _ h1 l1), ro_of_get (hX _ _ h2 l2)]
    exact R.inj b1 b2 τ1 τ2 h1 h2 e hne

/-- A heap of dead blocks alone. -/
def deads (n : Nat) : Heap := Array.replicate n .dead
theorem deads_get {n b : Nat} (h : b < n) : (deads n)[b]? = some .dead := by simp [deads, h]
theorem deads_size {n : Nat} : (deads n).size = n := by simp [deads]

theorem Rel.deads (R : Rel P M Y W) (n : Nat) : Rel P (restr M n) (deads n) W := by
  refine ⟨fun b τ h => ?_, fun b τ h => R.lt b τ (restr_some.1 h).2, fun b1 b2 τ1 τ2 h1 h2 e hne => ?_⟩
  · exact ⟨.dead, deads_get (restr_some.1 h).1, trivial⟩
  · exact .inl (deads_get (restr_some.1 h1).1)

/-- What a step from a heap of dead blocks is to the true one. -/
theorem glue0 {n : Nat} (R : Rel P M Y W) (st : Step P (restr M n) (deads n) W M' X' W')
    (hfree : ∀ b, n ≤ b → b < X'.size → M b = none) (hY1 : ∀ b τ, n ≤ b → b < X'.size → M' b = some τ → Y'[b]? = X'[b]?) (hY2 : ∀ b τ, M b = some τ → Y'[b]? = Y[b]?) :
    PStep P M Y W (cup M M') Y' W' := by
  have wk : ∀ k, k < W.heap.size → W'.heap[k]? = W.heap[k]? := fun k hk => st.aframe k hk fun b τ h _ => .inr (deads_get (restr_some.1 h).1)
  have nw : ∀ b τ, M' b = some τ → restr M n b = none → n ≤ b ∧ b < X'.size ∧ W.heap.size ≤ τ.b := fun b τ h h0 => by
    obtain ⟨a1, a2, a3⟩ := st.new b τ h h0
    rw [deads_size] at a1
    refine ⟨a1, a2, ?_⟩
    rcases a3 with a3 | ⟨b0, τ0, e0, _, _, e3⟩
    · exact a3
    · exact absurd (deads_get (restr_some.1 e0).1) e3
  have inv : ∀ b τ, cup M M' b = some τ → M b = some τ ∨ (M b = none ∧ M' b = some τ ∧ n ≤ b ∧ b < X'.size ∧ W.heap.size ≤ τ.b) := by
    intro b τ h
    rcases cup_inv h with h | ⟨h0, h⟩
    · exact .inl h
    · have hr : restr M n b = none := by
        unfold restr; split
        · exact h0
        · rfl
      exact .inr ⟨h0, h, nw b τ h hr⟩
  have le' : MLe M' (cup M M') := by
    intro b τ h
    cases hm : M b with
    | none => unfold cup; rw [hm]; exact h
    | some τ2 =>
      rcases Nat.lt_or_ge b n with hb | hb
      · have := st.ext _ _ (restr_some.2 ⟨hb, hm⟩)
        rw [h] at this; cases this
        exact cup_le _ _ hm
      · have := (nw b τ h (restr_ge hb)).2.1
        have := hfree b hb this
        rw [hm] at this; cases this
  refine ⟨⟨fun b τ h => ?_, fun b τ h => ?_, fun b1 b2 τ1 τ2 h1 h2 e hne => ?_⟩, cup_le, fun b τ h h0 => ?_, fun b τ h hr => hY2 b τ h, fun b τ h hr => ?_, fun b τ h hd => ?_, fun k hk h => wk k hk, st.wsize, st.os, st.tape, st.output, st.drawn⟩
  · rcases inv b τ h with h1 | ⟨h0, h1, l1, l2, l3⟩
    · obtain ⟨blk, g1, g2⟩ := R.blk b τ h1
      exact ⟨blk, (hY2 b τ h1).trans g1, g2.move cup_le (wk _ (R.lt b τ h1))⟩
    · obtain ⟨blk, g1, g2⟩ := st.rel.blk b τ h1
      exact ⟨blk, (hY1 b τ l1 l2 h1).trans g1, g2.move le' rfl⟩
  · rcases inv b τ h with h1 | ⟨h0, h1, l1, l2, l3⟩
    · exact Nat.lt_of_lt_of_le (R.lt b τ h1) st.wsize
    · exact st.rel.lt b τ h1
  · rcases inv b1 τ1 h1 with g1 | ⟨_, g1, l1, m1, a1⟩ <;> rcases inv b2 τ2 h2 with g2 | ⟨_, g2, l2, m2, a2⟩
    · rw [dead_of_get (hY2 _ _ g1), dead_of_get (hY2 _ _ g2), ro_of_get (hY2 _ _ g1), ro_of_get (hY2 _ _ g2)]
      exact R.inj b1 b2 τ1 τ2 g1 g2 e hne
    · have := R.lt b1 τ1 g1; omega
    · have := R.lt b2 τ2 g2; omega
    · rw [dead_of_get (hY1 _ _ l1 m1 g1), dead_of_get (hY1 _ _ l2 m2 g2), ro_of_get (hY1 _ _ l1 m1 g1), ro_of_get (hY1 _ _ l2 m2 g2)]
      exact st.rel.inj b1 b2 τ1 τ2 g1 g2 e hne
  · rcases inv b τ h with h1 | ⟨_, _, _, _, l3⟩
    · rw [h0] at h1; cases h1
    · exact .inl l3
  · rw [ro_of_get (hY2 b τ h)]; exact hr
  · rw [dead_of_get (hY2 b τ h)]; exact hd

/-! ### The classes -/
theorem cls_pure {r : Operand → Value} {o : Op} {v : Value} (hc : cls o = .pure) (h : opA P r o H = some (v, H')) : H' = H ∧ ∀ X, opA P r o X = some (v, X) := by
  have mp : ∀ {x : Option Value}, x.map (·, H) = some (v, H') → H' = H ∧ ∀ X : Heap, x.map (·, X) = some (v, X) := fun {x} h => by
    cases x with
    | none => simp at h
    | some u => simp at h; exact ⟨h.2.symm, fun X => by simp [h.1]⟩
  cases o <;> first
    | (simp [cls] at hc; done)
    | exact mp h
    | (simp only [opA, Option.some.injEq, Prod.mk.injEq] at h ⊢; exact ⟨h.2.symm, fun X => ⟨h.1, trivial⟩⟩)
    | skip
  case build t ps =>
    simp only [opA] at h ⊢
    split at h
    · rename_i hc
      simp only [hc, if_true]
      exact mp h
    · cases h
  case convert s d x =>
    simp only [opA] at h ⊢
    unfold convertA at h ⊢
    split at h <;> first | cases h | skip
    · simp_all
    · simp_all
  case call c =>
    obtain ⟨callee, args, ts⟩ := c
    cases callee with
    | value f => simp [cls] at hc
    | invoke a b => simp [cls] at hc
    | builtin b =>
      cases b <;> simp [cls, clsB] at hc
      · simp only [opA] at h ⊢
        unfold builtinA at h ⊢
        split at h <;> first | cases h | skip
        all_goals first | exact mp h | (simp_all; done)
      · simp only [opA] at h ⊢
        unfold builtinA at h ⊢
        split at h <;> first | cases h | skip
        all_goals first | exact mp h | (simp_all; done)

theorem cls_read {r : Operand → Value} {o : Op} {v : Value} (hc : cls o = .read) (h : opA P r o H = some (v, H')) : H' = H := by
  have mp : ∀ {x : Option Value}, x.map (·, H) = some (v, H') → H' = H := fun {x} h => (map_pair h).2
  cases o <;> first
    | (simp [cls] at hc; done)
    | exact mp h
    | skip
  case call c =>
    obtain ⟨callee, args, ts⟩ := c
    cases callee with
    | value f => simp [cls] at hc
    | invoke a b => simp [cls] at hc
    | builtin b =>
      cases b <;> simp [cls, clsB] at hc
      simp only [opA] at h
      unfold builtinA at h
      split at h <;> first | cases h | exact mp h | (simp_all; done)

theorem cls_alloc {r : Operand → Value} {o : Op} {v : Value} (hc : cls o = .alloc) (h : opA P r o H = some (v, H')) : ∃ blk, roB blk = false ∧ H' = H.push blk ∧ ∀ X : Heap, X.size = H.size → opA P r o X = some (v, X.push blk) := by
  cases o <;> first
    | (simp [cls] at hc; done)
    | skip
  case alloc t =>
    simp only [opA] at h ⊢
    cases hz : zeroA P t with
    | none => simp [hz] at h
    | some z =>
      simp only [hz, Option.map_some, allocA, Option.some.injEq, Prod.mk.injEq] at h
      exact ⟨.cells z t true, rfl, h.2.symm, fun X hX => by simp [allocA, hX, h.1]⟩
  case box t x =>
    simp only [opA] at h ⊢
    split at h
    · rename_i hc
      simp only [allocA, Option.some.injEq, Prod.mk.injEq] at h
      exact ⟨.cells (r x).cells t true, rfl, h.2.symm, fun X hX => by simp [hc, allocA, hX, h.1]⟩
    · cases h
  case buildSlice t n ps =>
    simp only [opA] at h ⊢
    split at h
    · rename_i hc
      simp only [hc, if_true]
      unfold buildSliceA at h ⊢
      split at h
      · rename_i e he
        cases hk : sz P e with
        | none => simp [hk] at h
        | some k =>
          simp only [hk, Option.bind_some] at h
          split at h
          · rename_i hl
            cases hz : zeroA P e with
            | none => simp [hz] at h
            | some z =>
              simp only [hz, Option.bind_some] at h
              split at h
              · rename_i hkz
                cases hf : Instr.fill (fun i => some (i * k, k)) (zeros z (n * k)) (ps.toList.map fun p => (p.1, r p.2)) with
                | none => simp [hf] at h
                | some cells =>
                  simp only [hf, Option.map_some, Option.some.injEq, Prod.mk.injEq] at h
                  refine ⟨.cells cells e true, rfl, h.2.symm, fun X hX => ?_⟩
                  rw [hkz] at hf hk
                  simp only [Option.bind_some, hkz, if_true] at hl ⊢
                  simp only [if_pos hl, hf, Option.map_some, hX, h.1]
              · cases h
          · cases h
      · cases h
    · cases h
  case makeMap t x =>
    cases x with
    | some x => simp [opA] at h
    | none =>
      simp only [opA] at h ⊢
      unfold makeMapA at h ⊢
      split at h
      · rename_i kt _ he
        simp only [Option.some.injEq, Prod.mk.injEq] at h
        exact ⟨.map kt [], rfl, h.2.symm, fun X hX => by simp [hX, h.1]⟩
      · cases h
  case makeSlice t l c =>
    simp only [opA] at h ⊢
    unfold makeSliceA at h ⊢
    split at h
    · split at h
      · rename_i e he
        split at h
        · rename_i i z hi hz
          split at h
          · rename_i hcnd
            simp only [Option.some.injEq, Prod.mk.injEq] at h
            exact ⟨_, rfl, h.2.symm, fun X hX => by simp [hcnd, hX, h.1]⟩
          · cases h
        · cases h
      · cases h
    · cases h
  case call c =>
    obtain ⟨callee, args, ts⟩ := c
    cases callee with
    | value f => simp [cls] at hc
    | invoke a b => simp [cls] at hc
    | builtin b => cases b <;> simp [cls, clsB] at hc

/-- An operation looks at its operands alone. -/
theorem opA_congr {r r1 : Operand → Value} {o : Op} (h : ∀ x ∈ o.operands.toList, r x = r1 x) : opA P r o H = opA P r1 o H := by
  have lm : ∀ (l : List Operand), (∀ x ∈ l, r x = r1 x) → l.map r = l.map r1 := fun l h => List.map_congr_left h
  cases o <;> simp only [Op.operands, List.mem_cons, List.not_mem_nil, or_false, forall_eq_or_imp, forall_eq] at h
  all_goals first
    | (simp only [opA, h]; done)
    | skip
  case build t ps =>
    have e : ∀ p ∈ ps.toList, r p.2 = r1 p.2 := fun p hp => h p.2 (by simpa using ⟨p.1, by simpa using hp⟩)
    have e1 : (ps.toList.map fun p => (p.1, r p.2)) = ps.toList.map fun p => (p.1, r1 p.2) := List.map_congr_left fun p hp => by rw [e p hp]
    have e2 : (ps.toList.all fun p => noTuple (r p.2)) = ps.toList.all fun p => noTuple (r1 p.2) := by
      rw [Bool.eq_iff_iff, List.all_eq_true, List.all_eq_true]
      exact ⟨fun h p hp => e p hp ▸ h p hp, fun h p hp => (e p hp).symm ▸ h p hp⟩
    simp only [opA, e1, e2]
  case buildSlice t n ps =>
    have e : ∀ p ∈ ps.toList, r p.2 = r1 p.2 := fun p hp => h p.2 (by simpa using ⟨p.1, by simpa using hp⟩)
    have e1 : (ps.toList.map fun p => (p.1, r p.2)) = ps.toList.map fun p => (p.1, r1 p.2) := List.map_congr_left fun p hp => by rw [e p hp]
    have e2 : (ps.toList.all fun p => noTuple (r p.2)) = ps.toList.all fun p => noTuple (r1 p.2) := by
      rw [Bool.eq_iff_iff, List.all_eq_true, List.all_eq_true]
      exact ⟨fun h p hp => e p hp ▸ h p hp, fun h p hp => (e p hp).symm ▸ h p hp⟩
    simp only [opA, e1, e2]
  case makeFunc f first cap =>
    have e1 : first.map r = first.map r1 := by
      rw [← Array.toList_inj]; simp only [Array.toList_map]
      exact lm _ fun x hx => h x (by simp [Array.mem_toList_iff.1 hx])
    have e2 : cap.map r = cap.map r1 := by
      rw [← Array.toList_inj]; simp only [Array.toList_map]
      exact lm _ fun x hx => h x (by simp [Array.mem_toList_iff.1 hx])
    simp only [opA, e1, e2]
  case makeMap t x =>
    cases x with
    | none => rfl
    | some x => rfl
  case slice t x lo hi mx =>
    have e : ∀ y : Option Operand, (∀ z, y = some z → r z = r1 z) → y.map r = y.map r1 := fun y hy => by
      cases y with
      | none => rfl
      | some z => simp [hy z rfl]
    have hx : r x = r1 x := h x (by simp)
    have h1 := e lo fun z hz => h z (by simp [hz])
    have h2 := e hi fun z hz => h z (by simp [hz])
    have h3 := e mx fun z hz => h z (by simp [hz])
    simp only [opA, hx, h1, h2, h3]
  case call c =>
    obtain ⟨callee, args, ts⟩ := c
    cases callee with
    | value f => rfl
    | invoke a b => rfl
    | builtin b =>
      simp only [Call.operands, Array.empty_append] at h
      simp only [opA, lm _ h]

theorem calleeA_congr {r r1 : Operand → Value} {o : Op} (h : ∀ x ∈ o.operands.toList, r x = r1 x) : calleeA r o = calleeA r1 o := by
  cases o <;> try rfl
  case call c =>
    obtain ⟨callee, args, ts⟩ := c
    cases callee with
    | builtin b => rfl
    | invoke a b => rfl
    | value f =>
      simp only [Op.operands, Call.operands] at h
      have h1 : r f = r1 f := h f (by simp)
      have h2 : args.map r = args.map r1 := by
        rw [← Array.toList_inj]; simp only [Array.toList_map]
        exact List.map_congr_left fun x hx => h x (by simp [Array.mem_toList_iff.1 hx])
      simp only [calleeA, h1, h2]
end Go.AH
