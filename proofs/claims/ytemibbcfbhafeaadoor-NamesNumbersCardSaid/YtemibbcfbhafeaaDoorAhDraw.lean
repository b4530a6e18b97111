/-
  AH: a region whose order is drawn comes, in every order, to what it comes to in the order of its text.
-/
import Derived.Test.YtemibbcfbhafeaaDoorAhOpWp
namespace Go.AH
open Go
variable {P : Program} {ops : Array Oper} {T : Nat → Tmps} {K : Nat → Heap} {M0 M M' : Mp} {W0 W W' : World} {ds : List Deferred} {D : Nat → Prop} {G : Nat} {Y : Heap} {a : Act}

def opT (o : Oper) : List Tmp := o.op.operands.toList.filterMap fun | .tmp t => some t | _ => none
theorem opT_looks {o : Oper} {t : Tmp} (h : t ∈ opT o) : t ∈ o.looksAt ops := by
  unfold Oper.looksAt
  exact List.mem_append.2 (.inl h)
theorem mem_opT {o : Oper} {t : Tmp} (h : t ∈ opT o) : Operand.tmp t ∈ o.op.operands.toList := by
  unfold opT at h
  obtain ⟨x, hx, e⟩ := List.mem_filterMap.1 h
  cases x <;> simp at e
  subst e
  exact hx
theorem evL_opT {o : Oper} {T : Tmps} : ∀ x ∈ o.op.operands.toList, ev T x = evL (opT o) T x := fun x hx =>
  (evL_ev fun t e => by subst e; exact List.mem_filterMap.2 ⟨_, hx, rfl⟩).symm
theorem callee_eff {r : Operand → Value} {o : Op} {p : FuncId × Array Value} (h : calleeA r o = some p) : cls o = .eff := by
  cases o <;> first | rfl | (simp [calleeA] at h; done) | skip
  case call c =>
    obtain ⟨callee, args, ts⟩ := c
    cases callee with
    | builtin b => simp [calleeA] at h
    | invoke x y => rfl
    | value f => rfl

structure Ctx (P : Program) (ops : Array Oper) (T : Nat → Tmps) (K : Nat → Heap) (M0 : Mp) : Prop where
  ok : OkD ops
  st : ∀ i o, ops[i]? = some o → stepR P (Snd P) ops o (T i) (K i) (T (i + 1)) (K (i + 1))
  pr : ∀ p ∈ pairsD ops, sameAt P ops T K p
  m0 : ∀ b τ, M0 b = some τ → b < (K 0).size

theorem isEff_of {i : Nat} {o : Oper} (ho : ops[i]? = some o) : isEff ops i = decide (cls o.op = .eff) := by
  unfold isEff; rw [ho]; simp only; cases cls o.op <;> rfl
theorem isRead_of {i : Nat} {o : Oper} (ho : ops[i]? = some o) : isRead ops i = decide (cls o.op = .read) := by
  unfold isRead; rw [ho]; simp only; cases cls o.op <;> rfl

theorem Ctx.ksz (c : Ctx P ops T K M0) {i j : Nat} (h : i ≤ j) (hj : j ≤ ops.size) : (K i).size ≤ (K j).size := chain_size (draw_sizes snd_grows c.st) h hj

theorem Ctx.kone (c : Ctx P ops T K M0) {i : Nat} (hi : i < ops.size) (he : isEff ops i = false) {b : Nat} (hb : b < (K i).size) : (K (i + 1))[b]? = (K i)[b]? := by
  have ho : ops[i]? = some ops[i] := Array.getElem?_eq_getElem hi
  have hs := c.st i _ ho
  rw [isEff_of ho] at he
  have hc : cls ops[i].op ≠ .eff := by simpa using he
  unfold stepR at hs
  split at hs
  · obtain ⟨v, h, _⟩ := hs
    rcases h with h | ⟨g, args, h, _⟩
    · cases hcl : cls ops[i].op with
      | pure => rw [(cls_pure hcl h).1]
      | read => rw [cls_read hcl h]
      | alloc => obtain ⟨blk, _, e, _⟩ := cls_alloc hcl h; rw [e]; exact get_push_lt _ _ hb
      | eff => exact absurd hcl hc
    · exact absurd (callee_eff h) hc
  · rw [hs.2]
  · exact hs.elim

theorem Ctx.kpres (c : Ctx P ops T K M0) {m m' b : Nat} (hm : m ≤ m') (hm' : m' ≤ ops.size) (hb : b < (K m).size) (h : ∀ j, m ≤ j → j < m' → isEff ops j = true → (K (j + 1))[b]? = (K j)[b]?) : (K m')[b]? = (K m)[b]? := by
  induction m' with
  | zero => have : m = 0 := by omega
            subst this; rfl
  | succ k ih =>
    rcases Nat.lt_or_ge m (k + 1) with h1 | h1
    · have hbk : b < (K k).size := Nat.lt_of_lt_of_le hb (c.ksz (by omega) (by omega))
      have e : (K (k + 1))[b]? = (K k)[b]? := by
        cases he : isEff ops k with
        | true => exact h k (by omega) (by omega) he
        | false => exact c.kone (by omega) he hbk
      exact e.trans (ih (by omega) (by omega) fun j h1 h2 h3 => h j h1 (by omega) h3)
    · have : m = k + 1 := by omega
      subst this; rfl

theorem Ctx.tput (c : Ctx P ops T K M0) {i : Nat} {o : Oper} (ho : ops[i]? = some o) : ∃ v, T (i + 1) = putA (T i) o.dst v := by
  have hs := c.st i o ho
  unfold stepR at hs
  split at hs
  · obtain ⟨v, _, e⟩ := hs; exact ⟨v, e⟩
  · exact ⟨_, hs.1⟩
  · exact hs.elim

theorem Ctx.tsz (c : Ctx P ops T K M0) : ∀ {i : Nat}, i ≤ ops.size → (T i).size = (T 0).size
  | 0, _ => rfl
  | i + 1, h => by
    obtain ⟨v, e⟩ := c.tput (Array.getElem?_eq_getElem (show i < ops.size by omega))
    rw [e, putA_size]
    exact c.tsz (by omega)

theorem Ctx.tpres (c : Ctx P ops T K M0) {m m' : Nat} {t : Tmp} (hm : m ≤ m') (hm' : m' ≤ ops.size) (h : ∀ j o, m ≤ j → j < m' → ops[j]? = some o → o.dst ≠ some t) : (T m').getD t undef = (T m).getD t undef := by
  induction m' with
  | zero => have : m = 0 := by omega
            subst this; rfl
  | succ k ih =>
    rcases Nat.lt_or_ge m (k + 1) with h1 | h1
    · have ho : ops[k]? = some ops[k] := Array.getElem?_eq_getElem (by omega)
      obtain ⟨v, e⟩ := c.tput ho
      rw [e, putA_other (h k _ (by omega) (by omega) ho)]
      exact ih (by omega) (by omega) fun j o h1 h2 h3 => h j o h1 (by omega) h3
    · have : m = k + 1 := by omega
      subst this; rfl

structure DInv (P : Program) (ops : Array Oper) (T : Nat → Tmps) (K : Nat → Heap) (M0 : Mp) (W0 : World) (ds : List Deferred) (D : Nat → Prop) (G : Nat) (M : Mp) (Y : Heap) (a : Act) (W : World) : Prop where
  p : PStep P M0 (K 0) W0 M Y W
  cl : ∀ i j, D j → Anc ops i j → D i
  gd : ∀ j, isEff ops j = true → (D j ↔ j < G)
  gl : G = 0 ∨ ∃ g, G = g + 1 ∧ isEff ops g = true
  dom : ∀ b τ, M b = some τ → M0 b = some τ ∨ ∃ j, D j ∧ j < ops.size ∧ (K j).size ≤ b ∧ b < (K (j + 1)).size
  agree : ∀ b τ, M b = some τ → ∀ m, m ≤ ops.size → b < (K m).size → (∀ j, isEff ops j = true → b < (K j).size → (j < m ↔ j < G)) → ∃ blk, (K m)[b]? = some blk ∧ Y[b]? = some blk ∧ BIn (K m).size blk
  keep : ∀ j, isEff ops j = true → j < G → ∀ b, b < (K j).size → M b = none → (K (j + 1))[b]? = (K j)[b]?
  tsz : a.tmps.size = (T 0).size
  tmp : ∀ t m, m ≤ ops.size → (∀ j o, ops[j]? = some o → o.dst = some t → (j < m ↔ D j)) → VR P M ((T m).getD t undef) (a.tmps.getD t undef) ∧ VIn (K m).size ((T m).getD t undef)
  defs : a.defers = ds

theorem isEff_lt {j : Nat} (h : isEff ops j = true) : j < ops.size := by
  unfold isEff at h
  rcases Nat.lt_or_ge j ops.size with h1 | h1
  · exact h1
  · rw [Array.getElem?_eq_none h1] at h; cases h

section
variable (c : Ctx P ops T K M0) (h : DInv P ops T K M0 W0 ds D G M Y a W) {i : Nat} {o : Oper} (ho : ops[i]? = some o) (hD : ¬ D i) (hr : ∀ j, Anc ops j i → D j)

theorem lt_of_some {i : Nat} {o : Oper} (ho : ops[i]? = some o) : i < ops.size := (Array.getElem?_eq_some_iff.1 ho).1

include c h ho hD in
theorem dinv_free {b : Nat} (h1 : (K i).size ≤ b) (h2 : b < (K (i + 1)).size) : M b = none := by
  have hi := lt_of_some ho
  cases hm : M b with
  | none => rfl
  | some τ =>
    exfalso
    rcases h.dom b τ hm with e | ⟨j, dj, lj, j1, j2⟩
    · have := c.m0 b τ e
      have := c.ksz (Nat.zero_le i) (Nat.le_of_lt hi)
      omega
    · rcases Nat.lt_trichotomy j i with hj | hj | hj
      · have := c.ksz (show j + 1 ≤ i from hj) (Nat.le_of_lt hi); omega
      · subst hj; exact hD dj
      · have := c.ksz (show i + 1 ≤ j from hj) (Nat.le_of_lt lj); omega

include c h ho hD hr in
theorem dinv_reads {t : Tmp} (ht : t ∈ o.looksAt ops) : VR P M ((T i).getD t undef) (a.tmps.getD t undef) ∧ VIn (K i).size ((T i).getD t undef) := by
  refine h.tmp t i (Nat.le_of_lt (lt_of_some ho)) fun j y hy hd => ⟨fun hj => ?_, fun dj => ?_⟩
  · rcases c.ok.apart j i y o hj hy ho with h1 | h1
    · exact absurd ht ((Oper.apart_spec h1).1 t hd)
    · exact hr j h1
  · rcases Nat.lt_trichotomy j i with hj | hj | hj
    · exact hj
    · subst hj; exact absurd dj hD
    · rcases c.ok.apart i j o y hj ho hy with h1 | h1
      · exact absurd ht ((Oper.apart_spec h1).2.2 t hd)
      · exact absurd (h.cl i j dj h1) hD

include c h ho hD hr in
/-- What comes of one operation more. -/
theorem dinv_next {v v' : Value} {M2 : Mp} {Y2 : Heap} {W2 : World} {G2 : Nat} (hT : T (i + 1) = putA (T i) o.dst v) (p2 : PStep P M Y W M2 Y2 W2)
    (gd2 : ∀ j, isEff ops j = true → ((D j ∨ j = i) ↔ j < G2)) (gl2 : G2 = 0 ∨ ∃ g, G2 = g + 1 ∧ isEff ops g = true)
    (dom2 : ∀ b τ, M2 b = some τ → M b = some τ ∨ ((K i).size ≤ b ∧ b < (K (i + 1)).size))
    (agree2 : ∀ b τ, M2 b = some τ → ∀ m, m ≤ ops.size → b < (K m).size → (∀ j, isEff ops j = true → b < (K j).size → (j < m ↔ j < G2)) → ∃ blk, (K m)[b]? = some blk ∧ Y2[b]? = some blk ∧ BIn (K m).size blk)
    (keep2 : ∀ j, isEff ops j = true → j < G2 → ∀ b, b < (K j).size → M2 b = none → (K (j + 1))[b]? = (K j)[b]?) (rv : VR P M2 v v') (hv : VIn (K (i + 1)).size v) :
    DInv P ops T K M0 W0 ds (fun j => D j ∨ j = i) G2 M2 Y2 (a.put o.dst v') W2 := by
  have hi := lt_of_some ho
  refine ⟨h.p.trans p2, fun k j hj ha => ?_, gd2, gl2, fun b τ hb => ?_, agree2, keep2, ?_, fun t m hm hw => ?_, ?_⟩
  · rcases hj with hj | rfl
    · exact .inl (h.cl k j hj ha)
    · exact .inl (hr k ha)
  · rcases dom2 b τ hb with e | e
    · rcases h.dom b τ e with e | ⟨j, h1, h2⟩
      · exact .inl e
      · exact .inr ⟨j, .inl h1, h2⟩
    · exact .inr ⟨i, .inr rfl, hi, e⟩
  · rw [put_size]; exact h.tsz
  · by_cases hd : o.dst = some t
    · have him : i < m := (hw i o ho hd).2 (.inr rfl)
      have e : (T m).getD t undef = (T (i + 1)).getD t undef := c.tpres him hm fun j y h1 h2 hy hdy => by
        have hj : D j := by
          rcases (hw j y hy hdy).1 h2 with hj | rfl
          · exact hj
          · omega
        rcases c.ok.apart i j o y (by omega) ho hy with h3 | h3
        · exact (Oper.apart_spec h3).2.1 t hd hdy
        · exact hD (h.cl i j hj h3)
      rw [e, hT, hd, putA_same, put_same, h.tsz, c.tsz (Nat.le_of_lt hi)]
      split
      · exact ⟨rv, hv.mono (c.ksz him hm)⟩
      · exact ⟨VR.undef, VIn.undef⟩
    · rw [put_other hd]
      obtain ⟨h1, h2⟩ := h.tmp t m hm fun j y hy hdy => by
        rw [hw j y hy hdy]
        refine ⟨fun hj => ?_, .inl⟩
        rcases hj with hj | rfl
        · exact hj
        · rw [ho] at hy; cases hy; exact absurd hdy hd
      exact ⟨h1.mono p2.ext, h2⟩
  · rw [put_defers]; exact h.defs

theorem none_of_le {M M2 : Mp} (hl : MLe M M2) {b : Nat} (h : M2 b = none) : M b = none := by
  cases hm : M b with
  | none => rfl
  | some τ => rw [hl b τ hm] at h; cases h

include h hD in
theorem gd_same (he : isEff ops i = false) : ∀ j, isEff ops j = true → ((D j ∨ j = i) ↔ j < G) := fun j hj => by
  rw [← h.gd j hj]
  refine ⟨fun hh => ?_, .inl⟩
  rcases hh with hh | rfl
  · exact hh
  · rw [he] at hj; cases hj

include c h ho hD hr in
/-- Where nothing new lies in the heap. -/
theorem dinv_same {v v' : Value} {M2 : Mp} {W2 : World} (he : isEff ops i = false) (hT : T (i + 1) = putA (T i) o.dst v) (p2 : PStep P M Y W M2 Y W2)
    (dom2 : ∀ b τ, M2 b = some τ → M b = some τ) (rv : VR P M2 v v') (hv : VIn (K (i + 1)).size v) :
    DInv P ops T K M0 W0 ds (fun j => D j ∨ j = i) G M2 Y (a.put o.dst v') W2 :=
  dinv_next c h ho hD hr hT p2 (gd_same h hD he) h.gl (fun b τ hb => .inl (dom2 b τ hb)) (fun b τ hb => h.agree b τ (dom2 b τ hb)) (fun j h1 h2 b h3 h4 => h.keep j h1 h2 b h3 (none_of_le p2.ext h4)) rv hv

def patch (X Y : Heap) : Heap := X ++ Y.extract X.size Y.size
theorem patch_lt {X Y : Heap} {b : Nat} (h : b < X.size) : (patch X Y)[b]? = X[b]? := by
  unfold patch; rw [Array.getElem?_append_left h]
theorem patch_ge {X Y : Heap} {b : Nat} (h : X.size ≤ b) : (patch X Y)[b]? = Y[b]? := by
  unfold patch
  rw [Array.getElem?_append_right h, Array.getElem?_extract]
  split
  · rw [show X.size + (b - X.size) = b from by omega]
  · rw [Array.getElem?_eq_none (by omega)]

def patchAt (Y : Heap) (k : Nat) (x : Blk) : Heap := Array.ofFn (n := max Y.size (k + 1)) fun b => if b.val = k then x else Y[b.val]?.getD .dead
theorem patchAt_eq {Y : Heap} {k : Nat} {x : Blk} : (patchAt Y k x)[k]? = some x := by
  unfold patchAt
  rw [Array.getElem?_ofFn]
  have : k < max Y.size (k + 1) := by omega
  simp [this]
theorem patchAt_ne {Y : Heap} {k b : Nat} {x y : Blk} (hb : b ≠ k) (hy : Y[b]? = some y) : (patchAt Y k x)[b]? = some y := by
  unfold patchAt
  have hl := (Array.getElem?_eq_some_iff.1 hy).1
  rw [Array.getElem?_ofFn]
  have : b < max Y.size (k + 1) := by omega
  simp [this, hb, hy]

include c h ho hD hr in
/-- An effect. -/
theorem dinv_eff {v v' : Value} (he : isEff ops i = true) (hT : T (i + 1) = putA (T i) o.dst v) (st : Step P (restr M (K i).size) (K i) W M' (K (i + 1)) W') (rv : VR P M' v v') :
    ∃ G2 M2 Y2, DInv P ops T K M0 W0 ds (fun j => D j ∨ j = i) G2 M2 Y2 (a.put o.dst v') W' := by
  have hi := lt_of_some ho
  have before : ∀ j, isEff ops j = true → (D j ↔ j < i) := fun j hj => ⟨fun dj => by
      rcases Nat.lt_trichotomy j i with h1 | h1 | h1
      · exact h1
      · subst h1; exact absurd dj hD
      · exact absurd (h.cl i j dj (c.ok.eff i j h1 he hj)) hD, fun hj' => hr j (c.ok.eff j i hj' hj he)⟩
  have hX : ∀ b τ, M b = some τ → b < (K i).size → (K i)[b]? = Y[b]? := fun b τ hb hlt => by
    obtain ⟨blk, e1, e2, _⟩ := h.agree b τ hb i (Nat.le_of_lt hi) hlt fun j hj _ => by rw [← h.gd j hj]; exact (before j hj).symm
    rw [e1, e2]
  have hfree : ∀ b, (K i).size ≤ b → b < (K (i + 1)).size → M b = none := fun b => dinv_free c h ho hD
  have new' : ∀ b τ, M' b = some τ → M b = none → (K i).size ≤ b ∧ b < (K (i + 1)).size := fun b τ h1 h0 => by
    have hn : restr M (K i).size b = none := by
      unfold restr; split
      · exact h0
      · rfl
    obtain ⟨x1, x2, _⟩ := st.new b τ h1 hn
    exact ⟨x1, x2⟩
  have in' : ∀ b τ, cup M M' b = some τ → b < (K (i + 1)).size → M' b = some τ := fun b τ hb hlt => by
    rcases cup_inv hb with h1 | ⟨_, h1⟩
    · refine st.ext _ _ (restr_some.2 ⟨?_, h1⟩)
      rcases Nat.lt_or_ge b (K i).size with h2 | h2
      · exact h2
      · have := hfree b h2 hlt; rw [h1] at this; cases this
    · exact h1
  have p2 := glue (Y' := patch (K (i + 1)) Y) h.p.rel hX st hfree (fun b τ hb _ => patch_lt hb) (fun b τ hb _ => patch_ge hb)
  have hk : ∀ b, M' b ≠ none → b < (K (i + 1)).size := fun b hb => by
    cases hm : M' b with
    | none => exact absurd hm hb
    | some τ => exact st.rel.lt' hm
  have hk' : ∀ b τ, M' b = some τ → b < (K (i + 1)).size := fun b τ hb => st.rel.lt' hb
  have le' : MLe M' (cup M M') := fun b τ hb => by
    cases hm : M b with
    | none => unfold cup; rw [hm]; exact hb
    | some τ2 =>
      rcases Nat.lt_or_ge b (K i).size with h2 | h2
      · have := st.ext _ _ (restr_some.2 ⟨h2, hm⟩)
        rw [hb] at this; cases this
        exact cup_le _ _ hm
      · have := hfree b h2 (hk' b τ hb); rw [hm] at this; cases this
  refine ⟨i + 1, cup M M', patch (K (i + 1)) Y, dinv_next c h ho hD hr hT p2 (fun j hj => ?_) (.inr ⟨i, rfl, he⟩) (fun b τ hb => ?_) (fun b τ hb m hm hbm hc => ?_) (fun j hj hji b hb hn => ?_) (rv.mono le') (rv.vin hk')⟩
  · rw [before j hj]; omega
  · rcases cup_inv hb with h1 | ⟨h0, h1⟩
    · exact .inl h1
    · exact .inr (new' b τ h1 h0)
  · rcases Nat.lt_or_ge b (K (i + 1)).size with hlt | hge
    · have him : i < m := by
        rcases Nat.lt_or_ge b (K i).size with h2 | h2
        · exact (hc i he h2).2 (by omega)
        · rcases Nat.lt_or_ge i m with h3 | h3
          · exact h3
          · have := c.ksz h3 (Nat.le_of_lt hi); omega
      have e1 : (K m)[b]? = (K (i + 1))[b]? := c.kpres him hm hlt fun j h1 h2 h3 => by
        have := (hc j h3 (Nat.lt_of_lt_of_le hlt (c.ksz h1 (by omega)))).1 h2
        omega
      obtain ⟨blk, g1, g2⟩ := st.rel.blk b τ (in' b τ hb hlt)
      exact ⟨blk, e1.trans g1, (patch_lt hlt).trans g1, (g2.bin hk').mono (c.ksz him hm)⟩
    · have hb' : M b = some τ := by
        rcases cup_inv hb with h1 | ⟨h0, h1⟩
        · exact h1
        · have := (new' b τ h1 h0).2; omega
      obtain ⟨blk, e1, e2, e3⟩ := h.agree b τ hb' m hm hbm fun j hj hbj => by
        have hji : i + 1 < j := by
          rcases Nat.lt_or_ge (i + 1) j with h1 | h1
          · exact h1
          · have := c.ksz h1 (by omega); omega
        have h1 := hc j hj hbj
        have h2 := h.gd j hj
        have h3 := before j hj
        constructor
        · intro h4; have := h1.1 h4; omega
        · intro h4; have := h3.1 (h2.2 h4); omega
      exact ⟨blk, e1, (patch_ge hge).trans e2, e3⟩
  · have hn' : M b = none := none_of_le cup_le hn
    rcases Nat.lt_or_ge j i with h1 | h1
    · exact h.keep j hj ((h.gd j hj).1 ((before j hj).2 h1)) b hb hn'
    · have : j = i := by omega
      subst this
      exact st.cframe b hb (restr_none hb hn')

include c h ho hD hr in
/-- What touches no heap. -/
theorem dinv_pure {v v' : Value} (he : isEff ops i = false) (hT : T (i + 1) = putA (T i) o.dst v) (hK : K (i + 1) = K i) (st : Step P (restr M (K i).size) (deads (K i).size) W M' (deads (K i).size) W') (rv : VR P M' v v') :
    ∃ G2 M2 Y2, DInv P ops T K M0 W0 ds (fun j => D j ∨ j = i) G2 M2 Y2 (a.put o.dst v') W' := by
  have hk' : ∀ b τ, M' b = some τ → b < (K i).size := fun b τ hb => by have := st.rel.lt' hb; rw [deads_size] at this; exact this
  have low : ∀ b τ, M' b = some τ → M b = some τ := fun b τ hb => by
    cases hm : restr M (K i).size b with
    | none =>
      obtain ⟨x1, x2, _⟩ := st.new b τ hb hm
      omega
    | some τ2 =>
      have := st.ext _ _ hm
      rw [hb] at this; cases this
      exact (restr_some.1 hm).2
  have dom2 : ∀ b τ, cup M M' b = some τ → M b = some τ := fun b τ hb => by
    rcases cup_inv hb with h1 | ⟨_, h1⟩
    · exact h1
    · exact low b τ h1
  have p2 := glue0 (Y' := Y) h.p.rel st (fun b h1 h2 => by rw [deads_size] at h2; omega) (fun b τ h1 h2 _ => by rw [deads_size] at h2; omega) (fun b τ _ => rfl)
  exact ⟨G, _, Y, dinv_same c h ho hD hr he hT p2 dom2 (rv.mono fun b τ hb => cup_le _ _ (low b τ hb)) (by rw [hK]; exact rv.vin hk')⟩

include c h ho hD hr in
/-- A new block. -/
theorem dinv_alloc {v v' : Value} {blk : Blk} (he : isEff ops i = false) (hT : T (i + 1) = putA (T i) o.dst v) (hK : K (i + 1) = (K i).push blk)
    (st : Step P (restr M (K i).size) (deads (K i).size) W M' ((deads (K i).size).push blk) W') (rv : VR P M' v v') :
    ∃ G2 M2 Y2, DInv P ops T K M0 W0 ds (fun j => D j ∨ j = i) G2 M2 Y2 (a.put o.dst v') W' := by
  have hi := lt_of_some ho
  have hsz : ((deads (K i).size).push blk).size = (K i).size + 1 := by simp [deads_size]
  have hK1 : (K (i + 1)).size = (K i).size + 1 := by rw [hK]; simp
  have hk' : ∀ b τ, M' b = some τ → b < (K (i + 1)).size := fun b τ hb => by have := st.rel.lt' hb; rw [hsz] at this; omega
  have hfree : M (K i).size = none := dinv_free c h ho hD (Nat.le_refl _) (by omega)
  have low : ∀ b τ, M' b = some τ → M b = some τ ∨ b = (K i).size := fun b τ hb => by
    cases hm : restr M (K i).size b with
    | none =>
      obtain ⟨x1, x2, _⟩ := st.new b τ hb hm
      rw [deads_size] at x1
      right; omega
    | some τ2 =>
      have := st.ext _ _ hm
      rw [hb] at this; cases this
      exact .inl (restr_some.1 hm).2
  have newb : ((deads (K i).size).push blk)[(K i).size]? = some blk := by
    have := get_push_eq (deads (K i).size) blk
    rw [deads_size] at this; exact this
  have keepY : ∀ b τ, M b = some τ → (patchAt Y (K i).size blk)[b]? = Y[b]? := fun b τ hb => by
    obtain ⟨x, hx, _⟩ := h.p.rel.blk b τ hb
    rw [hx]
    exact patchAt_ne (fun e => by rw [e, hfree] at hb; cases hb) hx
  have p2 := glue0 (Y' := patchAt Y (K i).size blk) h.p.rel st (fun b h1 h2 => by
      have : b = (K i).size := by omega
      rw [this]; exact hfree) (fun b τ h1 h2 _ => by
      have : b = (K i).size := by omega
      rw [this, newb]; exact patchAt_eq) keepY
  have le' : MLe M' (cup M M') := fun b τ hb => by
    rcases low b τ hb with h1 | h1
    · exact cup_le _ _ h1
    · unfold cup; rw [h1, hfree]; rw [h1] at hb; exact hb
  refine ⟨G, cup M M', patchAt Y (K i).size blk, dinv_next c h ho hD hr hT p2 (gd_same h hD he) h.gl (fun b τ hb => ?_) (fun b τ hb m hm hbm hc => ?_) (fun j h1 h2 b h3 h4 => h.keep j h1 h2 b h3 (none_of_le cup_le h4)) (rv.mono le') (rv.vin hk')⟩
  · rcases cup_inv hb with h1 | ⟨h0, h1⟩
    · exact .inl h1
    · rcases low b τ h1 with h2 | h2
      · exact .inl h2
      · exact .inr ⟨by omega, by omega⟩
  · by_cases hm0 : M b = some τ
    · obtain ⟨x, e1, e2, e3⟩ := h.agree b τ hm0 m hm hbm hc
      exact ⟨x, e1, (keepY b τ hm0).trans e2, e3⟩
    · have hM' : M' b = some τ := by
        rcases cup_inv hb with h1 | ⟨_, h1⟩
        · exact absurd h1 hm0
        · exact h1
      have hbi : b = (K i).size := by
        rcases low b τ hM' with h2 | h2
        · exact absurd h2 hm0
        · exact h2
      subst hbi
      have him : i < m := by
        rcases Nat.lt_or_ge i m with h3 | h3
        · exact h3
        · have := c.ksz h3 (Nat.le_of_lt hi); omega
      have e0 : (K (i + 1))[(K i).size]? = some blk := by rw [hK]; exact get_push_eq _ _
      have e1 : (K m)[(K i).size]? = (K (i + 1))[(K i).size]? := c.kpres him hm (by omega) fun j h1 h2 h3 => by
        have hbj : (K i).size < (K j).size := Nat.lt_of_lt_of_le (by omega) (c.ksz h1 (by omega))
        exact h.keep j h3 ((hc j h3 hbj).1 h2) _ hbj hfree
      obtain ⟨x, g1, g2⟩ := st.rel.blk _ τ hM'
      rw [newb] at g1; cases g1
      refine ⟨blk, e1.trans e0, patchAt_eq, BIn.mono (c.ksz him hm) (g2.bin hk')⟩

include c h ho hD hr in
/-- What is read, at a state that is as good as its own. -/
theorem dinv_read {v v' : Value} {p : Nat} (he : isEff ops i = false) (hT : T (i + 1) = putA (T i) o.dst v) (hX : ∀ b τ, M b = some τ → b < (K p).size → (K p)[b]? = Y[b]?)
    (st : Step P (restr M (K p).size) (K p) W M' (K p) W') (rv : VR P M' v v') (hv : VIn (K (i + 1)).size v) :
    ∃ G2 M2 Y2, DInv P ops T K M0 W0 ds (fun j => D j ∨ j = i) G2 M2 Y2 (a.put o.dst v') W' := by
  have low : ∀ b τ, M' b = some τ → M b = some τ := fun b τ hb => by
    cases hm : restr M (K p).size b with
    | none =>
      obtain ⟨x1, x2, _⟩ := st.new b τ hb hm
      omega
    | some τ2 =>
      have := st.ext _ _ hm
      rw [hb] at this; cases this
      exact (restr_some.1 hm).2
  have dom2 : ∀ b τ, cup M M' b = some τ → M b = some τ := fun b τ hb => by
    rcases cup_inv hb with h1 | ⟨_, h1⟩
    · exact h1
    · exact low b τ h1
  have p2 := glue (Y' := Y) h.p.rel hX st (fun b h1 h2 => by omega) (fun b τ hb hm => (hX b τ (dom2 b τ hm) hb).symm) (fun b τ _ _ => rfl)
  exact ⟨G, _, Y, dinv_same c h ho hD hr he hT p2 dom2 (rv.mono fun b τ hb => cup_le _ _ (low b τ hb)) hv⟩

include c h ho hD hr in
/-- What isn't wanted. -/
theorem dinv_skip (hT : T (i + 1) = putA (T i) o.dst undef) (hK : K (i + 1) = K i) :
    ∃ G2 M2 Y2, DInv P ops T K M0 W0 ds (fun j => D j ∨ j = i) G2 M2 Y2 (a.put o.dst undef) W := by
  have st0 : Step P (restr M (K i).size) (deads (K i).size) W (restr M (K i).size) (deads (K i).size) W := Step.refl (h.p.rel.deads _)
  cases he : isEff ops i with
  | false => exact dinv_pure c h ho hD hr he hT hK st0 VR.undef
  | true =>
    have hi := lt_of_some ho
    have before : ∀ j, isEff ops j = true → (D j ↔ j < i) := fun j hj => ⟨fun dj => by
        rcases Nat.lt_trichotomy j i with h1 | h1 | h1
        · exact h1
        · subst h1; exact absurd dj hD
        · exact absurd (h.cl i j dj (c.ok.eff i j h1 he hj)) hD, fun hj' => hr j (c.ok.eff j i hj' hj he)⟩
    have ag := fun b τ (hb : M b = some τ) (hlt : b < (K i).size) => h.agree b τ hb i (Nat.le_of_lt hi) hlt fun j hj _ => by rw [← h.gd j hj]; exact (before j hj).symm
    have R1 : Rel P (restr M (K i).size) (K i) W := h.p.rel.below (fun b τ hb hlt => by obtain ⟨blk, e1, e2, _⟩ := ag b τ hb hlt; rw [e1, e2]) (fun b τ blk hb hlt e => by
      obtain ⟨blk', e1, _, e3⟩ := ag b τ hb hlt
      rw [e] at e1; cases e1; exact e3)
    exact dinv_eff c h ho hD hr he hT (by rw [hK]; exact Step.refl R1) VR.undef

include c h ho hD hr in
/-- One operation more, whichever it is. -/
theorem dinv_op {Q : Exit → Act → World → Prop} {next : Act → World → Prop}
    (hn : ∀ a' W' G2 M2 Y2, DInv P ops T K M0 W0 ds (fun j => D j ∨ j = i) G2 M2 Y2 a' W' → next a' W') : wpOp P ops Q i next a W := by
  have hi := lt_of_some ho
  unfold wpOp
  simp only [ho]
  have rd : ∀ t ∈ o.looksAt ops, VR P M ((T i).getD t undef) (a.tmps.getD t undef) ∧ VIn (K i).size ((T i).getD t undef) := fun t ht => dinv_reads c h ho hD hr ht
  have hs := c.st i o ho
  unfold stepR at hs
  split at hs
  · rename_i hw
    obtain ⟨v, hop, hT⟩ := hs
    rw [want_rel hw fun t ht => (rd t ht).1]
    simp only [if_true]
    left
    have lowT : ∀ {n}, n = (K i).size → ∀ x, VR P (restr M n) (evL (opT o) (T i) x) (a.eval x) := fun {n} hn x => evL_rel (fun t ht => by
      obtain ⟨h1, h2⟩ := rd t (opT_looks ht)
      rw [hn]; exact h1.low h2) x
    -- the operation, its operands alone being told
    have hop' : opA P (evL (opT o) (T i)) o.op (K i) = some (v, K (i + 1)) ∨ ∃ g args, calleeA (evL (opT o) (T i)) o.op = some (g, args) ∧ Snd P g args (K i) v (K (i + 1)) := by
      rw [← opA_congr evL_opT, ← calleeA_congr evL_opT]; exact hop
    cases hcl : cls o.op with
    | eff =>
      have he : isEff ops i = true := by rw [isEff_of ho, hcl]; rfl
      have before : ∀ j, isEff ops j = true → (D j ↔ j < i) := fun j hj => ⟨fun dj => by
          rcases Nat.lt_trichotomy j i with h1 | h1 | h1
          · exact h1
          · subst h1; exact absurd dj hD
          · exact absurd (h.cl i j dj (c.ok.eff i j h1 he hj)) hD, fun hj' => hr j (c.ok.eff j i hj' hj he)⟩
      have ag := fun b τ (hb : M b = some τ) (hlt : b < (K i).size) => h.agree b τ hb i (Nat.le_of_lt hi) hlt fun j hj _ => by rw [← h.gd j hj]; exact (before j hj).symm
      have R1 : Rel P (restr M (K i).size) (K i) W := h.p.rel.below (fun b τ hb hlt => by obtain ⟨blk, e1, e2, _⟩ := ag b τ hb hlt; rw [e1, e2]) (fun b τ blk hb hlt e => by
        obtain ⟨blk', e1, _, e3⟩ := ag b τ hb hlt
        rw [e] at e1; cases e1; exact e3)
      refine op_wp R1 (lowT rfl) hop' fun v' M' W' rv st => ?_
      obtain ⟨G2, M2, Y2, h2⟩ := dinv_eff c h ho hD hr he hT st rv
      exact hn _ _ _ _ _ h2
    | pure =>
      have he : isEff ops i = false := by rw [isEff_of ho, hcl]; rfl
      rcases hop' with hop' | ⟨g, args, hg, _⟩
      · obtain ⟨hK, hall⟩ := cls_pure hcl hop'
        refine op_wp (X := deads (K i).size) (X' := deads (K i).size) (h.p.rel.deads _) (lowT rfl) (.inl (hall _)) fun v' M' W' rv st => ?_
        obtain ⟨G2, M2, Y2, h2⟩ := dinv_pure c h ho hD hr he hT hK st rv
        exact hn _ _ _ _ _ h2
      · rw [callee_eff hg] at hcl; cases hcl
    | alloc =>
      have he : isEff ops i = false := by rw [isEff_of ho, hcl]; rfl
      rcases hop' with hop' | ⟨g, args, hg, _⟩
      · obtain ⟨blk, _, hK, hall⟩ := cls_alloc hcl hop'
        refine op_wp (X := deads (K i).size) (h.p.rel.deads _) (lowT rfl) (.inl (hall _ deads_size)) fun v' M' W' rv st => ?_
        obtain ⟨G2, M2, Y2, h2⟩ := dinv_alloc c h ho hD hr he hT hK st rv
        exact hn _ _ _ _ _ h2
      · rw [callee_eff hg] at hcl; cases hcl
    | read =>
      have he : isEff ops i = false := by rw [isEff_of ho, hcl]; rfl
      have hrd : isRead ops i = true := by rw [isRead_of ho, hcl]; rfl
      rcases hop' with hop' | ⟨g, args, hg, _⟩
      · have hK : K (i + 1) = K i := cls_read hcl hop'
        rw [hK] at hop'
        -- at which state
        have fin : ∀ p, p ≤ ops.size → (∀ j, isEff ops j = true → (j < p ↔ j < G)) → opA P (evL (opT o) (T i)) o.op (K p) = some (v, K p) → (∀ x, VR P (restr M (K p).size) (evL (opT o) (T i) x) (a.eval x)) → (p = i ∨ VIn (K i).size v) → o.wp P a W next Q := by
          intro p hp hpg hopp hevp hvp
          have ag := fun b τ (hb : M b = some τ) (hlt : b < (K p).size) => h.agree b τ hb p hp hlt fun j hj _ => hpg j hj
          have hX : ∀ b τ, M b = some τ → b < (K p).size → (K p)[b]? = Y[b]? := fun b τ hb hlt => by obtain ⟨blk, e1, e2, _⟩ := ag b τ hb hlt; rw [e1, e2]
          have R1 : Rel P (restr M (K p).size) (K p) W := h.p.rel.below hX (fun b τ blk hb hlt e => by
            obtain ⟨blk', e1, _, e3⟩ := ag b τ hb hlt
            rw [e] at e1; cases e1; exact e3)
          refine op_wp R1 hevp (.inl hopp) fun v' M' W' rv st => ?_
          have hv : VIn (K (i + 1)).size v := by
            rw [hK]
            rcases hvp with rfl | hvp
            · exact rv.vin fun b τ hb => st.rel.lt' hb
            · exact hvp
          obtain ⟨G2, M2, Y2, h2⟩ := dinv_read c h ho hD hr he hT hX st rv hv
          exact hn _ _ _ _ _ h2
        have viaPair : ∀ p, p ≤ ops.size → (i, p) ∈ pairsD ops → (∀ j, isEff ops j = true → (j < p ↔ j < G)) → o.wp P a W next Q := by
          intro p hp hmem hpg
          have hev : opA P (ev (T i)) o.op (K i) = some (v, K i) := by rw [opA_congr evL_opT]; exact hop'
          obtain ⟨s1, s2, s3⟩ := c.pr _ hmem o ho hw v (K i) hev
          simp only at s1 s2 s3
          refine fin p hp hpg (by rw [← opA_congr evL_opT]; exact s1) (fun x => evL_rel (fun t ht => ?_) x) (.inr (vinB_sound s2))
          have := (List.all_eq_true.1 s3) _ (mem_opT ht)
          exact (rd t (opT_looks ht)).1.low (vinB_sound this)
        by_cases h1 : ∃ j, j < i ∧ isEff ops j = true ∧ G ≤ j
        · -- an effect ahead of it has not been yet: the first one
          have : ∃ j, (j < i ∧ isEff ops j = true ∧ G ≤ j) ∧ ∀ k, k < j → ¬ (k < i ∧ isEff ops k = true ∧ G ≤ k) := by
            obtain ⟨j, hj⟩ := h1
            induction j using Nat.strongRecOn with
            | _ j ih =>
              by_cases hk : ∃ k, k < j ∧ (k < i ∧ isEff ops k = true ∧ G ≤ k)
              · obtain ⟨k, hk1, hk2⟩ := hk
                exact ih k hk1 hk2
              · exact ⟨j, hj, fun k hk1 hk2 => hk ⟨k, hk1, hk2⟩⟩
          obtain ⟨j, ⟨j1, j2, j3⟩, jmin⟩ := this
          have hnj : ¬ D j := fun dj => by have := (h.gd j j2).1 dj; omega
          rcases (pairsD_spec hrd j2).1 j1 with hA | hmem
          · exact absurd (hr j hA) hnj
          · refine viaPair j (by omega) hmem fun k hk => ⟨fun hkj => ?_, fun hkG => by omega⟩
            rcases Nat.lt_or_ge k G with h2 | h2
            · exact h2
            · exact absurd ⟨by omega, hk, h2⟩ (jmin k hkj)
        · have hbef : ∀ j, j < i → isEff ops j = true → j < G := fun j hj hje => by
            rcases Nat.lt_or_ge j G with h2 | h2
            · exact h2
            · exact absurd ⟨j, hj, hje, h2⟩ h1
          by_cases h2 : ∃ j, i < j ∧ isEff ops j = true ∧ j < G
          · -- an effect behind it has been
            obtain ⟨j, j1, j2, j3⟩ := h2
            rcases h.gl with hG | ⟨g, hG, hg⟩
            · omega
            · have hig : i < g := by
                have : i ≠ g := fun e => by rw [e, hg] at he; cases he
                omega
              have hdg : D g := (h.gd g hg).2 (by omega)
              rcases (pairsD_spec hrd hg).2 hig with hA | hmem
              · exact absurd (h.cl i g hdg hA) hD
              · rw [← hG] at hmem
                exact viaPair G (by have := isEff_lt hg; omega) hmem fun k hk => Iff.rfl
          · refine fin i (Nat.le_of_lt hi) (fun j hj => ⟨fun hji => hbef j hji hj, fun hjG => ?_⟩) hop' (lowT rfl) (.inl rfl)
            rcases Nat.lt_trichotomy j i with h3 | h3 | h3
            · exact h3
            · subst h3; rw [he] at hj; cases hj
            · exact absurd ⟨j, h3, hj, hjG⟩ h2
      · rw [callee_eff hg] at hcl; cases hcl
  · rename_i hw
    rw [want_rel hw fun t ht => (rd t ht).1]
    simp only [Bool.false_eq_true, if_false]
    obtain ⟨G2, M2, Y2, h2⟩ := dinv_skip c h ho hD hr hs.1 hs.2
    exact hn _ _ _ _ _ h2
  · exact hs.elim
end

theorem Anc.lt (ok : OkD ops) {i j : Nat} (h : Anc ops i j) : i < j := by
  induction h with
  | edge ho he hb hi => subst hi; exact ok.back _ _ ho _ he hb
  | tail ho he hb hk _ ih => subst hk; exact Nat.lt_trans ih (ok.back _ _ ho _ he hb)

/-- All operations are done. -/
theorem dinv_done (c : Ctx P ops T K M0) (R0 : Rel P M0 (K 0) W0) (h : DInv P ops T K M0 W0 ds D G M Y a W) (hall : ∀ j, j < ops.size → D j) :
    Step P M0 (K 0) W0 M (K ops.size) W ∧ AR P M (T ops.size) a.tmps ∧ a.defers = ds := by
  have hG : ∀ j, isEff ops j = true → (j < ops.size ↔ j < G) := fun j hj => ⟨fun hl => (h.gd j hj).1 (hall j hl), fun _ => isEff_lt hj⟩
  have hlt : ∀ b τ, M b = some τ → b < (K ops.size).size := fun b τ hb => by
    rcases h.dom b τ hb with e | ⟨j, _, lj, _, e⟩
    · exact Nat.lt_of_lt_of_le (c.m0 b τ e) (c.ksz (Nat.zero_le _) (Nat.le_refl _))
    · exact Nat.lt_of_lt_of_le e (c.ksz lj (Nat.le_refl _))
  have hX : ∀ b τ, M b = some τ → (K ops.size)[b]? = Y[b]? := fun b τ hb => by
    obtain ⟨blk, e1, e2, _⟩ := h.agree b τ hb ops.size (Nat.le_refl _) (hlt b τ hb) fun j hj _ => hG j hj
    rw [e1, e2]
  have hext := h.p.ext
  have pK : PStep P M0 (K 0) W0 M (K ops.size) W := by
    refine ⟨⟨fun b τ hb => ?_, h.p.rel.lt, fun b1 b2 τ1 τ2 h1 h2 => ?_⟩, hext, h.p.new, fun b τ hb hr => (hX b τ (hext b τ hb)).trans (h.p.ro b τ hb hr), fun b τ hb hr => ?_, fun b τ hb hd => ?_, h.p.aframe, h.p.wsize, h.p.os, h.p.tape, h.p.output, h.p.drawn⟩
    · obtain ⟨blk, g1, g2⟩ := h.p.rel.blk b τ hb
      exact ⟨blk, (hX b τ hb).trans g1, g2⟩
    · rw [dead_of_get (hX _ _ h1), dead_of_get (hX _ _ h2), ro_of_get (hX _ _ h1), ro_of_get (hX _ _ h2)]
      exact h.p.rel.inj b1 b2 τ1 τ2 h1 h2
    · rw [ro_of_get (hX _ _ (hext b τ hb))]; exact h.p.rw b τ hb hr
    · rw [dead_of_get (hX _ _ (hext b τ hb))]; exact h.p.dead b τ hb hd
  have fresh : ∀ b τ, M b = some τ → M0 b = none → (K 0).size ≤ b := fun b τ hb h0 => by
    rcases h.dom b τ hb with e | ⟨j, _, lj, e, _⟩
    · rw [h0] at e; cases e
    · exact Nat.le_trans (c.ksz (Nat.zero_le _) (Nat.le_of_lt lj)) e
  refine ⟨pK.step R0 (c.ksz (Nat.zero_le _) (Nat.le_refl _)) (fun b τ hb h0 => ⟨fresh b τ hb h0, hlt b τ hb⟩) (fun b hb h0 => ?_), AR.of_getD (by rw [c.tsz (Nat.le_refl _), h.tsz]) fun t => ?_, h.defs⟩
  · have hn : M b = none := by
      cases hm : M b with
      | none => rfl
      | some τ => have := fresh b τ hm h0; omega
    exact c.kpres (Nat.zero_le _) (Nat.le_refl _) hb fun j _ h2 h3 => h.keep j h3 ((hG j h3).1 h2) b (Nat.lt_of_lt_of_le hb (c.ksz (Nat.zero_le _) (by omega))) hn
  · exact (h.tmp t ops.size (Nat.le_refl _) fun j y hy _ => ⟨fun hj => hall j hj, fun _ => lt_of_some hy⟩).1

/-- Every order. -/
theorem draw_any (c : Ctx P ops T K M0) (R0 : Rel P M0 (K 0) W0) {Q : Exit → Act → World → Prop} (hQ : ∀ a W M, Step P M0 (K 0) W0 M (K ops.size) W → AR P M (T ops.size) a.tmps → a.defers = ds → Q .normal a W) :
    ∀ (fuel : Nat) (listed : Array Bool) (a : Act) (W : World) (G : Nat) (M : Mp) (Y : Heap) (todo : List Nat), listed.size = ops.size → (∀ i, i < ops.size → listed.getD i true = false → i ∈ todo) → todo.length ≤ fuel →
      DInv P ops T K M0 W0 ds (fun j => listed.getD j false = true) G M Y a W → wpAny P .any ops Q fuel listed a W := by
  have same : ∀ (listed : Array Bool) (i : Nat), listed.size = ops.size → i < ops.size → listed.getD i true = listed.getD i false := fun listed i hl hi => by simp [Array.getD, hl, hi]
  have ready_mem : ∀ (listed : Array Bool) i, listed.size = ops.size → (i ∈ Region.ready .any ops listed ↔ ∃ o, ops[i]? = some o ∧ listed.getD i false = false ∧ ∀ e ∈ o.after, Region.binds .any e = true → listed.getD e.on false = true) := by
    intro listed i hl
    unfold Region.ready
    simp only [List.mem_filter, List.mem_range, Bool.and_eq_true, Bool.not_eq_true']
    constructor
    · rintro ⟨hi, h1, h2⟩
      rw [Array.getElem?_eq_getElem hi] at h2 ⊢
      refine ⟨_, rfl, by rw [← same listed i hl hi]; exact h1, fun e he hb => ?_⟩
      simp only [Option.map_some, Option.getD_some] at h2
      obtain ⟨k, hk, e1⟩ := Array.mem_iff_getElem.1 he
      have := (Array.all_eq_true.1 h2) k hk
      rw [e1] at this
      simpa [hb] using this
    · rintro ⟨o, ho, h1, h2⟩
      have hi := lt_of_some ho
      refine ⟨hi, by rw [same listed i hl hi]; exact h1, ?_⟩
      rw [ho]
      simp only [Option.map_some, Option.getD_some]
      refine Array.all_eq_true.2 fun k hk => ?_
      have := h2 o.after[k] (Array.getElem_mem hk)
      cases hb : Region.binds .any o.after[k] with
      | false => rfl
      | true => simpa [hb] using this hb
  have doneAll : ∀ (listed : Array Bool), listed.size = ops.size → Region.ready .any ops listed = [] → ∀ j, j < ops.size → listed.getD j false = true := by
    intro listed hl hr j
    induction j using Nat.strongRecOn with
    | _ j ih =>
      intro hj
      cases hb : listed.getD j false with
      | true => rfl
      | false =>
        have : j ∈ Region.ready .any ops listed := (ready_mem listed j hl).2 ⟨_, Array.getElem?_eq_getElem hj, hb, fun e he hbd => by
          have := c.ok.back j _ (Array.getElem?_eq_getElem hj) e he hbd
          exact ih e.on this (by omega)⟩
        rw [hr] at this; cases this
  intro fuel
  induction fuel with
  | zero =>
    intro listed a W G M Y todo hl ht hlen h
    have h0 : todo = [] := by simpa using hlen
    have hall : ∀ j, j < ops.size → listed.getD j false = true := fun j hj => by
      cases hb : listed.getD j false with
      | true => rfl
      | false => have := ht j hj (by rw [same listed j hl hj]; exact hb); rw [h0] at this; cases this
    obtain ⟨s1, s2, s3⟩ := dinv_done c R0 h hall
    refine ⟨?_, hQ a W M s1 s2 s3⟩
    cases hr : Region.ready .any ops listed with
    | nil => rfl
    | cons i l =>
      have : i ∈ Region.ready .any ops listed := by rw [hr]; exact List.mem_cons_self ..
      obtain ⟨o, ho, hb, _⟩ := (ready_mem listed i hl).1 this
      rw [hall i (lt_of_some ho)] at hb; cases hb
  | succ fuel ih =>
    intro listed a W G M Y todo hl ht hlen h
    refine ⟨fun hr => ?_, fun i hi => ?_⟩
    · obtain ⟨s1, s2, s3⟩ := dinv_done c R0 h (doneAll listed hl hr)
      exact hQ a W M s1 s2 s3
    · obtain ⟨o, ho, hb, hready⟩ := (ready_mem listed i hl).1 hi
      have hiL := lt_of_some ho
      refine dinv_op c h ho (by simp [hb]) (fun j hj => ?_) fun a' W' G2 M2 Y2 h2 => ?_
      · cases hj with
        | edge ho' he hbd hon => rw [ho] at ho'; cases ho'; subst hon; exact hready _ he hbd
        | tail ho' he hbd hon hA => rw [ho] at ho'; cases ho'; subst hon; exact h.cl _ _ (hready _ he hbd) hA
      · have hmem : i ∈ todo := ht i hiL (by rw [same listed i hl hiL]; exact hb)
        have get : ∀ j d, (listed.setIfInBounds i true).getD j d = if j = i then true else listed.getD j d := fun j d => by
          simp only [Array.getD_eq_getD_getElem?, Array.getElem?_setIfInBounds]
          by_cases e : i = j
          · subst e; simp [hl, hiL]
          · rw [if_neg e, if_neg (Ne.symm e)]
        refine ih _ a' W' G2 M2 Y2 (todo.erase i) (by simpa using hl) (fun j hj hb2 => ?_) (by rw [List.length_erase_of_mem hmem]; omega) ?_
        · rw [get] at hb2
          split at hb2
          · cases hb2
          · rename_i hne
            exact (List.mem_erase_of_ne hne).2 (ht j hj hb2)
        · have : (fun j => (listed.setIfInBounds i true).getD j false = true) = fun j => listed.getD j false = true ∨ j = i := by
            funext j
            rw [get]
            by_cases e : j = i
            · simp [e]
            · simp [e]
          rw [this]; exact h2

/-- A region whose order is drawn. -/
theorem draw_sound {id : Nat} {Q : Tmps → Heap → Prop} {T : Tmps} {H : Heap} {QM : Exit → Act → World → Prop} (hm : P.follows .mixedOrders = true) (ok : okD ops = true) (R : Rel P M H W) (hT : AR P M T a.tmps) (h : drawW P (Snd P) ops Q T H)
    (hQ : ∀ a' W' M' T' H', Q T' H' → Step P M H W M' H' W' → AR P M' T' a'.tmps → a'.defers = a.defers → QM .normal a' W') : (Code.region id ops true).wp P QM a W := by
  obtain ⟨Ts, Ks, rfl, rfl, hst, hpr, hq⟩ := h
  have c : Ctx P ops Ts Ks M := ⟨okD_spec ok, hst, hpr, fun b τ hb => R.lt' hb⟩
  have R1 : Rel P M (Ks 0) { W with drawn := W.drawn + 1 } := ⟨fun b τ hb => by
      obtain ⟨blk, g1, g2⟩ := R.blk b τ hb
      exact ⟨blk, g1, g2.move (MLe.refl _) rfl⟩, R.lt, R.inj⟩
  have s0 : Step P M (Ks 0) W M (Ks 0) { W with drawn := W.drawn + 1 } := ⟨R1, MLe.refl _, Nat.le_refl _, (fun b τ h h' => by rw [h] at h'; cases h'), fun _ _ _ => rfl, fun _ _ h => h, fun _ _ h => h, fun _ _ _ => rfl, fun _ _ _ => rfl, Nat.le_refl _, rfl, rfl, rfl, Nat.le_succ _⟩
  refine wp_region_any hm (draw_any c R1 (ds := a.defers) (fun a' W' M' st hT' hd => hQ a' W' M' _ _ hq (Step.trans R s0 st) hT' hd) ops.size _ a _ 0 M (Ks 0) (List.range ops.size) (by simp) (fun i hi _ => List.mem_range.2 hi) (by simp) ?_)
  have nothing : ∀ j, (Array.replicate ops.size false).getD j false = true ↔ False := fun j => by
    rw [Array.getD_eq_getD_getElem?, Array.getElem?_replicate]
    split <;> simp
  refine ⟨⟨R1, MLe.refl _, (fun b τ h h' => by rw [h] at h'; cases h'), fun _ _ _ _ => rfl, fun _ _ _ h => h, fun _ _ _ h => h, fun _ _ _ => rfl, Nat.le_refl _, rfl, rfl, rfl, Nat.le_refl _⟩, fun i j h _ => ((nothing j).1 h).elim, fun j _ => ?_, .inl rfl, fun b τ hb => .inl hb, fun b τ hb m hm hbm hc => ?_, fun j _ h => by omega, by rw [hT.1], fun t m hm hw => ?_, rfl⟩
  · rw [nothing]; simp
  · have hb0 := R.lt' hb
    obtain ⟨blk, g1, g2⟩ := R.blk b τ hb
    have e : (Ks m)[b]? = (Ks 0)[b]? := c.kpres (Nat.zero_le _) hm hb0 fun j _ h2 h3 => by
      have := (hc j h3 (Nat.lt_of_lt_of_le hb0 (c.ksz (Nat.zero_le _) (by omega)))).1 h2
      omega
    exact ⟨blk, e.trans g1, g1, (g2.bin fun b τ hb => R.lt' hb).mono (c.ksz (Nat.zero_le _) hm)⟩
  · have e : (Ts m).getD t undef = (Ts 0).getD t undef := c.tpres (Nat.zero_le _) hm fun j o _ h2 ho hd => (nothing j).1 ((hw j o ho hd).1 h2)
    rw [e]
    exact ⟨hT.getD t, ((hT.getD t).vin fun b τ hb => R.lt' hb).mono (c.ksz (Nat.zero_le _) hm)⟩
end Go.AH
