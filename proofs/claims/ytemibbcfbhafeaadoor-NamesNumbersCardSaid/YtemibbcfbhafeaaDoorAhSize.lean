/-
  AH: heaps grow.
-/
import Derived.Test.YtemibbcfbhafeaaDoorAhGlue
namespace Go.AH
open Go
variable {P : Program} {H H' : Heap} {C : CallR}

theorem vin1_sound {n : Nat} {v : Value} (h : vin1 n v = true) : VIn n v := by
  unfold vin1 at h
  split at h
  · exact .ptr (by simpa using h)
  · exact .sl (by simpa using h)
  · exact .map (by simpa using h)
  · exact .base h
theorem vin1_all {n : Nat} {x : Array Value} (h : x.toList.all (vin1 n) = true) (i : Nat) (hi : i < x.size) : VIn n x[i] :=
  vin1_sound (List.all_eq_true.1 h _ (Array.mem_toList_iff.2 (Array.getElem_mem hi)))
theorem vinB_sound {n : Nat} {v : Value} (h : vinB n v = true) : VIn n v := by
  unfold vinB at h
  split at h
  · exact .agg (vin1_all h)
  · exact .tuple (vin1_all h)
  · rw [Bool.and_eq_true] at h; exact .func (vin1_all h.1) (vin1_all h.2)
  · exact .iface (vin1_sound h)
  · exact vin1_sound h

theorem store_size {t : TypeId} {a v : Value} {H' : Heap} (h : storeA P t H a v = some H') : H.size ≤ H'.size := by
  unfold storeA at h
  repeat' split at h
  all_goals first | (cases h; done) | skip
  all_goals (simp only [Option.some.injEq] at h; subst h; simp)
theorem clear_size {t : TypeId} {x : Value} {H' : Heap} (h : clearA P H t x = some H') : H.size ≤ H'.size := by
  unfold clearA at h
  repeat' split at h
  all_goals first | (cases h; done) | skip
  all_goals (simp only [Option.some.injEq] at h; subst h; simp)
theorem append_size {t0 t1 : TypeId} {s x v : Value} (h : appendA P H t0 t1 s x = some (v, H')) : H.size ≤ H'.size := by
  unfold appendA at h
  split at h
  · split at h
    · split at h
      · rename_i i z _ _ _
        cases hr : rowA H i.size x with
        | none => simp [hr] at h
        | some p =>
          simp only [hr, Option.bind_some] at h
          repeat' split at h
          all_goals first | (cases h; done) | skip
          all_goals (simp only [Option.some.injEq, Prod.mk.injEq] at h; obtain ⟨_, rfl⟩ := h; simp)
      · cases h
    · cases h
  · cases h
theorem mapUpdate_size {t : TypeId} {m k v : Value} {H' : Heap} (h : mapUpdateA P t H m k v = some H') : H.size ≤ H'.size := by
  unfold mapUpdateA at h
  repeat' split at h
  all_goals first | (cases h; done) | skip
  all_goals (simp only [Option.some.injEq] at h; subst h; simp)
theorem mapEntry_size {t : TypeId} {m k v : Value} {H' : Heap} (h : mapEntryA P t H m k = some (v, H')) : H.size ≤ H'.size := by
  unfold mapEntryA at h
  repeat' split at h
  all_goals first | (cases h; done) | skip
  all_goals first
    | (simp only [Option.some.injEq, Prod.mk.injEq] at h; obtain ⟨_, rfl⟩ := h; simp; done)
    | (obtain ⟨z, _, h⟩ := Option.map_eq_some_iff.1 h; simp only [Prod.mk.injEq] at h; obtain ⟨_, rfl⟩ := h; simp)
theorem entryStore_size {m k v : Value} {H' : Heap} (h : entryStoreA P H m k v = some H') : H.size ≤ H'.size := by
  unfold entryStoreA at h
  repeat' split at h
  all_goals first | (cases h; done) | skip
  all_goals (simp only [Option.some.injEq] at h; subst h; simp)

theorem opA_size {r : Operand → Value} {o : Op} {v : Value} (h : opA P r o H = some (v, H')) : H.size ≤ H'.size := by
  have mu : ∀ {x : Option Heap}, x.map (undef, ·) = some (v, H') → x = some H' := by
    intro x hx
    cases x with
    | none => simp at hx
    | some u => simp only [Option.map_some, Option.some.injEq, Prod.mk.injEq] at hx; rw [hx.2]
  cases hc : cls o with
  | pure => rw [(cls_pure hc h).1]; exact Nat.le_refl _
  | read => rw [cls_read hc h]; exact Nat.le_refl _
  | alloc => obtain ⟨blk, _, rfl, _⟩ := cls_alloc hc h; simp
  | eff =>
    cases o <;> first
      | (simp [cls] at hc; done)
      | (simp [opA] at h; done)
      | skip
    case insert t m k x => exact mapUpdate_size (mu h)
    case store t a x => exact store_size (mu h)
    case mapUpdate t m k x => exact mapUpdate_size (mu h)
    case mapEntry t m k => exact mapEntry_size h
    case entryStore t m s x => exact entryStore_size (mu h)
    case call c =>
      obtain ⟨callee, args, ts⟩ := c
      cases callee with
      | value f => simp [opA] at h
      | invoke a b => simp [opA] at h
      | builtin b =>
        simp only [opA] at h
        unfold builtinA at h
        split at h
        · exact append_size h
        · rw [(map_pair h).2]; exact Nat.le_refl _
        · rename_i t x _ _
          cases hx : clearA P H t x with
          | none => simp [hx] at h
          | some u => simp only [hx, Option.map_some, Option.some.injEq, Prod.mk.injEq] at h; exact h.2 ▸ clear_size hx
        · rw [(map_pair h).2]; exact Nat.le_refl _
        · rw [(map_pair h).2]; exact Nat.le_refl _
        · cases h

def Grows (C : CallR) : Prop := ∀ f args H v H', C f args H v H' → H.size ≤ H'.size

theorem opR_size (hC : Grows C) {T : Tmps} {o : Op} {v : Value} (h : opR P C T o H v H') : H.size ≤ H'.size := by
  rcases h with h | ⟨g, args, _, h⟩
  · exact opA_size h
  · exact hC _ _ _ _ _ h
theorem stepR_size (hC : Grows C) {ops : Array Oper} {o : Oper} {T T' : Tmps} (h : stepR P C ops o T H T' H') : H.size ≤ H'.size := by
  unfold stepR at h
  split at h
  · obtain ⟨v, h, _⟩ := h; exact opR_size hC h
  · rw [h.2]; exact Nat.le_refl _
  · exact h.elim

theorem opsW_size (hC : Grows C) {ops : Array Oper} {Q : Tmps → Heap → Prop} {n : Nat} : ∀ (l : List Oper) (T : Tmps) (H : Heap), n ≤ H.size → opsW P C ops Q l T H → opsW P C ops (fun T H' => n ≤ H'.size ∧ Q T H') l T H
  | [], T, H, hn, h => ⟨hn, h⟩
  | o :: l, T, H, hn, h => by
    simp only [opsW] at h ⊢
    split at h
    · obtain ⟨v, H', h1, h2⟩ := h
      exact ⟨v, H', h1, opsW_size hC l _ _ (Nat.le_trans hn (opR_size hC h1)) h2⟩
    · exact opsW_size hC l _ _ hn h
    · exact h.elim

theorem chain_size {K : Nat → Heap} {n : Nat} (h : ∀ i, i < n → (K i).size ≤ (K (i + 1)).size) : ∀ {i j : Nat}, i ≤ j → j ≤ n → (K i).size ≤ (K j).size := by
  intro i j hij hj
  induction j with
  | zero => have : i = 0 := by omega
            subst this; exact Nat.le_refl _
  | succ j ih =>
    rcases Nat.lt_or_ge i (j + 1) with h1 | h1
    · exact Nat.le_trans (ih (by omega) (by omega)) (h j (by omega))
    · have : i = j + 1 := by omega
      subst this; exact Nat.le_refl _

theorem draw_sizes (hC : Grows C) {ops : Array Oper} {Ts : Nat → Tmps} {Ks : Nat → Heap} (h : ∀ i o, ops[i]? = some o → stepR P C ops o (Ts i) (Ks i) (Ts (i + 1)) (Ks (i + 1))) : ∀ i, i < ops.size → (Ks i).size ≤ (Ks (i + 1)).size :=
  fun i hi => stepR_size hC (h i ops[i] (Array.getElem?_eq_getElem hi))

theorem codeW_size (hC : Grows C) : ∀ (c : Code) {Q : Post} {n : Nat} (T : Tmps) (H : Heap), n ≤ H.size → codeW P C c Q T H → codeW P C c (fun e T' H' => n ≤ H'.size ∧ Q e T' H') T H := by
  have idC : ∀ f a H v H', C f a H v H' → C f a H v H' := fun _ _ _ _ _ h => h
  intro c
  induction c with
  | skip => intro Q n T H hn h; exact ⟨hn, h⟩
  | region id ops draw =>
    intro Q n T H hn h
    cases draw
    · exact opsW_size hC _ _ _ hn h
    · obtain ⟨Ts, Ks, a, b, c, d, e⟩ := h
      refine ⟨Ts, Ks, a, b, c, d, ?_, e⟩
      have := chain_size (draw_sizes hC c) (Nat.zero_le _) (Nat.le_refl _)
      rw [b] at this; omega
  | seq a b iha ihb =>
    intro Q n T H hn h
    refine codeW_mono idC a (fun e T' H' h => ?_) _ _ (iha T H hn h)
    cases e
    · exact ihb _ _ h.1 h.2
    · exact h
    · exact h
  | cond c a b iha ihb =>
    intro Q n T H hn h
    simp only [codeW] at h ⊢
    split at h
    · exact iha _ _ hn h
    · exact ihb _ _ hn h
    · exact h.elim
  | block id c ih =>
    intro Q n T H hn h
    refine codeW_mono idC c (fun e T' H' h => ?_) _ _ (ih T H hn h)
    cases e with
    | normal => exact h
    | ret => exact h
    | exit id' =>
      obtain ⟨h1, h2⟩ := h
      simp only [blockE] at h2 ⊢
      split
      · rename_i hid; rw [if_pos hid] at h2; exact ⟨h1, h2⟩
      · rename_i hid; rw [if_neg hid] at h2; exact ⟨h1, h2⟩
  | loop c ih =>
    intro Q n T H hn h
    refine h (fun T H => n ≤ H.size → codeW P C (.loop c) (fun e T' H' => n ≤ H'.size ∧ Q e T' H') T H) (fun T H h hn => loop_unroll (codeW_mono idC c (fun e T' H' h => ?_) _ _ (ih T H hn h))) hn
    cases e
    · exact h.2 h.1
    · exact h
    · exact h
  | exit id => intro Q n T H hn h; exact ⟨hn, h⟩
  | ret => intro Q n T H hn h; exact ⟨hn, h⟩
  | rangeFunc f p a b iha ihb => intro Q n T H hn h; exact h.elim
  | scope c ih => intro Q n T H hn h; exact h.elim
  | label l => intro Q n T H hn h; exact h.elim
  | goto l => intro Q n T H hn h; exact h.elim
  | refuse w => intro Q n T H hn h; exact h.elim
end Go.AH
