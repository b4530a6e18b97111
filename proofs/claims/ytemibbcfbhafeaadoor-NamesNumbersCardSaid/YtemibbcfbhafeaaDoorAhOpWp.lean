/-
  AH: one operation within a region; what the static look at a region says.
-/
import Derived.Test.YtemibbcfbhafeaaDoorAhSize
namespace Go.AH
open Go
variable {P : Program} {M : Mp} {H H' X X' : Heap} {W : World}

/-- What a call of AH says of the model: of a function with a body, and of one that the model answers by itself. -/
def Snd (P : Program) : CallR := fun f args H v H' =>
  H.size ≤ H'.size ∧
  ((Ent P f ∧ ∀ M W args', Rel P M H W → AR P M args args' → Calls P f args' W (fun e W' => ∃ v' M', e = .returned v' ∧ VR P M' v v' ∧ Step P M H W M' H' W')) ∨
   (¬ Ent P f ∧ ∀ M W args', Rel P M H W → AR P M args args' → ∃ v' M' W', (callFunc f args').run P W = .ok (.value v') W' ∧ VR P M' v v' ∧ Step P M H W M' H' W'))

theorem snd_grows : Grows (Snd P) := fun _ _ _ _ _ h => h.1

theorem AR.map_ops {r r' : Operand → Value} (hr : ∀ x, VR P M (r x) (r' x)) (l : Array Operand) : AR P M (l.map r) (l.map r') :=
  ⟨by rw [Array.size_map, Array.size_map], fun i h1 h2 => by rw [Array.getElem_map, Array.getElem_map]; exact hr _⟩

theorem op_wp {a : Act} {o : Oper} {r : Operand → Value} {v : Value} {next : Act → World → Prop} {Q : Exit → Act → World → Prop} (R : Rel P M X W) (hr : ∀ x, VR P M (r x) (a.eval x))
    (h : opA P r o.op X = some (v, X') ∨ ∃ g args, calleeA r o.op = some (g, args) ∧ Snd P g args X v X')
    (hn : ∀ v' M' W', VR P M' v v' → Step P M X W M' X' W' → next (a.put o.dst v') W') : o.wp P a W next Q := by
  unfold Oper.wp
  rcases h with h | ⟨g, args, h1, h2⟩
  · obtain ⟨nx, W', v', M', e, hx, rv, st⟩ := sim_op R hr o h
    rw [e]
    rcases hx with rfl | ⟨rfl, rfl⟩
    · exact hn v' M' W' rv st
    · exact hn _ M' W' rv st
  · obtain ⟨dst, op, type, pos, after, guard⟩ := o
    simp only at h1
    cases op <;> try (simp [calleeA] at h1; done)
    case call c =>
      obtain ⟨callee, cargs, ts⟩ := c
      cases callee with
      | builtin b => simp [calleeA] at h1
      | invoke x y => simp [calleeA] at h1
      | value f =>
        simp only [calleeA] at h1
        split at h1
        · rename_i g' first captured hf
          simp only [Option.some.injEq, Prod.mk.injEq] at h1
          obtain ⟨rfl, rfl⟩ := h1
          have hf' := hr f
          rw [hf] at hf'
          obtain ⟨first', cap', e1, a1, a2⟩ := hf'.func_inv
          have hcall : (execOp a.eval ⟨dst, .call ⟨.value f, cargs, ts⟩, type, pos, after, guard⟩).run P W = (callFunc g' (first' ++ cargs.map a.eval ++ cap')).run P W := by
            simp [execOp, resolve, e1, Deferred.ofValue, invoke]
          have hargs := AR.append (AR.append a1 (AR.map_ops hr cargs)) a2
          rcases h2.2 with ⟨⟨fn, e2, e3, e4⟩, e5⟩ | ⟨_, e5⟩
          · have hrun : (callFunc g' (first' ++ cargs.map a.eval ++ cap')).run P W = .ok (.enter g' (first' ++ cargs.map a.eval ++ cap')) W := by
              have e3' : fn.body ≠ none := fun h => by rw [h] at e3; simp at e3
              have e4' : fn.name ≠ "runtime.NumGoroutine" := by simpa using e4
              simp [callFunc, e2, e3', e4']
            rw [hcall, hrun]
            simp only [Oper.upon]
            refine (e5 M W _ R hargs).mono fun e w' he => ?_
            obtain ⟨v', M', rfl, rv, st⟩ := he
            exact hn v' M' w' rv st
          · obtain ⟨v', M', W', e, rv, st⟩ := e5 M W _ R hargs
            rw [hcall, e]
            exact hn v' M' W' rv st
        · cases h1

/-- The temporaries that an operation looks at; the others count for nothing. -/
def evL (L : List Tmp) (T : Tmps) : Operand → Value
  | .tmp t => if t ∈ L then T.getD t undef else junk
  | x => ev T x

theorem evL_rel {L : List Tmp} {T : Tmps} {a : Act} (h : ∀ t ∈ L, VR P M (T.getD t undef) (a.tmps.getD t undef)) (x : Operand) : VR P M (evL L T x) (a.eval x) := by
  cases x with
  | tmp t =>
    simp only [evL]
    split
    · rename_i ht; exact h t ht
    · exact .junk _
  | const v =>
    simp only [evL, ev]
    split
    · rename_i hb; exact .base hb
    · exact .junk _
  | global g => exact .junk _
  | func f => exact .func rfl rfl (fun i h => by simp at h) (fun i h => by simp at h)
theorem ev_rel {T : Tmps} {a : Act} (h : ∀ t, VR P M (T.getD t undef) (a.tmps.getD t undef)) (x : Operand) : VR P M (ev T x) (a.eval x) := by
  cases x with
  | tmp t => exact h t
  | const v => exact evL_rel (L := []) (T := T) (by simp) (.const v)
  | global g => exact .junk _
  | func f => exact evL_rel (L := []) (T := T) (by simp) (.func f)
theorem evL_ev {L : List Tmp} {T : Tmps} {x : Operand} (h : ∀ t, x = .tmp t → t ∈ L) : evL L T x = ev T x := by
  cases x with
  | tmp t => simp [evL, ev, h t rfl]
  | _ => rfl
theorem evL_looks {ops : Array Oper} {o : Oper} {T : Tmps} : ∀ x ∈ o.op.operands.toList, ev T x = evL (o.looksAt ops) T x := fun x hx =>
  (evL_ev fun t e => by
    subst e
    unfold Oper.looksAt
    exact List.mem_append.2 (.inl (List.mem_filterMap.2 ⟨_, hx, rfl⟩))).symm

theorem opR_L {C : CallR} {ops : Array Oper} {o : Oper} {T : Tmps} {v : Value} : opR P C T o.op H v H' ↔ (opA P (evL (o.looksAt ops) T) o.op H = some (v, H') ∨ ∃ g args, calleeA (evL (o.looksAt ops) T) o.op = some (g, args) ∧ C g args H v H') := by
  unfold opR
  rw [opA_congr (evL_looks (ops := ops)), calleeA_congr (evL_looks (ops := ops))]

/-- Guards. -/
theorem want_rel {ops : Array Oper} {o : Oper} {T : Tmps} {a : Act} {b : Bool} (h : wantA ops T o = some b) (hr : ∀ t ∈ o.looksAt ops, VR P M (T.getD t undef) (a.tmps.getD t undef)) : Region.wanted o (yielded ops a.tmps) = b := by
  unfold wantA at h
  unfold Region.wanted
  split at h
  · rename_i hg; rw [hg]; cases h; rfl
  · rename_i g want hg
    rw [hg]
    simp only
    split at h
    · cases h
    · rename_i d hd
      have hl : d ∈ o.looksAt ops := by
        unfold Oper.looksAt
        refine List.mem_append.2 (.inr ?_)
        rw [hg]
        simp [hd]
      have hv := hr d hl
      split at h
      · rename_i b' hb
        rw [hb] at hv
        have e := hv.bool_inv
        cases h
        have : a.tmps[d]? = some (.bool b') := by
          rw [Array.getD_eq_getD_getElem?] at e
          cases hh : a.tmps[d]? with
          | none => rw [hh] at e; simp [undef] at e
          | some u => rw [hh] at e; simp at e; rw [e]
        unfold yielded
        simp only [hd, Option.bind_some, this]
        cases b' <;> cases want <;> rfl
      · rename_i cs hb
        split at h
        · rename_i hcs
          cases h
          rw [hb] at hv
          obtain ⟨x', e, ax⟩ := hv.tuple_inv (by rw [show cs = #[] from Array.eq_empty_of_size_eq_zero hcs]; simp [AH.junk])
          have hz : x' = #[] := Array.eq_empty_of_size_eq_zero (by rw [← ax.1, hcs])
          subst hz
          have : ∀ b, a.tmps[d]? ≠ some (.bool b) := fun b hh => by
            rw [Array.getD_eq_getD_getElem?, hh] at e
            simp at e
          unfold yielded
          simp only [hd, Option.bind_some]
          cases want <;> rfl
        · cases h
      · cases h

theorem putA_size (T : Tmps) (d : Option Tmp) (v : Value) : (putA T d v).size = T.size := by
  cases d <;> simp [putA]
theorem put_size (a : Act) (d : Option Tmp) (v : Value) : (a.put d v).tmps.size = a.tmps.size := by
  cases d <;> simp [Act.put]
theorem putA_same {T : Tmps} {t : Tmp} {v : Value} : (putA T (some t) v).getD t undef = if t < T.size then v else undef := by
  simp only [putA, Array.getD_eq_getD_getElem?, Array.getElem?_setIfInBounds, if_true]
  split <;> rfl
theorem putA_other {T : Tmps} {d : Option Tmp} {t : Tmp} {v : Value} (h : d ≠ some t) : (putA T d v).getD t undef = T.getD t undef := by
  cases d with
  | none => rfl
  | some d =>
    have : d ≠ t := fun e => h (by rw [e])
    simp only [putA, Array.getD_eq_getD_getElem?, Array.getElem?_setIfInBounds, if_neg this]
theorem put_same {a : Act} {t : Tmp} {v : Value} : (a.put (some t) v).tmps.getD t undef = if t < a.tmps.size then v else undef := putA_same
theorem put_other {a : Act} {d : Option Tmp} {t : Tmp} {v : Value} (h : d ≠ some t) : (a.put d v).tmps.getD t undef = a.tmps.getD t undef := by
  cases d with
  | none => rfl
  | some d => exact putA_other (T := a.tmps) h
theorem put_defers (a : Act) (d : Option Tmp) (v : Value) : (a.put d v).defers = a.defers := by cases d <;> rfl

theorem AR.of_getD {T T' : Array Value} (hs : T.size = T'.size) (h : ∀ t, VR P M (T.getD t undef) (T'.getD t undef)) : AR P M T T' :=
  ⟨hs, fun i h1 h2 => by
    have := h i
    simp only [Array.getD, h1, h2, dif_pos] at this
    exact this⟩

/-! ### Ancestors -/
/-- i must run before j. -/
inductive Anc (ops : Array Oper) : Nat → Nat → Prop
  | edge {i j : Nat} {o : Oper} {e : Edge} (ho : ops[j]? = some o) (he : e ∈ o.after) (hb : Region.binds .any e = true) (hi : e.on = i) : Anc ops i j
  | tail {i k j : Nat} {o : Oper} {e : Edge} (ho : ops[j]? = some o) (he : e ∈ o.after) (hb : Region.binds .any e = true) (hk : e.on = k) (h : Anc ops i k) : Anc ops i j

theorem ancRow_sound {ops : Array Oper} {acc : List Nat} {o : Oper} {j : Nat} (ho : ops[j]? = some o) (hacc : ∀ k i, (acc.getD k 0).testBit i = true → Anc ops i k) {i : Nat} (h : (ancRow acc o).testBit i = true) : Anc ops i j := by
  unfold ancRow at h
  have key : ∀ (l : List Edge) (s : Nat), (∀ e ∈ l, e ∈ o.after) → (s.testBit i = true → Anc ops i j) → (l.foldl (fun s e => if Region.binds .any e then s ||| (2 ^ e.on ||| acc.getD e.on 0) else s) s).testBit i = true → Anc ops i j := by
    intro l
    induction l with
    | nil => intro s _ hs h; exact hs h
    | cons e l ih =>
      intro s hl hs h
      simp only [List.foldl_cons] at h
      refine ih _ (fun e he => hl e (List.mem_cons_of_mem _ he)) (fun h2 => ?_) h
      split at h2
      · rename_i hb
        rw [Nat.testBit_or, Nat.testBit_or, Bool.or_eq_true, Bool.or_eq_true] at h2
        have he := hl e (List.mem_cons_self ..)
        rcases h2 with h2 | h2 | h2
        · exact hs h2
        · rw [Nat.testBit_two_pow] at h2
          exact .edge ho he hb (by simpa using h2)
        · exact .tail ho he hb rfl (hacc _ _ h2)
      · exact hs h2
  exact key o.after.toList 0 (fun e he => Array.mem_toList_iff.1 he) (by simp) h

theorem ancs_sound {ops : Array Oper} {j i : Nat} (h : ((ancs ops.toList).getD j 0).testBit i = true) : Anc ops i j := by
  have key : ∀ (l : List Oper) (acc : List Nat), (∀ k, l[k]? = ops[acc.length + k]?) → (∀ k i, (acc.getD k 0).testBit i = true → Anc ops i k) →
      ∀ k i, ((l.foldl (fun acc o => acc ++ [ancRow acc o]) acc).getD k 0).testBit i = true → Anc ops i k := by
    intro l
    induction l with
    | nil => intro acc _ ha k i h; exact ha k i h
    | cons o l ih =>
      intro acc hl ha k i h
      simp only [List.foldl_cons] at h
      refine ih _ (fun k => ?_) (fun k i h => ?_) k i h
      · have := hl (k + 1)
        simp only [List.length_append, List.length_cons, List.length_nil]
        rw [show acc.length + (0 + 1) + k = acc.length + (k + 1) from by omega, ← this]
        simp
      · rw [List.getD_eq_getElem?_getD, List.getElem?_append] at h
        split at h
        · rw [← List.getD_eq_getElem?_getD] at h; exact ha k i h
        · rename_i hk
          by_cases hk2 : k = acc.length
          · subst hk2
            simp at h
            exact ancRow_sound (by simpa using (hl 0).symm) ha h
          · have : 1 ≤ k - acc.length := by omega
            rw [List.getElem?_eq_none (by simpa using this)] at h
            simp at h
  exact key ops.toList [] (fun k => by simp) (fun k i h => by simp at h) j i h

structure OkD (ops : Array Oper) : Prop where
  back : ∀ j o, ops[j]? = some o → ∀ e ∈ o.after, Region.binds .any e = true → e.on < j
  eff : ∀ i j, i < j → isEff ops i = true → isEff ops j = true → Anc ops i j
  apart : ∀ i j x y, i < j → ops[i]? = some x → ops[j]? = some y → x.apart ops y = true ∨ Anc ops i j

theorem okD_spec {ops : Array Oper} (h : okD ops = true) : OkD ops := by
  simp only [okD, List.all_eq_true, List.mem_range] at h
  have main : ∀ i j x y, i < j → ops[i]? = some x → ops[j]? = some y → mustB ops x y = false ∨ Anc ops i j := by
    intro i j x y hij hx hy
    have hj : j < ops.size := (Array.getElem?_eq_some_iff.1 hy).1
    have h1 := h j hj
    rw [hy] at h1
    simp only [Bool.and_eq_true, List.all_eq_true, List.mem_range] at h1
    have h2 := h1.2 i hij
    rw [hx] at h2
    simp only [Bool.or_eq_true, Bool.not_eq_true'] at h2
    exact h2.imp id ancs_sound
  refine ⟨fun j o ho e he hb => ?_, fun i j hij hi hj => ?_, fun i j x y hij hx hy => ?_⟩
  · have h1 := h j (Array.getElem?_eq_some_iff.1 ho).1
    rw [ho] at h1
    simp only [Bool.and_eq_true, List.all_eq_true] at h1
    have := h1.1 e (Array.mem_toList_iff.2 he)
    simpa [hb] using this
  · unfold isEff at hi hj
    cases hx : ops[i]? with
    | none => simp [hx] at hi
    | some x =>
      cases hy : ops[j]? with
      | none => simp [hy] at hj
      | some y =>
        simp only [hx] at hi
        simp only [hy] at hj
        rcases main i j x y hij hx hy with h | h
        · simp [mustB, hi, hj] at h
        · exact h
  · rcases main i j x y hij hx hy with h | h
    · left
      simp only [mustB, Bool.or_eq_false_iff, Bool.not_eq_false'] at h
      exact h.2
    · exact .inr h

theorem pairsD_spec {ops : Array Oper} {i j : Nat} (hi : isRead ops i = true) (hj : isEff ops j = true) :
    (j < i → Anc ops j i ∨ (i, j) ∈ pairsD ops) ∧ (i < j → Anc ops i j ∨ (i, j + 1) ∈ pairsD ops) := by
  have li : i < ops.size := by
    unfold isRead at hi
    rcases Nat.lt_or_ge i ops.size with h | h
    · exact h
    · rw [Array.getElem?_eq_none h] at hi; cases hi
  have lj : j < ops.size := by
    unfold isEff at hj
    rcases Nat.lt_or_ge j ops.size with h | h
    · exact h
    · rw [Array.getElem?_eq_none h] at hj; cases hj
  have mem : ∀ p, (if j < i then (if ((ancs ops.toList).getD i 0).testBit j then none else some (i, j)) else if i < j then (if ((ancs ops.toList).getD j 0).testBit i then none else some (i, j + 1)) else none) = some p → p ∈ pairsD ops := by
    intro p hp
    unfold pairsD
    simp only [List.mem_flatMap, List.mem_range]
    refine ⟨i, li, ?_⟩
    rw [if_pos hi, List.mem_filterMap]
    exact ⟨j, List.mem_range.2 lj, by rw [if_pos hj]; exact hp⟩
  refine ⟨fun h => ?_, fun h => ?_⟩
  · cases hb : ((ancs ops.toList).getD i 0).testBit j with
    | true => exact .inl (ancs_sound hb)
    | false => exact .inr (mem _ (by rw [if_pos h, hb]; rfl))
  · cases hb : ((ancs ops.toList).getD j 0).testBit i with
    | true => exact .inl (ancs_sound hb)
    | false => exact .inr (mem _ (by rw [if_neg (by omega), if_pos h, hb]; rfl))
end Go.AH
