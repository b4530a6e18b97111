/-
  AH: sound. What a call of AH comes to, the model's call comes to, whatever is drawn.
-/
import Derived.Test.YtemibbcfbhafeaaDoorAhDraw
import Derived.Lib.Bytealg
import Derived.Laws.Externs
namespace Go.AH
open Go
variable {P : Program} {M M' : Mp} {H H' : Heap} {W W' : World}

def exOf : Ex → Exit
  | .normal => .normal
  | .exit id => .exit id
  | .ret => .ret

/-- What AH's end of a piece of code says of the model's. -/
def endQ (P : Program) (M : Mp) (H : Heap) (W : World) (ds : List Deferred) (Q : Post) : Exit → Act → World → Prop := fun e a' W' =>
  ∃ e0 T' H' M', exOf e0 = e ∧ Q e0 T' H' ∧ Step P M H W M' H' W' ∧ AR P M' T' a'.tmps ∧ a'.defers = ds

theorem endQ_mono {ds : List Deferred} {Q Q' : Post} (h : ∀ e T H, Q e T H → Q' e T H) {e : Exit} {a : Act} {w : World} (k : endQ P M H W ds Q e a w) : endQ P M H W ds Q' e a w := by
  obtain ⟨e0, T', H', M', h1, h2, h3⟩ := k
  exact ⟨e0, T', H', M', h1, h _ _ _ h2, h3⟩

/-- A step ahead. -/
theorem endQ_step {ds : List Deferred} {Q : Post} (R : Rel P M H W) (st : Step P M H W M' H' W') {e : Exit} {a : Act} {w : World} (k : endQ P M' H' W' ds Q e a w) : endQ P M H W ds Q e a w := by
  obtain ⟨e0, T', H2, M2, h1, h2, h3, h4⟩ := k
  exact ⟨e0, T', H2, M2, h1, h2, Step.trans R st h3, h4⟩

theorem ops_sound {ops : Array Oper} {Q : Tmps → Heap → Prop} {QM : Exit → Act → World → Prop} : ∀ (l : List Oper) (k : Nat) (T : Tmps) (H : Heap) (M : Mp) (W : World) (a : Act), (∀ j, l[j]? = ops[k + j]?) → Rel P M H W → AR P M T a.tmps →
    opsW P (Snd P) ops Q l T H → (∀ a' W' M' T' H', Q T' H' → Step P M H W M' H' W' → AR P M' T' a'.tmps → a'.defers = a.defers → QM .normal a' W') → wpOps P ops QM (List.range' k l.length) a W
  | [], k, T, H, M, W, a, hl, R, hT, h, hQ => hQ a W M T H h (Step.refl R) hT rfl
  | o :: l, k, T, H, M, W, a, hl, R, hT, h, hQ => by
    have ho : ops[k]? = some o := by simpa using (hl 0).symm
    have hl' : ∀ j, l[j]? = ops[k + 1 + j]? := fun j => by
      have := hl (j + 1)
      rw [show k + (j + 1) = k + 1 + j from by omega] at this
      simpa using this
    have fin : ∀ (v v' : Value) (M' : Mp) (H' : Heap) (W' : World), VR P M' v v' → Step P M H W M' H' W' → opsW P (Snd P) ops Q l (putA T o.dst v) H' → wpOps P ops QM (List.range' (k + 1) l.length) (a.put o.dst v') W' := by
      intro v v' M' H' W' rv st h2
      refine ops_sound l (k + 1) _ H' M' W' _ hl' st.rel ?_ h2 fun a' W2 M2 T2 H2 q st2 hT2 hd => hQ a' W2 M2 T2 H2 q (Step.trans R st st2) hT2 (hd.trans (put_defers _ _ _))
      refine AR.of_getD (by rw [putA_size, put_size, hT.1]) fun t => ?_
      by_cases hd : o.dst = some t
      · rw [hd, putA_same, put_same, hT.1]
        split
        · exact rv
        · exact VR.undef
      · rw [putA_other hd, put_other hd]
        exact (hT.getD t).mono st.ext
    show wpOps P ops QM (List.range' k (l.length + 1)) a W
    rw [List.range'_succ]
    simp only [wpOps, ho]
    simp only [opsW] at h
    split at h
    · rename_i hw
      obtain ⟨v, H', h1, h2⟩ := h
      rw [want_rel hw fun t _ => hT.getD t]
      simp only [if_true]
      exact .inl (op_wp R (ev_rel fun t => hT.getD t) h1 fun v' M' W' rv st => fin v v' M' H' W' rv st h2)
    · rename_i hw
      rw [want_rel hw fun t _ => hT.getD t]
      simp only [Bool.false_eq_true, if_false]
      exact fin undef undef M H W VR.undef (Step.refl R) h
    · exact h.elim

/-- Within a loop, at a round's beginning. -/
def LoopIn (P : Program) (c : Code) (Q : Exit → Act → World → Prop) (a : Act) (w : World) : Prop :=
  ∀ (b : Frame) (k : List Item) (cs : List Frame), ∃ e a' w', Q e a' w' ∧ Arrives P (lone (b.at a (.code c :: .inLoop c :: k)) cs w) b k cs e a' w'

theorem LoopIn.wp {c : Code} {Q : Exit → Act → World → Prop} {a : Act} {w : World} (h : LoopIn P c Q a w) : (Code.loop c).wp P Q a w := fun b k cs => by
  obtain ⟨e, a', w', q, r⟩ := h b k cs
  exact ⟨e, a', w', q, .of_steps (.one step_loop) r⟩
theorem LoopIn.mono {c : Code} {Q Q' : Exit → Act → World → Prop} {a : Act} {w : World} (h : LoopIn P c Q a w) (hq : ∀ e a w, Q e a w → Q' e a w) : LoopIn P c Q' a w := fun b k cs => by
  obtain ⟨e, a', w', q, r⟩ := h b k cs
  exact ⟨e, a', w', hq _ _ _ q, r⟩
theorem LoopIn.round {c : Code} {Q : Exit → Act → World → Prop} {a : Act} {w : World} (h : c.wp P (Exit.then (LoopIn P c Q) Q) a w) : LoopIn P c Q a w := by
  intro b k cs
  obtain ⟨e, a₁, w₁, hq, harr⟩ := h b (.inLoop c :: k) cs
  cases e with
  | normal =>
    obtain ⟨e₂, a₂, w₂, hq₂, harr₂⟩ := hq b k cs
    exact ⟨e₂, a₂, w₂, hq₂, .of_steps (Steps.trans harr (.one step_inLoop)) harr₂⟩
  | exit id => exact ⟨_, a₁, w₁, hq, .pass (x := .inLoop c) rfl (fun _ _ => .inl (by simp)) harr⟩
  | goto l => exact ⟨_, a₁, w₁, hq, .pass (x := .inLoop c) rfl (fun _ _ => .inl (by simp)) harr⟩
  | ret => exact ⟨_, a₁, w₁, hq, .pass (x := .inLoop c) rfl (fun _ _ => .inl (by simp)) harr⟩
  | panic ch => exact ⟨_, a₁, w₁, hq, .pass (x := .inLoop c) rfl (fun _ _ => .inl (by simp)) harr⟩
  | outgrown => exact ⟨_, a₁, w₁, hq, .pass (x := .inLoop c) rfl (fun _ _ => .inl (by simp)) harr⟩

theorem code_sound (hm : P.follows .mixedOrders = true) : ∀ (c : Code) {Q : Post} (T : Tmps) (H : Heap), okC c = true → codeW P (Snd P) c Q T H → ∀ (M : Mp) (W : World) (a : Act), Rel P M H W → AR P M T a.tmps → c.wp P (endQ P M H W a.defers Q) a W := by
  intro c
  induction c with
  | skip => intro Q T H ok h M W a R hT; exact wp_skip ⟨.normal, T, H, M, rfl, h, Step.refl R, hT, rfl⟩
  | region id ops draw =>
    intro Q T H ok h M W a R hT
    cases draw with
    | true => exact draw_sound hm ok R hT h fun a' W' M' T' H' q st hT' hd => ⟨.normal, T', H', M', rfl, q, st, hT', hd⟩
    | false =>
      refine wp_region ?_
      have := ops_sound (ops := ops) (QM := endQ P M H W a.defers Q) ops.toList 0 T H M W a (fun j => by simp) R hT h fun a' W' M' T' H' q st hT' hd => ⟨.normal, T', H', M', rfl, q, st, hT', hd⟩
      rw [List.range_eq_range']
      simpa using this
  | seq x y ihx ihy =>
    intro Q T H ok h M W a R hT
    simp only [okC, Bool.and_eq_true] at ok
    refine wp_seq (wp_mono (ihx T H ok.1 h M W a R hT) fun e a1 W1 k => ?_)
    obtain ⟨e0, T1, H1, M1, rfl, q, st, hT1, hd⟩ := k
    cases e0 with
    | normal =>
      refine wp_mono (ihy T1 H1 ok.2 q M1 W1 a1 st.rel hT1) fun e a2 W2 k => ?_
      rw [hd] at k
      exact endQ_step R st k
    | exit id => exact ⟨.exit id, T1, H1, M1, rfl, q, st, hT1, hd⟩
    | ret => exact ⟨.ret, T1, H1, M1, rfl, q, st, hT1, hd⟩
  | cond x c d ihc ihd =>
    intro Q T H ok h M W a R hT
    simp only [okC, Bool.and_eq_true] at ok
    simp only [codeW] at h
    have hx := ev_rel (a := a) (fun t => hT.getD t) x
    split at h
    · rename_i e
      rw [e] at hx
      exact wp_cond_true hx.bool_inv (ihc T H ok.1 h M W a R hT)
    · rename_i e
      rw [e] at hx
      exact wp_cond_false hx.bool_inv (ihd T H ok.2 h M W a R hT)
    · exact h.elim
  | block id c ih =>
    intro Q T H ok h M W a R hT
    refine wp_block (wp_mono (ih T H ok h M W a R hT) fun e a1 W1 k => ?_)
    obtain ⟨e0, T1, H1, M1, rfl, q, st, hT1, hd⟩ := k
    cases e0 with
    | normal => exact ⟨.normal, T1, H1, M1, rfl, q, st, hT1, hd⟩
    | ret => exact ⟨.ret, T1, H1, M1, rfl, q, st, hT1, hd⟩
    | exit id' =>
      simp only [blockE] at q
      simp only [exOf, Exit.inBlock]
      split
      · rename_i hid; rw [if_pos hid] at q; exact ⟨.normal, T1, H1, M1, rfl, q, st, hT1, hd⟩
      · rename_i hid; rw [if_neg hid] at q; exact ⟨.exit id', T1, H1, M1, rfl, q, st, hT1, hd⟩
  | loop c ih =>
    intro Q T H ok h M W a R hT
    have := h (fun T H => ∀ (M : Mp) (W : World) (a : Act), Rel P M H W → AR P M T a.tmps → LoopIn P c (endQ P M H W a.defers Q) a W) fun T H h M W a R hT => by
      refine LoopIn.round (wp_mono (ih T H ok h M W a R hT) fun e a1 W1 k => ?_)
      obtain ⟨e0, T1, H1, M1, rfl, q, st, hT1, hd⟩ := k
      cases e0 with
      | normal =>
        refine (q M1 W1 a1 st.rel hT1).mono fun e a2 W2 k => ?_
        rw [hd] at k
        exact endQ_step R st k
      | exit id => exact ⟨.exit id, T1, H1, M1, rfl, q, st, hT1, hd⟩
      | ret => exact ⟨.ret, T1, H1, M1, rfl, q, st, hT1, hd⟩
    exact (this M W a R hT).wp
  | exit id => intro Q T H ok h M W a R hT; exact wp_exit ⟨.exit id, T, H, M, rfl, h, Step.refl R, hT, rfl⟩
  | ret => intro Q T H ok h M W a R hT; exact wp_ret ⟨.ret, T, H, M, rfl, h, Step.refl R, hT, rfl⟩
  | rangeFunc f p x y ihx ihy => intro Q T H ok h; exact h.elim
  | scope c ih => intro Q T H ok h; exact h.elim
  | label l => intro Q T H ok h; exact h.elim
  | goto l => intro Q T H ok h; exact h.elim
  | refuse w => intro Q T H ok h; exact h.elim

/-- The functions that F tells are fit for AH. -/
def OkF (P : Program) (F : FuncId → Bool) : Prop := ∀ f, F f = true → ∀ fn, P.funcs[f]? = some fn → (fn.name == "runtime.NumGoroutine") = false ∧ ∀ c, fn.body = some c → okC c = true

/-- The other functions' contracts are true of the model. -/
def OkPr (P : Program) (Pr : CallR → CallR) : Prop := ∀ f args H v H', Pr (Snd P) f args H v H' → Snd P f args H v H'

theorem mapM_tmps {T : Tmps} {g : ResultVar → Sem Value} (hg : ∀ t, g (.tmp t) = pure (T.getD t undef)) : ∀ (l : List ResultVar), l.all isTmpR = true → ∀ w : World, (l.mapM g).run P w = .ok (l.map (resV T)) w := by
  intro l
  induction l with
  | nil => intro _ w; simp
  | cons r l ih =>
    intro hl w
    simp only [List.all_cons, Bool.and_eq_true] at hl
    cases r with
    | cell b t => simp [isTmpR] at hl
    | tmp t =>
      have := ih hl.2 w
      simp only [List.mapM_cons, hg, Sem.run_bind, Sem.run_pure, Result.andThen_ok]
      rw [this]
      simp [resV]

theorem run_one {s : Sem (Array Value)} {x : Array Value} {w : World} (h : s.run P w = .ok x w) : (do let vs ← s; pure (if h : vs.size = 1 then vs[0] else .tuple vs)).run P w = .ok (one x) w := by
  simp only [Sem.run_bind]
  rw [h]
  rfl

theorem run_results {fn : Func} {T : Tmps} {a : Act} {v : Value} {w : World} (hT : AR P M T a.tmps) (h : resA fn T = some v) : ∃ v', (results fn a.tmps).run P w = .ok v' w ∧ VR P M v v' := by
  unfold resA at h
  split at h
  · rename_i hall
    simp only [Option.some.injEq] at h
    have rel : AR P M (fn.results.map (resV T)) (fn.results.map (resV a.tmps)) := by
      refine ⟨by simp, fun i h1 h2 => ?_⟩
      simp only [Array.getElem_map]
      cases fn.results[i]'(by simpa using h1) with
      | tmp t => exact hT.getD t
      | cell b t => exact VR.undef
    refine ⟨one (fn.results.map (resV a.tmps)), ?_, ?_⟩
    · unfold results
      refine run_one ?_
      rw [Array.mapM_eq_mapM_toList]
      simp only [Sem.run_map]
      rw [mapM_tmps (T := a.tmps) (fun t => rfl) _ hall]
      simp [← Array.toList_map]
    · subst h
      unfold one
      by_cases hs : (fn.results.map (resV T)).size = 1
      · have hs' : (fn.results.map (resV a.tmps)).size = 1 := by rw [← rel.1, hs]
        simp only [hs, hs', dif_pos]
        exact rel.2 0 (by omega) (by omega)
      · have hs' : ¬ (fn.results.map (resV a.tmps)).size = 1 := by rw [← rel.1]; exact hs
        simp only [hs, hs', dif_neg, not_false_eq_true]
        exact .tuple rel.1 rel.2
  · cases h

theorem enter_rel {fn : Func} {args args' : Array Value} (h : AR P M args args') : AR P M (enterA fn args) (args' ++ Array.replicate (fn.ntmps - args'.size) undef) := by
  unfold enterA
  rw [← h.1]
  refine AR.append h ⟨rfl, fun i h1 h2 => ?_⟩
  simp only [Array.getElem_replicate]
  exact VR.undef

/-- AH is sound. -/
theorem snd_closed {F : FuncId → Bool} {Pr : CallR → CallR} (hm : P.follows .mixedOrders = true) (hF : OkF P F) (hP : OkPr P Pr) : Clo P F Pr (Snd P) := by
  refine ⟨hP, fun f fn c args H v H' hf hfn hc h => ?_⟩
  obtain ⟨hnm, hok⟩ := hF f hf fn hfn
  refine ⟨?_, .inl ⟨⟨fn, hfn, by rw [hc]; rfl, hnm⟩, fun M W args' R hargs => ?_⟩⟩
  · obtain ⟨e, T1, H1, q, _⟩ := codeW_exact c _ _ (codeW_size snd_grows c _ _ (Nat.le_refl _) h)
    obtain ⟨q1, q2, v1, q3, rfl, rfl⟩ := q
    exact q1
  · refine calls_of_wp hfn hc (wp_mono (code_sound hm c _ H (hok c hc) h M W _ R (enter_rel hargs)) fun e a' W' k => ?_)
    obtain ⟨e0, T', H1, M', rfl, ⟨he, v1, hv, rfl, rfl⟩, st, hT', hd⟩ := k
    obtain ⟨v', hrun, rv⟩ := run_results (w := W') hT' hv
    rcases he with rfl | rfl
    · exact ⟨hd, v', hrun, v', M', rfl, rv, st⟩
    · exact ⟨hd, v', hrun, v', M', rfl, rv, st⟩

theorem call_sound {F : FuncId → Bool} {Pr : CallR → CallR} (hm : P.follows .mixedOrders = true) (hF : OkF P F) (hP : OkPr P Pr) {f : FuncId} {args : Array Value} {H H' : Heap} {v : Value} (h : CallA P F Pr f args H v H') : Snd P f args H v H' :=
  h _ (snd_closed hm hF hP)

/-- At the model's door. -/
theorem callW_sound {F : FuncId → Bool} {Pr : CallR → CallR} (hm : P.follows .mixedOrders = true) (hF : OkF P F) (hP : OkPr P Pr) {f : FuncId} {args args' : Array Value} {H : Heap} {Q : Value → Heap → Prop} (he : Ent P f) (h : callW P F Pr f args H Q) {M : Mp} {W : World} (R : Rel P M H W) (ha : AR P M args args') :
    Calls P f args' W (fun e W' => ∃ v v' H' M', e = .returned v' ∧ Q v H' ∧ VR P M' v v' ∧ Step P M H W M' H' W') := by
  obtain ⟨v, H', h1, q⟩ := h
  rcases (call_sound hm hF hP h1).2 with ⟨_, h2⟩ | ⟨h2, _⟩
  · refine (h2 M W args' R ha).mono fun e W' k => ?_
    obtain ⟨v', M', e1, rv, st⟩ := k
    exact ⟨v, v', H', M', e1, q, rv, st⟩
  · exact absurd he h2

/-! ### A function without a body: the order of two texts -/
def cmpPr (g : FuncId) : CallR := fun f args H v H' => f = g ∧ ∃ a b : ByteArray, args = #[.string a, .string b] ∧ v = .int .i64 (Lib.compareBytes a.data.toList b.data.toList) ∧ H' = H

theorem cmp_snd {g : FuncId} {fn : Func} (hf : P.funcs[g]? = some fn) (hname : (fn.name == "runtime.NumGoroutine") = false) (hb : fn.body.isNone = true) (hn : Extern.findNext fn = none) (he : Extern.find fn = some Extern.BytealgCompare.compare)
    {f : FuncId} {args : Array Value} {v : Value} (h : cmpPr g f args H v H') : Snd P f args H v H' := by
  obtain ⟨rfl, a, b, rfl, rfl, rfl⟩ := h
  refine ⟨Nat.le_refl _, .inr ⟨fun ⟨fn', h1, h2, _⟩ => ?_, fun M W args' R ha => ?_⟩⟩
  · rw [hf] at h1; cases h1; rw [hb] at h2; cases h2
  · obtain ⟨l⟩ := args'
    have hl := ha.list
    cases hl with | cons h1 r => cases r with | cons h2 r => cases r with | nil =>
    rw [h1.string_inv, h2.string_inv]
    refine ⟨_, M, W, ?_, .base rfl, Step.refl R⟩
    rw [run_callFunc_extern hf hname hb hn he]
    rw [Lib.run_compareString]
    rfl
end Go.AH
