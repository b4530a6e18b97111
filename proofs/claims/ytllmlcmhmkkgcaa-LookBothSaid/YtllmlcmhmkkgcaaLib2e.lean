/-
  AH: an evaluator; the door of a closed law.
-/
import Derived.Test.YtllmlcmhmkkgcaaLib2
import Derived.Below

/-
  AH: an evaluator, for the kernel.
-/
namespace Go.AH
open Go

abbrev CallX := FuncId → Array Value → Heap → Option (Value × Heap)

/-- Equal, for values that are not deep. -/
def eqV1 : Value → Value → Bool
  | .bool a, .bool b => a == b
  | .int k a, .int k' b => decide (k = k') && decide (a = b)
  | .string a, .string b => decide (a.data.toList = b.data.toList)
  | .pointer none, .pointer none => true
  | .pointer (some ⟨b, o, none⟩), .pointer (some ⟨b', o', none⟩) => b == b' && o == o'
  | .slice none n c, .slice none n' c' => n == n' && c == c'
  | .slice (some ⟨b, o, none⟩) n c, .slice (some ⟨b', o', none⟩) n' c' => b == b' && o == o' && n == n' && c == c'
  | .map none, .map none => true
  | .map (some b), .map (some b') => b == b'
  | .nilFunc, .nilFunc => true
  | .nilIface, .nilIface => true
  | _, _ => false
def eqL1 : List Value → List Value → Bool
  | [], [] => true
  | a :: x, b :: y => eqV1 a b && eqL1 x y
  | _, _ => false
def eqV : Value → Value → Bool
  | .agg x, .agg y | .tuple x, .tuple y => eqL1 x.toList y.toList
  | x, y => eqV1 x y

theorem eqV1_sound {a b : Value} (h : eqV1 a b = true) : a = b := by
  unfold eqV1 at h
  split at h <;> simp_all
  exact ByteArray.ext h
theorem eqL1_sound : ∀ {x y : List Value}, eqL1 x y = true → x = y
  | [], [], _ => rfl
  | a :: x, b :: y, h => by
    simp only [eqL1, Bool.and_eq_true] at h
    rw [eqV1_sound h.1, eqL1_sound h.2]
  | [], _ :: _, h => by simp [eqL1] at h
  | _ :: _, [], h => by simp [eqL1] at h
theorem eqV_sound {a b : Value} (h : eqV a b = true) : a = b := by
  unfold eqV at h
  split at h
  · rw [Array.toList_inj.1 (eqL1_sound h)]
  · rw [Array.toList_inj.1 (eqL1_sound h)]
  · exact eqV1_sound h

section
variable (P : Program) (call : CallX)

def opX (T : Tmps) (o : Op) (H : Heap) : Option (Value × Heap) :=
  match calleeA (ev T) o with
  | some (g, args) => call g args H
  | none => opA P (ev T) o H

def opsX (ops : Array Oper) : List Oper → Tmps → Heap → Option (Tmps × Heap)
  | [], T, H => some (T, H)
  | o :: l, T, H =>
    match wantA ops T o with
    | some true =>
      match opX P call T o.op H with
      | some (v, H') => opsX ops l (putA T o.dst v) H'
      | none => none
    | some false => opsX ops l (putA T o.dst undef) H
    | none => none

/-- All states, one behind the other. -/
def statesX (ops : Array Oper) : List Oper → Tmps → Heap → Option (List (Tmps × Heap))
  | [], T, H => some [(T, H)]
  | o :: l, T, H =>
    match wantA ops T o with
    | some true =>
      match opX P call T o.op H with
      | some (v, H') => (statesX ops l (putA T o.dst v) H').map ((T, H) :: ·)
      | none => none
    | some false => (statesX ops l (putA T o.dst undef) H).map ((T, H) :: ·)
    | none => none

def sameX (ops : Array Oper) (s : List (Tmps × Heap)) (p : Nat × Nat) : Bool :=
  match ops[p.1]?, s[p.1]?, s[p.2]? with
  | some o, some (T, H), some (_, H2) =>
    if wantA ops T o = some true then
      match opA P (ev T) o.op H, opA P (ev T) o.op H2 with
      | some (v, _), some (v2, _) => eqV v2 v && vinB H.size v && o.op.operands.toList.all fun x => vinB H2.size (ev T x)
      | _, _ => false
    else true
  | _, _, _ => false

def drawX (ops : Array Oper) (T : Tmps) (H : Heap) : Option (Tmps × Heap) :=
  match pairsD ops with
  | [] => opsX P call ops ops.toList T H
  | ps =>
    match statesX P call ops ops.toList T H with
    | some s => if ps.all (sameX P ops s) then s[ops.size]? else none
    | none => none

def loopX (body : Tmps → Heap → Option (Ex × Tmps × Heap)) : Nat → Tmps → Heap → Option (Ex × Tmps × Heap)
  | 0, _, _ => none
  | n + 1, T, H =>
    match body T H with
    | some (.normal, T', H') => loopX body n T' H'
    | r => r

def codeX (fuel : Nat) : Code → Tmps → Heap → Option (Ex × Tmps × Heap)
  | .skip, T, H => some (.normal, T, H)
  | .region _ ops draw, T, H =>
    match (if draw then drawX P call ops T H else opsX P call ops ops.toList T H) with
    | some (T', H') => some (.normal, T', H')
    | none => none
  | .seq a b, T, H =>
    match codeX fuel a T H with
    | some (.normal, T', H') => codeX fuel b T' H'
    | r => r
  | .cond c a b, T, H =>
    match ev T c with
    | .bool true => codeX fuel a T H
    | .bool false => codeX fuel b T H
    | _ => none
  | .block id c, T, H =>
    match codeX fuel c T H with
    | some (.exit id', T', H') => if id' = id then some (.normal, T', H') else some (.exit id', T', H')
    | r => r
  | .loop c, T, H => loopX (codeX fuel c) fuel T H
  | .exit id, T, H => some (.exit id, T, H)
  | .ret, T, H => some (.ret, T, H)
  | _, _, _ => none
end

/-- The evaluator: depth of calls, rounds of loops. -/
def callX (P : Program) (F : FuncId → Bool) (pe : CallX) (rounds : Nat) : Nat → CallX
  | 0, _, _, _ => none
  | n + 1, f, args, H =>
    if F f then
      match P.funcs[f]? with
      | some fn =>
        match fn.body with
        | some c =>
          match codeX P (callX P F pe rounds n) rounds c (enterA fn args) H with
          | some (.normal, T, H') | some (.ret, T, H') => (resA P fn T H').map (·, H')
          | _ => none
        | none => none
      | none => none
    else pe f args H

/-! ### It is right -/
section
variable {P : Program} {call : CallX} {C : CallR}

def XOk (call : CallX) (C : CallR) : Prop := ∀ f args H v H', call f args H = some (v, H') → C f args H v H'

theorem opX_sound (hc : XOk call C) {T : Tmps} {o : Op} {H H' : Heap} {v : Value} (h : opX P call T o H = some (v, H')) : opR P C T o H v H' := by
  unfold opX at h
  split at h
  · rename_i g args e; exact .inr ⟨g, args, e, hc _ _ _ _ _ h⟩
  · exact .inl h

theorem opsX_sound (hc : XOk call C) {ops : Array Oper} {Q : Tmps → Heap → Prop} : ∀ (l : List Oper) (T : Tmps) (H : Heap) {T' : Tmps} {H' : Heap}, opsX P call ops l T H = some (T', H') → Q T' H' → opsW P C ops Q l T H
  | [], T, H, T', H', h, q => by cases h; exact q
  | o :: l, T, H, T', H', h, q => by
    simp only [opsX] at h
    simp only [opsW]
    split at h
    · rename_i e; rw [e]
      simp only
      cases hx : opX P call T o.op H with
      | none => simp [hx] at h
      | some p =>
        obtain ⟨v, H1⟩ := p
        simp only [hx] at h
        exact ⟨v, H1, opX_sound hc hx, opsX_sound hc l _ _ h q⟩
    · rename_i e; rw [e]
      exact opsX_sound hc l _ _ h q
    · cases h

theorem statesX_head {ops : Array Oper} : ∀ (l : List Oper) (T : Tmps) (H : Heap) {s : List (Tmps × Heap)}, statesX P call ops l T H = some s → s[0]? = some (T, H) ∧ s.length = l.length + 1 := by
  intro l
  induction l with
  | nil => intro T H s h; cases h; exact ⟨rfl, rfl⟩
  | cons o l ih =>
    intro T H s h
    simp only [statesX] at h
    split at h
    · split at h
      · obtain ⟨s', h1, rfl⟩ := Option.map_eq_some_iff.1 h
        exact ⟨rfl, by simp [(ih _ _ h1).2]⟩
      · cases h
    · obtain ⟨s', h1, rfl⟩ := Option.map_eq_some_iff.1 h
      exact ⟨rfl, by simp [(ih _ _ h1).2]⟩
    · cases h

theorem statesX_step (hc : XOk call C) {ops : Array Oper} : ∀ (l : List Oper) (T : Tmps) (H : Heap) {s : List (Tmps × Heap)}, statesX P call ops l T H = some s →
    ∀ i o, l[i]? = some o → ∃ T1 H1 T2 H2, s[i]? = some (T1, H1) ∧ s[i + 1]? = some (T2, H2) ∧ stepR P C ops o T1 H1 T2 H2
  | [], _, _, _, _, i, o, ho => by simp at ho
  | o :: l, T, H, s, h, i, o', ho => by
    simp only [statesX] at h
    split at h
    · rename_i e
      cases hx : opX P call T o.op H with
      | none => simp [hx] at h
      | some p =>
        obtain ⟨v, H1⟩ := p
        simp only [hx] at h
        obtain ⟨s', h1, rfl⟩ := Option.map_eq_some_iff.1 h
        cases i with
        | zero =>
          simp only [List.getElem?_cons_zero, Option.some.injEq] at ho
          subst ho
          refine ⟨T, H, _, H1, rfl, by simpa using (statesX_head l _ _ h1).1, ?_⟩
          unfold stepR; rw [e]; exact ⟨v, opX_sound hc hx, rfl⟩
        | succ i =>
          simpa using statesX_step hc l _ _ h1 i o' (by simpa using ho)
    · rename_i e
      obtain ⟨s', h1, rfl⟩ := Option.map_eq_some_iff.1 h
      cases i with
      | zero =>
        simp only [List.getElem?_cons_zero, Option.some.injEq] at ho
        subst ho
        refine ⟨T, H, _, H, rfl, by simpa using (statesX_head l _ _ h1).1, ?_⟩
        unfold stepR; rw [e]; exact ⟨rfl, rfl⟩
      | succ i => simpa using statesX_step hc l _ _ h1 i o' (by simpa using ho)
    · cases h

theorem isRead_pair {ops : Array Oper} {p : Nat × Nat} (h : p ∈ pairsD ops) : isRead ops p.1 = true := by
  unfold pairsD at h
  simp only [List.mem_flatMap, List.mem_range] at h
  obtain ⟨i, hi, h⟩ := h
  split at h
  · rename_i hr
    simp only [List.mem_filterMap, List.mem_range] at h
    obtain ⟨j, hj, h⟩ := h
    have : p.1 = i := by
      repeat' split at h
      all_goals first | (cases h; done) | (simp at h; rw [← h])
    rw [this]; exact hr
  · simp at h

theorem drawX_sound (hc : XOk call C) {ops : Array Oper} {Q : Tmps → Heap → Prop} {T T' : Tmps} {H H' : Heap} (h : drawX P call ops T H = some (T', H')) (q : Q T' H') : drawW P C ops Q T H := by
  unfold drawX at h
  split at h
  · rename_i e; exact draw_of_text e (opsX_sound hc _ _ _ h q)
  · split at h
    · rename_i s hs
      split at h
      · rename_i hall
        obtain ⟨h0, hl⟩ := statesX_head _ _ _ hs
        refine ⟨fun i => (s[i]?.getD (T, H)).1, fun i => (s[i]?.getD (T, H)).2, by simp [h0], by simp [h0], fun i o ho => ?_, fun p hp => ?_, by simp only [h, Option.getD_some]; exact q⟩
        · obtain ⟨T1, H1, T2, H2, e1, e2, e3⟩ := statesX_step hc _ _ _ hs i o (by simpa using ho)
          simp only [e1, e2, Option.getD_some]
          exact e3
        · have hr := isRead_pair hp
          have hb := List.all_eq_true.1 hall p hp
          refine .inl fun o ho hw v H1 hv => ?_
          unfold sameX at hb
          rw [ho] at hb
          have hcl : cls o.op = .read := by simpa [isRead_of ho] using hr
          split at hb
          · rename_i o' T1 H2 T2 H3 e0 e1 e2
            cases e0
            simp only [e1, Option.getD_some] at hw hv ⊢
            simp only [e2, Option.getD_some]
            rw [if_pos hw] at hb
            split at hb
            · rename_i v1 X1 v2 X2 f1 f2
              rw [f1] at hv; cases hv
              simp only [Bool.and_eq_true] at hb
              have := eqV_sound hb.1.1
              subst this
              have := cls_read hcl f2
              subst this
              exact ⟨f2, hb.1.2, hb.2⟩
            · cases hb
          · cases hb
      · cases h
    · cases h

theorem codeX_sound (hc : XOk call C) {fuel : Nat} : ∀ (c : Code) (T : Tmps) (H : Heap) {e : Ex} {T' : Tmps} {H' : Heap} {Q : Post}, codeX P call fuel c T H = some (e, T', H') → Q e T' H' → codeW P C c Q T H := by
  intro c
  induction c with
  | skip => intro T H e T' H' Q h q; cases h; exact q
  | region id ops draw =>
    intro T H e T' H' Q h q
    simp only [codeX] at h
    split at h
    · rename_i T1 H1 h1
      cases h
      cases draw with
      | true => exact drawX_sound hc h1 q
      | false => exact opsX_sound hc _ _ _ h1 q
    · cases h
  | seq a b iha ihb =>
    intro T H e T' H' Q h q
    simp only [codeX] at h
    split at h
    · rename_i T1 H1 h1
      exact iha T H h1 (ihb T1 H1 h q)
    · rename_i hne
      refine iha T H h ?_
      cases e with
      | normal => exact absurd h (hne _ _)
      | exit id => exact q
      | ret => exact q
  | cond c a b iha ihb =>
    intro T H e T' H' Q h q
    simp only [codeX] at h
    simp only [codeW]
    split at h
    · rename_i e; rw [e]; exact iha T H h q
    · rename_i e; rw [e]; exact ihb T H h q
    · cases h
  | block id c ih =>
    intro T H e T' H' Q h q
    simp only [codeX] at h
    split at h
    · rename_i id' T1 H1 h1
      refine ih T H h1 ?_
      split at h
      · rename_i hid; cases h; simp [blockE, hid]; exact q
      · rename_i hid; cases h; simp [blockE, hid]; exact q
    · rename_i hne
      refine ih T H h ?_
      cases e with
      | normal => exact q
      | ret => exact q
      | exit id' => exact absurd h (hne _ _ _)
  | loop c ih =>
    intro T H e T' H' Q h q
    simp only [codeX] at h
    have key : ∀ n T H, loopX (codeX P call fuel c) n T H = some (e, T', H') → codeW P C (.loop c) Q T H := by
      intro n
      induction n with
      | zero => intro T H h; cases h
      | succ n ihn =>
        intro T H h
        simp only [loopX] at h
        split at h
        · rename_i T1 H1 h1
          exact loop_unroll (ih T H h1 (ihn T1 H1 h))
        · rename_i hne
          refine loop_unroll (ih T H h ?_)
          cases e with
          | normal => exact absurd h (hne _ _)
          | exit id => exact q
          | ret => exact q
    exact key fuel T H h
  | exit id => intro T H e T' H' Q h q; cases h; exact q
  | ret => intro T H e T' H' Q h q; cases h; exact q
  | rangeFunc f p a b iha ihb => intro T H e T' H' Q h q; cases h
  | scope c ih => intro T H e T' H' Q h q; cases h
  | label l => intro T H e T' H' Q h q; cases h
  | goto l => intro T H e T' H' Q h q; cases h
  | refuse w => intro T H e T' H' Q h q; cases h

theorem callX_sound {F : FuncId → Bool} {Pr : CallR → CallR} {pe : CallX} (hp : XOk pe (CallA P F Pr)) {rounds : Nat} : ∀ n, XOk (callX P F pe rounds n) (CallA P F Pr)
  | 0, f, args, H, v, H', h => by cases h
  | n + 1, f, args, H, v, H', h => by
    simp only [callX] at h
    split at h
    · rename_i hF
      split at h
      · rename_i fn hfn
        split at h
        · rename_i c hc
          have fin : ∀ e T H1, (e = .normal ∨ e = .ret) → codeX P (callX P F pe rounds n) rounds c (enterA fn args) H = some (e, T, H1) → (resA P fn T H1).map (·, H1) = some (v, H') → CallA P F Pr f args H v H' := by
            intro e T H1 he h1 h2
            obtain ⟨v1, e1, e2⟩ := Option.map_eq_some_iff.1 h2
            cases e2
            obtain ⟨v2, H2, h3, rfl, rfl⟩ := call_intro (Q := fun v2 H2 => v2 = v ∧ H2 = H') hF hfn hc (codeX_sound (callX_sound hp n) c _ _ (Q := retP P fn fun v2 H2 => v2 = v ∧ H2 = H') h1 ⟨he, v, e1, rfl, rfl⟩)
            exact h3
          split at h
          · rename_i T H1 h1; exact fin _ T H1 (.inl rfl) h1 h
          · rename_i T H1 h1; exact fin _ T H1 (.inr rfl) h1 h
          · cases h
        · cases h
      · cases h
    · exact hp _ _ _ _ _ h
end
end Go.AH

/-
  AH: from a run of the evaluator to the model's call, where nothing of the caller's memory is read.
-/
namespace Go.AH
open Go Go.RowKit
variable {P : Program}

def okFn (fn : Func) : Bool := !(fn.name == "runtime.NumGoroutine") && (match fn.body with | some c => okC c | none => true)
def okFB (P : Program) (l : List FuncId) : Bool := l.all fun f => match P.funcs[f]? with | some fn => okFn fn | none => true
/-- The functions that a list tells. -/
def inL (l : List FuncId) : FuncId → Bool := fun f => l.any fun g => f == g

theorem okF_of {l : List FuncId} (h : okFB P l = true) : OkF P (inL l) := by
  intro f hf fn hfn
  unfold inL at hf
  obtain ⟨g, hg, e⟩ := List.any_eq_true.1 hf
  have e : f = g := by simpa using e
  subst e
  have := List.all_eq_true.1 h f hg
  rw [hfn] at this
  simp only [okFn, Bool.and_eq_true, Bool.not_eq_true'] at this
  refine ⟨this.1, fun c hc => ?_⟩
  have h2 := this.2
  rw [hc] at h2
  exact h2

/-- The one function without a body that is known here: the order of two texts. -/
def cmpX (g : FuncId) : CallX := fun f args H =>
  if f = g then
    match args with
    | ⟨[.string a, .string b]⟩ => some (.int .i64 (Lib.compareBytes a.data.toList b.data.toList), H)
    | _ => none
  else none

theorem cmpX_ok {F : FuncId → Bool} {g : FuncId} : XOk (cmpX g) (CallA P F fun _ => cmpPr g) := by
  intro f args H v H' h
  unfold cmpX at h
  split at h
  · rename_i hf
    split at h
    · rename_i a b
      cases h
      exact call_prim (fun _ _ _ _ _ _ _ _ h => h) ⟨hf, a, b, rfl, rfl, rfl⟩
    · cases h
  · cases h

def noX : CallX := fun _ _ _ => none
def noPr : CallR := fun _ _ _ _ _ => False
theorem noX_ok {F : FuncId → Bool} : XOk noX (CallA P F fun _ => noPr) := fun _ _ _ _ _ h => by cases h
theorem noPr_ok : OkPr P (fun _ => noPr) := fun _ _ _ _ _ h => h.elim

def isTrueX : Option (Value × Heap) → Bool
  | some (.bool true, _) => true
  | _ => false

theorem rel_empty (W : World) : Rel P (fun _ => none) #[] W := ⟨fun _ _ h => (by cases h), fun _ _ h => (by cases h), fun _ _ _ _ h => (by cases h)⟩

theorem below_of_step {M' : Mp} {H H' : Heap} {W W' : World} (h : Step P (fun _ => none) H W M' H' W') : Below W.heap.size W W' :=
  ⟨h.os, h.tape, h.output, h.wsize, fun k hk => h.aframe k hk fun b τ e => by cases e⟩

theorem ar_base {M : Mp} {args : Array Value} (hb : args.toList.all isBase = true) : AR P M args args := LR.array (LR.refl_base hb)

/-- A call that yields true. -/
theorem door_true {F : FuncId → Bool} {Pr : CallR → CallR} (hm : P.follows .mixedOrders = true) (hF : OkF P F) (hP : OkPr P Pr) {f : FuncId} {args : Array Value} (he : Ent P f) (hb : args.toList.all isBase = true)
    (h : callW P F Pr f args #[] fun v _ => v = .bool true) (w : World) : Calls P f args w fun e w' => e = .returned (.bool true) ∧ Below w.heap.size w w' := by
  refine (callW_sound hm hF hP he h (rel_empty w) (ar_base hb)).mono fun e W' k => ?_
  obtain ⟨v, v', H', M', rfl, rfl, rv, st⟩ := k
  exact ⟨by rw [rv.bool_inv], below_of_step st⟩

theorem callW_of_eval {F : FuncId → Bool} {Pr : CallR → CallR} {pe : CallX} (hp : XOk pe (CallA P F Pr)) {rounds n : Nat} {f : FuncId} {args : Array Value} {H : Heap} (h : isTrueX (callX P F pe rounds n f args H) = true) : callW P F Pr f args H fun v _ => v = .bool true := by
  unfold isTrueX at h
  split at h
  · rename_i H' e
    exact ⟨_, _, callX_sound hp n _ _ _ _ _ e, rfl⟩
  · cases h
end Go.AH

/-
  AH: structs of texts.
-/
namespace Go.AH
open Go
variable {k : Nat}

/-- A struct of k texts. -/
abbrev Row (k : Nat) := {l : List ByteArray // l.length = k}
instance : Inhabited (Row k) := ⟨⟨List.replicate k .empty, by simp⟩⟩
def encR (x : Row k) : List Value := x.1.map .string

theorem encR_len (x : Row k) : (encR x).length = k := by simp [encR, x.2]
theorem encR_base (x : Row k) : (encR x).all isBase = true := by simp [encR, isBase]

end Go.AH
