/-
  AH: regions, code and calls. A region runs in the order of its text; where the order is drawn, what is read beside an effect must be the same before and after it.
-/
import Derived.Test.YtemibbcfbhafeaaDoorAhSim
namespace Go.AH
open Go

abbrev Tmps := Array Value
abbrev CallR := FuncId → Array Value → Heap → Value → Heap → Prop

def putA (T : Tmps) (d : Option Tmp) (v : Value) : Tmps :=
  match d with
  | some d => T.setIfInBounds d v
  | none => T

/-- Is the operation wanted? -/
def wantA (ops : Array Oper) (T : Tmps) (o : Oper) : Option Bool :=
  match o.guard with
  | none => some true
  | some (g, want) =>
    match (ops[g]?).bind (·.dst) with
    | none => none
    | some d =>
      match T.getD d undef with
      | .bool b => some (b == want)
      | .tuple cs => if cs.size = 0 then some false else none
      | _ => none

section
variable (P : Program)

/-- A function that can be entered. -/
def Ent (f : FuncId) : Prop := ∃ fn, P.funcs[f]? = some fn ∧ fn.body.isNone = false ∧ (fn.name == "runtime.NumGoroutine") = false

/-- What an operation does, calls with it. -/
def opR (C : CallR) (T : Tmps) (o : Op) (H : Heap) (v : Value) (H' : Heap) : Prop :=
  opA P (ev T) o H = some (v, H') ∨ ∃ g args, calleeA (ev T) o = some (g, args) ∧ C g args H v H'

def stepR (C : CallR) (ops : Array Oper) (o : Oper) (T : Tmps) (H : Heap) (T' : Tmps) (H' : Heap) : Prop :=
  match wantA ops T o with
  | some true => ∃ v, opR P C T o.op H v H' ∧ T' = putA T o.dst v
  | some false => T' = putA T o.dst undef ∧ H' = H
  | none => False

inductive Cls | pure | alloc | read | eff
deriving DecidableEq

def clsB : Builtin → Cls
  | .len => .read
  | .min | .max => .pure
  | _ => .eff
def cls : Op → Cls
  | .move _ | .assign _ | .pick .. | .build .. | .nilCheck _ | .binOp .. | .unOp .. | .convert .. | .makeFunc .. | .fieldAddr .. | .field .. | .indexAddr .. | .index .. | .extract .. => .pure
  | .load .. | .slice .. | .lookup .. => .read
  | .alloc _ | .box .. | .buildSlice .. | .makeMap .. | .makeSlice .. => .alloc
  | .call { callee := .builtin b, .. } => clsB b
  | _ => .eff

def isEff (ops : Array Oper) (j : Nat) : Bool :=
  match ops[j]? with
  | some o => cls o.op == .eff
  | none => false
def isRead (ops : Array Oper) (j : Nat) : Bool :=
  match ops[j]? with
  | some o => cls o.op == .read
  | none => false

/-- The ancestors of each operation, as masks. -/
def ancRow (acc : List Nat) (o : Oper) : Nat := o.after.toList.foldl (fun s e => if Region.binds .any e then s ||| (2 ^ e.on ||| acc.getD e.on 0) else s) 0
def ancs (ops : List Oper) : List Nat := ops.foldl (fun acc o => acc ++ [ancRow acc o]) []

def mustB (ops : Array Oper) (x y : Oper) : Bool := (cls x.op == .eff && cls y.op == .eff) || !(x.apart ops y)

/-- The static look at a drawn region. -/
def okD (ops : Array Oper) : Bool :=
  let a := ancs ops.toList
  (List.range ops.size).all fun j =>
    match ops[j]? with
    | none => false
    | some y =>
      (y.after.toList.all fun e => !Region.binds .any e || e.on < j) &&
      (List.range j).all fun i =>
        match ops[i]? with
        | none => false
        | some x => !mustB ops x y || (a.getD j 0).testBit i

/-- What is read beside an effect: the read, and the state at which it must read the same. -/
def pairsD (ops : Array Oper) : List (Nat × Nat) :=
  let a := ancs ops.toList
  (List.range ops.size).flatMap fun i =>
    if isRead ops i then
      (List.range ops.size).filterMap fun j =>
        if isEff ops j then
          if j < i then (if (a.getD i 0).testBit j then none else some (i, j))
          else if i < j then (if (a.getD j 0).testBit i then none else some (i, j + 1)) else none
        else none
    else []

def vin1 (n : Nat) : Value → Bool
  | .pointer (some ⟨b, _, none⟩) | .slice (some ⟨b, _, none⟩) _ _ | .map (some b) => decide (b < n)
  | v => isBase v
/-- All blocks that the value tells of lie below n (a shallow look). -/
def vinB (n : Nat) : Value → Bool
  | .agg x | .tuple x => x.toList.all (vin1 n)
  | .func _ x y => x.toList.all (vin1 n) && y.toList.all (vin1 n)
  | .iface _ v => vin1 n v
  | v => vin1 n v

/-- It reads the same there. -/
def sameAt (ops : Array Oper) (T : Nat → Tmps) (K : Nat → Heap) (p : Nat × Nat) : Prop :=
  ∀ o, ops[p.1]? = some o → wantA ops (T p.1) o = some true → ∀ v H', opA P (ev (T p.1)) o.op (K p.1) = some (v, H') →
    opA P (ev (T p.1)) o.op (K p.2) = some (v, K p.2) ∧ vinB (K p.1).size v = true ∧ (o.op.operands.toList.all fun x => vinB (K p.2).size (ev (T p.1) x)) = true

inductive Ex | normal | exit (id : Nat) | ret
deriving DecidableEq

abbrev Post := Ex → Tmps → Heap → Prop

/-- In the order of the text. -/
def opsW (C : CallR) (ops : Array Oper) (Q : Tmps → Heap → Prop) : List Oper → Tmps → Heap → Prop
  | [], T, H => Q T H
  | o :: l, T, H =>
    match wantA ops T o with
    | some true => ∃ v H', opR P C T o.op H v H' ∧ opsW C ops Q l (putA T o.dst v) H'
    | some false => opsW C ops Q l (putA T o.dst undef) H
    | none => False

def drawW (C : CallR) (ops : Array Oper) (Q : Tmps → Heap → Prop) (T : Tmps) (H : Heap) : Prop :=
  ∃ (Ts : Nat → Tmps) (Ks : Nat → Heap), Ts 0 = T ∧ Ks 0 = H ∧ (∀ i o, ops[i]? = some o → stepR P C ops o (Ts i) (Ks i) (Ts (i + 1)) (Ks (i + 1))) ∧ (∀ p ∈ pairsD ops, sameAt P ops Ts Ks p) ∧ Q (Ts ops.size) (Ks ops.size)

def thenE (K : Tmps → Heap → Prop) (Q : Post) : Post := fun e T H =>
  match e with
  | .normal => K T H
  | e => Q e T H
def blockE (id : Nat) (Q : Post) : Post := fun e T H =>
  match e with
  | .exit id' => if id' = id then Q .normal T H else Q (.exit id') T H
  | e => Q e T H

def codeW (C : CallR) : Code → Post → Tmps → Heap → Prop
  | .skip, Q, T, H => Q .normal T H
  | .region _ ops draw, Q, T, H => if draw then drawW P C ops (Q .normal) T H else opsW P C ops (Q .normal) ops.toList T H
  | .seq a b, Q, T, H => codeW C a (thenE (codeW C b Q) Q) T H
  | .cond c a b, Q, T, H =>
    match ev T c with
    | .bool true => codeW C a Q T H
    | .bool false => codeW C b Q T H
    | _ => False
  | .block id c, Q, T, H => codeW C c (blockE id Q) T H
  | .loop c, Q, T, H => ∀ I : Tmps → Heap → Prop, (∀ T H, codeW C c (thenE I Q) T H → I T H) → I T H
  | .exit id, Q, T, H => Q (.exit id) T H
  | .ret, Q, T, H => Q .ret T H
  | _, _, _, _ => False

def okC : Code → Bool
  | .region _ ops true => okD ops
  | .seq a b | .cond _ a b => okC a && okC b
  | .block _ c | .loop c => okC c
  | _ => true

def isTmpR : ResultVar → Bool
  | .tmp _ => true
  | _ => false
def resV (T : Tmps) : ResultVar → Value
  | .tmp t => T.getD t undef
  | _ => undef
def one (x : Array Value) : Value := if h : x.size = 1 then x[0] else .tuple x
def resA (fn : Func) (T : Tmps) : Option Value :=
  if fn.results.toList.all isTmpR then some (one (fn.results.map (resV T))) else none

def retP (fn : Func) (Q : Value → Heap → Prop) : Post := fun e T H => (e = .normal ∨ e = .ret) ∧ ∃ v, resA fn T = some v ∧ Q v H

/-- The temporaries at a function's beginning. -/
def enterA (fn : Func) (args : Array Value) : Tmps := args ++ Array.replicate (fn.ntmps - args.size) undef

/-- What is closed under the calls of the functions that F tells, and of those that Pr tells. -/
def Clo (F : FuncId → Bool) (Pr : CallR → CallR) (R : CallR) : Prop :=
  (∀ f args H v H', Pr R f args H v H' → R f args H v H') ∧
  ∀ f fn c args H v H', F f = true → P.funcs[f]? = some fn → fn.body = some c → codeW P R c (retP fn fun v1 H1 => v1 = v ∧ H1 = H') (enterA fn args) H → R f args H v H'

def CallA (F : FuncId → Bool) (Pr : CallR → CallR) : CallR := fun f args H v H' => ∀ R, Clo P F Pr R → R f args H v H'
end

/-! ### Monotone -/
section
variable {P : Program} {C C' : CallR}

theorem opR_mono (hC : ∀ f a H v H', C f a H v H' → C' f a H v H') {T : Tmps} {o : Op} {H : Heap} {v : Value} {H' : Heap} (h : opR P C T o H v H') : opR P C' T o H v H' :=
  h.imp id fun ⟨g, args, e, c⟩ => ⟨g, args, e, hC _ _ _ _ _ c⟩

theorem stepR_mono (hC : ∀ f a H v H', C f a H v H' → C' f a H v H') {ops : Array Oper} {o : Oper} {T T' : Tmps} {H H' : Heap} (h : stepR P C ops o T H T' H') : stepR P C' ops o T H T' H' := by
  unfold stepR at *
  split <;> simp_all
  exact ⟨_, opR_mono hC h.choose_spec.1, h.choose_spec.2⟩

theorem opsW_mono (hC : ∀ f a H v H', C f a H v H' → C' f a H v H') {ops : Array Oper} {Q Q' : Tmps → Heap → Prop} (hQ : ∀ T H, Q T H → Q' T H) : ∀ (l : List Oper) (T : Tmps) (H : Heap), opsW P C ops Q l T H → opsW P C' ops Q' l T H
  | [], T, H, h => hQ _ _ h
  | o :: l, T, H, h => by
    simp only [opsW] at h ⊢
    split
    · rename_i e
      rw [e] at h
      obtain ⟨v, H', h1, h2⟩ := h
      exact ⟨v, H', opR_mono hC h1, opsW_mono hC hQ l _ _ h2⟩
    · rename_i e
      rw [e] at h
      exact opsW_mono hC hQ l _ _ h
    · rename_i e
      rw [e] at h
      exact h

theorem drawW_mono (hC : ∀ f a H v H', C f a H v H' → C' f a H v H') {ops : Array Oper} {Q Q' : Tmps → Heap → Prop} (hQ : ∀ T H, Q T H → Q' T H) {T : Tmps} {H : Heap} (h : drawW P C ops Q T H) : drawW P C' ops Q' T H := by
  obtain ⟨Ts, Ks, a, b, c, d, e⟩ := h
  exact ⟨Ts, Ks, a, b, fun i o ho => stepR_mono hC (c i o ho), d, hQ _ _ e⟩

theorem codeW_mono (hC : ∀ f a H v H', C f a H v H' → C' f a H v H') : ∀ (c : Code) {Q Q' : Post}, (∀ e T H, Q e T H → Q' e T H) → ∀ (T : Tmps) (H : Heap), codeW P C c Q T H → codeW P C' c Q' T H := by
  intro c
  induction c with
  | skip => intro Q Q' hQ T H h; exact hQ _ _ _ h
  | region id ops draw =>
    intro Q Q' hQ T H h
    cases draw
    · exact opsW_mono hC (hQ _) _ _ _ h
    · exact drawW_mono hC (hQ _) h
  | seq a b iha ihb =>
    intro Q Q' hQ T H h
    refine iha (fun e T H h => ?_) T H h
    cases e
    · exact ihb hQ _ _ h
    · exact hQ _ _ _ h
    · exact hQ _ _ _ h
  | cond c a b iha ihb =>
    intro Q Q' hQ T H h
    simp only [codeW] at h ⊢
    split
    · rename_i e; rw [e] at h; exact iha hQ _ _ h
    · rename_i e; rw [e] at h; exact ihb hQ _ _ h
    · rename_i n1 n2
      split at h
      · rename_i e; exact (n1 e).elim
      · rename_i e; exact (n2 e).elim
      · exact h
  | block id c ih =>
    intro Q Q' hQ T H h
    refine ih (fun e T H h => ?_) T H h
    cases e with
    | normal => exact hQ _ _ _ h
    | ret => exact hQ _ _ _ h
    | exit id' =>
      simp only [blockE] at h ⊢
      split
      · rename_i e; rw [if_pos e] at h; exact hQ _ _ _ h
      · rename_i e; rw [if_neg e] at h; exact hQ _ _ _ h
  | loop c ih =>
    intro Q Q' hQ T H h I hI
    refine h I fun T H h => hI T H (ih (fun e T H h => ?_) T H h)
    cases e
    · exact h
    · exact hQ _ _ _ h
    · exact hQ _ _ _ h
  | exit id => intro Q Q' hQ T H h; exact hQ _ _ _ h
  | ret => intro Q Q' hQ T H h; exact hQ _ _ _ h
  | rangeFunc f p a b iha ihb => intro Q Q' hQ T H h; exact h
  | scope c ih => intro Q Q' hQ T H h; exact h
  | label l => intro Q Q' hQ T H h; exact h
  | goto l => intro Q Q' hQ T H h; exact h
  | refuse w => intro Q Q' hQ T H h; exact h

/-- One way only: what a piece of code comes to, it comes to at one place. -/
theorem opsW_exact {ops : Array Oper} {Q : Tmps → Heap → Prop} : ∀ (l : List Oper) (T : Tmps) (H : Heap), opsW P C ops Q l T H → ∃ T1 H1, Q T1 H1 ∧ opsW P C ops (fun T H => T = T1 ∧ H = H1) l T H
  | [], T, H, h => ⟨T, H, h, rfl, rfl⟩
  | o :: l, T, H, h => by
    simp only [opsW] at h ⊢
    split at h
    · obtain ⟨v, H', h1, h2⟩ := h
      obtain ⟨T1, H1, q, h3⟩ := opsW_exact l _ _ h2
      exact ⟨T1, H1, q, v, H', h1, h3⟩
    · obtain ⟨T1, H1, q, h3⟩ := opsW_exact l _ _ h
      exact ⟨T1, H1, q, h3⟩
    · exact h.elim

theorem codeW_exact : ∀ (c : Code) {Q : Post} (T : Tmps) (H : Heap), codeW P C c Q T H → ∃ e T1 H1, Q e T1 H1 ∧ codeW P C c (fun e' T' H' => e' = e ∧ T' = T1 ∧ H' = H1) T H := by
  have idC : ∀ f a H v H', C f a H v H' → C f a H v H' := fun _ _ _ _ _ h => h
  intro c
  induction c with
  | skip => intro Q T H h; exact ⟨_, _, _, h, rfl, rfl, rfl⟩
  | region id ops draw =>
    intro Q T H h
    cases draw
    · obtain ⟨T1, H1, q, h⟩ := opsW_exact _ _ _ h
      exact ⟨_, T1, H1, q, opsW_mono idC (fun T H h => ⟨rfl, h⟩) _ _ _ h⟩
    · obtain ⟨Ts, Ks, a, b, c, d, e⟩ := h
      exact ⟨_, _, _, e, Ts, Ks, a, b, c, d, rfl, rfl, rfl⟩
  | seq a b iha ihb =>
    intro Q T H h
    obtain ⟨e, T1, H1, q, h1⟩ := iha _ _ h
    cases e with
    | normal =>
      obtain ⟨e2, T2, H2, q2, h2⟩ := ihb _ _ q
      refine ⟨e2, T2, H2, q2, codeW_mono idC a (fun e T H h => ?_) _ _ h1⟩
      obtain ⟨rfl, rfl, rfl⟩ := h
      exact h2
    | exit id =>
      refine ⟨_, T1, H1, q, codeW_mono idC a (fun e T H h => ?_) _ _ h1⟩
      obtain ⟨rfl, rfl, rfl⟩ := h
      exact ⟨rfl, rfl, rfl⟩
    | ret =>
      refine ⟨_, T1, H1, q, codeW_mono idC a (fun e T H h => ?_) _ _ h1⟩
      obtain ⟨rfl, rfl, rfl⟩ := h
      exact ⟨rfl, rfl, rfl⟩
  | cond c a b iha ihb =>
    intro Q T H h
    simp only [codeW] at h ⊢
    split at h
    · exact iha _ _ h
    · exact ihb _ _ h
    · exact h.elim
  | block id c ih =>
    intro Q T H h
    obtain ⟨e, T1, H1, q, h1⟩ := ih _ _ h
    cases e with
    | normal =>
      refine ⟨_, T1, H1, q, codeW_mono idC c (fun e T H h => ?_) _ _ h1⟩
      obtain ⟨rfl, rfl, rfl⟩ := h
      exact ⟨rfl, rfl, rfl⟩
    | ret =>
      refine ⟨_, T1, H1, q, codeW_mono idC c (fun e T H h => ?_) _ _ h1⟩
      obtain ⟨rfl, rfl, rfl⟩ := h
      exact ⟨rfl, rfl, rfl⟩
    | exit id' =>
      simp only [blockE] at q
      split at q
      · rename_i hid
        refine ⟨_, T1, H1, q, codeW_mono idC c (fun e T H h => ?_) _ _ h1⟩
        obtain ⟨rfl, rfl, rfl⟩ := h
        simp [blockE, hid]
      · rename_i hid
        refine ⟨_, T1, H1, q, codeW_mono idC c (fun e T H h => ?_) _ _ h1⟩
        obtain ⟨rfl, rfl, rfl⟩ := h
        simp [blockE, hid]
  | loop c ih =>
    intro Q T H h
    refine h (fun T H => ∃ e T1 H1, Q e T1 H1 ∧ codeW P C (.loop c) (fun e' T' H' => e' = e ∧ T' = T1 ∧ H' = H1) T H) fun T H h => ?_
    obtain ⟨e, T1, H1, q, h1⟩ := ih _ _ h
    cases e with
    | normal =>
      obtain ⟨e2, T2, H2, q2, h2⟩ := q
      refine ⟨e2, T2, H2, q2, fun I hI => hI _ _ (codeW_mono idC c (fun e T H h => ?_) _ _ h1)⟩
      obtain ⟨rfl, rfl, rfl⟩ := h
      exact h2 I hI
    | exit id =>
      refine ⟨_, T1, H1, q, fun I hI => hI _ _ (codeW_mono idC c (fun e T H h => ?_) _ _ h1)⟩
      obtain ⟨rfl, rfl, rfl⟩ := h
      exact ⟨rfl, rfl, rfl⟩
    | ret =>
      refine ⟨_, T1, H1, q, fun I hI => hI _ _ (codeW_mono idC c (fun e T H h => ?_) _ _ h1)⟩
      obtain ⟨rfl, rfl, rfl⟩ := h
      exact ⟨rfl, rfl, rfl⟩
  | exit id => intro Q T H h; exact ⟨_, _, _, h, rfl, rfl, rfl⟩
  | ret => intro Q T H h; exact ⟨_, _, _, h, rfl, rfl, rfl⟩
  | rangeFunc f p a b iha ihb => intro Q T H h; exact h.elim
  | scope c ih => intro Q T H h; exact h.elim
  | label l => intro Q T H h; exact h.elim
  | goto l => intro Q T H h; exact h.elim
  | refuse w => intro Q T H h; exact h.elim

variable {F : FuncId → Bool} {Pr : CallR → CallR}

/-- A call, with what is asked of its end. -/
def callW (P : Program) (F : FuncId → Bool) (Pr : CallR → CallR) (f : FuncId) (args : Array Value) (H : Heap) (Q : Value → Heap → Prop) : Prop := ∃ v H', CallA P F Pr f args H v H' ∧ Q v H'

/-- A call of a function whose code is told. -/
theorem call_intro {f : FuncId} {fn : Func} {c : Code} {args : Array Value} {H : Heap} {Q : Value → Heap → Prop} (hF : F f = true) (hf : P.funcs[f]? = some fn) (hc : fn.body = some c)
    (h : codeW P (CallA P F Pr) c (retP fn Q) (enterA fn args) H) : callW P F Pr f args H Q := by
  obtain ⟨e, T1, H1, ⟨he, v, hv, q⟩, h1⟩ := codeW_exact c _ _ h
  refine ⟨v, H1, fun R hR => hR.2 f fn c args H v H1 hF hf hc (codeW_mono (fun _ _ _ _ _ h => h R hR) c (fun e' T' H' h => ?_) _ _ h1), q⟩
  obtain ⟨rfl, rfl, rfl⟩ := h
  exact ⟨he, v, hv, rfl, rfl⟩

theorem call_prim (hm : ∀ R R' : CallR, (∀ f a H v H', R f a H v H' → R' f a H v H') → ∀ f a H v H', Pr R f a H v H' → Pr R' f a H v H') {f : FuncId} {args : Array Value} {H H' : Heap} {v : Value}
    (h : Pr (CallA P F Pr) f args H v H') : CallA P F Pr f args H v H' := fun R hR => hR.1 _ _ _ _ _ (hm _ _ (fun _ _ _ _ _ h => h R hR) _ _ _ _ _ h)

/-- The rule of the loop: an invariant, and what grows less. -/
theorem loop_intro {c : Code} {Q : Post} {T : Tmps} {H : Heap} (I : Nat → Tmps → Heap → Prop) (n : Nat) (h0 : I n T H)
    (h : ∀ n T H, I n T H → codeW P C c (thenE (fun T H => ∃ m, m < n ∧ I m T H) Q) T H) : codeW P C (.loop c) Q T H := by
  intro J hJ
  have key : ∀ n T H, I n T H → J T H := by
    intro n
    induction n using Nat.strongRecOn with
    | _ n ih =>
      intro T H hI
      refine hJ _ _ (codeW_mono (fun _ _ _ _ _ h => h) c (fun e T H h => ?_) _ _ (h n T H hI))
      cases e with
      | normal =>
        obtain ⟨m, hm, h⟩ := h
        exact ih m hm T H h
      | exit id => exact h
      | ret => exact h
  exact key n T H h0

/-- One round more. -/
theorem loop_unroll {c : Code} {Q : Post} {T : Tmps} {H : Heap} (h : codeW P C c (thenE (codeW P C (.loop c) Q) Q) T H) : codeW P C (.loop c) Q T H := fun I hI =>
  hI _ _ (codeW_mono (fun _ _ _ _ _ h => h) c (fun e T H h => by
    cases e with
    | normal => exact h I hI
    | exit id => exact h
    | ret => exact h) _ _ h)

/-- The order of the text will do where nothing is read beside an effect. -/
theorem draw_of_text_go {ops : Array Oper} {Q : Tmps → Heap → Prop} : ∀ (l : List Oper) (k : Nat) (T : Tmps) (H : Heap), (∀ j, l[j]? = ops[k + j]?) → opsW P C ops Q l T H →
    ∃ (Ts : Nat → Tmps) (Ks : Nat → Heap), Ts k = T ∧ Ks k = H ∧ (∀ i o, k ≤ i → ops[i]? = some o → stepR P C ops o (Ts i) (Ks i) (Ts (i + 1)) (Ks (i + 1))) ∧ Q (Ts (k + l.length)) (Ks (k + l.length))
  | [], k, T, H, hl, h => ⟨fun _ => T, fun _ => H, rfl, rfl, fun i o hi ho => by
      have := hl (i - k)
      rw [show k + (i - k) = i from by omega, ho] at this
      simp at this, h⟩
  | o :: l, k, T, H, hl, h => by
    have h0 : ops[k]? = some o := by simpa using (hl 0).symm
    have hl' : ∀ j, l[j]? = ops[k + 1 + j]? := fun j => by
      have := hl (j + 1)
      rw [show k + (j + 1) = k + 1 + j from by omega] at this
      simpa using this
    have fin : ∀ T1 H1, stepR P C ops o T H T1 H1 → opsW P C ops Q l T1 H1 → ∃ (Ts : Nat → Tmps) (Ks : Nat → Heap), Ts k = T ∧ Ks k = H ∧ (∀ i o, k ≤ i → ops[i]? = some o → stepR P C ops o (Ts i) (Ks i) (Ts (i + 1)) (Ks (i + 1))) ∧ Q (Ts (k + (o :: l).length)) (Ks (k + (o :: l).length)) := by
      intro T1 H1 hs h1
      obtain ⟨Ts, Ks, e1, e2, e3, e4⟩ := draw_of_text_go l (k + 1) T1 H1 hl' h1
      refine ⟨fun i => if i ≤ k then T else Ts i, fun i => if i ≤ k then H else Ks i, by simp, by simp, fun i o' hi ho => ?_, ?_⟩
      · by_cases hik : i = k
        · subst hik
          rw [h0] at ho; cases ho
          simp only [Nat.le_refl, if_true, show ¬ (i + 1 ≤ i) from by omega, if_false, e1, e2]
          exact hs
        · simp only [show ¬ (i ≤ k) from by omega, show ¬ (i + 1 ≤ k) from by omega, if_false]
          exact e3 i o' (by omega) ho
      · simp only [List.length_cons, show ¬ (k + (l.length + 1) ≤ k) from by omega, if_false]
        rw [show k + (l.length + 1) = k + 1 + l.length from by omega]
        exact e4
    simp only [opsW] at h
    split at h
    · rename_i e
      obtain ⟨v, H', h1, h2⟩ := h
      exact fin _ H' (by unfold stepR; rw [e]; exact ⟨v, h1, rfl⟩) h2
    · rename_i e
      exact fin _ H (by unfold stepR; rw [e]; exact ⟨rfl, rfl⟩) h
    · exact h.elim

theorem draw_of_text {ops : Array Oper} {Q : Tmps → Heap → Prop} {T : Tmps} {H : Heap} (hp : pairsD ops = []) (h : opsW P C ops Q ops.toList T H) : drawW P C ops Q T H := by
  obtain ⟨Ts, Ks, e1, e2, e3, e4⟩ := draw_of_text_go ops.toList 0 T H (fun j => by simp) h
  refine ⟨Ts, Ks, e1, e2, fun i o ho => e3 i o (Nat.zero_le _) ho, by simp [hp], ?_⟩
  simpa using e4
end
end Go.AH
