/-
  AH: code and calls, proved sound against the model.
-/
import Derived.Test.YtllmlcmhmkkgcaaLib1
import Derived.Lib.Bytealg
import Derived.Laws.Externs

/-
  AH: every operation that is no call: what the model does where AH does something.
-/
namespace Go.AH
open Go
variable {P : Program} {M : Mp} {H H' : Heap} {W : World}

theorem PR.of {r r' : Operand → Value} (hr : ∀ x, VR P M (r x) (r' x)) : ∀ (l : List (Nat × Operand)), (l.all fun p => noTuple (r p.2)) = true → PR P M (l.map fun p => (p.1, r p.2)) (l.map fun p => (p.1, r' p.2))
  | [], _ => .nil
  | p :: l, h => by
    simp only [List.all_cons, Bool.and_eq_true] at h
    refine .cons (fun e => ?_) (hr _) (PR.of hr l h.2)
    rw [e] at h
    simp [noTuple, junk] at h

theorem LR.of {r r' : Operand → Value} (hr : ∀ x, VR P M (r x) (r' x)) : ∀ (l : List Operand), LR P M (l.map r) (l.map r')
  | [] => .nil
  | _ :: l => .cons (hr _) (LR.of hr l)

theorem OVR.of {r r' : Operand → Value} (hr : ∀ x, VR P M (r x) (r' x)) (x : Option Operand) : OVR P M (x.map r) (x.map r') := by
  cases x
  · trivial
  · exact hr _

theorem map_pair {x : Option Value} {v : Value} (h : x.map (·, H) = some (v, H')) : x = some v ∧ H' = H := by
  cases x with
  | none => simp at h
  | some u => simp only [Option.map_some, Option.some.injEq, Prod.mk.injEq] at h; exact ⟨by rw [h.1], h.2.symm⟩

theorem sim_builtin (R : Rel P M H W) {b : Builtin} {ts : Array TypeId} {ty : TypeId} {consts : Array Bool} {l l' : List Value} {v : Value} (hl : LR P M l l') (h : builtinA P H b ts.toList l = some (v, H')) : OpSim P M H W (builtin b ts ty consts l'.toArray) v H' := by
  obtain ⟨ts⟩ := ts
  unfold builtinA at h
  split at h
  · rename_i t0 t1 s x hts
    simp only at hts
    subst hts
    cases hl with | cons h1 r => cases r with | cons h2 r => cases r with | nil =>
    split at h
    · rename_i r hr
      cases h
      exact (sim_append (ty := ty) R h1 h2 hr).op
    · exact (sim_appendI (ty := ty) R h1 h2 h).op
  · rename_i t x hts
    simp only at hts
    subst hts
    cases hl with | cons h1 r => cases r with | nil =>
    cases hq : lenA P H t x with
    | none => simp [hq] at h
    | some u =>
      simp only [hq, Option.map_some, Option.some.injEq, Prod.mk.injEq] at h
      obtain ⟨rfl, rfl⟩ := h
      exact (sim_len (ty := ty) R h1 hq).op
  · rename_i t x hts
    simp only at hts
    subst hts
    cases hl with | cons h1 r => cases r with | nil =>
    cases hq : clearA P H t x with
    | none => simp [hq] at h
    | some u =>
      simp only [hq, Option.map_some, Option.some.injEq, Prod.mk.injEq] at h
      obtain ⟨rfl, rfl⟩ := h
      exact (sim_clear (ty := ty) R h1 hq).op
  · rename_i t x hts
    simp only at hts
    subst hts
    cases hl with | cons h1 r => cases r with | nil =>
    obtain ⟨hq, rfl⟩ := map_pair h
    exact (sim_cap (ty := ty) R h1 hq).op
  · obtain ⟨hq, rfl⟩ := map_pair h
    exact (sim_min R hl hq _ _).op
  · obtain ⟨hq, rfl⟩ := map_pair h
    exact (sim_max R hl hq _ _).op
  · cases h

theorem sim_op (R : Rel P M H W) {r r' : Operand → Value} (hr : ∀ x, VR P M (r x) (r' x)) (o : Oper) {v : Value} (h : opA P r o.op H = some (v, H')) : OpSim P M H W (execOp r' o) v H' := by
  obtain ⟨dst, op, type, pos, after, guard⟩ := o
  simp only at h
  have mp : ∀ {x : Option Value}, x.map (·, H) = some (v, H') → x = some v ∧ H' = H := by
    intro x hx
    cases x with
    | none => simp at hx
    | some u => simp only [Option.map_some, Option.some.injEq, Prod.mk.injEq] at hx; exact ⟨by rw [hx.1], hx.2.symm⟩
  have mu : ∀ {x : Option Heap}, x.map (undef, ·) = some (v, H') → x = some H' ∧ v = undef := by
    intro x hx
    cases x with
    | none => simp at hx
    | some u => simp only [Option.map_some, Option.some.injEq, Prod.mk.injEq] at hx; exact ⟨by rw [hx.2], hx.1.symm⟩
  cases op with
  | move x => simp only [opA, Option.some.injEq, Prod.mk.injEq] at h; obtain ⟨rfl, rfl⟩ := h; exact ⟨_, W, _, M, rfl, .inl rfl, hr x, Step.refl R⟩
  | assign x => simp only [opA, Option.some.injEq, Prod.mk.injEq] at h; obtain ⟨rfl, rfl⟩ := h; exact ⟨_, W, _, M, rfl, .inl rfl, hr x, Step.refl R⟩
  | pick c a b => obtain ⟨h1, rfl⟩ := mp h; exact sim_pick R (hr c) (hr a) (hr b) h1
  | alloc t =>
    simp only [opA] at h
    cases hz : zeroA P t with
    | none => simp [hz] at h
    | some c => simp only [hz, Option.map_some, Option.some.injEq] at h; have := (sim_alloc R hz).op; rw [h] at this; exact this
  | box t x =>
    simp only [opA] at h
    split at h
    · rename_i hn
      simp only [Option.some.injEq] at h
      have hj : r x ≠ junk := fun e => by rw [e] at hn; simp [noTuple, junk] at hn
      have := (sim_box R t hj (hr x)).op; rw [h] at this; exact this
    · cases h
  | build t ps =>
    simp only [opA] at h
    split at h
    · rename_i hn
      obtain ⟨h1, rfl⟩ := mp h
      have hp := PR.of hr ps.toList hn
      have : ps.toList.map (fun p => (p.1, r p.2)) = (ps.map fun p => (p.1, r p.2)).toList := by simp
      rw [this] at h1 hp
      have : ps.toList.map (fun p => (p.1, r' p.2)) = (ps.map fun p => (p.1, r' p.2)).toList := by simp
      rw [this] at hp
      exact (sim_build R hp h1).op
    · cases h
  | buildSlice t n ps =>
    simp only [opA] at h
    split at h
    · rename_i hn
      have hp := PR.of hr ps.toList hn
      have : ps.toList.map (fun p => (p.1, r p.2)) = (ps.map fun p => (p.1, r p.2)).toList := by simp
      rw [this] at h hp
      have : ps.toList.map (fun p => (p.1, r' p.2)) = (ps.map fun p => (p.1, r' p.2)).toList := by simp
      rw [this] at hp
      exact (sim_buildSlice R hp h).op
    · cases h
  | insert t m k x => obtain ⟨h1, rfl⟩ := mu h; exact (sim_mapUpdate R (hr m) (hr k) (hr x) h1).op
  | load t a => obtain ⟨h1, rfl⟩ := mp h; exact (sim_load R (hr a) h1).op
  | store t a x => obtain ⟨h1, rfl⟩ := mu h; exact (sim_store R (hr a) (hr x) h1).op
  | ready g => simp [opA] at h
  | waits g => simp [opA] at h
  | nilCheck x => obtain ⟨h1, rfl⟩ := mp h; exact sim_nilCheck R (hr x) h1 _ r' x rfl rfl
  | binOp op t x y t2 => obtain ⟨h1, rfl⟩ := mp h; exact (sim_bin R (hr x) (hr y) h1 x y).op
  | unOp op t x => obtain ⟨h1, rfl⟩ := mp h; exact (sim_un R (hr x) h1).op
  | convert s d x => exact (sim_convert R (hr x) h).op
  | sliceToArrayPointer d x => simp [opA] at h
  | makeInterface t x => simp [opA] at h
  | makeFunc f first cap =>
    simp only [opA, Option.some.injEq, Prod.mk.injEq] at h
    obtain ⟨rfl, rfl⟩ := h
    have e1 : AR P M (first.map r) (first.map r') := ⟨by rw [Array.size_map, Array.size_map], fun i h1 h2 => by rw [Array.getElem_map, Array.getElem_map]; exact hr _⟩
    have e2 : AR P M (cap.map r) (cap.map r') := ⟨by rw [Array.size_map, Array.size_map], fun i h1 h2 => by rw [Array.getElem_map, Array.getElem_map]; exact hr _⟩
    exact (VSim.same R (v' := .func f (first.map r') (cap.map r')) rfl (.func e1.1 e2.1 e1.2 e2.2)).op
  | makeMap t x =>
    cases x with
    | none => exact (sim_makeMap R h).op
    | some x => simp [opA] at h
  | makeChan t s => simp [opA] at h
  | makeSlice t l c => exact (sim_makeSlice R (hr l) (hr c) h).op
  | slice t x lo hi mx => obtain ⟨h1, rfl⟩ := mp h; exact (sim_slice R (hr x) (OVR.of hr lo) (OVR.of hr hi) (OVR.of hr mx) h1).op
  | fieldAddr s x f => obtain ⟨h1, rfl⟩ := mp h; exact (sim_fieldAddr R (hr x) h1).op
  | field s x f => obtain ⟨h1, rfl⟩ := mp h; exact (sim_field R (hr x) h1).op
  | indexAddr t x i => obtain ⟨h1, rfl⟩ := mp h; exact (sim_indexAddr R (hr x) (hr i) h1).op
  | index t x i => obtain ⟨h1, rfl⟩ := mp h; exact (sim_index R (hr x) (hr i) h1).op
  | lookup t m k ok => obtain ⟨h1, rfl⟩ := mp h; exact (sim_lookup R (hr m) (hr k) h1).op
  | mapUpdate t m k x => obtain ⟨h1, rfl⟩ := mu h; exact (sim_mapUpdate R (hr m) (hr k) (hr x) h1).op
  | mapEntry t m k => exact (sim_mapEntry R (hr m) (hr k) h).op
  | entryStore t m s x => obtain ⟨h1, rfl⟩ := mu h; exact (sim_entryStore R (hr m) (hr s) (hr x) h1).op
  | range t x => simp [opA] at h
  | next x b => simp [opA] at h
  | entry x => simp [opA] at h
  | typeAssert x a b c => simp [opA] at h
  | extract x i => obtain ⟨h1, rfl⟩ := mp h; exact (sim_extract R (hr x) h1).op
  | call c =>
    obtain ⟨callee, args, argTypes⟩ := c
    cases callee with
    | value f => simp [opA] at h
    | invoke a b => simp [opA] at h
    | builtin b =>
      simp only [opA] at h
      obtain ⟨cs, e2⟩ : ∃ cs, execOp r' ⟨dst, .call ⟨.builtin b, args, argTypes⟩, type, pos, after, guard⟩ = builtin b argTypes type cs (args.map r') := ⟨_, rfl⟩
      have := sim_builtin (ty := type) (consts := cs) R (LR.of hr args.toList) h
      have e : (args.toList.map r').toArray = args.map r' := by rw [← Array.toList_map]
      rw [e] at this
      rw [e2]
      exact this
  | go c => simp [opA] at h
  | defer c => simp [opA] at h
  | panic x => simp [opA] at h
  | send a b => simp [opA] at h
  | recv a b c => simp [opA] at h
  | select a b => simp [opA] at h

end Go.AH

/-
  AH: regions, code and calls. A region runs in the order of its text; where the order is drawn, what is read beside an effect must be the same before and after it.
-/
namespace Go.AH
open Go

abbrev Tmps := Array Value
abbrev CallR := FuncId → Array Value → Heap → Value → Heap → Prop

def putA (T : Tmps) (d : Option Tmp) (v : Value) : Tmps :=
  match d with
  | some d => T.setIfInBounds d v
  | none => T

/-- Is the operation wanted? -/
def wantA (ops : Array Oper) (T : Tmps) (o : Oper) : Option Bool :=
  match o.guard with
  | none => some true
  | some (g, want) =>
    match (ops[g]?).bind (·.dst) with
    | none => none
    | some d =>
      match T.getD d undef with
      | .bool b => some (b == want)
      | .tuple cs => if cs.size = 0 then some false else none
      | _ => none

section
variable (P : Program)

/-- A function that can be entered. -/
def Ent (f : FuncId) : Prop := ∃ fn, P.funcs[f]? = some fn ∧ fn.body.isNone = false ∧ (fn.name == "runtime.NumGoroutine") = false

/-- What an operation does, calls with it. -/
def opR (C : CallR) (T : Tmps) (o : Op) (H : Heap) (v : Value) (H' : Heap) : Prop :=
  opA P (ev T) o H = some (v, H') ∨ ∃ g args, calleeA (ev T) o = some (g, args) ∧ C g args H v H'

def stepR (C : CallR) (ops : Array Oper) (o : Oper) (T : Tmps) (H : Heap) (T' : Tmps) (H' : Heap) : Prop :=
  match wantA ops T o with
  | some true => ∃ v, opR P C T o.op H v H' ∧ T' = putA T o.dst v
  | some false => T' = putA T o.dst undef ∧ H' = H
  | none => False

inductive Cls | pure | alloc | read | eff
  deriving DecidableEq

def clsB : Builtin → Cls
  | .len => .read
  | .min | .max | .cap => .pure
  | _ => .eff
def cls : Op → Cls
  | .move _ | .assign _ | .pick .. | .build .. | .nilCheck _ | .binOp .. | .unOp .. | .convert .. | .makeFunc .. | .fieldAddr .. | .field .. | .indexAddr .. | .index .. | .extract .. => .pure
  | .load .. | .slice .. | .lookup .. => .read
  | .alloc _ | .box .. | .buildSlice .. | .makeMap .. | .makeSlice .. => .alloc
  | .call { callee := .builtin b, .. } => clsB b
  | _ => .eff

def isEff (ops : Array Oper) (j : Nat) : Bool :=
  match ops[j]? with
  | some o => cls o.op == .eff
  | none => false
def isRead (ops : Array Oper) (j : Nat) : Bool :=
  match ops[j]? with
  | some o => cls o.op == .read
  | none => false

/-- The ancestors of each operation, as masks. -/
def ancRow (acc : List Nat) (o : Oper) : Nat := o.after.toList.foldl (fun s e => if Region.binds .any e then s ||| (2 ^ e.on ||| acc.getD e.on 0) else s) 0
def ancs (ops : List Oper) : List Nat := ops.foldl (fun acc o => acc ++ [ancRow acc o]) []

def mustB (ops : Array Oper) (x y : Oper) : Bool := (cls x.op == .eff && cls y.op == .eff) || !(x.apart ops y)

/-- The static look at a drawn region. -/
def okD (ops : Array Oper) : Bool :=
  let a := ancs ops.toList
  (List.range ops.size).all fun j =>
    match ops[j]? with
    | none => false
    | some y =>
      (y.after.toList.all fun e => !Region.binds .any e || e.on < j) &&
      (List.range j).all fun i =>
        match ops[i]? with
        | none => false
        | some x => !mustB ops x y || (a.getD j 0).testBit i

/-- What is read beside an effect: the read, and the state at which it must read the same. -/
def pairsD (ops : Array Oper) : List (Nat × Nat) :=
  let a := ancs ops.toList
  (List.range ops.size).flatMap fun i =>
    if isRead ops i then
      (List.range ops.size).filterMap fun j =>
        if isEff ops j then
          if j < i then (if (a.getD i 0).testBit j then none else some (i, j))
          else if i < j then (if (a.getD j 0).testBit i then none else some (i, j + 1)) else none
        else none
    else []

def vin1 (n : Nat) : Value → Bool
  | .pointer (some ⟨b, _, none⟩) | .slice (some ⟨b, _, none⟩) _ _ | .map (some b) => decide (b < n)
  | v => isBase v
/-- All blocks that the value tells of lie below n (a shallow look). -/
def vinB (n : Nat) : Value → Bool
  | .agg x | .tuple x => x.toList.all (vin1 n)
  | .func _ x y => x.toList.all (vin1 n) && y.toList.all (vin1 n)
  | .iface _ v => vin1 n v
  | v => vin1 n v

/-- It reads the same there. -/
def sameAt (ops : Array Oper) (T : Nat → Tmps) (K : Nat → Heap) (p : Nat × Nat) : Prop :=
  ∀ o, ops[p.1]? = some o → wantA ops (T p.1) o = some true → ∀ v H', opA P (ev (T p.1)) o.op (K p.1) = some (v, H') →
    opA P (ev (T p.1)) o.op (K p.2) = some (v, K p.2) ∧ vinB (K p.1).size v = true ∧ (o.op.operands.toList.all fun x => vinB (K p.2).size (ev (T p.1) x)) = true

/-- The blocks that a value tells of. -/
def Bk1 : Value → List Nat
  | .pointer (some ⟨b, _, none⟩) | .slice (some ⟨b, _, none⟩) _ _ | .map (some b) => [b]
  | _ => []
def Bk : Value → List Nat
  | .agg x => x.toList.flatMap Bk1
  | v => Bk1 v

/-- An effect ahead of the read: what is read was there already, or is newer and was not changed since. -/
def sameB (ops : Array Oper) (T : Nat → Tmps) (K : Nat → Heap) (p : Nat × Nat) : Prop :=
  p.2 < p.1 ∧ ∀ o, ops[p.1]? = some o → wantA ops (T p.1) o = some true →
    (∀ x ∈ o.op.operands.toList, ∀ b ∈ Bk (ev (T p.1) x), ∃ m, m ≤ p.1 ∧ (m = p.2 ∨ ∃ m', m = m' + 1 ∧ p.2 ≤ m' ∧ (K m').size ≤ b) ∧ b < (K m).size ∧ (K m)[b]? = (K p.1)[b]?) ∧
    ∀ v H', opA P (ev (T p.1)) o.op (K p.1) = some (v, H') → vinB (K p.1).size v = true
def same2 (ops : Array Oper) (T : Nat → Tmps) (K : Nat → Heap) (p : Nat × Nat) : Prop := sameAt P ops T K p ∨ sameB P ops T K p

inductive Ex | normal | exit (id : Nat) | ret
  deriving DecidableEq

abbrev Post := Ex → Tmps → Heap → Prop

/-- In the order of the text. -/
def opsW (C : CallR) (ops : Array Oper) (Q : Tmps → Heap → Prop) : List Oper → Tmps → Heap → Prop
  | [], T, H => Q T H
  | o :: l, T, H =>
    match wantA ops T o with
    | some true => ∃ v H', opR P C T o.op H v H' ∧ opsW C ops Q l (putA T o.dst v) H'
    | some false => opsW C ops Q l (putA T o.dst undef) H
    | none => False

def drawW (C : CallR) (ops : Array Oper) (Q : Tmps → Heap → Prop) (T : Tmps) (H : Heap) : Prop :=
  ∃ (Ts : Nat → Tmps) (Ks : Nat → Heap), Ts 0 = T ∧ Ks 0 = H ∧ (∀ i o, ops[i]? = some o → stepR P C ops o (Ts i) (Ks i) (Ts (i + 1)) (Ks (i + 1))) ∧ (∀ p ∈ pairsD ops, same2 P ops Ts Ks p) ∧ Q (Ts ops.size) (Ks ops.size)

def thenE (K : Tmps → Heap → Prop) (Q : Post) : Post := fun e T H =>
  match e with
  | .normal => K T H
  | e => Q e T H
def blockE (id : Nat) (Q : Post) : Post := fun e T H =>
  match e with
  | .exit id' => if id' = id then Q .normal T H else Q (.exit id') T H
  | e => Q e T H

def codeW (C : CallR) : Code → Post → Tmps → Heap → Prop
  | .skip, Q, T, H => Q .normal T H
  | .region _ ops draw, Q, T, H => if draw then drawW P C ops (Q .normal) T H else opsW P C ops (Q .normal) ops.toList T H
  | .seq a b, Q, T, H => codeW C a (thenE (codeW C b Q) Q) T H
  | .cond c a b, Q, T, H =>
    match ev T c with
    | .bool true => codeW C a Q T H
    | .bool false => codeW C b Q T H
    | _ => False
  | .block id c, Q, T, H => codeW C c (blockE id Q) T H
  | .loop c, Q, T, H => ∀ I : Tmps → Heap → Prop, (∀ T H, codeW C c (thenE I Q) T H → I T H) → I T H
  | .exit id, Q, T, H => Q (.exit id) T H
  | .ret, Q, T, H => Q .ret T H
  | _, _, _, _ => False

def okC : Code → Bool
  | .region _ ops true => okD ops
  | .seq a b | .cond _ a b => okC a && okC b
  | .block _ c | .loop c => okC c
  | _ => true

def resV (P : Program) (T : Tmps) (H : Heap) : ResultVar → Option Value
  | .tmp t => some (T.getD t undef)
  | .cell a t => loadA P t H (T.getD a undef)
def resVs (P : Program) (T : Tmps) (H : Heap) : List ResultVar → Option (List Value)
  | [] => some []
  | r :: l =>
    match resV P T H r, resVs P T H l with
    | some v, some vs => some (v :: vs)
    | _, _ => none
def one (x : Array Value) : Value := if h : x.size = 1 then x[0] else .tuple x
def resA (P : Program) (fn : Func) (T : Tmps) (H : Heap) : Option Value := (resVs P T H fn.results.toList).map fun l => one l.toArray

def retP (P : Program) (fn : Func) (Q : Value → Heap → Prop) : Post := fun e T H => (e = .normal ∨ e = .ret) ∧ ∃ v, resA P fn T H = some v ∧ Q v H

/-- The temporaries at a function's beginning. -/
def enterA (fn : Func) (args : Array Value) : Tmps := args ++ Array.replicate (fn.ntmps - args.size) undef

/-- What is closed under the calls of the functions that F tells, and of those that Pr tells. -/
def Clo (F : FuncId → Bool) (Pr : CallR → CallR) (R : CallR) : Prop :=
  (∀ f args H v H', Pr R f args H v H' → R f args H v H') ∧
  ∀ f fn c args H v H', F f = true → P.funcs[f]? = some fn → fn.body = some c → codeW P R c (retP P fn fun v1 H1 => v1 = v ∧ H1 = H') (enterA fn args) H → R f args H v H'

def CallA (F : FuncId → Bool) (Pr : CallR → CallR) : CallR := fun f args H v H' => ∀ R, Clo P F Pr R → R f args H v H'
end

/-! ### Monotone -/
section
variable {P : Program} {C C' : CallR}

theorem opR_mono (hC : ∀ f a H v H', C f a H v H' → C' f a H v H') {T : Tmps} {o : Op} {H : Heap} {v : Value} {H' : Heap} (h : opR P C T o H v H') : opR P C' T o H v H' :=
  h.imp id fun ⟨g, args, e, c⟩ => ⟨g, args, e, hC _ _ _ _ _ c⟩

theorem stepR_mono (hC : ∀ f a H v H', C f a H v H' → C' f a H v H') {ops : Array Oper} {o : Oper} {T T' : Tmps} {H H' : Heap} (h : stepR P C ops o T H T' H') : stepR P C' ops o T H T' H' := by
  unfold stepR at *
  split <;> simp_all
  exact ⟨_, opR_mono hC h.choose_spec.1, h.choose_spec.2⟩

theorem opsW_mono (hC : ∀ f a H v H', C f a H v H' → C' f a H v H') {ops : Array Oper} {Q Q' : Tmps → Heap → Prop} (hQ : ∀ T H, Q T H → Q' T H) : ∀ (l : List Oper) (T : Tmps) (H : Heap), opsW P C ops Q l T H → opsW P C' ops Q' l T H
  | [], T, H, h => hQ _ _ h
  | o :: l, T, H, h => by
    simp only [opsW] at h ⊢
    split
    · rename_i e
      rw [e] at h
      obtain ⟨v, H', h1, h2⟩ := h
      exact ⟨v, H', opR_mono hC h1, opsW_mono hC hQ l _ _ h2⟩
    · rename_i e
      rw [e] at h
      exact opsW_mono hC hQ l _ _ h
    · rename_i e
      rw [e] at h
      exact h

theorem drawW_mono (hC : ∀ f a H v H', C f a H v H' → C' f a H v H') {ops : Array Oper} {Q Q' : Tmps → Heap → Prop} (hQ : ∀ T H, Q T H → Q' T H) {T : Tmps} {H : Heap} (h : drawW P C ops Q T H) : drawW P C' ops Q' T H := by
  obtain ⟨Ts, Ks, a, b, c, d, e⟩ := h
  exact ⟨Ts, Ks, a, b, fun i o ho => stepR_mono hC (c i o ho), d, hQ _ _ e⟩

theorem codeW_mono (hC : ∀ f a H v H', C f a H v H' → C' f a H v H') : ∀ (c : Code) {Q Q' : Post}, (∀ e T H, Q e T H → Q' e T H) → ∀ (T : Tmps) (H : Heap), codeW P C c Q T H → codeW P C' c Q' T H := by
  intro c
  induction c with
  | skip => intro Q Q' hQ T H h; exact hQ _ _ _ h
  | region id ops draw =>
    intro Q Q' hQ T H h
    cases draw
    · exact opsW_mono hC (hQ _) _ _ _ h
    · exact drawW_mono hC (hQ _) h
  | seq a b iha ihb =>
    intro Q Q' hQ T H h
    refine iha (fun e T H h => ?_) T H h
    cases e
    · exact ihb hQ _ _ h
    · exact hQ _ _ _ h
    · exact hQ _ _ _ h
  | cond c a b iha ihb =>
    intro Q Q' hQ T H h
    simp only [codeW] at h ⊢
    split
    · rename_i e; rw [e] at h; exact iha hQ _ _ h
    · rename_i e; rw [e] at h; exact ihb hQ _ _ h
    · rename_i n1 n2
      split at h
      · rename_i e; exact (n1 e).elim
      · rename_i e; exact (n2 e).elim
      · exact h
  | block id c ih =>
    intro Q Q' hQ T H h
    refine ih (fun e T H h => ?_) T H h
    cases e with
    | normal => exact hQ _ _ _ h
    | ret => exact hQ _ _ _ h
    | exit id' =>
      simp only [blockE] at h ⊢
      split
      · rename_i e; rw [if_pos e] at h; exact hQ _ _ _ h
      · rename_i e; rw [if_neg e] at h; exact hQ _ _ _ h
  | loop c ih =>
    intro Q Q' hQ T H h I hI
    refine h I fun T H h => hI T H (ih (fun e T H h => ?_) T H h)
    cases e
    · exact h
    · exact hQ _ _ _ h
    · exact hQ _ _ _ h
  | exit id => intro Q Q' hQ T H h; exact hQ _ _ _ h
  | ret => intro Q Q' hQ T H h; exact hQ _ _ _ h
  | rangeFunc f p a b iha ihb => intro Q Q' hQ T H h; exact h
  | scope c ih => intro Q Q' hQ T H h; exact h
  | label l => intro Q Q' hQ T H h; exact h
  | goto l => intro Q Q' hQ T H h; exact h
  | refuse w => intro Q Q' hQ T H h; exact h

/-- One way only: what a piece of code comes to, it comes to at one place. -/
theorem opsW_exact {ops : Array Oper} {Q : Tmps → Heap → Prop} : ∀ (l : List Oper) (T : Tmps) (H : Heap), opsW P C ops Q l T H → ∃ T1 H1, Q T1 H1 ∧ opsW P C ops (fun T H => T = T1 ∧ H = H1) l T H
  | [], T, H, h => ⟨T, H, h, rfl, rfl⟩
  | o :: l, T, H, h => by
    simp only [opsW] at h ⊢
    split at h
    · obtain ⟨v, H', h1, h2⟩ := h
      obtain ⟨T1, H1, q, h3⟩ := opsW_exact l _ _ h2
      exact ⟨T1, H1, q, v, H', h1, h3⟩
    · obtain ⟨T1, H1, q, h3⟩ := opsW_exact l _ _ h
      exact ⟨T1, H1, q, h3⟩
    · exact h.elim

theorem codeW_exact : ∀ (c : Code) {Q : Post} (T : Tmps) (H : Heap), codeW P C c Q T H → ∃ e T1 H1, Q e T1 H1 ∧ codeW P C c (fun e' T' H' => e' = e ∧ T' = T1 ∧ H' = H1) T H := by
  have idC : ∀ f a H v H', C f a H v H' → C f a H v H' := fun _ _ _ _ _ h => h
  intro c
  induction c with
  | skip => intro Q T H h; exact ⟨_, _, _, h, rfl, rfl, rfl⟩
  | region id ops draw =>
    intro Q T H h
    cases draw
    · obtain ⟨T1, H1, q, h⟩ := opsW_exact _ _ _ h
      exact ⟨_, T1, H1, q, opsW_mono idC (fun T H h => ⟨rfl, h⟩) _ _ _ h⟩
    · obtain ⟨Ts, Ks, a, b, c, d, e⟩ := h
      exact ⟨_, _, _, e, Ts, Ks, a, b, c, d, rfl, rfl, rfl⟩
  | seq a b iha ihb =>
    intro Q T H h
    obtain ⟨e, T1, H1, q, h1⟩ := iha _ _ h
    cases e with
    | normal =>
      obtain ⟨e2, T2, H2, q2, h2⟩ := ihb _ _ q
      refine ⟨e2, T2, H2, q2, codeW_mono idC a (fun e T H h => ?_) _ _ h1⟩
      obtain ⟨rfl, rfl, rfl⟩ := h
      exact h2
    | exit id =>
      refine ⟨_, T1, H1, q, codeW_mono idC a (fun e T H h => ?_) _ _ h1⟩
      obtain ⟨rfl, rfl, rfl⟩ := h
      exact ⟨rfl, rfl, rfl⟩
    | ret =>
      refine ⟨_, T1, H1, q, codeW_mono idC a (fun e T H h => ?_) _ _ h1⟩
      obtain ⟨rfl, rfl, rfl⟩ := h
      exact ⟨rfl, rfl, rfl⟩
  | cond c a b iha ihb =>
    intro Q T H h
    simp only [codeW] at h ⊢
    split at h
    · exact iha _ _ h
    · exact ihb _ _ h
    · exact h.elim
  | block id c ih =>
    intro Q T H h
    obtain ⟨e, T1, H1, q, h1⟩ := ih _ _ h
    cases e with
    | normal =>
      refine ⟨_, T1, H1, q, codeW_mono idC c (fun e T H h => ?_) _ _ h1⟩
      obtain ⟨rfl, rfl, rfl⟩ := h
      exact ⟨rfl, rfl, rfl⟩
    | ret =>
      refine ⟨_, T1, H1, q, codeW_mono idC c (fun e T H h => ?_) _ _ h1⟩
      obtain ⟨rfl, rfl, rfl⟩ := h
      exact ⟨rfl, rfl, rfl⟩
    | exit id' =>
      simp only [blockE] at q
      split at q
      · rename_i hid
        refine ⟨_, T1, H1, q, codeW_mono idC c (fun e T H h => ?_) _ _ h1⟩
        obtain ⟨rfl, rfl, rfl⟩ := h
        simp [blockE, hid]
      · rename_i hid
        refine ⟨_, T1, H1, q, codeW_mono idC c (fun e T H h => ?_) _ _ h1⟩
        obtain ⟨rfl, rfl, rfl⟩ := h
        simp [blockE, hid]
  | loop c ih =>
    intro Q T H h
    refine h (fun T H => ∃ e T1 H1, Q e T1 H1 ∧ codeW P C (.loop c) (fun e' T' H' => e' = e ∧ T' = T1 ∧ H' = H1) T H) fun T H h => ?_
    obtain ⟨e, T1, H1, q, h1⟩ := ih _ _ h
    cases e with
    | normal =>
      obtain ⟨e2, T2, H2, q2, h2⟩ := q
      refine ⟨e2, T2, H2, q2, fun I hI => hI _ _ (codeW_mono idC c (fun e T H h => ?_) _ _ h1)⟩
      obtain ⟨rfl, rfl, rfl⟩ := h
      exact h2 I hI
    | exit id =>
      refine ⟨_, T1, H1, q, fun I hI => hI _ _ (codeW_mono idC c (fun e T H h => ?_) _ _ h1)⟩
      obtain ⟨rfl, rfl, rfl⟩ := h
      exact ⟨rfl, rfl, rfl⟩
    | ret =>
      refine ⟨_, T1, H1, q, fun I hI => hI _ _ (codeW_mono idC c (fun e T H h => ?_) _ _ h1)⟩
      obtain ⟨rfl, rfl, rfl⟩ := h
      exact ⟨rfl, rfl, rfl⟩
  | exit id => intro Q T H h; exact ⟨_, _, _, h, rfl, rfl, rfl⟩
  | ret => intro Q T H h; exact ⟨_, _, _, h, rfl, rfl, rfl⟩
  | rangeFunc f p a b iha ihb => intro Q T H h; exact h.elim
  | scope c ih => intro Q T H h; exact h.elim
  | label l => intro Q T H h; exact h.elim
  | goto l => intro Q T H h; exact h.elim
  | refuse w => intro Q T H h; exact h.elim

variable {F : FuncId → Bool} {Pr : CallR → CallR}

/-- A call, with what is asked of its end. -/
def callW (P : Program) (F : FuncId → Bool) (Pr : CallR → CallR) (f : FuncId) (args : Array Value) (H : Heap) (Q : Value → Heap → Prop) : Prop := ∃ v H', CallA P F Pr f args H v H' ∧ Q v H'

/-- A call of a function whose code is told. -/
theorem call_intro {f : FuncId} {fn : Func} {c : Code} {args : Array Value} {H : Heap} {Q : Value → Heap → Prop} (hF : F f = true) (hf : P.funcs[f]? = some fn) (hc : fn.body = some c)
    (h : codeW P (CallA P F Pr) c (retP P fn Q) (enterA fn args) H) : callW P F Pr f args H Q := by
  obtain ⟨e, T1, H1, ⟨he, v, hv, q⟩, h1⟩ := codeW_exact c _ _ h
  refine ⟨v, H1, fun R hR => hR.2 f fn c args H v H1 hF hf hc (codeW_mono (fun _ _ _ _ _ h => h R hR) c (fun e' T' H' h => ?_) _ _ h1), q⟩
  obtain ⟨rfl, rfl, rfl⟩ := h
  exact ⟨he, v, hv, rfl, rfl⟩

theorem call_prim (hm : ∀ R R' : CallR, (∀ f a H v H', R f a H v H' → R' f a H v H') → ∀ f a H v H', Pr R f a H v H' → Pr R' f a H v H') {f : FuncId} {args : Array Value} {H H' : Heap} {v : Value}
    (h : Pr (CallA P F Pr) f args H v H') : CallA P F Pr f args H v H' := fun R hR => hR.1 _ _ _ _ _ (hm _ _ (fun _ _ _ _ _ h => h R hR) _ _ _ _ _ h)

/-- The rule of the loop: an invariant, and what grows less. -/
theorem loop_intro {c : Code} {Q : Post} {T : Tmps} {H : Heap} (I : Nat → Tmps → Heap → Prop) (n : Nat) (h0 : I n T H)
    (h : ∀ n T H, I n T H → codeW P C c (thenE (fun T H => ∃ m, m < n ∧ I m T H) Q) T H) : codeW P C (.loop c) Q T H := by
  intro J hJ
  have key : ∀ n T H, I n T H → J T H := by
    intro n
    induction n using Nat.strongRecOn with
    | _ n ih =>
      intro T H hI
      refine hJ _ _ (codeW_mono (fun _ _ _ _ _ h => h) c (fun e T H h => ?_) _ _ (h n T H hI))
      cases e with
      | normal =>
        obtain ⟨m, hm, h⟩ := h
        exact ih m hm T H h
      | exit id => exact h
      | ret => exact h
  exact key n T H h0

/-- One round more. -/
theorem loop_unroll {c : Code} {Q : Post} {T : Tmps} {H : Heap} (h : codeW P C c (thenE (codeW P C (.loop c) Q) Q) T H) : codeW P C (.loop c) Q T H := fun I hI =>
  hI _ _ (codeW_mono (fun _ _ _ _ _ h => h) c (fun e T H h => by
    cases e with
    | normal => exact h I hI
    | exit id => exact h
    | ret => exact h) _ _ h)

/-- The order of the text will do where nothing is read beside an effect. -/
theorem draw_of_text_go {ops : Array Oper} {Q : Tmps → Heap → Prop} : ∀ (l : List Oper) (k : Nat) (T : Tmps) (H : Heap), (∀ j, l[j]? = ops[k + j]?) → opsW P C ops Q l T H →
    ∃ (Ts : Nat → Tmps) (Ks : Nat → Heap), Ts k = T ∧ Ks k = H ∧ (∀ i o, k ≤ i → ops[i]? = some o → stepR P C ops o (Ts i) (Ks i) (Ts (i + 1)) (Ks (i + 1))) ∧ Q (Ts (k + l.length)) (Ks (k + l.length))
  | [], k, T, H, hl, h => ⟨fun _ => T, fun _ => H, rfl, rfl, fun i o hi ho => by
      have := hl (i - k)
      rw [show k + (i - k) = i from by omega, ho] at this
      simp at this, h⟩
  | o :: l, k, T, H, hl, h => by
    have h0 : ops[k]? = some o := by simpa using (hl 0).symm
    have hl' : ∀ j, l[j]? = ops[k + 1 + j]? := fun j => by
      have := hl (j + 1)
      rw [show k + (j + 1) = k + 1 + j from by omega] at this
      simpa using this
    have fin : ∀ T1 H1, stepR P C ops o T H T1 H1 → opsW P C ops Q l T1 H1 → ∃ (Ts : Nat → Tmps) (Ks : Nat → Heap), Ts k = T ∧ Ks k = H ∧ (∀ i o, k ≤ i → ops[i]? = some o → stepR P C ops o (Ts i) (Ks i) (Ts (i + 1)) (Ks (i + 1))) ∧ Q (Ts (k + (o :: l).length)) (Ks (k + (o :: l).length)) := by
      intro T1 H1 hs h1
      obtain ⟨Ts, Ks, e1, e2, e3, e4⟩ := draw_of_text_go l (k + 1) T1 H1 hl' h1
      refine ⟨fun i => if i ≤ k then T else Ts i, fun i => if i ≤ k then H else Ks i, by simp, by simp, fun i o' hi ho => ?_, ?_⟩
      · by_cases hik : i = k
        · subst hik
          rw [h0] at ho; cases ho
          simp only [Nat.le_refl, if_true, show ¬ (i + 1 ≤ i) from by omega, if_false, e1, e2]
          exact hs
        · simp only [show ¬ (i ≤ k) from by omega, show ¬ (i + 1 ≤ k) from by omega, if_false]
          exact e3 i o' (by omega) ho
      · simp only [List.length_cons, show ¬ (k + (l.length + 1) ≤ k) from by omega, if_false]
        rw [show k + (l.length + 1) = k + 1 + l.length from by omega]
        exact e4
    simp only [opsW] at h
    split at h
    · rename_i e
      obtain ⟨v, H', h1, h2⟩ := h
      exact fin _ H' (by unfold stepR; rw [e]; exact ⟨v, h1, rfl⟩) h2
    · rename_i e
      exact fin _ H (by unfold stepR; rw [e]; exact ⟨rfl, rfl⟩) h
    · exact h.elim

theorem draw_of_text {ops : Array Oper} {Q : Tmps → Heap → Prop} {T : Tmps} {H : Heap} (hp : pairsD ops = []) (h : opsW P C ops Q ops.toList T H) : drawW P C ops Q T H := by
  obtain ⟨Ts, Ks, e1, e2, e3, e4⟩ := draw_of_text_go ops.toList 0 T H (fun j => by simp) h
  refine ⟨Ts, Ks, e1, e2, fun i o ho => e3 i o (Nat.zero_le _) ho, by simp [hp], ?_⟩
  simpa using e4
end
end Go.AH

/-
  AH: steps seen through a part of the heap; the classes of the operations.
-/
namespace Go.AH
open Go
variable {P : Program} {M M' M'' : Mp} {H H' X X' Y Y' : Heap} {W W' W'' : World}

/-- A step, told of what the map tells alone. -/
structure PStep (P : Program) (M : Mp) (H : Heap) (W : World) (M' : Mp) (H' : Heap) (W' : World) : Prop where
  rel : Rel P M' H' W'
  ext : MLe M M'
  new : ∀ b τ, M' b = some τ → M b = none → (W.heap.size ≤ τ.b ∨ ∃ b0 τ0, M b0 = some τ0 ∧ τ0.b = τ.b ∧ ¬ Ro H b0 ∧ ¬ Dead H b0)
  ro : ∀ b τ, M b = some τ → Ro H b → H'[b]? = H[b]?
  rw : ∀ b τ, M b = some τ → ¬ Ro H b → ¬ Ro H' b
  dead : ∀ b τ, M b = some τ → Dead H b → Dead H' b
  aframe : ∀ k, k < W.heap.size → (∀ b τ, M b = some τ → τ.b = k → Ro H b ∨ Dead H b) → W'.heap[k]? = W.heap[k]?
  wsize : W.heap.size ≤ W'.heap.size
  os : W'.os = W.os
  tape : W'.tape = W.tape
  output : W'.output = W.output
  drawn : W.drawn ≤ W'.drawn

theorem PStep.step (_ : Rel P M H W) (p : PStep P M H W M' H' W') (hs : H.size ≤ H'.size) (hn : ∀ b τ, M' b = some τ → M b = none → H.size ≤ b ∧ b < H'.size) (hc : ∀ b, b < H.size → M b = none → H'[b]? = H[b]?) :
    Step P M H W M' H' W' := by
  refine ⟨p.rel, p.ext, hs, fun b τ h h0 => ⟨(hn b τ h h0).1, (hn b τ h h0).2, p.new b τ h h0⟩, fun b hb h => ?_, fun b hb h => ?_, fun b hb h => ?_, hc, p.aframe, p.wsize, p.os, p.tape, p.output, p.drawn⟩
  · cases hm : M b with
    | none => exact hc b hb hm
    | some τ => exact p.ro b τ hm h
  · cases hm : M b with
    | none => rw [ro_of_get (hc b hb hm)]; exact h
    | some τ => exact p.rw b τ hm h
  · cases hm : M b with
    | none => rw [dead_of_get (hc b hb hm)]; exact h
    | some τ => exact p.dead b τ hm h

theorem PStep.trans (s : PStep P M H W M' H' W') (t : PStep P M' H' W' M'' X W'') : PStep P M H W M'' X W'' where
  rel := t.rel
  ext := s.ext.trans t.ext
  new := fun b τ h h0 => by
    cases h1 : M' b with
    | none =>
      rcases t.new b τ h h1 with a3 | ⟨b0, τ0, e0, e1, e2, e3⟩
      · exact .inl (Nat.le_trans s.wsize a3)
      · cases hm : M b0 with
        | none =>
          rcases s.new b0 τ0 e0 hm with c3 | ⟨b9, τ9, f0, f1, f2⟩
          · exact .inl (e1 ▸ c3)
          · exact .inr ⟨b9, τ9, f0, f1.trans e1, f2⟩
        | some τ9 =>
          have e9 := s.ext _ _ hm
          rw [e0] at e9
          cases e9
          exact .inr ⟨b0, τ0, hm, e1, fun hr => e2 ((ro_of_get (s.ro b0 _ hm hr)).2 hr), fun hd => e3 (s.dead b0 _ hm hd)⟩
    | some τ1 =>
      have e1 := t.ext _ _ h1
      rw [h] at e1
      cases e1
      exact s.new b _ h1 h0
  ro := fun b τ hb h => by
    have h1 := s.ro b τ hb h
    exact (t.ro b τ (s.ext _ _ hb) ((ro_of_get h1).2 h)).trans h1
  rw := fun b τ hb h => t.rw b τ (s.ext _ _ hb) (s.rw b τ hb h)
  dead := fun b τ hb h => t.dead b τ (s.ext _ _ hb) (s.dead b τ hb h)
  aframe := fun k hk h => by
    refine (t.aframe k (Nat.lt_of_lt_of_le hk s.wsize) fun b τ hb e => ?_).trans (s.aframe k hk h)
    cases hm : M b with
    | none =>
      rcases s.new b τ hb hm with a3 | ⟨b0, τ0, e0, e1, e2, e3⟩
      · omega
      · rcases h b0 τ0 e0 (e1.trans e) with h | h
        · exact absurd h e2
        · exact absurd h e3
    | some τ0 =>
      have e0 := s.ext _ _ hm
      rw [hb] at e0
      cases e0
      rcases h b τ hm e with hr | hd
      · exact .inl ((ro_of_get (s.ro b τ hm hr)).2 hr)
      · exact .inr (s.dead b τ hm hd)
  wsize := Nat.le_trans s.wsize t.wsize
  os := t.os.trans s.os
  tape := t.tape.trans s.tape
  output := t.output.trans s.output
  drawn := Nat.le_trans s.drawn t.drawn

def restr (M : Mp) (n : Nat) : Mp := fun b => if b < n then M b else none
def cup (M M' : Mp) : Mp := fun b => match M b with | some τ => some τ | none => M' b

theorem restr_some {n b : Nat} {τ : Tgt} : restr M n b = some τ ↔ b < n ∧ M b = some τ := by
  unfold restr
  by_cases h : b < n
  · rw [if_pos h]; exact ⟨fun e => ⟨h, e⟩, fun e => e.2⟩
  · rw [if_neg h]; exact ⟨fun e => (by cases e), fun e => absurd e.1 h⟩
theorem restr_none {n b : Nat} (hb : b < n) (h : M b = none) : restr M n b = none := by unfold restr; rw [if_pos hb, h]
theorem restr_ge {n b : Nat} (hb : n ≤ b) : restr M n b = none := by unfold restr; rw [if_neg (by omega)]
theorem cup_le : MLe M (cup M M') := fun b τ h => by unfold cup; rw [h]
theorem cup_inv {b : Nat} {τ : Tgt} (h : cup M M' b = some τ) : M b = some τ ∨ (M b = none ∧ M' b = some τ) := by
  unfold cup at h
  split at h
  · rename_i e; cases h; exact .inl e
  · rename_i e; exact .inr ⟨e, h⟩

theorem glue (R : Rel P M Y W) (hX : ∀ b τ, M b = some τ → b < X.size → X[b]? = Y[b]?) (st : Step P (restr M X.size) X W M' X' W')
    (hfree : ∀ b, X.size ≤ b → b < X'.size → M b = none) (hY1 : ∀ b τ, b < X'.size → cup M M' b = some τ → Y'[b]? = X'[b]?) (hY2 : ∀ b τ, X'.size ≤ b → M b = some τ → Y'[b]? = Y[b]?) :
    PStep P M Y W (cup M M') Y' W' := by
  -- what M' tells that is new
  have new' : ∀ b τ, M' b = some τ → restr M X.size b = none → X.size ≤ b ∧ b < X'.size := fun b τ h h0 => let ⟨a, b, _⟩ := st.new b τ h h0; ⟨a, b⟩
  -- what the join tells
  have inv : ∀ b τ, cup M M' b = some τ → (b < X'.size ∧ M' b = some τ) ∨ (X'.size ≤ b ∧ M b = some τ) := by
    intro b τ h
    rcases cup_inv h with h | ⟨h0, h⟩
    · by_cases hb : b < X.size
      · exact .inl ⟨Nat.lt_of_lt_of_le hb st.size, st.ext _ _ (restr_some.2 ⟨hb, h⟩)⟩
      · refine .inr ⟨?_, h⟩
        rcases Nat.lt_or_ge b X'.size with hb' | hb'
        · have := hfree b (by omega) hb'; rw [h] at this; cases this
        · exact hb'
    · refine .inl ⟨?_, h⟩
      rcases Nat.lt_or_ge b X.size with hb | hb
      · exact (new' b τ h (restr_none hb h0)).2
      · exact (new' b τ h (restr_ge hb)).2
  have le' : MLe M' (cup M M') := by
    intro b τ h
    cases hm : M b with
    | none => unfold cup; rw [hm]; exact h
    | some τ2 =>
      rcases Nat.lt_or_ge b X.size with hb | hb
      · have := st.ext _ _ (restr_some.2 ⟨hb, hm⟩)
        rw [h] at this; cases this
        exact cup_le _ _ hm
      · have := (new' b τ h (restr_ge hb)).2
        have := hfree b hb this
        rw [hm] at this; cases this
  have aY : ∀ {b τ}, M b = some τ → b < X.size → (Ro X b ↔ Ro Y b) ∧ (Dead X b ↔ Dead Y b) := fun h hb => ⟨ro_of_get (hX _ _ h hb), dead_of_get (hX _ _ h hb)⟩
  have aX : ∀ {b τ}, b < X'.size → cup M M' b = some τ → (Ro Y' b ↔ Ro X' b) ∧ (Dead Y' b ↔ Dead X' b) := fun hb h => ⟨ro_of_get (hY1 _ _ hb h), dead_of_get (hY1 _ _ hb h)⟩
  have aZ : ∀ {b τ}, X'.size ≤ b → M b = some τ → (Ro Y' b ↔ Ro Y b) ∧ (Dead Y' b ↔ Dead Y b) := fun hb h => ⟨ro_of_get (hY2 _ _ hb h), dead_of_get (hY2 _ _ hb h)⟩
  have wkeep : ∀ {b τ}, X'.size ≤ b → M b = some τ → ¬ Dead Y b → W'.heap[τ.b]? = W.heap[τ.b]? := by
    intro b τ hb h hd
    refine st.aframe τ.b (R.lt b τ h) fun b2 τ2 h2 e2 => ?_
    obtain ⟨hb2, h2⟩ := restr_some.1 h2
    have hs := st.size
    rcases R.inj b2 b τ2 τ h2 h e2 (by omega) with h3 | h3 | h3
    · exact .inr ((aY h2 hb2).2.2 h3)
    · exact absurd h3 hd
    · exact .inl ((aY h2 hb2).1.2 h3.1)
  have mixed : ∀ b1 b2 τ1 τ2, b1 < X'.size → M' b1 = some τ1 → X'.size ≤ b2 → M b2 = some τ2 → τ1.b = τ2.b → Dead Y' b1 ∨ Dead Y' b2 ∨ (Ro Y' b1 ∧ Ro Y' b2) := by
    intro b1 b2 τ1 τ2 l1 h1 l2 h2 e
    have c1 := le' _ _ h1
    cases hm : restr M X.size b1 with
    | some τ9 =>
      have := st.ext _ _ hm
      rw [h1] at this; cases this
      obtain ⟨hb1, hm⟩ := restr_some.1 hm
      have hs := st.size
      rcases R.inj b1 b2 τ1 τ2 hm h2 e (by omega) with h3 | h3 | h3
      · exact .inl ((aX l1 c1).2.2 (st.dead b1 hb1 ((aY hm hb1).2.2 h3)))
      · exact .inr (.inl ((aZ l2 h2).2.2 h3))
      · have hr := (aY hm hb1).1.2 h3.1
        exact .inr (.inr ⟨(aX l1 c1).1.2 ((ro_of_get (st.ro b1 hb1 hr)).2 hr), (aZ l2 h2).1.2 h3.2⟩)
    | none =>
      obtain ⟨a1, a2, a3⟩ := st.new b1 τ1 h1 hm
      rcases a3 with a3 | ⟨b0, τ0, e0, e1, e2, e3⟩
      · have := R.lt b2 τ2 h2; omega
      · obtain ⟨hb0, e0⟩ := restr_some.1 e0
        have hs := st.size
        rcases R.inj b0 b2 τ0 τ2 e0 h2 (e1.trans e) (by omega) with h3 | h3 | h3
        · exact absurd ((aY e0 hb0).2.2 h3) e3
        · exact .inr (.inl ((aZ l2 h2).2.2 h3))
        · exact absurd ((aY e0 hb0).1.2 h3.1) e2
  have dom : ∀ b τ, M b = some τ → b < X.size ∨ X'.size ≤ b := by
    intro b τ h
    rcases Nat.lt_or_ge b X.size with hb | hb
    · exact .inl hb
    · rcases Nat.lt_or_ge b X'.size with hb' | hb'
      · have := hfree b hb hb'; rw [h] at this; cases this
      · exact .inr hb'
  have hs := st.size
  refine ⟨⟨fun b τ h => ?_, fun b τ h => ?_, fun b1 b2 τ1 τ2 h1 h2 e hne => ?_⟩, cup_le, fun b τ h h0 => ?_, fun b τ h hr => ?_, fun b τ h hr => ?_, fun b τ h hd => ?_, fun k hk h => ?_, st.wsize, st.os, st.tape, st.output, st.drawn⟩
  · rcases inv b τ h with ⟨hb, h1⟩ | ⟨hb, h1⟩
    · obtain ⟨blk, g1, g2⟩ := st.rel.blk b τ h1
      exact ⟨blk, (hY1 b τ hb h).trans g1, g2.move le' rfl⟩
    · obtain ⟨blk, g1, g2⟩ := R.blk b τ h1
      refine ⟨blk, (hY2 b τ hb h1).trans g1, ?_⟩
      by_cases hd : Dead Y b
      · unfold Dead at hd; rw [g1] at hd; cases hd; trivial
      · exact g2.move cup_le (wkeep hb h1 hd)
  · rcases inv b τ h with ⟨hb, h1⟩ | ⟨hb, h1⟩
    · exact st.rel.lt b τ h1
    · exact Nat.lt_of_lt_of_le (R.lt b τ h1) st.wsize
  · rcases inv b1 τ1 h1 with ⟨l1, g1⟩ | ⟨l1, g1⟩ <;> rcases inv b2 τ2 h2 with ⟨l2, g2⟩ | ⟨l2, g2⟩
    · rw [(aX l1 h1).2, (aX l2 h2).2, (aX l1 h1).1, (aX l2 h2).1]
      exact st.rel.inj b1 b2 τ1 τ2 g1 g2 e hne
    · exact mixed b1 b2 τ1 τ2 l1 g1 l2 g2 e
    · rcases mixed b2 b1 τ2 τ1 l2 g2 l1 g1 e.symm with h3 | h3 | h3
      · exact .inr (.inl h3)
      · exact .inl h3
      · exact .inr (.inr ⟨h3.2, h3.1⟩)
    · rw [(aZ l1 g1).2, (aZ l2 g2).2, (aZ l1 g1).1, (aZ l2 g2).1]
      exact R.inj b1 b2 τ1 τ2 g1 g2 e hne
  · rcases cup_inv h with h1 | ⟨_, h1⟩
    · rw [h0] at h1; cases h1
    · have hr : restr M X.size b = none := by
        unfold restr; split
        · exact h0
        · rfl
      rcases (st.new b τ h1 hr).2.2 with a3 | ⟨b0, τ0, e0, e1, e2, e3⟩
      · exact .inl a3
      · obtain ⟨hb0, e0⟩ := restr_some.1 e0
        exact .inr ⟨b0, τ0, e0, e1, fun h => e2 ((aY e0 hb0).1.2 h), fun h => e3 ((aY e0 hb0).2.2 h)⟩
  · rcases dom b τ h with hb | hb
    · exact ((hY1 b τ (by omega) (cup_le _ _ h)).trans (st.ro b hb ((aY h hb).1.2 hr))).trans (hX b τ h hb)
    · exact hY2 b τ hb h
  · rcases dom b τ h with hb | hb
    · rw [(aX (by omega) (cup_le _ _ h)).1]
      exact st.rw b hb (fun h2 => hr ((aY h hb).1.1 h2))
    · rw [(aZ hb h).1]; exact hr
  · rcases dom b τ h with hb | hb
    · rw [(aX (by omega) (cup_le _ _ h)).2]
      exact st.dead b hb ((aY h hb).2.2 hd)
    · rw [(aZ hb h).2]; exact hd
  · refine st.aframe k hk fun b τ hb e => ?_
    obtain ⟨hb, h1⟩ := restr_some.1 hb
    rw [(aY h1 hb).1, (aY h1 hb).2]
    exact h b τ h1 e

/-! ### Bounds -/
/-- All blocks that a value tells of lie below n. -/
inductive VIn (n : Nat) : Value → Prop
  | base {v : Value} (h : isBase v = true) : VIn n v
  | junk : VIn n junk
  | ptr {b o : Nat} (h : b < n) : VIn n (.pointer (some ⟨b, o, none⟩))
  | sl {b o k c : Nat} (h : b < n) : VIn n (.slice (some ⟨b, o, none⟩) k c)
  | map {b : Nat} (h : b < n) : VIn n (.map (some b))
  | func {fn : Fn} {x y : Array Value} (h1 : ∀ i (h : i < x.size), VIn n x[i]) (h2 : ∀ i (h : i < y.size), VIn n y[i]) : VIn n (.func fn x y)
  | iface {t : TypeId} {v : Value} (h : VIn n v) : VIn n (.iface t v)
  | agg {x : Array Value} (h : ∀ i (h : i < x.size), VIn n x[i]) : VIn n (.agg x)
  | tuple {x : Array Value} (h : ∀ i (h : i < x.size), VIn n x[i]) : VIn n (.tuple x)

theorem VIn.undef {n : Nat} : VIn n undef := .tuple fun i h => by simp at h
theorem VIn.mono {n m : Nat} (hnm : n ≤ m) {v : Value} (h : VIn n v) : VIn m v := by
  induction h with
  | base h => exact .base h
  | junk => exact .junk
  | ptr h => exact .ptr (by omega)
  | sl h => exact .sl (by omega)
  | map h => exact .map (by omega)
  | func _ _ i1 i2 => exact .func i1 i2
  | iface _ i => exact .iface i
  | agg _ i => exact .agg i
  | tuple _ i => exact .tuple i

theorem VR.vin {n : Nat} (hM : ∀ b τ, M b = some τ → b < n) {v v' : Value} (h : VR P M v v') : VIn n v := by
  induction h with
  | junk v => exact .junk
  | base h => exact .base h
  | ptr h => exact .ptr (hM _ _ h)
  | sl h hc => exact .sl (hM _ _ h)
  | slU h hn hc hs => exact .sl (hM _ _ h)
  | slE h => exact .sl (hM _ _ h)
  | sl0 h => exact .sl (hM _ _ h)
  | map h => exact .map (hM _ _ h)
  | func hx hy _ _ i1 i2 => exact .func (fun i h => i1 i h (hx ▸ h)) (fun i h => i2 i h (hy ▸ h))
  | iface _ i => exact .iface i
  | agg hx _ i => exact .agg fun j h => i j h (hx ▸ h)
  | tuple hx _ i => exact .tuple fun j h => i j h (hx ▸ h)

theorem VR.low {n : Nat} {v v' : Value} (h : VR P M v v') (hn : VIn n v) : VR P (restr M n) v v' := by
  induction h with
  | junk v => exact .junk v
  | base h => exact .base h
  | ptr h =>
    cases hn with
    | base h => simp [isBase] at h
    | ptr hb => exact .ptr (restr_some.2 ⟨hb, h⟩)
  | sl h hc =>
    cases hn with
    | base h => simp [isBase] at h
    | sl hb => exact .sl (restr_some.2 ⟨hb, h⟩) hc
  | slU h h1 h2 h3 =>
    cases hn with
    | base h => simp [isBase] at h
    | sl hb => exact .slU (restr_some.2 ⟨hb, h⟩) h1 h2 h3
  | slE h =>
    cases hn with
    | base h => simp [isBase] at h
    | sl hb => exact .slE (restr_some.2 ⟨hb, h⟩)
  | sl0 h =>
    cases hn with
    | base h => simp [isBase] at h
    | sl hb => exact .sl0 (restr_some.2 ⟨hb, h⟩)
  | map h =>
    cases hn with
    | base h => simp [isBase] at h
    | map hb => exact .map (restr_some.2 ⟨hb, h⟩)
  | func hx hy _ _ i1 i2 =>
    cases hn with
    | base h => simp [isBase] at h
    | func g1 g2 => exact .func hx hy (fun i h h' => i1 i h h' (g1 i h)) (fun i h h' => i2 i h h' (g2 i h))
  | iface _ i =>
    cases hn with
    | base h => simp [isBase] at h
    | iface g => exact .iface (i g)
  | agg hx _ i =>
    cases hn with
    | base h => simp [isBase] at h
    | agg g => exact .agg hx fun j h h' => i j h h' (g j h)
  | @tuple x x' hx _ i =>
    generalize hv : Value.tuple x = v at hn
    cases hn with
    | base h => subst hv; simp [isBase] at h
    | junk => cases hv; exact .junk _
    | tuple g => cases hv; exact .tuple hx fun j h h' => i j h h' (g j h)
    | _ => cases hv

def BIn (n : Nat) : Blk → Prop
  | .cells c _ _ => ∀ (i : Nat) (v : Value), c[i]? = some v → VIn n v
  | .map _ es => ∀ (i : Nat) (k v : Value), es[i]? = some (k, v) → VIn n v
  | .dead => True

theorem BIn.mono {n m : Nat} (hnm : n ≤ m) {blk : Blk} (h : BIn n blk) : BIn m blk := by
  cases blk with
  | cells c t rw => exact fun i v e => (h i v e).mono hnm
  | map kt es => exact fun i k v e => (h i k v e).mono hnm
  | dead => trivial

theorem BR.bin {n : Nat} (hM : ∀ b τ, M b = some τ → b < n) {τ : Tgt} {blk : Blk} (h : BR P M W τ blk) : BIn n blk := by
  cases blk with
  | cells c t rw =>
    obtain ⟨c', t', fz, a1, a0, a2, a3, a4, a5⟩ := h
    exact fun i v e => by obtain ⟨v', _, r⟩ := a4.2 i v e; exact r.vin hM
  | map kt es =>
    obtain ⟨es', a1, a2, a3⟩ := h
    exact fun i k v e => by obtain ⟨e', _, _, r, _⟩ := a2.2 i k v e; exact r.vin hM
  | dead => trivial

theorem BR.low {n : Nat} {τ : Tgt} {blk : Blk} (h : BR P M W τ blk) (hn : BIn n blk) : BR P (restr M n) W τ blk := by
  cases blk with
  | cells c t rw =>
    obtain ⟨c', t', fz, a1, a0, a2, a3, a4, a5⟩ := h
    exact ⟨c', t', fz, a1, a0, a2, a3, ⟨a4.1, fun i v e => by obtain ⟨v', e', r⟩ := a4.2 i v e; exact ⟨v', e', r.low (hn i v e)⟩⟩, a5⟩
  | map kt es =>
    obtain ⟨es', a1, a2, a3⟩ := h
    exact ⟨es', a1, ⟨a2.1, fun i k v e => by obtain ⟨e', x1, x2, r, x3⟩ := a2.2 i k v e; exact ⟨e', x1, x2, r.low (hn i k v e), x3⟩⟩, a3⟩
  | dead => trivial

/-- The part of a relation that lies below a heap's end. -/
theorem Rel.below (R : Rel P M Y W) (hX : ∀ b τ, M b = some τ → b < X.size → X[b]? = Y[b]?) (hb : ∀ b τ blk, M b = some τ → b < X.size → X[b]? = some blk → BIn X.size blk) : Rel P (restr M X.size) X W := by
  refine ⟨fun b τ h => ?_, fun b τ h => R.lt b τ (restr_some.1 h).2, fun b1 b2 τ1 τ2 h1 h2 e hne => ?_⟩
  · obtain ⟨hb', h⟩ := restr_some.1 h
    obtain ⟨blk, g1, g2⟩ := R.blk b τ h
    have g3 := (hX b τ h hb').trans g1
    exact ⟨blk, g3, g2.low (hb b τ blk h hb' g3)⟩
  · obtain ⟨l1, h1⟩ := restr_some.1 h1
    obtain ⟨l2, h2⟩ := restr_some.1 h2
    rw [dead_of_get (hX _ _ h1 l1), dead_of_get (hX _ _ h2 l2), ro_of_get (hX _ _ h1 l1), ro_of_get (hX _ _ h2 l2)]
    exact R.inj b1 b2 τ1 τ2 h1 h2 e hne

/-- A heap of dead blocks alone. -/
def deads (n : Nat) : Heap := Array.replicate n .dead
theorem deads_get {n b : Nat} (h : b < n) : (deads n)[b]? = some .dead := by simp [deads, h]
theorem deads_size {n : Nat} : (deads n).size = n := by simp [deads]

theorem Rel.deads (R : Rel P M Y W) (n : Nat) : Rel P (restr M n) (deads n) W := by
  refine ⟨fun b τ h => ?_, fun b τ h => R.lt b τ (restr_some.1 h).2, fun b1 b2 τ1 τ2 h1 h2 e hne => ?_⟩
  · exact ⟨.dead, deads_get (restr_some.1 h).1, trivial⟩
  · exact .inl (deads_get (restr_some.1 h1).1)

/-- What a step from a heap of dead blocks is to the true one. -/
theorem glue0 {n : Nat} (R : Rel P M Y W) (st : Step P (restr M n) (deads n) W M' X' W')
    (hfree : ∀ b, n ≤ b → b < X'.size → M b = none) (hY1 : ∀ b τ, n ≤ b → b < X'.size → M' b = some τ → Y'[b]? = X'[b]?) (hY2 : ∀ b τ, M b = some τ → Y'[b]? = Y[b]?) :
    PStep P M Y W (cup M M') Y' W' := by
  have wk : ∀ k, k < W.heap.size → W'.heap[k]? = W.heap[k]? := fun k hk => st.aframe k hk fun b τ h _ => .inr (deads_get (restr_some.1 h).1)
  have nw : ∀ b τ, M' b = some τ → restr M n b = none → n ≤ b ∧ b < X'.size ∧ W.heap.size ≤ τ.b := fun b τ h h0 => by
    obtain ⟨a1, a2, a3⟩ := st.new b τ h h0
    rw [deads_size] at a1
    refine ⟨a1, a2, ?_⟩
    rcases a3 with a3 | ⟨b0, τ0, e0, _, _, e3⟩
    · exact a3
    · exact absurd (deads_get (restr_some.1 e0).1) e3
  have inv : ∀ b τ, cup M M' b = some τ → M b = some τ ∨ (M b = none ∧ M' b = some τ ∧ n ≤ b ∧ b < X'.size ∧ W.heap.size ≤ τ.b) := by
    intro b τ h
    rcases cup_inv h with h | ⟨h0, h⟩
    · exact .inl h
    · have hr : restr M n b = none := by
        unfold restr; split
        · exact h0
        · rfl
      exact .inr ⟨h0, h, nw b τ h hr⟩
  have le' : MLe M' (cup M M') := by
    intro b τ h
    cases hm : M b with
    | none => unfold cup; rw [hm]; exact h
    | some τ2 =>
      rcases Nat.lt_or_ge b n with hb | hb
      · have := st.ext _ _ (restr_some.2 ⟨hb, hm⟩)
        rw [h] at this; cases this
        exact cup_le _ _ hm
      · have := (nw b τ h (restr_ge hb)).2.1
        have := hfree b hb this
        rw [hm] at this; cases this
  refine ⟨⟨fun b τ h => ?_, fun b τ h => ?_, fun b1 b2 τ1 τ2 h1 h2 e hne => ?_⟩, cup_le, fun b τ h h0 => ?_, fun b τ h hr => hY2 b τ h, fun b τ h hr => ?_, fun b τ h hd => ?_, fun k hk h => wk k hk, st.wsize, st.os, st.tape, st.output, st.drawn⟩
  · rcases inv b τ h with h1 | ⟨h0, h1, l1, l2, l3⟩
    · obtain ⟨blk, g1, g2⟩ := R.blk b τ h1
      exact ⟨blk, (hY2 b τ h1).trans g1, g2.move cup_le (wk _ (R.lt b τ h1))⟩
    · obtain ⟨blk, g1, g2⟩ := st.rel.blk b τ h1
      exact ⟨blk, (hY1 b τ l1 l2 h1).trans g1, g2.move le' rfl⟩
  · rcases inv b τ h with h1 | ⟨h0, h1, l1, l2, l3⟩
    · exact Nat.lt_of_lt_of_le (R.lt b τ h1) st.wsize
    · exact st.rel.lt b τ h1
  · rcases inv b1 τ1 h1 with g1 | ⟨_, g1, l1, m1, a1⟩ <;> rcases inv b2 τ2 h2 with g2 | ⟨_, g2, l2, m2, a2⟩
    · rw [dead_of_get (hY2 _ _ g1), dead_of_get (hY2 _ _ g2), ro_of_get (hY2 _ _ g1), ro_of_get (hY2 _ _ g2)]
      exact R.inj b1 b2 τ1 τ2 g1 g2 e hne
    · have := R.lt b1 τ1 g1; omega
    · have := R.lt b2 τ2 g2; omega
    · rw [dead_of_get (hY1 _ _ l1 m1 g1), dead_of_get (hY1 _ _ l2 m2 g2), ro_of_get (hY1 _ _ l1 m1 g1), ro_of_get (hY1 _ _ l2 m2 g2)]
      exact st.rel.inj b1 b2 τ1 τ2 g1 g2 e hne
  · rcases inv b τ h with h1 | ⟨_, _, _, _, l3⟩
    · rw [h0] at h1; cases h1
    · exact .inl l3
  · rw [ro_of_get (hY2 b τ h)]; exact hr
  · rw [dead_of_get (hY2 b τ h)]; exact hd

/-! ### The classes -/
theorem cls_pure {r : Operand → Value} {o : Op} {v : Value} (hc : cls o = .pure) (h : opA P r o H = some (v, H')) : H' = H ∧ ∀ X, opA P r o X = some (v, X) := by
  have mp : ∀ {x : Option Value}, x.map (·, H) = some (v, H') → H' = H ∧ ∀ X : Heap, x.map (·, X) = some (v, X) := fun {x} h => by
    cases x with
    | none => simp at h
    | some u => simp at h; exact ⟨h.2.symm, fun X => by simp [h.1]⟩
  cases o <;> first
    | (simp [cls] at hc; done)
    | exact mp h
    | (simp only [opA, Option.some.injEq, Prod.mk.injEq] at h ⊢; exact ⟨h.2.symm, fun X => ⟨h.1, trivial⟩⟩)
    | skip
  case build t ps =>
    simp only [opA] at h ⊢
    split at h
    · rename_i hc
      simp only [hc, if_true]
      exact mp h
    · cases h
  case convert s d x =>
    simp only [opA] at h ⊢
    unfold convertA at h ⊢
    split at h <;> first | cases h | skip
    · simp_all
    · simp_all
  case call c =>
    obtain ⟨callee, args, ts⟩ := c
    cases callee with
    | value f => simp [cls] at hc
    | invoke a b => simp [cls] at hc
    | builtin b =>
      cases b <;> simp [cls, clsB] at hc
      all_goals
        simp only [opA] at h ⊢
        unfold builtinA at h ⊢
        split at h <;> first | cases h | skip
        all_goals first | exact mp h | (simp_all; done)

theorem cls_read {r : Operand → Value} {o : Op} {v : Value} (hc : cls o = .read) (h : opA P r o H = some (v, H')) : H' = H := by
  have mp : ∀ {x : Option Value}, x.map (·, H) = some (v, H') → H' = H := fun {x} h => (map_pair h).2
  cases o <;> first
    | (simp [cls] at hc; done)
    | exact mp h
    | skip
  case call c =>
    obtain ⟨callee, args, ts⟩ := c
    cases callee with
    | value f => simp [cls] at hc
    | invoke a b => simp [cls] at hc
    | builtin b =>
      cases b <;> simp [cls, clsB] at hc
      simp only [opA] at h
      unfold builtinA at h
      split at h <;> first | cases h | exact mp h | (simp_all; done)

theorem cls_alloc {r : Operand → Value} {o : Op} {v : Value} (hc : cls o = .alloc) (h : opA P r o H = some (v, H')) : ∃ blk, roB blk = false ∧ H' = H.push blk ∧ ∀ X : Heap, X.size = H.size → opA P r o X = some (v, X.push blk) := by
  cases o <;> first
    | (simp [cls] at hc; done)
    | skip
  case alloc t =>
    simp only [opA] at h ⊢
    cases hz : zeroA P t with
    | none => simp [hz] at h
    | some z =>
      simp only [hz, Option.map_some, allocA, Option.some.injEq, Prod.mk.injEq] at h
      exact ⟨.cells z t true, rfl, h.2.symm, fun X hX => by simp [allocA, hX, h.1]⟩
  case box t x =>
    simp only [opA] at h ⊢
    split at h
    · rename_i hc
      simp only [allocA, Option.some.injEq, Prod.mk.injEq] at h
      exact ⟨.cells (r x).cells t true, rfl, h.2.symm, fun X hX => by simp [hc, allocA, hX, h.1]⟩
    · cases h
  case buildSlice t n ps =>
    simp only [opA] at h ⊢
    split at h
    · rename_i hc
      simp only [hc, if_true]
      unfold buildSliceA at h ⊢
      split at h
      · rename_i e he
        cases hk : sz P e with
        | none => simp [hk] at h
        | some k =>
          simp only [hk, Option.bind_some] at h
          split at h
          · rename_i hl
            cases hz : zeroA P e with
            | none => simp [hz] at h
            | some z =>
              simp only [hz, Option.bind_some] at h
              split at h
              · rename_i hkz
                cases hf : Instr.fill (fun i => some (i * k, k)) (zeros z (n * k)) (ps.toList.map fun p => (p.1, r p.2)) with
                | none => simp [hf] at h
                | some cells =>
                  simp only [hf, Option.map_some, Option.some.injEq, Prod.mk.injEq] at h
                  refine ⟨.cells cells e true, rfl, h.2.symm, fun X hX => ?_⟩
                  rw [hkz] at hf hk
                  simp only [Option.bind_some, hkz, if_true] at hl ⊢
                  simp only [if_pos hl, hf, Option.map_some, hX, h.1]
              · cases h
          · cases h
      · cases h
    · cases h
  case makeMap t x =>
    cases x with
    | some x => simp [opA] at h
    | none =>
      simp only [opA] at h ⊢
      unfold makeMapA at h ⊢
      split at h
      · rename_i kt _ he
        simp only [Option.some.injEq, Prod.mk.injEq] at h
        exact ⟨.map kt [], rfl, h.2.symm, fun X hX => by simp [hX, h.1]⟩
      · cases h
  case makeSlice t l c =>
    simp only [opA] at h ⊢
    unfold makeSliceA at h ⊢
    split at h
    · split at h
      · rename_i e he
        split at h
        · rename_i i z hi hz
          split at h
          · rename_i hcnd
            simp only [Option.some.injEq, Prod.mk.injEq] at h
            exact ⟨_, rfl, h.2.symm, fun X hX => by simp [hcnd, hX, h.1]⟩
          · cases h
        · cases h
      · cases h
    · cases h
  case call c =>
    obtain ⟨callee, args, ts⟩ := c
    cases callee with
    | value f => simp [cls] at hc
    | invoke a b => simp [cls] at hc
    | builtin b => cases b <;> simp [cls, clsB] at hc

/-- An operation looks at its operands alone. -/
theorem opA_congr {r r1 : Operand → Value} {o : Op} (h : ∀ x ∈ o.operands.toList, r x = r1 x) : opA P r o H = opA P r1 o H := by
  have lm : ∀ (l : List Operand), (∀ x ∈ l, r x = r1 x) → l.map r = l.map r1 := fun l h => List.map_congr_left h
  cases o <;> simp only [Op.operands, List.mem_cons, List.not_mem_nil, or_false, forall_eq_or_imp, forall_eq] at h
  all_goals first
    | (simp only [opA, h]; done)
    | skip
  case build t ps =>
    have e : ∀ p ∈ ps.toList, r p.2 = r1 p.2 := fun p hp => h p.2 (by simpa using ⟨p.1, by simpa using hp⟩)
    have e1 : (ps.toList.map fun p => (p.1, r p.2)) = ps.toList.map fun p => (p.1, r1 p.2) := List.map_congr_left fun p hp => by rw [e p hp]
    have e2 : (ps.toList.all fun p => noTuple (r p.2)) = ps.toList.all fun p => noTuple (r1 p.2) := by
      rw [Bool.eq_iff_iff, List.all_eq_true, List.all_eq_true]
      exact ⟨fun h p hp => e p hp ▸ h p hp, fun h p hp => (e p hp).symm ▸ h p hp⟩
    simp only [opA, e1, e2]
  case buildSlice t n ps =>
    have e : ∀ p ∈ ps.toList, r p.2 = r1 p.2 := fun p hp => h p.2 (by simpa using ⟨p.1, by simpa using hp⟩)
    have e1 : (ps.toList.map fun p => (p.1, r p.2)) = ps.toList.map fun p => (p.1, r1 p.2) := List.map_congr_left fun p hp => by rw [e p hp]
    have e2 : (ps.toList.all fun p => noTuple (r p.2)) = ps.toList.all fun p => noTuple (r1 p.2) := by
      rw [Bool.eq_iff_iff, List.all_eq_true, List.all_eq_true]
      exact ⟨fun h p hp => e p hp ▸ h p hp, fun h p hp => (e p hp).symm ▸ h p hp⟩
    simp only [opA, e1, e2]
  case makeFunc f first cap =>
    have e1 : first.map r = first.map r1 := by
      rw [← Array.toList_inj]; simp only [Array.toList_map]
      exact lm _ fun x hx => h x (by simp [Array.mem_toList_iff.1 hx])
    have e2 : cap.map r = cap.map r1 := by
      rw [← Array.toList_inj]; simp only [Array.toList_map]
      exact lm _ fun x hx => h x (by simp [Array.mem_toList_iff.1 hx])
    simp only [opA, e1, e2]
  case makeMap t x =>
    cases x with
    | none => rfl
    | some x => rfl
  case slice t x lo hi mx =>
    have e : ∀ y : Option Operand, (∀ z, y = some z → r z = r1 z) → y.map r = y.map r1 := fun y hy => by
      cases y with
      | none => rfl
      | some z => simp [hy z rfl]
    have hx : r x = r1 x := h x (by simp)
    have h1 := e lo fun z hz => h z (by simp [hz])
    have h2 := e hi fun z hz => h z (by simp [hz])
    have h3 := e mx fun z hz => h z (by simp [hz])
    simp only [opA, hx, h1, h2, h3]
  case call c =>
    obtain ⟨callee, args, ts⟩ := c
    cases callee with
    | value f => rfl
    | invoke a b => rfl
    | builtin b =>
      simp only [Call.operands, Array.empty_append] at h
      simp only [opA, lm _ h]

theorem calleeA_congr {r r1 : Operand → Value} {o : Op} (h : ∀ x ∈ o.operands.toList, r x = r1 x) : calleeA r o = calleeA r1 o := by
  cases o <;> try rfl
  case call c =>
    obtain ⟨callee, args, ts⟩ := c
    cases callee with
    | builtin b => rfl
    | invoke a b => rfl
    | value f =>
      simp only [Op.operands, Call.operands] at h
      have h1 : r f = r1 f := h f (by simp)
      have h2 : args.map r = args.map r1 := by
        rw [← Array.toList_inj]; simp only [Array.toList_map]
        exact List.map_congr_left fun x hx => h x (by simp [Array.mem_toList_iff.1 hx])
      simp only [calleeA, h1, h2]
end Go.AH

/-
  AH: heaps grow.
-/
namespace Go.AH
open Go
variable {P : Program} {H H' : Heap} {C : CallR}

theorem vin1_sound {n : Nat} {v : Value} (h : vin1 n v = true) : VIn n v := by
  unfold vin1 at h
  split at h
  · exact .ptr (by simpa using h)
  · exact .sl (by simpa using h)
  · exact .map (by simpa using h)
  · exact .base h
theorem vin1_all {n : Nat} {x : Array Value} (h : x.toList.all (vin1 n) = true) (i : Nat) (hi : i < x.size) : VIn n x[i] :=
  vin1_sound (List.all_eq_true.1 h _ (Array.mem_toList_iff.2 (Array.getElem_mem hi)))
theorem vinB_sound {n : Nat} {v : Value} (h : vinB n v = true) : VIn n v := by
  unfold vinB at h
  split at h
  · exact .agg (vin1_all h)
  · exact .tuple (vin1_all h)
  · rw [Bool.and_eq_true] at h; exact .func (vin1_all h.1) (vin1_all h.2)
  · exact .iface (vin1_sound h)
  · exact vin1_sound h

theorem store_size {t : TypeId} {a v : Value} {H' : Heap} (h : storeA P t H a v = some H') : H.size ≤ H'.size := by
  unfold storeA at h
  repeat' split at h
  all_goals first | (cases h; done) | skip
  all_goals (simp only [Option.some.injEq] at h; subst h; simp)
theorem clear_size {t : TypeId} {x : Value} {H' : Heap} (h : clearA P H t x = some H') : H.size ≤ H'.size := by
  unfold clearA at h
  repeat' split at h
  all_goals first | (cases h; done) | skip
  all_goals (simp only [Option.some.injEq] at h; subst h; simp)
theorem append_size {t0 t1 : TypeId} {s x v : Value} (h : appendA P H t0 t1 s x = some (v, H')) : H.size ≤ H'.size := by
  unfold appendA at h
  split at h
  · split at h
    · split at h
      · rename_i i z _ _ _
        cases hr : rowA H i.size x with
        | none => simp [hr] at h
        | some p =>
          simp only [hr, Option.bind_some] at h
          repeat' split at h
          all_goals first | (cases h; done) | skip
          all_goals (simp only [Option.some.injEq, Prod.mk.injEq] at h; obtain ⟨_, rfl⟩ := h; simp)
      · cases h
    · cases h
  · cases h
theorem appendI_size {t0 t1 : TypeId} {s x v : Value} (h : appendIA P H t0 t1 s x = some (v, H')) : H.size ≤ H'.size := by
  unfold appendIA at h
  repeat' split at h
  all_goals first | (cases h; done) | skip
  all_goals (simp only [Option.some.injEq, Prod.mk.injEq] at h; obtain ⟨_, rfl⟩ := h; simp)
theorem mapUpdate_size {t : TypeId} {m k v : Value} {H' : Heap} (h : mapUpdateA P t H m k v = some H') : H.size ≤ H'.size := by
  unfold mapUpdateA at h
  repeat' split at h
  all_goals first | (cases h; done) | skip
  all_goals (simp only [Option.some.injEq] at h; subst h; simp)
theorem mapEntry_size {t : TypeId} {m k v : Value} {H' : Heap} (h : mapEntryA P t H m k = some (v, H')) : H.size ≤ H'.size := by
  unfold mapEntryA at h
  repeat' split at h
  all_goals first | (cases h; done) | skip
  all_goals first
    | (simp only [Option.some.injEq, Prod.mk.injEq] at h; obtain ⟨_, rfl⟩ := h; simp; done)
    | (obtain ⟨z, _, h⟩ := Option.map_eq_some_iff.1 h; simp only [Prod.mk.injEq] at h; obtain ⟨_, rfl⟩ := h; simp)
theorem entryStore_size {m k v : Value} {H' : Heap} (h : entryStoreA P H m k v = some H') : H.size ≤ H'.size := by
  unfold entryStoreA at h
  repeat' split at h
  all_goals first | (cases h; done) | skip
  all_goals (simp only [Option.some.injEq] at h; subst h; simp)

theorem opA_size {r : Operand → Value} {o : Op} {v : Value} (h : opA P r o H = some (v, H')) : H.size ≤ H'.size := by
  have mu : ∀ {x : Option Heap}, x.map (undef, ·) = some (v, H') → x = some H' := by
    intro x hx
    cases x with
    | none => simp at hx
    | some u => simp only [Option.map_some, Option.some.injEq, Prod.mk.injEq] at hx; rw [hx.2]
  cases hc : cls o with
  | pure => rw [(cls_pure hc h).1]; exact Nat.le_refl _
  | read => rw [cls_read hc h]; exact Nat.le_refl _
  | alloc => obtain ⟨blk, _, rfl, _⟩ := cls_alloc hc h; simp
  | eff =>
    cases o <;> first
      | (simp [cls] at hc; done)
      | (simp [opA] at h; done)
      | skip
    case insert t m k x => exact mapUpdate_size (mu h)
    case store t a x => exact store_size (mu h)
    case mapUpdate t m k x => exact mapUpdate_size (mu h)
    case mapEntry t m k => exact mapEntry_size h
    case entryStore t m s x => exact entryStore_size (mu h)
    case call c =>
      obtain ⟨callee, args, ts⟩ := c
      cases callee with
      | value f => simp [opA] at h
      | invoke a b => simp [opA] at h
      | builtin b =>
        simp only [opA] at h
        unfold builtinA at h
        split at h
        · split at h
          · rename_i r hr; cases h; exact append_size hr
          · exact appendI_size h
        · rw [(map_pair h).2]; exact Nat.le_refl _
        · rename_i t x _ _
          cases hx : clearA P H t x with
          | none => simp [hx] at h
          | some u => simp only [hx, Option.map_some, Option.some.injEq, Prod.mk.injEq] at h; exact h.2 ▸ clear_size hx
        · rw [(map_pair h).2]; exact Nat.le_refl _
        · rw [(map_pair h).2]; exact Nat.le_refl _
        · rw [(map_pair h).2]; exact Nat.le_refl _
        · cases h

def Grows (C : CallR) : Prop := ∀ f args H v H', C f args H v H' → H.size ≤ H'.size

theorem opR_size (hC : Grows C) {T : Tmps} {o : Op} {v : Value} (h : opR P C T o H v H') : H.size ≤ H'.size := by
  rcases h with h | ⟨g, args, _, h⟩
  · exact opA_size h
  · exact hC _ _ _ _ _ h
theorem stepR_size (hC : Grows C) {ops : Array Oper} {o : Oper} {T T' : Tmps} (h : stepR P C ops o T H T' H') : H.size ≤ H'.size := by
  unfold stepR at h
  split at h
  · obtain ⟨v, h, _⟩ := h; exact opR_size hC h
  · rw [h.2]; exact Nat.le_refl _
  · exact h.elim

theorem opsW_size (hC : Grows C) {ops : Array Oper} {Q : Tmps → Heap → Prop} {n : Nat} : ∀ (l : List Oper) (T : Tmps) (H : Heap), n ≤ H.size → opsW P C ops Q l T H → opsW P C ops (fun T H' => n ≤ H'.size ∧ Q T H') l T H
  | [], T, H, hn, h => ⟨hn, h⟩
  | o :: l, T, H, hn, h => by
    simp only [opsW] at h ⊢
    split at h
    · obtain ⟨v, H', h1, h2⟩ := h
      exact ⟨v, H', h1, opsW_size hC l _ _ (Nat.le_trans hn (opR_size hC h1)) h2⟩
    · exact opsW_size hC l _ _ hn h
    · exact h.elim

theorem chain_size {K : Nat → Heap} {n : Nat} (h : ∀ i, i < n → (K i).size ≤ (K (i + 1)).size) : ∀ {i j : Nat}, i ≤ j → j ≤ n → (K i).size ≤ (K j).size := by
  intro i j hij hj
  induction j with
  | zero => have : i = 0 := by omega
            subst this; exact Nat.le_refl _
  | succ j ih =>
    rcases Nat.lt_or_ge i (j + 1) with h1 | h1
    · exact Nat.le_trans (ih (by omega) (by omega)) (h j (by omega))
    · have : i = j + 1 := by omega
      subst this; exact Nat.le_refl _

theorem draw_sizes (hC : Grows C) {ops : Array Oper} {Ts : Nat → Tmps} {Ks : Nat → Heap} (h : ∀ i o, ops[i]? = some o → stepR P C ops o (Ts i) (Ks i) (Ts (i + 1)) (Ks (i + 1))) : ∀ i, i < ops.size → (Ks i).size ≤ (Ks (i + 1)).size :=
  fun i hi => stepR_size hC (h i ops[i] (Array.getElem?_eq_getElem hi))

theorem codeW_size (hC : Grows C) : ∀ (c : Code) {Q : Post} {n : Nat} (T : Tmps) (H : Heap), n ≤ H.size → codeW P C c Q T H → codeW P C c (fun e T' H' => n ≤ H'.size ∧ Q e T' H') T H := by
  have idC : ∀ f a H v H', C f a H v H' → C f a H v H' := fun _ _ _ _ _ h => h
  intro c
  induction c with
  | skip => intro Q n T H hn h; exact ⟨hn, h⟩
  | region id ops draw =>
    intro Q n T H hn h
    cases draw
    · exact opsW_size hC _ _ _ hn h
    · obtain ⟨Ts, Ks, a, b, c, d, e⟩ := h
      refine ⟨Ts, Ks, a, b, c, d, ?_, e⟩
      have := chain_size (draw_sizes hC c) (Nat.zero_le _) (Nat.le_refl _)
      rw [b] at this; omega
  | seq a b iha ihb =>
    intro Q n T H hn h
    refine codeW_mono idC a (fun e T' H' h => ?_) _ _ (iha T H hn h)
    cases e
    · exact ihb _ _ h.1 h.2
    · exact h
    · exact h
  | cond c a b iha ihb =>
    intro Q n T H hn h
    simp only [codeW] at h ⊢
    split at h
    · exact iha _ _ hn h
    · exact ihb _ _ hn h
    · exact h.elim
  | block id c ih =>
    intro Q n T H hn h
    refine codeW_mono idC c (fun e T' H' h => ?_) _ _ (ih T H hn h)
    cases e with
    | normal => exact h
    | ret => exact h
    | exit id' =>
      obtain ⟨h1, h2⟩ := h
      simp only [blockE] at h2 ⊢
      split
      · rename_i hid; rw [if_pos hid] at h2; exact ⟨h1, h2⟩
      · rename_i hid; rw [if_neg hid] at h2; exact ⟨h1, h2⟩
  | loop c ih =>
    intro Q n T H hn h
    refine h (fun T H => n ≤ H.size → codeW P C (.loop c) (fun e T' H' => n ≤ H'.size ∧ Q e T' H') T H) (fun T H h hn => loop_unroll (codeW_mono idC c (fun e T' H' h => ?_) _ _ (ih T H hn h))) hn
    cases e
    · exact h.2 h.1
    · exact h
    · exact h
  | exit id => intro Q n T H hn h; exact ⟨hn, h⟩
  | ret => intro Q n T H hn h; exact ⟨hn, h⟩
  | rangeFunc f p a b iha ihb => intro Q n T H hn h; exact h.elim
  | scope c ih => intro Q n T H hn h; exact h.elim
  | label l => intro Q n T H hn h; exact h.elim
  | goto l => intro Q n T H hn h; exact h.elim
  | refuse w => intro Q n T H hn h; exact h.elim
end Go.AH

/-
  AH: one operation within a region; what the static look at a region says.
-/
namespace Go.AH
open Go
variable {P : Program} {M : Mp} {H H' X X' : Heap} {W : World}

/-- What a call of AH says of the model: of a function with a body, and of one that the model answers by itself. -/
def Snd (P : Program) : CallR := fun f args H v H' =>
  H.size ≤ H'.size ∧
  ((Ent P f ∧ ∀ M W args', Rel P M H W → AR P M args args' → Calls P f args' W (fun e W' => ∃ v' M', e = .returned v' ∧ VR P M' v v' ∧ Step P M H W M' H' W')) ∨
   (¬ Ent P f ∧ ∀ M W args', Rel P M H W → AR P M args args' → ∃ v' M' W', (callFunc f args').run P W = .ok (.value v') W' ∧ VR P M' v v' ∧ Step P M H W M' H' W'))

theorem snd_grows : Grows (Snd P) := fun _ _ _ _ _ h => h.1

theorem AR.map_ops {r r' : Operand → Value} (hr : ∀ x, VR P M (r x) (r' x)) (l : Array Operand) : AR P M (l.map r) (l.map r') :=
  ⟨by rw [Array.size_map, Array.size_map], fun i h1 h2 => by rw [Array.getElem_map, Array.getElem_map]; exact hr _⟩

theorem op_wp {a : Act} {o : Oper} {r : Operand → Value} {v : Value} {next : Act → World → Prop} {Q : Exit → Act → World → Prop} (R : Rel P M X W) (hr : ∀ x, VR P M (r x) (a.eval x))
    (h : opA P r o.op X = some (v, X') ∨ ∃ g args, calleeA r o.op = some (g, args) ∧ Snd P g args X v X')
    (hn : ∀ v' M' W', VR P M' v v' → Step P M X W M' X' W' → next (a.put o.dst v') W') : o.wp P a W next Q := by
  unfold Oper.wp
  rcases h with h | ⟨g, args, h1, h2⟩
  · obtain ⟨nx, W', v', M', e, hx, rv, st⟩ := sim_op R hr o h
    rw [e]
    rcases hx with rfl | ⟨rfl, rfl⟩
    · exact hn v' M' W' rv st
    · exact hn _ M' W' rv st
  · obtain ⟨dst, op, type, pos, after, guard⟩ := o
    simp only at h1
    cases op <;> try (simp [calleeA] at h1; done)
    case call c =>
      obtain ⟨callee, cargs, ts⟩ := c
      cases callee with
      | builtin b => simp [calleeA] at h1
      | invoke x y => simp [calleeA] at h1
      | value f =>
        simp only [calleeA] at h1
        split at h1
        · rename_i g' first captured hf
          simp only [Option.some.injEq, Prod.mk.injEq] at h1
          obtain ⟨rfl, rfl⟩ := h1
          have hf' := hr f
          rw [hf] at hf'
          obtain ⟨first', cap', e1, a1, a2⟩ := hf'.func_inv
          have hcall : (execOp a.eval ⟨dst, .call ⟨.value f, cargs, ts⟩, type, pos, after, guard⟩).run P W = (callFunc g' (first' ++ cargs.map a.eval ++ cap')).run P W := by
            simp [execOp, resolve, e1, Deferred.ofValue, invoke]
          have hargs := AR.append (AR.append a1 (AR.map_ops hr cargs)) a2
          rcases h2.2 with ⟨⟨fn, e2, e3, e4⟩, e5⟩ | ⟨_, e5⟩
          · have hrun : (callFunc g' (first' ++ cargs.map a.eval ++ cap')).run P W = .ok (.enter g' (first' ++ cargs.map a.eval ++ cap')) W := by
              have e3' : fn.body ≠ none := fun h => by rw [h] at e3; simp at e3
              have e4' : fn.name ≠ "runtime.NumGoroutine" := by simpa using e4
              simp [callFunc, e2, e3', e4']
            rw [hcall, hrun]
            simp only [Oper.upon]
            refine (e5 M W _ R hargs).mono fun e w' he => ?_
            obtain ⟨v', M', rfl, rv, st⟩ := he
            exact hn v' M' w' rv st
          · obtain ⟨v', M', W', e, rv, st⟩ := e5 M W _ R hargs
            rw [hcall, e]
            exact hn v' M' W' rv st
        · cases h1

/-- The temporaries that an operation looks at; the others count for nothing. -/
def evL (L : List Tmp) (T : Tmps) : Operand → Value
  | .tmp t => if t ∈ L then T.getD t undef else junk
  | x => ev T x

theorem evL_rel {L : List Tmp} {T : Tmps} {a : Act} (h : ∀ t ∈ L, VR P M (T.getD t undef) (a.tmps.getD t undef)) (x : Operand) : VR P M (evL L T x) (a.eval x) := by
  cases x with
  | tmp t =>
    simp only [evL]
    split
    · rename_i ht; exact h t ht
    · exact .junk _
  | const v =>
    simp only [evL, ev]
    split
    · rename_i hb; exact .base hb
    · exact .junk _
  | global g => exact .junk _
  | func f => exact .func rfl rfl (fun i h => by simp at h) (fun i h => by simp at h)
theorem ev_rel {T : Tmps} {a : Act} (h : ∀ t, VR P M (T.getD t undef) (a.tmps.getD t undef)) (x : Operand) : VR P M (ev T x) (a.eval x) := by
  cases x with
  | tmp t => exact h t
  | const v => exact evL_rel (L := []) (T := T) (by simp) (.const v)
  | global g => exact .junk _
  | func f => exact evL_rel (L := []) (T := T) (by simp) (.func f)
theorem evL_ev {L : List Tmp} {T : Tmps} {x : Operand} (h : ∀ t, x = .tmp t → t ∈ L) : evL L T x = ev T x := by
  cases x with
  | tmp t => simp [evL, ev, h t rfl]
  | _ => rfl
theorem evL_looks {ops : Array Oper} {o : Oper} {T : Tmps} : ∀ x ∈ o.op.operands.toList, ev T x = evL (o.looksAt ops) T x := fun x hx =>
  (evL_ev fun t e => by
    subst e
    unfold Oper.looksAt
    exact List.mem_append.2 (.inl (List.mem_filterMap.2 ⟨_, hx, rfl⟩))).symm

theorem opR_L {C : CallR} {ops : Array Oper} {o : Oper} {T : Tmps} {v : Value} : opR P C T o.op H v H' ↔ (opA P (evL (o.looksAt ops) T) o.op H = some (v, H') ∨ ∃ g args, calleeA (evL (o.looksAt ops) T) o.op = some (g, args) ∧ C g args H v H') := by
  unfold opR
  rw [opA_congr (evL_looks (ops := ops)), calleeA_congr (evL_looks (ops := ops))]

/-- Guards. -/
theorem want_rel {ops : Array Oper} {o : Oper} {T : Tmps} {a : Act} {b : Bool} (h : wantA ops T o = some b) (hr : ∀ t ∈ o.looksAt ops, VR P M (T.getD t undef) (a.tmps.getD t undef)) : Region.wanted o (yielded ops a.tmps) = b := by
  unfold wantA at h
  unfold Region.wanted
  split at h
  · rename_i hg; rw [hg]; cases h; rfl
  · rename_i g want hg
    rw [hg]
    simp only
    split at h
    · cases h
    · rename_i d hd
      have hl : d ∈ o.looksAt ops := by
        unfold Oper.looksAt
        refine List.mem_append.2 (.inr ?_)
        rw [hg]
        simp [hd]
      have hv := hr d hl
      split at h
      · rename_i b' hb
        rw [hb] at hv
        have e := hv.bool_inv
        cases h
        have : a.tmps[d]? = some (.bool b') := by
          rw [Array.getD_eq_getD_getElem?] at e
          cases hh : a.tmps[d]? with
          | none => rw [hh] at e; simp [undef] at e
          | some u => rw [hh] at e; simp at e; rw [e]
        unfold yielded
        simp only [hd, Option.bind_some, this]
        cases b' <;> cases want <;> rfl
      · rename_i cs hb
        split at h
        · rename_i hcs
          cases h
          rw [hb] at hv
          obtain ⟨x', e, ax⟩ := hv.tuple_inv (by rw [show cs = #[] from Array.eq_empty_of_size_eq_zero hcs]; simp [AH.junk])
          have hz : x' = #[] := Array.eq_empty_of_size_eq_zero (by rw [← ax.1, hcs])
          subst hz
          have : ∀ b, a.tmps[d]? ≠ some (.bool b) := fun b hh => by
            rw [Array.getD_eq_getD_getElem?, hh] at e
            simp at e
          unfold yielded
          simp only [hd, Option.bind_some]
          cases want <;> rfl
        · cases h
      · cases h

theorem putA_size (T : Tmps) (d : Option Tmp) (v : Value) : (putA T d v).size = T.size := by
  cases d <;> simp [putA]
theorem put_size (a : Act) (d : Option Tmp) (v : Value) : (a.put d v).tmps.size = a.tmps.size := by
  cases d <;> simp [Act.put]
theorem putA_same {T : Tmps} {t : Tmp} {v : Value} : (putA T (some t) v).getD t undef = if t < T.size then v else undef := by
  simp only [putA, Array.getD_eq_getD_getElem?, Array.getElem?_setIfInBounds, if_true]
  split <;> rfl
theorem putA_other {T : Tmps} {d : Option Tmp} {t : Tmp} {v : Value} (h : d ≠ some t) : (putA T d v).getD t undef = T.getD t undef := by
  cases d with
  | none => rfl
  | some d =>
    have : d ≠ t := fun e => h (by rw [e])
    simp only [putA, Array.getD_eq_getD_getElem?, Array.getElem?_setIfInBounds, if_neg this]
theorem put_same {a : Act} {t : Tmp} {v : Value} : (a.put (some t) v).tmps.getD t undef = if t < a.tmps.size then v else undef := putA_same
theorem put_other {a : Act} {d : Option Tmp} {t : Tmp} {v : Value} (h : d ≠ some t) : (a.put d v).tmps.getD t undef = a.tmps.getD t undef := by
  cases d with
  | none => rfl
  | some d => exact putA_other (T := a.tmps) h
theorem put_defers (a : Act) (d : Option Tmp) (v : Value) : (a.put d v).defers = a.defers := by cases d <;> rfl

theorem AR.of_getD {T T' : Array Value} (hs : T.size = T'.size) (h : ∀ t, VR P M (T.getD t undef) (T'.getD t undef)) : AR P M T T' :=
  ⟨hs, fun i h1 h2 => by
    have := h i
    simp only [Array.getD, h1, h2, dif_pos] at this
    exact this⟩

/-! ### Ancestors -/
/-- i must run before j. -/
inductive Anc (ops : Array Oper) : Nat → Nat → Prop
  | edge {i j : Nat} {o : Oper} {e : Edge} (ho : ops[j]? = some o) (he : e ∈ o.after) (hb : Region.binds .any e = true) (hi : e.on = i) : Anc ops i j
  | tail {i k j : Nat} {o : Oper} {e : Edge} (ho : ops[j]? = some o) (he : e ∈ o.after) (hb : Region.binds .any e = true) (hk : e.on = k) (h : Anc ops i k) : Anc ops i j

theorem ancRow_sound {ops : Array Oper} {acc : List Nat} {o : Oper} {j : Nat} (ho : ops[j]? = some o) (hacc : ∀ k i, (acc.getD k 0).testBit i = true → Anc ops i k) {i : Nat} (h : (ancRow acc o).testBit i = true) : Anc ops i j := by
  unfold ancRow at h
  have key : ∀ (l : List Edge) (s : Nat), (∀ e ∈ l, e ∈ o.after) → (s.testBit i = true → Anc ops i j) → (l.foldl (fun s e => if Region.binds .any e then s ||| (2 ^ e.on ||| acc.getD e.on 0) else s) s).testBit i = true → Anc ops i j := by
    intro l
    induction l with
    | nil => intro s _ hs h; exact hs h
    | cons e l ih =>
      intro s hl hs h
      simp only [List.foldl_cons] at h
      refine ih _ (fun e he => hl e (List.mem_cons_of_mem _ he)) (fun h2 => ?_) h
      split at h2
      · rename_i hb
        rw [Nat.testBit_or, Nat.testBit_or, Bool.or_eq_true, Bool.or_eq_true] at h2
        have he := hl e (List.mem_cons_self ..)
        rcases h2 with h2 | h2 | h2
        · exact hs h2
        · rw [Nat.testBit_two_pow] at h2
          exact .edge ho he hb (by simpa using h2)
        · exact .tail ho he hb rfl (hacc _ _ h2)
      · exact hs h2
  exact key o.after.toList 0 (fun e he => Array.mem_toList_iff.1 he) (by simp) h

theorem ancs_sound {ops : Array Oper} {j i : Nat} (h : ((ancs ops.toList).getD j 0).testBit i = true) : Anc ops i j := by
  have key : ∀ (l : List Oper) (acc : List Nat), (∀ k, l[k]? = ops[acc.length + k]?) → (∀ k i, (acc.getD k 0).testBit i = true → Anc ops i k) →
      ∀ k i, ((l.foldl (fun acc o => acc ++ [ancRow acc o]) acc).getD k 0).testBit i = true → Anc ops i k := by
    intro l
    induction l with
    | nil => intro acc _ ha k i h; exact ha k i h
    | cons o l ih =>
      intro acc hl ha k i h
      simp only [List.foldl_cons] at h
      refine ih _ (fun k => ?_) (fun k i h => ?_) k i h
      · have := hl (k + 1)
        simp only [List.length_append, List.length_cons, List.length_nil]
        rw [show acc.length + (0 + 1) + k = acc.length + (k + 1) from by omega, ← this]
        simp
      · rw [List.getD_eq_getElem?_getD, List.getElem?_append] at h
        split at h
        · rw [← List.getD_eq_getElem?_getD] at h; exact ha k i h
        · rename_i hk
          by_cases hk2 : k = acc.length
          · subst hk2
            simp at h
            exact ancRow_sound (by simpa using (hl 0).symm) ha h
          · have : 1 ≤ k - acc.length := by omega
            rw [List.getElem?_eq_none (by simpa using this)] at h
            simp at h
  exact key ops.toList [] (fun k => by simp) (fun k i h => by simp at h) j i h

structure OkD (ops : Array Oper) : Prop where
  back : ∀ j o, ops[j]? = some o → ∀ e ∈ o.after, Region.binds .any e = true → e.on < j
  eff : ∀ i j, i < j → isEff ops i = true → isEff ops j = true → Anc ops i j
  apart : ∀ i j x y, i < j → ops[i]? = some x → ops[j]? = some y → x.apart ops y = true ∨ Anc ops i j

theorem okD_spec {ops : Array Oper} (h : okD ops = true) : OkD ops := by
  simp only [okD, List.all_eq_true, List.mem_range] at h
  have main : ∀ i j x y, i < j → ops[i]? = some x → ops[j]? = some y → mustB ops x y = false ∨ Anc ops i j := by
    intro i j x y hij hx hy
    have hj : j < ops.size := (Array.getElem?_eq_some_iff.1 hy).1
    have h1 := h j hj
    rw [hy] at h1
    simp only [Bool.and_eq_true, List.all_eq_true, List.mem_range] at h1
    have h2 := h1.2 i hij
    rw [hx] at h2
    simp only [Bool.or_eq_true, Bool.not_eq_true'] at h2
    exact h2.imp id ancs_sound
  refine ⟨fun j o ho e he hb => ?_, fun i j hij hi hj => ?_, fun i j x y hij hx hy => ?_⟩
  · have h1 := h j (Array.getElem?_eq_some_iff.1 ho).1
    rw [ho] at h1
    simp only [Bool.and_eq_true, List.all_eq_true] at h1
    have := h1.1 e (Array.mem_toList_iff.2 he)
    simpa [hb] using this
  · unfold isEff at hi hj
    cases hx : ops[i]? with
    | none => simp [hx] at hi
    | some x =>
      cases hy : ops[j]? with
      | none => simp [hy] at hj
      | some y =>
        simp only [hx] at hi
        simp only [hy] at hj
        rcases main i j x y hij hx hy with h | h
        · simp [mustB, hi, hj] at h
        · exact h
  · rcases main i j x y hij hx hy with h | h
    · left
      simp only [mustB, Bool.or_eq_false_iff, Bool.not_eq_false'] at h
      exact h.2
    · exact .inr h

theorem pairsD_spec {ops : Array Oper} {i j : Nat} (hi : isRead ops i = true) (hj : isEff ops j = true) :
    (j < i → Anc ops j i ∨ (i, j) ∈ pairsD ops) ∧ (i < j → Anc ops i j ∨ (i, j + 1) ∈ pairsD ops) := by
  have li : i < ops.size := by
    unfold isRead at hi
    rcases Nat.lt_or_ge i ops.size with h | h
    · exact h
    · rw [Array.getElem?_eq_none h] at hi; cases hi
  have lj : j < ops.size := by
    unfold isEff at hj
    rcases Nat.lt_or_ge j ops.size with h | h
    · exact h
    · rw [Array.getElem?_eq_none h] at hj; cases hj
  have mem : ∀ p, (if j < i then (if ((ancs ops.toList).getD i 0).testBit j then none else some (i, j)) else if i < j then (if ((ancs ops.toList).getD j 0).testBit i then none else some (i, j + 1)) else none) = some p → p ∈ pairsD ops := by
    intro p hp
    unfold pairsD
    simp only [List.mem_flatMap, List.mem_range]
    refine ⟨i, li, ?_⟩
    rw [if_pos hi, List.mem_filterMap]
    exact ⟨j, List.mem_range.2 lj, by rw [if_pos hj]; exact hp⟩
  refine ⟨fun h => ?_, fun h => ?_⟩
  · cases hb : ((ancs ops.toList).getD i 0).testBit j with
    | true => exact .inl (ancs_sound hb)
    | false => exact .inr (mem _ (by rw [if_pos h, hb]; rfl))
  · cases hb : ((ancs ops.toList).getD j 0).testBit i with
    | true => exact .inl (ancs_sound hb)
    | false => exact .inr (mem _ (by rw [if_neg (by omega), if_pos h, hb]; rfl))
end Go.AH

/-
  AH: a region whose order is drawn comes, in every order, to what it comes to in the order of its text.
-/
namespace Go.AH
open Go
variable {P : Program} {ops : Array Oper} {T : Nat → Tmps} {K : Nat → Heap} {M0 M M' : Mp} {W0 W W' : World} {ds : List Deferred} {D : Nat → Prop} {G : Nat} {Y : Heap} {a : Act}

def opT (o : Oper) : List Tmp := o.op.operands.toList.filterMap fun | .tmp t => some t | _ => none
theorem opT_looks {o : Oper} {t : Tmp} (h : t ∈ opT o) : t ∈ o.looksAt ops := by
  unfold Oper.looksAt
  exact List.mem_append.2 (.inl h)
theorem mem_opT {o : Oper} {t : Tmp} (h : t ∈ opT o) : Operand.tmp t ∈ o.op.operands.toList := by
  unfold opT at h
  obtain ⟨x, hx, e⟩ := List.mem_filterMap.1 h
  cases x <;> simp at e
  subst e
  exact hx
theorem evL_opT {o : Oper} {T : Tmps} : ∀ x ∈ o.op.operands.toList, ev T x = evL (opT o) T x := fun x hx =>
  (evL_ev fun t e => by subst e; exact List.mem_filterMap.2 ⟨_, hx, rfl⟩).symm
theorem callee_eff {r : Operand → Value} {o : Op} {p : FuncId × Array Value} (h : calleeA r o = some p) : cls o = .eff := by
  cases o <;> first | rfl | (simp [calleeA] at h; done) | skip
  case call c =>
    obtain ⟨callee, args, ts⟩ := c
    cases callee with
    | builtin b => simp [calleeA] at h
    | invoke x y => rfl
    | value f => rfl

/-- What is read hangs on the blocks that the operands tell of. -/
theorem read_congr {H' : Heap} {r : Operand → Value} {o : Op} {v : Value} {K K' : Heap} (hc : cls o = .read) (h : opA P r o K = some (v, H')) (hb : ∀ x ∈ o.operands.toList, ∀ b ∈ Bk (r x), K'[b]? = K[b]?) : opA P r o K' = some (v, K') := by
  have mp : ∀ {x y : Option Value}, x.map (·, K) = some (v, H') → y = x → y.map (·, K') = some (v, K') := fun {x y} h e => by
    subst e
    cases y with
    | none => simp at h
    | some u => simp at h; simp [h.1]
  have ptr1 : ∀ {a : Value} {b o : Nat}, a = .pointer (some ⟨b, o, none⟩) → b ∈ Bk a := fun h => by subst h; simp [Bk, Bk1]
  have sl1 : ∀ {a : Value} {b o n c : Nat}, a = .slice (some ⟨b, o, none⟩) n c → b ∈ Bk a := fun h => by subst h; simp [Bk, Bk1]
  have map1 : ∀ {a : Value} {b : Nat}, a = .map (some b) → b ∈ Bk a := fun h => by subst h; simp [Bk, Bk1]
  cases o <;> first
    | (simp [cls] at hc; done)
    | skip
  case load t a =>
    refine mp h ?_
    have hba := hb a (by simp [Op.operands])
    unfold loadA
    split
    · rename_i b o e
      rw [hba b (ptr1 e)]
    · rfl
  case slice t x lo hi mx =>
    refine mp h ?_
    have hba := hb x (by simp [Op.operands])
    unfold sliceA
    split
    · rfl
    · rfl
    · rename_i b o n c _ e
      rw [hba b (sl1 e)]
    · rfl
  case lookup t m k ok =>
    refine mp h ?_
    have hba := hb m (by simp [Op.operands])
    unfold lookupA
    split
    · split
      · split
        · rfl
        · rename_i b e
          rw [hba b (map1 e)]
        · rfl
      · rfl
    · rfl
  case call c =>
    obtain ⟨callee, args, ts⟩ := c
    cases callee with
    | value f => simp [cls] at hc
    | invoke a b => simp [cls] at hc
    | builtin b =>
      cases b <;> simp [cls, clsB] at hc
      have hba : ∀ x ∈ args.toList, ∀ b ∈ Bk (r x), K'[b]? = K[b]? := fun x hx => hb x (by simp [Op.operands, Call.operands]; simpa using hx)
      simp only [opA] at h ⊢
      generalize args.toList = al at h hba ⊢
      generalize ts.toList = tl at h ⊢
      match tl, al, h, hba with
      | [t], [x], h, hba =>
        simp only [List.map_cons, List.map_nil, builtinA] at h ⊢
        refine mp h ?_
        have hba := hba x (by simp)
        unfold lenA
        split
        · rfl
        · rfl
        · rfl
        · rename_i r1 _ e
          rw [hba r1 (map1 e)]
        · rfl
      | [], _, h, _ => simp [builtinA] at h
      | _ :: _ :: _, _, h, _ => simp [builtinA] at h
      | [_], [], h, _ => simp [builtinA] at h
      | [_], _ :: _ :: _, h, _ => simp [builtinA] at h


theorem base_bk {v : Value} (h : isBase v = true) : Bk1 v = [] := by
  unfold isBase at h
  split at h <;> first | rfl | cases h

theorem VR.bk_map {M : Mp} {v v' : Value} (h : VR P M v v') : ∀ b ∈ Bk v, ∃ τ, M b = some τ := by
  have one : ∀ {v v' : Value}, VR P M v v' → ∀ b ∈ Bk1 v, ∃ τ, M b = some τ := fun {v v'} h b hb => by
    cases h with
    | ptr h => simp [Bk1] at hb; exact ⟨_, hb ▸ h⟩
    | sl h _ => simp [Bk1] at hb; exact ⟨_, hb ▸ h⟩
    | slU h => simp [Bk1] at hb; exact ⟨_, hb ▸ h⟩
    | slE h => simp [Bk1] at hb; exact ⟨_, hb ▸ h⟩
    | sl0 h => simp [Bk1] at hb; exact ⟨_, hb ▸ h⟩
    | map h => simp [Bk1] at hb; exact ⟨_, hb ▸ h⟩
    | junk => simp [Bk1, AH.junk] at hb
    | base h =>
      have : Bk1 v = [] := base_bk h
      rw [this] at hb
      simp at hb
    | _ => simp [Bk1] at hb
  intro b hb
  cases h with
  | agg hx h =>
    simp only [Bk, List.mem_flatMap] at hb
    obtain ⟨w, hw, hb⟩ := hb
    obtain ⟨i, hi, rfl⟩ := List.mem_iff_getElem.1 hw
    rw [Array.getElem_toList] at hb
    exact one (h i (by simpa using hi) (by rw [← hx]; simpa using hi)) b hb
  | junk => simp [Bk, Bk1, AH.junk] at hb
  | base h => exact one (.base h) b (by cases v <;> first | exact hb | simp [isBase] at h)
  | ptr h => simp [Bk, Bk1] at hb; exact ⟨_, hb ▸ h⟩
  | sl h x => simp [Bk, Bk1] at hb; exact ⟨_, hb ▸ h⟩
  | slU h x y z => simp [Bk, Bk1] at hb; exact ⟨_, hb ▸ h⟩
  | slE h => simp [Bk, Bk1] at hb; exact ⟨_, hb ▸ h⟩
  | sl0 h => simp [Bk, Bk1] at hb; exact ⟨_, hb ▸ h⟩
  | map h => simp [Bk, Bk1] at hb; exact ⟨_, hb ▸ h⟩
  | func => simp [Bk, Bk1] at hb
  | iface => simp [Bk, Bk1] at hb
  | tuple => simp [Bk, Bk1] at hb

structure Ctx (P : Program) (ops : Array Oper) (T : Nat → Tmps) (K : Nat → Heap) (M0 : Mp) : Prop where
  ok : OkD ops
  st : ∀ i o, ops[i]? = some o → stepR P (Snd P) ops o (T i) (K i) (T (i + 1)) (K (i + 1))
  pr : ∀ p ∈ pairsD ops, same2 P ops T K p
  m0 : ∀ b τ, M0 b = some τ → b < (K 0).size

theorem isEff_of {i : Nat} {o : Oper} (ho : ops[i]? = some o) : isEff ops i = decide (cls o.op = .eff) := by
  unfold isEff; rw [ho]; simp only; cases cls o.op <;> rfl
theorem isRead_of {i : Nat} {o : Oper} (ho : ops[i]? = some o) : isRead ops i = decide (cls o.op = .read) := by
  unfold isRead; rw [ho]; simp only; cases cls o.op <;> rfl

theorem Ctx.ksz (c : Ctx P ops T K M0) {i j : Nat} (h : i ≤ j) (hj : j ≤ ops.size) : (K i).size ≤ (K j).size := chain_size (draw_sizes snd_grows c.st) h hj

theorem Ctx.kone (c : Ctx P ops T K M0) {i : Nat} (hi : i < ops.size) (he : isEff ops i = false) {b : Nat} (hb : b < (K i).size) : (K (i + 1))[b]? = (K i)[b]? := by
  have ho : ops[i]? = some ops[i] := Array.getElem?_eq_getElem hi
  have hs := c.st i _ ho
  rw [isEff_of ho] at he
  have hc : cls ops[i].op ≠ .eff := by simpa using he
  unfold stepR at hs
  split at hs
  · obtain ⟨v, h, _⟩ := hs
    rcases h with h | ⟨g, args, h, _⟩
    · cases hcl : cls ops[i].op with
      | pure => rw [(cls_pure hcl h).1]
      | read => rw [cls_read hcl h]
      | alloc => obtain ⟨blk, _, e, _⟩ := cls_alloc hcl h; rw [e]; exact get_push_lt _ _ hb
      | eff => exact absurd hcl hc
    · exact absurd (callee_eff h) hc
  · rw [hs.2]
  · exact hs.elim

theorem Ctx.kpres (c : Ctx P ops T K M0) {m m' b : Nat} (hm : m ≤ m') (hm' : m' ≤ ops.size) (hb : b < (K m).size) (h : ∀ j, m ≤ j → j < m' → isEff ops j = true → (K (j + 1))[b]? = (K j)[b]?) : (K m')[b]? = (K m)[b]? := by
  induction m' with
  | zero => have : m = 0 := by omega
            subst this; rfl
  | succ k ih =>
    rcases Nat.lt_or_ge m (k + 1) with h1 | h1
    · have hbk : b < (K k).size := Nat.lt_of_lt_of_le hb (c.ksz (by omega) (by omega))
      have e : (K (k + 1))[b]? = (K k)[b]? := by
        cases he : isEff ops k with
        | true => exact h k (by omega) (by omega) he
        | false => exact c.kone (by omega) he hbk
      exact e.trans (ih (by omega) (by omega) fun j h1 h2 h3 => h j h1 (by omega) h3)
    · have : m = k + 1 := by omega
      subst this; rfl

theorem Ctx.tput (c : Ctx P ops T K M0) {i : Nat} {o : Oper} (ho : ops[i]? = some o) : ∃ v, T (i + 1) = putA (T i) o.dst v := by
  have hs := c.st i o ho
  unfold stepR at hs
  split at hs
  · obtain ⟨v, _, e⟩ := hs; exact ⟨v, e⟩
  · exact ⟨_, hs.1⟩
  · exact hs.elim

theorem Ctx.tsz (c : Ctx P ops T K M0) : ∀ {i : Nat}, i ≤ ops.size → (T i).size = (T 0).size
  | 0, _ => rfl
  | i + 1, h => by
    obtain ⟨v, e⟩ := c.tput (Array.getElem?_eq_getElem (show i < ops.size by omega))
    rw [e, putA_size]
    exact c.tsz (by omega)

theorem Ctx.tpres (c : Ctx P ops T K M0) {m m' : Nat} {t : Tmp} (hm : m ≤ m') (hm' : m' ≤ ops.size) (h : ∀ j o, m ≤ j → j < m' → ops[j]? = some o → o.dst ≠ some t) : (T m').getD t undef = (T m).getD t undef := by
  induction m' with
  | zero => have : m = 0 := by omega
            subst this; rfl
  | succ k ih =>
    rcases Nat.lt_or_ge m (k + 1) with h1 | h1
    · have ho : ops[k]? = some ops[k] := Array.getElem?_eq_getElem (by omega)
      obtain ⟨v, e⟩ := c.tput ho
      rw [e, putA_other (h k _ (by omega) (by omega) ho)]
      exact ih (by omega) (by omega) fun j o h1 h2 h3 => h j o h1 (by omega) h3
    · have : m = k + 1 := by omega
      subst this; rfl

structure DInv (P : Program) (ops : Array Oper) (T : Nat → Tmps) (K : Nat → Heap) (M0 : Mp) (W0 : World) (ds : List Deferred) (D : Nat → Prop) (G : Nat) (M : Mp) (Y : Heap) (a : Act) (W : World) : Prop where
  p : PStep P M0 (K 0) W0 M Y W
  cl : ∀ i j, D j → Anc ops i j → D i
  gd : ∀ j, isEff ops j = true → (D j ↔ j < G)
  gl : G = 0 ∨ ∃ g, G = g + 1 ∧ isEff ops g = true
  dom : ∀ b τ, M b = some τ → M0 b = some τ ∨ ∃ j, D j ∧ j < ops.size ∧ (K j).size ≤ b ∧ b < (K (j + 1)).size
  agree : ∀ b τ, M b = some τ → ∀ m, m ≤ ops.size → b < (K m).size → (∀ j, isEff ops j = true → b < (K j).size → (j < m ↔ j < G)) → ∃ blk, (K m)[b]? = some blk ∧ Y[b]? = some blk ∧ BIn (K m).size blk
  keep : ∀ j, isEff ops j = true → j < G → ∀ b, b < (K j).size → M b = none → (K (j + 1))[b]? = (K j)[b]?
  tsz : a.tmps.size = (T 0).size
  tmp : ∀ t m, m ≤ ops.size → (∀ j o, ops[j]? = some o → o.dst = some t → (j < m ↔ D j)) → VR P M ((T m).getD t undef) (a.tmps.getD t undef) ∧ VIn (K m).size ((T m).getD t undef)
  defs : a.defers = ds

theorem isEff_lt {j : Nat} (h : isEff ops j = true) : j < ops.size := by
  unfold isEff at h
  rcases Nat.lt_or_ge j ops.size with h1 | h1
  · exact h1
  · rw [Array.getElem?_eq_none h1] at h; cases h

section
variable {i : Nat} {o : Oper}

theorem lt_of_some {i : Nat} {o : Oper} (ho : ops[i]? = some o) : i < ops.size := (Array.getElem?_eq_some_iff.1 ho).1

theorem dinv_free (c : Ctx P ops T K M0) (h : DInv P ops T K M0 W0 ds D G M Y a W) (ho : ops[i]? = some o) (hD : ¬ D i) {b : Nat} (h1 : (K i).size ≤ b) (h2 : b < (K (i + 1)).size) : M b = none := by
  have hi := lt_of_some ho
  cases hm : M b with
  | none => rfl
  | some τ =>
    exfalso
    rcases h.dom b τ hm with e | ⟨j, dj, lj, j1, j2⟩
    · have := c.m0 b τ e
      have := c.ksz (Nat.zero_le i) (Nat.le_of_lt hi)
      omega
    · rcases Nat.lt_trichotomy j i with hj | hj | hj
      · have := c.ksz (show j + 1 ≤ i from hj) (Nat.le_of_lt hi); omega
      · subst hj; exact hD dj
      · have := c.ksz (show i + 1 ≤ j from hj) (Nat.le_of_lt lj); omega

theorem dinv_reads (c : Ctx P ops T K M0) (h : DInv P ops T K M0 W0 ds D G M Y a W) (ho : ops[i]? = some o) (hD : ¬ D i) (hr : ∀ j, Anc ops j i → D j) {t : Tmp} (ht : t ∈ o.looksAt ops) : VR P M ((T i).getD t undef) (a.tmps.getD t undef) ∧ VIn (K i).size ((T i).getD t undef) := by
  refine h.tmp t i (Nat.le_of_lt (lt_of_some ho)) fun j y hy hd => ⟨fun hj => ?_, fun dj => ?_⟩
  · rcases c.ok.apart j i y o hj hy ho with h1 | h1
    · exact absurd ht ((Oper.apart_spec h1).1 t hd)
    · exact hr j h1
  · rcases Nat.lt_trichotomy j i with hj | hj | hj
    · exact hj
    · subst hj; exact absurd dj hD
    · rcases c.ok.apart i j o y hj ho hy with h1 | h1
      · exact absurd ht ((Oper.apart_spec h1).2.2 t hd)
      · exact absurd (h.cl i j dj h1) hD

/-- What comes of one operation more. -/
theorem dinv_next (c : Ctx P ops T K M0) (h : DInv P ops T K M0 W0 ds D G M Y a W) (ho : ops[i]? = some o) (hD : ¬ D i) (hr : ∀ j, Anc ops j i → D j) {v v' : Value} {M2 : Mp} {Y2 : Heap} {W2 : World} {G2 : Nat} (hT : T (i + 1) = putA (T i) o.dst v) (p2 : PStep P M Y W M2 Y2 W2)
    (gd2 : ∀ j, isEff ops j = true → ((D j ∨ j = i) ↔ j < G2)) (gl2 : G2 = 0 ∨ ∃ g, G2 = g + 1 ∧ isEff ops g = true)
    (dom2 : ∀ b τ, M2 b = some τ → M b = some τ ∨ ((K i).size ≤ b ∧ b < (K (i + 1)).size))
    (agree2 : ∀ b τ, M2 b = some τ → ∀ m, m ≤ ops.size → b < (K m).size → (∀ j, isEff ops j = true → b < (K j).size → (j < m ↔ j < G2)) → ∃ blk, (K m)[b]? = some blk ∧ Y2[b]? = some blk ∧ BIn (K m).size blk)
    (keep2 : ∀ j, isEff ops j = true → j < G2 → ∀ b, b < (K j).size → M2 b = none → (K (j + 1))[b]? = (K j)[b]?) (rv : VR P M2 v v') (hv : VIn (K (i + 1)).size v) :
    DInv P ops T K M0 W0 ds (fun j => D j ∨ j = i) G2 M2 Y2 (a.put o.dst v') W2 := by
  have hi := lt_of_some ho
  refine ⟨h.p.trans p2, fun k j hj ha => ?_, gd2, gl2, fun b τ hb => ?_, agree2, keep2, ?_, fun t m hm hw => ?_, ?_⟩
  · rcases hj with hj | rfl
    · exact .inl (h.cl k j hj ha)
    · exact .inl (hr k ha)
  · rcases dom2 b τ hb with e | e
    · rcases h.dom b τ e with e | ⟨j, h1, h2⟩
      · exact .inl e
      · exact .inr ⟨j, .inl h1, h2⟩
    · exact .inr ⟨i, .inr rfl, hi, e⟩
  · rw [put_size]; exact h.tsz
  · by_cases hd : o.dst = some t
    · have him : i < m := (hw i o ho hd).2 (.inr rfl)
      have e : (T m).getD t undef = (T (i + 1)).getD t undef := c.tpres him hm fun j y h1 h2 hy hdy => by
        have hj : D j := by
          rcases (hw j y hy hdy).1 h2 with hj | rfl
          · exact hj
          · omega
        rcases c.ok.apart i j o y (by omega) ho hy with h3 | h3
        · exact (Oper.apart_spec h3).2.1 t hd hdy
        · exact hD (h.cl i j hj h3)
      rw [e, hT, hd, putA_same, put_same, h.tsz, c.tsz (Nat.le_of_lt hi)]
      split
      · exact ⟨rv, hv.mono (c.ksz him hm)⟩
      · exact ⟨VR.undef, VIn.undef⟩
    · rw [put_other hd]
      obtain ⟨h1, h2⟩ := h.tmp t m hm fun j y hy hdy => by
        rw [hw j y hy hdy]
        refine ⟨fun hj => ?_, .inl⟩
        rcases hj with hj | rfl
        · exact hj
        · rw [ho] at hy; cases hy; exact absurd hdy hd
      exact ⟨h1.mono p2.ext, h2⟩
  · rw [put_defers]; exact h.defs

theorem none_of_le {M M2 : Mp} (hl : MLe M M2) {b : Nat} (h : M2 b = none) : M b = none := by
  cases hm : M b with
  | none => rfl
  | some τ => rw [hl b τ hm] at h; cases h

theorem gd_same (h : DInv P ops T K M0 W0 ds D G M Y a W) (hD : ¬ D i) (he : isEff ops i = false) : ∀ j, isEff ops j = true → ((D j ∨ j = i) ↔ j < G) := fun j hj => by
  rw [← h.gd j hj]
  refine ⟨fun hh => ?_, .inl⟩
  rcases hh with hh | rfl
  · exact hh
  · rw [he] at hj; cases hj

/-- Where nothing new lies in the heap. -/
theorem dinv_same (c : Ctx P ops T K M0) (h : DInv P ops T K M0 W0 ds D G M Y a W) (ho : ops[i]? = some o) (hD : ¬ D i) (hr : ∀ j, Anc ops j i → D j) {v v' : Value} {M2 : Mp} {W2 : World} (he : isEff ops i = false) (hT : T (i + 1) = putA (T i) o.dst v) (p2 : PStep P M Y W M2 Y W2)
    (dom2 : ∀ b τ, M2 b = some τ → M b = some τ) (rv : VR P M2 v v') (hv : VIn (K (i + 1)).size v) :
    DInv P ops T K M0 W0 ds (fun j => D j ∨ j = i) G M2 Y (a.put o.dst v') W2 :=
  dinv_next c h ho hD hr hT p2 (gd_same h hD he) h.gl (fun b τ hb => .inl (dom2 b τ hb)) (fun b τ hb => h.agree b τ (dom2 b τ hb)) (fun j h1 h2 b h3 h4 => h.keep j h1 h2 b h3 (none_of_le p2.ext h4)) rv hv

def patch (X Y : Heap) : Heap := X ++ Y.extract X.size Y.size
theorem patch_lt {X Y : Heap} {b : Nat} (h : b < X.size) : (patch X Y)[b]? = X[b]? := by
  unfold patch; rw [Array.getElem?_append_left h]
theorem patch_ge {X Y : Heap} {b : Nat} (h : X.size ≤ b) : (patch X Y)[b]? = Y[b]? := by
  unfold patch
  rw [Array.getElem?_append_right h, Array.getElem?_extract]
  split
  · rw [show X.size + (b - X.size) = b from by omega]
  · rw [Array.getElem?_eq_none (by omega)]

def patchAt (Y : Heap) (k : Nat) (x : Blk) : Heap := Array.ofFn (n := max Y.size (k + 1)) fun b => if b.val = k then x else Y[b.val]?.getD .dead
theorem patchAt_eq {Y : Heap} {k : Nat} {x : Blk} : (patchAt Y k x)[k]? = some x := by
  unfold patchAt
  rw [Array.getElem?_ofFn]
  have : k < max Y.size (k + 1) := by omega
  simp [this]
theorem patchAt_ne {Y : Heap} {k b : Nat} {x y : Blk} (hb : b ≠ k) (hy : Y[b]? = some y) : (patchAt Y k x)[b]? = some y := by
  unfold patchAt
  have hl := (Array.getElem?_eq_some_iff.1 hy).1
  rw [Array.getElem?_ofFn]
  have : b < max Y.size (k + 1) := by omega
  simp [this, hb, hy]

/-- An effect. -/
theorem dinv_eff (c : Ctx P ops T K M0) (h : DInv P ops T K M0 W0 ds D G M Y a W) (ho : ops[i]? = some o) (hD : ¬ D i) (hr : ∀ j, Anc ops j i → D j) {v v' : Value} (he : isEff ops i = true) (hT : T (i + 1) = putA (T i) o.dst v) (st : Step P (restr M (K i).size) (K i) W M' (K (i + 1)) W') (rv : VR P M' v v') :
    ∃ G2 M2 Y2, DInv P ops T K M0 W0 ds (fun j => D j ∨ j = i) G2 M2 Y2 (a.put o.dst v') W' := by
  have hi := lt_of_some ho
  have before : ∀ j, isEff ops j = true → (D j ↔ j < i) := fun j hj => ⟨fun dj => by
      rcases Nat.lt_trichotomy j i with h1 | h1 | h1
      · exact h1
      · subst h1; exact absurd dj hD
      · exact absurd (h.cl i j dj (c.ok.eff i j h1 he hj)) hD, fun hj' => hr j (c.ok.eff j i hj' hj he)⟩
  have hX : ∀ b τ, M b = some τ → b < (K i).size → (K i)[b]? = Y[b]? := fun b τ hb hlt => by
    obtain ⟨blk, e1, e2, _⟩ := h.agree b τ hb i (Nat.le_of_lt hi) hlt fun j hj _ => by rw [← h.gd j hj]; exact (before j hj).symm
    rw [e1, e2]
  have hfree : ∀ b, (K i).size ≤ b → b < (K (i + 1)).size → M b = none := fun b => dinv_free c h ho hD
  have new' : ∀ b τ, M' b = some τ → M b = none → (K i).size ≤ b ∧ b < (K (i + 1)).size := fun b τ h1 h0 => by
    have hn : restr M (K i).size b = none := by
      unfold restr; split
      · exact h0
      · rfl
    obtain ⟨x1, x2, _⟩ := st.new b τ h1 hn
    exact ⟨x1, x2⟩
  have in' : ∀ b τ, cup M M' b = some τ → b < (K (i + 1)).size → M' b = some τ := fun b τ hb hlt => by
    rcases cup_inv hb with h1 | ⟨_, h1⟩
    · refine st.ext _ _ (restr_some.2 ⟨?_, h1⟩)
      rcases Nat.lt_or_ge b (K i).size with h2 | h2
      · exact h2
      · have := hfree b h2 hlt; rw [h1] at this; cases this
    · exact h1
  have p2 := glue (Y' := patch (K (i + 1)) Y) h.p.rel hX st hfree (fun b τ hb _ => patch_lt hb) (fun b τ hb _ => patch_ge hb)
  have hk : ∀ b, M' b ≠ none → b < (K (i + 1)).size := fun b hb => by
    cases hm : M' b with
    | none => exact absurd hm hb
    | some τ => exact st.rel.lt' hm
  have hk' : ∀ b τ, M' b = some τ → b < (K (i + 1)).size := fun b τ hb => st.rel.lt' hb
  have le' : MLe M' (cup M M') := fun b τ hb => by
    cases hm : M b with
    | none => unfold cup; rw [hm]; exact hb
    | some τ2 =>
      rcases Nat.lt_or_ge b (K i).size with h2 | h2
      · have := st.ext _ _ (restr_some.2 ⟨h2, hm⟩)
        rw [hb] at this; cases this
        exact cup_le _ _ hm
      · have := hfree b h2 (hk' b τ hb); rw [hm] at this; cases this
  refine ⟨i + 1, cup M M', patch (K (i + 1)) Y, dinv_next c h ho hD hr hT p2 (fun j hj => ?_) (.inr ⟨i, rfl, he⟩) (fun b τ hb => ?_) (fun b τ hb m hm hbm hc => ?_) (fun j hj hji b hb hn => ?_) (rv.mono le') (rv.vin hk')⟩
  · rw [before j hj]; omega
  · rcases cup_inv hb with h1 | ⟨h0, h1⟩
    · exact .inl h1
    · exact .inr (new' b τ h1 h0)
  · rcases Nat.lt_or_ge b (K (i + 1)).size with hlt | hge
    · have him : i < m := by
        rcases Nat.lt_or_ge b (K i).size with h2 | h2
        · exact (hc i he h2).2 (by omega)
        · rcases Nat.lt_or_ge i m with h3 | h3
          · exact h3
          · have := c.ksz h3 (Nat.le_of_lt hi); omega
      have e1 : (K m)[b]? = (K (i + 1))[b]? := c.kpres him hm hlt fun j h1 h2 h3 => by
        have := (hc j h3 (Nat.lt_of_lt_of_le hlt (c.ksz h1 (by omega)))).1 h2
        omega
      obtain ⟨blk, g1, g2⟩ := st.rel.blk b τ (in' b τ hb hlt)
      exact ⟨blk, e1.trans g1, (patch_lt hlt).trans g1, (g2.bin hk').mono (c.ksz him hm)⟩
    · have hb' : M b = some τ := by
        rcases cup_inv hb with h1 | ⟨h0, h1⟩
        · exact h1
        · have := (new' b τ h1 h0).2; omega
      obtain ⟨blk, e1, e2, e3⟩ := h.agree b τ hb' m hm hbm fun j hj hbj => by
        have hji : i + 1 < j := by
          rcases Nat.lt_or_ge (i + 1) j with h1 | h1
          · exact h1
          · have := c.ksz h1 (by omega); omega
        have h1 := hc j hj hbj
        have h2 := h.gd j hj
        have h3 := before j hj
        constructor
        · intro h4; have := h1.1 h4; omega
        · intro h4; have := h3.1 (h2.2 h4); omega
      exact ⟨blk, e1, (patch_ge hge).trans e2, e3⟩
  · have hn' : M b = none := none_of_le cup_le hn
    rcases Nat.lt_or_ge j i with h1 | h1
    · exact h.keep j hj ((h.gd j hj).1 ((before j hj).2 h1)) b hb hn'
    · have : j = i := by omega
      subst this
      exact st.cframe b hb (restr_none hb hn')

/-- What touches no heap. -/
theorem dinv_pure (c : Ctx P ops T K M0) (h : DInv P ops T K M0 W0 ds D G M Y a W) (ho : ops[i]? = some o) (hD : ¬ D i) (hr : ∀ j, Anc ops j i → D j) {v v' : Value} (he : isEff ops i = false) (hT : T (i + 1) = putA (T i) o.dst v) (hK : K (i + 1) = K i) (st : Step P (restr M (K i).size) (deads (K i).size) W M' (deads (K i).size) W') (rv : VR P M' v v') :
    ∃ G2 M2 Y2, DInv P ops T K M0 W0 ds (fun j => D j ∨ j = i) G2 M2 Y2 (a.put o.dst v') W' := by
  have hk' : ∀ b τ, M' b = some τ → b < (K i).size := fun b τ hb => by have := st.rel.lt' hb; rw [deads_size] at this; exact this
  have low : ∀ b τ, M' b = some τ → M b = some τ := fun b τ hb => by
    cases hm : restr M (K i).size b with
    | none =>
      obtain ⟨x1, x2, _⟩ := st.new b τ hb hm
      omega
    | some τ2 =>
      have := st.ext _ _ hm
      rw [hb] at this; cases this
      exact (restr_some.1 hm).2
  have dom2 : ∀ b τ, cup M M' b = some τ → M b = some τ := fun b τ hb => by
    rcases cup_inv hb with h1 | ⟨_, h1⟩
    · exact h1
    · exact low b τ h1
  have p2 := glue0 (Y' := Y) h.p.rel st (fun b h1 h2 => by rw [deads_size] at h2; omega) (fun b τ h1 h2 _ => by rw [deads_size] at h2; omega) (fun b τ _ => rfl)
  exact ⟨G, _, Y, dinv_same c h ho hD hr he hT p2 dom2 (rv.mono fun b τ hb => cup_le _ _ (low b τ hb)) (by rw [hK]; exact rv.vin hk')⟩

/-- A new block. -/
theorem dinv_alloc (c : Ctx P ops T K M0) (h : DInv P ops T K M0 W0 ds D G M Y a W) (ho : ops[i]? = some o) (hD : ¬ D i) (hr : ∀ j, Anc ops j i → D j) {v v' : Value} {blk : Blk} (he : isEff ops i = false) (hT : T (i + 1) = putA (T i) o.dst v) (hK : K (i + 1) = (K i).push blk)
    (st : Step P (restr M (K i).size) (deads (K i).size) W M' ((deads (K i).size).push blk) W') (rv : VR P M' v v') :
    ∃ G2 M2 Y2, DInv P ops T K M0 W0 ds (fun j => D j ∨ j = i) G2 M2 Y2 (a.put o.dst v') W' := by
  have hi := lt_of_some ho
  have hsz : ((deads (K i).size).push blk).size = (K i).size + 1 := by simp [deads_size]
  have hK1 : (K (i + 1)).size = (K i).size + 1 := by rw [hK]; simp
  have hk' : ∀ b τ, M' b = some τ → b < (K (i + 1)).size := fun b τ hb => by have := st.rel.lt' hb; rw [hsz] at this; omega
  have hfree : M (K i).size = none := dinv_free c h ho hD (Nat.le_refl _) (by omega)
  have low : ∀ b τ, M' b = some τ → M b = some τ ∨ b = (K i).size := fun b τ hb => by
    cases hm : restr M (K i).size b with
    | none =>
      obtain ⟨x1, x2, _⟩ := st.new b τ hb hm
      rw [deads_size] at x1
      right; omega
    | some τ2 =>
      have := st.ext _ _ hm
      rw [hb] at this; cases this
      exact .inl (restr_some.1 hm).2
  have newb : ((deads (K i).size).push blk)[(K i).size]? = some blk := by
    have := get_push_eq (deads (K i).size) blk
    rw [deads_size] at this; exact this
  have keepY : ∀ b τ, M b = some τ → (patchAt Y (K i).size blk)[b]? = Y[b]? := fun b τ hb => by
    obtain ⟨x, hx, _⟩ := h.p.rel.blk b τ hb
    rw [hx]
    exact patchAt_ne (fun e => by rw [e, hfree] at hb; cases hb) hx
  have p2 := glue0 (Y' := patchAt Y (K i).size blk) h.p.rel st (fun b h1 h2 => by
      have : b = (K i).size := by omega
      rw [this]; exact hfree) (fun b τ h1 h2 _ => by
      have : b = (K i).size := by omega
      rw [this, newb]; exact patchAt_eq) keepY
  have le' : MLe M' (cup M M') := fun b τ hb => by
    rcases low b τ hb with h1 | h1
    · exact cup_le _ _ h1
    · unfold cup; rw [h1, hfree]; rw [h1] at hb; exact hb
  refine ⟨G, cup M M', patchAt Y (K i).size blk, dinv_next c h ho hD hr hT p2 (gd_same h hD he) h.gl (fun b τ hb => ?_) (fun b τ hb m hm hbm hc => ?_) (fun j h1 h2 b h3 h4 => h.keep j h1 h2 b h3 (none_of_le cup_le h4)) (rv.mono le') (rv.vin hk')⟩
  · rcases cup_inv hb with h1 | ⟨h0, h1⟩
    · exact .inl h1
    · rcases low b τ h1 with h2 | h2
      · exact .inl h2
      · exact .inr ⟨by omega, by omega⟩
  · by_cases hm0 : M b = some τ
    · obtain ⟨x, e1, e2, e3⟩ := h.agree b τ hm0 m hm hbm hc
      exact ⟨x, e1, (keepY b τ hm0).trans e2, e3⟩
    · have hM' : M' b = some τ := by
        rcases cup_inv hb with h1 | ⟨_, h1⟩
        · exact absurd h1 hm0
        · exact h1
      have hbi : b = (K i).size := by
        rcases low b τ hM' with h2 | h2
        · exact absurd h2 hm0
        · exact h2
      subst hbi
      have him : i < m := by
        rcases Nat.lt_or_ge i m with h3 | h3
        · exact h3
        · have := c.ksz h3 (Nat.le_of_lt hi); omega
      have e0 : (K (i + 1))[(K i).size]? = some blk := by rw [hK]; exact get_push_eq _ _
      have e1 : (K m)[(K i).size]? = (K (i + 1))[(K i).size]? := c.kpres him hm (by omega) fun j h1 h2 h3 => by
        have hbj : (K i).size < (K j).size := Nat.lt_of_lt_of_le (by omega) (c.ksz h1 (by omega))
        exact h.keep j h3 ((hc j h3 hbj).1 h2) _ hbj hfree
      obtain ⟨x, g1, g2⟩ := st.rel.blk _ τ hM'
      rw [newb] at g1; cases g1
      refine ⟨blk, e1.trans e0, patchAt_eq, BIn.mono (c.ksz him hm) (g2.bin hk')⟩

/-- What is read, at a state that is as good as its own. -/
theorem dinv_read (c : Ctx P ops T K M0) (h : DInv P ops T K M0 W0 ds D G M Y a W) (ho : ops[i]? = some o) (hD : ¬ D i) (hr : ∀ j, Anc ops j i → D j) {v v' : Value} {p : Nat} (he : isEff ops i = false) (hT : T (i + 1) = putA (T i) o.dst v) (hX : ∀ b τ, M b = some τ → b < (K p).size → (K p)[b]? = Y[b]?)
    (st : Step P (restr M (K p).size) (K p) W M' (K p) W') (rv : VR P M' v v') (hv : VIn (K (i + 1)).size v) :
    ∃ G2 M2 Y2, DInv P ops T K M0 W0 ds (fun j => D j ∨ j = i) G2 M2 Y2 (a.put o.dst v') W' := by
  have low : ∀ b τ, M' b = some τ → M b = some τ := fun b τ hb => by
    cases hm : restr M (K p).size b with
    | none =>
      obtain ⟨x1, x2, _⟩ := st.new b τ hb hm
      omega
    | some τ2 =>
      have := st.ext _ _ hm
      rw [hb] at this; cases this
      exact (restr_some.1 hm).2
  have dom2 : ∀ b τ, cup M M' b = some τ → M b = some τ := fun b τ hb => by
    rcases cup_inv hb with h1 | ⟨_, h1⟩
    · exact h1
    · exact low b τ h1
  have p2 := glue (Y' := Y) h.p.rel hX st (fun b h1 h2 => by omega) (fun b τ hb hm => (hX b τ (dom2 b τ hm) hb).symm) (fun b τ _ _ => rfl)
  exact ⟨G, _, Y, dinv_same c h ho hD hr he hT p2 dom2 (rv.mono fun b τ hb => cup_le _ _ (low b τ hb)) hv⟩

/-- What is read, at the heap of now. -/
theorem dinv_readY (c : Ctx P ops T K M0) (h : DInv P ops T K M0 W0 ds D G M Y a W) (ho : ops[i]? = some o) (hD : ¬ D i) (hr : ∀ j, Anc ops j i → D j) {v v' : Value} (he : isEff ops i = false) (hT : T (i + 1) = putA (T i) o.dst v)
    (st : Step P M Y W M' Y W') (rv : VR P M' v v') (hv : VIn (K (i + 1)).size v) :
    ∃ G2 M2 Y2, DInv P ops T K M0 W0 ds (fun j => D j ∨ j = i) G2 M2 Y2 (a.put o.dst v') W' := by
  have low : ∀ b τ, M' b = some τ → M b = some τ := fun b τ hb => by
    cases hm : M b with
    | none =>
      obtain ⟨x1, x2, _⟩ := st.new b τ hb hm
      omega
    | some τ2 =>
      have := st.ext _ _ hm
      rw [hb] at this; cases this
      rfl
  have p2 : PStep P M Y W M' Y W' := ⟨st.rel, st.ext, fun b τ h1 h2 => (st.new b τ h1 h2).2.2, fun b τ h1 h2 => st.ro b (h.p.rel.lt' h1) h2, fun b τ h1 h2 => st.rw b (h.p.rel.lt' h1) h2, fun b τ h1 h2 => st.dead b (h.p.rel.lt' h1) h2, st.aframe, st.wsize, st.os, st.tape, st.output, st.drawn⟩
  exact ⟨G, _, Y, dinv_same c h ho hD hr he hT p2 low rv hv⟩

/-- What isn't wanted. -/
theorem dinv_skip (c : Ctx P ops T K M0) (h : DInv P ops T K M0 W0 ds D G M Y a W) (ho : ops[i]? = some o) (hD : ¬ D i) (hr : ∀ j, Anc ops j i → D j) (hT : T (i + 1) = putA (T i) o.dst undef) (hK : K (i + 1) = K i) :
    ∃ G2 M2 Y2, DInv P ops T K M0 W0 ds (fun j => D j ∨ j = i) G2 M2 Y2 (a.put o.dst undef) W := by
  have st0 : Step P (restr M (K i).size) (deads (K i).size) W (restr M (K i).size) (deads (K i).size) W := Step.refl (h.p.rel.deads _)
  cases he : isEff ops i with
  | false => exact dinv_pure c h ho hD hr he hT hK st0 VR.undef
  | true =>
    have hi := lt_of_some ho
    have before : ∀ j, isEff ops j = true → (D j ↔ j < i) := fun j hj => ⟨fun dj => by
        rcases Nat.lt_trichotomy j i with h1 | h1 | h1
        · exact h1
        · subst h1; exact absurd dj hD
        · exact absurd (h.cl i j dj (c.ok.eff i j h1 he hj)) hD, fun hj' => hr j (c.ok.eff j i hj' hj he)⟩
    have ag := fun b τ (hb : M b = some τ) (hlt : b < (K i).size) => h.agree b τ hb i (Nat.le_of_lt hi) hlt fun j hj _ => by rw [← h.gd j hj]; exact (before j hj).symm
    have R1 : Rel P (restr M (K i).size) (K i) W := h.p.rel.below (fun b τ hb hlt => by obtain ⟨blk, e1, e2, _⟩ := ag b τ hb hlt; rw [e1, e2]) (fun b τ blk hb hlt e => by
      obtain ⟨blk', e1, _, e3⟩ := ag b τ hb hlt
      rw [e] at e1; cases e1; exact e3)
    exact dinv_eff c h ho hD hr he hT (by rw [hK]; exact Step.refl R1) VR.undef

/-- One operation more, whichever it is. -/
theorem dinv_op (c : Ctx P ops T K M0) (h : DInv P ops T K M0 W0 ds D G M Y a W) (ho : ops[i]? = some o) (hD : ¬ D i) (hr : ∀ j, Anc ops j i → D j) {Q : Exit → Act → World → Prop} {next : Act → World → Prop}
    (hn : ∀ a' W' G2 M2 Y2, DInv P ops T K M0 W0 ds (fun j => D j ∨ j = i) G2 M2 Y2 a' W' → next a' W') : wpOp P ops Q i next a W := by
  have hi := lt_of_some ho
  unfold wpOp
  simp only [ho]
  have rd : ∀ t ∈ o.looksAt ops, VR P M ((T i).getD t undef) (a.tmps.getD t undef) ∧ VIn (K i).size ((T i).getD t undef) := fun t ht => dinv_reads c h ho hD hr ht
  have hs := c.st i o ho
  unfold stepR at hs
  split at hs
  · rename_i hw
    obtain ⟨v, hop, hT⟩ := hs
    rw [want_rel hw fun t ht => (rd t ht).1]
    simp only [if_true]
    left
    have lowT : ∀ {n}, n = (K i).size → ∀ x, VR P (restr M n) (evL (opT o) (T i) x) (a.eval x) := fun {n} hn x => evL_rel (fun t ht => by
      obtain ⟨h1, h2⟩ := rd t (opT_looks ht)
      rw [hn]; exact h1.low h2) x
    -- the operation, its operands alone being told
    have hop' : opA P (evL (opT o) (T i)) o.op (K i) = some (v, K (i + 1)) ∨ ∃ g args, calleeA (evL (opT o) (T i)) o.op = some (g, args) ∧ Snd P g args (K i) v (K (i + 1)) := by
      rw [← opA_congr evL_opT, ← calleeA_congr evL_opT]; exact hop
    cases hcl : cls o.op with
    | eff =>
      have he : isEff ops i = true := by rw [isEff_of ho, hcl]; rfl
      have before : ∀ j, isEff ops j = true → (D j ↔ j < i) := fun j hj => ⟨fun dj => by
          rcases Nat.lt_trichotomy j i with h1 | h1 | h1
          · exact h1
          · subst h1; exact absurd dj hD
          · exact absurd (h.cl i j dj (c.ok.eff i j h1 he hj)) hD, fun hj' => hr j (c.ok.eff j i hj' hj he)⟩
      have ag := fun b τ (hb : M b = some τ) (hlt : b < (K i).size) => h.agree b τ hb i (Nat.le_of_lt hi) hlt fun j hj _ => by rw [← h.gd j hj]; exact (before j hj).symm
      have R1 : Rel P (restr M (K i).size) (K i) W := h.p.rel.below (fun b τ hb hlt => by obtain ⟨blk, e1, e2, _⟩ := ag b τ hb hlt; rw [e1, e2]) (fun b τ blk hb hlt e => by
        obtain ⟨blk', e1, _, e3⟩ := ag b τ hb hlt
        rw [e] at e1; cases e1; exact e3)
      refine op_wp R1 (lowT rfl) hop' fun v' M' W' rv st => ?_
      obtain ⟨G2, M2, Y2, h2⟩ := dinv_eff c h ho hD hr he hT st rv
      exact hn _ _ _ _ _ h2
    | pure =>
      have he : isEff ops i = false := by rw [isEff_of ho, hcl]; rfl
      rcases hop' with hop' | ⟨g, args, hg, _⟩
      · obtain ⟨hK, hall⟩ := cls_pure hcl hop'
        refine op_wp (X := deads (K i).size) (X' := deads (K i).size) (h.p.rel.deads _) (lowT rfl) (.inl (hall _)) fun v' M' W' rv st => ?_
        obtain ⟨G2, M2, Y2, h2⟩ := dinv_pure c h ho hD hr he hT hK st rv
        exact hn _ _ _ _ _ h2
      · rw [callee_eff hg] at hcl; cases hcl
    | alloc =>
      have he : isEff ops i = false := by rw [isEff_of ho, hcl]; rfl
      rcases hop' with hop' | ⟨g, args, hg, _⟩
      · obtain ⟨blk, _, hK, hall⟩ := cls_alloc hcl hop'
        refine op_wp (X := deads (K i).size) (h.p.rel.deads _) (lowT rfl) (.inl (hall _ deads_size)) fun v' M' W' rv st => ?_
        obtain ⟨G2, M2, Y2, h2⟩ := dinv_alloc c h ho hD hr he hT hK st rv
        exact hn _ _ _ _ _ h2
      · rw [callee_eff hg] at hcl; cases hcl
    | read =>
      have he : isEff ops i = false := by rw [isEff_of ho, hcl]; rfl
      have hrd : isRead ops i = true := by rw [isRead_of ho, hcl]; rfl
      rcases hop' with hop' | ⟨g, args, hg, _⟩
      · have hK : K (i + 1) = K i := cls_read hcl hop'
        rw [hK] at hop'
        -- at which state
        have fin : ∀ p, p ≤ ops.size → (∀ j, isEff ops j = true → (j < p ↔ j < G)) → opA P (evL (opT o) (T i)) o.op (K p) = some (v, K p) → (∀ x, VR P (restr M (K p).size) (evL (opT o) (T i) x) (a.eval x)) → (p = i ∨ VIn (K i).size v) → o.wp P a W next Q := by
          intro p hp hpg hopp hevp hvp
          have ag := fun b τ (hb : M b = some τ) (hlt : b < (K p).size) => h.agree b τ hb p hp hlt fun j hj _ => hpg j hj
          have hX : ∀ b τ, M b = some τ → b < (K p).size → (K p)[b]? = Y[b]? := fun b τ hb hlt => by obtain ⟨blk, e1, e2, _⟩ := ag b τ hb hlt; rw [e1, e2]
          have R1 : Rel P (restr M (K p).size) (K p) W := h.p.rel.below hX (fun b τ blk hb hlt e => by
            obtain ⟨blk', e1, _, e3⟩ := ag b τ hb hlt
            rw [e] at e1; cases e1; exact e3)
          refine op_wp R1 hevp (.inl hopp) fun v' M' W' rv st => ?_
          have hv : VIn (K (i + 1)).size v := by
            rw [hK]
            rcases hvp with rfl | hvp
            · exact rv.vin fun b τ hb => st.rel.lt' hb
            · exact hvp
          obtain ⟨G2, M2, Y2, h2⟩ := dinv_read c h ho hD hr he hT hX st rv hv
          exact hn _ _ _ _ _ h2
        have viaPair : ∀ p, p ≤ ops.size → (i, p) ∈ pairsD ops → (∀ j, isEff ops j = true → (j < p ↔ j < G)) → o.wp P a W next Q := by
          intro p hp hmem hpg
          have hev : opA P (ev (T i)) o.op (K i) = some (v, K i) := by rw [opA_congr evL_opT]; exact hop'
          rcases c.pr _ hmem with hs1 | ⟨hlt, hs2⟩
          case inr =>
            obtain ⟨s4, s5⟩ := hs2 o ho hw
            simp only at hlt s4 s5
            -- at the heap of now
            have hevY : ∀ x, VR P M (evL (opT o) (T i) x) (a.eval x) := fun x => evL_rel (fun t ht => (rd t (opT_looks ht)).1) x
            have hbk : ∀ x ∈ o.op.operands.toList, ∀ b ∈ Bk (evL (opT o) (T i) x), Y[b]? = (K i)[b]? := fun x hx b hb => by
              have hb2 : b ∈ Bk (ev (T i) x) := by rw [evL_opT x hx]; exact hb
              obtain ⟨m, hmi, hm, hbm, hbe⟩ := s4 x hx b hb2
              obtain ⟨τ, hτ⟩ := VR.bk_map (hevY x) b hb
              obtain ⟨blk, q1, q2, _⟩ := h.agree b τ hτ m (by omega) hbm fun j hj hbj => by
                rcases hm with rfl | ⟨m', rfl, hm1, hm2⟩
                · exact hpg j hj
                · have hjm : m' < j := by
                    rcases Nat.lt_or_ge m' j with h | h
                    · exact h
                    · have := c.ksz h (by omega); omega
                  refine ⟨fun h => by omega, fun h => ?_⟩
                  have := (hpg j hj).2 h
                  omega
              rw [q2, ← q1, hbe]
            have hopY := read_congr hcl hop' hbk
            refine op_wp h.p.rel hevY (.inl hopY) fun v' M' W' rv st => ?_
            have hv : VIn (K (i + 1)).size v := by rw [hK]; exact vinB_sound (s5 v (K i) hev)
            obtain ⟨G2, M2, Y2, h2⟩ := dinv_readY c h ho hD hr he hT st rv hv
            exact hn _ _ _ _ _ h2
          obtain ⟨s1, s2, s3⟩ := hs1 o ho hw v (K i) hev
          simp only at s1 s2 s3
          refine fin p hp hpg (by rw [← opA_congr evL_opT]; exact s1) (fun x => evL_rel (fun t ht => ?_) x) (.inr (vinB_sound s2))
          have := (List.all_eq_true.1 s3) _ (mem_opT ht)
          exact (rd t (opT_looks ht)).1.low (vinB_sound this)
        by_cases h1 : ∃ j, j < i ∧ isEff ops j = true ∧ G ≤ j
        · -- an effect ahead of it has not been yet: the first one
          have : ∃ j, (j < i ∧ isEff ops j = true ∧ G ≤ j) ∧ ∀ k, k < j → ¬ (k < i ∧ isEff ops k = true ∧ G ≤ k) := by
            obtain ⟨j, hj⟩ := h1
            induction j using Nat.strongRecOn with
            | _ j ih =>
              by_cases hk : ∃ k, k < j ∧ (k < i ∧ isEff ops k = true ∧ G ≤ k)
              · obtain ⟨k, hk1, hk2⟩ := hk
                exact ih k hk1 hk2
              · exact ⟨j, hj, fun k hk1 hk2 => hk ⟨k, hk1, hk2⟩⟩
          obtain ⟨j, ⟨j1, j2, j3⟩, jmin⟩ := this
          have hnj : ¬ D j := fun dj => by have := (h.gd j j2).1 dj; omega
          rcases (pairsD_spec hrd j2).1 j1 with hA | hmem
          · exact absurd (hr j hA) hnj
          · refine viaPair j (by omega) hmem fun k hk => ⟨fun hkj => ?_, fun hkG => by omega⟩
            rcases Nat.lt_or_ge k G with h2 | h2
            · exact h2
            · exact absurd ⟨by omega, hk, h2⟩ (jmin k hkj)
        · have hbef : ∀ j, j < i → isEff ops j = true → j < G := fun j hj hje => by
            rcases Nat.lt_or_ge j G with h2 | h2
            · exact h2
            · exact absurd ⟨j, hj, hje, h2⟩ h1
          by_cases h2 : ∃ j, i < j ∧ isEff ops j = true ∧ j < G
          · -- an effect behind it has been
            obtain ⟨j, j1, j2, j3⟩ := h2
            rcases h.gl with hG | ⟨g, hG, hg⟩
            · omega
            · have hig : i < g := by
                have : i ≠ g := fun e => by rw [e, hg] at he; cases he
                omega
              have hdg : D g := (h.gd g hg).2 (by omega)
              rcases (pairsD_spec hrd hg).2 hig with hA | hmem
              · exact absurd (h.cl i g hdg hA) hD
              · rw [← hG] at hmem
                exact viaPair G (by have := isEff_lt hg; omega) hmem fun k hk => Iff.rfl
          · refine fin i (Nat.le_of_lt hi) (fun j hj => ⟨fun hji => hbef j hji hj, fun hjG => ?_⟩) hop' (lowT rfl) (.inl rfl)
            rcases Nat.lt_trichotomy j i with h3 | h3 | h3
            · exact h3
            · subst h3; rw [he] at hj; cases hj
            · exact absurd ⟨j, h3, hj, hjG⟩ h2
      · rw [callee_eff hg] at hcl; cases hcl
  · rename_i hw
    rw [want_rel hw fun t ht => (rd t ht).1]
    simp only [Bool.false_eq_true, if_false]
    obtain ⟨G2, M2, Y2, h2⟩ := dinv_skip c h ho hD hr hs.1 hs.2
    exact hn _ _ _ _ _ h2
  · exact hs.elim
end

theorem Anc.lt (ok : OkD ops) {i j : Nat} (h : Anc ops i j) : i < j := by
  induction h with
  | edge ho he hb hi => subst hi; exact ok.back _ _ ho _ he hb
  | tail ho he hb hk _ ih => subst hk; exact Nat.lt_trans ih (ok.back _ _ ho _ he hb)

/-- All operations are done. -/
theorem dinv_done (c : Ctx P ops T K M0) (R0 : Rel P M0 (K 0) W0) (h : DInv P ops T K M0 W0 ds D G M Y a W) (hall : ∀ j, j < ops.size → D j) :
    Step P M0 (K 0) W0 M (K ops.size) W ∧ AR P M (T ops.size) a.tmps ∧ a.defers = ds := by
  have hG : ∀ j, isEff ops j = true → (j < ops.size ↔ j < G) := fun j hj => ⟨fun hl => (h.gd j hj).1 (hall j hl), fun _ => isEff_lt hj⟩
  have hlt : ∀ b τ, M b = some τ → b < (K ops.size).size := fun b τ hb => by
    rcases h.dom b τ hb with e | ⟨j, _, lj, _, e⟩
    · exact Nat.lt_of_lt_of_le (c.m0 b τ e) (c.ksz (Nat.zero_le _) (Nat.le_refl _))
    · exact Nat.lt_of_lt_of_le e (c.ksz lj (Nat.le_refl _))
  have hX : ∀ b τ, M b = some τ → (K ops.size)[b]? = Y[b]? := fun b τ hb => by
    obtain ⟨blk, e1, e2, _⟩ := h.agree b τ hb ops.size (Nat.le_refl _) (hlt b τ hb) fun j hj _ => hG j hj
    rw [e1, e2]
  have hext := h.p.ext
  have pK : PStep P M0 (K 0) W0 M (K ops.size) W := by
    refine ⟨⟨fun b τ hb => ?_, h.p.rel.lt, fun b1 b2 τ1 τ2 h1 h2 => ?_⟩, hext, h.p.new, fun b τ hb hr => (hX b τ (hext b τ hb)).trans (h.p.ro b τ hb hr), fun b τ hb hr => ?_, fun b τ hb hd => ?_, h.p.aframe, h.p.wsize, h.p.os, h.p.tape, h.p.output, h.p.drawn⟩
    · obtain ⟨blk, g1, g2⟩ := h.p.rel.blk b τ hb
      exact ⟨blk, (hX b τ hb).trans g1, g2⟩
    · rw [dead_of_get (hX _ _ h1), dead_of_get (hX _ _ h2), ro_of_get (hX _ _ h1), ro_of_get (hX _ _ h2)]
      exact h.p.rel.inj b1 b2 τ1 τ2 h1 h2
    · rw [ro_of_get (hX _ _ (hext b τ hb))]; exact h.p.rw b τ hb hr
    · rw [dead_of_get (hX _ _ (hext b τ hb))]; exact h.p.dead b τ hb hd
  have fresh : ∀ b τ, M b = some τ → M0 b = none → (K 0).size ≤ b := fun b τ hb h0 => by
    rcases h.dom b τ hb with e | ⟨j, _, lj, e, _⟩
    · rw [h0] at e; cases e
    · exact Nat.le_trans (c.ksz (Nat.zero_le _) (Nat.le_of_lt lj)) e
  refine ⟨pK.step R0 (c.ksz (Nat.zero_le _) (Nat.le_refl _)) (fun b τ hb h0 => ⟨fresh b τ hb h0, hlt b τ hb⟩) (fun b hb h0 => ?_), AR.of_getD (by rw [c.tsz (Nat.le_refl _), h.tsz]) fun t => ?_, h.defs⟩
  · have hn : M b = none := by
      cases hm : M b with
      | none => rfl
      | some τ => have := fresh b τ hm h0; omega
    exact c.kpres (Nat.zero_le _) (Nat.le_refl _) hb fun j _ h2 h3 => h.keep j h3 ((hG j h3).1 h2) b (Nat.lt_of_lt_of_le hb (c.ksz (Nat.zero_le _) (by omega))) hn
  · exact (h.tmp t ops.size (Nat.le_refl _) fun j y hy _ => ⟨fun hj => hall j hj, fun _ => lt_of_some hy⟩).1

/-- Every order. -/
theorem draw_any (c : Ctx P ops T K M0) (R0 : Rel P M0 (K 0) W0) {Q : Exit → Act → World → Prop} (hQ : ∀ a W M, Step P M0 (K 0) W0 M (K ops.size) W → AR P M (T ops.size) a.tmps → a.defers = ds → Q .normal a W) :
    ∀ (fuel : Nat) (listed : Array Bool) (a : Act) (W : World) (G : Nat) (M : Mp) (Y : Heap) (todo : List Nat), listed.size = ops.size → (∀ i, i < ops.size → listed.getD i true = false → i ∈ todo) → todo.length ≤ fuel →
      DInv P ops T K M0 W0 ds (fun j => listed.getD j false = true) G M Y a W → wpAny P .any ops Q fuel listed a W := by
  have same : ∀ (listed : Array Bool) (i : Nat), listed.size = ops.size → i < ops.size → listed.getD i true = listed.getD i false := fun listed i hl hi => by simp [Array.getD, hl, hi]
  have ready_mem : ∀ (listed : Array Bool) i, listed.size = ops.size → (i ∈ Region.ready .any ops listed ↔ ∃ o, ops[i]? = some o ∧ listed.getD i false = false ∧ ∀ e ∈ o.after, Region.binds .any e = true → listed.getD e.on false = true) := by
    intro listed i hl
    unfold Region.ready
    simp only [List.mem_filter, List.mem_range, Bool.and_eq_true, Bool.not_eq_true']
    constructor
    · rintro ⟨hi, h1, h2⟩
      rw [Array.getElem?_eq_getElem hi] at h2 ⊢
      refine ⟨_, rfl, by rw [← same listed i hl hi]; exact h1, fun e he hb => ?_⟩
      simp only [Option.map_some, Option.getD_some] at h2
      obtain ⟨k, hk, e1⟩ := Array.mem_iff_getElem.1 he
      have := (Array.all_eq_true.1 h2) k hk
      rw [e1] at this
      simpa [hb] using this
    · rintro ⟨o, ho, h1, h2⟩
      have hi := lt_of_some ho
      refine ⟨hi, by rw [same listed i hl hi]; exact h1, ?_⟩
      rw [ho]
      simp only [Option.map_some, Option.getD_some]
      refine Array.all_eq_true.2 fun k hk => ?_
      have := h2 o.after[k] (Array.getElem_mem hk)
      cases hb : Region.binds .any o.after[k] with
      | false => rfl
      | true => simpa [hb] using this hb
  have doneAll : ∀ (listed : Array Bool), listed.size = ops.size → Region.ready .any ops listed = [] → ∀ j, j < ops.size → listed.getD j false = true := by
    intro listed hl hr j
    induction j using Nat.strongRecOn with
    | _ j ih =>
      intro hj
      cases hb : listed.getD j false with
      | true => rfl
      | false =>
        have : j ∈ Region.ready .any ops listed := (ready_mem listed j hl).2 ⟨_, Array.getElem?_eq_getElem hj, hb, fun e he hbd => by
          have := c.ok.back j _ (Array.getElem?_eq_getElem hj) e he hbd
          exact ih e.on this (by omega)⟩
        rw [hr] at this; cases this
  intro fuel
  induction fuel with
  | zero =>
    intro listed a W G M Y todo hl ht hlen h
    have h0 : todo = [] := by simpa using hlen
    have hall : ∀ j, j < ops.size → listed.getD j false = true := fun j hj => by
      cases hb : listed.getD j false with
      | true => rfl
      | false => have := ht j hj (by rw [same listed j hl hj]; exact hb); rw [h0] at this; cases this
    obtain ⟨s1, s2, s3⟩ := dinv_done c R0 h hall
    refine ⟨?_, hQ a W M s1 s2 s3⟩
    cases hr : Region.ready .any ops listed with
    | nil => rfl
    | cons i l =>
      have : i ∈ Region.ready .any ops listed := by rw [hr]; exact List.mem_cons_self ..
      obtain ⟨o, ho, hb, _⟩ := (ready_mem listed i hl).1 this
      rw [hall i (lt_of_some ho)] at hb; cases hb
  | succ fuel ih =>
    intro listed a W G M Y todo hl ht hlen h
    refine ⟨fun hr => ?_, fun i hi => ?_⟩
    · obtain ⟨s1, s2, s3⟩ := dinv_done c R0 h (doneAll listed hl hr)
      exact hQ a W M s1 s2 s3
    · obtain ⟨o, ho, hb, hready⟩ := (ready_mem listed i hl).1 hi
      have hiL := lt_of_some ho
      refine dinv_op c h ho (by simp [hb]) (fun j hj => ?_) fun a' W' G2 M2 Y2 h2 => ?_
      · cases hj with
        | edge ho' he hbd hon => rw [ho] at ho'; cases ho'; subst hon; exact hready _ he hbd
        | tail ho' he hbd hon hA => rw [ho] at ho'; cases ho'; subst hon; exact h.cl _ _ (hready _ he hbd) hA
      · have hmem : i ∈ todo := ht i hiL (by rw [same listed i hl hiL]; exact hb)
        have get : ∀ j d, (listed.setIfInBounds i true).getD j d = if j = i then true else listed.getD j d := fun j d => by
          simp only [Array.getD_eq_getD_getElem?, Array.getElem?_setIfInBounds]
          by_cases e : i = j
          · subst e; simp [hl, hiL]
          · rw [if_neg e, if_neg (Ne.symm e)]
        refine ih _ a' W' G2 M2 Y2 (todo.erase i) (by simpa using hl) (fun j hj hb2 => ?_) (by rw [List.length_erase_of_mem hmem]; omega) ?_
        · rw [get] at hb2
          split at hb2
          · cases hb2
          · rename_i hne
            exact (List.mem_erase_of_ne hne).2 (ht j hj hb2)
        · have : (fun j => (listed.setIfInBounds i true).getD j false = true) = fun j => listed.getD j false = true ∨ j = i := by
            funext j
            rw [get]
            by_cases e : j = i
            · simp [e]
            · simp [e]
          rw [this]; exact h2

/-- A region whose order is drawn. -/
theorem draw_sound {id : Nat} {Q : Tmps → Heap → Prop} {T : Tmps} {H : Heap} {QM : Exit → Act → World → Prop} (hm : P.follows .mixedOrders = true) (ok : okD ops = true) (R : Rel P M H W) (hT : AR P M T a.tmps) (h : drawW P (Snd P) ops Q T H)
    (hQ : ∀ a' W' M' T' H', Q T' H' → Step P M H W M' H' W' → AR P M' T' a'.tmps → a'.defers = a.defers → QM .normal a' W') : (Code.region id ops true).wp P QM a W := by
  obtain ⟨Ts, Ks, rfl, rfl, hst, hpr, hq⟩ := h
  have c : Ctx P ops Ts Ks M := ⟨okD_spec ok, hst, hpr, fun b τ hb => R.lt' hb⟩
  have R1 : Rel P M (Ks 0) { W with drawn := W.drawn + 1 } := ⟨fun b τ hb => by
      obtain ⟨blk, g1, g2⟩ := R.blk b τ hb
      exact ⟨blk, g1, g2.move (MLe.refl _) rfl⟩, R.lt, R.inj⟩
  have s0 : Step P M (Ks 0) W M (Ks 0) { W with drawn := W.drawn + 1 } := ⟨R1, MLe.refl _, Nat.le_refl _, (fun b τ h h' => by rw [h] at h'; cases h'), fun _ _ _ => rfl, fun _ _ h => h, fun _ _ h => h, fun _ _ _ => rfl, fun _ _ _ => rfl, Nat.le_refl _, rfl, rfl, rfl, Nat.le_succ _⟩
  refine wp_region_any hm (draw_any c R1 (ds := a.defers) (fun a' W' M' st hT' hd => hQ a' W' M' _ _ hq (Step.trans R s0 st) hT' hd) ops.size _ a _ 0 M (Ks 0) (List.range ops.size) (by simp) (fun i hi _ => List.mem_range.2 hi) (by simp) ?_)
  have nothing : ∀ j, (Array.replicate ops.size false).getD j false = true ↔ False := fun j => by
    rw [Array.getD_eq_getD_getElem?, Array.getElem?_replicate]
    split <;> simp
  refine ⟨⟨R1, MLe.refl _, (fun b τ h h' => by rw [h] at h'; cases h'), fun _ _ _ _ => rfl, fun _ _ _ h => h, fun _ _ _ h => h, fun _ _ _ => rfl, Nat.le_refl _, rfl, rfl, rfl, Nat.le_refl _⟩, fun i j h _ => ((nothing j).1 h).elim, fun j _ => ?_, .inl rfl, fun b τ hb => .inl hb, fun b τ hb m hm hbm hc => ?_, fun j _ h => by omega, by rw [hT.1], fun t m hm hw => ?_, rfl⟩
  · rw [nothing]; simp
  · have hb0 := R.lt' hb
    obtain ⟨blk, g1, g2⟩ := R.blk b τ hb
    have e : (Ks m)[b]? = (Ks 0)[b]? := c.kpres (Nat.zero_le _) hm hb0 fun j _ h2 h3 => by
      have := (hc j h3 (Nat.lt_of_lt_of_le hb0 (c.ksz (Nat.zero_le _) (by omega)))).1 h2
      omega
    exact ⟨blk, e.trans g1, g1, (g2.bin fun b τ hb => R.lt' hb).mono (c.ksz (Nat.zero_le _) hm)⟩
  · have e : (Ts m).getD t undef = (Ts 0).getD t undef := c.tpres (Nat.zero_le _) hm fun j o _ h2 ho hd => (nothing j).1 ((hw j o ho hd).1 h2)
    rw [e]
    exact ⟨hT.getD t, ((hT.getD t).vin fun b τ hb => R.lt' hb).mono (c.ksz (Nat.zero_le _) hm)⟩
end Go.AH

/-
  AH: sound. What a call of AH comes to, the model's call comes to, whatever is drawn.
-/
namespace Go.AH
open Go
variable {P : Program} {M M' : Mp} {H H' : Heap} {W W' : World}

def exOf : Ex → Exit
  | .normal => .normal
  | .exit id => .exit id
  | .ret => .ret

/-- What AH's end of a piece of code says of the model's. -/
def endQ (P : Program) (M : Mp) (H : Heap) (W : World) (ds : List Deferred) (Q : Post) : Exit → Act → World → Prop := fun e a' W' =>
  ∃ e0 T' H' M', exOf e0 = e ∧ Q e0 T' H' ∧ Step P M H W M' H' W' ∧ AR P M' T' a'.tmps ∧ a'.defers = ds

theorem endQ_mono {ds : List Deferred} {Q Q' : Post} (h : ∀ e T H, Q e T H → Q' e T H) {e : Exit} {a : Act} {w : World} (k : endQ P M H W ds Q e a w) : endQ P M H W ds Q' e a w := by
  obtain ⟨e0, T', H', M', h1, h2, h3⟩ := k
  exact ⟨e0, T', H', M', h1, h _ _ _ h2, h3⟩

/-- A step ahead. -/
theorem endQ_step {ds : List Deferred} {Q : Post} (R : Rel P M H W) (st : Step P M H W M' H' W') {e : Exit} {a : Act} {w : World} (k : endQ P M' H' W' ds Q e a w) : endQ P M H W ds Q e a w := by
  obtain ⟨e0, T', H2, M2, h1, h2, h3, h4⟩ := k
  exact ⟨e0, T', H2, M2, h1, h2, Step.trans R st h3, h4⟩

theorem ops_sound {ops : Array Oper} {Q : Tmps → Heap → Prop} {QM : Exit → Act → World → Prop} : ∀ (l : List Oper) (k : Nat) (T : Tmps) (H : Heap) (M : Mp) (W : World) (a : Act), (∀ j, l[j]? = ops[k + j]?) → Rel P M H W → AR P M T a.tmps →
    opsW P (Snd P) ops Q l T H → (∀ a' W' M' T' H', Q T' H' → Step P M H W M' H' W' → AR P M' T' a'.tmps → a'.defers = a.defers → QM .normal a' W') → wpOps P ops QM (List.range' k l.length) a W
  | [], k, T, H, M, W, a, hl, R, hT, h, hQ => hQ a W M T H h (Step.refl R) hT rfl
  | o :: l, k, T, H, M, W, a, hl, R, hT, h, hQ => by
    have ho : ops[k]? = some o := by simpa using (hl 0).symm
    have hl' : ∀ j, l[j]? = ops[k + 1 + j]? := fun j => by
      have := hl (j + 1)
      rw [show k + (j + 1) = k + 1 + j from by omega] at this
      simpa using this
    have fin : ∀ (v v' : Value) (M' : Mp) (H' : Heap) (W' : World), VR P M' v v' → Step P M H W M' H' W' → opsW P (Snd P) ops Q l (putA T o.dst v) H' → wpOps P ops QM (List.range' (k + 1) l.length) (a.put o.dst v') W' := by
      intro v v' M' H' W' rv st h2
      refine ops_sound l (k + 1) _ H' M' W' _ hl' st.rel ?_ h2 fun a' W2 M2 T2 H2 q st2 hT2 hd => hQ a' W2 M2 T2 H2 q (Step.trans R st st2) hT2 (hd.trans (put_defers _ _ _))
      refine AR.of_getD (by rw [putA_size, put_size, hT.1]) fun t => ?_
      by_cases hd : o.dst = some t
      · rw [hd, putA_same, put_same, hT.1]
        split
        · exact rv
        · exact VR.undef
      · rw [putA_other hd, put_other hd]
        exact (hT.getD t).mono st.ext
    show wpOps P ops QM (List.range' k (l.length + 1)) a W
    rw [List.range'_succ]
    simp only [wpOps, ho]
    simp only [opsW] at h
    split at h
    · rename_i hw
      obtain ⟨v, H', h1, h2⟩ := h
      rw [want_rel hw fun t _ => hT.getD t]
      simp only [if_true]
      exact .inl (op_wp R (ev_rel fun t => hT.getD t) h1 fun v' M' W' rv st => fin v v' M' H' W' rv st h2)
    · rename_i hw
      rw [want_rel hw fun t _ => hT.getD t]
      simp only [Bool.false_eq_true, if_false]
      exact fin undef undef M H W VR.undef (Step.refl R) h
    · exact h.elim

/-- Within a loop, at a round's beginning. -/
def LoopIn (P : Program) (c : Code) (Q : Exit → Act → World → Prop) (a : Act) (w : World) : Prop :=
  ∀ (b : Frame) (k : List Item) (cs : List Frame), ∃ e a' w', Q e a' w' ∧ Arrives P (lone (b.at a (.code c :: .inLoop c :: k)) cs w) b k cs e a' w'

theorem LoopIn.wp {c : Code} {Q : Exit → Act → World → Prop} {a : Act} {w : World} (h : LoopIn P c Q a w) : (Code.loop c).wp P Q a w := fun b k cs => by
  obtain ⟨e, a', w', q, r⟩ := h b k cs
  exact ⟨e, a', w', q, .of_steps (.one step_loop) r⟩
theorem LoopIn.mono {c : Code} {Q Q' : Exit → Act → World → Prop} {a : Act} {w : World} (h : LoopIn P c Q a w) (hq : ∀ e a w, Q e a w → Q' e a w) : LoopIn P c Q' a w := fun b k cs => by
  obtain ⟨e, a', w', q, r⟩ := h b k cs
  exact ⟨e, a', w', hq _ _ _ q, r⟩
theorem LoopIn.round {c : Code} {Q : Exit → Act → World → Prop} {a : Act} {w : World} (h : c.wp P (Exit.then (LoopIn P c Q) Q) a w) : LoopIn P c Q a w := by
  intro b k cs
  obtain ⟨e, a₁, w₁, hq, harr⟩ := h b (.inLoop c :: k) cs
  cases e with
  | normal =>
    obtain ⟨e₂, a₂, w₂, hq₂, harr₂⟩ := hq b k cs
    exact ⟨e₂, a₂, w₂, hq₂, .of_steps (Steps.trans harr (.one step_inLoop)) harr₂⟩
  | exit id => exact ⟨_, a₁, w₁, hq, .pass (x := .inLoop c) rfl (fun _ _ => .inl (by simp)) harr⟩
  | goto l => exact ⟨_, a₁, w₁, hq, .pass (x := .inLoop c) rfl (fun _ _ => .inl (by simp)) harr⟩
  | ret => exact ⟨_, a₁, w₁, hq, .pass (x := .inLoop c) rfl (fun _ _ => .inl (by simp)) harr⟩
  | panic ch => exact ⟨_, a₁, w₁, hq, .pass (x := .inLoop c) rfl (fun _ _ => .inl (by simp)) harr⟩
  | outgrown => exact ⟨_, a₁, w₁, hq, .pass (x := .inLoop c) rfl (fun _ _ => .inl (by simp)) harr⟩

theorem code_sound (hm : P.follows .mixedOrders = true) : ∀ (c : Code) {Q : Post} (T : Tmps) (H : Heap), okC c = true → codeW P (Snd P) c Q T H → ∀ (M : Mp) (W : World) (a : Act), Rel P M H W → AR P M T a.tmps → c.wp P (endQ P M H W a.defers Q) a W := by
  intro c
  induction c with
  | skip => intro Q T H ok h M W a R hT; exact wp_skip ⟨.normal, T, H, M, rfl, h, Step.refl R, hT, rfl⟩
  | region id ops draw =>
    intro Q T H ok h M W a R hT
    cases draw with
    | true => exact draw_sound hm ok R hT h fun a' W' M' T' H' q st hT' hd => ⟨.normal, T', H', M', rfl, q, st, hT', hd⟩
    | false =>
      refine wp_region ?_
      have := ops_sound (ops := ops) (QM := endQ P M H W a.defers Q) ops.toList 0 T H M W a (fun j => by simp) R hT h fun a' W' M' T' H' q st hT' hd => ⟨.normal, T', H', M', rfl, q, st, hT', hd⟩
      rw [List.range_eq_range']
      simpa using this
  | seq x y ihx ihy =>
    intro Q T H ok h M W a R hT
    simp only [okC, Bool.and_eq_true] at ok
    refine wp_seq (wp_mono (ihx T H ok.1 h M W a R hT) fun e a1 W1 k => ?_)
    obtain ⟨e0, T1, H1, M1, rfl, q, st, hT1, hd⟩ := k
    cases e0 with
    | normal =>
      refine wp_mono (ihy T1 H1 ok.2 q M1 W1 a1 st.rel hT1) fun e a2 W2 k => ?_
      rw [hd] at k
      exact endQ_step R st k
    | exit id => exact ⟨.exit id, T1, H1, M1, rfl, q, st, hT1, hd⟩
    | ret => exact ⟨.ret, T1, H1, M1, rfl, q, st, hT1, hd⟩
  | cond x c d ihc ihd =>
    intro Q T H ok h M W a R hT
    simp only [okC, Bool.and_eq_true] at ok
    simp only [codeW] at h
    have hx := ev_rel (a := a) (fun t => hT.getD t) x
    split at h
    · rename_i e
      rw [e] at hx
      exact wp_cond_true hx.bool_inv (ihc T H ok.1 h M W a R hT)
    · rename_i e
      rw [e] at hx
      exact wp_cond_false hx.bool_inv (ihd T H ok.2 h M W a R hT)
    · exact h.elim
  | block id c ih =>
    intro Q T H ok h M W a R hT
    refine wp_block (wp_mono (ih T H ok h M W a R hT) fun e a1 W1 k => ?_)
    obtain ⟨e0, T1, H1, M1, rfl, q, st, hT1, hd⟩ := k
    cases e0 with
    | normal => exact ⟨.normal, T1, H1, M1, rfl, q, st, hT1, hd⟩
    | ret => exact ⟨.ret, T1, H1, M1, rfl, q, st, hT1, hd⟩
    | exit id' =>
      simp only [blockE] at q
      simp only [exOf, Exit.inBlock]
      split
      · rename_i hid; rw [if_pos hid] at q; exact ⟨.normal, T1, H1, M1, rfl, q, st, hT1, hd⟩
      · rename_i hid; rw [if_neg hid] at q; exact ⟨.exit id', T1, H1, M1, rfl, q, st, hT1, hd⟩
  | loop c ih =>
    intro Q T H ok h M W a R hT
    have := h (fun T H => ∀ (M : Mp) (W : World) (a : Act), Rel P M H W → AR P M T a.tmps → LoopIn P c (endQ P M H W a.defers Q) a W) fun T H h M W a R hT => by
      refine LoopIn.round (wp_mono (ih T H ok h M W a R hT) fun e a1 W1 k => ?_)
      obtain ⟨e0, T1, H1, M1, rfl, q, st, hT1, hd⟩ := k
      cases e0 with
      | normal =>
        refine (q M1 W1 a1 st.rel hT1).mono fun e a2 W2 k => ?_
        rw [hd] at k
        exact endQ_step R st k
      | exit id => exact ⟨.exit id, T1, H1, M1, rfl, q, st, hT1, hd⟩
      | ret => exact ⟨.ret, T1, H1, M1, rfl, q, st, hT1, hd⟩
    exact (this M W a R hT).wp
  | exit id => intro Q T H ok h M W a R hT; exact wp_exit ⟨.exit id, T, H, M, rfl, h, Step.refl R, hT, rfl⟩
  | ret => intro Q T H ok h M W a R hT; exact wp_ret ⟨.ret, T, H, M, rfl, h, Step.refl R, hT, rfl⟩
  | rangeFunc f p x y ihx ihy => intro Q T H ok h; exact h.elim
  | scope c ih => intro Q T H ok h; exact h.elim
  | label l => intro Q T H ok h; exact h.elim
  | goto l => intro Q T H ok h; exact h.elim
  | refuse w => intro Q T H ok h; exact h.elim

/-- The functions that F tells are fit for AH. -/
def OkF (P : Program) (F : FuncId → Bool) : Prop := ∀ f, F f = true → ∀ fn, P.funcs[f]? = some fn → (fn.name == "runtime.NumGoroutine") = false ∧ ∀ c, fn.body = some c → okC c = true

/-- The other functions' contracts are true of the model. -/
def OkPr (P : Program) (Pr : CallR → CallR) : Prop := ∀ f args H v H', Pr (Snd P) f args H v H' → Snd P f args H v H'

theorem mapM_res {T T' : Tmps} {g : ResultVar → Sem Value} (R : Rel P M H W) (hT : AR P M T T') (h1 : ∀ t, g (.tmp t) = pure (T'.getD t undef)) (h2 : ∀ a t, g (.cell a t) = (do loadVar t (← asAddr (T'.getD a undef)))) :
    ∀ (l : List ResultVar) {vs : List Value}, resVs P T H l = some vs → ∃ vs', (l.mapM g).run P W = .ok vs' W ∧ LR P M vs vs' := by
  intro l
  induction l with
  | nil => intro vs h; cases h; exact ⟨[], by simp, .nil⟩
  | cons r l ih =>
    intro vs h
    simp only [resVs] at h
    split at h
    · rename_i v us e1 e2
      cases h
      obtain ⟨us', r1, r2⟩ := ih e2
      have hv : ∃ v', (g r).run P W = .ok v' W ∧ VR P M v v' := by
        cases r with
        | tmp t =>
          simp only [resV, Option.some.injEq] at e1
          subst e1
          exact ⟨_, by rw [h1]; rfl, hT.getD t⟩
        | cell a t =>
          obtain ⟨v', e, rv⟩ := loadVar_run R (hT.getD a) e1
          exact ⟨v', by rw [h2]; exact e, rv⟩
      obtain ⟨v', r3, r4⟩ := hv
      refine ⟨v' :: us', ?_, .cons r4 r2⟩
      simp only [List.mapM_cons, Sem.run_bind]
      rw [r3]
      simp only [Result.andThen_ok]
      rw [r1]
      simp
    · cases h

theorem run_one {s : Sem (Array Value)} {x : Array Value} {w : World} (h : s.run P w = .ok x w) : (do let vs ← s; pure (if h : vs.size = 1 then vs[0] else .tuple vs)).run P w = .ok (one x) w := by
  simp only [Sem.run_bind]
  rw [h]
  rfl

theorem run_arr {x : Array ResultVar} {g : ResultVar → Sem Value} {vs : List Value} {w : World} (h : (x.toList.mapM g).run P w = .ok vs w) : (x.mapM g).run P w = .ok vs.toArray w := by
  rw [Array.mapM_eq_mapM_toList]
  simp only [Sem.run_map]
  rw [h]
  simp

theorem run_results {fn : Func} {T : Tmps} {a : Act} {v : Value} (R : Rel P M H W) (hT : AR P M T a.tmps) (h : resA P fn T H = some v) : ∃ v', (results fn a.tmps).run P W = .ok v' W ∧ VR P M v v' := by
  unfold resA at h
  obtain ⟨vs, e, rfl⟩ := Option.map_eq_some_iff.1 h
  unfold results
  obtain ⟨vs', r1, r2⟩ := mapM_res (g := fun | .tmp t => pure (a.tmps.getD t undef) | .cell b t => do loadVar t (← asAddr (a.tmps.getD b undef))) R hT (fun t => rfl) (fun b t => rfl) _ e
  refine ⟨one vs'.toArray, ?_, ?_⟩
  · exact run_one (run_arr r1)
  · unfold one
    have rel : AR P M vs.toArray vs'.toArray := LR.array r2
    by_cases hs : vs.toArray.size = 1
    · have hs' : vs'.toArray.size = 1 := by rw [← rel.1, hs]
      simp only [hs, hs', dif_pos]
      exact rel.2 0 (by omega) (by omega)
    · have hs' : ¬ vs'.toArray.size = 1 := by rw [← rel.1]; exact hs
      simp only [hs, hs', dif_neg, not_false_eq_true]
      exact .tuple rel.1 rel.2

theorem enter_rel {fn : Func} {args args' : Array Value} (h : AR P M args args') : AR P M (enterA fn args) (args' ++ Array.replicate (fn.ntmps - args'.size) undef) := by
  unfold enterA
  rw [← h.1]
  refine AR.append h ⟨rfl, fun i h1 h2 => ?_⟩
  simp only [Array.getElem_replicate]
  exact VR.undef

/-- AH is sound. -/
theorem snd_closed {F : FuncId → Bool} {Pr : CallR → CallR} (hm : P.follows .mixedOrders = true) (hF : OkF P F) (hP : OkPr P Pr) : Clo P F Pr (Snd P) := by
  refine ⟨hP, fun f fn c args H v H' hf hfn hc h => ?_⟩
  obtain ⟨hnm, hok⟩ := hF f hf fn hfn
  refine ⟨?_, .inl ⟨⟨fn, hfn, by rw [hc]; rfl, hnm⟩, fun M W args' R hargs => ?_⟩⟩
  · obtain ⟨e, T1, H1, q, _⟩ := codeW_exact c _ _ (codeW_size snd_grows c _ _ (Nat.le_refl _) h)
    obtain ⟨q1, q2, v1, q3, rfl, rfl⟩ := q
    exact q1
  · refine calls_of_wp hfn hc (wp_mono (code_sound hm c _ H (hok c hc) h M W _ R (enter_rel hargs)) fun e a' W' k => ?_)
    obtain ⟨e0, T', H1, M', rfl, ⟨he, v1, hv, rfl, rfl⟩, st, hT', hd⟩ := k
    obtain ⟨v', hrun, rv⟩ := run_results st.rel hT' hv
    rcases he with rfl | rfl
    · exact ⟨hd, v', hrun, v', M', rfl, rv, st⟩
    · exact ⟨hd, v', hrun, v', M', rfl, rv, st⟩

theorem call_sound {F : FuncId → Bool} {Pr : CallR → CallR} (hm : P.follows .mixedOrders = true) (hF : OkF P F) (hP : OkPr P Pr) {f : FuncId} {args : Array Value} {H H' : Heap} {v : Value} (h : CallA P F Pr f args H v H') : Snd P f args H v H' :=
  h _ (snd_closed hm hF hP)

/-- At the model's door. -/
theorem callW_sound {F : FuncId → Bool} {Pr : CallR → CallR} (hm : P.follows .mixedOrders = true) (hF : OkF P F) (hP : OkPr P Pr) {f : FuncId} {args args' : Array Value} {H : Heap} {Q : Value → Heap → Prop} (he : Ent P f) (h : callW P F Pr f args H Q) {M : Mp} {W : World} (R : Rel P M H W) (ha : AR P M args args') :
    Calls P f args' W (fun e W' => ∃ v v' H' M', e = .returned v' ∧ Q v H' ∧ VR P M' v v' ∧ Step P M H W M' H' W') := by
  obtain ⟨v, H', h1, q⟩ := h
  rcases (call_sound hm hF hP h1).2 with ⟨_, h2⟩ | ⟨h2, _⟩
  · refine (h2 M W args' R ha).mono fun e W' k => ?_
    obtain ⟨v', M', e1, rv, st⟩ := k
    exact ⟨v, v', H', M', e1, q, rv, st⟩
  · exact absurd he h2

/-! ### A function without a body: the order of two texts -/
def cmpPr (g : FuncId) : CallR := fun f args H v H' => f = g ∧ ∃ a b : ByteArray, args = #[.string a, .string b] ∧ v = .int .i64 (Lib.compareBytes a.data.toList b.data.toList) ∧ H' = H

theorem cmp_snd {g : FuncId} {fn : Func} (hf : P.funcs[g]? = some fn) (hname : (fn.name == "runtime.NumGoroutine") = false) (hb : fn.body.isNone = true) (hn : Extern.findNext fn = none) (he : Extern.find fn = some Extern.BytealgCompare.compare)
    {f : FuncId} {args : Array Value} {v : Value} (h : cmpPr g f args H v H') : Snd P f args H v H' := by
  obtain ⟨rfl, a, b, rfl, rfl, rfl⟩ := h
  refine ⟨Nat.le_refl _, .inr ⟨fun ⟨fn', h1, h2, _⟩ => ?_, fun M W args' R ha => ?_⟩⟩
  · rw [hf] at h1; cases h1; rw [hb] at h2; cases h2
  · obtain ⟨l⟩ := args'
    have hl := ha.list
    cases hl with | cons h1 r => cases r with | cons h2 r => cases r with | nil =>
    rw [h1.string_inv, h2.string_inv]
    refine ⟨_, M, W, ?_, .base rfl, Step.refl R⟩
    rw [run_callFunc_extern hf hname hb hn he]
    rw [Lib.run_compareString]
    rfl
end Go.AH
