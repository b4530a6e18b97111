/-
  AH: from a run of the evaluator to the model's call, where nothing of the caller's memory is read.
-/
import Derived.Test.YtemibbcfbhafeaaDoorAhEval
import Derived.Below
namespace Go.AH
open Go Go.RowKit
variable {P : Program}

def okFn (fn : Func) : Bool := !(fn.name == "runtime.NumGoroutine") && (match fn.body with | some c => okC c | none => true)
def okFB (P : Program) (l : List FuncId) : Bool := l.all fun f => match P.funcs[f]? with | some fn => okFn fn | none => true
/-- The functions that a list tells. -/
def inL (l : List FuncId) : FuncId → Bool := fun f => l.any fun g => f == g

theorem okF_of {l : List FuncId} (h : okFB P l = true) : OkF P (inL l) := by
  intro f hf fn hfn
  unfold inL at hf
  obtain ⟨g, hg, e⟩ := List.any_eq_true.1 hf
  have e : f = g := by simpa using e
  subst e
  have := List.all_eq_true.1 h f hg
  rw [hfn] at this
  simp only [okFn, Bool.and_eq_true, Bool.not_eq_true'] at this
  refine ⟨this.1, fun c hc => ?_⟩
  have h2 := this.2
  rw [hc] at h2
  exact h2

/-- The one function without a body that is known here: the order of two texts. -/
def cmpX (g : FuncId) : CallX := fun f args H =>
  if f = g then
    match args with
    | ⟨[.string a, .string b]⟩ => some (.int .i64 (Lib.compareBytes a.data.toList b.data.toList), H)
    | _ => none
  else none

theorem cmpX_ok {F : FuncId → Bool} {g : FuncId} : XOk (cmpX g) (CallA P F fun _ => cmpPr g) := by
  intro f args H v H' h
  unfold cmpX at h
  split at h
  · rename_i hf
    split at h
    · rename_i a b
      cases h
      exact call_prim (fun _ _ _ _ _ _ _ _ h => h) ⟨hf, a, b, rfl, rfl, rfl⟩
    · cases h
  · cases h

def noX : CallX := fun _ _ _ => none
def noPr : CallR := fun _ _ _ _ _ => False
theorem noX_ok {F : FuncId → Bool} : XOk noX (CallA P F fun _ => noPr) := fun _ _ _ _ _ h => by cases h
theorem noPr_ok : OkPr P (fun _ => noPr) := fun _ _ _ _ _ h => h.elim

def isTrueX : Option (Value × Heap) → Bool
  | some (.bool true, _) => true
  | _ => false

theorem rel_empty (W : World) : Rel P (fun _ => none) #[] W := ⟨fun _ _ h => (by cases h), fun _ _ h => (by cases h), fun _ _ _ _ h => (by cases h)⟩

theorem below_of_step {M' : Mp} {H H' : Heap} {W W' : World} (h : Step P (fun _ => none) H W M' H' W') : Below W.heap.size W W' :=
  ⟨h.os, h.tape, h.output, h.wsize, fun k hk => h.aframe k hk fun b τ e => by cases e⟩

theorem ar_base {M : Mp} {args : Array Value} (hb : args.toList.all isBase = true) : AR P M args args := LR.array (LR.refl_base hb)

/-- A call that yields true. -/
theorem door_true {F : FuncId → Bool} {Pr : CallR → CallR} (hm : P.follows .mixedOrders = true) (hF : OkF P F) (hP : OkPr P Pr) {f : FuncId} {args : Array Value} (he : Ent P f) (hb : args.toList.all isBase = true)
    (h : callW P F Pr f args #[] fun v _ => v = .bool true) (w : World) : Calls P f args w fun e w' => e = .returned (.bool true) ∧ Below w.heap.size w w' := by
  refine (callW_sound hm hF hP he h (rel_empty w) (ar_base hb)).mono fun e W' k => ?_
  obtain ⟨v, v', H', M', rfl, rfl, rv, st⟩ := k
  exact ⟨by rw [rv.bool_inv], below_of_step st⟩

theorem callW_of_eval {F : FuncId → Bool} {Pr : CallR → CallR} {pe : CallX} (hp : XOk pe (CallA P F Pr)) {rounds n : Nat} {f : FuncId} {args : Array Value} {H : Heap} (h : isTrueX (callX P F pe rounds n f args H) = true) : callW P F Pr f args H fun v _ => v = .bool true := by
  unfold isTrueX at h
  split at h
  · rename_i H' e
    exact ⟨_, _, callX_sound hp n _ _ _ _ _ e, rfl⟩
  · cases h
end Go.AH
