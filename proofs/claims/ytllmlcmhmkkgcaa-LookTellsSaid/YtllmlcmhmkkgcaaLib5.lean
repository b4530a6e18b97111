/-
  PM: rules for proofs; plain lists, orders, maps; functions of the library; the door.
-/
import Derived.Test.YtllmlcmhmkkgcaaLib4
import Derived.Test.YtllmlcmhmkkgcaaLib2
import Derived.Carry
import Derived.ChangeSlices
import Derived.Deep.Slices
import Derived.OpenShut

/-
  PM: states as finite lists; running straight code; rules for proofs.
-/
namespace Go.PM
open Go Go.AH

/-- A state that is told by a list. -/
def E : List (Nat × TV) → Tm
  | [], _ => .junk
  | (k, u) :: l, x => if x = k then u else E l x

abbrev clrD (d : Nat) (u : TV) : TV := TV.clr (fun r _ => r == d) (fun r _ => r == d) u
def clrU (r : Nat) (p : List Sel) (g : Bool) (u : TV) : TV := TV.clr (fun r' q => r' == r && spre p q) (fun r' q => r' == r && (spre p q || g && pre p q)) u
def delL (d : Nat) : List (Nat × TV) → List (Nat × TV)
  | [] => []
  | (x, u) :: l => if x = d then delL d l else (x, clrD d u) :: delL d l
def updL (r : Nat) (p : List Sel) (g : Bool) (s : TV) : List (Nat × TV) → List (Nat × TV)
  | [] => []
  | (x, u) :: l => (x, if x = r then u.set p s else clrU r p g u) :: updL r p g s l
def hasK (r : Nat) : List (Nat × TV) → Bool
  | [] => false
  | (x, _) :: l => if x = r then true else hasK r l
def keepL (T : Tm) (live : List Nat) : List Nat → List (Nat × TV)
  | [] => []
  | x :: l => (x, TV.clr (fun r _ => !live.contains r) (fun r _ => !live.contains r) (T x)) :: keepL T live l

theorem E_nil (x : Nat) : E [] x = .junk := rfl
theorem E_cons (k x : Nat) (u : TV) (l : List (Nat × TV)) : E ((k, u) :: l) x = if x = k then u else E l x := rfl
theorem E_del {d x : Nat} : ∀ {l : List (Nat × TV)}, x ≠ d → E (delL d l) x = clrD d (E l x)
  | [], _ => rfl
  | (k, u) :: l, h => by
    simp only [delL]
    by_cases hk : k = d
    · subst hk
      simp only [if_true, E_cons, if_neg h]
      exact E_del h
    · simp only [if_neg hk, E_cons]
      split
      · rfl
      · exact E_del h
theorem E_put (l : List (Nat × TV)) (d : Nat) (t : TV) : (E l).put d t = E ((d, clrD d t) :: delL d l) := by
  funext x
  simp only [Tm.put, E_cons]
  by_cases h : x = d
  · simp [h]
  · simp only [if_neg h]; exact (E_del h).symm
theorem E_putO (l : List (Nat × TV)) (d : Nat) (t : TV) : (E l).putO (some d) t = E ((d, clrD d t) :: delL d l) := E_put l d t
theorem E_putN (l : List (Nat × TV)) (t : TV) : (E l).putO none t = E l := rfl
theorem E_upd_go {r : Nat} {p : List Sel} {g : Bool} {s : TV} : ∀ {l : List (Nat × TV)} {x : Nat}, hasK x l = true ∨ x ≠ r → E (updL r p g s l) x = if x = r then (E l x).set p s else clrU r p g (E l x)
  | [], x, h => by
    rcases h with h | h
    · simp [hasK] at h
    · simp only [updL, E_nil, if_neg h]; rfl
  | (k, u) :: l, x, h => by
    simp only [updL, E_cons]
    by_cases hx : x = k
    · subst hx; simp
    · simp only [if_neg hx]
      exact E_upd_go (h.imp (fun h => by
        simp only [hasK] at h
        rw [if_neg (fun e => hx e.symm)] at h
        exact h) id)
theorem E_upd (l : List (Nat × TV)) (r : Nat) (p : List Sel) (g : Bool) (s : TV) (h : hasK r l = true) : (E l).upd r p g s = E (updL r p g s l) := by
  funext x
  by_cases hx : x = r
  · subst hx
    rw [E_upd_go (.inl h)]
    simp only [Tm.upd, if_true]
  · rw [E_upd_go (.inr hx)]
    simp only [Tm.upd, if_neg hx]
    rfl
theorem E_keep_go {T : Tm} {live : List Nat} : ∀ {l : List Nat} {x : Nat}, E (keepL T live l) x = if l.contains x then TV.clr (fun r _ => !live.contains r) (fun r _ => !live.contains r) (T x) else .junk
  | [], x => rfl
  | k :: l, x => by
    simp only [keepL, E_cons, List.contains_cons]
    by_cases h : x = k
    · subst h; simp
    · have : (x == k) = false := by simpa using h
      simp only [if_neg h, this, Bool.false_or]
      exact E_keep_go
theorem keep_E (T : Tm) (live : List Nat) : T.keep live = E (keepL T live live) := by
  funext x
  rw [E_keep_go]
  rfl

theorem enter_E (nt : Nat) (args : List TV) (l : List (Nat × TV)) (h : ∀ x, enterP nt args x = E l x) : enterP nt args = E l := funext h

/-- The state at the beginning, when all that goes in is plain. -/
def plainL : List RV → Nat → List (Nat × TV)
  | [], _ => []
  | y :: l, i => (i, .v y) :: plainL l (i + 1)
theorem plainL_get : ∀ {l : List RV} {i x : Nat}, E (plainL l i) x = if i ≤ x then (match l[x - i]? with | some y => .v y | none => .junk) else .junk
  | [], i, x => by simp [plainL, E_nil]
  | y :: l, i, x => by
    simp only [plainL, E_cons]
    by_cases h : x = i
    · subst h; simp
    · rw [if_neg h, plainL_get]
      by_cases h2 : i ≤ x
      · rw [if_pos (by omega), if_pos h2]
        have : x - i = (x - (i + 1)) + 1 := by omega
        rw [this]; simp
      · rw [if_neg (by omega), if_neg h2]
theorem enter_plain (nt : Nat) (l : List RV) (h : l.length ≤ nt) : enterP nt (l.map .v) = E (plainL l 0) := by
  funext x
  rw [plainL_get]
  unfold enterP
  simp only [List.length_map, List.getElem?_map, Nat.zero_le, if_true, Nat.sub_zero]
  split
  · rename_i h1
    simp [List.getElem?_eq_getElem h1]
  · rename_i h1
    have hn : l[x]? = none := List.getElem?_eq_none (by omega)
    rw [hn]
    split
    · rfl
    · cases hq : l[x - nt]? with
      | none => rfl
      | some y => rfl
theorem out_plain (nt : Nat) (T : Tm) : ∀ (l : List RV) (i : Nat), outP nt (l.map .v) i T = l.map .v
  | [], _ => rfl
  | y :: l, i => by simp only [List.map_cons, outP, out_plain nt T l (i + 1)]

/-! ### Straight code -/
def step1 (o : PO) (T : Tm) : Option Tm :=
  if still T o.nj && stillF T o.fl then
    match wantP T o.g with
    | some true => match exec T o.i with
      | some (v, T') => some (T'.putO o.d v)
      | none => none
    | some false => some (T.putO o.d (.tup []))
    | none => none
  else none
def runP : List PO → Option Tm → Option Tm
  | [], T => T
  | o :: l, some T => runP l (step1 o T)
  | _ :: _, none => none

def PI.isCall : PI → Bool
  | .call .. => true
  | _ => false
/-- What stands ahead of the first call, and from it on. -/
def cutL : List PO → List PO
  | [] => []
  | o :: l => if o.i.isCall then [] else o :: cutL l
def cutR : List PO → List PO
  | [] => []
  | o :: l => if o.i.isCall then o :: l else cutR l

variable {C : CR}

theorem opsP_run : ∀ {l : List PO} {T T1 : Tm} {Q : Tm → Prop}, runP (cutL l) (some T) = some T1 → opsP C (cutR l) T1 Q → opsP C l T Q
  | [], T, T1, Q, h, k => by
    simp only [cutL, runP, Option.some.injEq] at h
    subst h
    exact k
  | o :: l, T, T1, Q, h, k => by
    simp only [cutL] at h
    simp only [cutR] at k
    split at h
    · rename_i hc
      rw [if_pos hc] at k
      simp only [runP, Option.some.injEq] at h
      subst h
      exact k
    · rename_i hc
      rw [if_neg hc] at k
      simp only [runP] at h
      cases hs : step1 o T with
      | none => rw [hs] at h; cases hl : cutL l with
        | nil => rw [hl] at h; cases h
        | cons => rw [hl] at h; cases h
      | some T2 =>
        rw [hs] at h
        have hrest := opsP_run (l := l) (Q := Q) h k
        unfold step1 at hs
        split at hs
        · rename_i hst
          simp only [opsP]
          refine ⟨hst, ?_⟩
          split at hs
          · rename_i hw
            rw [hw]
            split at hs
            · rename_i v T' he
              cases hs
              simp only [stepP]
              split
              · rename_i f args hi; rw [hi] at hc; simp [PI.isCall] at hc
              · rw [he]; exact hrest
            · cases hs
          · rename_i hw
            rw [hw]
            cases hs
            exact hrest
          · cases hs
        · cases hs

/-- A call of a function whose arguments are plain values, with its contract. -/
theorem opsP_call {f : Opd} {args : List (Bool × Opd)} {d : Option Nat} {nj fl : List Nat} {l : List PO} {T : Tm} {Q : Tm → Prop} {g : FuncId} {a c : List RV} {xs : List RV} {res : List TV} (hs : (still T nj && stillF T fl) = true) (hf : fnOf T f = some (g, a, c)) (ha : argsP T args = some (xs.map .v)) (hm : muts T args = [])
    (hC : C g ((a ++ xs ++ c).map .v) res ((a ++ xs ++ c).map .v)) (hl : res.all TV.lone = true ∨ seen T args ++ plcs (look T f) = []) (hb : back args (xs.map .v) T T = some T) (hk : (mask args (xs.map .v)).all TV.lone = true) (k : opsP C l (T.putO d (resT res)) Q) : opsP C (⟨none, d, .call f args, nj, fl⟩ :: l) T Q := by
  simp only [opsP, wantP, stepP]
  refine ⟨hs, [], T, g, a, c, xs.map .v, res, xs.map .v, T, rfl, hf, ha, by simpa using hC, rfl, by rw [hm]; rfl, by rw [hm]; rfl, hl.imp (fun h => ⟨h, hk⟩) id, by rw [hm]; exact hb, k⟩

theorem back_pure : ∀ {args : List (Bool × Opd)} {us : List TV} {T0 T : Tm}, (args.all fun x => !x.1) = true → us.length = args.length → back args us T0 T = some T ∧ (mask args us).all TV.lone = true ∧ muts T0 args = []
  | [], [], _, _, _, _ => ⟨rfl, rfl, rfl⟩
  | [], _ :: _, _, _, _, h => by simp at h
  | _ :: _, [], _, _, _, h => by simp at h
  | (false, x) :: args, u :: us, T0, T, h, hl => by
    obtain ⟨h1, h2, h3⟩ := back_pure (args := args) (us := us) (T0 := T0) (T := T) (by simpa using h) (by simpa using hl)
    exact ⟨by simpa [back] using h1, by simp only [mask, List.all_cons, h2]; rfl, by simpa [muts] using h3⟩
  | (true, x) :: args, u :: us, _, _, h, _ => by simp at h

/-- The usual call. -/
theorem opsP_pure {f : FuncId} {args : List (Bool × Opd)} {d : Option Nat} {nj fl : List Nat} {l : List PO} {T : Tm} {Q : Tm → Prop} {xs : List RV} {res : List TV} (hC : C f (xs.map .v) res (xs.map .v)) (hs : (still T nj && stillF T fl) = true) (ha : argsP T args = some (xs.map .v)) (hp : (args.all fun x => !x.1) = true)
    (hl : res.all TV.lone = true ∨ seen T args = []) (k : opsP C l (T.putO d (resT res)) Q) : opsP C (⟨none, d, .call (.c (.fn f [] [])) args, nj, fl⟩ :: l) T Q := by
  have hlen : (xs.map TV.v).length = args.length := by
    have : ∀ {args : List (Bool × Opd)} {as : List TV}, argsP T args = some as → as.length = args.length := argsP_length
    exact this ha
  obtain ⟨h1, h2, h3⟩ := back_pure (T0 := T) (T := T) hp hlen
  exact opsP_call (a := []) (c := []) hs rfl ha h3 (by simpa using hC) (hl.imp id fun h => by rw [h]; rfl) h1 h2 k

/-! ### Code -/
theorem codeP_seq {a b : PC} {Q : PPost} {T : Tm} (h : codeP C a (thenP (codeP C b Q) Q) T) : codeP C (.seq a b) Q T := h
theorem codeP_block {id : Nat} {c : PC} {Q : PPost} {T : Tm} (h : codeP C c (blockP id Q) T) : codeP C (.block id c) Q T := h
theorem codeP_skip {Q : PPost} {T : Tm} (h : Q .normal T) : codeP C .skip Q T := h
theorem codeP_exit {id : Nat} {Q : PPost} {T : Tm} (h : Q (.exit id) T) : codeP C (.exit id) Q T := h
theorem codeP_ret {Q : PPost} {T : Tm} (h : Q .ret T) : codeP C .ret Q T := h
theorem codeP_ops {l : List PO} {fin live : List Nat} {dr : Bool} {Q : PPost} {T T1 T2 : Tm} (h : runP (cutL l) (some T) = some T1) (hr : cutR l = []) (hf : still T1 fin = true) (hk : T1.keep live = T2) (k : Q .normal T2) : codeP C (.ops l fin live dr) Q T := by
  refine opsP_run h ?_
  rw [hr]
  refine ⟨hf, ?_⟩
  rw [hk]
  exact k
theorem codeP_opsC {l : List PO} {fin live : List Nat} {dr : Bool} {Q : PPost} {T T1 : Tm} (h : runP (cutL l) (some T) = some T1) (k : opsP C (cutR l) T1 fun T => still T fin = true ∧ Q .normal (T.keep live)) : codeP C (.ops l fin live dr) Q T := opsP_run h k
theorem opsP_last {l : List PO} {fin live : List Nat} {Q : PPost} {T T1 T2 : Tm} (h : runP (cutL l) (some T) = some T1) (hr : cutR l = []) (hf : still T1 fin = true) (hk : T1.keep live = T2) (k : Q .normal T2) : opsP C l T fun T => still T fin = true ∧ Q .normal (T.keep live) := by
  refine opsP_run h ?_
  rw [hr]
  refine ⟨hf, ?_⟩
  rw [hk]
  exact k
theorem codeP_true {c : Opd} {a b : PC} {Q : PPost} {T : Tm} (h : look T c = .v (.bool true)) (k : codeP C a Q T) : codeP C (.cond c a b) Q T := by
  simp only [codeP, h]; exact k
theorem codeP_false {c : Opd} {a b : PC} {Q : PPost} {T : Tm} (h : look T c = .v (.bool false)) (k : codeP C b Q T) : codeP C (.cond c a b) Q T := by
  simp only [codeP, h]; exact k
theorem codeP_cond {c : Opd} {a b : PC} {Q : PPost} {T : Tm} {t : Bool} (h : look T c = .v (.bool t)) (k1 : t = true → codeP C a Q T) (k2 : t = false → codeP C b Q T) : codeP C (.cond c a b) Q T := by
  cases t
  · exact codeP_false h (k2 rfl)
  · exact codeP_true h (k1 rfl)

theorem stepP_mono {K K' : TV → Tm → Prop} (h : ∀ v T, K v T → K' v T) {T : Tm} {i : PI} (k : stepP C T i K) : stepP C T i K' := by
  cases i with
  | call f args =>
    obtain ⟨x1, x2, x3, x4, x5, x6, x7, x8, x9, q1, q2, q3, q4, q5, q6, q7, q8, q9, q10⟩ := k
    exact ⟨x1, x2, x3, x4, x5, x6, x7, x8, x9, q1, q2, q3, q4, q5, q6, q7, q8, q9, h _ _ q10⟩
  | _ =>
    simp only [stepP] at k ⊢
    split at k
    · exact h _ _ k
    · exact ⟨k.1, h _ _ k.2.1, h _ _ k.2.2⟩

theorem codeP_mono : ∀ (c : PC) {Q Q' : PPost}, (∀ e T, Q e T → Q' e T) → ∀ (T : Tm), codeP C c Q T → codeP C c Q' T := by
  have ops : ∀ (l : List PO) {Q Q' : Tm → Prop}, (∀ T, Q T → Q' T) → ∀ T, opsP C l T Q → opsP C l T Q' := by
    intro l
    induction l with
    | nil => intro Q Q' h T k; exact h _ k
    | cons o l ih =>
      intro Q Q' h T k
      simp only [opsP] at k ⊢
      refine ⟨k.1, ?_⟩
      have k := k.2
      split at k
      · exact stepP_mono (fun v T q => ih h _ q) k
      · exact ih h _ k
      · exact k.elim
  intro c
  induction c with
  | skip => intro Q Q' h T k; exact h _ _ k
  | ops l fin live dr => intro Q Q' h T k; exact ops l (fun T q => ⟨q.1, h _ _ q.2⟩) T k
  | seq a b iha ihb =>
    intro Q Q' h T k
    refine iha (fun e T q => ?_) T k
    cases e
    · exact ihb h _ q
    · exact h _ _ q
    · exact h _ _ q
  | cond c a b iha ihb =>
    intro Q Q' h T k
    simp only [codeP] at k ⊢
    split at k
    · exact iha h T k
    · exact ihb h T k
    · exact k
  | block id c ih =>
    intro Q Q' h T k
    refine ih (fun e T q => ?_) T k
    cases e with
    | normal => exact h _ _ q
    | ret => exact h _ _ q
    | exit id' =>
      simp only [blockP] at q ⊢
      split
      · rename_i e; rw [if_pos e] at q; exact h _ _ q
      · rename_i e; rw [if_neg e] at q; exact h _ _ q
  | loop c ih =>
    intro Q Q' h T k I hI
    refine k I fun T k => hI T (ih (fun e T q => ?_) T k)
    cases e
    · exact q
    · exact h _ _ q
    · exact h _ _ q
  | exit id => intro Q Q' h T k; exact h _ _ k
  | ret => intro Q Q' h T k; exact h _ _ k

/-- The rule of the loop: states told by a list of what changes. -/
theorem codeP_loop {α : Type} {c : PC} {Q : PPost} (env : α → Tm) (inv : α → Prop) (mea : α → Nat) (a0 : α) {T : Tm} (hT : T = env a0) (h0 : inv a0)
    (h : ∀ a, inv a → codeP C c (thenP (fun T => ∃ a', inv a' ∧ mea a' < mea a ∧ T = env a') Q) (env a)) : codeP C (.loop c) Q T := by
  subst hT
  intro J hJ
  have key : ∀ n a, mea a = n → inv a → J (env a) := by
    intro n
    induction n using Nat.strongRecOn with
    | _ n ih =>
      intro a hn hi
      refine hJ _ (codeP_mono c (fun e T k => ?_) _ (h a hi))
      cases e with
      | normal =>
        obtain ⟨a', h1, h2, rfl⟩ := k
        exact ih _ (hn ▸ h2) a' rfl h1
      | exit id => exact k
      | ret => exact k
  exact key _ a0 rfl h0


/-! ### What is still to be done, as a list -/
inductive Fr where
  | c (pc : PC)
  | b (id : Nat)
  | i (I : Tm → Prop)

def postK (C : CR) (Q : PPost) : List Fr → PPost
  | [] => Q
  | .c pc :: k => thenP (codeP C pc (postK C Q k)) (postK C Q k)
  | .b id :: k => blockP id (postK C Q k)
  | .i I :: k => thenP I (postK C Q k)
/-- To do, from a state on. -/
structure Run (C : CR) (Q : PPost) (k : List Fr) (T : Tm) : Prop where
  h : postK C Q k .normal T

/-- Where an exit leads. -/
def dropTo (id : Nat) : List Fr → Option (List Fr)
  | [] => none
  | .b id' :: k => if id = id' then some k else dropTo id k
  | _ :: k => dropTo id k

section
variable {Q : PPost} {k : List Fr} {T : Tm}

theorem run_of {pc : PC} (h : Run C Q [.c pc] T) : codeP C pc Q T := h.h
theorem run_nil (h : Q .normal T) : Run C Q [] T := ⟨h⟩
theorem run_inv {I : Tm → Prop} (h : I T) : Run C Q (.i I :: k) T := ⟨h⟩
theorem run_seq {a b : PC} (h : Run C Q (.c a :: .c b :: k) T) : Run C Q (.c (.seq a b) :: k) T := ⟨h.h⟩
theorem run_skip (h : Run C Q k T) : Run C Q (.c .skip :: k) T := ⟨h.h⟩
theorem run_block {id : Nat} {c : PC} (h : Run C Q (.c c :: .b id :: k) T) : Run C Q (.c (.block id c) :: k) T := ⟨h.h⟩
theorem run_b {id : Nat} (h : Run C Q k T) : Run C Q (.b id :: k) T := ⟨h.h⟩
theorem exit_go {id : Nat} : ∀ {k k' : List Fr}, dropTo id k = some k' → Run C Q k' T → postK C Q k (.exit id) T
  | [], _, h, _ => by simp [dropTo] at h
  | .c pc :: k, k', h, r => exit_go (k := k) h r
  | .i I :: k, k', h, r => exit_go (k := k) h r
  | .b id' :: k, k', h, r => by
    simp only [dropTo] at h
    simp only [postK, blockP]
    split at h
    · rename_i e
      cases h
      rw [if_pos e.symm.symm]
      exact r.h
    · rename_i e
      rw [if_neg e]
      exact exit_go h r
theorem run_exit {id : Nat} {k' : List Fr} (h : dropTo id k = some k') (r : Run C Q k' T) : Run C Q (.c (.exit id) :: k) T := ⟨exit_go h r⟩
theorem ret_go : ∀ {k : List Fr}, Q .ret T → postK C Q k .ret T
  | [], h => h
  | .c pc :: k, h => ret_go (k := k) h
  | .i I :: k, h => ret_go (k := k) h
  | .b id' :: k, h => ret_go (k := k) h
theorem run_ret (h : Q .ret T) : Run C Q (.c .ret :: k) T := ⟨ret_go h⟩
theorem run_ops {l : List PO} {fin live : List Nat} {dr : Bool} {T1 T2 : Tm} (h : runP (cutL l) (some T) = some T1) (hr : cutR l = []) (hf : still T1 fin = true) (hk : T1.keep live = T2) (r : Run C Q k T2) : Run C Q (.c (.ops l fin live dr) :: k) T :=
  ⟨codeP_ops (dr := dr) h hr hf hk r.h⟩
/-- Straight code with a call ahead of its end. -/
def RunO (C : CR) (Q : PPost) (k : List Fr) (l : List PO) (fin live : List Nat) (T : Tm) : Prop := opsP C l T fun T => still T fin = true ∧ Run C Q k (T.keep live)
theorem run_opsC {l : List PO} {fin live : List Nat} {dr : Bool} {T1 : Tm} (h : runP (cutL l) (some T) = some T1) (r : RunO C Q k (cutR l) fin live T1) : Run C Q (.c (.ops l fin live dr) :: k) T := by
  refine ⟨codeP_opsC (dr := dr) h ?_⟩
  have mono : ∀ (l : List PO) {Q Q' : Tm → Prop}, (∀ T, Q T → Q' T) → ∀ T, opsP C l T Q → opsP C l T Q' := by
    intro l
    induction l with
    | nil => intro Q Q' h T k; exact h _ k
    | cons o l ih =>
      intro Q Q' h T k
      simp only [opsP] at k ⊢
      refine ⟨k.1, ?_⟩
      have k := k.2
      split at k
      · exact stepP_mono (fun v T q => ih h _ q) k
      · exact ih h _ k
      · exact k.elim
  exact mono _ (fun T q => ⟨q.1, q.2.h⟩) _ r
theorem runO_call {f : FuncId} {args : List (Bool × Opd)} {d : Option Nat} {nj fl fin live : List Nat} {l : List PO} {xs : List RV} {res : List TV} {T1 T2 : Tm} (hC : C f (xs.map .v) res (xs.map .v)) (hs : (still T nj && stillF T fl) = true) (ha : argsP T args = some (xs.map .v)) (hp : (args.all fun x => !x.1) = true)
    (hl : res.all TV.lone = true ∨ seen T args = []) (hd : T.putO d (resT res) = T1) (h : runP (cutL l) (some T1) = some T2) (r : RunO C Q k (cutR l) fin live T2) : RunO C Q k (⟨none, d, .call (.c (.fn f [] [])) args, nj, fl⟩ :: l) fin live T := by
  refine opsP_pure hC hs ha hp hl ?_
  rw [hd]
  exact opsP_run h r
theorem runO_nil {fin live : List Nat} {T2 : Tm} (hf : still T fin = true) (hk : T.keep live = T2) (r : Run C Q k T2) : RunO C Q k [] fin live T := ⟨hf, by rw [hk]; exact r⟩
theorem run_cond {c : Opd} {a b : PC} {t : Bool} (h : look T c = .v (.bool t)) (k1 : t = true → Run C Q (.c a :: k) T) (k2 : t = false → Run C Q (.c b :: k) T) : Run C Q (.c (.cond c a b) :: k) T :=
  ⟨codeP_cond h (fun h => (k1 h).h) (fun h => (k2 h).h)⟩
theorem run_loop {α : Type} {c : PC} (env : α → Tm) (inv : α → Prop) (mea : α → Nat) (a0 : α) (hT : T = env a0) (h0 : inv a0)
    (h : ∀ a, inv a → Run C Q (.c c :: .i (fun T => ∃ a', inv a' ∧ mea a' < mea a ∧ T = env a') :: k) (env a)) : Run C Q (.c (.loop c) :: k) T :=
  ⟨codeP_loop env inv mea a0 hT h0 fun a hi => (h a hi).h⟩
end

/-! ### For simp -/
theorem wrap64 {i : Int} (h : -9223372036854775808 ≤ i) (h2 : i ≤ 9223372036854775807) : IntKind.i64.wrap i = i := by rw [IntKind.wrap_i64]; omega
attribute [simp] cutL cutR PI.isCall runP step1 still stillF   wantP exec look look1 TV.owned TV.isJunk E_cons E_putO E_putN E_put E_upd hasK updL clrU delL   own0 isShift  strP intOf strOf ptr ptrOf TV.get TV.child TV.set TV.setChild take  TV.dem demL plainB setR
  keep_E keepL spre pre Sel.sim   view view0 view1 viewL argsP argP listOf bndP mkAgg fillT elemsT  resT resP ressP outP TV.fix thenP blockP seen plcs plc1 TV.lone  flatLs muts
@[simp] theorem okL_bool (b : Bool) (T : Tm) : okL (.v (.bool b)) T = true := rfl
@[simp] theorem okL_int (k : IntKind) (i : Int) (T : Tm) : okL (.v (.int k i)) T = true := rfl
@[simp] theorem okL_str (s : ByteArray) (T : Tm) : okL (.v (.str s)) T = true := rfl
@[simp] theorem okL_nilp  (T : Tm) : okL (.v .nilp) T = true := rfl
@[simp] theorem okL_nilf  (T : Tm) : okL (.v .nilf) T = true := rfl
@[simp] theorem okL_nilm  (T : Tm) : okL (.v .nilm) T = true := rfl
@[simp] theorem okL_sl (e : TypeId) (l : List RV) (T : Tm) : okL (.v (.sl e l)) T = true := rfl
@[simp] theorem okL_mp (e : TypeId) (l m : List RV) (T : Tm) : okL (.v (.mp e l m)) T = true := rfl
@[simp] theorem okL_bx (l : List RV) (T : Tm) : okL (.v (.bx l)) T = true := rfl
@[simp] theorem okL_agg (cs : List RV) (T : Tm) : okL (.v (.agg cs)) T = cs.all fun | .fn .. | .agg _ => false | _ => true := rfl
@[simp] theorem okL_adr (r : Nat) (p : List Sel) (o k : Nat) (T : Tm) : okL (.adr r p o k) T = true := rfl
@[simp] theorem okL_ade (r : Nat) (p : List Sel) (i o k : Nat) (T : Tm) : okL (.ade r p i o k) T = true := rfl
@[simp] theorem okL_win (r : Nat) (p : List Sel) (o k : Nat) (T : Tm) : okL (.win r p o k) T = true := rfl
@[simp] theorem okL_slN (e : TypeId) (T : Tm) : okL (.sl e []) T = true := rfl
@[simp] theorem okL_als (r : Nat) (p : List Sel) (T : Tm) : okL (.als r p) T = match (T r).get p with | some (.sl ..) | some (.mp ..) | some (.bx ..) => true | _ => false := rfl
@[simp] theorem clr_v (fa fd : Nat → List Sel → Bool) (x : RV) : TV.clr fa fd (.v x) = (.v x) := rfl
@[simp] theorem clr_sl (fa fd : Nat → List Sel → Bool) (e : TypeId) (l : List RV) : TV.clr fa fd (.sl e l) = (.sl e l) := rfl
@[simp] theorem clr_mp (fa fd : Nat → List Sel → Bool) (e : TypeId) (l : List RV) (m : List TV) : TV.clr fa fd (.mp e l m) = (.mp e l m) := rfl
@[simp] theorem clr_bx (fa fd : Nat → List Sel → Bool) (t : TypeId) (l : List TV) : TV.clr fa fd (.bx t l) = (.bx t l) := rfl
@[simp] theorem clr_agg (fa fd : Nat → List Sel → Bool) (l : List TV) : TV.clr fa fd (.agg l) = (.agg l) := rfl
@[simp] theorem clr_junk (fa fd : Nat → List Sel → Bool)  : TV.clr fa fd .junk = .junk := rfl
@[simp] theorem clr_als (fa fd : Nat → List Sel → Bool) (r : Nat) (p : List Sel) : TV.clr fa fd (.als r p) = if fa r p then .junk else .als r p := rfl
@[simp] theorem clr_adr (fa fd : Nat → List Sel → Bool) (r : Nat) (p : List Sel) (o k : Nat) : TV.clr fa fd (.adr r p o k) = if fd r p then .junk else .adr r p o k := rfl
@[simp] theorem clr_ade (fa fd : Nat → List Sel → Bool) (r : Nat) (p : List Sel) (i o k : Nat) : TV.clr fa fd (.ade r p i o k) = if fd r p then .junk else .ade r p i o k := rfl
@[simp] theorem clr_win (fa fd : Nat → List Sel → Bool) (r : Nat) (p : List Sel) (o k : Nat) : TV.clr fa fd (.win r p o k) = if fd r p then .junk else .win r p o k := rfl
@[simp] theorem clr1_v (fa fd : Nat → List Sel → Bool) (x : RV) : TV.clr1 fa fd (.v x) = (.v x) := rfl
@[simp] theorem clr1_sl (fa fd : Nat → List Sel → Bool) (e : TypeId) (l : List RV) : TV.clr1 fa fd (.sl e l) = (.sl e l) := rfl
@[simp] theorem clr1_mp (fa fd : Nat → List Sel → Bool) (e : TypeId) (l : List RV) (m : List TV) : TV.clr1 fa fd (.mp e l m) = (.mp e l m) := rfl
@[simp] theorem clr1_bx (fa fd : Nat → List Sel → Bool) (t : TypeId) (l : List TV) : TV.clr1 fa fd (.bx t l) = (.bx t l) := rfl
@[simp] theorem clr1_agg (fa fd : Nat → List Sel → Bool) (l : List TV) : TV.clr1 fa fd (.agg l) = (.agg l) := rfl
@[simp] theorem clr1_junk (fa fd : Nat → List Sel → Bool)  : TV.clr1 fa fd .junk = .junk := rfl
@[simp] theorem clr1_als (fa fd : Nat → List Sel → Bool) (r : Nat) (p : List Sel) : TV.clr1 fa fd (.als r p) = if fa r p then .junk else .als r p := rfl
@[simp] theorem clr1_adr (fa fd : Nat → List Sel → Bool) (r : Nat) (p : List Sel) (o k : Nat) : TV.clr1 fa fd (.adr r p o k) = if fd r p then .junk else .adr r p o k := rfl
@[simp] theorem clr1_ade (fa fd : Nat → List Sel → Bool) (r : Nat) (p : List Sel) (i o k : Nat) : TV.clr1 fa fd (.ade r p i o k) = if fd r p then .junk else .ade r p i o k := rfl
@[simp] theorem clr1_win (fa fd : Nat → List Sel → Bool) (r : Nat) (p : List Sel) (o k : Nat) : TV.clr1 fa fd (.win r p o k) = if fd r p then .junk else .win r p o k := rfl
@[simp] theorem clr_tup (fa fd : Nat → List Sel → Bool) (l : List TV) : TV.clr fa fd (.tup l) = .tup (l.map (·.clr1 fa fd)) := rfl
@[simp] theorem clr_fn (fa fd : Nat → List Sel → Bool) (f : FuncId) (a c : List TV) : TV.clr fa fd (.fn f a c) = .fn f (a.map (·.clr1 fa fd)) (c.map (·.clr1 fa fd)) := rfl
@[simp] theorem clr1_tup (fa fd : Nat → List Sel → Bool) (l : List TV) : TV.clr1 fa fd (.tup l) = .tup l := rfl
@[simp] theorem clr1_fn (fa fd : Nat → List Sel → Bool) (f : FuncId) (a c : List TV) : TV.clr1 fa fd (.fn f a c) = .fn f a c := rfl

@[simp] theorem cells_agg (cs : List RV) : RV.cells (.agg cs) = cs := rfl
@[simp] theorem cells_bool (b : Bool) : RV.cells (.bool b) = [.bool b] := rfl
@[simp] theorem cells_int (k : IntKind) (i : Int) : RV.cells (.int k i) = [.int k i] := rfl
@[simp] theorem cells_str (s : ByteArray) : RV.cells (.str s) = [.str s] := rfl
@[simp] theorem cells_nilp : RV.cells .nilp = [.nilp] := rfl
@[simp] theorem cells_nilf : RV.cells .nilf = [.nilf] := rfl
@[simp] theorem cells_nilm : RV.cells .nilm = [.nilm] := rfl
@[simp] theorem cells_fn (f : FuncId) (a c : List RV) : RV.cells (.fn f a c) = [.fn f a c] := rfl
@[simp] theorem cells_sl (e : TypeId) (l : List RV) : RV.cells (.sl e l) = [.sl e l] := rfl
@[simp] theorem cells_mp (e : TypeId) (l m : List RV) : RV.cells (.mp e l m) = [.mp e l m] := rfl
@[simp] theorem cells_bx (l : List RV) : RV.cells (.bx l) = [.bx l] := rfl
@[simp] theorem isAgg_agg (cs : List RV) : RV.isAgg (.agg cs) = true := rfl
@[simp] theorem isAgg_bool (b : Bool) : RV.isAgg (.bool b) = false := rfl
@[simp] theorem isAgg_int (k : IntKind) (i : Int) : RV.isAgg (.int k i) = false := rfl
@[simp] theorem isAgg_str (s : ByteArray) : RV.isAgg (.str s) = false := rfl
@[simp] theorem isAgg_nilp : RV.isAgg .nilp = false := rfl
@[simp] theorem isAgg_nilf : RV.isAgg .nilf = false := rfl
@[simp] theorem isAgg_nilm : RV.isAgg .nilm = false := rfl
@[simp] theorem isAgg_fn (f : FuncId) (a c : List RV) : RV.isAgg (.fn f a c) = false := rfl
@[simp] theorem isAgg_sl (e : TypeId) (l : List RV) : RV.isAgg (.sl e l) = false := rfl
@[simp] theorem isAgg_mp (e : TypeId) (l m : List RV) : RV.isAgg (.mp e l m) = false := rfl
@[simp] theorem isAgg_bx (l : List RV) : RV.isAgg (.bx l) = false := rfl
@[simp] theorem flat_agg (cs : List RV) : RV.flat (.agg cs) = flatLs cs := by simp [RV.flat]
@[simp] theorem flat_bool (b : Bool) : RV.flat (.bool b) = true := by simp [RV.flat]
@[simp] theorem flat_int (k : IntKind) (i : Int) : RV.flat (.int k i) = true := by simp [RV.flat]
@[simp] theorem flat_str (s : ByteArray) : RV.flat (.str s) = true := by simp [RV.flat]
@[simp] theorem flat_nilp : RV.flat .nilp = true := by simp [RV.flat]
@[simp] theorem flat_nilf : RV.flat .nilf = true := by simp [RV.flat]
@[simp] theorem flat_nilm : RV.flat .nilm = true := by simp [RV.flat]
@[simp] theorem flat_fn (f : FuncId) (a c : List RV) : RV.flat (.fn f a c) = false := by simp [RV.flat]
@[simp] theorem flat_sl (e : TypeId) (l : List RV) : RV.flat (.sl e l) = false := by simp [RV.flat]
@[simp] theorem flat_mp (e : TypeId) (l m : List RV) : RV.flat (.mp e l m) = false := by simp [RV.flat]
@[simp] theorem flat_bx (l : List RV) : RV.flat (.bx l) = false := by simp [RV.flat]
@[simp] theorem flatT_v (x : RV) : flatT (.v x) = x.flat := rfl
@[simp] theorem cellsT_v_agg (xs : List RV) : TV.cellsT (.v (.agg xs)) = xs.map .v := rfl
@[simp] theorem cellsT_v_bool (b : Bool) : TV.cellsT (.v (.bool b)) = [.v (.bool b)] := rfl
@[simp] theorem cellsT_v_int (k : IntKind) (i : Int) : TV.cellsT (.v (.int k i)) = [.v (.int k i)] := rfl
@[simp] theorem cellsT_v_str (s : ByteArray) : TV.cellsT (.v (.str s)) = [.v (.str s)] := rfl
@[simp] theorem cellsT_v_nilp : TV.cellsT (.v .nilp) = [.v .nilp] := rfl
@[simp] theorem cellsT_v_nilf : TV.cellsT (.v .nilf) = [.v .nilf] := rfl
@[simp] theorem cellsT_v_nilm : TV.cellsT (.v .nilm) = [.v .nilm] := rfl
@[simp] theorem cellsT_v_fn (f : FuncId) (a c : List RV) : TV.cellsT (.v (.fn f a c)) = [.v (.fn f a c)] := rfl
@[simp] theorem cellsT_v_sl (e : TypeId) (l : List RV) : TV.cellsT (.v (.sl e l)) = [.v (.sl e l)] := rfl
@[simp] theorem cellsT_v_mp (e : TypeId) (l m : List RV) : TV.cellsT (.v (.mp e l m)) = [.v (.mp e l m)] := rfl
@[simp] theorem cellsT_v_bx (l : List RV) : TV.cellsT (.v (.bx l)) = [.v (.bx l)] := rfl
@[simp] theorem cellsT_agg (cs : List TV) : TV.cellsT (.agg cs) = cs := rfl
@[simp] theorem cellsT_sl (e : TypeId) (l : List RV) : TV.cellsT (.sl e l) = [.sl e l] := rfl
@[simp] theorem cellsT_mp (e : TypeId) (l : List RV) (m : List TV) : TV.cellsT (.mp e l m) = [.mp e l m] := rfl
@[simp] theorem cellsT_bx (t : TypeId) (l : List TV) : TV.cellsT (.bx t l) = [.bx t l] := rfl
@[simp] theorem eqP_b (T : Tm) (a b : Bool) : eqP T .b (.v (.bool a)) (.v (.bool b)) = some (a == b) := rfl
@[simp] theorem eqP_s (T : Tm) (sk : List Sk) (a b : List RV) : eqP T (.s sk) (.v (.agg a)) (.v (.agg b)) = if fitL sk a && fitL sk b then eqLs a b else none := rfl
@[simp] theorem eqP_p1 (T : Tm) : eqP T .p (.v .nilp) (.v .nilp) = some true := rfl
@[simp] theorem eqP_p2 (T : Tm) (l : List RV) : eqP T .p (.v (.bx l)) (.v .nilp) = some false := rfl
@[simp] theorem eqP_p3 (T : Tm) (r : Nat) (p : List Sel) : eqP T .p (.als r p) (.v .nilp) = match (T r).get p with | some (.bx ..) => some false | _ => none := rfl
@[simp] theorem eqP_p4 (T : Tm) (r : Nat) (p : List Sel) (o k : Nat) : eqP T .p (.adr r p o k) (.v .nilp) = some false := rfl
@[simp] theorem eqP_p5 (T : Tm) (r : Nat) (p : List Sel) (i o k : Nat) : eqP T .p (.ade r p i o k) (.v .nilp) = some false := rfl
@[simp] theorem eqP_m1 (T : Tm) : eqP T .m (.v .nilm) (.v .nilm) = some true := rfl
@[simp] theorem eqP_m2 (T : Tm) (e : TypeId) (l m : List RV) : eqP T .m (.v (.mp e l m)) (.v .nilm) = some false := rfl
@[simp] theorem eqP_m3 (T : Tm) (r : Nat) (p : List Sel) : eqP T .m (.als r p) (.v .nilm) = match (T r).get p with | some (.mp ..) => some false | _ => none := rfl
@[simp] theorem eqP_l1 (T : Tm) (e e' : TypeId) (x : RV) (l : List RV) : eqP T .l (.v (.sl e (x :: l))) (.sl e' []) = some false := rfl
@[simp] theorem eqP_l2 (T : Tm) (e e' : TypeId) : eqP T .l (.v (.sl e [])) (.sl e' []) = none := rfl
@[simp] theorem eqP_l3 (T : Tm) (r : Nat) (p : List Sel) (e : TypeId) : eqP T .l (.als r p) (.sl e []) = match (T r).get p with | some (.sl _ (_ :: _)) => some false | _ => none := rfl
/-- The bits of two whole numbers. -/
def andI (k : IntKind) (a b : Int) : Int := k.wrap (BitVec.ofInt k.bits a &&& BitVec.ofInt k.bits b).toNat
def orB (k : IntKind) (a b : Int) : Int := k.wrap (BitVec.ofInt k.bits a ||| BitVec.ofInt k.bits b).toNat
def xorI (k : IntKind) (a b : Int) : Int := k.wrap (BitVec.ofInt k.bits a ^^^ BitVec.ofInt k.bits b).toNat
def andNotI (k : IntKind) (a b : Int) : Int := k.wrap (BitVec.ofInt k.bits a &&& ~~~(BitVec.ofInt k.bits b)).toNat
@[simp] theorem intP_add (k : IntKind) (a b : Int) : intP .add k a b = some (.int k (k.wrap (a + b))) := rfl
@[simp] theorem intP_sub (k : IntKind) (a b : Int) : intP .sub k a b = some (.int k (k.wrap (a - b))) := rfl
@[simp] theorem intP_mul (k : IntKind) (a b : Int) : intP .mul k a b = some (.int k (k.wrap (a * b))) := rfl
@[simp] theorem intP_quo (k : IntKind) (a b : Int) : intP .quo k a b = if b = 0 then none else some (.int k (k.wrap (a.tdiv b))) := rfl
@[simp] theorem intP_rem (k : IntKind) (a b : Int) : intP .rem k a b = if b = 0 then none else some (.int k (a.tmod b)) := rfl
@[simp] theorem intP_and (k : IntKind) (a b : Int) : intP .and k a b = some (.int k (andI k a b)) := rfl
@[simp] theorem intP_or (k : IntKind) (a b : Int) : intP .or k a b = some (.int k (orB k a b)) := rfl
@[simp] theorem intP_xor (k : IntKind) (a b : Int) : intP .xor k a b = some (.int k (xorI k a b)) := rfl
@[simp] theorem intP_andNot (k : IntKind) (a b : Int) : intP .andNot k a b = some (.int k (andNotI k a b)) := rfl
@[simp] theorem intP_shl (k : IntKind) (a b : Int) : intP .shl k a b = if b < 0 then none else some (.int k (k.wrap (a * 2 ^ (min b.toNat k.bits)))) := rfl
@[simp] theorem intP_shr (k : IntKind) (a b : Int) : intP .shr k a b = if b < 0 then none else some (.int k (a.fdiv (2 ^ (min b.toNat k.bits)))) := rfl
@[simp] theorem intP_eql (k : IntKind) (a b : Int) : intP .eql k a b = some (.bool (a == b)) := rfl
@[simp] theorem intP_neq (k : IntKind) (a b : Int) : intP .neq k a b = some (.bool (a != b)) := rfl
@[simp] theorem intP_lss (k : IntKind) (a b : Int) : intP .lss k a b = some (.bool (decide (a < b))) := rfl
@[simp] theorem intP_leq (k : IntKind) (a b : Int) : intP .leq k a b = some (.bool (decide (a ≤ b))) := rfl
@[simp] theorem intP_gtr (k : IntKind) (a b : Int) : intP .gtr k a b = some (.bool (decide (a > b))) := rfl
@[simp] theorem intP_geq (k : IntKind) (a b : Int) : intP .geq k a b = some (.bool (decide (a ≥ b))) := rfl
/-- A number under a mask. -/
theorem andI_le (a : Int) (m : Nat) (hm : m < 9223372036854775808) : ∃ j : Nat, j ≤ m ∧ andI .i64 a m = j := by
  refine ⟨(BitVec.ofInt 64 a &&& BitVec.ofInt 64 (m : Int)).toNat, ?_, ?_⟩
  · rw [BitVec.toNat_and]
    refine Nat.le_trans Nat.and_le_right ?_
    rw [BitVec.ofInt_natCast, BitVec.toNat_ofNat]
    exact Nat.mod_le _ _
  · have h : (BitVec.ofInt 64 a &&& BitVec.ofInt 64 (m : Int)).toNat ≤ m := by
      rw [BitVec.toNat_and]
      refine Nat.le_trans Nat.and_le_right ?_
      rw [BitVec.ofInt_natCast, BitVec.toNat_ofNat]
      exact Nat.mod_le _ _
    show IntKind.i64.wrap ((BitVec.ofInt 64 a &&& BitVec.ofInt 64 (m : Int)).toNat : Int) = _
    exact wrap64 (by omega) (by omega)




end Go.PM

/-
  PM: structs of texts; lists whose neighbours differ.
-/
namespace Go.PM
open Go Go.AH
section
variable {P : Program} {Fn : FuncId → Bool} {Pr : CallR → CallR} {k : Nat} {H : Heap} {Z : Nat → Prop}

def rowV (x : Row k) : RV := .agg (x.1.map .str)

theorem rowV_rr (x : Row k) : RR P H Z (rowV x) (.agg (encR x).toArray) := by
  refine .agg ?_ (by simp [encR]) fun i h h' => ?_
  · simp [ones, encR, Value.oneCell']
  · simp only [List.getElem_map, List.getElem_toArray, encR]
    exact .str _

theorem rr_str {s : ByteArray} {a : Value} (h : RR P H Z (.str s) a) : a = .string s := by cases h; rfl

end

/-- Neighbours that are the same: the first one stays. -/
def dd {α : Type} [DecidableEq α] : List α → List α → List α
  | acc, [] => acc
  | acc, x :: l => dd (if acc.getLast? = some x then acc else acc ++ [x]) l

theorem fit_row {k : Nat} (x : Row k) : fitL (List.replicate k .s) (x.1.map .str) = true := by
  obtain ⟨l, rfl⟩ := x
  induction l with
  | nil => rfl
  | cons a l ih => simp only [List.length_cons, List.replicate_succ, List.map_cons, fitL, fitR, Bool.true_and]; exact ih
theorem eqS_iff {a b : ByteArray} : eqS a b = true ↔ a = b := by
  unfold eqS
  rw [eqU_eq, beq_iff_eq]
  constructor
  · intro h
    cases a with | mk a => cases b with | mk b =>
    simp at h
    rw [h]
  · rintro rfl; rfl
@[simp] theorem eqS_dec (a b : ByteArray) : eqS a b = decide (a = b) := by
  rw [Bool.eq_iff_iff, eqS_iff]; simp
theorem eqLs_str : ∀ {l m : List ByteArray}, l.length = m.length → eqLs (l.map .str) (m.map .str) = some (decide (l = m))
  | [], [], _ => rfl
  | a :: l, b :: m, h => by
    simp only [List.map_cons, eqLs, eqSc, Option.bind_some, eqLs_str (l := l) (m := m) (by simpa using h), Option.map_some]
    congr 1
    rw [Bool.eq_iff_iff]
    simp [eqS_iff]
  | [], _ :: _, h => by simp at h
  | _ :: _, [], h => by simp at h
@[simp] theorem eqP_row {k : Nat} {T : Tm} (x y : Row k) : eqP T (.s (List.replicate k .s)) (.v (rowV x)) (.v (rowV y)) = some (decide (x = y)) := by
  simp only [eqP, rowV, fit_row, Bool.and_self, if_true]
  rw [eqLs_str (by rw [x.2, y.2])]
  congr 1
  rw [Bool.eq_iff_iff]
  simp [Subtype.ext_iff]

section
variable {α : Type} [DecidableEq α]
theorem dd_snoc : ∀ (l acc : List α) (x : α), dd acc (l ++ [x]) = if (dd acc l).getLast? = some x then dd acc l else dd acc l ++ [x]
  | [], acc, x => rfl
  | y :: l, acc, x => by simp only [List.cons_append, dd]; exact dd_snoc l _ x
theorem dd_last : ∀ (l acc : List α), l ≠ [] → (dd acc l).getLast? = l.getLast?
  | [], _, h => absurd rfl h
  | [x], acc, _ => by
    simp only [dd]
    split
    · rename_i h; simpa using h
    · simp
  | x :: y :: l, acc, _ => by
    simp only [dd]
    have := dd_last (y :: l) (if acc.getLast? = some x then acc else acc ++ [x]) (by simp)
    simp only [dd] at this
    rw [this]
    simp
theorem dd_len : ∀ (l acc : List α), (dd acc l).length ≤ acc.length + l.length
  | [], _ => by simp [dd]
  | x :: l, acc => by
    simp only [dd]
    have := dd_len l (if acc.getLast? = some x then acc else acc ++ [x])
    split at this <;> rename_i h
    · simp only [if_pos h] at this ⊢; simp; omega
    · simp only [if_neg h] at this ⊢; simp at this ⊢; omega
theorem take_last {l : List α} {i : Nat} (h : 0 < i) (h2 : i ≤ l.length) : (l.take i).getLast? = l[i - 1]? := by
  rw [List.getLast?_eq_getElem?, List.length_take, Nat.min_eq_left h2, List.getElem?_take_of_lt (by omega)]
theorem dd_step {l : List α} {i : Nat} (h : 0 < i) (h2 : i < l.length) : dd [] (l.take (i + 1)) = if l[i - 1]? = l[i]? then dd [] (l.take i) else dd [] (l.take i) ++ [l[i]] := by
  rw [List.take_add_one, List.getElem?_eq_getElem h2, Option.toList_some, dd_snoc, dd_last _ _ (by
    intro e
    have := congrArg List.length e
    simp only [List.length_take, List.length_nil] at this
    omega), take_last h (by omega)]
end

@[simp] theorem demL_v : ∀ l : List RV, demL (l.map .v) = some l
  | [] => rfl
  | x :: l => by simp only [List.map_cons, demL, TV.dem, Option.bind_some, demL_v l, Option.map_some]
theorem row_cells {k : Nat} (x : Row k) : demL (TV.cellsT (.v (rowV x))) = some (x.1.map .str) := by
  simp only [rowV, TV.cellsT]
  exact demL_v _
theorem row_mk {k : Nat} (x y : Row k) : mkCell (rowV y) 0 (x.1.map .str) = rowV x := by
  simp only [rowV, mkCell, setR, List.take_zero, List.nil_append, Nat.zero_add]
  rw [List.drop_of_length_le (by simp [x.2, y.2]), List.append_nil]

@[simp] theorem demL_map {α : Type} (g : α → RV) : ∀ l : List α, demL (l.map fun s => .v (g s)) = some (l.map g)
  | [] => rfl
  | x :: l => by simp only [List.map_cons, demL, TV.dem, Option.bind_some, demL_map g l, Option.map_some]
@[simp] theorem demL_comp {α : Type} (g : α → RV) (l : List α) : demL (l.map (TV.v ∘ g)) = some (l.map g) := demL_map g l
@[simp] theorem row_len {k : Nat} (x : Row k) : (rowV x).cells.length = k := by simp [rowV, RV.cells, x.2]
@[simp] theorem row_take {k : Nat} (x : Row k) : RV.agg ((rowV x).cells.take k) = rowV x := by
  simp only [rowV, RV.cells]
  rw [List.take_of_length_le (by simp [x.2])]
@[simp] theorem row_isAgg {k : Nat} (x : Row k) : (rowV x).isAgg = true := rfl
@[simp] theorem row_cellsT {k : Nat} (x : Row k) : TV.cellsT (.v (rowV x)) = x.1.map fun s => .v (.str s) := by
  simp [rowV]
@[simp] theorem row_flat {k : Nat} (x : Row k) : (rowV x).flat = true := by
  simp only [rowV, RV.flat]
  have : ∀ l : List ByteArray, flatLs (l.map .str) = true := by
    intro l
    induction l with
    | nil => rfl
    | cons a l ih => simp only [List.map_cons, flatLs, RV.flat, ih]; rfl
  exact this _
theorem row_flats {k : Nat} (l : List (Row k)) : (l.map rowV).all RV.flat = true := by simp
theorem row1 (x : Row 1) : ∃ a1, x = ⟨[a1], rfl⟩ := by
  obtain ⟨l, h⟩ := x
  match l, h with
  | [a1], _ => exact ⟨a1, rfl⟩
theorem row2 (x : Row 2) : ∃ a1 a2, x = ⟨[a1, a2], rfl⟩ := by
  obtain ⟨l, h⟩ := x
  match l, h with
  | [a1, a2], _ => exact ⟨a1, a2, rfl⟩
theorem row3 (x : Row 3) : ∃ a1 a2 a3, x = ⟨[a1, a2, a3], rfl⟩ := by
  obtain ⟨l, h⟩ := x
  match l, h with
  | [a1, a2, a3], _ => exact ⟨a1, a2, a3, rfl⟩
theorem row4 (x : Row 4) : ∃ a1 a2 a3 a4, x = ⟨[a1, a2, a3, a4], rfl⟩ := by
  obtain ⟨l, h⟩ := x
  match l, h with
  | [a1, a2, a3, a4], _ => exact ⟨a1, a2, a3, a4, rfl⟩
theorem row5 (x : Row 5) : ∃ a1 a2 a3 a4 a5, x = ⟨[a1, a2, a3, a4, a5], rfl⟩ := by
  obtain ⟨l, h⟩ := x
  match l, h with
  | [a1, a2, a3, a4, a5], _ => exact ⟨a1, a2, a3, a4, a5, rfl⟩
theorem row6 (x : Row 6) : ∃ a1 a2 a3 a4 a5 a6, x = ⟨[a1, a2, a3, a4, a5, a6], rfl⟩ := by
  obtain ⟨l, h⟩ := x
  match l, h with
  | [a1, a2, a3, a4, a5, a6], _ => exact ⟨a1, a2, a3, a4, a5, a6, rfl⟩
@[simp] theorem okL_row {k : Nat} (x : Row k) (T : Tm) : okL (.v (rowV x)) T = true := by
  obtain ⟨l, h⟩ := x
  simp only [rowV, okL]
  clear h
  induction l with
  | nil => rfl
  | cons a l ih => simp
end Go.PM

/-
  PM: slices.Compact, for any element type: the code is the same but for the type's number, the element's cells, how it is loaded and compared.
-/
namespace Go.PM
open Go Go.AH
/-- slices.Compact. -/
def pcCompact (e k : Nat) (ld : Option Nat) (q n : PI) (z : RV) : PC :=
 (.seq
  (.ops [
   ⟨none, (some 2), .as false (.c (.sl e [])), [], []⟩] [] [0, 61] false)
  (.seq
   (.seq
    (.ops [
     ⟨none, (some 6), .mv (.t 0), [], []⟩,
     ⟨none, (some 7), .len 1 (.t 6), [], []⟩,
     ⟨none, (some 8), .bin .lss (.t 7) (.c (.int .i64 2)), [], []⟩] [] [0, 8, 61] false)
    (.cond (.t 8)
     (.seq
      (.ops [
       ⟨none, (some 9), .mv (.t 0), [], []⟩,
       ⟨none, (some 2), .as true (.t 9), [], []⟩] [] [2, 61] false)
      .ret)
     .skip))
   (.seq
    (.seq
     (.ops [
      ⟨none, (some 3), .as false (.c (.int .i64 1)), [], []⟩] [] [0, 3, 61] false)
     (.block 0
      (.loop
       (.seq
        (.seq
         (.ops [
          ⟨none, (some 10), .mv (.t 3), [], []⟩,
          ⟨none, (some 11), .mv (.t 0), [], []⟩,
          ⟨none, (some 12), .len 1 (.t 11), [], []⟩,
          ⟨none, (some 13), .bin .lss (.t 10) (.t 12), [], []⟩] [] [0, 3, 13, 61] false)
         (.cond (.t 13)
          .skip
          (.exit 0)))
        (.seq
         (.block 1
          (.seq
           (.ops [
            ⟨none, (some 16), .mv (.t 0), [], []⟩,
            ⟨none, (some 17), .mv (.t 3), [], []⟩,
            ⟨none, (some 18), .ia e k (.t 16) (.t 17), [], []⟩,
            ⟨none, (some 19), .load ld (.t 18), [], []⟩,
            ⟨none, (some 20), .mv (.t 0), [], []⟩,
            ⟨none, (some 21), .mv (.t 3), [], []⟩,
            ⟨none, (some 22), .bin .sub (.t 21) (.c (.int .i64 1)), [], []⟩,
            ⟨none, (some 23), .ia e k (.t 20) (.t 22), [], []⟩,
            ⟨none, (some 24), .load ld (.t 23), [], []⟩,
            ⟨none, (some 25), q, [], []⟩] [] [0, 3, 25, 61] true)
           (.cond (.t 25)
            (.seq
             (.ops [
              ⟨none, (some 26), .mv (.t 0), [], []⟩,
              ⟨none, (some 27), .mv (.t 3), [], []⟩,
              ⟨none, (some 28), .win e (.t 26) (some (.t 27)) none, [], []⟩,
              ⟨none, (some 4), .as false (.t 28), [], []⟩] [] [0, 3, 4, 61] false)
             (.seq
              (.seq
               (.ops [
                ⟨none, (some 5), .as false (.c (.int .i64 1)), [], []⟩] [] [0, 3, 4, 5, 61] false)
               (.block 2
                (.loop
                 (.seq
                  (.seq
                   (.ops [
                    ⟨none, (some 29), .mv (.t 5), [], []⟩,
                    ⟨none, (some 30), .mv (.t 4), [], []⟩,
                    ⟨none, (some 31), .len 1 (.t 30), [], []⟩,
                    ⟨none, (some 32), .bin .lss (.t 29) (.t 31), [], []⟩] [] [0, 3, 4, 5, 32, 61] false)
                   (.cond (.t 32)
                    .skip
                    (.exit 2)))
                  (.seq
                   (.block 3
                    (.seq
                     (.ops [
                      ⟨none, (some 35), .mv (.t 4), [], []⟩,
                      ⟨none, (some 36), .mv (.t 5), [], []⟩,
                      ⟨none, (some 37), .ia e k (.t 35) (.t 36), [], []⟩,
                      ⟨none, (some 38), .load ld (.t 37), [], []⟩,
                      ⟨none, (some 39), .mv (.t 4), [], []⟩,
                      ⟨none, (some 40), .mv (.t 5), [], []⟩,
                      ⟨none, (some 41), .bin .sub (.t 40) (.c (.int .i64 1)), [], []⟩,
                      ⟨none, (some 42), .ia e k (.t 39) (.t 41), [], []⟩,
                      ⟨none, (some 43), .load ld (.t 42), [], []⟩,
                      ⟨none, (some 44), n, [], []⟩] [] [0, 3, 4, 5, 44, 61] true)
                     (.cond (.t 44)
                      (.seq
                       (.ops [
                        ⟨none, (some 45), .mv (.t 0), [], []⟩,
                        ⟨none, (some 46), .mv (.t 3), [], []⟩,
                        ⟨none, (some 47), .mv (.t 4), [], []⟩,
                        ⟨none, (some 48), .mv (.t 5), [], []⟩,
                        ⟨none, (some 49), .ia e k (.t 47) (.t 48), [], []⟩,
                        ⟨none, (some 50), .load ld (.t 49), [], []⟩,
                        ⟨none, (some 51), .ia e k (.t 45) (.t 46), [], []⟩,
                        ⟨none, none, .store k (.t 51) (.t 50), [], []⟩] [] [0, 3, 4, 5, 61] false)
                       (.ops [
                        ⟨none, (some 52), .mv (.t 3), [], []⟩,
                        ⟨none, (some 53), .bin .add (.t 52) (.c (.int .i64 1)), [], []⟩,
                        ⟨none, (some 3), .as false (.t 53), [], []⟩] [] [0, 3, 4, 5, 61] false))
                      .skip)))
                   (.ops [
                    ⟨none, (some 33), .mv (.t 5), [], []⟩,
                    ⟨none, (some 34), .bin .add (.t 33) (.c (.int .i64 1)), [], []⟩,
                    ⟨none, (some 5), .as false (.t 34), [], []⟩] [] [0, 3, 4, 5, 61] false))))))
              (.seq
               (.ops [
                ⟨none, (some 54), .mv (.t 0), [], []⟩,
                ⟨none, (some 55), .mv (.t 3), [], []⟩,
                ⟨none, (some 56), .win e (.t 54) (some (.t 55)) none, [], []⟩,
                ⟨none, none, .clr e z (.t 56), [], []⟩] [] [0, 3, 61] false)
               (.seq
                (.ops [
                 ⟨none, (some 57), .mv (.t 0), [], []⟩,
                 ⟨none, (some 58), .mv (.t 3), [], []⟩,
                 ⟨none, (some 59), .slc true e (.t 57) none (some (.t 58)) none, [], []⟩,
                 ⟨none, (some 2), .as false (.t 59), [], []⟩] [] [2, 61] false)
                .ret))))
            .skip)))
         (.ops [
          ⟨none, (some 14), .mv (.t 3), [], []⟩,
          ⟨none, (some 15), .bin .add (.t 14) (.c (.int .i64 1)), [], []⟩,
          ⟨none, (some 3), .as false (.t 15), [], []⟩] [] [0, 3, 61] false))))))
    (.seq
     (.ops [
      ⟨none, (some 60), .mv (.t 0), [], []⟩,
      ⟨none, (some 2), .as true (.t 60), [], []⟩] [] [2, 61] false)
     .ret))))
def rsCompact : List PR := [.t 2]

abbrev qRow (k : Nat) : PI := .eqF false (.s (List.replicate k .s)) (.t 19) (.t 24)
abbrev nRow (k : Nat) : PI := .eqF true (.s (List.replicate k .s)) (.t 38) (.t 43)
abbrev zRow (k : Nat) : RV := .agg (List.replicate k (.str ⟨#[]⟩))

set_option maxHeartbeats 4000000 in
theorem snd_compactR {P : Program} {Fn : FuncId → Bool} {Pr : CallR → CallR} {f : FuncId} {e k : Nat} (hF : Fn f = true) (hchk : chkF P f 61 (pcCompact e k (some k) (qRow k) (nRow k) (zRow k)) rsCompact = true) (d : List (Row k)) (hl : d.length ≤ 4611686018427387904) :
    SndP P Fn Pr f [.sl e (d.map rowV)] [.sl e ((dd [] d).map rowV)] [.junk] := by
  refine snd_of hF hchk (by simp) ?_ rfl
  rw [show enterP 61 [.sl e (d.map rowV)] = E [(0, .als 61 []), (61, .sl e (d.map rowV))] from by
    funext x
    simp only [enterP, E_cons, E_nil, List.length_cons, List.length_nil]
    by_cases h0 : x = 0
    · subst h0; rfl
    · by_cases h1 : x = 61
      · subst h1; rfl
      · simp only [h0, h1, if_false]
        rw [if_neg (by omega)]
        split
        · rfl
        · rw [show ([TV.sl e (d.map rowV)])[x - 61]? = none from List.getElem?_eq_none (by simp; omega)]]
  simp only [pcCompact]
  refine run_of ?_
  repeat (first | refine run_seq ?_ | refine run_block ?_ | refine run_b ?_ | refine run_skip ?_ | refine run_ops (by simp; rfl) rfl rfl (by simp; rfl) ?_)
  refine run_cond (by simp; rfl) (fun ht => ?_) (fun ht => ?_)
  · simp at ht
    repeat (first | refine run_seq ?_ | refine run_block ?_ | refine run_b ?_ | refine run_skip ?_ | refine run_ops (by simp; rfl) rfl rfl (by simp; rfl) ?_)
    refine run_ret ⟨.inr rfl, ?_⟩
    simp [rsCompact]
    refine ⟨_, _, ⟨rfl, rfl⟩, ?_, rfl⟩
    match d, ht with
    | [], _ => rfl
    | [x], _ => rfl
    | _ :: _ :: _, ht => simp at ht; omega
  · simp at ht
    repeat (first | refine run_seq ?_ | refine run_block ?_ | refine run_b ?_ | refine run_skip ?_ | refine run_ops (by simp; rfl) rfl rfl (by simp; rfl) ?_)
    refine run_loop (α := Nat) (fun i => E [(0, .als 61 []), (3, .v (.int .i64 i)), (61, .sl e (d.map rowV))]) (fun i => 1 ≤ i ∧ i ≤ d.length ∧ dd [] (d.take i) = d.take i) (fun i => d.length - i) 1 (by rfl) ⟨by omega, by omega, by match d with | [] => rfl | x :: _ => rfl⟩ ?_
    intro i ⟨hi1, hi2, hi3⟩
    repeat (first | refine run_seq ?_ | refine run_block ?_ | refine run_b ?_ | refine run_skip ?_ | refine run_ops (by simp; rfl) rfl rfl (by simp; rfl) ?_)
    refine run_cond (by simp; rfl) (fun ht => ?_) (fun ht => run_exit rfl ?_)
    · simp at ht
      have e1 : IntKind.i64.wrap ((i : Int) - 1) = ((i - 1 : Nat) : Int) := by rw [wrap64 (by omega) (by omega)]; omega
      have g1 : d[i]? = some d[i] := List.getElem?_eq_getElem ht
      have g2 : d[i - 1]? = some d[i - 1] := List.getElem?_eq_getElem (by omega)
      have g3 : i - 1 < d.length := by omega
      have hrl : ∀ x : Row k, k ≤ (rowV x).cells.length ∧ RV.agg ((rowV x).cells.take k) = rowV x := fun x => by
        refine ⟨by simp [rowV, RV.cells, x.2], ?_⟩
        simp only [rowV, RV.cells]
        rw [List.take_of_length_le (by simp [x.2])]
      repeat (first | refine run_seq ?_ | refine run_block ?_ | refine run_b ?_ | refine run_skip ?_)
      refine run_ops (by simp [-RV.cells, -eqP, e1, ht, g1, g2, g3, hrl, eqP_row]; rfl) rfl rfl (by simp; rfl) ?_
      refine run_cond (by simp; rfl) (fun hq => ?_) (fun hq => ?_)
      · simp at hq
        have q0 : dd [] (d.take (i + 1)) = d.take i := by rw [dd_step hi1 ht, g1, g2, hq, if_pos rfl, hi3]
        have hdn : d ≠ [] := List.length_pos_iff.1 (by omega)
        repeat (first | refine run_seq ?_ | refine run_block ?_ | refine run_b ?_ | refine run_skip ?_)
        refine run_ops (by simp [hdn, hi2]; rfl) rfl rfl (by simp; rfl) ?_
        repeat (first | refine run_seq ?_ | refine run_block ?_ | refine run_b ?_ | refine run_skip ?_ | refine run_ops (by simp; rfl) rfl rfl (by simp; rfl) ?_)
        refine run_loop (α := Nat) (fun j => E [(0, .als 61 []), (3, .v (.int .i64 ((dd [] (d.take (i + j))).length : Nat))), (4, .win 61 [] i (d.length - i)), (5, .v (.int .i64 j)), (61, .sl e ((dd [] (d.take (i + j)) ++ d.drop (dd [] (d.take (i + j))).length).map rowV))]) (fun j => 1 ≤ j ∧ i + j ≤ d.length ∧ (dd [] (d.take (i + j))).length < i + j) (fun j => d.length - j) 1 ?_ ?_ ?_
        · rw [q0]; simp [Nat.min_eq_left hi2]
        · rw [q0]; simp; omega
        intro j ⟨hj1, hj2, hj3⟩
        generalize hD : dd [] (d.take (i + j)) = D at hj3
        have hM1 : (D ++ d.drop D.length).length = d.length := by simp; omega
        have hM2 : ∀ t, D.length ≤ t → (D ++ d.drop D.length)[t]? = d[t]? := fun t h => by rw [List.getElem?_append_right h, List.getElem?_drop]; congr 1; omega
        have hM3 : (D ++ d.drop D.length).take D.length = D := by simp
        generalize hM : D ++ d.drop D.length = M at hM1 hM2 hM3
        repeat (first | refine run_seq ?_ | refine run_block ?_ | refine run_b ?_ | refine run_skip ?_ | refine run_ops (by simp; rfl) rfl rfl (by simp; rfl) ?_)
        refine run_cond (by simp; rfl) (fun ht2 => ?_) (fun ht2 => run_exit rfl ?_)
        · simp at ht2
          have f1 : IntKind.i64.wrap ((j : Int) - 1) = ((j - 1 : Nat) : Int) := by rw [wrap64 (by omega) (by omega)]; omega
          have f2 : M[i + j]? = some (d[i + j]'(by omega)) := by rw [hM2 _ (by omega), List.getElem?_eq_getElem (by omega)]
          have f3 : M[i + (j - 1)]? = some (d[i + (j - 1)]'(by omega)) := by rw [hM2 _ (by omega), List.getElem?_eq_getElem (by omega)]
          have f4 : j - 1 < d.length - i := by omega
          repeat (first | refine run_seq ?_ | refine run_block ?_ | refine run_b ?_ | refine run_skip ?_)
          refine run_ops (by simp [-RV.cells, -eqP, f1, f2, f3, f4, ht2, hrl, eqP_row]; rfl) rfl rfl (by simp; rfl) ?_
          refine run_cond (t := !decide (d[i + j]'(by omega) = d[i + (j - 1)]'(by omega))) (by simp) (fun hq2 => ?_) (fun hq2 => ?_)
          · simp at hq2
            have w1 : D.length < d.length := by omega
            have w2 : M[D.length]? = some (d[D.length]'w1) := by rw [hM2 _ (Nat.le_refl _), List.getElem?_eq_getElem w1]
            have w3 := (d[i + j]'(by omega)).2
            repeat (first | refine run_seq ?_ | refine run_block ?_ | refine run_b ?_ | refine run_skip ?_)
            refine run_ops (by simp [-RV.cells, -TV.cellsT, f2, ht2, hM1, hrl, w1, w2, row_cells, row_mk, w3]; rfl) rfl rfl (by simp; rfl) ?_
            have q1 : dd [] (d.take (i + (j + 1))) = D ++ [d[i + j]'(by omega)] := by
              rw [show i + (j + 1) = i + j + 1 by omega, dd_step (by omega) (by omega), hD, show i + j - 1 = i + (j - 1) by omega, List.getElem?_eq_getElem (by omega), List.getElem?_eq_getElem (by omega), if_neg (fun h => hq2 (Option.some.inj h).symm)]
            have q2 : ∀ y : Row k, (M.map rowV).set D.length (rowV y) = (D ++ [y] ++ d.drop (D.length + 1)).map rowV := fun y => by
              rw [← List.map_set, ← hM]
              congr 1
              rw [List.set_append_right _ _ (Nat.le_refl _), Nat.sub_self, List.drop_eq_getElem_cons w1, List.set_cons_zero, List.append_assoc]
              rfl
            rw [q2]
            generalize hM9 : (D ++ [d[i + j]'(by omega)] ++ d.drop (D.length + 1)).map rowV = M9
            repeat (first | refine run_seq ?_ | refine run_block ?_ | refine run_b ?_ | refine run_skip ?_ | refine run_ops (by simp; rfl) rfl rfl (by simp; rfl) ?_)
            refine run_inv ⟨j + 1, ⟨by omega, by omega, by rw [q1]; simp; omega⟩, by omega, ?_⟩
            rw [q1, List.length_append, List.length_singleton, hM9, wrap64 (by omega) (by omega), wrap64 (by omega) (by omega)]
            rfl
          · simp at hq2
            repeat (first | refine run_seq ?_ | refine run_block ?_ | refine run_b ?_ | refine run_skip ?_ | refine run_ops (by simp; rfl) rfl rfl (by simp; rfl) ?_)
            have q1 : dd [] (d.take (i + (j + 1))) = D := by
              rw [show i + (j + 1) = i + j + 1 by omega, dd_step (by omega) (by omega), hD, show i + j - 1 = i + (j - 1) by omega, List.getElem?_eq_getElem (by omega), List.getElem?_eq_getElem (by omega), hq2, if_pos rfl]
            refine run_inv ⟨j + 1, ⟨by omega, by omega, by rw [q1]; omega⟩, by omega, ?_⟩
            rw [q1, hM, wrap64 (by omega) (by omega)]
            simp
        · simp at ht2
          have e3 : i + j = d.length := by omega
          rw [e3, List.take_length] at hD
          have n1 : M ≠ [] := List.length_pos_iff.1 (by omega)
          have n2 : D.length ≤ d.length := by omega
          repeat (first | refine run_seq ?_ | refine run_block ?_ | refine run_b ?_ | refine run_skip ?_)
          refine run_ops (by simp [n1, n2, hM1]; rfl) rfl rfl (by simp; rfl) ?_
          generalize hB : ((M.map rowV).take D.length ++ (List.replicate (d.length - D.length) (zRow k) ++ (M.map rowV).drop d.length)) = B
          have b1 : D.length ≤ B.length := by rw [← hB]; simp; omega
          have b2 : B.take D.length = D.map rowV := by
            rw [← hB, List.take_append_of_le_length (by simp; omega), List.take_take, Nat.min_self, ← List.map_take, hM3]
          repeat (first | refine run_seq ?_ | refine run_block ?_ | refine run_b ?_ | refine run_skip ?_)
          refine run_ops (by simp [b1]; rfl) rfl rfl (by simp; rfl) ?_
          refine run_ret ⟨.inr rfl, ?_⟩
          simp [rsCompact, b2, hD]
          try (refine ⟨_, _, ⟨rfl, rfl⟩, rfl, rfl⟩)
      · simp at hq
        repeat (first | refine run_seq ?_ | refine run_block ?_ | refine run_b ?_ | refine run_skip ?_ | refine run_ops (by simp; rfl) rfl rfl (by simp; rfl) ?_)
        refine run_inv ⟨i + 1, ⟨by omega, by omega, ?_⟩, by omega, ?_⟩
        · rw [dd_step hi1 ht, g1, g2, if_neg (fun h => hq (Option.some.inj h).symm), hi3, List.take_add_one, g1]; rfl
        · rw [wrap64 (by omega) (by omega)]; rfl
    · simp at ht
      repeat (first | refine run_seq ?_ | refine run_block ?_ | refine run_b ?_ | refine run_skip ?_ | refine run_ops (by simp; rfl) rfl rfl (by simp; rfl) ?_)
      refine run_ret ⟨.inr rfl, ?_⟩
      simp [rsCompact]
      refine ⟨_, _, ⟨rfl, rfl⟩, ?_, rfl⟩
      have : i = d.length := by omega
      subst this
      rw [List.take_length] at hi3
      rw [hi3]
set_option maxHeartbeats 4000000 in
theorem snd_compactS {P : Program} {Fn : FuncId → Bool} {Pr : CallR → CallR} {f : FuncId} {e : Nat} (hF : Fn f = true) (hchk : chkF P f 61 (pcCompact e 1 none (.bin .eql (.t 19) (.t 24)) (.bin .neq (.t 38) (.t 43)) (.str ⟨#[]⟩)) rsCompact = true) (d : List ByteArray) (hl : d.length ≤ 4611686018427387904) :
    SndP P Fn Pr f [.sl e (d.map RV.str)] [.sl e ((dd [] d).map RV.str)] [.junk] := by
  refine snd_of hF hchk (by simp) ?_ rfl
  rw [show enterP 61 [.sl e (d.map RV.str)] = E [(0, .als 61 []), (61, .sl e (d.map RV.str))] from by
    funext x
    simp only [enterP, E_cons, E_nil, List.length_cons, List.length_nil]
    by_cases h0 : x = 0
    · subst h0; rfl
    · by_cases h1 : x = 61
      · subst h1; rfl
      · simp only [h0, h1, if_false]
        rw [if_neg (by omega)]
        split
        · rfl
        · rw [show ([TV.sl e (d.map RV.str)])[x - 61]? = none from List.getElem?_eq_none (by simp; omega)]]
  simp only [pcCompact]
  refine run_of ?_
  repeat (first | refine run_seq ?_ | refine run_block ?_ | refine run_b ?_ | refine run_skip ?_ | refine run_ops (by simp; rfl) rfl rfl (by simp; rfl) ?_)
  refine run_cond (by simp; rfl) (fun ht => ?_) (fun ht => ?_)
  · simp at ht
    repeat (first | refine run_seq ?_ | refine run_block ?_ | refine run_b ?_ | refine run_skip ?_ | refine run_ops (by simp; rfl) rfl rfl (by simp; rfl) ?_)
    refine run_ret ⟨.inr rfl, ?_⟩
    simp [rsCompact]
    refine ⟨_, _, ⟨rfl, rfl⟩, ?_, rfl⟩
    match d, ht with
    | [], _ => rfl
    | [x], _ => rfl
    | _ :: _ :: _, ht => simp at ht; omega
  · simp at ht
    repeat (first | refine run_seq ?_ | refine run_block ?_ | refine run_b ?_ | refine run_skip ?_ | refine run_ops (by simp; rfl) rfl rfl (by simp; rfl) ?_)
    refine run_loop (α := Nat) (fun i => E [(0, .als 61 []), (3, .v (.int .i64 i)), (61, .sl e (d.map RV.str))]) (fun i => 1 ≤ i ∧ i ≤ d.length ∧ dd [] (d.take i) = d.take i) (fun i => d.length - i) 1 (by rfl) ⟨by omega, by omega, by match d with | [] => rfl | x :: _ => rfl⟩ ?_
    intro i ⟨hi1, hi2, hi3⟩
    repeat (first | refine run_seq ?_ | refine run_block ?_ | refine run_b ?_ | refine run_skip ?_ | refine run_ops (by simp; rfl) rfl rfl (by simp; rfl) ?_)
    refine run_cond (by simp; rfl) (fun ht => ?_) (fun ht => run_exit rfl ?_)
    · simp at ht
      have e1 : IntKind.i64.wrap ((i : Int) - 1) = ((i - 1 : Nat) : Int) := by rw [wrap64 (by omega) (by omega)]; omega
      have g1 : d[i]? = some d[i] := List.getElem?_eq_getElem ht
      have g2 : d[i - 1]? = some d[i - 1] := List.getElem?_eq_getElem (by omega)
      have g3 : i - 1 < d.length := by omega
      repeat (first | refine run_seq ?_ | refine run_block ?_ | refine run_b ?_ | refine run_skip ?_)
      refine run_ops (by simp [e1, ht, g1, g2, g3]; rfl) rfl rfl (by simp; rfl) ?_
      refine run_cond (by simp; rfl) (fun hq => ?_) (fun hq => ?_)
      · simp at hq
        have q0 : dd [] (d.take (i + 1)) = d.take i := by rw [dd_step hi1 ht, g1, g2, hq, if_pos rfl, hi3]
        have hdn : d ≠ [] := List.length_pos_iff.1 (by omega)
        repeat (first | refine run_seq ?_ | refine run_block ?_ | refine run_b ?_ | refine run_skip ?_)
        refine run_ops (by simp [hdn, hi2]; rfl) rfl rfl (by simp; rfl) ?_
        repeat (first | refine run_seq ?_ | refine run_block ?_ | refine run_b ?_ | refine run_skip ?_ | refine run_ops (by simp; rfl) rfl rfl (by simp; rfl) ?_)
        refine run_loop (α := Nat) (fun j => E [(0, .als 61 []), (3, .v (.int .i64 ((dd [] (d.take (i + j))).length : Nat))), (4, .win 61 [] i (d.length - i)), (5, .v (.int .i64 j)), (61, .sl e ((dd [] (d.take (i + j)) ++ d.drop (dd [] (d.take (i + j))).length).map RV.str))]) (fun j => 1 ≤ j ∧ i + j ≤ d.length ∧ (dd [] (d.take (i + j))).length < i + j) (fun j => d.length - j) 1 ?_ ?_ ?_
        · rw [q0]; simp [Nat.min_eq_left hi2]
        · rw [q0]; simp; omega
        intro j ⟨hj1, hj2, hj3⟩
        generalize hD : dd [] (d.take (i + j)) = D at hj3
        have hM1 : (D ++ d.drop D.length).length = d.length := by simp; omega
        have hM2 : ∀ t, D.length ≤ t → (D ++ d.drop D.length)[t]? = d[t]? := fun t h => by rw [List.getElem?_append_right h, List.getElem?_drop]; congr 1; omega
        have hM3 : (D ++ d.drop D.length).take D.length = D := by simp
        generalize hM : D ++ d.drop D.length = M at hM1 hM2 hM3
        repeat (first | refine run_seq ?_ | refine run_block ?_ | refine run_b ?_ | refine run_skip ?_ | refine run_ops (by simp; rfl) rfl rfl (by simp; rfl) ?_)
        refine run_cond (by simp; rfl) (fun ht2 => ?_) (fun ht2 => run_exit rfl ?_)
        · simp at ht2
          have f1 : IntKind.i64.wrap ((j : Int) - 1) = ((j - 1 : Nat) : Int) := by rw [wrap64 (by omega) (by omega)]; omega
          have f2 : M[i + j]? = some (d[i + j]'(by omega)) := by rw [hM2 _ (by omega), List.getElem?_eq_getElem (by omega)]
          have f3 : M[i + (j - 1)]? = some (d[i + (j - 1)]'(by omega)) := by rw [hM2 _ (by omega), List.getElem?_eq_getElem (by omega)]
          have f4 : j - 1 < d.length - i := by omega
          repeat (first | refine run_seq ?_ | refine run_block ?_ | refine run_b ?_ | refine run_skip ?_)
          refine run_ops (by simp [f1, f2, f3, f4, ht2]; rfl) rfl rfl (by simp; rfl) ?_
          refine run_cond (t := !decide (d[i + j]'(by omega) = d[i + (j - 1)]'(by omega))) (by simp) (fun hq2 => ?_) (fun hq2 => ?_)
          · simp at hq2
            have w1 : D.length < d.length := by omega
            have w2 : M[D.length]? = some (d[D.length]'w1) := by rw [hM2 _ (Nat.le_refl _), List.getElem?_eq_getElem w1]
            repeat (first | refine run_seq ?_ | refine run_block ?_ | refine run_b ?_ | refine run_skip ?_)
            refine run_ops (by simp [f2, ht2, hM1, w1, w2, mkCell]; rfl) rfl rfl (by simp; rfl) ?_
            have q1 : dd [] (d.take (i + (j + 1))) = D ++ [d[i + j]'(by omega)] := by
              rw [show i + (j + 1) = i + j + 1 by omega, dd_step (by omega) (by omega), hD, show i + j - 1 = i + (j - 1) by omega, List.getElem?_eq_getElem (by omega), List.getElem?_eq_getElem (by omega), if_neg (fun h => hq2 (Option.some.inj h).symm)]
            have q2 : ∀ y : ByteArray, (M.map RV.str).set D.length (RV.str y) = (D ++ [y] ++ d.drop (D.length + 1)).map RV.str := fun y => by
              rw [← List.map_set, ← hM]
              congr 1
              rw [List.set_append_right _ _ (Nat.le_refl _), Nat.sub_self, List.drop_eq_getElem_cons w1, List.set_cons_zero, List.append_assoc]
              rfl
            rw [q2]
            generalize hM9 : (D ++ [d[i + j]'(by omega)] ++ d.drop (D.length + 1)).map RV.str = M9
            repeat (first | refine run_seq ?_ | refine run_block ?_ | refine run_b ?_ | refine run_skip ?_ | refine run_ops (by simp; rfl) rfl rfl (by simp; rfl) ?_)
            refine run_inv ⟨j + 1, ⟨by omega, by omega, by rw [q1]; simp; omega⟩, by omega, ?_⟩
            rw [q1, List.length_append, List.length_singleton, hM9, wrap64 (by omega) (by omega), wrap64 (by omega) (by omega)]
            rfl
          · simp at hq2
            repeat (first | refine run_seq ?_ | refine run_block ?_ | refine run_b ?_ | refine run_skip ?_ | refine run_ops (by simp; rfl) rfl rfl (by simp; rfl) ?_)
            have q1 : dd [] (d.take (i + (j + 1))) = D := by
              rw [show i + (j + 1) = i + j + 1 by omega, dd_step (by omega) (by omega), hD, show i + j - 1 = i + (j - 1) by omega, List.getElem?_eq_getElem (by omega), List.getElem?_eq_getElem (by omega), hq2, if_pos rfl]
            refine run_inv ⟨j + 1, ⟨by omega, by omega, by rw [q1]; omega⟩, by omega, ?_⟩
            rw [q1, hM, wrap64 (by omega) (by omega)]
            simp
        · simp at ht2
          have e3 : i + j = d.length := by omega
          rw [e3, List.take_length] at hD
          have n1 : M ≠ [] := List.length_pos_iff.1 (by omega)
          have n2 : D.length ≤ d.length := by omega
          repeat (first | refine run_seq ?_ | refine run_block ?_ | refine run_b ?_ | refine run_skip ?_)
          refine run_ops (by simp [n1, n2, hM1]; rfl) rfl rfl (by simp; rfl) ?_
          generalize hB : ((M.map RV.str).take D.length ++ (List.replicate (d.length - D.length) ((RV.str ⟨#[]⟩)) ++ (M.map RV.str).drop d.length)) = B
          have b1 : D.length ≤ B.length := by rw [← hB]; simp; omega
          have b2 : B.take D.length = D.map RV.str := by
            rw [← hB, List.take_append_of_le_length (by simp; omega), List.take_take, Nat.min_self, ← List.map_take, hM3]
          repeat (first | refine run_seq ?_ | refine run_block ?_ | refine run_b ?_ | refine run_skip ?_)
          refine run_ops (by simp [b1]; rfl) rfl rfl (by simp; rfl) ?_
          refine run_ret ⟨.inr rfl, ?_⟩
          simp [rsCompact, b2, hD]
          try (refine ⟨_, _, ⟨rfl, rfl⟩, rfl, rfl⟩)
      · simp at hq
        repeat (first | refine run_seq ?_ | refine run_block ?_ | refine run_b ?_ | refine run_skip ?_ | refine run_ops (by simp; rfl) rfl rfl (by simp; rfl) ?_)
        refine run_inv ⟨i + 1, ⟨by omega, by omega, ?_⟩, by omega, ?_⟩
        · rw [dd_step hi1 ht, g1, g2, if_neg (fun h => hq (Option.some.inj h).symm), hi3, List.take_add_one, g1]; rfl
        · rw [wrap64 (by omega) (by omega)]; rfl
    · simp at ht
      repeat (first | refine run_seq ?_ | refine run_block ?_ | refine run_b ?_ | refine run_skip ?_ | refine run_ops (by simp; rfl) rfl rfl (by simp; rfl) ?_)
      refine run_ret ⟨.inr rfl, ?_⟩
      simp [rsCompact]
      refine ⟨_, _, ⟨rfl, rfl⟩, ?_, rfl⟩
      have : i = d.length := by omega
      subst this
      rw [List.take_length] at hi3
      rw [hi3]
end Go.PM

/-
  PM: small functions of the library, for any element type.
-/
namespace Go.PM
open Go Go.AH
variable {P : Program} {Fn : FuncId → Bool} {Pr : CallR → CallR} {C : CR}

theorem stepP_exec {T T' : Tm} {i : PI} {v : TV} {K : TV → Tm → Prop} (he : exec T i = some (v, T')) : stepP C T i K = K v T' := by
  cases i with
  | call f args => simp [exec] at he
  | _ => simp only [stepP, he]
theorem opsP_one {o : PO} {l : List PO} {T T1 : Tm} {Q : Tm → Prop} (h : step1 o T = some T1) (k : opsP C l T1 Q) : opsP C (o :: l) T Q := by
  unfold step1 at h
  split at h
  · rename_i hst
    simp only [opsP]
    refine ⟨hst, ?_⟩
    split at h
    · rename_i hw
      rw [hw]
      split at h
      · rename_i v T' he
        cases h
        show stepP C T o.i _
        rw [stepP_exec he]
        exact k
      · cases h
    · rename_i hw
      rw [hw]
      cases h
      exact k
    · cases h
  · cases h
theorem opsP_may {d : Option Nat} {neg : Bool} {x : Opd} {e : TypeId} {nj fl : List Nat} {l : List PO} {T : Tm} {Q : Tm → Prop} (hs : (still T nj && stillF T fl) = true) (hn : exec T (.eqF neg .l x (.c (.sl e []))) = none) (hm : mayEq T (.eqF neg .l x (.c (.sl e []))) = true)
    (k : ∀ b, opsP C l (T.putO d (.v (.bool b))) Q) : opsP C (⟨none, d, .eqF neg .l x (.c (.sl e [])), nj, fl⟩ :: l) T Q := by
  simp only [opsP, wantP, stepP, hn]
  exact ⟨hs, hm, k true, k false⟩

theorem run_may {Q : PPost} {k : List Fr} {o : PO} {d : Nat} {neg dr : Bool} {x : Opd} {e : TypeId} {live : List Nat} {T T1 : Tm} {T2 : Bool → Tm} (h : step1 o T = some T1) (hn : exec T1 (.eqF neg .l x (.c (.sl e []))) = none) (hm : mayEq T1 (.eqF neg .l x (.c (.sl e []))) = true)
    (hk : ∀ b, (T1.putO (some d) (.v (.bool b))).keep live = T2 b) (r : ∀ b, Run C Q k (T2 b)) : Run C Q (.c (.ops [o, ⟨none, some d, .eqF neg .l x (.c (.sl e [])), [], []⟩] [] live dr) :: k) T :=
  ⟨opsP_one h (opsP_may rfl hn hm fun b => ⟨rfl, by rw [hk]; exact (r b).h⟩)⟩

theorem back_false {T0 : Tm} : ∀ {args : List (Bool × Opd)} {us : List TV} {T : Tm}, (args.all fun x => !x.1) = true → us.length = args.length → back args us T0 T = some T ∧ muts T0 args = []
  | [], [], _, _, _ => ⟨rfl, rfl⟩
  | [], _ :: _, _, _, h => by simp at h
  | _ :: _, [], _, _, h => by simp at h
  | (false, x) :: args, u :: us, T, h, hl => by
    obtain ⟨h1, h3⟩ := back_false (T0 := T0) (args := args) (us := us) (T := T) (by simpa using h) (by simpa using hl)
    exact ⟨by simpa [back] using h1, by simpa [muts] using h3⟩
  | (true, x) :: args, u :: us, _, h, _ => by simp at h

/-- A call that changes what its first argument names. -/
theorem runO_mut {Q : PPost} {k : List Fr} {f : FuncId} {s r : Nat} {p : List Sel} {rest : List (Bool × Opd)} {d : Option Nat} {nj fl fin live : List Nat} {l : List PO} {xs : List RV} {u u' : TV} {res : List TV} {T T1 T2 : Tm} (hC : C f (u :: xs.map .v) res (u' :: xs.map .v)) (hs : (still T nj && stillF T fl) = true)
    (hl : look T (.t s) = .als r p) (hg : (T r).get p = some u) (hr : argsP T rest = some (xs.map .v)) (hrf : (rest.all fun x => !x.1) = true) (hseen : seen T rest = [])
    (hd : ((T.upd r p true .junk).upd r p true u').putO d (resT res) = T1) (h : runP (cutL l) (some T1) = some T2) (q : RunO C Q k (cutR l) fin live T2) : RunO C Q k (⟨none, d, .call (.c (.fn f [] [])) ((true, .t s) :: rest), nj, fl⟩ :: l) fin live T := by
  have hlen : (xs.map TV.v).length = rest.length := argsP_length hr
  obtain ⟨b1, b2⟩ := back_false (T0 := T) (args := rest) (us := xs.map .v) (T := (T.upd r p true .junk).upd r p true u') hrf hlen
  have hm : muts T ((true, Opd.t s) :: rest) = [(r, p)] := by
    have b3 : muts T ((true, Opd.t s) :: rest) = plc1 (look T (.t s)) ++ muts T rest := rfl
    rw [b3, b2, hl]; rfl
  have hse : seen T ((true, Opd.t s) :: rest) = [] := by
    simp only [seen, List.flatMap_cons, if_true, List.nil_append]
    exact hseen
  unfold RunO
  simp only [opsP, wantP, stepP]
  refine ⟨hs, [], T, f, [], [], u :: xs.map .v, res, u' :: xs.map .v, (T.upd r p true .junk).upd r p true u', rfl, rfl, ?_, by simpa using hC, by simp, ?_, ?_, ?_, ?_, ?_⟩
  · simp only [argsP, argP, hl, hg, hr]; rfl
  · rw [hm]; rfl
  · rw [hm, hse]; rfl
  · exact .inr (by rw [hse]; rfl)
  · rw [hm]
    simp only [back, hl, junkAll]
    exact b1
  · show opsP C l (Tm.putO _ d (resT res)) _
    rw [hd]
    exact opsP_run h q

/-- The usual call, where it is wanted. -/
theorem runO_callG {Q : PPost} {k : List Fr} {og : Option (Nat × Bool)} {f : FuncId} {args : List (Bool × Opd)} {d : Option Nat} {nj fl fin live : List Nat} {l : List PO} {xs : List RV} {res : List TV} {T T1 T2 : Tm} (hg : wantP T og = some true) (hC : C f (xs.map .v) res (xs.map .v)) (hs : (still T nj && stillF T fl) = true) (ha : argsP T args = some (xs.map .v)) (hp : (args.all fun x => !x.1) = true)
    (hl : res.all TV.lone = true ∨ seen T args = []) (hd : T.putO d (resT res) = T1) (h : runP (cutL l) (some T1) = some T2) (r : RunO C Q k (cutR l) fin live T2) : RunO C Q k (⟨og, d, .call (.c (.fn f [] [])) args, nj, fl⟩ :: l) fin live T := by
  have q := runO_call (nj := nj) (fl := fl) (fin := fin) (live := live) hC hs ha hp hl hd h r
  unfold RunO at *
  simp only [opsP, wantP] at q
  simp only [opsP, hg]
  exact q
/-- A call that is not wanted. -/
theorem runO_off {Q : PPost} {k : List Fr} {og : Option (Nat × Bool)} {i : PI} {d : Option Nat} {nj fl fin live : List Nat} {l : List PO} {T T1 T2 : Tm} (hg : wantP T og = some false) (hs : (still T nj && stillF T fl) = true)
    (hd : T.putO d (.tup []) = T1) (h : runP (cutL l) (some T1) = some T2) (r : RunO C Q k (cutR l) fin live T2) : RunO C Q k (⟨og, d, i, nj, fl⟩ :: l) fin live T := by
  unfold RunO
  simp only [opsP, hg]
  refine ⟨hs, ?_⟩
  rw [hd]
  exact opsP_run h r

@[simp] theorem bits_i64 : IntKind.i64.bits = 64 := rfl
@[simp] theorem bits_u64 : IntKind.u64.bits = 64 := rfl
@[simp] theorem bits_i32 : IntKind.i32.bits = 32 := rfl
@[simp] theorem bits_u32 : IntKind.u32.bits = 32 := rfl
@[simp] theorem bits_u8 : IntKind.u8.bits = 8 := rfl
theorem andI_leI (a m : Int) (h : 0 ≤ m) (hm : m < 9223372036854775808) : ∃ j : Nat, (j : Int) ≤ m ∧ andI .i64 a m = j := by
  obtain ⟨k, rfl⟩ := Int.eq_ofNat_of_zero_le h
  obtain ⟨j, h1, h2⟩ := andI_le a k (by omega)
  exact ⟨j, by omega, h2⟩

/-- Straight code, by what it comes to. -/
theorem run_opsX {Q : PPost} {k : List Fr} {l : List PO} {fin live : List Nat} {dr : Bool} {T : Tm} (T2 : Tm) (hr : cutR l = []) (h : ∃ T1, runP (cutL l) (some T) = some T1 ∧ still T1 fin = true ∧ T1.keep live = T2) (r : Run C Q k T2) : Run C Q (.c (.ops l fin live dr) :: k) T := by
  obtain ⟨T1, h1, h2, h3⟩ := h
  exact run_ops (dr := dr) h1 hr h2 h3 r

/-- A closed function that yields true: what it makes in memory is not told. -/
def closPr (g : FuncId) : CallR := fun f args H v H' => f = g ∧ args = #[] ∧ v = .bool true ∧ H' = H
theorem snd_clos {g : FuncId} (hP : ∀ R f args H v H', closPr g f args H v H' → Pr R f args H v H') : SndP P Fn Pr g (([] : List RV).map .v) [.v (.bool true)] (([] : List RV).map .v) := by
  refine ⟨rfl, fun H Z as_ f hz hov hnd hfz => ?_⟩
  cases hov
  exact ⟨_, H, Z, [_], [], [], fun R hR => hR.1 _ _ _ _ _ (hP _ _ _ _ _ _ ⟨rfl, rfl, rfl, rfl⟩), rfl, .cons (.v (.bool _)) .nil, .nil, by simp, by simp, Nat.le_refl _, fun _ _ _ => rfl, fun _ h => h, fun _ h => .inl h, hz⟩
/-- A piece of code, by what it comes to. -/
theorem run_mid {Q : PPost} {k : List Fr} {pc : PC} {T : Tm} (T2 : Tm) (h : ∀ Q k, Run C Q k T2 → Run C Q (.c pc :: k) T) (r : Run C Q k T2) : Run C Q (.c pc :: k) T := h Q k r

/-- The equality of rows of a known length, by the kinds written out. -/
theorem eqF2 {T : Tm} (x y : Row 2) : eqP T (.s [.s, .s]) (.v (rowV x)) (.v (rowV y)) = some (decide (x = y)) := eqP_row x y
theorem eqF3 {T : Tm} (x y : Row 3) : eqP T (.s [.s, .s, .s]) (.v (rowV x)) (.v (rowV y)) = some (decide (x = y)) := eqP_row x y
theorem eqF6 {T : Tm} (x y : Row 6) : eqP T (.s [.s, .s, .s, .s, .s, .s]) (.v (rowV x)) (.v (rowV y)) = some (decide (x = y)) := eqP_row x y

/-- The one function without a body. -/
theorem snd_cmp {g : FuncId} (hP : ∀ R f args H v H', cmpPr g f args H v H' → Pr R f args H v H') (a b : ByteArray) :
    SndP P Fn Pr g ([.str a, .str b].map .v) [.v (.int .i64 (Lib.compareBytes a.data.toList b.data.toList))] ([.str a, .str b].map .v) := by
  refine ⟨rfl, fun H Z as_ f hz hov hnd hfz => ?_⟩
  cases hov with | cons h1 r => cases r with | cons h2 r => cases r with | nil =>
  cases h1 with | v h1 => cases h2 with | v h2 =>
  cases h1; cases h2
  exact ⟨_, H, Z, [_], [], [], fun R hR => hR.1 _ _ _ _ _ (hP _ _ _ _ _ _ ⟨rfl, a, b, rfl, rfl, rfl⟩), rfl, .cons (.v (.int _ _)) .nil, .cons (.v (.str _)) (.cons (.v (.str _)) .nil), by simp, by simp, Nat.le_refl _, fun _ _ _ => rfl, fun _ h => h, fun _ h => .inl h, hz⟩

/-- slices.Clone. -/
def pcClone (e k : Nat) (ag : Bool) (z : RV) (by_ : Nat) : PC :=
 (.seq
  (.ops [
   ⟨none, (some 2), .as false (.c (.sl e [])), [], []⟩] [] [0] false)
  (.seq
   (.seq
    (.ops [
     ⟨none, (some 3), .mv (.t 0), [], []⟩,
     ⟨none, (some 4), .eqF false .l (.t 3) (.c (.sl e [])), [], []⟩] [] [0, 4] false)
    (.cond (.t 4)
     (.seq
      (.ops [
       ⟨none, (some 2), .as false (.c (.sl e [])), [], []⟩] [] [2] false)
      .ret)
     .skip))
   (.seq
    (.ops [
     ⟨none, (some 5), .bsl e k ag z 0 [], [], []⟩,
     ⟨none, (some 6), .mv (.t 0), [], []⟩,
     ⟨none, (some 7), .app e by_ (.t 5) (.t 6), [], []⟩,
     ⟨none, (some 2), .as false (.t 7), [], []⟩] [] [2] false)
    .ret)))
def rsClone : List PR := [.t 2]

theorem snd_clone {f : FuncId} {e k by_ : Nat} {ag : Bool} {z : RV} (hF : Fn f = true) (hchk : chkF P f 8 (pcClone e k ag z by_) rsClone = true) (l : List RV) (hl : l.length * by_ ≤ 140737488355328) (hl2 : l.length ≤ 9223372036854775807) :
    SndP P Fn Pr f ([.sl e l].map .v) [.sl e l] ([.sl e l].map .v) := by
  refine snd_of hF hchk (by simp) ?_ rfl
  rw [enter_plain _ _ (by simp)]
  simp only [pcClone, plainL]
  refine run_of ?_
  have last : ∀ u, Run (SndP P Fn Pr) (retP 8 ([.sl e l].map .v) rsClone fun r o => r = [.sl e l] ∧ o = [.sl e l].map .v) [.c (.seq (.ops [⟨none, (some 5), .bsl e k ag z 0 [], [], []⟩, ⟨none, (some 6), .mv (.t 0), [], []⟩, ⟨none, (some 7), .app e by_ (.t 5) (.t 6), [], []⟩, ⟨none, (some 2), .as false (.t 7), [], []⟩] [] [2] false) .ret)] (E [(0, .v (.sl e l)), (4, .v (.bool u))]) := by
    intro u
    repeat (first | refine run_seq ?_ | refine run_block ?_ | refine run_b ?_ | refine run_skip ?_ | refine run_ops (by simp [hl, hl2]; rfl) rfl rfl (by simp; rfl) ?_)
    refine run_ret ⟨.inr rfl, ?_⟩
    simp [rsClone]
  match l, last with
  | x :: l, last =>
    repeat (first | refine run_seq ?_ | refine run_block ?_ | refine run_b ?_ | refine run_skip ?_ | refine run_ops (by simp; rfl) rfl rfl (by simp; rfl) ?_)
    refine run_cond (t := false) (by simp) (fun ht => (by cases ht)) (fun _ => ?_)
    refine run_skip ?_
    exact last _
  | [], last =>
    repeat (first | refine run_seq ?_ | refine run_block ?_ | refine run_b ?_ | refine run_skip ?_ | refine run_ops (by simp; rfl) rfl rfl (by simp; rfl) ?_)
    refine run_may (T1 := E [(3, .v (.sl e [])), (0, .v (.sl e []))]) (T2 := fun b => E [(0, .v (.sl e [])), (4, .v (.bool b))]) (by simp) (by simp) rfl (fun b => by simp) fun b => ?_
    refine run_cond (t := b) (by simp) (fun hb => ?_) (fun hb => ?_)
    · refine run_seq (run_ops (by simp; rfl) rfl rfl (by simp; rfl) (run_ret ⟨.inr rfl, ?_⟩))
      simp [rsClone]
    · exact run_skip (last b)
end Go.PM

/-
  PM: more rules.
-/
namespace Go.PM
open Go Go.AH
variable {P : Program} {Fn : FuncId → Bool} {Pr : CallR → CallR} {C : CR}

/-- The usual call; ahead of it some owned things are made values. -/
theorem runO_callZ {Q : PPost} {k : List Fr} (fz : List (Nat × List Sel)) {og : Option (Nat × Bool)} {f : FuncId} {args : List (Bool × Opd)} {d : Option Nat} {nj fl fin live : List Nat} {l : List PO} {xs : List RV} {res : List TV} {T T0 T1 T2 : Tm} (hg : wantP T og = some true) (hs : (still T nj && stillF T fl) = true) (hz : frz fz T = some T0) (hC : C f (xs.map .v) res (xs.map .v)) (ha : argsP T0 args = some (xs.map .v)) (hp : (args.all fun x => !x.1) = true)
    (hl : res.all TV.lone = true ∨ seen T0 args = []) (hd : T0.putO d (resT res) = T1) (h : runP (cutL l) (some T1) = some T2) (r : RunO C Q k (cutR l) fin live T2) : RunO C Q k (⟨og, d, .call (.c (.fn f [] [])) args, nj, fl⟩ :: l) fin live T := by
  have hlen : (xs.map TV.v).length = args.length := argsP_length ha
  obtain ⟨h1, h2, h3⟩ := back_pure (T0 := T0) (T := T0) hp hlen
  unfold RunO
  simp only [opsP, hg, stepP]
  refine ⟨hs, fz, T0, f, [], [], xs.map .v, res, xs.map .v, T0, hz, rfl, ha, by simpa using hC, rfl, by rw [h3]; rfl, by rw [h3]; rfl, ?_, by rw [h3]; exact h1, ?_⟩
  · rcases hl with h | h
    · exact .inl ⟨h, h2⟩
    · exact .inr (by rw [h]; rfl)
  · show opsP C l (Tm.putO _ d (resT res)) _
    rw [hd]
    exact opsP_run h r
attribute [simp] frz
end Go.PM

/-
  Plain: strict orders, lists that rise, sets as rising lists. No program stands here.
-/
namespace Go.PM
open Go Go.AH

/-- A strict order in which all stand to each other. -/
structure SLO {α : Type} (lt : α → α → Bool) : Prop where
  irr : ∀ x, lt x x = false
  tr : ∀ x y z, lt x y = true → lt y z = true → lt x z = true
  tri : ∀ x y, lt x y = false → lt y x = false → x = y

section
variable {α : Type} {lt : α → α → Bool}
theorem SLO.asym (h : SLO lt) {x y : α} (k : lt x y = true) : lt y x = false := by
  cases e : lt y x with
  | false => rfl
  | true => have := h.tr _ _ _ k e; rw [h.irr] at this; cases this
theorem SLO.ne (h : SLO lt) {x y : α} (k : lt x y = true) : x ≠ y := fun e => by subst e; rw [h.irr] at k; cases k
theorem SLO.cases (h : SLO lt) (x y : α) : lt x y = true ∨ x = y ∨ lt y x = true := by
  cases e : lt x y with
  | true => exact .inl rfl
  | false =>
    cases e2 : lt y x with
    | true => exact .inr (.inr rfl)
    | false => exact .inr (.inl (h.tri _ _ e e2))

/-- A list that rises. -/
def Asc (lt : α → α → Bool) (l : List α) : Prop := l.Pairwise fun a b => lt a b = true

theorem Asc.nil : Asc lt [] := List.Pairwise.nil
theorem Asc.tail {x : α} {l : List α} (h : Asc lt (x :: l)) : Asc lt l := (List.pairwise_cons.1 h).2
theorem Asc.head {x : α} {l : List α} (h : Asc lt (x :: l)) : ∀ y ∈ l, lt x y = true := (List.pairwise_cons.1 h).1
theorem Asc.filter (p : α → Bool) {l : List α} (h : Asc lt l) : Asc lt (l.filter p) := List.Pairwise.filter _ h
theorem Asc.nodup (o : SLO lt) {l : List α} (h : Asc lt l) : l.Nodup := List.Pairwise.imp (fun k => o.ne k) h
theorem Asc.map {β : Type} {lt' : β → β → Bool} (f : α → β) {l : List α} (h : Asc lt l) (hm : ∀ x ∈ l, ∀ y ∈ l, lt x y = true → lt' (f x) (f y) = true) : Asc lt' (l.map f) := by
  unfold Asc
  rw [List.pairwise_map]
  exact List.Pairwise.imp_of_mem (fun ha hb k => hm _ ha _ hb k) h
theorem Asc.append {l m : List α} (hl : Asc lt l) (hm : Asc lt m) (h : ∀ x ∈ l, ∀ y ∈ m, lt x y = true) : Asc lt (l ++ m) := List.pairwise_append.2 ⟨hl, hm, h⟩
theorem Asc.left {l m : List α} (h : Asc lt (l ++ m)) : Asc lt l := (List.pairwise_append.1 h).1
theorem Asc.right {l m : List α} (h : Asc lt (l ++ m)) : Asc lt m := (List.pairwise_append.1 h).2.1
theorem Asc.cross {l m : List α} (h : Asc lt (l ++ m)) : ∀ x ∈ l, ∀ y ∈ m, lt x y = true := (List.pairwise_append.1 h).2.2
theorem Asc.get {l : List α} (h : Asc lt l) {i j : Nat} (hij : i < j) (hj : j < l.length) : lt (l[i]'(by omega)) l[j] = true := List.pairwise_iff_getElem.1 h i j (by omega) hj hij

theorem Asc.ext (o : SLO lt) : ∀ {l m : List α}, Asc lt l → Asc lt m → (∀ x, x ∈ l ↔ x ∈ m) → l = m
  | [], [], _, _, _ => rfl
  | [], y :: m, _, _, h => by have := (h y).2 (by simp); simp at this
  | x :: l, [], _, _, h => by have := (h x).1 (by simp); simp at this
  | x :: l, y :: m, hl, hm, h => by
    have exy : x = y := by
      rcases List.mem_cons.1 ((h x).1 (by simp)) with e | e
      · exact e
      · rcases List.mem_cons.1 ((h y).2 (by simp)) with e2 | e2
        · exact e2.symm
        · have := o.asym (hl.head _ e2)
          rw [hm.head _ e] at this; cases this
    subst exy
    congr 1
    refine Asc.ext o hl.tail hm.tail fun z => ?_
    have hz := h z
    simp only [List.mem_cons] at hz
    constructor
    · intro k
      rcases hz.1 (.inr k) with e | e
      · exact absurd e.symm (o.ne (hl.head _ k))
      · exact e
    · intro k
      rcases hz.2 (.inr k) with e | e
      · exact absurd e.symm (o.ne (hm.head _ k))
      · exact e

/-- One more in a set. -/
def insS (lt : α → α → Bool) (x : α) : List α → List α
  | [] => [x]
  | y :: l => if lt x y then x :: y :: l else if lt y x then y :: insS lt x l else y :: l
/-- The set of a list. -/
def setS (lt : α → α → Bool) : List α → List α
  | [] => []
  | x :: l => insS lt x (setS lt l)

theorem mem_insS (o : SLO lt) {x z : α} : ∀ {l : List α}, z ∈ insS lt x l ↔ z = x ∨ z ∈ l
  | [] => by simp [insS]
  | y :: l => by
    simp only [insS]
    split
    · simp
    · rename_i h1
      split
      · simp only [List.mem_cons, mem_insS o (l := l)]
        constructor
        · rintro (h | h | h) <;> simp [h]
        · rintro (h | h | h) <;> simp [h]
      · rename_i h2
        have e : x = y := o.tri _ _ (by simpa using h1) (by simpa using h2)
        subst e
        simp
theorem asc_insS (o : SLO lt) {x : α} : ∀ {l : List α}, Asc lt l → Asc lt (insS lt x l)
  | [], _ => by simp [insS, Asc]
  | y :: l, h => by
    simp only [insS]
    split
    · rename_i h1
      refine List.pairwise_cons.2 ⟨fun z hz => ?_, h⟩
      rcases List.mem_cons.1 hz with e | e
      · subst e; exact h1
      · exact o.tr _ _ _ h1 (h.head _ e)
    · split
      · rename_i h2
        refine List.pairwise_cons.2 ⟨fun z hz => ?_, asc_insS o h.tail⟩
        rcases (mem_insS o).1 hz with e | e
        · subst e; exact h2
        · exact h.head _ e
      · exact h
theorem mem_setS (o : SLO lt) {z : α} : ∀ {l : List α}, z ∈ setS lt l ↔ z ∈ l
  | [] => by simp [setS]
  | x :: l => by simp only [setS, mem_insS o, mem_setS o (l := l), List.mem_cons]
theorem asc_setS (o : SLO lt) : ∀ {l : List α}, Asc lt (setS lt l)
  | [] => Asc.nil
  | x :: l => by simp only [setS]; exact asc_insS o (asc_setS o)
/-- What a list that rises with the same elements is. -/
theorem setS_eq (o : SLO lt) {l m : List α} (hm : Asc lt m) (h : ∀ x, x ∈ m ↔ x ∈ l) : m = setS lt l :=
  Asc.ext o hm (asc_setS o) fun x => by rw [h, mem_setS o]
theorem setS_self (o : SLO lt) {l : List α} (h : Asc lt l) : setS lt l = l := (setS_eq o h fun _ => Iff.rfl).symm
theorem setS_congr (o : SLO lt) {l m : List α} (h : ∀ x, x ∈ l ↔ x ∈ m) : setS lt l = setS lt m :=
  setS_eq o (asc_setS o) fun x => by rw [mem_setS o, h]
theorem length_insS {x : α} : ∀ {l : List α}, (insS lt x l).length ≤ l.length + 1
  | [] => by simp [insS]
  | y :: l => by
    simp only [insS]
    split
    · simp
    · split
      · have := length_insS (x := x) (l := l); simp; omega
      · simp
theorem length_setS : ∀ {l : List α}, (setS lt l).length ≤ l.length
  | [] => by simp [setS]
  | x :: l => by
    have := length_insS (lt := lt) (x := x) (l := setS lt l)
    have := length_setS (l := l)
    simp only [setS, List.length_cons]
    omega

/-- A list that does not fall. -/
def Weak (lt : α → α → Bool) (l : List α) : Prop := l.Pairwise fun a b => lt b a = false

theorem dd_asc [DecidableEq α] (o : SLO lt) : ∀ {l acc : List α}, Weak lt l → Asc lt acc → (∀ x ∈ acc, ∀ y ∈ l, lt y x = false) → Asc lt (dd acc l) ∧ ∀ z, z ∈ dd acc l ↔ z ∈ acc ∨ z ∈ l
  | [], acc, _, ha, _ => ⟨ha, fun z => by simp [dd]⟩
  | x :: l, acc, hw, ha, hx => by
    simp only [dd]
    have hw' := List.pairwise_cons.1 hw
    by_cases h : acc.getLast? = some x
    · rw [if_pos h]
      obtain ⟨h1, h2⟩ := dd_asc o hw'.2 ha fun u hu y hy => hx u hu y (by simp [hy])
      refine ⟨h1, fun z => ?_⟩
      rw [h2, List.mem_cons]
      have : x ∈ acc := List.mem_of_getLast? h
      constructor
      · rintro (k | k)
        · exact .inl k
        · exact .inr (.inr k)
      · rintro (k | k | k)
        · exact .inl k
        · subst k; exact .inl this
        · exact .inr k
    · rw [if_neg h]
      have hlt : ∀ u ∈ acc, lt u x = true := fun u hu => by
        have h0 := hx u hu x (by simp)
        rcases o.cases u x with k | k | k
        · exact k
        · subst k
          exfalso
          apply h
          -- u is in acc and nothing of acc is above it
          obtain ⟨y, hy⟩ : ∃ y, acc.getLast? = some y := by
            cases e : acc.getLast? with
            | none => rw [List.getLast?_eq_none_iff] at e; subst e; simp at hu
            | some y => exact ⟨y, rfl⟩
          rw [hy]
          congr 1
          obtain ⟨acc', rfl⟩ : ∃ l', acc = l' ++ [y] := by
            refine ⟨acc.dropLast, ?_⟩
            have hne : acc ≠ [] := fun e => by subst e; simp at hu
            rw [List.getLast?_eq_some_getLast hne] at hy
            rw [← Option.some.inj hy]
            exact (List.dropLast_concat_getLast hne).symm
          rcases List.mem_append.1 hu with k | k
          · have h3 := Asc.cross ha u k y (by simp)
            have h4 := hx y (by simp) u (by simp)
            rw [h3] at h4; cases h4
          · simp at k; exact k.symm
        · rw [k] at h0; cases h0
      obtain ⟨h1, h2⟩ := dd_asc o (l := l) (acc := acc ++ [x]) hw'.2 (ha.append (by simp [Asc]) fun u hu y hy => by simp at hy; subst hy; exact hlt u hu) fun u hu y hy => by
        rcases List.mem_append.1 hu with k | k
        · exact hx u k y (by simp [hy])
        · simp at k; subst k; exact hw'.1 y hy
      refine ⟨h1, fun z => ?_⟩
      rw [h2, List.mem_append, List.mem_singleton, List.mem_cons, or_assoc]
/-- Sorted, and then each once. -/
theorem dd_sorted [DecidableEq α] (o : SLO lt) {l m : List α} (hw : Weak lt m) (hp : ∀ x, x ∈ m ↔ x ∈ l) : dd [] m = setS lt l := by
  obtain ⟨h1, h2⟩ := dd_asc o hw (Asc.nil (lt := lt)) (by simp)
  exact setS_eq o h1 fun x => by rw [h2, ← hp]; simp
theorem weak_mergeSort (o : SLO lt) {le : α → α → Bool} (hle : ∀ x y, le x y = !lt y x) (l : List α) : Weak lt (l.mergeSort le) := by
  have h := List.pairwise_mergeSort (le := le) (fun a b c h1 h2 => by
    rw [hle] at *
    simp only [Bool.not_eq_true'] at *
    cases e : lt c a with
    | false => rfl
    | true =>
      rcases o.cases b c with k | k | k
      · have := o.tr _ _ _ k e; rw [this] at h1; cases h1
      · subst k; rw [e] at h1; cases h1
      · rw [k] at h2; cases h2) (fun a b => by
    rw [hle, hle]
    cases e : lt b a with
    | false => simp
    | true => simp [o.asym e]) l
  exact List.Pairwise.imp (fun {a b} k => by rw [hle] at k; simpa using k) h
theorem dd_mergeSort [DecidableEq α] (o : SLO lt) {le : α → α → Bool} (hle : ∀ x y, le x y = !lt y x) (l : List α) : dd [] (l.mergeSort le) = setS lt l :=
  dd_sorted o (weak_mergeSort o hle l) fun x => (List.mergeSort_perm l le).mem_iff

/-- Two rising lists as one. -/
def mergeS (lt : α → α → Bool) : List α → List α → List α
  | [], b => b
  | x :: a, [] => x :: a
  | x :: a, y :: b => if lt x y then x :: mergeS lt a (y :: b) else if lt y x then y :: mergeS lt (x :: a) b else mergeS lt a (y :: b)
  termination_by a b => a.length + b.length
theorem mergeS_spec (o : SLO lt) : ∀ {a b : List α}, Asc lt a → Asc lt b → Asc lt (mergeS lt a b) ∧ ∀ z, z ∈ mergeS lt a b ↔ z ∈ a ∨ z ∈ b
  | [], b, _, hb => by simp only [mergeS]; exact ⟨hb, fun z => by simp⟩
  | x :: a, [], ha, _ => by simp only [mergeS]; exact ⟨ha, fun z => by simp⟩
  | x :: a, y :: b, ha, hb => by
    unfold mergeS
    split
    · rename_i h
      obtain ⟨i1, i2⟩ := mergeS_spec o ha.tail hb
      refine ⟨List.pairwise_cons.2 ⟨fun z hz => ?_, i1⟩, fun z => ?_⟩
      · rcases (i2 z).1 hz with k | k
        · exact ha.head _ k
        · rcases List.mem_cons.1 k with k | k
          · subst k; exact h
          · exact o.tr _ _ _ h (hb.head _ k)
      · rw [List.mem_cons, i2, List.mem_cons (a := z) (b := x), or_assoc]
    · split
      · rename_i h
        obtain ⟨i1, i2⟩ := mergeS_spec o ha hb.tail
        refine ⟨List.pairwise_cons.2 ⟨fun z hz => ?_, i1⟩, fun z => ?_⟩
        · rcases (i2 z).1 hz with k | k
          · rcases List.mem_cons.1 k with k | k
            · subst k; exact h
            · exact o.tr _ _ _ h (ha.head _ k)
          · exact hb.head _ k
        · rw [List.mem_cons, i2, List.mem_cons, List.mem_cons]
          constructor
          · rintro (k | (k | k) | k)
            · exact .inr (.inl k)
            · exact .inl (.inl k)
            · exact .inl (.inr k)
            · exact .inr (.inr k)
          · rintro ((k | k) | k | k)
            · exact .inr (.inl (.inl k))
            · exact .inr (.inl (.inr k))
            · exact .inl k
            · exact .inr (.inr k)
      · rename_i h1 h2
        have e : x = y := o.tri _ _ (by simpa using h1) (by simpa using h2)
        subst e
        obtain ⟨i1, i2⟩ := mergeS_spec o ha.tail hb
        refine ⟨i1, fun z => ?_⟩
        rw [i2, List.mem_cons, List.mem_cons]
        constructor
        · rintro (k | k)
          · exact .inl (.inr k)
          · exact .inr k
        · rintro ((k | k) | k)
          · exact .inr (.inl k)
          · exact .inl k
          · exact .inr k
  termination_by a b => a.length + b.length
theorem mergeS_nil {a : List α} : mergeS lt a [] = a := by
  cases a <;> simp [mergeS]
theorem mergeS_left {x y : α} {a b : List α} (h : lt x y = true) : mergeS lt (x :: a) (y :: b) = x :: mergeS lt a (y :: b) := by
  rw [mergeS, if_pos h]
theorem mergeS_right {x y : α} {a b : List α} (h0 : lt x y = false) (h : lt y x = true) : mergeS lt (x :: a) (y :: b) = y :: mergeS lt (x :: a) b := by
  rw [mergeS, if_neg (by simp [h0]), if_pos h]
theorem mergeS_both {x y : α} {a b : List α} (h0 : lt x y = false) (h : lt y x = false) : mergeS lt (x :: a) (y :: b) = mergeS lt a (y :: b) := by
  rw [mergeS, if_neg (by simp [h0]), if_neg (by simp [h])]
/-- The steps of a merge, by places. -/
theorem mergeS_lt {a b : List α} {i k : Nat} (hi : i < a.length) (hk : k < b.length) (h : lt a[i] b[k] = true) : mergeS lt (a.drop i) (b.drop k) = a[i] :: mergeS lt (a.drop (i + 1)) (b.drop k) := by
  rw [List.drop_eq_getElem_cons hi, List.drop_eq_getElem_cons hk, mergeS_left h]
theorem mergeS_gt {a b : List α} {i k : Nat} (hi : i < a.length) (hk : k < b.length) (h0 : lt a[i] b[k] = false) (h : lt b[k] a[i] = true) : mergeS lt (a.drop i) (b.drop k) = b[k] :: mergeS lt (a.drop i) (b.drop (k + 1)) := by
  rw [List.drop_eq_getElem_cons hi, List.drop_eq_getElem_cons hk, mergeS_right h0 h]
theorem mergeS_eq {a b : List α} {i k : Nat} (hi : i < a.length) (hk : k < b.length) (h0 : lt a[i] b[k] = false) (h : lt b[k] a[i] = false) : mergeS lt (a.drop i) (b.drop k) = mergeS lt (a.drop (i + 1)) (b.drop k) := by
  rw [List.drop_eq_getElem_cons hi, List.drop_eq_getElem_cons hk, mergeS_both h0 h]
theorem mergeS_endB {a b : List α} {i k : Nat} (hi : i < a.length) (hk : b.length ≤ k) : mergeS lt (a.drop i) (b.drop k) = a[i] :: mergeS lt (a.drop (i + 1)) (b.drop k) := by
  rw [List.drop_of_length_le hk, mergeS_nil, mergeS_nil, List.drop_eq_getElem_cons hi]
theorem mergeS_endA {a b : List α} {i k : Nat} (hi : a.length ≤ i) (hk : k < b.length) : mergeS lt (a.drop i) (b.drop k) = b[k] :: mergeS lt (a.drop i) (b.drop (k + 1)) := by
  rw [List.drop_of_length_le hi, List.drop_eq_getElem_cons hk]
  simp only [mergeS]
theorem mergeS_end {a b : List α} {i k : Nat} (hi : a.length ≤ i) (hk : b.length ≤ k) : mergeS lt (a.drop i) (b.drop k) = [] := by
  rw [List.drop_of_length_le hi, List.drop_of_length_le hk, mergeS_nil]
theorem mergeS_set (o : SLO lt) {a b : List α} : mergeS lt (setS lt a) (setS lt b) = setS lt (a ++ b) := by
  obtain ⟨h1, h2⟩ := mergeS_spec o (asc_setS o (l := a)) (asc_setS o (l := b))
  exact setS_eq o h1 fun x => by rw [h2, mem_setS o, mem_setS o, List.mem_append]
end

/-- Is something in a list? -/
def hasB {α : Type} [DecidableEq α] (l : List α) (t : α) : Bool := l.any fun x => decide (x = t)
theorem hasB_iff {α : Type} [DecidableEq α] {l : List α} {t : α} : hasB l t = true ↔ t ∈ l := by
  simp only [hasB, List.any_eq_true, decide_eq_true_eq]
  exact ⟨fun ⟨x, h, e⟩ => e ▸ h, fun h => ⟨t, h, rfl⟩⟩

/-! ### Texts -/
/-- The order of texts. -/
def bl (a b : ByteArray) : Bool := Op.bytesLess a.data.toList b.data.toList

@[simp] theorem bl_fold (a b : ByteArray) : Op.bytesLess a.data.toList b.data.toList = bl a b := rfl
theorem u8_lt_iff {a b : UInt8} : (decide (a < b) = true) ↔ a.toNat < b.toNat := by rw [decide_eq_true_iff]; exact UInt8.lt_iff_toNat_lt
theorem bytesLess_slo : SLO Op.bytesLess where
  irr := by
    intro l
    induction l with
    | nil => rfl
    | cons a l ih => simp [Op.bytesLess, ih]
  tr := by
    intro x
    induction x with
    | nil =>
      intro y z h1 h2
      cases z with
      | nil => cases y <;> simp [Op.bytesLess] at h2
      | cons c z => rfl
    | cons a x ih =>
      intro y z h1 h2
      cases y with
      | nil => simp [Op.bytesLess] at h1
      | cons b y =>
        cases z with
        | nil => simp [Op.bytesLess] at h2
        | cons c z =>
          simp only [Op.bytesLess, Bool.or_eq_true, Bool.and_eq_true, beq_iff_eq, u8_lt_iff] at *
          rcases h1 with h1 | ⟨rfl, h1⟩
          · rcases h2 with h2 | ⟨rfl, h2⟩
            · exact .inl (by omega)
            · exact .inl h1
          · rcases h2 with h2 | ⟨rfl, h2⟩
            · exact .inl h2
            · exact .inr ⟨rfl, ih _ _ h1 h2⟩
  tri := by
    intro x
    induction x with
    | nil =>
      intro y h1 h2
      cases y with
      | nil => rfl
      | cons b y => simp [Op.bytesLess] at h1
    | cons a x ih =>
      intro y h1 h2
      cases y with
      | nil => simp [Op.bytesLess] at h2
      | cons b y =>
        simp only [Op.bytesLess, Bool.or_eq_false_iff, Bool.and_eq_false_iff] at h1 h2
        have n1 : ¬ a.toNat < b.toNat := fun k => by have := u8_lt_iff.2 k; rw [h1.1] at this; cases this
        have n2 : ¬ b.toNat < a.toNat := fun k => by have := u8_lt_iff.2 k; rw [h2.1] at this; cases this
        have e : a = b := UInt8.toNat_inj.1 (by omega)
        subst e
        congr 1
        exact ih _ (h1.2.resolve_left (by simp)) (h2.2.resolve_left (by simp))
theorem ba_ext {a b : ByteArray} (h : a.data.toList = b.data.toList) : a = b := by
  cases a with | mk a => cases b with | mk b =>
  simp at h
  rw [h]
theorem bl_slo : SLO bl where
  irr x := bytesLess_slo.irr _
  tr x y z := bytesLess_slo.tr _ _ _
  tri x y h1 h2 := ba_ext (bytesLess_slo.tri _ _ h1 h2)

/-- How two texts stand to each other. -/
def cb (a b : ByteArray) : Int := Lib.compareBytes a.data.toList b.data.toList
theorem cmpBytes_eq : ∀ (x y : List UInt8), Lib.compareBytes x y = if Op.bytesLess x y then -1 else if Op.bytesLess y x then 1 else 0
  | [], [] => rfl
  | [], _ :: _ => rfl
  | _ :: _, [] => rfl
  | a :: x, b :: y => by
    simp only [Lib.compareBytes, Op.bytesLess]
    by_cases h1 : a < b
    · simp [h1]
    · by_cases h2 : b < a
      · have : (a == b) = false := by simpa using (fun e : a = b => by subst e; exact h1 h2)
        simp [h1, h2, this]
      · have n1 : ¬ a.toNat < b.toNat := fun k => h1 (UInt8.lt_iff_toNat_lt.2 k)
        have n2 : ¬ b.toNat < a.toNat := fun k => h2 (UInt8.lt_iff_toNat_lt.2 k)
        have e : a = b := UInt8.toNat_inj.1 (by omega)
        subst e
        simp only [h1, if_false, decide_false, Bool.false_or, BEq.rfl, Bool.true_and]
        exact cmpBytes_eq x y
theorem cb_eq (a b : ByteArray) : cb a b = if bl a b then -1 else if bl b a then 1 else 0 := cmpBytes_eq _ _
theorem cb_zero {a b : ByteArray} : cb a b = 0 ↔ a = b := by
  rw [cb_eq]
  constructor
  · intro h
    split at h
    · cases h
    · split at h
      · cases h
      · rename_i h1 h2
        exact bl_slo.tri _ _ (by simpa using h1) (by simpa using h2)
  · rintro rfl
    simp [bl_slo.irr]
theorem cb_neg {a b : ByteArray} : cb a b < 0 ↔ bl a b = true := by
  rw [cb_eq]
  split
  · simp_all
  · split <;> simp_all

/-! ### Rows of texts -/
/-- The order of rows. -/
def ll : List ByteArray → List ByteArray → Bool
  | _, [] => false
  | [], _ :: _ => true
  | a :: x, b :: y => bl a b || (decide (a = b) && ll x y)
theorem ll_slo : SLO ll where
  irr := by
    intro l
    induction l with
    | nil => rfl
    | cons a l ih => simp [ll, ih, bl_slo.irr]
  tr := by
    intro x
    induction x with
    | nil =>
      intro y z h1 h2
      cases z with
      | nil => cases y <;> simp [ll] at h2
      | cons c z => rfl
    | cons a x ih =>
      intro y z h1 h2
      cases y with
      | nil => simp [ll] at h1
      | cons b y =>
        cases z with
        | nil => simp [ll] at h2
        | cons c z =>
          simp only [ll, Bool.or_eq_true, Bool.and_eq_true, decide_eq_true_eq] at *
          rcases h1 with h1 | ⟨rfl, h1⟩
          · rcases h2 with h2 | ⟨rfl, h2⟩
            · exact .inl (bl_slo.tr _ _ _ h1 h2)
            · exact .inl h1
          · rcases h2 with h2 | ⟨rfl, h2⟩
            · exact .inl h2
            · exact .inr ⟨rfl, ih _ _ h1 h2⟩
  tri := by
    intro x
    induction x with
    | nil =>
      intro y h1 h2
      cases y with
      | nil => rfl
      | cons b y => simp [ll] at h1
    | cons a x ih =>
      intro y h1 h2
      cases y with
      | nil => simp [ll] at h2
      | cons b y =>
        simp only [ll, Bool.or_eq_false_iff, Bool.and_eq_false_iff] at h1 h2
        have e : a = b := bl_slo.tri _ _ h1.1 h2.1
        subst e
        congr 1
        exact ih _ (h1.2.resolve_left (by simp)) (h2.2.resolve_left (by simp))
/-- The order of rows of k texts. -/
def rl {k : Nat} (x y : Row k) : Bool := ll x.1 y.1
theorem rl_slo {k : Nat} : SLO (rl (k := k)) where
  irr x := ll_slo.irr _
  tr x y z := ll_slo.tr _ _ _
  tri x y h1 h2 := Subtype.ext (ll_slo.tri _ _ h1 h2)
/-- The first that is not zero. -/
def orI : List Int → Int
  | [] => 0
  | x :: l => if x = 0 then orI l else x
def cl : List ByteArray → List ByteArray → List Int
  | a :: x, b :: y => cb a b :: cl x y
  | _, _ => []
theorem orI_cl : ∀ {x y : List ByteArray}, x.length = y.length → orI (cl x y) = if ll x y then -1 else if ll y x then 1 else 0
  | [], [], _ => rfl
  | a :: x, b :: y, h => by
    simp only [cl, orI, ll, orI_cl (x := x) (y := y) (by simpa using h)]
    by_cases e : a = b
    · subst e
      simp [cb_zero.2 rfl, bl_slo.irr]
    · have e' : ¬ b = a := fun k => e k.symm
      rw [if_neg (fun k => e (cb_zero.1 k)), cb_eq]
      simp [e, e']
  | [], _ :: _, h => by simp at h
  | _ :: _, [], h => by simp at h
/-- How two rows stand to each other. -/
def cr {k : Nat} (x y : Row k) : Int := orI (cl x.1 y.1)
theorem cr_eq {k : Nat} (x y : Row k) : cr x y = if rl x y then -1 else if rl y x then 1 else 0 := orI_cl (by rw [x.2, y.2])
theorem cr_neg {k : Nat} {x y : Row k} : cr x y < 0 ↔ rl x y = true := by
  rw [cr_eq]
  split
  · simp_all
  · split <;> simp_all
end Go.PM

/-
  Plain: tuples as rows of six texts; parts of them.
-/
namespace Go.PM
open Go Go.AH

def objR (x : Row 6) : Row 2 := ⟨x.1.take 2, by simp [x.2]⟩
def refR (x : Row 6) : Row 3 := ⟨x.1.take 3, by simp [x.2]⟩
def relR (x : Row 6) : ByteArray := x.1[2]'(by simp [x.2])
def subR (x : Row 6) : Row 3 := ⟨x.1.drop 3, by simp [x.2]⟩
def otyR (x : Row 6) : ByteArray := x.1[0]'(by simp [x.2])
def oidR (x : Row 6) : ByteArray := x.1[1]'(by simp [x.2])
def styR (x : Row 6) : ByteArray := x.1[3]'(by simp [x.2])
def sidR (x : Row 6) : ByteArray := x.1[4]'(by simp [x.2])
def srlR (x : Row 6) : ByteArray := x.1[5]'(by simp [x.2])
/-- A relation of an object. -/
def mkRef (o : Row 2) (r : ByteArray) : Row 3 := ⟨o.1 ++ [r], by simp [o.2]⟩
def mkTup (r : Row 3) (s : Row 3) : Row 6 := ⟨r.1 ++ s.1, by simp [r.2, s.2]⟩
def e0 : ByteArray := ⟨#[]⟩
/-- The first tuple of a relation, or what stands ahead of it. -/
def mkLow (o : Row 2) (r : ByteArray) : Row 6 := mkTup (mkRef o r) ⟨[e0, e0, e0], rfl⟩

theorem refR_eq {x : Row 6} {o : Row 2} {r : ByteArray} : refR x = mkRef o r ↔ objR x = o ∧ relR x = r := by
  obtain ⟨a1, a2, a3, a4, a5, a6, rfl⟩ := row6 x
  obtain ⟨b1, b2, rfl⟩ := row2 o
  simp [refR, mkRef, objR, relR, and_assoc]
theorem bl_e0 (x : ByteArray) : bl x e0 = false := by
  simp only [bl, e0]
  cases x.data.toList <;> rfl
theorem ll_nil (l : List ByteArray) : ll l [] = false := by cases l <;> rfl
theorem ll_app : ∀ {a b c d : List ByteArray}, a.length = b.length → ll (a ++ c) (b ++ d) = (ll a b || (decide (a = b) && ll c d))
  | [], [], c, d, _ => by simp [ll]
  | x :: a, y :: b, c, d, h => by
    simp only [List.cons_append, ll, ll_app (a := a) (b := b) (c := c) (d := d) (by simpa using h)]
    by_cases e : x = y
    · subst e; simp [bl_slo.irr]
    · simp [e]
  | [], _ :: _, _, _, h => by simp at h
  | _ :: _, [], _, _, h => by simp at h
theorem rl_parts (x y : Row 6) : rl x y = (rl (refR x) (refR y) || (decide (refR x = refR y) && rl (subR x) (subR y))) := by
  obtain ⟨a1, a2, a3, a4, a5, a6, rfl⟩ := row6 x
  obtain ⟨b1, b2, b3, b4, b5, b6, rfl⟩ := row6 y
  have := ll_app (a := [a1, a2, a3]) (b := [b1, b2, b3]) (c := [a4, a5, a6]) (d := [b4, b5, b6]) rfl
  simpa [rl, refR, subR] using this
theorem rl_low (x : Row 6) (o : Row 2) (r : ByteArray) : rl x (mkLow o r) = rl (refR x) (mkRef o r) := by
  rw [rl_parts]
  have e : refR (mkLow o r) = mkRef o r := by
    obtain ⟨b1, b2, rfl⟩ := row2 o
    rfl
  have e2 : rl (subR x) (subR (mkLow o r)) = false := by
    obtain ⟨b1, b2, rfl⟩ := row2 o
    obtain ⟨a1, a2, a3, a4, a5, a6, rfl⟩ := row6 x
    simp [rl, subR, mkLow, mkTup, mkRef, ll, bl_e0]
  rw [e, e2]
  simp
/-- Of a set: what of a relation stands there, stands behind the place of its first. -/
theorem low_ref {l : List (Row 6)} (h : Asc rl l) (o : Row 2) (r : ByteArray) {t : Row 6} (ht : ∀ x, rl x t = rl (refR x) (mkRef o r)) :
    (l.filter fun x => !rl x t).takeWhile (fun x => decide (refR x = mkRef o r)) = l.filter fun x => decide (refR x = mkRef o r) := by
  have h1 : ∀ m : List (Row 6), Asc rl m → (∀ x ∈ m, rl (refR x) (mkRef o r) = false) → m.takeWhile (fun x => decide (refR x = mkRef o r)) = m.filter fun x => decide (refR x = mkRef o r) := by
    intro m
    induction m with
    | nil => intro _ _; rfl
    | cons x m ih =>
      intro ha hb
      by_cases e : refR x = mkRef o r
      · simp only [List.takeWhile_cons, List.filter_cons, e, decide_true, if_true]
        rw [ih ha.tail fun y hy => hb y (by simp [hy])]
      · have hx : rl (mkRef o r) (refR x) = true := by
          rcases rl_slo.cases (mkRef o r) (refR x) with k | k | k
          · exact k
          · exact absurd k.symm e
          · have := hb x (by simp); rw [this] at k; cases k
        have hn : m.filter (fun x => decide (refR x = mkRef o r)) = [] := List.filter_eq_nil_iff.2 fun y hy => by
          simp only [decide_eq_true_eq]
          intro ey
          have := ha.head y hy
          rw [rl_parts, ey, rl_slo.asym hx] at this
          simp [e] at this
        simp [List.takeWhile_cons, List.filter_cons, e, hn]
  rw [h1 _ (h.filter _) fun x hx => by
    have := (List.mem_filter.1 hx).2
    rw [ht] at this
    simpa using this]
  rw [List.filter_filter]
  congr 1
  funext x
  by_cases e : refR x = mkRef o r
  · simp [e, ht, rl_slo.irr]
  · simp [e]
end Go.PM

/-
  Plain: maps from keys to lists, in the order in which their keys came.
-/
namespace Go.PM
open Go Go.AH

section
variable {κ ν : Type} [DecidableEq κ]
/-- One more value at a key. -/
def addG (k : κ) (v : ν) : List (κ × List ν) → List (κ × List ν)
  | [] => [(k, [v])]
  | p :: G => if p.1 = k then (p.1, p.2 ++ [v]) :: G else p :: addG k v G
/-- The values of a key. -/
def lookG (k : κ) : List (κ × List ν) → List ν
  | [] => []
  | p :: G => if p.1 = k then p.2 else lookG k G
/-- Where a key stands. -/
def idxG (k : κ) : List (κ × List ν) → Nat → Option Nat
  | [], _ => none
  | p :: G, i => if p.1 = k then some i else idxG k G (i + 1)

theorem look_add {k k' : κ} {v : ν} : ∀ {G : List (κ × List ν)}, lookG k (addG k' v G) = if k = k' then lookG k G ++ [v] else lookG k G
  | [] => by
    simp only [addG, lookG]
    by_cases e : k = k'
    · subst e; simp
    · have : ¬ k' = k := fun h => e h.symm
      simp [e, this]
  | p :: G => by
    simp only [addG]
    by_cases h : p.1 = k'
    · rw [if_pos h]
      simp only [lookG]
      by_cases e : k = k'
      · subst e; rw [if_pos h, if_pos rfl, if_pos h]
      · have : ¬ p.1 = k := fun q => e (q ▸ h)
        rw [if_neg this, if_neg e, if_neg this]
    · rw [if_neg h]
      simp only [lookG]
      by_cases q : p.1 = k
      · rw [if_pos q, if_pos q]
        have : ¬ k = k' := fun e => h (q.trans e)
        rw [if_neg this]
      · rw [if_neg q, if_neg q]
        exact look_add
theorem idx_cases {k : κ} : ∀ {G : List (κ × List ν)} {i : Nat}, (idxG k G i = none ∧ lookG k G = [] ∧ ∀ v : ν, addG k v G = G ++ [(k, [v])]) ∨
    ∃ j l, idxG k G i = some (i + j) ∧ G[j]? = some (k, l) ∧ lookG k G = l ∧ ∀ v : ν, addG k v G = G.set j (k, l ++ [v])
  | [], i => .inl ⟨rfl, rfl, fun v => rfl⟩
  | p :: G, i => by
    simp only [idxG, lookG, addG]
    by_cases h : p.1 = k
    · simp only [if_pos h]
      exact .inr ⟨0, p.2, by simp, by simp [← h], rfl, fun v => by simp [← h]⟩
    · simp only [if_neg h]
      rcases idx_cases (k := k) (G := G) (i := i + 1) with ⟨h1, h2, h3⟩ | ⟨j, l, h1, h2, h3, h4⟩
      · exact .inl ⟨h1, h2, fun v => by rw [h3]; rfl⟩
      · exact .inr ⟨j + 1, l, by rw [h1]; congr 1; omega, by simpa using h2, h3, fun v => by rw [h4]; rfl⟩
/-- All of a list, by keys. -/
def grpG {α : Type} (f : α → κ) (g : α → ν) (l : List α) : List (κ × List ν) := l.foldl (fun G t => addG (f t) (g t) G) []
theorem grp_snoc {α : Type} (f : α → κ) (g : α → ν) (l : List α) (x : α) : grpG f g (l ++ [x]) = addG (f x) (g x) (grpG f g l) := by
  simp [grpG, List.foldl_append]
theorem look_grp {α : Type} (f : α → κ) (g : α → ν) (k : κ) (l : List α) : lookG k (grpG f g l) = (l.filter fun x => decide (f x = k)).map g := by
  have key : ∀ (m : List α) (G : List (κ × List ν)), lookG k (m.foldl (fun G t => addG (f t) (g t) G) G) = lookG k G ++ (m.filter fun x => decide (f x = k)).map g := by
    intro m
    induction m with
    | nil => intro G; simp
    | cons x m ih =>
      intro G
      rw [List.foldl_cons, ih, look_add]
      by_cases e : f x = k
      · simp [e]
      · have : ¬ k = f x := fun h => e h.symm
        simp [e, this]
  have := key l []
  simpa [grpG, lookG] using this
/-- No list of the map is longer than so. -/
def shortG (n : Nat) (G : List (κ × List ν)) : Prop := ∀ p ∈ G, p.2.length ≤ n
theorem short_add {k : κ} {v : ν} {n : Nat} : ∀ {G : List (κ × List ν)}, shortG n G → shortG (n + 1) (addG k v G)
  | [], _ => fun p hp => by simp [addG] at hp; subst hp; simp
  | q :: G, h => by
    simp only [addG]
    split
    · intro p hp
      rcases List.mem_cons.1 hp with rfl | hp
      · have := h q (by simp); simp; omega
      · have := h p (by simp [hp]); omega
    · intro p hp
      rcases List.mem_cons.1 hp with rfl | hp
      · have := h p (by simp); omega
      · exact short_add (fun p hp => h p (by simp [hp])) p hp
theorem short_look {k : κ} {n : Nat} : ∀ {G : List (κ × List ν)}, shortG n G → (lookG k G).length ≤ n
  | [], _ => by simp [lookG]
  | q :: G, h => by
    simp only [lookG]
    split
    · exact h q (by simp)
    · exact short_look fun p hp => h p (by simp [hp])
theorem short_mono {n m : Nat} {G : List (κ × List ν)} (h : shortG n G) (k : n ≤ m) : shortG m G := fun p hp => Nat.le_trans (h p hp) k
theorem short_grp {α : Type} (f : α → κ) (g : α → ν) (l : List α) : shortG l.length (grpG f g l) := by
  have key : ∀ (m : List α) (G : List (κ × List ν)) (n : Nat), shortG n G → shortG (n + m.length) (m.foldl (fun G t => addG (f t) (g t) G) G) := by
    intro m
    induction m with
    | nil => intro G n h; exact h
    | cons x m ih =>
      intro G n h
      rw [List.foldl_cons, List.length_cons, show n + (m.length + 1) = n + 1 + m.length by omega]
      exact ih _ _ (short_add h)
  have := key l [] 0 (fun p hp => by simp at hp)
  simpa [grpG] using this
end

theorem keys_set {κ ν : Type} {f : κ → RV} {G : List (κ × List ν)} {j : Nat} {k : κ} {l l' : List ν} (h : G[j]? = some (k, l)) : (G.set j (k, l')).map (fun p => f p.1) = G.map (fun p => f p.1) := by
  rw [List.map_set]
  exact set_self (by simp [h])

/-- Where a key stands, in the map's own words. -/
theorem findK_row {k : Nat} {ν : Type} (x : Row k) : ∀ (G : List (Row k × List ν)) (i : Nat), findK (rowV x) (G.map fun p => rowV p.1) i = idxG x G i
  | [], _ => rfl
  | p :: G, i => by
    have e : eqFl (rowV x) (rowV p.1) = some (decide (p.1 = x)) := by
      have h : eqFl (rowV x) (rowV p.1) = some (decide (x = p.1)) := by
        simp only [rowV, eqFl]
        rw [eqLs_str (by rw [x.2, p.1.2])]
        congr 1
        rw [Bool.eq_iff_iff]
        simp [Subtype.ext_iff]
      rw [h]
      congr 1
      rw [Bool.eq_iff_iff]
      simp [eq_comm]
    simp only [List.map_cons, findK, idxG, e, findK_row x G (i + 1)]
    simp
theorem findK_str {ν : Type} (x : ByteArray) : ∀ (G : List (ByteArray × List ν)) (i : Nat), findK (.str x) (G.map fun p => .str p.1) i = idxG x G i
  | [], _ => rfl
  | p :: G, i => by
    have e : eqFl (.str x) (.str p.1) = some (decide (p.1 = x)) := by
      simp only [eqFl, eqSc, eqS_dec]
      congr 1
      rw [Bool.eq_iff_iff]
      simp [eq_comm]
    simp only [List.map_cons, findK, idxG, e, findK_str x G (i + 1)]
    simp
theorem fit_rowV {k : Nat} (x : Row k) : fitV (true, List.replicate k .s) (rowV x) = true := by
  simp only [fitV, row_isAgg, rowV, cells_agg, fit_row]; rfl
@[simp] theorem fit_row2 (x : Row 2) : fitV (true, [.s, .s]) (rowV x) = true := fit_rowV x
@[simp] theorem fit_row3 (x : Row 3) : fitV (true, [.s, .s, .s]) (rowV x) = true := fit_rowV x
@[simp] theorem fit_str1 (x : ByteArray) : fitV (false, [.s]) (.str x) = true := rfl
end Go.PM

/-
  PM: slices.SortFunc at structs of texts: a contract like any other.
-/
namespace Go.PM
open Go Go.AH Go.Sort Go.Proofs
variable {P : Program} {Fn : FuncId → Bool} {Pr : CallR → CallR} {k : Nat} {H : Heap} {Z : Nat → Prop}

theorem cmp_of_snd {g : FuncId} {cf : Row k → Row k → Int} (hcmp : ∀ x y : Row k, ∃ o, SndP P Fn Pr g [.v (rowV x), .v (rowV y)] [.v (.int .i64 (cf x y))] o) : cmpA (CallA P Fn Pr) g cf := fun x y => by
  obtain ⟨o, _, h⟩ := hcmp x y
  obtain ⟨a, H', Z', rs, g', f', h1, h2, h3, _⟩ := h #[] (fun _ => False) [.agg (encR x).toArray, .agg (encR y).toArray] [] (by simp) (.cons (.v (rowV_rr x)) (.cons (.v (rowV_rr y)) .nil)) (by simp) (by simp)
  cases h3 with | cons h3 r => cases r with | nil => cases h3 with | v h3 =>
  cases h3
  refine ⟨H', ?_⟩
  rw [h2] at h1
  exact h1

theorem row_get (d : Array (Row k)) (i j : Nat) (hi : i < d.size) (hj : j < k) : ∃ s, (Sort.flatK encR k d)[i * k + j]! = .string s ∧ (d[i]).1[j]? = some s := by
  have k0 : 0 < k := by omega
  have lt : i * k + j < d.size * k := by
    have := Nat.mul_le_mul_right k (show i + 1 ≤ d.size from hi); rw [Nat.add_mul, Nat.one_mul] at this; omega
  have e1 : (i * k + j) / k = i := (blk_iff k i _ k0).1 ⟨by omega, by omega⟩
  have e2 : (i * k + j) % k = j := by rw [Nat.mod_eq_sub_div_mul, e1]; omega
  rw [get_flatK _ _ _ _ lt, e1, e2, getElem!_pos d i hi]
  have hl := d[i].2
  refine ⟨d[i].1[j], ?_, List.getElem?_eq_getElem (by omega)⟩
  rw [getElem!_pos _ _ (by simp [encR]; omega)]
  simp [encR]

theorem sndP_sort {sf g : FuncId} {e : TypeId} (hN : ∀ R f args H v H', sortN sf f args H v H' → Pr R f args H v H') (hPr : ∀ R f args H v H', sortR P sf e k R f args H v H' → Pr R f args H v H') (hg : Ent P g) {cf : Row k → Row k → Int} (hO : SWO (ltOf cf)) (hT : ∀ x y, ltOf cf x y = false → ltOf cf y x = false → x = y)
    (hcmp : ∀ x y : Row k, ∃ o, SndP P Fn Pr g [.v (rowV x), .v (rowV y)] [.v (.int .i64 (cf x y))] o) (hk : sz P e = some k) (d : Array (Row k)) (hsz : d.size < 4611686018427387904) :
    SndP P Fn Pr sf [.sl e (d.toList.map rowV), .v (.fn g [] [])] [] [.sl e ((mrg cf d).toList.map rowV), .v (.fn g [] [])] := by
  refine ⟨rfl, fun H Z as_ f hz hov hnd hfz => ?_⟩
  have hc := cmp_of_snd hcmp
  cases hov with | cons h1 r => cases r with | cons h2 r => cases r with | nil => cases h2 with | v h2 =>
  rename_i a1 f1 a2
  have e2 : a2 = .func (.func g) #[] #[] := by
    cases h2 with
    | fn ha hc =>
      simp at ha hc
      rw [Array.eq_empty_of_size_eq_zero ha.symm, Array.eq_empty_of_size_eq_zero hc.symm]
  subst e2
  generalize hL : d.toList.map rowV = L at h1
  cases h1 with
  | slN =>
    have hd : d = #[] := by
      have := congrArg List.length hL
      simp at this
      exact this
    subst hd
    refine ⟨.tuple #[], H, Z, [], [], [], fun R hR => hR.1 _ _ _ _ _ (hN _ _ _ _ _ _ ⟨rfl, rfl, rfl, g, rfl⟩), rfl, .nil, ?_, by simp, by simp, Nat.le_refl _, fun _ _ _ => rfl, fun _ h => h, fun _ h => .inl h, hz⟩
    have : mrg cf #[] = #[] := by simp [mrg]
    rw [this]
    exact .cons (.slN e) (.cons (.v h2) .nil)
  | @sl _ _ b c k' cs ag h0 hb hk' hag hcc hcap hle hs h =>
    rw [hk] at hk'; cases hk'
    have hLl : L.length = d.size := by rw [← hL]; simp
    rw [hLl] at hcc hle
    have hi : ∀ i (h1 : i < d.size) (h2 : i < L.length), L[i] = rowV d[i] := fun i h1 h2 => by subst hL; simp
    have hagt : 0 < d.size → ag = true := fun h => by
      have := (hs 0 (by omega)).2
      rw [hi 0 h (by omega)] at this
      exact this.symm
    have hcell : ∀ j, j < d.size * k → cs[j]? = some (Sort.flatK encR k d)[j]! := fun t ht => by
      have k0 : 0 < k := by rcases Nat.eq_zero_or_pos k with h | h; · subst h; simp at ht
                            · exact h
      have q1 : t / k < d.size := (Nat.div_lt_iff_lt_mul k0).2 ht
      have q2 : t % k < k := Nat.mod_lt _ k0
      have q3 : t / k * k + t % k = t := by have := Nat.div_add_mod t k; rw [Nat.mul_comm] at this; exact this
      obtain ⟨s, s1, s2⟩ := row_get d (t / k) (t % k) q1 q2
      rw [q3] at s1
      rw [s1]
      have hh := h (t / k) (t % k) (by omega) (by rw [hi _ q1 (by omega)]; simp [rowV, RV.cells, d[t / k].2, q2]) (by omega)
      simp only [q3] at hh
      simp only [hi _ q1 (show t / k < L.length by omega), rowV, RV.cells, List.getElem_map] at hh
      have s3 : d[t / k].1[t % k]'(by rw [d[t / k].2]; exact q2) = s := by
        rw [List.getElem?_eq_getElem (by rw [d[t / k].2]; exact q2)] at s2
        exact Option.some.inj s2
      rw [s3] at hh
      rw [Array.getElem?_eq_getElem (by omega), rr_str hh]
    have hms := mrg_size cf d
    have hbl : b < H.size := (Array.getElem?_eq_some_iff.1 hb).1
    have hbz : ¬ Z b := hfz b (by simp)
    have old : ∀ b', b' ≠ b → ∀ x, (H.setIfInBounds b x)[b']? = H[b']? := fun b' hne x => by rw [Array.getElem?_setIfInBounds, if_neg (fun h => hne h.symm)]
    refine ⟨.tuple #[], _, Z, [], [], [b], fun R hR => hR.1 _ _ _ _ _ (hPr _ _ _ _ _ _ ⟨rfl, rfl, g, b, c, cs, d, cf, hO, hT, hg, fun x y => ?_, hsz, by simp [hLl], hb, hle, hcell, rfl⟩), rfl, .nil, ?_, by simp, ?_, by simp, ?_, fun _ h => h, fun _ h => .inl h, fun b' hb' => by simpa using hz b' hb'⟩
    · obtain ⟨H1, h⟩ := hc x y
      exact ⟨H1, h R hR⟩
    · generalize hm : mrg cf d = d1 at hms
      have hl1 : ((d1.toList.map rowV).length) = L.length := by simp [hms, hLl]
      refine OVL.cons (f := [b]) (g := [] ++ []) ?_ (.cons (f := []) (.v (h2.mono fun b' hb' => ⟨hb', old b' (fun h => hbz (h ▸ hb')) _⟩)) .nil)
      rw [show Value.slice (some ⟨b, 0, none⟩) L.length c = Value.slice (some ⟨b, 0, none⟩) (d1.toList.map rowV).length c by rw [hl1]]
      have hsize : (Sort.flatK encR k d1 ++ cs.extract (d.size * k) cs.size).size = cs.size := by simp [hms]; omega
      have hi1 : ∀ i (h : i < (d1.toList.map rowV).length), (d1.toList.map rowV)[i] = rowV (d1[i]'(by simpa using h)) := fun i h => by simp
      refine .sl (k := k) (ag := ag) (cs := Sort.flatK encR k d1 ++ cs.extract (d.size * k) cs.size) ?_ (by rw [Array.getElem?_setIfInBounds]; simp [hbl]) hk hag (by rw [hl1, hLl]; exact hcc) (by rw [hsize]; exact hcap) (by rw [hl1, hLl, hsize]; exact hle) (fun i h => ?_) (fun i j a1 a2 a3 => ?_)
      · unfold ones
        rw [List.all_eq_true]
        intro v hv
        rw [Array.toList_append, List.mem_append] at hv
        rcases hv with hv | hv
        · obtain ⟨j, hj, rfl⟩ := List.getElem_of_mem hv
          simp only [Array.length_toList, size_flatK] at hj
          have := flat_base d1 j hj
          rw [getElem!_pos _ _ (by simpa using hj)] at this
          simp only [Array.getElem_toList]
          generalize (Sort.flatK encR k d1)[j]'(by simpa using hj) = u at this
          cases u <;> simp_all [isBase, Value.oneCell']
        · unfold ones at h0
          rw [List.all_eq_true] at h0
          refine h0 v ?_
          simp only [Array.toList_extract] at hv
          exact List.mem_of_mem_drop (List.mem_of_mem_take hv)
      · rw [hi1 i h]
        have hh : i < d.size := by simp [hms] at h; exact h
        exact ⟨by simp [rowV, RV.cells, (d1[i]'(by omega)).2], by rw [hagt (by omega)]; rfl⟩
      · have hh : i < d1.size := by simpa using a1
        have hj : j < k := by rw [hi1 i a1] at a2; simpa [rowV, RV.cells, (d1[i]'hh).2] using a2
        obtain ⟨s, s1, s2⟩ := row_get d1 i j hh hj
        have lt : i * k + j < d1.size * k := by
          have := Nat.mul_le_mul_right k (show i + 1 ≤ d1.size from hh); rw [Nat.add_mul, Nat.one_mul] at this; omega
        rw [Array.getElem_append_left (by simpa using lt)]
        rw [getElem!_pos _ _ (by simpa using lt)] at s1
        rw [s1]
        simp only [hi1 i a1, rowV, RV.cells, List.getElem_map]
        rw [List.getElem?_eq_getElem (by rw [(d1[i]'hh).2]; exact hj)] at s2
        rw [Option.some.inj s2]
        exact .str _
    · intro b' hb'
      simp at hb'
      subst hb'
      exact ⟨hbz, .inl (by simp)⟩
    · intro b' _ hb'
      exact old b' (fun h => hb' (by simp [h])) _
end Go.PM

/-
  PM: slices.Sort at texts: a contract like any other.
-/
namespace Go.PM
open Go Go.AH Go.Sort Go.Proofs
variable {P : Program} {Fn : FuncId → Bool} {Pr : CallR → CallR} {H : Heap} {Z : Nat → Prop}

theorem sndP_sortS {sf : FuncId} {e : TypeId} (hN : ∀ R f args H v H', sortSN sf f args H v H' → Pr R f args H v H') (hPr : ∀ R f args H v H', sortSR sf e f args H v H' → Pr R f args H v H') (hk : sz P e = some 1) (ss : List ByteArray) (hsz : ss.length < 4611686018427387904) :
    SndP P Fn Pr sf [.sl e (ss.map .str)] [] [.sl e ((srtS ss).map .str)] := by
  refine ⟨rfl, fun H Z as_ f hz hov hnd hfz => ?_⟩
  cases hov with | cons h1 r => cases r with | nil =>
  generalize hL : ss.map RV.str = L at h1
  cases h1 with
  | slN =>
    have hd : ss = [] := by simpa using hL
    subst hd
    refine ⟨.tuple #[], H, Z, [], [], [], fun R hR => hR.1 _ _ _ _ _ (hN _ _ _ _ _ _ ⟨rfl, rfl, rfl, rfl⟩), rfl, .nil, ?_, by simp, by simp, Nat.le_refl _, fun _ _ _ => rfl, fun _ h => h, fun _ h => .inl h, hz⟩
    have : srtS [] = [] := by simp [srtS]
    rw [this]
    exact .cons (.slN e) .nil
  | @sl _ _ b c k' cs ag h0 hb hk' hag hcc hcap hle hs h =>
    rw [hk] at hk'; cases hk'
    have hLl : L.length = ss.length := by rw [← hL]; simp
    rw [hLl] at hcc hle
    have hi : ∀ i (h1 : i < ss.length) (h2 : i < L.length), L[i] = .str ss[i] := fun i h1 h2 => by subst hL; simp
    have hagf : 0 < ss.length → ag = false := fun h => by
      have := (hs 0 (by omega)).2
      rw [hi 0 h (by omega)] at this
      exact this.symm
    have hcell : ∀ j (hj : j < ss.length), cs[j]? = some (.string ss[j]) := fun t ht => by
      have hh := h t 0 (by omega) (by rw [hi _ ht (by omega)]; simp [RV.cells]) (by omega)
      simp only [Nat.mul_one, Nat.add_zero, hi _ ht (show t < L.length by omega), RV.cells, List.getElem_cons_zero] at hh
      rw [Array.getElem?_eq_getElem (by omega), rr_str hh]
    have hms := srtS_len ss
    have hbl : b < H.size := (Array.getElem?_eq_some_iff.1 hb).1
    have hbz : ¬ Z b := hfz b (by simp)
    have old : ∀ b', b' ≠ b → ∀ x, (H.setIfInBounds b x)[b']? = H[b']? := fun b' hne x => by rw [Array.getElem?_setIfInBounds, if_neg (fun h => hne h.symm)]
    refine ⟨.tuple #[], _, Z, [], [], [b], fun R hR => hR.1 _ _ _ _ _ (hPr _ _ _ _ _ _ ⟨rfl, rfl, b, c, cs, ss, hsz, by simp [hLl], hb, by omega, hcell, rfl⟩), rfl, .nil, ?_, by simp, ?_, by simp, ?_, fun _ h => h, fun _ h => .inl h, fun b' hb' => by simpa using hz b' hb'⟩
    · generalize hm : srtS ss = d1 at hms
      have hl1 : ((d1.map RV.str).length) = L.length := by simp [hms, hLl]
      refine OVL.cons (f := [b]) (g := []) ?_ .nil
      rw [show Value.slice (some ⟨b, 0, none⟩) L.length c = Value.slice (some ⟨b, 0, none⟩) (d1.map RV.str).length c by rw [hl1]]
      have hsize : ((d1.map Value.string).toArray ++ cs.extract ss.length cs.size).size = cs.size := by simp [hms]; omega
      refine .sl (k := 1) (ag := ag) (cs := (d1.map Value.string).toArray ++ cs.extract ss.length cs.size) ?_ (by rw [Array.getElem?_setIfInBounds]; simp [hbl]) hk hag (by rw [hl1, hLl]; exact hcc) (by rw [hsize]; exact hcap) (by rw [hl1, hLl, hsize]; exact hle) (fun i h => ?_) (fun i j a1 a2 a3 => ?_)
      · unfold ones
        rw [List.all_eq_true]
        intro v hv
        rw [Array.toList_append, List.mem_append] at hv
        rcases hv with hv | hv
        · simp only [List.mem_map] at hv
          obtain ⟨s, _, rfl⟩ := hv
          rfl
        · unfold ones at h0
          rw [List.all_eq_true] at h0
          refine h0 v ?_
          simp only [Array.toList_extract] at hv
          exact List.mem_of_mem_drop (List.mem_of_mem_take hv)
      · simp only [List.getElem_map]
        exact ⟨rfl, by rw [hagf (by simp at h; omega)]; rfl⟩
      · have hh : i < d1.length := by simpa using a1
        have hj : j = 0 := by simp [RV.cells] at a2; exact a2
        subst hj
        simp only [List.getElem_map, RV.cells, List.getElem_cons_zero, Nat.mul_one, Nat.add_zero]
        rw [Array.getElem_append_left (by simpa using hh)]
        simp only [List.getElem_toArray, List.getElem_map]
        exact .str _
    · intro b' hb'
      simp at hb'
      subst hb'
      exact ⟨hbz, .inl (by simp)⟩
    · intro b' _ hb'
      exact old b' (fun h => hb' (by simp [h])) _
end Go.PM

/-
  PM: at a law's door: what the world's arguments are, as values; what the law's answer says of the world.
-/
namespace Go.PM
open Go Go.AH Go.RowKit Go.ChangeShapes
variable {P : Program} {W : World}

/-- Blocks that are read alone, one behind the other. -/
structure Dst (P : Program) (W : World) (H : Heap) (M : Mp) : Prop where
  rel : Rel P M H W
  ro : ∀ b, b < H.size → Ro H b

theorem dst_nil : Dst P W #[] (fun _ => none) := ⟨rel_empty W, fun b h => by simp at h⟩

/-- What an argument is: the blocks of before still stand. -/
def Arg (P : Program) (W : World) (H : Heap) (M : Mp) (x : RV) (v : Value) : Prop :=
  ∃ H' M' a, Dst P W H' M' ∧ H.size ≤ H'.size ∧ (∀ b, b < H.size → H'[b]? = H[b]?) ∧ MLe M M' ∧ VR P M' a v ∧ RR P H' (· < H'.size) x a

theorem arg_plain {H : Heap} {M : Mp} (D : Dst P W H M) {x : RV} {v : Value} (hr : RR P H (· < H.size) x v) (hv : VR P M v v) : Arg P W H M x v :=
  ⟨H, M, v, D, Nat.le_refl _, fun _ _ => rfl, MLe.refl _, hv, hr⟩

/-- One more block. -/
theorem dst_push {H : Heap} {M : Mp} (D : Dst P W H M) {c c' : Array Value} {t t' : TypeId} {fz : Nat × Nat} {k d : Nat} (hw : W.heap[k]? = some (.cells c' t' fz)) (hc : Go.AH.CR P M d c c') :
    Dst P W (H.push (.cells c t false)) (ins M H.size ⟨k, d, c'.size, t⟩) ∧ MLe M (ins M H.size ⟨k, d, c'.size, t⟩) := by
  have hM0 : M H.size = none := D.rel.none_at (Nat.le_refl _)
  have hle := ins_le (M := M) (τ := ⟨k, d, c'.size, t⟩) hM0
  have inv : ∀ b τ', ins M H.size ⟨k, d, c'.size, t⟩ b = some τ' → (b = H.size ∧ τ' = ⟨k, d, c'.size, t⟩) ∨ (b < H.size ∧ M b = some τ') := fun b τ' e => by
    by_cases hbs : b = H.size
    · subst hbs; rw [ins_same] at e; cases e; exact .inl ⟨rfl, rfl⟩
    · rw [ins_other hbs] at e; exact .inr ⟨D.rel.lt' e, e⟩
  have roN : ∀ b, b < (H.push (Blk.cells c t false)).size → Ro (H.push (.cells c t false)) b := fun b hb => by
    by_cases h : b = H.size
    · subst h; exact ⟨c, t, get_push_eq _ _⟩
    · have hb2 : b < H.size := by simp at hb; omega
      obtain ⟨c1, t1, e⟩ := D.ro b hb2
      exact ⟨c1, t1, by rw [get_push_lt _ _ hb2]; exact e⟩
  refine ⟨⟨⟨fun b τ' e => ?_, fun b τ' e => ?_, fun b b' τ1 τ2 e1 e2 _ _ => ?_⟩, roN⟩, hle⟩
  · rcases inv b τ' e with ⟨rfl, rfl⟩ | ⟨hb, e⟩
    · exact ⟨_, get_push_eq _ _, c', t', fz, hw, (fun h => by cases h), rfl, rfl, hc.mono hle, fun h => by cases h⟩
    · obtain ⟨blk, h1, h2⟩ := D.rel.blk b τ' e
      exact ⟨blk, by rw [get_push_lt _ _ hb]; exact h1, h2.move hle rfl⟩
  · rcases inv b τ' e with ⟨rfl, rfl⟩ | ⟨hb, e⟩
    · exact (Array.getElem?_eq_some_iff.1 hw).1
    · exact D.rel.lt b τ' e
  · have l1 : b < (H.push (Blk.cells c t false)).size := by
      rcases inv b τ1 e1 with ⟨rfl, _⟩ | ⟨hb, _⟩ <;> simp <;> omega
    have l2 : b' < (H.push (Blk.cells c t false)).size := by
      rcases inv b' τ2 e2 with ⟨rfl, _⟩ | ⟨hb, _⟩ <;> simp <;> omega
    exact .inr (.inr ⟨roN b l1, roN b' l2⟩)

/-- A list whose elements are cells that lead nowhere. -/
theorem arg_list {H : Heap} {M : Mp} (D : Dst P W H M) {e : TypeId} {k : Nat} {ag : Bool} (hk : sz P e = some k) (hag : isAggA P e = some ag) (k0 : 0 < k) {els : List RV} {cs : List Value} {a : Addr} {cap : Nat}
    (hsp : a.spot = none) (hsh : ∃ c' t' fz, W.heap[a.block]? = some (.cells c' t' fz)) (hcap : els.length ≤ cap) (hmax : cap ≤ maxLen) (hcell : ∀ i, i < cap * k → ∃ v, W.cell? (a.add i) = some v)
    (hlen : cs.length = els.length * k) (hcs : ∀ i v, cs[i]? = some v → W.cell? (a.add i) = some v) (hb : cs.all isBase = true) (h1 : cs.all Value.oneCell' = true)
    (hs : ∀ i (h : i < els.length), (els[i].cells).length = k ∧ els[i].isAgg = ag) (hr : ∀ i j (h1 : i < els.length) (h2 : j < (els[i].cells).length) (h3 : i * k + j < cs.length), RR P #[] (fun _ => False) (els[i].cells)[j] cs[i * k + j]) :
    Arg P W H M (.sl e els) (.slice (some a) els.length cap) := by
  obtain ⟨c', t', fz, hw⟩ := hsh
  have hadd : ∀ i, a.add i = ⟨a.block, a.off + i, none⟩ := fun i => by
    unfold Addr.add
    split
    · rename_i h0; subst h0; cases a; simp_all
    · rfl
  have hat : ∀ i v, W.cell? (a.add i) = some v → c'[a.off + i]? = some v := fun i v h => by
    rw [hadd] at h
    simpa [World.cell?, hw] using h
  have hmx : maxLen < capU := by decide
  by_cases hc0 : cap = 0
  · subst hc0
    have hn : els = [] := List.length_eq_zero_iff.1 (by omega)
    subst hn
    obtain ⟨D2, hle⟩ := dst_push D (c := #[]) (t := e) (d := 0) hw ⟨by simp, fun i v h => by simp at h⟩
    refine ⟨_, _, .slice (some ⟨H.size, 0, none⟩) 0 0, D2, by simp, fun b hb => get_push_lt _ _ hb, hle, ?_, ?_⟩
    · have := @VR.sl0 P (ins M H.size ⟨a.block, 0, c'.size, e⟩) H.size 0 a.off _ (ins_same _ _ _)
      cases a
      simp only at hsp
      subst hsp
      exact this
    · exact .sl (rw := false) (k := k) (ag := ag) (cs := #[]) (by simp [ones]) (by simp) (get_push_eq _ _) hk hag (by simp) (.inr (by decide)) (by simp) (fun i h => by simp at h) (fun i j h => by simp at h)
  · have hbig : a.off + cap * k ≤ c'.size := by
      have : 0 < cap * k := Nat.mul_pos (by omega) k0
      obtain ⟨v, hv⟩ := hcell (cap * k - 1) (by omega)
      have := (Array.getElem?_eq_some_iff.1 (hat _ _ hv)).1
      omega
    have hcr : Go.AH.CR P M a.off cs.toArray c' := by
      refine ⟨?_, fun i v hv => ?_⟩
      · have := Nat.mul_le_mul_right k hcap
        simp only [List.size_toArray]
        omega
      · have hv2 : cs[i]? = some v := by simpa using hv
        have hm : v ∈ cs := List.mem_of_getElem? hv2
        exact ⟨v, hat _ _ (hcs _ _ hv2), .base (List.all_eq_true.1 hb v hm)⟩
    obtain ⟨D2, hle⟩ := dst_push D (t := e) hw hcr
    refine ⟨_, _, .slice (some ⟨H.size, 0, none⟩) els.length cap, D2, by simp, fun b hb => get_push_lt _ _ hb, hle, ?_, ?_⟩
    · have := @VR.sl P (ins M H.size ⟨a.block, a.off, c'.size, e⟩) H.size 0 els.length cap _ (ins_same _ _ _) (by omega)
      cases a
      simp only at hsp
      subst hsp
      simpa using this
    · refine .sl (rw := false) (k := k) (ag := ag) (cs := cs.toArray) (by simpa [ones] using h1) (by simp) (get_push_eq _ _) hk hag hcap (.inr (by omega)) (by simp [hlen]) hs (fun i j a1 a2 a3 => ?_)
      have := hr i j a1 a2 (by simpa using a3)
      simp only [Nat.zero_add, List.getElem_toArray]
      exact this.mono (fun b h => h.elim)

/-! ### What is read -/
theorem ok_slice {t e : TypeId} {v : Value} {base : Nat} (ht : P.underlying t = some (.slice e)) (hok : Value.okWide P W .any base t v) :
    v = .slice none 0 0 ∨ ∃ a len cap, v = .slice (some a) len cap ∧ len ≤ cap ∧ a.spot = none ∧ ∃ c' t' fz, W.heap[a.block]? = some (.cells c' t' fz) := by
  unfold Value.okWide at hok
  rw [ht] at hok
  simp only at hok
  unfold Cell.okWide at hok
  rw [ht] at hok
  have hok2 : Cell.ok P W .any base t v := by
    cases v <;> exact hok
  unfold Cell.ok at hok2
  rw [ht] at hok2
  cases v with
  | slice p len cap =>
    cases p with
    | none =>
      left
      simp only at hok2
      split at hok2 <;> simp_all
    | some a =>
      right
      simp only at hok2
      obtain ⟨h1, h2, h3⟩ := hok2
      obtain ⟨_, h4, row, cells, h5, _⟩ := h3
      refine ⟨a, len, cap, rfl, h1, h4, ?_⟩
      unfold World.shape? at h5
      split at h5
      · rename_i c' t' fz hq
        exact ⟨c', t', fz, hq⟩
      · cases h5
  | _ => simp at hok2

section
variable {Ht : Type} {enc : TypeId × Value → Ht}
/-- A list of numbers. -/
theorem arg_ints {H : Heap} {M : Mp} (D : Dst P W H M) {t e : TypeId} {k : IntKind} (ht : P.underlying t = some (.slice e)) (he : P.underlying e = some (.int k)) (hc : P.cellsOf e = 1) (hk : sz P e = some 1) (hag : isAggA P e = some false) {v : Value} {d : DataW Ht} {ps : List MemPlace} {base : Nat}
    (hok : Value.okWide P W .any base t v) (h : DataW.Trod enc P W 0 (fun _ => true) true t v d ps) : ∃ l : List Int, l.length ≤ maxLen ∧ Arg P W H M (.sl e (l.map (.int k))) v := by
  obtain ⟨fuel, h⟩ := h
  rcases ok_slice ht hok with rfl | ⟨a, len, cap, rfl, hl, hsp, hsh⟩
  · exact ⟨[], by simp, arg_plain D (.slN e) (.base rfl)⟩
  · rcases open_ints ht he hc h with ⟨h0, _⟩ | ⟨a', len', cap', zs, h0, _, hl', hm, hz, _, hcell, _⟩
    · simp [Value.cells] at h0
    · simp [Value.cells] at h0
      obtain ⟨rfl, rfl, rfl⟩ := h0
      simp only [if_true] at hz
      have hlen : ((zs.take len).map (RV.int k)).length = len := by simp; omega
      refine ⟨zs.take len, by simp; omega, ?_⟩
      have := arg_list D (els := (zs.take len).map (.int k)) (cs := (zs.take len).map (.int k)) (cap := cap) hk hag (by omega) hsp hsh (by rw [hlen]; exact hl) hm (fun i hi => ⟨_, hcell i (by omega)⟩) (by simp) (fun i v hv => ?_) (by rw [List.all_eq_true]; intro x hx; obtain ⟨z, _, rfl⟩ := List.mem_map.1 hx; rfl) (by rw [List.all_eq_true]; intro x hx; obtain ⟨z, _, rfl⟩ := List.mem_map.1 hx; rfl)
        (fun i h => by simp [RV.cells]) (fun i j h1 h2 h3 => by
          have hj : j = 0 := by simp [RV.cells] at h2; omega
          subst hj
          simp only [List.getElem_map, RV.cells, Nat.mul_one, Nat.add_zero, List.getElem_cons_zero]
          exact .int _ _)
      · rw [hlen] at this
        exact this
      · simp only [List.getElem?_map, Option.map_eq_some_iff] at hv
        obtain ⟨z, hz1, rfl⟩ := hv
        have hi : i < zs.length := by
          have := (List.getElem?_eq_some_iff.1 hz1).1
          simp at this; omega
        rw [hcell i hi]
        rw [List.getElem?_take] at hz1
        split at hz1
        · simp [List.getD, hz1]
        · cases hz1

/-- How many texts a type is, laid one behind the other (and nothing else). -/
def strFs (r : TypeId → Option Nat) (P : Program) : List Field → Nat → Option Nat
  | [], o => some o
  | f :: fs, o => if f.offset = o then (r f.type).bind fun k => if P.cellsOf f.type = k then strFs r P fs (o + k) else none else none
def strK (P : Program) : Nat → TypeId → Option Nat
  | 0, _ => none
  | n + 1, t => match P.underlying t with
    | some .string => some 1
    | some (.struct fs) => (strFs (strK P n) P fs.toList 0).bind fun k => if P.cellsOf t = k then some k else none
    | _ => none

theorem strs_fs {w : World} {base : Nat} {spare : Nat → Bool} {held : Bool} {r : TypeId → Option Nat} (hr : ∀ t k, r t = some k → ∀ fuel cs x, DataW.trod enc P w base spare held fuel t cs = some x → ∃ ss : List ByteArray, ss.length = k ∧ cs = ss.map .string) :
    ∀ (fs : List Field) (o k : Nat) (cs : List Value), strFs r P fs o = some k → (∀ f ∈ fs, ∃ fuel x, DataW.trod enc P w base spare held fuel f.type ((cs.drop f.offset).take (P.cellsOf f.type)) = some x) → cs.length = k → o ≤ k ∧ ∃ ss : List ByteArray, cs.drop o = ss.map .string
  | [], o, k, cs, h, _, hl => by
    simp only [strFs, Option.some.injEq] at h
    subst h
    exact ⟨Nat.le_refl _, [], by rw [List.drop_of_length_le (by omega)]; rfl⟩
  | f :: fs, o, k, cs, h, hf, hl => by
    simp only [strFs] at h
    split at h
    · rename_i ho
      cases hk : r f.type with
      | none => simp [hk] at h
      | some k1 =>
        simp only [hk, Option.bind_some] at h
        split at h
        · rename_i hc
          obtain ⟨h1, ss2, e2⟩ := strs_fs hr fs (o + k1) k cs h (fun g hg => hf g (by simp [hg])) hl
          obtain ⟨fuel, x, hx⟩ := hf f (by simp)
          obtain ⟨ss1, e0, e1⟩ := hr _ _ hk _ _ _ hx
          refine ⟨by omega, ss1 ++ ss2, ?_⟩
          rw [List.map_append, ← e1, ← e2, ho, hc, ← List.drop_drop, List.take_append_drop]
        · cases h
    · cases h
theorem strs_of {w : World} {base : Nat} {spare : Nat → Bool} {held : Bool} : ∀ (n : Nat) (t : TypeId) (k : Nat), strK P n t = some k → ∀ fuel cs x, DataW.trod enc P w base spare held fuel t cs = some x → ∃ ss : List ByteArray, ss.length = k ∧ cs = ss.map .string
  | 0, t, k, h, fuel, cs, x, hx => by simp [strK] at h
  | n + 1, t, k, h, fuel, cs, x, hx => by
    simp only [strK] at h
    split at h
    · rename_i ht
      cases h
      obtain ⟨s, e, _⟩ := DataW.trod_string ht hx
      exact ⟨[s], rfl, e⟩
    · rename_i fs ht
      cases hq : strFs (strK P n) P fs.toList 0 with
      | none => simp [hq] at h
      | some k1 =>
        simp only [hq, Option.bind_some] at h
        split at h
        · rename_i hc
          cases h
          obtain ⟨xs, m, _, _, hl, hlen, hf⟩ := DataW.trod_struct ht hx
          obtain ⟨_, ss, e⟩ := strs_fs (strs_of n) fs.toList 0 _ cs hq (fun f hfm => by
            obtain ⟨i, hi, rfl⟩ := List.getElem_of_mem hfm
            have hi2 : i < fs.size := by simpa using hi
            have := hf i fs[i] (by simp [hi2])
            rw [List.getElem?_eq_getElem (by omega)] at this
            exact ⟨m, _, by simpa using this⟩) (by omega)
          rw [List.drop_zero] at e
          exact ⟨ss, by have := congrArg List.length e; simp at this; omega, e⟩
        · cases h
    · cases h

/-- A list of structs of texts. -/
theorem arg_rows {H : Heap} {M : Mp} (D : Dst P W H M) {t e : TypeId} {k n : Nat} (ht : P.underlying t = some (.slice e)) (hs : strK P n e = some k) (k0 : 0 < k) (hc : P.cellsOf e = k) (hk : sz P e = some k) (hag : isAggA P e = some true) {v : Value} {d : DataW Ht} {ps : List MemPlace} {base : Nat}
    (hok : Value.okWide P W .any base t v) (h : DataW.Trod enc P W 0 (fun _ => true) true t v d ps) : ∃ l : List (Row k), l.length ≤ maxLen ∧ Arg P W H M (.sl e (l.map rowV)) v := by
  obtain ⟨fuel, h⟩ := h
  rcases ok_slice ht hok with rfl | ⟨a, len, cap, rfl, hl, hsp, hsh⟩
  · exact ⟨[], by simp, arg_plain D (.slN e) (.base rfl)⟩
  · rcases Deep.open_slice ht h with ⟨h0, _⟩ | ⟨a', len', cap', m, n', Dd, Pl, h0, _, hl', hm, hmm, _, hx⟩
    · simp [Value.cells] at h0
    · simp [Value.cells] at h0
      obtain ⟨rfl, rfl, rfl⟩ := h0
      simp only [if_true] at hmm
      subst hmm
      have each : ∀ i, i < m → ∃ r : Row k, ∀ j (hj : j < k), W.cell? (a.add (i * k + j)) = some (.string (r.1[j]'(by rw [r.2]; exact hj))) := fun i hi => by
        obtain ⟨cs', h1, h2⟩ := hx i hi
        rw [hc] at h1
        obtain ⟨ss, e1, e2⟩ := strs_of n e k hs _ _ _ h2
        obtain ⟨_, _, h3⟩ := World.cells?_some h1
        refine ⟨⟨ss, e1⟩, fun j hj => ?_⟩
        have := h3 j hj
        rw [e2] at this
        have hadd : (a.add (i * k)).add j = a.add (i * k + j) := by
          unfold Addr.add
          by_cases q1 : i * k = 0
          · simp [q1]
          · by_cases q2 : j = 0
            · simp [q2]
            · have q3 : i * k + j ≠ 0 := by omega
              simp [q1, q2, q3, Nat.add_assoc]
        rw [hadd] at this
        rw [this]
        simp [e1, hj]
      obtain ⟨R, hR⟩ : ∃ R : Nat → Row k, ∀ i, i < m → ∀ j (hj : j < k), W.cell? (a.add (i * k + j)) = some (.string ((R i).1[j]'(by rw [(R i).2]; exact hj))) :=
        ⟨fun i => if h : i < m then Classical.choose (each i h) else default, fun i hi j hj => by simp only [hi, dif_pos]; exact Classical.choose_spec (each i hi) j hj⟩
      obtain ⟨dd_, hdd⟩ : ∃ q : Array (Row k), q = ((List.range len).map R).toArray := ⟨_, rfl⟩
      have hds : dd_.size = len := by rw [hdd]; simp
      have hdg : ∀ i (h : i < dd_.size), dd_[i] = R i := fun i h => by subst hdd; simp
      have hfs : (Sort.flatK encR k dd_).toList.length = len * k := by simp [hds]
      have key : ∀ i j, i < len → j < k → ∃ s, (Sort.flatK encR k dd_).toList[i * k + j]? = some (.string s) ∧ (R i).1[j]? = some s := fun i j hi hj => by
        obtain ⟨s, e1, e2⟩ := row_get dd_ i j (by omega) hj
        rw [hdg] at e2
        have lt : i * k + j < len * k := by
          have := Nat.mul_le_mul_right k (show i + 1 ≤ len from hi); rw [Nat.add_mul, Nat.one_mul] at this; omega
        refine ⟨s, ?_, e2⟩
        rw [getElem!_pos _ _ (by simp [hds]; exact lt)] at e1
        rw [List.getElem?_eq_getElem (by rw [hfs]; exact lt)]
        simp only [Array.getElem_toList]
        rw [e1]
      have hcell : ∀ idx, idx < len * k → ∃ s, (Sort.flatK encR k dd_).toList[idx]? = some (.string s) ∧ W.cell? (a.add idx) = some (.string s) := fun idx h => by
        have q1 : idx / k < len := (Nat.div_lt_iff_lt_mul k0).2 h
        have q2 : idx % k < k := Nat.mod_lt _ k0
        have q3 : idx / k * k + idx % k = idx := by have := Nat.div_add_mod idx k; rw [Nat.mul_comm] at this; exact this
        obtain ⟨s, e1, e2⟩ := key _ _ q1 q2
        rw [q3] at e1
        refine ⟨s, e1, ?_⟩
        have := hR (idx / k) (by omega) (idx % k) q2
        rw [q3] at this
        rw [this]
        obtain ⟨h2, h3⟩ := List.getElem?_eq_some_iff.1 e2
        rw [h3]
      have hall : ∀ v ∈ (Sort.flatK encR k dd_).toList, ∃ s, v = .string s := fun v hv => by
        obtain ⟨idx, hi, rfl⟩ := List.getElem_of_mem hv
        obtain ⟨s, e1, _⟩ := hcell idx (by rw [← hfs]; exact hi)
        rw [List.getElem?_eq_getElem hi] at e1
        exact ⟨s, Option.some.inj e1⟩
      have hlen : (((List.range len).map R).map rowV).length = len := by simp
      refine ⟨(List.range len).map R, by simp; omega, ?_⟩
      have := arg_list D (els := ((List.range len).map R).map rowV) (cs := (Sort.flatK encR k dd_).toList) (cap := m) (a := a) hk hag k0 hsp hsh (by rw [hlen]; exact hl) hm (fun i hi => by
          have q1 : i / k < m := (Nat.div_lt_iff_lt_mul k0).2 hi
          have q3 : i / k * k + i % k = i := by have := Nat.div_add_mod i k; rw [Nat.mul_comm] at this; exact this
          have := hR (i / k) q1 (i % k) (Nat.mod_lt _ k0)
          rw [q3] at this
          exact ⟨_, this⟩) (by rw [hfs, hlen]) (fun i v hv => ?_) (List.all_eq_true.2 fun v hv => by obtain ⟨s, rfl⟩ := hall v hv; rfl) (List.all_eq_true.2 fun v hv => by obtain ⟨s, rfl⟩ := hall v hv; rfl)
        (fun i h => by simp) (fun i j h1 h2 h3 => ?_)
      · rw [hlen] at this
        exact this
      · have hi : i < len * k := by rw [← hfs]; exact (List.getElem?_eq_some_iff.1 hv).1
        obtain ⟨s, e1, e2⟩ := hcell i hi
        rw [e1] at hv
        rw [← hv]; exact e2
      · have hi : i < len := by rw [← hlen]; exact h1
        have hj : j < k := by simpa using h2
        obtain ⟨s, e1, e2⟩ := key i j hi hj
        rw [List.getElem?_eq_getElem h3] at e1
        rw [Option.some.inj e1]
        simp only [List.getElem_map, List.getElem_range, rowV, RV.cells]
        rw [List.getElem?_eq_getElem (by rw [(R i).2]; exact hj)] at e2
        rw [Option.some.inj e2]
        exact .str _

/-- A struct of texts. -/
theorem arg_row {H : Heap} {M : Mp} (D : Dst P W H M) {t : TypeId} {k n : Nat} {fs : Array Field} (ht : P.underlying t = some (.struct fs)) (hs : strK P n t = some k) {v : Value} {d : DataW Ht} {ps : List MemPlace} {base : Nat}
    (hok : Value.okWide P W .any base t v) (h : DataW.Trod enc P W 0 (fun _ => true) true t v d ps) : ∃ r : Row k, Arg P W H M (rowV r) v := by
  obtain ⟨fuel, h⟩ := h
  unfold Value.okWide at hok
  rw [ht] at hok
  obtain ⟨cs, rfl, _⟩ := hok
  obtain ⟨ss, e1, e2⟩ := strs_of n t k hs _ _ _ h
  have e3 : cs = (encR (⟨ss, e1⟩ : Row k)).toArray := by
    apply Array.toList_inj.1
    simpa [Value.cells, encR] using e2
  refine ⟨⟨ss, e1⟩, ?_⟩
  rw [e3]
  exact arg_plain D (rowV_rr _) (ar_agg (encR_base _))
/-- A number. -/
theorem arg_int {H : Heap} {M : Mp} (D : Dst P W H M) {t : TypeId} {k : IntKind} (ht : P.underlying t = some (.int k)) {v : Value} {base : Nat}
    (hok : Value.okWide P W .any base t v) : ∃ i : Int, Arg P W H M (.int k i) v := by
  unfold Value.okWide Cell.okWide Cell.ok at hok
  rw [ht] at hok
  cases v <;> simp at hok
  obtain ⟨⟨rfl, _⟩, _⟩ := hok
  exact ⟨_, arg_plain D (.int _ _) (.base rfl)⟩
end

/-! ### The call -/
/-- Arguments, one behind the other. -/
structure AL (P : Program) (W : World) (H : Heap) (M : Mp) (xs : List RV) (as_ vs : List Value) : Prop where
  dst : Dst P W H M
  rr : RRs P H (· < H.size) xs as_
  vr : LR P M as_ vs
theorem al_nil : AL P W #[] (fun _ => none) [] [] [] := ⟨dst_nil, ⟨rfl, fun i h => by simp at h⟩, .nil⟩
theorem al_snoc {H : Heap} {M : Mp} {xs : List RV} {as_ vs : List Value} (A : AL P W H M xs as_ vs) {x : RV} {v : Value} (h : Arg P W H M x v) : ∃ H' M' a, AL P W H' M' (xs ++ [x]) (as_ ++ [a]) (vs ++ [v]) := by
  obtain ⟨H', M', a, D, hsz, hold, hle, hv, hr⟩ := h
  refine ⟨H', M', a, D, ⟨by have := A.rr.1; simp; omega, fun i h1 h2 => ?_⟩, ?_⟩
  · have hl := A.rr.1
    by_cases hi : i < xs.length
    · rw [List.getElem_append_left hi, List.getElem_append_left (by omega)]
      exact (A.rr.2 i hi (by omega)).mono fun b hb => ⟨by omega, hold b hb⟩
    · have e : i = xs.length := by simp at h1; omega
      subst e
      rw [List.getElem_append_right (by omega), List.getElem_append_right (by omega)]
      simp
      exact hr
  · exact (A.vr.mono hle).append (.cons hv .nil)

theorem ovl_plain {H : Heap} {Z : Nat → Prop} : ∀ {xs : List RV} {as_ : List Value}, RRs P H Z xs as_ → OVL P H Z (xs.map .v) as_ []
  | [], [], _ => .nil
  | [], _ :: _, h => by have := h.1; simp at this
  | _ :: _, [], h => by have := h.1; simp at this
  | x :: xs, a :: as_, h => by
    have h0 := h.2 0 (by simp) (by simp)
    have hr : RRs P H Z xs as_ := ⟨by simpa using h.1, fun i h1 h2 => h.2 (i + 1) (by simpa using h1) (by simpa using h2)⟩
    exact OVL.cons (f := []) (g := []) (.v h0) (ovl_plain hr)

/-- A law that yields true, out of its contract. -/
theorem door_law {F : FuncId → Bool} {Pr : CallR → CallR} (hm : P.follows .mixedOrders = true) (hF : OkF P F) (hP : OkPr P Pr) {f : FuncId} (he : Ent P f) {H : Heap} {M : Mp} {xs : List RV} {as_ : List Value} {args : Array Value} (A : AL P W H M xs as_ args.toList)
    (hC : SndP P F Pr f (xs.map .v) [.v (.bool true)] (xs.map .v)) : Calls P f args W fun e w' => e = .returned (.bool true) ∧ Below W.heap.size W w' := by
  obtain ⟨a, H', Z', rs, g, f', c1, c2, c3, _⟩ := hC.2 H (· < H.size) as_ [] (fun b h => h) (ovl_plain A.rr) (by simp) (by simp)
  have ha : a = .bool true := by
    cases c3 with | cons h r => cases r with | nil => cases h with | v h =>
    cases h
    exact c2
  subst ha
  have hAR : AR P M as_.toArray args := LR.array (by simpa using A.vr)
  refine (callW_sound hm hF hP he (H := H) (Q := fun v _ => v = .bool true) ⟨_, H', c1, rfl⟩ A.dst.rel hAR).mono fun e W' k => ?_
  obtain ⟨v, v', H1, M1, rfl, rfl, rv, st⟩ := k
  refine ⟨by rw [rv.bool_inv], st.os, st.tape, st.output, st.wsize, fun k hk => st.aframe k hk fun b τ e _ => .inl (A.dst.ro b (A.dst.rel.lt' e))⟩

/-- A closed call that yields true: run once from nothing. -/
theorem clos_snd {F : FuncId → Bool} {Pr : CallR → CallR} (hm : P.follows .mixedOrders = true) (hF : OkF P F) (hP : OkPr P Pr) {g : FuncId} (he : Ent P g) (h : callW P F Pr g #[] #[] fun v _ => v = .bool true) {f : FuncId} {args : Array Value} {H H' : Heap} {v : Value} (hc : closPr g f args H v H') : Snd P f args H v H' := by
  obtain ⟨rfl, rfl, rfl, rfl⟩ := hc
  refine ⟨Nat.le_refl _, .inl ⟨he, fun M W args' R ha => ?_⟩⟩
  have e : args' = #[] := Array.eq_empty_of_size_eq_zero ha.1.symm
  subst e
  have e0 : AR P (fun _ => none) #[] #[] := ⟨rfl, fun i h => by simp at h⟩
  refine (callW_sound hm hF hP he h (rel_empty W) e0).mono fun e W' k => ?_
  obtain ⟨v, v', H1, M1, rfl, rfl, rv, st⟩ := k
  have hh : ∀ k, k < W.heap.size → W'.heap[k]? = W.heap[k]? := fun k hk => st.aframe k hk fun b τ e _ => by cases e
  refine ⟨.bool true, M, by rw [rv.bool_inv], .base rfl, ⟨⟨fun b τ e => ?_, fun b τ e => ?_, R.inj⟩, MLe.refl _, Nat.le_refl _, (fun b τ e e0 => by rw [e] at e0; cases e0), fun _ _ _ => rfl, fun _ _ h => h, fun _ _ h => h, fun _ _ _ => rfl, fun k hk _ => hh k hk, st.wsize, st.os, st.tape, st.output, st.drawn⟩⟩
  · obtain ⟨blk, h1, h2⟩ := R.blk b τ e
    exact ⟨blk, h1, h2.move (MLe.refl _) (hh _ (R.lt b τ e))⟩
  · exact Nat.lt_of_lt_of_le (R.lt b τ e) st.wsize
end Go.PM
