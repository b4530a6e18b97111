/-
  PM: rules for proofs; plain lists, orders, maps; functions of the library.
-/
import Derived.Test.YtllmlcmhmkkgcaaLib4
import Derived.Test.YtllmlcmhmkkgcaaLib2e
set_option linter.unusedVariables false
set_option linter.unusedSimpArgs false
set_option linter.unusedSectionVars false

/-
  PM: states as finite lists; running straight code; rules for proofs.
-/
namespace Go.PM
open Go Go.AH

/-- A state that is told by a list. -/
def E : List (Nat × TV) → Tm
  | [], _ => .junk
  | (k, u) :: l, x => if x = k then u else E l x

abbrev clrD (d : Nat) (u : TV) : TV := TV.clr (fun r _ => r == d) (fun r _ => r == d) u
def clrU (r : Nat) (p : List Sel) (g : Bool) (u : TV) : TV := TV.clr (fun r' q => r' == r && spre p q) (fun r' q => r' == r && (spre p q || g && pre p q)) u
def delL (d : Nat) : List (Nat × TV) → List (Nat × TV)
  | [] => []
  | (x, u) :: l => if x = d then delL d l else (x, clrD d u) :: delL d l
def updL (r : Nat) (p : List Sel) (g : Bool) (s : TV) : List (Nat × TV) → List (Nat × TV)
  | [] => []
  | (x, u) :: l => (x, if x = r then u.set p s else clrU r p g u) :: updL r p g s l
def hasK (r : Nat) : List (Nat × TV) → Bool
  | [] => false
  | (x, _) :: l => if x = r then true else hasK r l
def keepL (T : Tm) (live : List Nat) : List Nat → List (Nat × TV)
  | [] => []
  | x :: l => (x, TV.clr (fun r _ => !live.contains r) (fun r _ => !live.contains r) (T x)) :: keepL T live l

theorem E_nil (x : Nat) : E [] x = .junk := rfl
theorem E_cons (k x : Nat) (u : TV) (l : List (Nat × TV)) : E ((k, u) :: l) x = if x = k then u else E l x := rfl
theorem E_del {d x : Nat} : ∀ {l : List (Nat × TV)}, x ≠ d → E (delL d l) x = clrD d (E l x)
  | [], _ => rfl
  | (k, u) :: l, h => by
    simp only [delL]
    by_cases hk : k = d
    · subst hk
      simp only [if_true, E_cons, if_neg h]
      exact E_del h
    · simp only [if_neg hk, E_cons]
      split
      · rfl
      · exact E_del h
theorem E_put (l : List (Nat × TV)) (d : Nat) (t : TV) : (E l).put d t = E ((d, clrD d t) :: delL d l) := by
  funext x
  simp only [Tm.put, E_cons]
  by_cases h : x = d
  · simp [h]
  · simp only [if_neg h]; exact (E_del h).symm
theorem E_putO (l : List (Nat × TV)) (d : Nat) (t : TV) : (E l).putO (some d) t = E ((d, clrD d t) :: delL d l) := E_put l d t
theorem E_putN (l : List (Nat × TV)) (t : TV) : (E l).putO none t = E l := rfl
theorem E_upd_go {r : Nat} {p : List Sel} {g : Bool} {s : TV} : ∀ {l : List (Nat × TV)} {x : Nat}, hasK x l = true ∨ x ≠ r → E (updL r p g s l) x = if x = r then (E l x).set p s else clrU r p g (E l x)
  | [], x, h => by
    rcases h with h | h
    · simp [hasK] at h
    · simp only [updL, E_nil, if_neg h]; rfl
  | (k, u) :: l, x, h => by
    simp only [updL, E_cons]
    by_cases hx : x = k
    · subst hx; simp
    · simp only [if_neg hx]
      exact E_upd_go (h.imp (fun h => by
        simp only [hasK] at h
        rw [if_neg (fun e => hx e.symm)] at h
        exact h) id)
theorem E_upd (l : List (Nat × TV)) (r : Nat) (p : List Sel) (g : Bool) (s : TV) (h : hasK r l = true) : (E l).upd r p g s = E (updL r p g s l) := by
  funext x
  by_cases hx : x = r
  · subst hx
    rw [E_upd_go (.inl h)]
    simp only [Tm.upd, if_true]
  · rw [E_upd_go (.inr hx)]
    simp only [Tm.upd, if_neg hx]
    rfl
theorem E_keep_go {T : Tm} {live : List Nat} : ∀ {l : List Nat} {x : Nat}, E (keepL T live l) x = if l.contains x then TV.clr (fun r _ => !live.contains r) (fun r _ => !live.contains r) (T x) else .junk
  | [], x => rfl
  | k :: l, x => by
    simp only [keepL, E_cons, List.contains_cons]
    by_cases h : x = k
    · subst h; simp
    · have : (x == k) = false := by simpa using h
      simp only [if_neg h, this, Bool.false_or]
      exact E_keep_go
theorem keep_E (T : Tm) (live : List Nat) : T.keep live = E (keepL T live live) := by
  funext x
  rw [E_keep_go]
  rfl

theorem enter_E (nt : Nat) (args : List TV) (l : List (Nat × TV)) (h : ∀ x, enterP nt args x = E l x) : enterP nt args = E l := funext h

/-- The state at the beginning, when all that goes in is plain. -/
def plainL : List RV → Nat → List (Nat × TV)
  | [], _ => []
  | y :: l, i => (i, .v y) :: plainL l (i + 1)
theorem plainL_get : ∀ {l : List RV} {i x : Nat}, E (plainL l i) x = if i ≤ x then (match l[x - i]? with | some y => .v y | none => .junk) else .junk
  | [], i, x => by simp [plainL, E_nil]
  | y :: l, i, x => by
    simp only [plainL, E_cons]
    by_cases h : x = i
    · subst h; simp
    · rw [if_neg h, plainL_get]
      by_cases h2 : i ≤ x
      · rw [if_pos (by omega), if_pos h2]
        have : x - i = (x - (i + 1)) + 1 := by omega
        rw [this]; simp
      · rw [if_neg (by omega), if_neg h2]
theorem enter_plain (nt : Nat) (l : List RV) (h : l.length ≤ nt) : enterP nt (l.map .v) = E (plainL l 0) := by
  funext x
  rw [plainL_get]
  unfold enterP
  simp only [List.length_map, List.getElem?_map, Nat.zero_le, if_true, Nat.sub_zero]
  split
  · rename_i h1
    simp [List.getElem?_eq_getElem h1]
  · rename_i h1
    have hn : l[x]? = none := List.getElem?_eq_none (by omega)
    rw [hn]
    split
    · rfl
    · cases hq : l[x - nt]? with
      | none => rfl
      | some y => rfl
theorem out_plain (nt : Nat) (T : Tm) : ∀ (l : List RV) (i : Nat), outP nt (l.map .v) i T = l.map .v
  | [], _ => rfl
  | y :: l, i => by simp only [List.map_cons, outP, out_plain nt T l (i + 1)]

/-! ### Straight code -/
def step1 (o : PO) (T : Tm) : Option Tm :=
  if still T o.nj && stillF T o.fl then
    match wantP T o.g with
    | some true => match exec T o.i with
      | some (v, T') => some (T'.putO o.d v)
      | none => none
    | some false => some (T.putO o.d (.tup []))
    | none => none
  else none
def runP : List PO → Option Tm → Option Tm
  | [], T => T
  | o :: l, some T => runP l (step1 o T)
  | _ :: _, none => none

def PI.isCall : PI → Bool
  | .call .. => true
  | _ => false
/-- What stands ahead of the first call, and from it on. -/
def cutL : List PO → List PO
  | [] => []
  | o :: l => if o.i.isCall then [] else o :: cutL l
def cutR : List PO → List PO
  | [] => []
  | o :: l => if o.i.isCall then o :: l else cutR l

variable {C : CR}

theorem opsP_run : ∀ {l : List PO} {T T1 : Tm} {Q : Tm → Prop}, runP (cutL l) (some T) = some T1 → opsP C (cutR l) T1 Q → opsP C l T Q
  | [], T, T1, Q, h, k => by
    simp only [cutL, runP, Option.some.injEq] at h
    subst h
    exact k
  | o :: l, T, T1, Q, h, k => by
    simp only [cutL] at h
    simp only [cutR] at k
    split at h
    · rename_i hc
      rw [if_pos hc] at k
      simp only [runP, Option.some.injEq] at h
      subst h
      exact k
    · rename_i hc
      rw [if_neg hc] at k
      simp only [runP] at h
      cases hs : step1 o T with
      | none => rw [hs] at h; cases hl : cutL l with
        | nil => rw [hl] at h; cases h
        | cons => rw [hl] at h; cases h
      | some T2 =>
        rw [hs] at h
        have hrest := opsP_run (l := l) (Q := Q) h k
        unfold step1 at hs
        split at hs
        · rename_i hst
          simp only [opsP]
          refine ⟨hst, ?_⟩
          split at hs
          · rename_i hw
            rw [hw]
            split at hs
            · rename_i v T' he
              cases hs
              simp only [stepP]
              split
              · rename_i f args hi; rw [hi] at hc; simp [PI.isCall] at hc
              · rw [he]; exact hrest
            · cases hs
          · rename_i hw
            rw [hw]
            cases hs
            exact hrest
          · cases hs
        · cases hs

/-- A call of a function whose arguments are plain values, with its contract. -/
theorem opsP_call {f : Opd} {args : List (Bool × Opd)} {d : Option Nat} {nj fl : List Nat} {l : List PO} {T : Tm} {Q : Tm → Prop} {g : FuncId} {a c : List RV} {xs : List RV} {res : List TV} (hs : (still T nj && stillF T fl) = true) (hf : fnOf T f = some (g, a, c)) (ha : argsP T args = some (xs.map .v)) (hm : muts T args = [])
    (hC : C g ((a ++ xs ++ c).map .v) res ((a ++ xs ++ c).map .v)) (hl : res.all TV.lone = true ∨ seen T args ++ plcs (look T f) = []) (hb : back args (xs.map .v) T T = some T) (hk : (mask args (xs.map .v)).all TV.lone = true) (k : opsP C l (T.putO d (resT res)) Q) : opsP C (⟨none, d, .call f args, nj, fl⟩ :: l) T Q := by
  simp only [opsP, wantP, stepP]
  refine ⟨hs, [], T, g, a, c, xs.map .v, res, xs.map .v, T, rfl, hf, ha, by simpa using hC, rfl, by rw [hm]; rfl, by rw [hm]; rfl, hl.imp (fun h => ⟨h, hk⟩) id, by rw [hm]; exact hb, k⟩

theorem back_pure : ∀ {args : List (Bool × Opd)} {us : List TV} {T0 T : Tm}, (args.all fun x => !x.1) = true → us.length = args.length → back args us T0 T = some T ∧ (mask args us).all TV.lone = true ∧ muts T0 args = []
  | [], [], _, _, _, _ => ⟨rfl, rfl, rfl⟩
  | [], _ :: _, _, _, _, h => by simp at h
  | _ :: _, [], _, _, _, h => by simp at h
  | (false, x) :: args, u :: us, T0, T, h, hl => by
    obtain ⟨h1, h2, h3⟩ := back_pure (args := args) (us := us) (T0 := T0) (T := T) (by simpa using h) (by simpa using hl)
    exact ⟨by simpa [back] using h1, by simp only [mask, List.all_cons, h2]; rfl, by simpa [muts] using h3⟩
  | (true, x) :: args, u :: us, _, _, h, _ => by simp at h

/-- The usual call. -/
theorem opsP_pure {f : FuncId} {args : List (Bool × Opd)} {d : Option Nat} {nj fl : List Nat} {l : List PO} {T : Tm} {Q : Tm → Prop} {xs : List RV} {res : List TV} (hC : C f (xs.map .v) res (xs.map .v)) (hs : (still T nj && stillF T fl) = true) (ha : argsP T args = some (xs.map .v)) (hp : (args.all fun x => !x.1) = true)
    (hl : res.all TV.lone = true ∨ seen T args = []) (k : opsP C l (T.putO d (resT res)) Q) : opsP C (⟨none, d, .call (.c (.fn f [] [])) args, nj, fl⟩ :: l) T Q := by
  have hlen : (xs.map TV.v).length = args.length := by
    have : ∀ {args : List (Bool × Opd)} {as : List TV}, argsP T args = some as → as.length = args.length := argsP_length
    exact this ha
  obtain ⟨h1, h2, h3⟩ := back_pure (T0 := T) (T := T) hp hlen
  exact opsP_call (a := []) (c := []) hs rfl ha h3 (by simpa using hC) (hl.imp id fun h => by rw [h]; rfl) h1 h2 k

/-! ### Code -/
theorem codeP_seq {a b : PC} {Q : PPost} {T : Tm} (h : codeP C a (thenP (codeP C b Q) Q) T) : codeP C (.seq a b) Q T := h
theorem codeP_block {id : Nat} {c : PC} {Q : PPost} {T : Tm} (h : codeP C c (blockP id Q) T) : codeP C (.block id c) Q T := h
theorem codeP_skip {Q : PPost} {T : Tm} (h : Q .normal T) : codeP C .skip Q T := h
theorem codeP_exit {id : Nat} {Q : PPost} {T : Tm} (h : Q (.exit id) T) : codeP C (.exit id) Q T := h
theorem codeP_ret {Q : PPost} {T : Tm} (h : Q .ret T) : codeP C .ret Q T := h
theorem codeP_ops {l : List PO} {fin live : List Nat} {dr : Bool} {Q : PPost} {T T1 T2 : Tm} (h : runP (cutL l) (some T) = some T1) (hr : cutR l = []) (hf : still T1 fin = true) (hk : T1.keep live = T2) (k : Q .normal T2) : codeP C (.ops l fin live dr) Q T := by
  refine opsP_run h ?_
  rw [hr]
  refine ⟨hf, ?_⟩
  rw [hk]
  exact k
theorem codeP_opsC {l : List PO} {fin live : List Nat} {dr : Bool} {Q : PPost} {T T1 : Tm} (h : runP (cutL l) (some T) = some T1) (k : opsP C (cutR l) T1 fun T => still T fin = true ∧ Q .normal (T.keep live)) : codeP C (.ops l fin live dr) Q T := opsP_run h k
theorem opsP_last {l : List PO} {fin live : List Nat} {Q : PPost} {T T1 T2 : Tm} (h : runP (cutL l) (some T) = some T1) (hr : cutR l = []) (hf : still T1 fin = true) (hk : T1.keep live = T2) (k : Q .normal T2) : opsP C l T fun T => still T fin = true ∧ Q .normal (T.keep live) := by
  refine opsP_run h ?_
  rw [hr]
  refine ⟨hf, ?_⟩
  rw [hk]
  exact k
theorem codeP_true {c : Opd} {a b : PC} {Q : PPost} {T : Tm} (h : look T c = .v (.bool true)) (k : codeP C a Q T) : codeP C (.cond c a b) Q T := by
  simp only [codeP, h]; exact k
theorem codeP_false {c : Opd} {a b : PC} {Q : PPost} {T : Tm} (h : look T c = .v (.bool false)) (k : codeP C b Q T) : codeP C (.cond c a b) Q T := by
  simp only [codeP, h]; exact k
theorem codeP_cond {c : Opd} {a b : PC} {Q : PPost} {T : Tm} {t : Bool} (h : look T c = .v (.bool t)) (k1 : t = true → codeP C a Q T) (k2 : t = false → codeP C b Q T) : codeP C (.cond c a b) Q T := by
  cases t
  · exact codeP_false h (k2 rfl)
  · exact codeP_true h (k1 rfl)

theorem stepP_mono {K K' : TV → Tm → Prop} (h : ∀ v T, K v T → K' v T) {T : Tm} {i : PI} (k : stepP C T i K) : stepP C T i K' := by
  cases i with
  | call f args =>
    obtain ⟨x1, x2, x3, x4, x5, x6, x7, x8, x9, q1, q2, q3, q4, q5, q6, q7, q8, q9, q10⟩ := k
    exact ⟨x1, x2, x3, x4, x5, x6, x7, x8, x9, q1, q2, q3, q4, q5, q6, q7, q8, q9, h _ _ q10⟩
  | _ =>
    simp only [stepP] at k ⊢
    split at k
    · exact h _ _ k
    · exact ⟨k.1, h _ _ k.2.1, h _ _ k.2.2⟩

theorem codeP_mono : ∀ (c : PC) {Q Q' : PPost}, (∀ e T, Q e T → Q' e T) → ∀ (T : Tm), codeP C c Q T → codeP C c Q' T := by
  have ops : ∀ (l : List PO) {Q Q' : Tm → Prop}, (∀ T, Q T → Q' T) → ∀ T, opsP C l T Q → opsP C l T Q' := by
    intro l
    induction l with
    | nil => intro Q Q' h T k; exact h _ k
    | cons o l ih =>
      intro Q Q' h T k
      simp only [opsP] at k ⊢
      refine ⟨k.1, ?_⟩
      have k := k.2
      split at k
      · exact stepP_mono (fun v T q => ih h _ q) k
      · exact ih h _ k
      · exact k.elim
  intro c
  induction c with
  | skip => intro Q Q' h T k; exact h _ _ k
  | ops l fin live dr => intro Q Q' h T k; exact ops l (fun T q => ⟨q.1, h _ _ q.2⟩) T k
  | seq a b iha ihb =>
    intro Q Q' h T k
    refine iha (fun e T q => ?_) T k
    cases e
    · exact ihb h _ q
    · exact h _ _ q
    · exact h _ _ q
  | cond c a b iha ihb =>
    intro Q Q' h T k
    simp only [codeP] at k ⊢
    split at k
    · exact iha h T k
    · exact ihb h T k
    · exact k
  | block id c ih =>
    intro Q Q' h T k
    refine ih (fun e T q => ?_) T k
    cases e with
    | normal => exact h _ _ q
    | ret => exact h _ _ q
    | exit id' =>
      simp only [blockP] at q ⊢
      split
      · rename_i e; rw [if_pos e] at q; exact h _ _ q
      · rename_i e; rw [if_neg e] at q; exact h _ _ q
  | loop c ih =>
    intro Q Q' h T k I hI
    refine k I fun T k => hI T (ih (fun e T q => ?_) T k)
    cases e
    · exact q
    · exact h _ _ q
    · exact h _ _ q
  | exit id => intro Q Q' h T k; exact h _ _ k
  | ret => intro Q Q' h T k; exact h _ _ k

/-- The rule of the loop: states told by a list of what changes. -/
theorem codeP_loop {α : Type} {c : PC} {Q : PPost} (env : α → Tm) (inv : α → Prop) (mea : α → Nat) (a0 : α) {T : Tm} (hT : T = env a0) (h0 : inv a0)
    (h : ∀ a, inv a → codeP C c (thenP (fun T => ∃ a', inv a' ∧ mea a' < mea a ∧ T = env a') Q) (env a)) : codeP C (.loop c) Q T := by
  subst hT
  intro J hJ
  have key : ∀ n a, mea a = n → inv a → J (env a) := by
    intro n
    induction n using Nat.strongRecOn with
    | _ n ih =>
      intro a hn hi
      refine hJ _ (codeP_mono c (fun e T k => ?_) _ (h a hi))
      cases e with
      | normal =>
        obtain ⟨a', h1, h2, rfl⟩ := k
        exact ih _ (hn ▸ h2) a' rfl h1
      | exit id => exact k
      | ret => exact k
  exact key _ a0 rfl h0


/-! ### What is still to be done, as a list -/
inductive Fr where
  | c (pc : PC)
  | b (id : Nat)
  | i (I : Tm → Prop)

def postK (C : CR) (Q : PPost) : List Fr → PPost
  | [] => Q
  | .c pc :: k => thenP (codeP C pc (postK C Q k)) (postK C Q k)
  | .b id :: k => blockP id (postK C Q k)
  | .i I :: k => thenP I (postK C Q k)
/-- To do, from a state on. -/
structure Run (C : CR) (Q : PPost) (k : List Fr) (T : Tm) : Prop where
  h : postK C Q k .normal T

/-- Where an exit leads. -/
def dropTo (id : Nat) : List Fr → Option (List Fr)
  | [] => none
  | .b id' :: k => if id = id' then some k else dropTo id k
  | _ :: k => dropTo id k

section
variable {Q : PPost} {k : List Fr} {T : Tm}

theorem run_of {pc : PC} (h : Run C Q [.c pc] T) : codeP C pc Q T := h.h
theorem run_nil (h : Q .normal T) : Run C Q [] T := ⟨h⟩
theorem run_inv {I : Tm → Prop} (h : I T) : Run C Q (.i I :: k) T := ⟨h⟩
theorem run_seq {a b : PC} (h : Run C Q (.c a :: .c b :: k) T) : Run C Q (.c (.seq a b) :: k) T := ⟨h.h⟩
theorem run_skip (h : Run C Q k T) : Run C Q (.c .skip :: k) T := ⟨h.h⟩
theorem run_block {id : Nat} {c : PC} (h : Run C Q (.c c :: .b id :: k) T) : Run C Q (.c (.block id c) :: k) T := ⟨h.h⟩
theorem run_b {id : Nat} (h : Run C Q k T) : Run C Q (.b id :: k) T := ⟨h.h⟩
theorem exit_go {id : Nat} : ∀ {k k' : List Fr}, dropTo id k = some k' → Run C Q k' T → postK C Q k (.exit id) T
  | [], _, h, _ => by simp [dropTo] at h
  | .c pc :: k, k', h, r => exit_go (k := k) h r
  | .i I :: k, k', h, r => exit_go (k := k) h r
  | .b id' :: k, k', h, r => by
    simp only [dropTo] at h
    simp only [postK, blockP]
    split at h
    · rename_i e
      cases h
      rw [if_pos e.symm.symm]
      exact r.h
    · rename_i e
      rw [if_neg e]
      exact exit_go h r
theorem run_exit {id : Nat} {k' : List Fr} (h : dropTo id k = some k') (r : Run C Q k' T) : Run C Q (.c (.exit id) :: k) T := ⟨exit_go h r⟩
theorem ret_go : ∀ {k : List Fr}, Q .ret T → postK C Q k .ret T
  | [], h => h
  | .c pc :: k, h => ret_go (k := k) h
  | .i I :: k, h => ret_go (k := k) h
  | .b id' :: k, h => ret_go (k := k) h
theorem run_ret (h : Q .ret T) : Run C Q (.c .ret :: k) T := ⟨ret_go h⟩
theorem run_ops {l : List PO} {fin live : List Nat} {dr : Bool} {T1 T2 : Tm} (h : runP (cutL l) (some T) = some T1) (hr : cutR l = []) (hf : still T1 fin = true) (hk : T1.keep live = T2) (r : Run C Q k T2) : Run C Q (.c (.ops l fin live dr) :: k) T :=
  ⟨codeP_ops (dr := dr) h hr hf hk r.h⟩
/-- Straight code with a call ahead of its end. -/
def RunO (C : CR) (Q : PPost) (k : List Fr) (l : List PO) (fin live : List Nat) (T : Tm) : Prop := opsP C l T fun T => still T fin = true ∧ Run C Q k (T.keep live)
theorem run_opsC {l : List PO} {fin live : List Nat} {dr : Bool} {T1 : Tm} (h : runP (cutL l) (some T) = some T1) (r : RunO C Q k (cutR l) fin live T1) : Run C Q (.c (.ops l fin live dr) :: k) T := by
  refine ⟨codeP_opsC (dr := dr) h ?_⟩
  have mono : ∀ (l : List PO) {Q Q' : Tm → Prop}, (∀ T, Q T → Q' T) → ∀ T, opsP C l T Q → opsP C l T Q' := by
    intro l
    induction l with
    | nil => intro Q Q' h T k; exact h _ k
    | cons o l ih =>
      intro Q Q' h T k
      simp only [opsP] at k ⊢
      refine ⟨k.1, ?_⟩
      have k := k.2
      split at k
      · exact stepP_mono (fun v T q => ih h _ q) k
      · exact ih h _ k
      · exact k.elim
  exact mono _ (fun T q => ⟨q.1, q.2.h⟩) _ r
theorem runO_call {f : FuncId} {args : List (Bool × Opd)} {d : Option Nat} {nj fl fin live : List Nat} {l : List PO} {xs : List RV} {res : List TV} {T1 T2 : Tm} (hC : C f (xs.map .v) res (xs.map .v)) (hs : (still T nj && stillF T fl) = true) (ha : argsP T args = some (xs.map .v)) (hp : (args.all fun x => !x.1) = true)
    (hl : res.all TV.lone = true ∨ seen T args = []) (hd : T.putO d (resT res) = T1) (h : runP (cutL l) (some T1) = some T2) (r : RunO C Q k (cutR l) fin live T2) : RunO C Q k (⟨none, d, .call (.c (.fn f [] [])) args, nj, fl⟩ :: l) fin live T := by
  refine opsP_pure hC hs ha hp hl ?_
  rw [hd]
  exact opsP_run h r
theorem runO_nil {fin live : List Nat} {T2 : Tm} (hf : still T fin = true) (hk : T.keep live = T2) (r : Run C Q k T2) : RunO C Q k [] fin live T := ⟨hf, by rw [hk]; exact r⟩
theorem run_cond {c : Opd} {a b : PC} {t : Bool} (h : look T c = .v (.bool t)) (k1 : t = true → Run C Q (.c a :: k) T) (k2 : t = false → Run C Q (.c b :: k) T) : Run C Q (.c (.cond c a b) :: k) T :=
  ⟨codeP_cond h (fun h => (k1 h).h) (fun h => (k2 h).h)⟩
theorem run_loop {α : Type} {c : PC} (env : α → Tm) (inv : α → Prop) (mea : α → Nat) (a0 : α) (hT : T = env a0) (h0 : inv a0)
    (h : ∀ a, inv a → Run C Q (.c c :: .i (fun T => ∃ a', inv a' ∧ mea a' < mea a ∧ T = env a') :: k) (env a)) : Run C Q (.c (.loop c) :: k) T :=
  ⟨codeP_loop env inv mea a0 hT h0 fun a hi => (h a hi).h⟩
end

/-! ### For simp -/
theorem wrap64 {i : Int} (h : -9223372036854775808 ≤ i) (h2 : i ≤ 9223372036854775807) : IntKind.i64.wrap i = i := by rw [IntKind.wrap_i64]; omega
attribute [simp] cutL cutR PI.isCall runP step1 still stillF   wantP exec look look1 TV.owned TV.isJunk E_cons E_putO E_putN E_put E_upd hasK updL clrU delL   own0 isShift  strP intOf strOf ptr ptrOf TV.get TV.child TV.set TV.setChild take  TV.dem demL plainB setR
  keep_E keepL spre pre Sel.sim   view view0 view1 viewL argsP argP listOf bndP mkAgg fillT elemsT  resT resP ressP outP TV.fix thenP blockP seen plcs plc1 TV.lone  flatLs muts
@[simp] theorem okL_bool (b : Bool) (T : Tm) : okL (.v (.bool b)) T = true := rfl
@[simp] theorem okL_int (k : IntKind) (i : Int) (T : Tm) : okL (.v (.int k i)) T = true := rfl
@[simp] theorem okL_str (s : ByteArray) (T : Tm) : okL (.v (.str s)) T = true := rfl
@[simp] theorem okL_nilp  (T : Tm) : okL (.v .nilp) T = true := rfl
@[simp] theorem okL_nilf  (T : Tm) : okL (.v .nilf) T = true := rfl
@[simp] theorem okL_nilm  (T : Tm) : okL (.v .nilm) T = true := rfl
@[simp] theorem okL_sl (e : TypeId) (l : List RV) (T : Tm) : okL (.v (.sl e l)) T = true := rfl
@[simp] theorem okL_mp (e : TypeId) (l m : List RV) (T : Tm) : okL (.v (.mp e l m)) T = true := rfl
@[simp] theorem okL_bx (l : List RV) (T : Tm) : okL (.v (.bx l)) T = true := rfl
@[simp] theorem okL_agg (cs : List RV) (T : Tm) : okL (.v (.agg cs)) T = cs.all fun | .fn .. | .agg _ => false | _ => true := rfl
@[simp] theorem okL_adr (r : Nat) (p : List Sel) (o k : Nat) (T : Tm) : okL (.adr r p o k) T = true := rfl
@[simp] theorem okL_ade (r : Nat) (p : List Sel) (i o k : Nat) (T : Tm) : okL (.ade r p i o k) T = true := rfl
@[simp] theorem okL_win (r : Nat) (p : List Sel) (o k : Nat) (T : Tm) : okL (.win r p o k) T = true := rfl
@[simp] theorem okL_slN (e : TypeId) (T : Tm) : okL (.sl e []) T = true := rfl
@[simp] theorem okL_als (r : Nat) (p : List Sel) (T : Tm) : okL (.als r p) T = match (T r).get p with | some (.sl ..) | some (.mp ..) | some (.bx ..) => true | _ => false := rfl
@[simp] theorem clr_v (fa fd : Nat → List Sel → Bool) (x : RV) : TV.clr fa fd (.v x) = (.v x) := rfl
@[simp] theorem clr_sl (fa fd : Nat → List Sel → Bool) (e : TypeId) (l : List RV) : TV.clr fa fd (.sl e l) = (.sl e l) := rfl
@[simp] theorem clr_mp (fa fd : Nat → List Sel → Bool) (e : TypeId) (l : List RV) (m : List TV) : TV.clr fa fd (.mp e l m) = (.mp e l m) := rfl
@[simp] theorem clr_bx (fa fd : Nat → List Sel → Bool) (t : TypeId) (l : List TV) : TV.clr fa fd (.bx t l) = (.bx t l) := rfl
@[simp] theorem clr_agg (fa fd : Nat → List Sel → Bool) (l : List TV) : TV.clr fa fd (.agg l) = (.agg l) := rfl
@[simp] theorem clr_junk (fa fd : Nat → List Sel → Bool)  : TV.clr fa fd .junk = .junk := rfl
@[simp] theorem clr_als (fa fd : Nat → List Sel → Bool) (r : Nat) (p : List Sel) : TV.clr fa fd (.als r p) = if fa r p then .junk else .als r p := rfl
@[simp] theorem clr_adr (fa fd : Nat → List Sel → Bool) (r : Nat) (p : List Sel) (o k : Nat) : TV.clr fa fd (.adr r p o k) = if fd r p then .junk else .adr r p o k := rfl
@[simp] theorem clr_ade (fa fd : Nat → List Sel → Bool) (r : Nat) (p : List Sel) (i o k : Nat) : TV.clr fa fd (.ade r p i o k) = if fd r p then .junk else .ade r p i o k := rfl
@[simp] theorem clr_win (fa fd : Nat → List Sel → Bool) (r : Nat) (p : List Sel) (o k : Nat) : TV.clr fa fd (.win r p o k) = if fd r p then .junk else .win r p o k := rfl
@[simp] theorem clr1_v (fa fd : Nat → List Sel → Bool) (x : RV) : TV.clr1 fa fd (.v x) = (.v x) := rfl
@[simp] theorem clr1_sl (fa fd : Nat → List Sel → Bool) (e : TypeId) (l : List RV) : TV.clr1 fa fd (.sl e l) = (.sl e l) := rfl
@[simp] theorem clr1_mp (fa fd : Nat → List Sel → Bool) (e : TypeId) (l : List RV) (m : List TV) : TV.clr1 fa fd (.mp e l m) = (.mp e l m) := rfl
@[simp] theorem clr1_bx (fa fd : Nat → List Sel → Bool) (t : TypeId) (l : List TV) : TV.clr1 fa fd (.bx t l) = (.bx t l) := rfl
@[simp] theorem clr1_agg (fa fd : Nat → List Sel → Bool) (l : List TV) : TV.clr1 fa fd (.agg l) = (.agg l) := rfl
@[simp] theorem clr1_junk (fa fd : Nat → List Sel → Bool)  : TV.clr1 fa fd .junk = .junk := rfl
@[simp] theorem clr1_als (fa fd : Nat → List Sel → Bool) (r : Nat) (p : List Sel) : TV.clr1 fa fd (.als r p) = if fa r p then .junk else .als r p := rfl
@[simp] theorem clr1_adr (fa fd : Nat → List Sel → Bool) (r : Nat) (p : List Sel) (o k : Nat) : TV.clr1 fa fd (.adr r p o k) = if fd r p then .junk else .adr r p o k := rfl
@[simp] theorem clr1_ade (fa fd : Nat → List Sel → Bool) (r : Nat) (p : List Sel) (i o k : Nat) : TV.clr1 fa fd (.ade r p i o k) = if fd r p then .junk else .ade r p i o k := rfl
@[simp] theorem clr1_win (fa fd : Nat → List Sel → Bool) (r : Nat) (p : List Sel) (o k : Nat) : TV.clr1 fa fd (.win r p o k) = if fd r p then .junk else .win r p o k := rfl
@[simp] theorem clr_tup (fa fd : Nat → List Sel → Bool) (l : List TV) : TV.clr fa fd (.tup l) = .tup (l.map (·.clr1 fa fd)) := rfl
@[simp] theorem clr_fn (fa fd : Nat → List Sel → Bool) (f : FuncId) (a c : List TV) : TV.clr fa fd (.fn f a c) = .fn f (a.map (·.clr1 fa fd)) (c.map (·.clr1 fa fd)) := rfl
@[simp] theorem clr1_tup (fa fd : Nat → List Sel → Bool) (l : List TV) : TV.clr1 fa fd (.tup l) = .tup l := rfl
@[simp] theorem clr1_fn (fa fd : Nat → List Sel → Bool) (f : FuncId) (a c : List TV) : TV.clr1 fa fd (.fn f a c) = .fn f a c := rfl

@[simp] theorem cells_agg (cs : List RV) : RV.cells (.agg cs) = cs := rfl
@[simp] theorem cells_bool (b : Bool) : RV.cells (.bool b) = [.bool b] := rfl
@[simp] theorem cells_int (k : IntKind) (i : Int) : RV.cells (.int k i) = [.int k i] := rfl
@[simp] theorem cells_str (s : ByteArray) : RV.cells (.str s) = [.str s] := rfl
@[simp] theorem cells_nilp : RV.cells .nilp = [.nilp] := rfl
@[simp] theorem cells_nilf : RV.cells .nilf = [.nilf] := rfl
@[simp] theorem cells_nilm : RV.cells .nilm = [.nilm] := rfl
@[simp] theorem cells_fn (f : FuncId) (a c : List RV) : RV.cells (.fn f a c) = [.fn f a c] := rfl
@[simp] theorem cells_sl (e : TypeId) (l : List RV) : RV.cells (.sl e l) = [.sl e l] := rfl
@[simp] theorem cells_mp (e : TypeId) (l m : List RV) : RV.cells (.mp e l m) = [.mp e l m] := rfl
@[simp] theorem cells_bx (l : List RV) : RV.cells (.bx l) = [.bx l] := rfl
@[simp] theorem isAgg_agg (cs : List RV) : RV.isAgg (.agg cs) = true := rfl
@[simp] theorem isAgg_bool (b : Bool) : RV.isAgg (.bool b) = false := rfl
@[simp] theorem isAgg_int (k : IntKind) (i : Int) : RV.isAgg (.int k i) = false := rfl
@[simp] theorem isAgg_str (s : ByteArray) : RV.isAgg (.str s) = false := rfl
@[simp] theorem isAgg_nilp : RV.isAgg .nilp = false := rfl
@[simp] theorem isAgg_nilf : RV.isAgg .nilf = false := rfl
@[simp] theorem isAgg_nilm : RV.isAgg .nilm = false := rfl
@[simp] theorem isAgg_fn (f : FuncId) (a c : List RV) : RV.isAgg (.fn f a c) = false := rfl
@[simp] theorem isAgg_sl (e : TypeId) (l : List RV) : RV.isAgg (.sl e l) = false := rfl
@[simp] theorem isAgg_mp (e : TypeId) (l m : List RV) : RV.isAgg (.mp e l m) = false := rfl
@[simp] theorem isAgg_bx (l : List RV) : RV.isAgg (.bx l) = false := rfl
@[simp] theorem flat_agg (cs : List RV) : RV.flat (.agg cs) = flatLs cs := by simp [RV.flat]
@[simp] theorem flat_bool (b : Bool) : RV.flat (.bool b) = true := by simp [RV.flat]
@[simp] theorem flat_int (k : IntKind) (i : Int) : RV.flat (.int k i) = true := by simp [RV.flat]
@[simp] theorem flat_str (s : ByteArray) : RV.flat (.str s) = true := by simp [RV.flat]
@[simp] theorem flat_nilp : RV.flat .nilp = true := by simp [RV.flat]
@[simp] theorem flat_nilf : RV.flat .nilf = true := by simp [RV.flat]
@[simp] theorem flat_nilm : RV.flat .nilm = true := by simp [RV.flat]
@[simp] theorem flat_fn (f : FuncId) (a c : List RV) : RV.flat (.fn f a c) = false := by simp [RV.flat]
@[simp] theorem flat_sl (e : TypeId) (l : List RV) : RV.flat (.sl e l) = false := by simp [RV.flat]
@[simp] theorem flat_mp (e : TypeId) (l m : List RV) : RV.flat (.mp e l m) = false := by simp [RV.flat]
@[simp] theorem flat_bx (l : List RV) : RV.flat (.bx l) = false := by simp [RV.flat]
@[simp] theorem flatT_v (x : RV) : flatT (.v x) = x.flat := rfl
@[simp] theorem cellsT_v_agg (xs : List RV) : TV.cellsT (.v (.agg xs)) = xs.map .v := rfl
@[simp] theorem cellsT_v_bool (b : Bool) : TV.cellsT (.v (.bool b)) = [.v (.bool b)] := rfl
@[simp] theorem cellsT_v_int (k : IntKind) (i : Int) : TV.cellsT (.v (.int k i)) = [.v (.int k i)] := rfl
@[simp] theorem cellsT_v_str (s : ByteArray) : TV.cellsT (.v (.str s)) = [.v (.str s)] := rfl
@[simp] theorem cellsT_v_nilp : TV.cellsT (.v .nilp) = [.v .nilp] := rfl
@[simp] theorem cellsT_v_nilf : TV.cellsT (.v .nilf) = [.v .nilf] := rfl
@[simp] theorem cellsT_v_nilm : TV.cellsT (.v .nilm) = [.v .nilm] := rfl
@[simp] theorem cellsT_v_fn (f : FuncId) (a c : List RV) : TV.cellsT (.v (.fn f a c)) = [.v (.fn f a c)] := rfl
@[simp] theorem cellsT_v_sl (e : TypeId) (l : List RV) : TV.cellsT (.v (.sl e l)) = [.v (.sl e l)] := rfl
@[simp] theorem cellsT_v_mp (e : TypeId) (l m : List RV) : TV.cellsT (.v (.mp e l m)) = [.v (.mp e l m)] := rfl
@[simp] theorem cellsT_v_bx (l : List RV) : TV.cellsT (.v (.bx l)) = [.v (.bx l)] := rfl
@[simp] theorem cellsT_agg (cs : List TV) : TV.cellsT (.agg cs) = cs := rfl
@[simp] theorem cellsT_sl (e : TypeId) (l : List RV) : TV.cellsT (.sl e l) = [.sl e l] := rfl
@[simp] theorem cellsT_mp (e : TypeId) (l : List RV) (m : List TV) : TV.cellsT (.mp e l m) = [.mp e l m] := rfl
@[simp] theorem cellsT_bx (t : TypeId) (l : List TV) : TV.cellsT (.bx t l) = [.bx t l] := rfl
@[simp] theorem eqP_b (T : Tm) (a b : Bool) : eqP T .b (.v (.bool a)) (.v (.bool b)) = some (a == b) := rfl
@[simp] theorem eqP_s (T : Tm) (sk : List Sk) (a b : List RV) : eqP T (.s sk) (.v (.agg a)) (.v (.agg b)) = if fitL sk a && fitL sk b then eqLs a b else none := rfl
@[simp] theorem eqP_p1 (T : Tm) : eqP T .p (.v .nilp) (.v .nilp) = some true := rfl
@[simp] theorem eqP_p2 (T : Tm) (l : List RV) : eqP T .p (.v (.bx l)) (.v .nilp) = some false := rfl
@[simp] theorem eqP_p3 (T : Tm) (r : Nat) (p : List Sel) : eqP T .p (.als r p) (.v .nilp) = match (T r).get p with | some (.bx ..) => some false | _ => none := rfl
@[simp] theorem eqP_p4 (T : Tm) (r : Nat) (p : List Sel) (o k : Nat) : eqP T .p (.adr r p o k) (.v .nilp) = some false := rfl
@[simp] theorem eqP_p5 (T : Tm) (r : Nat) (p : List Sel) (i o k : Nat) : eqP T .p (.ade r p i o k) (.v .nilp) = some false := rfl
@[simp] theorem eqP_m1 (T : Tm) : eqP T .m (.v .nilm) (.v .nilm) = some true := rfl
@[simp] theorem eqP_m2 (T : Tm) (e : TypeId) (l m : List RV) : eqP T .m (.v (.mp e l m)) (.v .nilm) = some false := rfl
@[simp] theorem eqP_m3 (T : Tm) (r : Nat) (p : List Sel) : eqP T .m (.als r p) (.v .nilm) = match (T r).get p with | some (.mp ..) => some false | _ => none := rfl
@[simp] theorem eqP_l1 (T : Tm) (e e' : TypeId) (x : RV) (l : List RV) : eqP T .l (.v (.sl e (x :: l))) (.sl e' []) = some false := rfl
@[simp] theorem eqP_l2 (T : Tm) (e e' : TypeId) : eqP T .l (.v (.sl e [])) (.sl e' []) = none := rfl
@[simp] theorem eqP_l3 (T : Tm) (r : Nat) (p : List Sel) (e : TypeId) : eqP T .l (.als r p) (.sl e []) = match (T r).get p with | some (.sl _ (_ :: _)) => some false | _ => none := rfl
/-- The bits of two whole numbers. -/
def andI (k : IntKind) (a b : Int) : Int := k.wrap (BitVec.ofInt k.bits a &&& BitVec.ofInt k.bits b).toNat
def orB (k : IntKind) (a b : Int) : Int := k.wrap (BitVec.ofInt k.bits a ||| BitVec.ofInt k.bits b).toNat
def xorI (k : IntKind) (a b : Int) : Int := k.wrap (BitVec.ofInt k.bits a ^^^ BitVec.ofInt k.bits b).toNat
def andNotI (k : IntKind) (a b : Int) : Int := k.wrap (BitVec.ofInt k.bits a &&& ~~~(BitVec.ofInt k.bits b)).toNat
@[simp] theorem intP_add (k : IntKind) (a b : Int) : intP .add k a b = some (.int k (k.wrap (a + b))) := rfl
@[simp] theorem intP_sub (k : IntKind) (a b : Int) : intP .sub k a b = some (.int k (k.wrap (a - b))) := rfl
@[simp] theorem intP_mul (k : IntKind) (a b : Int) : intP .mul k a b = some (.int k (k.wrap (a * b))) := rfl
@[simp] theorem intP_quo (k : IntKind) (a b : Int) : intP .quo k a b = if b = 0 then none else some (.int k (k.wrap (a.tdiv b))) := rfl
@[simp] theorem intP_rem (k : IntKind) (a b : Int) : intP .rem k a b = if b = 0 then none else some (.int k (a.tmod b)) := rfl
@[simp] theorem intP_and (k : IntKind) (a b : Int) : intP .and k a b = some (.int k (andI k a b)) := rfl
@[simp] theorem intP_or (k : IntKind) (a b : Int) : intP .or k a b = some (.int k (orB k a b)) := rfl
@[simp] theorem intP_xor (k : IntKind) (a b : Int) : intP .xor k a b = some (.int k (xorI k a b)) := rfl
@[simp] theorem intP_andNot (k : IntKind) (a b : Int) : intP .andNot k a b = some (.int k (andNotI k a b)) := rfl
@[simp] theorem intP_shl (k : IntKind) (a b : Int) : intP .shl k a b = if b < 0 then none else some (.int k (k.wrap (a * 2 ^ (min b.toNat k.bits)))) := rfl
@[simp] theorem intP_shr (k : IntKind) (a b : Int) : intP .shr k a b = if b < 0 then none else some (.int k (a.fdiv (2 ^ (min b.toNat k.bits)))) := rfl
@[simp] theorem intP_eql (k : IntKind) (a b : Int) : intP .eql k a b = some (.bool (a == b)) := rfl
@[simp] theorem intP_neq (k : IntKind) (a b : Int) : intP .neq k a b = some (.bool (a != b)) := rfl
@[simp] theorem intP_lss (k : IntKind) (a b : Int) : intP .lss k a b = some (.bool (decide (a < b))) := rfl
@[simp] theorem intP_leq (k : IntKind) (a b : Int) : intP .leq k a b = some (.bool (decide (a ≤ b))) := rfl
@[simp] theorem intP_gtr (k : IntKind) (a b : Int) : intP .gtr k a b = some (.bool (decide (a > b))) := rfl
@[simp] theorem intP_geq (k : IntKind) (a b : Int) : intP .geq k a b = some (.bool (decide (a ≥ b))) := rfl
/-- A number under a mask. -/
theorem andI_le (a : Int) (m : Nat) (hm : m < 9223372036854775808) : ∃ j : Nat, j ≤ m ∧ andI .i64 a m = j := by
  refine ⟨(BitVec.ofInt 64 a &&& BitVec.ofInt 64 (m : Int)).toNat, ?_, ?_⟩
  · rw [BitVec.toNat_and]
    refine Nat.le_trans Nat.and_le_right ?_
    rw [BitVec.ofInt_natCast, BitVec.toNat_ofNat]
    exact Nat.mod_le _ _
  · have h : (BitVec.ofInt 64 a &&& BitVec.ofInt 64 (m : Int)).toNat ≤ m := by
      rw [BitVec.toNat_and]
      refine Nat.le_trans Nat.and_le_right ?_
      rw [BitVec.ofInt_natCast, BitVec.toNat_ofNat]
      exact Nat.mod_le _ _
    show IntKind.i64.wrap ((BitVec.ofInt 64 a &&& BitVec.ofInt 64 (m : Int)).toNat : Int) = _
    exact wrap64 (by omega) (by omega)




end Go.PM

/-
  PM: structs of texts; lists whose neighbours differ.
-/
namespace Go.PM
open Go Go.AH
section
variable {P : Program} {Fn : FuncId → Bool} {Pr : CallR → CallR} {k : Nat} {H : Heap} {Z : Nat → Prop}

def rowV (x : Row k) : RV := .agg (x.1.map .str)

theorem rowV_rr (x : Row k) : RR P H Z (rowV x) (.agg (encR x).toArray) := by
  refine .agg ?_ (by simp [encR]) fun i h h' => ?_
  · simp [ones, encR, Value.oneCell']
  · simp only [List.getElem_map, List.getElem_toArray, encR]
    exact .str _

theorem rr_str {s : ByteArray} {a : Value} (h : RR P H Z (.str s) a) : a = .string s := by cases h; rfl

end

/-- Neighbours that are the same: the first one stays. -/
def dd {α : Type} [DecidableEq α] : List α → List α → List α
  | acc, [] => acc
  | acc, x :: l => dd (if acc.getLast? = some x then acc else acc ++ [x]) l

theorem fit_row {k : Nat} (x : Row k) : fitL (List.replicate k .s) (x.1.map .str) = true := by
  obtain ⟨l, rfl⟩ := x
  induction l with
  | nil => rfl
  | cons a l ih => simp only [List.length_cons, List.replicate_succ, List.map_cons, fitL, fitR, Bool.true_and]; exact ih
theorem eqS_iff {a b : ByteArray} : eqS a b = true ↔ a = b := by
  unfold eqS
  rw [eqU_eq, beq_iff_eq]
  constructor
  · intro h
    cases a with | mk a => cases b with | mk b =>
    simp at h
    rw [h]
  · rintro rfl; rfl
@[simp] theorem eqS_dec (a b : ByteArray) : eqS a b = decide (a = b) := by
  rw [Bool.eq_iff_iff, eqS_iff]; simp
theorem eqLs_str : ∀ {l m : List ByteArray}, l.length = m.length → eqLs (l.map .str) (m.map .str) = some (decide (l = m))
  | [], [], _ => rfl
  | a :: l, b :: m, h => by
    simp only [List.map_cons, eqLs, eqSc, Option.bind_some, eqLs_str (l := l) (m := m) (by simpa using h), Option.map_some]
    congr 1
    rw [Bool.eq_iff_iff]
    simp [eqS_iff]
  | [], _ :: _, h => by simp at h
  | _ :: _, [], h => by simp at h
@[simp] theorem eqP_row {k : Nat} {T : Tm} (x y : Row k) : eqP T (.s (List.replicate k .s)) (.v (rowV x)) (.v (rowV y)) = some (decide (x = y)) := by
  simp only [eqP, rowV, fit_row, Bool.and_self, if_true]
  rw [eqLs_str (by rw [x.2, y.2])]
  congr 1
  rw [Bool.eq_iff_iff]
  simp [Subtype.ext_iff]

section
variable {α : Type} [DecidableEq α]
theorem dd_snoc : ∀ (l acc : List α) (x : α), dd acc (l ++ [x]) = if (dd acc l).getLast? = some x then dd acc l else dd acc l ++ [x]
  | [], acc, x => rfl
  | y :: l, acc, x => by simp only [List.cons_append, dd]; exact dd_snoc l _ x
theorem dd_last : ∀ (l acc : List α), l ≠ [] → (dd acc l).getLast? = l.getLast?
  | [], _, h => absurd rfl h
  | [x], acc, _ => by
    simp only [dd]
    split
    · rename_i h; simpa using h
    · simp
  | x :: y :: l, acc, _ => by
    simp only [dd]
    have := dd_last (y :: l) (if acc.getLast? = some x then acc else acc ++ [x]) (by simp)
    simp only [dd] at this
    rw [this]
    simp
theorem dd_len : ∀ (l acc : List α), (dd acc l).length ≤ acc.length + l.length
  | [], _ => by simp [dd]
  | x :: l, acc => by
    simp only [dd]
    have := dd_len l (if acc.getLast? = some x then acc else acc ++ [x])
    split at this <;> rename_i h
    · simp only [if_pos h] at this ⊢; simp; omega
    · simp only [if_neg h] at this ⊢; simp at this ⊢; omega
theorem take_last {l : List α} {i : Nat} (h : 0 < i) (h2 : i ≤ l.length) : (l.take i).getLast? = l[i - 1]? := by
  rw [List.getLast?_eq_getElem?, List.length_take, Nat.min_eq_left h2, List.getElem?_take_of_lt (by omega)]
theorem dd_step {l : List α} {i : Nat} (h : 0 < i) (h2 : i < l.length) : dd [] (l.take (i + 1)) = if l[i - 1]? = l[i]? then dd [] (l.take i) else dd [] (l.take i) ++ [l[i]] := by
  rw [List.take_add_one, List.getElem?_eq_getElem h2, Option.toList_some, dd_snoc, dd_last _ _ (by
    intro e
    have := congrArg List.length e
    simp only [List.length_take, List.length_nil] at this
    omega), take_last h (by omega)]
end

@[simp] theorem demL_v : ∀ l : List RV, demL (l.map .v) = some l
  | [] => rfl
  | x :: l => by simp only [List.map_cons, demL, TV.dem, Option.bind_some, demL_v l, Option.map_some]
theorem row_cells {k : Nat} (x : Row k) : demL (TV.cellsT (.v (rowV x))) = some (x.1.map .str) := by
  simp only [rowV, TV.cellsT]
  exact demL_v _
theorem row_mk {k : Nat} (x y : Row k) : mkCell (rowV y) 0 (x.1.map .str) = rowV x := by
  simp only [rowV, mkCell, setR, List.take_zero, List.nil_append, Nat.zero_add]
  rw [List.drop_of_length_le (by simp [x.2, y.2]), List.append_nil]

@[simp] theorem demL_map {α : Type} (g : α → RV) : ∀ l : List α, demL (l.map fun s => .v (g s)) = some (l.map g)
  | [] => rfl
  | x :: l => by simp only [List.map_cons, demL, TV.dem, Option.bind_some, demL_map g l, Option.map_some]
@[simp] theorem demL_comp {α : Type} (g : α → RV) (l : List α) : demL (l.map (TV.v ∘ g)) = some (l.map g) := demL_map g l
@[simp] theorem row_len {k : Nat} (x : Row k) : (rowV x).cells.length = k := by simp [rowV, RV.cells, x.2]
@[simp] theorem row_take {k : Nat} (x : Row k) : RV.agg ((rowV x).cells.take k) = rowV x := by
  simp only [rowV, RV.cells]
  rw [List.take_of_length_le (by simp [x.2])]
@[simp] theorem row_isAgg {k : Nat} (x : Row k) : (rowV x).isAgg = true := rfl
@[simp] theorem row_cellsT {k : Nat} (x : Row k) : TV.cellsT (.v (rowV x)) = x.1.map fun s => .v (.str s) := by
  simp [rowV]
@[simp] theorem row_flat {k : Nat} (x : Row k) : (rowV x).flat = true := by
  simp only [rowV, RV.flat]
  have : ∀ l : List ByteArray, flatLs (l.map .str) = true := by
    intro l
    induction l with
    | nil => rfl
    | cons a l ih => simp only [List.map_cons, flatLs, RV.flat, ih]; rfl
  exact this _
theorem row_flats {k : Nat} (l : List (Row k)) : (l.map rowV).all RV.flat = true := by simp
theorem row1 (x : Row 1) : ∃ a1, x = ⟨[a1], rfl⟩ := by
  obtain ⟨l, h⟩ := x
  match l, h with
  | [a1], _ => exact ⟨a1, rfl⟩
theorem row2 (x : Row 2) : ∃ a1 a2, x = ⟨[a1, a2], rfl⟩ := by
  obtain ⟨l, h⟩ := x
  match l, h with
  | [a1, a2], _ => exact ⟨a1, a2, rfl⟩
theorem row3 (x : Row 3) : ∃ a1 a2 a3, x = ⟨[a1, a2, a3], rfl⟩ := by
  obtain ⟨l, h⟩ := x
  match l, h with
  | [a1, a2, a3], _ => exact ⟨a1, a2, a3, rfl⟩
theorem row4 (x : Row 4) : ∃ a1 a2 a3 a4, x = ⟨[a1, a2, a3, a4], rfl⟩ := by
  obtain ⟨l, h⟩ := x
  match l, h with
  | [a1, a2, a3, a4], _ => exact ⟨a1, a2, a3, a4, rfl⟩
theorem row5 (x : Row 5) : ∃ a1 a2 a3 a4 a5, x = ⟨[a1, a2, a3, a4, a5], rfl⟩ := by
  obtain ⟨l, h⟩ := x
  match l, h with
  | [a1, a2, a3, a4, a5], _ => exact ⟨a1, a2, a3, a4, a5, rfl⟩
theorem row6 (x : Row 6) : ∃ a1 a2 a3 a4 a5 a6, x = ⟨[a1, a2, a3, a4, a5, a6], rfl⟩ := by
  obtain ⟨l, h⟩ := x
  match l, h with
  | [a1, a2, a3, a4, a5, a6], _ => exact ⟨a1, a2, a3, a4, a5, a6, rfl⟩
@[simp] theorem okL_row {k : Nat} (x : Row k) (T : Tm) : okL (.v (rowV x)) T = true := by
  obtain ⟨l, h⟩ := x
  simp only [rowV, okL]
  clear h
  induction l with
  | nil => rfl
  | cons a l ih => simp
end Go.PM

/-
  PM: slices.Compact, for any element type: the code is the same but for the type's number, the element's cells, how it is loaded and compared.
-/
namespace Go.PM
open Go Go.AH
/-- slices.Compact. -/
def pcCompact (e k : Nat) (ld : Option Nat) (q n : PI) (z : RV) : PC :=
 (.seq
  (.ops [
   ⟨none, (some 2), .as false (.c (.sl e [])), [], []⟩] [] [0, 61] false)
  (.seq
   (.seq
    (.ops [
     ⟨none, (some 6), .mv (.t 0), [], []⟩,
     ⟨none, (some 7), .len 1 (.t 6), [], []⟩,
     ⟨none, (some 8), .bin .lss (.t 7) (.c (.int .i64 2)), [], []⟩] [] [0, 8, 61] false)
    (.cond (.t 8)
     (.seq
      (.ops [
       ⟨none, (some 9), .mv (.t 0), [], []⟩,
       ⟨none, (some 2), .as true (.t 9), [], []⟩] [] [2, 61] false)
      .ret)
     .skip))
   (.seq
    (.seq
     (.ops [
      ⟨none, (some 3), .as false (.c (.int .i64 1)), [], []⟩] [] [0, 3, 61] false)
     (.block 0
      (.loop
       (.seq
        (.seq
         (.ops [
          ⟨none, (some 10), .mv (.t 3), [], []⟩,
          ⟨none, (some 11), .mv (.t 0), [], []⟩,
          ⟨none, (some 12), .len 1 (.t 11), [], []⟩,
          ⟨none, (some 13), .bin .lss (.t 10) (.t 12), [], []⟩] [] [0, 3, 13, 61] false)
         (.cond (.t 13)
          .skip
          (.exit 0)))
        (.seq
         (.block 1
          (.seq
           (.ops [
            ⟨none, (some 16), .mv (.t 0), [], []⟩,
            ⟨none, (some 17), .mv (.t 3), [], []⟩,
            ⟨none, (some 18), .ia e k (.t 16) (.t 17), [], []⟩,
            ⟨none, (some 19), .load ld (.t 18), [], []⟩,
            ⟨none, (some 20), .mv (.t 0), [], []⟩,
            ⟨none, (some 21), .mv (.t 3), [], []⟩,
            ⟨none, (some 22), .bin .sub (.t 21) (.c (.int .i64 1)), [], []⟩,
            ⟨none, (some 23), .ia e k (.t 20) (.t 22), [], []⟩,
            ⟨none, (some 24), .load ld (.t 23), [], []⟩,
            ⟨none, (some 25), q, [], []⟩] [] [0, 3, 25, 61] true)
           (.cond (.t 25)
            (.seq
             (.ops [
              ⟨none, (some 26), .mv (.t 0), [], []⟩,
              ⟨none, (some 27), .mv (.t 3), [], []⟩,
              ⟨none, (some 28), .win e (.t 26) (some (.t 27)) none, [], []⟩,
              ⟨none, (some 4), .as false (.t 28), [], []⟩] [] [0, 3, 4, 61] false)
             (.seq
              (.seq
               (.ops [
                ⟨none, (some 5), .as false (.c (.int .i64 1)), [], []⟩] [] [0, 3, 4, 5, 61] false)
               (.block 2
                (.loop
                 (.seq
                  (.seq
                   (.ops [
                    ⟨none, (some 29), .mv (.t 5), [], []⟩,
                    ⟨none, (some 30), .mv (.t 4), [], []⟩,
                    ⟨none, (some 31), .len 1 (.t 30), [], []⟩,
                    ⟨none, (some 32), .bin .lss (.t 29) (.t 31), [], []⟩] [] [0, 3, 4, 5, 32, 61] false)
                   (.cond (.t 32)
                    .skip
                    (.exit 2)))
                  (.seq
                   (.block 3
                    (.seq
                     (.ops [
                      ⟨none, (some 35), .mv (.t 4), [], []⟩,
                      ⟨none, (some 36), .mv (.t 5), [], []⟩,
                      ⟨none, (some 37), .ia e k (.t 35) (.t 36), [], []⟩,
                      ⟨none, (some 38), .load ld (.t 37), [], []⟩,
                      ⟨none, (some 39), .mv (.t 4), [], []⟩,
                      ⟨none, (some 40), .mv (.t 5), [], []⟩,
                      ⟨none, (some 41), .bin .sub (.t 40) (.c (.int .i64 1)), [], []⟩,
                      ⟨none, (some 42), .ia e k (.t 39) (.t 41), [], []⟩,
                      ⟨none, (some 43), .load ld (.t 42), [], []⟩,
                      ⟨none, (some 44), n, [], []⟩] [] [0, 3, 4, 5, 44, 61] true)
                     (.cond (.t 44)
                      (.seq
                       (.ops [
                        ⟨none, (some 45), .mv (.t 0), [], []⟩,
                        ⟨none, (some 46), .mv (.t 3), [], []⟩,
                        ⟨none, (some 47), .mv (.t 4), [], []⟩,
                        ⟨none, (some 48), .mv (.t 5), [], []⟩,
                        ⟨none, (some 49), .ia e k (.t 47) (.t 48), [], []⟩,
                        ⟨none, (some 50), .load ld (.t 49), [], []⟩,
                        ⟨none, (some 51), .ia e k (.t 45) (.t 46), [], []⟩,
                        ⟨none, none, .store k (.t 51) (.t 50), [], []⟩] [] [0, 3, 4, 5, 61] false)
                       (.ops [
                        ⟨none, (some 52), .mv (.t 3), [], []⟩,
                        ⟨none, (some 53), .bin .add (.t 52) (.c (.int .i64 1)), [], []⟩,
                        ⟨none, (some 3), .as false (.t 53), [], []⟩] [] [0, 3, 4, 5, 61] false))
                      .skip)))
                   (.ops [
                    ⟨none, (some 33), .mv (.t 5), [], []⟩,
                    ⟨none, (some 34), .bin .add (.t 33) (.c (.int .i64 1)), [], []⟩,
                    ⟨none, (some 5), .as false (.t 34), [], []⟩] [] [0, 3, 4, 5, 61] false))))))
              (.seq
               (.ops [
                ⟨none, (some 54), .mv (.t 0), [], []⟩,
                ⟨none, (some 55), .mv (.t 3), [], []⟩,
                ⟨none, (some 56), .win e (.t 54) (some (.t 55)) none, [], []⟩,
                ⟨none, none, .clr e z (.t 56), [], []⟩] [] [0, 3, 61] false)
               (.seq
                (.ops [
                 ⟨none, (some 57), .mv (.t 0), [], []⟩,
                 ⟨none, (some 58), .mv (.t 3), [], []⟩,
                 ⟨none, (some 59), .slc true e (.t 57) none (some (.t 58)) none, [], []⟩,
                 ⟨none, (some 2), .as false (.t 59), [], []⟩] [] [2, 61] false)
                .ret))))
            .skip)))
         (.ops [
          ⟨none, (some 14), .mv (.t 3), [], []⟩,
          ⟨none, (some 15), .bin .add (.t 14) (.c (.int .i64 1)), [], []⟩,
          ⟨none, (some 3), .as false (.t 15), [], []⟩] [] [0, 3, 61] false))))))
    (.seq
     (.ops [
      ⟨none, (some 60), .mv (.t 0), [], []⟩,
      ⟨none, (some 2), .as true (.t 60), [], []⟩] [] [2, 61] false)
     .ret))))
def rsCompact : List PR := [.t 2]

abbrev qRow (k : Nat) : PI := .eqF false (.s (List.replicate k .s)) (.t 19) (.t 24)
abbrev nRow (k : Nat) : PI := .eqF true (.s (List.replicate k .s)) (.t 38) (.t 43)
abbrev zRow (k : Nat) : RV := .agg (List.replicate k (.str ⟨#[]⟩))

set_option maxHeartbeats 4000000 in
theorem snd_compactR {P : Program} {Fn : FuncId → Bool} {Pr : CallR → CallR} {f : FuncId} {e k : Nat} (hF : Fn f = true) (hchk : chkF P f 61 (pcCompact e k (some k) (qRow k) (nRow k) (zRow k)) rsCompact = true) (d : List (Row k)) (hl : d.length ≤ 4611686018427387904) :
    SndP P Fn Pr f [.sl e (d.map rowV)] [.sl e ((dd [] d).map rowV)] [.junk] := by
  refine snd_of hF hchk (by simp) ?_ rfl
  rw [show enterP 61 [.sl e (d.map rowV)] = E [(0, .als 61 []), (61, .sl e (d.map rowV))] from by
    funext x
    simp only [enterP, E_cons, E_nil, List.length_cons, List.length_nil]
    by_cases h0 : x = 0
    · subst h0; rfl
    · by_cases h1 : x = 61
      · subst h1; rfl
      · simp only [h0, h1, if_false]
        rw [if_neg (by omega)]
        split
        · rfl
        · rw [show ([TV.sl e (d.map rowV)])[x - 61]? = none from List.getElem?_eq_none (by simp; omega)]]
  simp only [pcCompact]
  refine run_of ?_
  repeat (first | refine run_seq ?_ | refine run_block ?_ | refine run_b ?_ | refine run_skip ?_ | refine run_ops (by simp; rfl) rfl rfl (by simp; rfl) ?_)
  refine run_cond (by simp; rfl) (fun ht => ?_) (fun ht => ?_)
  · simp at ht
    repeat (first | refine run_seq ?_ | refine run_block ?_ | refine run_b ?_ | refine run_skip ?_ | refine run_ops (by simp; rfl) rfl rfl (by simp; rfl) ?_)
    refine run_ret ⟨.inr rfl, ?_⟩
    simp [rsCompact]
    refine ⟨_, _, ⟨rfl, rfl⟩, ?_, rfl⟩
    match d, ht with
    | [], _ => rfl
    | [x], _ => rfl
    | _ :: _ :: _, ht => simp at ht; omega
  · simp at ht
    repeat (first | refine run_seq ?_ | refine run_block ?_ | refine run_b ?_ | refine run_skip ?_ | refine run_ops (by simp; rfl) rfl rfl (by simp; rfl) ?_)
    refine run_loop (α := Nat) (fun i => E [(0, .als 61 []), (3, .v (.int .i64 i)), (61, .sl e (d.map rowV))]) (fun i => 1 ≤ i ∧ i ≤ d.length ∧ dd [] (d.take i) = d.take i) (fun i => d.length - i) 1 (by rfl) ⟨by omega, by omega, by match d with | [] => rfl | x :: _ => rfl⟩ ?_
    intro i ⟨hi1, hi2, hi3⟩
    repeat (first | refine run_seq ?_ | refine run_block ?_ | refine run_b ?_ | refine run_skip ?_ | refine run_ops (by simp; rfl) rfl rfl (by simp; rfl) ?_)
    refine run_cond (by simp; rfl) (fun ht => ?_) (fun ht => run_exit rfl ?_)
    · simp at ht
      have e1 : IntKind.i64.wrap ((i : Int) - 1) = ((i - 1 : Nat) : Int) := by rw [wrap64 (by omega) (by omega)]; omega
      have g1 : d[i]? = some d[i] := List.getElem?_eq_getElem ht
      have g2 : d[i - 1]? = some d[i - 1] := List.getElem?_eq_getElem (by omega)
      have g3 : i - 1 < d.length := by omega
      have hrl : ∀ x : Row k, k ≤ (rowV x).cells.length ∧ RV.agg ((rowV x).cells.take k) = rowV x := fun x => by
        refine ⟨by simp [rowV, RV.cells, x.2], ?_⟩
        simp only [rowV, RV.cells]
        rw [List.take_of_length_le (by simp [x.2])]
      repeat (first | refine run_seq ?_ | refine run_block ?_ | refine run_b ?_ | refine run_skip ?_)
      refine run_ops (by simp [e1, ht, g1, g2, g3, hrl, eqP_row]; rfl) rfl rfl (by simp; rfl) ?_
      refine run_cond (by simp; rfl) (fun hq => ?_) (fun hq => ?_)
      · simp at hq
        have q0 : dd [] (d.take (i + 1)) = d.take i := by rw [dd_step hi1 ht, g1, g2, hq, if_pos rfl, hi3]
        have hdn : d ≠ [] := List.length_pos_iff.1 (by omega)
        repeat (first | refine run_seq ?_ | refine run_block ?_ | refine run_b ?_ | refine run_skip ?_)
        refine run_ops (by simp [hdn, hi2]; rfl) rfl rfl (by simp; rfl) ?_
        repeat (first | refine run_seq ?_ | refine run_block ?_ | refine run_b ?_ | refine run_skip ?_ | refine run_ops (by simp; rfl) rfl rfl (by simp; rfl) ?_)
        refine run_loop (α := Nat) (fun j => E [(0, .als 61 []), (3, .v (.int .i64 ((dd [] (d.take (i + j))).length : Nat))), (4, .win 61 [] i (d.length - i)), (5, .v (.int .i64 j)), (61, .sl e ((dd [] (d.take (i + j)) ++ d.drop (dd [] (d.take (i + j))).length).map rowV))]) (fun j => 1 ≤ j ∧ i + j ≤ d.length ∧ (dd [] (d.take (i + j))).length < i + j) (fun j => d.length - j) 1 ?_ ?_ ?_
        · rw [q0]; simp [Nat.min_eq_left hi2]
        · rw [q0]; simp; omega
        intro j ⟨hj1, hj2, hj3⟩
        generalize hD : dd [] (d.take (i + j)) = D at hj3
        have hM1 : (D ++ d.drop D.length).length = d.length := by simp; omega
        have hM2 : ∀ t, D.length ≤ t → (D ++ d.drop D.length)[t]? = d[t]? := fun t h => by rw [List.getElem?_append_right h, List.getElem?_drop]; congr 1; omega
        have hM3 : (D ++ d.drop D.length).take D.length = D := by simp
        generalize hM : D ++ d.drop D.length = M at hM1 hM2 hM3
        repeat (first | refine run_seq ?_ | refine run_block ?_ | refine run_b ?_ | refine run_skip ?_ | refine run_ops (by simp; rfl) rfl rfl (by simp; rfl) ?_)
        refine run_cond (by simp; rfl) (fun ht2 => ?_) (fun ht2 => run_exit rfl ?_)
        · simp at ht2
          have f1 : IntKind.i64.wrap ((j : Int) - 1) = ((j - 1 : Nat) : Int) := by rw [wrap64 (by omega) (by omega)]; omega
          have f2 : M[i + j]? = some (d[i + j]'(by omega)) := by rw [hM2 _ (by omega), List.getElem?_eq_getElem (by omega)]
          have f3 : M[i + (j - 1)]? = some (d[i + (j - 1)]'(by omega)) := by rw [hM2 _ (by omega), List.getElem?_eq_getElem (by omega)]
          have f4 : j - 1 < d.length - i := by omega
          repeat (first | refine run_seq ?_ | refine run_block ?_ | refine run_b ?_ | refine run_skip ?_)
          refine run_ops (by simp [f1, f2, f3, f4, ht2, hrl, eqP_row]; rfl) rfl rfl (by simp; rfl) ?_
          refine run_cond (t := !decide (d[i + j]'(by omega) = d[i + (j - 1)]'(by omega))) (by simp) (fun hq2 => ?_) (fun hq2 => ?_)
          · simp at hq2
            have w1 : D.length < d.length := by omega
            have w2 : M[D.length]? = some (d[D.length]'w1) := by rw [hM2 _ (Nat.le_refl _), List.getElem?_eq_getElem w1]
            have w3 := (d[i + j]'(by omega)).2
            repeat (first | refine run_seq ?_ | refine run_block ?_ | refine run_b ?_ | refine run_skip ?_)
            refine run_ops (by simp [f2, ht2, hM1, hrl, w1, w2, row_cells, row_mk, w3]; rfl) rfl rfl (by simp; rfl) ?_
            have q1 : dd [] (d.take (i + (j + 1))) = D ++ [d[i + j]'(by omega)] := by
              rw [show i + (j + 1) = i + j + 1 by omega, dd_step (by omega) (by omega), hD, show i + j - 1 = i + (j - 1) by omega, List.getElem?_eq_getElem (by omega), List.getElem?_eq_getElem (by omega), if_neg (fun h => hq2 (Option.some.inj h).symm)]
            have q2 : ∀ y : Row k, (M.map rowV).set D.length (rowV y) = (D ++ [y] ++ d.drop (D.length + 1)).map rowV := fun y => by
              rw [← List.map_set, ← hM]
              congr 1
              rw [List.set_append_right _ _ (Nat.le_refl _), Nat.sub_self, List.drop_eq_getElem_cons w1, List.set_cons_zero, List.append_assoc]
              rfl
            rw [q2]
            generalize hM9 : (D ++ [d[i + j]'(by omega)] ++ d.drop (D.length + 1)).map rowV = M9
            repeat (first | refine run_seq ?_ | refine run_block ?_ | refine run_b ?_ | refine run_skip ?_ | refine run_ops (by simp; rfl) rfl rfl (by simp; rfl) ?_)
            refine run_inv ⟨j + 1, ⟨by omega, by omega, by rw [q1]; simp; omega⟩, by omega, ?_⟩
            rw [q1, List.length_append, List.length_singleton, hM9, wrap64 (by omega) (by omega), wrap64 (by omega) (by omega)]
            rfl
          · simp at hq2
            repeat (first | refine run_seq ?_ | refine run_block ?_ | refine run_b ?_ | refine run_skip ?_ | refine run_ops (by simp; rfl) rfl rfl (by simp; rfl) ?_)
            have q1 : dd [] (d.take (i + (j + 1))) = D := by
              rw [show i + (j + 1) = i + j + 1 by omega, dd_step (by omega) (by omega), hD, show i + j - 1 = i + (j - 1) by omega, List.getElem?_eq_getElem (by omega), List.getElem?_eq_getElem (by omega), hq2, if_pos rfl]
            refine run_inv ⟨j + 1, ⟨by omega, by omega, by rw [q1]; omega⟩, by omega, ?_⟩
            rw [q1, hM, wrap64 (by omega) (by omega)]
            simp
        · simp at ht2
          have e3 : i + j = d.length := by omega
          rw [e3, List.take_length] at hD
          have n1 : M ≠ [] := List.length_pos_iff.1 (by omega)
          have n2 : D.length ≤ d.length := by omega
          repeat (first | refine run_seq ?_ | refine run_block ?_ | refine run_b ?_ | refine run_skip ?_)
          refine run_ops (by simp [n1, n2, hM1]; rfl) rfl rfl (by simp; rfl) ?_
          generalize hB : ((M.map rowV).take D.length ++ (List.replicate (d.length - D.length) (zRow k) ++ (M.map rowV).drop d.length)) = B
          have b1 : D.length ≤ B.length := by rw [← hB]; simp; omega
          have b2 : B.take D.length = D.map rowV := by
            rw [← hB, List.take_append_of_le_length (by simp; omega), List.take_take, Nat.min_self, ← List.map_take, hM3]
          repeat (first | refine run_seq ?_ | refine run_block ?_ | refine run_b ?_ | refine run_skip ?_)
          refine run_ops (by simp [b1]; rfl) rfl rfl (by simp; rfl) ?_
          refine run_ret ⟨.inr rfl, ?_⟩
          simp [rsCompact, b2, hD]
          try (refine ⟨_, _, ⟨rfl, rfl⟩, rfl, rfl⟩)
      · simp at hq
        repeat (first | refine run_seq ?_ | refine run_block ?_ | refine run_b ?_ | refine run_skip ?_ | refine run_ops (by simp; rfl) rfl rfl (by simp; rfl) ?_)
        refine run_inv ⟨i + 1, ⟨by omega, by omega, ?_⟩, by omega, ?_⟩
        · rw [dd_step hi1 ht, g1, g2, if_neg (fun h => hq (Option.some.inj h).symm), hi3, List.take_add_one, g1]; rfl
        · rw [wrap64 (by omega) (by omega)]; rfl
    · simp at ht
      repeat (first | refine run_seq ?_ | refine run_block ?_ | refine run_b ?_ | refine run_skip ?_ | refine run_ops (by simp; rfl) rfl rfl (by simp; rfl) ?_)
      refine run_ret ⟨.inr rfl, ?_⟩
      simp [rsCompact]
      refine ⟨_, _, ⟨rfl, rfl⟩, ?_, rfl⟩
      have : i = d.length := by omega
      subst this
      rw [List.take_length] at hi3
      rw [hi3]
set_option maxHeartbeats 4000000 in
theorem snd_compactS {P : Program} {Fn : FuncId → Bool} {Pr : CallR → CallR} {f : FuncId} {e : Nat} (hF : Fn f = true) (hchk : chkF P f 61 (pcCompact e 1 none (.bin .eql (.t 19) (.t 24)) (.bin .neq (.t 38) (.t 43)) (.str ⟨#[]⟩)) rsCompact = true) (d : List ByteArray) (hl : d.length ≤ 4611686018427387904) :
    SndP P Fn Pr f [.sl e (d.map RV.str)] [.sl e ((dd [] d).map RV.str)] [.junk] := by
  refine snd_of hF hchk (by simp) ?_ rfl
  rw [show enterP 61 [.sl e (d.map RV.str)] = E [(0, .als 61 []), (61, .sl e (d.map RV.str))] from by
    funext x
    simp only [enterP, E_cons, E_nil, List.length_cons, List.length_nil]
    by_cases h0 : x = 0
    · subst h0; rfl
    · by_cases h1 : x = 61
      · subst h1; rfl
      · simp only [h0, h1, if_false]
        rw [if_neg (by omega)]
        split
        · rfl
        · rw [show ([TV.sl e (d.map RV.str)])[x - 61]? = none from List.getElem?_eq_none (by simp; omega)]]
  simp only [pcCompact]
  refine run_of ?_
  repeat (first | refine run_seq ?_ | refine run_block ?_ | refine run_b ?_ | refine run_skip ?_ | refine run_ops (by simp; rfl) rfl rfl (by simp; rfl) ?_)
  refine run_cond (by simp; rfl) (fun ht => ?_) (fun ht => ?_)
  · simp at ht
    repeat (first | refine run_seq ?_ | refine run_block ?_ | refine run_b ?_ | refine run_skip ?_ | refine run_ops (by simp; rfl) rfl rfl (by simp; rfl) ?_)
    refine run_ret ⟨.inr rfl, ?_⟩
    simp [rsCompact]
    refine ⟨_, _, ⟨rfl, rfl⟩, ?_, rfl⟩
    match d, ht with
    | [], _ => rfl
    | [x], _ => rfl
    | _ :: _ :: _, ht => simp at ht; omega
  · simp at ht
    repeat (first | refine run_seq ?_ | refine run_block ?_ | refine run_b ?_ | refine run_skip ?_ | refine run_ops (by simp; rfl) rfl rfl (by simp; rfl) ?_)
    refine run_loop (α := Nat) (fun i => E [(0, .als 61 []), (3, .v (.int .i64 i)), (61, .sl e (d.map RV.str))]) (fun i => 1 ≤ i ∧ i ≤ d.length ∧ dd [] (d.take i) = d.take i) (fun i => d.length - i) 1 (by rfl) ⟨by omega, by omega, by match d with | [] => rfl | x :: _ => rfl⟩ ?_
    intro i ⟨hi1, hi2, hi3⟩
    repeat (first | refine run_seq ?_ | refine run_block ?_ | refine run_b ?_ | refine run_skip ?_ | refine run_ops (by simp; rfl) rfl rfl (by simp; rfl) ?_)
    refine run_cond (by simp; rfl) (fun ht => ?_) (fun ht => run_exit rfl ?_)
    · simp at ht
      have e1 : IntKind.i64.wrap ((i : Int) - 1) = ((i - 1 : Nat) : Int) := by rw [wrap64 (by omega) (by omega)]; omega
      have g1 : d[i]? = some d[i] := List.getElem?_eq_getElem ht
      have g2 : d[i - 1]? = some d[i - 1] := List.getElem?_eq_getElem (by omega)
      have g3 : i - 1 < d.length := by omega
      repeat (first | refine run_seq ?_ | refine run_block ?_ | refine run_b ?_ | refine run_skip ?_)
      refine run_ops (by simp [e1, ht, g1, g2, g3]; rfl) rfl rfl (by simp; rfl) ?_
      refine run_cond (by simp; rfl) (fun hq => ?_) (fun hq => ?_)
      · simp at hq
        have q0 : dd [] (d.take (i + 1)) = d.take i := by rw [dd_step hi1 ht, g1, g2, hq, if_pos rfl, hi3]
        have hdn : d ≠ [] := List.length_pos_iff.1 (by omega)
        repeat (first | refine run_seq ?_ | refine run_block ?_ | refine run_b ?_ | refine run_skip ?_)
        refine run_ops (by simp [hdn, hi2]; rfl) rfl rfl (by simp; rfl) ?_
        repeat (first | refine run_seq ?_ | refine run_block ?_ | refine run_b ?_ | refine run_skip ?_ | refine run_ops (by simp; rfl) rfl rfl (by simp; rfl) ?_)
        refine run_loop (α := Nat) (fun j => E [(0, .als 61 []), (3, .v (.int .i64 ((dd [] (d.take (i + j))).length : Nat))), (4, .win 61 [] i (d.length - i)), (5, .v (.int .i64 j)), (61, .sl e ((dd [] (d.take (i + j)) ++ d.drop (dd [] (d.take (i + j))).length).map RV.str))]) (fun j => 1 ≤ j ∧ i + j ≤ d.length ∧ (dd [] (d.take (i + j))).length < i + j) (fun j => d.length - j) 1 ?_ ?_ ?_
        · rw [q0]; simp [Nat.min_eq_left hi2]
        · rw [q0]; simp; omega
        intro j ⟨hj1, hj2, hj3⟩
        generalize hD : dd [] (d.take (i + j)) = D at hj3
        have hM1 : (D ++ d.drop D.length).length = d.length := by simp; omega
        have hM2 : ∀ t, D.length ≤ t → (D ++ d.drop D.length)[t]? = d[t]? := fun t h => by rw [List.getElem?_append_right h, List.getElem?_drop]; congr 1; omega
        have hM3 : (D ++ d.drop D.length).take D.length = D := by simp
        generalize hM : D ++ d.drop D.length = M at hM1 hM2 hM3
        repeat (first | refine run_seq ?_ | refine run_block ?_ | refine run_b ?_ | refine run_skip ?_ | refine run_ops (by simp; rfl) rfl rfl (by simp; rfl) ?_)
        refine run_cond (by simp; rfl) (fun ht2 => ?_) (fun ht2 => run_exit rfl ?_)
        · simp at ht2
          have f1 : IntKind.i64.wrap ((j : Int) - 1) = ((j - 1 : Nat) : Int) := by rw [wrap64 (by omega) (by omega)]; omega
          have f2 : M[i + j]? = some (d[i + j]'(by omega)) := by rw [hM2 _ (by omega), List.getElem?_eq_getElem (by omega)]
          have f3 : M[i + (j - 1)]? = some (d[i + (j - 1)]'(by omega)) := by rw [hM2 _ (by omega), List.getElem?_eq_getElem (by omega)]
          have f4 : j - 1 < d.length - i := by omega
          repeat (first | refine run_seq ?_ | refine run_block ?_ | refine run_b ?_ | refine run_skip ?_)
          refine run_ops (by simp [f1, f2, f3, f4, ht2]; rfl) rfl rfl (by simp; rfl) ?_
          refine run_cond (t := !decide (d[i + j]'(by omega) = d[i + (j - 1)]'(by omega))) (by simp) (fun hq2 => ?_) (fun hq2 => ?_)
          · simp at hq2
            have w1 : D.length < d.length := by omega
            have w2 : M[D.length]? = some (d[D.length]'w1) := by rw [hM2 _ (Nat.le_refl _), List.getElem?_eq_getElem w1]
            repeat (first | refine run_seq ?_ | refine run_block ?_ | refine run_b ?_ | refine run_skip ?_)
            refine run_ops (by simp [f2, ht2, hM1, w1, w2, mkCell]; rfl) rfl rfl (by simp; rfl) ?_
            have q1 : dd [] (d.take (i + (j + 1))) = D ++ [d[i + j]'(by omega)] := by
              rw [show i + (j + 1) = i + j + 1 by omega, dd_step (by omega) (by omega), hD, show i + j - 1 = i + (j - 1) by omega, List.getElem?_eq_getElem (by omega), List.getElem?_eq_getElem (by omega), if_neg (fun h => hq2 (Option.some.inj h).symm)]
            have q2 : ∀ y : ByteArray, (M.map RV.str).set D.length (RV.str y) = (D ++ [y] ++ d.drop (D.length + 1)).map RV.str := fun y => by
              rw [← List.map_set, ← hM]
              congr 1
              rw [List.set_append_right _ _ (Nat.le_refl _), Nat.sub_self, List.drop_eq_getElem_cons w1, List.set_cons_zero, List.append_assoc]
              rfl
            rw [q2]
            generalize hM9 : (D ++ [d[i + j]'(by omega)] ++ d.drop (D.length + 1)).map RV.str = M9
            repeat (first | refine run_seq ?_ | refine run_block ?_ | refine run_b ?_ | refine run_skip ?_ | refine run_ops (by simp; rfl) rfl rfl (by simp; rfl) ?_)
            refine run_inv ⟨j + 1, ⟨by omega, by omega, by rw [q1]; simp; omega⟩, by omega, ?_⟩
            rw [q1, List.length_append, List.length_singleton, hM9, wrap64 (by omega) (by omega), wrap64 (by omega) (by omega)]
            rfl
          · simp at hq2
            repeat (first | refine run_seq ?_ | refine run_block ?_ | refine run_b ?_ | refine run_skip ?_ | refine run_ops (by simp; rfl) rfl rfl (by simp; rfl) ?_)
            have q1 : dd [] (d.take (i + (j + 1))) = D := by
              rw [show i + (j + 1) = i + j + 1 by omega, dd_step (by omega) (by omega), hD, show i + j - 1 = i + (j - 1) by omega, List.getElem?_eq_getElem (by omega), List.getElem?_eq_getElem (by omega), hq2, if_pos rfl]
            refine run_inv ⟨j + 1, ⟨by omega, by omega, by rw [q1]; omega⟩, by omega, ?_⟩
            rw [q1, hM, wrap64 (by omega) (by omega)]
            simp
        · simp at ht2
          have e3 : i + j = d.length := by omega
          rw [e3, List.take_length] at hD
          have n1 : M ≠ [] := List.length_pos_iff.1 (by omega)
          have n2 : D.length ≤ d.length := by omega
          repeat (first | refine run_seq ?_ | refine run_block ?_ | refine run_b ?_ | refine run_skip ?_)
          refine run_ops (by simp [n1, n2, hM1]; rfl) rfl rfl (by simp; rfl) ?_
          generalize hB : ((M.map RV.str).take D.length ++ (List.replicate (d.length - D.length) ((RV.str ⟨#[]⟩)) ++ (M.map RV.str).drop d.length)) = B
          have b1 : D.length ≤ B.length := by rw [← hB]; simp; omega
          have b2 : B.take D.length = D.map RV.str := by
            rw [← hB, List.take_append_of_le_length (by simp; omega), List.take_take, Nat.min_self, ← List.map_take, hM3]
          repeat (first | refine run_seq ?_ | refine run_block ?_ | refine run_b ?_ | refine run_skip ?_)
          refine run_ops (by simp [b1]; rfl) rfl rfl (by simp; rfl) ?_
          refine run_ret ⟨.inr rfl, ?_⟩
          simp [rsCompact, b2, hD]
          try (refine ⟨_, _, ⟨rfl, rfl⟩, rfl, rfl⟩)
      · simp at hq
        repeat (first | refine run_seq ?_ | refine run_block ?_ | refine run_b ?_ | refine run_skip ?_ | refine run_ops (by simp; rfl) rfl rfl (by simp; rfl) ?_)
        refine run_inv ⟨i + 1, ⟨by omega, by omega, ?_⟩, by omega, ?_⟩
        · rw [dd_step hi1 ht, g1, g2, if_neg (fun h => hq (Option.some.inj h).symm), hi3, List.take_add_one, g1]; rfl
        · rw [wrap64 (by omega) (by omega)]; rfl
    · simp at ht
      repeat (first | refine run_seq ?_ | refine run_block ?_ | refine run_b ?_ | refine run_skip ?_ | refine run_ops (by simp; rfl) rfl rfl (by simp; rfl) ?_)
      refine run_ret ⟨.inr rfl, ?_⟩
      simp [rsCompact]
      refine ⟨_, _, ⟨rfl, rfl⟩, ?_, rfl⟩
      have : i = d.length := by omega
      subst this
      rw [List.take_length] at hi3
      rw [hi3]
end Go.PM

/-
  PM: small functions of the library, for any element type.
-/
namespace Go.PM
open Go Go.AH
variable {P : Program} {Fn : FuncId → Bool} {Pr : CallR → CallR} {C : CR}

theorem stepP_exec {T T' : Tm} {i : PI} {v : TV} {K : TV → Tm → Prop} (he : exec T i = some (v, T')) : stepP C T i K = K v T' := by
  cases i with
  | call f args => simp [exec] at he
  | _ => simp only [stepP, he]
theorem opsP_one {o : PO} {l : List PO} {T T1 : Tm} {Q : Tm → Prop} (h : step1 o T = some T1) (k : opsP C l T1 Q) : opsP C (o :: l) T Q := by
  unfold step1 at h
  split at h
  · rename_i hst
    simp only [opsP]
    refine ⟨hst, ?_⟩
    split at h
    · rename_i hw
      rw [hw]
      split at h
      · rename_i v T' he
        cases h
        show stepP C T o.i _
        rw [stepP_exec he]
        exact k
      · cases h
    · rename_i hw
      rw [hw]
      cases h
      exact k
    · cases h
  · cases h
theorem opsP_may {d : Option Nat} {neg : Bool} {x : Opd} {e : TypeId} {nj fl : List Nat} {l : List PO} {T : Tm} {Q : Tm → Prop} (hs : (still T nj && stillF T fl) = true) (hn : exec T (.eqF neg .l x (.c (.sl e []))) = none) (hm : mayEq T (.eqF neg .l x (.c (.sl e []))) = true)
    (k : ∀ b, opsP C l (T.putO d (.v (.bool b))) Q) : opsP C (⟨none, d, .eqF neg .l x (.c (.sl e [])), nj, fl⟩ :: l) T Q := by
  simp only [opsP, wantP, stepP, hn]
  exact ⟨hs, hm, k true, k false⟩

theorem run_may {Q : PPost} {k : List Fr} {o : PO} {d : Nat} {neg dr : Bool} {x : Opd} {e : TypeId} {live : List Nat} {T T1 : Tm} {T2 : Bool → Tm} (h : step1 o T = some T1) (hn : exec T1 (.eqF neg .l x (.c (.sl e []))) = none) (hm : mayEq T1 (.eqF neg .l x (.c (.sl e []))) = true)
    (hk : ∀ b, (T1.putO (some d) (.v (.bool b))).keep live = T2 b) (r : ∀ b, Run C Q k (T2 b)) : Run C Q (.c (.ops [o, ⟨none, some d, .eqF neg .l x (.c (.sl e [])), [], []⟩] [] live dr) :: k) T :=
  ⟨opsP_one h (opsP_may rfl hn hm fun b => ⟨rfl, by rw [hk]; exact (r b).h⟩)⟩

theorem back_false {T0 : Tm} : ∀ {args : List (Bool × Opd)} {us : List TV} {T : Tm}, (args.all fun x => !x.1) = true → us.length = args.length → back args us T0 T = some T ∧ muts T0 args = []
  | [], [], _, _, _ => ⟨rfl, rfl⟩
  | [], _ :: _, _, _, h => by simp at h
  | _ :: _, [], _, _, h => by simp at h
  | (false, x) :: args, u :: us, T, h, hl => by
    obtain ⟨h1, h3⟩ := back_false (T0 := T0) (args := args) (us := us) (T := T) (by simpa using h) (by simpa using hl)
    exact ⟨by simpa [back] using h1, by simpa [muts] using h3⟩
  | (true, x) :: args, u :: us, _, h, _ => by simp at h

/-- A call that changes what its first argument names. -/
theorem runO_mut {Q : PPost} {k : List Fr} {f : FuncId} {s r : Nat} {p : List Sel} {rest : List (Bool × Opd)} {d : Option Nat} {nj fl fin live : List Nat} {l : List PO} {xs : List RV} {u u' : TV} {res : List TV} {T T1 T2 : Tm} (hC : C f (u :: xs.map .v) res (u' :: xs.map .v)) (hs : (still T nj && stillF T fl) = true)
    (hl : look T (.t s) = .als r p) (hg : (T r).get p = some u) (hr : argsP T rest = some (xs.map .v)) (hrf : (rest.all fun x => !x.1) = true) (hseen : seen T rest = [])
    (hd : ((T.upd r p true .junk).upd r p true u').putO d (resT res) = T1) (h : runP (cutL l) (some T1) = some T2) (q : RunO C Q k (cutR l) fin live T2) : RunO C Q k (⟨none, d, .call (.c (.fn f [] [])) ((true, .t s) :: rest), nj, fl⟩ :: l) fin live T := by
  have hlen : (xs.map TV.v).length = rest.length := argsP_length hr
  obtain ⟨b1, b2⟩ := back_false (T0 := T) (args := rest) (us := xs.map .v) (T := (T.upd r p true .junk).upd r p true u') hrf hlen
  have hm : muts T ((true, Opd.t s) :: rest) = [(r, p)] := by
    have b3 : muts T ((true, Opd.t s) :: rest) = plc1 (look T (.t s)) ++ muts T rest := rfl
    rw [b3, b2, hl]; rfl
  have hse : seen T ((true, Opd.t s) :: rest) = [] := by
    simp only [seen, List.flatMap_cons, if_true, List.nil_append]
    exact hseen
  unfold RunO
  simp only [opsP, wantP, stepP]
  refine ⟨hs, [], T, f, [], [], u :: xs.map .v, res, u' :: xs.map .v, (T.upd r p true .junk).upd r p true u', rfl, rfl, ?_, by simpa using hC, by simp, ?_, ?_, ?_, ?_, ?_⟩
  · simp only [argsP, argP, hl, hg, hr]; rfl
  · rw [hm]; rfl
  · rw [hm, hse]; rfl
  · exact .inr (by rw [hse]; rfl)
  · rw [hm]
    simp only [back, hl, junkAll]
    exact b1
  · show opsP C l (Tm.putO _ d (resT res)) _
    rw [hd]
    exact opsP_run h q

/-- The usual call, where it is wanted. -/
theorem runO_callG {Q : PPost} {k : List Fr} {og : Option (Nat × Bool)} {f : FuncId} {args : List (Bool × Opd)} {d : Option Nat} {nj fl fin live : List Nat} {l : List PO} {xs : List RV} {res : List TV} {T T1 T2 : Tm} (hg : wantP T og = some true) (hC : C f (xs.map .v) res (xs.map .v)) (hs : (still T nj && stillF T fl) = true) (ha : argsP T args = some (xs.map .v)) (hp : (args.all fun x => !x.1) = true)
    (hl : res.all TV.lone = true ∨ seen T args = []) (hd : T.putO d (resT res) = T1) (h : runP (cutL l) (some T1) = some T2) (r : RunO C Q k (cutR l) fin live T2) : RunO C Q k (⟨og, d, .call (.c (.fn f [] [])) args, nj, fl⟩ :: l) fin live T := by
  have q := runO_call (nj := nj) (fl := fl) (fin := fin) (live := live) hC hs ha hp hl hd h r
  unfold RunO at *
  simp only [opsP, wantP] at q
  simp only [opsP, hg]
  exact q
/-- A call that is not wanted. -/
theorem runO_off {Q : PPost} {k : List Fr} {og : Option (Nat × Bool)} {i : PI} {d : Option Nat} {nj fl fin live : List Nat} {l : List PO} {T T1 T2 : Tm} (hg : wantP T og = some false) (hs : (still T nj && stillF T fl) = true)
    (hd : T.putO d (.tup []) = T1) (h : runP (cutL l) (some T1) = some T2) (r : RunO C Q k (cutR l) fin live T2) : RunO C Q k (⟨og, d, i, nj, fl⟩ :: l) fin live T := by
  unfold RunO
  simp only [opsP, hg]
  refine ⟨hs, ?_⟩
  rw [hd]
  exact opsP_run h r

@[simp] theorem bits_i64 : IntKind.i64.bits = 64 := rfl
@[simp] theorem bits_u64 : IntKind.u64.bits = 64 := rfl
@[simp] theorem bits_i32 : IntKind.i32.bits = 32 := rfl
@[simp] theorem bits_u32 : IntKind.u32.bits = 32 := rfl
@[simp] theorem bits_u8 : IntKind.u8.bits = 8 := rfl
theorem andI_leI (a m : Int) (h : 0 ≤ m) (hm : m < 9223372036854775808) : ∃ j : Nat, (j : Int) ≤ m ∧ andI .i64 a m = j := by
  obtain ⟨k, rfl⟩ := Int.eq_ofNat_of_zero_le h
  obtain ⟨j, h1, h2⟩ := andI_le a k (by omega)
  exact ⟨j, by omega, h2⟩

/-- Straight code, by what it comes to. -/
theorem run_opsX {Q : PPost} {k : List Fr} {l : List PO} {fin live : List Nat} {dr : Bool} {T : Tm} (T2 : Tm) (hr : cutR l = []) (h : ∃ T1, runP (cutL l) (some T) = some T1 ∧ still T1 fin = true ∧ T1.keep live = T2) (r : Run C Q k T2) : Run C Q (.c (.ops l fin live dr) :: k) T := by
  obtain ⟨T1, h1, h2, h3⟩ := h
  exact run_ops (dr := dr) h1 hr h2 h3 r

/-- A closed function that yields true: what it makes in memory is not told. -/
def closPr (g : FuncId) : CallR := fun f args H v H' => f = g ∧ args = #[] ∧ v = .bool true ∧ H' = H
theorem snd_clos {g : FuncId} (hP : ∀ R f args H v H', closPr g f args H v H' → Pr R f args H v H') : SndP P Fn Pr g (([] : List RV).map .v) [.v (.bool true)] (([] : List RV).map .v) := by
  refine ⟨rfl, fun H Z as_ f hz hov hnd hfz => ?_⟩
  cases hov
  exact ⟨_, H, Z, [_], [], [], fun R hR => hR.1 _ _ _ _ _ (hP _ _ _ _ _ _ ⟨rfl, rfl, rfl, rfl⟩), rfl, .cons (.v (.bool _)) .nil, .nil, by simp, by simp, Nat.le_refl _, fun _ _ _ => rfl, fun _ h => h, fun _ h => .inl h, hz⟩
/-- A piece of code, by what it comes to. -/
theorem run_mid {Q : PPost} {k : List Fr} {pc : PC} {T : Tm} (T2 : Tm) (h : ∀ Q k, Run C Q k T2 → Run C Q (.c pc :: k) T) (r : Run C Q k T2) : Run C Q (.c pc :: k) T := h Q k r

/-- The equality of rows of a known length, by the kinds written out. -/
theorem eqF2 {T : Tm} (x y : Row 2) : eqP T (.s [.s, .s]) (.v (rowV x)) (.v (rowV y)) = some (decide (x = y)) := eqP_row x y
theorem eqF3 {T : Tm} (x y : Row 3) : eqP T (.s [.s, .s, .s]) (.v (rowV x)) (.v (rowV y)) = some (decide (x = y)) := eqP_row x y
theorem eqF6 {T : Tm} (x y : Row 6) : eqP T (.s [.s, .s, .s, .s, .s, .s]) (.v (rowV x)) (.v (rowV y)) = some (decide (x = y)) := eqP_row x y

/-- The one function without a body. -/
theorem snd_cmp {g : FuncId} (hP : ∀ R f args H v H', cmpPr g f args H v H' → Pr R f args H v H') (a b : ByteArray) :
    SndP P Fn Pr g ([.str a, .str b].map .v) [.v (.int .i64 (Lib.compareBytes a.data.toList b.data.toList))] ([.str a, .str b].map .v) := by
  refine ⟨rfl, fun H Z as_ f hz hov hnd hfz => ?_⟩
  cases hov with | cons h1 r => cases r with | cons h2 r => cases r with | nil =>
  cases h1 with | v h1 => cases h2 with | v h2 =>
  cases h1; cases h2
  exact ⟨_, H, Z, [_], [], [], fun R hR => hR.1 _ _ _ _ _ (hP _ _ _ _ _ _ ⟨rfl, a, b, rfl, rfl, rfl⟩), rfl, .cons (.v (.int _ _)) .nil, .cons (.v (.str _)) (.cons (.v (.str _)) .nil), by simp, by simp, Nat.le_refl _, fun _ _ _ => rfl, fun _ h => h, fun _ h => .inl h, hz⟩

/-- slices.Clone. -/
def pcClone (e k : Nat) (ag : Bool) (z : RV) (by_ : Nat) : PC :=
 (.seq
  (.ops [
   ⟨none, (some 2), .as false (.c (.sl e [])), [], []⟩] [] [0] false)
  (.seq
   (.seq
    (.ops [
     ⟨none, (some 3), .mv (.t 0), [], []⟩,
     ⟨none, (some 4), .eqF false .l (.t 3) (.c (.sl e [])), [], []⟩] [] [0, 4] false)
    (.cond (.t 4)
     (.seq
      (.ops [
       ⟨none, (some 2), .as false (.c (.sl e [])), [], []⟩] [] [2] false)
      .ret)
     .skip))
   (.seq
    (.ops [
     ⟨none, (some 5), .bsl e k ag z 0 [], [], []⟩,
     ⟨none, (some 6), .mv (.t 0), [], []⟩,
     ⟨none, (some 7), .app e by_ (.t 5) (.t 6), [], []⟩,
     ⟨none, (some 2), .as false (.t 7), [], []⟩] [] [2] false)
    .ret)))
def rsClone : List PR := [.t 2]

theorem snd_clone {f : FuncId} {e k by_ : Nat} {ag : Bool} {z : RV} (hF : Fn f = true) (hchk : chkF P f 8 (pcClone e k ag z by_) rsClone = true) (l : List RV) (hl : l.length * by_ ≤ 140737488355328) (hl2 : l.length ≤ 9223372036854775807) :
    SndP P Fn Pr f ([.sl e l].map .v) [.sl e l] ([.sl e l].map .v) := by
  refine snd_of hF hchk (by simp) ?_ rfl
  rw [enter_plain _ _ (by simp)]
  simp only [pcClone, plainL]
  refine run_of ?_
  have last : ∀ u, Run (SndP P Fn Pr) (retP 8 ([.sl e l].map .v) rsClone fun r o => r = [.sl e l] ∧ o = [.sl e l].map .v) [.c (.seq (.ops [⟨none, (some 5), .bsl e k ag z 0 [], [], []⟩, ⟨none, (some 6), .mv (.t 0), [], []⟩, ⟨none, (some 7), .app e by_ (.t 5) (.t 6), [], []⟩, ⟨none, (some 2), .as false (.t 7), [], []⟩] [] [2] false) .ret)] (E [(0, .v (.sl e l)), (4, .v (.bool u))]) := by
    intro u
    repeat (first | refine run_seq ?_ | refine run_block ?_ | refine run_b ?_ | refine run_skip ?_ | refine run_ops (by simp [hl, hl2]; rfl) rfl rfl (by simp; rfl) ?_)
    refine run_ret ⟨.inr rfl, ?_⟩
    simp [rsClone]
  match l, last with
  | x :: l, last =>
    repeat (first | refine run_seq ?_ | refine run_block ?_ | refine run_b ?_ | refine run_skip ?_ | refine run_ops (by simp; rfl) rfl rfl (by simp; rfl) ?_)
    refine run_cond (t := false) (by simp) (fun ht => (by cases ht)) (fun _ => ?_)
    refine run_skip ?_
    exact last _
  | [], last =>
    repeat (first | refine run_seq ?_ | refine run_block ?_ | refine run_b ?_ | refine run_skip ?_ | refine run_ops (by simp; rfl) rfl rfl (by simp; rfl) ?_)
    refine run_may (T1 := E [(3, .v (.sl e [])), (0, .v (.sl e []))]) (T2 := fun b => E [(0, .v (.sl e [])), (4, .v (.bool b))]) (by simp) (by simp) rfl (fun b => by simp) fun b => ?_
    refine run_cond (t := b) (by simp) (fun hb => ?_) (fun hb => ?_)
    · refine run_seq (run_ops (by simp; rfl) rfl rfl (by simp; rfl) (run_ret ⟨.inr rfl, ?_⟩))
      simp [rsClone]
    · exact run_skip (last b)
end Go.PM

/-
  PM: more rules.
-/
namespace Go.PM
open Go Go.AH
variable {P : Program} {Fn : FuncId → Bool} {Pr : CallR → CallR} {C : CR}

/-- The usual call; ahead of it some owned things are made values. -/
theorem runO_callZ {Q : PPost} {k : List Fr} (fz : List (Nat × List Sel)) {og : Option (Nat × Bool)} {f : FuncId} {args : List (Bool × Opd)} {d : Option Nat} {nj fl fin live : List Nat} {l : List PO} {xs : List RV} {res : List TV} {T T0 T1 T2 : Tm} (hg : wantP T og = some true) (hs : (still T nj && stillF T fl) = true) (hz : frz fz T = some T0) (hC : C f (xs.map .v) res (xs.map .v)) (ha : argsP T0 args = some (xs.map .v)) (hp : (args.all fun x => !x.1) = true)
    (hl : res.all TV.lone = true ∨ seen T0 args = []) (hd : T0.putO d (resT res) = T1) (h : runP (cutL l) (some T1) = some T2) (r : RunO C Q k (cutR l) fin live T2) : RunO C Q k (⟨og, d, .call (.c (.fn f [] [])) args, nj, fl⟩ :: l) fin live T := by
  have hlen : (xs.map TV.v).length = args.length := argsP_length ha
  obtain ⟨h1, h2, h3⟩ := back_pure (T0 := T0) (T := T0) hp hlen
  unfold RunO
  simp only [opsP, hg, stepP]
  refine ⟨hs, fz, T0, f, [], [], xs.map .v, res, xs.map .v, T0, hz, rfl, ha, by simpa using hC, rfl, by rw [h3]; rfl, by rw [h3]; rfl, ?_, by rw [h3]; exact h1, ?_⟩
  · rcases hl with h | h
    · exact .inl ⟨h, h2⟩
    · exact .inr (by rw [h]; rfl)
  · show opsP C l (Tm.putO _ d (resT res)) _
    rw [hd]
    exact opsP_run h r
attribute [simp] frz
end Go.PM

/-
  Plain: strict orders, lists that rise, sets as rising lists. No program stands here.
-/
namespace Go.PM
open Go Go.AH

/-- A strict order in which all stand to each other. -/
structure SLO {α : Type} (lt : α → α → Bool) : Prop where
  irr : ∀ x, lt x x = false
  tr : ∀ x y z, lt x y = true → lt y z = true → lt x z = true
  tri : ∀ x y, lt x y = false → lt y x = false → x = y

section
variable {α : Type} {lt : α → α → Bool}
theorem SLO.asym (h : SLO lt) {x y : α} (k : lt x y = true) : lt y x = false := by
  cases e : lt y x with
  | false => rfl
  | true => have := h.tr _ _ _ k e; rw [h.irr] at this; cases this
theorem SLO.ne (h : SLO lt) {x y : α} (k : lt x y = true) : x ≠ y := fun e => by subst e; rw [h.irr] at k; cases k
theorem SLO.cases (h : SLO lt) (x y : α) : lt x y = true ∨ x = y ∨ lt y x = true := by
  cases e : lt x y with
  | true => exact .inl rfl
  | false =>
    cases e2 : lt y x with
    | true => exact .inr (.inr rfl)
    | false => exact .inr (.inl (h.tri _ _ e e2))

/-- A list that rises. -/
def Asc (lt : α → α → Bool) (l : List α) : Prop := l.Pairwise fun a b => lt a b = true

theorem Asc.nil : Asc lt [] := List.Pairwise.nil
theorem Asc.tail {x : α} {l : List α} (h : Asc lt (x :: l)) : Asc lt l := (List.pairwise_cons.1 h).2
theorem Asc.head {x : α} {l : List α} (h : Asc lt (x :: l)) : ∀ y ∈ l, lt x y = true := (List.pairwise_cons.1 h).1
theorem Asc.filter (p : α → Bool) {l : List α} (h : Asc lt l) : Asc lt (l.filter p) := List.Pairwise.filter _ h
theorem Asc.nodup (o : SLO lt) {l : List α} (h : Asc lt l) : l.Nodup := List.Pairwise.imp (fun k => o.ne k) h
theorem Asc.map {β : Type} {lt' : β → β → Bool} (f : α → β) {l : List α} (h : Asc lt l) (hm : ∀ x ∈ l, ∀ y ∈ l, lt x y = true → lt' (f x) (f y) = true) : Asc lt' (l.map f) := by
  unfold Asc
  rw [List.pairwise_map]
  exact List.Pairwise.imp_of_mem (fun ha hb k => hm _ ha _ hb k) h
theorem Asc.append {l m : List α} (hl : Asc lt l) (hm : Asc lt m) (h : ∀ x ∈ l, ∀ y ∈ m, lt x y = true) : Asc lt (l ++ m) := List.pairwise_append.2 ⟨hl, hm, h⟩
theorem Asc.left {l m : List α} (h : Asc lt (l ++ m)) : Asc lt l := (List.pairwise_append.1 h).1
theorem Asc.right {l m : List α} (h : Asc lt (l ++ m)) : Asc lt m := (List.pairwise_append.1 h).2.1
theorem Asc.cross {l m : List α} (h : Asc lt (l ++ m)) : ∀ x ∈ l, ∀ y ∈ m, lt x y = true := (List.pairwise_append.1 h).2.2
theorem Asc.get {l : List α} (h : Asc lt l) {i j : Nat} (hij : i < j) (hj : j < l.length) : lt (l[i]'(by omega)) l[j] = true := List.pairwise_iff_getElem.1 h i j (by omega) hj hij

theorem Asc.ext (o : SLO lt) : ∀ {l m : List α}, Asc lt l → Asc lt m → (∀ x, x ∈ l ↔ x ∈ m) → l = m
  | [], [], _, _, _ => rfl
  | [], y :: m, _, _, h => by have := (h y).2 (by simp); simp at this
  | x :: l, [], _, _, h => by have := (h x).1 (by simp); simp at this
  | x :: l, y :: m, hl, hm, h => by
    have exy : x = y := by
      rcases List.mem_cons.1 ((h x).1 (by simp)) with e | e
      · exact e
      · rcases List.mem_cons.1 ((h y).2 (by simp)) with e2 | e2
        · exact e2.symm
        · have := o.asym (hl.head _ e2)
          rw [hm.head _ e] at this; cases this
    subst exy
    congr 1
    refine Asc.ext o hl.tail hm.tail fun z => ?_
    have hz := h z
    simp only [List.mem_cons] at hz
    constructor
    · intro k
      rcases hz.1 (.inr k) with e | e
      · exact absurd e.symm (o.ne (hl.head _ k))
      · exact e
    · intro k
      rcases hz.2 (.inr k) with e | e
      · exact absurd e.symm (o.ne (hm.head _ k))
      · exact e

/-- One more in a set. -/
def insS (lt : α → α → Bool) (x : α) : List α → List α
  | [] => [x]
  | y :: l => if lt x y then x :: y :: l else if lt y x then y :: insS lt x l else y :: l
/-- The set of a list. -/
def setS (lt : α → α → Bool) : List α → List α
  | [] => []
  | x :: l => insS lt x (setS lt l)

theorem mem_insS (o : SLO lt) {x z : α} : ∀ {l : List α}, z ∈ insS lt x l ↔ z = x ∨ z ∈ l
  | [] => by simp [insS]
  | y :: l => by
    simp only [insS]
    split
    · simp
    · rename_i h1
      split
      · simp only [List.mem_cons, mem_insS o (l := l)]
        constructor
        · rintro (h | h | h) <;> simp [h]
        · rintro (h | h | h) <;> simp [h]
      · rename_i h2
        have e : x = y := o.tri _ _ (by simpa using h1) (by simpa using h2)
        subst e
        simp
theorem asc_insS (o : SLO lt) {x : α} : ∀ {l : List α}, Asc lt l → Asc lt (insS lt x l)
  | [], _ => by simp [insS, Asc]
  | y :: l, h => by
    simp only [insS]
    split
    · rename_i h1
      refine List.pairwise_cons.2 ⟨fun z hz => ?_, h⟩
      rcases List.mem_cons.1 hz with e | e
      · subst e; exact h1
      · exact o.tr _ _ _ h1 (h.head _ e)
    · split
      · rename_i h2
        refine List.pairwise_cons.2 ⟨fun z hz => ?_, asc_insS o h.tail⟩
        rcases (mem_insS o).1 hz with e | e
        · subst e; exact h2
        · exact h.head _ e
      · exact h
theorem mem_setS (o : SLO lt) {z : α} : ∀ {l : List α}, z ∈ setS lt l ↔ z ∈ l
  | [] => by simp [setS]
  | x :: l => by simp only [setS, mem_insS o, mem_setS o (l := l), List.mem_cons]
theorem asc_setS (o : SLO lt) : ∀ {l : List α}, Asc lt (setS lt l)
  | [] => Asc.nil
  | x :: l => by simp only [setS]; exact asc_insS o (asc_setS o)
/-- What a list that rises with the same elements is. -/
theorem setS_eq (o : SLO lt) {l m : List α} (hm : Asc lt m) (h : ∀ x, x ∈ m ↔ x ∈ l) : m = setS lt l :=
  Asc.ext o hm (asc_setS o) fun x => by rw [h, mem_setS o]
theorem setS_self (o : SLO lt) {l : List α} (h : Asc lt l) : setS lt l = l := (setS_eq o h fun _ => Iff.rfl).symm
theorem setS_congr (o : SLO lt) {l m : List α} (h : ∀ x, x ∈ l ↔ x ∈ m) : setS lt l = setS lt m :=
  setS_eq o (asc_setS o) fun x => by rw [mem_setS o, h]
theorem length_insS {x : α} : ∀ {l : List α}, (insS lt x l).length ≤ l.length + 1
  | [] => by simp [insS]
  | y :: l => by
    simp only [insS]
    split
    · simp
    · split
      · have := length_insS (x := x) (l := l); simp; omega
      · simp
theorem length_setS : ∀ {l : List α}, (setS lt l).length ≤ l.length
  | [] => by simp [setS]
  | x :: l => by
    have := length_insS (lt := lt) (x := x) (l := setS lt l)
    have := length_setS (l := l)
    simp only [setS, List.length_cons]
    omega

/-- A list that does not fall. -/
def Weak (lt : α → α → Bool) (l : List α) : Prop := l.Pairwise fun a b => lt b a = false

theorem dd_asc [DecidableEq α] (o : SLO lt) : ∀ {l acc : List α}, Weak lt l → Asc lt acc → (∀ x ∈ acc, ∀ y ∈ l, lt y x = false) → Asc lt (dd acc l) ∧ ∀ z, z ∈ dd acc l ↔ z ∈ acc ∨ z ∈ l
  | [], acc, _, ha, _ => ⟨ha, fun z => by simp [dd]⟩
  | x :: l, acc, hw, ha, hx => by
    simp only [dd]
    have hw' := List.pairwise_cons.1 hw
    by_cases h : acc.getLast? = some x
    · rw [if_pos h]
      obtain ⟨h1, h2⟩ := dd_asc o hw'.2 ha fun u hu y hy => hx u hu y (by simp [hy])
      refine ⟨h1, fun z => ?_⟩
      rw [h2, List.mem_cons]
      have : x ∈ acc := List.mem_of_getLast? h
      constructor
      · rintro (k | k)
        · exact .inl k
        · exact .inr (.inr k)
      · rintro (k | k | k)
        · exact .inl k
        · subst k; exact .inl this
        · exact .inr k
    · rw [if_neg h]
      have hlt : ∀ u ∈ acc, lt u x = true := fun u hu => by
        have h0 := hx u hu x (by simp)
        rcases o.cases u x with k | k | k
        · exact k
        · subst k
          exfalso
          apply h
          -- u is in acc and nothing of acc is above it
          obtain ⟨y, hy⟩ : ∃ y, acc.getLast? = some y := by
            cases e : acc.getLast? with
            | none => rw [List.getLast?_eq_none_iff] at e; subst e; simp at hu
            | some y => exact ⟨y, rfl⟩
          rw [hy]
          congr 1
          obtain ⟨acc', rfl⟩ : ∃ l', acc = l' ++ [y] := by
            refine ⟨acc.dropLast, ?_⟩
            have hne : acc ≠ [] := fun e => by subst e; simp at hu
            rw [List.getLast?_eq_some_getLast hne] at hy
            rw [← Option.some.inj hy]
            exact (List.dropLast_concat_getLast hne).symm
          rcases List.mem_append.1 hu with k | k
          · have h3 := Asc.cross ha u k y (by simp)
            have h4 := hx y (by simp) u (by simp)
            rw [h3] at h4; cases h4
          · simp at k; exact k.symm
        · rw [k] at h0; cases h0
      obtain ⟨h1, h2⟩ := dd_asc o (l := l) (acc := acc ++ [x]) hw'.2 (ha.append (by simp [Asc]) fun u hu y hy => by simp at hy; subst hy; exact hlt u hu) fun u hu y hy => by
        rcases List.mem_append.1 hu with k | k
        · exact hx u k y (by simp [hy])
        · simp at k; subst k; exact hw'.1 y hy
      refine ⟨h1, fun z => ?_⟩
      rw [h2, List.mem_append, List.mem_singleton, List.mem_cons, or_assoc]
/-- Sorted, and then each once. -/
theorem dd_sorted [DecidableEq α] (o : SLO lt) {l m : List α} (hw : Weak lt m) (hp : ∀ x, x ∈ m ↔ x ∈ l) : dd [] m = setS lt l := by
  obtain ⟨h1, h2⟩ := dd_asc o hw (Asc.nil (lt := lt)) (by simp)
  exact setS_eq o h1 fun x => by rw [h2, ← hp]; simp
theorem weak_mergeSort (o : SLO lt) {le : α → α → Bool} (hle : ∀ x y, le x y = !lt y x) (l : List α) : Weak lt (l.mergeSort le) := by
  have h := List.pairwise_mergeSort (le := le) (fun a b c h1 h2 => by
    rw [hle] at *
    simp only [Bool.not_eq_true'] at *
    cases e : lt c a with
    | false => rfl
    | true =>
      rcases o.cases b c with k | k | k
      · have := o.tr _ _ _ k e; rw [this] at h1; cases h1
      · subst k; rw [e] at h1; cases h1
      · rw [k] at h2; cases h2) (fun a b => by
    rw [hle, hle]
    cases e : lt b a with
    | false => simp
    | true => simp [o.asym e]) l
  exact List.Pairwise.imp (fun {a b} k => by rw [hle] at k; simpa using k) h
theorem dd_mergeSort [DecidableEq α] (o : SLO lt) {le : α → α → Bool} (hle : ∀ x y, le x y = !lt y x) (l : List α) : dd [] (l.mergeSort le) = setS lt l :=
  dd_sorted o (weak_mergeSort o hle l) fun x => (List.mergeSort_perm l le).mem_iff

/-- Two rising lists as one. -/
def mergeS (lt : α → α → Bool) : List α → List α → List α
  | [], b => b
  | x :: a, [] => x :: a
  | x :: a, y :: b => if lt x y then x :: mergeS lt a (y :: b) else if lt y x then y :: mergeS lt (x :: a) b else mergeS lt a (y :: b)
  termination_by a b => a.length + b.length
theorem mergeS_spec (o : SLO lt) : ∀ {a b : List α}, Asc lt a → Asc lt b → Asc lt (mergeS lt a b) ∧ ∀ z, z ∈ mergeS lt a b ↔ z ∈ a ∨ z ∈ b
  | [], b, _, hb => by simp only [mergeS]; exact ⟨hb, fun z => by simp⟩
  | x :: a, [], ha, _ => by simp only [mergeS]; exact ⟨ha, fun z => by simp⟩
  | x :: a, y :: b, ha, hb => by
    unfold mergeS
    split
    · rename_i h
      obtain ⟨i1, i2⟩ := mergeS_spec o ha.tail hb
      refine ⟨List.pairwise_cons.2 ⟨fun z hz => ?_, i1⟩, fun z => ?_⟩
      · rcases (i2 z).1 hz with k | k
        · exact ha.head _ k
        · rcases List.mem_cons.1 k with k | k
          · subst k; exact h
          · exact o.tr _ _ _ h (hb.head _ k)
      · rw [List.mem_cons, i2, List.mem_cons (a := z) (b := x), or_assoc]
    · split
      · rename_i h
        obtain ⟨i1, i2⟩ := mergeS_spec o ha hb.tail
        refine ⟨List.pairwise_cons.2 ⟨fun z hz => ?_, i1⟩, fun z => ?_⟩
        · rcases (i2 z).1 hz with k | k
          · rcases List.mem_cons.1 k with k | k
            · subst k; exact h
            · exact o.tr _ _ _ h (ha.head _ k)
          · exact hb.head _ k
        · rw [List.mem_cons, i2, List.mem_cons, List.mem_cons]
          constructor
          · rintro (k | (k | k) | k)
            · exact .inr (.inl k)
            · exact .inl (.inl k)
            · exact .inl (.inr k)
            · exact .inr (.inr k)
          · rintro ((k | k) | k | k)
            · exact .inr (.inl (.inl k))
            · exact .inr (.inl (.inr k))
            · exact .inl k
            · exact .inr (.inr k)
      · rename_i h1 h2
        have e : x = y := o.tri _ _ (by simpa using h1) (by simpa using h2)
        subst e
        obtain ⟨i1, i2⟩ := mergeS_spec o ha.tail hb
        refine ⟨i1, fun z => ?_⟩
        rw [i2, List.mem_cons, List.mem_cons]
        constructor
        · rintro (k | k)
          · exact .inl (.inr k)
          · exact .inr k
        · rintro ((k | k) | k)
          · exact .inr (.inl k)
          · exact .inl k
          · exact .inr k
  termination_by a b => a.length + b.length
theorem mergeS_nil {a : List α} : mergeS lt a [] = a := by
  cases a <;> simp [mergeS]
theorem mergeS_left {x y : α} {a b : List α} (h : lt x y = true) : mergeS lt (x :: a) (y :: b) = x :: mergeS lt a (y :: b) := by
  rw [mergeS, if_pos h]
theorem mergeS_right {x y : α} {a b : List α} (h0 : lt x y = false) (h : lt y x = true) : mergeS lt (x :: a) (y :: b) = y :: mergeS lt (x :: a) b := by
  rw [mergeS, if_neg (by simp [h0]), if_pos h]
theorem mergeS_both {x y : α} {a b : List α} (h0 : lt x y = false) (h : lt y x = false) : mergeS lt (x :: a) (y :: b) = mergeS lt a (y :: b) := by
  rw [mergeS, if_neg (by simp [h0]), if_neg (by simp [h])]
/-- The steps of a merge, by places. -/
theorem mergeS_lt {a b : List α} {i k : Nat} (hi : i < a.length) (hk : k < b.length) (h : lt a[i] b[k] = true) : mergeS lt (a.drop i) (b.drop k) = a[i] :: mergeS lt (a.drop (i + 1)) (b.drop k) := by
  rw [List.drop_eq_getElem_cons hi, List.drop_eq_getElem_cons hk, mergeS_left h]
theorem mergeS_gt {a b : List α} {i k : Nat} (hi : i < a.length) (hk : k < b.length) (h0 : lt a[i] b[k] = false) (h : lt b[k] a[i] = true) : mergeS lt (a.drop i) (b.drop k) = b[k] :: mergeS lt (a.drop i) (b.drop (k + 1)) := by
  rw [List.drop_eq_getElem_cons hi, List.drop_eq_getElem_cons hk, mergeS_right h0 h]
theorem mergeS_eq {a b : List α} {i k : Nat} (hi : i < a.length) (hk : k < b.length) (h0 : lt a[i] b[k] = false) (h : lt b[k] a[i] = false) : mergeS lt (a.drop i) (b.drop k) = mergeS lt (a.drop (i + 1)) (b.drop k) := by
  rw [List.drop_eq_getElem_cons hi, List.drop_eq_getElem_cons hk, mergeS_both h0 h]
theorem mergeS_endB {a b : List α} {i k : Nat} (hi : i < a.length) (hk : b.length ≤ k) : mergeS lt (a.drop i) (b.drop k) = a[i] :: mergeS lt (a.drop (i + 1)) (b.drop k) := by
  rw [List.drop_of_length_le hk, mergeS_nil, mergeS_nil, List.drop_eq_getElem_cons hi]
theorem mergeS_endA {a b : List α} {i k : Nat} (hi : a.length ≤ i) (hk : k < b.length) : mergeS lt (a.drop i) (b.drop k) = b[k] :: mergeS lt (a.drop i) (b.drop (k + 1)) := by
  rw [List.drop_of_length_le hi, List.drop_eq_getElem_cons hk]
  simp only [mergeS]
theorem mergeS_end {a b : List α} {i k : Nat} (hi : a.length ≤ i) (hk : b.length ≤ k) : mergeS lt (a.drop i) (b.drop k) = [] := by
  rw [List.drop_of_length_le hi, List.drop_of_length_le hk, mergeS_nil]
theorem mergeS_set (o : SLO lt) {a b : List α} : mergeS lt (setS lt a) (setS lt b) = setS lt (a ++ b) := by
  obtain ⟨h1, h2⟩ := mergeS_spec o (asc_setS o (l := a)) (asc_setS o (l := b))
  exact setS_eq o h1 fun x => by rw [h2, mem_setS o, mem_setS o, List.mem_append]
end

/-- Is something in a list? -/
def hasB {α : Type} [DecidableEq α] (l : List α) (t : α) : Bool := l.any fun x => decide (x = t)
theorem hasB_iff {α : Type} [DecidableEq α] {l : List α} {t : α} : hasB l t = true ↔ t ∈ l := by
  simp only [hasB, List.any_eq_true, decide_eq_true_eq]
  exact ⟨fun ⟨x, h, e⟩ => e ▸ h, fun h => ⟨t, h, rfl⟩⟩

/-! ### Texts -/
/-- The order of texts. -/
def bl (a b : ByteArray) : Bool := Op.bytesLess a.data.toList b.data.toList

@[simp] theorem bl_fold (a b : ByteArray) : Op.bytesLess a.data.toList b.data.toList = bl a b := rfl
theorem u8_lt_iff {a b : UInt8} : (decide (a < b) = true) ↔ a.toNat < b.toNat := by rw [decide_eq_true_iff]; exact UInt8.lt_iff_toNat_lt
theorem bytesLess_slo : SLO Op.bytesLess where
  irr := by
    intro l
    induction l with
    | nil => rfl
    | cons a l ih => simp [Op.bytesLess, ih]
  tr := by
    intro x
    induction x with
    | nil =>
      intro y z h1 h2
      cases z with
      | nil => cases y <;> simp [Op.bytesLess] at h2
      | cons c z => rfl
    | cons a x ih =>
      intro y z h1 h2
      cases y with
      | nil => simp [Op.bytesLess] at h1
      | cons b y =>
        cases z with
        | nil => simp [Op.bytesLess] at h2
        | cons c z =>
          simp only [Op.bytesLess, Bool.or_eq_true, Bool.and_eq_true, beq_iff_eq, u8_lt_iff] at *
          rcases h1 with h1 | ⟨rfl, h1⟩
          · rcases h2 with h2 | ⟨rfl, h2⟩
            · exact .inl (by omega)
            · exact .inl h1
          · rcases h2 with h2 | ⟨rfl, h2⟩
            · exact .inl h2
            · exact .inr ⟨rfl, ih _ _ h1 h2⟩
  tri := by
    intro x
    induction x with
    | nil =>
      intro y h1 h2
      cases y with
      | nil => rfl
      | cons b y => simp [Op.bytesLess] at h1
    | cons a x ih =>
      intro y h1 h2
      cases y with
      | nil => simp [Op.bytesLess] at h2
      | cons b y =>
        simp only [Op.bytesLess, Bool.or_eq_false_iff, Bool.and_eq_false_iff] at h1 h2
        have n1 : ¬ a.toNat < b.toNat := fun k => by have := u8_lt_iff.2 k; rw [h1.1] at this; cases this
        have n2 : ¬ b.toNat < a.toNat := fun k => by have := u8_lt_iff.2 k; rw [h2.1] at this; cases this
        have e : a = b := UInt8.toNat_inj.1 (by omega)
        subst e
        congr 1
        exact ih _ (h1.2.resolve_left (by simp)) (h2.2.resolve_left (by simp))
theorem ba_ext {a b : ByteArray} (h : a.data.toList = b.data.toList) : a = b := by
  cases a with | mk a => cases b with | mk b =>
  simp at h
  rw [h]
theorem bl_slo : SLO bl where
  irr x := bytesLess_slo.irr _
  tr x y z := bytesLess_slo.tr _ _ _
  tri x y h1 h2 := ba_ext (bytesLess_slo.tri _ _ h1 h2)

/-- How two texts stand to each other. -/
def cb (a b : ByteArray) : Int := Lib.compareBytes a.data.toList b.data.toList
theorem cmpBytes_eq : ∀ (x y : List UInt8), Lib.compareBytes x y = if Op.bytesLess x y then -1 else if Op.bytesLess y x then 1 else 0
  | [], [] => rfl
  | [], _ :: _ => rfl
  | _ :: _, [] => rfl
  | a :: x, b :: y => by
    simp only [Lib.compareBytes, Op.bytesLess]
    by_cases h1 : a < b
    · simp [h1]
    · by_cases h2 : b < a
      · have : (a == b) = false := by simpa using (fun e : a = b => by subst e; exact h1 h2)
        simp [h1, h2, this]
      · have n1 : ¬ a.toNat < b.toNat := fun k => h1 (UInt8.lt_iff_toNat_lt.2 k)
        have n2 : ¬ b.toNat < a.toNat := fun k => h2 (UInt8.lt_iff_toNat_lt.2 k)
        have e : a = b := UInt8.toNat_inj.1 (by omega)
        subst e
        simp only [h1, if_false, decide_false, Bool.false_or, BEq.rfl, Bool.true_and]
        exact cmpBytes_eq x y
theorem cb_eq (a b : ByteArray) : cb a b = if bl a b then -1 else if bl b a then 1 else 0 := cmpBytes_eq _ _
theorem cb_zero {a b : ByteArray} : cb a b = 0 ↔ a = b := by
  rw [cb_eq]
  constructor
  · intro h
    split at h
    · cases h
    · split at h
      · cases h
      · rename_i h1 h2
        exact bl_slo.tri _ _ (by simpa using h1) (by simpa using h2)
  · rintro rfl
    simp [bl_slo.irr]
theorem cb_neg {a b : ByteArray} : cb a b < 0 ↔ bl a b = true := by
  rw [cb_eq]
  split
  · simp_all
  · split <;> simp_all

/-! ### Rows of texts -/
/-- The order of rows. -/
def ll : List ByteArray → List ByteArray → Bool
  | _, [] => false
  | [], _ :: _ => true
  | a :: x, b :: y => bl a b || (decide (a = b) && ll x y)
theorem ll_slo : SLO ll where
  irr := by
    intro l
    induction l with
    | nil => rfl
    | cons a l ih => simp [ll, ih, bl_slo.irr]
  tr := by
    intro x
    induction x with
    | nil =>
      intro y z h1 h2
      cases z with
      | nil => cases y <;> simp [ll] at h2
      | cons c z => rfl
    | cons a x ih =>
      intro y z h1 h2
      cases y with
      | nil => simp [ll] at h1
      | cons b y =>
        cases z with
        | nil => simp [ll] at h2
        | cons c z =>
          simp only [ll, Bool.or_eq_true, Bool.and_eq_true, decide_eq_true_eq] at *
          rcases h1 with h1 | ⟨rfl, h1⟩
          · rcases h2 with h2 | ⟨rfl, h2⟩
            · exact .inl (bl_slo.tr _ _ _ h1 h2)
            · exact .inl h1
          · rcases h2 with h2 | ⟨rfl, h2⟩
            · exact .inl h2
            · exact .inr ⟨rfl, ih _ _ h1 h2⟩
  tri := by
    intro x
    induction x with
    | nil =>
      intro y h1 h2
      cases y with
      | nil => rfl
      | cons b y => simp [ll] at h1
    | cons a x ih =>
      intro y h1 h2
      cases y with
      | nil => simp [ll] at h2
      | cons b y =>
        simp only [ll, Bool.or_eq_false_iff, Bool.and_eq_false_iff] at h1 h2
        have e : a = b := bl_slo.tri _ _ h1.1 h2.1
        subst e
        congr 1
        exact ih _ (h1.2.resolve_left (by simp)) (h2.2.resolve_left (by simp))
/-- The order of rows of k texts. -/
def rl {k : Nat} (x y : Row k) : Bool := ll x.1 y.1
theorem rl_slo {k : Nat} : SLO (rl (k := k)) where
  irr x := ll_slo.irr _
  tr x y z := ll_slo.tr _ _ _
  tri x y h1 h2 := Subtype.ext (ll_slo.tri _ _ h1 h2)
/-- The first that is not zero. -/
def orI : List Int → Int
  | [] => 0
  | x :: l => if x = 0 then orI l else x
def cl : List ByteArray → List ByteArray → List Int
  | a :: x, b :: y => cb a b :: cl x y
  | _, _ => []
theorem orI_cl : ∀ {x y : List ByteArray}, x.length = y.length → orI (cl x y) = if ll x y then -1 else if ll y x then 1 else 0
  | [], [], _ => rfl
  | a :: x, b :: y, h => by
    simp only [cl, orI, ll, orI_cl (x := x) (y := y) (by simpa using h)]
    by_cases e : a = b
    · subst e
      simp [cb_zero.2 rfl, bl_slo.irr]
    · have e' : ¬ b = a := fun k => e k.symm
      rw [if_neg (fun k => e (cb_zero.1 k)), cb_eq]
      simp [e, e']
  | [], _ :: _, h => by simp at h
  | _ :: _, [], h => by simp at h
/-- How two rows stand to each other. -/
def cr {k : Nat} (x y : Row k) : Int := orI (cl x.1 y.1)
theorem cr_eq {k : Nat} (x y : Row k) : cr x y = if rl x y then -1 else if rl y x then 1 else 0 := orI_cl (by rw [x.2, y.2])
theorem cr_neg {k : Nat} {x y : Row k} : cr x y < 0 ↔ rl x y = true := by
  rw [cr_eq]
  split
  · simp_all
  · split <;> simp_all
end Go.PM

/-
  Plain: tuples as rows of six texts; parts of them.
-/
namespace Go.PM
open Go Go.AH

def objR (x : Row 6) : Row 2 := ⟨x.1.take 2, by simp [x.2]⟩
def refR (x : Row 6) : Row 3 := ⟨x.1.take 3, by simp [x.2]⟩
def relR (x : Row 6) : ByteArray := x.1[2]'(by simp [x.2])
def subR (x : Row 6) : Row 3 := ⟨x.1.drop 3, by simp [x.2]⟩
def otyR (x : Row 6) : ByteArray := x.1[0]'(by simp [x.2])
def oidR (x : Row 6) : ByteArray := x.1[1]'(by simp [x.2])
def styR (x : Row 6) : ByteArray := x.1[3]'(by simp [x.2])
def sidR (x : Row 6) : ByteArray := x.1[4]'(by simp [x.2])
def srlR (x : Row 6) : ByteArray := x.1[5]'(by simp [x.2])
/-- A relation of an object. -/
def mkRef (o : Row 2) (r : ByteArray) : Row 3 := ⟨o.1 ++ [r], by simp [o.2]⟩
def mkTup (r : Row 3) (s : Row 3) : Row 6 := ⟨r.1 ++ s.1, by simp [r.2, s.2]⟩
def e0 : ByteArray := ⟨#[]⟩
/-- The first tuple of a relation, or what stands ahead of it. -/
def mkLow (o : Row 2) (r : ByteArray) : Row 6 := mkTup (mkRef o r) ⟨[e0, e0, e0], rfl⟩

theorem refR_eq {x : Row 6} {o : Row 2} {r : ByteArray} : refR x = mkRef o r ↔ objR x = o ∧ relR x = r := by
  obtain ⟨a1, a2, a3, a4, a5, a6, rfl⟩ := row6 x
  obtain ⟨b1, b2, rfl⟩ := row2 o
  simp [refR, mkRef, objR, relR, and_assoc]
theorem bl_e0 (x : ByteArray) : bl x e0 = false := by
  simp only [bl, e0]
  cases x.data.toList <;> rfl
theorem ll_nil (l : List ByteArray) : ll l [] = false := by cases l <;> rfl
theorem ll_app : ∀ {a b c d : List ByteArray}, a.length = b.length → ll (a ++ c) (b ++ d) = (ll a b || (decide (a = b) && ll c d))
  | [], [], c, d, _ => by simp [ll]
  | x :: a, y :: b, c, d, h => by
    simp only [List.cons_append, ll, ll_app (a := a) (b := b) (c := c) (d := d) (by simpa using h)]
    by_cases e : x = y
    · subst e; simp [bl_slo.irr]
    · simp [e]
  | [], _ :: _, _, _, h => by simp at h
  | _ :: _, [], _, _, h => by simp at h
theorem rl_parts (x y : Row 6) : rl x y = (rl (refR x) (refR y) || (decide (refR x = refR y) && rl (subR x) (subR y))) := by
  obtain ⟨a1, a2, a3, a4, a5, a6, rfl⟩ := row6 x
  obtain ⟨b1, b2, b3, b4, b5, b6, rfl⟩ := row6 y
  have := ll_app (a := [a1, a2, a3]) (b := [b1, b2, b3]) (c := [a4, a5, a6]) (d := [b4, b5, b6]) rfl
  simpa [rl, refR, subR] using this
theorem rl_low (x : Row 6) (o : Row 2) (r : ByteArray) : rl x (mkLow o r) = rl (refR x) (mkRef o r) := by
  rw [rl_parts]
  have e : refR (mkLow o r) = mkRef o r := by
    obtain ⟨b1, b2, rfl⟩ := row2 o
    rfl
  have e2 : rl (subR x) (subR (mkLow o r)) = false := by
    obtain ⟨b1, b2, rfl⟩ := row2 o
    obtain ⟨a1, a2, a3, a4, a5, a6, rfl⟩ := row6 x
    simp [rl, subR, mkLow, mkTup, mkRef, ll, bl_e0]
  rw [e, e2]
  simp
/-- Of a set: what of a relation stands there, stands behind the place of its first. -/
theorem low_ref {l : List (Row 6)} (h : Asc rl l) (o : Row 2) (r : ByteArray) {t : Row 6} (ht : ∀ x, rl x t = rl (refR x) (mkRef o r)) :
    (l.filter fun x => !rl x t).takeWhile (fun x => decide (refR x = mkRef o r)) = l.filter fun x => decide (refR x = mkRef o r) := by
  have h1 : ∀ m : List (Row 6), Asc rl m → (∀ x ∈ m, rl (refR x) (mkRef o r) = false) → m.takeWhile (fun x => decide (refR x = mkRef o r)) = m.filter fun x => decide (refR x = mkRef o r) := by
    intro m
    induction m with
    | nil => intro _ _; rfl
    | cons x m ih =>
      intro ha hb
      by_cases e : refR x = mkRef o r
      · simp only [List.takeWhile_cons, List.filter_cons, e, decide_true, if_true]
        rw [ih ha.tail fun y hy => hb y (by simp [hy])]
      · have hx : rl (mkRef o r) (refR x) = true := by
          rcases rl_slo.cases (mkRef o r) (refR x) with k | k | k
          · exact k
          · exact absurd k.symm e
          · have := hb x (by simp); rw [this] at k; cases k
        have hn : m.filter (fun x => decide (refR x = mkRef o r)) = [] := List.filter_eq_nil_iff.2 fun y hy => by
          simp only [decide_eq_true_eq]
          intro ey
          have := ha.head y hy
          rw [rl_parts, ey, rl_slo.asym hx] at this
          simp [e] at this
        simp [List.takeWhile_cons, List.filter_cons, e, hn]
  rw [h1 _ (h.filter _) fun x hx => by
    have := (List.mem_filter.1 hx).2
    rw [ht] at this
    simpa using this]
  rw [List.filter_filter]
  congr 1
  funext x
  by_cases e : refR x = mkRef o r
  · simp [e, ht, rl_slo.irr]
  · simp [e]
end Go.PM

/-
  Plain: maps from keys to lists, in the order in which their keys came.
-/
namespace Go.PM
open Go Go.AH

section
variable {κ ν : Type} [DecidableEq κ]
/-- One more value at a key. -/
def addG (k : κ) (v : ν) : List (κ × List ν) → List (κ × List ν)
  | [] => [(k, [v])]
  | p :: G => if p.1 = k then (p.1, p.2 ++ [v]) :: G else p :: addG k v G
/-- The values of a key. -/
def lookG (k : κ) : List (κ × List ν) → List ν
  | [] => []
  | p :: G => if p.1 = k then p.2 else lookG k G
/-- Where a key stands. -/
def idxG (k : κ) : List (κ × List ν) → Nat → Option Nat
  | [], _ => none
  | p :: G, i => if p.1 = k then some i else idxG k G (i + 1)

theorem look_add {k k' : κ} {v : ν} : ∀ {G : List (κ × List ν)}, lookG k (addG k' v G) = if k = k' then lookG k G ++ [v] else lookG k G
  | [] => by
    simp only [addG, lookG]
    by_cases e : k = k'
    · subst e; simp
    · have : ¬ k' = k := fun h => e h.symm
      simp [e, this]
  | p :: G => by
    simp only [addG]
    by_cases h : p.1 = k'
    · rw [if_pos h]
      simp only [lookG]
      by_cases e : k = k'
      · subst e; rw [if_pos h, if_pos rfl, if_pos h]
      · have : ¬ p.1 = k := fun q => e (q ▸ h)
        rw [if_neg this, if_neg e, if_neg this]
    · rw [if_neg h]
      simp only [lookG]
      by_cases q : p.1 = k
      · rw [if_pos q, if_pos q]
        have : ¬ k = k' := fun e => h (q.trans e)
        rw [if_neg this]
      · rw [if_neg q, if_neg q]
        exact look_add
theorem idx_cases {k : κ} : ∀ {G : List (κ × List ν)} {i : Nat}, (idxG k G i = none ∧ lookG k G = [] ∧ ∀ v : ν, addG k v G = G ++ [(k, [v])]) ∨
    ∃ j l, idxG k G i = some (i + j) ∧ G[j]? = some (k, l) ∧ lookG k G = l ∧ ∀ v : ν, addG k v G = G.set j (k, l ++ [v])
  | [], i => .inl ⟨rfl, rfl, fun v => rfl⟩
  | p :: G, i => by
    simp only [idxG, lookG, addG]
    by_cases h : p.1 = k
    · simp only [if_pos h]
      exact .inr ⟨0, p.2, by simp, by simp [← h], rfl, fun v => by simp [← h]⟩
    · simp only [if_neg h]
      rcases idx_cases (k := k) (G := G) (i := i + 1) with ⟨h1, h2, h3⟩ | ⟨j, l, h1, h2, h3, h4⟩
      · exact .inl ⟨h1, h2, fun v => by rw [h3]; rfl⟩
      · exact .inr ⟨j + 1, l, by rw [h1]; congr 1; omega, by simpa using h2, h3, fun v => by rw [h4]; rfl⟩
/-- All of a list, by keys. -/
def grpG {α : Type} (f : α → κ) (g : α → ν) (l : List α) : List (κ × List ν) := l.foldl (fun G t => addG (f t) (g t) G) []
theorem grp_snoc {α : Type} (f : α → κ) (g : α → ν) (l : List α) (x : α) : grpG f g (l ++ [x]) = addG (f x) (g x) (grpG f g l) := by
  simp [grpG, List.foldl_append]
theorem look_grp {α : Type} (f : α → κ) (g : α → ν) (k : κ) (l : List α) : lookG k (grpG f g l) = (l.filter fun x => decide (f x = k)).map g := by
  have key : ∀ (m : List α) (G : List (κ × List ν)), lookG k (m.foldl (fun G t => addG (f t) (g t) G) G) = lookG k G ++ (m.filter fun x => decide (f x = k)).map g := by
    intro m
    induction m with
    | nil => intro G; simp
    | cons x m ih =>
      intro G
      rw [List.foldl_cons, ih, look_add]
      by_cases e : f x = k
      · simp [e]
      · have : ¬ k = f x := fun h => e h.symm
        simp [e, this]
  have := key l []
  simpa [grpG, lookG] using this
/-- No list of the map is longer than so. -/
def shortG (n : Nat) (G : List (κ × List ν)) : Prop := ∀ p ∈ G, p.2.length ≤ n
theorem short_add {k : κ} {v : ν} {n : Nat} : ∀ {G : List (κ × List ν)}, shortG n G → shortG (n + 1) (addG k v G)
  | [], _ => fun p hp => by simp [addG] at hp; subst hp; simp
  | q :: G, h => by
    simp only [addG]
    split
    · intro p hp
      rcases List.mem_cons.1 hp with rfl | hp
      · have := h q (by simp); simp; omega
      · have := h p (by simp [hp]); omega
    · intro p hp
      rcases List.mem_cons.1 hp with rfl | hp
      · have := h p (by simp); omega
      · exact short_add (fun p hp => h p (by simp [hp])) p hp
theorem short_look {k : κ} {n : Nat} : ∀ {G : List (κ × List ν)}, shortG n G → (lookG k G).length ≤ n
  | [], _ => by simp [lookG]
  | q :: G, h => by
    simp only [lookG]
    split
    · exact h q (by simp)
    · exact short_look fun p hp => h p (by simp [hp])
theorem short_mono {n m : Nat} {G : List (κ × List ν)} (h : shortG n G) (k : n ≤ m) : shortG m G := fun p hp => Nat.le_trans (h p hp) k
theorem short_grp {α : Type} (f : α → κ) (g : α → ν) (l : List α) : shortG l.length (grpG f g l) := by
  have key : ∀ (m : List α) (G : List (κ × List ν)) (n : Nat), shortG n G → shortG (n + m.length) (m.foldl (fun G t => addG (f t) (g t) G) G) := by
    intro m
    induction m with
    | nil => intro G n h; exact h
    | cons x m ih =>
      intro G n h
      rw [List.foldl_cons, List.length_cons, show n + (m.length + 1) = n + 1 + m.length by omega]
      exact ih _ _ (short_add h)
  have := key l [] 0 (fun p hp => by simp at hp)
  simpa [grpG] using this
end

theorem keys_set {κ ν : Type} {f : κ → RV} {G : List (κ × List ν)} {j : Nat} {k : κ} {l l' : List ν} (h : G[j]? = some (k, l)) : (G.set j (k, l')).map (fun p => f p.1) = G.map (fun p => f p.1) := by
  rw [List.map_set]
  exact set_self (by simp [h])

/-- Where a key stands, in the map's own words. -/
theorem findK_row {k : Nat} {ν : Type} (x : Row k) : ∀ (G : List (Row k × List ν)) (i : Nat), findK (rowV x) (G.map fun p => rowV p.1) i = idxG x G i
  | [], _ => rfl
  | p :: G, i => by
    have e : eqFl (rowV x) (rowV p.1) = some (decide (p.1 = x)) := by
      have h : eqFl (rowV x) (rowV p.1) = some (decide (x = p.1)) := by
        simp only [rowV, eqFl]
        rw [eqLs_str (by rw [x.2, p.1.2])]
        congr 1
        rw [Bool.eq_iff_iff]
        simp [Subtype.ext_iff]
      rw [h]
      congr 1
      rw [Bool.eq_iff_iff]
      simp [eq_comm]
    simp only [List.map_cons, findK, idxG, e, findK_row x G (i + 1)]
    simp
theorem findK_str {ν : Type} (x : ByteArray) : ∀ (G : List (ByteArray × List ν)) (i : Nat), findK (.str x) (G.map fun p => .str p.1) i = idxG x G i
  | [], _ => rfl
  | p :: G, i => by
    have e : eqFl (.str x) (.str p.1) = some (decide (p.1 = x)) := by
      simp only [eqFl, eqSc, eqS_dec]
      congr 1
      rw [Bool.eq_iff_iff]
      simp [eq_comm]
    simp only [List.map_cons, findK, idxG, e, findK_str x G (i + 1)]
    simp
theorem fit_rowV {k : Nat} (x : Row k) : fitV (true, List.replicate k .s) (rowV x) = true := by
  simp only [fitV, row_isAgg, rowV, cells_agg, fit_row]; rfl
@[simp] theorem fit_row2 (x : Row 2) : fitV (true, [.s, .s]) (rowV x) = true := fit_rowV x
@[simp] theorem fit_row3 (x : Row 3) : fitV (true, [.s, .s, .s]) (rowV x) = true := fit_rowV x
@[simp] theorem fit_str1 (x : ByteArray) : fitV (false, [.s]) (.str x) = true := rfl
end Go.PM

/-
  Plain: what is found in sets of tuples: both ends, parts, what is dropped.
-/
namespace Go.PM
open Go Go.AH

def fSubs (S : List (Row 6)) (o : Row 2) (r : ByteArray) : List (Row 3) := (S.filter fun x => decide (refR x = mkRef o r)).map subR
def fObjs (S : List (Row 6)) (s : Row 3) : List (Row 3) := (S.filter fun x => decide (subR x = s)).map refR
def fTypes (S : List (Row 6)) (t : ByteArray) : List ByteArray := setS bl ((S.filter fun x => decide (otyR x = t)).map oidR)
def fUsers (S : List (Row 6)) (t : ByteArray) : List ByteArray := setS bl ((S.filter fun x => decide (styR x = t) && decide (srlR x = e0)).map sidR)
theorem fSubs_len {S : List (Row 6)} {o : Row 2} {r : ByteArray} : (fSubs S o r).length ≤ S.length := by
  unfold fSubs; rw [List.length_map]; exact List.length_filter_le _ _
theorem fObjs_len {S : List (Row 6)} {s : Row 3} : (fObjs S s).length ≤ S.length := by
  unfold fObjs; rw [List.length_map]; exact List.length_filter_le _ _
theorem fTypes_len {S : List (Row 6)} {t : ByteArray} : (fTypes S t).length ≤ S.length := by
  refine Nat.le_trans length_setS ?_; rw [List.length_map]; exact List.length_filter_le _ _
theorem fUsers_len {S : List (Row 6)} {t : ByteArray} : (fUsers S t).length ≤ S.length := by
  refine Nat.le_trans length_setS ?_; rw [List.length_map]; exact List.length_filter_le _ _

theorem row_parts {x y : Row 6} (h1 : refR x = refR y) (h2 : subR x = subR y) : x = y := by
  obtain ⟨a1, a2, a3, a4, a5, a6, rfl⟩ := row6 x
  obtain ⟨b1, b2, b3, b4, b5, b6, rfl⟩ := row6 y
  simp [refR, subR] at h1 h2
  simp [h1, h2]
theorem ref_self (t : Row 6) : refR t = mkRef (objR t) (relR t) := refR_eq.2 ⟨rfl, rfl⟩
theorem setS_one {α : Type} {lt : α → α → Bool} (t : α) : setS lt [t] = [t] := rfl
theorem hasB_one {α : Type} [DecidableEq α] (t x : α) : hasB [t] x = decide (t = x) := by simp [hasB]

/-- One is dropped: as many fewer as it stood there. -/
theorem len_drop {α : Type} [DecidableEq α] (p : α → Bool) (t : α) : ∀ {S : List α}, S.Nodup → (S.filter p).length = ((S.filter fun x => !decide (t = x)).filter p).length + (if hasB S t && p t then 1 else 0)
  | [], _ => by simp [hasB]
  | x :: S, h => by
    have h' := List.nodup_cons.1 h
    have ih := len_drop p t h'.2
    by_cases e : t = x
    · subst e
      have e0 : hasB S t = false := by
        cases k : hasB S t with
        | false => rfl
        | true => exact absurd (hasB_iff.1 k) h'.1
      have e1 : hasB (t :: S) t = true := hasB_iff.2 (by simp)
      rw [e0] at ih
      rw [e1]
      cases hp : p t with
      | true => simp [hp] at ih ⊢; simp [hp, ih]
      | false => simp [hp] at ih ⊢; simp [hp, ih]
    · have ee : hasB (x :: S) t = hasB S t := by
        rw [Bool.eq_iff_iff, hasB_iff, hasB_iff]; simp [e]
      rw [ee]
      cases hp : p x with
      | true => simp only [List.filter_cons, hp, e, decide_false, Bool.not_false, if_true, List.length_cons]; omega
      | false => simp only [List.filter_cons, hp, e, decide_false, Bool.not_false, if_true, Bool.false_eq_true, if_false]; omega

/-- What is found in two sets together is what is found in either. -/
theorem types_both (l m : List (Row 6)) (t : ByteArray) : setS bl (fTypes (setS rl l) t ++ fTypes (setS rl m) t) = fTypes (setS rl (l ++ m)) t := by
  refine setS_congr bl_slo fun x => ?_
  simp only [fTypes, List.mem_append, mem_setS bl_slo, List.mem_map, List.mem_filter, mem_setS rl_slo]
  constructor
  · rintro (⟨y, ⟨h1, h2⟩, h3⟩ | ⟨y, ⟨h1, h2⟩, h3⟩)
    · exact ⟨y, ⟨.inl h1, h2⟩, h3⟩
    · exact ⟨y, ⟨.inr h1, h2⟩, h3⟩
  · rintro ⟨y, ⟨h1 | h1, h2⟩, h3⟩
    · exact .inl ⟨y, ⟨h1, h2⟩, h3⟩
    · exact .inr ⟨y, ⟨h1, h2⟩, h3⟩
theorem users_both (l m : List (Row 6)) (t : ByteArray) : setS bl (fUsers (setS rl l) t ++ fUsers (setS rl m) t) = fUsers (setS rl (l ++ m)) t := by
  refine setS_congr bl_slo fun x => ?_
  simp only [fUsers, List.mem_append, mem_setS bl_slo, List.mem_map, List.mem_filter, mem_setS rl_slo]
  constructor
  · rintro (⟨y, ⟨h1, h2⟩, h3⟩ | ⟨y, ⟨h1, h2⟩, h3⟩)
    · exact ⟨y, ⟨.inl h1, h2⟩, h3⟩
    · exact ⟨y, ⟨.inr h1, h2⟩, h3⟩
  · rintro ⟨y, ⟨h1 | h1, h2⟩, h3⟩
    · exact .inl ⟨y, ⟨h1, h2⟩, h3⟩
    · exact .inr ⟨y, ⟨h1, h2⟩, h3⟩

/-- A set without one tuple. -/
def lessT (l : List (Row 6)) (t : Row 6) : List (Row 6) := (setS rl l).filter fun x => !hasB (setS rl [t]) x
theorem lessT_eq (l : List (Row 6)) (t : Row 6) : lessT l t = (setS rl l).filter fun x => !decide (t = x) := by
  unfold lessT
  simp only [setS_one, hasB_one]
theorem lessT_asc (l : List (Row 6)) (t : Row 6) : setS rl (lessT l t) = lessT l t := setS_self rl_slo ((asc_setS rl_slo).filter _)
theorem subs_drop (l : List (Row 6)) (t : Row 6) : (fSubs (setS rl l) (objR t) (relR t)).length = (fSubs (lessT l t) (objR t) (relR t)).length + (if hasB (setS rl l) t then 1 else 0) := by
  unfold fSubs
  rw [List.length_map, List.length_map, len_drop _ t ((asc_setS rl_slo).nodup rl_slo), lessT_eq]
  simp only [ref_self t, decide_true, Bool.and_true]
theorem objs_drop (l : List (Row 6)) (t : Row 6) : (fObjs (setS rl l) (subR t)).length = (fObjs (lessT l t) (subR t)).length + (if hasB (setS rl l) t then 1 else 0) := by
  unfold fObjs
  rw [List.length_map, List.length_map, len_drop _ t ((asc_setS rl_slo).nodup rl_slo), lessT_eq]
  simp only [decide_true, Bool.and_true]
theorem subs_gone (l : List (Row 6)) (t : Row 6) : subR t ∉ fSubs (lessT l t) (objR t) (relR t) := fun h => by
  simp only [fSubs, lessT_eq, List.mem_map, List.mem_filter, decide_eq_true_eq] at h
  obtain ⟨x, ⟨⟨_, h1⟩, h2⟩, h3⟩ := h
  have e : x = t := row_parts (h2.trans (ref_self t).symm) h3
  subst e
  simp at h1

/-- Both ends. -/
theorem subs_has (S : List (Row 6)) (t : Row 6) : hasB (fSubs S (objR t) (relR t)) (subR t) = hasB S t := by
  rw [Bool.eq_iff_iff, hasB_iff, hasB_iff]
  simp only [fSubs, List.mem_map, List.mem_filter, decide_eq_true_eq]
  constructor
  · rintro ⟨x, ⟨h1, h2⟩, h3⟩
    have e : x = t := row_parts (h2.trans (ref_self t).symm) h3
    exact e ▸ h1
  · exact fun h => ⟨t, ⟨h, ref_self t⟩, rfl⟩
theorem objs_has (S : List (Row 6)) (t : Row 6) : hasB (fObjs S (subR t)) (refR t) = hasB S t := by
  rw [Bool.eq_iff_iff, hasB_iff, hasB_iff]
  simp only [fObjs, List.mem_map, List.mem_filter, decide_eq_true_eq]
  constructor
  · rintro ⟨x, ⟨h1, h2⟩, h3⟩
    have e : x = t := row_parts h3 h2
    exact e ▸ h1
  · exact fun h => ⟨t, ⟨h, rfl⟩, rfl⟩
theorem subs_asc {S : List (Row 6)} (h : Asc rl S) (o : Row 2) (r : ByteArray) : Asc rl (fSubs S o r) := by
  refine (h.filter _).map _ fun x hx y hy hl => ?_
  have e1 := (List.mem_filter.1 hx).2
  have e2 := (List.mem_filter.1 hy).2
  simp only [decide_eq_true_eq] at e1 e2
  rw [rl_parts, e1, e2, rl_slo.irr] at hl
  simpa using hl
theorem objs_asc {S : List (Row 6)} (h : Asc rl S) (s : Row 3) : Asc rl (fObjs S s) := by
  refine (h.filter _).map _ fun x hx y hy hl => ?_
  have e1 := (List.mem_filter.1 hx).2
  have e2 := (List.mem_filter.1 hy).2
  simp only [decide_eq_true_eq] at e1 e2
  rw [rl_parts, e1, e2, rl_slo.irr] at hl
  simpa using hl

theorem ref_mk (r s : Row 3) : refR (mkTup r s) = r := by
  obtain ⟨a1, a2, a3, rfl⟩ := row3 r
  obtain ⟨b1, b2, b3, rfl⟩ := row3 s
  rfl
theorem sub_mk (r s : Row 3) : subR (mkTup r s) = s := by
  obtain ⟨a1, a2, a3, rfl⟩ := row3 r
  obtain ⟨b1, b2, b3, rfl⟩ := row3 s
  rfl
theorem rl_subs (r a b : Row 3) : rl (mkTup r a) (mkTup r b) = rl a b := by
  rw [rl_parts, ref_mk, ref_mk, sub_mk, sub_mk, rl_slo.irr]; simp
theorem rl_refs (a b s : Row 3) : rl (mkTup a s) (mkTup b s) = rl a b := by
  rw [rl_parts, ref_mk, ref_mk, sub_mk, sub_mk, rl_slo.irr]; simp

/-- Counted by keys. -/
theorem sum_filter {α κ : Type} [DecidableEq κ] (p : α → Bool) (f : α → κ) (ks : List κ) (hn : ks.Nodup) : ∀ (S : List α), (∀ x ∈ S, p x = true → f x ∈ ks) → (S.filter p).length = (ks.map fun k => (S.filter fun x => p x && decide (f x = k)).length).sum
  | [], _ => by
    induction ks with
    | nil => rfl
    | cons k ks ih => simpa using ih (List.nodup_cons.1 hn).2
  | x :: S, h => by
    have ih := sum_filter p f ks hn S fun y hy => h y (by simp [hy])
    cases hp : p x with
    | false => simpa [hp] using ih
    | true =>
      have hx := h x (by simp) hp
      have one : ∀ ks : List κ, ks.Nodup → (ks.map fun k => ((x :: S).filter fun x => p x && decide (f x = k)).length).sum = (ks.map fun k => (S.filter fun x => p x && decide (f x = k)).length).sum + (if f x ∈ ks then 1 else 0) := by
        intro ks
        induction ks with
        | nil => intro _; simp
        | cons k ks ih =>
          intro hk
          have hk' := List.nodup_cons.1 hk
          have ih' := ih hk'.2
          simp only [List.map_cons, List.sum_cons, ih']
          by_cases e : f x = k
          · subst e
            have : (if f x ∈ ks then 1 else 0) = 0 := if_neg hk'.1
            simp [hp, this]
            omega
          · simp [hp, e]
            omega
      rw [one ks hn, if_pos hx]
      simp [hp, ih]

/-- An object. -/
def mkObj (t i : ByteArray) : Row 2 := ⟨[t, i], rfl⟩
/-- All that is found of the objects of a type. -/
def cnt (S : List (Row 6)) (t : ByteArray) (r s : ByteArray) (i : ByteArray) : Nat := (fSubs S (mkObj t i) r).length + (fSubs S (mkObj t i) s).length
theorem obj_mk {x : Row 6} {t i r : ByteArray} : refR x = mkRef (mkObj t i) r ↔ otyR x = t ∧ oidR x = i ∧ relR x = r := by
  obtain ⟨a1, a2, a3, a4, a5, a6, rfl⟩ := row6 x
  simp [refR, mkRef, mkObj, otyR, oidR, relR]
theorem cnt_type {S : List (Row 6)} (t : ByteArray) {r s : ByteArray} (hrs : r ≠ s) (h : ∀ x ∈ S, relR x = r ∨ relR x = s) : ((fTypes S t).map (cnt S t r s)).sum = (S.filter fun x => decide (otyR x = t)).length := by
  rw [sum_filter (fun x => decide (otyR x = t)) oidR (fTypes S t) ((asc_setS bl_slo).nodup bl_slo) S fun x hx hp => by
    unfold fTypes
    rw [mem_setS bl_slo, List.mem_map]
    exact ⟨x, List.mem_filter.2 ⟨hx, hp⟩, rfl⟩]
  congr 1
  refine List.map_congr_left fun i _ => ?_
  unfold cnt fSubs
  rw [List.length_map, List.length_map]
  have key : ∀ T : List (Row 6), (∀ x ∈ T, relR x = r ∨ relR x = s) → (T.filter fun x => decide (refR x = mkRef (mkObj t i) r)).length + (T.filter fun x => decide (refR x = mkRef (mkObj t i) s)).length = (T.filter fun x => decide (otyR x = t) && decide (oidR x = i)).length := by
    intro T
    induction T with
    | nil => intro _; rfl
    | cons x T ih =>
      intro hT
      have ih' := ih fun y hy => hT y (by simp [hy])
      by_cases c : otyR x = t ∧ oidR x = i
      · rcases hT x (by simp) with e | e
        · have k1 : refR x = mkRef (mkObj t i) r := obj_mk.2 ⟨c.1, c.2, e⟩
          have k2 : ¬ refR x = mkRef (mkObj t i) s := fun k => hrs (e.symm.trans (obj_mk.1 k).2.2)
          simp [List.filter_cons, k1, c.1, c.2, ← ih']
          rw [if_neg (fun k => k2 (k1.trans k))]
          omega
        · have k1 : refR x = mkRef (mkObj t i) s := obj_mk.2 ⟨c.1, c.2, e⟩
          have k2 : ¬ refR x = mkRef (mkObj t i) r := fun k => hrs ((obj_mk.1 k).2.2.symm.trans e)
          simp [List.filter_cons, k1, c.1, c.2, ← ih']
          rw [if_neg (fun k => k2 (k1.trans k))]
          omega
      · have k1 : ¬ refR x = mkRef (mkObj t i) r := fun k => c ⟨(obj_mk.1 k).1, (obj_mk.1 k).2.1⟩
        have k2 : ¬ refR x = mkRef (mkObj t i) s := fun k => c ⟨(obj_mk.1 k).1, (obj_mk.1 k).2.1⟩
        have k3 : (decide (otyR x = t) && decide (oidR x = i)) = false := by
          rw [Bool.and_eq_false_iff]
          by_cases q : otyR x = t
          · exact .inr (by simpa using fun k => c ⟨q, k⟩)
          · exact .inl (by simpa using q)
        simp only [List.filter_cons, k1, k2, k3, decide_false]
        simpa using ih'
  exact key S h
theorem cnt_two {S : List (Row 6)} {a b r s : ByteArray} (hab : a ≠ b) (hrs : r ≠ s) (h1 : ∀ x ∈ S, otyR x = a ∨ otyR x = b) (h2 : ∀ x ∈ S, relR x = r ∨ relR x = s) : ((fTypes S a).map (cnt S a r s)).sum + ((fTypes S b).map (cnt S b r s)).sum = S.length := by
  rw [cnt_type a hrs h2, cnt_type b hrs h2]
  clear h2
  induction S with
  | nil => rfl
  | cons x S ih =>
    have ih' := ih fun y hy => h1 y (by simp [hy])
    rcases h1 x (by simp) with e | e
    · simp [List.filter_cons, e, hab]; omega
    · have : ¬ b = a := fun k => hab k.symm
      simp [List.filter_cons, e, this]; omega
end Go.PM
