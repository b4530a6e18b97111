/-
  AH: every operation that is no call: what the model does where AH does something.
-/
import Derived.Test.YtemibbcfbhafeaaDoorAhMaps
namespace Go.AH
open Go
variable {P : Program} {M : Mp} {H H' : Heap} {W : World}

theorem PR.of {r r' : Operand → Value} (hr : ∀ x, VR P M (r x) (r' x)) : ∀ (l : List (Nat × Operand)), (l.all fun p => noTuple (r p.2)) = true → PR P M (l.map fun p => (p.1, r p.2)) (l.map fun p => (p.1, r' p.2))
  | [], _ => .nil
  | p :: l, h => by
    simp only [List.all_cons, Bool.and_eq_true] at h
    refine .cons (fun e => ?_) (hr _) (PR.of hr l h.2)
    rw [e] at h
    simp [noTuple, junk] at h

theorem LR.of {r r' : Operand → Value} (hr : ∀ x, VR P M (r x) (r' x)) : ∀ (l : List Operand), LR P M (l.map r) (l.map r')
  | [] => .nil
  | _ :: l => .cons (hr _) (LR.of hr l)

theorem OVR.of {r r' : Operand → Value} (hr : ∀ x, VR P M (r x) (r' x)) (x : Option Operand) : OVR P M (x.map r) (x.map r') := by
  cases x
  · trivial
  · exact hr _

theorem map_pair {x : Option Value} {v : Value} (h : x.map (·, H) = some (v, H')) : x = some v ∧ H' = H := by
  cases x with
  | none => simp at h
  | some u => simp only [Option.map_some, Option.some.injEq, Prod.mk.injEq] at h; exact ⟨by rw [h.1], h.2.symm⟩

theorem sim_builtin (R : Rel P M H W) {b : Builtin} {ts : Array TypeId} {ty : TypeId} {consts : Array Bool} {l l' : List Value} {v : Value} (hl : LR P M l l') (h : builtinA P H b ts.toList l = some (v, H')) : OpSim P M H W (builtin b ts ty consts l'.toArray) v H' := by
  obtain ⟨ts⟩ := ts
  unfold builtinA at h
  split at h
  · rename_i t0 t1 s x hts
    simp only at hts
    subst hts
    cases hl with | cons h1 r => cases r with | cons h2 r => cases r with | nil =>
    exact (sim_append (ty := ty) R h1 h2 h).op
  · rename_i t x hts
    simp only at hts
    subst hts
    cases hl with | cons h1 r => cases r with | nil =>
    cases hq : lenA P H t x with
    | none => simp [hq] at h
    | some u =>
      simp only [hq, Option.map_some, Option.some.injEq, Prod.mk.injEq] at h
      obtain ⟨rfl, rfl⟩ := h
      exact (sim_len (ty := ty) R h1 hq).op
  · rename_i t x hts
    simp only at hts
    subst hts
    cases hl with | cons h1 r => cases r with | nil =>
    cases hq : clearA P H t x with
    | none => simp [hq] at h
    | some u =>
      simp only [hq, Option.map_some, Option.some.injEq, Prod.mk.injEq] at h
      obtain ⟨rfl, rfl⟩ := h
      exact (sim_clear (ty := ty) R h1 hq).op
  · obtain ⟨hq, rfl⟩ := map_pair h
    exact (sim_min R hl hq _ _).op
  · obtain ⟨hq, rfl⟩ := map_pair h
    exact (sim_max R hl hq _ _).op
  · cases h

theorem sim_op (R : Rel P M H W) {r r' : Operand → Value} (hr : ∀ x, VR P M (r x) (r' x)) (o : Oper) {v : Value} (h : opA P r o.op H = some (v, H')) : OpSim P M H W (execOp r' o) v H' := by
  obtain ⟨dst, op, type, pos, after, guard⟩ := o
  simp only at h
  have mp : ∀ {x : Option Value}, x.map (·, H) = some (v, H') → x = some v ∧ H' = H := by
    intro x hx
    cases x with
    | none => simp at hx
    | some u => simp only [Option.map_some, Option.some.injEq, Prod.mk.injEq] at hx; exact ⟨by rw [hx.1], hx.2.symm⟩
  have mu : ∀ {x : Option Heap}, x.map (undef, ·) = some (v, H') → x = some H' ∧ v = undef := by
    intro x hx
    cases x with
    | none => simp at hx
    | some u => simp only [Option.map_some, Option.some.injEq, Prod.mk.injEq] at hx; exact ⟨by rw [hx.2], hx.1.symm⟩
  cases op with
  | move x => simp only [opA, Option.some.injEq, Prod.mk.injEq] at h; obtain ⟨rfl, rfl⟩ := h; exact ⟨_, W, _, M, rfl, .inl rfl, hr x, Step.refl R⟩
  | assign x => simp only [opA, Option.some.injEq, Prod.mk.injEq] at h; obtain ⟨rfl, rfl⟩ := h; exact ⟨_, W, _, M, rfl, .inl rfl, hr x, Step.refl R⟩
  | pick c a b => obtain ⟨h1, rfl⟩ := mp h; exact sim_pick R (hr c) (hr a) (hr b) h1
  | alloc t =>
    simp only [opA] at h
    cases hz : zeroA P t with
    | none => simp [hz] at h
    | some c => simp only [hz, Option.map_some, Option.some.injEq] at h; have := (sim_alloc R hz).op; rw [h] at this; exact this
  | box t x =>
    simp only [opA] at h
    split at h
    · rename_i hn
      simp only [Option.some.injEq] at h
      have hj : r x ≠ junk := fun e => by rw [e] at hn; simp [noTuple, junk] at hn
      have := (sim_box R t hj (hr x)).op; rw [h] at this; exact this
    · cases h
  | build t ps =>
    simp only [opA] at h
    split at h
    · rename_i hn
      obtain ⟨h1, rfl⟩ := mp h
      have hp := PR.of hr ps.toList hn
      have : ps.toList.map (fun p => (p.1, r p.2)) = (ps.map fun p => (p.1, r p.2)).toList := by simp
      rw [this] at h1 hp
      have : ps.toList.map (fun p => (p.1, r' p.2)) = (ps.map fun p => (p.1, r' p.2)).toList := by simp
      rw [this] at hp
      exact (sim_build R hp h1).op
    · cases h
  | buildSlice t n ps =>
    simp only [opA] at h
    split at h
    · rename_i hn
      have hp := PR.of hr ps.toList hn
      have : ps.toList.map (fun p => (p.1, r p.2)) = (ps.map fun p => (p.1, r p.2)).toList := by simp
      rw [this] at h hp
      have : ps.toList.map (fun p => (p.1, r' p.2)) = (ps.map fun p => (p.1, r' p.2)).toList := by simp
      rw [this] at hp
      exact (sim_buildSlice R hp h).op
    · cases h
  | insert t m k x => obtain ⟨h1, rfl⟩ := mu h; exact (sim_mapUpdate R (hr m) (hr k) (hr x) h1).op
  | load t a => obtain ⟨h1, rfl⟩ := mp h; exact (sim_load R (hr a) h1).op
  | store t a x => obtain ⟨h1, rfl⟩ := mu h; exact (sim_store R (hr a) (hr x) h1).op
  | ready g => simp [opA] at h
  | waits g => simp [opA] at h
  | nilCheck x => obtain ⟨h1, rfl⟩ := mp h; exact sim_nilCheck R (hr x) h1 _ r' x rfl rfl
  | binOp op t x y t2 => obtain ⟨h1, rfl⟩ := mp h; exact (sim_bin R (hr x) (hr y) h1 x y).op
  | unOp op t x => obtain ⟨h1, rfl⟩ := mp h; exact (sim_un R (hr x) h1).op
  | convert s d x => exact (sim_convert R (hr x) h).op
  | sliceToArrayPointer d x => simp [opA] at h
  | makeInterface t x => simp [opA] at h
  | makeFunc f first cap =>
    simp only [opA, Option.some.injEq, Prod.mk.injEq] at h
    obtain ⟨rfl, rfl⟩ := h
    have e1 : AR P M (first.map r) (first.map r') := ⟨by rw [Array.size_map, Array.size_map], fun i h1 h2 => by rw [Array.getElem_map, Array.getElem_map]; exact hr _⟩
    have e2 : AR P M (cap.map r) (cap.map r') := ⟨by rw [Array.size_map, Array.size_map], fun i h1 h2 => by rw [Array.getElem_map, Array.getElem_map]; exact hr _⟩
    exact (VSim.same R (v' := .func f (first.map r') (cap.map r')) rfl (.func e1.1 e2.1 e1.2 e2.2)).op
  | makeMap t x =>
    cases x with
    | none => exact (sim_makeMap R h).op
    | some x => simp [opA] at h
  | makeChan t s => simp [opA] at h
  | makeSlice t l c => exact (sim_makeSlice R (hr l) (hr c) h).op
  | slice t x lo hi mx => obtain ⟨h1, rfl⟩ := mp h; exact (sim_slice R (hr x) (OVR.of hr lo) (OVR.of hr hi) (OVR.of hr mx) h1).op
  | fieldAddr s x f => obtain ⟨h1, rfl⟩ := mp h; exact (sim_fieldAddr R (hr x) h1).op
  | field s x f => obtain ⟨h1, rfl⟩ := mp h; exact (sim_field R (hr x) h1).op
  | indexAddr t x i => obtain ⟨h1, rfl⟩ := mp h; exact (sim_indexAddr R (hr x) (hr i) h1).op
  | index t x i => obtain ⟨h1, rfl⟩ := mp h; exact (sim_index R (hr x) (hr i) h1).op
  | lookup t m k ok => obtain ⟨h1, rfl⟩ := mp h; exact (sim_lookup R (hr m) (hr k) h1).op
  | mapUpdate t m k x => obtain ⟨h1, rfl⟩ := mu h; exact (sim_mapUpdate R (hr m) (hr k) (hr x) h1).op
  | mapEntry t m k => exact (sim_mapEntry R (hr m) (hr k) h).op
  | entryStore t m s x => obtain ⟨h1, rfl⟩ := mu h; exact (sim_entryStore R (hr m) (hr s) (hr x) h1).op
  | range t x => simp [opA] at h
  | next x b => simp [opA] at h
  | entry x => simp [opA] at h
  | typeAssert x a b c => simp [opA] at h
  | extract x i => obtain ⟨h1, rfl⟩ := mp h; exact (sim_extract R (hr x) h1).op
  | call c =>
    obtain ⟨callee, args, argTypes⟩ := c
    cases callee with
    | value f => simp [opA] at h
    | invoke a b => simp [opA] at h
    | builtin b =>
      simp only [opA] at h
      obtain ⟨cs, e2⟩ : ∃ cs, execOp r' ⟨dst, .call ⟨.builtin b, args, argTypes⟩, type, pos, after, guard⟩ = builtin b argTypes type cs (args.map r') := ⟨_, rfl⟩
      have := sim_builtin (ty := type) (consts := cs) R (LR.of hr args.toList) h
      have e : (args.toList.map r').toArray = args.map r' := by rw [← Array.toList_map]
      rw [e] at this
      rw [e2]
      exact this
  | go c => simp [opA] at h
  | defer c => simp [opA] at h
  | panic x => simp [opA] at h
  | send a b => simp [opA] at h
  | recv a b c => simp [opA] at h
  | select a b => simp [opA] at h

end Go.AH
