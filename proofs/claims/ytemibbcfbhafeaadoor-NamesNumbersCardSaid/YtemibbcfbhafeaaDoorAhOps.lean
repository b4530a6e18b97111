/-
  AH: what an operation of the model does where AH's does something: the operations that make no row longer and touch no map.
-/
import Derived.Test.YtemibbcfbhafeaaDoorAhRun
namespace Go.AH
open Go
variable {P : Program} {M : Mp} {H H' : Heap} {W : World}

def OpSim (P : Program) (M : Mp) (H : Heap) (W : World) (s : Sem Next) (v : Value) (H' : Heap) : Prop :=
  ∃ nx W' v' M', s.run P W = .ok nx W' ∧ (nx = .value v' ∨ nx = .skip ∧ v' = undef) ∧ VR P M' v v' ∧ Step P M H W M' H' W'

/-- For a small program that yields a value. -/
def VSim (P : Program) (M : Mp) (H : Heap) (W : World) (s : Sem Value) (v : Value) (H' : Heap) : Prop :=
  ∃ W' v' M', s.run P W = .ok v' W' ∧ VR P M' v v' ∧ Step P M H W M' H' W'
def USim (P : Program) (M : Mp) (H : Heap) (W : World) (s : Sem Unit) (H' : Heap) : Prop :=
  ∃ W' M', s.run P W = .ok () W' ∧ Step P M H W M' H' W'

theorem VSim.op {s : Sem Value} {v : Value} (h : VSim P M H W s v H') : OpSim P M H W (do pure (.value (← s))) v H' := by
  obtain ⟨W', v', M', e, r, st⟩ := h
  exact ⟨_, W', v', M', by simp [e], .inl rfl, r, st⟩
theorem USim.op {s : Sem Unit} (h : USim P M H W s H') : OpSim P M H W (do s; pure .skip) undef H' := by
  obtain ⟨W', M', e, st⟩ := h
  exact ⟨_, W', undef, M', by simp [e], .inr ⟨rfl, rfl⟩, VR.undef, st⟩
theorem VSim.same (R : Rel P M H W) {s : Sem Value} {v v' : Value} (e : s.run P W = .ok v' W) (h : VR P M v v') : VSim P M H W s v H := ⟨W, v', M, e, h, Step.refl R⟩

/-! ### a new block -/
theorem sim_new (R : Rel P M H W) {c c' : Array Value} (t : TypeId) (hc : CR P M 0 c c') :
    Step P M H W (ins M H.size ⟨W.heap.size, 0, c'.size, t⟩) (H.push (.cells c t true)) (W.alloc (.cells c' t)) := by
  have hle := ins_le (M := M) (τ := ⟨W.heap.size, 0, c'.size, t⟩) (R.none_at (Nat.le_refl _))
  refine step_push (W' := W.alloc (.cells c' t)) (blk := .cells c t true) (τ := ⟨W.heap.size, 0, c'.size, t⟩) R ⟨rfl, rfl, rfl, Nat.le_refl _⟩ (.cells c' t) rfl rfl rfl ⟨c', (0, 0), ?_, rfl, rfl, hc.mono hle, fun _ i _ => by simp⟩
  show (W.heap.push _)[W.heap.size]? = _
  simp

theorem sim_newVar (R : Rel P M H W) {v : Value} {c : Array Value} (t : TypeId) (hc : CR P M 0 c v.cells) :
    VSim P M H W (do pure (.pointer (some (← newVar t v)))) (allocA t H c).1 (allocA t H c).2 :=
  ⟨_, _, _, by simp [newVar, newRow]; rfl, by
    have := @VR.ptr P (ins M H.size ⟨W.heap.size, 0, v.cells.size, t⟩) H.size 0 _ (ins_same _ _ _)
    simpa [allocA] using this, sim_new R t hc⟩

theorem sim_alloc (R : Rel P M H W) {t : TypeId} {c : Array Value} (h : zeroA P t = some c) : VSim P M H W (Instr.alloc t true (.tuple #[])) (allocA t H c).1 (allocA t H c).2 := by
  obtain ⟨i, z, hi, hz, rfl, hb⟩ := zeroA_spec h
  obtain ⟨W', v', M', e, r, st⟩ := sim_newVar (v := z) R t (CR.base hb)
  refine ⟨W', v', M', ?_, r, st⟩
  rw [← e]
  simp [Instr.alloc, run_zero hi hz]

theorem sim_box (R : Rel P M H W) (t : TypeId) {v v' : Value} (hj : v ≠ junk) (h : VR P M v v') : VSim P M H W (Instr.box t v') (allocA t H v.cells).1 (allocA t H v.cells).2 :=
  sim_newVar R t (CR.of_AR (h.cells hj))

/-! ### loads, stores, addresses -/
theorem sim_load (R : Rel P M H W) {t : TypeId} {x x' v : Value} (hx : VR P M x x') (h : loadA P t H x = some v) : VSim P M H W (Instr.loadAt t x') v H := by
  unfold loadA at h
  split at h
  · rename_i b o
    obtain ⟨τ, hτ, rfl⟩ := hx.ptr_inv
    cases hb : H[b]? with
    | none => rw [hb] at h; cases h
    | some blk =>
      cases blk with
      | map kt es => rw [hb] at h; cases h
      | dead => rw [hb] at h; cases h
      | cells c e rw_ =>
        rw [hb] at h
        obtain ⟨blk', h1, h2⟩ := R.blk b τ hτ
        rw [hb] at h1; cases h1
        obtain ⟨c', fz, hw, ht, hn, hc, hf⟩ := h2
        cases ha : isAggA P t with
        | none => simp [ha] at h
        | some ag =>
          cases ag with
          | false =>
            simp only [ha] at h
            obtain ⟨v', e1, r⟩ := hc.get h
            refine VSim.same R (v' := v') ?_ r
            simp [Instr.loadAt, Instr.sureAddr, loadVar, run_isAgg ha, cell_of hw, e1]
          | true =>
            simp only [ha] at h
            cases hk : sz P t with
            | none => simp [hk] at h
            | some k =>
              simp only [hk, Option.bind_some] at h
              split at h
              · rename_i hle
                cases h
                obtain ⟨g1, g2⟩ := hc.extract hle
                refine VSim.same R (v' := .agg (c'.extract (τ.d + o) (τ.d + o + k))) ?_ (.agg g2.1 g2.2)
                simp [Instr.loadAt, Instr.sureAddr, loadVar, run_isAgg ha, run_size hk, run_loadRow hw g1]
              · cases h
  · cases h

theorem sim_wr (R : Rel P M H W) {b o : Nat} {c : Array Value} {e : TypeId} {vs vs' : List Value} (hb : H[b]? = some (.cells c e true)) {τ : Tgt} (hτ : M b = some τ) (hv : LR P M vs vs') (h1 : vs.all Value.oneCell' = true) (hn : o + vs.length ≤ c.size) :
    USim P M H W (storeCells ⟨τ.b, τ.d + o, none⟩ vs' 0) (H.setIfInBounds b (.cells (wr c o vs) e true)) := by
  obtain ⟨blk', g1, g2⟩ := R.blk b τ hτ
  rw [hb] at g1; cases g1
  obtain ⟨c', fz, hw, ht, hsz, hc, hf⟩ := g2
  have hl := hv.length
  have hcs := hc.1
  have h1' : vs'.all Value.oneCell' = true := by
    clear hn hl
    induction hv with
    | nil => rfl
    | cons h r ih =>
      simp only [List.all_cons, Bool.and_eq_true] at h1 ⊢
      exact ⟨h.oneCell h1.1, ih h1.2⟩
  have hlt : τ.b < W.heap.size := R.lt b τ hτ
  have hrun := run_stores (P := P) (o := τ.d + o) vs' 0 c' W hw (fun i hi => hf rfl i (by omega)) h1' (by omega)
  refine ⟨_, M, hrun, step_set R (setBlk_same _ _ _) hτ ?_ ?_ rfl (setBlk_size _ _ _) (fun k hk => setBlk_other _ _ _ _ hk) ⟨_, fz, setBlk_get _ _ _ hlt, ht, by rw [wr_size]; exact hsz, ?_, hf⟩⟩
  · rintro ⟨c1, t1, h2⟩; rw [hb] at h2; cases h2
  · intro h2; unfold Dead at h2; rw [hb] at h2; cases h2
  · exact CR.wr hv hc

theorem sim_store (R : Rel P M H W) {t : TypeId} {x x' v v' : Value} (hx : VR P M x x') (hv : VR P M v v') (h : storeA P t H x v = some H') : USim P M H W (Instr.storeAt t x' v') H' := by
  unfold storeA at h
  split at h
  · rename_i b o
    obtain ⟨τ, hτ, rfl⟩ := hx.ptr_inv
    split at h
    · rename_i c e hb
      split at h
      · rename_i hcond
        obtain ⟨hk, hle, h1⟩ := hcond
        cases h
        have hj : v ≠ junk := by rintro rfl; simp [junk, Value.cells, Value.oneCell'] at h1
        have hcs := hv.cells hj
        obtain ⟨W', M', e1, st⟩ := sim_wr (o := o) R hb hτ hcs.list h1 (by simpa using hle)
        refine ⟨W', M', ?_, st⟩
        have : v'.cells.size = v.cells.size := hcs.1.symm
        simp [Instr.storeAt, Instr.sureAddr, storeVar, run_size hk, this, e1]
      · cases h
    · cases h
  · cases h

theorem sim_fieldAddr (R : Rel P M H W) {s : TypeId} {f : Nat} {x x' v : Value} (hx : VR P M x x') (h : fieldAddrA P s f x = some v) : VSim P M H W (Instr.fieldAt s x' f) v H := by
  unfold fieldAddrA at h
  split at h
  · rename_i b o
    obtain ⟨τ, hτ, rfl⟩ := hx.ptr_inv
    split at h
    · rename_i fields hu
      split at h
      · rename_i fd hf
        cases hk : sz P fd.type with
        | none => simp [hk] at h
        | some k =>
          simp only [hk, Option.bind_some] at h
          split at h
          · cases h
          · rename_i hk0
            cases h
            refine VSim.same R (v' := .pointer (some ⟨τ.b, τ.d + (o + fd.offset), none⟩)) ?_ (.ptr hτ)
            simp [Instr.fieldAt, run_under hu, hf, Instr.sureAddr, fieldPlace, run_size hk, hk0, Addr.add_lit, Nat.add_assoc]
      · cases h
    · cases h
  · cases h

theorem sim_indexAddr (R : Rel P M H W) {t : TypeId} {x x' i i' v : Value} (hx : VR P M x x') (hi : VR P M i i') (h : indexAddrA P t x i = some v) : VSim P M H W (Instr.indexAt t x' i') v H := by
  unfold indexAddrA at h
  split at h
  · rename_i b o k n
    obtain ⟨τ, hτ, rfl⟩ := hx.ptr_inv
    cases hi.int_inv
    split at h
    · rename_i len e hu
      cases hk : sz P e with
      | none => simp [hk] at h
      | some s =>
        simp only [hk, Option.bind_some] at h
        split at h
        · rename_i hc
          cases h
          refine VSim.same R (v' := .pointer (some ⟨τ.b, τ.d + (o + n.toNat * s), none⟩)) ?_ (.ptr hτ)
          simp [Instr.indexAt, asIntOf, run_under hu, Instr.sureAddr, run_size hk, hc, Addr.add_lit, Nat.add_assoc]
        · cases h
    · cases h
  · rename_i b o len c k n
    obtain ⟨τ, o', c', hτ, rfl, ho⟩ := hx.slice_inv
    cases hi.int_inv
    split at h
    · rename_i e hu
      cases hk : sz P e with
      | none => simp [hk] at h
      | some s =>
        simp only [hk, Option.bind_some] at h
        split at h
        · rename_i hc
          cases h
          rcases ho with rfl | rfl
          · refine VSim.same R (v' := .pointer (some ⟨τ.b, τ.d + (o + n.toNat * s), none⟩)) ?_ (.ptr hτ)
            simp [Instr.indexAt, asIntOf, run_under hu, run_size hk, hc, Addr.add_lit, Nat.add_assoc]
          · omega
        · cases h
    · cases h
  · cases h

/-! ### parts of values -/
theorem run_part {t : TypeId} {cs cs' : Array Value} {off : Nat} {v : Value} (hc : AR P M cs cs') (h : partA P t cs off = some v) (w : World) : ∃ v', (part t cs' off).run P w = .ok v' w ∧ VR P M v v' := by
  unfold partA at h
  cases ha : isAggA P t with
  | none => simp [ha] at h
  | some ag =>
    cases ag with
    | true =>
      simp only [ha] at h
      cases hk : sz P t with
      | none => simp [hk] at h
      | some k =>
        simp only [hk, Option.map_some] at h
        cases h
        refine ⟨.agg (cs'.extract off (off + k)), by simp [part, run_isAgg ha, run_size hk], .agg (by simp [hc.1]) fun i h1 h2 => ?_⟩
        simp only [Array.getElem_extract]
        exact hc.2 _ _ _
    | false =>
      simp only [ha] at h
      obtain ⟨v', e, r⟩ := hc.get? h
      exact ⟨v', by simp [part, run_isAgg ha, e], r⟩

theorem sim_field (R : Rel P M H W) {s : TypeId} {f : Nat} {x x' v : Value} (hx : VR P M x x') (h : fieldA P s f x = some v) : VSim P M H W (Instr.field s x' f) v H := by
  unfold fieldA at h
  split at h
  · rename_i cs
    obtain ⟨cs', rfl, hc⟩ := hx.agg_inv
    split at h
    · rename_i fields hu
      split at h
      · rename_i fd hf
        obtain ⟨v', e, r⟩ := run_part hc h W
        refine VSim.same R (v' := v') ?_ r
        simp [Instr.field, run_under hu, hf, asAgg, e]
      · cases h
    · cases h
  · cases h

theorem sim_index (R : Rel P M H W) {t : TypeId} {x x' i i' v : Value} (hx : VR P M x x') (hi : VR P M i i') (h : indexA P t x i = some v) : VSim P M H W (Instr.index t x' i') v H := by
  unfold indexA at h
  split at h
  · rename_i cs k n
    obtain ⟨cs', rfl, hc⟩ := hx.agg_inv
    cases hi.int_inv
    split at h
    · rename_i len e hu
      cases hk : sz P e with
      | none => simp [hk] at h
      | some s =>
        simp only [hk, Option.bind_some] at h
        split at h
        · rename_i hcond
          obtain ⟨v', e1, r⟩ := run_part hc h W
          refine VSim.same R (v' := v') ?_ r
          simp [Instr.index, asIntOf, run_under hu, run_size hk, hcond, e1]
        · cases h
    · cases h
  · rename_i s k n
    cases hx.string_inv
    cases hi.int_inv
    split at h
    · rename_i hu
      split at h
      · rename_i h0
        cases hb : s[n.toNat]? with
        | none => simp [hb] at h
        | some b =>
          simp only [hb, Option.map_some] at h
          cases h
          refine VSim.same R (v' := .int .u8 b.toNat) ?_ (.base rfl)
          simp [Instr.index, asIntOf, run_under hu, h0, hb]
      · cases h
    · cases h
  · cases h

theorem sim_extract (R : Rel P M H W) {i : Nat} {x x' v : Value} (hx : VR P M x x') (h : extractA i x = some v) : VSim P M H W (Instr.extract x' i) v H := by
  unfold extractA at h
  split at h
  · rename_i vs
    split at h
    · rename_i h2
      obtain ⟨vs', rfl, hv⟩ := hx.tuple_inv (by rintro e; cases e; simp at h2)
      obtain ⟨v', e, r⟩ := hv.get? h
      exact VSim.same R (v' := v') (by simp [Instr.extract, e]) r
    · cases h
  · cases h


/-! ### values built of parts -/
inductive PR (P : Program) (M : Mp) : List (Nat × Value) → List (Nat × Value) → Prop
  | nil : PR P M [] []
  | cons {i : Nat} {v v' : Value} {l l' : List (Nat × Value)} (hj : v ≠ junk) (h : VR P M v v') (r : PR P M l l') : PR P M ((i, v) :: l) ((i, v') :: l')

theorem AR.set {x x' : Array Value} {o : Nat} {v v' : Value} (h : AR P M x x') (hv : VR P M v v') : AR P M (x.setIfInBounds o v) (x'.setIfInBounds o v') := by
  refine ⟨by simpa using h.1, fun i h1 h2 => ?_⟩
  simp only [Array.size_setIfInBounds] at h1 h2
  rw [Array.getElem_setIfInBounds h1, Array.getElem_setIfInBounds h2]
  split
  · exact hv
  · exact h.2 i h1 h2

theorem fill_fold {off : Nat} : ∀ {l l' : List Value}, LR P M l l' → ∀ (k : Nat) {x x' : Array Value}, AR P M x x' →
    AR P M ((l.zipIdx k).foldl (fun cs p => cs.setIfInBounds (off + p.2) p.1) x) ((l'.zipIdx k).foldl (fun cs p => cs.setIfInBounds (off + p.2) p.1) x')
  | _, _, .nil, _, _, _, h => h
  | _, _, .cons hv r, k, _, _, h => fill_fold r (k + 1) (h.set hv)

theorem fold_zip (v : Array Value) (off : Nat) (x : Array Value) : v.zipIdx.foldl (fun cs p => cs.setIfInBounds (off + p.2) p.1) x = (v.toList.zipIdx 0).foldl (fun cs p => cs.setIfInBounds (off + p.2) p.1) x := by
  rw [← Array.foldl_toList, Array.toList_zipIdx]

theorem fill_rel {place : Nat → Option (Nat × Nat)} : ∀ {ps ps' : List (Nat × Value)}, PR P M ps ps' → ∀ {x x' out : Array Value}, AR P M x x' → Instr.fill place x ps = some out → ∃ out', Instr.fill place x' ps' = some out' ∧ AR P M out out'
  | _, _, .nil, x, x', out, h, e => by
    simp only [Instr.fill] at e
    cases e
    exact ⟨x', rfl, h⟩
  | _, _, .cons (i := i) (v := v) (v' := v') hj hv r, x, x', out, h, e => by
    have hc := hv.cells hj
    simp only [Instr.fill] at e ⊢
    cases hp : place i with
    | none => simp [hp] at e
    | some p =>
      obtain ⟨off, size⟩ := p
      simp only [hp, ← hc.1, ← h.1] at e ⊢
      split at e
      · cases e
      · rename_i hcond
        rw [if_neg hcond]
        refine fill_rel r ?_ e
        have e1 := fold_zip v.cells off x
        have e2 := fold_zip v'.cells off x'
        have := fill_fold (off := off) hc.list 0 h
        rw [← e1, ← e2] at this
        exact this

theorem run_places : ∀ (l : List Field) (ps : List (Nat × Nat)), placesA P l = some ps → ∀ w : World, (l.mapM (fun f => do pure (f.offset, ← Go.sizeOf f.type)) : Sem (List (Nat × Nat))).run P w = .ok ps w
  | [], ps, h, w => by simp [placesA] at h; subst h; simp
  | f :: r, ps, h, w => by
    simp only [placesA] at h
    cases hk : sz P f.type with
    | none => simp [hk] at h
    | some k =>
      simp only [hk, Option.bind_some] at h
      cases hr : placesA P r with
      | none => simp [hr] at h
      | some qs =>
        simp only [hr, Option.map_some] at h
        cases h
        have ih := run_places r qs hr w
        simp only [List.mapM_cons, Sem.run_bind, run_size hk, Result.andThen_ok, Sem.run_pure, ih]

theorem AR.base {c : Array Value} (h : c.toList.all isBase = true) : AR P M c c := (LR.refl_base h).array

theorem sim_build (R : Rel P M H W) {t : TypeId} {ps ps' : Array (Nat × Value)} {v : Value} (hp : PR P M ps.toList ps'.toList) (h : buildA P t ps.toList = some v) : VSim P M H W (Instr.build t ps') v H := by
  unfold buildA at h
  split at h
  · rename_i z fields hz hu
    obtain ⟨i, zv, hi, hzv, rfl, hb⟩ := zeroA_spec hz
    cases hpl : placesA P fields.toList with
    | none => simp [hpl] at h
    | some places =>
      simp only [hpl, Option.bind_some] at h
      cases hf : Instr.fill (fun i => places[i]?) zv.cells ps.toList with
      | none => simp [hf] at h
      | some out =>
        simp only [hf, Option.map_some] at h
        cases h
        obtain ⟨out', e, r⟩ := fill_rel hp (AR.base hb) hf
        refine VSim.same R (v' := .agg out') ?_ (.agg r.1 r.2)
        have hm := run_places fields.toList places hpl W
        have : (fields.mapM (fun f => do pure (f.offset, ← Go.sizeOf f.type)) : Sem (Array (Nat × Nat))).run P W = .ok places.toArray W := by
          rw [Array.mapM_eq_mapM_toList, Sem.run_map, hm]
          rfl
        simp only [Instr.build, Sem.run_bind, run_zero hi hzv, run_under hu, Result.andThen_ok, this, List.getElem?_toArray, e, Sem.run_pure]
  · rename_i z n elem hz hu
    obtain ⟨i, zv, hi, hzv, rfl, hb⟩ := zeroA_spec hz
    cases hk : sz P elem with
    | none => simp [hk] at h
    | some k =>
      simp only [hk, Option.bind_some] at h
      cases hf : Instr.fill (fun i => some (i * k, k)) zv.cells ps.toList with
      | none => simp [hf] at h
      | some out =>
        simp only [hf, Option.map_some] at h
        cases h
        obtain ⟨out', e, r⟩ := fill_rel hp (AR.base hb) hf
        refine VSim.same R (v' := .agg out') ?_ (.agg r.1 r.2)
        simp [Instr.build, run_zero hi hzv, run_under hu, run_size hk, e]
  · cases h

theorem zeros_base {z : Array Value} (hz : z.toList.all isBase = true) (h0 : 0 < z.size) (n : Nat) : (zeros z n).toList.all isBase = true := by
  rw [List.all_eq_true]
  intro v hv
  rw [Array.mem_toList_iff] at hv
  simp only [zeros, Array.mem_map] at hv
  obtain ⟨i, _, rfl⟩ := hv
  rw [List.all_eq_true] at hz
  have hlt := Nat.mod_lt i h0
  refine hz _ ?_
  rw [getElem!_pos z _ hlt]
  exact Array.getElem_mem_toList hlt

theorem sim_buildSlice (R : Rel P M H W) {t : TypeId} {n : Nat} {ps ps' : Array (Nat × Value)} {v : Value} (hp : PR P M ps.toList ps'.toList) (h : buildSliceA P t n ps.toList H = some (v, H')) : VSim P M H W (Instr.buildSlice t n ps') v H' := by
  unfold buildSliceA at h
  split at h
  · rename_i e hu
    cases hk : sz P e with
    | none => simp [hk] at h
    | some k =>
      simp only [hk, Option.bind_some] at h
      split at h
      · rename_i hle
        obtain ⟨hle, hn⟩ := hle
        cases hz : zeroA P e with
        | none => simp [hz] at h
        | some z =>
          simp only [hz, Option.bind_some] at h
          split at h
          · rename_i hkz
            cases hf : Instr.fill (fun i => some (i * k, k)) (zeros z (n * k)) ps.toList with
            | none => simp [hf] at h
            | some cells =>
              simp only [hf, Option.map_some, Option.some.injEq, Prod.mk.injEq] at h
              obtain ⟨rfl, rfl⟩ := h
              obtain ⟨i, zv, hi, hzv, rfl, hb⟩ := zeroA_spec hz
              have hzb : (zeros zv.cells (n * k)).toList.all isBase = true := by
                by_cases h0 : 0 < zv.cells.size
                · exact zeros_base hb h0 _
                · have : n * k = 0 := by rw [hkz]; simp [Nat.eq_zero_of_not_pos h0]
                  rw [this]; simp [zeros]
              obtain ⟨out', e1, r⟩ := fill_rel hp (AR.base (M := M) (P := P) hzb) hf
              have st := sim_new R e (CR.of_AR r)
              refine ⟨_, .slice (some ⟨W.heap.size, 0, none⟩) n n, _, ?_, ?_, st⟩
              · have hle' : ¬ (16777216 < n * k) := by omega
                by_cases h0 : n * k = 0
                · have e2 : Instr.fill (fun i => some (i * k, k)) #[] ps'.toList = some out' := by simpa [zeros, h0, Array.range_zero'] using e1
                  simp [Instr.buildSlice, run_under hu, run_size hk, h0, Array.range_zero', e2, newRow]
                · have e2 : Instr.fill (fun i => some (i * k, k)) ((Array.range (n * k)).map fun x => zv.cells[x % zv.cells.size]!) ps'.toList = some out' := e1
                  simp [Instr.buildSlice, run_under hu, run_size hk, hle', h0, run_zero hi hzv, e2, newRow]
              · have := @VR.sl P (ins M H.size ⟨W.heap.size, 0, out'.size, e⟩) H.size 0 n n _ (ins_same _ _ _) (by unfold capU; omega)
                simpa using this
          · cases h
      · cases h
  · cases h
end Go.AH
