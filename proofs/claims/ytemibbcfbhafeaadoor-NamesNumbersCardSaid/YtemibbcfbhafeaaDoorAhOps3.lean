/-
  AH: slice expressions, lengths, new rows and maps, conversions.
-/
import Derived.Test.YtemibbcfbhafeaaDoorAhOps2
namespace Go.AH
open Go
variable {P : Program} {M : Mp} {H H' : Heap} {W : World}

/-- Optional operands. -/
def OVR (P : Program) (M : Mp) : Option Value → Option Value → Prop
  | none, none => True
  | some v, some v' => VR P M v v'
  | _, _ => False

theorem OVR.int {x x' : Option Value} (h : OVR P M x x') {d y n : Nat} (e : bnd x d y = some n) : (x = none ∧ x' = none ∧ n = d) ∨ (∃ k i, x = some (.int k i) ∧ x' = some (.int k i) ∧ 0 ≤ i ∧ i ≤ y ∧ n = i.toNat) := by
  unfold bnd at e
  cases x with
  | none =>
    cases x' with
    | none => exact .inl ⟨rfl, rfl, by simpa using e.symm⟩
    | some v => exact h.elim
  | some v =>
    cases x' with
    | none => exact h.elim
    | some v' =>
      cases v <;> simp at e
      rename_i k i
      have : v' = .int k i := VR.int_inv h
      subst this
      exact .inr ⟨k, i, rfl, rfl, e.1.1, e.1.2, e.2.symm⟩

theorem run_bound {k : IntKind} {i : Int} {y : Nat} {c : BoundsCode} (h0 : 0 ≤ i) (h1 : i ≤ y) (w : World) : (Instr.sliceBound (.int k i) y c).run P w = .ok i.toNat w := by
  simp [Instr.sliceBound, asIntOf, h0, h1]

/-- The three bounds; m: what the capacity is. -/
theorem run_bounds {isS : Bool} {n c m h l : Nat} {lo hi mx lo' hi' mx' : Option Value} (hlo : OVR P M lo lo') (hhi : OVR P M hi hi') (hmx : OVR P M mx mx')
    (em : bnd mx c c = some m) (eh : bnd hi n m = some h) (el : bnd lo 0 h = some l) (hok : mx.isSome = true → hi.isSome = true) (w : World) :
    (Instr.sliceBounds isS n c lo' hi' mx').run P w = .ok (l, h, m) w := by
  rcases hmx.int em with ⟨rfl, rfl, rfl⟩ | ⟨k1, i1, rfl, rfl, a1, a2, rfl⟩
  · rcases hhi.int eh with ⟨rfl, rfl, rfl⟩ | ⟨k2, i2, rfl, rfl, b1, b2, rfl⟩ <;> rcases hlo.int el with ⟨rfl, rfl, rfl⟩ | ⟨k3, i3, rfl, rfl, c1, c2, rfl⟩ <;>
    first
      | simp [Instr.sliceBounds, run_bound b1 b2, run_bound c1 c2]
      | simp [Instr.sliceBounds, run_bound b1 b2]
      | simp [Instr.sliceBounds, run_bound c1 c2]
      | simp [Instr.sliceBounds]
  · rcases hhi.int eh with ⟨rfl, rfl, rfl⟩ | ⟨k2, i2, rfl, rfl, b1, b2, rfl⟩
    · simp at hok
    · rcases hlo.int el with ⟨rfl, rfl, rfl⟩ | ⟨k3, i3, rfl, rfl, c1, c2, rfl⟩ <;>
      first
        | simp [Instr.sliceBounds, run_bound a1 a2, run_bound b1 b2, run_bound c1 c2]
        | simp [Instr.sliceBounds, run_bound a1 a2, run_bound b1 b2]

theorem bnd_le {x : Option Value} {d y n : Nat} (e : bnd x d y = some n) (hd : d ≤ y) : n ≤ y := by
  unfold bnd at e
  split at e
  · cases e; exact hd
  · split at e
    · cases e; omega
    · cases e
  · cases e

theorem OVR.mono_y {x : Option Value} {d y y' n : Nat} (e : bnd x d y = some n) (h : y ≤ y') : bnd x d y' = some n := by
  unfold bnd at *
  split at e
  · exact e
  · split at e
    · rename_i hc
      rw [if_pos ⟨hc.1, by omega⟩]
      exact e
    · cases e
  · cases e

theorem sim_slice (R : Rel P M H W) {t : TypeId} {x x' v : Value} {lo hi mx lo' hi' mx' : Option Value} (hx : VR P M x x') (hlo : OVR P M lo lo') (hhi : OVR P M hi hi') (hmx : OVR P M mx mx') (h : sliceA P t H x lo hi mx = some v) :
    VSim P M H W (Instr.sliceAt t x' lo' hi' mx') v H := by
  unfold sliceA at h
  split at h
  · rename_i s hu
    cases hx.string_inv
    split at h
    · cases h
    · rename_i hm
      have hm0 : mx = none := by cases mx <;> simp at hm ⊢
      subst hm0
      have hm0' : mx' = none := by cases mx' <;> simp [OVR] at hmx ⊢
      subst hm0'
      cases eh : bnd hi s.size s.size with
      | none => simp [eh] at h
      | some h1 =>
        simp only [eh, Option.bind_some] at h
        cases el : bnd lo 0 h1 with
        | none => simp [el] at h
        | some l =>
          simp only [el, Option.map_some] at h
          cases h
          have hb := run_bounds (P := P) (M := M) (isS := false) (n := s.size) (c := s.size) hlo hhi (mx := none) (mx' := none) trivial rfl eh el (by simp) W
          refine VSim.same R (v' := .string (s.extract l h1)) ?_ (.base rfl)
          simp [Instr.sliceAt, Instr.slice, run_under hu, hb]
  · rename_i e n c hu
    cases hx.sl_nil_inv
    split at h
    · cases h
    · rename_i hc
      have h1 : ¬ (mx.isSome = true ∧ hi.isNone = true) := fun e => hc (.inl e)
      have h2 : n = 0 := by by_cases h : n = 0; exact h; exact absurd (.inr (.inl h)) hc
      have h3 : c = 0 := by by_cases h : c = 0; exact h; exact absurd (.inr (.inr h)) hc
      subst h2; subst h3
      cases hk : sz P e with
      | none => simp [hk] at h
      | some k =>
      simp only [hk, Option.bind_some] at h
      cases em : bnd mx 0 0 with
      | none => simp [em] at h
      | some m =>
        simp only [em, Option.bind_some] at h
        cases eh : bnd hi 0 m with
        | none => simp [eh] at h
        | some h4 =>
          simp only [eh, Option.bind_some] at h
          cases el : bnd lo 0 h4 with
          | none => simp [el] at h
          | some l =>
            simp only [el, Option.map_some] at h
            cases h
            have hb := run_bounds (P := P) (M := M) (isS := true) (n := 0) (c := 0) hlo hhi hmx em eh el (by
              intro hm; cases hi with
              | none => exact absurd ⟨hm, rfl⟩ h1
              | some _ => rfl) W
            have g0 := bnd_le em (Nat.le_refl _)
            have g1 := bnd_le eh (Nat.zero_le _)
            have g2 := bnd_le el (Nat.zero_le _)
            obtain rfl : m = 0 := by omega
            obtain rfl : h4 = 0 := by omega
            obtain rfl : l = 0 := by omega
            refine VSim.same R (v' := .slice none 0 0) ?_ (.base rfl)
            simp [Instr.sliceAt, Instr.slice, run_under hu, hb, run_size hk]
  · rename_i e b o n c hu
    split at h
    · rename_i cs e' rw_ hH
      split at h
      · cases h
      · rename_i hc
        have he : e' = e := by by_cases h : e' = e; exact h; exact absurd (.inl h) hc
        subst he
        have h1 : mx.isSome = true → hi.isSome = true := by
          intro hm; cases hi with
          | none => exact absurd (.inr ⟨hm, rfl⟩) hc
          | some _ => rfl
        cases hk : sz P e' with
        | none => simp [hk] at h
        | some k =>
          simp only [hk, Option.bind_some] at h
          split at h
          · rename_i hcU
            subst hcU
            obtain ⟨τ, hτ, hx'⟩ := hx.slU_inv
            have hτt : τ.t = e' := by
              obtain ⟨blk, g1, g2⟩ := R.blk b τ hτ
              rw [hH] at g1; cases g1
              obtain ⟨_, _, _, g, _⟩ := g2
              exact g
            split at h
            · cases em : bnd mx n n with
              | none => simp [em] at h
              | some m =>
                simp only [em, Option.bind_some] at h
                cases eh : bnd hi n m with
                | none => simp [eh] at h
                | some h4 =>
                  simp only [eh, Option.bind_some] at h
                  cases el : bnd lo 0 h4 with
                  | none => simp [el] at h
                  | some l =>
                    simp only [el, Option.map_some] at h
                    cases h
                    rename_i hms
                    have g0 := bnd_le em (Nat.le_refl _)
                    rcases hx' with ⟨ch, rfl, a1, a2, a3⟩ | ⟨o', rfl, rfl⟩
                    · have em' : bnd mx ch ch = some m := by
                        cases mx with
                        | none => simp at hms
                        | some u => 
                          have e2 : bnd (some u) ch ch = bnd (some u) n ch := by cases u <;> rfl
                          rw [e2]
                          exact OVR.mono_y em a1
                      have hb := run_bounds (P := P) (M := M) (isS := true) (n := n) (c := ch) hlo hhi hmx em' eh el h1 W
                      refine VSim.same R (v' := .slice (some ⟨τ.b, τ.d + (if m = l then o else o + l * k), none⟩) (h4 - l) (m - l)) ?_ (.sl hτ (by unfold capU; unfold maxLen at a2; omega))
                      simp only [Instr.sliceAt, Sem.run_bind, run_under hu, Result.andThen_ok, Instr.slice, hb, run_size hk, Sem.run_pure]
                      split <;> simp [Addr.add_lit, Nat.add_assoc]
                    · obtain rfl : m = 0 := by omega
                      have g1 := bnd_le eh (Nat.zero_le _)
                      have g2 := bnd_le el (Nat.zero_le _)
                      obtain rfl : h4 = 0 := by omega
                      obtain rfl : l = 0 := by omega
                      have hb := run_bounds (P := P) (M := M) (isS := true) (n := 0) (c := 0) hlo hhi hmx em eh el h1 W
                      refine VSim.same R (v' := .slice (some ⟨τ.b, o', none⟩) 0 0) ?_ (.sl0 hτ)
                      simp [Instr.sliceAt, Instr.slice, run_under hu, hb, run_size hk]
            · rename_i hms
              have hm0 : mx = none := by cases mx <;> simp at hms ⊢
              subst hm0
              have hm0' : mx' = none := by cases mx' <;> simp [OVR] at hmx ⊢
              subst hm0'
              cases eh : bnd hi n n with
              | none => simp [eh] at h
              | some h4 =>
                simp only [eh, Option.bind_some] at h
                cases el : bnd lo 0 h4 with
                | none => simp [el] at h
                | some l =>
                  simp only [el, Option.map_some] at h
                  cases h
                  have g1 := bnd_le eh (Nat.le_refl _)
                  have g2 := bnd_le el (Nat.zero_le _)
                  rcases hx' with ⟨ch, rfl, a1, a2, a3⟩ | ⟨o', rfl, rfl⟩
                  · have eh' : bnd hi n ch = some h4 := OVR.mono_y eh a1
                    have hb := run_bounds (P := P) (M := M) (isS := true) (n := n) (c := ch) (m := ch) hlo hhi (mx := none) (mx' := none) trivial rfl eh' el h1 W
                    by_cases hcl : ch = l
                    · subst hcl
                      obtain rfl : h4 = ch := by omega
                      refine VSim.same R (v' := .slice (some ⟨τ.b, τ.d + o, none⟩) 0 0) ?_ (by rw [Nat.sub_self]; exact .slE hτ)
                      simp only [Instr.sliceAt, Sem.run_bind, run_under hu, Result.andThen_ok, Instr.slice, hb, run_size hk, Sem.run_pure]
                      simp
                    · refine VSim.same R (v' := .slice (some ⟨τ.b, τ.d + (o + l * k), none⟩) (h4 - l) (ch - l)) ?_ (.slU hτ (by omega) (by omega) ?_)
                      · simp only [Instr.sliceAt, Sem.run_bind, run_under hu, Result.andThen_ok, Instr.slice, hb, run_size hk, Sem.run_pure]
                        simp [hcl, Addr.add_lit, Nat.add_assoc]
                      · have hsd : szD P τ.t = k := by rw [hτt]; unfold sz at hk; unfold szD; rw [hk]; rfl
                        rw [hsd] at a3 ⊢
                        have : l * k + (ch - l) * k = ch * k := by rw [← Nat.add_mul]; congr 1; omega
                        omega
                  · obtain rfl : h4 = 0 := by omega
                    obtain rfl : l = 0 := by omega
                    have hb := run_bounds (P := P) (M := M) (isS := true) (n := 0) (c := 0) (m := 0) hlo hhi (mx := none) (mx' := none) trivial rfl eh el h1 W
                    refine VSim.same R (v' := .slice (some ⟨τ.b, o', none⟩) 0 0) ?_ (.slE hτ)
                    simp [Instr.sliceAt, Instr.slice, run_under hu, hb, run_size hk]
          · rename_i hcU
            split at h
            · rename_i hlt
              obtain ⟨τ, o', hτ, rfl, ho⟩ := hx.sl_inv hcU
              cases em : bnd mx c c with
              | none => simp [em] at h
              | some m =>
                simp only [em, Option.bind_some] at h
                cases eh : bnd hi n m with
                | none => simp [eh] at h
                | some h4 =>
                  simp only [eh, Option.bind_some] at h
                  cases el : bnd lo 0 h4 with
                  | none => simp [el] at h
                  | some l =>
                    simp only [el, Option.map_some] at h
                    cases h
                    have g0 := bnd_le em (Nat.le_refl _)
                    have hb := run_bounds (P := P) (M := M) (isS := true) (n := n) (c := c) hlo hhi hmx em eh el h1 W
                    rcases ho with rfl | ⟨rfl, rfl⟩
                    · refine VSim.same R (v' := .slice (some ⟨τ.b, τ.d + (if m = l then o else o + l * k), none⟩) (h4 - l) (m - l)) ?_ (.sl hτ (by omega))
                      simp only [Instr.sliceAt, Sem.run_bind, run_under hu, Result.andThen_ok, Instr.slice, hb, run_size hk, Sem.run_pure]
                      split <;> simp [Addr.add_lit, Nat.add_assoc]
                    · obtain rfl : m = 0 := by omega
                      have g1 := bnd_le eh (Nat.zero_le _)
                      have g2 := bnd_le el (Nat.zero_le _)
                      obtain rfl : h4 = 0 := by omega
                      obtain rfl : l = 0 := by omega
                      refine VSim.same R (v' := .slice (some ⟨τ.b, o', none⟩) 0 0) ?_ (.sl0 hτ)
                      simp [Instr.sliceAt, Instr.slice, run_under hu, hb, run_size hk]
            · cases h
    · cases h
  · cases h

theorem sim_len (R : Rel P M H W) {t ty : TypeId} {x x' v : Value} (hx : VR P M x x') (h : lenA P H t x = some v) : VSim P M H W (Builtin.len_ #[t] ty #[x']) v H := by
  unfold lenA at h
  split at h
  · rename_i s hu
    cases hx.string_inv
    cases h
    exact VSim.same R (by simp [Builtin.len_, run_under hu]; rfl) (.base rfl)
  · rename_i e a n c hu
    cases h
    have : ∃ a' c', x' = .slice a' n c' := by
      cases hx with
      | base h => exact ⟨_, _, rfl⟩
      | sl h _ => exact ⟨_, _, rfl⟩
      | slU h _ _ _ => exact ⟨_, _, rfl⟩
      | slE h => exact ⟨_, _, rfl⟩
      | sl0 h => exact ⟨_, _, rfl⟩
    obtain ⟨a', c', rfl⟩ := this
    exact VSim.same R (by simp [Builtin.len_, run_under hu]; rfl) (.base rfl)
  · rename_i k e hu
    cases hx.map_nil_inv
    cases h
    exact VSim.same R (by simp [Builtin.len_, run_under hu]; rfl) (.base rfl)
  · rename_i k e r hu
    obtain ⟨τ, hτ, rfl⟩ := hx.map_inv
    split at h
    · rename_i kt es hb
      cases h
      obtain ⟨blk, h1, h2⟩ := R.blk r τ hτ
      rw [hb] at h1; cases h1
      obtain ⟨es', g1, g2, _⟩ := h2
      refine VSim.same R (v' := .int .i64 es.length) ?_ (.base rfl)
      have : (getObj τ.b).run P W = .ok (.map es' es.length) W := by simp [getObj, Sem.run, g1]
      simp [Builtin.len_, run_under hu, this, goInt, g2.1]
    · cases h
  · cases h

theorem sim_min (R : Rel P M H W) {l l' : List Value} {v : Value} (hl : LR P M l l') (h : minA l = some v) (ts : Array TypeId) (t : TypeId) : VSim P M H W (Builtin.min_ ts t l'.toArray) v H := by
  unfold minA at h
  split at h
  · cases hl with | cons h1 r => cases r with | cons h2 r => cases r with | nil =>
    cases h
    cases h1.int_inv; cases h2.int_inv
    exact VSim.same R (by simp [Builtin.min_, Builtin.min2]) (.base rfl)
  · cases h
theorem sim_max (R : Rel P M H W) {l l' : List Value} {v : Value} (hl : LR P M l l') (h : maxA l = some v) (ts : Array TypeId) (t : TypeId) : VSim P M H W (Builtin.max_ ts t l'.toArray) v H := by
  unfold maxA at h
  split at h
  · cases hl with | cons h1 r => cases r with | cons h2 r => cases r with | nil =>
    cases h
    cases h1.int_inv; cases h2.int_inv
    exact VSim.same R (by simp [Builtin.max_, Builtin.max2]) (.base rfl)
  · cases h

theorem sim_makeMap (R : Rel P M H W) {t : TypeId} {v : Value} (h : makeMapA P t H = some (v, H')) : VSim P M H W (Instr.makeMap t none) v H' := by
  unfold makeMapA at h
  split at h
  · rename_i kt e hu
    cases h
    refine ⟨W.alloc (.map #[] 0), .map (some W.heap.size), ins M H.size ⟨W.heap.size, 0, 0, 0⟩, ?_, ?_, ?_⟩
    · simp [Instr.makeMap]
    · exact @VR.map P (ins M H.size ⟨W.heap.size, 0, 0, 0⟩) H.size _ (ins_same _ _ _)
    · refine step_push (W' := W.alloc (.map #[] 0)) (blk := .map kt []) (τ := ⟨W.heap.size, 0, 0, 0⟩) R ⟨rfl, rfl, rfl, Nat.le_refl _⟩ (.map #[] 0) rfl rfl rfl ⟨#[], ?_, ⟨rfl, fun i k v h => by simp at h⟩, by simp⟩
      show (W.heap.push _)[W.heap.size]? = _
      simp
  · cases h

theorem sim_makeSlice (R : Rel P M H W) {t : TypeId} {l l' c c' v : Value} (hl : VR P M l l') (hc : VR P M c c') (h : makeSliceA P t H l c = some (v, H')) : VSim P M H W (Instr.makeSlice t l' c') v H' := by
  unfold makeSliceA at h
  split at h
  · rename_i kl l kc c
    cases hl.int_inv; cases hc.int_inv
    split at h
    · rename_i e hu
      split at h
      · rename_i i z hi hz
        obtain ⟨i', zv, hi', hzv, rfl, hb⟩ := zeroA_spec hz
        rw [hi] at hi'; cases hi'
        split at h
        · rename_i hcond
          obtain ⟨h0, h1, h2, h3, h4⟩ := hcond
          simp only [Option.some.injEq, Prod.mk.injEq] at h
          obtain ⟨rfl, rfl⟩ := h
          have hrun := run_make (P := P) W t e i zv hu hi hzv kl kc l c h0 h1 (by rw [Int.mul_comm]; omega) h3
          have hmade : madeCells zv.cells (c.toNat * i.size) = zeros zv.cells (c.toNat * i.size) := rfl
          rw [hmade] at hrun
          have hzb : (zeros zv.cells (c.toNat * i.size)).toList.all isBase = true := by
            by_cases h0 : 0 < zv.cells.size
            · exact zeros_base hb h0 _
            · rw [List.all_eq_true]
              intro v hv
              rw [Array.mem_toList_iff] at hv
              simp only [zeros, Array.mem_map] at hv
              obtain ⟨i, _, rfl⟩ := hv
              have : zv.cells = #[] := Array.eq_empty_of_size_eq_zero (by omega)
              rw [this]; rfl
          refine ⟨_, .slice (some ⟨W.heap.size, 0, none⟩) l.toNat c.toNat, _, hrun, ?_, sim_new R e (CR.base hzb)⟩
          have := @VR.sl P (ins M H.size ⟨W.heap.size, 0, (zeros zv.cells (c.toNat * i.size)).size, e⟩) H.size 0 l.toNat c.toNat _ (ins_same _ _ _) (by unfold capU; omega)
          simpa using this
        · cases h
      · cases h
    · cases h
  · cases h

end Go.AH
