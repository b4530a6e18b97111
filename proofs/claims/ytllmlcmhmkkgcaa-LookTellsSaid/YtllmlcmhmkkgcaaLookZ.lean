/-
  LookTells: of any tuples each object's subjects, each subject's objects, each type's ids are found as the document says. No condition.
-/
import Derived.Test.YtllmlcmhmkkgcaaRows
import Derived.Test.YtllmlcmhmkkgcaaLookN
import Derived.Test.YtllmlcmhmkkgcaaLookY
import Derived.SevenTiedAt
import Derived.ProofKit
import Derived.OpenShut
import Derived.Deep.DeepHandedRow
import Derived.Lib.LaidTab
set_option linter.unusedVariables false
set_option linter.unusedSimpArgs false
set_option linter.unusedSectionVars false
namespace Go.Proofs.Ytllmlcmhmkkgcaa.lookTells
open Go.ChangeShapes Go.WideShapes Go.ChangeAt Go.RowKit Go.AH Go.PM
set_option linter.unusedVariables false

theorem ent : Ent Try.prog 4 := ⟨Try.f4, Try.func4, by kernel_rfl, by kernel_rfl⟩


set_option maxRecDepth 100000 in
theorem contract (H : Type) (enc : TypeId × Value → H) (W : World) (base : Nat) (args : Array Value) (ds gs : List (DataW H)) (before : List MemPlace)
    (hval : ∀ (j : Nat) t v, Try.f4.params[j]? = some t → args[j]? = some v → Value.okWide Try.prog W .any base t v)
    (hW : DataW.Whole enc Try.prog Try.f4.params.toList Rows.lookTellsSpec.vars false W args.toList ds gs before) :
    Calls Try.prog 4 args W fun e W' => ∃ v, e = .returned v ∧ Rows.lookTellsSpec.post enc Try.prog Try.f4 false true false false W args v W' := by
  have hW' := hW
  obtain ⟨p, q, hA0, hV, rfl, hfz, hnd⟩ := hW
  have hA : DataW.TrodAll enc Try.prog W 0 (fun _ => true) true Try.f4.params.toList args.toList ds p := hA0
  rw [Try.params4] at hA hval
  obtain ⟨v0, v1, v2, v3, d0, d1, d2, d3, p0, p1, p2, p3, rfl, rfl, rfl, h0, h1, h2, h3⟩ := trodAll_four hA
  obtain ⟨rfl, rfl⟩ := trodVars_none hV
  clear hA0
  simp only [List.append_nil] at hW'
  generalize hok : Value.okWide Try.prog W Reach.any base = okw at hval
  have k0 := hval 0 23 v0 (by simp) (by simp)
  have k1 := hval 1 22 v1 (by simp) (by simp)
  have k2 := hval 2 30 v2 (by simp) (by simp)
  have k3 := hval 3 2 v3 (by simp) (by simp)
  subst hok
  obtain ⟨l, hl, a0⟩ := arg_rows (P := Try.prog) (W := W) (t := 23) (e := 30) (k := 6) (n := 4) (v := v0) (base := base) dst_nil Try.underlying23 sT (Nat.zero_lt_succ 5) cT zT aT k0 h0
  obtain ⟨H0, M0, b0, A0⟩ := al_snoc al_nil a0
  obtain ⟨ns, hns, a1⟩ := arg_ints A0.dst Try.underlying22 Try.underlying2 cI zI aI k1 h1
  obtain ⟨H1, M1, b1, A1⟩ := al_snoc A0 a1
  obtain ⟨t, a2⟩ := arg_row A1.dst Try.underlying30 (k := 6) (n := 4) sT k2 h2
  obtain ⟨H2, M2, b2, A2⟩ := al_snoc A1 a2
  obtain ⟨k, a3⟩ := arg_int A2.dst Try.underlying2 k3
  obtain ⟨H3, M3, b3, A3⟩ := al_snoc A2 a3
  have A : AL Try.prog W H3 M3 [.sl 30 (l.map rowV), .sl 2 (ns.map (.int .i64)), rowV t, .int .i64 k] [b0, b1, b2, b3] [v0, v1, v2, v3] := A3
  refine (door_law mixed (okF_of fits5) ok5 ent (args := #[v0, v1, v2, v3]) A (snd_LookTells prOk l ns t k)).mono fun e W' ⟨he, bel⟩ => ?_
  subst he
  have lt : ∀ x ∈ p0 ++ p1 ++ p2 ++ p3, x.block < W.heap.size := fun x hx => hW'.lt x hx
  exact ⟨_, rfl, _, _, _, [], _, [], hW', trodAll_mk1 (shut_bool Try.underlying4 _),
    trodAll_mk4 (Below.trod laidOut rdB ltB h0 bel fun x hx => lt x (by simp [hx])) (Below.trod laidOut rdI ltI h1 bel fun x hx => lt x (by simp [hx])) (Below.trod laidOut rdT ltT h2 bel fun x hx => lt x (by simp [hx])) (Below.trod laidOut rdK ltK h3 bel fun x hx => lt x (by simp [hx])),
    rfl, bel.frame _, fun h => by cases h⟩

/-- The witness: no tuple, no number. -/
noncomputable def wArgs : Array Value := #[.slice none 0 0, .slice none 0 0, .agg (Array.replicate 6 (.string ⟨#[]⟩)), .int .i64 0]
noncomputable def wWorld (os : Os) : World := World.holding Try.prog os ⟨#[], #[], []⟩
/-- What the witness reads as. -/
def wData {H : Type} : List (DataW H) := [.nil, .nil, .agg [.agg [.lit (.string []), .lit (.string [])], .lit (.string []), .agg [.lit (.string []), .lit (.string []), .lit (.string [])]], .lit (.int .i64 0)]
theorem reads (os : Os) {H : Type} (enc : TypeId × Value → H) : DataW.whole enc Try.prog ((wWorld os).forCall (fun _ _ => 0) ⟨#[], wArgs, []⟩).memory Try.f4.params.toList Rows.lookTellsSpec.vars false wArgs.toList 8 = some (wData, [], []) := by
  kernel_rfl

set_option maxRecDepth 100000 in
theorem lifted (os : Os) (started : os.Started) (H : Type) (enc : TypeId × Value → H) (F : Stop.Interp) :
    ReturnsInHanded {} Try.checked os 4 .any ((OpenSpec.ofChange Rows.lookTellsSpec).preRow enc Try.prog Try.f4 Rows.lookTellsRow.domain false Rows.lookTellsRow.laid) (((OpenSpec.ofChange Rows.lookTellsSpec).at F).post enc Try.prog Try.f4 false true false false) := by
  refine returnsInHanded_of_row (C := Try.checked) (s := OpenSpec.ofChange Rows.lookTellsSpec) own started (by kernel_rfl) Try.func4
    (witness_row_at (enc := enc) (C := Try.checked) false (wWorld os) wArgs rfl (by kernel_rfl) (by kernel_rfl) (by kernel_rfl)
      (OpenSpec.preRow_of_cond 8 (reads os enc) (by kernel_rfl) (fun k hk => by cases hk) (by kernel_rfl) (laidMet_of_run' 8 (by kernel_rfl) (by kernel_rfl)))) ?_
  intro W base args ds gs before hval hW _ _ _ _ _ _
  exact contract H enc W base args ds gs before hval hW

theorem over : Rows.lookTellsRow.holds Try.pinned (OpenSpec.ofChange Rows.lookTellsSpec) :=
  OpenClaim.holds_of_cond 4 Try.f4 rfl rfl rfl rfl rfl rfl rfl ⟨rfl, rfl, rfl, rfl, rfl⟩ rfl rfl rfl rfl rfl (by kernel_rfl) Try.func4 (by kernel_rfl)
    (of_decide_eq_true (by kernel_rfl)) (by unfold Func.isWrapper; first | (rw [if_pos (by decide +kernel)]; kernel_rfl) | (rw [if_neg (by decide +kernel)]; exact ⟨rfl, rfl⟩))
    (fun os started H enc _ F => by rw [OpenClaim.pre_eq_preRow]; exact lifted os started H enc F)

theorem proved : Rows.LookTellsSaid := over
end Go.Proofs.Ytllmlcmhmkkgcaa.lookTells
namespace Go.Proofs.Ytllmlcmhmkkgcaa
/-- The statement. -/
theorem lookTells_holds : Rows.LookTellsSaid := lookTells.proved
#print axioms lookTells_holds
end Go.Proofs.Ytllmlcmhmkkgcaa
