/-
  LookBoth: of any numbers the tuples that they stand for, and any tuple: each tuple is found from both its ends, nothing else is, lists rise. No condition.
-/
import Derived.Test.YtllmlcmhmkkgcaaRows
import Derived.Test.YtllmlcmhmkkgcaaLookP
import Derived.Test.YtllmlcmhmkkgcaaLookY
import Derived.SevenTiedAt
import Derived.ProofKit
import Derived.OpenShut
import Derived.Deep.DeepHandedRow
import Derived.Lib.LaidTab
set_option linter.unusedVariables false
set_option linter.unusedSimpArgs false
set_option linter.unusedSectionVars false
namespace Go.Proofs.Ytllmlcmhmkkgcaa.lookBoth
open Go.ChangeShapes Go.WideShapes Go.ChangeAt Go.RowKit Go.AH Go.PM
set_option linter.unusedVariables false

theorem ent : Ent Try.prog 5 := ⟨Try.f5, Try.func5, by kernel_rfl, by kernel_rfl⟩


set_option maxRecDepth 100000 in
theorem contract (H : Type) (enc : TypeId × Value → H) (W : World) (base : Nat) (args : Array Value) (ds gs : List (DataW H)) (before : List MemPlace)
    (hval : ∀ (j : Nat) t v, Try.f5.params[j]? = some t → args[j]? = some v → Value.okWide Try.prog W .any base t v)
    (hW : DataW.Whole enc Try.prog Try.f5.params.toList Rows.lookBothSpec.vars false W args.toList ds gs before) :
    Calls Try.prog 5 args W fun e W' => ∃ v, e = .returned v ∧ Rows.lookBothSpec.post enc Try.prog Try.f5 false true false false W args v W' := by
  have hW' := hW
  obtain ⟨p, q, hA0, hV, rfl, hfz, hnd⟩ := hW
  have hA : DataW.TrodAll enc Try.prog W 0 (fun _ => true) true Try.f5.params.toList args.toList ds p := hA0
  rw [Try.params5] at hA hval
  obtain ⟨v0, v1, d0, d1, p0, p1, rfl, rfl, rfl, h0, h1⟩ := trodAll_two hA
  obtain ⟨rfl, rfl⟩ := trodVars_none hV
  clear hA0
  simp only [List.append_nil] at hW'
  generalize hok : Value.okWide Try.prog W Reach.any base = okw at hval
  have k0 := hval 0 22 v0 (by simp) (by simp)
  have k1 := hval 1 2 v1 (by simp) (by simp)
  subst hok
  obtain ⟨ns, hns, a0⟩ := arg_ints (P := Try.prog) (W := W) (v := v0) (base := base) dst_nil Try.underlying22 Try.underlying2 cI zI aI k0 h0
  obtain ⟨H0, M0, b0, A0⟩ := al_snoc al_nil a0
  obtain ⟨k, a1⟩ := arg_int A0.dst Try.underlying2 k1
  obtain ⟨H1, M1, b1, A1⟩ := al_snoc A0 a1
  have A : AL Try.prog W H1 M1 [.sl 2 (ns.map (.int .i64)), .int .i64 k] [b0, b1] [v0, v1] := A1
  refine (door_law mixed (okF_of fits5) ok5 ent (args := #[v0, v1]) A (snd_LookBoth prOk ns k)).mono fun e W' ⟨he, bel⟩ => ?_
  subst he
  have lt : ∀ x ∈ p0 ++ p1, x.block < W.heap.size := fun x hx => hW'.lt x hx
  exact ⟨_, rfl, _, _, _, [], _, [], hW', trodAll_mk1 (shut_bool Try.underlying4 _),
    trodAll_mk2 (Below.trod laidOut rdI ltI h0 bel fun x hx => lt x (by simp [hx])) (Below.trod laidOut rdK ltK h1 bel fun x hx => lt x (by simp [hx])),
    rfl, bel.frame _, fun h => by cases h⟩

/-- The witness: no number. -/
noncomputable def wArgs : Array Value := #[.slice none 0 0, .int .i64 0]
noncomputable def wWorld (os : Os) : World := World.holding Try.prog os ⟨#[], #[], []⟩
/-- What the witness reads as. -/
def wData {H : Type} : List (DataW H) := [.nil, .lit (.int .i64 0)]
theorem reads (os : Os) {H : Type} (enc : TypeId × Value → H) : DataW.whole enc Try.prog ((wWorld os).forCall (fun _ _ => 0) ⟨#[], wArgs, []⟩).memory Try.f5.params.toList Rows.lookBothSpec.vars false wArgs.toList 8 = some (wData, [], []) := by
  kernel_rfl

set_option maxRecDepth 100000 in
theorem lifted (os : Os) (started : os.Started) (H : Type) (enc : TypeId × Value → H) (F : Stop.Interp) :
    ReturnsInHanded {} Try.checked os 5 .any ((OpenSpec.ofChange Rows.lookBothSpec).preRow enc Try.prog Try.f5 Rows.lookBothRow.domain false Rows.lookBothRow.laid) (((OpenSpec.ofChange Rows.lookBothSpec).at F).post enc Try.prog Try.f5 false true false false) := by
  refine returnsInHanded_of_row (C := Try.checked) (s := OpenSpec.ofChange Rows.lookBothSpec) own started (by kernel_rfl) Try.func5
    (witness_row_at (enc := enc) (C := Try.checked) false (wWorld os) wArgs rfl (by kernel_rfl) (by kernel_rfl) (by kernel_rfl)
      (OpenSpec.preRow_of_cond 8 (reads os enc) (by kernel_rfl) (fun k hk => by cases hk) (by kernel_rfl) (laidMet_of_run' 8 (by kernel_rfl) (by kernel_rfl)))) ?_
  intro W base args ds gs before hval hW _ _ _ _ _ _
  exact contract H enc W base args ds gs before hval hW

theorem over : Rows.lookBothRow.holds Try.pinned (OpenSpec.ofChange Rows.lookBothSpec) :=
  OpenClaim.holds_of_cond 5 Try.f5 rfl rfl rfl rfl rfl rfl rfl ⟨rfl, rfl, rfl, rfl, rfl⟩ rfl rfl rfl rfl rfl (by kernel_rfl) Try.func5 (by kernel_rfl)
    (of_decide_eq_true (by kernel_rfl)) (by unfold Func.isWrapper; first | (rw [if_pos (by decide +kernel)]; kernel_rfl) | (rw [if_neg (by decide +kernel)]; exact ⟨rfl, rfl⟩))
    (fun os started H enc _ F => by rw [OpenClaim.pre_eq_preRow]; exact lifted os started H enc F)

theorem proved : Rows.LookBothSaid := over
end Go.Proofs.Ytllmlcmhmkkgcaa.lookBoth
namespace Go.Proofs.Ytllmlcmhmkkgcaa
/-- The statement. -/
theorem lookBoth_holds : Rows.LookBothSaid := lookBoth.proved
#print axioms lookBoth_holds
end Go.Proofs.Ytllmlcmhmkkgcaa
