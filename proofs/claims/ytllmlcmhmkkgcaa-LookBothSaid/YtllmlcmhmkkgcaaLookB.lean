/-
  Ytllmlcmhmkkgcaa: what the functions of law 5 do (2): the document's answer.
-/
import Derived.Test.YtllmlcmhmkkgcaaLookA
set_option linter.unusedVariables false
set_option linter.unusedSimpArgs false
set_option linter.unusedSectionVars false
namespace Go.Proofs.Ytllmlcmhmkkgcaa
open Go Go.AH Go.PM
variable {Pr : CallR → CallR}

/-- entail/entailref1.six: 21 -/
def pc32 : PC :=
 (.seq
  (.ops [
   ⟨none, (some 1), .box 30 (.t 0), [], []⟩,
   ⟨none, (some 2), .alloc 74 [.str (bs []), .str (bs []), .str (bs []), .str (bs []), .str (bs []), .str (bs [])], [], []⟩] [] [1, 2] false)
  (.seq
   (.ops [
    ⟨none, (some 3), .fa 0 2 (.t 1), [], []⟩,
    ⟨none, (some 4), .fa 0 1 (.t 3), [], []⟩,
    ⟨none, (some 5), .load none (.t 4), [], []⟩,
    ⟨none, (some 6), .fa 0 2 (.t 1), [], []⟩,
    ⟨none, (some 7), .fa 1 1 (.t 6), [], []⟩,
    ⟨none, (some 8), .load none (.t 7), [], []⟩,
    ⟨none, (some 9), .fa 2 1 (.t 1), [], []⟩,
    ⟨none, (some 10), .load none (.t 9), [], []⟩,
    ⟨none, (some 11), .fa 3 3 (.t 1), [], []⟩,
    ⟨none, (some 12), .fa 0 1 (.t 11), [], []⟩,
    ⟨none, (some 13), .load none (.t 12), [], []⟩,
    ⟨none, (some 14), .fa 3 3 (.t 1), [], []⟩,
    ⟨none, (some 15), .fa 1 1 (.t 14), [], []⟩,
    ⟨none, (some 16), .load none (.t 15), [], []⟩,
    ⟨none, (some 17), .fa 3 3 (.t 1), [], []⟩,
    ⟨none, (some 18), .fa 2 1 (.t 17), [], []⟩,
    ⟨none, (some 19), .load none (.t 18), [], []⟩,
    ⟨none, (some 20), .build [.str (bs []), .str (bs []), .str (bs []), .str (bs []), .str (bs []), .str (bs [])] [(0, 1, (.t 5)), (1, 1, (.t 8)), (2, 1, (.t 10)), (3, 1, (.t 13)), (4, 1, (.t 16)), (5, 1, (.t 19))], [], []⟩,
    ⟨none, none, .store 6 (.t 2) (.t 20), [], []⟩] [] [2] false)
   .ret))
def rs32 : List PR := [.c 2 (some 6)]
theorem chk32 : chkF Try.prog 32 21 pc32 rs32 = true := by decide +kernel

/-- entail/entailref1.Less: 30 -/
def pc25 : PC :=
 (.seq
  (.ops [
   ⟨none, (some 2), .box 30 (.t 0), [], []⟩,
   ⟨none, (some 3), .box 30 (.t 1), [], []⟩,
   ⟨none, (some 4), .as false (.c (.bool false)), [], []⟩] [] [2, 3] false)
  (.seq
   (.ops [
    ⟨none, (some 8), .load (some 6) (.t 2), [], []⟩,
    ⟨none, (some 9), .call (.c (.fn 32 [] [])) [(false, (.t 8))], [3], []⟩,
    ⟨none, (some 10), .load (some 6) (.t 3), [3], []⟩,
    ⟨none, (some 11), .call (.c (.fn 32 [] [])) [(false, (.t 10))], [10], []⟩,
    ⟨none, (some 5), .alloc 74 [.str (bs []), .str (bs []), .str (bs []), .str (bs []), .str (bs []), .str (bs [])], [], []⟩,
    ⟨none, (some 6), .alloc 74 [.str (bs []), .str (bs []), .str (bs []), .str (bs []), .str (bs []), .str (bs [])], [], []⟩,
    ⟨none, none, .store 6 (.t 5) (.t 9), [], []⟩,
    ⟨none, none, .store 6 (.t 6) (.t 11), [], []⟩] [] [5, 6] true)
   (.seq
    (.seq
     (.ops [
      ⟨none, (some 7), .as false (.c (.int .i64 0)), [], []⟩] [] [5, 6, 7] false)
     (.block 0
      (.loop
       (.seq
        (.seq
         (.ops [
          ⟨none, (some 12), .mv (.t 7), [], []⟩,
          ⟨none, (some 13), .bin .lss (.t 12) (.c (.int .i64 6)), [], []⟩] [] [5, 6, 7, 13] false)
         (.cond (.t 13)
          .skip
          (.exit 0)))
        (.seq
         (.block 1
          (.seq
           (.ops [
            ⟨none, (some 16), .mv (.t 7), [], []⟩,
            ⟨none, (some 17), .iaA 6 1 (.t 5) (.t 16), [], []⟩,
            ⟨none, (some 18), .load none (.t 17), [], []⟩,
            ⟨none, (some 19), .mv (.t 7), [], []⟩,
            ⟨none, (some 20), .iaA 6 1 (.t 6) (.t 19), [], []⟩,
            ⟨none, (some 21), .load none (.t 20), [], []⟩,
            ⟨none, (some 22), .bin .neq (.t 18) (.t 21), [], []⟩] [] [5, 6, 7, 22] true)
           (.cond (.t 22)
            (.seq
             (.ops [
              ⟨none, (some 23), .mv (.t 7), [], []⟩,
              ⟨none, (some 24), .iaA 6 1 (.t 5) (.t 23), [], []⟩,
              ⟨none, (some 25), .load none (.t 24), [], []⟩,
              ⟨none, (some 26), .mv (.t 7), [], []⟩,
              ⟨none, (some 27), .iaA 6 1 (.t 6) (.t 26), [], []⟩,
              ⟨none, (some 28), .load none (.t 27), [], []⟩,
              ⟨none, (some 29), .bin .lss (.t 25) (.t 28), [], []⟩,
              ⟨none, (some 4), .as false (.t 29), [], []⟩] [] [4] true)
             .ret)
            .skip)))
         (.ops [
          ⟨none, (some 14), .mv (.t 7), [], []⟩,
          ⟨none, (some 15), .bin .add (.t 14) (.c (.int .i64 1)), [], []⟩,
          ⟨none, (some 7), .as false (.t 15), [], []⟩] [] [5, 6, 7] false))))))
    (.seq
     (.ops [
      ⟨none, (some 4), .as false (.c (.bool false)), [], []⟩] [] [4] false)
     .ret))))
def rs25 : List PR := [.t 4]
theorem chk25 : chkF Try.prog 25 30 pc25 rs25 = true := by decide +kernel


theorem snd_six (x : Row 6) : SndP Try.prog Fn5 Pr 32 ([rowV x].map .v) [.v (rowV x)] ([rowV x].map .v) := by
  obtain ⟨a1, a2, a3, a4, a5, a6, rfl⟩ := row6 x
  refine snd_of rfl chk32 (by simp) ?_ rfl
  rw [enter_plain _ _ (by simp)]
  simp only [pc32, plainL, rowV]
  refine run_of ?_
  repeat (first | refine run_seq ?_ | refine run_block ?_ | refine run_b ?_ | refine run_skip ?_ | refine run_ops (by simp; rfl) rfl rfl (by simp; rfl) ?_)
  refine run_ret ⟨.inr rfl, ?_⟩
  simp [rs32]

theorem snd_Less (x y : Row 6) : SndP Try.prog Fn5 Pr 25 ([rowV x, rowV y].map .v) [.v (.bool (rl x y))] ([rowV x, rowV y].map .v) := by
  obtain ⟨a1, a2, a3, a4, a5, a6, rfl⟩ := row6 x
  obtain ⟨b1, b2, b3, b4, b5, b6, rfl⟩ := row6 y
  refine snd_of rfl chk25 (by simp) ?_ rfl
  rw [enter_plain _ _ (by simp)]
  simp only [pc25, plainL, rowV]
  refine run_of ?_
  repeat (first | refine run_seq ?_ | refine run_block ?_ | refine run_b ?_ | refine run_skip ?_ | refine run_ops (by simp; rfl) rfl rfl (by simp; rfl) ?_)
  refine run_opsC (by simp; rfl) ?_
  refine runO_call (xs := [rowV ⟨[a1, a2, a3, a4, a5, a6], rfl⟩]) (snd_six _) rfl (by simp [rowV]) rfl (.inl rfl) (by simp [rowV, resT]; rfl) (by simp; rfl) ?_
  refine runO_call (xs := [rowV ⟨[b1, b2, b3, b4, b5, b6], rfl⟩]) (snd_six _) rfl (by simp [rowV]) rfl (.inl rfl) (by simp [rowV, resT]; rfl) (by simp; rfl) ?_
  refine runO_nil rfl (by simp; rfl) ?_
  repeat (first | refine run_seq ?_ | refine run_block ?_ | refine run_b ?_ | refine run_skip ?_ | refine run_ops (by simp; rfl) rfl rfl (by simp; rfl) ?_)
  obtain ⟨L1, h1⟩ : ∃ L : List ByteArray, L = [a1, a2, a3, a4, a5, a6] := ⟨_, rfl⟩
  obtain ⟨L2, h2⟩ : ∃ L : List ByteArray, L = [b1, b2, b3, b4, b5, b6] := ⟨_, rfl⟩
  have e1 : L1.length = 6 := by rw [h1]; rfl
  have e2 : L2.length = 6 := by rw [h2]; rfl
  have e0 : rl ⟨[a1, a2, a3, a4, a5, a6], rfl⟩ ⟨[b1, b2, b3, b4, b5, b6], rfl⟩ = ll L1 L2 := by rw [h1, h2]; rfl
  rw [e0]
  refine run_loop (α := Nat) (fun i => E [(5, .bx 74 (L1.map fun s => .v (.str s))), (6, .bx 74 (L2.map fun s => .v (.str s))), (7, .v (.int .i64 i))])
    (fun i => i ≤ 6 ∧ ll L1 L2 = ll (L1.drop i) (L2.drop i)) (fun i => 6 - i) 0 (by subst h1 h2; rfl) ⟨by omega, by simp⟩ ?_
  clear e0 h1 h2
  intro i ⟨hi, hz⟩
  repeat (first | refine run_seq ?_ | refine run_block ?_ | refine run_b ?_ | refine run_skip ?_ | refine run_ops (by simp; rfl) rfl rfl (by simp; rfl) ?_)
  refine run_cond (by simp [-Bool.not_eq_eq_eq_not]; rfl) (fun ht => ?_) (fun ht => run_exit rfl ?_)
  · simp at ht
    have i1 : i < L1.length := by omega
    have i2 : i < L2.length := by omega
    have g1 : L1[i]? = some L1[i] := List.getElem?_eq_getElem i1
    have g2 : L2[i]? = some L2[i] := List.getElem?_eq_getElem i2
    repeat (first | refine run_seq ?_ | refine run_block ?_ | refine run_b ?_ | refine run_skip ?_ | refine run_ops (by simp[ht, g1, g2, e1, e2]; rfl) rfl rfl (by simp; rfl) ?_)
    refine run_cond (by simp [-Bool.not_eq_eq_eq_not]; rfl) (fun hq => ?_) (fun hq => ?_)
    · repeat (first | refine run_seq ?_ | refine run_block ?_ | refine run_b ?_ | refine run_skip ?_ | refine run_ops (by simp[ht, g1, g2, e1, e2]; rfl) rfl rfl (by simp; rfl) ?_)
      refine run_ret ⟨.inr rfl, ?_⟩
      have e : ll L1 L2 = bl L1[i] L2[i] := by
        rw [hz, List.drop_eq_getElem_cons i1, List.drop_eq_getElem_cons i2]
        simp only [ll]
        simp at hq
        simp [hq]
      simp [rs25, e]
    · repeat (first | refine run_seq ?_ | refine run_block ?_ | refine run_b ?_ | refine run_skip ?_ | refine run_ops (by simp; rfl) rfl rfl (by simp; rfl) ?_)
      simp at hq
      refine run_inv ⟨i + 1, ⟨by omega, ?_⟩, by omega, ?_⟩
      · rw [hz, List.drop_eq_getElem_cons i1, List.drop_eq_getElem_cons i2]
        simp only [ll]
        simp [hq, bl_slo.irr]
      · rw [wrap64 (by omega) (by omega)]; rfl
  · simp at ht
    repeat (first | refine run_seq ?_ | refine run_block ?_ | refine run_b ?_ | refine run_skip ?_ | refine run_ops (by simp; rfl) rfl rfl (by simp; rfl) ?_)
    refine run_ret ⟨.inr rfl, ?_⟩
    have e : ll L1 L2 = false := by
      rw [hz, List.drop_of_length_le (by omega), List.drop_of_length_le (by omega)]; rfl
    simp [rs25, e]
end Go.Proofs.Ytllmlcmhmkkgcaa
