/-
  Ytllmlcmhmkkgcaa: what the functions of law 5 do (7): texts by halves.
-/
import Derived.Test.YtllmlcmhmkkgcaaLookA
import Derived.Test.YtllmlcmhmkkgcaaLib5
set_option linter.unusedVariables false
set_option linter.unusedSimpArgs false
set_option linter.unusedSectionVars false
namespace Go.Proofs.Ytllmlcmhmkkgcaa
open Go Go.AH Go.PM
variable {Pr : CallR → CallR}

/-- entail/entailref1.Texts: 95 -/
def pc10 : PC :=
 (.seq
  (.ops [
   ⟨none, (some 2), .as false (.c (.sl 9 [])), [], []⟩] [] [0] false)
  (.seq
   (.seq
    (.ops [
     ⟨none, (some 8), .mv (.t 0), [], []⟩,
     ⟨none, (some 9), .len 1 (.t 8), [], []⟩,
     ⟨none, (some 10), .bin .lss (.t 9) (.c (.int .i64 2)), [], []⟩] [] [0, 10] false)
    (.cond (.t 10)
     (.seq
      (.ops [
       ⟨none, (some 11), .bsl 9 1 false (.str (bs [])) 0 [], [], []⟩,
       ⟨none, (some 12), .mv (.t 0), [], []⟩,
       ⟨none, (some 13), .app 9 16 (.t 11) (.t 12), [], []⟩,
       ⟨none, (some 2), .as false (.t 13), [], []⟩] [] [2] false)
      .ret)
     .skip))
   (.seq
    (.ops [
     ⟨none, (some 14), .mv (.t 0), [], []⟩,
     ⟨none, (some 15), .mv (.t 0), [], []⟩,
     ⟨none, (some 16), .len 1 (.t 15), [], []⟩,
     ⟨none, (some 17), .bin .quo (.t 16) (.c (.int .i64 2)), [], []⟩,
     ⟨none, (some 18), .slc false 9 (.t 14) none (some (.t 17)) none, [], []⟩,
     ⟨none, (some 19), .call (.c (.fn 10 [] [])) [(false, (.t 18))], [0], []⟩,
     ⟨none, (some 20), .mv (.t 0), [0], []⟩,
     ⟨none, (some 21), .mv (.t 0), [0, 20], []⟩,
     ⟨none, (some 22), .len 1 (.t 21), [20, 21], []⟩,
     ⟨none, (some 23), .bin .quo (.t 22) (.c (.int .i64 2)), [20, 22], []⟩,
     ⟨none, (some 24), .slc false 9 (.t 20) (some (.t 23)) none none, [20], [23]⟩,
     ⟨none, (some 25), .call (.c (.fn 10 [] [])) [(false, (.t 24))], [24], []⟩,
     ⟨none, (some 3), .as false (.t 19), [], []⟩,
     ⟨none, (some 4), .as false (.t 25), [], []⟩] [] [3, 4] true)
    (.seq
     (.ops [
      ⟨none, (some 5), .as false (.c (.sl 9 [])), [], []⟩] [] [3, 4, 5] false)
     (.seq
      (.ops [
       ⟨none, (some 6), .as false (.c (.int .i64 0)), [], []⟩,
       ⟨none, (some 7), .as false (.c (.int .i64 0)), [], []⟩] [] [3, 4, 5, 6, 7] false)
      (.seq
       (.block 0
        (.loop
         (.seq
          (.seq
           (.ops [
            ⟨none, (some 26), .mv (.t 6), [], []⟩,
            ⟨none, (some 27), .mv (.t 3), [], []⟩,
            ⟨none, (some 28), .len 1 (.t 27), [], []⟩,
            ⟨none, (some 29), .bin .lss (.t 26) (.t 28), [], []⟩,
            ⟨none, (some 30), .mv (.t 29), [], []⟩,
            ⟨(some (30, false)), (some 31), .mv (.t 7), [], []⟩,
            ⟨(some (30, false)), (some 32), .mv (.t 4), [], []⟩,
            ⟨(some (30, false)), (some 33), .len 1 (.t 32), [], []⟩,
            ⟨(some (30, false)), (some 34), .bin .lss (.t 31) (.t 33), [], []⟩,
            ⟨none, (some 35), .pick (.t 30) (.c (.bool true)) (.t 34), [], []⟩] [] [3, 4, 5, 6, 7, 35] false)
           (.cond (.t 35)
            .skip
            (.exit 0)))
          (.block 1
           (.block 2
            (.seq
             (.ops [
              ⟨none, (some 39), .mv (.t 7), [], []⟩,
              ⟨none, (some 40), .mv (.t 4), [], []⟩,
              ⟨none, (some 41), .len 1 (.t 40), [], []⟩,
              ⟨none, (some 42), .bin .eql (.t 39) (.t 41), [], []⟩,
              ⟨none, (some 43), .mv (.t 42), [], []⟩,
              ⟨(some (43, false)), (some 44), .mv (.t 6), [], []⟩,
              ⟨(some (43, false)), (some 45), .mv (.t 3), [], []⟩,
              ⟨(some (43, false)), (some 46), .len 1 (.t 45), [], []⟩,
              ⟨(some (43, false)), (some 47), .bin .lss (.t 44) (.t 46), [], []⟩,
              ⟨(some (43, false)), (some 48), .mv (.t 47), [], []⟩,
              ⟨(some (48, true)), (some 49), .mv (.t 3), [], []⟩,
              ⟨(some (48, true)), (some 50), .mv (.t 6), [], []⟩,
              ⟨(some (48, true)), (some 51), .ia 9 1 (.t 49) (.t 50), [], []⟩,
              ⟨(some (48, true)), (some 52), .load none (.t 51), [], []⟩,
              ⟨(some (48, true)), (some 53), .mv (.t 4), [], []⟩,
              ⟨(some (48, true)), (some 54), .mv (.t 7), [], []⟩,
              ⟨(some (48, true)), (some 55), .ia 9 1 (.t 53) (.t 54), [], []⟩,
              ⟨(some (48, true)), (some 56), .load none (.t 55), [], []⟩,
              ⟨(some (48, true)), (some 57), .bin .lss (.t 52) (.t 56), [], []⟩,
              ⟨(some (43, false)), (some 58), .pick (.t 48) (.t 57) (.c (.bool false)), [], []⟩,
              ⟨none, (some 59), .pick (.t 43) (.c (.bool true)) (.t 58), [], []⟩,
              ⟨none, (some 38), .as false (.t 59), [], []⟩] [] [3, 4, 5, 6, 7, 38] true)
             (.cond (.t 38)
              (.seq
               (.ops [
                ⟨none, (some 60), .mv (.t 5), [], []⟩,
                ⟨none, (some 61), .mv (.t 3), [], []⟩,
                ⟨none, (some 62), .mv (.t 6), [], []⟩,
                ⟨none, (some 63), .ia 9 1 (.t 61) (.t 62), [], []⟩,
                ⟨none, (some 64), .load none (.t 63), [], []⟩,
                ⟨none, (some 65), .bsl 9 1 false (.str (bs [])) 1 [(0, (.t 64))], [], []⟩,
                ⟨none, (some 66), .app 9 16 (.t 60) (.t 65), [], []⟩,
                ⟨none, (some 5), .as false (.t 66), [], []⟩] [] [3, 4, 5, 6, 7] false)
               (.ops [
                ⟨none, (some 67), .mv (.t 6), [], []⟩,
                ⟨none, (some 68), .bin .add (.t 67) (.c (.int .i64 1)), [], []⟩,
                ⟨none, (some 6), .as false (.t 68), [], []⟩] [] [3, 4, 5, 6, 7] false))
              (.seq
               (.ops [
                ⟨none, (some 70), .mv (.t 6), [], []⟩,
                ⟨none, (some 71), .mv (.t 3), [], []⟩,
                ⟨none, (some 72), .len 1 (.t 71), [], []⟩,
                ⟨none, (some 73), .bin .eql (.t 70) (.t 72), [], []⟩,
                ⟨none, (some 74), .mv (.t 73), [], []⟩,
                ⟨(some (74, false)), (some 75), .mv (.t 4), [], []⟩,
                ⟨(some (74, false)), (some 76), .mv (.t 7), [], []⟩,
                ⟨(some (74, false)), (some 77), .ia 9 1 (.t 75) (.t 76), [], []⟩,
                ⟨(some (74, false)), (some 78), .load none (.t 77), [], []⟩,
                ⟨(some (74, false)), (some 79), .mv (.t 3), [], []⟩,
                ⟨(some (74, false)), (some 80), .mv (.t 6), [], []⟩,
                ⟨(some (74, false)), (some 81), .ia 9 1 (.t 79) (.t 80), [], []⟩,
                ⟨(some (74, false)), (some 82), .load none (.t 81), [], []⟩,
                ⟨(some (74, false)), (some 83), .bin .lss (.t 78) (.t 82), [], []⟩,
                ⟨none, (some 84), .pick (.t 74) (.c (.bool true)) (.t 83), [], []⟩,
                ⟨none, (some 69), .as false (.t 84), [], []⟩] [] [3, 4, 5, 6, 7, 69] true)
               (.cond (.t 69)
                (.seq
                 (.ops [
                  ⟨none, (some 85), .mv (.t 5), [], []⟩,
                  ⟨none, (some 86), .mv (.t 4), [], []⟩,
                  ⟨none, (some 87), .mv (.t 7), [], []⟩,
                  ⟨none, (some 88), .ia 9 1 (.t 86) (.t 87), [], []⟩,
                  ⟨none, (some 89), .load none (.t 88), [], []⟩,
                  ⟨none, (some 90), .bsl 9 1 false (.str (bs [])) 1 [(0, (.t 89))], [], []⟩,
                  ⟨none, (some 91), .app 9 16 (.t 85) (.t 90), [], []⟩,
                  ⟨none, (some 5), .as false (.t 91), [], []⟩] [] [3, 4, 5, 6, 7] false)
                 (.ops [
                  ⟨none, (some 92), .mv (.t 7), [], []⟩,
                  ⟨none, (some 93), .bin .add (.t 92) (.c (.int .i64 1)), [], []⟩,
                  ⟨none, (some 7), .as false (.t 93), [], []⟩] [] [3, 4, 5, 6, 7] false))
                (.ops [
                 ⟨none, (some 36), .mv (.t 6), [], []⟩,
                 ⟨none, (some 37), .bin .add (.t 36) (.c (.int .i64 1)), [], []⟩,
                 ⟨none, (some 6), .as false (.t 37), [], []⟩] [] [3, 4, 5, 6, 7] false))))))))))
       (.seq
        (.ops [
         ⟨none, (some 94), .mv (.t 5), [], []⟩,
         ⟨none, (some 2), .as true (.t 94), [], []⟩] [] [2] false)
        .ret)))))))
def rs10 : List PR := [.t 2]
theorem chk10 : chkF Try.prog 10 95 pc10 rs10 = true := by decide +kernel


set_option maxHeartbeats 8000000 in
theorem snd_Texts : ∀ (n : Nat) (l : List ByteArray), l.length = n → l.length ≤ 1000000 →
    SndP Try.prog Fn5 Pr 10 ([.sl 9 (l.map .str)].map .v) [.sl 9 ((setS bl l).map .str)] ([.sl 9 (l.map .str)].map .v) := by
  intro n
  induction n using Nat.strongRecOn with
  | _ n ih =>
  intro l hn hl
  refine snd_of rfl chk10 (by simp) ?_ rfl
  rw [enter_plain _ _ (by simp)]
  simp only [pc10, plainL]
  refine run_of ?_
  repeat (first | refine run_seq ?_ | refine run_block ?_ | refine run_b ?_ | refine run_skip ?_ | refine run_ops (by simp; rfl) rfl rfl (by simp; rfl) ?_)
  refine run_cond (by simp; rfl) (fun ht => ?_) (fun ht => ?_)
  · simp at ht
    repeat (first | refine run_seq ?_ | refine run_block ?_ | refine run_b ?_ | refine run_skip ?_ | refine run_ops (by simp[show l.length * 16 ≤ 140737488355328 by omega, show l.length ≤ 9223372036854775807 by omega]; rfl) rfl rfl (by simp; rfl) ?_)
    refine run_ret ⟨.inr rfl, ?_⟩
    have e : setS bl l = l := by
      match l, ht with
      | [], _ => rfl
      | [x], _ => rfl
      | _ :: _ :: _, ht => simp at ht; omega
    simp [rs10, e]
  · simp at ht
    repeat (first | refine run_seq ?_ | refine run_block ?_ | refine run_b ?_ | refine run_skip ?_)
    obtain ⟨m, hm⟩ : ∃ m, m = l.length / 2 := ⟨_, rfl⟩
    have e1 : IntKind.i64.wrap ((l.length : Int) / 2) = (m : Int) := by rw [wrap64 (by omega) (by omega)]; omega
    have e2 : m ≤ l.length := by omega
    refine run_opsC (by simp[e1, e2, ← List.map_take]; rfl) ?_
    refine runO_call (xs := [.sl 9 ((l.take m).map .str)]) (ih _ (by rw [List.length_take]; omega) _ rfl (by rw [List.length_take]; omega)) rfl (by simp) rfl (.inl (by simp)) (by simp [resT]; rfl) (by simp [e1, e2, -List.map_take, -List.map_drop, List.take_of_length_le]; rfl) ?_
    refine runO_call (xs := [.sl 9 ((l.drop m).map .str)]) (ih _ (by rw [List.length_drop]; omega) _ rfl (by rw [List.length_drop]; omega)) rfl (by simp) rfl (.inl (by simp)) (by simp [resT]; rfl) (by simp; rfl) ?_
    refine runO_nil rfl (by simp; rfl) ?_
    repeat (first | refine run_seq ?_ | refine run_block ?_ | refine run_b ?_ | refine run_skip ?_ | refine run_ops (by simp; rfl) rfl rfl (by simp; rfl) ?_)
    have hfin : mergeS bl (setS bl (l.take m)) (setS bl (l.drop m)) = setS bl l := by rw [mergeS_set bl_slo, List.take_append_drop]
    have hA0 : (setS bl (l.take m)).length ≤ 1000000 := Nat.le_trans length_setS (by rw [List.length_take]; omega)
    have hB0 : (setS bl (l.drop m)).length ≤ 1000000 := Nat.le_trans length_setS (by rw [List.length_drop]; omega)
    generalize setS bl (l.take m) = A at hfin hA0
    generalize setS bl (l.drop m) = B at hfin hB0
    rw [← hfin]
    clear hfin e1 e2 hm
    refine run_loop (α := Nat × Nat × List ByteArray) (fun a => E [(3, .sl 9 (A.map .str)), (4, .sl 9 (B.map .str)), (5, .sl 9 (a.2.2.map .str)), (6, .v (.int .i64 a.1)), (7, .v (.int .i64 a.2.1))])
      (fun a => a.1 ≤ A.length ∧ a.2.1 ≤ B.length ∧ a.2.2 ++ mergeS bl (A.drop a.1) (B.drop a.2.1) = mergeS bl A B ∧ a.2.2.length ≤ a.1 + a.2.1) (fun a => (A.length - a.1) + (B.length - a.2.1)) (0, 0, []) (by rfl) ⟨by simp, by simp, by simp, by simp⟩ ?_
    intro ⟨i, k, O⟩ ⟨hi, hk, hO, hOl⟩
    simp only at hi hk hO hOl
    have wi : IntKind.i64.wrap ((i : Int) + 1) = ((i + 1 : Nat) : Int) := by rw [wrap64 (by omega) (by omega)]; rfl
    have wk : IntKind.i64.wrap ((k : Int) + 1) = ((k + 1 : Nat) : Int) := by rw [wrap64 (by omega) (by omega)]; rfl
    have o1 : (O.length + 1) * 16 ≤ 140737488355328 := by omega
    have o2 : O.length + 1 ≤ 9223372036854775807 := by omega
    by_cases hiA : i < A.length
    · have gA : A[i]? = some A[i] := List.getElem?_eq_getElem hiA
      repeat (first | refine run_seq ?_ | refine run_block ?_ | refine run_b ?_ | refine run_skip ?_ | refine run_ops (by simp[hiA]; rfl) rfl rfl (by simp; rfl) ?_)
      refine run_cond (t := true) (by simp) (fun _ => ?_) (fun h => by cases h)
      by_cases hkB : k < B.length
      · have gB : B[k]? = some B[k] := List.getElem?_eq_getElem hkB
        have nk : ((k : Int) == (B.length : Int)) = false := by simp; omega
        have ni : ((i : Int) == (A.length : Int)) = false := by simp; omega
        repeat (first | refine run_seq ?_ | refine run_block ?_ | refine run_b ?_ | refine run_skip ?_ | refine run_ops (by simp[hiA, hkB, gA, gB, nk]; rfl) rfl rfl (by simp; rfl) ?_)
        refine run_cond (by simp; rfl) (fun hq => ?_) (fun hq => ?_)
        · repeat (first | refine run_seq ?_ | refine run_block ?_ | refine run_b ?_ | refine run_skip ?_ | refine run_ops (by simp[hiA, gA, o1, o2]; rfl) rfl rfl (by simp; rfl) ?_)
          refine run_inv ⟨(i + 1, k, O ++ [A[i]]), ⟨by simp; omega, hk, ?_, by simp; omega⟩, by simp; omega, ?_⟩
          · show (O ++ [A[i]]) ++ mergeS bl (A.drop (i + 1)) (B.drop k) = _
            rw [List.append_assoc, List.singleton_append, ← mergeS_lt hiA hkB hq, hO]
          · rw [wi, List.map_append]; rfl
        · repeat (first | refine run_seq ?_ | refine run_block ?_ | refine run_b ?_ | refine run_skip ?_ | refine run_ops (by simp[hiA, hkB, gA, gB, nk, ni]; rfl) rfl rfl (by simp; rfl) ?_)
          refine run_cond (by simp; rfl) (fun hp => ?_) (fun hp => ?_)
          · repeat (first | refine run_seq ?_ | refine run_block ?_ | refine run_b ?_ | refine run_skip ?_ | refine run_ops (by simp[hkB, gB, o1, o2]; rfl) rfl rfl (by simp; rfl) ?_)
            refine run_inv ⟨(i, k + 1, O ++ [B[k]]), ⟨hi, by simp; omega, ?_, by simp; omega⟩, by simp; omega, ?_⟩
            · show (O ++ [B[k]]) ++ mergeS bl (A.drop i) (B.drop (k + 1)) = _
              rw [List.append_assoc, List.singleton_append, ← mergeS_gt hiA hkB hq hp, hO]
            · rw [wk, List.map_append]; rfl
          · repeat (first | refine run_seq ?_ | refine run_block ?_ | refine run_b ?_ | refine run_skip ?_ | refine run_ops (by simp; rfl) rfl rfl (by simp; rfl) ?_)
            refine run_inv ⟨(i + 1, k, O), ⟨by simp; omega, hk, ?_, by simp; omega⟩, by simp; omega, ?_⟩
            · show O ++ mergeS bl (A.drop (i + 1)) (B.drop k) = _
              rw [← mergeS_eq hiA hkB hq hp, hO]
            · rw [wi]
      · have nk : ((k : Int) == (B.length : Int)) = true := by simp; omega
        repeat (first | refine run_seq ?_ | refine run_block ?_ | refine run_b ?_ | refine run_skip ?_ | refine run_ops (by simp[hiA, nk]; rfl) rfl rfl (by simp; rfl) ?_)
        refine run_cond (by simp; rfl) (fun hq => ?_) (fun hq => by cases hq)
        repeat (first | refine run_seq ?_ | refine run_block ?_ | refine run_b ?_ | refine run_skip ?_ | refine run_ops (by simp[hiA, gA, o1, o2]; rfl) rfl rfl (by simp; rfl) ?_)
        refine run_inv ⟨(i + 1, k, O ++ [A[i]]), ⟨by simp; omega, hk, ?_, by simp; omega⟩, by simp; omega, ?_⟩
        · show (O ++ [A[i]]) ++ mergeS bl (A.drop (i + 1)) (B.drop k) = _
          rw [List.append_assoc, List.singleton_append, ← mergeS_endB hiA (by omega), hO]
        · rw [wi, List.map_append]; rfl
    · have ni : ((i : Int) == (A.length : Int)) = true := by simp; omega
      by_cases hkB : k < B.length
      · have gB : B[k]? = some B[k] := List.getElem?_eq_getElem hkB
        have nk : ((k : Int) == (B.length : Int)) = false := by simp; omega
        repeat (first | refine run_seq ?_ | refine run_block ?_ | refine run_b ?_ | refine run_skip ?_ | refine run_ops (by simp[hiA, hkB]; rfl) rfl rfl (by simp; rfl) ?_)
        refine run_cond (t := true) (by simp) (fun _ => ?_) (fun h => by cases h)
        repeat (first | refine run_seq ?_ | refine run_block ?_ | refine run_b ?_ | refine run_skip ?_ | refine run_ops (by simp[hiA, hkB, gB, nk]; rfl) rfl rfl (by simp; rfl) ?_)
        refine run_cond (t := false) (by simp) (fun hq => by cases hq) (fun _ => ?_)
        repeat (first | refine run_seq ?_ | refine run_block ?_ | refine run_b ?_ | refine run_skip ?_ | refine run_ops (by simp[hiA, hkB, gB, nk, ni]; rfl) rfl rfl (by simp; rfl) ?_)
        refine run_cond (t := true) (by simp) (fun _ => ?_) (fun hq => by cases hq)
        repeat (first | refine run_seq ?_ | refine run_block ?_ | refine run_b ?_ | refine run_skip ?_ | refine run_ops (by simp[hkB, gB, o1, o2]; rfl) rfl rfl (by simp; rfl) ?_)
        refine run_inv ⟨(i, k + 1, O ++ [B[k]]), ⟨hi, by simp; omega, ?_, by simp; omega⟩, by simp; omega, ?_⟩
        · show (O ++ [B[k]]) ++ mergeS bl (A.drop i) (B.drop (k + 1)) = _
          rw [List.append_assoc, List.singleton_append, ← mergeS_endA (by omega) hkB, hO]
        · rw [wk, List.map_append]; rfl
      · repeat (first | refine run_seq ?_ | refine run_block ?_ | refine run_b ?_ | refine run_skip ?_ | refine run_ops (by simp[hiA, hkB]; rfl) rfl rfl (by simp; rfl) ?_)
        refine run_cond (t := false) (by simp) (fun h => by cases h) (fun _ => run_exit rfl ?_)
        repeat (first | refine run_seq ?_ | refine run_block ?_ | refine run_b ?_ | refine run_skip ?_ | refine run_ops (by simp; rfl) rfl rfl (by simp; rfl) ?_)
        refine run_ret ⟨.inr rfl, ?_⟩
        rw [← hO, mergeS_end (by omega) (by omega), List.append_nil]
        simp [rs10]
end Go.Proofs.Ytllmlcmhmkkgcaa
