/-
  Ytllmlcmhmkkgcaa: what the functions of law 5 do (1): comparisons, sets of tuples.
-/
import Derived.Test.YtllmlcmhmkkgcaaProg
import Derived.KernelRfl
import Derived.Test.YtllmlcmhmkkgcaaLib5
set_option linter.unusedVariables false
set_option linter.unusedSimpArgs false
set_option linter.unusedSectionVars false
namespace Go.Proofs.Ytllmlcmhmkkgcaa
open Go Go.AH Go.PM
def bs (l : List Nat) : ByteArray := ⟨(l.map UInt8.ofNat).toArray⟩
theorem bs_nil : bs [] = ⟨#[]⟩ := rfl
/-- The functions whose code is walked. -/
def fs5 : List FuncId := [3, 4, 5, 6, 7, 8, 9, 10, 11, 12, 13, 14, 15, 17, 18, 19, 20, 21, 22, 23, 24, 25, 26, 27, 28, 29, 30, 31, 32, 33, 35, 36, 37, 39, 42, 43, 55]
abbrev Fn5 : FuncId → Bool := inL fs5
variable {Pr : CallR → CallR}

/-- internal/bytealg.CompareString: 8 -/
def pc55 : PC :=
 (.seq
  (.ops [
   ⟨none, (some 4), .as false (.c (.int .i64 0)), [], []⟩] [] [0, 1] false)
  (.seq
   (.ops [
    ⟨none, (some 5), .mv (.t 0), [], []⟩,
    ⟨none, (some 6), .mv (.t 1), [], []⟩,
    ⟨none, (some 7), .call (.c (.fn 70 [] [])) [(false, (.t 5)), (false, (.t 6))], [], []⟩,
    ⟨none, (some 4), .as false (.t 7), [], []⟩] [] [4] false)
   .ret))
def rs55 : List PR := [.t 4]
theorem chk55 : chkF Try.prog 55 8 pc55 rs55 = true := by decide +kernel

/-- strings.Compare: 8 -/
def pc43 : PC :=
 (.seq
  (.ops [
   ⟨none, (some 4), .as false (.c (.int .i64 0)), [], []⟩] [] [0, 1] false)
  (.seq
   (.ops [
    ⟨none, (some 5), .mv (.t 0), [], []⟩,
    ⟨none, (some 6), .mv (.t 1), [], []⟩,
    ⟨none, (some 7), .call (.c (.fn 55 [] [])) [(false, (.t 5)), (false, (.t 6))], [], []⟩,
    ⟨none, (some 4), .as false (.t 7), [], []⟩] [] [4] false)
   .ret))
def rs43 : List PR := [.t 4]
theorem chk43 : chkF Try.prog 43 8 pc43 rs43 = true := by decide +kernel

/-- cmp.Or[int]: 18 -/
def pc42 : PC :=
 (.seq
  (.ops [
   ⟨none, (some 2), .as false (.c (.int .i64 0)), [], []⟩] [] [0] false)
  (.seq
   (.ops [
    ⟨none, (some 3), .as false (.c (.int .i64 0)), [], []⟩] [] [0, 3] false)
   (.seq
    (.seq
     (.ops [
      ⟨none, (some 6), .mv (.t 0), [], []⟩,
      ⟨none, (some 7), .len 1 (.t 6), [], []⟩,
      ⟨none, (some 8), .mv (.c (.int .i64 0)), [], []⟩] [] [0, 3, 6, 7, 8] false)
     (.block 0
      (.loop
       (.seq
        (.ops [
         ⟨none, (some 9), .bin .lss (.t 8) (.t 7), [], []⟩] [] [0, 3, 6, 7, 8, 9] false)
        (.seq
         (.cond (.t 9)
          .skip
          (.exit 0))
         (.seq
          (.block 1
           (.seq
            (.ops [
             ⟨none, (some 10), .ia 3 1 (.t 6) (.t 8), [], []⟩,
             ⟨none, (some 11), .load none (.t 10), [], []⟩,
             ⟨none, (some 5), .as false (.t 11), [], []⟩] [] [0, 3, 5, 6, 7, 8] false)
            (.seq
             (.ops [
              ⟨none, (some 12), .mv (.t 5), [], []⟩,
              ⟨none, (some 13), .mv (.t 3), [], []⟩,
              ⟨none, (some 14), .bin .neq (.t 12) (.t 13), [], []⟩] [] [0, 3, 5, 6, 7, 8, 14] false)
             (.cond (.t 14)
              (.seq
               (.ops [
                ⟨none, (some 15), .mv (.t 5), [], []⟩,
                ⟨none, (some 2), .as true (.t 15), [], []⟩] [] [2] false)
               .ret)
              .skip))))
          (.ops [
           ⟨none, (some 16), .bin .add (.t 8) (.c (.int .i64 1)), [], []⟩,
           ⟨none, (some 8), .mv (.t 16), [], []⟩] [] [0, 3, 6, 7, 8] false)))))))
    (.seq
     (.ops [
      ⟨none, (some 17), .mv (.t 3), [], []⟩,
      ⟨none, (some 2), .as true (.t 17), [], []⟩] [] [2] false)
     .ret))))
def rs42 : List PR := [.t 2]
theorem chk42 : chkF Try.prog 42 18 pc42 rs42 = true := by decide +kernel

/-- entail/tupl.Compare: 47 -/
def pc35 : PC :=
 (.seq
  (.ops [
   ⟨none, (some 2), .box 30 (.t 0), [], []⟩,
   ⟨none, (some 3), .box 30 (.t 1), [], []⟩,
   ⟨none, (some 4), .as false (.c (.int .i64 0)), [], []⟩] [] [2, 3] false)
  (.seq
   (.ops [
    ⟨none, (some 5), .fa 0 2 (.t 2), [], []⟩,
    ⟨none, (some 6), .fa 0 1 (.t 5), [], []⟩,
    ⟨none, (some 7), .load none (.t 6), [], []⟩,
    ⟨none, (some 8), .fa 0 2 (.t 3), [], []⟩,
    ⟨none, (some 9), .fa 0 1 (.t 8), [], []⟩,
    ⟨none, (some 10), .load none (.t 9), [], []⟩,
    ⟨none, (some 11), .call (.c (.fn 43 [] [])) [(false, (.t 7)), (false, (.t 10))], [2, 3], []⟩,
    ⟨none, (some 12), .fa 0 2 (.t 2), [2, 3], []⟩,
    ⟨none, (some 13), .fa 1 1 (.t 12), [2, 3, 12], []⟩,
    ⟨none, (some 14), .load none (.t 13), [2, 3, 13], []⟩,
    ⟨none, (some 15), .fa 0 2 (.t 3), [2, 3, 14], []⟩,
    ⟨none, (some 16), .fa 1 1 (.t 15), [2, 3, 15], []⟩,
    ⟨none, (some 17), .load none (.t 16), [2, 3, 16], []⟩,
    ⟨none, (some 18), .call (.c (.fn 43 [] [])) [(false, (.t 14)), (false, (.t 17))], [2, 3, 17], []⟩,
    ⟨none, (some 19), .fa 2 1 (.t 2), [2, 3], []⟩,
    ⟨none, (some 20), .load none (.t 19), [2, 3, 19], []⟩,
    ⟨none, (some 21), .fa 2 1 (.t 3), [2, 3, 20], []⟩,
    ⟨none, (some 22), .load none (.t 21), [2, 3, 21], []⟩,
    ⟨none, (some 23), .call (.c (.fn 43 [] [])) [(false, (.t 20)), (false, (.t 22))], [2, 3, 22], []⟩,
    ⟨none, (some 24), .fa 3 3 (.t 2), [2, 3], []⟩,
    ⟨none, (some 25), .fa 0 1 (.t 24), [2, 3, 24], []⟩,
    ⟨none, (some 26), .load none (.t 25), [2, 3, 25], []⟩,
    ⟨none, (some 27), .fa 3 3 (.t 3), [2, 3, 26], []⟩,
    ⟨none, (some 28), .fa 0 1 (.t 27), [2, 3, 27], []⟩,
    ⟨none, (some 29), .load none (.t 28), [2, 3, 28], []⟩,
    ⟨none, (some 30), .call (.c (.fn 43 [] [])) [(false, (.t 26)), (false, (.t 29))], [2, 3, 29], []⟩,
    ⟨none, (some 31), .fa 3 3 (.t 2), [2, 3], []⟩,
    ⟨none, (some 32), .fa 1 1 (.t 31), [2, 3, 31], []⟩,
    ⟨none, (some 33), .load none (.t 32), [2, 3, 32], []⟩,
    ⟨none, (some 34), .fa 3 3 (.t 3), [2, 3, 33], []⟩,
    ⟨none, (some 35), .fa 1 1 (.t 34), [2, 3, 34], []⟩,
    ⟨none, (some 36), .load none (.t 35), [2, 3, 35], []⟩,
    ⟨none, (some 37), .call (.c (.fn 43 [] [])) [(false, (.t 33)), (false, (.t 36))], [2, 3, 36], []⟩,
    ⟨none, (some 38), .fa 3 3 (.t 2), [2, 3], []⟩,
    ⟨none, (some 39), .fa 2 1 (.t 38), [3, 38], []⟩,
    ⟨none, (some 40), .load none (.t 39), [3, 39], []⟩,
    ⟨none, (some 41), .fa 3 3 (.t 3), [3, 40], []⟩,
    ⟨none, (some 42), .fa 2 1 (.t 41), [41], []⟩,
    ⟨none, (some 43), .load none (.t 42), [42], []⟩,
    ⟨none, (some 44), .call (.c (.fn 43 [] [])) [(false, (.t 40)), (false, (.t 43))], [43], []⟩,
    ⟨none, (some 45), .bsl 3 1 false (.int .i64 0) 6 [(0, (.t 11)), (1, (.t 18)), (2, (.t 23)), (3, (.t 30)), (4, (.t 37)), (5, (.t 44))], [], []⟩,
    ⟨none, (some 46), .call (.c (.fn 42 [] [])) [(false, (.t 45))], [], []⟩,
    ⟨none, (some 4), .as false (.t 46), [], []⟩] [] [4] true)
   .ret))
def rs35 : List PR := [.t 4]
theorem chk35 : chkF Try.prog 35 47 pc35 rs35 = true := by decide +kernel


theorem snd_cmpstring (hP : ∀ R f args H v H', cmpPr 70 f args H v H' → Pr R f args H v H') (a b : ByteArray) :
    SndP Try.prog Fn5 Pr 70 ([.str a, .str b].map .v) [.v (.int .i64 (cb a b))] ([.str a, .str b].map .v) := snd_cmp hP a b

theorem snd_CompareString (hP : ∀ R f args H v H', cmpPr 70 f args H v H' → Pr R f args H v H') (a b : ByteArray) :
    SndP Try.prog Fn5 Pr 55 ([.str a, .str b].map .v) [.v (.int .i64 (cb a b))] ([.str a, .str b].map .v) := by
  refine snd_of rfl chk55 (by simp) ?_ rfl
  rw [enter_plain _ _ (by simp)]
  simp only [pc55, plainL]
  refine run_of ?_
  repeat (first | refine run_seq ?_ | refine run_block ?_ | refine run_b ?_ | refine run_skip ?_ | refine run_ops (by simp; rfl) rfl rfl (by simp; rfl) ?_)
  refine run_opsC (by simp; rfl) ?_
  refine runO_call (xs := [.str a, .str b]) (snd_cmpstring hP a b) rfl (by simp) rfl (.inl rfl) (by simp [resT]; rfl) (by simp; rfl) ?_
  refine runO_nil rfl (by simp; rfl) ?_
  refine run_ret ⟨.inr rfl, ?_⟩
  simp [rs55]

theorem snd_Compare (hP : ∀ R f args H v H', cmpPr 70 f args H v H' → Pr R f args H v H') (a b : ByteArray) :
    SndP Try.prog Fn5 Pr 43 ([.str a, .str b].map .v) [.v (.int .i64 (cb a b))] ([.str a, .str b].map .v) := by
  refine snd_of rfl chk43 (by simp) ?_ rfl
  rw [enter_plain _ _ (by simp)]
  simp only [pc43, plainL]
  refine run_of ?_
  repeat (first | refine run_seq ?_ | refine run_block ?_ | refine run_b ?_ | refine run_skip ?_ | refine run_ops (by simp; rfl) rfl rfl (by simp; rfl) ?_)
  refine run_opsC (by simp; rfl) ?_
  refine runO_call (xs := [.str a, .str b]) (snd_CompareString hP a b) rfl (by simp) rfl (.inl rfl) (by simp [resT]; rfl) (by simp; rfl) ?_
  refine runO_nil rfl (by simp; rfl) ?_
  refine run_ret ⟨.inr rfl, ?_⟩
  simp [rs43]

theorem orI_drop {l : List Int} {i : Nat} (h : ∀ j (hj : j < i) (hl : j < l.length), l[j] = 0) : orI l = orI (l.drop i) := by
  induction i generalizing l with
  | zero => rfl
  | succ i ih =>
    cases l with
    | nil => rfl
    | cons x l =>
      have h0 := h 0 (by omega) (by simp)
      simp only [List.getElem_cons_zero] at h0
      simp only [orI, h0, if_true, List.drop_succ_cons]
      exact ih fun j hj hl => h (j + 1) (by omega) (by simp only [List.length_cons]; omega)

theorem snd_Or (l : List Int) (hl : l.length ≤ 4611686018427387904) :
    SndP Try.prog Fn5 Pr 42 ([.sl 3 (l.map (.int .i64))].map .v) [.v (.int .i64 (orI l))] ([.sl 3 (l.map (.int .i64))].map .v) := by
  refine snd_of rfl chk42 (by simp) ?_ rfl
  rw [enter_plain _ _ (by simp)]
  simp only [pc42, plainL]
  refine run_of ?_
  repeat (first | refine run_seq ?_ | refine run_block ?_ | refine run_b ?_ | refine run_skip ?_ | refine run_ops (by simp; rfl) rfl rfl (by simp; rfl) ?_)
  refine run_loop (α := Nat) (fun i => E [(0, .v (.sl 3 (l.map (.int .i64)))), (3, .v (.int .i64 0)), (6, .v (.sl 3 (l.map (.int .i64)))), (7, .v (.int .i64 l.length)), (8, .v (.int .i64 i))])
    (fun i => i ≤ l.length ∧ ∀ j (hj : j < i) (hl : j < l.length), l[j] = 0) (fun i => l.length - i) 0 (by rfl) ⟨by omega, fun j hj => by omega⟩ ?_
  intro i ⟨hi, hz⟩
  repeat (first | refine run_seq ?_ | refine run_block ?_ | refine run_b ?_ | refine run_skip ?_ | refine run_ops (by simp; rfl) rfl rfl (by simp; rfl) ?_)
  refine run_cond (by simp; rfl) (fun ht => ?_) (fun ht => run_exit rfl ?_)
  · simp at ht
    repeat (first | refine run_seq ?_ | refine run_block ?_ | refine run_b ?_ | refine run_skip ?_ | refine run_ops (by simp[ht]; rfl) rfl rfl (by simp; rfl) ?_)
    refine run_cond (by simp; rfl) (fun hq => ?_) (fun hq => ?_)
    · repeat (first | refine run_seq ?_ | refine run_block ?_ | refine run_b ?_ | refine run_skip ?_ | refine run_ops (by simp; rfl) rfl rfl (by simp; rfl) ?_)
      refine run_ret ⟨.inr rfl, ?_⟩
      have e : orI l = l[i] := by
        rw [orI_drop hz, List.drop_eq_getElem_cons ht]
        simp only [orI]
        rw [if_neg (by simpa using hq)]
      simp [rs42, e]
    · repeat (first | refine run_seq ?_ | refine run_block ?_ | refine run_b ?_ | refine run_skip ?_ | refine run_ops (by simp; rfl) rfl rfl (by simp; rfl) ?_)
      refine run_inv ⟨i + 1, ⟨by omega, fun j hj hl => ?_⟩, by omega, ?_⟩
      · by_cases e : j = i
        · subst e; simpa using hq
        · exact hz j (by omega) hl
      · rw [wrap64 (by omega) (by omega)]; rfl
  · simp at ht
    repeat (first | refine run_seq ?_ | refine run_block ?_ | refine run_b ?_ | refine run_skip ?_ | refine run_ops (by simp; rfl) rfl rfl (by simp; rfl) ?_)
    refine run_ret ⟨.inr rfl, ?_⟩
    have e : orI l = 0 := by
      rw [orI_drop hz, List.drop_of_length_le (by omega)]; rfl
    simp [rs42, e]

set_option maxHeartbeats 4000000 in
theorem snd_tuplCompare (hP : ∀ R f args H v H', cmpPr 70 f args H v H' → Pr R f args H v H') (x y : Row 6) :
    SndP Try.prog Fn5 Pr 35 ([rowV x, rowV y].map .v) [.v (.int .i64 (cr x y))] ([rowV x, rowV y].map .v) := by
  obtain ⟨a1, a2, a3, a4, a5, a6, rfl⟩ := row6 x
  obtain ⟨b1, b2, b3, b4, b5, b6, rfl⟩ := row6 y
  refine snd_of rfl chk35 (by simp) ?_ rfl
  rw [enter_plain _ _ (by simp)]
  simp only [pc35, plainL, rowV]
  refine run_of ?_
  repeat (first | refine run_seq ?_ | refine run_block ?_ | refine run_b ?_ | refine run_skip ?_ | refine run_ops (by simp; rfl) rfl rfl (by simp; rfl) ?_)
  refine run_opsC (by simp; rfl) ?_
  refine runO_call (xs := [.str a1, .str b1]) (snd_Compare hP _ _) rfl (by simp) rfl (.inl rfl) (by simp [resT]; rfl) (by simp; rfl) ?_
  refine runO_call (xs := [.str a2, .str b2]) (snd_Compare hP _ _) rfl (by simp) rfl (.inl rfl) (by simp [resT]; rfl) (by simp; rfl) ?_
  refine runO_call (xs := [.str a3, .str b3]) (snd_Compare hP _ _) rfl (by simp) rfl (.inl rfl) (by simp [resT]; rfl) (by simp; rfl) ?_
  refine runO_call (xs := [.str a4, .str b4]) (snd_Compare hP _ _) rfl (by simp) rfl (.inl rfl) (by simp [resT]; rfl) (by simp; rfl) ?_
  refine runO_call (xs := [.str a5, .str b5]) (snd_Compare hP _ _) rfl (by simp) rfl (.inl rfl) (by simp [resT]; rfl) (by simp; rfl) ?_
  refine runO_call (xs := [.str a6, .str b6]) (snd_Compare hP _ _) rfl (by simp) rfl (.inl rfl) (by simp [resT]; rfl) (by simp; rfl) ?_
  refine runO_call (xs := [.sl 3 ([cb a1 b1, cb a2 b2, cb a3 b3, cb a4 b4, cb a5 b5, cb a6 b6].map (.int .i64))]) (snd_Or _ (by simp)) rfl (by simp) rfl (.inl rfl) (by simp [resT]; rfl) (by simp; rfl) ?_
  refine runO_nil rfl (by simp; rfl) ?_
  refine run_ret ⟨.inr rfl, ?_⟩
  simp [rs35, cr, cl]
end Go.Proofs.Ytllmlcmhmkkgcaa
