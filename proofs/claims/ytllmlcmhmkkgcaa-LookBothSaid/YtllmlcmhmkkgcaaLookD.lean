/-
  Ytllmlcmhmkkgcaa: what the functions of law 5 do (4): rows that are the same.
-/
import Derived.Test.YtllmlcmhmkkgcaaLookA
set_option linter.unusedVariables false
set_option linter.unusedSimpArgs false
set_option linter.unusedSectionVars false
namespace Go.Proofs.Ytllmlcmhmkkgcaa
open Go Go.AH Go.PM
variable {Pr : CallR → CallR}

/-- entail/entailref1.SameTexts: 26 -/
def pc14 : PC :=
 (.seq
  (.ops [
   ⟨none, (some 4), .as false (.c (.bool false)), [], []⟩] [] [0, 1] false)
  (.seq
   (.seq
    (.ops [
     ⟨none, (some 6), .mv (.t 0), [], []⟩,
     ⟨none, (some 7), .len 1 (.t 6), [], []⟩,
     ⟨none, (some 8), .mv (.t 1), [], []⟩,
     ⟨none, (some 9), .len 1 (.t 8), [], []⟩,
     ⟨none, (some 10), .bin .neq (.t 7) (.t 9), [], []⟩] [] [0, 1, 10] false)
    (.cond (.t 10)
     (.seq
      (.ops [
       ⟨none, (some 4), .as false (.c (.bool false)), [], []⟩] [] [4] false)
      .ret)
     .skip))
   (.seq
    (.seq
     (.ops [
      ⟨none, (some 5), .as false (.c (.int .i64 0)), [], []⟩] [] [0, 1, 5] false)
     (.block 0
      (.loop
       (.seq
        (.seq
         (.ops [
          ⟨none, (some 11), .mv (.t 5), [], []⟩,
          ⟨none, (some 12), .mv (.t 0), [], []⟩,
          ⟨none, (some 13), .len 1 (.t 12), [], []⟩,
          ⟨none, (some 14), .bin .lss (.t 11) (.t 13), [], []⟩] [] [0, 1, 5, 14] false)
         (.cond (.t 14)
          .skip
          (.exit 0)))
        (.seq
         (.block 1
          (.seq
           (.ops [
            ⟨none, (some 17), .mv (.t 0), [], []⟩,
            ⟨none, (some 18), .mv (.t 5), [], []⟩,
            ⟨none, (some 19), .ia 9 1 (.t 17) (.t 18), [], []⟩,
            ⟨none, (some 20), .load none (.t 19), [], []⟩,
            ⟨none, (some 21), .mv (.t 1), [], []⟩,
            ⟨none, (some 22), .mv (.t 5), [], []⟩,
            ⟨none, (some 23), .ia 9 1 (.t 21) (.t 22), [], []⟩,
            ⟨none, (some 24), .load none (.t 23), [], []⟩,
            ⟨none, (some 25), .bin .neq (.t 20) (.t 24), [], []⟩] [] [0, 1, 5, 25] true)
           (.cond (.t 25)
            (.seq
             (.ops [
              ⟨none, (some 4), .as false (.c (.bool false)), [], []⟩] [] [4] false)
             .ret)
            .skip)))
         (.ops [
          ⟨none, (some 15), .mv (.t 5), [], []⟩,
          ⟨none, (some 16), .bin .add (.t 15) (.c (.int .i64 1)), [], []⟩,
          ⟨none, (some 5), .as false (.t 16), [], []⟩] [] [0, 1, 5] false))))))
    (.seq
     (.ops [
      ⟨none, (some 4), .as false (.c (.bool true)), [], []⟩] [] [4] false)
     .ret))))
def rs14 : List PR := [.t 4]
theorem chk14 : chkF Try.prog 14 26 pc14 rs14 = true := by decide +kernel

/-- entail/entaillaw5.sameSubs: 26 -/
def pc18 : PC :=
 (.seq
  (.ops [
   ⟨none, (some 4), .as false (.c (.bool false)), [], []⟩] [] [0, 1] false)
  (.seq
   (.seq
    (.ops [
     ⟨none, (some 6), .mv (.t 0), [], []⟩,
     ⟨none, (some 7), .len 1 (.t 6), [], []⟩,
     ⟨none, (some 8), .mv (.t 1), [], []⟩,
     ⟨none, (some 9), .len 1 (.t 8), [], []⟩,
     ⟨none, (some 10), .bin .neq (.t 7) (.t 9), [], []⟩] [] [0, 1, 10] false)
    (.cond (.t 10)
     (.seq
      (.ops [
       ⟨none, (some 4), .as false (.c (.bool false)), [], []⟩] [] [4] false)
      .ret)
     .skip))
   (.seq
    (.seq
     (.ops [
      ⟨none, (some 5), .as false (.c (.int .i64 0)), [], []⟩] [] [0, 1, 5] false)
     (.block 0
      (.loop
       (.seq
        (.seq
         (.ops [
          ⟨none, (some 11), .mv (.t 5), [], []⟩,
          ⟨none, (some 12), .mv (.t 0), [], []⟩,
          ⟨none, (some 13), .len 1 (.t 12), [], []⟩,
          ⟨none, (some 14), .bin .lss (.t 11) (.t 13), [], []⟩] [] [0, 1, 5, 14] false)
         (.cond (.t 14)
          .skip
          (.exit 0)))
        (.seq
         (.block 1
          (.seq
           (.ops [
            ⟨none, (some 17), .mv (.t 0), [], []⟩,
            ⟨none, (some 18), .mv (.t 5), [], []⟩,
            ⟨none, (some 19), .ia 28 3 (.t 17) (.t 18), [], []⟩,
            ⟨none, (some 20), .load (some 3) (.t 19), [], []⟩,
            ⟨none, (some 21), .mv (.t 1), [], []⟩,
            ⟨none, (some 22), .mv (.t 5), [], []⟩,
            ⟨none, (some 23), .ia 28 3 (.t 21) (.t 22), [], []⟩,
            ⟨none, (some 24), .load (some 3) (.t 23), [], []⟩,
            ⟨none, (some 25), .eqF true (.s [.s, .s, .s]) (.t 20) (.t 24), [], []⟩] [] [0, 1, 5, 25] true)
           (.cond (.t 25)
            (.seq
             (.ops [
              ⟨none, (some 4), .as false (.c (.bool false)), [], []⟩] [] [4] false)
             .ret)
            .skip)))
         (.ops [
          ⟨none, (some 15), .mv (.t 5), [], []⟩,
          ⟨none, (some 16), .bin .add (.t 15) (.c (.int .i64 1)), [], []⟩,
          ⟨none, (some 5), .as false (.t 16), [], []⟩] [] [0, 1, 5] false))))))
    (.seq
     (.ops [
      ⟨none, (some 4), .as false (.c (.bool true)), [], []⟩] [] [4] false)
     .ret))))
def rs18 : List PR := [.t 4]
theorem chk18 : chkF Try.prog 18 26 pc18 rs18 = true := by decide +kernel

/-- entail/entaillaw5.sameRefs: 26 -/
def pc20 : PC :=
 (.seq
  (.ops [
   ⟨none, (some 4), .as false (.c (.bool false)), [], []⟩] [] [0, 1] false)
  (.seq
   (.seq
    (.ops [
     ⟨none, (some 6), .mv (.t 0), [], []⟩,
     ⟨none, (some 7), .len 1 (.t 6), [], []⟩,
     ⟨none, (some 8), .mv (.t 1), [], []⟩,
     ⟨none, (some 9), .len 1 (.t 8), [], []⟩,
     ⟨none, (some 10), .bin .neq (.t 7) (.t 9), [], []⟩] [] [0, 1, 10] false)
    (.cond (.t 10)
     (.seq
      (.ops [
       ⟨none, (some 4), .as false (.c (.bool false)), [], []⟩] [] [4] false)
      .ret)
     .skip))
   (.seq
    (.seq
     (.ops [
      ⟨none, (some 5), .as false (.c (.int .i64 0)), [], []⟩] [] [0, 1, 5] false)
     (.block 0
      (.loop
       (.seq
        (.seq
         (.ops [
          ⟨none, (some 11), .mv (.t 5), [], []⟩,
          ⟨none, (some 12), .mv (.t 0), [], []⟩,
          ⟨none, (some 13), .len 1 (.t 12), [], []⟩,
          ⟨none, (some 14), .bin .lss (.t 11) (.t 13), [], []⟩] [] [0, 1, 5, 14] false)
         (.cond (.t 14)
          .skip
          (.exit 0)))
        (.seq
         (.block 1
          (.seq
           (.ops [
            ⟨none, (some 17), .mv (.t 0), [], []⟩,
            ⟨none, (some 18), .mv (.t 5), [], []⟩,
            ⟨none, (some 19), .ia 64 3 (.t 17) (.t 18), [], []⟩,
            ⟨none, (some 20), .load (some 3) (.t 19), [], []⟩,
            ⟨none, (some 21), .mv (.t 1), [], []⟩,
            ⟨none, (some 22), .mv (.t 5), [], []⟩,
            ⟨none, (some 23), .ia 64 3 (.t 21) (.t 22), [], []⟩,
            ⟨none, (some 24), .load (some 3) (.t 23), [], []⟩,
            ⟨none, (some 25), .eqF true (.s [.s, .s, .s]) (.t 20) (.t 24), [], []⟩] [] [0, 1, 5, 25] true)
           (.cond (.t 25)
            (.seq
             (.ops [
              ⟨none, (some 4), .as false (.c (.bool false)), [], []⟩] [] [4] false)
             .ret)
            .skip)))
         (.ops [
          ⟨none, (some 15), .mv (.t 5), [], []⟩,
          ⟨none, (some 16), .bin .add (.t 15) (.c (.int .i64 1)), [], []⟩,
          ⟨none, (some 5), .as false (.t 16), [], []⟩] [] [0, 1, 5] false))))))
    (.seq
     (.ops [
      ⟨none, (some 4), .as false (.c (.bool true)), [], []⟩] [] [4] false)
     .ret))))
def rs20 : List PR := [.t 4]
theorem chk20 : chkF Try.prog 20 26 pc20 rs20 = true := by decide +kernel


theorem eq_of_all {α : Type} {a b : List α} (hl : a.length = b.length) (h : ∀ j (h1 : j < a.length) (h2 : j < b.length), a[j] = b[j]) : a = b := List.ext_getElem hl fun i h1 h2 => h i h1 h2

theorem snd_SameTexts (a b : List ByteArray) (hl : a.length ≤ 4611686018427387904) :
    SndP Try.prog Fn5 Pr 14 ([.sl 9 (a.map .str), .sl 9 (b.map .str)].map .v) [.v (.bool (decide (a = b)))] ([.sl 9 (a.map .str), .sl 9 (b.map .str)].map .v) := by
  refine snd_of rfl chk14 (by simp) ?_ rfl
  rw [enter_plain _ _ (by simp)]
  simp only [pc14, plainL]
  refine run_of ?_
  repeat (first | refine run_seq ?_ | refine run_block ?_ | refine run_b ?_ | refine run_skip ?_ | refine run_ops (by simp; rfl) rfl rfl (by simp; rfl) ?_)
  refine run_cond (by simp [-Bool.not_eq_eq_eq_not]; rfl) (fun ht => ?_) (fun ht => ?_)
  · simp at ht
    repeat (first | refine run_seq ?_ | refine run_block ?_ | refine run_b ?_ | refine run_skip ?_ | refine run_ops (by simp; rfl) rfl rfl (by simp; rfl) ?_)
    refine run_ret ⟨.inr rfl, ?_⟩
    have e : ¬ a = b := fun e => ht (by rw [e])
    simp [rs14, e]
  · simp at ht
    repeat (first | refine run_seq ?_ | refine run_block ?_ | refine run_b ?_ | refine run_skip ?_ | refine run_ops (by simp; rfl) rfl rfl (by simp; rfl) ?_)
    refine run_loop (α := Nat) (fun i => E [(0, .v (.sl 9 (a.map .str))), (1, .v (.sl 9 (b.map .str))), (5, .v (.int .i64 i))])
      (fun i => i ≤ a.length ∧ ∀ j (h1 : j < a.length) (h2 : j < b.length), j < i → a[j] = b[j]) (fun i => a.length - i) 0 (by rfl) ⟨by omega, fun j _ _ h => by omega⟩ ?_
    intro i ⟨hi, hz⟩
    repeat (first | refine run_seq ?_ | refine run_block ?_ | refine run_b ?_ | refine run_skip ?_ | refine run_ops (by simp; rfl) rfl rfl (by simp; rfl) ?_)
    refine run_cond (by simp; rfl) (fun hc => ?_) (fun hc => run_exit rfl ?_)
    · simp at hc
      have hc2 : i < b.length := by omega
      have ga : a[i]? = some a[i] := List.getElem?_eq_getElem hc
      have gb : b[i]? = some b[i] := List.getElem?_eq_getElem hc2
      repeat (first | refine run_seq ?_ | refine run_block ?_ | refine run_b ?_ | refine run_skip ?_ | refine run_ops (by simp[ga, gb]; rfl) rfl rfl (by simp; rfl) ?_)
      refine run_cond (by simp [-Bool.not_eq_eq_eq_not]; rfl) (fun hq => ?_) (fun hq => ?_)
      · repeat (first | refine run_seq ?_ | refine run_block ?_ | refine run_b ?_ | refine run_skip ?_ | refine run_ops (by simp; rfl) rfl rfl (by simp; rfl) ?_)
        refine run_ret ⟨.inr rfl, ?_⟩
        have e : ¬ a = b := fun e => by subst e; simp at hq
        simp [rs14, e]
      · repeat (first | refine run_seq ?_ | refine run_block ?_ | refine run_b ?_ | refine run_skip ?_ | refine run_ops (by simp; rfl) rfl rfl (by simp; rfl) ?_)
        refine run_inv ⟨i + 1, ⟨by omega, fun j h1 h2 h3 => ?_⟩, by omega, ?_⟩
        · by_cases e : j = i
          · subst e; simpa using hq
          · exact hz j h1 h2 (by omega)
        · rw [wrap64 (by omega) (by omega)]; rfl
    · simp at hc
      repeat (first | refine run_seq ?_ | refine run_block ?_ | refine run_b ?_ | refine run_skip ?_ | refine run_ops (by simp; rfl) rfl rfl (by simp; rfl) ?_)
      refine run_ret ⟨.inr rfl, ?_⟩
      have e : a = b := eq_of_all (by omega) fun j h1 h2 => hz j h1 h2 (by omega)
      simp [rs14, e]

theorem snd_sameSubs (a b : List (Row 3)) (hl : a.length ≤ 4611686018427387904) :
    SndP Try.prog Fn5 Pr 18 ([.sl 28 (a.map rowV), .sl 28 (b.map rowV)].map .v) [.v (.bool (decide (a = b)))] ([.sl 28 (a.map rowV), .sl 28 (b.map rowV)].map .v) := by
  refine snd_of rfl chk18 (by simp) ?_ rfl
  rw [enter_plain _ _ (by simp)]
  simp only [pc18, plainL]
  refine run_of ?_
  repeat (first | refine run_seq ?_ | refine run_block ?_ | refine run_b ?_ | refine run_skip ?_ | refine run_ops (by simp; rfl) rfl rfl (by simp; rfl) ?_)
  refine run_cond (by simp [-Bool.not_eq_eq_eq_not]; rfl) (fun ht => ?_) (fun ht => ?_)
  · simp at ht
    repeat (first | refine run_seq ?_ | refine run_block ?_ | refine run_b ?_ | refine run_skip ?_ | refine run_ops (by simp; rfl) rfl rfl (by simp; rfl) ?_)
    refine run_ret ⟨.inr rfl, ?_⟩
    have e : ¬ a = b := fun e => ht (by rw [e])
    simp [rs18, e]
  · simp at ht
    repeat (first | refine run_seq ?_ | refine run_block ?_ | refine run_b ?_ | refine run_skip ?_ | refine run_ops (by simp; rfl) rfl rfl (by simp; rfl) ?_)
    refine run_loop (α := Nat) (fun i => E [(0, .v (.sl 28 (a.map rowV))), (1, .v (.sl 28 (b.map rowV))), (5, .v (.int .i64 i))])
      (fun i => i ≤ a.length ∧ ∀ j (h1 : j < a.length) (h2 : j < b.length), j < i → a[j] = b[j]) (fun i => a.length - i) 0 (by rfl) ⟨by omega, fun j _ _ h => by omega⟩ ?_
    intro i ⟨hi, hz⟩
    repeat (first | refine run_seq ?_ | refine run_block ?_ | refine run_b ?_ | refine run_skip ?_ | refine run_ops (by simp; rfl) rfl rfl (by simp; rfl) ?_)
    refine run_cond (by simp; rfl) (fun hc => ?_) (fun hc => run_exit rfl ?_)
    · simp at hc
      have hc2 : i < b.length := by omega
      have ga : a[i]? = some a[i] := List.getElem?_eq_getElem hc
      have gb : b[i]? = some b[i] := List.getElem?_eq_getElem hc2
      repeat (first | refine run_seq ?_ | refine run_block ?_ | refine run_b ?_ | refine run_skip ?_ | refine run_ops (by simp[ga, gb, eqF3]; rfl) rfl rfl (by simp; rfl) ?_)
      refine run_cond (by simp [-Bool.not_eq_eq_eq_not]; rfl) (fun hq => ?_) (fun hq => ?_)
      · repeat (first | refine run_seq ?_ | refine run_block ?_ | refine run_b ?_ | refine run_skip ?_ | refine run_ops (by simp; rfl) rfl rfl (by simp; rfl) ?_)
        refine run_ret ⟨.inr rfl, ?_⟩
        have e : ¬ a = b := fun e => by subst e; simp at hq
        simp [rs18, e]
      · repeat (first | refine run_seq ?_ | refine run_block ?_ | refine run_b ?_ | refine run_skip ?_ | refine run_ops (by simp; rfl) rfl rfl (by simp; rfl) ?_)
        refine run_inv ⟨i + 1, ⟨by omega, fun j h1 h2 h3 => ?_⟩, by omega, ?_⟩
        · by_cases e : j = i
          · subst e; simpa using hq
          · exact hz j h1 h2 (by omega)
        · rw [wrap64 (by omega) (by omega)]; rfl
    · simp at hc
      repeat (first | refine run_seq ?_ | refine run_block ?_ | refine run_b ?_ | refine run_skip ?_ | refine run_ops (by simp; rfl) rfl rfl (by simp; rfl) ?_)
      refine run_ret ⟨.inr rfl, ?_⟩
      have e : a = b := eq_of_all (by omega) fun j h1 h2 => hz j h1 h2 (by omega)
      simp [rs18, e]
theorem snd_sameRefs (a b : List (Row 3)) (hl : a.length ≤ 4611686018427387904) :
    SndP Try.prog Fn5 Pr 20 ([.sl 64 (a.map rowV), .sl 64 (b.map rowV)].map .v) [.v (.bool (decide (a = b)))] ([.sl 64 (a.map rowV), .sl 64 (b.map rowV)].map .v) := by
  refine snd_of rfl chk20 (by simp) ?_ rfl
  rw [enter_plain _ _ (by simp)]
  simp only [pc20, plainL]
  refine run_of ?_
  repeat (first | refine run_seq ?_ | refine run_block ?_ | refine run_b ?_ | refine run_skip ?_ | refine run_ops (by simp; rfl) rfl rfl (by simp; rfl) ?_)
  refine run_cond (by simp [-Bool.not_eq_eq_eq_not]; rfl) (fun ht => ?_) (fun ht => ?_)
  · simp at ht
    repeat (first | refine run_seq ?_ | refine run_block ?_ | refine run_b ?_ | refine run_skip ?_ | refine run_ops (by simp; rfl) rfl rfl (by simp; rfl) ?_)
    refine run_ret ⟨.inr rfl, ?_⟩
    have e : ¬ a = b := fun e => ht (by rw [e])
    simp [rs20, e]
  · simp at ht
    repeat (first | refine run_seq ?_ | refine run_block ?_ | refine run_b ?_ | refine run_skip ?_ | refine run_ops (by simp; rfl) rfl rfl (by simp; rfl) ?_)
    refine run_loop (α := Nat) (fun i => E [(0, .v (.sl 64 (a.map rowV))), (1, .v (.sl 64 (b.map rowV))), (5, .v (.int .i64 i))])
      (fun i => i ≤ a.length ∧ ∀ j (h1 : j < a.length) (h2 : j < b.length), j < i → a[j] = b[j]) (fun i => a.length - i) 0 (by rfl) ⟨by omega, fun j _ _ h => by omega⟩ ?_
    intro i ⟨hi, hz⟩
    repeat (first | refine run_seq ?_ | refine run_block ?_ | refine run_b ?_ | refine run_skip ?_ | refine run_ops (by simp; rfl) rfl rfl (by simp; rfl) ?_)
    refine run_cond (by simp; rfl) (fun hc => ?_) (fun hc => run_exit rfl ?_)
    · simp at hc
      have hc2 : i < b.length := by omega
      have ga : a[i]? = some a[i] := List.getElem?_eq_getElem hc
      have gb : b[i]? = some b[i] := List.getElem?_eq_getElem hc2
      repeat (first | refine run_seq ?_ | refine run_block ?_ | refine run_b ?_ | refine run_skip ?_ | refine run_ops (by simp[ga, gb, eqF3]; rfl) rfl rfl (by simp; rfl) ?_)
      refine run_cond (by simp [-Bool.not_eq_eq_eq_not]; rfl) (fun hq => ?_) (fun hq => ?_)
      · repeat (first | refine run_seq ?_ | refine run_block ?_ | refine run_b ?_ | refine run_skip ?_ | refine run_ops (by simp; rfl) rfl rfl (by simp; rfl) ?_)
        refine run_ret ⟨.inr rfl, ?_⟩
        have e : ¬ a = b := fun e => by subst e; simp at hq
        simp [rs20, e]
      · repeat (first | refine run_seq ?_ | refine run_block ?_ | refine run_b ?_ | refine run_skip ?_ | refine run_ops (by simp; rfl) rfl rfl (by simp; rfl) ?_)
        refine run_inv ⟨i + 1, ⟨by omega, fun j h1 h2 h3 => ?_⟩, by omega, ?_⟩
        · by_cases e : j = i
          · subst e; simpa using hq
          · exact hz j h1 h2 (by omega)
        · rw [wrap64 (by omega) (by omega)]; rfl
    · simp at hc
      repeat (first | refine run_seq ?_ | refine run_block ?_ | refine run_b ?_ | refine run_skip ?_ | refine run_ops (by simp; rfl) rfl rfl (by simp; rfl) ?_)
      refine run_ret ⟨.inr rfl, ?_⟩
      have e : a = b := eq_of_all (by omega) fun j h1 h2 => hz j h1 h2 (by omega)
      simp [rs20, e]
end Go.Proofs.Ytllmlcmhmkkgcaa
