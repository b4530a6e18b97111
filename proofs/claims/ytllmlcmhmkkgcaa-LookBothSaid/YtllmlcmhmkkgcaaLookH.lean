/-
  Ytllmlcmhmkkgcaa: what the functions of law 5 do (8): what the document finds, by types; sets less others.
-/
import Derived.Test.YtllmlcmhmkkgcaaLookC
import Derived.Test.YtllmlcmhmkkgcaaLookE
import Derived.Test.YtllmlcmhmkkgcaaLookG
set_option linter.unusedVariables false
set_option linter.unusedSimpArgs false
set_option linter.unusedSectionVars false
namespace Go.Proofs.Ytllmlcmhmkkgcaa
open Go Go.AH Go.PM
variable {Pr : CallR → CallR}

/-- entail/entailref1.Types: 32 -/
def pc22 : PC :=
 (.seq
  (.ops [
   ⟨none, (some 4), .as false (.c (.sl 9 [])), [], []⟩] [] [0, 1] false)
  (.seq
   (.ops [
    ⟨none, (some 5), .as false (.c (.sl 9 [])), [], []⟩] [] [0, 1, 5] false)
   (.seq
    (.seq
     (.ops [
      ⟨none, (some 6), .as false (.c (.int .i64 0)), [], []⟩] [] [0, 1, 5, 6] false)
     (.block 0
      (.loop
       (.seq
        (.seq
         (.ops [
          ⟨none, (some 7), .mv (.t 6), [], []⟩,
          ⟨none, (some 8), .mv (.t 0), [], []⟩,
          ⟨none, (some 9), .len 1 (.t 8), [], []⟩,
          ⟨none, (some 10), .bin .lss (.t 7) (.t 9), [], []⟩] [] [0, 1, 5, 6, 10] false)
         (.cond (.t 10)
          .skip
          (.exit 0)))
        (.seq
         (.block 1
          (.seq
           (.ops [
            ⟨none, (some 13), .mv (.t 0), [], []⟩,
            ⟨none, (some 14), .mv (.t 6), [], []⟩,
            ⟨none, (some 15), .ia 30 6 (.t 13) (.t 14), [], []⟩,
            ⟨none, (some 16), .fa 0 2 (.t 15), [], []⟩,
            ⟨none, (some 17), .fa 0 1 (.t 16), [], []⟩,
            ⟨none, (some 18), .load none (.t 17), [], []⟩,
            ⟨none, (some 19), .mv (.t 1), [], []⟩,
            ⟨none, (some 20), .bin .eql (.t 18) (.t 19), [], []⟩] [] [0, 1, 5, 6, 20] false)
           (.cond (.t 20)
            (.ops [
             ⟨none, (some 21), .mv (.t 5), [], []⟩,
             ⟨none, (some 22), .mv (.t 0), [], []⟩,
             ⟨none, (some 23), .mv (.t 6), [], []⟩,
             ⟨none, (some 24), .ia 30 6 (.t 22) (.t 23), [], []⟩,
             ⟨none, (some 25), .fa 0 2 (.t 24), [], []⟩,
             ⟨none, (some 26), .fa 1 1 (.t 25), [], []⟩,
             ⟨none, (some 27), .load none (.t 26), [], []⟩,
             ⟨none, (some 28), .bsl 9 1 false (.str (bs [])) 1 [(0, (.t 27))], [], []⟩,
             ⟨none, (some 29), .app 9 16 (.t 21) (.t 28), [], []⟩,
             ⟨none, (some 5), .as false (.t 29), [], []⟩] [] [0, 1, 5, 6] false)
            .skip)))
         (.ops [
          ⟨none, (some 11), .mv (.t 6), [], []⟩,
          ⟨none, (some 12), .bin .add (.t 11) (.c (.int .i64 1)), [], []⟩,
          ⟨none, (some 6), .as false (.t 12), [], []⟩] [] [0, 1, 5, 6] false))))))
    (.seq
     (.ops [
      ⟨none, (some 30), .mv (.t 5), [], []⟩,
      ⟨none, (some 31), .call (.c (.fn 10 [] [])) [(false, (.t 30))], [], []⟩,
      ⟨none, (some 4), .as false (.t 31), [], []⟩] [] [4] false)
     .ret))))
def rs22 : List PR := [.t 4]
theorem chk22 : chkF Try.prog 22 32 pc22 rs22 = true := by decide +kernel

/-- entail/entailref1.Users: 41 -/
def pc23 : PC :=
 (.seq
  (.ops [
   ⟨none, (some 4), .as false (.c (.sl 9 [])), [], []⟩] [] [0, 1] false)
  (.seq
   (.ops [
    ⟨none, (some 5), .as false (.c (.sl 9 [])), [], []⟩] [] [0, 1, 5] false)
   (.seq
    (.seq
     (.ops [
      ⟨none, (some 6), .as false (.c (.int .i64 0)), [], []⟩] [] [0, 1, 5, 6] false)
     (.block 0
      (.loop
       (.seq
        (.seq
         (.ops [
          ⟨none, (some 7), .mv (.t 6), [], []⟩,
          ⟨none, (some 8), .mv (.t 0), [], []⟩,
          ⟨none, (some 9), .len 1 (.t 8), [], []⟩,
          ⟨none, (some 10), .bin .lss (.t 7) (.t 9), [], []⟩] [] [0, 1, 5, 6, 10] false)
         (.cond (.t 10)
          .skip
          (.exit 0)))
        (.seq
         (.block 1
          (.seq
           (.ops [
            ⟨none, (some 13), .mv (.t 0), [], []⟩,
            ⟨none, (some 14), .mv (.t 6), [], []⟩,
            ⟨none, (some 15), .ia 30 6 (.t 13) (.t 14), [], []⟩,
            ⟨none, (some 16), .fa 3 3 (.t 15), [], []⟩,
            ⟨none, (some 17), .fa 0 1 (.t 16), [], []⟩,
            ⟨none, (some 18), .load none (.t 17), [], []⟩,
            ⟨none, (some 19), .mv (.t 1), [], []⟩,
            ⟨none, (some 20), .bin .eql (.t 18) (.t 19), [], []⟩,
            ⟨none, (some 21), .mv (.t 20), [], []⟩,
            ⟨(some (21, true)), (some 22), .mv (.t 0), [], []⟩,
            ⟨(some (21, true)), (some 23), .mv (.t 6), [], []⟩,
            ⟨(some (21, true)), (some 24), .ia 30 6 (.t 22) (.t 23), [], []⟩,
            ⟨(some (21, true)), (some 25), .fa 3 3 (.t 24), [], []⟩,
            ⟨(some (21, true)), (some 26), .fa 2 1 (.t 25), [], []⟩,
            ⟨(some (21, true)), (some 27), .load none (.t 26), [], []⟩,
            ⟨(some (21, true)), (some 28), .bin .eql (.t 27) (.c (.str (bs []))), [], []⟩,
            ⟨none, (some 29), .pick (.t 21) (.t 28) (.c (.bool false)), [], []⟩] [] [0, 1, 5, 6, 29] false)
           (.cond (.t 29)
            (.ops [
             ⟨none, (some 30), .mv (.t 5), [], []⟩,
             ⟨none, (some 31), .mv (.t 0), [], []⟩,
             ⟨none, (some 32), .mv (.t 6), [], []⟩,
             ⟨none, (some 33), .ia 30 6 (.t 31) (.t 32), [], []⟩,
             ⟨none, (some 34), .fa 3 3 (.t 33), [], []⟩,
             ⟨none, (some 35), .fa 1 1 (.t 34), [], []⟩,
             ⟨none, (some 36), .load none (.t 35), [], []⟩,
             ⟨none, (some 37), .bsl 9 1 false (.str (bs [])) 1 [(0, (.t 36))], [], []⟩,
             ⟨none, (some 38), .app 9 16 (.t 30) (.t 37), [], []⟩,
             ⟨none, (some 5), .as false (.t 38), [], []⟩] [] [0, 1, 5, 6] false)
            .skip)))
         (.ops [
          ⟨none, (some 11), .mv (.t 6), [], []⟩,
          ⟨none, (some 12), .bin .add (.t 11) (.c (.int .i64 1)), [], []⟩,
          ⟨none, (some 6), .as false (.t 12), [], []⟩] [] [0, 1, 5, 6] false))))))
    (.seq
     (.ops [
      ⟨none, (some 39), .mv (.t 5), [], []⟩,
      ⟨none, (some 40), .call (.c (.fn 10 [] [])) [(false, (.t 39))], [], []⟩,
      ⟨none, (some 4), .as false (.t 40), [], []⟩] [] [4] false)
     .ret))))
def rs23 : List PR := [.t 4]
theorem chk23 : chkF Try.prog 23 41 pc23 rs23 = true := by decide +kernel

/-- entail/entailref1.Minus: 34 -/
def pc9 : PC :=
 (.seq
  (.ops [
   ⟨none, (some 4), .as false (.c (.sl 30 [])), [], []⟩] [] [0, 1] false)
  (.seq
   (.ops [
    ⟨none, (some 9), .mv (.t 0), [], []⟩,
    ⟨none, (some 10), .call (.c (.fn 17 [] [])) [(false, (.t 9))], [], []⟩,
    ⟨none, (some 11), .mv (.t 1), [], []⟩,
    ⟨none, (some 12), .call (.c (.fn 17 [] [])) [(false, (.t 11))], [], []⟩,
    ⟨none, (some 5), .as false (.t 10), [], []⟩,
    ⟨none, (some 6), .as false (.t 12), [], []⟩] [] [5, 6] false)
   (.seq
    (.ops [
     ⟨none, (some 7), .as false (.c (.sl 30 [])), [], []⟩] [] [5, 6, 7] false)
    (.seq
     (.seq
      (.ops [
       ⟨none, (some 8), .as false (.c (.int .i64 0)), [], []⟩] [] [5, 6, 7, 8] false)
      (.block 0
       (.loop
        (.seq
         (.seq
          (.ops [
           ⟨none, (some 13), .mv (.t 8), [], []⟩,
           ⟨none, (some 14), .mv (.t 5), [], []⟩,
           ⟨none, (some 15), .len 1 (.t 14), [], []⟩,
           ⟨none, (some 16), .bin .lss (.t 13) (.t 15), [], []⟩] [] [5, 6, 7, 8, 16] false)
          (.cond (.t 16)
           .skip
           (.exit 0)))
         (.seq
          (.block 1
           (.seq
            (.ops [
             ⟨none, (some 19), .mv (.t 6), [], []⟩,
             ⟨none, (some 20), .mv (.t 5), [], []⟩,
             ⟨none, (some 21), .mv (.t 8), [], []⟩,
             ⟨none, (some 22), .ia 30 6 (.t 20) (.t 21), [], []⟩,
             ⟨none, (some 23), .load (some 6) (.t 22), [], []⟩,
             ⟨none, (some 24), .call (.c (.fn 24 [] [])) [(false, (.t 19)), (false, (.t 23))], [], []⟩,
             ⟨none, (some 25), .un .not (.t 24), [], []⟩] [] [5, 6, 7, 8, 25] false)
            (.cond (.t 25)
             (.ops [
              ⟨none, (some 26), .mv (.t 7), [], []⟩,
              ⟨none, (some 27), .mv (.t 5), [], []⟩,
              ⟨none, (some 28), .mv (.t 8), [], []⟩,
              ⟨none, (some 29), .ia 30 6 (.t 27) (.t 28), [], []⟩,
              ⟨none, (some 30), .load (some 6) (.t 29), [], []⟩,
              ⟨none, (some 31), .bsl 30 6 true (.agg [.str (bs []), .str (bs []), .str (bs []), .str (bs []), .str (bs []), .str (bs [])]) 1 [(0, (.t 30))], [], []⟩,
              ⟨none, (some 32), .app 30 96 (.t 26) (.t 31), [], []⟩,
              ⟨none, (some 7), .as false (.t 32), [], []⟩] [] [5, 6, 7, 8] false)
             .skip)))
          (.ops [
           ⟨none, (some 17), .mv (.t 8), [], []⟩,
           ⟨none, (some 18), .bin .add (.t 17) (.c (.int .i64 1)), [], []⟩,
           ⟨none, (some 8), .as false (.t 18), [], []⟩] [] [5, 6, 7, 8] false))))))
     (.seq
      (.ops [
       ⟨none, (some 33), .mv (.t 7), [], []⟩,
       ⟨none, (some 4), .as true (.t 33), [], []⟩] [] [4] false)
      .ret)))))
def rs9 : List PR := [.t 4]
theorem chk9 : chkF Try.prog 9 34 pc9 rs9 = true := by decide +kernel


theorem take_filter {α : Type} {l : List α} {i : Nat} {x : α} (g : l[i]? = some x) (p : α → Bool) : (l.take (i + 1)).filter p = (l.take i).filter p ++ (if p x then [x] else []) := by
  rw [List.take_add_one, g, List.filter_append]
  cases e : p x <;> simp [e]
theorem len_filter {α : Type} (l : List α) (i : Nat) (p : α → Bool) : ((l.take i).filter p).length ≤ i := Nat.le_trans (List.length_filter_le _ _) (by rw [List.length_take]; omega)

set_option maxHeartbeats 2000000 in
theorem snd_refTypes (l : List (Row 6)) (t : ByteArray) (hl : l.length ≤ 1000000) :
    SndP Try.prog Fn5 Pr 22 ([.sl 30 (l.map rowV), .str t].map .v) [.sl 9 ((setS bl ((l.filter fun x => decide (otyR x = t)).map oidR)).map .str)] ([.sl 30 (l.map rowV), .str t].map .v) := by
  refine snd_of rfl chk22 (by simp) ?_ rfl
  rw [enter_plain _ _ (by simp)]
  simp only [pc22, plainL]
  refine run_of ?_
  repeat (first | refine run_seq ?_ | refine run_block ?_ | refine run_b ?_ | refine run_skip ?_ | refine run_ops (by simp; rfl) rfl rfl (by simp; rfl) ?_)
  refine run_loop (α := Nat) (fun i => E [(0, .v (.sl 30 (l.map rowV))), (1, .v (.str t)), (5, .sl 9 ((((l.take i).filter fun x => decide (otyR x = t)).map oidR).map .str)), (6, .v (.int .i64 i))])
    (fun i => i ≤ l.length) (fun i => l.length - i) 0 (by simp) (by simp) ?_
  intro i hi
  repeat (first | refine run_seq ?_ | refine run_block ?_ | refine run_b ?_ | refine run_skip ?_ | refine run_ops (by simp; rfl) rfl rfl (by simp; rfl) ?_)
  refine run_cond (by simp; rfl) (fun hc => ?_) (fun hc => run_exit rfl ?_)
  · simp at hc
    obtain ⟨x, hx⟩ : ∃ x, x = l[i] := ⟨_, rfl⟩
    have g : l[i]? = some x := by rw [hx]; exact List.getElem?_eq_getElem hc
    obtain ⟨a1, a2, a3, a4, a5, a6, x_e⟩ := row6 x; have x_1 : x.1 = [a1, a2, a3, a4, a5, a6] := (by rw [x_e]); have x_f : RV.agg [.str a1, .str a2, .str a3, .str a4, .str a5, .str a6] = rowV x := (by rw [x_e]; rfl); have x_c : (rowV x).cells = [.str a1, .str a2, .str a3, .str a4, .str a5, .str a6] := (by rw [x_e]; rfl)
    have x_t : a1 = otyR x := by rw [x_e]; rfl
    have x_i : a2 = oidR x := by rw [x_e]; rfl
    have hO := len_filter l i fun x => decide (otyR x = t)
    have hn := take_filter g fun x => decide (otyR x = t)
    generalize (l.take i).filter (fun x => decide (otyR x = t)) = O at hO hn
    repeat (first | refine run_seq ?_ | refine run_block ?_ | refine run_b ?_ | refine run_skip ?_ | refine run_ops (by simp[← hx, hc, x_c]; rfl) rfl rfl (by simp; rfl) ?_)
    refine run_cond (by simp; rfl) (fun hq => ?_) (fun hq => ?_)
    · rw [x_t] at hq
      rw [if_pos hq] at hn
      repeat (first | refine run_seq ?_ | refine run_block ?_ | refine run_b ?_ | refine run_skip ?_ | refine run_ops (by simp[← hx, hc, x_c, bs_nil, show (O.length + 1) * 16 ≤ 140737488355328 by omega, show O.length + 1 ≤ 9223372036854775807 by omega]; rfl) rfl rfl (by simp; rfl) ?_)
      refine run_inv ⟨i + 1, by omega, by omega, ?_⟩
      rw [hn, wrap64 (by omega) (by omega)]; simp [x_i]
    · rw [x_t] at hq
      rw [if_neg (by rw [hq]; simp), List.append_nil] at hn
      repeat (first | refine run_seq ?_ | refine run_block ?_ | refine run_b ?_ | refine run_skip ?_ | refine run_ops (by simp; rfl) rfl rfl (by simp; rfl) ?_)
      refine run_inv ⟨i + 1, by omega, by omega, ?_⟩
      rw [hn, wrap64 (by omega) (by omega)]; simp
  · simp at hc
    rw [show i = l.length by omega, List.take_length]
    have hO : (l.filter fun x => decide (otyR x = t)).length ≤ l.length := List.length_filter_le _ _
    repeat (first | refine run_seq ?_ | refine run_block ?_ | refine run_b ?_ | refine run_skip ?_)
    refine run_opsC (by simp; rfl) ?_
    refine runO_call (xs := [.sl 9 (((l.filter fun x => decide (otyR x = t)).map oidR).map .str)]) (snd_Texts _ _ rfl (by rw [List.length_map]; omega)) rfl (by simp) rfl (.inl (by simp)) (by simp [resT]; rfl) (by simp; rfl) ?_
    refine runO_nil rfl (by simp; rfl) ?_
    refine run_ret ⟨.inr rfl, ?_⟩
    simp [rs22]

set_option maxHeartbeats 2000000 in
theorem snd_refUsers (l : List (Row 6)) (t : ByteArray) (hl : l.length ≤ 1000000) :
    SndP Try.prog Fn5 Pr 23 ([.sl 30 (l.map rowV), .str t].map .v) [.sl 9 ((setS bl ((l.filter fun x => decide (styR x = t) && decide (srlR x = e0)).map sidR)).map .str)] ([.sl 30 (l.map rowV), .str t].map .v) := by
  refine snd_of rfl chk23 (by simp) ?_ rfl
  rw [enter_plain _ _ (by simp)]
  simp only [pc23, plainL]
  refine run_of ?_
  repeat (first | refine run_seq ?_ | refine run_block ?_ | refine run_b ?_ | refine run_skip ?_ | refine run_ops (by simp; rfl) rfl rfl (by simp; rfl) ?_)
  refine run_loop (α := Nat) (fun i => E [(0, .v (.sl 30 (l.map rowV))), (1, .v (.str t)), (5, .sl 9 ((((l.take i).filter fun x => decide (styR x = t) && decide (srlR x = e0)).map sidR).map .str)), (6, .v (.int .i64 i))])
    (fun i => i ≤ l.length) (fun i => l.length - i) 0 (by simp) (by simp) ?_
  intro i hi
  repeat (first | refine run_seq ?_ | refine run_block ?_ | refine run_b ?_ | refine run_skip ?_ | refine run_ops (by simp; rfl) rfl rfl (by simp; rfl) ?_)
  refine run_cond (by simp; rfl) (fun hc => ?_) (fun hc => run_exit rfl ?_)
  · simp at hc
    obtain ⟨x, hx⟩ : ∃ x, x = l[i] := ⟨_, rfl⟩
    have g : l[i]? = some x := by rw [hx]; exact List.getElem?_eq_getElem hc
    obtain ⟨a1, a2, a3, a4, a5, a6, x_e⟩ := row6 x; have x_1 : x.1 = [a1, a2, a3, a4, a5, a6] := (by rw [x_e]); have x_f : RV.agg [.str a1, .str a2, .str a3, .str a4, .str a5, .str a6] = rowV x := (by rw [x_e]; rfl); have x_c : (rowV x).cells = [.str a1, .str a2, .str a3, .str a4, .str a5, .str a6] := (by rw [x_e]; rfl)
    have x_t : a4 = styR x := by rw [x_e]; rfl
    have x_i : a5 = sidR x := by rw [x_e]; rfl
    have x_r : a6 = srlR x := by rw [x_e]; rfl
    have hO := len_filter l i fun x => decide (styR x = t) && decide (srlR x = e0)
    have hn := take_filter g fun x => decide (styR x = t) && decide (srlR x = e0)
    generalize (l.take i).filter (fun x => decide (styR x = t) && decide (srlR x = e0)) = O at hO hn
    by_cases h1 : styR x = t
    · repeat (first | refine run_seq ?_ | refine run_block ?_ | refine run_b ?_ | refine run_skip ?_ | refine run_ops (by simp[← hx, hc, x_c, x_t, h1, bs_nil]; rfl) rfl rfl (by simp; rfl) ?_)
      refine run_cond (by simp; rfl) (fun hq => ?_) (fun hq => ?_)
      · rw [x_r] at hq
        rw [if_pos (by simp only [h1, e0, decide_true, Bool.true_and]; exact hq)] at hn
        repeat (first | refine run_seq ?_ | refine run_block ?_ | refine run_b ?_ | refine run_skip ?_ | refine run_ops (by simp[← hx, hc, x_c, bs_nil, show (O.length + 1) * 16 ≤ 140737488355328 by omega, show O.length + 1 ≤ 9223372036854775807 by omega]; rfl) rfl rfl (by simp; rfl) ?_)
        refine run_inv ⟨i + 1, by omega, by omega, ?_⟩
        rw [hn, wrap64 (by omega) (by omega)]; simp [x_i]
      · rw [x_r] at hq
        rw [if_neg (by simp only [h1, decide_true, Bool.true_and]; rw [show e0 = ⟨#[]⟩ from rfl, hq]; simp), List.append_nil] at hn
        repeat (first | refine run_seq ?_ | refine run_block ?_ | refine run_b ?_ | refine run_skip ?_ | refine run_ops (by simp; rfl) rfl rfl (by simp; rfl) ?_)
        refine run_inv ⟨i + 1, by omega, by omega, ?_⟩
        rw [hn, wrap64 (by omega) (by omega)]; simp
    · rw [if_neg (by simp [h1]), List.append_nil] at hn
      repeat (first | refine run_seq ?_ | refine run_block ?_ | refine run_b ?_ | refine run_skip ?_ | refine run_ops (by simp[← hx, hc, x_c, x_t, h1, bs_nil]; rfl) rfl rfl (by simp; rfl) ?_)
      refine run_cond (t := false) (by simp) (fun hq => by cases hq) (fun hq => ?_)
      repeat (first | refine run_seq ?_ | refine run_block ?_ | refine run_b ?_ | refine run_skip ?_ | refine run_ops (by simp; rfl) rfl rfl (by simp; rfl) ?_)
      refine run_inv ⟨i + 1, by omega, by omega, ?_⟩
      rw [hn, wrap64 (by omega) (by omega)]; simp
  · simp at hc
    rw [show i = l.length by omega, List.take_length]
    have hO : (l.filter fun x => decide (styR x = t) && decide (srlR x = e0)).length ≤ l.length := List.length_filter_le _ _
    repeat (first | refine run_seq ?_ | refine run_block ?_ | refine run_b ?_ | refine run_skip ?_)
    refine run_opsC (by simp; rfl) ?_
    refine runO_call (xs := [.sl 9 (((l.filter fun x => decide (styR x = t) && decide (srlR x = e0)).map sidR).map .str)]) (snd_Texts _ _ rfl (by rw [List.length_map]; omega)) rfl (by simp) rfl (.inl (by simp)) (by simp [resT]; rfl) (by simp; rfl) ?_
    refine runO_nil rfl (by simp; rfl) ?_
    refine run_ret ⟨.inr rfl, ?_⟩
    simp [rs23]

set_option maxHeartbeats 2000000 in
theorem snd_refMinus (a l : List (Row 6)) (hl : a.length ≤ 1000000) (hl2 : l.length ≤ 1000000) :
    SndP Try.prog Fn5 Pr 9 ([.sl 30 (a.map rowV), .sl 30 (l.map rowV)].map .v) [.sl 30 (((setS rl a).filter fun x => !hasB (setS rl l) x).map rowV)] ([.sl 30 (a.map rowV), .sl 30 (l.map rowV)].map .v) := by
  refine snd_of rfl chk9 (by simp) ?_ rfl
  rw [enter_plain _ _ (by simp)]
  simp only [pc9, plainL]
  refine run_of ?_
  repeat (first | refine run_seq ?_ | refine run_block ?_ | refine run_b ?_ | refine run_skip ?_ | refine run_ops (by simp; rfl) rfl rfl (by simp; rfl) ?_)
  repeat (first | refine run_seq ?_ | refine run_block ?_ | refine run_b ?_ | refine run_skip ?_)
  refine run_opsC (by simp; rfl) ?_
  refine runO_call (xs := [.sl 30 (a.map rowV)]) (snd_refOf _ _ rfl hl) rfl (by simp) rfl (.inl (by simp)) (by simp [resT]; rfl) (by simp; rfl) ?_
  refine runO_call (xs := [.sl 30 (l.map rowV)]) (snd_refOf _ _ rfl hl2) rfl (by simp) rfl (.inl (by simp)) (by simp [resT]; rfl) (by simp; rfl) ?_
  refine runO_nil rfl (by simp; rfl) ?_
  have hA : (setS rl a).length ≤ 1000000 := Nat.le_trans length_setS hl
  have hB : (setS rl l).length ≤ 1000000 := Nat.le_trans length_setS hl2
  have hBa := asc_setS rl_slo (l := l)
  generalize setS rl a = A at hA
  generalize setS rl l = B at hB hBa
  repeat (first | refine run_seq ?_ | refine run_block ?_ | refine run_b ?_ | refine run_skip ?_ | refine run_ops (by simp; rfl) rfl rfl (by simp; rfl) ?_)
  refine run_loop (α := Nat) (fun i => E [(5, .sl 30 (A.map rowV)), (6, .sl 30 (B.map rowV)), (7, .sl 30 (((A.take i).filter fun x => !hasB B x).map rowV)), (8, .v (.int .i64 i))])
    (fun i => i ≤ A.length) (fun i => A.length - i) 0 (by simp) (by simp) ?_
  intro i hi
  repeat (first | refine run_seq ?_ | refine run_block ?_ | refine run_b ?_ | refine run_skip ?_ | refine run_ops (by simp; rfl) rfl rfl (by simp; rfl) ?_)
  refine run_cond (by simp; rfl) (fun hc => ?_) (fun hc => run_exit rfl ?_)
  · simp at hc
    obtain ⟨x, hx⟩ : ∃ x, x = A[i] := ⟨_, rfl⟩
    have g : A[i]? = some x := by rw [hx]; exact List.getElem?_eq_getElem hc
    have hO := len_filter A i fun x => !hasB B x
    have hn := take_filter g fun x => !hasB B x
    generalize (A.take i).filter (fun x => !hasB B x) = O at hO hn
    repeat (first | refine run_seq ?_ | refine run_block ?_ | refine run_b ?_ | refine run_skip ?_)
    refine run_opsC (by simp[← hx, hc]; rfl) ?_
    refine runO_call (xs := [.sl 30 (B.map rowV), rowV x]) (snd_Has B x hBa hB) rfl (by simp) rfl (.inl rfl) (by simp [resT]; rfl) (by simp; rfl) ?_
    refine runO_nil rfl (by simp; rfl) ?_
    refine run_cond (by simp [-Bool.not_eq_eq_eq_not]; rfl) (fun hq => ?_) (fun hq => ?_)
    · rw [if_pos hq] at hn
      repeat (first | refine run_seq ?_ | refine run_block ?_ | refine run_b ?_ | refine run_skip ?_ | refine run_ops (by simp[← hx, hc, show (O.length + 1) * 96 ≤ 140737488355328 by omega, show O.length + 1 ≤ 9223372036854775807 by omega]; rfl) rfl rfl (by simp; rfl) ?_)
      refine run_inv ⟨i + 1, by omega, by omega, ?_⟩
      rw [hn, wrap64 (by omega) (by omega)]; simp
    · rw [if_neg (by rw [hq]; simp), List.append_nil] at hn
      repeat (first | refine run_seq ?_ | refine run_block ?_ | refine run_b ?_ | refine run_skip ?_ | refine run_ops (by simp; rfl) rfl rfl (by simp; rfl) ?_)
      refine run_inv ⟨i + 1, by omega, by omega, ?_⟩
      rw [hn, wrap64 (by omega) (by omega)]; simp
  · simp at hc
    rw [show i = A.length by omega, List.take_length]
    repeat (first | refine run_seq ?_ | refine run_block ?_ | refine run_b ?_ | refine run_skip ?_ | refine run_ops (by simp; rfl) rfl rfl (by simp; rfl) ?_)
    refine run_ret ⟨.inr rfl, ?_⟩
    simp [rs9]
end Go.Proofs.Ytllmlcmhmkkgcaa
