/-
  Ytllmlcmhmkkgcaa: what the functions of law 5 do (6): what the document finds.
-/
import Derived.Test.YtllmlcmhmkkgcaaLookE
import Derived.Test.YtllmlcmhmkkgcaaLib5
set_option linter.unusedVariables false
set_option linter.unusedSimpArgs false
set_option linter.unusedSectionVars false
namespace Go.Proofs.Ytllmlcmhmkkgcaa
open Go Go.AH Go.PM
variable {Pr : CallR → CallR}

/-- entail/entailref1.Subs: 47 -/
def pc19 : PC :=
 (.seq
  (.ops [
   ⟨none, (some 4), .box 26 (.t 1), [], []⟩,
   ⟨none, (some 6), .as false (.c (.sl 28 [])), [], []⟩] [] [0, 2, 4] false)
  (.seq
   (.ops [
    ⟨none, (some 7), .as false (.c (.sl 28 [])), [], []⟩] [] [0, 2, 4, 7] false)
   (.seq
    (.seq
     (.ops [
      ⟨none, (some 9), .mv (.t 0), [], []⟩,
      ⟨none, (some 10), .load (some 2) (.t 4), [], []⟩,
      ⟨none, (some 11), .mv (.t 2), [], []⟩,
      ⟨none, (some 12), .build [.str (bs []), .str (bs []), .str (bs []), .str (bs []), .str (bs []), .str (bs [])] [(0, 2, (.t 10)), (2, 1, (.t 11))], [], []⟩,
      ⟨none, (some 13), .call (.c (.fn 31 [] [])) [(false, (.t 9)), (false, (.t 12))], [], []⟩,
      ⟨none, (some 8), .as false (.t 13), [], []⟩] [] [0, 2, 4, 7, 8] false)
     (.block 0
      (.loop
       (.seq
        (.seq
         (.ops [
          ⟨none, (some 14), .mv (.t 8), [], []⟩,
          ⟨none, (some 15), .mv (.t 0), [], []⟩,
          ⟨none, (some 16), .len 1 (.t 15), [], []⟩,
          ⟨none, (some 17), .bin .lss (.t 14) (.t 16), [], []⟩,
          ⟨none, (some 18), .mv (.t 17), [], []⟩,
          ⟨(some (18, true)), (some 19), .mv (.t 0), [], []⟩,
          ⟨(some (18, true)), (some 20), .mv (.t 8), [], []⟩,
          ⟨(some (18, true)), (some 21), .ia 30 6 (.t 19) (.t 20), [], []⟩,
          ⟨(some (18, true)), (some 22), .fa 0 2 (.t 21), [], []⟩,
          ⟨(some (18, true)), (some 23), .load (some 2) (.t 22), [], []⟩,
          ⟨(some (18, true)), (some 24), .load (some 2) (.t 4), [], []⟩,
          ⟨(some (18, true)), (some 25), .eqF false (.s [.s, .s]) (.t 23) (.t 24), [], []⟩,
          ⟨none, (some 26), .pick (.t 18) (.t 25) (.c (.bool false)), [], []⟩,
          ⟨none, (some 27), .mv (.t 26), [], []⟩,
          ⟨(some (27, true)), (some 28), .mv (.t 0), [], []⟩,
          ⟨(some (27, true)), (some 29), .mv (.t 8), [], []⟩,
          ⟨(some (27, true)), (some 30), .ia 30 6 (.t 28) (.t 29), [], []⟩,
          ⟨(some (27, true)), (some 31), .fa 2 1 (.t 30), [], []⟩,
          ⟨(some (27, true)), (some 32), .load none (.t 31), [], []⟩,
          ⟨(some (27, true)), (some 33), .mv (.t 2), [], []⟩,
          ⟨(some (27, true)), (some 34), .bin .eql (.t 32) (.t 33), [], []⟩,
          ⟨none, (some 35), .pick (.t 27) (.t 34) (.c (.bool false)), [], []⟩] [] [0, 2, 4, 7, 8, 35] true)
         (.cond (.t 35)
          .skip
          (.exit 0)))
        (.seq
         (.block 1
          (.ops [
           ⟨none, (some 38), .mv (.t 7), [], []⟩,
           ⟨none, (some 39), .mv (.t 0), [], []⟩,
           ⟨none, (some 40), .mv (.t 8), [], []⟩,
           ⟨none, (some 41), .ia 30 6 (.t 39) (.t 40), [], []⟩,
           ⟨none, (some 42), .fa 3 3 (.t 41), [], []⟩,
           ⟨none, (some 43), .load (some 3) (.t 42), [], []⟩,
           ⟨none, (some 44), .bsl 28 3 true (.agg [.str (bs []), .str (bs []), .str (bs [])]) 1 [(0, (.t 43))], [], []⟩,
           ⟨none, (some 45), .app 28 48 (.t 38) (.t 44), [], []⟩,
           ⟨none, (some 7), .as false (.t 45), [], []⟩] [] [0, 2, 4, 7, 8] false))
         (.ops [
          ⟨none, (some 36), .mv (.t 8), [], []⟩,
          ⟨none, (some 37), .bin .add (.t 36) (.c (.int .i64 1)), [], []⟩,
          ⟨none, (some 8), .as false (.t 37), [], []⟩] [] [0, 2, 4, 7, 8] false))))))
    (.seq
     (.ops [
      ⟨none, (some 46), .mv (.t 7), [], []⟩,
      ⟨none, (some 6), .as true (.t 46), [], []⟩] [] [6] false)
     .ret))))
def rs19 : List PR := [.t 6]
theorem chk19 : chkF Try.prog 19 47 pc19 rs19 = true := by decide +kernel

/-- entail/entailref1.Objs: 35 -/
def pc21 : PC :=
 (.seq
  (.ops [
   ⟨none, (some 3), .box 28 (.t 1), [], []⟩,
   ⟨none, (some 4), .as false (.c (.sl 64 [])), [], []⟩] [] [0, 3] false)
  (.seq
   (.ops [
    ⟨none, (some 5), .as false (.c (.sl 64 [])), [], []⟩] [] [0, 3, 5] false)
   (.seq
    (.seq
     (.ops [
      ⟨none, (some 6), .as false (.c (.int .i64 0)), [], []⟩] [] [0, 3, 5, 6] false)
     (.block 0
      (.loop
       (.seq
        (.seq
         (.ops [
          ⟨none, (some 7), .mv (.t 6), [], []⟩,
          ⟨none, (some 8), .mv (.t 0), [], []⟩,
          ⟨none, (some 9), .len 1 (.t 8), [], []⟩,
          ⟨none, (some 10), .bin .lss (.t 7) (.t 9), [], []⟩] [] [0, 3, 5, 6, 10] false)
         (.cond (.t 10)
          .skip
          (.exit 0)))
        (.seq
         (.block 1
          (.seq
           (.ops [
            ⟨none, (some 13), .mv (.t 0), [], []⟩,
            ⟨none, (some 14), .mv (.t 6), [], []⟩,
            ⟨none, (some 15), .ia 30 6 (.t 13) (.t 14), [], []⟩,
            ⟨none, (some 16), .fa 3 3 (.t 15), [], []⟩,
            ⟨none, (some 17), .load (some 3) (.t 16), [], []⟩,
            ⟨none, (some 18), .load (some 3) (.t 3), [], []⟩,
            ⟨none, (some 19), .eqF false (.s [.s, .s, .s]) (.t 17) (.t 18), [], []⟩] [] [0, 3, 5, 6, 19] true)
           (.cond (.t 19)
            (.ops [
             ⟨none, (some 20), .mv (.t 5), [], []⟩,
             ⟨none, (some 21), .mv (.t 0), [], []⟩,
             ⟨none, (some 22), .mv (.t 6), [], []⟩,
             ⟨none, (some 23), .ia 30 6 (.t 21) (.t 22), [], []⟩,
             ⟨none, (some 24), .fa 0 2 (.t 23), [], []⟩,
             ⟨none, (some 25), .load (some 2) (.t 24), [], []⟩,
             ⟨none, (some 26), .mv (.t 0), [], []⟩,
             ⟨none, (some 27), .mv (.t 6), [], []⟩,
             ⟨none, (some 28), .ia 30 6 (.t 26) (.t 27), [], []⟩,
             ⟨none, (some 29), .fa 2 1 (.t 28), [], []⟩,
             ⟨none, (some 30), .load none (.t 29), [], []⟩,
             ⟨none, (some 31), .build [.str (bs []), .str (bs []), .str (bs [])] [(0, 2, (.t 25)), (2, 1, (.t 30))], [], []⟩,
             ⟨none, (some 32), .bsl 64 3 true (.agg [.str (bs []), .str (bs []), .str (bs [])]) 1 [(0, (.t 31))], [], []⟩,
             ⟨none, (some 33), .app 64 48 (.t 20) (.t 32), [], []⟩,
             ⟨none, (some 5), .as false (.t 33), [], []⟩] [] [0, 3, 5, 6] true)
            .skip)))
         (.ops [
          ⟨none, (some 11), .mv (.t 6), [], []⟩,
          ⟨none, (some 12), .bin .add (.t 11) (.c (.int .i64 1)), [], []⟩,
          ⟨none, (some 6), .as false (.t 12), [], []⟩] [] [0, 3, 5, 6] false))))))
    (.seq
     (.ops [
      ⟨none, (some 34), .mv (.t 5), [], []⟩,
      ⟨none, (some 4), .as true (.t 34), [], []⟩] [] [4] false)
     .ret))))
def rs21 : List PR := [.t 4]
theorem chk21 : chkF Try.prog 21 35 pc21 rs21 = true := by decide +kernel


theorem eq_obj (x o : Row 2) (r s : ByteArray) : (decide (x = o) && decide (r = s)) = decide (x = o ∧ r = s) := by simp
set_option maxHeartbeats 2000000 in
theorem snd_refSubs (l : List (Row 6)) (o : Row 2) (r : ByteArray) (ha : Asc rl l) (hl : l.length ≤ 1000000) :
    SndP Try.prog Fn5 Pr 19 ([.sl 30 (l.map rowV), rowV o, .str r].map .v) [.sl 28 (((l.filter fun x => decide (refR x = mkRef o r)).map subR).map rowV)] ([.sl 30 (l.map rowV), rowV o, .str r].map .v) := by
  refine snd_of rfl chk19 (by simp) ?_ rfl
  rw [enter_plain _ _ (by simp)]
  simp only [pc19, plainL]
  obtain ⟨b1, b2, o_e⟩ := row2 o; have o_1 : o.1 = [b1, b2] := (by rw [o_e]); have o_f : RV.agg [.str b1, .str b2] = rowV o := (by rw [o_e]; rfl); have o_c : (rowV o).cells = [.str b1, .str b2] := (by rw [o_e]; rfl)
  have hlow : RV.agg [.str b1, .str b2, .str r, .str ⟨#[]⟩, .str ⟨#[]⟩, .str ⟨#[]⟩] = rowV (mkLow o r) := by rw [o_e]; rfl
  refine run_of ?_
  repeat (first | refine run_seq ?_ | refine run_block ?_ | refine run_b ?_ | refine run_skip ?_ | refine run_ops (by simp[o_1]; rfl) rfl rfl (by simp; rfl) ?_)
  repeat (first | refine run_seq ?_ | refine run_block ?_ | refine run_b ?_ | refine run_skip ?_)
  refine run_opsC (by simp[bs_nil, hlow]; rfl) ?_
  refine runO_call (xs := [.sl 30 (l.map rowV), rowV (mkLow o r)]) (snd_place l _ ha hl) rfl (by simp) rfl (.inl rfl) (by simp [resT]; rfl) (by simp; rfl) ?_
  refine runO_nil rfl (by simp; rfl) ?_
  repeat (first | refine run_seq ?_ | refine run_block ?_ | refine run_b ?_ | refine run_skip ?_)
  rw [← low_ref ha o r (fun x => rl_low x o r), ← (low_at rl_slo ha).2]
  have hp := low_le (lt := rl) l (mkLow o r)
  generalize low rl l (mkLow o r) = p at hp
  refine run_loop (α := Nat × List (Row 3)) (fun a => E [(0, .v (.sl 30 (l.map rowV))), (2, .v (.str r)), (4, .bx 26 [.v (.str b1), .v (.str b2)]), (7, .sl 28 (a.2.map rowV)), (8, .v (.int .i64 a.1))])
    (fun a => p ≤ a.1 ∧ a.1 ≤ l.length ∧ a.2.length ≤ a.1 ∧ a.2 ++ ((l.drop a.1).takeWhile (fun x => decide (refR x = mkRef o r))).map subR = ((l.drop p).takeWhile (fun x => decide (refR x = mkRef o r))).map subR) (fun a => l.length - a.1) (p, []) (by simp) ⟨by simp, hp, by simp, by simp⟩ ?_
  intro ⟨i, O⟩ ⟨h1, h2, h3, h4⟩
  simp only at h1 h2 h3 h4
  by_cases hi : i < l.length
  · obtain ⟨x, hx⟩ : ∃ x, x = l[i] := ⟨_, rfl⟩
    have g : l[i]? = some x := by rw [hx]; exact List.getElem?_eq_getElem hi
    obtain ⟨a1, a2, a3, a4, a5, a6, x_e⟩ := row6 x; have x_1 : x.1 = [a1, a2, a3, a4, a5, a6] := (by rw [x_e]); have x_f : RV.agg [.str a1, .str a2, .str a3, .str a4, .str a5, .str a6] = rowV x := (by rw [x_e]; rfl); have x_c : (rowV x).cells = [.str a1, .str a2, .str a3, .str a4, .str a5, .str a6] := (by rw [x_e]; rfl)
    have x_o : RV.agg [.str a1, .str a2] = rowV (objR x) := by rw [x_e]; rfl
    have x_r : a3 = relR x := by rw [x_e]; rfl
    have x_s : RV.agg [.str a4, .str a5, .str a6] = rowV (subR x) := by rw [x_e]; rfl
    have hd : l.drop i = x :: l.drop (i + 1) := by rw [List.drop_eq_getElem_cons hi, hx]
    by_cases e1 : objR x = o
    · repeat (first | refine run_seq ?_ | refine run_block ?_ | refine run_b ?_ | refine run_skip ?_)
      refine run_ops (by simp[hi, ← hx, x_c, x_o, o_f, eqF2, e1]; rfl) rfl rfl (by simp; rfl) ?_
      refine run_cond (by simp [-Bool.not_eq_eq_eq_not]; rfl) (fun hq => ?_) (fun hq => run_exit rfl ?_)
      · simp at hq
        have e2 : refR x = mkRef o r := refR_eq.2 ⟨e1, by rw [← x_r]; exact hq⟩
        repeat (first | refine run_seq ?_ | refine run_block ?_ | refine run_b ?_ | refine run_skip ?_ | refine run_ops (by simp[hi, ← hx, x_c, x_s, bs_nil, show (O.length + 1) * 48 ≤ 140737488355328 by omega, show O.length + 1 ≤ 9223372036854775807 by omega]; rfl) rfl rfl (by simp; rfl) ?_)
        refine run_inv ⟨(i + 1, O ++ [subR x]), ⟨by simp; omega, by simp; omega, by simp; omega, ?_⟩, by simp; omega, ?_⟩
        · simp only
          rw [← h4, hd, List.takeWhile_cons, e2]
          simp
        · rw [wrap64 (by omega) (by omega), List.map_append]; rfl
      · simp at hq
        have e2 : ¬ refR x = mkRef o r := fun h => hq (by rw [x_r]; exact (refR_eq.1 h).2)
        rw [hd, List.takeWhile_cons] at h4
        simp only [e2, decide_false] at h4
        repeat (first | refine run_seq ?_ | refine run_block ?_ | refine run_b ?_ | refine run_skip ?_ | refine run_ops (by simp; rfl) rfl rfl (by simp; rfl) ?_)
        refine run_ret ⟨.inr rfl, ?_⟩
        simp [rs19, ← h4]
    · have e2 : ¬ refR x = mkRef o r := fun h => e1 (refR_eq.1 h).1
      rw [hd, List.takeWhile_cons] at h4
      simp only [e2, decide_false] at h4
      repeat (first | refine run_seq ?_ | refine run_block ?_ | refine run_b ?_ | refine run_skip ?_)
      refine run_ops (by simp[hi, ← hx, x_c, x_o, o_f, eqF2, e1]; rfl) rfl rfl (by simp; rfl) ?_
      refine run_cond (t := false) (by simp) (fun hq => by cases hq) (fun hq => run_exit rfl ?_)
      repeat (first | refine run_seq ?_ | refine run_block ?_ | refine run_b ?_ | refine run_skip ?_ | refine run_ops (by simp; rfl) rfl rfl (by simp; rfl) ?_)
      refine run_ret ⟨.inr rfl, ?_⟩
      simp [rs19, ← h4]
  · rw [List.drop_of_length_le (by omega)] at h4
    repeat (first | refine run_seq ?_ | refine run_block ?_ | refine run_b ?_ | refine run_skip ?_)
    refine run_ops (by simp[hi]; rfl) rfl rfl (by simp; rfl) ?_
    refine run_cond (t := false) (by simp) (fun hq => by cases hq) (fun hq => run_exit rfl ?_)
    repeat (first | refine run_seq ?_ | refine run_block ?_ | refine run_b ?_ | refine run_skip ?_ | refine run_ops (by simp; rfl) rfl rfl (by simp; rfl) ?_)
    refine run_ret ⟨.inr rfl, ?_⟩
    simp [rs19, ← h4]

set_option maxHeartbeats 2000000 in
theorem snd_refObjs (l : List (Row 6)) (t : Row 3) (hl : l.length ≤ 1000000) :
    SndP Try.prog Fn5 Pr 21 ([.sl 30 (l.map rowV), rowV t].map .v) [.sl 64 (((l.filter fun x => decide (subR x = t)).map refR).map rowV)] ([.sl 30 (l.map rowV), rowV t].map .v) := by
  refine snd_of rfl chk21 (by simp) ?_ rfl
  rw [enter_plain _ _ (by simp)]
  simp only [pc21, plainL]
  obtain ⟨b1, b2, b3, t_e⟩ := row3 t; have t_1 : t.1 = [b1, b2, b3] := (by rw [t_e]); have t_f : RV.agg [.str b1, .str b2, .str b3] = rowV t := (by rw [t_e]; rfl); have t_c : (rowV t).cells = [.str b1, .str b2, .str b3] := (by rw [t_e]; rfl)
  refine run_of ?_
  repeat (first | refine run_seq ?_ | refine run_block ?_ | refine run_b ?_ | refine run_skip ?_ | refine run_ops (by simp[t_1]; rfl) rfl rfl (by simp; rfl) ?_)
  refine run_loop (α := Nat) (fun i => E [(0, .v (.sl 30 (l.map rowV))), (3, .bx 28 [.v (.str b1), .v (.str b2), .v (.str b3)]), (5, .sl 64 ((((l.take i).filter fun x => decide (subR x = t)).map refR).map rowV)), (6, .v (.int .i64 i))])
    (fun i => i ≤ l.length) (fun i => l.length - i) 0 (by simp) (by simp) ?_
  intro i hi
  repeat (first | refine run_seq ?_ | refine run_block ?_ | refine run_b ?_ | refine run_skip ?_ | refine run_ops (by simp; rfl) rfl rfl (by simp; rfl) ?_)
  refine run_cond (by simp; rfl) (fun hc => ?_) (fun hc => run_exit rfl ?_)
  · simp at hc
    obtain ⟨x, hx⟩ : ∃ x, x = l[i] := ⟨_, rfl⟩
    have g : l[i]? = some x := by rw [hx]; exact List.getElem?_eq_getElem hc
    obtain ⟨a1, a2, a3, a4, a5, a6, x_e⟩ := row6 x; have x_1 : x.1 = [a1, a2, a3, a4, a5, a6] := (by rw [x_e]); have x_f : RV.agg [.str a1, .str a2, .str a3, .str a4, .str a5, .str a6] = rowV x := (by rw [x_e]; rfl); have x_c : (rowV x).cells = [.str a1, .str a2, .str a3, .str a4, .str a5, .str a6] := (by rw [x_e]; rfl)
    have x_r : RV.agg [.str a1, .str a2, .str a3] = rowV (refR x) := by rw [x_e]; rfl
    have x_s : RV.agg [.str a4, .str a5, .str a6] = rowV (subR x) := by rw [x_e]; rfl
    have hO : ((l.take i).filter fun x => decide (subR x = t)).length ≤ i := Nat.le_trans (List.length_filter_le _ _) (by rw [List.length_take]; omega)
    have hn : (l.take (i + 1)).filter (fun x => decide (subR x = t)) = (l.take i).filter (fun x => decide (subR x = t)) ++ (if subR x = t then [x] else []) := by
      rw [List.take_add_one, g, List.filter_append]
      by_cases e : subR x = t <;> simp [e]
    generalize (l.take i).filter (fun x => decide (subR x = t)) = O at hO hn
    repeat (first | refine run_seq ?_ | refine run_block ?_ | refine run_b ?_ | refine run_skip ?_ | refine run_ops (by simp[← hx, hc, x_c, x_s, t_f, eqF3]; rfl) rfl rfl (by simp; rfl) ?_)
    refine run_cond (by simp; rfl) (fun hq => ?_) (fun hq => ?_)
    · simp at hq
      rw [if_pos hq] at hn
      repeat (first | refine run_seq ?_ | refine run_block ?_ | refine run_b ?_ | refine run_skip ?_ | refine run_ops (by simp[← hx, hc, x_c, x_r, bs_nil, show (O.length + 1) * 48 ≤ 140737488355328 by omega, show O.length + 1 ≤ 9223372036854775807 by omega]; rfl) rfl rfl (by simp; rfl) ?_)
      refine run_inv ⟨i + 1, by omega, by omega, ?_⟩
      rw [hn, wrap64 (by omega) (by omega)]; simp
    · simp at hq
      rw [if_neg hq, List.append_nil] at hn
      repeat (first | refine run_seq ?_ | refine run_block ?_ | refine run_b ?_ | refine run_skip ?_ | refine run_ops (by simp; rfl) rfl rfl (by simp; rfl) ?_)
      refine run_inv ⟨i + 1, by omega, by omega, ?_⟩
      rw [hn, wrap64 (by omega) (by omega)]; simp
  · simp at hc
    rw [show i = l.length by omega, List.take_length]
    repeat (first | refine run_seq ?_ | refine run_block ?_ | refine run_b ?_ | refine run_skip ?_ | refine run_ops (by simp; rfl) rfl rfl (by simp; rfl) ?_)
    refine run_ret ⟨.inr rfl, ?_⟩
    simp [rs21]
end Go.Proofs.Ytllmlcmhmkkgcaa
