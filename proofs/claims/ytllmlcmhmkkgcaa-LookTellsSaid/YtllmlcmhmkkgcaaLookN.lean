/-
  Ytllmlcmhmkkgcaa: LookTells: what the law computes.
-/
import Derived.Test.YtllmlcmhmkkgcaaLookM
import Derived.Test.YtllmlcmhmkkgcaaLib5
set_option linter.unusedVariables false
set_option linter.unusedSimpArgs false
set_option linter.unusedSectionVars false
namespace Go.Proofs.Ytllmlcmhmkkgcaa
open Go Go.AH Go.PM
variable {Pr : CallR → CallR}

/-- entail/entaillaw5.LookTells: 95 -/
def pc4 : PC :=
 (.seq
  (.ops [
   ⟨none, (some 6), .box 30 (.t 2), [], []⟩,
   ⟨none, (some 8), .as false (.c (.bool false)), [], []⟩] [] [0, 1, 3, 6] false)
  (.seq
   (.seq
    (.ops [
     ⟨none, (some 12), .mv (.t 0), [], []⟩,
     ⟨none, (some 13), .len 1 (.t 12), [], []⟩,
     ⟨none, (some 14), .bin .gtr (.t 13) (.c (.int .i64 60)), [], []⟩] [] [0, 1, 3, 6, 14] false)
    (.cond (.t 14)
     (.seq
      (.ops [
       ⟨none, (some 15), .call (.c (.fn 16 [] [])) [], [], []⟩,
       ⟨none, (some 8), .as false (.t 15), [], []⟩] [] [8] false)
      .ret)
     .skip))
   (.seq
    (.seq
     (.ops [
      ⟨none, (some 9), .as false (.c (.int .i64 0)), [], []⟩] [] [0, 1, 3, 6, 9] false)
     (.block 0
      (.loop
       (.seq
        (.seq
         (.ops [
          ⟨none, (some 16), .mv (.t 9), [], []⟩,
          ⟨none, (some 17), .bin .lss (.t 16) (.c (.int .i64 2)), [], []⟩] [] [0, 1, 3, 6, 9, 17] false)
         (.cond (.t 17)
          .skip
          (.exit 0)))
        (.seq
         (.block 1
          (.seq
           (.ops [
            ⟨none, (some 20), .mv (.t 0), [], []⟩,
            ⟨none, (some 21), .call (.c (.fn 8 [] [])) [(false, (.t 20))], [], []⟩,
            ⟨none, (some 22), .mv (.t 0), [], []⟩,
            ⟨none, (some 23), .call (.c (.fn 17 [] [])) [(false, (.t 22))], [], []⟩,
            ⟨none, (some 10), .as false (.t 21), [], []⟩,
            ⟨none, (some 11), .as false (.t 23), [], []⟩] [] [1, 3, 6, 9, 10, 11] false)
           (.seq
            (.seq
             (.ops [
              ⟨none, (some 24), .mv (.t 10), [], []⟩,
              ⟨none, (some 25), .eqF false .p (.t 24) (.c (.nilp)), [], []⟩,
              ⟨none, (some 26), .mv (.t 25), [], []⟩,
              ⟨(some (26, false)), (some 27), .mv (.t 10), [], []⟩,
              ⟨(some (26, false)), (some 28), .nilck (.t 27), [], []⟩,
              ⟨(some (26, false)), (some 29), .fa 0 2 (.t 28), [], []⟩,
              ⟨(some (26, false)), (some 30), .fa 0 2 (.t 6), [], []⟩,
              ⟨(some (26, false)), (some 31), .load (some 2) (.t 30), [], []⟩,
              ⟨(some (26, false)), (some 32), .fa 2 1 (.t 6), [], []⟩,
              ⟨(some (26, false)), (some 33), .load none (.t 32), [], []⟩,
              ⟨(some (26, false)), (some 34), .call (.c (.fn 13 [] [])) [(false, (.t 29)), (false, (.t 31)), (false, (.t 33))], [6], []⟩,
              ⟨(some (26, false)), (some 35), .mv (.t 11), [6], []⟩,
              ⟨(some (26, false)), (some 36), .fa 0 2 (.t 6), [6], []⟩,
              ⟨(some (26, false)), (some 37), .load (some 2) (.t 36), [6, 36], []⟩,
              ⟨(some (26, false)), (some 38), .fa 2 1 (.t 6), [6, 37], []⟩,
              ⟨(some (26, false)), (some 39), .load none (.t 38), [38], []⟩,
              ⟨(some (26, false)), (some 40), .call (.c (.fn 19 [] [])) [(false, (.t 35)), (false, (.t 37)), (false, (.t 39))], [39], []⟩,
              ⟨(some (26, false)), (some 41), .call (.c (.fn 18 [] [])) [(false, (.t 34)), (false, (.t 40))], [], []⟩,
              ⟨(some (26, false)), (some 42), .un .not (.t 41), [], []⟩,
              ⟨none, (some 43), .pick (.t 26) (.c (.bool true)) (.t 42), [], []⟩,
              ⟨none, (some 44), .mv (.t 43), [], []⟩,
              ⟨(some (44, false)), (some 45), .mv (.t 10), [], []⟩,
              ⟨(some (44, false)), (some 46), .nilck (.t 45), [], []⟩,
              ⟨(some (44, false)), (some 47), .fa 2 2 (.t 46), [], []⟩,
              ⟨(some (44, false)), (some 48), .fa 3 3 (.t 6), [], []⟩,
              ⟨(some (44, false)), (some 49), .load (some 3) (.t 48), [], []⟩,
              ⟨(some (44, false)), (some 50), .call (.c (.fn 15 [] [])) [(false, (.t 47)), (false, (.t 49))], [6], []⟩,
              ⟨(some (44, false)), (some 51), .mv (.t 11), [6], []⟩,
              ⟨(some (44, false)), (some 52), .fa 3 3 (.t 6), [6], []⟩,
              ⟨(some (44, false)), (some 53), .load (some 3) (.t 52), [52], []⟩,
              ⟨(some (44, false)), (some 54), .call (.c (.fn 21 [] [])) [(false, (.t 51)), (false, (.t 53))], [53], []⟩,
              ⟨(some (44, false)), (some 55), .call (.c (.fn 20 [] [])) [(false, (.t 50)), (false, (.t 54))], [], []⟩,
              ⟨(some (44, false)), (some 56), .un .not (.t 55), [], []⟩,
              ⟨none, (some 57), .pick (.t 44) (.c (.bool true)) (.t 56), [], []⟩,
              ⟨none, (some 58), .mv (.t 57), [], []⟩,
              ⟨(some (58, false)), (some 59), .mv (.t 10), [], []⟩,
              ⟨(some (58, false)), (some 60), .nilck (.t 59), [], []⟩,
              ⟨(some (58, false)), (some 61), .fa 0 2 (.t 60), [], []⟩,
              ⟨(some (58, false)), (some 62), .fa 0 2 (.t 6), [], []⟩,
              ⟨(some (58, false)), (some 63), .fa 0 1 (.t 62), [], []⟩,
              ⟨(some (58, false)), (some 64), .load none (.t 63), [], []⟩,
              ⟨(some (58, false)), (some 65), .call (.c (.fn 11 [] [])) [(false, (.t 61)), (false, (.t 64))], [6], []⟩,
              ⟨(some (58, false)), (some 66), .mv (.t 11), [6], []⟩,
              ⟨(some (58, false)), (some 67), .fa 0 2 (.t 6), [6], []⟩,
              ⟨(some (58, false)), (some 68), .fa 0 1 (.t 67), [67], []⟩,
              ⟨(some (58, false)), (some 69), .load none (.t 68), [68], []⟩,
              ⟨(some (58, false)), (some 70), .call (.c (.fn 22 [] [])) [(false, (.t 66)), (false, (.t 69))], [69], []⟩,
              ⟨(some (58, false)), (some 71), .call (.c (.fn 14 [] [])) [(false, (.t 65)), (false, (.t 70))], [], []⟩,
              ⟨(some (58, false)), (some 72), .un .not (.t 71), [], []⟩,
              ⟨none, (some 73), .pick (.t 58) (.c (.bool true)) (.t 72), [], []⟩,
              ⟨none, (some 74), .mv (.t 73), [], []⟩,
              ⟨(some (74, false)), (some 75), .mv (.t 10), [], []⟩,
              ⟨(some (74, false)), (some 76), .nilck (.t 75), [], []⟩,
              ⟨(some (74, false)), (some 77), .fa 2 2 (.t 76), [], []⟩,
              ⟨(some (74, false)), (some 78), .fa 3 3 (.t 6), [], []⟩,
              ⟨(some (74, false)), (some 79), .fa 0 1 (.t 78), [], []⟩,
              ⟨(some (74, false)), (some 80), .load none (.t 79), [], []⟩,
              ⟨(some (74, false)), (some 81), .call (.c (.fn 12 [] [])) [(false, (.t 77)), (false, (.t 80))], [6], []⟩,
              ⟨(some (74, false)), (some 82), .mv (.t 11), [6], []⟩,
              ⟨(some (74, false)), (some 83), .fa 3 3 (.t 6), [6], []⟩,
              ⟨(some (74, false)), (some 84), .fa 0 1 (.t 83), [83], []⟩,
              ⟨(some (74, false)), (some 85), .load none (.t 84), [84], []⟩,
              ⟨(some (74, false)), (some 86), .call (.c (.fn 23 [] [])) [(false, (.t 82)), (false, (.t 85))], [85], []⟩,
              ⟨(some (74, false)), (some 87), .call (.c (.fn 14 [] [])) [(false, (.t 81)), (false, (.t 86))], [], []⟩,
              ⟨(some (74, false)), (some 88), .un .not (.t 87), [], []⟩,
              ⟨none, (some 89), .pick (.t 74) (.c (.bool true)) (.t 88), [], []⟩] [] [1, 3, 6, 9, 89] true)
             (.cond (.t 89)
              (.seq
               (.ops [
                ⟨none, (some 8), .as false (.c (.bool false)), [], []⟩] [] [8] false)
               .ret)
              .skip))
            (.ops [
             ⟨none, (some 90), .mv (.t 1), [], []⟩,
             ⟨none, (some 91), .call (.c (.fn 6 [] [])) [(false, (.t 90))], [], []⟩,
             ⟨none, (some 92), .mv (.t 3), [], []⟩,
             ⟨none, (some 93), .call (.c (.fn 7 [] [])) [(false, (.t 92))], [], []⟩,
             ⟨none, (some 0), .as false (.t 91), [], []⟩,
             ⟨none, none, .store 6 (.t 6) (.t 93), [], []⟩] [] [0, 1, 3, 6, 9] false))))
         (.ops [
          ⟨none, (some 18), .mv (.t 9), [], []⟩,
          ⟨none, (some 19), .bin .add (.t 18) (.c (.int .i64 1)), [], []⟩,
          ⟨none, (some 9), .as false (.t 19), [], []⟩] [] [0, 1, 3, 6, 9] false))))))
    (.seq
     (.ops [
      ⟨none, (some 94), .call (.c (.fn 16 [] [])) [], [], []⟩,
      ⟨none, (some 8), .as false (.t 94), [], []⟩] [] [8] false)
     .ret))))
def rs4 : List PR := [.t 8]
theorem chk4 : chkF Try.prog 4 95 pc4 rs4 = true := by decide +kernel


set_option maxHeartbeats 16000000 in
theorem snd_LookTells (hP : PrOk Pr) (l : List (Row 6)) (ns : List Int) (t : Row 6) (k : Int) :
    SndP Try.prog Fn5 Pr 4 ([.sl 30 (l.map rowV), .sl 2 (ns.map (.int .i64)), rowV t, .int .i64 k].map .v) [.v (.bool true)] ([.sl 30 (l.map rowV), .sl 2 (ns.map (.int .i64)), rowV t, .int .i64 k].map .v) := by
  obtain ⟨m, hm1, hm2, hm3⟩ := snd_Tames (Pr := Pr) ns
  obtain ⟨tk, hk1, hk2⟩ := snd_Tame (Pr := Pr) k
  refine snd_of rfl chk4 (by simp) ?_ rfl
  rw [enter_plain _ _ (by simp)]
  simp only [pc4, plainL]
  refine run_of ?_
  repeat (first | refine run_seq ?_ | refine run_block ?_ | refine run_b ?_ | refine run_skip ?_)
  refine run_opsX (E [(0, .v (.sl 30 (l.map rowV))), (1, .v (.sl 2 (ns.map (.int .i64)))), (3, .v (.int .i64 k)), (6, .bx 30 (t.1.map fun s => .v (.str s)))]) rfl ⟨_, by simp; rfl, rfl, by simp⟩ ?_
  repeat (first | refine run_seq ?_ | refine run_block ?_ | refine run_b ?_ | refine run_skip ?_ | refine run_ops (by simp; rfl) rfl rfl (by simp; rfl) ?_)
  refine run_cond (by simp; rfl) (fun ht => ?_) (fun ht => ?_)
  · repeat (first | refine run_seq ?_ | refine run_block ?_ | refine run_b ?_ | refine run_skip ?_)
    refine run_opsC (by simp; rfl) ?_
    refine runO_call (xs := []) (snd_clos hP.aw) rfl (by simp) rfl (.inl rfl) (by simp [resT]; rfl) (by simp; rfl) ?_
    refine runO_nil rfl (by simp; rfl) ?_
    refine run_ret ⟨.inr rfl, ?_⟩
    simp [rs4]
  · simp at ht
    repeat (first | refine run_seq ?_ | refine run_block ?_ | refine run_b ?_ | refine run_skip ?_ | refine run_ops (by simp; rfl) rfl rfl (by simp; rfl) ?_)
    refine run_loop (α := Nat × List (Row 6) × Row 6) (fun a => E [(0, .v (.sl 30 (a.2.1.map rowV))), (1, .v (.sl 2 (ns.map (.int .i64)))), (3, .v (.int .i64 k)), (6, .bx 30 (a.2.2.1.map fun s => .v (.str s))), (9, .v (.int .i64 a.1))])
      (fun a => a.1 ≤ 2 ∧ a.2.1.length ≤ 1000000) (fun a => 2 - a.1) (0, l, t) (by simp) ⟨by simp, by simp; omega⟩ ?_
    intro ⟨i, l, t⟩ ⟨hi, hl⟩
    simp only at hi hl
    have hS : (setS rl l).length ≤ 1000000 := Nat.le_trans length_setS hl
    have hSa := asc_setS rl_slo (l := l)
    repeat (first | refine run_seq ?_ | refine run_block ?_ | refine run_b ?_ | refine run_skip ?_ | refine run_ops (by simp; rfl) rfl rfl (by simp; rfl) ?_)
    refine run_cond (by simp; rfl) (fun hc => ?_) (fun hc => run_exit rfl ?_)
    · have hOf := snd_lookOf hP l hl
      unfold ixT at hOf
      repeat (first | refine run_seq ?_ | refine run_block ?_ | refine run_b ?_ | refine run_skip ?_)
      refine run_opsC (by simp; rfl) ?_
      refine runO_call (xs := [.sl 30 (l.map rowV)]) hOf rfl (by simp) rfl (.inr (by simp)) (by simp [resT]; rfl) (by simp; rfl) ?_
      refine runO_call (xs := [.sl 30 (l.map rowV)]) (snd_refOf _ l rfl hl) rfl (by simp) rfl (.inl (by simp)) (by simp [resT]; rfl) (by simp; rfl) ?_
      refine runO_nil rfl (by simp; rfl) ?_
      generalize setS rl l = S at hS hSa
      obtain ⟨a1, a2, a3, a4, a5, a6, t_e⟩ := row6 t; have t_1 : t.1 = [a1, a2, a3, a4, a5, a6] := (by rw [t_e]); have t_f : RV.agg [.str a1, .str a2, .str a3, .str a4, .str a5, .str a6] = rowV t := (by rw [t_e]; rfl); have t_c : (rowV t).cells = [.str a1, .str a2, .str a3, .str a4, .str a5, .str a6] := (by rw [t_e]; rfl)
      have t_o : RV.agg [.str a1, .str a2] = rowV (objR t) := by rw [t_e]; rfl
      have t_s : RV.agg [.str a4, .str a5, .str a6] = rowV (subR t) := by rw [t_e]; rfl
      have x_t : otyR t = a1 := by rw [t_e]; rfl
      have x_r : relR t = a3 := by rw [t_e]; rfl
      have x_u : styR t = a4 := by rw [t_e]; rfl
      repeat (first | refine run_seq ?_ | refine run_block ?_ | refine run_b ?_ | refine run_skip ?_)
      refine run_opsC (by simp[t_1, t_o, t_s]; rfl) ?_
      refine runO_callG (by simp [wantP]) (xs := [leftV S, rowV (objR t), .str (relR t)]) (iSubs hS (objR t) (relR t)) (by simp) (by simp [t_f, t_o, t_s, ← x_t, ← x_r, ← x_u, dem_mpRT, dem_mpST, left_f, right_f]) rfl (.inl (by simp)) (by simp [resT]; rfl) (by simp [t_o, t_s]; rfl) ?_
      refine runO_callG (by simp [wantP]) (xs := [.sl 30 (S.map rowV), rowV (objR t), .str (relR t)]) (dSubs hSa hS (objR t) (relR t)) (by simp) (by simp [t_f, t_o, t_s, ← x_t, ← x_r, ← x_u, dem_mpRT, dem_mpST, left_f, right_f]) rfl (.inl (by simp)) (by simp [resT]; rfl) (by simp [t_o, t_s]; rfl) ?_
      refine runO_callG (by simp [wantP]) (xs := [.sl 28 ((fSubs S (objR t) (relR t)).map rowV), .sl 28 ((fSubs S (objR t) (relR t)).map rowV)]) (selfS (fSubs S (objR t) (relR t)) (Nat.le_trans fSubs_len hS)) (by simp) (by simp [t_f, t_o, t_s, ← x_t, ← x_r, ← x_u, dem_mpRT, dem_mpST, left_f, right_f]) rfl (.inl rfl) (by simp [resT]; rfl) (by simp [t_o, t_s]; rfl) ?_
      refine runO_callG (by simp [wantP]) (xs := [rightV S, rowV (subR t)]) (iObjs hS (subR t)) (by simp) (by simp [t_f, t_o, t_s, ← x_t, ← x_r, ← x_u, dem_mpRT, dem_mpST, left_f, right_f]) rfl (.inl (by simp)) (by simp [resT]; rfl) (by simp [t_o, t_s]; rfl) ?_
      refine runO_callG (by simp [wantP]) (xs := [.sl 30 (S.map rowV), rowV (subR t)]) (dObjs hS (subR t)) (by simp) (by simp [t_f, t_o, t_s, ← x_t, ← x_r, ← x_u, dem_mpRT, dem_mpST, left_f, right_f]) rfl (.inl (by simp)) (by simp [resT]; rfl) (by simp [t_o, t_s]; rfl) ?_
      refine runO_callG (by simp [wantP]) (xs := [.sl 64 ((fObjs S (subR t)).map rowV), .sl 64 ((fObjs S (subR t)).map rowV)]) (selfR (fObjs S (subR t)) (Nat.le_trans fObjs_len hS)) (by simp) (by simp [t_f, t_o, t_s, ← x_t, ← x_r, ← x_u, dem_mpRT, dem_mpST, left_f, right_f]) rfl (.inl rfl) (by simp [resT]; rfl) (by simp [t_o, t_s]; rfl) ?_
      refine runO_callG (by simp [wantP]) (xs := [leftV S, .str (otyR t)]) (iTypes hP hS (otyR t)) (by simp) (by simp [t_f, t_o, t_s, ← x_t, ← x_r, ← x_u, dem_mpRT, dem_mpST, left_f, right_f]) rfl (.inl (by simp)) (by simp [resT]; rfl) (by simp [t_o, t_s]; rfl) ?_
      refine runO_callG (by simp [wantP]) (xs := [.sl 30 (S.map rowV), .str (otyR t)]) (dTypes hS (otyR t)) (by simp) (by simp [t_f, t_o, t_s, ← x_t, ← x_r, ← x_u, dem_mpRT, dem_mpST, left_f, right_f]) rfl (.inl (by simp)) (by simp [resT]; rfl) (by simp [t_o, t_s]; rfl) ?_
      refine runO_callG (by simp [wantP]) (xs := [.sl 9 ((fTypes S (otyR t)).map .str), .sl 9 ((fTypes S (otyR t)).map .str)]) (selfT (fTypes S (otyR t)) (Nat.le_trans fTypes_len hS)) (by simp) (by simp [t_f, t_o, t_s, ← x_t, ← x_r, ← x_u, dem_mpRT, dem_mpST, left_f, right_f]) rfl (.inl rfl) (by simp [resT]; rfl) (by simp [t_o, t_s]; rfl) ?_
      refine runO_callG (by simp [wantP]) (xs := [rightV S, .str (styR t)]) (iUsers hP hS (styR t)) (by simp) (by simp [t_f, t_o, t_s, ← x_t, ← x_r, ← x_u, dem_mpRT, dem_mpST, left_f, right_f]) rfl (.inl (by simp)) (by simp [resT]; rfl) (by simp [t_o, t_s]; rfl) ?_
      refine runO_callG (by simp [wantP]) (xs := [.sl 30 (S.map rowV), .str (styR t)]) (dUsers hS (styR t)) (by simp) (by simp [t_f, t_o, t_s, ← x_t, ← x_r, ← x_u, dem_mpRT, dem_mpST, left_f, right_f]) rfl (.inl (by simp)) (by simp [resT]; rfl) (by simp [t_o, t_s]; rfl) ?_
      refine runO_callG (by simp [wantP]) (xs := [.sl 9 ((fUsers S (styR t)).map .str), .sl 9 ((fUsers S (styR t)).map .str)]) (selfT (fUsers S (styR t)) (Nat.le_trans fUsers_len hS)) (by simp) (by simp [t_f, t_o, t_s, ← x_t, ← x_r, ← x_u, dem_mpRT, dem_mpST, left_f, right_f]) rfl (.inl rfl) (by simp [resT]; rfl) (by simp [t_o, t_s]; rfl) ?_
      refine runO_nil rfl (by simp; rfl) ?_
      refine run_cond (t := false) (by simp) (fun h => by cases h) (fun _ => ?_)
      repeat (first | refine run_seq ?_ | refine run_block ?_ | refine run_b ?_ | refine run_skip ?_)
      refine run_opsC (by simp; rfl) ?_
      refine runO_call (xs := [.sl 2 (ns.map (.int .i64))]) hm3 rfl (by simp) rfl (.inl (by simp)) (by simp [resT]; rfl) (by simp; rfl) ?_
      refine runO_callZ [(91, [])] rfl rfl (by simp; rfl) (xs := [.int .i64 k]) hk2 (by simp) rfl (.inl (by simp)) (by simp [resT]; rfl) (by simp [tk.2]; rfl) ?_
      refine runO_nil rfl (by simp; rfl) ?_
      repeat (first | refine run_seq ?_ | refine run_block ?_ | refine run_b ?_ | refine run_skip ?_ | refine run_ops (by simp; rfl) rfl rfl (by simp; rfl) ?_)
      refine run_inv ⟨(i + 1, m, tk), ⟨by simp at hc ⊢; omega, by simp; omega⟩, by simp at hc ⊢; omega, ?_⟩
      rw [wrap64 (by omega) (by omega)]
      simp
    · simp at hc
      repeat (first | refine run_seq ?_ | refine run_block ?_ | refine run_b ?_ | refine run_skip ?_)
      refine run_opsC (by simp; rfl) ?_
      refine runO_call (xs := []) (snd_clos hP.aw) rfl (by simp) rfl (.inl rfl) (by simp [resT]; rfl) (by simp; rfl) ?_
      refine runO_nil rfl (by simp; rfl) ?_
      refine run_ret ⟨.inr rfl, ?_⟩
      simp [rs4]
end Go.Proofs.Ytllmlcmhmkkgcaa
