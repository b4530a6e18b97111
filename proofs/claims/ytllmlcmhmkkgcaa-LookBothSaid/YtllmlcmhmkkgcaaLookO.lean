/-
  Ytllmlcmhmkkgcaa: LookParts: what the law computes.
-/
import Derived.Test.YtllmlcmhmkkgcaaLookM
import Derived.Test.YtllmlcmhmkkgcaaLib5
set_option linter.unusedVariables false
set_option linter.unusedSimpArgs false
set_option linter.unusedSectionVars false
namespace Go.Proofs.Ytllmlcmhmkkgcaa
open Go Go.AH Go.PM
variable {Pr : CallR → CallR}

/-- entail/entaillaw5.LookParts: 169 -/
def pc3 : PC :=
 (.seq
  (.ops [
   ⟨none, (some 6), .as false (.c (.bool false)), [], []⟩] [] [0, 1, 2] false)
  (.seq
   (.ops [
    ⟨none, (some 19), .mv (.t 0), [], []⟩,
    ⟨none, (some 20), .call (.c (.fn 6 [] [])) [(false, (.t 19))], [], []⟩,
    ⟨none, (some 21), .mv (.t 1), [], []⟩,
    ⟨none, (some 22), .call (.c (.fn 6 [] [])) [(false, (.t 21))], [], []⟩,
    ⟨none, (some 23), .mv (.t 2), [], []⟩,
    ⟨none, (some 24), .call (.c (.fn 7 [] [])) [(false, (.t 23))], [], []⟩,
    ⟨none, (some 9), .alloc 30 [.str (bs []), .str (bs []), .str (bs []), .str (bs []), .str (bs []), .str (bs [])], [], []⟩,
    ⟨none, (some 7), .as false (.t 20), [], []⟩,
    ⟨none, (some 8), .as false (.t 22), [], []⟩,
    ⟨none, none, .store 6 (.t 9) (.t 24), [], []⟩] [] [7, 8, 9] false)
   (.seq
    (.ops [
     ⟨none, (some 25), .mv (.t 7), [], []⟩,
     ⟨none, (some 26), .call (.c (.fn 8 [] [])) [(false, (.t 25))], [], []⟩,
     ⟨none, (some 27), .mv (.t 8), [], []⟩,
     ⟨none, (some 28), .call (.c (.fn 8 [] [])) [(false, (.t 27))], [], []⟩,
     ⟨none, (some 29), .bsl 30 6 true (.agg [.str (bs []), .str (bs []), .str (bs []), .str (bs []), .str (bs []), .str (bs [])]) 0 [], [], []⟩,
     ⟨none, (some 30), .mv (.t 7), [], []⟩,
     ⟨none, (some 31), .app 30 96 (.t 29) (.t 30), [], []⟩,
     ⟨none, (some 32), .mv (.t 8), [], []⟩,
     ⟨none, (some 33), .app 30 96 (.t 31) (.t 32), [], []⟩,
     ⟨none, (some 34), .call (.c (.fn 8 [] [])) [(false, (.t 33))], [], []⟩,
     ⟨none, (some 10), .as false (.t 26), [], []⟩,
     ⟨none, (some 11), .as false (.t 28), [], []⟩,
     ⟨none, (some 12), .as false (.t 34), [], []⟩] [] [7, 9, 10, 11, 12] false)
    (.seq
     (.ops [
      ⟨none, (some 35), .mv (.t 7), [], []⟩,
      ⟨none, (some 36), .load (some 6) (.t 9), [], []⟩,
      ⟨none, (some 37), .bsl 30 6 true (.agg [.str (bs []), .str (bs []), .str (bs []), .str (bs []), .str (bs []), .str (bs [])]) 1 [(0, (.t 36))], [], []⟩,
      ⟨none, (some 38), .call (.c (.fn 9 [] [])) [(false, (.t 35)), (false, (.t 37))], [], []⟩,
      ⟨none, (some 39), .call (.c (.fn 8 [] [])) [(false, (.t 38))], [], []⟩,
      ⟨none, (some 13), .as false (.t 39), [], []⟩] [] [9, 10, 11, 12, 13] false)
     (.seq
      (.seq
       (.ops [
        ⟨none, (some 40), .mv (.t 10), [], []⟩,
        ⟨none, (some 41), .eqF false .p (.t 40) (.c (.nilp)), [], []⟩,
        ⟨none, (some 42), .mv (.t 41), [], []⟩,
        ⟨(some (42, false)), (some 43), .mv (.t 11), [], []⟩,
        ⟨(some (42, false)), (some 44), .eqF false .p (.t 43) (.c (.nilp)), [], []⟩,
        ⟨none, (some 45), .pick (.t 42) (.c (.bool true)) (.t 44), [], []⟩,
        ⟨none, (some 46), .mv (.t 45), [], []⟩,
        ⟨(some (46, false)), (some 47), .mv (.t 12), [], []⟩,
        ⟨(some (46, false)), (some 48), .eqF false .p (.t 47) (.c (.nilp)), [], []⟩,
        ⟨none, (some 49), .pick (.t 46) (.c (.bool true)) (.t 48), [], []⟩,
        ⟨none, (some 50), .mv (.t 49), [], []⟩,
        ⟨(some (50, false)), (some 51), .mv (.t 13), [], []⟩,
        ⟨(some (50, false)), (some 52), .eqF false .p (.t 51) (.c (.nilp)), [], []⟩,
        ⟨none, (some 53), .pick (.t 50) (.c (.bool true)) (.t 52), [], []⟩] [] [9, 10, 11, 12, 13, 53] false)
       (.cond (.t 53)
        (.seq
         (.ops [
          ⟨none, (some 6), .as false (.c (.bool false)), [], []⟩] [] [6] false)
         .ret)
        .skip))
      (.seq
       (.ops [
        ⟨none, (some 54), .mv (.t 10), [], []⟩,
        ⟨none, (some 55), .nilck (.t 54), [], []⟩,
        ⟨none, (some 56), .fa 0 2 (.t 55), [], []⟩,
        ⟨none, (some 57), .fa 0 2 (.t 9), [], []⟩,
        ⟨none, (some 58), .fa 0 1 (.t 57), [], []⟩,
        ⟨none, (some 59), .load none (.t 58), [], []⟩,
        ⟨none, (some 60), .call (.c (.fn 11 [] [])) [(false, (.t 56)), (false, (.t 59))], [9], []⟩,
        ⟨none, (some 61), .mv (.t 11), [9], []⟩,
        ⟨none, (some 62), .nilck (.t 61), [9], []⟩,
        ⟨none, (some 63), .fa 0 2 (.t 62), [9], []⟩,
        ⟨none, (some 64), .fa 0 2 (.t 9), [9], []⟩,
        ⟨none, (some 65), .fa 0 1 (.t 64), [64], []⟩,
        ⟨none, (some 66), .load none (.t 65), [65], []⟩,
        ⟨none, (some 67), .call (.c (.fn 11 [] [])) [(false, (.t 63)), (false, (.t 66))], [66], []⟩,
        ⟨none, (some 68), .app 9 16 (.t 60) (.t 67), [], []⟩,
        ⟨none, (some 69), .call (.c (.fn 10 [] [])) [(false, (.t 68))], [], []⟩,
        ⟨none, (some 14), .as false (.t 69), [], []⟩] [] [9, 10, 11, 12, 13, 14] true)
       (.seq
        (.ops [
         ⟨none, (some 70), .mv (.t 10), [], []⟩,
         ⟨none, (some 71), .nilck (.t 70), [], []⟩,
         ⟨none, (some 72), .fa 2 2 (.t 71), [], []⟩,
         ⟨none, (some 73), .fa 3 3 (.t 9), [], []⟩,
         ⟨none, (some 74), .fa 0 1 (.t 73), [], []⟩,
         ⟨none, (some 75), .load none (.t 74), [], []⟩,
         ⟨none, (some 76), .call (.c (.fn 12 [] [])) [(false, (.t 72)), (false, (.t 75))], [9], []⟩,
         ⟨none, (some 77), .mv (.t 11), [9], []⟩,
         ⟨none, (some 78), .nilck (.t 77), [9], []⟩,
         ⟨none, (some 79), .fa 2 2 (.t 78), [9], []⟩,
         ⟨none, (some 80), .fa 3 3 (.t 9), [9], []⟩,
         ⟨none, (some 81), .fa 0 1 (.t 80), [80], []⟩,
         ⟨none, (some 82), .load none (.t 81), [81], []⟩,
         ⟨none, (some 83), .call (.c (.fn 12 [] [])) [(false, (.t 79)), (false, (.t 82))], [82], []⟩,
         ⟨none, (some 84), .app 9 16 (.t 76) (.t 83), [], []⟩,
         ⟨none, (some 85), .call (.c (.fn 10 [] [])) [(false, (.t 84))], [], []⟩,
         ⟨none, (some 15), .as false (.t 85), [], []⟩] [] [9, 10, 12, 13, 14, 15] true)
        (.seq
         (.ops [
          ⟨none, (some 86), .mv (.t 13), [], []⟩,
          ⟨none, (some 87), .nilck (.t 86), [], []⟩,
          ⟨none, (some 88), .fa 0 2 (.t 87), [], []⟩,
          ⟨none, (some 89), .fa 0 2 (.t 9), [], []⟩,
          ⟨none, (some 90), .load (some 2) (.t 89), [], []⟩,
          ⟨none, (some 91), .fa 2 1 (.t 9), [], []⟩,
          ⟨none, (some 92), .load none (.t 91), [], []⟩,
          ⟨none, (some 93), .call (.c (.fn 13 [] [])) [(false, (.t 88)), (false, (.t 90)), (false, (.t 92))], [], []⟩,
          ⟨none, (some 16), .as false (.t 93), [], []⟩] [] [9, 10, 12, 13, 14, 15, 16] true)
         (.seq
          (.seq
           (.ops [
            ⟨none, (some 17), .as false (.c (.int .i64 0)), [], []⟩] [] [9, 10, 12, 13, 14, 15, 16, 17] false)
           (.block 0
            (.loop
             (.seq
              (.seq
               (.ops [
                ⟨none, (some 94), .mv (.t 17), [], []⟩,
                ⟨none, (some 95), .mv (.t 16), [], []⟩,
                ⟨none, (some 96), .len 1 (.t 95), [], []⟩,
                ⟨none, (some 97), .bin .lss (.t 94) (.t 96), [], []⟩] [] [9, 10, 12, 13, 14, 15, 16, 17, 97] false)
               (.cond (.t 97)
                .skip
                (.exit 0)))
              (.seq
               (.block 1
                (.seq
                 (.ops [
                  ⟨none, (some 100), .mv (.t 16), [], []⟩,
                  ⟨none, (some 101), .mv (.t 17), [], []⟩,
                  ⟨none, (some 102), .ia 28 3 (.t 100) (.t 101), [], []⟩,
                  ⟨none, (some 103), .load (some 3) (.t 102), [], []⟩,
                  ⟨none, (some 104), .fa 3 3 (.t 9), [], []⟩,
                  ⟨none, (some 105), .load (some 3) (.t 104), [], []⟩,
                  ⟨none, (some 106), .eqF false (.s [.s, .s, .s]) (.t 103) (.t 105), [], []⟩] [] [9, 10, 12, 13, 14, 15, 16, 17, 106] true)
                 (.cond (.t 106)
                  (.seq
                   (.ops [
                    ⟨none, (some 6), .as false (.c (.bool false)), [], []⟩] [] [6] false)
                   .ret)
                  .skip)))
               (.ops [
                ⟨none, (some 98), .mv (.t 17), [], []⟩,
                ⟨none, (some 99), .bin .add (.t 98) (.c (.int .i64 1)), [], []⟩,
                ⟨none, (some 17), .as false (.t 99), [], []⟩] [] [9, 10, 12, 13, 14, 15, 16, 17] false))))))
          (.seq
           (.ops [
            ⟨none, (some 107), .mv (.t 10), [], []⟩,
            ⟨none, (some 108), .nilck (.t 107), [], []⟩,
            ⟨none, (some 109), .fa 0 2 (.t 108), [], []⟩,
            ⟨none, (some 110), .fa 0 2 (.t 9), [], []⟩,
            ⟨none, (some 111), .load (some 2) (.t 110), [], []⟩,
            ⟨none, (some 112), .fa 2 1 (.t 9), [], []⟩,
            ⟨none, (some 113), .load none (.t 112), [], []⟩,
            ⟨none, (some 114), .call (.c (.fn 13 [] [])) [(false, (.t 109)), (false, (.t 111)), (false, (.t 113))], [16], []⟩,
            ⟨none, (some 115), .len 1 (.t 114), [16], []⟩,
            ⟨none, (some 116), .mv (.t 16), [16], []⟩,
            ⟨none, (some 117), .len 1 (.t 116), [116], []⟩,
            ⟨none, (some 118), .bin .sub (.t 115) (.t 117), [117], []⟩,
            ⟨none, (some 18), .as false (.t 118), [], []⟩] [] [9, 10, 12, 13, 14, 15, 18] true)
           (.seq
            (.ops [
             ⟨none, (some 119), .mv (.t 12), [], []⟩,
             ⟨none, (some 120), .nilck (.t 119), [], []⟩,
             ⟨none, (some 121), .fa 0 2 (.t 120), [], []⟩,
             ⟨none, (some 122), .fa 0 2 (.t 9), [], []⟩,
             ⟨none, (some 123), .fa 0 1 (.t 122), [], []⟩,
             ⟨none, (some 124), .load none (.t 123), [], []⟩,
             ⟨none, (some 125), .call (.c (.fn 11 [] [])) [(false, (.t 121)), (false, (.t 124))], [], []⟩,
             ⟨none, (some 126), .mv (.t 14), [], []⟩,
             ⟨none, (some 127), .call (.c (.fn 14 [] [])) [(false, (.t 125)), (false, (.t 126))], [], []⟩,
             ⟨none, (some 128), .mv (.t 127), [], []⟩,
             ⟨(some (128, true)), (some 129), .mv (.t 12), [], []⟩,
             ⟨(some (128, true)), (some 130), .nilck (.t 129), [], []⟩,
             ⟨(some (128, true)), (some 131), .fa 2 2 (.t 130), [], []⟩,
             ⟨(some (128, true)), (some 132), .fa 3 3 (.t 9), [], []⟩,
             ⟨(some (128, true)), (some 133), .fa 0 1 (.t 132), [], []⟩,
             ⟨(some (128, true)), (some 134), .load none (.t 133), [], []⟩,
             ⟨(some (128, true)), (some 135), .call (.c (.fn 12 [] [])) [(false, (.t 131)), (false, (.t 134))], [], []⟩,
             ⟨(some (128, true)), (some 136), .mv (.t 15), [], []⟩,
             ⟨(some (128, true)), (some 137), .call (.c (.fn 14 [] [])) [(false, (.t 135)), (false, (.t 136))], [], []⟩,
             ⟨none, (some 138), .pick (.t 128) (.t 137) (.c (.bool false)), [], []⟩,
             ⟨none, (some 139), .mv (.t 138), [], []⟩,
             ⟨(some (139, true)), (some 140), .mv (.t 18), [], []⟩,
             ⟨(some (139, true)), (some 141), .bin .geq (.t 140) (.c (.int .i64 0)), [], []⟩,
             ⟨none, (some 142), .pick (.t 139) (.t 141) (.c (.bool false)), [], []⟩,
             ⟨none, (some 143), .mv (.t 142), [], []⟩,
             ⟨(some (143, true)), (some 144), .mv (.t 18), [], []⟩,
             ⟨(some (143, true)), (some 145), .bin .leq (.t 144) (.c (.int .i64 1)), [], []⟩,
             ⟨none, (some 146), .pick (.t 143) (.t 145) (.c (.bool false)), [], []⟩,
             ⟨none, (some 147), .mv (.t 146), [], []⟩,
             ⟨(some (147, true)), (some 148), .mv (.t 10), [], []⟩,
             ⟨(some (147, true)), (some 149), .nilck (.t 148), [], []⟩,
             ⟨(some (147, true)), (some 150), .fa 2 2 (.t 149), [], []⟩,
             ⟨(some (147, true)), (some 151), .fa 3 3 (.t 9), [], []⟩,
             ⟨(some (147, true)), (some 152), .load (some 3) (.t 151), [], []⟩,
             ⟨(some (147, true)), (some 153), .call (.c (.fn 15 [] [])) [(false, (.t 150)), (false, (.t 152))], [9], []⟩,
             ⟨(some (147, true)), (some 154), .len 1 (.t 153), [9, 153], []⟩,
             ⟨(some (147, true)), (some 155), .mv (.t 13), [9, 153, 154], []⟩,
             ⟨(some (147, true)), (some 156), .nilck (.t 155), [9, 153], []⟩,
             ⟨(some (147, true)), (some 157), .fa 2 2 (.t 156), [9, 153], []⟩,
             ⟨(some (147, true)), (some 158), .fa 3 3 (.t 9), [9, 153], []⟩,
             ⟨(some (147, true)), (some 159), .load (some 3) (.t 158), [153, 158], []⟩,
             ⟨(some (147, true)), (some 160), .call (.c (.fn 15 [] [])) [(false, (.t 157)), (false, (.t 159))], [153, 159], []⟩,
             ⟨(some (147, true)), (some 161), .len 1 (.t 160), [153], []⟩,
             ⟨(some (147, true)), (some 162), .bin .sub (.t 154) (.t 161), [], []⟩,
             ⟨(some (147, true)), (some 163), .mv (.t 18), [], []⟩,
             ⟨(some (147, true)), (some 164), .bin .eql (.t 162) (.t 163), [], []⟩,
             ⟨none, (some 165), .pick (.t 147) (.t 164) (.c (.bool false)), [], []⟩,
             ⟨none, (some 166), .mv (.t 165), [], []⟩,
             ⟨(some (166, true)), (some 167), .call (.c (.fn 16 [] [])) [], [], []⟩,
             ⟨none, (some 168), .pick (.t 166) (.t 167) (.c (.bool false)), [], []⟩,
             ⟨none, (some 6), .as false (.t 168), [], []⟩] [] [6] true)
            .ret)))))))))))
def rs3 : List PR := [.t 6]
theorem chk3 : chkF Try.prog 3 169 pc3 rs3 = true := by decide +kernel


theorem iOf (hP : PrOk Pr) (l : List (Row 6)) (hl : l.length ≤ 1000000) {S : List (Row 6)} (e : setS rl l = S) :
    SndP Try.prog Fn5 Pr 8 ([.sl 30 (l.map rowV)].map .v) [.bx 46 [mpRT 64 28 (G1 S), mpST 9 9 (G2 S), mpRT 28 64 (G3 S), mpST 9 9 (G4 S)]] ([.sl 30 (l.map rowV)].map .v) := by
  have h := snd_lookOf hP l hl
  rw [e] at h
  exact h

set_option maxHeartbeats 16000000 in
theorem snd_LookParts (hP : PrOk Pr) (as_ bs_ : List Int) (k : Int) :
    SndP Try.prog Fn5 Pr 3 ([.sl 2 (as_.map (.int .i64)), .sl 2 (bs_.map (.int .i64)), .int .i64 k].map .v) [.v (.bool true)] ([.sl 2 (as_.map (.int .i64)), .sl 2 (bs_.map (.int .i64)), .int .i64 k].map .v) := by
  obtain ⟨l, _, hl, hTl⟩ := snd_Tames (Pr := Pr) as_
  obtain ⟨m, _, hm, hTm⟩ := snd_Tames (Pr := Pr) bs_
  obtain ⟨t, _, hTt⟩ := snd_Tame (Pr := Pr) k
  obtain ⟨a1, a2, a3, a4, a5, a6, t_e⟩ := row6 t; have t_1 : t.1 = [a1, a2, a3, a4, a5, a6] := (by rw [t_e]); have t_f : RV.agg [.str a1, .str a2, .str a3, .str a4, .str a5, .str a6] = rowV t := (by rw [t_e]; rfl); have t_c : (rowV t).cells = [.str a1, .str a2, .str a3, .str a4, .str a5, .str a6] := (by rw [t_e]; rfl)
  have t_o : RV.agg [.str a1, .str a2] = rowV (objR t) := by rw [t_e]; rfl
  have t_s : RV.agg [.str a4, .str a5, .str a6] = rowV (subR t) := by rw [t_e]; rfl
  have x_t : otyR t = a1 := by rw [t_e]; rfl
  have x_r : relR t = a3 := by rw [t_e]; rfl
  have x_u : styR t = a4 := by rw [t_e]; rfl
  have f1 := types_both l m (otyR t)
  have f2 := users_both l m (styR t)
  have f3 := subs_drop l t
  have f4 := objs_drop l t
  have f5 := subs_gone l t
  have hSx : (setS rl l).length ≤ 80 := Nat.le_trans length_setS hl
  have hSy : (setS rl m).length ≤ 80 := Nat.le_trans length_setS hm
  have hSz : (setS rl (l ++ m)).length ≤ 160 := Nat.le_trans length_setS (by rw [List.length_append]; omega)
  have hSw : (lessT l t).length ≤ 80 := Nat.le_trans (List.length_filter_le _ _) hSx
  have hOx := iOf hP l (by omega) rfl
  have hOy := iOf hP m (by omega) rfl
  have hOz := iOf hP (l ++ m) (by rw [List.length_append]; omega) rfl
  have hMi := snd_refMinus (Pr := Pr) l [t] (by omega) (by simp)
  have hOw := iOf hP (lessT l t) (by omega) (lessT_asc l t)
  rw [show ((setS rl l).filter fun x => !hasB (setS rl [t]) x) = lessT l t from rfl] at hMi
  generalize setS rl l = Sx at f1 f2 f3 f4 hSx hOx
  generalize setS rl m = Sy at f1 f2 hSy hOy
  generalize setS rl (l ++ m) = Sz at f1 f2 hSz hOz
  generalize lessT l t = Sw at f3 f4 f5 hSw hMi hOw
  obtain ⟨n0, hn0, hn1⟩ : ∃ n0, n0 = (if hasB Sx t then 1 else 0) ∧ n0 ≤ 1 := ⟨_, rfl, by split <;> omega⟩
  rw [← hn0] at f3 f4
  have b1 : (fTypes Sx (otyR t)).length ≤ 80 := Nat.le_trans fTypes_len hSx
  have b2 : (fTypes Sy (otyR t)).length ≤ 80 := Nat.le_trans fTypes_len hSy
  have b3 : (fUsers Sx (styR t)).length ≤ 80 := Nat.le_trans fUsers_len hSx
  have b4 : (fUsers Sy (styR t)).length ≤ 80 := Nat.le_trans fUsers_len hSy
  have hT1 := snd_Texts (Pr := Pr) _ (fTypes Sx (otyR t) ++ fTypes Sy (otyR t)) rfl (by rw [List.length_append]; omega)
  have hT2 := snd_Texts (Pr := Pr) _ (fUsers Sx (styR t) ++ fUsers Sy (styR t)) rfl (by rw [List.length_append]; omega)
  rw [f1] at hT1
  rw [f2] at hT2
  refine snd_of rfl chk3 (by simp) ?_ rfl
  rw [enter_plain _ _ (by simp)]
  simp only [pc3, plainL]
  refine run_of ?_
  repeat (first | refine run_seq ?_ | refine run_block ?_ | refine run_b ?_ | refine run_skip ?_ | refine run_ops (by simp; rfl) rfl rfl (by simp; rfl) ?_)
  repeat (first | refine run_seq ?_ | refine run_block ?_ | refine run_b ?_ | refine run_skip ?_)
  refine run_opsC (by simp; rfl) ?_
  refine runO_call (xs := [.sl 2 (as_.map (.int .i64))]) hTl rfl (by simp) rfl (.inl (by simp)) (by simp [resT]; rfl) (by simp; rfl) ?_
  refine runO_call (xs := [.sl 2 (bs_.map (.int .i64))]) hTm rfl (by simp) rfl (.inl (by simp)) (by simp [resT]; rfl) (by simp; rfl) ?_
  refine runO_call (xs := [.int .i64 k]) hTt rfl (by simp) rfl (.inl (by simp)) (by simp [resT]; rfl) (by simp [t_1, bs_nil]; rfl) ?_
  refine runO_nil rfl (by simp; rfl) ?_
  repeat (first | refine run_seq ?_ | refine run_block ?_ | refine run_b ?_ | refine run_skip ?_)
  refine run_opsC (by simp; rfl) ?_
  refine runO_callZ [(7, [])] rfl rfl (by simp; rfl) (xs := [.sl 30 (l.map rowV)]) hOx (by simp) rfl (.inr (by simp)) (by simp [resT]; rfl) (by simp; rfl) ?_
  refine runO_callZ [(8, [])] rfl rfl (by simp; rfl) (xs := [.sl 30 (m.map rowV)]) hOy (by simp) rfl (.inr (by simp)) (by simp [resT]; rfl) (by simp [show l.length * 96 ≤ 140737488355328 by omega, show l.length ≤ 9223372036854775807 by omega, show (l.length + m.length) * 96 ≤ 140737488355328 by omega, show l.length + m.length ≤ 9223372036854775807 by omega]; rfl) ?_
  refine runO_callZ [(33, [])] rfl rfl (by simp; rfl) (xs := [.sl 30 ((l ++ m).map rowV)]) hOz (by simp) rfl (.inr (by simp)) (by simp [resT]; rfl) (by simp; rfl) ?_
  refine runO_nil rfl (by simp; rfl) ?_
  repeat (first | refine run_seq ?_ | refine run_block ?_ | refine run_b ?_ | refine run_skip ?_)
  refine run_opsC (by simp[t_f, bs_nil]; rfl) ?_
  refine runO_call (xs := [.sl 30 (l.map rowV), .sl 30 ([t].map rowV)]) hMi rfl (by simp) rfl (.inl (by simp)) (by simp [resT]; rfl) (by simp; rfl) ?_
  refine runO_callZ [(38, [])] rfl rfl (by simp; rfl) (xs := [.sl 30 (Sw.map rowV)]) hOw (by simp) rfl (.inr (by simp)) (by simp [resT]; rfl) (by simp; rfl) ?_
  refine runO_nil rfl (by simp; rfl) ?_
  repeat (first | refine run_seq ?_ | refine run_block ?_ | refine run_b ?_ | refine run_skip ?_ | refine run_ops (by simp; rfl) rfl rfl (by simp; rfl) ?_)
  refine run_cond (t := false) (by simp) (fun h => by cases h) (fun _ => ?_)
  repeat (first | refine run_seq ?_ | refine run_block ?_ | refine run_b ?_ | refine run_skip ?_)
  refine run_opsC (by simp; rfl) ?_
  refine runO_call (xs := [leftV Sx, .str (otyR t)]) (iTypes hP (by omega) (otyR t)) (by simp) (by simp [t_f, t_o, t_s, ← x_t, ← x_r, ← x_u, dem_mpRT, dem_mpST, left_f, right_f]) rfl (.inl (by simp)) (by simp [resT]; rfl) (by simp [t_o, t_s]; rfl) ?_
  refine runO_call (xs := [leftV Sy, .str (otyR t)]) (iTypes hP (by omega) (otyR t)) (by simp) (by simp [t_f, t_o, t_s, ← x_t, ← x_r, ← x_u, dem_mpRT, dem_mpST, left_f, right_f]) rfl (.inl (by simp)) (by simp [resT]; rfl) (by simp [t_o, t_s, show ((fTypes Sx (otyR t)).length + (fTypes Sy (otyR t)).length) * 16 ≤ 140737488355328 by omega, show (fTypes Sx (otyR t)).length + (fTypes Sy (otyR t)).length ≤ 9223372036854775807 by omega]; rfl) ?_
  refine runO_call (xs := [.sl 9 ((fTypes Sx (otyR t) ++ fTypes Sy (otyR t)).map .str)]) hT1 rfl (by simp) rfl (.inl (by simp)) (by simp [resT]; rfl) (by simp; rfl) ?_
  refine runO_nil rfl (by simp; rfl) ?_
  repeat (first | refine run_seq ?_ | refine run_block ?_ | refine run_b ?_ | refine run_skip ?_)
  refine run_opsC (by simp; rfl) ?_
  refine runO_call (xs := [rightV Sx, .str (styR t)]) (iUsers hP (by omega) (styR t)) (by simp) (by simp [t_f, t_o, t_s, ← x_t, ← x_r, ← x_u, dem_mpRT, dem_mpST, left_f, right_f]) rfl (.inl (by simp)) (by simp [resT]; rfl) (by simp [t_o, t_s]; rfl) ?_
  refine runO_call (xs := [rightV Sy, .str (styR t)]) (iUsers hP (by omega) (styR t)) (by simp) (by simp [t_f, t_o, t_s, ← x_t, ← x_r, ← x_u, dem_mpRT, dem_mpST, left_f, right_f]) rfl (.inl (by simp)) (by simp [resT]; rfl) (by simp [t_o, t_s, show ((fUsers Sx (styR t)).length + (fUsers Sy (styR t)).length) * 16 ≤ 140737488355328 by omega, show (fUsers Sx (styR t)).length + (fUsers Sy (styR t)).length ≤ 9223372036854775807 by omega]; rfl) ?_
  refine runO_call (xs := [.sl 9 ((fUsers Sx (styR t) ++ fUsers Sy (styR t)).map .str)]) hT2 rfl (by simp) rfl (.inl (by simp)) (by simp [resT]; rfl) (by simp; rfl) ?_
  refine runO_nil rfl (by simp; rfl) ?_
  repeat (first | refine run_seq ?_ | refine run_block ?_ | refine run_b ?_ | refine run_skip ?_)
  refine run_opsC (by simp[t_o]; rfl) ?_
  refine runO_call (xs := [leftV Sw, rowV (objR t), .str (relR t)]) (iSubs (by omega) (objR t) (relR t)) (by simp) (by simp [t_f, t_o, t_s, ← x_t, ← x_r, ← x_u, dem_mpRT, dem_mpST, left_f, right_f]) rfl (.inl (by simp)) (by simp [resT]; rfl) (by simp [t_o, t_s]; rfl) ?_
  refine runO_nil rfl (by simp; rfl) ?_
  repeat (first | refine run_seq ?_ | refine run_block ?_ | refine run_b ?_ | refine run_skip ?_ | refine run_ops (by simp; rfl) rfl rfl (by simp; rfl) ?_)
  refine run_loop (α := Nat) (fun i => E [(9, .bx 30 [.v (.str a1), .v (.str a2), .v (.str a3), .v (.str a4), .v (.str a5), .v (.str a6)]), (10, .bx 46 [mpRT 64 28 (G1 Sx), mpST 9 9 (G2 Sx), mpRT 28 64 (G3 Sx), mpST 9 9 (G4 Sx)]), (12, .bx 46 [mpRT 64 28 (G1 Sz), mpST 9 9 (G2 Sz), mpRT 28 64 (G3 Sz), mpST 9 9 (G4 Sz)]), (13, .bx 46 [mpRT 64 28 (G1 Sw), mpST 9 9 (G2 Sw), mpRT 28 64 (G3 Sw), mpST 9 9 (G4 Sw)]), (14, .sl 9 ((fTypes Sz (otyR t)).map .str)), (15, .sl 9 ((fUsers Sz (styR t)).map .str)), (16, .sl 28 ((fSubs Sw (objR t) (relR t)).map rowV)), (17, .v (.int .i64 i))])
    (fun i => i ≤ (fSubs Sw (objR t) (relR t)).length) (fun i => (fSubs Sw (objR t) (relR t)).length - i) 0 (by simp) (by simp) ?_
  intro i hi
  have hL : (fSubs Sw (objR t) (relR t)).length ≤ 80 := Nat.le_trans fSubs_len hSw
  repeat (first | refine run_seq ?_ | refine run_block ?_ | refine run_b ?_ | refine run_skip ?_ | refine run_ops (by simp; rfl) rfl rfl (by simp; rfl) ?_)
  refine run_cond (by simp; rfl) (fun hc => ?_) (fun hc => run_exit rfl ?_)
  · simp at hc
    obtain ⟨x, hx⟩ : ∃ x, x = (fSubs Sw (objR t) (relR t))[i] := ⟨_, rfl⟩
    have hne : ¬ x = subR t := fun e => f5 (by rw [← e, hx]; exact List.getElem_mem hc)
    repeat (first | refine run_seq ?_ | refine run_block ?_ | refine run_b ?_ | refine run_skip ?_ | refine run_ops (by simp[hc, ← hx, t_s, eqF3, hne]; rfl) rfl rfl (by simp; rfl) ?_)
    refine run_cond (t := false) (by simp) (fun h => by cases h) (fun _ => ?_)
    repeat (first | refine run_seq ?_ | refine run_block ?_ | refine run_b ?_ | refine run_skip ?_ | refine run_ops (by simp; rfl) rfl rfl (by simp; rfl) ?_)
    refine run_inv ⟨i + 1, by omega, by omega, ?_⟩
    rw [wrap64 (by omega) (by omega)]
    simp
  · have en : IntKind.i64.wrap (((fSubs Sx (objR t) (relR t)).length : Int) - ((fSubs Sw (objR t) (relR t)).length : Int)) = (n0 : Int) := by rw [wrap64 (by omega) (by omega)]; omega
    have em : IntKind.i64.wrap (((fObjs Sx (subR t)).length : Int) - ((fObjs Sw (subR t)).length : Int)) = (n0 : Int) := by
      have : (fObjs Sw (subR t)).length ≤ 80 := Nat.le_trans fObjs_len hSw
      rw [wrap64 (by omega) (by omega)]; omega
    repeat (first | refine run_seq ?_ | refine run_block ?_ | refine run_b ?_ | refine run_skip ?_)
    refine run_opsC (by simp[t_o]; rfl) ?_
    refine runO_call (xs := [leftV Sx, rowV (objR t), .str (relR t)]) (iSubs (by omega) (objR t) (relR t)) (by simp) (by simp [t_f, t_o, t_s, ← x_t, ← x_r, ← x_u, dem_mpRT, dem_mpST, left_f, right_f]) rfl (.inl (by simp)) (by simp [resT]; rfl) (by simp [t_o, t_s, en]; rfl) ?_
    refine runO_nil rfl (by simp; rfl) ?_
    repeat (first | refine run_seq ?_ | refine run_block ?_ | refine run_b ?_ | refine run_skip ?_)
    refine run_opsC (by simp; rfl) ?_
    refine runO_call (xs := [leftV Sz, .str (otyR t)]) (iTypes hP (by omega) (otyR t)) (by simp) (by simp [t_f, t_o, t_s, ← x_t, ← x_r, ← x_u, dem_mpRT, dem_mpST, left_f, right_f]) rfl (.inl (by simp)) (by simp [resT]; rfl) (by simp [t_o, t_s]; rfl) ?_
    refine runO_call (xs := [.sl 9 ((fTypes Sz (otyR t)).map .str), .sl 9 ((fTypes Sz (otyR t)).map .str)]) (selfT (fTypes Sz (otyR t)) (Nat.le_trans fTypes_len (by omega))) (by simp) (by simp [t_f, t_o, t_s, ← x_t, ← x_r, ← x_u, dem_mpRT, dem_mpST, left_f, right_f]) rfl (.inl rfl) (by simp [resT]; rfl) (by simp [t_o, t_s]; rfl) ?_
    refine runO_callG (by simp [wantP]) (xs := [rightV Sz, .str (styR t)]) (iUsers hP (by omega) (styR t)) (by simp) (by simp [t_f, t_o, t_s, ← x_t, ← x_r, ← x_u, dem_mpRT, dem_mpST, left_f, right_f]) rfl (.inl (by simp)) (by simp [resT]; rfl) (by simp [t_o, t_s]; rfl) ?_
    refine runO_callG (by simp [wantP]) (xs := [.sl 9 ((fUsers Sz (styR t)).map .str), .sl 9 ((fUsers Sz (styR t)).map .str)]) (selfT (fUsers Sz (styR t)) (Nat.le_trans fUsers_len (by omega))) (by simp) (by simp [t_f, t_o, t_s, ← x_t, ← x_r, ← x_u, dem_mpRT, dem_mpST, left_f, right_f]) rfl (.inl rfl) (by simp [resT]; rfl) (by simp [t_o, t_s, show (0 : Int) ≤ (n0 : Int) by omega, show (n0 : Int) ≤ 1 by omega, hn1]; rfl) ?_
    refine runO_callG (by simp [wantP]) (xs := [rightV Sx, rowV (subR t)]) (iObjs (by omega) (subR t)) (by simp) (by simp [t_f, t_o, t_s, ← x_t, ← x_r, ← x_u, dem_mpRT, dem_mpST, left_f, right_f]) rfl (.inl (by simp)) (by simp [resT]; rfl) (by simp [t_o, t_s]; rfl) ?_
    refine runO_callG (by simp [wantP]) (xs := [rightV Sw, rowV (subR t)]) (iObjs (by omega) (subR t)) (by simp) (by simp [t_f, t_o, t_s, ← x_t, ← x_r, ← x_u, dem_mpRT, dem_mpST, left_f, right_f]) rfl (.inl (by simp)) (by simp [resT]; rfl) (by simp [t_o, t_s, em]; rfl) ?_
    refine runO_callG (by simp [wantP]) (xs := []) (snd_clos hP.aw) (by simp) (by simp) rfl (.inl rfl) (by simp [resT]; rfl) (by simp; rfl) ?_
    refine runO_nil rfl (by simp; rfl) ?_
    refine run_ret ⟨.inr rfl, ?_⟩
    simp [rs3]
end Go.Proofs.Ytllmlcmhmkkgcaa
