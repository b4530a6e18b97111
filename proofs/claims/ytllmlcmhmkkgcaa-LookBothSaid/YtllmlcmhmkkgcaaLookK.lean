/-
  Ytllmlcmhmkkgcaa: what the functions of law 5 do (11): the index.
-/
import Derived.Test.YtllmlcmhmkkgcaaLookJ
set_option linter.unusedVariables false
set_option linter.unusedSimpArgs false
set_option linter.unusedSectionVars false
namespace Go.Proofs.Ytllmlcmhmkkgcaa
open Go Go.AH Go.PM
variable {Pr : CallR → CallR}

/-- entail/look.Of: 103 -/
def pc8 : PC :=
 (.seq
  (.ops [
   ⟨none, (some 2), .as false (.c (.nilp)), [], []⟩] [] [0] false)
  (.seq
   (.ops [
    ⟨none, (some 7), .mkmap 64, [], []⟩,
    ⟨none, (some 8), .mkmap 9, [], []⟩,
    ⟨none, (some 9), .build [.nilm, .nilm] [(0, 1, (.t 7)), (1, 1, (.t 8))], [], []⟩,
    ⟨none, (some 10), .mkmap 28, [], []⟩,
    ⟨none, (some 11), .mkmap 9, [], []⟩,
    ⟨none, (some 12), .build [.nilm, .nilm] [(0, 1, (.t 10)), (1, 1, (.t 11))], [], []⟩,
    ⟨none, (some 13), .build [.nilm, .nilm, .nilm, .nilm] [(0, 2, (.t 9)), (2, 2, (.t 12))], [], []⟩,
    ⟨none, (some 14), .box 46 (.t 13), [], []⟩,
    ⟨none, (some 3), .as false (.t 14), [], []⟩] [] [0, 3] false)
   (.seq
    (.seq
     (.ops [
      ⟨none, (some 15), .mv (.t 0), [], []⟩,
      ⟨none, (some 16), .call (.c (.fn 27 [] [])) [(false, (.t 15))], [], []⟩,
      ⟨none, (some 17), .len 1 (.t 16), [], []⟩,
      ⟨none, (some 18), .mv (.c (.int .i64 0)), [], []⟩] [] [3, 16, 17, 18] false)
     (.block 0
      (.loop
       (.seq
        (.ops [
         ⟨none, (some 19), .bin .lss (.t 18) (.t 17), [], []⟩] [] [3, 16, 17, 18, 19] false)
        (.seq
         (.cond (.t 19)
          .skip
          (.exit 0))
         (.seq
          (.block 1
           (.seq
            (.ops [
             ⟨none, (some 20), .ia 30 6 (.t 16) (.t 18), [], []⟩,
             ⟨none, (some 21), .load (some 6) (.t 20), [], []⟩,
             ⟨none, (some 5), .alloc 30 [.str (bs []), .str (bs []), .str (bs []), .str (bs []), .str (bs []), .str (bs [])], [], []⟩,
             ⟨none, none, .store 6 (.t 5) (.t 21), [], []⟩] [] [3, 5, 16, 17, 18] false)
            (.seq
             (.ops [
              ⟨none, (some 22), .fa 0 2 (.t 5), [], []⟩,
              ⟨none, (some 23), .load (some 2) (.t 22), [], []⟩,
              ⟨none, (some 24), .fa 2 1 (.t 5), [], []⟩,
              ⟨none, (some 25), .load none (.t 24), [], []⟩,
              ⟨none, (some 26), .build [.str (bs []), .str (bs []), .str (bs [])] [(0, 2, (.t 23)), (2, 1, (.t 25))], [], []⟩,
              ⟨none, (some 6), .alloc 64 [.str (bs []), .str (bs []), .str (bs [])], [], []⟩,
              ⟨none, none, .store 3 (.t 6) (.t 26), [], []⟩] [] [3, 5, 6, 16, 17, 18] false)
             (.seq
              (.ops [
               ⟨none, (some 27), .mv (.t 3), [], []⟩,
               ⟨none, (some 28), .nilck (.t 27), [], []⟩,
               ⟨none, (some 29), .fa 0 2 (.t 28), [], []⟩,
               ⟨none, (some 30), .fa 0 1 (.t 29), [], []⟩,
               ⟨none, (some 31), .load none (.t 30), [], []⟩,
               ⟨none, (some 32), .load (some 3) (.t 6), [], []⟩,
               ⟨none, (some 34), .fa 3 3 (.t 5), [], []⟩,
               ⟨none, (some 35), .load (some 3) (.t 34), [], []⟩,
               ⟨none, (some 36), .bsl 28 3 true (.agg [.str (bs []), .str (bs []), .str (bs [])]) 1 [(0, (.t 35))], [], []⟩,
               ⟨none, (some 37), .ment 64 (true, [.s, .s, .s]) (.sl 28 []) (.t 31) (.t 32), [], []⟩,
               ⟨none, (some 33), .ext (.t 37) 0, [], []⟩,
               ⟨none, (some 38), .app 28 48 (.t 33) (.t 36), [], []⟩,
               ⟨none, (some 39), .ext (.t 37) 1, [], []⟩,
               ⟨none, none, .mst 64 (.t 31) (.t 39) (.t 38), [], []⟩] [] [3, 5, 6, 16, 17, 18] true)
              (.seq
               (.ops [
                ⟨none, (some 40), .mv (.t 3), [], []⟩,
                ⟨none, (some 41), .nilck (.t 40), [], []⟩,
                ⟨none, (some 42), .fa 2 2 (.t 41), [], []⟩,
                ⟨none, (some 43), .fa 0 1 (.t 42), [], []⟩,
                ⟨none, (some 44), .load none (.t 43), [], []⟩,
                ⟨none, (some 45), .fa 3 3 (.t 5), [], []⟩,
                ⟨none, (some 46), .load (some 3) (.t 45), [], []⟩,
                ⟨none, (some 48), .load (some 3) (.t 6), [], []⟩,
                ⟨none, (some 49), .bsl 64 3 true (.agg [.str (bs []), .str (bs []), .str (bs [])]) 1 [(0, (.t 48))], [], []⟩,
                ⟨none, (some 50), .ment 28 (true, [.s, .s, .s]) (.sl 64 []) (.t 44) (.t 46), [], []⟩,
                ⟨none, (some 47), .ext (.t 50) 0, [], []⟩,
                ⟨none, (some 51), .app 64 48 (.t 47) (.t 49), [], []⟩,
                ⟨none, (some 52), .ext (.t 50) 1, [], []⟩,
                ⟨none, none, .mst 28 (.t 44) (.t 52) (.t 51), [], []⟩] [] [3, 5, 16, 17, 18] true)
               (.seq
                (.ops [
                 ⟨none, (some 53), .mv (.t 3), [], []⟩,
                 ⟨none, (some 54), .nilck (.t 53), [], []⟩,
                 ⟨none, (some 55), .fa 0 2 (.t 54), [], []⟩,
                 ⟨none, (some 56), .fa 1 1 (.t 55), [], []⟩,
                 ⟨none, (some 57), .load none (.t 56), [56], []⟩,
                 ⟨none, (some 58), .fa 0 2 (.t 5), [56, 57], []⟩,
                 ⟨none, (some 59), .fa 0 1 (.t 58), [56], []⟩,
                 ⟨none, (some 60), .load none (.t 59), [56, 59], []⟩,
                 ⟨none, (some 61), .mv (.t 3), [56, 59, 60], []⟩,
                 ⟨none, (some 62), .nilck (.t 61), [56, 59], []⟩,
                 ⟨none, (some 63), .fa 0 2 (.t 62), [56, 59], []⟩,
                 ⟨none, (some 64), .fa 1 1 (.t 63), [56, 59], []⟩,
                 ⟨none, (some 65), .load none (.t 64), [56, 59], []⟩,
                 ⟨none, (some 66), .fa 0 2 (.t 5), [56, 59], []⟩,
                 ⟨none, (some 67), .fa 0 1 (.t 66), [56, 59], []⟩,
                 ⟨none, (some 68), .load none (.t 67), [56, 59], []⟩,
                 ⟨none, (some 69), .lookup 9 (false, [.s]) (.sl 9 []) false (.t 65) (.t 68), [56, 59], []⟩,
                 ⟨none, (some 70), .fa 0 2 (.t 5), [56, 59], []⟩,
                 ⟨none, (some 71), .fa 1 1 (.t 70), [56, 59], []⟩,
                 ⟨none, (some 72), .load none (.t 71), [56, 59], []⟩,
                 ⟨none, (some 73), .bsl 9 1 false (.str (bs [])) 1 [(0, (.t 72))], [56, 59], []⟩,
                 ⟨none, (some 74), .app 9 16 (.t 69) (.t 73), [56, 59], []⟩,
                 ⟨none, none, .mup 9 (false, [.s]) (.t 57) (.t 60) (.t 74), [56, 59], []⟩] [] [3, 5, 16, 17, 18] true)
                (.seq
                 (.ops [
                  ⟨none, (some 75), .fa 3 3 (.t 5), [], []⟩,
                  ⟨none, (some 76), .fa 2 1 (.t 75), [], []⟩,
                  ⟨none, (some 77), .load none (.t 76), [], []⟩,
                  ⟨none, (some 78), .bin .eql (.t 77) (.c (.str (bs []))), [], []⟩] [] [3, 5, 16, 17, 18, 78] false)
                 (.cond (.t 78)
                  (.ops [
                   ⟨none, (some 79), .mv (.t 3), [], []⟩,
                   ⟨none, (some 80), .nilck (.t 79), [], []⟩,
                   ⟨none, (some 81), .fa 2 2 (.t 80), [], []⟩,
                   ⟨none, (some 82), .fa 1 1 (.t 81), [], []⟩,
                   ⟨none, (some 83), .load none (.t 82), [82], []⟩,
                   ⟨none, (some 84), .fa 3 3 (.t 5), [82, 83], []⟩,
                   ⟨none, (some 85), .fa 0 1 (.t 84), [82], []⟩,
                   ⟨none, (some 86), .load none (.t 85), [82, 85], []⟩,
                   ⟨none, (some 87), .mv (.t 3), [82, 85, 86], []⟩,
                   ⟨none, (some 88), .nilck (.t 87), [82, 85], []⟩,
                   ⟨none, (some 89), .fa 2 2 (.t 88), [82, 85], []⟩,
                   ⟨none, (some 90), .fa 1 1 (.t 89), [82, 85], []⟩,
                   ⟨none, (some 91), .load none (.t 90), [82, 85], []⟩,
                   ⟨none, (some 92), .fa 3 3 (.t 5), [82, 85], []⟩,
                   ⟨none, (some 93), .fa 0 1 (.t 92), [82, 85], []⟩,
                   ⟨none, (some 94), .load none (.t 93), [82, 85], []⟩,
                   ⟨none, (some 95), .lookup 9 (false, [.s]) (.sl 9 []) false (.t 91) (.t 94), [82, 85], []⟩,
                   ⟨none, (some 96), .fa 3 3 (.t 5), [82, 85], []⟩,
                   ⟨none, (some 97), .fa 1 1 (.t 96), [82, 85], []⟩,
                   ⟨none, (some 98), .load none (.t 97), [82, 85], []⟩,
                   ⟨none, (some 99), .bsl 9 1 false (.str (bs [])) 1 [(0, (.t 98))], [82, 85], []⟩,
                   ⟨none, (some 100), .app 9 16 (.t 95) (.t 99), [82, 85], []⟩,
                   ⟨none, none, .mup 9 (false, [.s]) (.t 83) (.t 86) (.t 100), [82, 85], []⟩] [] [3, 16, 17, 18] true)
                  .skip))))))))
          (.ops [
           ⟨none, (some 101), .bin .add (.t 18) (.c (.int .i64 1)), [], []⟩,
           ⟨none, (some 18), .mv (.t 101), [], []⟩] [] [3, 16, 17, 18] false)))))))
    (.seq
     (.ops [
      ⟨none, (some 102), .mv (.t 3), [], []⟩,
      ⟨none, (some 2), .as true (.t 102), [], []⟩] [] [2] false)
     .ret))))
def rs8 : List PR := [.t 2]
theorem chk8 : chkF Try.prog 8 103 pc8 rs8 = true := by decide +kernel


def mpRT (kt e : TypeId) (G : List (Row 3 × List (Row 3))) : TV := .mp kt (G.map fun p => rowV p.1) (G.map fun p => .sl e (p.2.map rowV))
def mpST (kt e : TypeId) (G : List (ByteArray × List ByteArray)) : TV := .mp kt (G.map fun p => .str p.1) (G.map fun p => .sl e (p.2.map .str))

/-- The four maps of a set. -/
def G1 (S : List (Row 6)) := grpG refR subR S
def G2 (S : List (Row 6)) := grpG otyR oidR S
def G3 (S : List (Row 6)) := grpG subR refR S
def G4 (S : List (Row 6)) := grpG styR sidR (S.filter fun x => decide (srlR x = e0))
def ixT (S : List (Row 6)) : TV := .bx 46 [mpRT 64 28 (G1 S), mpST 9 9 (G2 S), mpRT 28 64 (G3 S), mpST 9 9 (G4 S)]

set_option maxHeartbeats 8000000 in
theorem snd_lookOf (hP : PrOk Pr) (l : List (Row 6)) (hl : l.length ≤ 1000000) :
    SndP Try.prog Fn5 Pr 8 ([.sl 30 (l.map rowV)].map .v) [ixT (setS rl l)] ([.sl 30 (l.map rowV)].map .v) := by
  refine snd_of rfl chk8 (by simp) ?_ rfl
  rw [enter_plain _ _ (by simp)]
  simp only [pc8, plainL]
  refine run_of ?_
  repeat (first | refine run_seq ?_ | refine run_block ?_ | refine run_b ?_ | refine run_skip ?_ | refine run_ops (by simp; rfl) rfl rfl (by simp; rfl) ?_)
  repeat (first | refine run_seq ?_ | refine run_block ?_ | refine run_b ?_ | refine run_skip ?_)
  refine run_opsC (by simp; rfl) ?_
  refine runO_call (xs := [.sl 30 (l.map rowV)]) (snd_rowsOf hP l hl) rfl (by simp) rfl (.inl (by simp)) (by simp [resT]; rfl) (by simp; rfl) ?_
  refine runO_nil rfl (by simp; rfl) ?_
  have hS : (setS rl l).length ≤ 1000000 := Nat.le_trans length_setS hl
  generalize setS rl l = S at hS
  repeat (first | refine run_seq ?_ | refine run_block ?_ | refine run_b ?_ | refine run_skip ?_)
  refine run_loop (α := Nat) (fun i => E [(3, ixT (S.take i)), (16, .sl 30 (S.map rowV)), (17, .v (.int .i64 S.length)), (18, .v (.int .i64 i))])
    (fun i => i ≤ S.length) (fun i => S.length - i) 0 (by simp [ixT, mpRT, mpST, G1, G2, G3, G4, grpG]) (by simp) ?_
  intro i hi
  show Run _ _ _ (E [(3, .bx 46 [mpRT 64 28 (G1 (S.take i)), mpST 9 9 (G2 (S.take i)), mpRT 28 64 (G3 (S.take i)), mpST 9 9 (G4 (S.take i))]), (16, .sl 30 (S.map rowV)), (17, .v (.int .i64 S.length)), (18, .v (.int .i64 i))])
  repeat (first | refine run_seq ?_ | refine run_block ?_ | refine run_b ?_ | refine run_skip ?_ | refine run_ops (by simp; rfl) rfl rfl (by simp; rfl) ?_)
  refine run_cond (by simp; rfl) (fun hc => ?_) (fun hc => run_exit rfl ?_)
  · simp at hc
    obtain ⟨x, hx⟩ : ∃ x, x = S[i] := ⟨_, rfl⟩
    have g : S[i]? = some x := by rw [hx]; exact List.getElem?_eq_getElem hc
    obtain ⟨a1, a2, a3, a4, a5, a6, x_e⟩ := row6 x; have x_1 : x.1 = [a1, a2, a3, a4, a5, a6] := (by rw [x_e]); have x_f : RV.agg [.str a1, .str a2, .str a3, .str a4, .str a5, .str a6] = rowV x := (by rw [x_e]; rfl); have x_c : (rowV x).cells = [.str a1, .str a2, .str a3, .str a4, .str a5, .str a6] := (by rw [x_e]; rfl)
    have x_r : RV.agg [.str a1, .str a2, .str a3] = rowV (refR x) := by rw [x_e]; rfl
    have x_s : RV.agg [.str a4, .str a5, .str a6] = rowV (subR x) := by rw [x_e]; rfl
    have x_o : RV.agg [.str a1, .str a2] = RV.agg [.str a1, .str a2] := rfl
    have hT : S.take (i + 1) = S.take i ++ [x] := by rw [List.take_add_one, g]; rfl
    have b1 : G1 (S.take (i + 1)) = addG (refR x) (subR x) (G1 (S.take i)) := by unfold G1; rw [hT, grp_snoc]
    have b2 : G2 (S.take (i + 1)) = addG (otyR x) (oidR x) (G2 (S.take i)) := by unfold G2; rw [hT, grp_snoc]
    have b3 : G3 (S.take (i + 1)) = addG (subR x) (refR x) (G3 (S.take i)) := by unfold G3; rw [hT, grp_snoc]
    have b4 : G4 (S.take (i + 1)) = if srlR x = e0 then addG (styR x) (sidR x) (G4 (S.take i)) else G4 (S.take i) := by
      unfold G4
      rw [hT, List.filter_append]
      by_cases e : srlR x = e0
      · simp [e, grp_snoc]
      · simp [e]
    have s1 : shortG 1000000 (G1 (S.take i)) := short_mono (short_grp _ _ _) (by rw [List.length_take]; omega)
    have s2 : shortG 1000000 (G2 (S.take i)) := short_mono (short_grp _ _ _) (by rw [List.length_take]; omega)
    have s3 : shortG 1000000 (G3 (S.take i)) := short_mono (short_grp _ _ _) (by rw [List.length_take]; omega)
    have s4 : shortG 1000000 (G4 (S.take i)) := short_mono (short_grp _ _ _) (Nat.le_trans (List.length_filter_le _ _) (by rw [List.length_take]; omega))
    generalize G1 (S.take i) = M1 at s1 b1
    generalize G2 (S.take i) = M2 at s2 b2
    generalize G3 (S.take i) = M3 at s3 b3
    generalize G4 (S.take i) = M4 at s4 b4
    repeat (first | refine run_seq ?_ | refine run_block ?_ | refine run_b ?_ | refine run_skip ?_ | refine run_ops (by simp[← hx, hc, x_c, x_f, x_1, bs_nil]; rfl) rfl rfl (by simp; rfl) ?_)
    have x1e : otyR x = a1 := by rw [x_e]; rfl
    have x2e : oidR x = a2 := by rw [x_e]; rfl
    have x4e : styR x = a4 := by rw [x_e]; rfl
    have x5e : sidR x = a5 := by rw [x_e]; rfl
    have x6e : srlR x = a6 := by rw [x_e]; rfl
    repeat (first | refine run_seq ?_ | refine run_block ?_ | refine run_b ?_ | refine run_skip ?_)
    refine run_opsX (E [(3, .bx 46 [mpRT 64 28 (addG (refR x) (subR x) M1), mpST 9 9 M2, mpRT 28 64 M3, mpST 9 9 M4]), (5, .bx 30 [.v (.str a1), .v (.str a2), .v (.str a3), .v (.str a4), .v (.str a5), .v (.str a6)]), (6, .bx 64 [.v (.str a1), .v (.str a2), .v (.str a3)]), (16, .sl 30 (S.map rowV)), (17, .v (.int .i64 S.length)), (18, .v (.int .i64 i))]) rfl ?_ ?_
    · generalize mpST 9 9 M2 = m2
      generalize mpRT 28 64 M3 = m3
      generalize mpST 9 9 M4 = m4
      have hs := short_look (k := refR x) s1
      rcases idx_cases (k := refR x) (G := M1) (i := 0) with ⟨h1, h2, h3⟩ | ⟨j, l', h1, h2, h3, h4⟩
      · exact ⟨_, by simp [mpRT, x_r, x_s, bs_nil, findK_row, h1, show (M1.length : Int) < M1.length + 1 by omega]; rfl, rfl, by simp [mpRT, h3]⟩
      · rw [Nat.zero_add] at h1
        rw [h3] at hs
        obtain ⟨hj, hj2⟩ := List.getElem?_eq_some_iff.1 h2
        exact ⟨_, by simp [mpRT, x_r, x_s, bs_nil, findK_row, h1, h2, hj, hj2, show l'.length ≤ 9223372036854775806 by omega, show (l'.length + 1) * 48 ≤ 140737488355328 by omega, show l'.length + 1 ≤ 9223372036854775807 by omega]; rfl, rfl, by simp only [mpRT, h4, keys_set h2]; simp [List.map_set]⟩
    repeat (first | refine run_seq ?_ | refine run_block ?_ | refine run_b ?_ | refine run_skip ?_)
    refine run_opsX (E [(3, .bx 46 [mpRT 64 28 (addG (refR x) (subR x) M1), mpST 9 9 M2, mpRT 28 64 (addG (subR x) (refR x) M3), mpST 9 9 M4]), (5, .bx 30 [.v (.str a1), .v (.str a2), .v (.str a3), .v (.str a4), .v (.str a5), .v (.str a6)]), (16, .sl 30 (S.map rowV)), (17, .v (.int .i64 S.length)), (18, .v (.int .i64 i))]) rfl ?_ ?_
    · generalize mpRT 64 28 (addG (refR x) (subR x) M1) = m1
      generalize mpST 9 9 M2 = m2
      generalize mpST 9 9 M4 = m4
      have hs := short_look (k := subR x) s3
      rcases idx_cases (k := subR x) (G := M3) (i := 0) with ⟨h1, h2, h3⟩ | ⟨j, l', h1, h2, h3, h4⟩
      · exact ⟨_, by simp [mpRT, x_r, x_s, bs_nil, findK_row, h1, show (M3.length : Int) < M3.length + 1 by omega]; rfl, by simp, by simp [mpRT, h3]⟩
      · rw [Nat.zero_add] at h1
        rw [h3] at hs
        obtain ⟨hj, hj2⟩ := List.getElem?_eq_some_iff.1 h2
        exact ⟨_, by simp [mpRT, x_r, x_s, bs_nil, findK_row, h1, h2, hj, hj2, show l'.length ≤ 9223372036854775806 by omega, show (l'.length + 1) * 48 ≤ 140737488355328 by omega, show l'.length + 1 ≤ 9223372036854775807 by omega]; rfl, by simp, by simp only [mpRT, h4, keys_set h2]; simp [List.map_set]⟩
    repeat (first | refine run_seq ?_ | refine run_block ?_ | refine run_b ?_ | refine run_skip ?_)
    refine run_opsX (E [(3, .bx 46 [mpRT 64 28 (addG (refR x) (subR x) M1), mpST 9 9 (addG (otyR x) (oidR x) M2), mpRT 28 64 (addG (subR x) (refR x) M3), mpST 9 9 M4]), (5, .bx 30 [.v (.str a1), .v (.str a2), .v (.str a3), .v (.str a4), .v (.str a5), .v (.str a6)]), (16, .sl 30 (S.map rowV)), (17, .v (.int .i64 S.length)), (18, .v (.int .i64 i))]) rfl ?_ ?_
    · generalize mpRT 64 28 (addG (refR x) (subR x) M1) = m1
      generalize mpRT 28 64 (addG (subR x) (refR x) M3) = m3
      generalize mpST 9 9 M4 = m4
      have hs := short_look (k := otyR x) s2
      rcases idx_cases (k := otyR x) (G := M2) (i := 0) with ⟨h1, h2, h3⟩ | ⟨j, l', h1, h2, h3, h4⟩
      · exact ⟨_, by simp [mpST, ← x1e, ← x2e, bs_nil, findK_str, h1, show (M2.length : Int) < M2.length + 1 by omega]; rfl, by simp, by simp [mpST, h3, ← x1e, ← x2e, ← x4e, ← x5e]⟩
      · rw [Nat.zero_add] at h1
        rw [h3] at hs
        obtain ⟨hj, hj2⟩ := List.getElem?_eq_some_iff.1 h2
        exact ⟨_, by simp [mpST, ← x1e, ← x2e, bs_nil, findK_str, h1, h2, hj, hj2, show l'.length ≤ 9223372036854775806 by omega, show (l'.length + 1) * 16 ≤ 140737488355328 by omega, show l'.length + 1 ≤ 9223372036854775807 by omega]; rfl, by simp, by simp only [mpST, h4, keys_set h2]; simp [List.map_set, ← x1e, ← x2e, ← x4e, ← x5e]⟩
    repeat (first | refine run_seq ?_ | refine run_block ?_ | refine run_b ?_ | refine run_skip ?_ | refine run_ops (by simp[x6e, bs_nil]; rfl) rfl rfl (by simp; rfl) ?_)
    have hz : (decide (srlR x = e0)) = decide (a6 = ⟨#[]⟩) := by rw [x6e]; rfl
    refine run_cond (by simp; rfl) (fun hq => ?_) (fun hq => ?_)
    · have hq2 : srlR x = e0 := by rw [x6e]; show a6 = ⟨#[]⟩; simpa using hq
      rw [if_pos hq2] at b4
      repeat (first | refine run_seq ?_ | refine run_block ?_ | refine run_b ?_ | refine run_skip ?_)
      refine run_opsX (E [(3, .bx 46 [mpRT 64 28 (addG (refR x) (subR x) M1), mpST 9 9 (addG (otyR x) (oidR x) M2), mpRT 28 64 (addG (subR x) (refR x) M3), mpST 9 9 (addG (styR x) (sidR x) M4)]), (16, .sl 30 (S.map rowV)), (17, .v (.int .i64 S.length)), (18, .v (.int .i64 i))]) rfl ?_ ?_
      · generalize mpRT 64 28 (addG (refR x) (subR x) M1) = m1
        generalize mpST 9 9 (addG (otyR x) (oidR x) M2) = m2
        generalize mpRT 28 64 (addG (subR x) (refR x) M3) = m3
        have hs := short_look (k := styR x) s4
        rcases idx_cases (k := styR x) (G := M4) (i := 0) with ⟨h1, h2, h3⟩ | ⟨j, l', h1, h2, h3, h4⟩
        · exact ⟨_, by simp [mpST, ← x4e, ← x5e, bs_nil, findK_str, h1, show (M4.length : Int) < M4.length + 1 by omega]; rfl, by simp, by simp [mpST, h3, ← x1e, ← x2e, ← x4e, ← x5e]⟩
        · rw [Nat.zero_add] at h1
          rw [h3] at hs
          obtain ⟨hj, hj2⟩ := List.getElem?_eq_some_iff.1 h2
          exact ⟨_, by simp [mpST, ← x4e, ← x5e, bs_nil, findK_str, h1, h2, hj, hj2, show l'.length ≤ 9223372036854775806 by omega, show (l'.length + 1) * 16 ≤ 140737488355328 by omega, show l'.length + 1 ≤ 9223372036854775807 by omega]; rfl, by simp, by simp only [mpST, h4, keys_set h2]; simp [List.map_set, ← x1e, ← x2e, ← x4e, ← x5e]⟩
      repeat (first | refine run_seq ?_ | refine run_block ?_ | refine run_b ?_ | refine run_skip ?_ | refine run_ops (by simp; rfl) rfl rfl (by simp; rfl) ?_)
      refine run_inv ⟨i + 1, by omega, by omega, ?_⟩
      rw [wrap64 (by omega) (by omega)]
      simp [ixT, b1, b2, b3, b4]
    · have hq2 : ¬ srlR x = e0 := by rw [x6e]; show ¬ a6 = ⟨#[]⟩; simpa using hq
      rw [if_neg hq2] at b4
      repeat (first | refine run_seq ?_ | refine run_block ?_ | refine run_b ?_ | refine run_skip ?_ | refine run_ops (by simp; rfl) rfl rfl (by simp; rfl) ?_)
      refine run_inv ⟨i + 1, by omega, by omega, ?_⟩
      rw [wrap64 (by omega) (by omega)]
      simp [ixT, b1, b2, b3, b4]
  · simp at hc
    rw [show i = S.length by omega, List.take_length]
    unfold ixT
    repeat (first | refine run_seq ?_ | refine run_block ?_ | refine run_b ?_ | refine run_skip ?_ | refine run_ops (by simp; rfl) rfl rfl (by simp; rfl) ?_)
    refine run_ret ⟨.inr rfl, ?_⟩
    simp [rs8]
end Go.Proofs.Ytllmlcmhmkkgcaa
