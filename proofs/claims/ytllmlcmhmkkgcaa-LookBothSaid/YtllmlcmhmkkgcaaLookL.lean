/-
  Ytllmlcmhmkkgcaa: what the functions of law 5 do (12): tuples that may be, of numbers.
-/
import Derived.Test.YtllmlcmhmkkgcaaLookA
import Derived.Test.YtllmlcmhmkkgcaaLib5
set_option linter.unusedVariables false
set_option linter.unusedSimpArgs false
set_option linter.unusedSectionVars false
namespace Go.Proofs.Ytllmlcmhmkkgcaa
open Go Go.AH Go.PM
variable {Pr : CallR → CallR}

/-- entail/entaillaw1.Nm: 8 -/
def pc26 : PC :=
 (.seq
  (.ops [
   ⟨none, (some 2), .as false (.c (.str (bs []))), [], []⟩] [] [0] false)
  (.seq
   (.ops [
    ⟨none, (some 3), .bsl 9 1 false (.str (bs [])) 8 [(0, (.c (.str (bs [97])))), (1, (.c (.str (bs [98])))), (2, (.c (.str (bs [99])))), (3, (.c (.str (bs [100])))), (4, (.c (.str (bs [97, 98])))), (5, (.c (.str (bs [98, 45, 49])))), (6, (.c (.str (bs [120, 46, 121])))), (7, (.c (.str (bs [48]))))], [], []⟩,
    ⟨none, (some 4), .mv (.t 0), [], []⟩,
    ⟨none, (some 5), .bin .and (.t 4) (.c (.int .i64 7)), [], []⟩,
    ⟨none, (some 6), .ia 9 1 (.t 3) (.t 5), [], []⟩,
    ⟨none, (some 7), .load none (.t 6), [], []⟩,
    ⟨none, (some 2), .as false (.t 7), [], []⟩] [] [2] false)
   .ret))
def rs26 : List PR := [.t 2]
theorem chk26 : chkF Try.prog 26 8 pc26 rs26 = true := by decide +kernel

/-- entail/entaillaw2.Tame: 44 -/
def pc7 : PC :=
 (.seq
  (.ops [
   ⟨none, (some 2), .alloc 30 [.str (bs []), .str (bs []), .str (bs []), .str (bs []), .str (bs []), .str (bs [])], [], []⟩] [] [0, 2] false)
  (.seq
   (.ops [
    ⟨none, (some 4), .bsl 9 1 false (.str (bs [])) 2 [(0, (.c (.str (bs [97])))), (1, (.c (.str (bs [98]))))], [], []⟩,
    ⟨none, (some 5), .mv (.t 0), [], []⟩,
    ⟨none, (some 6), .bin .and (.t 5) (.c (.int .i64 1)), [], []⟩,
    ⟨none, (some 7), .ia 9 1 (.t 4) (.t 6), [], []⟩,
    ⟨none, (some 8), .load none (.t 7), [7], []⟩,
    ⟨none, (some 9), .mv (.t 0), [7, 8], []⟩,
    ⟨none, (some 10), .bin .shr (.t 9) (.c (.int .u64 1)), [7], []⟩,
    ⟨none, (some 11), .call (.c (.fn 26 [] [])) [(false, (.t 10))], [7], []⟩,
    ⟨none, (some 12), .build [.str (bs []), .str (bs [])] [(0, 1, (.t 8)), (1, 1, (.t 11))], [7], []⟩,
    ⟨none, (some 13), .bsl 9 1 false (.str (bs [])) 2 [(0, (.c (.str (bs [114])))), (1, (.c (.str (bs [115]))))], [7], []⟩,
    ⟨none, (some 14), .mv (.t 0), [7, 13], []⟩,
    ⟨none, (some 15), .bin .shr (.t 14) (.c (.int .u64 4)), [7, 13], []⟩,
    ⟨none, (some 16), .bin .and (.t 15) (.c (.int .i64 1)), [7, 13], []⟩,
    ⟨none, (some 17), .ia 9 1 (.t 13) (.t 16), [7, 13], []⟩,
    ⟨none, (some 18), .load none (.t 17), [7, 17], []⟩,
    ⟨none, (some 19), .bsl 9 1 false (.str (bs [])) 3 [(0, (.c (.str (bs [117])))), (1, (.c (.str (bs [97])))), (2, (.c (.str (bs [98]))))], [7, 17, 18], []⟩,
    ⟨none, (some 20), .mv (.t 0), [7, 17, 19], []⟩,
    ⟨none, (some 21), .bin .shr (.t 20) (.c (.int .u64 5)), [7, 17, 19], []⟩,
    ⟨none, (some 22), .bin .and (.t 21) (.c (.int .i64 255)), [7, 17, 19], []⟩,
    ⟨none, (some 23), .bin .rem (.t 22) (.c (.int .i64 3)), [7, 17, 19], []⟩,
    ⟨none, (some 24), .ia 9 1 (.t 19) (.t 23), [7, 17, 19], []⟩,
    ⟨none, (some 25), .load none (.t 24), [7, 17, 24], []⟩,
    ⟨none, (some 26), .mv (.t 0), [7, 17, 24, 25], []⟩,
    ⟨none, (some 27), .bin .shr (.t 26) (.c (.int .u64 13)), [7, 17, 24], []⟩,
    ⟨none, (some 28), .call (.c (.fn 26 [] [])) [(false, (.t 27))], [7, 17, 24], []⟩,
    ⟨none, (some 29), .build [.str (bs []), .str (bs []), .str (bs [])] [(0, 1, (.t 25)), (1, 1, (.t 28))], [7, 17, 24], []⟩,
    ⟨none, (some 30), .build [.str (bs []), .str (bs []), .str (bs []), .str (bs []), .str (bs []), .str (bs [])] [(0, 2, (.t 12)), (2, 1, (.t 18)), (3, 3, (.t 29))], [], []⟩,
    ⟨none, (some 3), .alloc 30 [.str (bs []), .str (bs []), .str (bs []), .str (bs []), .str (bs []), .str (bs [])], [], []⟩,
    ⟨none, none, .store 6 (.t 3) (.t 30), [], []⟩] [] [0, 2, 3] true)
   (.seq
    (.seq
     (.ops [
      ⟨none, (some 31), .mv (.t 0), [], []⟩,
      ⟨none, (some 32), .bin .shr (.t 31) (.c (.int .u64 16)), [], []⟩,
      ⟨none, (some 33), .bin .and (.t 32) (.c (.int .i64 3)), [], []⟩,
      ⟨none, (some 34), .bin .eql (.t 33) (.c (.int .i64 0)), [], []⟩] [] [0, 2, 3, 34] false)
     (.cond (.t 34)
      (.ops [
       ⟨none, (some 35), .bsl 9 1 false (.str (bs [])) 2 [(0, (.c (.str (bs [114])))), (1, (.c (.str (bs [115]))))], [], []⟩,
       ⟨none, (some 36), .mv (.t 0), [], []⟩,
       ⟨none, (some 37), .bin .shr (.t 36) (.c (.int .u64 18)), [], []⟩,
       ⟨none, (some 38), .bin .and (.t 37) (.c (.int .i64 1)), [], []⟩,
       ⟨none, (some 39), .ia 9 1 (.t 35) (.t 38), [], []⟩,
       ⟨none, (some 40), .load none (.t 39), [], []⟩,
       ⟨none, (some 41), .fa 3 3 (.t 3), [], []⟩,
       ⟨none, (some 42), .fa 2 1 (.t 41), [], []⟩,
       ⟨none, none, .store 1 (.t 42) (.t 40), [], []⟩] [] [2, 3] false)
      .skip))
    (.seq
     (.ops [
      ⟨none, (some 43), .load (some 6) (.t 3), [], []⟩,
      ⟨none, none, .store 6 (.t 2) (.t 43), [], []⟩] [] [2] false)
     .ret))))
def rs7 : List PR := [.c 2 (some 6)]
theorem chk7 : chkF Try.prog 7 44 pc7 rs7 = true := by decide +kernel

/-- entail/entaillaw2.Tames: 24 -/
def pc6 : PC :=
 (.seq
  (.ops [
   ⟨none, (some 2), .as false (.c (.sl 30 [])), [], []⟩] [] [0] false)
  (.seq
   (.ops [
    ⟨none, (some 3), .as false (.c (.sl 30 [])), [], []⟩] [] [0, 3] false)
   (.seq
    (.seq
     (.ops [
      ⟨none, (some 4), .as false (.c (.int .i64 0)), [], []⟩] [] [0, 3, 4] false)
     (.block 0
      (.loop
       (.seq
        (.seq
         (.ops [
          ⟨none, (some 5), .mv (.t 4), [], []⟩,
          ⟨none, (some 6), .mv (.t 0), [], []⟩,
          ⟨none, (some 7), .len 1 (.t 6), [], []⟩,
          ⟨none, (some 8), .bin .lss (.t 5) (.t 7), [], []⟩,
          ⟨none, (some 9), .mv (.t 8), [], []⟩,
          ⟨(some (9, true)), (some 10), .mv (.t 4), [], []⟩,
          ⟨(some (9, true)), (some 11), .bin .lss (.t 10) (.c (.int .i64 80)), [], []⟩,
          ⟨none, (some 12), .pick (.t 9) (.t 11) (.c (.bool false)), [], []⟩] [] [0, 3, 4, 12] false)
         (.cond (.t 12)
          .skip
          (.exit 0)))
        (.seq
         (.block 1
          (.ops [
           ⟨none, (some 15), .mv (.t 3), [], []⟩,
           ⟨none, (some 16), .mv (.t 0), [], []⟩,
           ⟨none, (some 17), .mv (.t 4), [], []⟩,
           ⟨none, (some 18), .ia 2 1 (.t 16) (.t 17), [], []⟩,
           ⟨none, (some 19), .load none (.t 18), [], []⟩,
           ⟨none, (some 20), .call (.c (.fn 7 [] [])) [(false, (.t 19))], [], []⟩,
           ⟨none, (some 21), .bsl 30 6 true (.agg [.str (bs []), .str (bs []), .str (bs []), .str (bs []), .str (bs []), .str (bs [])]) 1 [(0, (.t 20))], [], []⟩,
           ⟨none, (some 22), .app 30 96 (.t 15) (.t 21), [], []⟩,
           ⟨none, (some 3), .as false (.t 22), [], []⟩] [] [0, 3, 4] false))
         (.ops [
          ⟨none, (some 13), .mv (.t 4), [], []⟩,
          ⟨none, (some 14), .bin .add (.t 13) (.c (.int .i64 1)), [], []⟩,
          ⟨none, (some 4), .as false (.t 14), [], []⟩] [] [0, 3, 4] false))))))
    (.seq
     (.ops [
      ⟨none, (some 23), .mv (.t 3), [], []⟩,
      ⟨none, (some 2), .as true (.t 23), [], []⟩] [] [2] false)
     .ret))))
def rs6 : List PR := [.t 2]
theorem chk6 : chkF Try.prog 6 24 pc6 rs6 = true := by decide +kernel


theorem snd_Nm (n : Int) : ∃ s, SndP Try.prog Fn5 Pr 26 ([.int .i64 n].map .v) [.v (.str s)] ([.int .i64 n].map .v) := by
  obtain ⟨j, hj, e⟩ := andI_leI n 7 (by omega) (by omega)
  obtain ⟨s, hs⟩ : ∃ s, [bs [97], bs [98], bs [99], bs [100], bs [97, 98], bs [98, 45, 49], bs [120, 46, 121], bs [48]][j]? = some s := ⟨_, List.getElem?_eq_getElem (by simp; omega)⟩
  have hs2 := congrArg (Option.map RV.str) hs
  rw [← List.getElem?_map] at hs2
  simp only [List.map_cons, List.map_nil, Option.map_some] at hs2
  obtain ⟨_, hs3⟩ := List.getElem?_eq_some_iff.1 hs2
  refine ⟨s, ?_⟩
  refine snd_of rfl chk26 (by simp) ?_ rfl
  rw [enter_plain _ _ (by simp)]
  simp only [pc26, plainL]
  refine run_of ?_
  repeat (first | refine run_seq ?_ | refine run_block ?_ | refine run_b ?_ | refine run_skip ?_ | refine run_ops (by simp; rfl) rfl rfl (by simp; rfl) ?_)
  repeat (first | refine run_seq ?_ | refine run_block ?_ | refine run_b ?_ | refine run_skip ?_)
  refine run_ops (by simp[e, hs2, hs3, show (j : Int) < 8 by omega, show j < 8 by omega]; rfl) rfl rfl (by simp; rfl) ?_
  refine run_ret ⟨.inr rfl, ?_⟩
  simp [rs26]

theorem snd_Nm' : ∃ nm : Int → ByteArray, ∀ n, SndP Try.prog Fn5 Pr 26 ([.int .i64 n].map .v) [.v (.str (nm n))] ([.int .i64 n].map .v) :=
  ⟨fun n => Classical.choose (snd_Nm n), fun n => Classical.choose_spec (snd_Nm n)⟩

/-- One of two. -/
theorem pick2 {x y : ByteArray} {j : Nat} (hj : j ≤ 1) : ∃ s, (s = x ∨ s = y) ∧ [RV.str x, RV.str y][j]? = some (.str s) := by
  rcases (show j = 0 ∨ j = 1 by omega) with rfl | rfl
  · exact ⟨x, .inl rfl, rfl⟩
  · exact ⟨y, .inr rfl, rfl⟩
theorem pick3 {x y z : ByteArray} {j : Nat} (hj : j < 3) : ∃ s, [RV.str x, RV.str y, RV.str z][j]? = some (.str s) := by
  rcases (show j = 0 ∨ j = 1 ∨ j = 2 by omega) with rfl | rfl | rfl
  · exact ⟨x, rfl⟩
  · exact ⟨y, rfl⟩
  · exact ⟨z, rfl⟩

/-- A tuple of a number. -/
def Tm5 (t : Row 6) : Prop := (otyR t = bs [97] ∨ otyR t = bs [98]) ∧ (relR t = bs [114] ∨ relR t = bs [115])

set_option maxHeartbeats 4000000 in
theorem snd_Tame (n : Int) : ∃ t, Tm5 t ∧ SndP Try.prog Fn5 Pr 7 ([.int .i64 n].map .v) [.v (rowV t)] ([.int .i64 n].map .v) := by
  obtain ⟨nm, hnm⟩ := snd_Nm' (Pr := Pr)
  obtain ⟨j1, k1, e1⟩ := andI_leI n 1 (by omega) (by omega)
  obtain ⟨j2, k2, e2⟩ := andI_leI (n.fdiv 16) 1 (by omega) (by omega)
  obtain ⟨j3, k3, e3⟩ := andI_leI (n.fdiv 32) 255 (by omega) (by omega)
  obtain ⟨j4, k4, e4⟩ := andI_leI (n.fdiv 262144) 1 (by omega) (by omega)
  obtain ⟨s1, p1, h1⟩ := pick2 (x := bs [97]) (y := bs [98]) (show j1 ≤ 1 by omega)
  obtain ⟨s2, p2, h2⟩ := pick2 (x := bs [114]) (y := bs [115]) (show j2 ≤ 1 by omega)
  obtain ⟨s3, h3⟩ := pick3 (x := bs [117]) (y := bs [97]) (z := bs [98]) (show j3 % 3 < 3 by omega)
  obtain ⟨s4, p4, h4⟩ := pick2 (x := bs [114]) (y := bs [115]) (show j4 ≤ 1 by omega)
  obtain ⟨_, h1'⟩ := List.getElem?_eq_some_iff.1 h1
  obtain ⟨_, h2'⟩ := List.getElem?_eq_some_iff.1 h2
  obtain ⟨_, h4'⟩ := List.getElem?_eq_some_iff.1 h4
  have e3' : (j3 : Int).tmod 3 = ((j3 % 3 : Nat) : Int) := by rw [Int.tmod_eq_emod_of_nonneg (by omega)]; omega
  have q3l : j3 % 3 < 3 := by omega
  generalize j3 % 3 = q3 at h3 e3' q3l
  obtain ⟨_, h3'⟩ := List.getElem?_eq_some_iff.1 h3
  have key : ∀ (s6 : ByteArray), (∃ b : Bool, True) → True := fun _ _ => trivial
  clear key
  obtain ⟨z, hz⟩ : ∃ z : Bool, z = (andI .i64 (n.fdiv 65536) 3 == 0) := ⟨_, rfl⟩
  refine ⟨⟨[s1, nm (n.fdiv 2), s2, s3, nm (n.fdiv 8192), if z then s4 else bs []], rfl⟩, ⟨p1, p2⟩, ?_⟩
  refine snd_of rfl chk7 (by simp) ?_ rfl
  rw [enter_plain _ _ (by simp)]
  simp only [pc7, plainL]
  refine run_of ?_
  repeat (first | refine run_seq ?_ | refine run_block ?_ | refine run_b ?_ | refine run_skip ?_ | refine run_ops (by simp; rfl) rfl rfl (by simp; rfl) ?_)
  repeat (first | refine run_seq ?_ | refine run_block ?_ | refine run_b ?_ | refine run_skip ?_)
  refine run_opsC (by simp[e1, h1, h1', show (j1 : Int) < 2 by omega, show j1 < 2 by omega]; rfl) ?_
  refine runO_call (xs := [.int .i64 (n.fdiv 2)]) (hnm _) (by simp) (by simp) rfl (.inl rfl) (by simp [resT]; rfl) (by simp [e2, e3, e3', h2, h2', h3, h3', show (j2 : Int) < 2 by omega, show j2 < 2 by omega, show (q3 : Int) < 3 by omega, q3l]; rfl) ?_
  refine runO_call (xs := [.int .i64 (n.fdiv 8192)]) (hnm _) (by simp) (by simp) rfl (.inl rfl) (by simp [resT]; rfl) (by simp; rfl) ?_
  refine runO_nil rfl (by simp; rfl) ?_
  repeat (first | refine run_seq ?_ | refine run_block ?_ | refine run_b ?_ | refine run_skip ?_ | refine run_ops (by simp; rfl) rfl rfl (by simp; rfl) ?_)
  refine run_cond (by simp; rfl) (fun hq => ?_) (fun hq => ?_)
  · have hz2 : z = true := by rw [hz]; simpa using hq
    repeat (first | refine run_seq ?_ | refine run_block ?_ | refine run_b ?_ | refine run_skip ?_ | refine run_ops (by simp[e4, h4, h4', show (j4 : Int) < 2 by omega, show j4 < 2 by omega]; rfl) rfl rfl (by simp; rfl) ?_)
    refine run_ret ⟨.inr rfl, ?_⟩
    simp [rs7, hz2, rowV]
  · have hz2 : z = false := by rw [hz]; simpa using hq
    repeat (first | refine run_seq ?_ | refine run_block ?_ | refine run_b ?_ | refine run_skip ?_ | refine run_ops (by simp; rfl) rfl rfl (by simp; rfl) ?_)
    refine run_ret ⟨.inr rfl, ?_⟩
    simp [rs7, hz2, rowV]

theorem snd_Tame' : ∃ tm : Int → Row 6, ∀ n, Tm5 (tm n) ∧ SndP Try.prog Fn5 Pr 7 ([.int .i64 n].map .v) [.v (rowV (tm n))] ([.int .i64 n].map .v) :=
  ⟨fun n => Classical.choose (snd_Tame n), fun n => Classical.choose_spec (snd_Tame n)⟩

set_option maxHeartbeats 1000000 in
theorem snd_Tames (l : List Int) : ∃ m : List (Row 6), (∀ t ∈ m, Tm5 t) ∧ m.length ≤ 80 ∧ SndP Try.prog Fn5 Pr 6 ([.sl 2 (l.map (.int .i64))].map .v) [.sl 30 (m.map rowV)] ([.sl 2 (l.map (.int .i64))].map .v) := by
  obtain ⟨tm, htm⟩ := snd_Tame' (Pr := Pr)
  refine ⟨(l.take 80).map tm, fun t ht => ?_, by simp; omega, ?_⟩
  · obtain ⟨n, _, rfl⟩ := List.mem_map.1 ht
    exact (htm n).1
  refine snd_of rfl chk6 (by simp) ?_ rfl
  rw [enter_plain _ _ (by simp)]
  simp only [pc6, plainL]
  refine run_of ?_
  repeat (first | refine run_seq ?_ | refine run_block ?_ | refine run_b ?_ | refine run_skip ?_ | refine run_ops (by simp; rfl) rfl rfl (by simp; rfl) ?_)
  refine run_loop (α := Nat) (fun i => E [(0, .v (.sl 2 (l.map (.int .i64)))), (3, .sl 30 (((l.take i).map tm).map rowV)), (4, .v (.int .i64 i))])
    (fun i => i ≤ l.length ∧ i ≤ 80) (fun i => l.length - i) 0 (by simp) (by simp) ?_
  intro i ⟨hi, h80⟩
  by_cases hc : i < l.length
  · repeat (first | refine run_seq ?_ | refine run_block ?_ | refine run_b ?_ | refine run_skip ?_ | refine run_ops (by simp[hc]; rfl) rfl rfl (by simp; rfl) ?_)
    refine run_cond (by simp; rfl) (fun hq => ?_) (fun hq => run_exit rfl ?_)
    · simp at hq
      obtain ⟨x, hx⟩ : ∃ x, x = l[i] := ⟨_, rfl⟩
      have g : l[i]? = some x := by rw [hx]; exact List.getElem?_eq_getElem hc
      have hn : l.take (i + 1) = l.take i ++ [x] := by rw [List.take_add_one, g]; rfl
      have hlen : (l.take i).length = i := by rw [List.length_take]; omega
      repeat (first | refine run_seq ?_ | refine run_block ?_ | refine run_b ?_ | refine run_skip ?_)
      refine run_opsC (by simp[hc, ← hx]; rfl) ?_
      refine runO_call (xs := [.int .i64 x]) (htm x).2 rfl (by simp) rfl (.inl (by simp)) (by simp [resT]; rfl) (by simp [hlen, show min i l.length = i by omega, show (i + 1) * 96 ≤ 140737488355328 by omega, show i + 1 ≤ 9223372036854775807 by omega, show i ≤ 9223372036854775806 by omega]; rfl) ?_
      refine runO_nil rfl (by simp; rfl) ?_
      repeat (first | refine run_seq ?_ | refine run_block ?_ | refine run_b ?_ | refine run_skip ?_ | refine run_ops (by simp; rfl) rfl rfl (by simp; rfl) ?_)
      refine run_inv ⟨i + 1, ⟨by omega, by omega⟩, by omega, ?_⟩
      rw [hn, wrap64 (by omega) (by omega)]; simp
    · simp at hq
      rw [show i = 80 by omega]
      repeat (first | refine run_seq ?_ | refine run_block ?_ | refine run_b ?_ | refine run_skip ?_ | refine run_ops (by simp; rfl) rfl rfl (by simp; rfl) ?_)
      refine run_ret ⟨.inr rfl, ?_⟩
      simp [rs6]
  · repeat (first | refine run_seq ?_ | refine run_block ?_ | refine run_b ?_ | refine run_skip ?_ | refine run_ops (by simp[hc]; rfl) rfl rfl (by simp; rfl) ?_)
    refine run_cond (t := false) (by simp) (fun hq => by cases hq) (fun hq => run_exit rfl ?_)
    obtain rfl : i = l.length := by omega
    repeat (first | refine run_seq ?_ | refine run_block ?_ | refine run_b ?_ | refine run_skip ?_ | refine run_ops (by simp; rfl) rfl rfl (by simp; rfl) ?_)
    refine run_ret ⟨.inr rfl, ?_⟩
    simp [rs6, List.take_of_length_le, h80]
end Go.Proofs.Ytllmlcmhmkkgcaa
