/-
  Ytllmlcmhmkkgcaa: what the functions of law 5 do (10): the index, what it answers.
-/
import Derived.Test.YtllmlcmhmkkgcaaLookI
import Derived.Test.YtllmlcmhmkkgcaaLib5
set_option linter.unusedVariables false
set_option linter.unusedSimpArgs false
set_option linter.unusedSectionVars false
namespace Go.Proofs.Ytllmlcmhmkkgcaa
open Go Go.AH Go.PM
variable {Pr : CallR → CallR}

/-- slices.Clone[[]entail/api.Sub,entail/api.Sub]: 8 -/
def pc29 : PC :=
 (.seq
  (.ops [
   ⟨none, (some 2), .as false (.c (.sl 28 [])), [], []⟩] [] [0] false)
  (.seq
   (.seq
    (.ops [
     ⟨none, (some 3), .mv (.t 0), [], []⟩,
     ⟨none, (some 4), .eqF false .l (.t 3) (.c (.sl 28 [])), [], []⟩] [] [0, 4] false)
    (.cond (.t 4)
     (.seq
      (.ops [
       ⟨none, (some 2), .as false (.c (.sl 28 [])), [], []⟩] [] [2] false)
      .ret)
     .skip))
   (.seq
    (.ops [
     ⟨none, (some 5), .bsl 28 3 true (.agg [.str (bs []), .str (bs []), .str (bs [])]) 0 [], [], []⟩,
     ⟨none, (some 6), .mv (.t 0), [], []⟩,
     ⟨none, (some 7), .app 28 48 (.t 5) (.t 6), [], []⟩,
     ⟨none, (some 2), .as false (.t 7), [], []⟩] [] [2] false)
    .ret)))
def rs29 : List PR := [.t 2]
theorem chk29 : chkF Try.prog 29 8 pc29 rs29 = true := by decide +kernel

/-- slices.Clone[[]entail/api.Ref,entail/api.Ref]: 8 -/
def pc30 : PC :=
 (.seq
  (.ops [
   ⟨none, (some 2), .as false (.c (.sl 64 [])), [], []⟩] [] [0] false)
  (.seq
   (.seq
    (.ops [
     ⟨none, (some 3), .mv (.t 0), [], []⟩,
     ⟨none, (some 4), .eqF false .l (.t 3) (.c (.sl 64 [])), [], []⟩] [] [0, 4] false)
    (.cond (.t 4)
     (.seq
      (.ops [
       ⟨none, (some 2), .as false (.c (.sl 64 [])), [], []⟩] [] [2] false)
      .ret)
     .skip))
   (.seq
    (.ops [
     ⟨none, (some 5), .bsl 64 3 true (.agg [.str (bs []), .str (bs []), .str (bs [])]) 0 [], [], []⟩,
     ⟨none, (some 6), .mv (.t 0), [], []⟩,
     ⟨none, (some 7), .app 64 48 (.t 5) (.t 6), [], []⟩,
     ⟨none, (some 2), .as false (.t 7), [], []⟩] [] [2] false)
    .ret)))
def rs30 : List PR := [.t 2]
theorem chk30 : chkF Try.prog 30 8 pc30 rs30 = true := by decide +kernel

/-- (*entail/look.left).Subs: 16 -/
def pc13 : PC :=
 (.seq
  (.ops [
   ⟨none, (some 4), .box 26 (.t 1), [], []⟩,
   ⟨none, (some 6), .as false (.c (.sl 28 [])), [], []⟩] [] [0, 2, 4] false)
  (.seq
   (.ops [
    ⟨none, (some 7), .mv (.t 0), [], []⟩,
    ⟨none, (some 8), .nilck (.t 7), [], []⟩,
    ⟨none, (some 9), .fa 0 1 (.t 8), [], []⟩,
    ⟨none, (some 10), .load none (.t 9), [], []⟩,
    ⟨none, (some 11), .load (some 2) (.t 4), [], []⟩,
    ⟨none, (some 12), .mv (.t 2), [], []⟩,
    ⟨none, (some 13), .build [.str (bs []), .str (bs []), .str (bs [])] [(0, 2, (.t 11)), (2, 1, (.t 12))], [], []⟩,
    ⟨none, (some 14), .lookup 64 (true, [.s, .s, .s]) (.sl 28 []) false (.t 10) (.t 13), [], []⟩,
    ⟨none, (some 15), .call (.c (.fn 29 [] [])) [(false, (.t 14))], [], []⟩,
    ⟨none, (some 6), .as false (.t 15), [], []⟩] [] [6] true)
   .ret))
def rs13 : List PR := [.t 6]
theorem chk13 : chkF Try.prog 13 16 pc13 rs13 = true := by decide +kernel

/-- (*entail/look.right).Objs: 12 -/
def pc15 : PC :=
 (.seq
  (.ops [
   ⟨none, (some 3), .box 28 (.t 1), [], []⟩,
   ⟨none, (some 4), .as false (.c (.sl 64 [])), [], []⟩] [] [0, 3] false)
  (.seq
   (.ops [
    ⟨none, (some 5), .mv (.t 0), [], []⟩,
    ⟨none, (some 6), .nilck (.t 5), [], []⟩,
    ⟨none, (some 7), .fa 0 1 (.t 6), [], []⟩,
    ⟨none, (some 8), .load none (.t 7), [], []⟩,
    ⟨none, (some 9), .load (some 3) (.t 3), [], []⟩,
    ⟨none, (some 10), .lookup 28 (true, [.s, .s, .s]) (.sl 64 []) false (.t 8) (.t 9), [], []⟩,
    ⟨none, (some 11), .call (.c (.fn 30 [] [])) [(false, (.t 10))], [], []⟩,
    ⟨none, (some 4), .as false (.t 11), [], []⟩] [] [4] true)
   .ret))
def rs15 : List PR := [.t 4]
theorem chk15 : chkF Try.prog 15 12 pc15 rs15 = true := by decide +kernel

/-- (*entail/look.left).Types: 12 -/
def pc11 : PC :=
 (.seq
  (.ops [
   ⟨none, (some 4), .as false (.c (.sl 9 [])), [], []⟩] [] [0, 1] false)
  (.seq
   (.ops [
    ⟨none, (some 5), .mv (.t 0), [], []⟩,
    ⟨none, (some 6), .nilck (.t 5), [], []⟩,
    ⟨none, (some 7), .fa 1 1 (.t 6), [], []⟩,
    ⟨none, (some 8), .load none (.t 7), [], []⟩,
    ⟨none, (some 9), .mv (.t 1), [], []⟩,
    ⟨none, (some 10), .lookup 9 (false, [.s]) (.sl 9 []) false (.t 8) (.t 9), [], []⟩,
    ⟨none, (some 11), .call (.c (.fn 28 [] [])) [(false, (.t 10))], [], []⟩,
    ⟨none, (some 4), .as false (.t 11), [], []⟩] [] [4] false)
   .ret))
def rs11 : List PR := [.t 4]
theorem chk11 : chkF Try.prog 11 12 pc11 rs11 = true := by decide +kernel

/-- (*entail/look.right).Users: 12 -/
def pc12 : PC :=
 (.seq
  (.ops [
   ⟨none, (some 4), .as false (.c (.sl 9 [])), [], []⟩] [] [0, 1] false)
  (.seq
   (.ops [
    ⟨none, (some 5), .mv (.t 0), [], []⟩,
    ⟨none, (some 6), .nilck (.t 5), [], []⟩,
    ⟨none, (some 7), .fa 1 1 (.t 6), [], []⟩,
    ⟨none, (some 8), .load none (.t 7), [], []⟩,
    ⟨none, (some 9), .mv (.t 1), [], []⟩,
    ⟨none, (some 10), .lookup 9 (false, [.s]) (.sl 9 []) false (.t 8) (.t 9), [], []⟩,
    ⟨none, (some 11), .call (.c (.fn 28 [] [])) [(false, (.t 10))], [], []⟩,
    ⟨none, (some 4), .as false (.t 11), [], []⟩] [] [4] false)
   .ret))
def rs12 : List PR := [.t 4]
theorem chk12 : chkF Try.prog 12 12 pc12 rs12 = true := by decide +kernel


theorem snd_cloneSub (l : List (Row 3)) (hl : l.length ≤ 1000000) :
    SndP Try.prog Fn5 Pr 29 ([.sl 28 (l.map rowV)].map .v) [.sl 28 (l.map rowV)] ([.sl 28 (l.map rowV)].map .v) :=
  snd_clone rfl chk29 _ (by rw [List.length_map]; omega) (by rw [List.length_map]; omega)
theorem snd_cloneRef (l : List (Row 3)) (hl : l.length ≤ 1000000) :
    SndP Try.prog Fn5 Pr 30 ([.sl 64 (l.map rowV)].map .v) [.sl 64 (l.map rowV)] ([.sl 64 (l.map rowV)].map .v) :=
  snd_clone rfl chk30 _ (by rw [List.length_map]; omega) (by rw [List.length_map]; omega)

/-- A map from rows to lists of rows; from texts to lists of texts: as values. -/
def mpR (kt e : TypeId) (G : List (Row 3 × List (Row 3))) : RV := .mp kt (G.map fun p => rowV p.1) (G.map fun p => .sl e (p.2.map rowV))
def mpS (kt e : TypeId) (G : List (ByteArray × List ByteArray)) : RV := .mp kt (G.map fun p => .str p.1) (G.map fun p => .sl e (p.2.map .str))

set_option maxHeartbeats 1000000 in
theorem snd_Subs (G : List (Row 3 × List (Row 3))) (m : RV) (o : Row 2) (r : ByteArray) (hG : shortG 1000000 G) :
    SndP Try.prog Fn5 Pr 13 ([.bx [mpR 64 28 G, m], rowV o, .str r].map .v) [.sl 28 ((lookG (mkRef o r) G).map rowV)] ([.bx [mpR 64 28 G, m], rowV o, .str r].map .v) := by
  have hs := short_look (k := mkRef o r) hG
  obtain ⟨b1, b2, o_e⟩ := row2 o; have o_1 : o.1 = [b1, b2] := (by rw [o_e]); have o_f : RV.agg [.str b1, .str b2] = rowV o := (by rw [o_e]; rfl); have o_c : (rowV o).cells = [.str b1, .str b2] := (by rw [o_e]; rfl)
  have hr : RV.agg [.str b1, .str b2, .str r] = rowV (mkRef o r) := by rw [o_e]; rfl
  refine snd_of rfl chk13 (by simp) ?_ rfl
  rw [enter_plain _ _ (by simp)]
  simp only [pc13, plainL]
  refine run_of ?_
  repeat (first | refine run_seq ?_ | refine run_block ?_ | refine run_b ?_ | refine run_skip ?_ | refine run_ops (by simp[o_1]; rfl) rfl rfl (by simp; rfl) ?_)
  repeat (first | refine run_seq ?_ | refine run_block ?_ | refine run_b ?_ | refine run_skip ?_)
  rcases idx_cases (k := mkRef o r) (G := G) (i := 0) with ⟨h1, h2, _⟩ | ⟨j, l, h1, h2, h3, _⟩
  · refine run_opsC (by simp[bs_nil, hr, mpR, findK_row, h1]; rfl) ?_
    refine runO_call (xs := [.sl 28 (([] : List (Row 3)).map rowV)]) (snd_cloneSub [] (by simp)) rfl (by simp) rfl (.inl (by simp)) (by simp [resT]; rfl) (by simp; rfl) ?_
    refine runO_nil rfl (by simp; rfl) ?_
    refine run_ret ⟨.inr rfl, ?_⟩
    simp [rs13, h2]
  · rw [Nat.zero_add] at h1
    rw [h3] at hs
    refine run_opsC (by simp[bs_nil, hr, mpR, findK_row, h1, h2]; rfl) ?_
    refine runO_call (xs := [.sl 28 (l.map rowV)]) (snd_cloneSub l hs) rfl (by simp) rfl (.inl (by simp)) (by simp [resT]; rfl) (by simp; rfl) ?_
    refine runO_nil rfl (by simp; rfl) ?_
    refine run_ret ⟨.inr rfl, ?_⟩
    simp [rs13, h3]

set_option maxHeartbeats 1000000 in
theorem snd_Objs (G : List (Row 3 × List (Row 3))) (m : RV) (o : Row 3) (hG : shortG 1000000 G) :
    SndP Try.prog Fn5 Pr 15 ([.bx [mpR 28 64 G, m], rowV o].map .v) [.sl 64 ((lookG o G).map rowV)] ([.bx [mpR 28 64 G, m], rowV o].map .v) := by
  have hs := short_look (k := o) hG
  obtain ⟨b1, b2, b3, o_e⟩ := row3 o; have o_1 : o.1 = [b1, b2, b3] := (by rw [o_e]); have o_f : RV.agg [.str b1, .str b2, .str b3] = rowV o := (by rw [o_e]; rfl); have o_c : (rowV o).cells = [.str b1, .str b2, .str b3] := (by rw [o_e]; rfl)
  refine snd_of rfl chk15 (by simp) ?_ rfl
  rw [enter_plain _ _ (by simp)]
  simp only [pc15, plainL]
  refine run_of ?_
  repeat (first | refine run_seq ?_ | refine run_block ?_ | refine run_b ?_ | refine run_skip ?_ | refine run_ops (by simp[o_1]; rfl) rfl rfl (by simp; rfl) ?_)
  repeat (first | refine run_seq ?_ | refine run_block ?_ | refine run_b ?_ | refine run_skip ?_)
  rcases idx_cases (k := o) (G := G) (i := 0) with ⟨h1, h2, _⟩ | ⟨j, l, h1, h2, h3, _⟩
  · refine run_opsC (by simp[bs_nil, o_f, mpR, findK_row, h1]; rfl) ?_
    refine runO_call (xs := [.sl 64 (([] : List (Row 3)).map rowV)]) (snd_cloneRef [] (by simp)) rfl (by simp) rfl (.inl (by simp)) (by simp [resT]; rfl) (by simp; rfl) ?_
    refine runO_nil rfl (by simp; rfl) ?_
    refine run_ret ⟨.inr rfl, ?_⟩
    simp [rs15, h2]
  · rw [Nat.zero_add] at h1
    rw [h3] at hs
    refine run_opsC (by simp[bs_nil, o_f, mpR, findK_row, h1, h2]; rfl) ?_
    refine runO_call (xs := [.sl 64 (l.map rowV)]) (snd_cloneRef l hs) rfl (by simp) rfl (.inl (by simp)) (by simp [resT]; rfl) (by simp; rfl) ?_
    refine runO_nil rfl (by simp; rfl) ?_
    refine run_ret ⟨.inr rfl, ?_⟩
    simp [rs15, h3]

set_option maxHeartbeats 1000000 in
theorem snd_Types (hP : PrOk Pr) (G : List (ByteArray × List ByteArray)) (m : RV) (t : ByteArray) (hG : shortG 1000000 G) :
    SndP Try.prog Fn5 Pr 11 ([.bx [m, mpS 9 9 G], .str t].map .v) [.sl 9 ((setS bl (lookG t G)).map .str)] ([.bx [m, mpS 9 9 G], .str t].map .v) := by
  have hs := short_look (k := t) hG
  refine snd_of rfl chk11 (by simp) ?_ rfl
  rw [enter_plain _ _ (by simp)]
  simp only [pc11, plainL]
  refine run_of ?_
  repeat (first | refine run_seq ?_ | refine run_block ?_ | refine run_b ?_ | refine run_skip ?_ | refine run_ops (by simp; rfl) rfl rfl (by simp; rfl) ?_)
  repeat (first | refine run_seq ?_ | refine run_block ?_ | refine run_b ?_ | refine run_skip ?_)
  rcases idx_cases (k := t) (G := G) (i := 0) with ⟨h1, h2, _⟩ | ⟨j, l, h1, h2, h3, _⟩
  · refine run_opsC (by simp[bs_nil, mpS, findK_str, h1]; rfl) ?_
    refine runO_call (xs := [.sl 9 (([] : List ByteArray).map .str)]) (snd_once hP [] (by simp)) rfl (by simp) rfl (.inl (by simp)) (by simp [resT]; rfl) (by simp; rfl) ?_
    refine runO_nil rfl (by simp; rfl) ?_
    refine run_ret ⟨.inr rfl, ?_⟩
    simp [rs11, h2]
  · rw [Nat.zero_add] at h1
    rw [h3] at hs
    refine run_opsC (by simp[bs_nil, mpS, findK_str, h1, h2]; rfl) ?_
    refine runO_call (xs := [.sl 9 (l.map .str)]) (snd_once hP l hs) rfl (by simp) rfl (.inl (by simp)) (by simp [resT]; rfl) (by simp; rfl) ?_
    refine runO_nil rfl (by simp; rfl) ?_
    refine run_ret ⟨.inr rfl, ?_⟩
    simp [rs11, h3]

set_option maxHeartbeats 1000000 in
theorem snd_Users (hP : PrOk Pr) (G : List (ByteArray × List ByteArray)) (m : RV) (t : ByteArray) (hG : shortG 1000000 G) :
    SndP Try.prog Fn5 Pr 12 ([.bx [m, mpS 9 9 G], .str t].map .v) [.sl 9 ((setS bl (lookG t G)).map .str)] ([.bx [m, mpS 9 9 G], .str t].map .v) := by
  have hs := short_look (k := t) hG
  refine snd_of rfl chk12 (by simp) ?_ rfl
  rw [enter_plain _ _ (by simp)]
  simp only [pc12, plainL]
  refine run_of ?_
  repeat (first | refine run_seq ?_ | refine run_block ?_ | refine run_b ?_ | refine run_skip ?_ | refine run_ops (by simp; rfl) rfl rfl (by simp; rfl) ?_)
  repeat (first | refine run_seq ?_ | refine run_block ?_ | refine run_b ?_ | refine run_skip ?_)
  rcases idx_cases (k := t) (G := G) (i := 0) with ⟨h1, h2, _⟩ | ⟨j, l, h1, h2, h3, _⟩
  · refine run_opsC (by simp[bs_nil, mpS, findK_str, h1]; rfl) ?_
    refine runO_call (xs := [.sl 9 (([] : List ByteArray).map .str)]) (snd_once hP [] (by simp)) rfl (by simp) rfl (.inl (by simp)) (by simp [resT]; rfl) (by simp; rfl) ?_
    refine runO_nil rfl (by simp; rfl) ?_
    refine run_ret ⟨.inr rfl, ?_⟩
    simp [rs12, h2]
  · rw [Nat.zero_add] at h1
    rw [h3] at hs
    refine run_opsC (by simp[bs_nil, mpS, findK_str, h1, h2]; rfl) ?_
    refine runO_call (xs := [.sl 9 (l.map .str)]) (snd_once hP l hs) rfl (by simp) rfl (.inl (by simp)) (by simp [resT]; rfl) (by simp; rfl) ?_
    refine runO_nil rfl (by simp; rfl) ?_
    refine run_ret ⟨.inr rfl, ?_⟩
    simp [rs12, h3]
end Go.Proofs.Ytllmlcmhmkkgcaa
