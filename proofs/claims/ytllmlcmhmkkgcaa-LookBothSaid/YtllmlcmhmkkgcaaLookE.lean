/-
  Ytllmlcmhmkkgcaa: what the functions of law 5 do (5): places in sets.
-/
import Derived.Test.YtllmlcmhmkkgcaaLookB
set_option linter.unusedVariables false
set_option linter.unusedSimpArgs false
set_option linter.unusedSectionVars false
namespace Go.Proofs.Ytllmlcmhmkkgcaa
open Go Go.AH Go.PM
variable {Pr : CallR → CallR}

/-- entail/entailref1.place: 27 -/
def pc31 : PC :=
 (.seq
  (.ops [
   ⟨none, (some 3), .box 30 (.t 1), [], []⟩,
   ⟨none, (some 4), .as false (.c (.int .i64 0)), [], []⟩] [] [0, 3] false)
  (.seq
   (.ops [
    ⟨none, (some 8), .mv (.t 0), [], []⟩,
    ⟨none, (some 9), .len 1 (.t 8), [], []⟩,
    ⟨none, (some 5), .as false (.c (.int .i64 0)), [], []⟩,
    ⟨none, (some 6), .as false (.t 9), [], []⟩] [] [0, 3, 5, 6] false)
   (.seq
    (.block 0
     (.loop
      (.seq
       (.seq
        (.ops [
         ⟨none, (some 10), .mv (.t 5), [], []⟩,
         ⟨none, (some 11), .mv (.t 6), [], []⟩,
         ⟨none, (some 12), .bin .lss (.t 10) (.t 11), [], []⟩] [] [0, 3, 5, 6, 12] false)
        (.cond (.t 12)
         .skip
         (.exit 0)))
       (.block 1
        (.seq
         (.ops [
          ⟨none, (some 13), .mv (.t 5), [], []⟩,
          ⟨none, (some 14), .mv (.t 6), [], []⟩,
          ⟨none, (some 15), .bin .add (.t 13) (.t 14), [], []⟩,
          ⟨none, (some 16), .bin .quo (.t 15) (.c (.int .i64 2)), [], []⟩,
          ⟨none, (some 7), .as false (.t 16), [], []⟩] [] [0, 3, 5, 6, 7] false)
         (.seq
          (.ops [
           ⟨none, (some 17), .mv (.t 0), [], []⟩,
           ⟨none, (some 18), .mv (.t 7), [], []⟩,
           ⟨none, (some 19), .ia 30 6 (.t 17) (.t 18), [], []⟩,
           ⟨none, (some 20), .load (some 6) (.t 19), [], []⟩,
           ⟨none, (some 21), .load (some 6) (.t 3), [], []⟩,
           ⟨none, (some 22), .call (.c (.fn 25 [] [])) [(false, (.t 20)), (false, (.t 21))], [], []⟩] [] [0, 3, 5, 6, 7, 22] true)
          (.cond (.t 22)
           (.ops [
            ⟨none, (some 23), .mv (.t 7), [], []⟩,
            ⟨none, (some 24), .bin .add (.t 23) (.c (.int .i64 1)), [], []⟩,
            ⟨none, (some 5), .as false (.t 24), [], []⟩] [] [0, 3, 5, 6] false)
           (.ops [
            ⟨none, (some 25), .mv (.t 7), [], []⟩,
            ⟨none, (some 6), .as true (.t 25), [], []⟩] [] [0, 3, 5, 6] false))))))))
    (.seq
     (.ops [
      ⟨none, (some 26), .mv (.t 5), [], []⟩,
      ⟨none, (some 4), .as true (.t 26), [], []⟩] [] [4] false)
     .ret))))
def rs31 : List PR := [.t 4]
theorem chk31 : chkF Try.prog 31 27 pc31 rs31 = true := by decide +kernel

/-- entail/entailref1.Has: 21 -/
def pc24 : PC :=
 (.seq
  (.ops [
   ⟨none, (some 3), .box 30 (.t 1), [], []⟩,
   ⟨none, (some 4), .as false (.c (.bool false)), [], []⟩] [] [0, 3] false)
  (.seq
   (.ops [
    ⟨none, (some 6), .mv (.t 0), [], []⟩,
    ⟨none, (some 7), .load (some 6) (.t 3), [], []⟩,
    ⟨none, (some 8), .call (.c (.fn 31 [] [])) [(false, (.t 6)), (false, (.t 7))], [], []⟩,
    ⟨none, (some 5), .as false (.t 8), [], []⟩] [] [0, 3, 5] false)
   (.seq
    (.ops [
     ⟨none, (some 9), .mv (.t 5), [], []⟩,
     ⟨none, (some 10), .mv (.t 0), [], []⟩,
     ⟨none, (some 11), .len 1 (.t 10), [], []⟩,
     ⟨none, (some 12), .bin .lss (.t 9) (.t 11), [], []⟩,
     ⟨none, (some 13), .mv (.t 12), [], []⟩,
     ⟨(some (13, true)), (some 14), .mv (.t 0), [], []⟩,
     ⟨(some (13, true)), (some 15), .mv (.t 5), [], []⟩,
     ⟨(some (13, true)), (some 16), .ia 30 6 (.t 14) (.t 15), [], []⟩,
     ⟨(some (13, true)), (some 17), .load (some 6) (.t 16), [], []⟩,
     ⟨(some (13, true)), (some 18), .load (some 6) (.t 3), [], []⟩,
     ⟨(some (13, true)), (some 19), .eqF false (.s [.s, .s, .s, .s, .s, .s]) (.t 17) (.t 18), [], []⟩,
     ⟨none, (some 20), .pick (.t 13) (.t 19) (.c (.bool false)), [], []⟩,
     ⟨none, (some 4), .as false (.t 20), [], []⟩] [] [4] true)
    .ret)))
def rs24 : List PR := [.t 4]
theorem chk24 : chkF Try.prog 24 21 pc24 rs24 = true := by decide +kernel


/-- How many of a list stand below. -/
def low {α : Type} (lt : α → α → Bool) (l : List α) (t : α) : Nat := (l.filter fun x => lt x t).length
theorem low_le {α : Type} {lt : α → α → Bool} (l : List α) (t : α) : low lt l t ≤ l.length := List.length_filter_le _ _
theorem low_at {α : Type} {lt : α → α → Bool} (o : SLO lt) {t : α} : ∀ {l : List α}, Asc lt l → l.take (low lt l t) = l.filter (fun x => lt x t) ∧ l.drop (low lt l t) = l.filter (fun x => !lt x t)
  | [], _ => ⟨rfl, rfl⟩
  | x :: l, h => by
    obtain ⟨h1, h2⟩ := low_at o (t := t) h.tail
    cases e : lt x t with
    | true =>
      have : low lt (x :: l) t = low lt l t + 1 := by simp [low, e]
      rw [this]
      simp [e, h1, h2]
    | false =>
      have hz : ∀ y ∈ l, lt y t = false := fun y hy => by
        cases e2 : lt y t with
        | false => rfl
        | true => have := o.tr _ _ _ (h.head y hy) e2; rw [this] at e; cases e
      have e0 : l.filter (fun x => lt x t) = [] := List.filter_eq_nil_iff.2 fun y hy => by simp [hz y hy]
      have e1 : l.filter (fun x => !lt x t) = l := List.filter_eq_self.2 fun y hy => by simp [hz y hy]
      have : low lt (x :: l) t = 0 := by simp [low, e, e0]
      rw [this]
      simp [e, e0, e1]
theorem low_lt {α : Type} {lt : α → α → Bool} (o : SLO lt) {t : α} {l : List α} (h : Asc lt l) {i : Nat} (hi : i < l.length) : lt l[i] t = true ↔ i < low lt l t := by
  obtain ⟨h1, h2⟩ := low_at o (t := t) h
  constructor
  · intro k
    refine Decidable.byContradiction fun hn => ?_
    have hm : l[i] ∈ l.drop (low lt l t) := by
      rw [List.mem_drop_iff_getElem]
      exact ⟨i - low lt l t, by omega, by congr 1; omega⟩
    rw [h2, List.mem_filter, k] at hm
    simp at hm
  · intro k
    have hm : l[i] ∈ l.take (low lt l t) := by
      rw [List.mem_take_iff_getElem]
      exact ⟨i, by omega, rfl⟩
    rw [h1, List.mem_filter] at hm
    exact hm.2

set_option maxHeartbeats 1000000 in
theorem snd_place (l : List (Row 6)) (t : Row 6) (ha : Asc rl l) (hl : l.length ≤ 1000000) :
    SndP Try.prog Fn5 Pr 31 ([.sl 30 (l.map rowV), rowV t].map .v) [.v (.int .i64 (low rl l t))] ([.sl 30 (l.map rowV), rowV t].map .v) := by
  refine snd_of rfl chk31 (by simp) ?_ rfl
  rw [enter_plain _ _ (by simp)]
  simp only [pc31, plainL]
  obtain ⟨a1, a2, a3, a4, a5, a6, t_e⟩ := row6 t; have t_1 : t.1 = [a1, a2, a3, a4, a5, a6] := (by rw [t_e]); have t_f : RV.agg [.str a1, .str a2, .str a3, .str a4, .str a5, .str a6] = rowV t := (by rw [t_e]; rfl); have t_c : (rowV t).cells = [.str a1, .str a2, .str a3, .str a4, .str a5, .str a6] := (by rw [t_e]; rfl)
  refine run_of ?_
  repeat (first | refine run_seq ?_ | refine run_block ?_ | refine run_b ?_ | refine run_skip ?_ | refine run_ops (by simp[t_1]; rfl) rfl rfl (by simp; rfl) ?_)
  have hlow := low_le (lt := rl) l t
  refine run_loop (α := Nat × Nat) (fun a => E [(0, .v (.sl 30 (l.map rowV))), (3, .bx 30 [.v (.str a1), .v (.str a2), .v (.str a3), .v (.str a4), .v (.str a5), .v (.str a6)]), (5, .v (.int .i64 a.1)), (6, .v (.int .i64 a.2))])
    (fun a => a.1 ≤ low rl l t ∧ low rl l t ≤ a.2 ∧ a.2 ≤ l.length) (fun a => a.2 - a.1) (0, l.length) (by simp) ⟨by simp, hlow, by simp⟩ ?_
  intro ⟨lo, hi⟩ ⟨h1, h2, h3⟩
  simp only at h1 h2 h3
  repeat (first | refine run_seq ?_ | refine run_block ?_ | refine run_b ?_ | refine run_skip ?_ | refine run_ops (by simp; rfl) rfl rfl (by simp; rfl) ?_)
  refine run_cond (by simp; rfl) (fun hc => ?_) (fun hc => run_exit rfl ?_)
  · simp at hc
    obtain ⟨m, hm⟩ : ∃ m, m = (lo + hi) / 2 := ⟨_, rfl⟩
    have e0 : IntKind.i64.wrap ((lo : Int) + hi) = ((lo + hi : Nat) : Int) := by rw [wrap64 (by omega) (by omega)]; omega
    have e1 : IntKind.i64.wrap (((lo : Int) + hi).tdiv 2) = (m : Int) := by rw [Int.tdiv_eq_ediv_of_nonneg (by omega), wrap64 (by omega) (by omega)]; omega
    have hml : m < l.length := by omega
    have gm : l[m]? = some l[m] := List.getElem?_eq_getElem hml
    repeat (first | refine run_seq ?_ | refine run_block ?_ | refine run_b ?_ | refine run_skip ?_ | refine run_ops (by simp[e0, e1]; rfl) rfl rfl (by simp; rfl) ?_)
    repeat (first | refine run_seq ?_ | refine run_block ?_ | refine run_b ?_ | refine run_skip ?_)
    refine run_opsC (by simp[gm, t_f]; rfl) ?_
    refine runO_call (xs := [rowV l[m], rowV t]) (snd_Less _ _) rfl (by simp) rfl (.inl rfl) (by simp [resT]; rfl) (by simp; rfl) ?_
    refine runO_nil rfl (by simp; rfl) ?_
    refine run_cond (by simp; rfl) (fun hq => ?_) (fun hq => ?_)
    · repeat (first | refine run_seq ?_ | refine run_block ?_ | refine run_b ?_ | refine run_skip ?_ | refine run_ops (by simp; rfl) rfl rfl (by simp; rfl) ?_)
      refine run_inv ⟨(m + 1, hi), ⟨?_, h2, h3⟩, by simp; omega, ?_⟩
      · exact (low_lt rl_slo ha hml).1 hq
      · rw [wrap64 (by omega) (by omega)]; rfl
    · repeat (first | refine run_seq ?_ | refine run_block ?_ | refine run_b ?_ | refine run_skip ?_ | refine run_ops (by simp; rfl) rfl rfl (by simp; rfl) ?_)
      refine run_inv ⟨(lo, m), ⟨h1, ?_, by simp; omega⟩, by simp; omega, ?_⟩
      · refine Nat.le_of_not_lt fun k => ?_
        rw [(low_lt rl_slo ha hml).2 k] at hq; cases hq
      · rfl
  · simp at hc
    repeat (first | refine run_seq ?_ | refine run_block ?_ | refine run_b ?_ | refine run_skip ?_ | refine run_ops (by simp; rfl) rfl rfl (by simp; rfl) ?_)
    refine run_ret ⟨.inr rfl, ?_⟩
    have e : lo = low rl l t := by omega
    simp [rs31, e]

theorem has_at {l : List (Row 6)} (ha : Asc rl l) (t : Row 6) : hasB l t = decide (l[low rl l t]? = some t) := by
  obtain ⟨h1, h2⟩ := low_at rl_slo (t := t) ha
  rw [Bool.eq_iff_iff, hasB_iff, decide_eq_true_eq]
  constructor
  · intro hm
    obtain ⟨i, hi, e⟩ := List.getElem_of_mem hm
    have n1 : ¬ i < low rl l t := fun k => by
      have := (low_lt rl_slo ha hi).2 k
      rw [e, rl_slo.irr] at this; cases this
    have n2 : ¬ low rl l t < i := fun k => by
      have q := ha.get k hi
      rw [e] at q
      have := (low_lt rl_slo ha (by omega : low rl l t < l.length)).1 q
      omega
    have : i = low rl l t := by omega
    rw [← this, List.getElem?_eq_getElem hi, e]
  · intro h
    exact List.mem_of_getElem? h

set_option maxHeartbeats 1000000 in
theorem snd_Has (l : List (Row 6)) (t : Row 6) (ha : Asc rl l) (hl : l.length ≤ 1000000) :
    SndP Try.prog Fn5 Pr 24 ([.sl 30 (l.map rowV), rowV t].map .v) [.v (.bool (hasB l t))] ([.sl 30 (l.map rowV), rowV t].map .v) := by
  refine snd_of rfl chk24 (by simp) ?_ rfl
  rw [enter_plain _ _ (by simp)]
  simp only [pc24, plainL]
  obtain ⟨a1, a2, a3, a4, a5, a6, t_e⟩ := row6 t; have t_1 : t.1 = [a1, a2, a3, a4, a5, a6] := (by rw [t_e]); have t_f : RV.agg [.str a1, .str a2, .str a3, .str a4, .str a5, .str a6] = rowV t := (by rw [t_e]; rfl); have t_c : (rowV t).cells = [.str a1, .str a2, .str a3, .str a4, .str a5, .str a6] := (by rw [t_e]; rfl)
  refine run_of ?_
  repeat (first | refine run_seq ?_ | refine run_block ?_ | refine run_b ?_ | refine run_skip ?_ | refine run_ops (by simp[t_1]; rfl) rfl rfl (by simp; rfl) ?_)
  repeat (first | refine run_seq ?_ | refine run_block ?_ | refine run_b ?_ | refine run_skip ?_)
  refine run_opsC (by simp[t_f]; rfl) ?_
  refine runO_call (xs := [.sl 30 (l.map rowV), rowV t]) (snd_place l t ha hl) rfl (by simp) rfl (.inl rfl) (by simp [resT]; rfl) (by simp; rfl) ?_
  refine runO_nil rfl (by simp; rfl) ?_
  rw [has_at ha]
  by_cases h : low rl l t < l.length
  · have g : l[low rl l t]? = some l[low rl l t] := List.getElem?_eq_getElem h
    repeat (first | refine run_seq ?_ | refine run_block ?_ | refine run_b ?_ | refine run_skip ?_ | refine run_ops (by simp[h, g, t_f, eqF6]; rfl) rfl rfl (by simp; rfl) ?_)
    refine run_ret ⟨.inr rfl, ?_⟩
    simp [rs24, g]
  · have g : l[low rl l t]? = none := List.getElem?_eq_none (by omega)
    repeat (first | refine run_seq ?_ | refine run_block ?_ | refine run_b ?_ | refine run_skip ?_ | refine run_ops (by simp[h]; rfl) rfl rfl (by simp; rfl) ?_)
    refine run_ret ⟨.inr rfl, ?_⟩
    simp [rs24, g]
end Go.Proofs.Ytllmlcmhmkkgcaa
