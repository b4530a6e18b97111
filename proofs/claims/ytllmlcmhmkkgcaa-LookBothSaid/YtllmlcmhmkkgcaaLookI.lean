/-
  Ytllmlcmhmkkgcaa: what the functions of law 5 do (9): sets of tuples; texts, each once.
-/
import Derived.Test.YtllmlcmhmkkgcaaLookA
import Derived.Test.YtllmlcmhmkkgcaaLib5
import Derived.Test.YtllmlcmhmkkgcaaLib6
set_option linter.unusedVariables false
set_option linter.unusedSimpArgs false
set_option linter.unusedSectionVars false
namespace Go.Proofs.Ytllmlcmhmkkgcaa
open Go Go.AH Go.PM
variable {Pr : CallR → CallR}

/-- What holds of the functions that are not walked: the sorts of the library, the comparison of two texts. -/
structure PrOk (Pr : CallR → CallR) : Prop where
  cmp : ∀ R f args H v H', cmpPr 70 f args H v H' → Pr R f args H v H'
  sN : ∀ R f args H v H', sortN 34 f args H v H' → Pr R f args H v H'
  sR : ∀ R f args H v H', sortR Try.prog 34 30 6 R f args H v H' → Pr R f args H v H'
  aw : ∀ R f args H v H', closPr 16 f args H v H' → Pr R f args H v H'
  tN : ∀ R f args H v H', sortSN 38 f args H v H' → Pr R f args H v H'
  tR : ∀ R f args H v H', sortSR 38 9 f args H v H' → Pr R f args H v H'

/-- slices.Clone[[]entail/api.Tuple,entail/api.Tuple]: 8 -/
def pc33 : PC :=
 (.seq
  (.ops [
   ⟨none, (some 2), .as false (.c (.sl 30 [])), [], []⟩] [] [0] false)
  (.seq
   (.seq
    (.ops [
     ⟨none, (some 3), .mv (.t 0), [], []⟩,
     ⟨none, (some 4), .eqF false .l (.t 3) (.c (.sl 30 [])), [], []⟩] [] [0, 4] false)
    (.cond (.t 4)
     (.seq
      (.ops [
       ⟨none, (some 2), .as false (.c (.sl 30 [])), [], []⟩] [] [2] false)
      .ret)
     .skip))
   (.seq
    (.ops [
     ⟨none, (some 5), .bsl 30 6 true (.agg [.str (bs []), .str (bs []), .str (bs []), .str (bs []), .str (bs []), .str (bs [])]) 0 [], [], []⟩,
     ⟨none, (some 6), .mv (.t 0), [], []⟩,
     ⟨none, (some 7), .app 30 96 (.t 5) (.t 6), [], []⟩,
     ⟨none, (some 2), .as false (.t 7), [], []⟩] [] [2] false)
    .ret)))
def rs33 : List PR := [.t 2]
theorem chk33 : chkF Try.prog 33 8 pc33 rs33 = true := by decide +kernel

/-- slices.Clone[[]string,string]: 8 -/
def pc37 : PC :=
 (.seq
  (.ops [
   ⟨none, (some 2), .as false (.c (.sl 9 [])), [], []⟩] [] [0] false)
  (.seq
   (.seq
    (.ops [
     ⟨none, (some 3), .mv (.t 0), [], []⟩,
     ⟨none, (some 4), .eqF false .l (.t 3) (.c (.sl 9 [])), [], []⟩] [] [0, 4] false)
    (.cond (.t 4)
     (.seq
      (.ops [
       ⟨none, (some 2), .as false (.c (.sl 9 [])), [], []⟩] [] [2] false)
      .ret)
     .skip))
   (.seq
    (.ops [
     ⟨none, (some 5), .bsl 9 1 false (.str (bs [])) 0 [], [], []⟩,
     ⟨none, (some 6), .mv (.t 0), [], []⟩,
     ⟨none, (some 7), .app 9 16 (.t 5) (.t 6), [], []⟩,
     ⟨none, (some 2), .as false (.t 7), [], []⟩] [] [2] false)
    .ret)))
def rs37 : List PR := [.t 2]
theorem chk37 : chkF Try.prog 37 8 pc37 rs37 = true := by decide +kernel

/-- slices.Compact[[]entail/api.Tuple,entail/api.Tuple]: 61 -/
def pc36 : PC :=
 (.seq
  (.ops [
   ⟨none, (some 2), .as false (.c (.sl 30 [])), [], []⟩] [] [0, 61] false)
  (.seq
   (.seq
    (.ops [
     ⟨none, (some 6), .mv (.t 0), [], []⟩,
     ⟨none, (some 7), .len 1 (.t 6), [], []⟩,
     ⟨none, (some 8), .bin .lss (.t 7) (.c (.int .i64 2)), [], []⟩] [] [0, 8, 61] false)
    (.cond (.t 8)
     (.seq
      (.ops [
       ⟨none, (some 9), .mv (.t 0), [], []⟩,
       ⟨none, (some 2), .as true (.t 9), [], []⟩] [] [2, 61] false)
      .ret)
     .skip))
   (.seq
    (.seq
     (.ops [
      ⟨none, (some 3), .as false (.c (.int .i64 1)), [], []⟩] [] [0, 3, 61] false)
     (.block 0
      (.loop
       (.seq
        (.seq
         (.ops [
          ⟨none, (some 10), .mv (.t 3), [], []⟩,
          ⟨none, (some 11), .mv (.t 0), [], []⟩,
          ⟨none, (some 12), .len 1 (.t 11), [], []⟩,
          ⟨none, (some 13), .bin .lss (.t 10) (.t 12), [], []⟩] [] [0, 3, 13, 61] false)
         (.cond (.t 13)
          .skip
          (.exit 0)))
        (.seq
         (.block 1
          (.seq
           (.ops [
            ⟨none, (some 16), .mv (.t 0), [], []⟩,
            ⟨none, (some 17), .mv (.t 3), [], []⟩,
            ⟨none, (some 18), .ia 30 6 (.t 16) (.t 17), [], []⟩,
            ⟨none, (some 19), .load (some 6) (.t 18), [], []⟩,
            ⟨none, (some 20), .mv (.t 0), [], []⟩,
            ⟨none, (some 21), .mv (.t 3), [], []⟩,
            ⟨none, (some 22), .bin .sub (.t 21) (.c (.int .i64 1)), [], []⟩,
            ⟨none, (some 23), .ia 30 6 (.t 20) (.t 22), [], []⟩,
            ⟨none, (some 24), .load (some 6) (.t 23), [], []⟩,
            ⟨none, (some 25), .eqF false (.s [.s, .s, .s, .s, .s, .s]) (.t 19) (.t 24), [], []⟩] [] [0, 3, 25, 61] true)
           (.cond (.t 25)
            (.seq
             (.ops [
              ⟨none, (some 26), .mv (.t 0), [], []⟩,
              ⟨none, (some 27), .mv (.t 3), [], []⟩,
              ⟨none, (some 28), .win 30 (.t 26) (some (.t 27)) none, [], []⟩,
              ⟨none, (some 4), .as false (.t 28), [], []⟩] [] [0, 3, 4, 61] false)
             (.seq
              (.seq
               (.ops [
                ⟨none, (some 5), .as false (.c (.int .i64 1)), [], []⟩] [] [0, 3, 4, 5, 61] false)
               (.block 2
                (.loop
                 (.seq
                  (.seq
                   (.ops [
                    ⟨none, (some 29), .mv (.t 5), [], []⟩,
                    ⟨none, (some 30), .mv (.t 4), [], []⟩,
                    ⟨none, (some 31), .len 1 (.t 30), [], []⟩,
                    ⟨none, (some 32), .bin .lss (.t 29) (.t 31), [], []⟩] [] [0, 3, 4, 5, 32, 61] false)
                   (.cond (.t 32)
                    .skip
                    (.exit 2)))
                  (.seq
                   (.block 3
                    (.seq
                     (.ops [
                      ⟨none, (some 35), .mv (.t 4), [], []⟩,
                      ⟨none, (some 36), .mv (.t 5), [], []⟩,
                      ⟨none, (some 37), .ia 30 6 (.t 35) (.t 36), [], []⟩,
                      ⟨none, (some 38), .load (some 6) (.t 37), [], []⟩,
                      ⟨none, (some 39), .mv (.t 4), [], []⟩,
                      ⟨none, (some 40), .mv (.t 5), [], []⟩,
                      ⟨none, (some 41), .bin .sub (.t 40) (.c (.int .i64 1)), [], []⟩,
                      ⟨none, (some 42), .ia 30 6 (.t 39) (.t 41), [], []⟩,
                      ⟨none, (some 43), .load (some 6) (.t 42), [], []⟩,
                      ⟨none, (some 44), .eqF true (.s [.s, .s, .s, .s, .s, .s]) (.t 38) (.t 43), [], []⟩] [] [0, 3, 4, 5, 44, 61] true)
                     (.cond (.t 44)
                      (.seq
                       (.ops [
                        ⟨none, (some 45), .mv (.t 0), [], []⟩,
                        ⟨none, (some 46), .mv (.t 3), [], []⟩,
                        ⟨none, (some 47), .mv (.t 4), [], []⟩,
                        ⟨none, (some 48), .mv (.t 5), [], []⟩,
                        ⟨none, (some 49), .ia 30 6 (.t 47) (.t 48), [], []⟩,
                        ⟨none, (some 50), .load (some 6) (.t 49), [], []⟩,
                        ⟨none, (some 51), .ia 30 6 (.t 45) (.t 46), [], []⟩,
                        ⟨none, none, .store 6 (.t 51) (.t 50), [], []⟩] [] [0, 3, 4, 5, 61] false)
                       (.ops [
                        ⟨none, (some 52), .mv (.t 3), [], []⟩,
                        ⟨none, (some 53), .bin .add (.t 52) (.c (.int .i64 1)), [], []⟩,
                        ⟨none, (some 3), .as false (.t 53), [], []⟩] [] [0, 3, 4, 5, 61] false))
                      .skip)))
                   (.ops [
                    ⟨none, (some 33), .mv (.t 5), [], []⟩,
                    ⟨none, (some 34), .bin .add (.t 33) (.c (.int .i64 1)), [], []⟩,
                    ⟨none, (some 5), .as false (.t 34), [], []⟩] [] [0, 3, 4, 5, 61] false))))))
              (.seq
               (.ops [
                ⟨none, (some 54), .mv (.t 0), [], []⟩,
                ⟨none, (some 55), .mv (.t 3), [], []⟩,
                ⟨none, (some 56), .win 30 (.t 54) (some (.t 55)) none, [], []⟩,
                ⟨none, none, .clr 30 (.agg [.str (bs []), .str (bs []), .str (bs []), .str (bs []), .str (bs []), .str (bs [])]) (.t 56), [], []⟩] [] [0, 3, 61] false)
               (.seq
                (.ops [
                 ⟨none, (some 57), .mv (.t 0), [], []⟩,
                 ⟨none, (some 58), .mv (.t 3), [], []⟩,
                 ⟨none, (some 59), .slc true 30 (.t 57) none (some (.t 58)) none, [], []⟩,
                 ⟨none, (some 2), .as false (.t 59), [], []⟩] [] [2, 61] false)
                .ret))))
            .skip)))
         (.ops [
          ⟨none, (some 14), .mv (.t 3), [], []⟩,
          ⟨none, (some 15), .bin .add (.t 14) (.c (.int .i64 1)), [], []⟩,
          ⟨none, (some 3), .as false (.t 15), [], []⟩] [] [0, 3, 61] false))))))
    (.seq
     (.ops [
      ⟨none, (some 60), .mv (.t 0), [], []⟩,
      ⟨none, (some 2), .as true (.t 60), [], []⟩] [] [2, 61] false)
     .ret))))
def rs36 : List PR := [.t 2]
theorem chk36 : chkF Try.prog 36 61 pc36 rs36 = true := by decide +kernel

/-- slices.Compact[[]string,string]: 61 -/
def pc39 : PC :=
 (.seq
  (.ops [
   ⟨none, (some 2), .as false (.c (.sl 9 [])), [], []⟩] [] [0, 61] false)
  (.seq
   (.seq
    (.ops [
     ⟨none, (some 6), .mv (.t 0), [], []⟩,
     ⟨none, (some 7), .len 1 (.t 6), [], []⟩,
     ⟨none, (some 8), .bin .lss (.t 7) (.c (.int .i64 2)), [], []⟩] [] [0, 8, 61] false)
    (.cond (.t 8)
     (.seq
      (.ops [
       ⟨none, (some 9), .mv (.t 0), [], []⟩,
       ⟨none, (some 2), .as true (.t 9), [], []⟩] [] [2, 61] false)
      .ret)
     .skip))
   (.seq
    (.seq
     (.ops [
      ⟨none, (some 3), .as false (.c (.int .i64 1)), [], []⟩] [] [0, 3, 61] false)
     (.block 0
      (.loop
       (.seq
        (.seq
         (.ops [
          ⟨none, (some 10), .mv (.t 3), [], []⟩,
          ⟨none, (some 11), .mv (.t 0), [], []⟩,
          ⟨none, (some 12), .len 1 (.t 11), [], []⟩,
          ⟨none, (some 13), .bin .lss (.t 10) (.t 12), [], []⟩] [] [0, 3, 13, 61] false)
         (.cond (.t 13)
          .skip
          (.exit 0)))
        (.seq
         (.block 1
          (.seq
           (.ops [
            ⟨none, (some 16), .mv (.t 0), [], []⟩,
            ⟨none, (some 17), .mv (.t 3), [], []⟩,
            ⟨none, (some 18), .ia 9 1 (.t 16) (.t 17), [], []⟩,
            ⟨none, (some 19), .load none (.t 18), [], []⟩,
            ⟨none, (some 20), .mv (.t 0), [], []⟩,
            ⟨none, (some 21), .mv (.t 3), [], []⟩,
            ⟨none, (some 22), .bin .sub (.t 21) (.c (.int .i64 1)), [], []⟩,
            ⟨none, (some 23), .ia 9 1 (.t 20) (.t 22), [], []⟩,
            ⟨none, (some 24), .load none (.t 23), [], []⟩,
            ⟨none, (some 25), .bin .eql (.t 19) (.t 24), [], []⟩] [] [0, 3, 25, 61] true)
           (.cond (.t 25)
            (.seq
             (.ops [
              ⟨none, (some 26), .mv (.t 0), [], []⟩,
              ⟨none, (some 27), .mv (.t 3), [], []⟩,
              ⟨none, (some 28), .win 9 (.t 26) (some (.t 27)) none, [], []⟩,
              ⟨none, (some 4), .as false (.t 28), [], []⟩] [] [0, 3, 4, 61] false)
             (.seq
              (.seq
               (.ops [
                ⟨none, (some 5), .as false (.c (.int .i64 1)), [], []⟩] [] [0, 3, 4, 5, 61] false)
               (.block 2
                (.loop
                 (.seq
                  (.seq
                   (.ops [
                    ⟨none, (some 29), .mv (.t 5), [], []⟩,
                    ⟨none, (some 30), .mv (.t 4), [], []⟩,
                    ⟨none, (some 31), .len 1 (.t 30), [], []⟩,
                    ⟨none, (some 32), .bin .lss (.t 29) (.t 31), [], []⟩] [] [0, 3, 4, 5, 32, 61] false)
                   (.cond (.t 32)
                    .skip
                    (.exit 2)))
                  (.seq
                   (.block 3
                    (.seq
                     (.ops [
                      ⟨none, (some 35), .mv (.t 4), [], []⟩,
                      ⟨none, (some 36), .mv (.t 5), [], []⟩,
                      ⟨none, (some 37), .ia 9 1 (.t 35) (.t 36), [], []⟩,
                      ⟨none, (some 38), .load none (.t 37), [], []⟩,
                      ⟨none, (some 39), .mv (.t 4), [], []⟩,
                      ⟨none, (some 40), .mv (.t 5), [], []⟩,
                      ⟨none, (some 41), .bin .sub (.t 40) (.c (.int .i64 1)), [], []⟩,
                      ⟨none, (some 42), .ia 9 1 (.t 39) (.t 41), [], []⟩,
                      ⟨none, (some 43), .load none (.t 42), [], []⟩,
                      ⟨none, (some 44), .bin .neq (.t 38) (.t 43), [], []⟩] [] [0, 3, 4, 5, 44, 61] true)
                     (.cond (.t 44)
                      (.seq
                       (.ops [
                        ⟨none, (some 45), .mv (.t 0), [], []⟩,
                        ⟨none, (some 46), .mv (.t 3), [], []⟩,
                        ⟨none, (some 47), .mv (.t 4), [], []⟩,
                        ⟨none, (some 48), .mv (.t 5), [], []⟩,
                        ⟨none, (some 49), .ia 9 1 (.t 47) (.t 48), [], []⟩,
                        ⟨none, (some 50), .load none (.t 49), [], []⟩,
                        ⟨none, (some 51), .ia 9 1 (.t 45) (.t 46), [], []⟩,
                        ⟨none, none, .store 1 (.t 51) (.t 50), [], []⟩] [] [0, 3, 4, 5, 61] false)
                       (.ops [
                        ⟨none, (some 52), .mv (.t 3), [], []⟩,
                        ⟨none, (some 53), .bin .add (.t 52) (.c (.int .i64 1)), [], []⟩,
                        ⟨none, (some 3), .as false (.t 53), [], []⟩] [] [0, 3, 4, 5, 61] false))
                      .skip)))
                   (.ops [
                    ⟨none, (some 33), .mv (.t 5), [], []⟩,
                    ⟨none, (some 34), .bin .add (.t 33) (.c (.int .i64 1)), [], []⟩,
                    ⟨none, (some 5), .as false (.t 34), [], []⟩] [] [0, 3, 4, 5, 61] false))))))
              (.seq
               (.ops [
                ⟨none, (some 54), .mv (.t 0), [], []⟩,
                ⟨none, (some 55), .mv (.t 3), [], []⟩,
                ⟨none, (some 56), .win 9 (.t 54) (some (.t 55)) none, [], []⟩,
                ⟨none, none, .clr 9 (.str (bs [])) (.t 56), [], []⟩] [] [0, 3, 61] false)
               (.seq
                (.ops [
                 ⟨none, (some 57), .mv (.t 0), [], []⟩,
                 ⟨none, (some 58), .mv (.t 3), [], []⟩,
                 ⟨none, (some 59), .slc true 9 (.t 57) none (some (.t 58)) none, [], []⟩,
                 ⟨none, (some 2), .as false (.t 59), [], []⟩] [] [2, 61] false)
                .ret))))
            .skip)))
         (.ops [
          ⟨none, (some 14), .mv (.t 3), [], []⟩,
          ⟨none, (some 15), .bin .add (.t 14) (.c (.int .i64 1)), [], []⟩,
          ⟨none, (some 3), .as false (.t 15), [], []⟩] [] [0, 3, 61] false))))))
    (.seq
     (.ops [
      ⟨none, (some 60), .mv (.t 0), [], []⟩,
      ⟨none, (some 2), .as true (.t 60), [], []⟩] [] [2, 61] false)
     .ret))))
def rs39 : List PR := [.t 2]
theorem chk39 : chkF Try.prog 39 61 pc39 rs39 = true := by decide +kernel

/-- entail/rows.Of: 10 -/
def pc27 : PC :=
 (.seq
  (.ops [
   ⟨none, (some 2), .as false (.c (.sl 30 [])), [], []⟩] [] [0] false)
  (.seq
   (.ops [
    ⟨none, (some 4), .mv (.t 0), [], []⟩,
    ⟨none, (some 5), .call (.c (.fn 33 [] [])) [(false, (.t 4))], [], []⟩,
    ⟨none, (some 3), .as false (.t 5), [], []⟩] [] [3] false)
   (.seq
    (.ops [
     ⟨none, (some 6), .mv (.t 3), [], []⟩,
     ⟨none, (some 7), .call (.c (.fn 34 [] [])) [(true, (.t 6)), (false, (.c (.fn 35 [] [])))], [], []⟩] [] [3] false)
    (.seq
     (.ops [
      ⟨none, (some 8), .mv (.t 3), [], []⟩,
      ⟨none, (some 9), .call (.c (.fn 36 [] [])) [(true, (.t 8))], [], []⟩,
      ⟨none, (some 2), .as false (.t 9), [], []⟩] [] [2] false)
     .ret))))
def rs27 : List PR := [.t 2]
theorem chk27 : chkF Try.prog 27 10 pc27 rs27 = true := by decide +kernel

/-- entail/look.once: 10 -/
def pc28 : PC :=
 (.seq
  (.ops [
   ⟨none, (some 2), .as false (.c (.sl 9 [])), [], []⟩] [] [0] false)
  (.seq
   (.ops [
    ⟨none, (some 4), .mv (.t 0), [], []⟩,
    ⟨none, (some 5), .call (.c (.fn 37 [] [])) [(false, (.t 4))], [], []⟩,
    ⟨none, (some 3), .as false (.t 5), [], []⟩] [] [3] false)
   (.seq
    (.ops [
     ⟨none, (some 6), .mv (.t 3), [], []⟩,
     ⟨none, (some 7), .call (.c (.fn 38 [] [])) [(true, (.t 6))], [], []⟩] [] [3] false)
    (.seq
     (.ops [
      ⟨none, (some 8), .mv (.t 3), [], []⟩,
      ⟨none, (some 9), .call (.c (.fn 39 [] [])) [(true, (.t 8))], [], []⟩,
      ⟨none, (some 2), .as false (.t 9), [], []⟩] [] [2] false)
     .ret))))
def rs28 : List PR := [.t 2]
theorem chk28 : chkF Try.prog 28 10 pc28 rs28 = true := by decide +kernel


theorem ent35 : Ent Try.prog 35 := ⟨Try.f35, Try.func35, by kernel_rfl, by kernel_rfl⟩
theorem sz30 : sz Try.prog 30 = some 6 := by kernel_rfl
theorem szS : sz Try.prog 9 = some 1 := by kernel_rfl

theorem snd_cloneT (l : List (Row 6)) (hl : l.length ≤ 1000000) :
    SndP Try.prog Fn5 Pr 33 ([.sl 30 (l.map rowV)].map .v) [.sl 30 (l.map rowV)] ([.sl 30 (l.map rowV)].map .v) :=
  snd_clone rfl chk33 _ (by rw [List.length_map]; omega) (by rw [List.length_map]; omega)
theorem snd_cloneS (l : List ByteArray) (hl : l.length ≤ 1000000) :
    SndP Try.prog Fn5 Pr 37 ([.sl 9 (l.map .str)].map .v) [.sl 9 (l.map .str)] ([.sl 9 (l.map .str)].map .v) :=
  snd_clone rfl chk37 _ (by rw [List.length_map]; omega) (by rw [List.length_map]; omega)

theorem lt_cr : ltOf (cr (k := 6)) = rl := by
  funext x y
  simp only [ltOf]
  rw [Bool.eq_iff_iff, decide_eq_true_eq, cr_neg]
theorem snd_sortT (hP : PrOk Pr) (l : List (Row 6)) (hl : l.length ≤ 1000000) :
    SndP Try.prog Fn5 Pr 34 (.sl 30 (l.map rowV) :: [.fn 35 [] []].map .v) [] (.sl 30 ((l.mergeSort fun x y => !rl y x).map rowV) :: [.fn 35 [] []].map .v) := by
  have h := sndP_sort (Fn := Fn5) (Pr := Pr) (cf := cr) hP.sN hP.sR ent35 (by rw [lt_cr]; exact ⟨rl_slo.irr, rl_slo.tr, fun x y z h1 h2 => by
    cases e : rl x z with
    | false => rfl
    | true =>
      rcases rl_slo.cases y z with k | k | k
      · rw [k] at h2; cases h2
      · subst k; rw [e] at h1; cases h1
      · have := rl_slo.tr _ _ _ e k; rw [this] at h1; cases h1⟩) (by rw [lt_cr]; exact rl_slo.tri) (fun x y => ⟨_, snd_tuplCompare hP.cmp x y⟩) sz30 l.toArray (by simp; omega)
  simpa [mrg, lt_cr] using h
theorem snd_sortS (hP : PrOk Pr) (l : List ByteArray) (hl : l.length ≤ 1000000) :
    SndP Try.prog Fn5 Pr 38 (.sl 9 (l.map .str) :: ([] : List RV).map .v) [] (.sl 9 ((srtS l).map .str) :: ([] : List RV).map .v) :=
  sndP_sortS hP.tN hP.tR szS l (by omega)
theorem snd_compactT (l : List (Row 6)) (hl : l.length ≤ 1000000) :
    SndP Try.prog Fn5 Pr 36 (.sl 30 (l.map rowV) :: ([] : List RV).map .v) [.sl 30 ((dd [] l).map rowV)] (.junk :: ([] : List RV).map .v) :=
  snd_compactR rfl chk36 l (by omega)
theorem snd_compactS_ (l : List ByteArray) (hl : l.length ≤ 1000000) :
    SndP Try.prog Fn5 Pr 39 (.sl 9 (l.map .str) :: ([] : List RV).map .v) [.sl 9 ((dd [] l).map .str)] (.junk :: ([] : List RV).map .v) :=
  snd_compactS rfl chk39 l (by omega)

theorem srtS_set (l : List ByteArray) : dd [] (srtS l) = setS bl l := by
  unfold srtS
  have e : (fun x y : ByteArray => decide (x.data.toList ≤ y.data.toList)) = fun x y => !bl y x := by
    funext x y
    rw [Bool.eq_iff_iff]
    simp only [decide_eq_true_eq, Bool.not_eq_true', bl, Go.Proofs.bytesLess_eq, decide_eq_false_iff_not, List.not_lt]
  rw [e]
  exact dd_mergeSort bl_slo (fun _ _ => rfl) l

set_option maxHeartbeats 1000000 in
theorem snd_rowsOf (hP : PrOk Pr) (l : List (Row 6)) (hl : l.length ≤ 1000000) :
    SndP Try.prog Fn5 Pr 27 ([.sl 30 (l.map rowV)].map .v) [.sl 30 ((setS rl l).map rowV)] ([.sl 30 (l.map rowV)].map .v) := by
  refine snd_of rfl chk27 (by simp) ?_ rfl
  rw [enter_plain _ _ (by simp)]
  simp only [pc27, plainL]
  refine run_of ?_
  repeat (first | refine run_seq ?_ | refine run_block ?_ | refine run_b ?_ | refine run_skip ?_ | refine run_ops (by simp; rfl) rfl rfl (by simp; rfl) ?_)
  repeat (first | refine run_seq ?_ | refine run_block ?_ | refine run_b ?_ | refine run_skip ?_)
  refine run_opsC (by simp; rfl) ?_
  refine runO_call (xs := [.sl 30 (l.map rowV)]) (snd_cloneT l hl) rfl (by simp) rfl (.inl (by simp)) (by simp [resT]; rfl) (by simp; rfl) ?_
  refine runO_nil rfl (by simp; rfl) ?_
  repeat (first | refine run_seq ?_ | refine run_block ?_ | refine run_b ?_ | refine run_skip ?_)
  refine run_opsC (by simp; rfl) ?_
  refine runO_mut (r := 3) (p := []) (xs := [.fn 35 [] []]) (snd_sortT hP l hl) rfl (by simp) (by simp) (by simp) rfl rfl (by simp [resT]; rfl) (by simp; rfl) ?_
  refine runO_nil rfl (by simp; rfl) ?_
  repeat (first | refine run_seq ?_ | refine run_block ?_ | refine run_b ?_ | refine run_skip ?_)
  refine run_opsC (by simp; rfl) ?_
  refine runO_mut (r := 3) (p := []) (xs := []) (snd_compactT (l.mergeSort fun x y => !rl y x) (by rw [List.length_mergeSort]; exact hl)) rfl (by simp) (by simp) (by simp) rfl rfl (by simp [resT]; rfl) (by simp; rfl) ?_
  refine runO_nil rfl (by simp; rfl) ?_
  refine run_ret ⟨.inr rfl, ?_⟩
  rw [dd_mergeSort rl_slo (fun _ _ => rfl) l]
  simp [rs27]

set_option maxHeartbeats 1000000 in
theorem snd_once (hP : PrOk Pr) (l : List ByteArray) (hl : l.length ≤ 1000000) :
    SndP Try.prog Fn5 Pr 28 ([.sl 9 (l.map .str)].map .v) [.sl 9 ((setS bl l).map .str)] ([.sl 9 (l.map .str)].map .v) := by
  refine snd_of rfl chk28 (by simp) ?_ rfl
  rw [enter_plain _ _ (by simp)]
  simp only [pc28, plainL]
  refine run_of ?_
  repeat (first | refine run_seq ?_ | refine run_block ?_ | refine run_b ?_ | refine run_skip ?_ | refine run_ops (by simp; rfl) rfl rfl (by simp; rfl) ?_)
  repeat (first | refine run_seq ?_ | refine run_block ?_ | refine run_b ?_ | refine run_skip ?_)
  refine run_opsC (by simp; rfl) ?_
  refine runO_call (xs := [.sl 9 (l.map .str)]) (snd_cloneS l hl) rfl (by simp) rfl (.inl (by simp)) (by simp [resT]; rfl) (by simp; rfl) ?_
  refine runO_nil rfl (by simp; rfl) ?_
  repeat (first | refine run_seq ?_ | refine run_block ?_ | refine run_b ?_ | refine run_skip ?_)
  refine run_opsC (by simp; rfl) ?_
  refine runO_mut (r := 3) (p := []) (xs := []) (snd_sortS hP l hl) rfl (by simp) (by simp) (by simp) rfl rfl (by simp [resT]; rfl) (by simp; rfl) ?_
  refine runO_nil rfl (by simp; rfl) ?_
  repeat (first | refine run_seq ?_ | refine run_block ?_ | refine run_b ?_ | refine run_skip ?_)
  refine run_opsC (by simp; rfl) ?_
  refine runO_mut (r := 3) (p := []) (xs := []) (snd_compactS_ (srtS l) (by rw [srtS_len]; exact hl)) rfl (by simp) (by simp) (by simp) rfl rfl (by simp [resT]; rfl) (by simp; rfl) ?_
  refine runO_nil rfl (by simp; rfl) ?_
  refine run_ret ⟨.inr rfl, ?_⟩
  rw [srtS_set]
  simp [rs28]
end Go.Proofs.Ytllmlcmhmkkgcaa
