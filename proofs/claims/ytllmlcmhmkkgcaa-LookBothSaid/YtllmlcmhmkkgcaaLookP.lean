/-
  Ytllmlcmhmkkgcaa: LookBoth: what the law computes.
-/
import Derived.Test.YtllmlcmhmkkgcaaLookO
set_option linter.unusedVariables false
set_option linter.unusedSimpArgs false
set_option linter.unusedSectionVars false
namespace Go.Proofs.Ytllmlcmhmkkgcaa
open Go Go.AH Go.PM
variable {Pr : CallR → CallR}

/-- entail/entaillaw5.LookBoth: 189 -/
def pc5 : PC :=
 (.seq
  (.ops [
   ⟨none, (some 4), .as false (.c (.bool false)), [], []⟩] [] [0, 1] false)
  (.seq
   (.ops [
    ⟨none, (some 20), .mv (.t 0), [], []⟩,
    ⟨none, (some 21), .call (.c (.fn 6 [] [])) [(false, (.t 20))], [], []⟩,
    ⟨none, (some 22), .mv (.t 1), [], []⟩,
    ⟨none, (some 23), .call (.c (.fn 7 [] [])) [(false, (.t 22))], [], []⟩,
    ⟨none, (some 6), .alloc 30 [.str (bs []), .str (bs []), .str (bs []), .str (bs []), .str (bs []), .str (bs [])], [], []⟩,
    ⟨none, (some 5), .as false (.t 21), [], []⟩,
    ⟨none, none, .store 6 (.t 6) (.t 23), [], []⟩] [] [5, 6] false)
   (.seq
    (.ops [
     ⟨none, (some 24), .mv (.t 5), [], []⟩,
     ⟨none, (some 25), .call (.c (.fn 8 [] [])) [(false, (.t 24))], [], []⟩,
     ⟨none, (some 7), .as false (.t 25), [], []⟩] [] [5, 6, 7] false)
    (.seq
     (.seq
      (.ops [
       ⟨none, (some 26), .mv (.t 7), [], []⟩,
       ⟨none, (some 27), .eqF false .p (.t 26) (.c (.nilp)), [], []⟩] [] [5, 6, 7, 27] false)
      (.cond (.t 27)
       (.seq
        (.ops [
         ⟨none, (some 4), .as false (.c (.bool false)), [], []⟩] [] [4] false)
        .ret)
       .skip))
     (.seq
      (.ops [
       ⟨none, (some 28), .mv (.t 5), [], []⟩,
       ⟨none, (some 29), .call (.c (.fn 17 [] [])) [(false, (.t 28))], [6], []⟩,
       ⟨none, (some 30), .load (some 6) (.t 6), [6], []⟩,
       ⟨none, (some 31), .call (.c (.fn 24 [] [])) [(false, (.t 29)), (false, (.t 30))], [30], []⟩,
       ⟨none, (some 8), .as false (.t 31), [], []⟩] [] [5, 6, 7, 8] true)
      (.seq
       (.ops [
        ⟨none, (some 9), .as false (.c (.bool false)), [], []⟩,
        ⟨none, (some 10), .as false (.c (.bool false)), [], []⟩] [] [5, 6, 7, 8, 9, 10] false)
       (.seq
        (.ops [
         ⟨none, (some 32), .mv (.t 7), [], []⟩,
         ⟨none, (some 33), .nilck (.t 32), [], []⟩,
         ⟨none, (some 34), .fa 0 2 (.t 33), [], []⟩,
         ⟨none, (some 35), .fa 0 2 (.t 6), [], []⟩,
         ⟨none, (some 36), .load (some 2) (.t 35), [], []⟩,
         ⟨none, (some 37), .fa 2 1 (.t 6), [], []⟩,
         ⟨none, (some 38), .load none (.t 37), [], []⟩,
         ⟨none, (some 39), .call (.c (.fn 13 [] [])) [(false, (.t 34)), (false, (.t 36)), (false, (.t 38))], [6], []⟩,
         ⟨none, (some 40), .mv (.t 7), [6], []⟩,
         ⟨none, (some 41), .nilck (.t 40), [6], []⟩,
         ⟨none, (some 42), .fa 2 2 (.t 41), [6], []⟩,
         ⟨none, (some 43), .fa 3 3 (.t 6), [6], []⟩,
         ⟨none, (some 44), .load (some 3) (.t 43), [43], []⟩,
         ⟨none, (some 45), .call (.c (.fn 15 [] [])) [(false, (.t 42)), (false, (.t 44))], [44], []⟩,
         ⟨none, (some 11), .as false (.t 39), [], []⟩,
         ⟨none, (some 12), .as false (.t 45), [], []⟩] [] [5, 6, 7, 8, 9, 10, 11, 12] true)
        (.seq
         (.seq
          (.ops [
           ⟨none, (some 13), .as false (.c (.int .i64 0)), [], []⟩] [] [5, 6, 7, 8, 9, 10, 11, 12, 13] false)
          (.block 0
           (.loop
            (.seq
             (.seq
              (.ops [
               ⟨none, (some 46), .mv (.t 13), [], []⟩,
               ⟨none, (some 47), .mv (.t 11), [], []⟩,
               ⟨none, (some 48), .len 1 (.t 47), [], []⟩,
               ⟨none, (some 49), .bin .lss (.t 46) (.t 48), [], []⟩] [] [5, 6, 7, 8, 9, 10, 11, 12, 13, 49] false)
              (.cond (.t 49)
               .skip
               (.exit 0)))
             (.seq
              (.block 1
               (.seq
                (.ops [
                 ⟨none, (some 52), .mv (.t 9), [], []⟩,
                 ⟨none, (some 53), .mv (.t 52), [], []⟩,
                 ⟨(some (53, false)), (some 54), .mv (.t 11), [], []⟩,
                 ⟨(some (53, false)), (some 55), .mv (.t 13), [], []⟩,
                 ⟨(some (53, false)), (some 56), .ia 28 3 (.t 54) (.t 55), [], []⟩,
                 ⟨(some (53, false)), (some 57), .load (some 3) (.t 56), [], []⟩,
                 ⟨(some (53, false)), (some 58), .fa 3 3 (.t 6), [], []⟩,
                 ⟨(some (53, false)), (some 59), .load (some 3) (.t 58), [], []⟩,
                 ⟨(some (53, false)), (some 60), .eqF false (.s [.s, .s, .s]) (.t 57) (.t 59), [], []⟩,
                 ⟨none, (some 61), .pick (.t 53) (.c (.bool true)) (.t 60), [], []⟩,
                 ⟨none, (some 9), .as false (.t 61), [], []⟩] [] [5, 6, 7, 8, 9, 10, 11, 12, 13] true)
                (.seq
                 (.ops [
                  ⟨none, (some 62), .mv (.t 13), [], []⟩,
                  ⟨none, (some 63), .bin .gtr (.t 62) (.c (.int .i64 0)), [], []⟩,
                  ⟨none, (some 64), .mv (.t 63), [], []⟩,
                  ⟨(some (64, true)), (some 65), .mv (.t 11), [], []⟩,
                  ⟨(some (64, true)), (some 66), .mv (.t 13), [], []⟩,
                  ⟨(some (64, true)), (some 67), .bin .sub (.t 66) (.c (.int .i64 1)), [], []⟩,
                  ⟨(some (64, true)), (some 68), .ia 28 3 (.t 65) (.t 67), [], []⟩,
                  ⟨(some (64, true)), (some 69), .load (some 3) (.t 68), [], []⟩,
                  ⟨(some (64, true)), (some 70), .build [.str (bs []), .str (bs []), .str (bs []), .str (bs []), .str (bs []), .str (bs [])] [(3, 3, (.t 69))], [], []⟩,
                  ⟨(some (64, true)), (some 71), .mv (.t 11), [], []⟩,
                  ⟨(some (64, true)), (some 72), .mv (.t 13), [], []⟩,
                  ⟨(some (64, true)), (some 73), .ia 28 3 (.t 71) (.t 72), [], []⟩,
                  ⟨(some (64, true)), (some 74), .load (some 3) (.t 73), [], []⟩,
                  ⟨(some (64, true)), (some 75), .build [.str (bs []), .str (bs []), .str (bs []), .str (bs []), .str (bs []), .str (bs [])] [(3, 3, (.t 74))], [], []⟩,
                  ⟨(some (64, true)), (some 76), .call (.c (.fn 25 [] [])) [(false, (.t 70)), (false, (.t 75))], [], []⟩,
                  ⟨(some (64, true)), (some 77), .un .not (.t 76), [], []⟩,
                  ⟨none, (some 78), .pick (.t 64) (.t 77) (.c (.bool false)), [], []⟩] [] [5, 6, 7, 8, 9, 10, 11, 12, 13, 78] true)
                 (.cond (.t 78)
                  (.seq
                   (.ops [
                    ⟨none, (some 4), .as false (.c (.bool false)), [], []⟩] [] [4] false)
                   .ret)
                  .skip))))
              (.ops [
               ⟨none, (some 50), .mv (.t 13), [], []⟩,
               ⟨none, (some 51), .bin .add (.t 50) (.c (.int .i64 1)), [], []⟩,
               ⟨none, (some 13), .as false (.t 51), [], []⟩] [] [5, 6, 7, 8, 9, 10, 11, 12, 13] false))))))
         (.seq
          (.seq
           (.ops [
            ⟨none, (some 14), .as false (.c (.int .i64 0)), [], []⟩] [] [5, 6, 7, 8, 9, 10, 12, 14] false)
           (.block 2
            (.loop
             (.seq
              (.seq
               (.ops [
                ⟨none, (some 79), .mv (.t 14), [], []⟩,
                ⟨none, (some 80), .mv (.t 12), [], []⟩,
                ⟨none, (some 81), .len 1 (.t 80), [], []⟩,
                ⟨none, (some 82), .bin .lss (.t 79) (.t 81), [], []⟩] [] [5, 6, 7, 8, 9, 10, 12, 14, 82] false)
               (.cond (.t 82)
                .skip
                (.exit 2)))
              (.seq
               (.block 3
                (.seq
                 (.ops [
                  ⟨none, (some 85), .mv (.t 10), [], []⟩,
                  ⟨none, (some 86), .mv (.t 85), [], []⟩,
                  ⟨(some (86, false)), (some 87), .mv (.t 12), [], []⟩,
                  ⟨(some (86, false)), (some 88), .mv (.t 14), [], []⟩,
                  ⟨(some (86, false)), (some 89), .ia 64 3 (.t 87) (.t 88), [], []⟩,
                  ⟨(some (86, false)), (some 90), .load (some 3) (.t 89), [], []⟩,
                  ⟨(some (86, false)), (some 91), .fa 0 2 (.t 6), [], []⟩,
                  ⟨(some (86, false)), (some 92), .load (some 2) (.t 91), [], []⟩,
                  ⟨(some (86, false)), (some 93), .fa 2 1 (.t 6), [], []⟩,
                  ⟨(some (86, false)), (some 94), .load none (.t 93), [], []⟩,
                  ⟨(some (86, false)), (some 95), .build [.str (bs []), .str (bs []), .str (bs [])] [(0, 2, (.t 92)), (2, 1, (.t 94))], [], []⟩,
                  ⟨(some (86, false)), (some 96), .eqF false (.s [.s, .s, .s]) (.t 90) (.t 95), [], []⟩,
                  ⟨none, (some 97), .pick (.t 86) (.c (.bool true)) (.t 96), [], []⟩,
                  ⟨none, (some 10), .as false (.t 97), [], []⟩] [] [5, 6, 7, 8, 9, 10, 12, 14] true)
                 (.seq
                  (.ops [
                   ⟨none, (some 98), .mv (.t 14), [], []⟩,
                   ⟨none, (some 99), .bin .gtr (.t 98) (.c (.int .i64 0)), [], []⟩,
                   ⟨none, (some 100), .mv (.t 99), [], []⟩,
                   ⟨(some (100, true)), (some 101), .mv (.t 12), [], []⟩,
                   ⟨(some (100, true)), (some 102), .mv (.t 14), [], []⟩,
                   ⟨(some (100, true)), (some 103), .bin .sub (.t 102) (.c (.int .i64 1)), [], []⟩,
                   ⟨(some (100, true)), (some 104), .ia 64 3 (.t 101) (.t 103), [], []⟩,
                   ⟨(some (100, true)), (some 105), .fa 0 2 (.t 104), [], []⟩,
                   ⟨(some (100, true)), (some 106), .load (some 2) (.t 105), [], []⟩,
                   ⟨(some (100, true)), (some 107), .mv (.t 12), [], []⟩,
                   ⟨(some (100, true)), (some 108), .mv (.t 14), [], []⟩,
                   ⟨(some (100, true)), (some 109), .bin .sub (.t 108) (.c (.int .i64 1)), [], []⟩,
                   ⟨(some (100, true)), (some 110), .ia 64 3 (.t 107) (.t 109), [], []⟩,
                   ⟨(some (100, true)), (some 111), .fa 2 1 (.t 110), [], []⟩,
                   ⟨(some (100, true)), (some 112), .load none (.t 111), [], []⟩,
                   ⟨(some (100, true)), (some 113), .build [.str (bs []), .str (bs []), .str (bs []), .str (bs []), .str (bs []), .str (bs [])] [(0, 2, (.t 106)), (2, 1, (.t 112))], [], []⟩,
                   ⟨(some (100, true)), (some 114), .mv (.t 12), [], []⟩,
                   ⟨(some (100, true)), (some 115), .mv (.t 14), [], []⟩,
                   ⟨(some (100, true)), (some 116), .ia 64 3 (.t 114) (.t 115), [], []⟩,
                   ⟨(some (100, true)), (some 117), .fa 0 2 (.t 116), [], []⟩,
                   ⟨(some (100, true)), (some 118), .load (some 2) (.t 117), [], []⟩,
                   ⟨(some (100, true)), (some 119), .mv (.t 12), [], []⟩,
                   ⟨(some (100, true)), (some 120), .mv (.t 14), [], []⟩,
                   ⟨(some (100, true)), (some 121), .ia 64 3 (.t 119) (.t 120), [], []⟩,
                   ⟨(some (100, true)), (some 122), .fa 2 1 (.t 121), [], []⟩,
                   ⟨(some (100, true)), (some 123), .load none (.t 122), [], []⟩,
                   ⟨(some (100, true)), (some 124), .build [.str (bs []), .str (bs []), .str (bs []), .str (bs []), .str (bs []), .str (bs [])] [(0, 2, (.t 118)), (2, 1, (.t 123))], [], []⟩,
                   ⟨(some (100, true)), (some 125), .call (.c (.fn 25 [] [])) [(false, (.t 113)), (false, (.t 124))], [], []⟩,
                   ⟨(some (100, true)), (some 126), .un .not (.t 125), [], []⟩,
                   ⟨none, (some 127), .pick (.t 100) (.t 126) (.c (.bool false)), [], []⟩] [] [5, 6, 7, 8, 9, 10, 12, 14, 127] true)
                  (.cond (.t 127)
                   (.seq
                    (.ops [
                     ⟨none, (some 4), .as false (.c (.bool false)), [], []⟩] [] [4] false)
                    .ret)
                   .skip))))
               (.ops [
                ⟨none, (some 83), .mv (.t 14), [], []⟩,
                ⟨none, (some 84), .bin .add (.t 83) (.c (.int .i64 1)), [], []⟩,
                ⟨none, (some 14), .as false (.t 84), [], []⟩] [] [5, 6, 7, 8, 9, 10, 12, 14] false))))))
          (.seq
           (.ops [
            ⟨none, (some 15), .as false (.c (.int .i64 0)), [], []⟩] [] [5, 7, 8, 9, 10, 15] false)
           (.seq
            (.seq
             (.ops [
              ⟨none, (some 128), .bsl 9 1 false (.str (bs [])) 2 [(0, (.c (.str (bs [97])))), (1, (.c (.str (bs [98]))))], [], []⟩,
              ⟨none, (some 129), .len 1 (.t 128), [], []⟩,
              ⟨none, (some 130), .mv (.c (.int .i64 0)), [], []⟩] [] [5, 7, 8, 9, 10, 15, 128, 129, 130] false)
             (.block 4
              (.loop
               (.seq
                (.ops [
                 ⟨none, (some 131), .bin .lss (.t 130) (.t 129), [], []⟩] [] [5, 7, 8, 9, 10, 15, 128, 129, 130, 131] false)
                (.seq
                 (.cond (.t 131)
                  .skip
                  (.exit 4))
                 (.seq
                  (.block 5
                   (.seq
                    (.ops [
                     ⟨none, (some 132), .ia 9 1 (.t 128) (.t 130), [], []⟩,
                     ⟨none, (some 133), .load none (.t 132), [], []⟩,
                     ⟨none, (some 17), .as false (.t 133), [], []⟩] [] [5, 7, 8, 9, 10, 15, 17, 128, 129, 130] false)
                    (.seq
                     (.ops [
                      ⟨none, (some 134), .mv (.t 7), [], []⟩,
                      ⟨none, (some 135), .nilck (.t 134), [], []⟩,
                      ⟨none, (some 136), .fa 0 2 (.t 135), [], []⟩,
                      ⟨none, (some 137), .mv (.t 17), [], []⟩,
                      ⟨none, (some 138), .call (.c (.fn 11 [] [])) [(false, (.t 136)), (false, (.t 137))], [], []⟩,
                      ⟨none, (some 18), .as false (.t 138), [], []⟩] [] [5, 7, 8, 9, 10, 15, 17, 18, 128, 129, 130] false)
                     (.seq
                      (.ops [
                       ⟨none, (some 19), .as false (.c (.int .i64 0)), [], []⟩] [] [5, 7, 8, 9, 10, 15, 17, 18, 19, 128, 129, 130] false)
                      (.block 6
                       (.loop
                        (.seq
                         (.seq
                          (.ops [
                           ⟨none, (some 139), .mv (.t 19), [], []⟩,
                           ⟨none, (some 140), .mv (.t 18), [], []⟩,
                           ⟨none, (some 141), .len 1 (.t 140), [], []⟩,
                           ⟨none, (some 142), .bin .lss (.t 139) (.t 141), [], []⟩] [] [5, 7, 8, 9, 10, 15, 17, 18, 19, 128, 129, 130, 142] false)
                          (.cond (.t 142)
                           .skip
                           (.exit 6)))
                         (.seq
                          (.block 7
                           (.ops [
                            ⟨none, (some 145), .mv (.t 15), [], []⟩,
                            ⟨none, (some 146), .mv (.t 7), [], []⟩,
                            ⟨none, (some 147), .nilck (.t 146), [], []⟩,
                            ⟨none, (some 148), .fa 0 2 (.t 147), [], []⟩,
                            ⟨none, (some 149), .mv (.t 17), [], []⟩,
                            ⟨none, (some 150), .mv (.t 18), [], []⟩,
                            ⟨none, (some 151), .mv (.t 19), [], []⟩,
                            ⟨none, (some 152), .ia 9 1 (.t 150) (.t 151), [], []⟩,
                            ⟨none, (some 153), .load none (.t 152), [], []⟩,
                            ⟨none, (some 154), .build [.str (bs []), .str (bs [])] [(0, 1, (.t 149)), (1, 1, (.t 153))], [], []⟩,
                            ⟨none, (some 155), .call (.c (.fn 13 [] [])) [(false, (.t 148)), (false, (.t 154)), (false, (.c (.str (bs [114]))))], [18], []⟩,
                            ⟨none, (some 156), .len 1 (.t 155), [18, 155], []⟩,
                            ⟨none, (some 157), .bin .add (.t 145) (.t 156), [18, 155, 156], []⟩,
                            ⟨none, (some 158), .mv (.t 7), [18, 155], []⟩,
                            ⟨none, (some 159), .nilck (.t 158), [18, 155], []⟩,
                            ⟨none, (some 160), .fa 0 2 (.t 159), [18, 155], []⟩,
                            ⟨none, (some 161), .mv (.t 17), [18, 155], []⟩,
                            ⟨none, (some 162), .mv (.t 18), [18, 155], []⟩,
                            ⟨none, (some 163), .mv (.t 19), [155, 162], []⟩,
                            ⟨none, (some 164), .ia 9 1 (.t 162) (.t 163), [155, 162], []⟩,
                            ⟨none, (some 165), .load none (.t 164), [155, 164], []⟩,
                            ⟨none, (some 166), .build [.str (bs []), .str (bs [])] [(0, 1, (.t 161)), (1, 1, (.t 165))], [155, 165], []⟩,
                            ⟨none, (some 167), .call (.c (.fn 13 [] [])) [(false, (.t 160)), (false, (.t 166)), (false, (.c (.str (bs [115]))))], [155], []⟩,
                            ⟨none, (some 168), .len 1 (.t 167), [155], []⟩,
                            ⟨none, (some 169), .bin .add (.t 157) (.t 168), [], []⟩,
                            ⟨none, (some 15), .as false (.t 169), [], []⟩] [] [5, 7, 8, 9, 10, 15, 17, 18, 19, 128, 129, 130] true))
                          (.ops [
                           ⟨none, (some 143), .mv (.t 19), [], []⟩,
                           ⟨none, (some 144), .bin .add (.t 143) (.c (.int .i64 1)), [], []⟩,
                           ⟨none, (some 19), .as false (.t 144), [], []⟩] [] [5, 7, 8, 9, 10, 15, 17, 18, 19, 128, 129, 130] false)))))))))
                  (.ops [
                   ⟨none, (some 170), .bin .add (.t 130) (.c (.int .i64 1)), [], []⟩,
                   ⟨none, (some 130), .mv (.t 170), [], []⟩] [] [5, 7, 8, 9, 10, 15, 128, 129, 130] false)))))))
            (.seq
             (.ops [
              ⟨none, (some 171), .mv (.t 9), [], []⟩,
              ⟨none, (some 172), .mv (.t 8), [], []⟩,
              ⟨none, (some 173), .eqF false .b (.t 171) (.t 172), [], []⟩,
              ⟨none, (some 174), .mv (.t 173), [], []⟩,
              ⟨(some (174, true)), (some 175), .mv (.t 10), [], []⟩,
              ⟨(some (174, true)), (some 176), .mv (.t 8), [], []⟩,
              ⟨(some (174, true)), (some 177), .eqF false .b (.t 175) (.t 176), [], []⟩,
              ⟨none, (some 178), .pick (.t 174) (.t 177) (.c (.bool false)), [], []⟩,
              ⟨none, (some 179), .mv (.t 178), [], []⟩,
              ⟨(some (179, true)), (some 180), .mv (.t 15), [], []⟩,
              ⟨(some (179, true)), (some 181), .mv (.t 5), [], []⟩,
              ⟨(some (179, true)), (some 182), .call (.c (.fn 17 [] [])) [(false, (.t 181))], [], []⟩,
              ⟨(some (179, true)), (some 183), .len 1 (.t 182), [], []⟩,
              ⟨(some (179, true)), (some 184), .bin .eql (.t 180) (.t 183), [], []⟩,
              ⟨none, (some 185), .pick (.t 179) (.t 184) (.c (.bool false)), [], []⟩,
              ⟨none, (some 186), .mv (.t 185), [], []⟩,
              ⟨(some (186, true)), (some 187), .call (.c (.fn 16 [] [])) [], [], []⟩,
              ⟨none, (some 188), .pick (.t 186) (.t 187) (.c (.bool false)), [], []⟩,
              ⟨none, (some 4), .as false (.t 188), [], []⟩] [] [4] false)
             .ret))))))))))))
def rs5 : List PR := [.t 4]
theorem chk5 : chkF Try.prog 5 189 pc5 rs5 = true := by decide +kernel


def E3 : Row 3 := ⟨[e0, e0, e0], rfl⟩
theorem sum_bound {f : ByteArray → Nat} {n : Nat} : ∀ (l : List ByteArray), (∀ x ∈ l, f x ≤ n) → (l.map f).sum ≤ l.length * n
  | [], _ => by simp
  | x :: l, h => by
    have := sum_bound l fun y hy => h y (by simp [hy])
    have h0 := h x (by simp)
    simp only [List.map_cons, List.sum_cons, List.length_cons, Nat.add_mul, Nat.one_mul]
    omega
/-- How many subjects the ids of the first j types have. -/
def tot (S : List (Row 6)) (T : List ByteArray) (j : Nat) : Nat := ((T.take j).map fun c => ((fTypes S c).map (cnt S c (bs [114]) (bs [115]))).sum).sum
theorem hasB_take {α : Type} [DecidableEq α] {l : List α} {i : Nat} {x t : α} (g : l[i]? = some x) : hasB (l.take (i + 1)) t = (hasB (l.take i) t || decide (x = t)) := by
  rw [List.take_add_one, g]
  simp [hasB, List.any_append]

set_option maxHeartbeats 16000000 in
theorem snd_LookBoth (hP : PrOk Pr) (as_ : List Int) (k : Int) :
    SndP Try.prog Fn5 Pr 5 ([.sl 2 (as_.map (.int .i64)), .int .i64 k].map .v) [.v (.bool true)] ([.sl 2 (as_.map (.int .i64)), .int .i64 k].map .v) := by
  obtain ⟨l, hl5, hl, hTl⟩ := snd_Tames (Pr := Pr) as_
  obtain ⟨t, _, hTt⟩ := snd_Tame (Pr := Pr) k
  obtain ⟨a1, a2, a3, a4, a5, a6, t_e⟩ := row6 t; have t_1 : t.1 = [a1, a2, a3, a4, a5, a6] := (by rw [t_e]); have t_f : RV.agg [.str a1, .str a2, .str a3, .str a4, .str a5, .str a6] = rowV t := (by rw [t_e]; rfl); have t_c : (rowV t).cells = [.str a1, .str a2, .str a3, .str a4, .str a5, .str a6] := (by rw [t_e]; rfl)
  have t_o : RV.agg [.str a1, .str a2] = rowV (objR t) := by rw [t_e]; rfl
  have t_s : RV.agg [.str a4, .str a5, .str a6] = rowV (subR t) := by rw [t_e]; rfl
  have t_r : RV.agg [.str a1, .str a2, .str a3] = rowV (refR t) := by rw [t_e]; rfl
  have x_t : otyR t = a1 := by rw [t_e]; rfl
  have x_r : relR t = a3 := by rw [t_e]; rfl
  have x_u : styR t = a4 := by rw [t_e]; rfl
  have hS : (setS rl l).length ≤ 80 := Nat.le_trans length_setS hl
  have hSa := asc_setS rl_slo (l := l)
  have hO := iOf hP l (by omega) rfl
  have hR := snd_refOf (Pr := Pr) _ l rfl (by omega)
  have c1 : ∀ x ∈ setS rl l, otyR x = bs [97] ∨ otyR x = bs [98] := fun x hx => (hl5 x ((mem_setS rl_slo).1 hx)).1
  have c2 : ∀ x ∈ setS rl l, relR x = bs [114] ∨ relR x = bs [115] := fun x hx => (hl5 x ((mem_setS rl_slo).1 hx)).2
  have cnt2 := cnt_two (by decide) (by decide) c1 c2
  clear c1 c2
  have hH := snd_Has (Pr := Pr) (setS rl l) t hSa (by omega)
  generalize setS rl l = S at hS hSa hO hR hH cnt2
  have hh1 := subs_has S t
  have hh2 := objs_has S t
  have hA1 := subs_asc hSa (objR t) (relR t)
  have hA2 := objs_asc hSa (subR t)
  have hL1 : (fSubs S (objR t) (relR t)).length ≤ 80 := Nat.le_trans fSubs_len hS
  have hL2 : (fObjs S (subR t)).length ≤ 80 := Nat.le_trans fObjs_len hS
  refine snd_of rfl chk5 (by simp) ?_ rfl
  rw [enter_plain _ _ (by simp)]
  simp only [pc5, plainL]
  refine run_of ?_
  repeat (first | refine run_seq ?_ | refine run_block ?_ | refine run_b ?_ | refine run_skip ?_ | refine run_ops (by simp; rfl) rfl rfl (by simp; rfl) ?_)
  repeat (first | refine run_seq ?_ | refine run_block ?_ | refine run_b ?_ | refine run_skip ?_)
  refine run_opsC (by simp; rfl) ?_
  refine runO_call (xs := [.sl 2 (as_.map (.int .i64))]) hTl rfl (by simp) rfl (.inl (by simp)) (by simp [resT]; rfl) (by simp; rfl) ?_
  refine runO_call (xs := [.int .i64 k]) hTt rfl (by simp) rfl (.inl (by simp)) (by simp [resT]; rfl) (by simp [t_1, bs_nil]; rfl) ?_
  refine runO_nil rfl (by simp; rfl) ?_
  repeat (first | refine run_seq ?_ | refine run_block ?_ | refine run_b ?_ | refine run_skip ?_)
  refine run_opsC (by simp; rfl) ?_
  refine runO_callZ [(5, [])] rfl rfl (by simp; rfl) (xs := [.sl 30 (l.map rowV)]) hO (by simp) rfl (.inr (by simp)) (by simp [resT]; rfl) (by simp; rfl) ?_
  refine runO_nil rfl (by simp; rfl) ?_
  repeat (first | refine run_seq ?_ | refine run_block ?_ | refine run_b ?_ | refine run_skip ?_ | refine run_ops (by simp; rfl) rfl rfl (by simp; rfl) ?_)
  refine run_cond (t := false) (by simp) (fun h => by cases h) (fun _ => ?_)
  repeat (first | refine run_seq ?_ | refine run_block ?_ | refine run_b ?_ | refine run_skip ?_)
  refine run_opsC (by simp; rfl) ?_
  refine runO_call (xs := [.sl 30 (l.map rowV)]) hR (by simp) (by simp) rfl (.inl (by simp)) (by simp [resT]; rfl) (by simp [t_f]; rfl) ?_
  refine runO_call (xs := [.sl 30 (S.map rowV), rowV t]) hH (by simp) (by simp) rfl (.inl (by simp)) (by simp [resT]; rfl) (by simp; rfl) ?_
  refine runO_nil rfl (by simp; rfl) ?_
  repeat (first | refine run_seq ?_ | refine run_block ?_ | refine run_b ?_ | refine run_skip ?_ | refine run_ops (by simp; rfl) rfl rfl (by simp; rfl) ?_)
  repeat (first | refine run_seq ?_ | refine run_block ?_ | refine run_b ?_ | refine run_skip ?_)
  refine run_opsC (by simp[t_o]; rfl) ?_
  refine runO_call (xs := [leftV S, rowV (objR t), .str (relR t)]) (iSubs (by omega) (objR t) (relR t)) (by simp) (by simp [t_f, t_o, t_s, ← x_t, ← x_r, ← x_u, dem_mpRT, dem_mpST, left_f, right_f]) rfl (.inl (by simp)) (by simp [resT]; rfl) (by simp [t_o, t_s]; rfl) ?_
  refine runO_call (xs := [rightV S, rowV (subR t)]) (iObjs (by omega) (subR t)) (by simp) (by simp [t_f, t_o, t_s, ← x_t, ← x_r, ← x_u, dem_mpRT, dem_mpST, left_f, right_f]) rfl (.inl (by simp)) (by simp [resT]; rfl) (by simp [t_o, t_s]; rfl) ?_
  refine runO_nil rfl (by simp; rfl) ?_
  repeat (first | refine run_seq ?_ | refine run_block ?_ | refine run_b ?_ | refine run_skip ?_ | refine run_ops (by simp; rfl) rfl rfl (by simp; rfl) ?_)
  refine run_loop (α := Nat) (fun i => E [(5, .v (.sl 30 (l.map rowV))), (6, .bx 30 [.v (.str a1), .v (.str a2), .v (.str a3), .v (.str a4), .v (.str a5), .v (.str a6)]), (7, .bx 46 [mpRT 64 28 (G1 S), mpST 9 9 (G2 S), mpRT 28 64 (G3 S), mpST 9 9 (G4 S)]), (8, .v (.bool (hasB S t))), (9, .v (.bool (hasB ((fSubs S (objR t) (relR t)).take i) (subR t)))), (10, .v (.bool false)), (11, .sl 28 ((fSubs S (objR t) (relR t)).map rowV)), (12, .sl 64 ((fObjs S (subR t)).map rowV)), (13, .v (.int .i64 i))])
    (fun i => i ≤ (fSubs S (objR t) (relR t)).length) (fun i => (fSubs S (objR t) (relR t)).length - i) 0 (by simp [hasB]) (by simp) ?_
  intro i hi
  repeat (first | refine run_seq ?_ | refine run_block ?_ | refine run_b ?_ | refine run_skip ?_ | refine run_ops (by simp; rfl) rfl rfl (by simp; rfl) ?_)
  refine run_cond (by simp; rfl) (fun hc => ?_) (fun hc => run_exit rfl ?_)
  · simp at hc
    obtain ⟨x, hx⟩ : ∃ x, x = (fSubs S (objR t) (relR t))[i] := ⟨_, rfl⟩
    have g : (fSubs S (objR t) (relR t))[i]? = some x := by rw [hx]; exact List.getElem?_eq_getElem hc
    have hn := hasB_take (t := subR t) g
    obtain ⟨c1, c2, c3, x_e⟩ := row3 x; have x_1 : x.1 = [c1, c2, c3] := (by rw [x_e]); have x_f : RV.agg [.str c1, .str c2, .str c3] = rowV x := (by rw [x_e]; rfl); have x_c : (rowV x).cells = [.str c1, .str c2, .str c3] := (by rw [x_e]; rfl)
    have x_g : RV.agg [.str ⟨#[]⟩, .str ⟨#[]⟩, .str ⟨#[]⟩, .str c1, .str c2, .str c3] = rowV (mkTup E3 x) := by rw [x_e]; rfl
    repeat (first | refine run_seq ?_ | refine run_block ?_ | refine run_b ?_ | refine run_skip ?_)
    refine run_opsX (E [(5, .v (.sl 30 (l.map rowV))), (6, .bx 30 [.v (.str a1), .v (.str a2), .v (.str a3), .v (.str a4), .v (.str a5), .v (.str a6)]), (7, .bx 46 [mpRT 64 28 (G1 S), mpST 9 9 (G2 S), mpRT 28 64 (G3 S), mpST 9 9 (G4 S)]), (8, .v (.bool (hasB S t))), (9, .v (.bool (hasB ((fSubs S (objR t) (relR t)).take (i + 1)) (subR t)))), (10, .v (.bool false)), (11, .sl 28 ((fSubs S (objR t) (relR t)).map rowV)), (12, .sl 64 ((fObjs S (subR t)).map rowV)), (13, .v (.int .i64 i))]) rfl ?_ ?_
    · rw [hn]
      cases hasB ((fSubs S (objR t) (relR t)).take i) (subR t)
      · exact ⟨_, by simp [hc, ← hx, x_f, t_s, eqF3]; rfl, by simp, by simp⟩
      · exact ⟨_, by simp; rfl, by simp, by simp⟩
    generalize han : hasB ((fSubs S (objR t) (relR t)).take (i + 1)) (subR t) = an at hn
    clear hn
    by_cases h0 : i = 0
    · subst h0
      repeat (first | refine run_seq ?_ | refine run_block ?_ | refine run_b ?_ | refine run_skip ?_)
      refine run_opsC (by simp; rfl) ?_
      refine runO_off (by simp [wantP]) (by simp) (by simp; rfl) (by simp; rfl) ?_
      refine runO_nil rfl (by simp; rfl) ?_
      refine run_cond (t := false) (by simp) (fun h => by cases h) (fun _ => ?_)
      repeat (first | refine run_seq ?_ | refine run_block ?_ | refine run_b ?_ | refine run_skip ?_ | refine run_ops (by simp; rfl) rfl rfl (by simp; rfl) ?_)
      refine run_inv ⟨1, by omega, by omega, ?_⟩
      rw [wrap64 (by omega) (by omega)]
      simp [han]
    · have e1 : IntKind.i64.wrap ((i : Int) - 1) = ((i - 1 : Nat) : Int) := by rw [wrap64 (by omega) (by omega)]; omega
      have hi1 : i - 1 < (fSubs S (objR t) (relR t)).length := by omega
      obtain ⟨y, hy⟩ : ∃ y, y = (fSubs S (objR t) (relR t))[i - 1]'hi1 := ⟨_, rfl⟩
      obtain ⟨d1, d2, d3, y_e⟩ := row3 y; have y_1 : y.1 = [d1, d2, d3] := (by rw [y_e]); have y_f : RV.agg [.str d1, .str d2, .str d3] = rowV y := (by rw [y_e]; rfl); have y_c : (rowV y).cells = [.str d1, .str d2, .str d3] := (by rw [y_e]; rfl)
      have y_g : RV.agg [.str ⟨#[]⟩, .str ⟨#[]⟩, .str ⟨#[]⟩, .str d1, .str d2, .str d3] = rowV (mkTup E3 y) := by rw [y_e]; rfl
      have hlt : rl y x = true := by rw [hx, hy]; exact hA1.get (by omega) hc
      have hLs := snd_Less (Pr := Pr) (mkTup E3 y) (mkTup E3 x)
      rw [rl_subs, hlt] at hLs
      repeat (first | refine run_seq ?_ | refine run_block ?_ | refine run_b ?_ | refine run_skip ?_)
      refine run_opsC (by simp[hc, e1, ← hx, ← hy, x_f, y_f, x_1, y_1, x_g, y_g, bs_nil, show (0 : Int) < (i : Int) by omega, show 0 < i by omega, show i - 1 < (fSubs S (objR t) (relR t)).length by omega]; rfl) ?_
      refine runO_callG (by simp [wantP]) (xs := [rowV (mkTup E3 y), rowV (mkTup E3 x)]) hLs (by simp) (by simp) rfl (.inl rfl) (by simp [resT]; rfl) (by simp; rfl) ?_
      refine runO_nil rfl (by simp; rfl) ?_
      refine run_cond (t := false) (by simp) (fun h => by cases h) (fun _ => ?_)
      repeat (first | refine run_seq ?_ | refine run_block ?_ | refine run_b ?_ | refine run_skip ?_ | refine run_ops (by simp; rfl) rfl rfl (by simp; rfl) ?_)
      refine run_inv ⟨i + 1, by omega, by omega, ?_⟩
      rw [wrap64 (by omega) (by omega)]
      simp [han]
  · simp at hc
    rw [show i = (fSubs S (objR t) (relR t)).length by omega, List.take_length, hh1]
    repeat (first | refine run_seq ?_ | refine run_block ?_ | refine run_b ?_ | refine run_skip ?_ | refine run_ops (by simp; rfl) rfl rfl (by simp; rfl) ?_)
    refine run_loop (α := Nat) (fun i => E [(5, .v (.sl 30 (l.map rowV))), (6, .bx 30 [.v (.str a1), .v (.str a2), .v (.str a3), .v (.str a4), .v (.str a5), .v (.str a6)]), (7, .bx 46 [mpRT 64 28 (G1 S), mpST 9 9 (G2 S), mpRT 28 64 (G3 S), mpST 9 9 (G4 S)]), (8, .v (.bool (hasB S t))), (9, .v (.bool (hasB S t))), (10, .v (.bool (hasB ((fObjs S (subR t)).take i) (refR t)))), (12, .sl 64 ((fObjs S (subR t)).map rowV)), (14, .v (.int .i64 i))])
      (fun i => i ≤ (fObjs S (subR t)).length) (fun i => (fObjs S (subR t)).length - i) 0 (by simp [hasB]) (by simp) ?_
    clear hc hi
    intro i hi
    repeat (first | refine run_seq ?_ | refine run_block ?_ | refine run_b ?_ | refine run_skip ?_ | refine run_ops (by simp; rfl) rfl rfl (by simp; rfl) ?_)
    refine run_cond (by simp; rfl) (fun hc => ?_) (fun hc => run_exit rfl ?_)
    · simp at hc
      obtain ⟨x, hx⟩ : ∃ x, x = (fObjs S (subR t))[i] := ⟨_, rfl⟩
      have g : (fObjs S (subR t))[i]? = some x := by rw [hx]; exact List.getElem?_eq_getElem hc
      have hn := hasB_take (t := refR t) g
      obtain ⟨c1, c2, c3, x_e⟩ := row3 x; have x_1 : x.1 = [c1, c2, c3] := (by rw [x_e]); have x_f : RV.agg [.str c1, .str c2, .str c3] = rowV x := (by rw [x_e]; rfl); have x_c : (rowV x).cells = [.str c1, .str c2, .str c3] := (by rw [x_e]; rfl)
      have x_g : RV.agg [.str c1, .str c2, .str c3, .str ⟨#[]⟩, .str ⟨#[]⟩, .str ⟨#[]⟩] = rowV (mkTup x E3) := by rw [x_e]; rfl
      repeat (first | refine run_seq ?_ | refine run_block ?_ | refine run_b ?_ | refine run_skip ?_)
      refine run_opsX (E [(5, .v (.sl 30 (l.map rowV))), (6, .bx 30 [.v (.str a1), .v (.str a2), .v (.str a3), .v (.str a4), .v (.str a5), .v (.str a6)]), (7, .bx 46 [mpRT 64 28 (G1 S), mpST 9 9 (G2 S), mpRT 28 64 (G3 S), mpST 9 9 (G4 S)]), (8, .v (.bool (hasB S t))), (9, .v (.bool (hasB S t))), (10, .v (.bool (hasB ((fObjs S (subR t)).take (i + 1)) (refR t)))), (12, .sl 64 ((fObjs S (subR t)).map rowV)), (14, .v (.int .i64 i))]) rfl ?_ ?_
      · rw [hn]
        cases hasB ((fObjs S (subR t)).take i) (refR t)
        · exact ⟨_, by simp [hc, ← hx, x_f, t_r, bs_nil, eqF3]; rfl, by simp, by simp⟩
        · exact ⟨_, by simp; rfl, by simp, by simp⟩
      generalize han : hasB ((fObjs S (subR t)).take (i + 1)) (refR t) = an at hn
      clear hn
      by_cases h0 : i = 0
      · subst h0
        repeat (first | refine run_seq ?_ | refine run_block ?_ | refine run_b ?_ | refine run_skip ?_)
        refine run_opsC (by simp; rfl) ?_
        refine runO_off (by simp [wantP]) (by simp) (by simp; rfl) (by simp; rfl) ?_
        refine runO_nil rfl (by simp; rfl) ?_
        refine run_cond (t := false) (by simp) (fun h => by cases h) (fun _ => ?_)
        repeat (first | refine run_seq ?_ | refine run_block ?_ | refine run_b ?_ | refine run_skip ?_ | refine run_ops (by simp; rfl) rfl rfl (by simp; rfl) ?_)
        refine run_inv ⟨1, by omega, by omega, ?_⟩
        rw [wrap64 (by omega) (by omega)]
        simp [han]
      · have e1 : IntKind.i64.wrap ((i : Int) - 1) = ((i - 1 : Nat) : Int) := by rw [wrap64 (by omega) (by omega)]; omega
        have hi1 : i - 1 < (fObjs S (subR t)).length := by omega
        obtain ⟨y, hy⟩ : ∃ y, y = (fObjs S (subR t))[i - 1]'hi1 := ⟨_, rfl⟩
        obtain ⟨d1, d2, d3, y_e⟩ := row3 y; have y_1 : y.1 = [d1, d2, d3] := (by rw [y_e]); have y_f : RV.agg [.str d1, .str d2, .str d3] = rowV y := (by rw [y_e]; rfl); have y_c : (rowV y).cells = [.str d1, .str d2, .str d3] := (by rw [y_e]; rfl)
        have y_g : RV.agg [.str d1, .str d2, .str d3, .str ⟨#[]⟩, .str ⟨#[]⟩, .str ⟨#[]⟩] = rowV (mkTup y E3) := by rw [y_e]; rfl
        have hlt : rl y x = true := by rw [hx, hy]; exact hA2.get (by omega) hc
        have hLs := snd_Less (Pr := Pr) (mkTup y E3) (mkTup x E3)
        rw [rl_refs, hlt] at hLs
        repeat (first | refine run_seq ?_ | refine run_block ?_ | refine run_b ?_ | refine run_skip ?_)
        refine run_opsC (by simp[hc, e1, ← hx, ← hy, x_c, y_c, x_g, y_g, bs_nil, show (0 : Int) < (i : Int) by omega, show 0 < i by omega, show i - 1 < (fObjs S (subR t)).length by omega]; rfl) ?_
        refine runO_callG (by simp [wantP]) (xs := [rowV (mkTup y E3), rowV (mkTup x E3)]) hLs (by simp) (by simp) rfl (.inl rfl) (by simp [resT]; rfl) (by simp; rfl) ?_
        refine runO_nil rfl (by simp; rfl) ?_
        refine run_cond (t := false) (by simp) (fun h => by cases h) (fun _ => ?_)
        repeat (first | refine run_seq ?_ | refine run_block ?_ | refine run_b ?_ | refine run_skip ?_ | refine run_ops (by simp; rfl) rfl rfl (by simp; rfl) ?_)
        refine run_inv ⟨i + 1, by omega, by omega, ?_⟩
        rw [wrap64 (by omega) (by omega)]
        simp [han]
    · simp at hc
      rw [show i = (fObjs S (subR t)).length by omega, List.take_length, hh2]
      clear hc hi
      repeat (first | refine run_seq ?_ | refine run_block ?_ | refine run_b ?_ | refine run_skip ?_ | refine run_ops (by simp; rfl) rfl rfl (by simp; rfl) ?_)
      obtain ⟨T, hT⟩ : ∃ T, T = [bs [97], bs [98]] := ⟨_, rfl⟩
      have hTm : [RV.str (bs [97]), RV.str (bs [98])] = T.map .str := by rw [hT]; rfl
      have hTn : T.length = 2 := by rw [hT]; rfl
      have hsum : tot S T 2 = S.length := by rw [hT]; simpa [tot] using cnt2
      have hbd : ∀ c, ∀ L : List ByteArray, L.length ≤ 80 → (L.map (cnt S c (bs [114]) (bs [115]))).sum ≤ 12800 := fun c L hL => by
        have := sum_bound (f := cnt S c (bs [114]) (bs [115])) (n := 160) L fun x _ => by
          have a := fSubs_len (S := S) (o := mkObj c x) (r := bs [114])
          have b := fSubs_len (S := S) (o := mkObj c x) (r := bs [115])
          show (fSubs S (mkObj c x) (bs [114])).length + (fSubs S (mkObj c x) (bs [115])).length ≤ 160
          omega
        omega
      have hty : ∀ c, (fTypes S c).length ≤ 80 := fun c => Nat.le_trans fTypes_len hS
      have htb : ∀ j, tot S T j ≤ 25600 := fun j => by
        have := sum_bound (f := fun c => ((fTypes S c).map (cnt S c (bs [114]) (bs [115]))).sum) (n := 12800) (T.take j) fun c _ => hbd c _ (hty c)
        have h2 : (T.take j).length ≤ 2 := by rw [← hTn]; exact List.length_take_le' ..
        show ((T.take j).map fun c => ((fTypes S c).map (cnt S c (bs [114]) (bs [115]))).sum).sum ≤ 25600
        omega
      clear hT
      rw [hTm]
      clear hTm
      refine run_loop (α := Nat) (fun j => E [(5, .v (.sl 30 (l.map rowV))), (7, .bx 46 [mpRT 64 28 (G1 S), mpST 9 9 (G2 S), mpRT 28 64 (G3 S), mpST 9 9 (G4 S)]), (8, .v (.bool (hasB S t))), (9, .v (.bool (hasB S t))), (10, .v (.bool (hasB S t))), (15, .v (.int .i64 (tot S T j : Nat))), (128, .sl 9 (T.map .str)), (129, .v (.int .i64 2)), (130, .v (.int .i64 j))]) (fun j => j ≤ 2) (fun j => 2 - j) 0 (by simp [tot]) (by simp) ?_
      intro j hj
      repeat (first | refine run_seq ?_ | refine run_block ?_ | refine run_b ?_ | refine run_skip ?_ | refine run_ops (by simp; rfl) rfl rfl (by simp; rfl) ?_)
      refine run_cond (by simp; rfl) (fun hc => ?_) (fun hc => run_exit rfl ?_)
      · simp at hc
        have hjT : j < T.length := by omega
        obtain ⟨c, hcx⟩ : ∃ c, c = T[j] := ⟨_, rfl⟩
        have htot : tot S T (j + 1) = tot S T j + ((fTypes S c).map (cnt S c (bs [114]) (bs [115]))).sum := by
          unfold tot
          rw [List.take_add_one, List.getElem?_eq_getElem hjT, ← hcx]
          simp
        repeat (first | refine run_seq ?_ | refine run_block ?_ | refine run_b ?_ | refine run_skip ?_ | refine run_ops (by simp[hjT, ← hcx]; rfl) rfl rfl (by simp; rfl) ?_)
        repeat (first | refine run_seq ?_ | refine run_block ?_ | refine run_b ?_ | refine run_skip ?_)
        refine run_opsC (by simp; rfl) ?_
        refine runO_call (xs := [leftV S, .str c]) (iTypes hP (by omega) c) (by simp) (by simp [dem_mpRT, dem_mpST, left_f]) rfl (.inl (by simp)) (by simp [resT]; rfl) (by simp; rfl) ?_
        refine runO_nil rfl (by simp; rfl) ?_
        repeat (first | refine run_seq ?_ | refine run_block ?_ | refine run_b ?_ | refine run_skip ?_ | refine run_ops (by simp; rfl) rfl rfl (by simp; rfl) ?_)
        refine run_loop (α := Nat) (fun i => E [(5, .v (.sl 30 (l.map rowV))), (7, .bx 46 [mpRT 64 28 (G1 S), mpST 9 9 (G2 S), mpRT 28 64 (G3 S), mpST 9 9 (G4 S)]), (8, .v (.bool (hasB S t))), (9, .v (.bool (hasB S t))), (10, .v (.bool (hasB S t))), (15, .v (.int .i64 (tot S T j + (((fTypes S c).take i).map (cnt S c (bs [114]) (bs [115]))).sum : Nat))), (17, .v (.str c)), (18, .sl 9 ((fTypes S c).map .str)), (19, .v (.int .i64 i)), (128, .sl 9 (T.map .str)), (129, .v (.int .i64 2)), (130, .v (.int .i64 j))]) (fun i => i ≤ (fTypes S c).length) (fun i => (fTypes S c).length - i) 0 (by simp) (by simp) ?_
        intro i hi
        obtain ⟨A, hA⟩ : ∃ A, A = tot S T j + (((fTypes S c).take i).map (cnt S c (bs [114]) (bs [115]))).sum := ⟨_, rfl⟩
        rw [← hA]
        repeat (first | refine run_seq ?_ | refine run_block ?_ | refine run_b ?_ | refine run_skip ?_ | refine run_ops (by simp; rfl) rfl rfl (by simp; rfl) ?_)
        refine run_cond (by simp; rfl) (fun hd => ?_) (fun hd => run_exit rfl ?_)
        · simp at hd
          obtain ⟨d, hdx⟩ : ∃ d, d = (fTypes S c)[i] := ⟨_, rfl⟩
          have g : (fTypes S c)[i]? = some d := by rw [hdx]; exact List.getElem?_eq_getElem hd
          have o_g : RV.agg [.str c, .str d] = rowV (mkObj c d) := rfl
          have b0 := htb j
          have bI := hty c
          have b1 := hbd c ((fTypes S c).take i) (Nat.le_trans (List.length_take_le' ..) (hty c))
          have b2 : (fSubs S (mkObj c d) (bs [114])).length ≤ 80 := Nat.le_trans fSubs_len hS
          have b3 : (fSubs S (mkObj c d) (bs [115])).length ≤ 80 := Nat.le_trans fSubs_len hS
          have hn : tot S T j + (((fTypes S c).take (i + 1)).map (cnt S c (bs [114]) (bs [115]))).sum = A + (fSubs S (mkObj c d) (bs [114])).length + (fSubs S (mkObj c d) (bs [115])).length := by
            rw [List.take_add_one, g, hA]
            simp [cnt]
            omega
          have e1 : IntKind.i64.wrap ((A : Int) + ((fSubs S (mkObj c d) (bs [114])).length : Int)) = (A : Int) + ((fSubs S (mkObj c d) (bs [114])).length : Int) := wrap64 (by omega) (by omega)
          have e2 : IntKind.i64.wrap ((A : Int) + ((fSubs S (mkObj c d) (bs [114])).length : Int) + ((fSubs S (mkObj c d) (bs [115])).length : Int)) = (A : Int) + ((fSubs S (mkObj c d) (bs [114])).length : Int) + ((fSubs S (mkObj c d) (bs [115])).length : Int) := wrap64 (by omega) (by omega)
          repeat (first | refine run_seq ?_ | refine run_block ?_ | refine run_b ?_ | refine run_skip ?_)
          refine run_opsC (by simp[hd, ← hdx, o_g]; rfl) ?_
          refine runO_call (xs := [leftV S, rowV (mkObj c d), .str (bs [114])]) (iSubs (by omega) (mkObj c d) (bs [114])) (by simp) (by simp [dem_mpRT, dem_mpST, left_f, right_f, o_g]) rfl (.inl (by simp)) (by simp [resT]; rfl) (by simp [hd, ← hdx, o_g, e1]; rfl) ?_
          refine runO_call (xs := [leftV S, rowV (mkObj c d), .str (bs [115])]) (iSubs (by omega) (mkObj c d) (bs [115])) (by simp) (by simp [dem_mpRT, dem_mpST, left_f, right_f, o_g]) rfl (.inl (by simp)) (by simp [resT]; rfl) (by simp [e1, e2]; rfl) ?_
          refine runO_nil rfl (by simp; rfl) ?_
          repeat (first | refine run_seq ?_ | refine run_block ?_ | refine run_b ?_ | refine run_skip ?_ | refine run_ops (by simp; rfl) rfl rfl (by simp; rfl) ?_)
          refine run_inv ⟨i + 1, by omega, by omega, ?_⟩
          rw [wrap64 (by omega) (by omega), hn]
          simp
        · simp at hd
          rw [show i = (fTypes S c).length by omega, List.take_length, ← htot] at hA
          rw [hA]
          repeat (first | refine run_seq ?_ | refine run_block ?_ | refine run_b ?_ | refine run_skip ?_ | refine run_ops (by simp; rfl) rfl rfl (by simp; rfl) ?_)
          refine run_inv ⟨j + 1, by omega, by omega, ?_⟩
          rw [wrap64 (by omega) (by omega)]
          simp
      · simp at hc
        rw [show j = 2 by omega, hsum]
        repeat (first | refine run_seq ?_ | refine run_block ?_ | refine run_b ?_ | refine run_skip ?_)
        refine run_opsC (by simp; rfl) ?_
        refine runO_callG (by simp [wantP]) (xs := [.sl 30 (l.map rowV)]) hR (by simp) (by simp) rfl (.inl (by simp)) (by simp [resT]; rfl) (by simp; rfl) ?_
        refine runO_callG (by simp [wantP]) (xs := []) (snd_clos hP.aw) (by simp) (by simp) rfl (.inl rfl) (by simp [resT]; rfl) (by simp; rfl) ?_
        refine runO_nil rfl (by simp; rfl) ?_
        refine run_ret ⟨.inr rfl, ?_⟩
        simp [rs5]
end Go.Proofs.Ytllmlcmhmkkgcaa
