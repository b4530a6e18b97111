/-
  Ytllmlcmhmkkgcaa: what the functions that are not walked here do in the model: the library's sorts by the library's own contracts, the comparison of two texts, and the closed part of the laws by a run of the kernel.
-/
import Derived.Shelf.SlLaysF0
import Derived.Shelf.Slices.In.SortNone
import Derived.Shelf.Sort.Plain
import Derived.Test.YtllmlcmhmkkgcaaLookI
import Derived.Test.YtllmlcmhmkkgcaaLib7
set_option linter.unusedVariables false
set_option linter.unusedSimpArgs false
set_option linter.unusedSectionVars false
namespace Go.Proofs.Ytllmlcmhmkkgcaa
open Go Go.Shelf
def Try.lays190_ren : Go.Shelf.Ren := ⟨fun | 190 => 38 | 125 => 41 | 258 => 44 | 128 => 53 | 129 => 54 | 302 => 56 | 303 => 57 | 304 => 58 | 305 => 59 | 306 => 60 | 307 => 61 | 308 => 62 | 309 => 63 | 310 => 64 | 333 => 71 | 329 => 66 | 330 => 67 | 334 => 72 | 335 => 73 | 336 => 74 | 344 => 76 | n => n, fun | 31 => 35 | 9 => 9 | 3 => 3 | 46 => 67 | 0 => 0 | 51 => 93 | 53 => 95 | 4 => 4 | 183 => 86 | 182 => 85 | 131 => 90 | 5 => 5 | 218 => 103 | 222 => 107 | 228 => 112 | 229 => 113 | n => n, fun | n => n⟩
theorem Try.lays190 : Go.Proofs.Lays.n190 Try.prog Try.lays190_ren := {
  mixed := by kernel_rfl
  f125 := Try.func41.trans (congrArg some (by kernel_rfl))
  f128 := Try.func53.trans (congrArg some (by kernel_rfl))
  f129 := Try.func54.trans (congrArg some (by kernel_rfl))
  f190 := Try.func38.trans (congrArg some (by kernel_rfl))
  f258 := Try.func44.trans (congrArg some (by kernel_rfl))
  f302 := Try.func56.trans (congrArg some (by kernel_rfl))
  f303 := Try.func57.trans (congrArg some (by kernel_rfl))
  f304 := Try.func58.trans (congrArg some (by kernel_rfl))
  f305 := Try.func59.trans (congrArg some (by kernel_rfl))
  f306 := Try.func60.trans (congrArg some (by kernel_rfl))
  f307 := Try.func61.trans (congrArg some (by kernel_rfl))
  f308 := Try.func62.trans (congrArg some (by kernel_rfl))
  f309 := Try.func63.trans (congrArg some (by kernel_rfl))
  f310 := Try.func64.trans (congrArg some (by kernel_rfl))
  f329 := Try.func66.trans (congrArg some (by kernel_rfl))
  f330 := Try.func67.trans (congrArg some (by kernel_rfl))
  f333 := Try.func71.trans (congrArg some (by kernel_rfl))
  f334 := Try.func72.trans (congrArg some (by kernel_rfl))
  f335 := Try.func73.trans (congrArg some (by kernel_rfl))
  f336 := Try.func74.trans (congrArg some (by kernel_rfl))
  f344 := Try.func76.trans (congrArg some (by kernel_rfl))
  t0 := Try.underlying0
  a0 := Try.isAgg0
  z0 := Try.sizeOf0
  v0 := Try.zeroValue0
  t3 := Try.underlying3
  a3 := Try.isAgg3
  z3 := Try.sizeOf3
  v3 := Try.zeroValue3
  t4 := Try.underlying4
  a4 := Try.isAgg4
  z4 := Try.sizeOf4
  v4 := Try.zeroValue4
  t5 := Try.underlying5
  a5 := Try.isAgg5
  z5 := Try.sizeOf5
  v5 := Try.zeroValue5
  t9 := Try.underlying9
  a9 := Try.isAgg9
  z9 := Try.sizeOf9
  v9 := Try.zeroValue9
  t31 := Try.underlying35
  a31 := Try.isAgg35
  z31 := Try.sizeOf35
  v31 := Try.zeroValue35
  t46 := Try.underlying67
  a46 := Try.isAgg67
  z46 := Try.sizeOf67
  v46 := Try.zeroValue67
  t51 := Try.underlying93
  a51 := Try.isAgg93
  z51 := Try.sizeOf93
  v51 := Try.zeroValue93
  t53 := Try.underlying95
  a53 := Try.isAgg95
  z53 := Try.sizeOf95
  v53 := Try.zeroValue95
  t131 := Try.underlying90
  a131 := Try.isAgg90
  z131 := Try.sizeOf90
  v131 := Try.zeroValue90
  t182 := Try.underlying85
  a182 := Try.isAgg85
  z182 := Try.sizeOf85
  v182 := Try.zeroValue85
  t183 := Try.underlying86
  a183 := Try.isAgg86
  z183 := Try.sizeOf86
  v183 := Try.zeroValue86
  t218 := Try.underlying103
  a218 := Try.isAgg103
  z218 := Try.sizeOf103
  v218 := Try.zeroValue103
  t222 := Try.underlying107
  a222 := Try.isAgg107
  z222 := Try.sizeOf107
  v222 := Try.zeroValue107
  t228 := Try.underlying112
  a228 := Try.isAgg112
  z228 := Try.sizeOf112
  v228 := Try.zeroValue112
  t229 := Try.underlying113
  a229 := Try.isAgg113
  z229 := Try.sizeOf113
  v229 := Try.zeroValue113 }
def Try.laysSF_ren : Go.Shelf.Ren := ⟨fun | 6 => 34 | 15 => 41 | 14 => 40 | 28 => 53 | 29 => 54 | 20 => 45 | 21 => 46 | 22 => 47 | 23 => 48 | 24 => 49 | 25 => 50 | 26 => 51 | 27 => 52 | 46 => 65 | 47 => 66 | 48 => 67 | 49 => 68 | 50 => 69 | 57 => 75 | n => n, fun | 22 => 23 | 24 => 30 | 25 => 77 | 3 => 3 | 39 => 67 | 0 => 0 | 53 => 93 | 55 => 95 | 4 => 4 | 46 => 86 | 45 => 85 | 50 => 90 | 5 => 5 | 9 => 9 | 66 => 103 | 70 => 107 | 76 => 112 | 77 => 113 | n => n, fun | n => n⟩
theorem Try.laysSF : Go.Proofs.SlLaysF0.n6 Try.prog Try.laysSF_ren := {
  mixed := by kernel_rfl
  f6 := ⟨Try.f34.name, by decide, Try.func34.trans (congrArg some (by kernel_rfl))⟩
  f14 := ⟨Try.f40.name, by decide, Try.func40.trans (congrArg some (by kernel_rfl))⟩
  f15 := Try.func41.trans (congrArg some (by kernel_rfl))
  f20 := ⟨Try.f45.name, by decide, Try.func45.trans (congrArg some (by kernel_rfl))⟩
  f21 := ⟨Try.f46.name, by decide, Try.func46.trans (congrArg some (by kernel_rfl))⟩
  f22 := ⟨Try.f47.name, by decide, Try.func47.trans (congrArg some (by kernel_rfl))⟩
  f23 := ⟨Try.f48.name, by decide, Try.func48.trans (congrArg some (by kernel_rfl))⟩
  f24 := ⟨Try.f49.name, by decide, Try.func49.trans (congrArg some (by kernel_rfl))⟩
  f25 := ⟨Try.f50.name, by decide, Try.func50.trans (congrArg some (by kernel_rfl))⟩
  f26 := ⟨Try.f51.name, by decide, Try.func51.trans (congrArg some (by kernel_rfl))⟩
  f27 := ⟨Try.f52.name, by decide, Try.func52.trans (congrArg some (by kernel_rfl))⟩
  f28 := Try.func53.trans (congrArg some (by kernel_rfl))
  f29 := Try.func54.trans (congrArg some (by kernel_rfl))
  f46 := ⟨Try.f65.name, by decide, Try.func65.trans (congrArg some (by kernel_rfl))⟩
  f47 := Try.func66.trans (congrArg some (by kernel_rfl))
  f48 := Try.func67.trans (congrArg some (by kernel_rfl))
  f49 := ⟨Try.f68.name, by decide, Try.func68.trans (congrArg some (by kernel_rfl))⟩
  f50 := ⟨Try.f69.name, by decide, Try.func69.trans (congrArg some (by kernel_rfl))⟩
  f57 := ⟨Try.f75.name, by decide, Try.func75.trans (congrArg some (by kernel_rfl))⟩
  t0 := Try.underlying0
  a0 := Try.isAgg0
  z0 := Try.sizeOf0
  v0 := Try.zeroValue0
  t3 := Try.underlying3
  a3 := Try.isAgg3
  z3 := Try.sizeOf3
  v3 := Try.zeroValue3
  t4 := Try.underlying4
  a4 := Try.isAgg4
  z4 := Try.sizeOf4
  v4 := Try.zeroValue4
  t5 := Try.underlying5
  a5 := Try.isAgg5
  z5 := Try.sizeOf5
  v5 := Try.zeroValue5
  t9 := Try.underlying9
  a9 := Try.isAgg9
  z9 := Try.sizeOf9
  v9 := Try.zeroValue9
  t22 := Try.underlying23
  a22 := Try.isAgg23
  z22 := Try.sizeOf23
  v22 := Try.zeroValue23
  t25 := Try.underlying77
  a25 := Try.isAgg77
  z25 := Try.sizeOf77
  v25 := Try.zeroValue77
  t39 := Try.underlying67
  a39 := Try.isAgg67
  z39 := Try.sizeOf67
  v39 := Try.zeroValue67
  t45 := Try.underlying85
  a45 := Try.isAgg85
  z45 := Try.sizeOf85
  v45 := Try.zeroValue85
  t46 := Try.underlying86
  a46 := Try.isAgg86
  z46 := Try.sizeOf86
  v46 := Try.zeroValue86
  t50 := Try.underlying90
  a50 := Try.isAgg90
  z50 := Try.sizeOf90
  v50 := Try.zeroValue90
  t53 := Try.underlying93
  a53 := Try.isAgg93
  z53 := Try.sizeOf93
  v53 := Try.zeroValue93
  t55 := Try.underlying95
  a55 := Try.isAgg95
  z55 := Try.sizeOf95
  v55 := Try.zeroValue95
  t66 := Try.underlying103
  a66 := Try.isAgg103
  z66 := Try.sizeOf103
  v66 := Try.zeroValue103
  t70 := Try.underlying107
  a70 := Try.isAgg107
  z70 := Try.sizeOf107
  v70 := Try.zeroValue107
  t76 := Try.underlying112
  a76 := Try.isAgg112
  z76 := Try.sizeOf112
  v76 := Try.zeroValue112
  t77 := Try.underlying113
  a77 := Try.isAgg113
  z77 := Try.sizeOf113
  v77 := Try.zeroValue113 }


open Go.AH Go.PM
/-- The functions that the closed part reaches. -/
def fsA : List FuncId := [7, 8, 10, 11, 12, 13, 14, 15, 16, 27, 28, 29, 30, 33, 34, 35, 36, 37, 38, 39, 40, 41, 42, 43, 44, 45, 46, 47, 48, 49, 50, 51, 52, 53, 54, 55, 56, 57, 58, 59, 60, 61, 62, 63, 64, 65, 66, 67, 68, 69, 71, 72, 73, 74, 75, 76]
theorem fitsA : okFB Try.prog fsA = true := by decide +kernel
theorem fits5 : okFB Try.prog fs5 = true := by decide +kernel
theorem mixed : Try.prog.follows .mixedOrders = true := by kernel_rfl
set_option maxRecDepth 100000 in
theorem runA : isTrueX (callX Try.prog (inL fsA) (cmpX 70) 100 100 16 #[] #[]) = true := by decide +kernel

def PrA : CallR → CallR := fun _ => cmpPr 70
theorem cmp_ok {f : FuncId} {args : Array Value} {H : Heap} {v : Value} {H' : Heap} (h : cmpPr 70 f args H v H') : Snd Try.prog f args H v H' :=
  cmp_snd (fn := Try.f70) Try.func70 (by kernel_rfl) (by kernel_rfl) (by kernel_rfl) rfl h
theorem okA : OkPr Try.prog PrA := fun _ _ _ _ _ h => cmp_ok h

def Pr5 : CallR → CallR := fun R f args H v H' =>
  cmpPr 70 f args H v H' ∨ closPr 16 f args H v H' ∨
  sortN 34 f args H v H' ∨ sortR Try.prog 34 30 6 R f args H v H' ∨
  sortSN 38 f args H v H' ∨ sortSR 38 9 f args H v H'
theorem prOk : PrOk Pr5 := ⟨fun _ _ _ _ _ _ h => .inl h, fun _ _ _ _ _ _ h => .inr (.inr (.inl h)), fun _ _ _ _ _ _ h => .inr (.inr (.inr (.inl h))), fun _ _ _ _ _ _ h => .inr (.inl h), fun _ _ _ _ _ _ h => .inr (.inr (.inr (.inr (.inl h)))), fun _ _ _ _ _ _ h => .inr (.inr (.inr (.inr (.inr h))))⟩

theorem entA : Ent Try.prog 16 := ⟨Try.f16, Try.func16, by kernel_rfl, by kernel_rfl⟩
theorem entF : Ent Try.prog (Try.laysSF_ren.f 6) := ⟨Try.f34, Try.func34, by kernel_rfl, by kernel_rfl⟩
theorem entS : Ent Try.prog (Try.lays190_ren.f 190) := ⟨Try.f38, Try.func38, by kernel_rfl, by kernel_rfl⟩
theorem ok5 : OkPr Try.prog Pr5 := by
  intro f args H v H' h
  rcases h with h | h | h | h | h | h
  · exact cmp_ok h
  · exact clos_snd mixed (okF_of fitsA) okA entA (callW_of_eval (Pr := PrA) cmpX_ok runA) h
  · exact sortN_snd Try.laysSF entF h
  · exact sort_snd Try.laysSF entF Try.isAgg30 Try.sizeOf30 _ h
  · exact sortSN_snd Try.lays190 entS h
  · exact sortS_snd Try.lays190 entS _ h

/-! ### The arguments' types -/
theorem sT : strK Try.prog 4 30 = some 6 := by kernel_rfl
theorem cT : Try.prog.cellsOf 30 = 6 := by kernel_rfl
theorem zT : sz Try.prog 30 = some 6 := by kernel_rfl
theorem aT : isAggA Try.prog 30 = some true := by kernel_rfl
theorem cI : Try.prog.cellsOf 2 = 1 := by kernel_rfl
theorem zI : sz Try.prog 2 = some 1 := by kernel_rfl
theorem aI : isAggA Try.prog 2 = some false := by kernel_rfl
theorem own : ownKnob Try.prog.godebug = none := by kernel_rfl
theorem laidOut : laidOutB Try.prog = true := by kernel_rfl
theorem rdB : Try.prog.readableRec 23 = true := by kernel_rfl
theorem rdI : Try.prog.readableRec 22 = true := by kernel_rfl
theorem rdT : Try.prog.readableRec 30 = true := by kernel_rfl
theorem rdK : Try.prog.readableRec 2 = true := by kernel_rfl
theorem ltB : 23 < Try.prog.types.size := of_decide_eq_true (by kernel_rfl)
theorem ltI : 22 < Try.prog.types.size := of_decide_eq_true (by kernel_rfl)
theorem ltT : 30 < Try.prog.types.size := of_decide_eq_true (by kernel_rfl)
theorem ltK : 2 < Try.prog.types.size := of_decide_eq_true (by kernel_rfl)
end Go.Proofs.Ytllmlcmhmkkgcaa
