/-
  Ytllmlcmhmkkgcaa: what the functions of law 5 do (13): the index of a set, and what the document finds, in the same words.
-/
import Derived.Test.YtllmlcmhmkkgcaaLookD
import Derived.Test.YtllmlcmhmkkgcaaLookF
import Derived.Test.YtllmlcmhmkkgcaaLookH
import Derived.Test.YtllmlcmhmkkgcaaLookK
import Derived.Test.YtllmlcmhmkkgcaaLookL
import Derived.Test.YtllmlcmhmkkgcaaLib5
set_option linter.unusedVariables false
set_option linter.unusedSimpArgs false
set_option linter.unusedSectionVars false
namespace Go.Proofs.Ytllmlcmhmkkgcaa
open Go Go.AH Go.PM
variable {Pr : CallR → CallR}

theorem short1 {S : List (Row 6)} (h : S.length ≤ 1000000) : shortG 1000000 (G1 S) := short_mono (short_grp _ _ _) h
theorem short2 {S : List (Row 6)} (h : S.length ≤ 1000000) : shortG 1000000 (G2 S) := short_mono (short_grp _ _ _) h
theorem short3 {S : List (Row 6)} (h : S.length ≤ 1000000) : shortG 1000000 (G3 S) := short_mono (short_grp _ _ _) h
theorem short4 {S : List (Row 6)} (h : S.length ≤ 1000000) : shortG 1000000 (G4 S) := short_mono (short_grp _ _ _) (Nat.le_trans (List.length_filter_le _ _) h)

/-- The two halves of the index, as values. -/
def leftV (S : List (Row 6)) : RV := .bx [mpR 64 28 (G1 S), mpS 9 9 (G2 S)]
def rightV (S : List (Row 6)) : RV := .bx [mpR 28 64 (G3 S), mpS 9 9 (G4 S)]

theorem iSubs {S : List (Row 6)} (h : S.length ≤ 1000000) (o : Row 2) (r : ByteArray) : SndP Try.prog Fn5 Pr 13 ([leftV S, rowV o, .str r].map .v) [.sl 28 ((fSubs S o r).map rowV)] ([leftV S, rowV o, .str r].map .v) := by
  have := snd_Subs (Pr := Pr) (G1 S) (mpS 9 9 (G2 S)) o r (short1 h)
  rw [G1, look_grp] at this
  exact this
theorem iObjs {S : List (Row 6)} (h : S.length ≤ 1000000) (s : Row 3) : SndP Try.prog Fn5 Pr 15 ([rightV S, rowV s].map .v) [.sl 64 ((fObjs S s).map rowV)] ([rightV S, rowV s].map .v) := by
  have := snd_Objs (Pr := Pr) (G3 S) (mpS 9 9 (G4 S)) s (short3 h)
  rw [G3, look_grp] at this
  exact this
theorem iTypes (hP : PrOk Pr) {S : List (Row 6)} (h : S.length ≤ 1000000) (t : ByteArray) : SndP Try.prog Fn5 Pr 11 ([leftV S, .str t].map .v) [.sl 9 ((fTypes S t).map .str)] ([leftV S, .str t].map .v) := by
  have := snd_Types hP (G2 S) (mpR 64 28 (G1 S)) t (short2 h)
  rw [G2, look_grp] at this
  exact this
theorem iUsers (hP : PrOk Pr) {S : List (Row 6)} (h : S.length ≤ 1000000) (t : ByteArray) : SndP Try.prog Fn5 Pr 12 ([rightV S, .str t].map .v) [.sl 9 ((fUsers S t).map .str)] ([rightV S, .str t].map .v) := by
  have := snd_Users hP (G4 S) (mpR 28 64 (G3 S)) t (short4 h)
  rw [G4, look_grp, List.filter_filter] at this
  exact this
theorem dSubs {S : List (Row 6)} (ha : Asc rl S) (h : S.length ≤ 1000000) (o : Row 2) (r : ByteArray) : SndP Try.prog Fn5 Pr 19 ([.sl 30 (S.map rowV), rowV o, .str r].map .v) [.sl 28 ((fSubs S o r).map rowV)] ([.sl 30 (S.map rowV), rowV o, .str r].map .v) := snd_refSubs S o r ha h
theorem dObjs {S : List (Row 6)} (h : S.length ≤ 1000000) (s : Row 3) : SndP Try.prog Fn5 Pr 21 ([.sl 30 (S.map rowV), rowV s].map .v) [.sl 64 ((fObjs S s).map rowV)] ([.sl 30 (S.map rowV), rowV s].map .v) := snd_refObjs S s h
theorem dTypes {S : List (Row 6)} (h : S.length ≤ 1000000) (t : ByteArray) : SndP Try.prog Fn5 Pr 22 ([.sl 30 (S.map rowV), .str t].map .v) [.sl 9 ((fTypes S t).map .str)] ([.sl 30 (S.map rowV), .str t].map .v) := snd_refTypes S t h
theorem dUsers {S : List (Row 6)} (h : S.length ≤ 1000000) (t : ByteArray) : SndP Try.prog Fn5 Pr 23 ([.sl 30 (S.map rowV), .str t].map .v) [.sl 9 ((fUsers S t).map .str)] ([.sl 30 (S.map rowV), .str t].map .v) := snd_refUsers S t h

theorem selfT (a : List ByteArray) (hl : a.length ≤ 1000000) : SndP Try.prog Fn5 Pr 14 ([.sl 9 (a.map .str), .sl 9 (a.map .str)].map .v) [.v (.bool true)] ([.sl 9 (a.map .str), .sl 9 (a.map .str)].map .v) := by
  have := snd_SameTexts (Pr := Pr) a a (by omega)
  rwa [decide_eq_true rfl] at this
theorem selfS (a : List (Row 3)) (hl : a.length ≤ 1000000) : SndP Try.prog Fn5 Pr 18 ([.sl 28 (a.map rowV), .sl 28 (a.map rowV)].map .v) [.v (.bool true)] ([.sl 28 (a.map rowV), .sl 28 (a.map rowV)].map .v) := by
  have := snd_sameSubs (Pr := Pr) a a (by omega)
  rwa [decide_eq_true rfl] at this
theorem selfR (a : List (Row 3)) (hl : a.length ≤ 1000000) : SndP Try.prog Fn5 Pr 20 ([.sl 64 (a.map rowV), .sl 64 (a.map rowV)].map .v) [.v (.bool true)] ([.sl 64 (a.map rowV), .sl 64 (a.map rowV)].map .v) := by
  have := snd_sameRefs (Pr := Pr) a a (by omega)
  rwa [decide_eq_true rfl] at this

/-- The index while it is owned: what a call is handed of it. -/
theorem dem_mpRT (kt e : TypeId) (G : List (Row 3 × List (Row 3))) : (mpRT kt e G).dem = some (mpR kt e G) := by
  have : ∀ G : List (Row 3 × List (Row 3)), demL (G.map fun p => TV.sl e (p.2.map rowV)) = some (G.map fun p => .sl e (p.2.map rowV)) := by
    intro G
    induction G with
    | nil => rfl
    | cons p G ih => simp only [List.map_cons, demL, TV.dem, Option.bind_some, ih, Option.map_some]
  simp only [mpRT, TV.dem, this, Option.map_some, mpR]
theorem dem_mpST (kt e : TypeId) (G : List (ByteArray × List ByteArray)) : (mpST kt e G).dem = some (mpS kt e G) := by
  have : ∀ G : List (ByteArray × List ByteArray), demL (G.map fun p => TV.sl e (p.2.map .str)) = some (G.map fun p => .sl e (p.2.map .str)) := by
    intro G
    induction G with
    | nil => rfl
    | cons p G ih => simp only [List.map_cons, demL, TV.dem, Option.bind_some, ih, Option.map_some]
  simp only [mpST, TV.dem, this, Option.map_some, mpS]
theorem dem_left (S : List (Row 6)) : demL [mpRT 64 28 (G1 S), mpST 9 9 (G2 S)] = some [mpR 64 28 (G1 S), mpS 9 9 (G2 S)] := by
  simp only [demL, dem_mpRT, dem_mpST, Option.bind_some, Option.map_some]
theorem dem_right (S : List (Row 6)) : demL [mpRT 28 64 (G3 S), mpST 9 9 (G4 S)] = some [mpR 28 64 (G3 S), mpS 9 9 (G4 S)] := by
  simp only [demL, dem_mpRT, dem_mpST, Option.bind_some, Option.map_some]
theorem left_f (S : List (Row 6)) : RV.bx [mpR 64 28 (G1 S), mpS 9 9 (G2 S)] = leftV S := rfl
theorem right_f (S : List (Row 6)) : RV.bx [mpR 28 64 (G3 S), mpS 9 9 (G4 S)] = rightV S := rfl
end Go.Proofs.Ytllmlcmhmkkgcaa
