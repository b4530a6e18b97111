/-
  AH, an abstract deterministic machine: its values, its memory, its operations.
-/
import Derived.WalkKit

/-
  AH: an abstract deterministic machine for the code of the model: its blocks, its values, what each operation does, code and calls. The soundness of AH is proved in the texts behind this one. Nothing of a program stands here.
-/
namespace Go.AH
open Go

/-- The capacity of a slice whose true capacity isn't known (no slice has so great a one). -/
def capU : Nat := 9223372036854775808
/-- A value of which nothing is known. -/
def junk : Value := .tuple #[.nilFunc]

inductive Blk where
  | cells (c : Array Value) (t : TypeId) (rw : Bool)
  | map (kt : TypeId) (es : List (Value × Value))
  | dead
  deriving Inhabited

abbrev Heap := Array Blk

structure St where
  tmps : Array Value
  H : Heap

/-- Values that lead nowhere. -/
def isBase : Value → Bool
  | .bool _ | .int _ _ | .float _ _ | .complex _ _ _ | .string _ | .pointer none | .slice none _ _ | .map none | .chan none | .nilFunc | .nilIface => true
  | _ => false

/-- Values that can be keys here: scalars, and structs of scalars. -/
def isScalar : Value → Bool
  | .bool _ | .int _ _ | .string _ => true
  | _ => false
def isFlat : Value → Bool
  | .agg cs => cs.toList.all isScalar
  | v => isScalar v

def isAggV : Value → Bool
  | .agg _ => true
  | _ => false

/-- The bytes of two texts, by their numbers. -/
def eqU : List UInt8 → List UInt8 → Bool
  | [], [] => true
  | a :: x, b :: y => cond (Nat.beq a.toNat b.toNat) (eqU x y) false
  | _, _ => false
def eqS (a b : ByteArray) : Bool := eqU a.data.toList b.data.toList
theorem eqU_eq : ∀ (x y : List UInt8), eqU x y = (x == y)
  | [], [] => rfl
  | [], _ :: _ => rfl
  | _ :: _, [] => rfl
  | a :: x, b :: y => by
    simp only [eqU, List.cons_beq_cons, eqU_eq x y]
    cases h : Nat.beq a.toNat b.toNat with
    | true =>
      have := UInt8.toNat_inj.1 (Nat.eq_of_beq_eq_true h)
      simp [this]
    | false =>
      have : ¬ a = b := fun e => by rw [e, Nat.beq_refl] at h; cases h
      simp [this]
theorem eqS_eq (a b : ByteArray) : eqS a b = (a.toList == b.toList) := by rw [ByteArray.toList_eq, ByteArray.toList_eq]; exact eqU_eq _ _
def scalarEq : Value → Value → Bool
  | .bool a, .bool b => a == b
  | .int k a, .int k' b => k == k' && a == b
  | .string a, .string b => eqS a b
  | _, _ => false
def listEq : List Value → List Value → Bool
  | [], [] => true
  | a :: x, b :: y => scalarEq a b && listEq x y
  | _, _ => false
def flatEq : Value → Value → Bool
  | .agg x, .agg y => listEq x.toList y.toList
  | x, y => scalarEq x y

def ev (tmps : Array Value) : Operand → Value
  | .tmp t => tmps.getD t undef
  | .const v => if isBase v then v else junk
  | .global _ => junk
  | .func f => .func (.func f) #[] #[]

section
variable (P : Program)

def sz (t : TypeId) : Option Nat := (P.info? t).map (·.size)
def zeroA (t : TypeId) : Option (Array Value) :=
  match (P.info? t).bind (·.zero) with
  | some z => if z.cells.toList.all isBase then some z.cells else none
  | none => none
def zeroV (t : TypeId) : Option Value :=
  match (P.info? t).bind (·.zero) with
  | some z => if z.cells.toList.all isBase then some z else none
  | none => none
def isAggA (t : TypeId) : Option Bool :=
  match P.underlying t with
  | some (.struct _) | some (.array _ _) => some true
  | some _ => some false
  | none => none

def loadA (t : TypeId) (H : Heap) : Value → Option Value
  | .pointer (some ⟨b, o, none⟩) =>
    match H[b]? with
    | some (.cells c _ _) =>
      match isAggA P t with
      | some true => (sz P t).bind fun k => if o + k ≤ c.size then some (.agg (c.extract o (o + k))) else none
      | some false => c[o]?
      | none => none
    | _ => none
  | _ => none

/-- Cells are written behind each other. -/
def wr (c : Array Value) (o : Nat) : List Value → Array Value
  | [] => c
  | v :: r => wr (c.setIfInBounds o v) (o + 1) r

def storeA (t : TypeId) (H : Heap) : Value → Value → Option Heap
  | .pointer (some ⟨b, o, none⟩), v =>
    match H[b]? with
    | some (.cells c e true) =>
      if sz P t = some v.cells.size ∧ o + v.cells.size ≤ c.size ∧ v.cells.toList.all Value.oneCell' = true then some (H.setIfInBounds b (.cells (wr c o v.cells.toList) e true)) else none
    | _ => none
  | _, _ => none

def allocA (t : TypeId) (H : Heap) (c : Array Value) : Value × Heap := (.pointer (some ⟨H.size, 0, none⟩), H.push (.cells c t true))

def placesA : List Field → Option (List (Nat × Nat))
  | [] => some []
  | f :: r => (sz P f.type).bind fun k => (placesA r).map ((f.offset, k) :: ·)

def buildA (t : TypeId) (parts : List (Nat × Value)) : Option Value :=
  match zeroA P t, P.underlying t with
  | some z, some (.struct fields) => (placesA P fields.toList).bind fun places => (Instr.fill (fun i => places[i]?) z parts).map .agg
  | some z, some (.array _ elem) => (sz P elem).bind fun k => (Instr.fill (fun i => some (i * k, k)) z parts).map .agg
  | _, _ => none

def zeros (zero : Array Value) (n : Nat) : Array Value := (Array.range n).map (zero[· % zero.size]!)

def buildSliceA (t : TypeId) (len : Nat) (parts : List (Nat × Value)) (H : Heap) : Option (Value × Heap) :=
  match P.underlying t with
  | some (.slice e) =>
    (sz P e).bind fun k => if len * k ≤ 16777216 ∧ len ≤ 16777216 then
      (zeroA P e).bind fun z => if k = z.size then
      (Instr.fill (fun i => some (i * k, k)) (zeros z (len * k)) parts).map fun cells => (.slice (some ⟨H.size, 0, none⟩) len len, H.push (.cells cells e true)) else none
      else none
  | _ => none

def fieldAddrA (s : TypeId) (f : Nat) : Value → Option Value
  | .pointer (some ⟨b, o, none⟩) =>
    match P.underlying s with
    | some (.struct fields) =>
      match fields[f]? with
      | some fd => (sz P fd.type).bind fun k => if k = 0 then none else some (.pointer (some ⟨b, o + fd.offset, none⟩))
      | none => none
    | _ => none
  | _ => none

def partA (t : TypeId) (cs : Array Value) (off : Nat) : Option Value :=
  match isAggA P t with
  | some true => (sz P t).map fun k => .agg (cs.extract off (off + k))
  | some false => cs[off]?
  | none => none

def fieldA (s : TypeId) (f : Nat) : Value → Option Value
  | .agg cs =>
    match P.underlying s with
    | some (.struct fields) =>
      match fields[f]? with
      | some fd => partA P fd.type cs fd.offset
      | none => none
    | _ => none
  | _ => none

def indexAddrA (t : TypeId) : Value → Value → Option Value
  | .pointer (some ⟨b, o, none⟩), .int _ i =>
    match P.underlying t with
    | some (.array len e) => (sz P e).bind fun k => if 0 ≤ i ∧ i < len then some (.pointer (some ⟨b, o + i.toNat * k, none⟩)) else none
    | _ => none
  | .slice (some ⟨b, o, none⟩) len _, .int _ i =>
    match P.underlying t with
    | some (.slice e) => (sz P e).bind fun k => if 0 ≤ i ∧ i < len then some (.pointer (some ⟨b, o + i.toNat * k, none⟩)) else none
    | _ => none
  | _, _ => none

def indexA (t : TypeId) : Value → Value → Option Value
  | .agg cs, .int _ i =>
    match P.underlying t with
    | some (.array len e) => (sz P e).bind fun k => if 0 ≤ i ∧ i < len then partA P e cs (i.toNat * k) else none
    | _ => none
  | .string s, .int _ i =>
    match P.underlying t with
    | some .string => if 0 ≤ i then (s[i.toNat]?).map fun b => .int .u8 b.toNat else none
    | _ => none
  | _, _ => none

/-- A bound of a slice expression. -/
def bnd (x : Option Value) (dflt y : Nat) : Option Nat :=
  match x with
  | none => some dflt
  | some (.int _ i) => if 0 ≤ i ∧ i ≤ y then some i.toNat else none
  | _ => none

def sliceA (t : TypeId) (H : Heap) (x : Value) (lo hi mx : Option Value) : Option Value :=
  match P.underlying t, x with
  | some .string, .string s =>
    if mx.isSome then none else
    (bnd hi s.size s.size).bind fun h => (bnd lo 0 h).map fun l => .string (s.extract l h)
  | some (.slice e), .slice none n c =>
    if mx.isSome ∧ hi.isNone ∨ n ≠ 0 ∨ c ≠ 0 then none else
    (sz P e).bind fun _ => (bnd mx 0 0).bind fun m => (bnd hi 0 m).bind fun h => (bnd lo 0 h).map fun _ => .slice none 0 0
  | some (.slice e), .slice (some ⟨b, o, none⟩) n c =>
    match H[b]? with
    | some (.cells _ e' _) =>
      if e' ≠ e ∨ (mx.isSome ∧ hi.isNone) then none else
      (sz P e).bind fun k =>
      if c = capU then
        if mx.isSome then
          (bnd mx n n).bind fun m => (bnd hi n m).bind fun h => (bnd lo 0 h).map fun l => .slice (some ⟨b, if m = l then o else o + l * k, none⟩) (h - l) (m - l)
        else (bnd hi n n).bind fun h => (bnd lo 0 h).map fun l => .slice (some ⟨b, o + l * k, none⟩) (h - l) capU
      else if c < capU then
        (bnd mx c c).bind fun m => (bnd hi n m).bind fun h => (bnd lo 0 h).map fun l => .slice (some ⟨b, if m = l then o else o + l * k, none⟩) (h - l) (m - l)
      else none
    | _ => none
  | _, _ => none

def isShift : BinOp → Bool
  | .shl | .shr => true
  | _ => false

def intCmpA (op : BinOp) (a b : Int) : Option Bool :=
  match op with
  | .eql => some (a == b) | .neq => some (a != b) | .lss => some (decide (a < b)) | .leq => some (decide (a ≤ b)) | .gtr => some (decide (a > b)) | .geq => some (decide (a ≥ b))
  | _ => none

def intA (op : BinOp) (k : IntKind) (a b : Int) : Option Value :=
  match op with
  | .add => some (.int k (k.wrap (a + b)))
  | .sub => some (.int k (k.wrap (a - b)))
  | .mul => some (.int k (k.wrap (a * b)))
  | .quo => if b = 0 then none else some (.int k (k.wrap (a.tdiv b)))
  | .rem => if b = 0 then none else some (.int k (a.tmod b))
  | .and => some (.int k (k.wrap (BitVec.ofInt k.bits a &&& BitVec.ofInt k.bits b).toNat))
  | .or => some (.int k (k.wrap (BitVec.ofInt k.bits a ||| BitVec.ofInt k.bits b).toNat))
  | .xor => some (.int k (k.wrap (BitVec.ofInt k.bits a ^^^ BitVec.ofInt k.bits b).toNat))
  | .andNot => some (.int k (k.wrap (BitVec.ofInt k.bits a &&& ~~~(BitVec.ofInt k.bits b)).toNat))
  | .shl => if b < 0 then none else some (.int k (k.wrap (a * 2 ^ (min b.toNat k.bits))))
  | .shr => if b < 0 then none else some (.int k (a.fdiv (2 ^ (min b.toNat k.bits))))
  | _ => (intCmpA op a b).map .bool

def strA (op : BinOp) (x y : ByteArray) : Option Value :=
  match op with
  | .add => if x.size + y.size ≤ 9223372036854775807 then some (.string (x ++ y)) else none
  | .eql => some (.bool (eqS x y))
  | .neq => some (.bool (!(eqS x y)))
  | .lss => some (.bool (Op.bytesLess x.data.toList y.data.toList))
  | .leq => some (.bool (Op.bytesLess x.data.toList y.data.toList || eqS x y))
  | .gtr => some (.bool !(Op.bytesLess x.data.toList y.data.toList || eqS x y))
  | .geq => some (.bool !(Op.bytesLess x.data.toList y.data.toList))
  | _ => none

/-- Kinds of scalars. -/
inductive Sk where
  | b
  | i (k : IntKind)
  | s
  deriving DecidableEq

def Sk.fits : Sk → Value → Bool
  | .b, .bool _ => true
  | .i k, .int k' _ => k == k'
  | .s, .string _ => true
  | _, _ => false
def fitsAll : List Sk → List Value → Bool
  | [], [] => true
  | k :: ks, v :: vs => k.fits v && fitsAll ks vs
  | _, _ => false

/-- The scalars of a struct's fields, from a cell on, if all of them count. -/
def flatFs (rc : TypeId → Option (List Sk)) : Nat → List Field → Option (List Sk)
  | _, [] => some []
  | at_, f :: r =>
    if f.name = "_" ∨ f.offset ≠ at_ then none else
    (rc f.type).bind fun ks => if sz P f.type = some ks.length then (flatFs rc (at_ + ks.length) r).map (ks ++ ·) else none

/-- The scalars of a type, if it is one or a struct of such. -/
def flatK : Nat → TypeId → Option (List Sk)
  | 0, _ => none
  | d + 1, t =>
    match P.underlying t with
    | some .bool => some [.b]
    | some (.int k) => some [.i k]
    | some .string => some [.s]
    | some (.struct fields) => if P.stoodInHeld t then none else flatFs P (flatK d) 0 fields.toList
    | _ => none

/-- Is v a value of the flat type t? -/
def fits (t : TypeId) (v : Value) : Bool :=
  match flatK P 9 t with
  | some ks => fitsAll ks v.cells.toList && (isAggA P t == some (isAggV v))
  | none => false

/-- '==' . -/
def eqA (t : TypeId) (x y : Value) : Option Bool :=
  match P.underlying t, x, y with
  | some .bool, .bool a, .bool b => some (a == b)
  | some (.pointer _), .pointer none, .pointer b => some b.isNone
  | some (.pointer _), .pointer (some _), .pointer none => some false
  | some (.slice _), .slice none _ _, .slice b _ _ => some b.isNone
  | some (.slice _), .slice (some _) _ _, .slice none _ _ => some false
  | some (.map _ _), .map none, .map b => some b.isNone
  | some (.map _ _), .map (some _), .map none => some false
  | some (.struct _), .agg xs, .agg ys => if fits P t (.agg xs) && fits P t (.agg ys) && !P.eqGuardType P.depth t then some (listEq xs.toList ys.toList) else none
  | _, _, _ => none

def binA (op : BinOp) (t : TypeId) (x y : Value) : Option Value :=
  match x, y with
  | .int k a, .int k' b => if isShift op then intA op k a b else if k = k' then intA op k a b else none
  | .string a, .string b => strA op a b
  | x, y =>
    match op with
    | .eql => (eqA P t x y).map .bool
    | .neq => (eqA P t x y).map fun b => .bool !b
    | _ => none

def unA (op : UnOp) : Value → Option Value
  | .bool b => match op with | .not => some (.bool !b) | _ => none
  | .int k n => match op with | .neg => some (.int k (k.wrap (0 - n))) | .xor => intA .xor k (if k.signed then -1 else k.max) n | _ => none
  | _ => none

/-- Where a key stands among entries, and what is there. -/
def findA (k : Value) : List (Value × Value) → Nat → Option (Nat × Value)
  | [], _ => none
  | e :: r, i => if flatEq k e.1 then some (i, e.2) else findA k r (i + 1)

def lookupA (t : TypeId) (H : Heap) (m k : Value) (ok : Bool) : Option Value :=
  match P.underlying t with
  | some (.map kt et) =>
    if fits P kt k then
    (match m with
     | .map none => some []
     | .map (some r) => match H[r]? with | some (.map kt' es) => if kt' = kt then some es else none | _ => none
     | _ => none).bind fun es =>
    match findA k es 0 with
    | some (_, v) => some (if ok then .tuple #[v, .bool true] else v)
    | none => (zeroV P et).map fun z => if ok then .tuple #[z, .bool false] else z
    else none
  | _ => none

def mapUpdateA (t : TypeId) (H : Heap) (m k v : Value) : Option Heap :=
  match P.underlying t, m with
  | some (.map kt _), .map (some r) =>
    if fits P kt k then
    match H[r]? with
    | some (.map kt' es) => if kt' = kt then
        match findA k es 0 with
        | some (i, _) => some (H.setIfInBounds r (.map kt (es.set i (k, v))))
        | none => some (H.setIfInBounds r (.map kt (es ++ [(k, v)])))
      else none
    | _ => none
    else none
  | _, _ => none

def mapEntryA (t : TypeId) (H : Heap) (m k : Value) : Option (Value × Heap) :=
  match P.underlying t, m with
  | some (.map kt et), .map (some r) =>
    if fits P kt k then
    match H[r]? with
    | some (.map kt' es) => if kt' = kt then
        match findA k es 0 with
        | some (i, v) => some (.tuple #[v, .int .i64 i], H)
        | none => (zeroV P et).map fun z => (.tuple #[z, .int .i64 es.length], H.setIfInBounds r (.map kt (es ++ [(k, z)])))
      else none
    | _ => none
    else none
  | _, _ => none

def entryStoreA (H : Heap) (m st v : Value) : Option Heap :=
  match m, st with
  | .map (some r), .int _ i =>
    match H[r]? with
    | some (.map kt es) => if 0 ≤ i ∧ (flatK P 9 kt).isSome = true then match es[i.toNat]? with | some e => some (H.setIfInBounds r (.map kt (es.set i.toNat (e.1, v)))) | none => none else none
    | _ => none
  | _, _ => none

def makeMapA (t : TypeId) (H : Heap) : Option (Value × Heap) :=
  match P.underlying t with
  | some (.map kt _) => some (.map (some H.size), H.push (.map kt []))
  | _ => none

def makeSliceA (t : TypeId) (H : Heap) : Value → Value → Option (Value × Heap)
  | .int _ l, .int _ c =>
    match P.underlying t with
    | some (.slice e) =>
      match P.info? e, zeroA P e with
      | some i, some z => if 0 ≤ l ∧ l ≤ c ∧ c * i.bytes ≤ 140737488355328 ∧ c ≤ 9223372036854775807 ∧ 0 < i.size then some (.slice (some ⟨H.size, 0, none⟩) l.toNat c.toNat, H.push (.cells (zeros z (c.toNat * i.size)) e true)) else none
      | _, _ => none
    | _ => none
  | _, _ => none

/-- The cells of a slice's n elements of k cells each. -/
def rowA (H : Heap) (k : Nat) : Value → Option (Nat × Array Value)
  | .slice none n _ => if n = 0 then some (0, #[]) else none
  | .slice (some ⟨b, o, none⟩) n _ =>
    match H[b]? with
    | some (.cells c _ _) => if o + n * k ≤ c.size then some (n, c.extract o (o + n * k)) else none
    | _ => none
  | _ => none

/-- append. -/
def appendA (H : Heap) (t0 t1 : TypeId) (s x : Value) : Option (Value × Heap) :=
  match P.underlying t0, P.underlying t1 with
  | some (.slice e), some (.slice e1) =>
    match P.info? e, zeroA P e with
    | some i, some z =>
      if 0 < i.size ∧ z.size = i.size ∧ e1 = e then
      (rowA H i.size x).bind fun (m, new) =>
      if new.toList.all Value.oneCell' then
      match s with
      | .slice none 0 0 =>
        if m = 0 then some (.slice none 0 0, H) else
        if m * i.bytes ≤ 140737488355328 ∧ m ≤ 9223372036854775807 then some (.slice (some ⟨H.size, 0, none⟩) m capU, H.push (.cells new e true)) else none
      | .slice (some ⟨b, o, none⟩) n c =>
        match H[b]? with
        | some (.cells cs e' rw) =>
          if e' = e ∧ o + n * i.size ≤ cs.size ∧ (n + m) * i.bytes ≤ 140737488355328 ∧ n + m ≤ 9223372036854775807 then
            if c = capU then
              if rw then some (.slice (some ⟨H.size, 0, none⟩) (n + m) capU, (H.setIfInBounds b .dead).push (.cells (cs.extract o (o + n * i.size) ++ new) e true)) else none
            else if n + m ≤ c then
              if m = 0 then some (.slice (some ⟨b, o, none⟩) n c, H) else
              if rw ∧ o + (n + m) * i.size ≤ cs.size then some (.slice (some ⟨b, o, none⟩) (n + m) c, H.setIfInBounds b (.cells (wr cs (o + n * i.size) new.toList) e true)) else none
            else some (.slice (some ⟨H.size, 0, none⟩) (n + m) capU, H.push (.cells (cs.extract o (o + n * i.size) ++ new) e true))
          else none
        | _ => none
      | _ => none
      else none
      else none
    | _, _ => none
  | _, _ => none

/-- append of so many zero elements, to nothing (the shape of 'append(s, make([]E, n)...)'). -/
def appendIA (H : Heap) (t0 t1 : TypeId) (s x : Value) : Option (Value × Heap) :=
  match P.underlying t0, P.underlying t1, s, x with
  | some (.slice e), some (.int _), .slice none 0 0, .int _ m =>
    match P.info? e, zeroA P e with
    | some i, some z =>
      if 0 < i.size ∧ z.size = i.size ∧ 0 ≤ m ∧ m ≤ 9223372036854775807 ∧ m.toNat * i.bytes ≤ 140737488355328 then
        if m.toNat = 0 then some (.slice none 0 0, H) else some (.slice (some ⟨H.size, 0, none⟩) m.toNat capU, H.push (.cells (zeros z (m.toNat * i.size)) e true))
      else none
    | _, _ => none
  | _, _, _, _ => none

def lenA (H : Heap) (t : TypeId) (x : Value) : Option Value :=
  match P.underlying t, x with
  | some .string, .string s => some (.int .i64 s.size)
  | some (.slice _), .slice _ n _ => some (.int .i64 n)
  | some (.map _ _), .map none => some (.int .i64 0)
  | some (.map _ _), .map (some r) => match H[r]? with | some (.map _ es) => some (.int .i64 es.length) | _ => none
  | _, _ => none

def clearA (H : Heap) (t : TypeId) (x : Value) : Option Heap :=
  match P.underlying t, x with
  | some (.slice _), .slice none _ _ => some H
  | some (.slice e), .slice (some ⟨b, o, none⟩) n _ =>
    if n = 0 then some H else
    match H[b]?, zeroA P e with
    | some (.cells c e' true), some z => if e' = e ∧ sz P e = some z.size ∧ 0 < z.size ∧ o + n * z.size ≤ c.size ∧ z.toList.all Value.oneCell' = true then some (H.setIfInBounds b (.cells (wr c o (zeros z (n * z.size)).toList) e true)) else none
    | _, _ => none
  | _, _ => none

/-- cap: where the capacity is known. -/
def capA (t : TypeId) (x : Value) : Option Value :=
  match P.underlying t, x with
  | some (.slice _), .slice _ _ c => if c = capU then none else some (.int .i64 c)
  | _, _ => none

def minA : List Value → Option Value
  | [.int k a, .int _ b] => some (.int k (if b < a then b else a))
  | _ => none
def maxA : List Value → Option Value
  | [.int k a, .int _ b] => some (.int k (if b > a then b else a))
  | _ => none

def convertA (H : Heap) (src dst : TypeId) (x : Value) : Option (Value × Heap) :=
  match P.underlying src, P.underlying dst, x with
  | some (.int _), some (.int k), .int _ n => some (.int k (k.wrap n), H)
  | some .string, some .string, .string s => some (.string s, H)
  | _, _, _ => none

def nilCheckA : Value → Option Value
  | .pointer (some a) => some (.pointer (some a))
  | .func (.func f) first captured => some (.func (.func f) first captured)
  | _ => none

def pickA (c a b : Value) : Option Value :=
  match c with
  | .bool t => some (if t then a else b)
  | _ => none

def extractA (i : Nat) : Value → Option Value
  | .tuple vs => if 2 ≤ vs.size then vs[i]? else none
  | _ => none

def noTuple : Value → Bool
  | .tuple _ => false
  | _ => true

def builtinA (H : Heap) (b : Builtin) (ts : List TypeId) (args : List Value) : Option (Value × Heap) :=
  match b, ts, args with
  | .append, [t0, t1], [s, x] => (match appendA P H t0 t1 s x with | some r => some r | none => appendIA P H t0 t1 s x)
  | .len, [t], [x] => (lenA P H t x).map (·, H)
  | .clear, [t], [x] => (clearA P H t x).map (.tuple #[], ·)
  | .cap, [t], [x] => (capA P t x).map (·, H)
  | .min, _, l => (minA l).map (·, H)
  | .max, _, l => (maxA l).map (·, H)
  | _, _, _ => none

/-- What an operation that is no call does: its value, and the heap. -/
def opA (r : Operand → Value) (o : Op) (H : Heap) : Option (Value × Heap) :=
  match o with
  | .move x | .assign x => some (r x, H)
  | .pick c a b => (pickA (r c) (r a) (r b)).map (·, H)
  | .alloc t => (zeroA P t).map (allocA t H)
  | .box t x => if noTuple (r x) then some (allocA t H (r x).cells) else none
  | .build t ps => if ps.toList.all fun p => noTuple (r p.2) then (buildA P t (ps.toList.map fun p => (p.1, r p.2))).map (·, H) else none
  | .buildSlice t n ps => if ps.toList.all fun p => noTuple (r p.2) then buildSliceA P t n (ps.toList.map fun p => (p.1, r p.2)) H else none
  | .load t a => (loadA P t H (r a)).map (·, H)
  | .store t a v => (storeA P t H (r a) (r v)).map (undef, ·)
  | .nilCheck x => (nilCheckA (r x)).map (·, H)
  | .binOp op t x y _ => (binA P op t (r x) (r y)).map (·, H)
  | .unOp op _ x => (unA op (r x)).map (·, H)
  | .convert s d x => convertA P H s d (r x)
  | .makeFunc f first cap => some (.func f (first.map r) (cap.map r), H)
  | .makeMap t none => makeMapA P t H
  | .makeSlice t l c => makeSliceA P t H (r l) (r c)
  | .slice t x lo hi mx => (sliceA P t H (r x) (lo.map r) (hi.map r) (mx.map r)).map (·, H)
  | .fieldAddr s x f => (fieldAddrA P s f (r x)).map (·, H)
  | .field s x f => (fieldA P s f (r x)).map (·, H)
  | .indexAddr t x i => (indexAddrA P t (r x) (r i)).map (·, H)
  | .index t x i => (indexA P t (r x) (r i)).map (·, H)
  | .lookup t m k ok => (lookupA P t H (r m) (r k) ok).map (·, H)
  | .mapUpdate t m k v | .insert t m k v => (mapUpdateA P t H (r m) (r k) (r v)).map (undef, ·)
  | .mapEntry t m k => mapEntryA P t H (r m) (r k)
  | .entryStore _ m s v => (entryStoreA P H (r m) (r s) (r v)).map (undef, ·)
  | .extract x i => (extractA i (r x)).map (·, H)
  | .call { callee := .builtin b, args, argTypes } => builtinA P H b argTypes.toList (args.toList.map r)
  | _ => none

/-- Is an operation a call of a function with a body (or one that has a contract)? Which, with what? -/
def calleeA (r : Operand → Value) (o : Op) : Option (FuncId × Array Value) :=
  match o with
  | .call { callee := .value f, args, .. } =>
    match r f with
    | .func (.func g) first captured => some (g, first ++ args.map r ++ captured)
    | _ => none
  | _ => none

end
end Go.AH

/-
  AH: how its values, blocks and heaps stand to the model's; steps, their frames and their composition.
-/
namespace Go.AH
open Go

/-- Where a block of AH lies: the model's block, from which cell on, how many cells that block has in all, its elements' type. -/
structure Tgt where
  b : Nat
  d : Nat
  n : Nat
  t : TypeId

abbrev Mp := Nat → Option Tgt

/-- The cells of an element. -/
def szD (P : Program) (t : TypeId) : Nat := ((P.info? t).map (·.size)).getD 0

inductive VR (P : Program) (M : Mp) : Value → Value → Prop
  | junk (v : Value) : VR P M junk v
  | base {v : Value} (h : isBase v = true) : VR P M v v
  | ptr {b o : Nat} {τ : Tgt} (h : M b = some τ) : VR P M (.pointer (some ⟨b, o, none⟩)) (.pointer (some ⟨τ.b, τ.d + o, none⟩))
  | sl {b o n c : Nat} {τ : Tgt} (h : M b = some τ) (hc : c ≠ capU) : VR P M (.slice (some ⟨b, o, none⟩) n c) (.slice (some ⟨τ.b, τ.d + o, none⟩) n c)
  | slU {b o n c : Nat} {τ : Tgt} (h : M b = some τ) (hn : n ≤ c) (hc : c ≤ maxLen) (hs : τ.d + o + c * szD P τ.t ≤ τ.n) : VR P M (.slice (some ⟨b, o, none⟩) n capU) (.slice (some ⟨τ.b, τ.d + o, none⟩) n c)
  | slE {b o o' : Nat} {τ : Tgt} (h : M b = some τ) : VR P M (.slice (some ⟨b, o, none⟩) 0 capU) (.slice (some ⟨τ.b, o', none⟩) 0 0)
  | sl0 {b o o' : Nat} {τ : Tgt} (h : M b = some τ) : VR P M (.slice (some ⟨b, o, none⟩) 0 0) (.slice (some ⟨τ.b, o', none⟩) 0 0)
  | map {b : Nat} {τ : Tgt} (h : M b = some τ) : VR P M (.map (some b)) (.map (some τ.b))
  | func {fn : Fn} {x y x' y' : Array Value} (hx : x.size = x'.size) (hy : y.size = y'.size)
      (h1 : ∀ i (h : i < x.size) (h' : i < x'.size), VR P M x[i] x'[i]) (h2 : ∀ i (h : i < y.size) (h' : i < y'.size), VR P M y[i] y'[i]) : VR P M (.func fn x y) (.func fn x' y')
  | iface {t : TypeId} {v v' : Value} (h : VR P M v v') : VR P M (.iface t v) (.iface t v')
  | agg {x x' : Array Value} (hx : x.size = x'.size) (h : ∀ i (h : i < x.size) (h' : i < x'.size), VR P M x[i] x'[i]) : VR P M (.agg x) (.agg x')
  | tuple {x x' : Array Value} (hx : x.size = x'.size) (h : ∀ i (h : i < x.size) (h' : i < x'.size), VR P M x[i] x'[i]) : VR P M (.tuple x) (.tuple x')

variable {P : Program} {M M' M1 M2 : Mp}

def MLe (M M' : Mp) : Prop := ∀ b τ, M b = some τ → M' b = some τ
theorem MLe.refl (M : Mp) : MLe M M := fun _ _ h => h
theorem MLe.trans (h : MLe M M1) (k : MLe M1 M2) : MLe M M2 := fun _ _ e => k _ _ (h _ _ e)

theorem VR.mono (hM : MLe M M') {v v' : Value} (h : VR P M v v') : VR P M' v v' := by
  induction h with
  | junk v => exact .junk v
  | base h => exact .base h
  | ptr h => exact .ptr (hM _ _ h)
  | sl h hc => exact .sl (hM _ _ h) hc
  | slU h hn hc hs => exact .slU (hM _ _ h) hn hc hs
  | slE h => exact .slE (hM _ _ h)
  | sl0 h => exact .sl0 (hM _ _ h)
  | map h => exact .map (hM _ _ h)
  | func hx hy _ _ i1 i2 => exact .func hx hy i1 i2
  | iface _ i => exact .iface i
  | agg hx _ i => exact .agg hx i
  | tuple hx _ i => exact .tuple hx i

/-- Arrays, cell by cell. -/
def AR (P : Program) (M : Mp) (x x' : Array Value) : Prop := x.size = x'.size ∧ ∀ i (h : i < x.size) (h' : i < x'.size), VR P M x[i] x'[i]
/-- Lists. -/
inductive LR (P : Program) (M : Mp) : List Value → List Value → Prop
  | nil : LR P M [] []
  | cons {v v' : Value} {l l' : List Value} (h : VR P M v v') (r : LR P M l l') : LR P M (v :: l) (v' :: l')

theorem LR.length {l l' : List Value} (h : LR P M l l') : l.length = l'.length := by
  induction h with
  | nil => rfl
  | cons _ _ ih => simp [ih]
theorem LR.get {l l' : List Value} (h : LR P M l l') : ∀ i (h1 : i < l.length) (h2 : i < l'.length), VR P M l[i] l'[i] := by
  induction h with
  | nil => intro i h1; simp at h1
  | cons h _ ih =>
    intro i h1 h2
    cases i with
    | zero => exact h
    | succ i => simpa using ih i (by simpa using h1) (by simpa using h2)
theorem LR.of_get : ∀ {l l' : List Value}, l.length = l'.length → (∀ i (h1 : i < l.length) (h2 : i < l'.length), VR P M l[i] l'[i]) → LR P M l l'
  | [], [], _, _ => .nil
  | [], _ :: _, h, _ => by simp at h
  | _ :: _, [], h, _ => by simp at h
  | v :: l, v' :: l', h, g => .cons (g 0 (by simp) (by simp)) (LR.of_get (by simpa using h) (fun i h1 h2 => g (i + 1) (by simpa using h1) (by simpa using h2)))
theorem AR.list {x x' : Array Value} (h : AR P M x x') : LR P M x.toList x'.toList := LR.of_get (by simpa using h.1) (fun i h1 h2 => h.2 i (by simpa using h1) (by simpa using h2))
theorem LR.array {x x' : Array Value} (h : LR P M x.toList x'.toList) : AR P M x x' := ⟨by simpa using h.length, fun i h1 h2 => h.get i (by simpa using h1) (by simpa using h2)⟩
theorem LR.mono (hM : MLe M M') {l l' : List Value} (h : LR P M l l') : LR P M' l l' := by
  induction h with
  | nil => exact .nil
  | cons h _ ih => exact .cons (h.mono hM) ih
theorem AR.mono (hM : MLe M M') {x x' : Array Value} (h : AR P M x x') : AR P M' x x' := ⟨h.1, fun i h1 h2 => (h.2 i h1 h2).mono hM⟩
theorem LR.append {l l' k k' : List Value} (h : LR P M l l') (g : LR P M k k') : LR P M (l ++ k) (l' ++ k') := by
  induction h with
  | nil => exact g
  | cons h _ ih => exact .cons h ih
theorem LR.refl_base : ∀ {l : List Value}, l.all isBase = true → LR P M l l
  | [], _ => .nil
  | v :: l, h => by
    simp only [List.all_cons, Bool.and_eq_true] at h
    exact .cons (.base h.1) (LR.refl_base h.2)
theorem AR.get? {x x' : Array Value} (h : AR P M x x') {i : Nat} {v : Value} (hv : x[i]? = some v) : ∃ v', x'[i]? = some v' ∧ VR P M v v' := by
  obtain ⟨hi, rfl⟩ := Array.getElem?_eq_some_iff.1 hv
  have hi' : i < x'.size := h.1 ▸ hi
  exact ⟨x'[i], Array.getElem?_eq_getElem hi', h.2 i hi hi'⟩
theorem AR.getD {x x' : Array Value} (h : AR P M x x') (i : Nat) : VR P M (x.getD i undef) (x'.getD i undef) := by
  by_cases hi : i < x.size
  · have hi' : i < x'.size := h.1 ▸ hi
    simp only [Array.getD, hi, hi', dif_pos]
    exact h.2 i hi hi'
  · have hi' : ¬ i < x'.size := h.1 ▸ hi
    simp only [Array.getD, hi, hi', dif_neg, not_false_eq_true]
    exact .tuple rfl (fun i h => by simp at h)
theorem VR.undef : VR P M undef undef := .tuple rfl (fun i h => by simp at h)

/-! ### What a related value is, by the canonical one's form -/
theorem VR.int_inv {k : IntKind} {n : Int} {v : Value} (h : VR P M (.int k n) v) : v = .int k n := by
  cases h with
  | base _ => rfl
theorem VR.bool_inv {b : Bool} {v : Value} (h : VR P M (.bool b) v) : v = .bool b := by cases h with | base _ => rfl
theorem VR.string_inv {s : ByteArray} {v : Value} (h : VR P M (.string s) v) : v = .string s := by cases h with | base _ => rfl
theorem VR.ptr_inv {b o : Nat} {v : Value} (h : VR P M (.pointer (some ⟨b, o, none⟩)) v) : ∃ τ, M b = some τ ∧ v = .pointer (some ⟨τ.b, τ.d + o, none⟩) := by
  cases h with
  | base h => simp [isBase] at h
  | ptr h => exact ⟨_, h, rfl⟩
theorem VR.ptr_nil_inv {v : Value} (h : VR P M (.pointer none) v) : v = .pointer none := by cases h with | base _ => rfl
theorem VR.map_inv {b : Nat} {v : Value} (h : VR P M (.map (some b)) v) : ∃ τ, M b = some τ ∧ v = .map (some τ.b) := by
  cases h with
  | base h => simp [isBase] at h
  | map h => exact ⟨_, h, rfl⟩
theorem VR.map_nil_inv {v : Value} (h : VR P M (.map none) v) : v = .map none := by cases h with | base _ => rfl
theorem VR.sl_nil_inv {n c : Nat} {v : Value} (h : VR P M (.slice none n c) v) : v = .slice none n c := by cases h with | base _ => rfl
theorem VR.agg_inv {x : Array Value} {v : Value} (h : VR P M (.agg x) v) : ∃ x', v = .agg x' ∧ AR P M x x' := by
  cases h with
  | base h => simp [isBase] at h
  | agg hx h => exact ⟨_, rfl, hx, h⟩
theorem VR.sl_inv {b o n c : Nat} {v : Value} (hc : c ≠ capU) (h : VR P M (.slice (some ⟨b, o, none⟩) n c) v) : ∃ τ o', M b = some τ ∧ v = .slice (some ⟨τ.b, o', none⟩) n c ∧ (o' = τ.d + o ∨ (n = 0 ∧ c = 0)) := by
  cases h with
  | base h => simp [isBase] at h
  | sl h _ => exact ⟨_, _, h, rfl, .inl rfl⟩
  | slU => exact absurd rfl hc
  | slE => exact absurd rfl hc
  | sl0 h => exact ⟨_, _, h, rfl, .inr ⟨rfl, rfl⟩⟩
theorem VR.slU_inv {b o n : Nat} {v : Value} (h : VR P M (.slice (some ⟨b, o, none⟩) n capU) v) :
    ∃ τ, M b = some τ ∧ ((∃ c, v = .slice (some ⟨τ.b, τ.d + o, none⟩) n c ∧ n ≤ c ∧ c ≤ maxLen ∧ τ.d + o + c * szD P τ.t ≤ τ.n) ∨ (∃ o', n = 0 ∧ v = .slice (some ⟨τ.b, o', none⟩) 0 0)) := by
  cases h with
  | base h => simp [isBase] at h
  | sl h hc => exact absurd rfl hc
  | slU h hn hc hs => exact ⟨_, h, .inl ⟨_, rfl, hn, hc, hs⟩⟩
  | slE h => exact ⟨_, h, .inr ⟨_, rfl, rfl⟩⟩
/-- A slice with an address. -/
theorem VR.slice_inv {b o n c : Nat} {v : Value} (h : VR P M (.slice (some ⟨b, o, none⟩) n c) v) :
    ∃ τ o' c', M b = some τ ∧ v = .slice (some ⟨τ.b, o', none⟩) n c' ∧ (o' = τ.d + o ∨ n = 0) := by
  cases h with
  | base h => simp [isBase] at h
  | sl h _ => exact ⟨_, _, _, h, rfl, .inl rfl⟩
  | slU h _ _ _ => exact ⟨_, _, _, h, rfl, .inl rfl⟩
  | slE h => exact ⟨_, _, _, h, rfl, .inr rfl⟩
  | sl0 h => exact ⟨_, _, _, h, rfl, .inr rfl⟩
theorem VR.tuple_inv {x : Array Value} {v : Value} (hj : Value.tuple x ≠ AH.junk) (h : VR P M (.tuple x) v) : ∃ x', v = .tuple x' ∧ AR P M x x' := by
  cases h with
  | junk => exact absurd rfl hj
  | base h => simp [isBase] at h
  | tuple hx h => exact ⟨_, rfl, hx, h⟩
theorem VR.func_inv {fn : Fn} {x y : Array Value} {v : Value} (h : VR P M (.func fn x y) v) : ∃ x' y', v = .func fn x' y' ∧ AR P M x x' ∧ AR P M y y' := by
  cases h with
  | base h => simp [isBase] at h
  | func hx hy h1 h2 => exact ⟨_, _, rfl, ⟨hx, h1⟩, ⟨hy, h2⟩⟩
theorem VR.scalar {v v' : Value} (hv : isScalar v = true) (h : VR P M v v') : v' = v := by
  cases v <;> simp [isScalar] at hv
  · exact h.bool_inv
  · exact h.int_inv
  · exact h.string_inv
theorem VR.oneCell {v v' : Value} (hv : v.oneCell' = true) (h : VR P M v v') : v'.oneCell' = true := by
  cases h <;> simp_all [Value.oneCell', AH.junk]
theorem VR.cells {v v' : Value} (hj : v ≠ AH.junk) (h : VR P M v v') : AR P M v.cells v'.cells := by
  have one : ∀ {a a' : Value}, VR P M a a' → AR P M #[a] #[a'] := fun {a a'} h => ⟨rfl, fun i h1 h2 => by
    have : i = 0 := by simp at h1; omega
    subst this; exact h⟩
  cases h with
  | junk => exact absurd rfl hj
  | agg hx h => exact ⟨hx, h⟩
  | base h => cases v <;> first | exact one (.base h) | (simp [isBase] at h)
  | ptr h => exact one (.ptr h)
  | sl h hc => exact one (.sl h hc)
  | slU h a b c => exact one (.slU h a b c)
  | slE h => exact one (.slE h)
  | sl0 h => exact one (.sl0 h)
  | map h => exact one (.map h)
  | func a b c d => exact one (.func a b c d)
  | iface h => exact one (.iface h)
  | tuple hx h => exact one (.tuple hx h)

/-! ### Heaps -/
def roB : Blk → Bool
  | .cells _ _ false => true
  | _ => false
def Ro (H : Heap) (b : Nat) : Prop := ∃ c t, H[b]? = some (.cells c t false)
def Dead (H : Heap) (b : Nat) : Prop := H[b]? = some .dead

/-- A row of cells and the model's. -/
def CR (P : Program) (M : Mp) (d : Nat) (c c' : Array Value) : Prop := d + c.size ≤ c'.size ∧ ∀ i v, c[i]? = some v → ∃ v', c'[d + i]? = some v' ∧ VR P M v v'

def ER (P : Program) (M : Mp) (es : List (Value × Value)) (es' : Array MapEntry) : Prop :=
  es'.size = es.length ∧ ∀ i k v, es[i]? = some (k, v) → ∃ e : MapEntry, es'[i]? = some e ∧ e.key = k ∧ VR P M v e.val ∧ e.born = i

def BR (P : Program) (M : Mp) (W : World) (τ : Tgt) : Blk → Prop
  | .cells c t rw => ∃ c' t' fz, W.heap[τ.b]? = some (.cells c' t' fz) ∧ (rw = true → t' = t) ∧ τ.t = t ∧ c'.size = τ.n ∧ CR P M τ.d c c' ∧ (rw = true → ∀ i, i < τ.n → (decide (fz.1 ≤ i) && decide (i < fz.2)) = false)
  | .map kt es => ∃ es', W.heap[τ.b]? = some (.map es' es.length) ∧ ER P M es es' ∧ ∀ e ∈ es, fits P kt e.1 = true
  | .dead => True

structure Rel (P : Program) (M : Mp) (H : Heap) (W : World) : Prop where
  blk : ∀ b τ, M b = some τ → ∃ blk, H[b]? = some blk ∧ BR P M W τ blk
  lt : ∀ b τ, M b = some τ → τ.b < W.heap.size
  inj : ∀ b b' τ τ', M b = some τ → M b' = some τ' → τ.b = τ'.b → b ≠ b' → Dead H b ∨ Dead H b' ∨ (Ro H b ∧ Ro H b')

/-- One step, or many: from H, W to H', W'. -/
structure Step (P : Program) (M : Mp) (H : Heap) (W : World) (M' : Mp) (H' : Heap) (W' : World) : Prop where
  rel : Rel P M' H' W'
  ext : MLe M M'
  size : H.size ≤ H'.size
  new : ∀ b τ, M' b = some τ → M b = none → H.size ≤ b ∧ b < H'.size ∧ (W.heap.size ≤ τ.b ∨ ∃ b0 τ0, M b0 = some τ0 ∧ τ0.b = τ.b ∧ ¬ Ro H b0 ∧ ¬ Dead H b0)
  ro : ∀ b, b < H.size → Ro H b → H'[b]? = H[b]?
  rw : ∀ b, b < H.size → ¬ Ro H b → ¬ Ro H' b
  dead : ∀ b, b < H.size → Dead H b → Dead H' b
  cframe : ∀ b, b < H.size → M b = none → H'[b]? = H[b]?
  aframe : ∀ k, k < W.heap.size → (∀ b τ, M b = some τ → τ.b = k → Ro H b ∨ Dead H b) → W'.heap[k]? = W.heap[k]?
  wsize : W.heap.size ≤ W'.heap.size
  os : W'.os = W.os
  tape : W'.tape = W.tape
  output : W'.output = W.output
  drawn : W.drawn ≤ W'.drawn

theorem Rel.lt' {H : Heap} {W : World} (R : Rel P M H W) {b : Nat} {τ : Tgt} (h : M b = some τ) : b < H.size := by
  obtain ⟨blk, hb, _⟩ := R.blk b τ h
  exact (Array.getElem?_eq_some_iff.1 hb).1

theorem Step.refl {H : Heap} {W : World} (R : Rel P M H W) : Step P M H W M H W :=
  ⟨R, MLe.refl _, Nat.le_refl _, (fun b τ h h' => by rw [h] at h'; cases h'), fun _ _ _ => rfl, fun _ _ h => h, fun _ _ h => h, fun _ _ _ => rfl, fun _ _ _ => rfl, Nat.le_refl _, rfl, rfl, rfl, Nat.le_refl _⟩

theorem Step.trans {H H1 H2 : Heap} {W W1 W2 : World} (R : Rel P M H W) (s : Step P M H W M1 H1 W1) (t : Step P M1 H1 W1 M2 H2 W2) : Step P M H W M2 H2 W2 where
  rel := t.rel
  ext := s.ext.trans t.ext
  size := Nat.le_trans s.size t.size
  new := fun b τ h h0 => by
    cases h1 : M1 b with
    | none =>
      obtain ⟨a1, a2, a3⟩ := t.new b τ h h1
      refine ⟨Nat.le_trans s.size a1, a2, ?_⟩
      rcases a3 with a3 | ⟨b0, τ0, e0, e1, e2, e3⟩
      · exact .inl (Nat.le_trans s.wsize a3)
      · cases hm : M b0 with
        | none =>
          obtain ⟨c1, c2, c3⟩ := s.new b0 τ0 e0 hm
          rcases c3 with c3 | ⟨b9, τ9, f0, f1, f2⟩
          · exact .inl (e1 ▸ c3)
          · exact .inr ⟨b9, τ9, f0, f1.trans e1, f2⟩
        | some τ9 =>
          have e9 := s.ext _ _ hm
          rw [e0] at e9
          cases e9
          refine .inr ⟨b0, τ0, hm, e1, fun hr => e2 ?_, fun hd => e3 (s.dead b0 (R.lt' hm) hd)⟩
          obtain ⟨c, t', hc⟩ := hr
          exact ⟨c, t', (s.ro b0 (R.lt' hm) ⟨c, t', hc⟩).trans hc⟩
    | some τ1 =>
      have e1 := t.ext _ _ h1
      rw [h] at e1
      cases e1
      obtain ⟨a1, a2, a3⟩ := s.new b _ h1 h0
      exact ⟨a1, Nat.lt_of_lt_of_le a2 t.size, a3⟩
  ro := fun b hb h => by
    have h1 := s.ro b hb h
    obtain ⟨c, t', hc⟩ := h
    exact (t.ro b (Nat.lt_of_lt_of_le hb s.size) ⟨c, t', h1.trans hc⟩).trans h1
  rw := fun b hb h => t.rw b (Nat.lt_of_lt_of_le hb s.size) (s.rw b hb h)
  dead := fun b hb h => t.dead b (Nat.lt_of_lt_of_le hb s.size) (s.dead b hb h)
  cframe := fun b hb h => by
    have h1 : M1 b = none := by
      cases hm : M1 b with
      | none => rfl
      | some τ => have := (s.new b τ hm h).1; omega
    exact (t.cframe b (Nat.lt_of_lt_of_le hb s.size) h1).trans (s.cframe b hb h)
  aframe := fun k hk h => by
    refine (t.aframe k (Nat.lt_of_lt_of_le hk s.wsize) fun b τ hb e => ?_).trans (s.aframe k hk h)
    cases hm : M b with
    | none =>
      obtain ⟨a1, a2, a3⟩ := s.new b τ hb hm
      rcases a3 with a3 | ⟨b0, τ0, e0, e1, e2, e3⟩
      · omega
      · rcases h b0 τ0 e0 (e1.trans e) with h | h
        · exact absurd h e2
        · exact absurd h e3
    | some τ0 =>
      have e0 := s.ext _ _ hm
      rw [hb] at e0
      cases e0
      rcases h b τ hm e with hr | hd
      · obtain ⟨c, t', hc⟩ := hr
        exact .inl ⟨c, t', (s.ro b (R.lt' hm) ⟨c, t', hc⟩).trans hc⟩
      · exact .inr (s.dead b (R.lt' hm) hd)
  wsize := Nat.le_trans s.wsize t.wsize
  os := t.os.trans s.os
  tape := t.tape.trans s.tape
  output := t.output.trans s.output
  drawn := Nat.le_trans s.drawn t.drawn

end Go.AH

/-
  AH: the steps of which all operations are made: a new block; a block written; a new block that lies where a dead one lay.
-/
namespace Go.AH
open Go
variable {P : Program} {M : Mp} {H : Heap} {W W' : World}

def ins (M : Mp) (b : Nat) (τ : Tgt) : Mp := fun b' => if b' = b then some τ else M b'

theorem ins_same (M : Mp) (b : Nat) (τ : Tgt) : ins M b τ b = some τ := by simp [ins]
theorem ins_other {M : Mp} {b b' : Nat} {τ : Tgt} (h : b' ≠ b) : ins M b τ b' = M b' := by simp [ins, h]
theorem ins_le {b : Nat} {τ : Tgt} (h : M b = none) : MLe M (ins M b τ) := fun b' τ' e => by
  by_cases hb : b' = b
  · subst hb; rw [h] at e; cases e
  · rw [ins_other hb]; exact e

theorem Rel.none_at (R : Rel P M H W) {b : Nat} (hb : H.size ≤ b) : M b = none := by
  cases h : M b with
  | none => rfl
  | some τ => have := R.lt' h; omega

theorem CR.mono {M M' : Mp} {d : Nat} {c c' : Array Value} (hM : MLe M M') (h : CR P M d c c') : CR P M' d c c' :=
  ⟨h.1, fun i v hv => by obtain ⟨v', e, r⟩ := h.2 i v hv; exact ⟨v', e, r.mono hM⟩⟩
theorem ER.mono {M M' : Mp} {es : List (Value × Value)} {es' : Array MapEntry} (hM : MLe M M') (h : ER P M es es') : ER P M' es es' :=
  ⟨h.1, fun i k v hv => by obtain ⟨e, a, b, r, d⟩ := h.2 i k v hv; exact ⟨e, a, b, r.mono hM, d⟩⟩
theorem BR.move {M M' : Mp} {τ : Tgt} {blk : Blk} (hM : MLe M M') (hW : W'.heap[τ.b]? = W.heap[τ.b]?) (h : BR P M W τ blk) : BR P M' W' τ blk := by
  cases blk with
  | cells c t rw =>
    obtain ⟨c', t', fz, a1, a0, a2, a3, a4, a5⟩ := h
    exact ⟨c', t', fz, hW.trans a1, a0, a2, a3, a4.mono hM, a5⟩
  | map kt es =>
    obtain ⟨es', a1, a2, a3⟩ := h
    exact ⟨es', hW.trans a1, a2.mono hM, a3⟩
  | dead => trivial

theorem ro_of_get {H H' : Heap} {b : Nat} (h : H'[b]? = H[b]?) : Ro H' b ↔ Ro H b := by unfold Ro; rw [h]
theorem dead_of_get {H H' : Heap} {b : Nat} (h : H'[b]? = H[b]?) : Dead H' b ↔ Dead H b := by unfold Dead; rw [h]
theorem get_push_lt (H : Heap) (x : Blk) {b : Nat} (h : b < H.size) : (H.push x)[b]? = H[b]? := by rw [Array.getElem?_push, if_neg (by omega)]
theorem get_push_eq (H : Heap) (x : Blk) : (H.push x)[H.size]? = some x := by rw [Array.getElem?_push, if_pos rfl]
theorem get_set_ne (H : Heap) (x : Blk) {b b' : Nat} (h : b' ≠ b) : (H.setIfInBounds b x)[b']? = H[b']? := by rw [Array.getElem?_setIfInBounds, if_neg (by omega)]
theorem get_set_eq (H : Heap) (x : Blk) {b : Nat} (h : b < H.size) : (H.setIfInBounds b x)[b]? = some x := by rw [Array.getElem?_setIfInBounds, if_pos rfl, if_pos h]

/-- What a world keeps beside its heap. -/
structure Same (W W' : World) : Prop where
  os : W'.os = W.os
  tape : W'.tape = W.tape
  output : W'.output = W.output
  drawn : W.drawn ≤ W'.drawn
theorem Same.refl (W : World) : Same W W := ⟨rfl, rfl, rfl, Nat.le_refl _⟩

/-- A new block. -/
theorem step_push (R : Rel P M H W) (S : Same W W') (o : Obj) (hW : W'.heap = W.heap.push o) {blk : Blk} {τ : Tgt} (hτ : τ.b = W.heap.size) (hnr : roB blk = false) (hb : BR P (ins M H.size τ) W' τ blk) :
    Step P M H W (ins M H.size τ) (H.push blk) W' := by
  have hM0 : M H.size = none := R.none_at (Nat.le_refl _)
  have hle := ins_le (M := M) (τ := τ) hM0
  have old : ∀ k, k < W.heap.size → W'.heap[k]? = W.heap[k]? := fun k hk => by rw [hW, Array.getElem?_push, if_neg (by omega)]
  have inv : ∀ b τ', ins M H.size τ b = some τ' → (b = H.size ∧ τ' = τ) ∨ (b ≠ H.size ∧ M b = some τ') := fun b τ' e => by
    by_cases hbs : b = H.size
    · subst hbs; rw [ins_same] at e; cases e; exact .inl ⟨rfl, rfl⟩
    · rw [ins_other hbs] at e; exact .inr ⟨hbs, e⟩
  have hnro : ¬ Ro (H.push blk) H.size := by
    rintro ⟨c, t, h⟩
    rw [get_push_eq] at h
    cases h
    simp [roB] at hnr
  refine ⟨⟨fun b τ' e => ?_, fun b τ' e => ?_, fun b b' τ1 τ2 e1 e2 hb12 hne => ?_⟩, hle, by simp, fun b τ' e e0 => ?_, fun b hlt _ => get_push_lt _ _ hlt, fun b hlt h => ?_, fun b hlt h => (dead_of_get (get_push_lt _ _ hlt)).2 h, fun b hlt _ => get_push_lt _ _ hlt, fun k hk _ => old k hk, by rw [hW]; simp, S.os, S.tape, S.output, S.drawn⟩
  · rcases inv b τ' e with ⟨rfl, rfl⟩ | ⟨hne, e⟩
    · exact ⟨blk, get_push_eq _ _, hb⟩
    · obtain ⟨blk', h1, h2⟩ := R.blk b τ' e
      exact ⟨blk', (get_push_lt _ _ (R.lt' e)).trans h1, h2.move hle (old _ (R.lt b τ' e))⟩
  · rcases inv b τ' e with ⟨rfl, rfl⟩ | ⟨_, e⟩
    · rw [hW, hτ]; simp
    · rw [hW]; have := R.lt b τ' e; simp; omega
  · rcases inv b τ1 e1 with ⟨rfl, rfl⟩ | ⟨h1, f1⟩ <;> rcases inv b' τ2 e2 with ⟨rfl, rfl⟩ | ⟨h2, f2⟩
    · exact absurd rfl hne
    · have := R.lt _ _ f2; omega
    · have := R.lt _ _ f1; omega
    · have g1 := get_push_lt H blk (R.lt' f1)
      have g2 := get_push_lt H blk (R.lt' f2)
      rw [dead_of_get g1, dead_of_get g2, ro_of_get g1, ro_of_get g2]
      exact R.inj b b' τ1 τ2 f1 f2 hb12 hne
  · rcases inv b τ' e with ⟨rfl, rfl⟩ | ⟨_, e⟩
    · exact ⟨Nat.le_refl _, by simp, .inl (by omega)⟩
    · rw [e0] at e; cases e
  · rw [ro_of_get (get_push_lt _ _ hlt)]; exact h

/-- A block of one's own is written. -/
theorem step_set (R : Rel P M H W) (S : Same W W') {b : Nat} {τ : Tgt} {blk1 : Blk} (hm : M b = some τ) (hro : ¬ Ro H b) (hdead : ¬ Dead H b) (hnr : roB blk1 = false)
    (hsz : W'.heap.size = W.heap.size) (hoth : ∀ k, k ≠ τ.b → W'.heap[k]? = W.heap[k]?) (hb : BR P M W' τ blk1) :
    Step P M H W M (H.setIfInBounds b blk1) W' := by
  have hlt := R.lt' hm
  have hnro : ¬ Ro (H.setIfInBounds b blk1) b := by
    rintro ⟨c, t, h⟩
    rw [get_set_eq _ _ hlt] at h
    cases h
    simp [roB] at hnr
  refine ⟨⟨fun b' τ' e => ?_, (fun b' τ' e => by rw [hsz]; exact R.lt b' τ' e), fun b1 b2 τ1 τ2 e1 e2 h12 hne => ?_⟩, MLe.refl _, by simp, (fun b' τ' e e0 => by rw [e] at e0; cases e0), fun b' _ h => ?_, fun b' hl h => ?_, fun b' hl h => ?_, fun b' _ h => ?_, fun k hk h => ?_, by omega, S.os, S.tape, S.output, S.drawn⟩
  · by_cases hbb : b' = b
    · subst hbb
      rw [hm] at e; cases e
      exact ⟨blk1, get_set_eq _ _ hlt, hb⟩
    · obtain ⟨blk', h1, h2⟩ := R.blk b' τ' e
      refine ⟨blk', (get_set_ne _ _ hbb).trans h1, ?_⟩
      by_cases ht : τ'.b = τ.b
      · rcases R.inj b' b τ' τ e hm ht hbb with h | h | h
        · unfold Dead at h; rw [h1] at h; cases h; trivial
        · exact absurd h hdead
        · exact absurd h.2 hro
      · exact h2.move (MLe.refl _) (hoth _ ht)
  · have key : ∀ x, ¬ x = b → (Dead (H.setIfInBounds b blk1) x ↔ Dead H x) ∧ (Ro (H.setIfInBounds b blk1) x ↔ Ro H x) := fun x hx => ⟨dead_of_get (get_set_ne _ _ hx), ro_of_get (get_set_ne _ _ hx)⟩
    by_cases x1 : b1 = b
    · subst x1
      rw [hm] at e1; cases e1
      rcases R.inj b1 b2 τ τ2 hm e2 h12 hne with h | h | h
      · exact absurd h hdead
      · exact .inr (.inl ((key b2 (Ne.symm hne)).1.2 h))
      · exact absurd h.1 hro
    · by_cases x2 : b2 = b
      · subst x2
        rw [hm] at e2; cases e2
        rcases R.inj b1 b2 τ1 τ e1 hm h12 hne with h | h | h
        · exact .inl ((key b1 x1).1.2 h)
        · exact absurd h hdead
        · exact absurd h.2 hro
      · rw [(key b1 x1).1, (key b2 x2).1, (key b1 x1).2, (key b2 x2).2]
        exact R.inj b1 b2 τ1 τ2 e1 e2 h12 hne
  · by_cases hbb : b' = b
    · subst hbb; exact absurd h hro
    · exact get_set_ne _ _ hbb
  · by_cases hbb : b' = b
    · subst hbb; exact hnro
    · rw [ro_of_get (get_set_ne _ _ hbb)]; exact h
  · by_cases hbb : b' = b
    · subst hbb; exact absurd h hdead
    · exact (dead_of_get (get_set_ne _ _ hbb)).2 h
  · by_cases hbb : b' = b
    · subst hbb; rw [hm] at h; cases h
    · exact get_set_ne _ _ hbb
  · refine hoth k fun e => ?_
    rcases h b τ hm e.symm with h | h
    · exact hro h
    · exact hdead h

/-- A block dies, and a new one lies where it lay. -/
theorem step_move (R : Rel P M H W) (S : Same W W') {blk : Blk} {τ : Tgt} (_ : roB blk = false) {b0 : Nat} {τ0 : Tgt} (h0 : M b0 = some τ0) (hτ : τ0.b = τ.b) (hro : ¬ Ro H b0) (hd0 : ¬ Dead H b0)
    (hsz : W'.heap.size = W.heap.size) (hoth : ∀ k, k ≠ τ.b → W'.heap[k]? = W.heap[k]?) (hb : BR P (ins M H.size τ) W' τ blk) :
    Step P M H W (ins M H.size τ) ((H.setIfInBounds b0 .dead).push blk) W' := by
  have hlt := R.lt' h0
  have st1 : Step P M H W M (H.setIfInBounds b0 .dead) W := step_set R (Same.refl W) h0 hro hd0 rfl rfl (fun _ _ => rfl) trivial
  have hs1 : (H.setIfInBounds b0 .dead).size = H.size := by simp
  have hdead : ∀ b τ', M b = some τ' → τ'.b = τ.b → Dead (H.setIfInBounds b0 .dead) b := by
    intro b2 τ2 h2 e2
    by_cases hb2 : b2 = b0
    · subst hb2; unfold Dead; exact get_set_eq _ _ hlt
    · unfold Dead
      rw [get_set_ne _ _ hb2]
      rcases R.inj b2 b0 τ2 τ0 h2 h0 (e2.trans hτ.symm) hb2 with h3 | h3 | h3
      · exact h3
      · exact absurd h3 hd0
      · exact absurd h3.2 hro
  generalize hH1 : H.setIfInBounds b0 .dead = H1 at st1 hs1 hdead ⊢
  have R1 := st1.rel
  have hM0 : M H.size = none := R.none_at (Nat.le_refl _)
  have hle := ins_le (M := M) (τ := τ) hM0
  have inv : ∀ b τ', ins M H.size τ b = some τ' → (b = H.size ∧ τ' = τ) ∨ (b ≠ H.size ∧ M b = some τ') := fun b τ' e => by
    by_cases hbs : b = H.size
    · subst hbs; rw [ins_same] at e; cases e; exact .inl ⟨rfl, rfl⟩
    · rw [ins_other hbs] at e; exact .inr ⟨hbs, e⟩
  have gl : ∀ {b}, b < H.size → (H1.push blk)[b]? = H1[b]? := fun h => get_push_lt _ _ (by omega)
  have ge : (H1.push blk)[H.size]? = some blk := by rw [← hs1]; exact get_push_eq _ _
  refine ⟨⟨fun b τ' e => ?_, fun b τ' e => ?_, fun b b' τ1 τ2 e1 e2 hb12 hne => ?_⟩, hle, by simp; omega, fun b τ' e e0 => ?_, fun b hlt h => (gl hlt).trans (st1.ro b hlt h), fun b hlt h => ?_, fun b hlt h => (dead_of_get (gl hlt)).2 (st1.dead b hlt h), fun b hlt h => (gl hlt).trans (st1.cframe b hlt h), fun k hk h => ?_, by omega, S.os, S.tape, S.output, S.drawn⟩
  · rcases inv b τ' e with ⟨rfl, rfl⟩ | ⟨hne, e⟩
    · exact ⟨blk, ge, hb⟩
    · obtain ⟨blk', h1, h2⟩ := R1.blk b τ' e
      refine ⟨blk', (gl (R.lt' e)).trans h1, ?_⟩
      by_cases ht : τ'.b = τ.b
      · have := hdead b τ' e ht
        unfold Dead at this; rw [h1] at this; cases this; trivial
      · exact h2.move hle (hoth _ ht)
  · rcases inv b τ' e with ⟨rfl, rfl⟩ | ⟨_, e⟩
    · rw [hsz, ← hτ]; exact R.lt _ _ h0
    · rw [hsz]; exact R.lt b τ' e
  · rcases inv b τ1 e1 with ⟨rfl, rfl⟩ | ⟨h1, f1⟩ <;> rcases inv b' τ2 e2 with ⟨rfl, rfl⟩ | ⟨h2, f2⟩
    · exact absurd rfl hne
    · exact .inr (.inl ((dead_of_get (gl (R.lt' f2))).2 (hdead _ _ f2 hb12.symm)))
    · exact .inl ((dead_of_get (gl (R.lt' f1))).2 (hdead _ _ f1 hb12))
    · have g1 := gl (R.lt' f1)
      have g2 := gl (R.lt' f2)
      rw [dead_of_get g1, dead_of_get g2, ro_of_get g1, ro_of_get g2]
      exact R1.inj b b' τ1 τ2 f1 f2 hb12 hne
  · rcases inv b τ' e with ⟨rfl, rfl⟩ | ⟨_, e⟩
    · exact ⟨Nat.le_refl _, by simp; omega, .inr ⟨b0, τ0, h0, hτ, hro, hd0⟩⟩
    · rw [e0] at e; cases e
  · rw [ro_of_get (gl hlt)]; exact st1.rw b hlt h
  · refine hoth k fun e => ?_
    rcases h b0 τ0 h0 (hτ.trans e.symm) with h | h
    · exact hro h
    · exact hd0 h

end Go.AH

/-
  AH: what the model's own small programs come to: types' facts, loads and stores of cells.
-/
namespace Go.AH
open Go
variable {P : Program} {M : Mp} {H : Heap} {W W' : World}

theorem run_info {t : TypeId} {i : TypeInfo} (h : P.info? t = some i) (w : World) : (typeInfo t).run P w = .ok i w := by simp [typeInfo, h]
theorem run_size {t : TypeId} {k : Nat} (h : sz P t = some k) (w : World) : (Go.sizeOf t).run P w = .ok k w := by
  unfold sz at h
  cases hi : P.info? t with
  | none => rw [hi] at h; cases h
  | some i => rw [hi] at h; cases h; simp [Go.sizeOf, typeInfo, hi]
theorem run_under {t : TypeId} {d : TypeDesc} (h : P.underlying t = some d) (w : World) : (underlying t).run P w = .ok d w := by simp [underlying, h]
theorem run_isAgg {t : TypeId} {b : Bool} (h : isAggA P t = some b) (w : World) : (isAgg t).run P w = .ok b w := by
  unfold isAggA at h
  cases hu : P.underlying t with
  | none => rw [hu] at h; cases h
  | some d => rw [hu] at h; cases d <;> (cases h; simp [isAgg, underlying, hu])
theorem zeroA_spec {t : TypeId} {c : Array Value} (h : zeroA P t = some c) : ∃ i z, P.info? t = some i ∧ i.zero = some z ∧ z.cells = c ∧ c.toList.all isBase = true := by
  unfold zeroA at h
  cases hi : P.info? t with
  | none => rw [hi] at h; cases h
  | some i =>
    rw [hi] at h
    cases hz : i.zero with
    | none => simp [hz] at h
    | some z =>
      simp only [Option.bind_some, hz] at h
      split at h
      · cases h; exact ⟨i, z, rfl, hz, rfl, by assumption⟩
      · cases h
theorem zeroV_spec {t : TypeId} {v : Value} (h : zeroV P t = some v) : ∃ i, P.info? t = some i ∧ i.zero = some v ∧ v.cells.toList.all isBase = true := by
  unfold zeroV at h
  cases hi : P.info? t with
  | none => rw [hi] at h; cases h
  | some i =>
    rw [hi] at h
    cases hz : i.zero with
    | none => simp [hz] at h
    | some z =>
      simp only [Option.bind_some, hz] at h
      split at h
      · cases h; exact ⟨i, rfl, hz, by assumption⟩
      · cases h
theorem run_zero {t : TypeId} {i : TypeInfo} {z : Value} (hi : P.info? t = some i) (hz : i.zero = some z) (w : World) : (zeroValue t).run P w = .ok z w := by simp [zeroValue, typeInfo, hi, hz]

/-! ### loads -/
theorem run_loads : ∀ (n : Nat) (a : Addr) (i : Nat) (acc : Array Value) (l : List Value), l.length = n → (∀ j v, l[j]? = some v → W.cell? (a.add (i + j)) = some v) →
    (loadCellsFrom a i n acc).run P W = .ok (acc ++ l.toArray) W
  | 0, a, i, acc, l, hl, h => by
    have : l = [] := List.eq_nil_of_length_eq_zero hl
    subst this
    simp [loadCellsFrom]
  | n + 1, a, i, acc, l, hl, h => by
    cases l with
    | nil => simp at hl
    | cons v l =>
      have h0 := h 0 v rfl
      rw [Nat.add_zero] at h0
      have ih := run_loads n a (i + 1) (acc.push v) l (by simpa using hl) (fun j u hu => by
        have := h (j + 1) u (by simpa using hu)
        rwa [show i + (j + 1) = i + 1 + j from by omega] at this)
      simp [loadCellsFrom, h0, ih]

theorem cell_of {b : Nat} {c : Array Value} {t : TypeId} {fz : Nat × Nat} (h : W.heap[b]? = some (.cells c t fz)) (o : Nat) : W.cell? ⟨b, o, none⟩ = c[o]? := by simp [World.cell?, h]

theorem run_loadRow {b o n : Nat} {c : Array Value} {t : TypeId} {fz : Nat × Nat} (h : W.heap[b]? = some (.cells c t fz)) (hn : o + n ≤ c.size) : (loadCells ⟨b, o, none⟩ n).run P W = .ok (c.extract o (o + n)) W := by
  have := run_loads (P := P) (W := W) n ⟨b, o, none⟩ 0 #[] (c.extract o (o + n)).toList (by simp; omega) (fun j v hv => by
    rw [Addr.add_lit, cell_of h]
    simp only [Array.getElem?_toList] at hv
    rw [Array.getElem?_extract] at hv
    split at hv
    · rw [Nat.zero_add]; exact hv
    · cases hv)
  rw [Array.toArray_toList, Array.empty_append] at this
  exact this

/-- The canonical cells from o on, and the model's. -/
theorem CR.extract {d o n : Nat} {c c' : Array Value} (h : CR P M d c c') (hn : o + n ≤ c.size) : d + o + n ≤ c'.size ∧ AR P M (c.extract o (o + n)) (c'.extract (d + o) (d + o + n)) := by
  have h1 := h.1
  refine ⟨by omega, by simp; omega, fun i hi hi' => ?_⟩
  simp only [Array.size_extract] at hi hi'
  obtain ⟨v', e, r⟩ := h.2 (o + i) c[o + i] (Array.getElem?_eq_getElem (by omega))
  simp only [Array.getElem_extract]
  obtain ⟨h2, e2⟩ := Array.getElem?_eq_some_iff.1 e
  have : c'[d + o + i]'(by omega) = v' := by simpa [Nat.add_assoc] using e2
  rw [this]
  exact r

theorem CR.get {d o : Nat} {c c' : Array Value} (h : CR P M d c c') {v : Value} (hv : c[o]? = some v) : ∃ v', c'[d + o]? = some v' ∧ VR P M v v' := h.2 o v hv

/-! ### stores -/
def setBlk (w : World) (b : Nat) (o : Obj) : World := { w with heap := w.heap.setIfInBounds b o }
theorem setBlk_get (w : World) (b : Nat) (o : Obj) (h : b < w.heap.size) : (setBlk w b o).heap[b]? = some o := by simp [setBlk, h]
theorem setBlk_other (w : World) (b k : Nat) (o : Obj) (h : k ≠ b) : (setBlk w b o).heap[k]? = w.heap[k]? := by simp only [setBlk]; rw [Array.getElem?_setIfInBounds, if_neg (by omega)]
theorem setBlk_size (w : World) (b : Nat) (o : Obj) : (setBlk w b o).heap.size = w.heap.size := by simp [setBlk]
theorem setBlk_same (w : World) (b : Nat) (o : Obj) : Same w (setBlk w b o) := ⟨rfl, rfl, rfl, Nat.le_refl _⟩
theorem setBlk_self {w : World} {b : Nat} {o : Obj} (h : w.heap[b]? = some o) : setBlk w b o = w := by
  unfold setBlk
  have : w.heap.setIfInBounds b o = w.heap := by
    apply Array.ext_getElem?
    intro i
    rw [Array.getElem?_setIfInBounds]
    split
    · rename_i e; subst e; rw [h]; obtain ⟨hl, _⟩ := Array.getElem?_eq_some_iff.1 h; simp [hl]
    · rfl
  rw [this]
theorem setBlk_setBlk (w : World) (b : Nat) (o o' : Obj) : setBlk (setBlk w b o) b o' = setBlk w b o' := by
  unfold setBlk
  congr 1
  apply Array.ext_getElem?
  intro i
  simp only [Array.getElem?_setIfInBounds, Array.size_setIfInBounds]
  split <;> rfl

theorem setCell_blk {w : World} {b o : Nat} {c : Array Value} {t : TypeId} {fz : Nat × Nat} (h : w.heap[b]? = some (.cells c t fz)) (v : Value) : w.setCell ⟨b, o, none⟩ v = setBlk w b (.cells (c.setIfInBounds o v) t fz) := by
  unfold World.setCell setBlk
  congr 1
  apply Array.ext_getElem?
  intro i
  rw [Array.getElem?_modify, Array.getElem?_setIfInBounds]
  by_cases hb : b = i
  · subst hb
    obtain ⟨hl, _⟩ := Array.getElem?_eq_some_iff.1 h
    rw [if_pos rfl, if_pos rfl, if_pos hl, h]
    simp
  · rw [if_neg (by simpa using hb), if_neg hb]

theorem wr_size : ∀ (vs : List Value) (c : Array Value) (o : Nat), (wr c o vs).size = c.size
  | [], _, _ => rfl
  | v :: r, c, o => by simp only [wr]; rw [wr_size r]; simp

theorem run_stores {b o : Nat} {t : TypeId} {fz : Nat × Nat} : ∀ (vs : List Value) (i : Nat) (c : Array Value) (w : World), w.heap[b]? = some (.cells c t fz) → (∀ i, i < c.size → (decide (fz.1 ≤ i) && decide (i < fz.2)) = false) →
    vs.all Value.oneCell' = true → o + i + vs.length ≤ c.size → (storeCells ⟨b, o, none⟩ vs i).run P w = .ok () (setBlk w b (.cells (wr c (o + i) vs) t fz))
  | [], i, c, w, h, _, _, _ => by simp only [storeCells, wr]; rw [setBlk_self h]; rfl
  | v :: r, i, c, w, h, hf, h1, hn => by
    simp only [List.all_cons, Bool.and_eq_true] at h1
    simp only [List.length_cons] at hn
    have hlt : b < w.heap.size := (Array.getElem?_eq_some_iff.1 h).1
    have hoi : o + i < c.size := by omega
    have hc : w.cell? ⟨b, o + i, none⟩ = some c[o + i] := by rw [cell_of h]; exact Array.getElem?_eq_getElem hoi
    have hfz : w.frozen? ⟨b, o + i, none⟩ = false := by simpa [World.frozen?, h] using hf (o + i) (by omega)
    have ih := run_stores (b := b) (o := o) (t := t) (fz := fz) r (i + 1) (c.setIfInBounds (o + i) v) (setBlk w b (.cells (c.setIfInBounds (o + i) v) t fz)) (setBlk_get _ _ _ hlt) (by simpa using hf) h1.2 (by simp; omega)
    simp only [storeCells, Sem.run_bind, Addr.add_lit, run_store P w _ v _ h1.1, hc, hfz, Bool.false_eq_true, if_false, Result.andThen_ok, setCell_blk h]
    rw [ih, setBlk_setBlk]
    simp only [wr, Nat.add_assoc]

/-- Written rows stay related. -/
theorem CR.set {d o : Nat} {c c' : Array Value} {v v' : Value} (h : CR P M d c c') (hv : VR P M v v') : CR P M d (c.setIfInBounds o v) (c'.setIfInBounds (d + o) v') := by
  refine ⟨by simpa using h.1, fun i u hu => ?_⟩
  rw [Array.getElem?_setIfInBounds] at hu ⊢
  by_cases ho : o = i
  · subst ho
    rw [if_pos rfl] at hu ⊢
    split at hu
    · rename_i hl
      cases hu
      rw [if_pos (by have := h.1; omega)]
      exact ⟨_, rfl, hv⟩
    · cases hu
  · rw [if_neg ho] at hu
    rw [if_neg (by omega)]
    exact h.2 i u hu
theorem CR.wr {d : Nat} : ∀ {vs vs' : List Value}, LR P M vs vs' → ∀ {c c' : Array Value} {o : Nat}, CR P M d c c' → CR P M d (wr c o vs) (wr c' (d + o) vs')
  | _, _, .nil, _, _, _, h => h
  | _, _, .cons hv r, _, _, _, h => CR.wr r (h.set hv)

theorem CR.base {c : Array Value} (h : c.toList.all isBase = true) : CR P M 0 c c := ⟨by omega, fun i v hv => ⟨v, by simpa using hv, .base (by
  rw [List.all_eq_true] at h
  exact h v (by rw [Array.mem_toList_iff]; exact Array.mem_of_getElem? hv))⟩⟩
theorem CR.of_AR {c c' : Array Value} (h : AR P M c c') : CR P M 0 c c' := ⟨by rw [h.1]; omega, fun i v hv => by
  obtain ⟨v', e, r⟩ := h.get? hv
  exact ⟨v', by simpa using e, r⟩⟩
/-- .. and what stands behind them. -/
theorem CR.of_AR_append {c c' : Array Value} (h : AR P M c c') (x : Array Value) : CR P M 0 c (c' ++ x) := ⟨by simp [h.1], fun i v hv => by
  obtain ⟨v', e, r⟩ := h.get? hv
  obtain ⟨hl, he⟩ := Array.getElem?_eq_some_iff.1 e
  exact ⟨v', by rw [Nat.zero_add, Array.getElem?_append_left hl]; exact e, r⟩⟩

end Go.AH

/-
  AH: what an operation of the model does where AH's does something: the operations that make no row longer and touch no map.
-/
namespace Go.AH
open Go
variable {P : Program} {M : Mp} {H H' : Heap} {W : World}

def OpSim (P : Program) (M : Mp) (H : Heap) (W : World) (s : Sem Next) (v : Value) (H' : Heap) : Prop :=
  ∃ nx W' v' M', s.run P W = .ok nx W' ∧ (nx = .value v' ∨ nx = .skip ∧ v' = undef) ∧ VR P M' v v' ∧ Step P M H W M' H' W'

/-- For a small program that yields a value. -/
def VSim (P : Program) (M : Mp) (H : Heap) (W : World) (s : Sem Value) (v : Value) (H' : Heap) : Prop :=
  ∃ W' v' M', s.run P W = .ok v' W' ∧ VR P M' v v' ∧ Step P M H W M' H' W'
def USim (P : Program) (M : Mp) (H : Heap) (W : World) (s : Sem Unit) (H' : Heap) : Prop :=
  ∃ W' M', s.run P W = .ok () W' ∧ Step P M H W M' H' W'

theorem VSim.op {s : Sem Value} {v : Value} (h : VSim P M H W s v H') : OpSim P M H W (do pure (.value (← s))) v H' := by
  obtain ⟨W', v', M', e, r, st⟩ := h
  exact ⟨_, W', v', M', by simp [e], .inl rfl, r, st⟩
theorem USim.op {s : Sem Unit} (h : USim P M H W s H') : OpSim P M H W (do s; pure .skip) undef H' := by
  obtain ⟨W', M', e, st⟩ := h
  exact ⟨_, W', undef, M', by simp [e], .inr ⟨rfl, rfl⟩, VR.undef, st⟩
theorem VSim.same (R : Rel P M H W) {s : Sem Value} {v v' : Value} (e : s.run P W = .ok v' W) (h : VR P M v v') : VSim P M H W s v H := ⟨W, v', M, e, h, Step.refl R⟩

/-! ### a new block -/
theorem sim_new (R : Rel P M H W) {c c' : Array Value} (t : TypeId) (hc : CR P M 0 c c') :
    Step P M H W (ins M H.size ⟨W.heap.size, 0, c'.size, t⟩) (H.push (.cells c t true)) (W.alloc (.cells c' t)) := by
  have hle := ins_le (M := M) (τ := ⟨W.heap.size, 0, c'.size, t⟩) (R.none_at (Nat.le_refl _))
  refine step_push (W' := W.alloc (.cells c' t)) (blk := .cells c t true) (τ := ⟨W.heap.size, 0, c'.size, t⟩) R ⟨rfl, rfl, rfl, Nat.le_refl _⟩ (.cells c' t) rfl rfl rfl ⟨c', _, (0, 0), ?_, fun _ => rfl, rfl, rfl, hc.mono hle, fun _ i _ => by simp⟩
  show (W.heap.push _)[W.heap.size]? = _
  simp

theorem sim_newVar (R : Rel P M H W) {v : Value} {c : Array Value} (t : TypeId) (hc : CR P M 0 c v.cells) :
    VSim P M H W (do pure (.pointer (some (← newVar t v)))) (allocA t H c).1 (allocA t H c).2 :=
  ⟨_, _, _, by simp [newVar, newRow]; rfl, by
    have := @VR.ptr P (ins M H.size ⟨W.heap.size, 0, v.cells.size, t⟩) H.size 0 _ (ins_same _ _ _)
    simpa [allocA] using this, sim_new R t hc⟩

theorem sim_alloc (R : Rel P M H W) {t : TypeId} {c : Array Value} (h : zeroA P t = some c) : VSim P M H W (Instr.alloc t true (.tuple #[])) (allocA t H c).1 (allocA t H c).2 := by
  obtain ⟨i, z, hi, hz, rfl, hb⟩ := zeroA_spec h
  obtain ⟨W', v', M', e, r, st⟩ := sim_newVar (v := z) R t (CR.base hb)
  refine ⟨W', v', M', ?_, r, st⟩
  rw [← e]
  simp [Instr.alloc, run_zero hi hz]

theorem sim_box (R : Rel P M H W) (t : TypeId) {v v' : Value} (hj : v ≠ junk) (h : VR P M v v') : VSim P M H W (Instr.box t v') (allocA t H v.cells).1 (allocA t H v.cells).2 :=
  sim_newVar R t (CR.of_AR (h.cells hj))

/-! ### loads, stores, addresses -/
theorem load_run (R : Rel P M H W) {t : TypeId} {x x' v : Value} (hx : VR P M x x') (h : loadA P t H x = some v) : ∃ v' a, x' = .pointer (some a) ∧ (Instr.loadAt t x').run P W = .ok v' W ∧ VR P M v v' := by
  unfold loadA at h
  split at h
  · rename_i b o
    obtain ⟨τ, hτ, rfl⟩ := hx.ptr_inv
    cases hb : H[b]? with
    | none => rw [hb] at h; cases h
    | some blk =>
      cases blk with
      | map kt es => rw [hb] at h; cases h
      | dead => rw [hb] at h; cases h
      | cells c e rw_ =>
        rw [hb] at h
        obtain ⟨blk', h1, h2⟩ := R.blk b τ hτ
        rw [hb] at h1; cases h1
        obtain ⟨c', t', fz, hw, ht0, ht, hn, hc, hf⟩ := h2
        cases ha : isAggA P t with
        | none => simp [ha] at h
        | some ag =>
          cases ag with
          | false =>
            simp only [ha] at h
            obtain ⟨v', e1, r⟩ := hc.get h
            refine ⟨v', _, rfl, ?_, r⟩
            simp [Instr.loadAt, Instr.sureAddr, loadVar, run_isAgg ha, cell_of hw, e1]
          | true =>
            simp only [ha] at h
            cases hk : sz P t with
            | none => simp [hk] at h
            | some k =>
              simp only [hk, Option.bind_some] at h
              split at h
              · rename_i hle
                cases h
                obtain ⟨g1, g2⟩ := hc.extract hle
                refine ⟨.agg (c'.extract (τ.d + o) (τ.d + o + k)), _, rfl, ?_, .agg g2.1 g2.2⟩
                simp [Instr.loadAt, Instr.sureAddr, loadVar, run_isAgg ha, run_size hk, run_loadRow hw g1]
              · cases h
  · cases h

theorem sim_load (R : Rel P M H W) {t : TypeId} {x x' v : Value} (hx : VR P M x x') (h : loadA P t H x = some v) : VSim P M H W (Instr.loadAt t x') v H := by
  obtain ⟨v', _, _, e, r⟩ := load_run R hx h
  exact VSim.same R e r
theorem loadVar_run (R : Rel P M H W) {t : TypeId} {x x' v : Value} (hx : VR P M x x') (h : loadA P t H x = some v) : ∃ v', (do loadVar t (← asAddr x')).run P W = .ok v' W ∧ VR P M v v' := by
  obtain ⟨v', a, rfl, e, r⟩ := load_run R hx h
  refine ⟨v', ?_, r⟩
  rw [← e]
  simp [Instr.loadAt, Instr.sureAddr, asAddr]

theorem sim_wr (R : Rel P M H W) {b o : Nat} {c : Array Value} {e : TypeId} {vs vs' : List Value} (hb : H[b]? = some (.cells c e true)) {τ : Tgt} (hτ : M b = some τ) (hv : LR P M vs vs') (h1 : vs.all Value.oneCell' = true) (hn : o + vs.length ≤ c.size) :
    USim P M H W (storeCells ⟨τ.b, τ.d + o, none⟩ vs' 0) (H.setIfInBounds b (.cells (wr c o vs) e true)) := by
  obtain ⟨blk', g1, g2⟩ := R.blk b τ hτ
  rw [hb] at g1; cases g1
  obtain ⟨c', t', fz, hw, ht0, ht, hsz, hc, hf⟩ := g2
  obtain rfl := ht0 rfl
  have hl := hv.length
  have hcs := hc.1
  have h1' : vs'.all Value.oneCell' = true := by
    clear hn hl
    induction hv with
    | nil => rfl
    | cons h r ih =>
      simp only [List.all_cons, Bool.and_eq_true] at h1 ⊢
      exact ⟨h.oneCell h1.1, ih h1.2⟩
  have hlt : τ.b < W.heap.size := R.lt b τ hτ
  have hrun := run_stores (P := P) (o := τ.d + o) vs' 0 c' W hw (fun i hi => hf rfl i (by omega)) h1' (by omega)
  refine ⟨_, M, hrun, step_set R (setBlk_same _ _ _) hτ ?_ ?_ rfl (setBlk_size _ _ _) (fun k hk => setBlk_other _ _ _ _ hk) ⟨_, _, fz, setBlk_get _ _ _ hlt, fun _ => rfl, ht, by rw [wr_size]; exact hsz, ?_, hf⟩⟩
  · rintro ⟨c1, t1, h2⟩; rw [hb] at h2; cases h2
  · intro h2; unfold Dead at h2; rw [hb] at h2; cases h2
  · exact CR.wr hv hc

theorem sim_store (R : Rel P M H W) {t : TypeId} {x x' v v' : Value} (hx : VR P M x x') (hv : VR P M v v') (h : storeA P t H x v = some H') : USim P M H W (Instr.storeAt t x' v') H' := by
  unfold storeA at h
  split at h
  · rename_i b o
    obtain ⟨τ, hτ, rfl⟩ := hx.ptr_inv
    split at h
    · rename_i c e hb
      split at h
      · rename_i hcond
        obtain ⟨hk, hle, h1⟩ := hcond
        cases h
        have hj : v ≠ junk := by rintro rfl; simp [junk, Value.cells, Value.oneCell'] at h1
        have hcs := hv.cells hj
        obtain ⟨W', M', e1, st⟩ := sim_wr (o := o) R hb hτ hcs.list h1 (by simpa using hle)
        refine ⟨W', M', ?_, st⟩
        have : v'.cells.size = v.cells.size := hcs.1.symm
        simp [Instr.storeAt, Instr.sureAddr, storeVar, run_size hk, this, e1]
      · cases h
    · cases h
  · cases h

theorem sim_fieldAddr (R : Rel P M H W) {s : TypeId} {f : Nat} {x x' v : Value} (hx : VR P M x x') (h : fieldAddrA P s f x = some v) : VSim P M H W (Instr.fieldAt s x' f) v H := by
  unfold fieldAddrA at h
  split at h
  · rename_i b o
    obtain ⟨τ, hτ, rfl⟩ := hx.ptr_inv
    split at h
    · rename_i fields hu
      split at h
      · rename_i fd hf
        cases hk : sz P fd.type with
        | none => simp [hk] at h
        | some k =>
          simp only [hk, Option.bind_some] at h
          split at h
          · cases h
          · rename_i hk0
            cases h
            refine VSim.same R (v' := .pointer (some ⟨τ.b, τ.d + (o + fd.offset), none⟩)) ?_ (.ptr hτ)
            simp [Instr.fieldAt, run_under hu, hf, Instr.sureAddr, fieldPlace, run_size hk, hk0, Addr.add_lit, Nat.add_assoc]
      · cases h
    · cases h
  · cases h

theorem sim_indexAddr (R : Rel P M H W) {t : TypeId} {x x' i i' v : Value} (hx : VR P M x x') (hi : VR P M i i') (h : indexAddrA P t x i = some v) : VSim P M H W (Instr.indexAt t x' i') v H := by
  unfold indexAddrA at h
  split at h
  · rename_i b o k n
    obtain ⟨τ, hτ, rfl⟩ := hx.ptr_inv
    cases hi.int_inv
    split at h
    · rename_i len e hu
      cases hk : sz P e with
      | none => simp [hk] at h
      | some s =>
        simp only [hk, Option.bind_some] at h
        split at h
        · rename_i hc
          cases h
          refine VSim.same R (v' := .pointer (some ⟨τ.b, τ.d + (o + n.toNat * s), none⟩)) ?_ (.ptr hτ)
          simp [Instr.indexAt, asIntOf, run_under hu, Instr.sureAddr, run_size hk, hc, Addr.add_lit, Nat.add_assoc]
        · cases h
    · cases h
  · rename_i b o len c k n
    obtain ⟨τ, o', c', hτ, rfl, ho⟩ := hx.slice_inv
    cases hi.int_inv
    split at h
    · rename_i e hu
      cases hk : sz P e with
      | none => simp [hk] at h
      | some s =>
        simp only [hk, Option.bind_some] at h
        split at h
        · rename_i hc
          cases h
          rcases ho with rfl | rfl
          · refine VSim.same R (v' := .pointer (some ⟨τ.b, τ.d + (o + n.toNat * s), none⟩)) ?_ (.ptr hτ)
            simp [Instr.indexAt, asIntOf, run_under hu, run_size hk, hc, Addr.add_lit, Nat.add_assoc]
          · omega
        · cases h
    · cases h
  · cases h

/-! ### parts of values -/
theorem run_part {t : TypeId} {cs cs' : Array Value} {off : Nat} {v : Value} (hc : AR P M cs cs') (h : partA P t cs off = some v) (w : World) : ∃ v', (part t cs' off).run P w = .ok v' w ∧ VR P M v v' := by
  unfold partA at h
  cases ha : isAggA P t with
  | none => simp [ha] at h
  | some ag =>
    cases ag with
    | true =>
      simp only [ha] at h
      cases hk : sz P t with
      | none => simp [hk] at h
      | some k =>
        simp only [hk, Option.map_some] at h
        cases h
        refine ⟨.agg (cs'.extract off (off + k)), by simp [part, run_isAgg ha, run_size hk], .agg (by simp [hc.1]) fun i h1 h2 => ?_⟩
        simp only [Array.getElem_extract]
        exact hc.2 _ _ _
    | false =>
      simp only [ha] at h
      obtain ⟨v', e, r⟩ := hc.get? h
      exact ⟨v', by simp [part, run_isAgg ha, e], r⟩

theorem sim_field (R : Rel P M H W) {s : TypeId} {f : Nat} {x x' v : Value} (hx : VR P M x x') (h : fieldA P s f x = some v) : VSim P M H W (Instr.field s x' f) v H := by
  unfold fieldA at h
  split at h
  · rename_i cs
    obtain ⟨cs', rfl, hc⟩ := hx.agg_inv
    split at h
    · rename_i fields hu
      split at h
      · rename_i fd hf
        obtain ⟨v', e, r⟩ := run_part hc h W
        refine VSim.same R (v' := v') ?_ r
        simp [Instr.field, run_under hu, hf, asAgg, e]
      · cases h
    · cases h
  · cases h

theorem sim_index (R : Rel P M H W) {t : TypeId} {x x' i i' v : Value} (hx : VR P M x x') (hi : VR P M i i') (h : indexA P t x i = some v) : VSim P M H W (Instr.index t x' i') v H := by
  unfold indexA at h
  split at h
  · rename_i cs k n
    obtain ⟨cs', rfl, hc⟩ := hx.agg_inv
    cases hi.int_inv
    split at h
    · rename_i len e hu
      cases hk : sz P e with
      | none => simp [hk] at h
      | some s =>
        simp only [hk, Option.bind_some] at h
        split at h
        · rename_i hcond
          obtain ⟨v', e1, r⟩ := run_part hc h W
          refine VSim.same R (v' := v') ?_ r
          simp [Instr.index, asIntOf, run_under hu, run_size hk, hcond, e1]
        · cases h
    · cases h
  · rename_i s k n
    cases hx.string_inv
    cases hi.int_inv
    split at h
    · rename_i hu
      split at h
      · rename_i h0
        cases hb : s[n.toNat]? with
        | none => simp [hb] at h
        | some b =>
          simp only [hb, Option.map_some] at h
          cases h
          refine VSim.same R (v' := .int .u8 b.toNat) ?_ (.base rfl)
          simp [Instr.index, asIntOf, run_under hu, h0, hb]
      · cases h
    · cases h
  · cases h

theorem sim_extract (R : Rel P M H W) {i : Nat} {x x' v : Value} (hx : VR P M x x') (h : extractA i x = some v) : VSim P M H W (Instr.extract x' i) v H := by
  unfold extractA at h
  split at h
  · rename_i vs
    split at h
    · rename_i h2
      obtain ⟨vs', rfl, hv⟩ := hx.tuple_inv (by rintro e; cases e; simp at h2)
      obtain ⟨v', e, r⟩ := hv.get? h
      exact VSim.same R (v' := v') (by simp [Instr.extract, e]) r
    · cases h
  · cases h


/-! ### values built of parts -/
inductive PR (P : Program) (M : Mp) : List (Nat × Value) → List (Nat × Value) → Prop
  | nil : PR P M [] []
  | cons {i : Nat} {v v' : Value} {l l' : List (Nat × Value)} (hj : v ≠ junk) (h : VR P M v v') (r : PR P M l l') : PR P M ((i, v) :: l) ((i, v') :: l')

theorem AR.set {x x' : Array Value} {o : Nat} {v v' : Value} (h : AR P M x x') (hv : VR P M v v') : AR P M (x.setIfInBounds o v) (x'.setIfInBounds o v') := by
  refine ⟨by simpa using h.1, fun i h1 h2 => ?_⟩
  simp only [Array.size_setIfInBounds] at h1 h2
  rw [Array.getElem_setIfInBounds h1, Array.getElem_setIfInBounds h2]
  split
  · exact hv
  · exact h.2 i h1 h2

theorem fill_fold {off : Nat} : ∀ {l l' : List Value}, LR P M l l' → ∀ (k : Nat) {x x' : Array Value}, AR P M x x' →
    AR P M ((l.zipIdx k).foldl (fun cs p => cs.setIfInBounds (off + p.2) p.1) x) ((l'.zipIdx k).foldl (fun cs p => cs.setIfInBounds (off + p.2) p.1) x')
  | _, _, .nil, _, _, _, h => h
  | _, _, .cons hv r, k, _, _, h => fill_fold r (k + 1) (h.set hv)

theorem fold_zip (v : Array Value) (off : Nat) (x : Array Value) : v.zipIdx.foldl (fun cs p => cs.setIfInBounds (off + p.2) p.1) x = (v.toList.zipIdx 0).foldl (fun cs p => cs.setIfInBounds (off + p.2) p.1) x := by
  rw [← Array.foldl_toList, Array.toList_zipIdx]

theorem fill_rel {place : Nat → Option (Nat × Nat)} : ∀ {ps ps' : List (Nat × Value)}, PR P M ps ps' → ∀ {x x' out : Array Value}, AR P M x x' → Instr.fill place x ps = some out → ∃ out', Instr.fill place x' ps' = some out' ∧ AR P M out out'
  | _, _, .nil, x, x', out, h, e => by
    simp only [Instr.fill] at e
    cases e
    exact ⟨x', rfl, h⟩
  | _, _, .cons (i := i) (v := v) (v' := v') hj hv r, x, x', out, h, e => by
    have hc := hv.cells hj
    simp only [Instr.fill] at e ⊢
    cases hp : place i with
    | none => simp [hp] at e
    | some p =>
      obtain ⟨off, size⟩ := p
      simp only [hp, ← hc.1, ← h.1] at e ⊢
      split at e
      · cases e
      · rename_i hcond
        rw [if_neg hcond]
        refine fill_rel r ?_ e
        have e1 := fold_zip v.cells off x
        have e2 := fold_zip v'.cells off x'
        have := fill_fold (off := off) hc.list 0 h
        rw [← e1, ← e2] at this
        exact this

theorem run_places : ∀ (l : List Field) (ps : List (Nat × Nat)), placesA P l = some ps → ∀ w : World, (l.mapM (fun f => do pure (f.offset, ← Go.sizeOf f.type)) : Sem (List (Nat × Nat))).run P w = .ok ps w
  | [], ps, h, w => by simp [placesA] at h; subst h; simp
  | f :: r, ps, h, w => by
    simp only [placesA] at h
    cases hk : sz P f.type with
    | none => simp [hk] at h
    | some k =>
      simp only [hk, Option.bind_some] at h
      cases hr : placesA P r with
      | none => simp [hr] at h
      | some qs =>
        simp only [hr, Option.map_some] at h
        cases h
        have ih := run_places r qs hr w
        simp only [List.mapM_cons, Sem.run_bind, run_size hk, Result.andThen_ok, Sem.run_pure, ih]

theorem AR.base {c : Array Value} (h : c.toList.all isBase = true) : AR P M c c := (LR.refl_base h).array

theorem sim_build (R : Rel P M H W) {t : TypeId} {ps ps' : Array (Nat × Value)} {v : Value} (hp : PR P M ps.toList ps'.toList) (h : buildA P t ps.toList = some v) : VSim P M H W (Instr.build t ps') v H := by
  unfold buildA at h
  split at h
  · rename_i z fields hz hu
    obtain ⟨i, zv, hi, hzv, rfl, hb⟩ := zeroA_spec hz
    cases hpl : placesA P fields.toList with
    | none => simp [hpl] at h
    | some places =>
      simp only [hpl, Option.bind_some] at h
      cases hf : Instr.fill (fun i => places[i]?) zv.cells ps.toList with
      | none => simp [hf] at h
      | some out =>
        simp only [hf, Option.map_some] at h
        cases h
        obtain ⟨out', e, r⟩ := fill_rel hp (AR.base hb) hf
        refine VSim.same R (v' := .agg out') ?_ (.agg r.1 r.2)
        have hm := run_places fields.toList places hpl W
        have : (fields.mapM (fun f => do pure (f.offset, ← Go.sizeOf f.type)) : Sem (Array (Nat × Nat))).run P W = .ok places.toArray W := by
          rw [Array.mapM_eq_mapM_toList, Sem.run_map, hm]
          rfl
        simp only [Instr.build, Sem.run_bind, run_zero hi hzv, run_under hu, Result.andThen_ok, this, List.getElem?_toArray, e, Sem.run_pure]
  · rename_i z n elem hz hu
    obtain ⟨i, zv, hi, hzv, rfl, hb⟩ := zeroA_spec hz
    cases hk : sz P elem with
    | none => simp [hk] at h
    | some k =>
      simp only [hk, Option.bind_some] at h
      cases hf : Instr.fill (fun i => some (i * k, k)) zv.cells ps.toList with
      | none => simp [hf] at h
      | some out =>
        simp only [hf, Option.map_some] at h
        cases h
        obtain ⟨out', e, r⟩ := fill_rel hp (AR.base hb) hf
        refine VSim.same R (v' := .agg out') ?_ (.agg r.1 r.2)
        simp [Instr.build, run_zero hi hzv, run_under hu, run_size hk, e]
  · cases h

theorem zeros_base {z : Array Value} (hz : z.toList.all isBase = true) (h0 : 0 < z.size) (n : Nat) : (zeros z n).toList.all isBase = true := by
  rw [List.all_eq_true]
  intro v hv
  rw [Array.mem_toList_iff] at hv
  simp only [zeros, Array.mem_map] at hv
  obtain ⟨i, _, rfl⟩ := hv
  rw [List.all_eq_true] at hz
  have hlt := Nat.mod_lt i h0
  refine hz _ ?_
  rw [getElem!_pos z _ hlt]
  exact Array.getElem_mem_toList hlt

theorem sim_buildSlice (R : Rel P M H W) {t : TypeId} {n : Nat} {ps ps' : Array (Nat × Value)} {v : Value} (hp : PR P M ps.toList ps'.toList) (h : buildSliceA P t n ps.toList H = some (v, H')) : VSim P M H W (Instr.buildSlice t n ps') v H' := by
  unfold buildSliceA at h
  split at h
  · rename_i e hu
    cases hk : sz P e with
    | none => simp [hk] at h
    | some k =>
      simp only [hk, Option.bind_some] at h
      split at h
      · rename_i hle
        obtain ⟨hle, hn⟩ := hle
        cases hz : zeroA P e with
        | none => simp [hz] at h
        | some z =>
          simp only [hz, Option.bind_some] at h
          split at h
          · rename_i hkz
            cases hf : Instr.fill (fun i => some (i * k, k)) (zeros z (n * k)) ps.toList with
            | none => simp [hf] at h
            | some cells =>
              simp only [hf, Option.map_some, Option.some.injEq, Prod.mk.injEq] at h
              obtain ⟨rfl, rfl⟩ := h
              obtain ⟨i, zv, hi, hzv, rfl, hb⟩ := zeroA_spec hz
              have hzb : (zeros zv.cells (n * k)).toList.all isBase = true := by
                by_cases h0 : 0 < zv.cells.size
                · exact zeros_base hb h0 _
                · have : n * k = 0 := by rw [hkz]; simp [Nat.eq_zero_of_not_pos h0]
                  rw [this]; simp [zeros]
              obtain ⟨out', e1, r⟩ := fill_rel hp (AR.base (M := M) (P := P) hzb) hf
              have st := sim_new R e (CR.of_AR r)
              refine ⟨_, .slice (some ⟨W.heap.size, 0, none⟩) n n, _, ?_, ?_, st⟩
              · have hle' : ¬ (16777216 < n * k) := by omega
                by_cases h0 : n * k = 0
                · have e2 : Instr.fill (fun i => some (i * k, k)) #[] ps'.toList = some out' := by simpa [zeros, h0, Array.range_zero'] using e1
                  simp [Instr.buildSlice, run_under hu, run_size hk, h0, Array.range_zero', e2, newRow]
                · have e2 : Instr.fill (fun i => some (i * k, k)) ((Array.range (n * k)).map fun x => zv.cells[x % zv.cells.size]!) ps'.toList = some out' := e1
                  simp [Instr.buildSlice, run_under hu, run_size hk, hle', h0, run_zero hi hzv, e2, newRow]
              · have := @VR.sl P (ins M H.size ⟨W.heap.size, 0, out'.size, e⟩) H.size 0 n n _ (ins_same _ _ _) (by unfold capU; omega)
                simpa using this
          · cases h
      · cases h
  · cases h
end Go.AH

/-
  AH: '==' of flat values (scalars, structs of scalars), keys of maps.
-/
namespace Go.AH
open Go
variable {P : Program}

theorem bytes_inj {a b : ByteArray} : a.toList = b.toList ↔ a = b := by
  constructor
  · intro h
    rw [ByteArray.toList_eq, ByteArray.toList_eq] at h
    obtain ⟨⟨x⟩⟩ := a
    obtain ⟨⟨y⟩⟩ := b
    simp at h
    subst h
    rfl
  · rintro rfl; rfl
theorem scalarEq_iff {x y : Value} (hx : isScalar x = true) : scalarEq x y = true ↔ x = y := by
  cases x <;> simp [isScalar] at hx <;> cases y <;> simp [scalarEq, eqS_eq, bytes_inj]

theorem fits_scalar {k : Sk} {v : Value} (h : k.fits v = true) : isScalar v = true := by
  cases k <;> cases v <;> simp_all [Sk.fits, isScalar]

theorem fitsAll_length : ∀ {ks : List Sk} {vs : List Value}, fitsAll ks vs = true → vs.length = ks.length
  | [], [], _ => rfl
  | [], _ :: _, h => by simp [fitsAll] at h
  | _ :: _, [], h => by simp [fitsAll] at h
  | k :: ks, v :: vs, h => by
    simp only [fitsAll, Bool.and_eq_true] at h
    simp [fitsAll_length h.2]

theorem fitsAll_append : ∀ {ks ks' : List Sk} {vs : List Value}, fitsAll (ks ++ ks') vs = true → fitsAll ks (vs.take ks.length) = true ∧ fitsAll ks' (vs.drop ks.length) = true
  | [], ks', vs, h => by simpa [fitsAll] using h
  | k :: ks, ks', [], h => by simp [fitsAll] at h
  | k :: ks, ks', v :: vs, h => by
    simp only [List.cons_append, fitsAll, Bool.and_eq_true] at h
    obtain ⟨h1, h2⟩ := fitsAll_append h.2
    exact ⟨by simp [fitsAll, h.1, h1], by simpa using h2⟩

theorem listEq_append : ∀ {a a' b b' : List Value}, a.length = a'.length → listEq (a ++ b) (a' ++ b') = (listEq a a' && listEq b b')
  | [], [], b, b', _ => by simp [listEq]
  | [], _ :: _, _, _, h => by simp at h
  | _ :: _, [], _, _, h => by simp at h
  | x :: a, y :: a', b, b', h => by simp [listEq, listEq_append (a := a) (a' := a') (by simpa using h), Bool.and_assoc]

theorem listEq_iff : ∀ {ks : List Sk} {x y : List Value}, fitsAll ks x = true → fitsAll ks y = true → (listEq x y = true ↔ x = y)
  | [], [], [], _, _ => by simp [listEq]
  | [], _ :: _, _, h, _ => by simp [fitsAll] at h
  | [], [], _ :: _, _, h => by simp [fitsAll] at h
  | _ :: _, [], _, h, _ => by simp [fitsAll] at h
  | _ :: _, _ :: _, [], _, h => by simp [fitsAll] at h
  | k :: ks, a :: x, b :: y, h, h' => by
    simp only [fitsAll, Bool.and_eq_true] at h h'
    simp [listEq, scalarEq_iff (fits_scalar h.1), listEq_iff h.2 h'.2]

theorem take_extract (cs : Array Value) (o k : Nat) : (cs.extract o (o + k)).toList = (cs.toList.drop o).take k := by
  rw [Array.toList_extract, List.extract_eq_take_drop]
  congr 1; omega

/-- A value v of the kinds ks, of type t. -/
def FitsK (P : Program) (t : TypeId) (ks : List Sk) (v : Value) : Prop := fitsAll ks v.cells.toList = true ∧ isAggA P t = some (isAggV v)

theorem fits_spec {t : TypeId} {v : Value} (h : fits P t v = true) : ∃ ks, flatK P 9 t = some ks ∧ FitsK P t ks v := by
  unfold fits at h
  cases hk : flatK P 9 t with
  | none => simp [hk] at h
  | some ks =>
    simp only [hk, Bool.and_eq_true, beq_iff_eq] at h
    exact ⟨ks, rfl, h.1, h.2⟩

theorem fits_one {k : Sk} {v : Value} (h : fitsAll [k] v.cells.toList = true) (ha : (isAggV v) = false) : k.fits v = true := by
  have e : v.cells.toList = [v] := by cases v <;> first | rfl | simp [isAggV] at ha
  rw [e] at h
  simpa [fitsAll] using h

/-- A part of a row of scalars. -/
theorem part_fits {t : TypeId} {ks : List Sk} {cs : Array Value} {o d : Nat} (hf : flatK P d t = some ks) (hk : sz P t = some ks.length) (h : fitsAll ks ((cs.toList.drop o).take ks.length) = true) :
    ∃ v, (∀ w, (part t cs o).run P w = .ok v w) ∧ FitsK P t ks v ∧ v.cells.toList = (cs.toList.drop o).take ks.length := by
  cases d with
  | zero => simp [flatK] at hf
  | succ d =>
    simp only [flatK] at hf
    have one : ∀ (k : Sk) (ds : TypeDesc), P.underlying t = some ds → isAggA P t = some false → ks = [k] → ∃ v, (∀ w, (part t cs o).run P w = .ok v w) ∧ FitsK P t ks v ∧ v.cells.toList = (cs.toList.drop o).take ks.length := by
      rintro k ds hu ha rfl
      have hl := fitsAll_length h
      simp only [List.length_cons, List.length_nil, Nat.zero_add] at hl h ⊢
      obtain ⟨v, hv⟩ := List.length_eq_one_iff.1 hl
      have hg : cs[o]? = some v := by
        have : ((cs.toList.drop o).take 1)[0]? = some v := by rw [hv]; rfl
        rw [List.getElem?_take] at this
        simpa using this
      rw [hv] at h ⊢
      have hs := fits_scalar (show k.fits v = true by simpa [fitsAll] using h)
      have hc : v.cells.toList = [v] ∧ (isAggV v) = false := by cases v <;> first | (simp [isScalar] at hs; done) | exact ⟨rfl, rfl⟩
      refine ⟨v, fun w => by simp [part, run_isAgg ha, hg], ⟨by rw [hc.1]; exact h, by rw [ha, hc.2]⟩, hc.1⟩
    split at hf
    · rename_i hu; cases hf; exact one _ _ hu (by simp [isAggA, hu]) rfl
    · rename_i hu; cases hf; exact one _ _ hu (by simp [isAggA, hu]) rfl
    · rename_i hu; cases hf; exact one _ _ hu (by simp [isAggA, hu]) rfl
    · rename_i hu
      have ha : isAggA P t = some true := by simp [isAggA, hu]
      exact ⟨.agg (cs.extract o (o + ks.length)), fun w => by simp [part, run_isAgg ha, run_size hk], ⟨by simp only [Value.cells]; rw [take_extract]; exact h, ha⟩, by simp only [Value.cells]; rw [take_extract]⟩
    · cases hf

theorem flat_eq : ∀ (d : Nat) (t : TypeId) (ks : List Sk) (x y : Value), flatK P d t = some ks → FitsK P t ks x → FitsK P t ks y → ∀ n w, d ≤ n → (Op.equalIn n t x y).run P w = .ok (flatEq x y) w
  | 0, t, ks, x, y, h, _, _, n, w, _ => by simp [flatK] at h
  | d + 1, t, ks, x, y, h, hx, hy, n, w, hn => by
    obtain ⟨n, rfl⟩ : ∃ m, n = m + 1 := ⟨n - 1, by omega⟩
    simp only [flatK] at h
    split at h
    · rename_i hu
      cases h
      have ha : isAggA P t = some false := by simp [isAggA, hu]
      have h1 := fits_one hx.1 (Option.some.inj (hx.2.symm.trans ha))
      have h2 := fits_one hy.1 (Option.some.inj (hy.2.symm.trans ha))
      cases x <;> simp [Sk.fits] at h1
      cases y <;> simp [Sk.fits] at h2
      simp [Op.equalIn, run_under hu, flatEq, scalarEq]
    · rename_i k hu
      cases h
      have ha : isAggA P t = some false := by simp [isAggA, hu]
      have h1 := fits_one hx.1 (Option.some.inj (hx.2.symm.trans ha))
      have h2 := fits_one hy.1 (Option.some.inj (hy.2.symm.trans ha))
      cases x <;> simp [Sk.fits] at h1
      cases y <;> simp [Sk.fits] at h2
      subst h1; subst h2
      simp [Op.equalIn, run_under hu, flatEq, scalarEq]
    · rename_i hu
      cases h
      have ha : isAggA P t = some false := by simp [isAggA, hu]
      have h1 := fits_one hx.1 (Option.some.inj (hx.2.symm.trans ha))
      have h2 := fits_one hy.1 (Option.some.inj (hy.2.symm.trans ha))
      cases x <;> simp [Sk.fits] at h1
      cases y <;> simp [Sk.fits] at h2
      simp [Op.equalIn, run_under hu, flatEq, scalarEq, eqS_eq, beq_toListBytes]
    · rename_i fields hu
      split at h
      · cases h
      · rename_i hp
        have ha : isAggA P t = some true := by simp [isAggA, hu]
        have gx := Option.some.inj (hx.2.symm.trans ha)
        have gy := Option.some.inj (hy.2.symm.trans ha)
        cases x <;> simp [isAggV] at gx
        cases y <;> simp [isAggV] at gy
        rename_i xs ys
        have hfo : P.fieldsOf t = fields := by simp [Program.fieldsOf, hu]
        rw [run_equalIn_struct w n t xs ys (by rw [hfo]; exact hu) (by simpa using hp), hfo]
        simp only [flatEq]
        have key : ∀ (fs : List Field) (at_ : Nat) (ks : List Sk), flatFs P (flatK P d) at_ fs = some ks → fitsAll ks (xs.toList.drop at_) = true → fitsAll ks (ys.toList.drop at_) = true →
            (Op.eqFields n xs ys fs).run P w = .ok (listEq (xs.toList.drop at_) (ys.toList.drop at_)) w := by
          intro fs
          induction fs with
          | nil =>
            intro at_ ks h h1 h2
            simp only [flatFs] at h
            cases h
            have l1 := fitsAll_length h1
            have l2 := fitsAll_length h2
            simp only [List.length_nil] at l1 l2
            rw [List.eq_nil_of_length_eq_zero l1, List.eq_nil_of_length_eq_zero l2]
            rfl
          | cons f fs ih =>
            intro at_ ks h h1 h2
            simp only [flatFs] at h
            split at h
            · cases h
            · rename_i hc
              cases hk : flatK P d f.type with
              | none => simp [hk] at h
              | some k1 =>
                simp only [hk, Option.bind_some] at h
                split at h
                · rename_i hs
                  cases hr : flatFs P (flatK P d) (at_ + k1.length) fs with
                  | none => simp [hr] at h
                  | some k2 =>
                    simp only [hr, Option.map_some] at h
                    cases h
                    obtain ⟨a1, a2⟩ := fitsAll_append h1
                    obtain ⟨b1, b2⟩ := fitsAll_append h2
                    rw [List.drop_drop] at a2 b2
                    have ho : f.offset = at_ := by
                      by_cases e : f.offset = at_
                      · exact e
                      · exact absurd (Or.inr e) hc
                    have hnm : f.name ≠ "_" := fun e => hc (Or.inl e)
                    obtain ⟨u, pu, fu, cu⟩ := part_fits (o := at_) hk hs a1
                    obtain ⟨v, pv, fv, cv⟩ := part_fits (o := at_) hk hs b1
                    have he := flat_eq d f.type k1 u v hk fu fv n w (by omega)
                    have e1 : listEq (xs.toList.drop at_) (ys.toList.drop at_) = (flatEq u v && listEq (xs.toList.drop (at_ + k1.length)) (ys.toList.drop (at_ + k1.length))) := by
                      have hl : ((xs.toList.drop at_).take k1.length).length = ((ys.toList.drop at_).take k1.length).length := by rw [fitsAll_length a1, fitsAll_length b1]
                      have := listEq_append (b := (xs.toList.drop at_).drop k1.length) (b' := (ys.toList.drop at_).drop k1.length) hl
                      rw [List.take_append_drop, List.take_append_drop, List.drop_drop, List.drop_drop] at this
                      rw [this]
                      congr 1
                      rw [← cu, ← cv]
                      have huv := Option.some.inj (fu.2.symm.trans fv.2)
                      cases u <;> cases v <;> simp [isAggV] at huv <;> simp [flatEq, Value.cells, listEq]
                    rw [e1]
                    have hih := ih (at_ + k1.length) k2 hr a2 b2
                    simp only [Op.eqFields, if_pos hnm, ho, Sem.run_bind, pu, pv, he, Result.andThen_ok]
                    cases flatEq u v
                    · simp
                    · simpa using hih
                · cases h
        have := key fields.toList 0 ks h (by simpa [Value.cells] using hx.1) (by simpa [Value.cells] using hy.1)
        simpa using this
    · cases h

/-- A key of a flat type is one. -/
theorem flat_checkKey (em : Bool) : ∀ (d : Nat) (t : TypeId) (ks : List Sk) (x : Value), flatK P d t = some ks → FitsK P t ks x → ∀ n w, d ≤ n → (Instr.checkKey em n t x).run P w = .ok () w
  | 0, t, ks, x, h, _, n, w, _ => by simp [flatK] at h
  | d + 1, t, ks, x, h, hx, n, w, hn => by
    obtain ⟨n, rfl⟩ : ∃ m, n = m + 1 := ⟨n - 1, by omega⟩
    simp only [flatK] at h
    split at h
    · rename_i hu; simp [Instr.checkKey, run_under hu]
    · rename_i hu; simp [Instr.checkKey, run_under hu]
    · rename_i hu; simp [Instr.checkKey, run_under hu]
    · rename_i fields hu
      split at h
      · cases h
      · have ha : isAggA P t = some true := by simp [isAggA, hu]
        have gx := Option.some.inj (hx.2.symm.trans ha)
        cases x <;> simp [isAggV] at gx
        rename_i xs
        simp only [Instr.checkKey, Sem.run_bind, run_under hu, Result.andThen_ok]
        rw [← Array.forIn_toList]
        have key : ∀ (fs : List Field) (at_ : Nat) (ks : List Sk), flatFs P (flatK P d) at_ fs = some ks → fitsAll ks (xs.toList.drop at_) = true →
            (forIn fs PUnit.unit fun f _ => if f.name ≠ "_" then do
                let v ← part f.type xs f.offset
                Instr.checkKey em n f.type v
                pure (ForInStep.yield PUnit.unit)
              else pure (ForInStep.yield PUnit.unit) : Sem PUnit).run P w = .ok PUnit.unit w := by
          intro fs
          induction fs with
          | nil => intro at_ ks _ _; simp
          | cons f fs ih =>
            intro at_ ks h h1
            simp only [flatFs] at h
            split at h
            · cases h
            · rename_i hc
              cases hk : flatK P d f.type with
              | none => simp [hk] at h
              | some k1 =>
                simp only [hk, Option.bind_some] at h
                split at h
                · rename_i hs
                  cases hr : flatFs P (flatK P d) (at_ + k1.length) fs with
                  | none => simp [hr] at h
                  | some k2 =>
                    simp only [hr, Option.map_some] at h
                    cases h
                    obtain ⟨a1, a2⟩ := fitsAll_append h1
                    rw [List.drop_drop] at a2
                    have ho : f.offset = at_ := by
                      by_cases e : f.offset = at_
                      · exact e
                      · exact absurd (Or.inr e) hc
                    have hnm : f.name ≠ "_" := fun e => hc (Or.inl e)
                    obtain ⟨u, pu, fu, cu⟩ := part_fits (o := at_) hk hs a1
                    have he := flat_checkKey em d f.type k1 u hk fu n w (by omega)
                    have hih := ih (at_ + k1.length) k2 hr a2
                    simp only [List.forIn_cons, if_pos hnm, ho, Sem.run_bind, pu, he, Result.andThen_ok, Sem.run_pure]
                    exact hih
                · cases h
        rw [key fields.toList 0 ks h (by simpa [Value.cells] using hx.1)]
        rfl
    · cases h

end Go.AH

/-
  AH: scalars, slice expressions, lengths, conversions, new rows and maps.
-/
namespace Go.AH
open Go
variable {P : Program} {M : Mp} {H H' : Heap} {W : World}

theorem sim_pick (R : Rel P M H W) {c c' a a' b b' v : Value} (hc : VR P M c c') (ha : VR P M a a') (hb : VR P M b b') (h : pickA c a b = some v) :
    OpSim P M H W (do pure (.value (if ← asBool c' then a' else b'))) v H := by
  unfold pickA at h
  split at h
  · rename_i t
    cases h
    cases hc.bool_inv
    refine ⟨_, W, if t then a' else b', M, by simp [asBool], .inl rfl, ?_, Step.refl R⟩
    cases t <;> assumption
  · cases h

theorem sim_nilCheck (R : Rel P M H W) {x x' v : Value} (hx : VR P M x x') (h : nilCheckA x = some v) (o : Oper) (r : Operand → Value) (a : Operand) (ho : o.op = .nilCheck a) (hr : r a = x') :
    OpSim P M H W (execOp r o) v H := by
  unfold nilCheckA at h
  split at h
  · cases h
    cases hx with
    | base h => simp [isBase] at h
    | ptr h => exact ⟨_, W, _, M, by simp only [execOp, ho, hr, Sem.run_pure], .inl rfl, .ptr h, Step.refl R⟩
  · cases h
    obtain ⟨x', y', rfl, h1, h2⟩ := hx.func_inv
    exact ⟨_, W, _, M, by simp only [execOp, ho, hr, Sem.run_pure], .inl rfl, .func h1.1 h2.1 h1.2 h2.2, Step.refl R⟩
  · cases h

theorem run_intA {op : BinOp} {k : IntKind} {a b : Int} {v : Value} (h : intA op k a b = some v) (hs : op ≠ .shl ∧ op ≠ .shr) (t : TypeId) (w : World) : (binOp op t (.int k a) (.int k b)).run P w = .ok v w := by
  cases op <;> simp [intA, intCmpA] at h hs <;> first
    | (obtain ⟨h0, rfl⟩ := h; simp [binOp, Op.intDiv, h0])
    | (subst h; simp [binOp, Op.intArith, Op.intBits, Op.intCmp])

theorem run_shA {op : BinOp} {k k' : IntKind} {a b : Int} {v : Value} (h : intA op k a b = some v) (hs : op = .shl ∨ op = .shr) (t : TypeId) (w : World) : (binOp op t (.int k a) (.int k' b)).run P w = .ok v w := by
  rcases hs with rfl | rfl <;>
  · simp only [intA] at h
    split at h
    · cases h
    · rename_i h0
      cases h
      simp [binOp, Op.shift, h0]

theorem run_strA {op : BinOp} {a b : ByteArray} {v : Value} (h : strA op a b = some v) (t : TypeId) (w : World) : (binOp op t (.string a) (.string b)).run P w = .ok v w := by
  cases op <;> simp [strA, eqS_eq, ← ByteArray.toList_eq] at h <;> first
    | (obtain ⟨h0, rfl⟩ := h
       have : ¬ ((9223372036854775807 : Int) < a.size + b.size) := by omega
       simp [binOp, Op.stringOp, this])
    | (subst h; simp [binOp, Op.stringOp])

theorem guard_ok {op : BinOp} {t : TypeId} {x y : Operand} {a b : Value} (h1 : a ≠ .nilIface) (h2 : isAggV a = false) (w : World) : (eqGuard op t x y a b).run P w = .ok () w := by
  unfold eqGuard
  cases op <;> (cases a <;> first | (simp at h1; done) | (simp [isAggV] at h2; done) | (simp))

theorem sim_eqA (_ : Rel P M H W) {t : TypeId} {x x' y y' : Value} {b : Bool} (hx : VR P M x x') (hy : VR P M y y') (h : eqA P t x y = some b) :
    (∀ n w, 9 ≤ n → (Op.equalIn (n + 1) t x' y').run P w = .ok b w) ∧ (∀ op a c w, (eqGuard op t a c x' y').run P w = .ok () w) := by
  unfold eqA at h
  have nonagg : ∀ (v : Value), v ≠ .nilIface → isAggV v = false → ∀ (u : Value) op a c w, (eqGuard op t a c v u).run P w = .ok () w := fun v h1 h2 u op a c w => guard_ok h1 h2 w
  split at h
  · rename_i hu
    cases h
    cases hx.bool_inv; cases hy.bool_inv
    exact ⟨fun n w _ => by simp [Op.equalIn, run_under hu], nonagg _ (by simp) rfl _⟩
  · rename_i et e hu
    cases h
    cases hx.ptr_nil_inv
    have : ∃ b2, y' = .pointer b2 ∧ b2.isNone = Option.isNone e := by
      cases hy with
      | base h => exact ⟨_, rfl, rfl⟩
      | ptr h => exact ⟨_, rfl, rfl⟩
    obtain ⟨b2, rfl, e2⟩ := this
    exact ⟨fun n w _ => by simp [Op.equalIn, run_under hu, e2], nonagg _ (by simp) rfl _⟩
  · rename_i e hu
    cases h
    cases hy.ptr_nil_inv
    have : ∃ b2 : Addr, x' = .pointer (some b2) := by
      cases hx with
      | base h => simp [isBase] at h
      | ptr h => exact ⟨_, rfl⟩
    obtain ⟨b2, rfl⟩ := this
    exact ⟨fun n w _ => by simp [Op.equalIn, run_under hu], nonagg _ (by simp) rfl _⟩
  · rename_i et _ _ e _ _ hu
    cases h
    cases hx.sl_nil_inv
    have : ∃ b2 n c, y' = .slice b2 n c ∧ b2.isNone = Option.isNone e := by
      cases hy with
      | base h => exact ⟨_, _, _, rfl, rfl⟩
      | sl h _ => exact ⟨_, _, _, rfl, rfl⟩
      | slU h _ _ _ => exact ⟨_, _, _, rfl, rfl⟩
      | slE h => exact ⟨_, _, _, rfl, rfl⟩
      | sl0 h => exact ⟨_, _, _, rfl, rfl⟩
    obtain ⟨b2, n2, c2, rfl, e2⟩ := this
    exact ⟨fun n w _ => by simp [Op.equalIn, run_under hu, e2], nonagg _ (by simp) rfl _⟩
  · rename_i e hu
    cases h
    cases hy.sl_nil_inv
    have : ∃ (b2 : Addr) (n c : Nat), x' = .slice (some b2) n c := by
      cases hx with
      | base h => simp [isBase] at h
      | sl h _ => exact ⟨_, _, _, rfl⟩
      | slU h _ _ _ => exact ⟨_, _, _, rfl⟩
      | slE h => exact ⟨_, _, _, rfl⟩
      | sl0 h => exact ⟨_, _, _, rfl⟩
    obtain ⟨b2, n2, c2, rfl⟩ := this
    exact ⟨fun n w _ => by simp [Op.equalIn, run_under hu], nonagg _ (by simp) rfl _⟩
  · rename_i et et2 e hu
    cases h
    cases hx.map_nil_inv
    have : ∃ b2, y' = .map b2 ∧ b2.isNone = Option.isNone e := by
      cases hy with
      | base h => exact ⟨_, rfl, rfl⟩
      | map h => exact ⟨_, rfl, rfl⟩
    obtain ⟨b2, rfl, e2⟩ := this
    exact ⟨fun n w _ => by simp [Op.equalIn, run_under hu, e2], nonagg _ (by simp) rfl _⟩
  · rename_i e hu
    cases h
    cases hy.map_nil_inv
    obtain ⟨τ, _, rfl⟩ : ∃ τ : Tgt, True ∧ x' = .map (some τ.b) := by
      cases hx with
      | base h => simp [isBase] at h
      | map h => exact ⟨_, trivial, rfl⟩
    exact ⟨fun n w _ => by simp [Op.equalIn, run_under hu], nonagg _ (by simp) rfl _⟩
  · rename_i fs xs ys hu
    split at h
    · rename_i hc
      simp only [Bool.and_eq_true, Bool.not_eq_true'] at hc
      cases h
      obtain ⟨⟨c1, c2⟩, c3⟩ := hc
      obtain ⟨ks, k1, f1⟩ := fits_spec c1
      obtain ⟨ks2, k2, f2⟩ := fits_spec c2
      rw [k1] at k2; cases k2
      have flat : ∀ {ks : List Sk} {l l' : List Value}, fitsAll ks l = true → LR P M l l' → l' = l := by
        intro ks l l' hk hl
        induction hl generalizing ks with
        | nil => rfl
        | cons hv _ ih =>
          cases ks with
          | nil => simp [fitsAll] at hk
          | cons k ks =>
            simp only [fitsAll, Bool.and_eq_true] at hk
            rw [hv.scalar (fits_scalar hk.1), ih hk.2]
      obtain ⟨xs', rfl, hxs⟩ := hx.agg_inv
      obtain ⟨ys', rfl, hys⟩ := hy.agg_inv
      have ex : xs' = xs := by have := flat f1.1 hxs.list; exact Array.ext' this
      have ey : ys' = ys := by have := flat f2.1 hys.list; exact Array.ext' this
      subst ex; subst ey
      refine ⟨fun n w hn => ?_, fun op a c w => run_eqGuard_agg w op t a c _ _ c3⟩
      have := flat_eq 9 t ks (.agg xs') (.agg ys') k1 f1 f2 (n + 1) w (by omega)
      simpa [flatEq] using this
    · cases h
  · cases h

theorem sim_bin (R : Rel P M H W) {op : BinOp} {t : TypeId} {x x' y y' v : Value} (hx : VR P M x x') (hy : VR P M y y') (h : binA P op t x y = some v) (a b : Operand) :
    VSim P M H W (do eqGuard op t a b x' y'; binOp op t x' y') v H := by
  unfold binA at h
  split at h
  · rename_i k n k' m
    cases hx.int_inv; cases hy.int_inv
    have hg := guard_ok (P := P) (op := op) (t := t) (x := a) (y := b) (a := .int k n) (b := .int k' m) (by simp) rfl W
    split at h
    · rename_i hs
      have hs' : op = .shl ∨ op = .shr := by cases op <;> simp [isShift] at hs <;> simp
      have hb : isBase v = true := by
        rcases hs' with rfl | rfl <;> (simp only [intA] at h; split at h; (cases h); (cases h; rfl))
      exact VSim.same R (v' := v) (by simp only [Sem.run_bind, hg, Result.andThen_ok]; exact run_shA h hs' t W) (.base hb)
    · rename_i hs
      split at h
      · rename_i hk
        subst hk
        have hs' : op ≠ .shl ∧ op ≠ .shr := by cases op <;> simp [isShift] at hs <;> simp
        have hb : isBase v = true := by
          cases op <;> simp [intA, intCmpA] at h <;> first | (obtain ⟨_, rfl⟩ := h; rfl) | (subst h; rfl)
        exact VSim.same R (v' := v) (by simp only [Sem.run_bind, hg, Result.andThen_ok]; exact run_intA h hs' t W) (.base hb)
      · cases h
  · rename_i s s'
    cases hx.string_inv; cases hy.string_inv
    have hg := guard_ok (P := P) (op := op) (t := t) (x := a) (y := b) (a := .string s) (b := .string s') (by simp) rfl W
    have hb : isBase v = true := by
      cases op <;> simp [strA] at h <;> first | (obtain ⟨_, rfl⟩ := h; rfl) | (subst h; rfl)
    exact VSim.same R (v' := v) (by simp only [Sem.run_bind, hg, Result.andThen_ok]; exact run_strA h t W) (.base hb)
  · rename_i h1 h2
    have nint : ∀ (b : Bool), eqA P t x y = some b → (∀ k n k' m, ¬ (x' = .int k n ∧ y' = .int k' m)) ∧ (∀ s s', ¬ (x' = .string s ∧ y' = .string s')) ∧ (∀ k n k' m, ¬ (x' = .float k n ∧ y' = .float k' m)) ∧ (∀ k n l k' m l', ¬ (x' = .complex k n l ∧ y' = .complex k' m l')) := by
      intro b hb
      unfold eqA at hb
      split at hb <;> first
        | (cases hx.bool_inv; simp; done)
        | (cases hb; cases hx <;> simp; done)
        | (obtain ⟨xs', rfl, _⟩ := hx.agg_inv; simp; done)
        | (cases hb)
    split at h
    · cases hq : eqA P t x y with
      | none => simp [hq] at h
      | some b0 =>
        simp only [hq, Option.map_some] at h
        cases h
        obtain ⟨e1, e2⟩ := sim_eqA R hx hy hq
        obtain ⟨n1, n2, n3, n4⟩ := nint b0 hq
        refine VSim.same R (v' := .bool b0) ?_ (.base rfl)
        simp only [Sem.run_bind, e2, Result.andThen_ok]
        have hb : binOp .eql t x' y' = (do pure (.bool (← Op.equal t x' y'))) := by
          unfold binOp
          split <;> first | rfl | (exfalso; first | exact n1 _ _ _ _ ⟨rfl, rfl⟩ | exact n2 _ _ ⟨rfl, rfl⟩ | exact n3 _ _ _ _ ⟨rfl, rfl⟩ | exact n4 _ _ _ _ _ _ ⟨rfl, rfl⟩ | contradiction)
        rw [hb]
        simp [Op.equal, Op.maxDepth, e1 9999 W (by omega)]
    · cases hq : eqA P t x y with
      | none => simp [hq] at h
      | some b0 =>
        simp only [hq, Option.map_some] at h
        cases h
        obtain ⟨e1, e2⟩ := sim_eqA R hx hy hq
        obtain ⟨n1, n2, n3, n4⟩ := nint b0 hq
        refine VSim.same R (v' := .bool !b0) ?_ (.base rfl)
        simp only [Sem.run_bind, e2, Result.andThen_ok]
        have hb : binOp .neq t x' y' = (do pure (.bool (!(← Op.equal t x' y')))) := by
          unfold binOp
          split <;> first | rfl | (exfalso; first | exact n1 _ _ _ _ ⟨rfl, rfl⟩ | exact n2 _ _ ⟨rfl, rfl⟩ | exact n3 _ _ _ _ ⟨rfl, rfl⟩ | exact n4 _ _ _ _ _ _ ⟨rfl, rfl⟩ | contradiction)
        rw [hb]
        simp [Op.equal, Op.maxDepth, e1 9999 W (by omega)]
    · cases h

theorem sim_un (R : Rel P M H W) {op : UnOp} {x x' v : Value} (hx : VR P M x x') (h : unA op x = some v) : VSim P M H W (Op.unary op x') v H := by
  unfold unA at h
  split at h
  · cases hx.bool_inv
    split at h
    · cases h; exact VSim.same R (by simp [Op.unary]) (.base rfl)
    · cases h
  · rename_i k n
    cases hx.int_inv
    split at h
    · cases h; exact VSim.same R (by simp [Op.unary, Op.intArith]) (.base rfl)
    · simp only [intA] at h
      cases h; exact VSim.same R (by simp [Op.unary, Op.intBits]) (.base rfl)
    · cases h
  · cases h

end Go.AH

/-
  AH: slice expressions, lengths, new rows and maps, conversions.
-/
namespace Go.AH
open Go
variable {P : Program} {M : Mp} {H H' : Heap} {W : World}

/-- Optional operands. -/
def OVR (P : Program) (M : Mp) : Option Value → Option Value → Prop
  | none, none => True
  | some v, some v' => VR P M v v'
  | _, _ => False

theorem OVR.int {x x' : Option Value} (h : OVR P M x x') {d y n : Nat} (e : bnd x d y = some n) : (x = none ∧ x' = none ∧ n = d) ∨ (∃ k i, x = some (.int k i) ∧ x' = some (.int k i) ∧ 0 ≤ i ∧ i ≤ y ∧ n = i.toNat) := by
  unfold bnd at e
  cases x with
  | none =>
    cases x' with
    | none => exact .inl ⟨rfl, rfl, by simpa using e.symm⟩
    | some v => exact h.elim
  | some v =>
    cases x' with
    | none => exact h.elim
    | some v' =>
      cases v <;> simp at e
      rename_i k i
      have : v' = .int k i := VR.int_inv h
      subst this
      exact .inr ⟨k, i, rfl, rfl, e.1.1, e.1.2, e.2.symm⟩

theorem run_bound {k : IntKind} {i : Int} {y : Nat} {c : BoundsCode} (h0 : 0 ≤ i) (h1 : i ≤ y) (w : World) : (Instr.sliceBound (.int k i) y c).run P w = .ok i.toNat w := by
  simp [Instr.sliceBound, asIntOf, h0, h1]

/-- The three bounds; m: what the capacity is. -/
theorem run_bounds {isS : Bool} {n c m h l : Nat} {lo hi mx lo' hi' mx' : Option Value} (hlo : OVR P M lo lo') (hhi : OVR P M hi hi') (hmx : OVR P M mx mx')
    (em : bnd mx c c = some m) (eh : bnd hi n m = some h) (el : bnd lo 0 h = some l) (hok : mx.isSome = true → hi.isSome = true) (w : World) :
    (Instr.sliceBounds isS n c lo' hi' mx').run P w = .ok (l, h, m) w := by
  rcases hmx.int em with ⟨rfl, rfl, rfl⟩ | ⟨k1, i1, rfl, rfl, a1, a2, rfl⟩
  · rcases hhi.int eh with ⟨rfl, rfl, rfl⟩ | ⟨k2, i2, rfl, rfl, b1, b2, rfl⟩ <;> rcases hlo.int el with ⟨rfl, rfl, rfl⟩ | ⟨k3, i3, rfl, rfl, c1, c2, rfl⟩ <;>
    first
      | simp [Instr.sliceBounds, run_bound b1 b2, run_bound c1 c2]
      | simp [Instr.sliceBounds, run_bound b1 b2]
      | simp [Instr.sliceBounds, run_bound c1 c2]
      | simp [Instr.sliceBounds]
  · rcases hhi.int eh with ⟨rfl, rfl, rfl⟩ | ⟨k2, i2, rfl, rfl, b1, b2, rfl⟩
    · simp at hok
    · rcases hlo.int el with ⟨rfl, rfl, rfl⟩ | ⟨k3, i3, rfl, rfl, c1, c2, rfl⟩ <;>
      first
        | simp [Instr.sliceBounds, run_bound a1 a2, run_bound b1 b2, run_bound c1 c2]
        | simp [Instr.sliceBounds, run_bound a1 a2, run_bound b1 b2]

theorem bnd_le {x : Option Value} {d y n : Nat} (e : bnd x d y = some n) (hd : d ≤ y) : n ≤ y := by
  unfold bnd at e
  split at e
  · cases e; exact hd
  · split at e
    · cases e; omega
    · cases e
  · cases e

theorem OVR.mono_y {x : Option Value} {d y y' n : Nat} (e : bnd x d y = some n) (h : y ≤ y') : bnd x d y' = some n := by
  unfold bnd at *
  split at e
  · exact e
  · split at e
    · rename_i hc
      rw [if_pos ⟨hc.1, by omega⟩]
      exact e
    · cases e
  · cases e

theorem sim_slice (R : Rel P M H W) {t : TypeId} {x x' v : Value} {lo hi mx lo' hi' mx' : Option Value} (hx : VR P M x x') (hlo : OVR P M lo lo') (hhi : OVR P M hi hi') (hmx : OVR P M mx mx') (h : sliceA P t H x lo hi mx = some v) :
    VSim P M H W (Instr.sliceAt t x' lo' hi' mx') v H := by
  unfold sliceA at h
  split at h
  · rename_i s hu
    cases hx.string_inv
    split at h
    · cases h
    · rename_i hm
      have hm0 : mx = none := by cases mx <;> simp at hm ⊢
      subst hm0
      have hm0' : mx' = none := by cases mx' <;> simp [OVR] at hmx ⊢
      subst hm0'
      cases eh : bnd hi s.size s.size with
      | none => simp [eh] at h
      | some h1 =>
        simp only [eh, Option.bind_some] at h
        cases el : bnd lo 0 h1 with
        | none => simp [el] at h
        | some l =>
          simp only [el, Option.map_some] at h
          cases h
          have hb := run_bounds (P := P) (M := M) (isS := false) (n := s.size) (c := s.size) hlo hhi (mx := none) (mx' := none) trivial rfl eh el (by simp) W
          refine VSim.same R (v' := .string (s.extract l h1)) ?_ (.base rfl)
          simp [Instr.sliceAt, Instr.slice, run_under hu, hb]
  · rename_i e n c hu
    cases hx.sl_nil_inv
    split at h
    · cases h
    · rename_i hc
      have h1 : ¬ (mx.isSome = true ∧ hi.isNone = true) := fun e => hc (.inl e)
      have h2 : n = 0 := by by_cases h : n = 0; exact h; exact absurd (.inr (.inl h)) hc
      have h3 : c = 0 := by by_cases h : c = 0; exact h; exact absurd (.inr (.inr h)) hc
      subst h2; subst h3
      cases hk : sz P e with
      | none => simp [hk] at h
      | some k =>
      simp only [hk, Option.bind_some] at h
      cases em : bnd mx 0 0 with
      | none => simp [em] at h
      | some m =>
        simp only [em, Option.bind_some] at h
        cases eh : bnd hi 0 m with
        | none => simp [eh] at h
        | some h4 =>
          simp only [eh, Option.bind_some] at h
          cases el : bnd lo 0 h4 with
          | none => simp [el] at h
          | some l =>
            simp only [el, Option.map_some] at h
            cases h
            have hb := run_bounds (P := P) (M := M) (isS := true) (n := 0) (c := 0) hlo hhi hmx em eh el (by
              intro hm; cases hi with
              | none => exact absurd ⟨hm, rfl⟩ h1
              | some _ => rfl) W
            have g0 := bnd_le em (Nat.le_refl _)
            have g1 := bnd_le eh (Nat.zero_le _)
            have g2 := bnd_le el (Nat.zero_le _)
            obtain rfl : m = 0 := by omega
            obtain rfl : h4 = 0 := by omega
            obtain rfl : l = 0 := by omega
            refine VSim.same R (v' := .slice none 0 0) ?_ (.base rfl)
            simp [Instr.sliceAt, Instr.slice, run_under hu, hb, run_size hk]
  · rename_i e b o n c hu
    split at h
    · rename_i cs e' rw_ hH
      split at h
      · cases h
      · rename_i hc
        have he : e' = e := by by_cases h : e' = e; exact h; exact absurd (.inl h) hc
        subst he
        have h1 : mx.isSome = true → hi.isSome = true := by
          intro hm; cases hi with
          | none => exact absurd (.inr ⟨hm, rfl⟩) hc
          | some _ => rfl
        cases hk : sz P e' with
        | none => simp [hk] at h
        | some k =>
          simp only [hk, Option.bind_some] at h
          split at h
          · rename_i hcU
            subst hcU
            obtain ⟨τ, hτ, hx'⟩ := hx.slU_inv
            have hτt : τ.t = e' := by
              obtain ⟨blk, g1, g2⟩ := R.blk b τ hτ
              rw [hH] at g1; cases g1
              obtain ⟨_, _, _, _, _, g, _⟩ := g2
              exact g
            split at h
            · cases em : bnd mx n n with
              | none => simp [em] at h
              | some m =>
                simp only [em, Option.bind_some] at h
                cases eh : bnd hi n m with
                | none => simp [eh] at h
                | some h4 =>
                  simp only [eh, Option.bind_some] at h
                  cases el : bnd lo 0 h4 with
                  | none => simp [el] at h
                  | some l =>
                    simp only [el, Option.map_some] at h
                    cases h
                    rename_i hms
                    have g0 := bnd_le em (Nat.le_refl _)
                    rcases hx' with ⟨ch, rfl, a1, a2, a3⟩ | ⟨o', rfl, rfl⟩
                    · have em' : bnd mx ch ch = some m := by
                        cases mx with
                        | none => simp at hms
                        | some u => 
                          have e2 : bnd (some u) ch ch = bnd (some u) n ch := by cases u <;> rfl
                          rw [e2]
                          exact OVR.mono_y em a1
                      have hb := run_bounds (P := P) (M := M) (isS := true) (n := n) (c := ch) hlo hhi hmx em' eh el h1 W
                      refine VSim.same R (v' := .slice (some ⟨τ.b, τ.d + (if m = l then o else o + l * k), none⟩) (h4 - l) (m - l)) ?_ (.sl hτ (by unfold capU; unfold maxLen at a2; omega))
                      simp only [Instr.sliceAt, Sem.run_bind, run_under hu, Result.andThen_ok, Instr.slice, hb, run_size hk, Sem.run_pure]
                      split <;> simp [Addr.add_lit, Nat.add_assoc]
                    · obtain rfl : m = 0 := by omega
                      have g1 := bnd_le eh (Nat.zero_le _)
                      have g2 := bnd_le el (Nat.zero_le _)
                      obtain rfl : h4 = 0 := by omega
                      obtain rfl : l = 0 := by omega
                      have hb := run_bounds (P := P) (M := M) (isS := true) (n := 0) (c := 0) hlo hhi hmx em eh el h1 W
                      refine VSim.same R (v' := .slice (some ⟨τ.b, o', none⟩) 0 0) ?_ (.sl0 hτ)
                      simp [Instr.sliceAt, Instr.slice, run_under hu, hb, run_size hk]
            · rename_i hms
              have hm0 : mx = none := by cases mx <;> simp at hms ⊢
              subst hm0
              have hm0' : mx' = none := by cases mx' <;> simp [OVR] at hmx ⊢
              subst hm0'
              cases eh : bnd hi n n with
              | none => simp [eh] at h
              | some h4 =>
                simp only [eh, Option.bind_some] at h
                cases el : bnd lo 0 h4 with
                | none => simp [el] at h
                | some l =>
                  simp only [el, Option.map_some] at h
                  cases h
                  have g1 := bnd_le eh (Nat.le_refl _)
                  have g2 := bnd_le el (Nat.zero_le _)
                  rcases hx' with ⟨ch, rfl, a1, a2, a3⟩ | ⟨o', rfl, rfl⟩
                  · have eh' : bnd hi n ch = some h4 := OVR.mono_y eh a1
                    have hb := run_bounds (P := P) (M := M) (isS := true) (n := n) (c := ch) (m := ch) hlo hhi (mx := none) (mx' := none) trivial rfl eh' el h1 W
                    by_cases hcl : ch = l
                    · subst hcl
                      obtain rfl : h4 = ch := by omega
                      refine VSim.same R (v' := .slice (some ⟨τ.b, τ.d + o, none⟩) 0 0) ?_ (by rw [Nat.sub_self]; exact .slE hτ)
                      simp only [Instr.sliceAt, Sem.run_bind, run_under hu, Result.andThen_ok, Instr.slice, hb, run_size hk, Sem.run_pure]
                      simp
                    · refine VSim.same R (v' := .slice (some ⟨τ.b, τ.d + (o + l * k), none⟩) (h4 - l) (ch - l)) ?_ (.slU hτ (by omega) (by omega) ?_)
                      · simp only [Instr.sliceAt, Sem.run_bind, run_under hu, Result.andThen_ok, Instr.slice, hb, run_size hk, Sem.run_pure]
                        simp [hcl, Addr.add_lit, Nat.add_assoc]
                      · have hsd : szD P τ.t = k := by rw [hτt]; unfold sz at hk; unfold szD; rw [hk]; rfl
                        rw [hsd] at a3 ⊢
                        have : l * k + (ch - l) * k = ch * k := by rw [← Nat.add_mul]; congr 1; omega
                        omega
                  · obtain rfl : h4 = 0 := by omega
                    obtain rfl : l = 0 := by omega
                    have hb := run_bounds (P := P) (M := M) (isS := true) (n := 0) (c := 0) (m := 0) hlo hhi (mx := none) (mx' := none) trivial rfl eh el h1 W
                    refine VSim.same R (v' := .slice (some ⟨τ.b, o', none⟩) 0 0) ?_ (.slE hτ)
                    simp [Instr.sliceAt, Instr.slice, run_under hu, hb, run_size hk]
          · rename_i hcU
            split at h
            · rename_i hlt
              obtain ⟨τ, o', hτ, rfl, ho⟩ := hx.sl_inv hcU
              cases em : bnd mx c c with
              | none => simp [em] at h
              | some m =>
                simp only [em, Option.bind_some] at h
                cases eh : bnd hi n m with
                | none => simp [eh] at h
                | some h4 =>
                  simp only [eh, Option.bind_some] at h
                  cases el : bnd lo 0 h4 with
                  | none => simp [el] at h
                  | some l =>
                    simp only [el, Option.map_some] at h
                    cases h
                    have g0 := bnd_le em (Nat.le_refl _)
                    have hb := run_bounds (P := P) (M := M) (isS := true) (n := n) (c := c) hlo hhi hmx em eh el h1 W
                    rcases ho with rfl | ⟨rfl, rfl⟩
                    · refine VSim.same R (v' := .slice (some ⟨τ.b, τ.d + (if m = l then o else o + l * k), none⟩) (h4 - l) (m - l)) ?_ (.sl hτ (by omega))
                      simp only [Instr.sliceAt, Sem.run_bind, run_under hu, Result.andThen_ok, Instr.slice, hb, run_size hk, Sem.run_pure]
                      split <;> simp [Addr.add_lit, Nat.add_assoc]
                    · obtain rfl : m = 0 := by omega
                      have g1 := bnd_le eh (Nat.zero_le _)
                      have g2 := bnd_le el (Nat.zero_le _)
                      obtain rfl : h4 = 0 := by omega
                      obtain rfl : l = 0 := by omega
                      refine VSim.same R (v' := .slice (some ⟨τ.b, o', none⟩) 0 0) ?_ (.sl0 hτ)
                      simp [Instr.sliceAt, Instr.slice, run_under hu, hb, run_size hk]
            · cases h
    · cases h
  · cases h

theorem sim_cap (R : Rel P M H W) {t ty : TypeId} {x x' v : Value} (hx : VR P M x x') (h : capA P t x = some v) : VSim P M H W (Builtin.cap_ #[t] ty #[x']) v H := by
  unfold capA at h
  split at h
  · rename_i e a n c hu
    split at h
    · cases h
    · rename_i hc
      cases h
      have : ∃ a' n', x' = .slice a' n' c := by
        cases hx with
        | base h => exact ⟨_, _, rfl⟩
        | sl h _ => exact ⟨_, _, rfl⟩
        | slU h _ _ _ => exact absurd rfl hc
        | slE h => exact absurd rfl hc
        | sl0 h => exact ⟨_, _, rfl⟩
      obtain ⟨a', n', rfl⟩ := this
      exact VSim.same R (by simp [Builtin.cap_, run_under hu]; rfl) (.base rfl)
  · cases h

theorem sim_len (R : Rel P M H W) {t ty : TypeId} {x x' v : Value} (hx : VR P M x x') (h : lenA P H t x = some v) : VSim P M H W (Builtin.len_ #[t] ty #[x']) v H := by
  unfold lenA at h
  split at h
  · rename_i s hu
    cases hx.string_inv
    cases h
    exact VSim.same R (by simp [Builtin.len_, run_under hu]; rfl) (.base rfl)
  · rename_i e a n c hu
    cases h
    have : ∃ a' c', x' = .slice a' n c' := by
      cases hx with
      | base h => exact ⟨_, _, rfl⟩
      | sl h _ => exact ⟨_, _, rfl⟩
      | slU h _ _ _ => exact ⟨_, _, rfl⟩
      | slE h => exact ⟨_, _, rfl⟩
      | sl0 h => exact ⟨_, _, rfl⟩
    obtain ⟨a', c', rfl⟩ := this
    exact VSim.same R (by simp [Builtin.len_, run_under hu]; rfl) (.base rfl)
  · rename_i k e hu
    cases hx.map_nil_inv
    cases h
    exact VSim.same R (by simp [Builtin.len_, run_under hu]; rfl) (.base rfl)
  · rename_i k e r hu
    obtain ⟨τ, hτ, rfl⟩ := hx.map_inv
    split at h
    · rename_i kt es hb
      cases h
      obtain ⟨blk, h1, h2⟩ := R.blk r τ hτ
      rw [hb] at h1; cases h1
      obtain ⟨es', g1, g2, _⟩ := h2
      refine VSim.same R (v' := .int .i64 es.length) ?_ (.base rfl)
      have : (getObj τ.b).run P W = .ok (.map es' es.length) W := by simp [getObj, Sem.run, g1]
      simp [Builtin.len_, run_under hu, this, goInt, g2.1]
    · cases h
  · cases h

theorem sim_min (R : Rel P M H W) {l l' : List Value} {v : Value} (hl : LR P M l l') (h : minA l = some v) (ts : Array TypeId) (t : TypeId) : VSim P M H W (Builtin.min_ ts t l'.toArray) v H := by
  unfold minA at h
  split at h
  · cases hl with | cons h1 r => cases r with | cons h2 r => cases r with | nil =>
    cases h
    cases h1.int_inv; cases h2.int_inv
    exact VSim.same R (by simp [Builtin.min_, Builtin.min2]) (.base rfl)
  · cases h
theorem sim_max (R : Rel P M H W) {l l' : List Value} {v : Value} (hl : LR P M l l') (h : maxA l = some v) (ts : Array TypeId) (t : TypeId) : VSim P M H W (Builtin.max_ ts t l'.toArray) v H := by
  unfold maxA at h
  split at h
  · cases hl with | cons h1 r => cases r with | cons h2 r => cases r with | nil =>
    cases h
    cases h1.int_inv; cases h2.int_inv
    exact VSim.same R (by simp [Builtin.max_, Builtin.max2]) (.base rfl)
  · cases h

theorem sim_makeMap (R : Rel P M H W) {t : TypeId} {v : Value} (h : makeMapA P t H = some (v, H')) : VSim P M H W (Instr.makeMap t none) v H' := by
  unfold makeMapA at h
  split at h
  · rename_i kt e hu
    cases h
    refine ⟨W.alloc (.map #[] 0), .map (some W.heap.size), ins M H.size ⟨W.heap.size, 0, 0, 0⟩, ?_, ?_, ?_⟩
    · simp [Instr.makeMap]
    · exact @VR.map P (ins M H.size ⟨W.heap.size, 0, 0, 0⟩) H.size _ (ins_same _ _ _)
    · refine step_push (W' := W.alloc (.map #[] 0)) (blk := .map kt []) (τ := ⟨W.heap.size, 0, 0, 0⟩) R ⟨rfl, rfl, rfl, Nat.le_refl _⟩ (.map #[] 0) rfl rfl rfl ⟨#[], ?_, ⟨rfl, fun i k v h => by simp at h⟩, by simp⟩
      show (W.heap.push _)[W.heap.size]? = _
      simp
  · cases h

theorem sim_makeSlice (R : Rel P M H W) {t : TypeId} {l l' c c' v : Value} (hl : VR P M l l') (hc : VR P M c c') (h : makeSliceA P t H l c = some (v, H')) : VSim P M H W (Instr.makeSlice t l' c') v H' := by
  unfold makeSliceA at h
  split at h
  · rename_i kl l kc c
    cases hl.int_inv; cases hc.int_inv
    split at h
    · rename_i e hu
      split at h
      · rename_i i z hi hz
        obtain ⟨i', zv, hi', hzv, rfl, hb⟩ := zeroA_spec hz
        rw [hi] at hi'; cases hi'
        split at h
        · rename_i hcond
          obtain ⟨h0, h1, h2, h3, h4⟩ := hcond
          simp only [Option.some.injEq, Prod.mk.injEq] at h
          obtain ⟨rfl, rfl⟩ := h
          have hrun := run_make (P := P) W t e i zv hu hi hzv kl kc l c h0 h1 (by rw [Int.mul_comm]; omega) h3
          have hmade : madeCells zv.cells (c.toNat * i.size) = zeros zv.cells (c.toNat * i.size) := rfl
          rw [hmade] at hrun
          have hzb : (zeros zv.cells (c.toNat * i.size)).toList.all isBase = true := by
            by_cases h0 : 0 < zv.cells.size
            · exact zeros_base hb h0 _
            · rw [List.all_eq_true]
              intro v hv
              rw [Array.mem_toList_iff] at hv
              simp only [zeros, Array.mem_map] at hv
              obtain ⟨i, _, rfl⟩ := hv
              have : zv.cells = #[] := Array.eq_empty_of_size_eq_zero (by omega)
              rw [this]; rfl
          refine ⟨_, .slice (some ⟨W.heap.size, 0, none⟩) l.toNat c.toNat, _, hrun, ?_, sim_new R e (CR.base hzb)⟩
          have := @VR.sl P (ins M H.size ⟨W.heap.size, 0, (zeros zv.cells (c.toNat * i.size)).size, e⟩) H.size 0 l.toNat c.toNat _ (ins_same _ _ _) (by unfold capU; omega)
          simpa using this
        · cases h
      · cases h
    · cases h
  · cases h

end Go.AH

/-
  AH: append, clear, copy.
-/
namespace Go.AH
open Go
variable {P : Program} {M : Mp} {H H' : Heap} {W : World}

theorem sim_row (R : Rel P M H W) {k : Nat} {x x' : Value} {m : Nat} {new : Array Value} (hx : VR P M x x') (h : rowA H k x = some (m, new)) :
    ∃ a' c' new', x' = .slice a' m c' ∧ AR P M new new' ∧ new.size = m * k ∧ ∀ W2 : World, W2.heap = W.heap → (Builtin.firstCells k m x').run P W2 = .ok new' W2 := by
  unfold rowA at h
  split at h
  · rename_i n c
    cases hx.sl_nil_inv
    split at h
    · cases h
      rename_i hn
      subst hn
      exact ⟨none, c, #[], rfl, ⟨rfl, fun i h => by simp at h⟩, by simp, fun W2 _ => by simp [Builtin.firstCells]⟩
    · cases h
  · rename_i b o n c
    split at h
    · rename_i cs t rw_ hb
      split at h
      · rename_i hle
        cases h
        obtain ⟨τ, o', c', hτ, rfl, ho⟩ := hx.slice_inv
        obtain ⟨blk, g1, g2⟩ := R.blk b τ hτ
        rw [hb] at g1; cases g1
        obtain ⟨cs', t', fz, hw, _, _, _, hc, _⟩ := g2
        by_cases hm : m * k = 0
        · refine ⟨some ⟨τ.b, o', none⟩, c', #[], rfl, ⟨by simp; omega, fun i h => by simp at h; omega⟩, by simp; omega, fun W2 _ => ?_⟩
          simp [Builtin.firstCells, hm, loadCells, loadCellsFrom]
        · rcases ho with rfl | rfl
          · obtain ⟨e1, e2⟩ := hc.extract hle
            refine ⟨_, c', cs'.extract (τ.d + o) (τ.d + o + m * k), rfl, e2, by simp; omega, fun W2 hW2 => ?_⟩
            have : W2.heap[τ.b]? = some (.cells cs' t' fz) := by rw [hW2]; exact hw
            simp [Builtin.firstCells, run_loadRow this e1]
          · simp at hm
      · cases h
    · cases h
  · cases h

section
variable {t0 t1 ty e e1 : TypeId} {i : TypeInfo} {z : Value}

theorem run_room (ht0 : P.underlying t0 = some (.slice e)) (ht1 : P.underlying t1 = some (.slice e1)) (hi : P.info? e = some i) {base : Option Addr} {n c m : Nat} {a' : Option Addr} {c' : Nat} {new : Array Value}
    (hf : (Builtin.firstCells i.size m (.slice a' m c')).run P W = .ok new W) (hroom : n + m ≤ c) :
    (Builtin.append_ #[t0, t1] ty #[.slice base n c, .slice a' m c']).run P W =
      ((match base with | some a => storeCells (a.add (n * i.size)) new.toList | none => pure ()).run P W).andThen fun _ w => .ok (.slice base (n + m) c) w := by
  have hk : sz P e = some i.size := by simp [sz, hi]
  simp only [Builtin.append_, List.getElem?_toArray, List.getElem?_cons_zero, List.getElem?_cons_succ, Sem.run_bind, run_under ht0, run_under ht1, run_size hk, Result.andThen_ok, Sem.run_pure, Bool.false_eq_true, if_false, Builtin.lenOf, if_pos hroom, hf, Bool.not_false, if_true]
  cases base <;> simp

theorem run_grow (ht0 : P.underlying t0 = some (.slice e)) (ht1 : P.underlying t1 = some (.slice e1)) (hi : P.info? e = some i) (hz : i.zero = some z) {base : Option Addr} {n c m : Nat} {a' : Option Addr} {c' : Nat} {old new : Array Value}
    (hfo : ∀ W2 : World, W2.heap = W.heap → (Builtin.firstCells i.size n (.slice base n c)).run P W2 = .ok old W2) (hf : ∀ W2 : World, W2.heap = W.heap → (Builtin.firstCells i.size m (.slice a' m c')).run P W2 = .ok new W2)
    (hg : c < n + m) (h63 : n + m ≤ 9223372036854775807) (hb : (n + m) * i.bytes ≤ 140737488355328) :
    (Builtin.append_ #[t0, t1] ty #[.slice base n c, .slice a' m c']).run P W =
      .ok (.slice (some ⟨W.heap.size, 0, none⟩) (n + m) (grownCap W (n + m) c e)) (W.drew.alloc (.cells (old ++ new ++ Builtin.zeroCells z.cells (grownCap W (n + m) c e - (n + m))) e)) := by
  have hk : sz P e = some i.size := by simp [sz, hi]
  have hn : ¬ (n + m ≤ c) := by omega
  have h63' : ¬ (9223372036854775807 < ((n : Int) + (m : Int))) := by omega
  have h48' : ¬ (281474976710656 < Builtin.nextslicecap (n + m) c * i.bytes) := by have := growslice_fits hg hb; omega
  have hfo' := hfo W.drew rfl
  have hf' := hf W.drew rfl
  simp [Builtin.append_, run_under ht0, run_under ht1, Go.sizeOf, typeInfo, zeroValue, hi, hz, Builtin.lenOf, hn, h63', h48', Question.forced, newRow, grownCap, hfo', hf']
end

theorem zeroCells_size (z : Array Value) (n : Nat) : (Builtin.zeroCells z n).size = n * z.size := by simp [Builtin.zeroCells]

theorem capOK (w : World) (need old : Nat) (e : TypeId) (h : need ≤ 9223372036854775807) : need ≤ grownCap w need old e ∧ grownCap w need old e ≤ maxLen := ⟨grownCap_ge w need old e, grownCap_le_maxLen w need old e (by unfold maxLen; omega)⟩

/-- The row that an append makes. -/
theorem sim_grown (R : Rel P M H W) {e : TypeId} {i : TypeInfo} {z : Value} (hi : P.info? e = some i) (hzs : z.cells.size = i.size) {c c' : Array Value} (hc : AR P M c c') {n old : Nat} (hn : c.size = n * i.size) (h63 : n ≤ 9223372036854775807) :
    ∃ M', VR P M' (.slice (some ⟨H.size, 0, none⟩) n capU) (.slice (some ⟨W.heap.size, 0, none⟩) n (grownCap W n old e)) ∧
      Step P M H W M' (H.push (.cells c e true)) (W.drew.alloc (.cells (c' ++ Builtin.zeroCells z.cells (grownCap W n old e - n)) e)) := by
  obtain ⟨g1, g2⟩ := capOK W n old e h63
  have hle := ins_le (M := M) (τ := ⟨W.heap.size, 0, (c' ++ Builtin.zeroCells z.cells (grownCap W n old e - n)).size, e⟩) (R.none_at (Nat.le_refl _))
  refine ⟨ins M H.size ⟨W.heap.size, 0, (c' ++ Builtin.zeroCells z.cells (grownCap W n old e - n)).size, e⟩, ?_, ?_⟩
  · have := @VR.slU P (ins M H.size ⟨W.heap.size, 0, (c' ++ Builtin.zeroCells z.cells (grownCap W n old e - n)).size, e⟩) H.size 0 n (grownCap W n old e) _ (ins_same _ _ _) g1 g2 (by
      have hs : szD P e = i.size := by simp [szD, hi]
      simp only [Array.size_append, zeroCells_size, hs, hzs, ← hc.1, hn]
      rw [← Nat.add_mul]
      simp only [Nat.zero_add]
      exact Nat.mul_le_mul_right _ (by omega))
    simpa using this
  · refine step_push (W' := W.drew.alloc (.cells (c' ++ Builtin.zeroCells z.cells (grownCap W n old e - n)) e)) (blk := .cells c e true) (τ := ⟨W.heap.size, 0, (c' ++ Builtin.zeroCells z.cells (grownCap W n old e - n)).size, e⟩) R ⟨rfl, rfl, rfl, Nat.le_succ _⟩ _ rfl rfl rfl ⟨_, _, (0, 0), ?_, fun _ => rfl, rfl, rfl, (CR.of_AR_append hc _).mono hle, fun _ i _ => by simp⟩
    show (W.heap.push _)[W.heap.size]? = _
    simp

theorem AR.append {x x' y y' : Array Value} (h : AR P M x x') (g : AR P M y y') : AR P M (x ++ y) (x' ++ y') := by
  have := h.list.append g.list
  rw [← Array.toList_append, ← Array.toList_append] at this
  exact this.array

theorem LR.one {l l' : List Value} (h : LR P M l l') (h1 : l.all Value.oneCell' = true) : l'.all Value.oneCell' = true := by
  induction h with
  | nil => rfl
  | cons h r ih =>
    simp only [List.all_cons, Bool.and_eq_true] at h1 ⊢
    exact ⟨h.oneCell h1.1, ih h1.2⟩

theorem wr_get_lt : ∀ (vs : List Value) (c : Array Value) (o i : Nat), i < o → (wr c o vs)[i]? = c[i]?
  | [], _, _, _, _ => rfl
  | v :: r, c, o, i, h => by
    simp only [wr]
    rw [wr_get_lt r _ _ _ (by omega), Array.getElem?_setIfInBounds, if_neg (by omega)]
theorem wr_get_ge : ∀ (vs : List Value) (c : Array Value) (o i : Nat), o + vs.length ≤ i → (wr c o vs)[i]? = c[i]?
  | [], _, _, _, _ => rfl
  | v :: r, c, o, i, h => by
    simp only [List.length_cons] at h
    simp only [wr]
    rw [wr_get_ge r _ _ _ (by omega), Array.getElem?_setIfInBounds, if_neg (by omega)]
theorem wr_get_in : ∀ (vs : List Value) (c : Array Value) (o j : Nat), j < vs.length → o + j < c.size → (wr c o vs)[o + j]? = vs[j]?
  | [], _, _, _, h, _ => by simp at h
  | v :: r, c, o, 0, _, h2 => by
    simp only [wr]
    rw [wr_get_lt r _ _ _ (by omega), Array.getElem?_setIfInBounds, if_pos (by omega), if_pos (by omega)]
    rfl
  | v :: r, c, o, j + 1, h, h2 => by
    simp only [wr]
    have := wr_get_in r (c.setIfInBounds o v) (o + 1) j (by simpa using h) (by simp; omega)
    rw [show o + (j + 1) = o + 1 + j from by omega, this]
    rfl

theorem rowA_size {k : Nat} {x : Value} {m : Nat} {new : Array Value} (h : rowA H k x = some (m, new)) : new.size = m * k := by
  unfold rowA at h
  split at h
  · split at h
    · cases h; simp
    · cases h
  · split at h
    · split at h
      · cases h; simp; omega
      · cases h
    · cases h
  · cases h

theorem run_growI {t0 t1 ty e : TypeId} {i : TypeInfo} {z : Value} {k1 k2 : IntKind} {m : Int} (ht0 : P.underlying t0 = some (.slice e)) (ht1 : P.underlying t1 = some (.int k1)) (hi : P.info? e = some i) (hz : i.zero = some z)
    (h0 : 0 ≤ m) (hp : m.toNat ≠ 0) (h63 : m ≤ 9223372036854775807) (hs : 0 < i.size) (hb : m.toNat * i.bytes ≤ 140737488355328) :
    (Builtin.append_ #[t0, t1] ty #[.slice none 0 0, .int k2 m]).run P W =
      .ok (.slice (some ⟨W.heap.size, 0, none⟩) m.toNat (grownCap W m.toNat 0 e)) (W.drew.alloc (.cells (Builtin.zeroCells z.cells m.toNat ++ Builtin.zeroCells z.cells (grownCap W m.toNat 0 e - m.toNat)) e)) := by
  obtain ⟨n, rfl⟩ : ∃ n : Nat, m = n := ⟨m.toNat, by omega⟩
  simp only [Int.toNat_natCast] at hp hb ⊢
  have hw : IntKind.i64.wrap (n : Int) = n := by rw [IntKind.wrap_i64]; omega
  have hmul : ¬ (n * i.size = 0) := by have := Nat.mul_pos (Nat.pos_of_ne_zero hp) hs; omega
  have hneg : ¬ ((n : Int) < 0) := by omega
  have hb48 : ¬ (281474976710656 < (n : Int) * (i.bytes : Int)) := by
    have : ((n * i.bytes : Nat) : Int) ≤ ((140737488355328 : Nat) : Int) := Int.ofNat_le.2 hb
    rw [Int.natCast_mul] at this; omega
  have h63' : ¬ (9223372036854775807 < (n : Int)) := by omega
  have h48' : ¬ (281474976710656 < Builtin.nextslicecap n 0 * i.bytes) := by
    have := growslice_fits (show 0 < n by omega) hb; omega
  simp [Builtin.append_, run_under ht0, run_under ht1, Go.sizeOf, typeInfo, zeroValue, hi, hz, asInt, asIntOf, hw, hneg, hb48, hmul, hp, h63', h48', Question.forced, newRow, grownCap, Builtin.firstCells]

theorem sim_appendI (R : Rel P M H W) {t0 t1 ty : TypeId} {s s' x x' v : Value} (hs : VR P M s s') (hx : VR P M x x') (h : appendIA P H t0 t1 s x = some (v, H')) :
    VSim P M H W (Builtin.append_ #[t0, t1] ty #[s', x']) v H' := by
  unfold appendIA at h
  split at h
  · rename_i e k1 k2 m ht0 ht1
    cases hs.sl_nil_inv
    cases hx.int_inv
    split at h
    · rename_i i z hi hz
      obtain ⟨i', zv, hi', hzv, rfl, hzb⟩ := zeroA_spec hz
      rw [hi] at hi'; cases hi'
      split at h
      · rename_i hc
        obtain ⟨hpos, hzs, h0, h63, hb⟩ := hc
        split at h
        · rename_i hm
          cases h
          have : m = 0 := by omega
          subst this
          refine VSim.same R (v' := .slice none 0 0) ?_ (.base rfl)
          have hw : IntKind.i64.wrap 0 = 0 := by rw [IntKind.wrap_i64]; omega
          simp [Builtin.append_, run_under ht0, run_under ht1, Go.sizeOf, typeInfo, hi, asInt, asIntOf, hw]
        · rename_i hm
          simp only [Option.some.injEq, Prod.mk.injEq] at h
          obtain ⟨rfl, rfl⟩ := h
          have hrun := run_growI (W := W) (ty := ty) (k2 := k2) ht0 ht1 hi hzv h0 hm h63 hpos hb
          have hz2 : Builtin.zeroCells zv.cells m.toNat = zeros zv.cells (m.toNat * i.size) := by rw [← hzs]; rfl
          rw [hz2] at hrun
          have hsz : (zeros zv.cells (m.toNat * i.size)).size = m.toNat * i.size := by simp [zeros]
          have har : AR P M (zeros zv.cells (m.toNat * i.size)) (zeros zv.cells (m.toNat * i.size)) := LR.array (LR.refl_base (zeros_base hzb (by omega) _))
          obtain ⟨M', r, st⟩ := sim_grown (old := 0) R hi hzs har hsz (by omega)
          exact ⟨_, _, M', hrun, r, st⟩
      · cases h
    · cases h
  · cases h

theorem sim_append (R : Rel P M H W) {t0 t1 ty : TypeId} {s s' x x' v : Value} (hs : VR P M s s') (hx : VR P M x x') (h : appendA P H t0 t1 s x = some (v, H')) :
    VSim P M H W (Builtin.append_ #[t0, t1] ty #[s', x']) v H' := by
  unfold appendA at h
  split at h
  · rename_i e e1 ht0 ht1
    split at h
    · rename_i i z hi hz
      obtain ⟨i', zv, hi', hzv, rfl, hzb⟩ := zeroA_spec hz
      rw [hi] at hi'; cases hi'
      split at h
      · rename_i hcond
        obtain ⟨hpos, hzs, rfl⟩ := hcond
        cases hr : rowA H i.size x with
        | none => simp [hr] at h
        | some p =>
          obtain ⟨m, new⟩ := p
          simp only [hr, Option.bind_some] at h
          have hnsz := rowA_size hr
          obtain ⟨a', c', new', rfl, hnew, _, hfn⟩ := sim_row R hx hr
          split at h
          · rename_i h1
            split at h
            · -- nil
              cases hs.sl_nil_inv
              have hfo : ∀ W2 : World, W2.heap = W.heap → (Builtin.firstCells i.size 0 (.slice none 0 0)).run P W2 = .ok #[] W2 := fun W2 _ => by simp [Builtin.firstCells]
              split at h
              · rename_i hm
                cases h
                subst hm
                refine VSim.same R (v' := .slice none 0 0) ?_ (.base rfl)
                rw [run_room ht0 ht1 hi (hfn W rfl) (by omega)]
                rfl
              · rename_i hm
                split at h
                · rename_i hb
                  simp only [Option.some.injEq, Prod.mk.injEq] at h
                  obtain ⟨rfl, rfl⟩ := h
                  have hrun := run_grow (ty := ty) ht0 ht1 hi hzv hfo hfn (by omega) (by omega) (by rw [Nat.zero_add]; exact hb.1)
                  rw [Nat.zero_add, Array.empty_append] at hrun
                  obtain ⟨M', r, st⟩ := sim_grown (old := 0) R hi hzs hnew hnsz hb.2
                  exact ⟨_, _, M', hrun, r, st⟩
                · cases h
            · rename_i b o n c
              split at h
              · rename_i cs e' rw_ hb
                split at h
                · rename_i hc
                  obtain ⟨rfl, hle, hbytes, h63⟩ := hc
                  -- the old cells
                  have hold : ∀ (a : Option Addr) (c2 : Nat), VR P M (.slice (some ⟨b, o, none⟩) n c) (.slice a n c2) → ∃ old', AR P M (cs.extract o (o + n * i.size)) old' ∧ ∀ W2 : World, W2.heap = W.heap → (Builtin.firstCells i.size n (.slice a n c2)).run P W2 = .ok old' W2 := by
                    intro a c2 hv
                    have hrow : rowA H i.size (.slice (some ⟨b, o, none⟩) n c) = some (n, cs.extract o (o + n * i.size)) := by simp [rowA, hb, hle]
                    obtain ⟨a9, c9, old', e9, h9, _, hf9⟩ := sim_row R hv hrow
                    exact ⟨old', h9, hf9⟩
                  have hosz : (cs.extract o (o + n * i.size)).size = n * i.size := by simp; omega
                  have hsz : (cs.extract o (o + n * i.size) ++ new).size = (n + m) * i.size := by rw [Array.size_append, hosz, hnsz, Nat.add_mul]
                  split at h
                  · -- the capacity isn't known
                    rename_i hcU
                    subst hcU
                    split at h
                    · rename_i hrw
                      subst hrw
                      simp only [Option.some.injEq, Prod.mk.injEq] at h
                      obtain ⟨rfl, rfl⟩ := h
                      obtain ⟨τ, hτ, hs'⟩ := hs.slU_inv
                      have hlt := R.lt' hτ
                      have hnro : ¬ Ro H b := by rintro ⟨c1, t1, h2⟩; rw [hb] at h2; cases h2
                      have hnd : ¬ Dead H b := by intro h2; unfold Dead at h2; rw [hb] at h2; cases h2
                      have st1 : Step P M H W M (H.setIfInBounds b .dead) W := step_set R (Same.refl W) hτ hnro hnd rfl rfl (fun _ _ => rfl) trivial
                      have hsz1 : (H.setIfInBounds b .dead).size = H.size := by simp
                      obtain ⟨blk, g1, g2⟩ := R.blk b τ hτ
                      rw [hb] at g1; cases g1
                      obtain ⟨cs', t', fz, hw, ht0', htt, hcn, hcr, hfz⟩ := g2
                      have ht1' := (ht0' rfl).symm; subst ht1'
                      have grow : ∀ (a : Option Addr) (c2 : Nat), s' = .slice a n c2 → c2 < n + m → VSim P M H W (Builtin.append_ #[t0, t1] ty #[s', .slice a' m c']) (.slice (some ⟨H.size, 0, none⟩) (n + m) capU) ((H.setIfInBounds b .dead).push (.cells (cs.extract o (o + n * i.size) ++ new) e' true)) := by
                        rintro a c2 rfl hlt2
                        obtain ⟨old', h9, hf9⟩ := hold a c2 hs
                        have hrun := run_grow (ty := ty) ht0 ht1 hi hzv hf9 hfn hlt2 h63 hbytes
                        obtain ⟨M', r, st⟩ := sim_grown (old := c2) st1.rel hi hzs (h9.append hnew) hsz h63
                        rw [hsz1] at r
                        exact ⟨_, _, M', hrun, r, Step.trans R st1 st⟩
                      rcases hs' with ⟨ch, rfl, a1, a2, a3⟩ | ⟨o', rfl, rfl⟩
                      · by_cases hroom : n + m ≤ ch
                        · -- in place
                          have hsd : szD P τ.t = i.size := by rw [htt]; simp [szD, hi]
                          rw [hsd] at a3
                          have hmul : (n + m) * i.size ≤ ch * i.size := Nat.mul_le_mul_right _ hroom
                          rw [Nat.add_mul] at hmul
                          have h1' := LR.one hnew.list h1
                          have hlen : new'.toList.length = m * i.size := by rw [Array.length_toList, ← hnew.1, hnsz]
                          have hst := run_stores (P := P) (o := τ.d + o + n * i.size) new'.toList 0 cs' W hw (fun i hi => hfz rfl i (by omega)) h1' (by rw [hlen, hcn]; omega)
                          rw [Nat.add_zero] at hst
                          have hrun := run_room (ty := ty) ht0 ht1 hi (hfn W rfl) hroom (base := some ⟨τ.b, τ.d + o, none⟩)
                          simp only [Addr.add_lit, hst, Result.andThen_ok] at hrun
                          refine ⟨_, _, ins M H.size ⟨τ.b, τ.d + o, τ.n, e'⟩, hrun, ?_, ?_⟩
                          · have := @VR.slU P (ins M H.size ⟨τ.b, τ.d + o, τ.n, e'⟩) H.size 0 (n + m) ch _ (ins_same _ _ _) hroom a2 (by
                              have hs2 : szD P e' = i.size := by simp [szD, hi]
                              simp only [hs2]; omega)
                            simpa using this
                          · have hltb : τ.b < W.heap.size := R.lt b τ hτ
                            refine step_move (τ := ⟨τ.b, τ.d + o, τ.n, e'⟩) R (setBlk_same _ _ _) rfl hτ rfl hnro hnd (setBlk_size _ _ _) (fun k hk => setBlk_other _ _ _ _ hk) ⟨_, _, fz, setBlk_get _ _ _ hltb, fun _ => rfl, rfl, by rw [wr_size]; exact hcn, ?_, hfz⟩
                            · -- the cells
                              have hle2 := ins_le (M := M) (τ := ⟨τ.b, τ.d + o, τ.n, e'⟩) (R.none_at (Nat.le_refl _))
                              refine CR.mono hle2 ?_
                              have hcs1 := hcr.1
                              refine ⟨by rw [hsz, wr_size, Nat.add_mul]; simp only; omega, fun j u hu => ?_⟩
                              by_cases hj : j < n * i.size
                              · rw [Array.getElem?_append_left (by omega)] at hu
                                rw [Array.getElem?_extract] at hu
                                split at hu
                                · obtain ⟨u', e5, r5⟩ := hcr.2 _ _ hu
                                  refine ⟨u', ?_, r5⟩
                                  rw [wr_get_lt _ _ _ _ (by simp only; omega)]
                                  simpa [Nat.add_assoc] using e5
                                · cases hu
                              · rw [Array.getElem?_append_right (by omega), hosz] at hu
                                obtain ⟨u', e5, r5⟩ := hnew.get? hu
                                obtain ⟨hl5, _⟩ := Array.getElem?_eq_some_iff.1 e5
                                refine ⟨u', ?_, r5⟩
                                have := wr_get_in new'.toList cs' (τ.d + o + n * i.size) (j - n * i.size) (by simpa using hl5) (by rw [← hnew.1, hnsz] at hl5; omega)
                                rw [show τ.d + o + n * i.size + (j - n * i.size) = τ.d + o + j from by omega] at this
                                simp only
                                rw [this, Array.getElem?_toList]
                                exact e5
                        · exact grow _ _ rfl (by omega)
                      · by_cases hroom : 0 + m ≤ 0
                        · obtain rfl : m = 0 := by omega
                          have hn0 : new' = #[] := Array.eq_empty_of_size_eq_zero (by rw [← hnew.1, hnsz]; simp)
                          have hrun := run_room (ty := ty) ht0 ht1 hi (hfn W rfl) hroom (base := some ⟨τ.b, o', none⟩)
                          simp only [hn0, storeCells, Sem.run_pure, Result.andThen_ok] at hrun
                          refine ⟨W, .slice (some ⟨τ.b, o', none⟩) 0 0, ins M H.size ⟨τ.b, 0, τ.n, e'⟩, hrun, ?_, ?_⟩
                          · exact @VR.slE P (ins M H.size ⟨τ.b, 0, τ.n, e'⟩) H.size 0 o' ⟨τ.b, 0, τ.n, e'⟩ (ins_same _ _ _)
                          · refine step_move (τ := ⟨τ.b, 0, τ.n, e'⟩) R (Same.refl W) rfl hτ rfl hnro hnd rfl (fun _ _ => rfl) ⟨cs', _, fz, hw, fun _ => rfl, rfl, hcn, ?_, hfz⟩
                            · have e0 : cs.extract o (o + 0 * i.size) ++ new = #[] := Array.eq_empty_of_size_eq_zero (by rw [hsz]; simp)
                              rw [e0]
                              exact ⟨by simp, fun j u hu => by simp at hu⟩
                        · exact grow _ _ rfl (by omega)
                    · cases h
                  · rename_i hcU
                    obtain ⟨τ, o', hτ, rfl, ho⟩ := hs.sl_inv hcU
                    split at h
                    · rename_i hroom
                      split at h
                      · rename_i hm
                        cases h
                        subst hm
                        have hn0 : new'.toList = [] := by
                          have : new'.size = 0 := by rw [← hnew.1, hnsz]; simp
                          simpa using this
                        refine VSim.same R (v' := .slice (some ⟨τ.b, o', none⟩) n c) ?_ hs
                        rw [run_room ht0 ht1 hi (hfn W rfl) hroom, hn0]
                        rfl
                      · rename_i hm
                        split at h
                        · rename_i hrw
                          obtain ⟨rfl, hle2⟩ := hrw
                          simp only [Option.some.injEq, Prod.mk.injEq] at h
                          obtain ⟨rfl, rfl⟩ := h
                          rcases ho with rfl | ⟨rfl, rfl⟩
                          · have hlen : new.toList.length = m * i.size := by rw [Array.length_toList, hnsz]
                            obtain ⟨W', M', e9, st⟩ := sim_wr (o := o + n * i.size) R hb hτ hnew.list h1 (by rw [hlen]; rw [Nat.add_mul] at hle2; omega)
                            rw [← Nat.add_assoc] at e9
                            refine ⟨W', .slice (some ⟨τ.b, τ.d + o, none⟩) (n + m) c, M', ?_, .sl (st.ext _ _ hτ) hcU, st⟩
                            rw [run_room ht0 ht1 hi (hfn W rfl) hroom]
                            simp only [Addr.add_lit, e9, Result.andThen_ok]
                          · omega
                        · cases h
                    · rename_i hroom
                      simp only [Option.some.injEq, Prod.mk.injEq] at h
                      obtain ⟨rfl, rfl⟩ := h
                      obtain ⟨old', h9, hf9⟩ := hold _ _ hs
                      have hrun := run_grow (ty := ty) ht0 ht1 hi hzv hf9 hfn (by omega) h63 hbytes
                      obtain ⟨M', r, st⟩ := sim_grown (old := c) R hi hzs (h9.append hnew) hsz h63
                      exact ⟨_, _, M', hrun, r, st⟩
                · cases h
              · cases h
            · cases h
          · cases h
      · cases h
    · cases h
  · cases h

end Go.AH

/-
  AH: clear, copy, conversions, maps.
-/
namespace Go.AH
open Go
variable {P : Program} {M : Mp} {H H' : Heap} {W : World}

theorem run_getObj {b : Nat} {es : Array MapEntry} {c : Nat} (h : W.heap[b]? = some (.map es c)) : (getObj b).run P W = .ok (.map es c) W := by simp [getObj, Sem.run, h]
theorem run_setObj {b : Nat} {es : Array MapEntry} {c : Nat} (h : W.heap[b]? = some (.map es c)) (o : Obj) : (setObj b o).run P W = .ok () (setBlk W b o) := by simp [setObj, Sem.run, h, setBlk]

theorem sim_clear (R : Rel P M H W) {t ty : TypeId} {x x' : Value} (hx : VR P M x x') (h : clearA P H t x = some H') : VSim P M H W (Builtin.clear_ #[t] ty #[x']) (.tuple #[]) H' := by
  unfold clearA at h
  split at h
  · rename_i e n c hu
    cases hx.sl_nil_inv
    cases h
    exact VSim.same R (v' := undef) (by simp [Builtin.clear_, run_under hu]; rfl) VR.undef
  · rename_i e b o n c hu
    obtain ⟨τ, o', c', hτ, rfl, ho⟩ := hx.slice_inv
    split at h
    · rename_i hn
      cases h
      subst hn
      exact VSim.same R (v' := undef) (by simp [Builtin.clear_, run_under hu]; rfl) VR.undef
    · rename_i hn
      split at h
      · rename_i cs e' z hb hz
        split at h
        · rename_i hc
          obtain ⟨rfl, hk, hpos, hle, h1⟩ := hc
          cases h
          obtain ⟨i, zv, hi, hzv, rfl, hzb⟩ := zeroA_spec hz
          rcases ho with rfl | rfl
          · have hzb' := zeros_base hzb hpos (n * zv.cells.size)
            have h1' : (zeros zv.cells (n * zv.cells.size)).toList.all Value.oneCell' = true := by
              rw [List.all_eq_true]
              intro v hv
              rw [Array.mem_toList_iff] at hv
              simp only [zeros, Array.mem_map] at hv
              obtain ⟨i, _, rfl⟩ := hv
              rw [List.all_eq_true] at h1
              have hlt := Nat.mod_lt i hpos
              refine h1 _ ?_
              rw [getElem!_pos zv.cells _ hlt]
              exact Array.getElem_mem_toList hlt
            obtain ⟨W', M', e9, st⟩ := sim_wr (o := o) R hb hτ (LR.refl_base hzb') h1' (by simp [zeros]; omega)
            refine ⟨W', undef, M', ?_, VR.undef, st⟩
            have hz2 : Builtin.zeroCells zv.cells n = zeros zv.cells (n * zv.cells.size) := rfl
            simp only [Builtin.clear_, List.getElem?_toArray, List.getElem?_cons_zero, Sem.run_bind, run_under hu, Result.andThen_ok]
            obtain ⟨n, rfl⟩ : ∃ k, n = k + 1 := ⟨n - 1, by omega⟩
            simp only [run_zero hi hzv, Result.andThen_ok, hz2, e9, Sem.run_pure]
            rfl
          · exact absurd rfl hn
        · cases h
      · cases h
  · cases h

theorem sim_convert (R : Rel P M H W) {src dst : TypeId} {x x' v : Value} (hx : VR P M x x') (h : convertA P H src dst x = some (v, H')) : VSim P M H W (convert src dst x') v H' := by
  unfold convertA at h
  split at h
  · rename_i k1 k k2 n h1 h2
    cases hx.int_inv
    cases h
    exact VSim.same R (by simp [convert, run_under h1, run_under h2, Conv.intToInt]) (.base rfl)
  · rename_i s h1 h2
    cases hx.string_inv
    cases h
    exact VSim.same R (by simp [convert, run_under h1, run_under h2]) (.base rfl)
  · cases h

/-! ### maps -/
/-- The entries, and the model's, from the i-th on. -/
inductive KE (P : Program) (M : Mp) (kt : TypeId) (ks : List Sk) : List (Value × Value) → List MapEntry → Nat → Prop
  | nil (i : Nat) : KE P M kt ks [] [] i
  | cons {e : Value × Value} {e' : MapEntry} {es : List (Value × Value)} {es' : List MapEntry} {i : Nat} (hk : e'.key = e.1) (hf : FitsK P kt ks e.1) (hv : VR P M e.2 e'.val) (hb : e'.born = i) (r : KE P M kt ks es es' (i + 1)) :
      KE P M kt ks (e :: es) (e' :: es') i

variable {kt : TypeId} {ks : List Sk} {es : List (Value × Value)} {es' : List MapEntry} {i : Nat}

theorem KE.of : ∀ (es : List (Value × Value)) (es' : List MapEntry) (i : Nat), es'.length = es.length → (∀ j (k v : Value), es[j]? = some (k, v) → ∃ e : MapEntry, es'[j]? = some e ∧ e.key = k ∧ VR P M v e.val ∧ e.born = i + j) → (∀ e ∈ es, FitsK P kt ks e.1) → KE P M kt ks es es' i
  | [], [], i, _, _, _ => .nil i
  | [], _ :: _, _, h, _, _ => by simp at h
  | _ :: _, [], _, h, _, _ => by simp at h
  | (k, v) :: es, e' :: es', i, hl, h, hf => by
    obtain ⟨e, e1, e2, e3, e4⟩ := h 0 k v rfl
    simp only [List.getElem?_cons_zero, Option.some.injEq] at e1
    subst e1
    refine .cons e2 (hf _ (by simp)) e3 (by simpa using e4) (KE.of es es' (i + 1) (by simpa using hl) (fun j k v hj => ?_) (fun e he => hf e (by simp [he])))
    obtain ⟨e, a1, a2, a3, a4⟩ := h (j + 1) k v (by simpa using hj)
    exact ⟨e, by simpa using a1, a2, a3, by omega⟩

theorem KE.length (h : KE P M kt ks es es' i) : es'.length = es.length := by
  induction h with
  | nil => rfl
  | cons _ _ _ _ _ ih => simp [ih]

theorem KE.back (h : KE P M kt ks es es' i) : (∀ j (k v : Value), es[j]? = some (k, v) → ∃ e : MapEntry, es'[j]? = some e ∧ e.key = k ∧ VR P M v e.val ∧ e.born = i + j) ∧ (∀ e ∈ es, FitsK P kt ks e.1) := by
  induction h with
  | nil => exact ⟨fun j k v h => by simp at h, fun e h => by simp at h⟩
  | cons hk hf hv hb r ih =>
    refine ⟨fun j k v hj => ?_, fun e he => ?_⟩
    · cases j with
      | zero =>
        simp only [List.getElem?_cons_zero, Option.some.injEq] at hj
        subst hj
        exact ⟨_, rfl, hk, hv, by omega⟩
      | succ j =>
        obtain ⟨e, a1, a2, a3, a4⟩ := ih.1 j k v (by simpa using hj)
        exact ⟨e, by simpa using a1, a2, a3, by omega⟩
    · rcases List.mem_cons.1 he with rfl | he
      · exact hf
      · exact ih.2 e he

/-- What is found. -/
def findM (k : Value) : List (Value × Value) → List MapEntry → Nat → Option (Nat × Value)
  | e :: es, e' :: es', i => if flatEq k e.1 then some (i, e'.val) else findM k es es' (i + 1)
  | _, _, _ => none

theorem find_rel (h : KE P M kt ks es es' i) (k : Value) : (findA k es i = none ∧ findM k es es' i = none) ∨ ∃ j v v', findA k es i = some (i + j, v) ∧ findM k es es' i = some (i + j, v') ∧ VR P M v v' ∧ (∃ e : Value × Value, es[j]? = some e ∧ e.2 = v ∧ flatEq k e.1 = true) := by
  induction h with
  | nil => exact .inl ⟨rfl, rfl⟩
  | @cons e e' es es' i hk hf hv hb r ih =>
    simp only [findA, findM]
    by_cases hq : flatEq k e.1 = true
    · simp only [hq, if_true]
      exact .inr ⟨0, _, _, rfl, rfl, hv, e, rfl, rfl, hq⟩
    · simp only [hq, if_false, Bool.false_eq_true]
      rcases ih with ⟨h1, h2⟩ | ⟨j, v, v', h1, h2, h3, e0, h4, h5, h6⟩
      · exact .inl ⟨h1, h2⟩
      · exact .inr ⟨j + 1, v, v', by rw [h1]; congr 2; omega, by rw [h2]; congr 2; omega, h3, e0, by simpa using h4, h5, h6⟩

theorem findAsking_run (hf : flatK P 9 kt = some ks) {k : Value} (hk : FitsK P kt ks k) (h : KE P M kt ks es es' i) (w : World) : ∀ n, (Instr.findAsking kt k es' n).run P w = .ok (findM k es es' n) w := by
  induction h with
  | nil => intro n; simp [Instr.findAsking, findM]
  | @cons e e' es es' i hk' hf' hv hb r ih =>
    intro n
    have he := flat_eq 9 kt ks k e.1 hf hk hf' 10000 w (by omega)
    simp only [Instr.findAsking, Op.equal, Op.maxDepth, hk', Sem.run_bind, he, Result.andThen_ok, findM, Sem.run_ite]
    by_cases hq : flatEq k e.1 = true
    · simp [hq]
    · simp only [hq, if_false, Bool.false_eq_true]
      exact ih (n + 1)

theorem findNow_run (_ : flatK P 9 kt = some ks) {k : Value} (hk : FitsK P kt ks k) {d : TypeDesc} (hd : P.underlying kt = some d) (h : KE P M kt ks es es' i) : ∀ n,
    Instr.findNow d k es' n = none ∨ Instr.findNow d k es' n = some (findM k es es' n) := by
  induction h with
  | nil => intro n; exact .inr rfl
  | @cons e e' es es' i hk' hf' hv hb r ih =>
    intro n
    simp only [Instr.findNow, hk', findM]
    cases hs : Instr.sameNow d k e.1 with
    | none => exact .inl rfl
    | some b =>
      have hb : b = flatEq k e.1 := by
        cases k <;> cases hk1 : e.1 <;> rw [hk1] at hs <;> cases d <;> simp [Instr.sameNow] at hs <;> first
          | (obtain ⟨h1, h2⟩ := hs; subst h2; simp [flatEq, scalarEq, h1])
          | (subst hs; simp [flatEq, scalarEq]; done)
          | (subst hs; simp [flatEq, scalarEq, eqS_eq, beq_toListBytes])
      subst hb
      cases hq : flatEq k e.1 with
      | true => exact .inr (by simp)
      | false =>
        rcases ih (n + 1) with h1 | h1
        · exact .inl (by simpa using h1)
        · exact .inr (by simpa using h1)

theorem findKey_run (hf : flatK P 9 kt = some ks) {k : Value} (hk : FitsK P kt ks k) (h : KE P M kt ks es es' i) (w : World) : (Instr.findKey kt k es').run P w = .ok (findM k es es' 0) w := by
  obtain ⟨d, hd⟩ : ∃ d, P.underlying kt = some d := by
    simp only [flatK] at hf
    split at hf <;> first | exact ⟨_, by assumption⟩ | cases hf
  simp only [Instr.findKey, Sem.run_bind, run_under hd, Result.andThen_ok]
  rcases findNow_run hf hk hd h 0 with h1 | h1
  · rw [h1]; exact findAsking_run hf hk h w 0
  · rw [h1]; rfl

/-- The entries of a map of AH, and the model's. -/
theorem map_blk (R : Rel P M H W) {r : Nat} {τ : Tgt} (hτ : M r = some τ) (hb : H[r]? = some (.map kt es)) (hf : flatK P 9 kt = some ks) :
    ∃ es' : Array MapEntry, W.heap[τ.b]? = some (.map es' es.length) ∧ KE P M kt ks es es'.toList 0 := by
  obtain ⟨blk, g1, g2⟩ := R.blk r τ hτ
  rw [hb] at g1; cases g1
  obtain ⟨es', h1, h2, h3⟩ := g2
  refine ⟨es', h1, KE.of es es'.toList 0 (by simpa using h2.1) (fun j k v hj => ?_) (fun e he => ?_)⟩
  · obtain ⟨e, a1, a2, a3, a4⟩ := h2.2 j k v hj
    exact ⟨e, by simpa using a1, a2, a3, by omega⟩
  · obtain ⟨ks', k1, k2⟩ := fits_spec (h3 e he)
    rw [hf] at k1; cases k1
    exact k2

theorem flat_VR {v v' : Value} (hf : FitsK P kt ks v) (h : VR P M v v') : v' = v := by
  have flat : ∀ {ks : List Sk} {l l' : List Value}, fitsAll ks l = true → LR P M l l' → l' = l := by
    intro ks l l' hk hl
    induction hl generalizing ks with
    | nil => rfl
    | cons hv _ ih =>
      cases ks with
      | nil => simp [fitsAll] at hk
      | cons k ks =>
        simp only [fitsAll, Bool.and_eq_true] at hk
        rw [hv.scalar (fits_scalar hk.1), ih hk.2]
  by_cases ha : isAggV v = true
  · cases v <;> simp [isAggV] at ha
    obtain ⟨xs', rfl, hxs⟩ := h.agg_inv
    have := flat hf.1 hxs.list
    rw [Array.ext' this]
    rfl
  · have e : v.cells.toList = [v] := by cases v <;> first | rfl | simp [isAggV] at ha
    have h1 := hf.1
    rw [e] at h1
    cases ks with
    | nil => simp [fitsAll] at h1
    | cons k ks =>
      simp only [fitsAll, Bool.and_eq_true] at h1
      exact h.scalar (fits_scalar h1.1)

theorem VR.base_cells {z : Value} (h : z.cells.toList.all isBase = true) : VR P M z z := by
  by_cases ha : isAggV z = true
  · cases z <;> simp [isAggV] at ha
    have := AR.base (P := P) (M := M) h
    exact .agg this.1 this.2
  · have e : z.cells.toList = [z] := by cases z <;> first | rfl | simp [isAggV] at ha
    rw [e] at h
    exact .base (by simpa using h)

theorem sim_lookup (R : Rel P M H W) {t : TypeId} {m m' k k' v : Value} {ok : Bool} (hm : VR P M m m') (hk : VR P M k k') (h : lookupA P t H m k ok = some v) : VSim P M H W (Instr.lookup t m' k' ok) v H := by
  unfold lookupA at h
  split at h
  · rename_i kt et hu
    split at h
    · rename_i hfit
      obtain ⟨ks, hf, hkk⟩ := fits_spec hfit
      have hke := flat_VR hkk hk
      subst hke
      have tup : ∀ (a a' : Value) (b : Bool), VR P M a a' → VR P M (.tuple #[a, .bool b]) (.tuple #[a', .bool b]) := fun a a' b hab => .tuple rfl (fun i h1 h2 => by
        match i, h1 with
        | 0, _ => exact hab
        | 1, _ => exact .base rfl)
      split at h
      · cases hm.map_nil_inv
        simp only [Option.bind_some] at h
        have hc := flat_checkKey true 9 kt ks k' hf hkk 10000 W (by omega)
        have hfk := findKey_run (M := M) hf hkk (.nil 0) W
        cases hz : zeroV P et with
        | none => simp [hz, findA] at h
        | some z =>
          simp only [hz, findA, Option.map_some, Option.some.injEq] at h
          obtain ⟨i, hi, hiz, hb⟩ := zeroV_spec hz
          subst h
          refine VSim.same R (v' := if ok then .tuple #[z, .bool false] else z) ?_ ?_
          · simp [Instr.lookup, run_under hu, hc, hfk, findM, run_zero hi hiz]
          · cases ok
            · exact VR.base_cells hb
            · exact tup _ _ _ (VR.base_cells hb)
      · rename_i r
        obtain ⟨τ, hτ, rfl⟩ := hm.map_inv
        split at h
        · rename_i kt' es hb
          split at h
          · rename_i hkt
            subst hkt
            simp only [Option.bind_some] at h
            obtain ⟨es', hw, hE⟩ := map_blk R hτ hb hf
            have hg := run_getObj (P := P) hw
            have hc := flat_checkKey es'.isEmpty 9 kt' ks k' hf hkk 10000 W (by omega)
            have hfk := findKey_run hf hkk hE W
            rcases find_rel hE k' with ⟨h1, h2⟩ | ⟨j, u, u', h1, h2, h3, _⟩
            · rw [h1] at h
              cases hz : zeroV P et with
              | none => simp [hz] at h
              | some z =>
                simp only [hz, Option.map_some, Option.some.injEq] at h
                obtain ⟨i, hi, hiz, hb⟩ := zeroV_spec hz
                subst h
                refine VSim.same R (v' := if ok then .tuple #[z, .bool false] else z) ?_ ?_
                · simp [Instr.lookup, run_under hu, hg, hc, hfk, h2, run_zero hi hiz]
                · cases ok
                  · exact VR.base_cells hb
                  · exact tup _ _ _ (VR.base_cells hb)
            · rw [h1] at h
              simp only [Option.some.injEq] at h
              subst h
              refine VSim.same R (v' := if ok then .tuple #[u', .bool true] else u') ?_ ?_
              · simp [Instr.lookup, run_under hu, hg, hc, hfk, h2]
              · cases ok
                · exact h3
                · exact tup _ _ _ h3
          · simp at h
        · simp at h
      · simp at h
    · cases h
  · cases h

/-! ### maps that are written -/
theorem scalar_same {k k2 : Value} (h1 : isScalar k = true) (h : scalarEq k k2 = true) (n : Nat) : Instr.sameBits n k2 k = true := by
  have := (scalarEq_iff h1).1 h
  subst this
  cases k <;> simp [isScalar] at h1 <;> simp [Instr.sameBits, beq_toListBytes]

theorem flat_same {k k2 : Value} (h1 : FitsK P kt ks k) (h2 : FitsK P kt ks k2) (h : flatEq k k2 = true) : k2 = k ∧ Instr.sameBits 10000 k2 k = true := by
  by_cases ha : isAggV k = true
  · have hb : isAggV k2 = true := by have := Option.some.inj (h1.2.symm.trans h2.2); rw [← this]; exact ha
    cases k <;> simp [isAggV] at ha
    cases k2 <;> simp [isAggV] at hb
    rename_i x y
    simp only [flatEq] at h
    have e := (listEq_iff h1.1 h2.1).1 h
    have exy : x = y := Array.ext' e
    subst exy
    refine ⟨rfl, ?_⟩
    simp only [Instr.sameBits, beq_self_eq_true, Bool.true_and]
    rw [List.all_eq_true]
    intro p hp
    have hz : ∀ (l : List Value) (ks : List Sk), fitsAll ks l = true → ∀ p ∈ l.zip l, Instr.sameBits 9999 p.1 p.2 = true := by
      intro l
      induction l with
      | nil => intro ks _ p hp; simp at hp
      | cons v l ih =>
        intro ks hk p hp
        cases ks with
        | nil => simp [fitsAll] at hk
        | cons k ks =>
          simp only [fitsAll, Bool.and_eq_true] at hk
          simp only [List.zip_cons_cons, List.mem_cons] at hp
          rcases hp with rfl | hp
          · have := fits_scalar hk.1
            cases v <;> simp [isScalar] at this <;> simp [Instr.sameBits, beq_toListBytes]
          · exact ih ks hk.2 p hp
    exact hz x.toList ks h1.1 p hp
  · have e : k.cells.toList = [k] := by cases k <;> first | rfl | simp [isAggV] at ha
    have h3 := h1.1
    rw [e] at h3
    cases ks with
    | nil => simp [fitsAll] at h3
    | cons s' ks =>
      simp only [fitsAll, Bool.and_eq_true] at h3
      have hs := fits_scalar h3.1
      have hq : scalarEq k k2 = true := by
        cases k <;> simp [isAggV] at ha <;> cases k2 <;> simpa [flatEq] using h
      exact ⟨((scalarEq_iff hs).1 hq).symm, scalar_same hs hq _⟩

theorem run_keyStays {k k2 : Value} (h : Instr.sameBits 10000 k2 k = true) (w : World) : (Instr.keyThatStays k2 k).run P w = .ok k w := by simp [Instr.keyThatStays, h]

/-- One entry is set. -/
theorem KE.set {es : List (Value × Value)} {es' : List MapEntry} {i : Nat} (h : KE P M kt ks es es' i) (j : Nat) {k v v' : Value} (hk : FitsK P kt ks k) (hv : VR P M v v') (f : MapEntry → MapEntry) (hf : ∀ e, es'[j]? = some e → (f e).key = k ∧ (f e).val = v' ∧ (f e).born = e.born) :
    KE P M kt ks (es.set j (k, v)) (es'.modify j f) i := by
  induction h generalizing j with
  | nil => simpa using KE.nil _
  | @cons e e' es es' i hk' hf' hv' hb r ih =>
    cases j with
    | zero =>
      obtain ⟨a1, a2, a3⟩ := hf e' rfl
      simp only [List.set_cons_zero, List.modify_cons, if_true]
      exact .cons a1 hk (by rw [a2]; exact hv) (by rw [a3]; exact hb) r
    | succ j =>
      simp only [List.set_cons_succ, List.modify_succ_cons]
      exact .cons hk' hf' hv' hb (ih j (fun e he => hf e (by simpa using he)))
/-- One entry more. -/
theorem KE.push {es : List (Value × Value)} {es' : List MapEntry} {i : Nat} (h : KE P M kt ks es es' i) {k v v' : Value} (hk : FitsK P kt ks k) (hv : VR P M v v') :
    KE P M kt ks (es ++ [(k, v)]) (es' ++ [{ key := k, val := v', born := i + es.length }]) i := by
  induction h with
  | nil i => exact .cons rfl hk hv rfl (.nil _)
  | @cons e e' es es' i hk' hf' hv' hb r ih =>
    have : i + (e :: es).length = i + 1 + es.length := by simp; omega
    rw [this]
    exact .cons hk' hf' hv' hb ih

theorem KE.blk {es : List (Value × Value)} {es' : Array MapEntry} (hf : flatK P 9 kt = some ks) (h : KE P M kt ks es es'.toList 0) {W' : World} {τ : Tgt} (hw : W'.heap[τ.b]? = some (.map es' es.length)) : BR P M W' τ (.map kt es) := by
  obtain ⟨b1, b2⟩ := h.back
  refine ⟨es', hw, ⟨by simpa using h.length, fun j k v hj => ?_⟩, fun e he => ?_⟩
  · obtain ⟨e, a1, a2, a3, a4⟩ := b1 j k v hj
    exact ⟨e, by simpa using a1, a2, a3, by omega⟩
  · have := b2 e he
    simp only [fits, hf, this.1, this.2, Bool.true_and, beq_self_eq_true]

theorem step_map (R : Rel P M H W) {r : Nat} {τ : Tgt} (hτ : M r = some τ) {es0 es1 : List (Value × Value)} (hb : H[r]? = some (.map kt es0)) (hf : flatK P 9 kt = some ks) {es' : Array MapEntry} (hE : KE P M kt ks es1 es'.toList 0) :
    Step P M H W M (H.setIfInBounds r (.map kt es1)) (setBlk W τ.b (.map es' es1.length)) := by
  refine step_set R (setBlk_same _ _ _) hτ ?_ ?_ rfl (setBlk_size _ _ _) (fun k hk => setBlk_other _ _ _ _ hk) (hE.blk hf (setBlk_get _ _ _ (R.lt r τ hτ)))
  · rintro ⟨c1, t1, h2⟩; rw [hb] at h2; cases h2
  · intro h2; unfold Dead at h2; rw [hb] at h2; cases h2

theorem sim_mapUpdate (R : Rel P M H W) {t : TypeId} {m m' k k' v v' : Value} (hm : VR P M m m') (hk : VR P M k k') (hv : VR P M v v') (h : mapUpdateA P t H m k v = some H') : USim P M H W (Instr.mapUpdate t m' k' v') H' := by
  unfold mapUpdateA at h
  split at h
  · rename_i kt et r hu
    obtain ⟨τ, hτ, rfl⟩ := hm.map_inv
    split at h
    · rename_i hfit
      obtain ⟨ks, hf, hkk⟩ := fits_spec hfit
      have hke := flat_VR hkk hk
      subst hke
      split at h
      · rename_i kt' es hb
        split at h
        · rename_i hkt
          subst hkt
          obtain ⟨es', hw, hE⟩ := map_blk R hτ hb hf
          have hg := run_getObj (P := P) hw
          have hc := flat_checkKey false 9 kt' ks k' hf hkk 10000 W (by omega)
          have hfk := findKey_run hf hkk hE W
          rcases find_rel hE k' with ⟨h1, h2⟩ | ⟨j, u, u', h1, h2, h3, e0, h4, h5, h6⟩
          · rw [h1] at h
            simp only [Option.some.injEq] at h
            subst h
            have hp := hE.push hkk hv
            have hp' : KE P M kt' ks (es ++ [(k', v)]) (es'.push { key := k', val := v', born := es.length }).toList 0 := by simpa using hp
            have st := step_map R hτ hb hf hp'
            rw [List.length_append, List.length_cons, List.length_nil, Nat.zero_add] at st
            refine ⟨_, M, ?_, st⟩
            simp [Instr.mapUpdate, run_under hu, hg, hc, hfk, h2, run_setObj hw]
          · rw [h1] at h
            simp only [Option.some.injEq] at h
            subst h
            rw [Nat.zero_add] at h2 ⊢
            obtain ⟨b1, b2⟩ := hE.back
            obtain ⟨e1, a1, a2, a3, a4⟩ := b1 j e0.1 e0.2 h4
            obtain ⟨s1, s2⟩ := flat_same hkk (b2 e0 (List.mem_of_getElem? h4)) h6
            rw [← a2] at s1 s2
            have hset := hE.set j hkk hv (fun e => { e with key := k', val := v' }) (fun e he => ⟨rfl, rfl, rfl⟩)
            have hset' : KE P M kt' ks (es.set j (k', v)) (es'.modify j fun e => { e with key := k', val := v' }).toList 0 := by simpa using hset
            have st := step_map R hτ hb hf hset'
            rw [List.length_set] at st
            refine ⟨_, M, ?_, st⟩
            have a1' : es'[j]? = some e1 := by simpa using a1
            simp [Instr.mapUpdate, run_under hu, hg, hc, hfk, h2, a1', run_keyStays s2, run_setObj hw]
        · cases h
      · cases h
    · cases h
  · cases h

theorem sim_mapEntry (R : Rel P M H W) {t : TypeId} {m m' k k' v : Value} (hm : VR P M m m') (hk : VR P M k k') (h : mapEntryA P t H m k = some (v, H')) : VSim P M H W (Instr.mapEntry t m' k') v H' := by
  unfold mapEntryA at h
  split at h
  · rename_i kt et r hu
    obtain ⟨τ, hτ, rfl⟩ := hm.map_inv
    split at h
    · rename_i hfit
      obtain ⟨ks, hf, hkk⟩ := fits_spec hfit
      have hke := flat_VR hkk hk
      subst hke
      have tup : ∀ (a a' : Value) (b : Nat), VR P M a a' → VR P M (.tuple #[a, .int .i64 b]) (.tuple #[a', .int .i64 b]) := fun a a' b hab => .tuple rfl (fun i h1 h2 => by
        match i, h1 with
        | 0, _ => exact hab
        | 1, _ => exact .base rfl)
      split at h
      · rename_i kt' es hb
        split at h
        · rename_i hkt
          subst hkt
          obtain ⟨es', hw, hE⟩ := map_blk R hτ hb hf
          have hg := run_getObj (P := P) hw
          have hc := flat_checkKey false 9 kt' ks k' hf hkk 10000 W (by omega)
          have hfk := findKey_run hf hkk hE W
          rcases find_rel hE k' with ⟨h1, h2⟩ | ⟨j, u, u', h1, h2, h3, e0, h4, h5, h6⟩
          · rw [h1] at h
            cases hz : zeroV P et with
            | none => simp [hz] at h
            | some z =>
              simp only [hz, Option.map_some, Option.some.injEq, Prod.mk.injEq] at h
              obtain ⟨rfl, rfl⟩ := h
              obtain ⟨i, hi, hiz, hzb⟩ := zeroV_spec hz
              have hp := hE.push hkk (VR.base_cells (P := P) (M := M) hzb)
              have hp' : KE P M kt' ks (es ++ [(k', z)]) (es'.push { key := k', val := z, born := es.length }).toList 0 := by simpa using hp
              have st := step_map R hτ hb hf hp'
              rw [List.length_append, List.length_cons, List.length_nil, Nat.zero_add] at st
              refine ⟨_, .tuple #[z, .int .i64 es.length], M, ?_, tup _ _ _ (VR.base_cells hzb), st⟩
              simp [Instr.mapEntry, run_under hu, hg, hc, hfk, h2, run_zero hi hiz, run_setObj hw, goInt]
          · rw [h1] at h
            simp only [Option.some.injEq, Prod.mk.injEq] at h
            obtain ⟨rfl, rfl⟩ := h
            rw [Nat.zero_add] at h2 ⊢
            obtain ⟨b1, b2⟩ := hE.back
            obtain ⟨e1, a1, a2, a3, a4⟩ := b1 j e0.1 e0.2 h4
            obtain ⟨s1, s2⟩ := flat_same hkk (b2 e0 (List.mem_of_getElem? h4)) h6
            have a1' : es'[j]? = some e1 := by simpa using a1
            rw [← a2] at s1 s2
            -- the key that stays is the same: nothing turns
            have hself : es'.modify j (fun e => { e with key := k' }) = es' := by
              apply Array.ext_getElem?
              intro i
              rw [Array.getElem?_modify]
              split
              · rename_i hij; subst hij
                rw [a1']
                simp only [Option.map_some]
                rw [← s1]
              · rfl
            refine ⟨W, .tuple #[u', .int .i64 j], M, ?_, tup _ _ _ h3, Step.refl R⟩
            have hself2 : setBlk W τ.b (.map es' es.length) = W := setBlk_self hw
            rw [Nat.zero_add] at a4
            simp [Instr.mapEntry, run_under hu, hg, hc, hfk, h2, a1', run_keyStays s2, run_setObj hw, hself, hself2, goInt, a4]
        · cases h
      · cases h
    · cases h
  · cases h

theorem sim_entryStore (R : Rel P M H W) {t : TypeId} {m m' s s' v v' : Value} (hm : VR P M m m') (hs : VR P M s s') (hv : VR P M v v') (h : entryStoreA P H m s v = some H') : USim P M H W (Instr.entryStore t m' s' v') H' := by
  unfold entryStoreA at h
  split at h
  · rename_i r k n
    obtain ⟨τ, hτ, rfl⟩ := hm.map_inv
    cases hs.int_inv
    split at h
    · rename_i kt es hb
      split at h
      · rename_i h0
        obtain ⟨h0, hfk⟩ := h0
        split at h
        · rename_i e he
          cases h
          cases hf : flatK P 9 kt with
          | none => simp [hf] at hfk
          | some ks =>
            obtain ⟨es', hw, hE⟩ := map_blk R hτ hb hf
            have hg := run_getObj (P := P) hw
            obtain ⟨b1, b2⟩ := hE.back
            obtain ⟨e1, a1, a2, a3, a4⟩ := b1 n.toNat e.1 e.2 he
            have a1' : es'[n.toNat]? = some e1 := by simpa using a1
            have hset := hE.set n.toNat (b2 e (List.mem_of_getElem? he)) hv (fun e => { e with val := v' }) (fun e9 he9 => by
              rw [a1] at he9; cases he9; exact ⟨a2, rfl, rfl⟩)
            have hset' : KE P M kt ks (es.set n.toNat (e.1, v)) (es'.modify n.toNat fun e => { e with val := v' }).toList 0 := by simpa using hset
            have st := step_map R hτ hb hf hset'
            rw [List.length_set] at st
            refine ⟨_, M, ?_, st⟩
            have hidx : es'.findIdx? (fun e => (e.born : Int) == n) = some n.toNat := by
              rw [Array.findIdx?_eq_some_iff_getElem]
              obtain ⟨hl, hl2⟩ := Array.getElem?_eq_some_iff.1 a1'
              refine ⟨hl, by rw [hl2, a4]; simp; omega, fun j hj => ?_⟩
              have hjl : j < es.length := by have := hE.length; simp at this; omega
              obtain ⟨e9, c1, c2, c3, c4⟩ := b1 j es[j].1 es[j].2 (List.getElem?_eq_getElem hjl)
              have c1' : es'[j]? = some e9 := by simpa using c1
              obtain ⟨hl9, hl8⟩ := Array.getElem?_eq_some_iff.1 c1'
              rw [hl8, c4]
              simp
              omega
            simp [Instr.entryStore, hg, asInt, asIntOf, hidx, run_setObj hw]
        · cases h
      · cases h
    · cases h
  · cases h

end Go.AH
