/-
  AH: an abstract deterministic machine for the code of the model: its blocks, its values, what each operation does, code and calls. The soundness of AH is proved in the texts behind this one. Nothing of a program stands here.
-/
import Derived.WalkKit
namespace Go.AH
open Go

/-- The capacity of a slice whose true capacity isn't known (no slice has so great a one). -/
def capU : Nat := 9223372036854775808
/-- A value of which nothing is known. -/
def junk : Value := .tuple #[.nilFunc]

inductive Blk where
  | cells (c : Array Value) (t : TypeId) (rw : Bool)
  | map (kt : TypeId) (es : List (Value × Value))
  | dead
deriving Inhabited

abbrev Heap := Array Blk

structure St where
  tmps : Array Value
  H : Heap

/-- Values that lead nowhere. -/
def isBase : Value → Bool
  | .bool _ | .int _ _ | .float _ _ | .complex _ _ _ | .string _ | .pointer none | .slice none _ _ | .map none | .chan none | .nilFunc | .nilIface => true
  | _ => false

/-- Values that can be keys here: scalars, and structs of scalars. -/
def isScalar : Value → Bool
  | .bool _ | .int _ _ | .string _ => true
  | _ => false
def isFlat : Value → Bool
  | .agg cs => cs.toList.all isScalar
  | v => isScalar v

def isAggV : Value → Bool
  | .agg _ => true
  | _ => false

def scalarEq : Value → Value → Bool
  | .bool a, .bool b => a == b
  | .int k a, .int k' b => k == k' && a == b
  | .string a, .string b => a.toList == b.toList
  | _, _ => false
def listEq : List Value → List Value → Bool
  | [], [] => true
  | a :: x, b :: y => scalarEq a b && listEq x y
  | _, _ => false
def flatEq : Value → Value → Bool
  | .agg x, .agg y => listEq x.toList y.toList
  | x, y => scalarEq x y

def ev (tmps : Array Value) : Operand → Value
  | .tmp t => tmps.getD t undef
  | .const v => if isBase v then v else junk
  | .global _ => junk
  | .func f => .func (.func f) #[] #[]

section
variable (P : Program)

def sz (t : TypeId) : Option Nat := (P.info? t).map (·.size)
def zeroA (t : TypeId) : Option (Array Value) :=
  match (P.info? t).bind (·.zero) with
  | some z => if z.cells.toList.all isBase then some z.cells else none
  | none => none
def zeroV (t : TypeId) : Option Value :=
  match (P.info? t).bind (·.zero) with
  | some z => if z.cells.toList.all isBase then some z else none
  | none => none
def isAggA (t : TypeId) : Option Bool :=
  match P.underlying t with
  | some (.struct _) | some (.array _ _) => some true
  | some _ => some false
  | none => none

def loadA (t : TypeId) (H : Heap) : Value → Option Value
  | .pointer (some ⟨b, o, none⟩) =>
    match H[b]? with
    | some (.cells c _ _) =>
      match isAggA P t with
      | some true => (sz P t).bind fun k => if o + k ≤ c.size then some (.agg (c.extract o (o + k))) else none
      | some false => c[o]?
      | none => none
    | _ => none
  | _ => none

/-- Cells are written behind each other. -/
def wr (c : Array Value) (o : Nat) : List Value → Array Value
  | [] => c
  | v :: r => wr (c.setIfInBounds o v) (o + 1) r

def storeA (t : TypeId) (H : Heap) : Value → Value → Option Heap
  | .pointer (some ⟨b, o, none⟩), v =>
    match H[b]? with
    | some (.cells c e true) =>
      if sz P t = some v.cells.size ∧ o + v.cells.size ≤ c.size ∧ v.cells.toList.all Value.oneCell' = true then some (H.setIfInBounds b (.cells (wr c o v.cells.toList) e true)) else none
    | _ => none
  | _, _ => none

def allocA (t : TypeId) (H : Heap) (c : Array Value) : Value × Heap := (.pointer (some ⟨H.size, 0, none⟩), H.push (.cells c t true))

def placesA : List Field → Option (List (Nat × Nat))
  | [] => some []
  | f :: r => (sz P f.type).bind fun k => (placesA r).map ((f.offset, k) :: ·)

def buildA (t : TypeId) (parts : List (Nat × Value)) : Option Value :=
  match zeroA P t, P.underlying t with
  | some z, some (.struct fields) => (placesA P fields.toList).bind fun places => (Instr.fill (fun i => places[i]?) z parts).map .agg
  | some z, some (.array _ elem) => (sz P elem).bind fun k => (Instr.fill (fun i => some (i * k, k)) z parts).map .agg
  | _, _ => none

def zeros (zero : Array Value) (n : Nat) : Array Value := (Array.range n).map (zero[· % zero.size]!)

def buildSliceA (t : TypeId) (len : Nat) (parts : List (Nat × Value)) (H : Heap) : Option (Value × Heap) :=
  match P.underlying t with
  | some (.slice e) =>
    (sz P e).bind fun k => if len * k ≤ 16777216 ∧ len ≤ 16777216 then
      (zeroA P e).bind fun z => if k = z.size then
      (Instr.fill (fun i => some (i * k, k)) (zeros z (len * k)) parts).map fun cells => (.slice (some ⟨H.size, 0, none⟩) len len, H.push (.cells cells e true)) else none
      else none
  | _ => none

def fieldAddrA (s : TypeId) (f : Nat) : Value → Option Value
  | .pointer (some ⟨b, o, none⟩) =>
    match P.underlying s with
    | some (.struct fields) =>
      match fields[f]? with
      | some fd => (sz P fd.type).bind fun k => if k = 0 then none else some (.pointer (some ⟨b, o + fd.offset, none⟩))
      | none => none
    | _ => none
  | _ => none

def partA (t : TypeId) (cs : Array Value) (off : Nat) : Option Value :=
  match isAggA P t with
  | some true => (sz P t).map fun k => .agg (cs.extract off (off + k))
  | some false => cs[off]?
  | none => none

def fieldA (s : TypeId) (f : Nat) : Value → Option Value
  | .agg cs =>
    match P.underlying s with
    | some (.struct fields) =>
      match fields[f]? with
      | some fd => partA P fd.type cs fd.offset
      | none => none
    | _ => none
  | _ => none

def indexAddrA (t : TypeId) : Value → Value → Option Value
  | .pointer (some ⟨b, o, none⟩), .int _ i =>
    match P.underlying t with
    | some (.array len e) => (sz P e).bind fun k => if 0 ≤ i ∧ i < len then some (.pointer (some ⟨b, o + i.toNat * k, none⟩)) else none
    | _ => none
  | .slice (some ⟨b, o, none⟩) len _, .int _ i =>
    match P.underlying t with
    | some (.slice e) => (sz P e).bind fun k => if 0 ≤ i ∧ i < len then some (.pointer (some ⟨b, o + i.toNat * k, none⟩)) else none
    | _ => none
  | _, _ => none

def indexA (t : TypeId) : Value → Value → Option Value
  | .agg cs, .int _ i =>
    match P.underlying t with
    | some (.array len e) => (sz P e).bind fun k => if 0 ≤ i ∧ i < len then partA P e cs (i.toNat * k) else none
    | _ => none
  | .string s, .int _ i =>
    match P.underlying t with
    | some .string => if 0 ≤ i then (s[i.toNat]?).map fun b => .int .u8 b.toNat else none
    | _ => none
  | _, _ => none

/-- A bound of a slice expression. -/
def bnd (x : Option Value) (dflt y : Nat) : Option Nat :=
  match x with
  | none => some dflt
  | some (.int _ i) => if 0 ≤ i ∧ i ≤ y then some i.toNat else none
  | _ => none

def sliceA (t : TypeId) (H : Heap) (x : Value) (lo hi mx : Option Value) : Option Value :=
  match P.underlying t, x with
  | some .string, .string s =>
    if mx.isSome then none else
    (bnd hi s.size s.size).bind fun h => (bnd lo 0 h).map fun l => .string (s.extract l h)
  | some (.slice e), .slice none n c =>
    if mx.isSome ∧ hi.isNone ∨ n ≠ 0 ∨ c ≠ 0 then none else
    (sz P e).bind fun _ => (bnd mx 0 0).bind fun m => (bnd hi 0 m).bind fun h => (bnd lo 0 h).map fun _ => .slice none 0 0
  | some (.slice e), .slice (some ⟨b, o, none⟩) n c =>
    match H[b]? with
    | some (.cells _ e' _) =>
      if e' ≠ e ∨ (mx.isSome ∧ hi.isNone) then none else
      (sz P e).bind fun k =>
      if c = capU then
        if mx.isSome then
          (bnd mx n n).bind fun m => (bnd hi n m).bind fun h => (bnd lo 0 h).map fun l => .slice (some ⟨b, if m = l then o else o + l * k, none⟩) (h - l) (m - l)
        else (bnd hi n n).bind fun h => (bnd lo 0 h).map fun l => .slice (some ⟨b, o + l * k, none⟩) (h - l) capU
      else if c < capU then
        (bnd mx c c).bind fun m => (bnd hi n m).bind fun h => (bnd lo 0 h).map fun l => .slice (some ⟨b, if m = l then o else o + l * k, none⟩) (h - l) (m - l)
      else none
    | _ => none
  | _, _ => none

def isShift : BinOp → Bool
  | .shl | .shr => true
  | _ => false

def intCmpA (op : BinOp) (a b : Int) : Option Bool :=
  match op with
  | .eql => some (a == b) | .neq => some (a != b) | .lss => some (decide (a < b)) | .leq => some (decide (a ≤ b)) | .gtr => some (decide (a > b)) | .geq => some (decide (a ≥ b))
  | _ => none

def intA (op : BinOp) (k : IntKind) (a b : Int) : Option Value :=
  match op with
  | .add => some (.int k (k.wrap (a + b)))
  | .sub => some (.int k (k.wrap (a - b)))
  | .mul => some (.int k (k.wrap (a * b)))
  | .quo => if b = 0 then none else some (.int k (k.wrap (a.tdiv b)))
  | .rem => if b = 0 then none else some (.int k (a.tmod b))
  | .and => some (.int k (k.wrap (BitVec.ofInt k.bits a &&& BitVec.ofInt k.bits b).toNat))
  | .or => some (.int k (k.wrap (BitVec.ofInt k.bits a ||| BitVec.ofInt k.bits b).toNat))
  | .xor => some (.int k (k.wrap (BitVec.ofInt k.bits a ^^^ BitVec.ofInt k.bits b).toNat))
  | .andNot => some (.int k (k.wrap (BitVec.ofInt k.bits a &&& ~~~(BitVec.ofInt k.bits b)).toNat))
  | .shl => if b < 0 then none else some (.int k (k.wrap (a * 2 ^ (min b.toNat k.bits))))
  | .shr => if b < 0 then none else some (.int k (a.fdiv (2 ^ (min b.toNat k.bits))))
  | _ => (intCmpA op a b).map .bool

def strA (op : BinOp) (x y : ByteArray) : Option Value :=
  match op with
  | .add => if x.size + y.size ≤ 9223372036854775807 then some (.string (x ++ y)) else none
  | .eql => some (.bool (x.toList == y.toList))
  | .neq => some (.bool (!(x.toList == y.toList)))
  | .lss => some (.bool (Op.bytesLess x.toList y.toList))
  | .leq => some (.bool (Op.bytesLess x.toList y.toList || x.toList == y.toList))
  | .gtr => some (.bool !(Op.bytesLess x.toList y.toList || x.toList == y.toList))
  | .geq => some (.bool !(Op.bytesLess x.toList y.toList))
  | _ => none

/-- Kinds of scalars. -/
inductive Sk where
  | b
  | i (k : IntKind)
  | s
deriving DecidableEq

def Sk.fits : Sk → Value → Bool
  | .b, .bool _ => true
  | .i k, .int k' _ => k == k'
  | .s, .string _ => true
  | _, _ => false
def fitsAll : List Sk → List Value → Bool
  | [], [] => true
  | k :: ks, v :: vs => k.fits v && fitsAll ks vs
  | _, _ => false

/-- The scalars of a struct's fields, from a cell on, if all of them count. -/
def flatFs (rc : TypeId → Option (List Sk)) : Nat → List Field → Option (List Sk)
  | _, [] => some []
  | at_, f :: r =>
    if f.name = "_" ∨ f.offset ≠ at_ then none else
    (rc f.type).bind fun ks => if sz P f.type = some ks.length then (flatFs rc (at_ + ks.length) r).map (ks ++ ·) else none

/-- The scalars of a type, if it is one or a struct of such. -/
def flatK : Nat → TypeId → Option (List Sk)
  | 0, _ => none
  | d + 1, t =>
    match P.underlying t with
    | some .bool => some [.b]
    | some (.int k) => some [.i k]
    | some .string => some [.s]
    | some (.struct fields) => if P.stoodInHeld t then none else flatFs P (flatK d) 0 fields.toList
    | _ => none

/-- Is v a value of the flat type t? -/
def fits (t : TypeId) (v : Value) : Bool :=
  match flatK P 9 t with
  | some ks => fitsAll ks v.cells.toList && (isAggA P t == some (isAggV v))
  | none => false

/-- '==' . -/
def eqA (t : TypeId) (x y : Value) : Option Bool :=
  match P.underlying t, x, y with
  | some .bool, .bool a, .bool b => some (a == b)
  | some (.pointer _), .pointer none, .pointer b => some b.isNone
  | some (.pointer _), .pointer (some _), .pointer none => some false
  | some (.slice _), .slice none _ _, .slice b _ _ => some b.isNone
  | some (.slice _), .slice (some _) _ _, .slice none _ _ => some false
  | some (.map _ _), .map none, .map b => some b.isNone
  | some (.map _ _), .map (some _), .map none => some false
  | some (.struct _), .agg xs, .agg ys => if fits P t (.agg xs) && fits P t (.agg ys) && !P.eqGuardType P.depth t then some (listEq xs.toList ys.toList) else none
  | _, _, _ => none

def binA (op : BinOp) (t : TypeId) (x y : Value) : Option Value :=
  match x, y with
  | .int k a, .int k' b => if isShift op then intA op k a b else if k = k' then intA op k a b else none
  | .string a, .string b => strA op a b
  | x, y =>
    match op with
    | .eql => (eqA P t x y).map .bool
    | .neq => (eqA P t x y).map fun b => .bool !b
    | _ => none

def unA (op : UnOp) : Value → Option Value
  | .bool b => match op with | .not => some (.bool !b) | _ => none
  | .int k n => match op with | .neg => some (.int k (k.wrap (0 - n))) | .xor => intA .xor k (if k.signed then -1 else k.max) n | _ => none
  | _ => none

/-- Where a key stands among entries, and what is there. -/
def findA (k : Value) : List (Value × Value) → Nat → Option (Nat × Value)
  | [], _ => none
  | e :: r, i => if flatEq k e.1 then some (i, e.2) else findA k r (i + 1)

def lookupA (t : TypeId) (H : Heap) (m k : Value) (ok : Bool) : Option Value :=
  match P.underlying t with
  | some (.map kt et) =>
    if fits P kt k then
    (match m with
     | .map none => some []
     | .map (some r) => match H[r]? with | some (.map kt' es) => if kt' = kt then some es else none | _ => none
     | _ => none).bind fun es =>
    match findA k es 0 with
    | some (_, v) => some (if ok then .tuple #[v, .bool true] else v)
    | none => (zeroV P et).map fun z => if ok then .tuple #[z, .bool false] else z
    else none
  | _ => none

def mapUpdateA (t : TypeId) (H : Heap) (m k v : Value) : Option Heap :=
  match P.underlying t, m with
  | some (.map kt _), .map (some r) =>
    if fits P kt k then
    match H[r]? with
    | some (.map kt' es) => if kt' = kt then
        match findA k es 0 with
        | some (i, _) => some (H.setIfInBounds r (.map kt (es.set i (k, v))))
        | none => some (H.setIfInBounds r (.map kt (es ++ [(k, v)])))
      else none
    | _ => none
    else none
  | _, _ => none

def mapEntryA (t : TypeId) (H : Heap) (m k : Value) : Option (Value × Heap) :=
  match P.underlying t, m with
  | some (.map kt et), .map (some r) =>
    if fits P kt k then
    match H[r]? with
    | some (.map kt' es) => if kt' = kt then
        match findA k es 0 with
        | some (i, v) => some (.tuple #[v, .int .i64 i], H)
        | none => (zeroV P et).map fun z => (.tuple #[z, .int .i64 es.length], H.setIfInBounds r (.map kt (es ++ [(k, z)])))
      else none
    | _ => none
    else none
  | _, _ => none

def entryStoreA (H : Heap) (m st v : Value) : Option Heap :=
  match m, st with
  | .map (some r), .int _ i =>
    match H[r]? with
    | some (.map kt es) => if 0 ≤ i ∧ (flatK P 9 kt).isSome = true then match es[i.toNat]? with | some e => some (H.setIfInBounds r (.map kt (es.set i.toNat (e.1, v)))) | none => none else none
    | _ => none
  | _, _ => none

def makeMapA (t : TypeId) (H : Heap) : Option (Value × Heap) :=
  match P.underlying t with
  | some (.map kt _) => some (.map (some H.size), H.push (.map kt []))
  | _ => none

def makeSliceA (t : TypeId) (H : Heap) : Value → Value → Option (Value × Heap)
  | .int _ l, .int _ c =>
    match P.underlying t with
    | some (.slice e) =>
      match P.info? e, zeroA P e with
      | some i, some z => if 0 ≤ l ∧ l ≤ c ∧ c * i.bytes ≤ 140737488355328 ∧ c ≤ 9223372036854775807 ∧ 0 < i.size then some (.slice (some ⟨H.size, 0, none⟩) l.toNat c.toNat, H.push (.cells (zeros z (c.toNat * i.size)) e true)) else none
      | _, _ => none
    | _ => none
  | _, _ => none

/-- The cells of a slice's n elements of k cells each. -/
def rowA (H : Heap) (k : Nat) : Value → Option (Nat × Array Value)
  | .slice none n _ => if n = 0 then some (0, #[]) else none
  | .slice (some ⟨b, o, none⟩) n _ =>
    match H[b]? with
    | some (.cells c _ _) => if o + n * k ≤ c.size then some (n, c.extract o (o + n * k)) else none
    | _ => none
  | _ => none

/-- append. -/
def appendA (H : Heap) (t0 t1 : TypeId) (s x : Value) : Option (Value × Heap) :=
  match P.underlying t0, P.underlying t1 with
  | some (.slice e), some (.slice e1) =>
    match P.info? e, zeroA P e with
    | some i, some z =>
      if 0 < i.size ∧ z.size = i.size ∧ e1 = e then
      (rowA H i.size x).bind fun (m, new) =>
      if new.toList.all Value.oneCell' then
      match s with
      | .slice none 0 0 =>
        if m = 0 then some (.slice none 0 0, H) else
        if m * i.bytes ≤ 140737488355328 ∧ m ≤ 9223372036854775807 then some (.slice (some ⟨H.size, 0, none⟩) m capU, H.push (.cells new e true)) else none
      | .slice (some ⟨b, o, none⟩) n c =>
        match H[b]? with
        | some (.cells cs e' rw) =>
          if e' = e ∧ o + n * i.size ≤ cs.size ∧ (n + m) * i.bytes ≤ 140737488355328 ∧ n + m ≤ 9223372036854775807 then
            if c = capU then
              if rw then some (.slice (some ⟨H.size, 0, none⟩) (n + m) capU, (H.setIfInBounds b .dead).push (.cells (cs.extract o (o + n * i.size) ++ new) e true)) else none
            else if n + m ≤ c then
              if m = 0 then some (.slice (some ⟨b, o, none⟩) n c, H) else
              if rw ∧ o + (n + m) * i.size ≤ cs.size then some (.slice (some ⟨b, o, none⟩) (n + m) c, H.setIfInBounds b (.cells (wr cs (o + n * i.size) new.toList) e true)) else none
            else some (.slice (some ⟨H.size, 0, none⟩) (n + m) capU, H.push (.cells (cs.extract o (o + n * i.size) ++ new) e true))
          else none
        | _ => none
      | _ => none
      else none
      else none
    | _, _ => none
  | _, _ => none

def lenA (H : Heap) (t : TypeId) (x : Value) : Option Value :=
  match P.underlying t, x with
  | some .string, .string s => some (.int .i64 s.size)
  | some (.slice _), .slice _ n _ => some (.int .i64 n)
  | some (.map _ _), .map none => some (.int .i64 0)
  | some (.map _ _), .map (some r) => match H[r]? with | some (.map _ es) => some (.int .i64 es.length) | _ => none
  | _, _ => none

def clearA (H : Heap) (t : TypeId) (x : Value) : Option Heap :=
  match P.underlying t, x with
  | some (.slice _), .slice none _ _ => some H
  | some (.slice e), .slice (some ⟨b, o, none⟩) n _ =>
    if n = 0 then some H else
    match H[b]?, zeroA P e with
    | some (.cells c e' true), some z => if e' = e ∧ sz P e = some z.size ∧ 0 < z.size ∧ o + n * z.size ≤ c.size ∧ z.toList.all Value.oneCell' = true then some (H.setIfInBounds b (.cells (wr c o (zeros z (n * z.size)).toList) e true)) else none
    | _, _ => none
  | _, _ => none

def minA : List Value → Option Value
  | [.int k a, .int _ b] => some (.int k (if b < a then b else a))
  | _ => none
def maxA : List Value → Option Value
  | [.int k a, .int _ b] => some (.int k (if b > a then b else a))
  | _ => none

def convertA (H : Heap) (src dst : TypeId) (x : Value) : Option (Value × Heap) :=
  match P.underlying src, P.underlying dst, x with
  | some (.int _), some (.int k), .int _ n => some (.int k (k.wrap n), H)
  | some .string, some .string, .string s => some (.string s, H)
  | _, _, _ => none

def nilCheckA : Value → Option Value
  | .pointer (some a) => some (.pointer (some a))
  | .func (.func f) first captured => some (.func (.func f) first captured)
  | _ => none

def pickA (c a b : Value) : Option Value :=
  match c with
  | .bool t => some (if t then a else b)
  | _ => none

def extractA (i : Nat) : Value → Option Value
  | .tuple vs => if 2 ≤ vs.size then vs[i]? else none
  | _ => none

def noTuple : Value → Bool
  | .tuple _ => false
  | _ => true

def builtinA (H : Heap) (b : Builtin) (ts : List TypeId) (args : List Value) : Option (Value × Heap) :=
  match b, ts, args with
  | .append, [t0, t1], [s, x] => appendA P H t0 t1 s x
  | .len, [t], [x] => (lenA P H t x).map (·, H)
  | .clear, [t], [x] => (clearA P H t x).map (.tuple #[], ·)
  | .min, _, l => (minA l).map (·, H)
  | .max, _, l => (maxA l).map (·, H)
  | _, _, _ => none

/-- What an operation that is no call does: its value, and the heap. -/
def opA (r : Operand → Value) (o : Op) (H : Heap) : Option (Value × Heap) :=
  match o with
  | .move x | .assign x => some (r x, H)
  | .pick c a b => (pickA (r c) (r a) (r b)).map (·, H)
  | .alloc t => (zeroA P t).map (allocA t H)
  | .box t x => if noTuple (r x) then some (allocA t H (r x).cells) else none
  | .build t ps => if ps.toList.all fun p => noTuple (r p.2) then (buildA P t (ps.toList.map fun p => (p.1, r p.2))).map (·, H) else none
  | .buildSlice t n ps => if ps.toList.all fun p => noTuple (r p.2) then buildSliceA P t n (ps.toList.map fun p => (p.1, r p.2)) H else none
  | .load t a => (loadA P t H (r a)).map (·, H)
  | .store t a v => (storeA P t H (r a) (r v)).map (undef, ·)
  | .nilCheck x => (nilCheckA (r x)).map (·, H)
  | .binOp op t x y _ => (binA P op t (r x) (r y)).map (·, H)
  | .unOp op _ x => (unA op (r x)).map (·, H)
  | .convert s d x => convertA P H s d (r x)
  | .makeFunc f first cap => some (.func f (first.map r) (cap.map r), H)
  | .makeMap t none => makeMapA P t H
  | .makeSlice t l c => makeSliceA P t H (r l) (r c)
  | .slice t x lo hi mx => (sliceA P t H (r x) (lo.map r) (hi.map r) (mx.map r)).map (·, H)
  | .fieldAddr s x f => (fieldAddrA P s f (r x)).map (·, H)
  | .field s x f => (fieldA P s f (r x)).map (·, H)
  | .indexAddr t x i => (indexAddrA P t (r x) (r i)).map (·, H)
  | .index t x i => (indexA P t (r x) (r i)).map (·, H)
  | .lookup t m k ok => (lookupA P t H (r m) (r k) ok).map (·, H)
  | .mapUpdate t m k v | .insert t m k v => (mapUpdateA P t H (r m) (r k) (r v)).map (undef, ·)
  | .mapEntry t m k => mapEntryA P t H (r m) (r k)
  | .entryStore _ m s v => (entryStoreA P H (r m) (r s) (r v)).map (undef, ·)
  | .extract x i => (extractA i (r x)).map (·, H)
  | .call { callee := .builtin b, args, argTypes } => builtinA P H b argTypes.toList (args.toList.map r)
  | _ => none

/-- Is an operation a call of a function with a body (or one that has a contract)? Which, with what? -/
def calleeA (r : Operand → Value) (o : Op) : Option (FuncId × Array Value) :=
  match o with
  | .call { callee := .value f, args, .. } =>
    match r f with
    | .func (.func g) first captured => some (g, first ++ args.map r ++ captured)
    | _ => none
  | _ => none

end
end Go.AH
