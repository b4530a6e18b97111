/-
  PM, a machine of values alone over AH: its values and its operations.
-/
import Derived.Test.YtllmlcmhmkkgcaaLib2e
set_option linter.unusedVariables false
set_option linter.unusedSimpArgs false

/-
  PM: a machine of values alone, over AH: immutable trees, and what a function owns (lists that grow, maps, boxes) by the place that holds it. Its values, its instructions and what they do. Nothing of a program stands here.
-/
namespace Go.PM
open Go Go.AH

/-- Values that never change. -/
inductive RV where
  | bool (b : Bool)
  | int (k : IntKind) (i : Int)
  | str (s : ByteArray)
  | nilp
  | nilf
  | nilm
  | fn (f : FuncId) (first cap : List RV)
  | agg (cs : List RV)
  | sl (e : TypeId) (els : List RV)
  | mp (kt : TypeId) (ks vs : List RV)
  | bx (cs : List RV)
  deriving Inhabited

def RV.cells : RV → List RV
  | .agg cs => cs
  | v => [v]
def RV.isAgg : RV → Bool
  | .agg _ => true
  | _ => false

/-- A step of a path: a cell, an entry of a map. -/
inductive Sel where
  | c (o : Nat)
  | k (i : Nat)

/-- What a temporary holds: a value; something owned; another name for what stands at a place; an address within what stands there. -/
inductive TV where
  | v (x : RV)
  | sl (e : TypeId) (els : List RV)
  | mp (kt : TypeId) (ks : List RV) (vs : List TV)
  | bx (t : TypeId) (cs : List TV)
  | agg (cs : List TV)
  | als (r : Nat) (p : List Sel)
  | adr (r : Nat) (p : List Sel) (o k : Nat)
  | ade (r : Nat) (p : List Sel) (i o k : Nat)
  | win (r : Nat) (p : List Sel) (lo n : Nat)
  | tup (cs : List TV)
  | fn (f : FuncId) (first cap : List TV)
  | junk
  deriving Inhabited

mutual
/-- What is owned, as a value. -/
def TV.dem : TV → Option RV
  | .v x => some x
  | .sl e els => some (.sl e els)
  | .mp kt ks vs => (demL vs).map (.mp kt ks)
  | .bx _ cs => (demL cs).map .bx
  | .agg cs => (demL cs).map .agg
  | _ => none
def demL : List TV → Option (List RV)
  | [] => some []
  | t :: r => t.dem.bind fun x => (demL r).map (x :: ·)
end

def TV.child : TV → Sel → Option TV
  | .bx _ cs, .c o => cs[o]?
  | .agg cs, .c o => cs[o]?
  | .mp _ _ vs, .k i => vs[i]?
  | _, _ => none
def TV.setChild : TV → Sel → TV → TV
  | .bx t cs, .c o, u => .bx t (cs.set o u)
  | .agg cs, .c o, u => .agg (cs.set o u)
  | .mp kt ks vs, .k i, u => .mp kt ks (vs.set i u)
  | t, _, _ => t
def TV.get : TV → List Sel → Option TV
  | t, [] => some t
  | t, s :: p => (t.child s).bind (·.get p)
def TV.set : TV → List Sel → TV → TV
  | _, [], u => u
  | t, s :: p, u => match t.child s with | some w => t.setChild s (w.set p u) | none => t

def Sel.sim : Sel → Sel → Bool
  | .c a, .c b => a == b
  | .k _, .k _ => true
  | _, _ => false
def pre : List Sel → List Sel → Bool
  | [], _ => true
  | _ :: _, [] => false
  | a :: p, b :: q => a.sim b && pre p q
/-- Behind p, truly. -/
def spre : List Sel → List Sel → Bool
  | [], [] => false
  | [], _ :: _ => true
  | _ :: _, [] => false
  | a :: p, b :: q => a.sim b && spre p q

/-- Names and addresses that no longer hold are dropped. -/
def TV.clr1 (fa fd : Nat → List Sel → Bool) : TV → TV
  | .als r p => if fa r p then .junk else .als r p
  | .adr r p o k => if fd r p then .junk else .adr r p o k
  | .ade r p i o k => if fd r p then .junk else .ade r p i o k
  | .win r p lo n => if fd r p then .junk else .win r p lo n
  | t => t
def TV.clr (fa fd : Nat → List Sel → Bool) : TV → TV
  | .tup cs => .tup (cs.map (·.clr1 fa fd))
  | .fn f a c => .fn f (a.map (·.clr1 fa fd)) (c.map (·.clr1 fa fd))
  | t => t.clr1 fa fd

abbrev Tm := Nat → TV

/-- A temporary is written. -/
def Tm.put (T : Tm) (d : Nat) (t : TV) : Tm := fun x => TV.clr (fun r _ => r == d) (fun r _ => r == d) (if x = d then t else T x)
def Tm.putO (T : Tm) (d : Option Nat) (t : TV) : Tm :=
  match d with
  | some d => T.put d t
  | none => T
/-- What stands at a place is another thing now (g: and its inside is no more). -/
def Tm.upd (T : Tm) (r : Nat) (p : List Sel) (g : Bool) (s : TV) : Tm := fun x =>
  if x = r then (T r).set p s else TV.clr (fun r' q => r' == r && spre p q) (fun r' q => r' == r && (spre p q || g && pre p q)) (T x)

/-- What is still wanted. -/
def Tm.keep (T : Tm) (live : List Nat) : Tm := fun x => if live.contains x then TV.clr (fun r _ => !live.contains r) (fun r _ => !live.contains r) (T x) else .junk

inductive Opd where
  | t (x : Nat)
  | c (v : RV)

/-- A constant: a list that is none is one's own. -/
def own0 : RV → TV
  | .sl e [] => .sl e []
  | v => .v v

def TV.owned : TV → Bool
  | .sl .. | .mp .. | .bx .. | .agg .. => true
  | _ => false

def TV.leaf : TV → Bool
  | .tup _ | .fn .. => false
  | _ => true

def look1 (T : Tm) : TV → TV
  | .als r p => match (T r).get p with
    | some (.v x) => .v x
    | some u => if u.owned then .als r p else .junk
    | none => .junk
  | u => u
/-- What an operand is: a value, a place, an address .. -/
def look (T : Tm) : Opd → TV
  | .c v => own0 v
  | .t s => if (T s).owned then .als s [] else look1 T (T s)

def view1 (T : Tm) : TV → Option RV
  | .v x => some x
  | .sl e els => some (.sl e els)
  | .als r p => ((T r).get p).bind (·.dem)
  | .adr r p o k => match (T r).get p with
    | some (.bx _ cs) => if o + k ≤ cs.length then (demL ((cs.drop o).take k)).map .bx else none
    | _ => none
  | .ade r p i o k => match (T r).get p with
    | some (.sl _ els) => (els[i]?).bind fun x => if o + k ≤ x.cells.length then some (.bx ((x.cells.drop o).take k)) else none
    | _ => none
  | _ => none
def viewL (T : Tm) : List TV → Option (List RV)
  | [] => some []
  | t :: l => (view1 T t).bind fun x => (viewL T l).map (x :: ·)
def view0 (T : Tm) : TV → Option RV
  | .fn f a c => (viewL T a).bind fun a => (viewL T c).map fun c => .fn f a c
  | t => view1 T t
/-- An operand, as a value. -/
def view (T : Tm) (x : Opd) : Option RV := view0 T (look T x)

/-- Where an address leads. -/
inductive Ptr where
  | R (cs : List RV)
  | B (r : Nat) (p : List Sel) (o : Nat)
  | E (r : Nat) (p : List Sel) (i o : Nat)
def ptrOf (T : Tm) : TV → Option Ptr
  | .v (.bx cs) => some (.R cs)
  | .als r p => match (T r).get p with | some (.bx _ _) => some (.B r p 0) | _ => none
  | .adr r p o _ => some (.B r p o)
  | .ade r p i o _ => some (.E r p i o)
  | _ => none
def ptr (T : Tm) (x : Opd) : Option Ptr := ptrOf T (look T x)

/-- What is handed over: what is owned goes along. -/
def take (T : Tm) (x : Opd) : Option (TV × Tm) :=
  match x with
  | .c v => some (own0 v, T)
  | .t s =>
    if (T s).owned then some (T s, T.upd s [] true .junk) else
    match look T (.t s) with
    | .v x => some (.v x, T)
    | .als r p => ((T r).get p).bind fun u => u.dem.map fun x => (.v x, T.upd r p true (.v x))
    | _ => none

def TV.isJunk : TV → Bool
  | .junk => true
  | _ => false

def plainB : TV → Bool
  | .v _ => true
  | _ => false

/-- The cells of what is handed over. -/
def TV.cellsT : TV → List TV
  | .v (.agg xs) => xs.map .v
  | .agg cs => cs
  | u => [u]

def setR {α : Type} (cs : List α) (o : Nat) (vs : List α) : List α := cs.take o ++ vs ++ cs.drop (o + vs.length)

def mkCell (x : RV) (o : Nat) (vs : List RV) : RV :=
  match x with
  | .agg cs => .agg (setR cs o vs)
  | _ => match vs with | [v] => v | _ => x

/-- What '==' compares: truths, structs, pointers with none, lists with none, maps with none. -/
inductive EK where
  | b
  | s (sk : List Sk)
  | p | l | m
  deriving DecidableEq

inductive PI where
  | mv (x : Opd)
  | as (tr : Bool) (x : Opd)
  | pick (c a b : Opd)
  | alloc (t : TypeId) (zs : List RV)
  | box (t : TypeId) (x : Opd)
  | build (zs : List RV) (ps : List (Nat × Nat × Opd))
  | bsl (e : TypeId) (k : Nat) (ag : Bool) (z : RV) (n : Nat) (ps : List (Nat × Opd))
  | load (k : Option Nat) (a : Opd)
  | store (k : Nat) (a x : Opd)
  | fa (o k : Nat) (a : Opd)
  | ia (e : TypeId) (k : Nat) (x i : Opd)
  | iaA (len k : Nat) (x i : Opd)
  | fld (o : Nat) (k : Option Nat) (x : Opd)
  | idxS (x i : Opd)
  | idxA (len k : Nat) (agg : Bool) (x i : Opd)
  | bin (op : BinOp) (x y : Opd)
  | eqF (neg : Bool) (ek : EK) (x y : Opd)
  | un (op : UnOp) (x : Opd)
  | conv (k : IntKind) (x : Opd)
  | cnvS (x : Opd)
  | nilck (x : Opd)
  | len (w : Nat) (x : Opd)
  | app (e : TypeId) (bytes : Nat) (s x : Opd)
  | appI (e : TypeId) (bytes : Nat) (z : RV) (x : Opd)
  | sub (x : Opd) (lo hi : Option Opd)
  | slc (own : Bool) (e : TypeId) (x : Opd) (lo hi mx : Option Opd)
  | win (e : TypeId) (x : Opd) (lo hi : Option Opd)
  | clr (e : TypeId) (z : RV) (x : Opd)
  | lookup (kt : TypeId) (fk : Bool × List Sk) (z : RV) (ok : Bool) (m k : Opd)
  | mup (kt : TypeId) (fk : Bool × List Sk) (m k v : Opd)
  | ment (kt : TypeId) (fk : Bool × List Sk) (z : RV) (m k : Opd)
  | mst (kt : TypeId) (m s v : Opd)
  | mkmap (kt : TypeId)
  | mks (e : TypeId) (bytes : Nat) (z : RV) (l c : Opd)
  | mkfn (f : FuncId) (first cap : List Opd)
  | ext (x : Opd) (i : Nat)
  | mm (max : Bool) (x y : Opd)
  | call (f : Opd) (args : List (Bool × Opd))

/-- An operation: its guard, its place, and what must hold still ahead of it (where the order is drawn). -/
structure PO where
  g : Option (Nat × Bool)
  d : Option Nat
  i : PI
  nj : List Nat := []
  fl : List Nat := []

inductive PC where
  | skip
  | ops (l : List PO) (fin live : List Nat) (dr : Bool)
  | seq (a b : PC)
  | cond (c : Opd) (a b : PC)
  | block (id : Nat) (c : PC)
  | loop (c : PC)
  | exit (id : Nat)
  | ret

def intOf (T : Tm) (x : Opd) : Option (IntKind × Int) :=
  match look T x with
  | .v (.int k i) => some (k, i)
  | _ => none
def strOf (T : Tm) (x : Opd) : Option ByteArray :=
  match look T x with
  | .v (.str s) => some s
  | _ => none

def intP (op : BinOp) (k : IntKind) (a b : Int) : Option RV :=
  match op with
  | .add => some (.int k (k.wrap (a + b)))
  | .sub => some (.int k (k.wrap (a - b)))
  | .mul => some (.int k (k.wrap (a * b)))
  | .quo => if b = 0 then none else some (.int k (k.wrap (a.tdiv b)))
  | .rem => if b = 0 then none else some (.int k (a.tmod b))
  | .and => some (.int k (k.wrap (BitVec.ofInt k.bits a &&& BitVec.ofInt k.bits b).toNat))
  | .or => some (.int k (k.wrap (BitVec.ofInt k.bits a ||| BitVec.ofInt k.bits b).toNat))
  | .xor => some (.int k (k.wrap (BitVec.ofInt k.bits a ^^^ BitVec.ofInt k.bits b).toNat))
  | .andNot => some (.int k (k.wrap (BitVec.ofInt k.bits a &&& ~~~(BitVec.ofInt k.bits b)).toNat))
  | .shl => if b < 0 then none else some (.int k (k.wrap (a * 2 ^ (min b.toNat k.bits))))
  | .shr => if b < 0 then none else some (.int k (a.fdiv (2 ^ (min b.toNat k.bits))))
  | .eql => some (.bool (a == b)) | .neq => some (.bool (a != b))
  | .lss => some (.bool (decide (a < b))) | .leq => some (.bool (decide (a ≤ b)))
  | .gtr => some (.bool (decide (a > b))) | .geq => some (.bool (decide (a ≥ b)))

def strP (op : BinOp) (x y : ByteArray) : Option RV :=
  match op with
  | .add => if x.size + y.size ≤ 9223372036854775807 then some (.str (x ++ y)) else none
  | .eql => some (.bool (eqS x y))
  | .neq => some (.bool (!(eqS x y)))
  | .lss => some (.bool (Op.bytesLess x.data.toList y.data.toList))
  | .leq => some (.bool (Op.bytesLess x.data.toList y.data.toList || eqS x y))
  | .gtr => some (.bool !(Op.bytesLess x.data.toList y.data.toList || eqS x y))
  | .geq => some (.bool !(Op.bytesLess x.data.toList y.data.toList))
  | _ => none

/-- Flat values: scalars, structs of scalars. -/
def eqSc : RV → RV → Option Bool
  | .bool a, .bool b => some (a == b)
  | .int k a, .int k' b => some (k == k' && a == b)
  | .str a, .str b => some (eqS a b)
  | _, _ => none
def eqLs : List RV → List RV → Option Bool
  | [], [] => some true
  | a :: x, b :: y => (eqSc a b).bind fun e => (eqLs x y).map (e && ·)
  | _, _ => none
def eqFl : RV → RV → Option Bool
  | .agg x, .agg y => eqLs x y
  | x, y => eqSc x y

def fitR : Sk → RV → Bool
  | .b, .bool _ => true
  | .i k, .int k' _ => k == k'
  | .s, .str _ => true
  | _, _ => false
def fitL : List Sk → List RV → Bool
  | [], [] => true
  | k :: ks, v :: vs => fitR k v && fitL ks vs
  | _, _ => false
/-- Does a value fit a flat type's kinds? -/
def fitV (fk : Bool × List Sk) (x : RV) : Bool := fitL fk.2 x.cells && x.isAgg == fk.1

/-- Where a key stands. -/
def findK (k : RV) : List RV → Nat → Option Nat
  | [], _ => none
  | e :: r, i => if eqFl k e = some true then some i else findK k r (i + 1)

/-- '==' of two values that are no numbers and no texts. -/
def eqP (T : Tm) (ek : EK) (x y : TV) : Option Bool :=
  match ek, x, y with
  | .b, .v (.bool a), .v (.bool b) => some (a == b)
  | .s sk, .v (.agg a), .v (.agg b) => if fitL sk a && fitL sk b then eqLs a b else none
  | .p, .v .nilp, .v .nilp => some true
  | .p, .v (.bx _), .v .nilp => some false
  | .p, .als r p, .v .nilp => match (T r).get p with | some (.bx ..) => some false | _ => none
  | .p, .adr .., .v .nilp => some false
  | .p, .ade .., .v .nilp => some false
  | .m, .v .nilm, .v .nilm => some true
  | .m, .v (.mp ..), .v .nilm => some false
  | .m, .als r p, .v .nilm => match (T r).get p with | some (.mp ..) => some false | _ => none
  | .l, .v (.sl _ (_ :: _)), .sl _ [] => some false
  | .l, .als r p, .sl _ [] => match (T r).get p with | some (.sl _ (_ :: _)) => some false | _ => none
  | _, _, _ => none

/-- Parts of a struct or an array. -/
def fillT (T : Tm) (cs : List TV) : List (Nat × Nat × Opd) → Option (List TV × Tm)
  | [] => some (cs, T)
  | (o, k, x) :: ps => (take T x).bind fun (u, T1) => if u.cellsT.length = k ∧ o + k ≤ cs.length ∧ u.isJunk = false then fillT T1 (setR cs o u.cellsT) ps else none

/-- Elements of a list. -/
def elemsT (T : Tm) (k : Nat) (ag : Bool) (els : List RV) : List (Nat × Opd) → Option (List RV × Tm)
  | [] => some (els, T)
  | (i, x) :: ps => (take T x).bind fun (u, T1) => u.dem.bind fun y => if i < els.length ∧ y.cells.length = k ∧ y.isAgg = ag then elemsT T1 k ag (els.set i y) ps else none

def mkAgg (cs : List TV) : TV := if cs.all plainB then (match demL cs with | some xs => .v (.agg xs) | none => .junk) else .agg cs

def bndP (T : Tm) (x : Option Opd) (dflt y : Nat) : Option Nat :=
  match x with
  | none => some dflt
  | some x => match intOf T x with | some (_, i) => if 0 ≤ i ∧ i ≤ y then some i.toNat else none | none => none

/-- What a list of a type holds, read only. -/
def listOf (T : Tm) (e : TypeId) (x : Opd) : Option (List RV) :=
  match look T x with
  | .v (.sl e' els) => if e' = e then some els else none
  | .sl _ [] => some []
  | .als r p => match (T r).get p with | some (.sl e' els) => if e' = e then some els else none | _ => none
  | _ => none

/-- What an instruction that is no call does: its value, and the temporaries. -/
def exec (T : Tm) : PI → Option (TV × Tm)
  | .mv x => some (look T x, T)
  | .as tr x => match x with
    | .c v => some (own0 v, T)
    | .t s => if (T s).owned then some (T s, T.upd s [] true .junk) else match tr, look T (.t s) with
      | true, .als r [] => some (T r, T.upd r [] true .junk)
      | _, u => some (u, T)
  | .pick c a b => match look T c with | .v (.bool t) => some (if t then look T a else look T b, T) | _ => none
  | .alloc t zs => some (.bx t (zs.map own0), T)
  | .box t x => (take T x).bind fun (u, T1) => if u.isJunk then none else some (.bx t u.cellsT, T1)
  | .build zs ps => (fillT T (zs.map own0) ps).map fun (cs, T1) => (mkAgg cs, T1)
  | .bsl e k ag z n ps => (elemsT T k ag (List.replicate n z) ps).map fun (els, T1) => (.sl e els, T1)
  | .load k a => (ptr T a).bind fun
    | .R cs => match k with
      | none => (cs[0]?).map fun x => (.v x, T)
      | some k => if k ≤ cs.length then some (.v (.agg (cs.take k)), T) else none
    | .B r p o => match (T r).get p with
      | some (.bx t cs) => match k with
        | none => (cs[o]?).bind fun
          | .v x => some (.v x, T)
          | u => if u.owned then some (.als r (p ++ [.c o]), T) else none
        | some k => if o + k ≤ cs.length then (demL ((cs.drop o).take k)).map fun xs =>
            (.v (.agg xs), if ((cs.drop o).take k).all plainB then T else T.upd r p false (.bx t (setR cs o (xs.map .v)))) else none
      | _ => none
    | .E r p i o => match (T r).get p with
      | some (.sl _ els) => (els[i]?).bind fun x => match k with
        | none => (x.cells[o]?).map fun y => (.v y, T)
        | some k => if o + k ≤ x.cells.length then some (.v (.agg ((x.cells.drop o).take k)), T) else none
      | _ => none
  | .store k a x => (ptr T a).bind fun
    | .R _ => none
    | .B r p o => (take T x).bind fun (u, T1) => if u.cellsT.length = k ∧ u.isJunk = false then match (T1 r).get p with
      | some (.bx t cs) => if o + k ≤ cs.length then some (.tup [], T1.upd r p false (.bx t (setR cs o u.cellsT))) else none
      | _ => none else none
    | .E r p i o => (take T x).bind fun (u, T1) => (demL u.cellsT).bind fun vs => if vs.length = k then match (T1 r).get p with
      | some (.sl e els) => (els[i]?).bind fun x => if o + k ≤ x.cells.length then some (.tup [], T1.upd r p false (.sl e (els.set i (mkCell x o vs)))) else none
      | _ => none else none
  | .fa o k a => match look T a with
    | .v (.bx cs) => if o + k ≤ cs.length then some (.v (.bx ((cs.drop o).take k)), T) else none
    | .als r p => match (T r).get p with | some (.bx _ _) => some (.adr r p o k, T) | _ => none
    | .adr r p o' _ => some (.adr r p (o' + o) k, T)
    | .ade r p i o' _ => some (.ade r p i (o' + o) k, T)
    | _ => none
  | .ia e k x i => (intOf T i).bind fun (_, i) => match look T x with
    | .v (.sl e' els) => if 0 ≤ i ∧ e' = e then (els[i.toNat]?).map fun x => (.v (.bx x.cells), T) else none
    | .als r p => match (T r).get p with | some (.sl e' els) => if 0 ≤ i ∧ i < els.length ∧ e' = e then some (.ade r p i.toNat 0 k, T) else none | _ => none
    | .win r p lo n => match (T r).get p with | some (.sl e' _) => if 0 ≤ i ∧ i < n ∧ e' = e then some (.ade r p (lo + i.toNat) 0 k, T) else none | _ => none
    | _ => none
  | .iaA len k x i => (intOf T i).bind fun (_, i) => if 0 ≤ i ∧ i < len then match look T x with
    | .v (.bx cs) => if i.toNat * k + k ≤ cs.length then some (.v (.bx ((cs.drop (i.toNat * k)).take k)), T) else none
    | .als r p => match (T r).get p with | some (.bx _ _) => some (.adr r p (i.toNat * k) k, T) | _ => none
    | .adr r p o' _ => some (.adr r p (o' + i.toNat * k) k, T)
    | .ade r p j o' _ => some (.ade r p j (o' + i.toNat * k) k, T)
    | _ => none else none
  | .fld o k x => match look T x with
    | .v (.agg cs) => match k with
      | none => (cs[o]?).map fun y => (.v y, T)
      | some k => if o + k ≤ cs.length then some (.v (.agg ((cs.drop o).take k)), T) else none
    | _ => none
  | .idxS x i => (strOf T x).bind fun s => (intOf T i).bind fun (_, i) => if 0 ≤ i then (s[i.toNat]?).map fun b => (.v (.int .u8 b.toNat), T) else none
  | .idxA len k agg x i => (intOf T i).bind fun (_, i) => if 0 ≤ i ∧ i < len then match look T x with
    | .v (.agg cs) => if agg then (if i.toNat * k + k ≤ cs.length then some (.v (.agg ((cs.drop (i.toNat * k)).take k)), T) else none) else (cs[i.toNat * k]?).map fun y => (.v y, T)
    | _ => none else none
  | .bin op x y => match look T x, look T y with
    | .v (.int k a), .v (.int k' b) => if isShift op then (intP op k a b).map (.v ·, T) else if k = k' then (intP op k a b).map (.v ·, T) else none
    | .v (.str a), .v (.str b) => (strP op a b).map (.v ·, T)
    | _, _ => none
  | .eqF neg ek x y => (eqP T ek (look T x) (look T y)).map fun b => (.v (.bool (if neg then !b else b)), T)
  | .un op x => match look T x with
    | .v (.bool b) => match op with | .not => some (.v (.bool !b), T) | _ => none
    | .v (.int k n) => match op with | .neg => some (.v (.int k (k.wrap (0 - n))), T) | .xor => (intP .xor k (if k.signed then -1 else k.max) n).map (.v ·, T) | _ => none
    | _ => none
  | .conv k x => (intOf T x).map fun (_, n) => (.v (.int k (k.wrap n)), T)
  | .cnvS x => (strOf T x).map fun s => (.v (.str s), T)
  | .nilck x => match look T x with
    | .v (.bx cs) => some (.v (.bx cs), T)
    | .als r p => match (T r).get p with | some (.bx _ _) => some (.als r p, T) | _ => none
    | .adr r p o k => some (.adr r p o k, T)
    | .ade r p i o k => some (.ade r p i o k, T)
    | .v (.fn f a c) => some (.v (.fn f a c), T)
    | .fn f a c => some (.fn f a c, T)
    | _ => none
  | .len w x => match w, look T x with
    | 0, .v (.str s) => some (.v (.int .i64 s.size), T)
    | 1, .v (.sl _ els) => some (.v (.int .i64 els.length), T)
    | 1, .sl _ [] => some (.v (.int .i64 0), T)
    | 1, .als r p => match (T r).get p with
      | some (.sl _ els) => some (.v (.int .i64 els.length), T)
      | _ => none
    | 1, .win _ _ _ n => some (.v (.int .i64 n), T)
    | 2, .v .nilm => some (.v (.int .i64 0), T)
    | 2, .v (.mp _ ks _) => some (.v (.int .i64 ks.length), T)
    | 2, .als r p => match (T r).get p with
      | some (.mp _ ks _) => some (.v (.int .i64 ks.length), T)
      | _ => none
    | _, _ => none
  | .app e bytes s x => (listOf T e x).bind fun new => match look T s with
    | .sl _ [] => if new.length * bytes ≤ 140737488355328 ∧ new.length ≤ 9223372036854775807 then some (.sl e new, T) else none
    | .als r p => match (T r).get p with
      | some (.sl e' els) => if e' = e ∧ (els.length + new.length) * bytes ≤ 140737488355328 ∧ els.length + new.length ≤ 9223372036854775807 then some (.sl e (els ++ new), T.upd r p true .junk) else none
      | _ => none
    | _ => none
  | .appI e bytes z x => (intOf T x).bind fun (_, m) => if 0 ≤ m ∧ m ≤ 9223372036854775807 ∧ m.toNat * bytes ≤ 140737488355328 then some (.sl e (List.replicate m.toNat z), T) else none
  | .sub x lo hi => (strOf T x).bind fun s => (bndP T hi s.size s.size).bind fun h => (bndP T lo 0 h).map fun l => (.v (.str (s.extract l h)), T)
  | .slc own e x lo hi mx => match look T x with
    | .v (.sl e' els) => if e' ≠ e then none else (bndP T hi els.length els.length).bind fun h => (bndP T lo 0 h).bind fun l => if mx.isNone then some (.v (.sl e ((els.take h).drop l)), T) else none
    | .als r p => match (T r).get p with
      | some (.sl e' els) => if e' ≠ e then none else (bndP T hi els.length els.length).bind fun h => (bndP T lo 0 h).bind fun l =>
        if mx.isNone then (if own then (if l = 0 then some (.sl e (els.take h), T.upd r p true .junk) else none) else some (.v (.sl e ((els.take h).drop l)), T.upd r p true (.v (.sl e els)))) else none
      | _ => none
    | _ => none
  | .win e x lo hi => match look T x with
    | .als r p => match (T r).get p with
      | some (.sl e' els) => if e' ≠ e ∨ els = [] then none else (bndP T hi els.length els.length).bind fun h => (bndP T lo 0 h).bind fun l => some (.win r p l (h - l), T)
      | _ => none
    | _ => none
  | .clr e z x => match look T x with
    | .win r p lo n => match (T r).get p with
      | some (.sl e' els) => if e' ≠ e then none else some (.tup [], T.upd r p false (.sl e (els.take lo ++ List.replicate n z ++ els.drop (lo + n))))
      | _ => none
    | _ => none
  | .lookup kt fk z ok m k => (view T k).bind fun k => if !fitV fk k then none else match look T m with
    | .v .nilm => some (if ok then .tup [own0 z, .v (.bool false)] else own0 z, T)
    | .v (.mp kt' ks vs) => if kt' ≠ kt then none else match findK k ks 0 with
      | some i => (vs[i]?).map fun v => (if ok then .tup [.v v, .v (.bool true)] else .v v, T)
      | none => some (if ok then .tup [own0 z, .v (.bool false)] else own0 z, T)
    | .als r p => match (T r).get p with
      | some (.mp kt' ks vs) => if kt' ≠ kt then none else match findK k ks 0 with
        | some i => (vs[i]?).bind fun
          | .v v => some (if ok then .tup [.v v, .v (.bool true)] else .v v, T)
          | u => if u.owned then some (if ok then .tup [.als r (p ++ [.k i]), .v (.bool true)] else .als r (p ++ [.k i]), T) else none
        | none => some (if ok then .tup [own0 z, .v (.bool false)] else own0 z, T)
      | _ => none
    | _ => none
  | .mup kt fk m k v => (view T k).bind fun k => if !fitV fk k then none else match look T m with
    | .als r p => (take T v).bind fun (u, T1) => match (T1 r).get p with
      | some (.mp kt' ks vs) => if kt' ≠ kt then none else match findK k ks 0 with
        | some i => some (.tup [], T1.upd r p false (.mp kt ks (vs.set i u)))
        | none => some (.tup [], T1.upd r p false (.mp kt (ks ++ [k]) (vs ++ [u])))
      | _ => none
    | _ => none
  | .ment kt fk z m k => (view T k).bind fun k => if !fitV fk k then none else match look T m with
    | .als r p => match (T r).get p with
      | some (.mp kt' ks vs) => if kt' ≠ kt then none else match findK k ks 0 with
        | some i => (vs[i]?).bind fun
          | .v v => some (.tup [.v v, .v (.int .i64 i)], T)
          | u => if u.owned then some (.tup [.als r (p ++ [.k i]), .v (.int .i64 i)], T) else none
        | none => some (.tup [own0 z, .v (.int .i64 ks.length)], T.upd r p false (.mp kt (ks ++ [k]) (vs ++ [own0 z])))
      | _ => none
    | _ => none
  | .mst kt m s v => (intOf T s).bind fun (_, i) => match look T m with
    | .als r p => (take T v).bind fun (u, T1) => match (T1 r).get p with
      | some (.mp kt' ks vs) => if 0 ≤ i ∧ i < vs.length ∧ kt' = kt then some (.tup [], T1.upd r p false (.mp kt ks (vs.set i.toNat u))) else none
      | _ => none
    | _ => none
  | .mkmap kt => some (.mp kt [] [], T)
  | .mks e bytes z l c => (intOf T l).bind fun (_, l) => (intOf T c).bind fun (_, c) => if 0 ≤ l ∧ l ≤ c ∧ c * bytes ≤ 140737488355328 ∧ c ≤ 9223372036854775807 then some (.sl e (List.replicate l.toNat z), T) else none
  | .mkfn f first cap => if (first.map (look T)).all TV.leaf && (cap.map (look T)).all TV.leaf then some (.fn f (first.map (look T)) (cap.map (look T)), T) else none
  | .ext x i => match look T x with
    | .tup cs => (if 2 ≤ cs.length then cs[i]? else none).map fun u => (u, T)
    | _ => none
  | .mm mx x y => match look T x, look T y with
    | .v (.int k a), .v (.int _ b) => some (.v (.int k (if mx then (if b > a then b else a) else (if b < a then b else a))), T)
    | _, _ => none
  | .call .. => none


/-! ### Code -/
/-- What a call comes to: the arguments (what is owned goes in, and comes out again), the results, what came out. -/
abbrev CR := FuncId → List TV → List TV → List TV → Prop

def wantP (T : Tm) : Option (Nat × Bool) → Option Bool
  | none => some true
  | some (d, w) => match T d with
    | .v (.bool b) => some (b == w)
    | .tup [] => some false
    | _ => none

mutual
/-- No part of it lies in memory. -/
def RV.flat : RV → Bool
  | .bool _ | .int .. | .str _ | .nilp | .nilf | .nilm => true
  | .agg cs => flatLs cs
  | _ => false
def flatLs : List RV → Bool
  | [] => true
  | x :: l => x.flat && flatLs l
end
/-- Its elements do not lie in memory (and it lies in its own). -/
def TV.lone : TV → Bool
  | .v x => x.flat
  | .sl _ els => els.all RV.flat
  | .junk => true
  | _ => false

/-- Arguments. -/
def argP (T : Tm) : Bool × Opd → Option TV
  | (false, x) => (view T x).map .v
  | (true, x) => match look T x with
    | .als r p => (T r).get p
    | _ => none
def argsP (T : Tm) : List (Bool × Opd) → Option (List TV)
  | [] => some []
  | x :: l => (argP T x).bind fun a => (argsP T l).map (a :: ·)

/-- The places that arguments name. -/
def plc1 : TV → List (Nat × List Sel)
  | .als r p | .adr r p _ _ | .ade r p _ _ _ | .win r p _ _ => [(r, p)]
  | _ => []
def plcs : TV → List (Nat × List Sel)
  | .fn _ a c => a.flatMap plc1 ++ c.flatMap plc1
  | t => plc1 t
def apartB (a b : Nat × List Sel) : Bool := a.1 != b.1
def seen (T : Tm) (l : List (Bool × Opd)) : List (Nat × List Sel) := l.flatMap fun x => if x.1 then [] else plcs (look T x.2)
def muts (T : Tm) (l : List (Bool × Opd)) : List (Nat × List Sel) := l.flatMap fun x => if x.1 then plc1 (look T x.2) else []
def pairwiseB : List (Nat × List Sel) → Bool
  | [] => true
  | a :: l => l.all (apartB a) && pairwiseB l

def frz : List (Nat × List Sel) → Tm → Option Tm
  | [], T => some T
  | (r, p) :: l, T => ((T r).get p).bind fun u => if u.owned then u.dem.bind fun x => frz l (T.upd r p true (.v x)) else none

def junkAll : List (Nat × List Sel) → Tm → Tm
  | [], T => T
  | (r, p) :: l, T => junkAll l (T.upd r p true .junk)
/-- What came out is put back. -/
def back : List (Bool × Opd) → List TV → Tm → Tm → Option Tm
  | [], [], _, T => some T
  | (false, _) :: l, _ :: us, T0, T => back l us T0 T
  | (true, x) :: l, u :: us, T0, T => match look T0 x with
    | .als r p => back l us T0 (T.upd r p true u)
    | _ => none
  | _, _, _, _ => none

/-- What came out where something went in to be changed. -/
def mask : List (Bool × Opd) → List TV → List TV
  | (false, _) :: l, _ :: us => .junk :: mask l us
  | (true, _) :: l, u :: us => u :: mask l us
  | _, _ => []

def resT : List TV → TV
  | [x] => x
  | l => .tup (l.map fun u => match u.dem with | some x => .v x | none => .junk)

def fnOf (T : Tm) (f : Opd) : Option (FuncId × List RV × List RV) :=
  match view T f with
  | some (.fn g a c) => some (g, a, c)
  | _ => none

def callP (C : CR) (T : Tm) (f : Opd) (args : List (Bool × Opd)) (K : TV → Tm → Prop) : Prop :=
  ∃ l T1 g a c as res outs T2, frz l T = some T1 ∧ fnOf T1 f = some (g, a, c) ∧ argsP T1 args = some as ∧ C g (a.map .v ++ as ++ c.map .v) res (a.map .v ++ outs ++ c.map .v) ∧ outs.length = as.length ∧
    pairwiseB (muts T1 args) = true ∧ ((muts T1 args).all fun m => (seen T1 args ++ plcs (look T1 f)).all (apartB m)) = true ∧
    ((res.all TV.lone = true ∧ (mask args outs).all TV.lone = true) ∨ seen T1 args ++ plcs (look T1 f) = []) ∧ back args outs T1 (junkAll (muts T1 args) T1) = some T2 ∧ K (resT res) T2

/-- Is a list, of which it isn't told whether it is none or empty, held against none? -/
def mayEq (T : Tm) : PI → Bool
  | .eqF _ .l x (.c (.sl _ [])) => match look T x with
    | .v (.sl _ []) | .sl _ [] => true
    | .als r p => match (T r).get p with | some (.sl _ []) => true | _ => false
    | _ => false
  | _ => false

def stepP (C : CR) (T : Tm) (i : PI) (K : TV → Tm → Prop) : Prop :=
  match i with
  | .call f args => callP C T f args K
  | i => match exec T i with
    | some (v, T') => K v T'
    | none => mayEq T i = true ∧ K (.v (.bool true)) T ∧ K (.v (.bool false)) T

/-- Names and addresses that still hold. -/
def okL : TV → Tm → Bool
  | .v (.fn ..), _ => false
  | .v (.agg cs), _ => cs.all fun | .fn .. | .agg _ => false | _ => true
  | .v _, _ => true
  | .adr .., _ | .ade .., _ | .win .., _ | .sl _ [], _ => true
  | .als r p, T => match (T r).get p with | some (.sl ..) | some (.mp ..) | some (.bx ..) => true | _ => false
  | _, _ => false
def flatT : TV → Bool
  | .v y => y.flat
  | _ => false
def still (T : Tm) (l : List Nat) : Bool := l.all fun x => okL (look T (.t x)) T
def stillF (T : Tm) (l : List Nat) : Bool := l.all fun x => flatT (look T (.t x))

def opsP (C : CR) : List PO → Tm → (Tm → Prop) → Prop
  | [], T, Q => Q T
  | o :: l, T, Q => (still T o.nj && stillF T o.fl) = true ∧ match wantP T o.g with
    | some true => stepP C T o.i fun v T' => opsP C l (T'.putO o.d v) Q
    | some false => opsP C l (T.putO o.d (.tup [])) Q
    | none => False

abbrev PPost := Ex → Tm → Prop

def thenP (K : Tm → Prop) (Q : PPost) : PPost := fun e T =>
  match e with
  | .normal => K T
  | e => Q e T
def blockP (id : Nat) (Q : PPost) : PPost := fun e T =>
  match e with
  | .exit id' => if id' = id then Q .normal T else Q (.exit id') T
  | e => Q e T

def codeP (C : CR) : PC → PPost → Tm → Prop
  | .skip, Q, T => Q .normal T
  | .ops l fin live _, Q, T => opsP C l T fun T => still T fin = true ∧ Q .normal (T.keep live)
  | .seq a b, Q, T => codeP C a (thenP (codeP C b Q) Q) T
  | .cond c a b, Q, T => match look T c with
    | .v (.bool true) => codeP C a Q T
    | .v (.bool false) => codeP C b Q T
    | _ => False
  | .block id c, Q, T => codeP C c (blockP id Q) T
  | .loop c, Q, T => ∀ I : Tm → Prop, (∀ T, codeP C c (thenP I Q) T → I T) → I T
  | .exit id, Q, T => Q (.exit id) T
  | .ret, Q, T => Q .ret T

/-- The temporaries at the beginning: what is owned lies behind them. -/
def enterP (nt : Nat) (args : List TV) : Tm := fun x =>
  if x < args.length then (match args[x]? with | some (.v y) => .v y | some _ => .als (nt + x) [] | none => .junk)
  else if x < nt then .junk
  else match args[x - nt]? with | some (.v _) | none => .junk | some u => u
def TV.fix : TV → TV
  | .als .. | .adr .. | .ade .. | .win .. | .tup _ | .fn .. => .junk
  | u => u
def outP (nt : Nat) : List TV → Nat → Tm → List TV
  | [], _, _ => []
  | .v x :: l, i, T => .v x :: outP nt l (i + 1) T
  | _ :: l, i, T => (T (nt + i)).fix :: outP nt l (i + 1) T

inductive PR where
  | t (x : Nat)
  | c (a : Nat) (k : Option Nat)

/-- A result: what is owned goes along. -/
def resP (T : Tm) : PR → Option (TV × Tm)
  | .t s => if (T s).owned then some (T s, T.upd s [] true .junk) else match look T (.t s) with
    | .v x => some (.v x, T)
    | .als r [] => some (T r, T.upd r [] true .junk)
    | .als r p => ((T r).get p).bind fun u => u.dem.map fun x => (.v x, T.upd r p true (.v x))
      | _ => none
  | .c a k => (exec T (.load k (.t a))).bind fun (u, T1) => match u with
    | .v x => some (.v x, T1)
    | .als r p => ((T1 r).get p).bind fun w => w.dem.map fun x => (.v x, T1.upd r p true (.v x))
    | _ => none
def ressP (T : Tm) : List PR → Option (List TV × Tm)
  | [] => some ([], T)
  | r :: l => (resP T r).bind fun (u, T1) => (ressP T1 l).map fun (us, T2) => (u :: us, T2)

def retP (nt : Nat) (args : List TV) (rs : List PR) (Q : List TV → List TV → Prop) : PPost := fun e T =>
  (e = .normal ∨ e = .ret) ∧ ∃ res T', ressP T rs = some (res, T') ∧ Q res (outP nt args 0 T')

end Go.PM

/-
  PM: how its values and temporaries stand to AH's; what a place is there; temporaries written, places changed.
-/
namespace Go.PM
open Go Go.AH
variable {P : Program} {H H' : Heap} {Z Z' : Nat → Prop}

/-- All are one cell. -/
def ones (x : Array Value) : Prop := x.toList.all Value.oneCell' = true

/-- Values that never change, in blocks of Z. -/
inductive RR (P : Program) (H : Heap) (Z : Nat → Prop) : RV → Value → Prop
  | bool (b : Bool) : RR P H Z (.bool b) (.bool b)
  | int (k : IntKind) (i : Int) : RR P H Z (.int k i) (.int k i)
  | str (s : ByteArray) : RR P H Z (.str s) (.string s)
  | nilp : RR P H Z .nilp (.pointer none)
  | nilf : RR P H Z .nilf .nilFunc
  | nilm : RR P H Z .nilm (.map none)
  | fn {f : FuncId} {a c : List RV} {x y : Array Value} (ha : a.length = x.size) (hc : c.length = y.size)
      (h1 : ∀ i (h : i < a.length) (h' : i < x.size), RR P H Z a[i] x[i]) (h2 : ∀ i (h : i < c.length) (h' : i < y.size), RR P H Z c[i] y[i]) : RR P H Z (.fn f a c) (.func (.func f) x y)
  | agg {cs : List RV} {x : Array Value} (h1 : ones x) (hl : cs.length = x.size) (h : ∀ i (h : i < cs.length) (h' : i < x.size), RR P H Z cs[i] x[i]) : RR P H Z (.agg cs) (.agg x)
  | slN (e : TypeId) : RR P H Z (.sl e []) (.slice none 0 0)
  | sl {e : TypeId} {els : List RV} {b o c k : Nat} {cs : Array Value} {rw ag : Bool} (h1 : ones cs) (hz : Z b) (hb : H[b]? = some (.cells cs e rw)) (hk : sz P e = some k) (hag : isAggA P e = some ag) (hc : els.length ≤ c) (hcap : c = capU ∨ c < capU)
      (hle : o + els.length * k ≤ cs.size) (hs : ∀ i (h : i < els.length), (els[i].cells).length = k ∧ els[i].isAgg = ag)
      (h : ∀ i j (h1 : i < els.length) (h2 : j < (els[i].cells).length) (h3 : o + i * k + j < cs.size), RR P H Z (els[i].cells)[j] cs[o + i * k + j]) : RR P H Z (.sl e els) (.slice (some ⟨b, o, none⟩) els.length c)
  | mp {kt : TypeId} {ks vs : List RV} {r : Nat} {es : List (Value × Value)} (hz : Z r) (hb : H[r]? = some (.map kt es)) (hk : ks.length = es.length) (hv : vs.length = es.length)
      (h1 : ∀ i (h : i < ks.length) (h' : i < es.length), RR P H Z ks[i] es[i].1) (h2 : ∀ i (h : i < vs.length) (h' : i < es.length), RR P H Z vs[i] es[i].2) : RR P H Z (.mp kt ks vs) (.map (some r))
  | bx {cs : List RV} {b o : Nat} {c : Array Value} {t : TypeId} {rw : Bool} (h1 : ones c) (hz : Z b) (hb : H[b]? = some (.cells c t rw)) (hle : o + cs.length ≤ c.size)
      (h : ∀ i (h : i < cs.length) (h' : o + i < c.size), RR P H Z cs[i] c[o + i]) : RR P H Z (.bx cs) (.pointer (some ⟨b, o, none⟩))

/-- Rows of them. -/
def RRs (P : Program) (H : Heap) (Z : Nat → Prop) (l : List RV) (x : List Value) : Prop := l.length = x.length ∧ ∀ i (h : i < l.length) (h' : i < x.length), RR P H Z l[i] x[i]

theorem RR.mono (hz : ∀ b, Z b → Z' b ∧ H'[b]? = H[b]?) {x : RV} {a : Value} (h : RR P H Z x a) : RR P H' Z' x a := by
  induction h with
  | bool b => exact .bool b
  | int k i => exact .int k i
  | str s => exact .str s
  | nilp => exact .nilp
  | nilf => exact .nilf
  | nilm => exact .nilm
  | fn ha hc _ _ i1 i2 => exact .fn ha hc i1 i2
  | agg h1 hl _ i => exact .agg h1 hl i
  | slN e => exact .slN e
  | sl h0 h1 hb hk hag hc hcap hle hs _ i => exact .sl h0 (hz _ h1).1 ((hz _ h1).2.trans hb) hk hag hc hcap hle hs i
  | mp h1 hb hk hv _ _ i1 i2 => exact .mp (hz _ h1).1 ((hz _ h1).2.trans hb) hk hv i1 i2
  | bx h0 h1 hb hle _ i => exact .bx h0 (hz _ h1).1 ((hz _ h1).2.trans hb) hle i

mutual
/-- What is owned, and the blocks that it owns. -/
inductive OV (P : Program) (H : Heap) (Z : Nat → Prop) : TV → Value → List Nat → Prop
  | v {x : RV} {a : Value} (h : RR P H Z x a) : OV P H Z (.v x) a []
  | junk (a : Value) : OV P H Z .junk a []
  | slN (e : TypeId) : OV P H Z (.sl e []) (.slice none 0 0) []
  | sl {e : TypeId} {els : List RV} {b c k : Nat} {cs : Array Value} {ag : Bool} (h1 : ones cs) (hb : H[b]? = some (.cells cs e true)) (hk : sz P e = some k) (hag : isAggA P e = some ag) (hc : els.length ≤ c) (hcap : c = capU ∨ (c < capU ∧ c * k ≤ cs.size))
      (hle : els.length * k ≤ cs.size) (hs : ∀ i (h : i < els.length), (els[i].cells).length = k ∧ els[i].isAgg = ag)
      (h : ∀ i j (h1 : i < els.length) (h2 : j < (els[i].cells).length) (h3 : i * k + j < cs.size), RR P H Z (els[i].cells)[j] cs[i * k + j]) : OV P H Z (.sl e els) (.slice (some ⟨b, 0, none⟩) els.length c) [b]
  | mp {kt : TypeId} {ks : List RV} {vs : List TV} {r : Nat} {es : List (Value × Value)} {f : List Nat} (hb : H[r]? = some (.map kt es)) (hk : RRs P H Z ks (es.map (·.1))) (hv : OVL P H Z vs (es.map (·.2)) f) : OV P H Z (.mp kt ks vs) (.map (some r)) (r :: f)
  | bx {t : TypeId} {cs : List TV} {b : Nat} {c : Array Value} {f : List Nat} (h1 : ones c) (hb : H[b]? = some (.cells c t true)) (h : OVL P H Z cs c.toList f) : OV P H Z (.bx t cs) (.pointer (some ⟨b, 0, none⟩)) (b :: f)
  | agg {cs : List TV} {x : Array Value} {f : List Nat} (h1 : ones x) (h : OVL P H Z cs x.toList f) : OV P H Z (.agg cs) (.agg x) f
inductive OVL (P : Program) (H : Heap) (Z : Nat → Prop) : List TV → List Value → List Nat → Prop
  | nil : OVL P H Z [] [] []
  | cons {t : TV} {a : Value} {f : List Nat} {ts : List TV} {as : List Value} {g : List Nat} (h : OV P H Z t a f) (r : OVL P H Z ts as g) : OVL P H Z (t :: ts) (a :: as) (f ++ g)
end

mutual
theorem OV.mono (hz : ∀ b, Z b → Z' b ∧ H'[b]? = H[b]?) {t : TV} {a : Value} {f : List Nat} (hf : ∀ b ∈ f, H'[b]? = H[b]?) (h : OV P H Z t a f) : OV P H' Z' t a f := by
  cases h with
  | v h => exact .v (h.mono hz)
  | junk => exact .junk _
  | slN e => exact .slN e
  | sl h0 hb hk hag hc hcap hle hs h => exact .sl h0 ((hf _ (by simp)).trans hb) hk hag hc hcap hle hs fun i j h1 h2 h3 => (h i j h1 h2 h3).mono hz
  | mp hb hk hv => exact .mp ((hf _ (by simp)).trans hb) ⟨hk.1, fun i h h' => (hk.2 i h h').mono hz⟩ (hv.mono hz fun b hb => hf b (by simp [hb]))
  | bx h0 hb h => exact .bx h0 ((hf _ (by simp)).trans hb) (h.mono hz fun b hb => hf b (by simp [hb]))
  | agg h0 h => exact .agg h0 (h.mono hz hf)
theorem OVL.mono (hz : ∀ b, Z b → Z' b ∧ H'[b]? = H[b]?) {t : List TV} {a : List Value} {f : List Nat} (hf : ∀ b ∈ f, H'[b]? = H[b]?) (h : OVL P H Z t a f) : OVL P H' Z' t a f := by
  cases h with
  | nil => exact .nil
  | cons h r => exact .cons (h.mono hz fun b hb => hf b (by simp [hb])) (r.mono hz fun b hb => hf b (by simp [hb]))
end

mutual
theorem OV.lt {t : TV} {a : Value} {f : List Nat} (h : OV P H Z t a f) : ∀ b ∈ f, b < H.size := by
  have key : ∀ {b : Nat} {x : Blk}, H[b]? = some x → b < H.size := fun e => (Array.getElem?_eq_some_iff.1 e).1
  cases h with
  | v h => simp
  | junk => simp
  | slN e => simp
  | sl _ hb => intro b h; simp at h; subst h; exact key hb
  | mp hb hk hv => intro b h; rcases List.mem_cons.1 h with rfl | h; exact key hb; exact hv.lt b h
  | bx _ hb hv => intro b h; rcases List.mem_cons.1 h with rfl | h; exact key hb; exact hv.lt b h
  | agg _ h => exact h.lt
theorem OVL.lt {t : List TV} {a : List Value} {f : List Nat} (h : OVL P H Z t a f) : ∀ b ∈ f, b < H.size := by
  cases h with
  | nil => simp
  | cons h r => intro b hb; rcases List.mem_append.1 hb with hb | hb; exact h.lt b hb; exact r.lt b hb
end

theorem OVL.length {t : List TV} {a : List Value} {f : List Nat} : OVL P H Z t a f → t.length = a.length
  | .nil => rfl
  | .cons _ r => by simp [r.length]

theorem set_self {α : Type} : ∀ {l : List α} {i : Nat} {x : α}, l[i]? = some x → l.set i x = l
  | [], _, _, h => by simp at h
  | y :: l, 0, x, h => by simp at h; simp [h]
  | y :: l, i + 1, x, h => by simp at h; simp [set_self h]

/-- An element of a row, and the row with another one instead. -/
theorem OVL.focus : ∀ {t : List TV} {a : List Value} {f : List Nat} {i : Nat} {s : TV}, OVL P H Z t a f → t[i]? = some s →
    ∃ as g1 fs g2, a[i]? = some as ∧ f = g1 ++ fs ++ g2 ∧ OV P H Z s as fs ∧
      (∀ j u, j ≠ i → t[j]? = some u → ∃ au fu, a[j]? = some au ∧ OV P H Z u au fu ∧ ∀ b ∈ fu, b ∈ g1 ∨ b ∈ g2) ∧
      ∀ (H' : Heap) (Z' : Nat → Prop) (s' : TV) (as' : Value) (fs' : List Nat), (∀ b, Z b → Z' b ∧ H'[b]? = H[b]?) → (∀ b, b ∈ g1 ∨ b ∈ g2 → H'[b]? = H[b]?) → OV P H' Z' s' as' fs' →
      OVL P H' Z' (t.set i s') (a.set i as') (g1 ++ fs' ++ g2)
  | _, _, _, i, s, .nil, h => by simp at h
  | _, _, _, 0, s, .cons (f := f) (g := g) h r, e => by
    simp at e; subst e
    refine ⟨_, [], f, g, rfl, by simp, h, fun j u hj hu => ?_, fun H' Z' s' as' fs' hz hf h' => by simpa using OVL.cons h' (r.mono hz fun b hb => hf b (.inr hb))⟩
    cases j with
    | zero => exact absurd rfl hj
    | succ j =>
      obtain ⟨au, g1, fu, g2, e1, e2, e3, _⟩ := r.focus (i := j) (by simpa using hu)
      exact ⟨au, fu, by simpa using e1, e3, fun b hb => .inr (by rw [e2]; simp [hb])⟩
  | _, _, _, i + 1, s, .cons (f := f) (g := g) h r, e => by
    obtain ⟨as, g1, fs, g2, e1, rfl, e2, e4, e3⟩ := r.focus (i := i) (by simpa using e)
    refine ⟨as, f ++ g1, fs, g2, by simpa using e1, by simp, e2, fun j u hj hu => ?_, fun H' Z' s' as' fs' hz hf h' => by
      have := OVL.cons (h.mono hz fun b hb => hf b (.inl (by simp [hb]))) (e3 H' Z' s' as' fs' hz (fun b hb => hf b (hb.imp (fun h => by simp [h]) id)) h')
      simpa using this⟩
    cases j with
    | zero =>
      simp at hu; subst hu
      exact ⟨_, f, rfl, h, fun b hb => .inl (by simp [hb])⟩
    | succ j =>
      obtain ⟨au, fu, a1, a2, a3⟩ := e4 j u (by omega) (by simpa using hu)
      exact ⟨au, fu, by simpa using a1, a2, fun b hb => (a3 b hb).imp (fun h => by simp [h]) id⟩

/-! ### Places -/
def childA (H : Heap) : Value → Sel → Option Value
  | .pointer (some ⟨b, 0, none⟩), .c o => match H[b]? with | some (.cells c _ _) => c[o]? | _ => none
  | .agg cs, .c o => cs[o]?
  | .map (some r), .k i => match H[r]? with | some (.map _ es) => (es[i]?).map (·.2) | _ => none
  | _, _ => none
def plA (H : Heap) : Value → List Sel → Option Value
  | a, [] => some a
  | a, s :: p => (childA H a s).bind (plA H · p)

/-- One step down. -/
theorem OV.step {t s : TV} {a : Value} {f : List Nat} {q : Sel} (h : OV P H Z t a f) (e : t.child q = some s) :
    ∃ as g1 fs g2, childA H a q = some as ∧ f = g1 ++ fs ++ g2 ∧ OV P H Z s as fs ∧
      (∀ j u, j ≠ q → t.child j = some u → ∃ au fu, childA H a j = some au ∧ OV P H Z u au fu ∧ ∀ b ∈ fu, b ∈ g1 ∨ b ∈ g2) ∧
      (∀ H' : Heap, (∀ b, b ∈ g1 ∨ b ∈ g2 → H'[b]? = H[b]?) → ∀ j u, t.child j = some u → childA H' a j = childA H a j) ∧
      ∀ (H' : Heap) (Z' : Nat → Prop) (s' : TV) (fs' : List Nat), (∀ b, Z b → Z' b ∧ H'[b]? = H[b]?) → (∀ b, b ∈ g1 ∨ b ∈ g2 → H'[b]? = H[b]?) → OV P H' Z' s' as fs' → OV P H' Z' (t.setChild q s') a (g1 ++ fs' ++ g2) := by
  cases h with
  | v h => simp [TV.child] at e
  | junk => simp [TV.child] at e
  | slN => simp [TV.child] at e
  | sl => simp [TV.child] at e
  | @mp kt ks vs r es f hb hk hv =>
    cases q with
    | c o => simp [TV.child] at e
    | k i =>
      obtain ⟨as, g1, fs, g2, e1, rfl, e2, e4, e3⟩ := hv.focus (i := i) (by simpa [TV.child] using e)
      have e1' : (es[i]?).map (·.2) = some as := by simpa using e1
      refine ⟨as, r :: g1, fs, g2, by simp [childA, hb, e1'], by simp, e2, fun j u hj hu => ?_, fun H' hf j u hu => ?_, fun H' Z' s' fs' hz hf h' => ?_⟩
      · cases j with
        | c o => simp [TV.child] at hu
        | k j =>
          obtain ⟨au, fu, a1, a2, a3⟩ := e4 j u (fun h => hj (by rw [h])) (by simpa [TV.child] using hu)
          have a1' : (es[j]?).map (·.2) = some au := by simpa using a1
          exact ⟨au, fu, by simp [childA, hb, a1'], a2, fun b hb => (a3 b hb).imp (fun h => by simp [h]) id⟩
      · have hb' : H'[r]? = some (.map kt es) := (hf r (.inl (by simp))).trans hb
        cases j with
        | c o => simp [TV.child] at hu
        | k j => simp [childA, hb, hb']
      · have hb' : H'[r]? = some (.map kt es) := (hf r (.inl (by simp))).trans hb
        have := e3 H' Z' s' as fs' hz (fun b hb => hf b (hb.imp (fun h => by simp [h]) id)) h'
        rw [set_self e1] at this
        have hk' : RRs P H' Z' ks (es.map (·.1)) := ⟨hk.1, fun i h h' => (hk.2 i h h').mono hz⟩
        simpa [TV.setChild] using OV.mp hb' hk' this
  | @bx ty cs b c f h0 hb hv =>
    cases q with
    | k o => simp [TV.child] at e
    | c i =>
      obtain ⟨as, g1, fs, g2, e1, rfl, e2, e4, e3⟩ := hv.focus (i := i) (by simpa [TV.child] using e)
      have e1' : c[i]? = some as := by simpa using e1
      refine ⟨as, b :: g1, fs, g2, by simp [childA, hb, e1'], by simp, e2, fun j u hj hu => ?_, fun H' hf j u hu => ?_, fun H' Z' s' fs' hz hf h' => ?_⟩
      · cases j with
        | k o => simp [TV.child] at hu
        | c j =>
          obtain ⟨au, fu, a1, a2, a3⟩ := e4 j u (fun h => hj (by rw [h])) (by simpa [TV.child] using hu)
          have a1' : c[j]? = some au := by simpa using a1
          exact ⟨au, fu, by simp [childA, hb, a1'], a2, fun b hb => (a3 b hb).imp (fun h => by simp [h]) id⟩
      · have hb' : H'[b]? = some (.cells c ty true) := (hf b (.inl (by simp))).trans hb
        cases j with
        | k o => simp [TV.child] at hu
        | c j => simp [childA, hb, hb']
      · have hb' : H'[b]? = some (.cells c ty true) := (hf b (.inl (by simp))).trans hb
        have := e3 H' Z' s' as fs' hz (fun b hb => hf b (hb.imp (fun h => by simp [h]) id)) h'
        rw [set_self e1] at this
        simpa [TV.setChild] using OV.bx h0 hb' this
  | @agg cs c f h0 hv =>
    cases q with
    | k o => simp [TV.child] at e
    | c i =>
      obtain ⟨as, g1, fs, g2, e1, rfl, e2, e4, e3⟩ := hv.focus (i := i) (by simpa [TV.child] using e)
      have e1' : c[i]? = some as := by simpa using e1
      refine ⟨as, g1, fs, g2, by simp [childA, e1'], rfl, e2, fun j u hj hu => ?_, fun H' hf j u hu => ?_, fun H' Z' s' fs' hz hf h' => ?_⟩
      · cases j with
        | k o => simp [TV.child] at hu
        | c j =>
          obtain ⟨au, fu, a1, a2, a3⟩ := e4 j u (fun h => hj (by rw [h])) (by simpa [TV.child] using hu)
          have a1' : c[j]? = some au := by simpa using a1
          exact ⟨au, fu, by simp [childA, a1'], a2, a3⟩
      · cases j with
        | k o => simp [TV.child] at hu
        | c j => simp [childA]
      · have := e3 H' Z' s' as fs' hz hf h'
        rw [set_self e1] at this
        simpa [TV.setChild] using OV.agg h0 this

/-- The way to a place hangs on what is owned alone. -/
theorem OV.plA_frame : ∀ {q : List Sel} {t w : TV} {a : Value} {f : List Nat}, OV P H Z t a f → (∀ b ∈ f, H'[b]? = H[b]?) → t.get q = some w → plA H' a q = plA H a q
  | [], t, w, a, f, _, _, _ => rfl
  | s :: q, t, w, a, f, h, hf, e => by
    simp only [TV.get] at e
    obtain ⟨u, e1, e2⟩ := Option.bind_eq_some_iff.1 e
    obtain ⟨as, g1, fs, g2, c1, rfl, c2, _, c3, _⟩ := h.step e1
    have := c3 H' (fun b hb => hf b (by rcases hb with h | h <;> simp [h])) s u e1
    simp only [plA, this, c1, Option.bind_some]
    exact c2.plA_frame (fun b hb => hf b (by simp [hb])) e2

/-- What stands at a place, and the whole with another thing there. -/
theorem OV.focus : ∀ {p : List Sel} {t s : TV} {a : Value} {f : List Nat}, OV P H Z t a f → t.get p = some s →
    ∃ as g1 fs g2, plA H a p = some as ∧ f = g1 ++ fs ++ g2 ∧ OV P H Z s as fs ∧
      ∀ (H' : Heap) (Z' : Nat → Prop) (s' : TV) (fs' : List Nat), (∀ b, Z b → Z' b ∧ H'[b]? = H[b]?) → (∀ b, b ∈ g1 ∨ b ∈ g2 → H'[b]? = H[b]?) → OV P H' Z' s' as fs' →
        OV P H' Z' (t.set p s') a (g1 ++ fs' ++ g2) ∧ ∀ q w, t.get q = some w → spre p q = false → plA H' a q = plA H a q
  | [], t, s, a, f, h, e => by
    simp only [TV.get, Option.some.injEq] at e
    subst e
    refine ⟨a, [], f, [], rfl, by simp, h, fun H' Z' s' fs' hz hf h' => ⟨by simpa [TV.set] using h', fun q w hq hs => ?_⟩⟩
    cases q with
    | nil => rfl
    | cons x y => simp [spre] at hs
  | s0 :: p, t, s, a, f, h, e => by
    simp only [TV.get] at e
    obtain ⟨u, e1, e2⟩ := Option.bind_eq_some_iff.1 e
    obtain ⟨as, g1, fs, g2, c1, rfl, c2, c4, c3, c5⟩ := h.step e1
    obtain ⟨as2, k1, fs2, k2, d1, rfl, d2, d3⟩ := c2.focus e2
    refine ⟨as2, g1 ++ k1, fs2, k2 ++ g2, by simp [plA, c1, d1], by simp, d2, fun H' Z' s' fs' hz hf h' => ?_⟩
    obtain ⟨x1, x2⟩ := d3 H' Z' s' fs' hz (fun b hb => hf b (by rcases hb with h | h <;> simp [h])) h'
    have hg : ∀ b, b ∈ g1 ∨ b ∈ g2 → H'[b]? = H[b]? := fun b hb => hf b (by rcases hb with h | h <;> simp [h])
    refine ⟨?_, fun q w hq hs => ?_⟩
    · have := c5 H' Z' _ _ hz hg x1
      simp only [TV.set, e1]
      simpa using this
    · cases q with
      | nil => rfl
      | cons s1 q =>
        simp only [TV.get] at hq
        obtain ⟨u1, q1, q2⟩ := Option.bind_eq_some_iff.1 hq
        have hc := c3 H' hg s1 u1 q1
        simp only [plA, hc]
        by_cases h01 : s1 = s0
        · subst h01
          rw [e1] at q1; cases q1
          rw [c1]
          have hsim : s1.sim s1 = true := by cases s1 <;> simp [Sel.sim]
          exact x2 q w q2 (by simpa [spre, hsim] using hs)
        · obtain ⟨au, fu, y1, y2, y3⟩ := c4 s1 u1 h01 q1
          rw [y1]
          exact y2.plA_frame (fun b hb => hg b (y3 b hb)) q2

/-- Of one kind, so that names and addresses go on to hold. -/
def Alike : TV → TV → Prop
  | .bx _ _, .bx _ _ => True
  | .sl e els, .sl e' els' => e = e' ∧ els.length = els'.length
  | .mp .., .mp .. => True
  | .agg _, .agg _ => True
  | x, y => x = y

theorem Alike.refl (t : TV) : Alike t t := by cases t <;> simp [Alike]
theorem alike_setChild {t s : TV} {q : Sel} : Alike t (t.setChild q s) := by cases t <;> cases q <;> simp [Alike, TV.setChild]

theorem child_setChild {t u s : TV} {q : Sel} (h : t.child q = some u) : (t.setChild q s).child q = some s := by
  cases t <;> cases q <;> simp_all [TV.child, TV.setChild] <;> (obtain ⟨h, _⟩ := List.getElem?_eq_some_iff.1 h; simp [h])
theorem child_setChild_ne {t s : TV} {q q' : Sel} (h : q' ≠ q) : (t.setChild q s).child q' = t.child q' := by
  cases t <;> cases q <;> cases q' <;> simp_all [TV.child, TV.setChild] <;> (rw [List.getElem?_set_ne]; exact fun e => h e.symm)

theorem get_set_other {s s' : TV} : ∀ {p q : List Sel} {t w : TV}, t.get p = some s → t.get q = some w → spre p q = false → ∃ w', (t.set p s').get q = some w' ∧ (pre p q = false ∨ Alike s s' → Alike w w')
  | [], [], t, w, e, h, _ => ⟨s', rfl, fun k => by
      simp only [TV.get, Option.some.injEq] at e h
      subst e h
      rcases k with k | k
      · simp [pre] at k
      · exact k⟩
  | [], _ :: _, _, _, _, _, h => by simp [spre] at h
  | a :: p, [], t, w, e, h, _ => ⟨_, rfl, fun _ => by
      simp only [TV.get, Option.some.injEq] at h
      subst h
      simp only [TV.get] at e
      obtain ⟨u, e1, _⟩ := Option.bind_eq_some_iff.1 e
      simp only [TV.set, e1]
      exact alike_setChild⟩
  | a :: p, b :: q, t, w, e, h, hs => by
    simp only [TV.get] at e h
    obtain ⟨u, e1, e2⟩ := Option.bind_eq_some_iff.1 e
    obtain ⟨v, h1, h2⟩ := Option.bind_eq_some_iff.1 h
    by_cases hab : b = a
    · subst hab
      rw [e1] at h1; cases h1
      have hsim : b.sim b = true := by cases b <;> simp [Sel.sim]
      obtain ⟨w', k1, k2⟩ := get_set_other (s' := s') e2 h2 (by simpa [spre, hsim] using hs)
      refine ⟨w', ?_, fun k => k2 (by simpa [pre, hsim] using k)⟩
      simp only [TV.set, e1, TV.get, child_setChild e1, Option.bind_some, k1]
    · refine ⟨w, ?_, fun _ => Alike.refl w⟩
      simp only [TV.set, e1, TV.get, child_setChild_ne hab, h1, Option.bind_some, h2]

/-! ### Temporaries -/
/-- What a temporary holds, with the others at hand: no row. -/
inductive TR1 (P : Program) (T : Tm) (A : Nat → Value) (H : Heap) (Z : Nat → Prop) : TV → Value → List Nat → Prop
  | own {t : TV} {a : Value} {f : List Nat} (h : OV P H Z t a f) : TR1 P T A H Z t a f
  | als {r : Nat} {p : List Sel} {a : Value} {w : TV} (hg : (T r).get p = some w) (h : plA H (A r) p = some a) : TR1 P T A H Z (.als r p) a []
  | adr {r : Nat} {p : List Sel} {b o k : Nat} {t : TypeId} {cs : List TV} (hg : (T r).get p = some (.bx t cs)) (h : plA H (A r) p = some (.pointer (some ⟨b, 0, none⟩))) : TR1 P T A H Z (.adr r p o k) (.pointer (some ⟨b, o, none⟩)) []
  | ade {r : Nat} {p : List Sel} {b i o k ke c n : Nat} {e : TypeId} {els : List RV} (hg : (T r).get p = some (.sl e els)) (h : plA H (A r) p = some (.slice (some ⟨b, 0, none⟩) n c)) (hs : sz P e = some ke) (hi : i < els.length) : TR1 P T A H Z (.ade r p i o k) (.pointer (some ⟨b, i * ke + o, none⟩)) []
  | win {r : Nat} {p : List Sel} {b o lo n c cc m ke : Nat} {e : TypeId} {els : List RV} (hg : (T r).get p = some (.sl e els)) (h : plA H (A r) p = some (.slice (some ⟨b, 0, none⟩) m cc)) (hs : sz P e = some ke) (hi : lo + n ≤ els.length) (h0 : 0 < els.length) (ho : n = 0 ∨ o = lo * ke) : TR1 P T A H Z (.win r p lo n) (.slice (some ⟨b, o, none⟩) n c) []
inductive TR (P : Program) (T : Tm) (A : Nat → Value) (H : Heap) (Z : Nat → Prop) : TV → Value → List Nat → Prop
  | one {t : TV} {a : Value} {f : List Nat} (h : TR1 P T A H Z t a f) : TR P T A H Z t a f
  | tup {cs : List TV} {x : Array Value} (hl : cs.length = x.size) (h : ∀ i (h : i < cs.length) (h' : i < x.size), TR1 P T A H Z cs[i] x[i] []) : TR P T A H Z (.tup cs) (.tuple x) []
  | fn {f : FuncId} {a c : List TV} {x y : Array Value} (ha : a.length = x.size) (hc : c.length = y.size)
      (h1 : ∀ i (h : i < a.length) (h' : i < x.size), TR1 P T A H Z a[i] x[i] []) (h2 : ∀ i (h : i < c.length) (h' : i < y.size), TR1 P T A H Z c[i] y[i] []) : TR P T A H Z (.fn f a c) (.func (.func f) x y) []

structure SR (P : Program) (T : Tm) (A : Nat → Value) (H : Heap) (Z : Nat → Prop) (F : Nat → List Nat) : Prop where
  tr : ∀ x, TR P T A H Z (T x) (A x) (F x)
  dj : ∀ x y b, b ∈ F x → b ∈ F y → x = y
  nd : ∀ x, (F x).Nodup
  fz : ∀ x b, b ∈ F x → ¬ Z b
  zl : ∀ b, Z b → b < H.size

theorem TV.clr1_own {fa fd : Nat → List Sel → Bool} {t : TV} {a : Value} {f : List Nat} (h : OV P H Z t a f) : t.clr fa fd = t ∧ t.clr1 fa fd = t := by
  cases h <;> exact ⟨rfl, rfl⟩

theorem TR1.mono (hz : ∀ b, Z b → Z' b ∧ H'[b]? = H[b]?) {T : Tm} {A : Nat → Value} (hp : ∀ r p w, (T r).get p = some w → plA H' (A r) p = plA H (A r) p) {t : TV} {a : Value} {f : List Nat} (hf : ∀ b ∈ f, H'[b]? = H[b]?) (h : TR1 P T A H Z t a f) : TR1 P T A H' Z' t a f := by
  cases h with
  | own h => exact .own (h.mono hz hf)
  | als hg h => exact .als hg ((hp _ _ _ hg).trans h)
  | adr hg h => exact .adr hg ((hp _ _ _ hg).trans h)
  | ade hg h hs hi => exact .ade hg ((hp _ _ _ hg).trans h) hs hi
  | win hg h hs hi h0 ho => exact .win hg ((hp _ _ _ hg).trans h) hs hi h0 ho

theorem TR.mono (hz : ∀ b, Z b → Z' b ∧ H'[b]? = H[b]?) {T : Tm} {A : Nat → Value} (hp : ∀ r p w, (T r).get p = some w → plA H' (A r) p = plA H (A r) p) {t : TV} {a : Value} {f : List Nat} (hf : ∀ b ∈ f, H'[b]? = H[b]?) (h : TR P T A H Z t a f) : TR P T A H' Z' t a f := by
  cases h with
  | one h => exact .one (h.mono hz hp hf)
  | tup hl h => exact .tup hl fun i h1 h2 => (h i h1 h2).mono hz hp (by simp)
  | fn ha hc h1 h2 => exact .fn ha hc (fun i k1 k2 => (h1 i k1 k2).mono hz hp (by simp)) (fun i k1 k2 => (h2 i k1 k2).mono hz hp (by simp))

/-- The owned roots. -/
theorem TR.root {T : Tm} {A : Nat → Value} {t w : TV} {a : Value} {f : List Nat} {s : Sel} {p : List Sel} (h : TR P T A H Z t a f) (e : t.get (s :: p) = some w) : OV P H Z t a f := by
  cases h with
  | one h =>
    cases h with
    | own h => exact h
    | als => simp [TV.get, TV.child] at e
    | adr => simp [TV.get, TV.child] at e
    | ade => simp [TV.get, TV.child] at e
    | win => simp [TV.get, TV.child] at e
  | tup => simp [TV.get, TV.child] at e
  | fn => simp [TV.get, TV.child] at e

theorem TR.owned {T : Tm} {A : Nat → Value} {t : TV} {a : Value} {f : List Nat} (h : TR P T A H Z t a f) (e : t.owned = true) : OV P H Z t a f := by
  cases h with
  | one h =>
    cases h with
    | own h => exact h
    | als => simp [TV.owned] at e
    | adr => simp [TV.owned] at e
    | ade => simp [TV.owned] at e
    | win => simp [TV.owned] at e
  | tup => simp [TV.owned] at e
  | fn => simp [TV.owned] at e

theorem SR.plA_frame {T : Tm} {A : Nat → Value} {F : Nat → List Nat} (S : SR P T A H Z F) {r : Nat} {p : List Sel} {w : TV} (hf : ∀ b ∈ F r, H'[b]? = H[b]?) (e : (T r).get p = some w) : plA H' (A r) p = plA H (A r) p := by
  cases p with
  | nil => rfl
  | cons s p => exact ((S.tr r).root e).plA_frame hf e

/-- The memory grows, and nothing that is told of changes. -/
theorem SR.mono {T : Tm} {A : Nat → Value} {F : Nat → List Nat} (S : SR P T A H Z F) (hz : ∀ b, Z b → Z' b ∧ H'[b]? = H[b]?) (hf : ∀ x, ∀ b ∈ F x, H'[b]? = H[b]? ∧ ¬ Z' b) (hl : ∀ b, Z' b → b < H'.size) : SR P T A H' Z' F where
  tr := fun x => (S.tr x).mono hz (fun r _ _ h => S.plA_frame (fun b hb => (hf r b hb).1) h) fun b hb => (hf x b hb).1
  dj := S.dj
  nd := S.nd
  fz := fun x b hb => (hf x b hb).2
  zl := hl

def setA {α : Type} (A : Nat → α) (d : Nat) (a : α) : Nat → α := fun x => if x = d then a else A x
theorem setA_same {α : Type} (A : Nat → α) (d : Nat) (a : α) : setA A d a d = a := by simp [setA]
theorem setA_ne {α : Type} {A : Nat → α} {d x : Nat} {a : α} (h : x ≠ d) : setA A d a x = A x := by simp [setA, h]

theorem get_clr {fa fd : Nat → List Sel → Bool} {t w : TV} {p : List Sel} (e : t.get p = some w) : ∃ w', (t.clr fa fd).get p = some w' ∧ (w.owned = true → w' = w) := by
  cases p with
  | nil =>
    simp only [TV.get, Option.some.injEq] at e
    subst e
    exact ⟨_, rfl, fun h => by cases t <;> simp_all [TV.owned, TV.clr, TV.clr1]⟩
  | cons s p =>
    cases t <;> first | exact ⟨w, e, fun _ => rfl⟩ | (simp [TV.get, TV.child] at e)

/-- How the names and addresses of one state go over to another one. -/
structure Goes (P : Program) (T : Tm) (A : Nat → Value) (H : Heap) (T' : Tm) (A' : Nat → Value) (H' : Heap) (fa fd : Nat → List Sel → Bool) : Prop where
  als : ∀ r p w, (T r).get p = some w → fa r p = false → ∃ w', (T' r).get p = some w' ∧ plA H' (A' r) p = plA H (A r) p
  adr : ∀ r p w, (T r).get p = some w → fd r p = false → w.owned = true → ∃ w', (T' r).get p = some w' ∧ Alike w w' ∧ plA H' (A' r) p = plA H (A r) p

theorem TR1.goes {T T' : Tm} {A A' : Nat → Value} {fa fd : Nat → List Sel → Bool} (hz : ∀ b, Z b → Z' b ∧ H'[b]? = H[b]?) (G : Goes P T A H T' A' H' fa fd) {t : TV} {a : Value} {f : List Nat} (hf : ∀ b ∈ f, H'[b]? = H[b]?) (h : TR1 P T A H Z t a f) : TR1 P T' A' H' Z' (t.clr1 fa fd) a f := by
  cases h with
  | own h => rw [(TV.clr1_own h).2]; exact .own (h.mono hz hf)
  | @als r p a w hg h =>
    simp only [TV.clr1]
    split
    · exact .own (.junk _)
    · rename_i hr
      obtain ⟨w', e1, e2⟩ := G.als r p w hg (by simpa using hr)
      exact .als e1 (e2.trans h)
  | @adr r p b o k t cs hg h =>
    simp only [TV.clr1]
    split
    · exact .own (.junk _)
    · rename_i hr
      obtain ⟨w', e1, e2, e3⟩ := G.adr r p _ hg (by simpa using hr) rfl
      cases w' <;> simp [Alike] at e2
      exact .adr e1 (e3.trans h)
  | @ade r p b i o k ke c n e els hg h hs hi =>
    simp only [TV.clr1]
    split
    · exact .own (.junk _)
    · rename_i hr
      obtain ⟨w', e1, e2, e3⟩ := G.adr r p _ hg (by simpa using hr) rfl
      cases w' <;> simp [Alike] at e2
      obtain ⟨rfl, e4⟩ := e2
      exact .ade e1 (e3.trans h) hs (by omega)
  | @win r p b o lo n c cc m ke e els hg h hs hi h0 ho =>
    simp only [TV.clr1]
    split
    · exact .own (.junk _)
    · rename_i hr
      obtain ⟨w', e1, e2, e3⟩ := G.adr r p _ hg (by simpa using hr) rfl
      cases w' <;> simp [Alike] at e2
      obtain ⟨rfl, e4⟩ := e2
      exact .win e1 (e3.trans h) hs (by omega) (by omega) ho

theorem TR.goes {T T' : Tm} {A A' : Nat → Value} {fa fd : Nat → List Sel → Bool} (hz : ∀ b, Z b → Z' b ∧ H'[b]? = H[b]?) (G : Goes P T A H T' A' H' fa fd) {t : TV} {a : Value} {f : List Nat} (hf : ∀ b ∈ f, H'[b]? = H[b]?) (h : TR P T A H Z t a f) : TR P T' A' H' Z' (t.clr fa fd) a f := by
  cases h with
  | one h =>
    have h1 := h.goes hz G hf
    have : t.clr fa fd = t.clr1 fa fd := by
      cases h with
      | own h => rw [(TV.clr1_own h).1, (TV.clr1_own h).2]
      | als => rfl
      | adr => rfl
      | ade => rfl
      | win => rfl
    rw [this]
    exact .one h1
  | tup hl h =>
    refine .tup (by simpa using hl) fun i h1 h2 => ?_
    have := (h i (by simpa using h1) h2).goes hz G (by simp)
    simpa using this
  | fn ha hc h1 h2 =>
    refine .fn (by simpa using ha) (by simpa using hc) (fun i k1 k2 => ?_) (fun i k1 k2 => ?_)
    · have := (h1 i (by simpa using k1) k2).goes hz G (by simp)
      simpa using this
    · have := (h2 i (by simpa using k1) k2).goes hz G (by simp)
      simpa using this

/-- A temporary is written. -/
theorem SR.put {T : Tm} {A : Nat → Value} {F : Nat → List Nat} (S : SR P T A H Z F) {d : Nat} {t : TV} {a : Value} {f : List Nat} (h : TR P T A H Z t a f) (hnd : f.Nodup) (hfz : ∀ b ∈ f, ¬ Z b) (hdj : ∀ x, x ≠ d → ∀ b ∈ f, b ∉ F x) :
    SR P (T.put d t) (setA A d a) H Z (setA F d f) := by
  have G : Goes P T A H (T.put d t) (setA A d a) H (fun r _ => r == d) (fun r _ => r == d) := by
    refine ⟨fun r p w hg hr => ?_, fun r p w hg hr hw => ?_⟩
    · have hr : r ≠ d := by simpa using hr
      obtain ⟨w', e1, _⟩ := get_clr (fa := fun r _ => r == d) (fd := fun r _ => r == d) hg
      exact ⟨w', by simp only [Tm.put, if_neg hr]; exact e1, by rw [setA_ne hr]⟩
    · have hr : r ≠ d := by simpa using hr
      obtain ⟨w', e1, e2⟩ := get_clr (fa := fun r _ => r == d) (fd := fun r _ => r == d) hg
      rw [e2 hw] at e1
      exact ⟨w, by simp only [Tm.put, if_neg hr]; exact e1, Alike.refl _, by rw [setA_ne hr]⟩
  refine ⟨fun x => ?_, fun x y b hx hy => ?_, fun x => ?_, fun x b hb => ?_, S.zl⟩
  · by_cases hx : x = d
    · subst hx
      simp only [setA_same]
      simp only [Tm.put, if_true]
      exact h.goes (fun b hb => ⟨hb, rfl⟩) G fun _ _ => rfl
    · simp only [setA_ne hx]
      have := (S.tr x).goes (fun b hb => ⟨hb, rfl⟩) G fun _ _ => rfl
      simpa only [Tm.put, if_neg hx] using this
  · by_cases hx1 : x = d <;> by_cases hy1 : y = d
    · rw [hx1, hy1]
    · subst hx1
      rw [setA_same] at hx; rw [setA_ne hy1] at hy
      exact absurd hy (hdj y hy1 b hx)
    · subst hy1
      rw [setA_same] at hy; rw [setA_ne hx1] at hx
      exact absurd hx (hdj x hx1 b hy)
    · rw [setA_ne hx1] at hx; rw [setA_ne hy1] at hy
      exact S.dj x y b hx hy
  · by_cases hx : x = d
    · subst hx; rw [setA_same]; exact hnd
    · rw [setA_ne hx]; exact S.nd x
  · by_cases hx : x = d
    · subst hx; rw [setA_same] at hb; exact hfz b hb
    · rw [setA_ne hx] at hb; exact S.fz x b hb

/-- What stands at a place changes. -/
theorem SR.upd {T : Tm} {A : Nat → Value} {F : Nat → List Nat} (S : SR P T A H Z F) {r : Nat} {p : List Sel} {s : TV} (hs : (T r).get p = some s) (ho : OV P H Z (T r) (A r) (F r)) :
    ∃ as g1 fs g2, plA H (A r) p = some as ∧ F r = g1 ++ fs ++ g2 ∧ OV P H Z s as fs ∧
      ∀ (H' : Heap) (Z' : Nat → Prop) (s' : TV) (fs' : List Nat) (g : Bool), (∀ b, Z b → Z' b ∧ H'[b]? = H[b]?) → (∀ x b, b ∈ F x → b ∉ fs → H'[b]? = H[b]? ∧ ¬ Z' b) → OV P H' Z' s' as fs' → (g = true ∨ Alike s s') →
        fs'.Nodup → (∀ b ∈ fs', ¬ Z' b ∧ (b ∈ fs ∨ ∀ x, b ∉ F x)) → (∀ b, Z' b → b < H'.size) → SR P (T.upd r p g s') A H' Z' (setA F r (g1 ++ fs' ++ g2)) := by
  obtain ⟨as, g1, fs, g2, e1, e2, e3, e4⟩ := ho.focus hs
  refine ⟨as, g1, fs, g2, e1, e2, e3, fun H' Z' s' fs' g hz hf h' hal hnd hfs hl => ?_⟩
  have nd := S.nd r
  rw [e2] at nd
  obtain ⟨nd1, nd2, nd3⟩ := List.nodup_append.1 nd
  obtain ⟨nd4, nd5, nd6⟩ := List.nodup_append.1 nd1
  have hgf : ∀ b, b ∈ g1 ∨ b ∈ g2 → b ∈ F r ∧ b ∉ fs := fun b hb => by
    rw [e2]
    rcases hb with hb | hb
    · exact ⟨by simp [hb], fun h => nd6 b hb b h rfl⟩
    · exact ⟨by simp [hb], fun h => nd3 b (by simp [h]) b hb rfl⟩
  have hg : ∀ b, b ∈ g1 ∨ b ∈ g2 → H'[b]? = H[b]? := fun b hb => (hf r b (hgf b hb).1 (hgf b hb).2).1
  obtain ⟨k1, k2⟩ := e4 H' Z' s' fs' hz hg h'
  have hoth : ∀ x, x ≠ r → ∀ b ∈ F x, H'[b]? = H[b]? := fun x hx b hb => (hf x b hb fun h => hx (S.dj x r b hb (by rw [e2]; simp [h]))).1
  have G : Goes P T A H (T.upd r p g s') A H' (fun r' q => r' == r && spre p q) (fun r' q => r' == r && (spre p q || g && pre p q)) := by
    refine ⟨fun r1 q w hw hr => ?_, fun r1 q w hw hr hwo => ?_⟩
    · by_cases h1 : r1 = r
      · subst h1
        simp only [beq_self_eq_true, Bool.true_and] at hr
        obtain ⟨w', x1, _⟩ := get_set_other (s' := s') hs hw hr
        exact ⟨w', by simpa only [Tm.upd, if_true] using x1, k2 q w hw hr⟩
      · obtain ⟨w', x1, _⟩ := get_clr (fa := fun r' q => r' == r && spre p q) (fd := fun r' q => r' == r && (spre p q || g && pre p q)) hw
        exact ⟨w', by simpa only [Tm.upd, if_neg h1] using x1, S.plA_frame (hoth r1 h1) hw⟩
    · by_cases h1 : r1 = r
      · subst h1
        simp only [beq_self_eq_true, Bool.true_and, Bool.or_eq_false_iff, Bool.and_eq_false_iff] at hr
        obtain ⟨w', x1, x2⟩ := get_set_other (s' := s') hs hw hr.1
        refine ⟨w', by simpa only [Tm.upd, if_true] using x1, ?_, k2 q w hw hr.1⟩
        rcases hal with rfl | hal
        · exact x2 (.inl (by simpa using hr.2))
        · exact x2 (.inr hal)
      · obtain ⟨w', x1, x2⟩ := get_clr (fa := fun r' q => r' == r && spre p q) (fd := fun r' q => r' == r && (spre p q || g && pre p q)) hw
        rw [x2 hwo] at x1
        exact ⟨w, by simpa only [Tm.upd, if_neg h1] using x1, Alike.refl _, S.plA_frame (hoth r1 h1) hw⟩
  have hmem : ∀ b, b ∈ g1 ++ fs' ++ g2 → (b ∈ g1 ∨ b ∈ g2) ∨ b ∈ fs' := fun b hb => by
    simp only [List.mem_append] at hb
    rcases hb with (hb | hb) | hb
    · exact .inl (.inl hb)
    · exact .inr hb
    · exact .inl (.inr hb)
  have hother : ∀ b, b ∈ g1 ++ fs' ++ g2 → ∀ x, x ≠ r → b ∉ F x := fun b hb x hx hbx => by
    rcases hmem b hb with h | h
    · exact hx (S.dj x r b hbx (hgf b h).1)
    · rcases (hfs b h).2 with h | h
      · exact hx (S.dj x r b hbx (by rw [e2]; simp [h]))
      · exact h x hbx
  refine ⟨fun x => ?_, fun x y b hx hy => ?_, fun x => ?_, fun x b hb => ?_, hl⟩
  · by_cases hx : x = r
    · subst hx
      simp only [Tm.upd, if_true, setA_same]
      exact .one (.own k1)
    · have := (S.tr x).goes hz G (hoth x hx)
      simpa only [Tm.upd, if_neg hx, setA_ne hx] using this
  · by_cases hx1 : x = r <;> by_cases hy1 : y = r
    · rw [hx1, hy1]
    · subst hx1
      rw [setA_same] at hx; rw [setA_ne hy1] at hy
      exact absurd hy (hother b hx y hy1)
    · subst hy1
      rw [setA_same] at hy; rw [setA_ne hx1] at hx
      exact absurd hx (hother b hy x hx1)
    · rw [setA_ne hx1] at hx; rw [setA_ne hy1] at hy
      exact S.dj x y b hx hy
  · by_cases hx : x = r
    · subst hx; rw [setA_same]
      refine List.nodup_append.2 ⟨List.nodup_append.2 ⟨nd4, hnd, fun a ha b hb hab => ?_⟩, nd2, fun a ha b hb hab => ?_⟩
      · subst hab
        rcases (hfs a hb).2 with h | h
        · exact nd6 a ha a h rfl
        · exact h x (hgf a (.inl ha)).1
      · subst hab
        rcases List.mem_append.1 ha with ha | ha
        · exact nd3 a (by simp [ha]) a hb rfl
        · rcases (hfs a ha).2 with h | h
          · exact nd3 a (by simp [h]) a hb rfl
          · exact h x (hgf a (.inr hb)).1
    · rw [setA_ne hx]; exact S.nd x
  · by_cases hx : x = r
    · subst hx; rw [setA_same] at hb
      rcases hmem b hb with h | h
      · exact (hf x b (hgf b h).1 (hgf b h).2).2
      · exact (hfs b h).1
    · rw [setA_ne hx] at hb
      exact (hf x b hb fun h => hx (S.dj x r b hb (by rw [e2]; simp [h]))).2

end Go.PM

/-
  PM: what an operand is, read only or handed over.
-/
namespace Go.PM
open Go Go.AH
variable {P : Program} {H H' : Heap} {Z Z' : Nat → Prop} {T T' : Tm} {A : Nat → Value} {F F' : Nat → List Nat}

def cstB : RV → Value → Bool
  | .bool b, .bool b' => b == b'
  | .int k i, .int k' i' => k == k' && i == i'
  | .str s, .string s' => eqS s s'
  | .nilp, .pointer none => true
  | .nilm, .map none => true
  | .nilf, .nilFunc => true
  | .sl _ [], .slice none 0 0 => true
  | .fn f [] [], .func (.func f') ⟨[]⟩ ⟨[]⟩ => f == f'
  | _, _ => false

theorem eqS_inj {a b : ByteArray} (h : eqS a b = true) : a = b := by
  rw [eqS_eq] at h
  have := eq_of_beq h
  rw [ByteArray.toList_eq, ByteArray.toList_eq] at this
  cases a; cases b
  simp only [ByteArray.mk.injEq]
  exact Array.toList_inj.1 (by simpa using this)

theorem cst_rr {v : RV} {a : Value} (h : cstB v a = true) : RR P H Z v a := by
  unfold cstB at h
  split at h
  · rw [eq_of_beq h]; exact .bool _
  · simp only [Bool.and_eq_true, beq_iff_eq] at h
    rw [h.1, h.2]; exact .int _ _
  · rw [eqS_inj h]; exact .str _
  · exact .nilp
  · exact .nilm
  · exact .nilf
  · exact .slN _
  · rw [eq_of_beq h]; exact .fn rfl rfl (fun i h => by simp at h) (fun i h => by simp at h)
  · cases h

theorem own0_ov {v : RV} {a : Value} (h : cstB v a = true) : OV P H Z (own0 v) a [] := by
  unfold own0
  split
  · unfold cstB at h
    split at h <;> first | (exact .slN _) | (simp at h; done) | (cases h; done) | skip
    all_goals simp_all
  · exact .v (cst_rr h)

/-- An operand's value in AH. -/
inductive EV (A : Nat → Value) : Opd → Value → Prop
  | t (s : Nat) : EV A (.t s) (A s)
  | c {v : RV} {a : Value} (h : cstB v a = true) : EV A (.c v) a

theorem SR.rootOV (S : SR P T A H Z F) {r : Nat} {p : List Sel} {w : TV} (e : (T r).get p = some w) (hw : w.owned = true) : OV P H Z (T r) (A r) (F r) := by
  cases p with
  | nil => simp only [TV.get, Option.some.injEq] at e; subst e; exact (S.tr r).owned hw
  | cons s p => exact (S.tr r).root e

/-- What an operand turns out to be. -/
inductive LK (P : Program) (T : Tm) (A : Nat → Value) (H : Heap) (Z : Nat → Prop) (F : Nat → List Nat) : TV → Value → Prop
  | v {y : RV} {a : Value} (h : RR P H Z y a) : LK P T A H Z F (.v y) a
  | sl (e : TypeId) : LK P T A H Z F (.sl e []) (.slice none 0 0)
  | als {r : Nat} {p : List Sel} {a : Value} {w : TV} (hg : (T r).get p = some w) (hw : w.owned = true) (h : plA H (A r) p = some a) (ho : OV P H Z (T r) (A r) (F r)) : LK P T A H Z F (.als r p) a
  | adr {r : Nat} {p : List Sel} {b o k : Nat} {t : TypeId} {cs : List TV} (hg : (T r).get p = some (.bx t cs)) (h : plA H (A r) p = some (.pointer (some ⟨b, 0, none⟩))) (ho : OV P H Z (T r) (A r) (F r)) : LK P T A H Z F (.adr r p o k) (.pointer (some ⟨b, o, none⟩))
  | ade {r : Nat} {p : List Sel} {b i o k ke c n : Nat} {e : TypeId} {els : List RV} (hg : (T r).get p = some (.sl e els)) (h : plA H (A r) p = some (.slice (some ⟨b, 0, none⟩) n c)) (hs : sz P e = some ke) (hi : i < els.length) (ho : OV P H Z (T r) (A r) (F r)) : LK P T A H Z F (.ade r p i o k) (.pointer (some ⟨b, i * ke + o, none⟩))
  | win {r : Nat} {p : List Sel} {b o lo n c cc m ke : Nat} {e : TypeId} {els : List RV} (hg : (T r).get p = some (.sl e els)) (h : plA H (A r) p = some (.slice (some ⟨b, 0, none⟩) m cc)) (hs : sz P e = some ke) (hi : lo + n ≤ els.length) (h0 : 0 < els.length) (hq : n = 0 ∨ o = lo * ke) (ho : OV P H Z (T r) (A r) (F r)) : LK P T A H Z F (.win r p lo n) (.slice (some ⟨b, o, none⟩) n c)
  | tup {cs : List TV} {a : Value} (h : TR P T A H Z (.tup cs) a []) : LK P T A H Z F (.tup cs) a
  | fn {f : FuncId} {x y : List TV} {a : Value} (h : TR P T A H Z (.fn f x y) a []) : LK P T A H Z F (.fn f x y) a
  | junk (a : Value) : LK P T A H Z F .junk a

theorem LK.tr {u : TV} {a : Value} (h : LK P T A H Z F u a) : TR P T A H Z u a [] := by
  cases h with
  | v h => exact .one (.own (.v h))
  | sl e => exact .one (.own (.slN e))
  | als hg hw h ho => exact .one (.als hg h)
  | adr hg h ho => exact .one (.adr hg h)
  | ade hg h hs hi ho => exact .one (.ade hg h hs hi)
  | win hg h hs hi h0 hq ho => exact .one (.win hg h hs hi h0 hq)
  | tup h => exact h
  | fn h => exact h
  | junk a => exact .one (.own (.junk a))

theorem look1_rel (S : SR P T A H Z F) {u : TV} {a : Value} {f : List Nat} (h : TR P T A H Z u a f) (hu : u.owned = false) : LK P T A H Z F (look1 T u) a := by
  cases h with
  | one h =>
    cases h with
    | own h => cases h <;> first | (simp [TV.owned] at hu; done) | (rename_i h; exact .v h) | exact .junk _
    | @als r p a w hg h =>
      simp only [look1, hg]
      split
      · rename_i w2 x e
        cases e
        cases p with
        | nil =>
          simp only [TV.get, Option.some.injEq] at hg
          simp only [plA, Option.some.injEq] at h
          subst h
          have := S.tr r
          rw [hg] at this
          generalize F r = fr at this
          cases this with
          | one h => cases h with
            | own h => cases h with
              | v h => exact .v h
        | cons s p =>
          obtain ⟨as, g1, fs, g2, e1, _, e3, _⟩ := ((S.tr r).root hg).focus hg
          rw [h] at e1; cases e1
          cases e3 with
          | v h => exact .v h
      · rename_i w2 u hnv e
        cases e
        split
        · rename_i hw
          exact .als hg hw h (S.rootOV hg hw)
        · exact .junk _
      · simp_all
    | adr hg h => exact .adr hg h (S.rootOV hg rfl)
    | ade hg h hs hi => exact .ade hg h hs hi (S.rootOV hg rfl)
    | win hg h hs hi h0 hq => exact .win hg h hs hi h0 hq (S.rootOV hg rfl)
  | tup hl h => exact .tup (.tup hl h)
  | fn a b c d => exact .fn (.fn a b c d)

theorem look_rel (S : SR P T A H Z F) {x : Opd} {a : Value} (h : EV A x a) : LK P T A H Z F (look T x) a := by
  cases h with
  | t s =>
    simp only [look]
    split
    · rename_i ho
      exact .als (p := []) rfl ho rfl ((S.tr s).owned ho)
    · rename_i ho
      exact look1_rel S (S.tr s) (by simpa using ho)
  | @c v a h =>
    simp only [look]
    have := own0_ov (P := P) (H := H) (Z := Z) h
    unfold own0 at this ⊢
    split
    · cases this with
      | slN => exact .sl _
    · exact .v (cst_rr h)

/-! ### As values -/
mutual
theorem OV.dem {t : TV} {a : Value} {f : List Nat} {y : RV} (h : OV P H Z t a f) (e : t.dem = some y) : RR P H (fun b => Z b ∨ b ∈ f) y a := by
  cases h with
  | v h => simp only [TV.dem, Option.some.injEq] at e; subst e; exact h.mono fun b hb => ⟨.inl hb, rfl⟩
  | junk => simp [TV.dem] at e
  | slN e0 => simp only [TV.dem, Option.some.injEq] at e; subst e; exact .slN _
  | @sl e0 els b c k cs ag h0 hb hk hag hc hcap hle hs h =>
    simp only [TV.dem, Option.some.injEq] at e; subst e
    exact .sl h0 (.inr (by simp)) hb hk hag hc (hcap.imp id (·.1)) (by omega) hs fun i j h1 h2 h3 => by
      have := (h i j h1 h2 (by omega)).mono (H' := H) (Z' := fun b' => Z b' ∨ b' ∈ [b]) fun b' hb' => ⟨.inl hb', rfl⟩
      simpa using this
  | @mp kt ks vs r es f hb hk hv =>
    simp only [TV.dem] at e
    obtain ⟨ys, e1, rfl⟩ := Option.map_eq_some_iff.1 e
    have h2 := hv.dem e1
    refine .mp (.inr (by simp)) hb (by simpa using hk.1) (by simpa using h2.1) (fun i h h' => ?_) (fun i h h' => ?_)
    · have := (hk.2 i h (by simpa using h')).mono (H' := H) (Z' := fun b => Z b ∨ b ∈ r :: f) fun b hb => ⟨.inl hb, rfl⟩
      simpa using this
    · have := (h2.2 i h (by simpa using h')).mono (H' := H) (Z' := fun b => Z b ∨ b ∈ r :: f) fun b hb => ⟨hb.imp id fun h => by simp [h], rfl⟩
      simpa using this
  | @bx ty cs b c f h0 hb hv =>
    simp only [TV.dem] at e
    obtain ⟨ys, e1, rfl⟩ := Option.map_eq_some_iff.1 e
    have h2 := hv.dem e1
    have hl := h2.1
    simp only [Array.length_toList] at hl
    refine .bx h0 (.inr (by simp)) hb (by omega) fun i h h' => ?_
    have := (h2.2 i h (by simp; omega)).mono (H' := H) (Z' := fun b' => Z b' ∨ b' ∈ b :: f) fun b hb => ⟨hb.imp id fun h => by simp [h], rfl⟩
    simpa using this
  | agg h0 hv =>
    simp only [TV.dem] at e
    obtain ⟨ys, e1, rfl⟩ := Option.map_eq_some_iff.1 e
    have h2 := hv.dem e1
    exact .agg h0 (by simpa using h2.1) fun i h h' => by
      have := h2.2 i h (by simpa using h')
      rw [Array.getElem_toList] at this
      exact this
theorem OVL.dem {t : List TV} {a : List Value} {f : List Nat} {y : List RV} (h : OVL P H Z t a f) (e : demL t = some y) : RRs P H (fun b => Z b ∨ b ∈ f) y a := by
  cases h with
  | nil => simp only [demL, Option.some.injEq] at e; subst e; exact ⟨rfl, fun i h => by simp at h⟩
  | cons h r =>
    simp only [demL] at e
    obtain ⟨x, e1, e⟩ := Option.bind_eq_some_iff.1 e
    obtain ⟨xs, e2, rfl⟩ := Option.map_eq_some_iff.1 e
    have h1 := h.dem e1
    have h2 := r.dem e2
    refine ⟨by simpa using h2.1, fun i k1 k2 => ?_⟩
    cases i with
    | zero => exact h1.mono fun b hb => ⟨hb.imp id fun h => by simp [h], rfl⟩
    | succ i => exact (h2.2 i (by simpa using k1) (by simpa using k2)).mono fun b hb => ⟨hb.imp id fun h => by simp [h], rfl⟩
end

mutual
theorem RR.flat {x : RV} {a : Value} (h : RR P H Z x a) (hf : x.flat = true) (H' : Heap) (Z' : Nat → Prop) : RR P H' Z' x a := by
  cases x with
  | bool b => cases h; exact .bool _
  | int k i => cases h; exact .int _ _
  | str s => cases h; exact .str _
  | nilp => cases h; exact .nilp
  | nilf => cases h; exact .nilf
  | nilm => cases h; exact .nilm
  | agg cs =>
    cases h with
    | agg h1 hl h =>
      simp only [RV.flat] at hf
      exact .agg h1 hl (flat_get cs hf H' Z' _ hl h)
  | fn => simp [RV.flat] at hf
  | sl => simp [RV.flat] at hf
  | mp => simp [RV.flat] at hf
  | bx => simp [RV.flat] at hf
theorem flat_get (cs : List RV) (hf : flatLs cs = true) (H' : Heap) (Z' : Nat → Prop) (x : Array Value) (hl : cs.length = x.size) (h : ∀ i (h : i < cs.length) (h' : i < x.size), RR P H Z cs[i] x[i]) : ∀ i (h : i < cs.length) (h' : i < x.size), RR P H' Z' cs[i] x[i] := by
  cases cs with
  | nil => intro i h; simp at h
  | cons c cs =>
    simp only [flatLs, Bool.and_eq_true] at hf
    intro i h1 h2
    cases i with
    | zero => exact (h 0 h1 h2).flat hf.1 H' Z'
    | succ i =>
      have := flat_get cs hf.2 H' Z' (x.extract 1 x.size) (by simp; simp at hl; omega) (fun j k1 k2 => by
        have := h (j + 1) (by simpa using k1) (by simp at k2; omega)
        simpa [Nat.add_comm] using this) i (by simpa using h1) (by simp; simp at h1 hl; omega)
      simpa [Nat.add_comm] using this
end


/-- Something owned that no temporary holds. -/
structure Free (P : Program) (H : Heap) (Z : Nat → Prop) (F : Nat → List Nat) (u : TV) (a : Value) (f : List Nat) : Prop where
  ov : OV P H Z u a f
  nd : f.Nodup
  fz : ∀ b ∈ f, ¬ Z b
  dj : ∀ x, ∀ b ∈ f, b ∉ F x

theorem Free.plain {y : RV} {a : Value} (h : RR P H Z y a) : Free P H Z F (.v y) a [] := ⟨.v h, by simp, by simp, by simp⟩

theorem own0_free {v : RV} {a : Value} (h : cstB v a = true) : Free P H Z F (own0 v) a [] := ⟨own0_ov h, by simp, by simp, by simp⟩

/-- From one state to a later one: what is not owned stays. -/
structure Stp (H : Heap) (Z : Nat → Prop) (F : Nat → List Nat) (H' : Heap) (Z' : Nat → Prop) (F' : Nat → List Nat) : Prop where
  size : H.size ≤ H'.size
  frame : ∀ b, b < H.size → (∀ x, b ∉ F x) → H'[b]? = H[b]?
  zmono : ∀ b, Z b → Z' b
  znew : ∀ b, Z' b → Z b ∨ (∃ x, b ∈ F x) ∨ H.size ≤ b
  fnew : ∀ x b, b ∈ F' x → (∃ y, b ∈ F y) ∨ H.size ≤ b

theorem Stp.refl : Stp H Z F H Z F := ⟨Nat.le_refl _, fun _ _ _ => rfl, fun _ h => h, fun _ h => .inl h, fun x _ h => .inl ⟨x, h⟩⟩
theorem Stp.trans {H1 H2 : Heap} {Z1 Z2 : Nat → Prop} {F1 F2 : Nat → List Nat} (s : Stp H Z F H1 Z1 F1) (t : Stp H1 Z1 F1 H2 Z2 F2) : Stp H Z F H2 Z2 F2 where
  size := Nat.le_trans s.size t.size
  frame := fun b hb h => (t.frame b (Nat.lt_of_lt_of_le hb s.size) fun x hx => by
    rcases s.fnew x b hx with ⟨y, hy⟩ | h1
    · exact h y hy
    · omega).trans (s.frame b hb h)
  zmono := fun b h => t.zmono b (s.zmono b h)
  znew := fun b h => by
    rcases t.znew b h with h | ⟨x, h⟩ | h
    · exact s.znew b h
    · exact .inr (s.fnew x b h)
    · exact .inr (.inr (Nat.le_trans s.size h))
  fnew := fun x b h => by
    rcases t.fnew x b h with ⟨y, h⟩ | h
    · exact s.fnew y b h
    · exact .inr (Nat.le_trans s.size h)
/-- What never changes stays. -/
theorem Stp.z {Z' : Nat → Prop} (s : Stp H Z F H' Z' F') (S : SR P T A H Z F) : ∀ b, Z b → Z' b ∧ H'[b]? = H[b]? := fun b hb => ⟨s.zmono b hb, s.frame b (S.zl b hb) fun x hx => S.fz x b hx hb⟩

/-- A place whose content is taken away. -/
theorem SR.drop' (S : SR P T A H Z F) {r : Nat} {p : List Sel} {w : TV} (hg : (T r).get p = some w) (ho : OV P H Z (T r) (A r) (F r)) :
    ∃ a F1 f, plA H (A r) p = some a ∧ SR P (T.upd r p true .junk) A H Z F1 ∧ Free P H Z F1 w a f ∧ Stp H Z F H Z F1 ∧ (∀ b ∈ f, b ∈ F r) ∧ (∀ x b, b ∈ F1 x → b ∈ F x) := by
  obtain ⟨a, g1, fs, g2, e1, e2, e3, e4⟩ := S.upd hg ho
  have nd := S.nd r
  rw [e2] at nd
  obtain ⟨nd1, nd2, nd3⟩ := List.nodup_append.1 nd
  obtain ⟨nd4, nd5, nd6⟩ := List.nodup_append.1 nd1
  refine ⟨a, setA F r (g1 ++ g2), fs, e1, ?_, ⟨e3, nd5, fun b hb => S.fz r b (by rw [e2]; simp [hb]), fun x b hb hx => ?_⟩, ⟨Nat.le_refl _, fun _ _ _ => rfl, fun _ h => h, fun _ h => .inl h, fun x b h => ?_⟩, fun b hb => by rw [e2]; simp [hb], fun x b h => ?_⟩
  · have := e4 H Z .junk [] true (fun b hb => ⟨hb, rfl⟩) (fun x b hb _ => ⟨rfl, S.fz x b hb⟩) (.junk a) (.inl rfl) (by simp) (by simp) S.zl
    simpa using this
  · by_cases hxr : x = r
    · subst hxr
      rw [setA_same] at hx
      rcases List.mem_append.1 hx with h | h
      · exact nd6 b h b hb rfl
      · exact nd3 b (by simp [hb]) b h rfl
    · rw [setA_ne hxr] at hx
      exact hxr (S.dj x r b hx (by rw [e2]; simp [hb]))
  · by_cases hxr : x = r
    · subst hxr
      rw [setA_same] at h
      exact .inl ⟨x, by rw [e2]; rcases List.mem_append.1 h with h | h <;> simp [h]⟩
    · rw [setA_ne hxr] at h
      exact .inl ⟨x, h⟩
  · by_cases hxr : x = r
    · subst hxr
      rw [setA_same] at h
      rw [e2]
      rcases List.mem_append.1 h with h | h <;> simp [h]
    · rw [setA_ne hxr] at h
      exact h
theorem SR.drop (S : SR P T A H Z F) {r : Nat} {p : List Sel} {w : TV} (hg : (T r).get p = some w) (ho : OV P H Z (T r) (A r) (F r)) :
    ∃ a F1 f, plA H (A r) p = some a ∧ SR P (T.upd r p true .junk) A H Z F1 ∧ Free P H Z F1 w a f ∧ Stp H Z F H Z F1 ∧ (∀ b ∈ f, ∃ x, b ∈ F x) := by
  obtain ⟨a, F1, f, h1, h2, h3, h4, h5, _⟩ := S.drop' hg ho
  exact ⟨a, F1, f, h1, h2, h3, h4, fun b hb => ⟨r, h5 b hb⟩⟩

/-- A place whose content never changes from now on. -/
theorem SR.freeze (S : SR P T A H Z F) {r : Nat} {p : List Sel} {w : TV} {y : RV} (hg : (T r).get p = some w) (ho : OV P H Z (T r) (A r) (F r)) (hd : w.dem = some y) :
    ∃ a Z1 F1, plA H (A r) p = some a ∧ SR P (T.upd r p true (.v y)) A H Z1 F1 ∧ RR P H Z1 y a ∧ Stp H Z F H Z1 F1 := by
  obtain ⟨a, g1, fs, g2, e1, e2, e3, e4⟩ := S.upd hg ho
  have nd := S.nd r
  rw [e2] at nd
  obtain ⟨nd1, nd2, nd3⟩ := List.nodup_append.1 nd
  obtain ⟨nd4, nd5, nd6⟩ := List.nodup_append.1 nd1
  have hy := e3.dem hd
  refine ⟨a, fun b => Z b ∨ b ∈ fs, setA F r (g1 ++ g2), e1, ?_, hy, ⟨Nat.le_refl _, fun _ _ _ => rfl, fun _ h => .inl h, fun b h => ?_, fun x b h => ?_⟩⟩
  · have := e4 H (fun b => Z b ∨ b ∈ fs) (.v y) [] true (fun b hb => ⟨.inl hb, rfl⟩) (fun x b hb hn => ⟨rfl, fun h => h.elim (S.fz x b hb) hn⟩) (.v hy) (.inl rfl) (by simp) (by simp) (fun b hb => by
      rcases hb with hb | hb
      · exact S.zl b hb
      · exact ho.lt b (by rw [e2]; simp [hb]))
    simpa using this
  · rcases h with h | h
    · exact .inl h
    · exact .inr (.inl ⟨r, by rw [e2]; simp [h]⟩)
  · by_cases hxr : x = r
    · subst hxr
      rw [setA_same] at h
      exact .inl ⟨x, by rw [e2]; rcases List.mem_append.1 h with h | h <;> simp [h]⟩
    · rw [setA_ne hxr] at h
      exact .inl ⟨x, h⟩

/-- Handed over. -/
theorem take_rel (S : SR P T A H Z F) {x : Opd} {a : Value} (hx : EV A x a) {u : TV} (h : take T x = some (u, T')) :
    ∃ Z1 F1 f, SR P T' A H Z1 F1 ∧ Free P H Z1 F1 u a f ∧ Stp H Z F H Z1 F1 ∧ (∀ b ∈ f, ∃ x, b ∈ F x) ∧ u.leaf = true := by
  cases hx with
  | @c v a hc =>
    simp only [take, Option.some.injEq, Prod.mk.injEq] at h
    obtain ⟨rfl, rfl⟩ := h
    exact ⟨Z, F, [], S, own0_free hc, Stp.refl, by simp, by unfold own0; split <;> rfl⟩
  | t s =>
    simp only [take] at h
    split at h
    · rename_i hw
      simp only [Option.some.injEq, Prod.mk.injEq] at h
      obtain ⟨rfl, rfl⟩ := h
      obtain ⟨a, F1, f, e1, e2, e3, e4, e5⟩ := S.drop (r := s) (p := []) rfl ((S.tr s).owned hw)
      simp only [plA, Option.some.injEq] at e1
      subst e1
      exact ⟨Z, F1, f, e2, e3, e4, e5, by revert hw; cases T s <;> simp [TV.owned, TV.leaf]⟩
    · have hl := look_rel S (EV.t (A := A) s)
      split at h
      · rename_i y hy
        rw [hy] at hl
        simp only [Option.some.injEq, Prod.mk.injEq] at h
        obtain ⟨rfl, rfl⟩ := h
        cases hl with
        | v hl => exact ⟨Z, F, [], S, .plain hl, Stp.refl, by simp, rfl⟩
      · rename_i r p hy
        rw [hy] at hl
        cases hl with
        | als hg hw hp ho =>
          obtain ⟨w, e1, h⟩ := Option.bind_eq_some_iff.1 h
          obtain ⟨y, e2, h⟩ := Option.map_eq_some_iff.1 h
          simp only [Prod.mk.injEq] at h
          obtain ⟨rfl, rfl⟩ := h
          obtain ⟨a', Z1, F1, k1, k2, k3, k4⟩ := S.freeze e1 ho e2
          rw [hp] at k1; cases k1
          exact ⟨Z1, F1, [], k2, .plain k3, k4, by simp, rfl⟩
      · cases h

theorem OVL.append {t t' : List TV} {a a' : List Value} {f f' : List Nat} : OVL P H Z t a f → OVL P H Z t' a' f' → OVL P H Z (t ++ t') (a ++ a') (f ++ f')
  | .nil, k => by simpa using k
  | .cons h r, k => by simpa using OVL.cons h (r.append k)
theorem OVL.plain : ∀ {l : List RV} {x : List Value}, RRs P H Z l x → OVL P H Z (l.map .v) x []
  | [], [], _ => .nil
  | [], _ :: _, h => by have := h.1; simp at this
  | _ :: _, [], h => by have := h.1; simp at this
  | y :: l, a :: x, h => by
    have := OVL.cons (.v (h.2 0 (by simp) (by simp))) (OVL.plain (l := l) (x := x) ⟨by simpa using h.1, fun i h1 h2 => h.2 (i + 1) (by simpa using h1) (by simpa using h2)⟩)
    simpa using this

/-- The cells of what is handed over. -/
theorem OV.cells {u : TV} {a : Value} {f : List Nat} (h : OV P H Z u a f) (hj : u ≠ .junk) : OVL P H Z u.cellsT a.cells.toList f := by
  have one : ∀ {t : TV} {b : Value} {g : List Nat}, OV P H Z t b g → OVL P H Z [t] [b] g := fun {t b g} h => by simpa using OVL.cons h OVL.nil
  cases h with
  | v h =>
    cases h with
    | @agg cs x h1 hl h =>
      have k : RRs P H Z cs x.toList := ⟨by simpa using hl, fun i h1 h2 => by
        rw [Array.getElem_toList]
        exact h i h1 (by simpa using h2)⟩
      exact OVL.plain k
    | bool b => exact one (.v (.bool b))
    | int k i => exact one (.v (.int k i))
    | str s => exact one (.v (.str s))
    | nilp => exact one (.v .nilp)
    | nilf => exact one (.v .nilf)
    | nilm => exact one (.v .nilm)
    | fn a b c d => exact one (.v (.fn a b c d))
    | slN e => exact one (.v (.slN e))
    | sl a b c d e f g h i j => exact one (.v (.sl a b c d e f g h i j))
    | mp a b c d e f => exact one (.v (.mp a b c d e f))
    | bx a b c d e => exact one (.v (.bx a b c d e))
  | junk => exact absurd rfl hj
  | slN e => exact one (.slN e)
  | sl a b c d e f g h i => exact one (.sl a b c d e f g h i)
  | mp a b c => exact one (.mp a b c)
  | bx a b c => exact one (.bx a b c)
  | agg h0 h => exact h

/-- The cells of a value are one cell each. -/
theorem RR.cones {y : RV} {a : Value} (h : RR P H Z y a) : ones a.cells := by
  cases h <;> first | (rename_i h1 _ _; exact h1) | (simp [PM.ones, Value.cells, Value.oneCell']; done)
theorem OV.cones {u : TV} {a : Value} {f : List Nat} (h : OV P H Z u a f) (hj : u ≠ .junk) : ones a.cells := by
  cases h with
  | v h => exact h.cones
  | junk => exact absurd rfl hj
  | agg h1 h => exact h1
  | _ => simp [PM.ones, Value.cells, Value.oneCell']

end Go.PM

/-
  PM: is its code that of a given function? A check by computation, operation by operation.
-/
namespace Go.PM
open Go Go.AH

def chkO (nt : Nat) : Operand → Opd → Bool
  | .tmp t, .t s => t == s && decide (t < nt)
  | .const v, .c r => isBase v && cstB r v
  | .func f, .c r => cstB r (.func (.func f) #[] #[])
  | _, _ => false
def chkOs (nt : Nat) : List Operand → List Opd → Bool
  | [], [] => true
  | o :: os, x :: xs => chkO nt o x && chkOs nt os xs
  | _, _ => false
def chkOo (nt : Nat) : Option Operand → Option Opd → Bool
  | none, none => true
  | some o, some x => chkO nt o x
  | _, _ => false

def cstL : List RV → List Value → Bool
  | [], [] => true
  | r :: rs, v :: vs => cstB r v && cstL rs vs
  | _, _ => false
/-- The zero of a type. -/
def zrow (P : Program) (t : TypeId) (zs : List RV) : Bool :=
  match zeroA P t with
  | some z => cstL zs z.toList
  | none => false
def zval (P : Program) (t : TypeId) (z : RV) : Bool :=
  match zeroV P t with
  | some (.agg x) => (match z with | .agg zs => cstL zs x.toList | _ => false)
  | some v => cstB z v
  | none => false

def isSl (P : Program) (t e : TypeId) : Bool :=
  match P.underlying t with
  | some (.slice e') => e' == e
  | _ => false
/-- The elements of a type: cells, whether it is a row of cells. -/
def elemOf (P : Program) (e : TypeId) (k : Nat) (ag : Bool) : Bool := decide (sz P e = some k) && decide (isAggA P e = some ag)

def chkPl (nt : Nat) (place : Nat → Option (Nat × Nat)) : List (Nat × Operand) → List (Nat × Nat × Opd) → Bool
  | [], [] => true
  | (i, o) :: ps, (off, k, x) :: qs => decide (place i = some (off, k)) && chkO nt o x && chkPl nt place ps qs
  | _, _ => false
def chkEl (nt : Nat) : List (Nat × Operand) → List (Nat × Opd) → Bool
  | [], [] => true
  | (i, o) :: ps, (j, x) :: qs => i == j && chkO nt o x && chkEl nt ps qs
  | _, _ => false

def chkKey (P : Program) (t kt : TypeId) (fk : Bool × List Sk) : Bool :=
  match P.underlying t with
  | some (.map kt' _) => kt' == kt && decide (flatK P 9 kt = some fk.2) && decide (isAggA P kt = some fk.1)
  | _ => false
def chkMapZ (P : Program) (t : TypeId) (z : RV) : Bool :=
  match P.underlying t with
  | some (.map _ et) => zval P et z
  | _ => false

def chkArgs (nt : Nat) : List Operand → List (Bool × Opd) → Bool
  | [], [] => true
  | o :: os, x :: xs => chkO nt o x.2 && chkArgs nt os xs
  | _, _ => false

/-- Elements that a list of zeros has. -/
def zelem (P : Program) (e : TypeId) (bytes : Nat) (z : RV) : Bool :=
  match P.info? e, zeroA P e with
  | some i, some c => decide (0 < i.size) && c.size == i.size && i.bytes == bytes && cstL z.cells c.toList && decide (isAggA P e = some z.isAgg)
  | _, _ => false

def chkI (P : Program) (nt : Nat) : Op → PI → Bool
  | .move x, .mv y | .assign x, .as _ y => chkO nt x y
  | .pick c a b, .pick c' a' b' => chkO nt c c' && chkO nt a a' && chkO nt b b'
  | .alloc t, .alloc t' zs => t == t' && zrow P t zs
  | .box t x, .box t' y => t == t' && chkO nt x y
  | .build t ps, .build zs qs => zrow P t zs && (match P.underlying t with
    | some (.struct fields) => (match placesA P fields.toList with | some pl => chkPl nt (fun i => pl[i]?) ps.toList qs | none => false)
    | some (.array _ e) => (match sz P e with | some k => chkPl nt (fun i => some (i * k, k)) ps.toList qs | none => false)
    | _ => false)
  | .buildSlice t n ps, .bsl e k ag z n' qs => n == n' && isSl P t e && elemOf P e k ag && decide (n * k ≤ 16777216) && decide (n ≤ 16777216) && decide (0 < k) && (match zeroA P e with | some c => c.size == k && cstL z.cells c.toList | none => false) && z.isAgg == ag && chkEl nt ps.toList qs
  | .load t a, .load k x => chkO nt a x && decide (isAggA P t = some k.isSome) && (match k with | some n => decide (sz P t = some n) | none => true)
  | .store t a v, .store k x y => chkO nt a x && chkO nt v y && decide (sz P t = some k)
  | .fieldAddr s a f, .fa o k x => chkO nt a x && (match P.underlying s with
    | some (.struct fields) => (match fields[f]? with | some fd => fd.offset == o && decide (sz P fd.type = some k) && k != 0 | none => false)
    | _ => false)
  | .indexAddr t x i, .ia e k y j => chkO nt x y && chkO nt i j && isSl P t e && decide (sz P e = some k)
  | .indexAddr t x i, .iaA len k y j => chkO nt x y && chkO nt i j && (match P.underlying t with
    | some (.array len' e) => len' == len && decide (sz P e = some k)
    | _ => false)
  | .field s x f, .fld o k y => chkO nt x y && (match P.underlying s with
    | some (.struct fields) => (match fields[f]? with | some fd => fd.offset == o && decide (isAggA P fd.type = some k.isSome) && (match k with | some n => decide (sz P fd.type = some n) | none => true) | none => false)
    | _ => false)
  | .index t x i, .idxS y j => chkO nt x y && chkO nt i j && (match P.underlying t with | some .string => true | _ => false)
  | .index t x i, .idxA len k ag y j => chkO nt x y && chkO nt i j && (match P.underlying t with
    | some (.array len' e) => len' == len && elemOf P e k ag
    | _ => false)
  | .binOp op _ x y _, .bin op' a b => decide (op = op') && chkO nt x a && chkO nt y b
  | .binOp op t x y _, .eqF neg ek a b => (decide (op = .eql) && !neg || decide (op = .neq) && neg) && chkO nt x a && chkO nt y b && (match ek, P.underlying t with
    | .b, some .bool => true
    | .s sk, some (.struct _) => decide (flatK P 9 t = some sk) && decide (isAggA P t = some true) && !P.eqGuardType P.depth t
    | .p, some (.pointer _) => true
    | .l, some (.slice _) => true
    | .m, some (.map _ _) => true
    | _, _ => false)
  | .unOp op _ x, .un op' a => decide (op = op') && chkO nt x a
  | .convert s d x, .conv k a => chkO nt x a && (match P.underlying s, P.underlying d with | some (.int _), some (.int k') => decide (k' = k) | _, _ => false)
  | .convert s d x, .cnvS a => chkO nt x a && (match P.underlying s, P.underlying d with | some .string, some .string => true | _, _ => false)
  | .nilCheck x, .nilck a => chkO nt x a
  | .makeFunc (.func f) first cap, .mkfn f' a c => f == f' && chkOs nt first.toList a && chkOs nt cap.toList c
  | .makeMap t none, .mkmap kt => (match P.underlying t with | some (.map kt' _) => kt' == kt | _ => false)
  | .makeSlice t l c, .mks e bytes z l' c' => chkO nt l l' && chkO nt c c' && isSl P t e && zelem P e bytes z
  | .slice t x lo hi none, .sub a lo' hi' => chkO nt x a && chkOo nt lo lo' && chkOo nt hi hi' && (match P.underlying t with | some .string => true | _ => false)
  | .slice t x lo hi none, .slc _ e a lo' hi' none => chkO nt x a && chkOo nt lo lo' && chkOo nt hi hi' && isSl P t e && (sz P e).isSome
  | .slice t x lo hi none, .win e a lo' hi' => chkO nt x a && chkOo nt lo lo' && chkOo nt hi hi' && isSl P t e && (sz P e).isSome
  | .lookup t m k ok, .lookup kt fk z ok' m' k' => chkO nt m m' && chkO nt k k' && ok == ok' && chkKey P t kt fk && chkMapZ P t z
  | .mapUpdate t m k v, .mup kt fk m' k' v' | .insert t m k v, .mup kt fk m' k' v' => chkO nt m m' && chkO nt k k' && chkO nt v v' && chkKey P t kt fk
  | .mapEntry t m k, .ment kt fk z m' k' => chkO nt m m' && chkO nt k k' && chkKey P t kt fk && chkMapZ P t z
  | .entryStore _ m s v, .mst kt m' s' v' => chkO nt m m' && chkO nt s s' && chkO nt v v' && (flatK P 9 kt).isSome
  | .extract x i, .ext a j => chkO nt x a && i == j
  | .call { callee := .builtin b, args, argTypes }, pi =>
    match b, argTypes.toList, args.toList, pi with
    | .len, [t], [x], .len w a => chkO nt x a && (match w, P.underlying t with | 0, some .string => true | 1, some (.slice _) => true | 2, some (.map _ _) => true | _, _ => false)
    | .append, [t0, t1], [s, x], .app e bytes a y => chkO nt s a && chkO nt x y && isSl P t0 e && isSl P t1 e && (match P.info? e, zeroA P e with | some i, some z => decide (0 < i.size) && z.size == i.size && i.bytes == bytes && (isAggA P e).isSome | _, _ => false)
    | .append, [t0, t1], [.const (.slice none 0 0), x], .appI e bytes z y => chkO nt x y && isSl P t0 e && zelem P e bytes z && (match P.underlying t1 with | some (.int _) => true | _ => false)
    | .clear, [t], [x], .clr e z y => chkO nt x y && isSl P t e && (match P.info? e with | some i => zelem P e i.bytes z | none => false)
    | .min, _, [x, y], .mm false a b => chkO nt x a && chkO nt y b
    | .max, _, [x, y], .mm true a b => chkO nt x a && chkO nt y b
    | _, _, _, _ => false
  | .call { callee := .value f, args, .. }, .call g as => chkO nt f g && chkArgs nt args.toList as
  | _, _ => false

/-- The temporary that a guard asks. -/
def chkG (nt : Nat) (ops : Array Oper) : Option (Nat × Bool) → Option (Nat × Bool) → Bool
  | none, none => true
  | some (g, w), some (d, w') => decide ((ops[g]?).bind (·.dst) = some d) && decide (d < nt) && w == w'
  | _, _ => false

def chkOps (P : Program) (nt : Nat) (ops : Array Oper) : List Oper → List PO → Bool
  | [], [] => true
  | o :: os, p :: ps => chkG nt ops o.guard p.g && decide (o.dst = p.d) && (match p.d with | some d => decide (d < nt) | none => true) && chkI P nt o.op p.i && chkOps P nt ops os ps
  | _, _ => false

/-! A region whose order is drawn: what is read beside an effect. -/
def gentleO (op : Op) (pi : PI) : Bool := cls op != .eff || match pi with
  | .call _ args => args.all fun x => !x.1
  | .app .. => true
  | _ => false
def njAt (l : List PO) (fin : List Nat) (k : Nat) : List Nat := match l[k]? with | some p => p.nj | none => fin
/-- The base of an address. -/
def baseOf : Op → Option Nat
  | .move (.tmp y) | .nilCheck (.tmp y) | .fieldAddr _ (.tmp y) _ | .indexAddr _ (.tmp y) _ => some y
  | _ => none
/-- From i on to i + n: the temporary stays. -/
def carrF (l : List PO) (fin : List Nat) (x i : Nat) : Nat → Bool
  | 0 => true
  | n + 1 => (match l[i + n]? with | some p => decide (p.d ≠ some x) | none => false) && (njAt l fin (i + n + 1)).contains x && carrF l fin x i n
/-- From j on to j + n: what the temporary leads to is there already. -/
def carrB (ops : Array Oper) (l : List PO) (fin : List Nat) (j : Nat) : Nat → Nat → Bool
  | 0, x => (njAt l fin j).contains x
  | n + 1, x => (njAt l fin (j + n + 1)).contains x && (match l[j + n]?, ops[j + n]? with
    | some p, some o => if p.d = some x then (match baseOf o.op with | some y => carrB ops l fin j n y | none => decide (cls o.op = .alloc)) else carrB ops l fin j n x
    | _, _ => false)
def rangeG (ops : Array Oper) (l : List PO) (i : Nat) : Nat → Bool
  | 0 => true
  | n + 1 => (match l[i + n]?, ops[i + n]? with | some p, some o => gentleO o.op p.i | _, _ => false) && rangeG ops l i n
def flAt (l : List PO) (k : Nat) : List Nat := match l[k]? with | some p => p.fl | none => []
def chkPair (nt : Nat) (ops : Array Oper) (l : List PO) (fin : List Nat) (p : Nat × Nat) : Bool :=
  match ops[p.1]? with
  | none => false
  | some o => decide (cls o.op = .read) && decide (p.1 < l.length) && decide (p.2 ≤ l.length) && decide (p.1 ≠ p.2) && (match o.dst with | some d => (njAt l fin (p.1 + 1)).contains d | none => false) &&
    (if p.1 < p.2 then rangeG ops l p.1 (p.2 - p.1) else rangeG ops l p.2 (p.1 - p.2)) &&
    o.op.operands.toList.all fun
      | .tmp x => decide (x < nt) && ((flAt l p.1).contains x || (if p.1 < p.2 then (njAt l fin p.1).contains x && carrF l fin x p.1 (p.2 - p.1) else carrB ops l fin p.2 (p.1 - p.2) x))
      | .const v => isBase v
      | .func _ => true
      | .global _ => false
def chkD (nt : Nat) (ops : Array Oper) (l : List PO) (fin : List Nat) : Bool := (pairsD ops).all (chkPair nt ops l fin)

def chkC (P : Program) (nt : Nat) : Code → PC → Bool
  | .skip, .skip => true
  | .region _ ops dr, .ops l fin _ dr' => dr == dr' && chkOps P nt ops ops.toList l && (!dr || chkD nt ops l fin)
  | .seq a b, .seq a' b' => chkC P nt a a' && chkC P nt b b'
  | .cond c a b, .cond c' a' b' => chkO nt c c' && chkC P nt a a' && chkC P nt b b'
  | .block i c, .block i' c' => i == i' && chkC P nt c c'
  | .loop c, .loop c' => chkC P nt c c'
  | .exit i, .exit i' => i == i'
  | .ret, .ret => true
  | _, _ => false

def chkR (P : Program) (nt : Nat) : ResultVar → PR → Bool
  | .tmp t, .t x => t == x && decide (t < nt)
  | .cell a t, .c b k => a == b && decide (a < nt) && decide (isAggA P t = some k.isSome) && (match k with | some n => decide (sz P t = some n) | none => true)
  | _, _ => false
def chkRs (P : Program) (nt : Nat) : List ResultVar → List PR → Bool
  | [], [] => true
  | a :: l, b :: m => chkR P nt a b && chkRs P nt l m
  | _, _ => false

/-- Is this the function's code? -/
def chkF (P : Program) (f : FuncId) (nt : Nat) (pc : PC) (rs : List PR) : Bool :=
  match P.funcs[f]? with
  | some fn => fn.ntmps == nt && (match fn.body with | some c => chkC P nt c pc | none => false) && chkRs P nt fn.results.toList rs
  | none => false

end Go.PM

/-
  PM: operations that write nothing, against AH's.
-/
namespace Go.PM
open Go Go.AH
variable {P : Program} {H H' : Heap} {Z Z' : Nat → Prop} {T T' : Tm} {A : Nat → Value} {F F' : Nat → List Nat}

/-- What an operation comes to. -/
def Out (P : Program) (H : Heap) (Z : Nat → Prop) (A : Nat → Value) (F : Nat → List Nat) (v : TV) (T' : Tm) (a : Value) (H' : Heap) : Prop :=
  ∃ Z' F' f, SR P T' A H' Z' F' ∧ TR P T' A H' Z' v a f ∧ f.Nodup ∧ (∀ b ∈ f, ¬ Z' b) ∧ (∀ x, ∀ b ∈ f, b ∉ F' x) ∧ Stp H Z F H' Z' F' ∧ (∀ b ∈ f, (∃ x, b ∈ F x) ∨ H.size ≤ b)

theorem Out.tr (S : SR P T A H Z F) {v : TV} {a : Value} (h : TR P T A H Z v a []) : Out P H Z A F v T a H := ⟨Z, F, [], S, h, by simp, by simp, by simp, Stp.refl, by simp⟩
theorem Out.plain (S : SR P T A H Z F) {y : RV} {a : Value} (h : RR P H Z y a) : Out P H Z A F (.v y) T a H := .tr S (.one (.own (.v h)))
theorem Out.look (S : SR P T A H Z F) {v : TV} {a : Value} (h : LK P T A H Z F v a) : Out P H Z A F v T a H := .tr S h.tr
theorem Out.own0 (S : SR P T A H Z F) {v : RV} {a : Value} (h : cstB v a = true) : Out P H Z A F (own0 v) T a H := .tr S (.one (.own (own0_ov h)))

theorem ev_of {nt : Nat} {TA : Tmps} (hT : ∀ s, s < nt → TA.getD s undef = A s) {o : Operand} {x : Opd} (h : chkO nt o x = true) : EV A x (ev TA o) := by
  unfold chkO at h
  split at h
  · simp only [Bool.and_eq_true, beq_iff_eq, decide_eq_true_eq] at h
    obtain ⟨rfl, h⟩ := h
    simp only [ev]
    rw [hT _ h]
    exact .t _
  · simp only [Bool.and_eq_true] at h
    simp only [ev, h.1, if_true]
    exact .c h.2
  · exact .c h
  · cases h

theorem get_app {t : TV} : ∀ {p q : List Sel}, t.get (p ++ q) = (t.get p).bind (·.get q)
  | [], q => rfl
  | s :: p, q => by
    simp only [List.cons_append, TV.get]
    cases t.child s with
    | none => rfl
    | some u => simp only [Option.bind_some]; exact get_app
theorem plA_app {a : Value} : ∀ {p q : List Sel}, plA H a (p ++ q) = (plA H a p).bind (plA H · q)
  | [], q => rfl
  | s :: p, q => by
    simp only [List.cons_append, plA]
    cases childA H a s with
    | none => rfl
    | some u => simp only [Option.bind_some]; exact plA_app

/-- What stands at a place. -/
theorem at_rel {r : Nat} {p : List Sel} {w : TV} {a : Value} {f : List Nat} (ho : OV P H Z (T r) a f) (hg : (T r).get p = some w) : ∃ a' f', plA H a p = some a' ∧ OV P H Z w a' f' ∧ ∀ b ∈ f', b ∈ f := by
  obtain ⟨as, g1, fs, g2, e1, rfl, e2, _⟩ := ho.focus hg
  exact ⟨as, fs, e1, e2, fun b hb => by simp [hb]⟩

/-- A cell of a box, and its name. -/
theorem cell_rel {r : Nat} {p : List Sel} {t : TypeId} {cs : List TV} {b o : Nat} {c : Array Value} {u : TV} (ho : OV P H Z (T r) (A r) (F r)) (hg : (T r).get p = some (.bx t cs)) (hp : plA H (A r) p = some (.pointer (some ⟨b, 0, none⟩)))
    (hb : H[b]? = some (.cells c t true)) (hu : cs[o]? = some u) : ∃ av, c[o]? = some av ∧ (∀ x, u = .v x → RR P H Z x av) ∧ TR P T A H Z (.als r (p ++ [.c o])) av [] := by
  obtain ⟨a', f', e1, e2, _⟩ := at_rel ho hg
  rw [hp] at e1; cases e1
  cases e2 with
  | bx h1 hb' hv =>
    rw [hb] at hb'; cases hb'
    obtain ⟨av, g1, fs, g2, k1, _, k2, _, _⟩ := hv.focus hu
    have k1' : c[o]? = some av := by simpa using k1
    refine ⟨av, k1', fun x hx => ?_, .one (.als (w := u) ?_ ?_)⟩
    · subst hx
      cases k2 with
      | v h => exact h
    · rw [get_app, hg]
      simp [TV.get, TV.child, hu]
    · rw [plA_app, hp]
      simp [plA, childA, hb, k1']

theorem OVL.split : ∀ {t1 t2 : List TV} {a : List Value} {f : List Nat}, OVL P H Z (t1 ++ t2) a f → ∃ a1 a2 f1 f2, a = a1 ++ a2 ∧ f = f1 ++ f2 ∧ OVL P H Z t1 a1 f1 ∧ OVL P H Z t2 a2 f2
  | [], t2, a, f, h => ⟨[], a, [], f, rfl, rfl, .nil, h⟩
  | t :: t1, t2, _, _, .cons h r => by
    obtain ⟨a1, a2, f1, f2, rfl, rfl, h1, h2⟩ := OVL.split (t1 := t1) r
    exact ⟨_, a2, _, f2, by rw [List.cons_append], by rw [List.append_assoc], .cons h h1, h2⟩

theorem seg_eq {α : Type} {l : List α} {o k : Nat} (h : o + k ≤ l.length) : l = l.take o ++ ((l.drop o).take k ++ l.drop (o + k)) := by
  have : l.drop o = (l.drop o).take k ++ l.drop (o + k) := by rw [← List.drop_drop, List.take_append_drop]
  rw [← this, List.take_append_drop]

/-- A piece of a row. -/
theorem OVL.seg {cs : List TV} {a : List Value} {f : List Nat} {o k : Nat} (h : OVL P H Z cs a f) (hle : o + k ≤ cs.length) :
    ∃ f1 f2 f3, f = f1 ++ (f2 ++ f3) ∧ OVL P H Z (cs.take o) (a.take o) f1 ∧ OVL P H Z ((cs.drop o).take k) ((a.drop o).take k) f2 ∧ OVL P H Z (cs.drop (o + k)) (a.drop (o + k)) f3 := by
  have hl := h.length
  rw [seg_eq hle] at h
  obtain ⟨a1, a2, f1, f2, rfl, rfl, h1, h2⟩ := h.split
  obtain ⟨a3, a4, f3, f4, rfl, rfl, h3, h4⟩ := h2.split
  have l1 := h1.length
  have l3 := h3.length
  simp only [List.length_take, List.length_drop] at l1 l3
  have e1 : a1.length = o := by omega
  have e3 : a3.length = k := by omega
  refine ⟨f1, f3, f4, rfl, ?_, ?_, ?_⟩
  · rw [List.take_append_of_le_length (by omega), ← e1, List.take_length]; rw [← e1] at h1; exact h1
  · rw [← e1, List.drop_left, ← e3, List.take_left]; rw [← e1, ← e3] at h3; exact h3
  · have : (a1 ++ (a3 ++ a4)).drop (o + k) = a4 := by rw [← List.drop_drop, ← e1, List.drop_left, ← e3, List.drop_left]
    rw [this]; exact h4

theorem OVL.plain_nil : ∀ {cs : List TV} {a : List Value} {f : List Nat}, OVL P H Z cs a f → cs.all plainB = true → f = []
  | _, _, _, .nil, _ => rfl
  | _, _, _, .cons h r, hp => by
    simp only [List.all_cons, Bool.and_eq_true] at hp
    have := r.plain_nil hp.2
    subst this
    cases h <;> first | rfl | (simp [plainB] at hp)

theorem RRs.drop_take {l : List RV} {x : List Value} (h : RRs P H Z l x) (o k : Nat) : RRs P H Z ((l.drop o).take k) ((x.drop o).take k) :=
  ⟨by simp [h.1], fun i h1 h2 => by
    simp only [List.getElem_take, List.getElem_drop]
    exact h.2 _ (by simp at h1; omega) (by simp at h2; omega)⟩

theorem RR.agg' {l : List RV} {x : Array Value} (h1 : ones x) (h : RRs P H Z l x.toList) : RR P H Z (.agg l) (.agg x) :=
  .agg h1 (by simpa using h.1) fun i k1 k2 => by
    have := h.2 i k1 (by simpa using k2)
    rw [Array.getElem_toList] at this
    exact this
theorem RR.agg_inv {l : List RV} {a : Value} (h : RR P H Z (.agg l) a) : ∃ x, a = .agg x ∧ ones x ∧ RRs P H Z l x.toList := by
  cases h with
  | agg h1 hl h =>
    refine ⟨_, rfl, h1, by simpa using hl, fun i k1 k2 => ?_⟩
    rw [Array.getElem_toList]
    exact h i k1 (by simpa using k2)
theorem ones_extract {c : Array Value} (h : ones c) (o k : Nat) : ones (c.extract o k) := by
  unfold ones at *
  rw [List.all_eq_true] at *
  intro v hv
  refine h v ?_
  rw [Array.toList_extract] at hv
  exact List.mem_of_mem_drop (List.mem_of_mem_take hv) |> fun h => h

/-- A box's window that never changes. -/
theorem RR.bx_inv {cs : List RV} {a : Value} (h : RR P H Z (.bx cs) a) : ∃ b o c t rw, a = .pointer (some ⟨b, o, none⟩) ∧ ones c ∧ Z b ∧ H[b]? = some (.cells c t rw) ∧ o + cs.length ≤ c.size ∧ RRs P H Z cs ((c.toList.drop o).take cs.length) := by
  cases h with
  | bx h1 hz hb hle h =>
    refine ⟨_, _, _, _, _, rfl, h1, hz, hb, hle, by simp; omega, fun i k1 k2 => ?_⟩
    simp only [List.getElem_take, List.getElem_drop, Array.getElem_toList]
    exact h i k1 (by omega)
theorem RR.bx' {cs : List RV} {b o : Nat} {c : Array Value} {t : TypeId} {rw_ : Bool} (h1 : ones c) (hz : Z b) (hb : H[b]? = some (.cells c t rw_)) (hle : o + cs.length ≤ c.size) (h : RRs P H Z cs ((c.toList.drop o).take cs.length)) : RR P H Z (.bx cs) (.pointer (some ⟨b, o, none⟩)) :=
  .bx h1 hz hb hle fun i k1 k2 => by
    have := h.2 i k1 (by simp; omega)
    simp only [List.getElem_take, List.getElem_drop, Array.getElem_toList] at this
    exact this

theorem take_extract' (cs : Array Value) (o k : Nat) : (cs.extract o (o + k)).toList = (cs.toList.drop o).take k := AH.take_extract cs o k

theorem RRs.get {l : List RV} {x : List Value} (h : RRs P H Z l x) {i : Nat} {y : RV} (e : l[i]? = some y) : ∃ a, x[i]? = some a ∧ RR P H Z y a := by
  obtain ⟨hi, rfl⟩ := List.getElem?_eq_some_iff.1 e
  have hi' : i < x.length := h.1 ▸ hi
  exact ⟨x[i], List.getElem?_eq_getElem hi', h.2 i hi hi'⟩

/-- An element of a list of one's own, its cells. -/
theorem OV.sl_inv {e : TypeId} {els : List RV} {a : Value} {f : List Nat} (h : OV P H Z (.sl e els) a f) (hne : els ≠ []) :
    ∃ b c k cs ag, a = .slice (some ⟨b, 0, none⟩) els.length c ∧ f = [b] ∧ ones cs ∧ H[b]? = some (.cells cs e true) ∧ sz P e = some k ∧ isAggA P e = some ag ∧ els.length ≤ c ∧ (c = capU ∨ (c < capU ∧ c * k ≤ cs.size)) ∧ els.length * k ≤ cs.size ∧
      ∀ i (h : i < els.length), (els[i].cells).length = k ∧ els[i].isAgg = ag ∧ RRs P H Z els[i].cells ((cs.toList.drop (i * k)).take k) := by
  cases h with
  | slN => exact absurd rfl hne
  | @sl e els b c k cs ag h1 hb hk hag hc hcap hle hs h =>
    refine ⟨_, _, _, _, _, rfl, rfl, h1, hb, hk, hag, hc, hcap, hle, fun i hi => ?_⟩
    obtain ⟨s1, s2⟩ := hs i hi
    have hb2 : (i + 1) * k ≤ els.length * k := Nat.mul_le_mul_right _ (Nat.succ_le_of_lt hi)
    rw [Nat.add_mul] at hb2
    refine ⟨s1, s2, by simp; omega, fun j k1 k2 => ?_⟩
    simp only [List.getElem_take, List.getElem_drop, Array.getElem_toList]
    exact h i j hi k1 (by omega)
theorem RR.sl_inv {e : TypeId} {els : List RV} {a : Value} (h : RR P H Z (.sl e els) a) (hne : els ≠ []) :
    ∃ b o c k cs rw ag, a = .slice (some ⟨b, o, none⟩) els.length c ∧ Z b ∧ ones cs ∧ H[b]? = some (.cells cs e rw) ∧ sz P e = some k ∧ isAggA P e = some ag ∧ els.length ≤ c ∧ (c = capU ∨ c < capU) ∧ o + els.length * k ≤ cs.size ∧
      ∀ i (h : i < els.length), (els[i].cells).length = k ∧ els[i].isAgg = ag ∧ RRs P H Z els[i].cells ((cs.toList.drop (o + i * k)).take k) := by
  cases h with
  | slN => exact absurd rfl hne
  | @sl e els b o c k cs rw ag h1 hz hb hk hag hc hcap hle hs h =>
    refine ⟨_, _, _, _, _, _, _, rfl, hz, h1, hb, hk, hag, hc, hcap, hle, fun i hi => ?_⟩
    obtain ⟨s1, s2⟩ := hs i hi
    have hb2 : (i + 1) * k ≤ els.length * k := Nat.mul_le_mul_right _ (Nat.succ_le_of_lt hi)
    rw [Nat.add_mul] at hb2
    refine ⟨s1, s2, by simp; omega, fun j k1 k2 => ?_⟩
    simp only [List.getElem_take, List.getElem_drop, Array.getElem_toList]
    exact h i j hi k1 (by omega)


theorem get?_drop_take {α : Type} {l : List α} {o k i : Nat} (h : i < k) : ((l.drop o).take k)[i]? = l[o + i]? := by
  rw [List.getElem?_take_of_lt h, List.getElem?_drop]

theorem sim_load (S : SR P T A H Z F) {x : Opd} {a0 : Value} (ha : EV A x a0) {t : TypeId} {k : Option Nat} (hc1 : isAggA P t = some k.isSome) (hc2 : ∀ n, k = some n → sz P t = some n) {v : TV} (h : exec T (.load k x) = some (v, T')) :
    ∃ a, loadA P t H a0 = some a ∧ Out P H Z A F v T' a H := by
  simp only [exec] at h
  obtain ⟨q, hq, h⟩ := Option.bind_eq_some_iff.1 h
  have hl := look_rel S ha
  -- a window of a box of one's own
  have boxed : ∀ {r : Nat} {p : List Sel} {o b : Nat} {t9 : TypeId} {cs : List TV}, (T r).get p = some (.bx t9 cs) → plA H (A r) p = some (.pointer (some ⟨b, 0, none⟩)) → OV P H Z (T r) (A r) (F r) → q = .B r p o →
      ∃ a, loadA P t H (.pointer (some ⟨b, o, none⟩)) = some a ∧ Out P H Z A F v T' a H := by
    intro r p o b t9 cs hg hp ho hqe
    subst hqe
    simp only [hg] at h
    obtain ⟨a', g1, fs, g2, e1, e2, e3, e4⟩ := S.upd hg ho
    rw [hp] at e1; cases e1
    cases e3 with
    | @bx _ _ _ c f h1 hb hv =>
    have hcl := hv.length
    simp only [Array.length_toList] at hcl
    cases k with
    | none =>
      simp only at h
      obtain ⟨u, hu, h⟩ := Option.bind_eq_some_iff.1 h
      obtain ⟨av, k1, k2, k3⟩ := cell_rel ho hg hp hb hu
      refine ⟨av, by simp [loadA, hb, hc1, k1], ?_⟩
      split at h
      · simp only [Option.some.injEq, Prod.mk.injEq] at h
        obtain ⟨rfl, rfl⟩ := h
        exact .plain S (k2 _ rfl)
      · split at h
        · simp only [Option.some.injEq, Prod.mk.injEq] at h
          obtain ⟨rfl, rfl⟩ := h
          exact .tr S k3
        · cases h
    | some k =>
      simp only at h
      split at h
      · rename_i hle
        obtain ⟨xs, hx, h⟩ := Option.map_eq_some_iff.1 h
        have hsz := hc2 k rfl
        obtain ⟨f1, f2, f3, rfl, o1, o2, o3⟩ := hv.seg hle
        have hd := o2.dem hx
        have hdl := hd.1
        refine ⟨.agg (c.extract o (o + k)), by simp [loadA, hb, hc1, hsz]; omega, ?_⟩
        split at h
        · rename_i hpl
          simp only [Prod.mk.injEq] at h
          obtain ⟨rfl, rfl⟩ := h
          have := o2.plain_nil hpl
          subst this
          exact .plain S (.agg' (ones_extract h1 _ _) (by
            rw [take_extract']
            exact ⟨hd.1, fun i k1 k2 => (hd.2 i k1 k2).mono fun b hb => ⟨by simpa using hb, rfl⟩⟩))
        · simp only [Prod.mk.injEq] at h
          obtain ⟨rfl, rfl⟩ := h
          have mono2 : ∀ {y : RV} {a : Value}, RR P H (fun b => Z b ∨ b ∈ f2) y a → RR P H (fun b => Z b ∨ b ∈ f2) y a := fun h => h
          have zz : ∀ b', Z b' → (Z b' ∨ b' ∈ f2) ∧ H[b']? = H[b']? := fun b' hb => ⟨.inl hb, rfl⟩
          have nd := S.nd r
          rw [e2] at nd
          have ndfs : (b :: (f1 ++ (f2 ++ f3))).Nodup := (List.nodup_append.1 (List.nodup_append.1 nd).1).2.1
          obtain ⟨nb, nd2⟩ := List.nodup_cons.1 ndfs
          obtain ⟨nf1, nf23, n12⟩ := List.nodup_append.1 nd2
          obtain ⟨nf2, nf3, n23⟩ := List.nodup_append.1 nf23
          have new : OVL P H (fun b => Z b ∨ b ∈ f2) (setR cs o (xs.map .v)) c.toList (f1 ++ ([] ++ f3)) := by
            have hc : c.toList = c.toList.take o ++ ((c.toList.drop o).take k ++ c.toList.drop (o + k)) := seg_eq (by simp; omega)
            have hlen : (xs.map TV.v).length = k := by
              have h9 := hd.1
              simp at h9 ⊢; omega
            rw [hc, setR, hlen, List.append_assoc]
            exact (o1.mono zz fun _ _ => rfl).append ((OVL.plain hd).append (o3.mono zz fun _ _ => rfl))
          have fin := e4 H (fun b => Z b ∨ b ∈ f2) (.bx t9 (setR cs o (xs.map .v))) (b :: (f1 ++ ([] ++ f3))) false zz
            (fun x b' hb' hn => ⟨rfl, fun h => h.elim (S.fz x b' hb') fun h => hn (by simp [h])⟩) (.bx h1 hb new) (.inr (by simp [Alike])) (by
              simp only [List.nil_append]
              refine List.nodup_cons.2 ⟨fun h => nb (by simp only [List.mem_append] at h ⊢; rcases h with h | h <;> simp [h]), List.nodup_append.2 ⟨nf1, nf3, fun a ha b hb => n12 a ha b (by simp [hb])⟩⟩)
            (fun b' hb' => by
              simp only [List.nil_append, List.mem_cons, List.mem_append] at hb'
              have hin : b' ∈ b :: (f1 ++ (f2 ++ f3)) := by rcases hb' with h | h | h <;> simp [h]
              refine ⟨fun h => ?_, .inl hin⟩
              rcases h with h | h
              · exact S.fz r b' (by rw [e2]; simp only [List.mem_append]; exact .inl (.inr hin)) h
              · rcases hb' with rfl | hb' | hb'
                · exact nb (by simp [h])
                · exact n12 b' hb' b' (by simp [h]) rfl
                · exact n23 b' h b' hb' rfl)
            (fun b' hb' => by
              rcases hb' with h | h
              · exact S.zl b' h
              · exact ho.lt b' (by rw [e2]; simp [h]))
          refine ⟨_, _, [], fin, .one (.own (.v (.agg' (ones_extract h1 _ _) (by rw [take_extract']; exact hd)))), by simp, by simp, by simp, ⟨Nat.le_refl _, fun _ _ _ => rfl, fun _ h => .inl h, fun b' h => ?_, fun x b' h => ?_⟩, by simp⟩
          · rcases h with h | h
            · exact .inl h
            · exact .inr (.inl ⟨r, by rw [e2]; simp [h]⟩)
          · by_cases hxr : x = r
            · subst hxr
              rw [setA_same] at h
              refine .inl ⟨x, ?_⟩
              rw [e2]
              simp only [List.nil_append, List.mem_append, List.mem_cons] at h ⊢
              rcases h with (h | h | h | h) | h <;> simp [h]
            · rw [setA_ne hxr] at h
              exact .inl ⟨x, h⟩
      · cases h
  unfold ptr ptrOf at hq
  split at hq
  · -- a window that never changes
    rename_i cs hlk
    cases hq
    rw [hlk] at hl
    cases hl with
    | v hr =>
      obtain ⟨b, o, c, t9, rw_, rfl, h1, hz, hb, hle, hr⟩ := hr.bx_inv
      cases k with
      | none =>
        simp only at h
        obtain ⟨y, hy, h⟩ := Option.map_eq_some_iff.1 h
        simp only [Prod.mk.injEq] at h
        obtain ⟨rfl, rfl⟩ := h
        obtain ⟨av, k1, k2⟩ := hr.get hy
        obtain ⟨hi, _⟩ := List.getElem?_eq_some_iff.1 hy
        rw [get?_drop_take hi] at k1
        refine ⟨av, ?_, .plain S k2⟩
        simp only [loadA, hb, hc1, Option.isSome_none]
        simpa using k1
      | some k =>
        simp only at h
        split at h
        · rename_i hk
          simp only [Option.some.injEq, Prod.mk.injEq] at h
          obtain ⟨rfl, rfl⟩ := h
          have hsz := hc2 k rfl
          refine ⟨.agg (c.extract o (o + k)), by simp [loadA, hb, hc1, hsz]; omega, .plain S (.agg' (ones_extract h1 _ _) ?_)⟩
          rw [take_extract']
          have := hr.drop_take 0 k
          simp only [List.drop_zero, List.take_take, Nat.min_eq_left hk] at this
          exact this
        · cases h
  · rename_i r p hlk
    rw [hlk] at hl
    cases hl with
    | als hg hw hp ho =>
      split at hq
      · rename_i t9 cs hg2
        cases hq
        obtain ⟨a', f', e1, e2, _⟩ := at_rel ho hg2
        rw [hp] at e1; cases e1
        cases e2 with
        | bx h1 hb hv => exact boxed hg2 hp ho rfl
      · cases hq
  · rename_i r p o k' hlk
    cases hq
    rw [hlk] at hl
    cases hl with
    | adr hg hp ho => exact boxed hg hp ho rfl
  · rename_i r p i o k' hlk
    cases hq
    rw [hlk] at hl
    cases hl with
    | @ade r p b i o _ ke c n e els hg hp hs hi ho =>
      simp only [hg] at h
      obtain ⟨a', f', e1, e2, _⟩ := at_rel ho hg
      rw [hp] at e1; cases e1
      have hne : els ≠ [] := fun h => by rw [h] at hi; simp at hi
      obtain ⟨b', c', ke', cs, ag, q1, _, h1, hb, hk, hag, hcc, _, hle, hel⟩ := e2.sl_inv hne
      simp only [Value.slice.injEq, Option.some.injEq, Addr.mk.injEq] at q1
      obtain ⟨⟨rfl, _⟩, _, _⟩ := q1
      rw [hs] at hk; cases hk
      obtain ⟨y, hy, h⟩ := Option.bind_eq_some_iff.1 h
      obtain ⟨_, rfl⟩ := List.getElem?_eq_some_iff.1 hy
      obtain ⟨s1, s2, s3⟩ := hel i hi
      have hb2 : (i + 1) * ke ≤ els.length * ke := Nat.mul_le_mul_right _ (Nat.succ_le_of_lt hi)
      rw [Nat.add_mul] at hb2
      cases k with
      | none =>
        simp only at h
        obtain ⟨z, hz, h⟩ := Option.map_eq_some_iff.1 h
        simp only [Prod.mk.injEq] at h
        obtain ⟨rfl, rfl⟩ := h
        obtain ⟨av, k1, k2⟩ := s3.get hz
        obtain ⟨hi2, _⟩ := List.getElem?_eq_some_iff.1 hz
        rw [get?_drop_take (by omega)] at k1
        refine ⟨av, ?_, .plain S k2⟩
        simp only [loadA, hb, hc1, Option.isSome_none]
        simpa using k1
      | some k =>
        simp only at h
        split at h
        · rename_i hk
          simp only [Option.some.injEq, Prod.mk.injEq] at h
          obtain ⟨rfl, rfl⟩ := h
          have hsz := hc2 k rfl
          refine ⟨.agg (cs.extract (i * ke + o) (i * ke + o + k)), by simp [loadA, hb, hc1, hsz]; omega, .plain S (.agg' (ones_extract h1 _ _) ?_)⟩
          rw [take_extract']
          have := s3.drop_take o k
          rw [List.drop_take, List.take_take, List.drop_drop, Nat.min_eq_left (by omega)] at this
          exact this
        · cases h
  · cases hq

end Go.PM

/-
  PM: operations that write nothing, against AH's: addresses, parts, numbers, texts, comparisons, lengths, maps read.
-/
namespace Go.PM
open Go Go.AH
variable {P : Program} {H H' : Heap} {Z Z' : Nat → Prop} {T T' : Tm} {A : Nat → Value} {F F' : Nat → List Nat}

theorem int_rel (S : SR P T A H Z F) {x : Opd} {a : Value} (hx : EV A x a) {k : IntKind} {i : Int} (h : intOf T x = some (k, i)) : a = .int k i := by
  unfold intOf at h
  have hl := look_rel S hx
  split at h
  · rename_i hlk
    cases h
    rw [hlk] at hl
    cases hl with
    | v hr => cases hr; rfl
  · cases h
theorem str_rel (S : SR P T A H Z F) {x : Opd} {a : Value} (hx : EV A x a) {s : ByteArray} (h : strOf T x = some s) : a = .string s := by
  unfold strOf at h
  have hl := look_rel S hx
  split at h
  · rename_i hlk
    cases h
    rw [hlk] at hl
    cases hl with
    | v hr => cases hr; rfl
  · cases h

/-- A place that a name leads to, and what lies there. -/
theorem als_rel (S : SR P T A H Z F) {x : Opd} {a : Value} (hx : EV A x a) {r : Nat} {p : List Sel} (h : look T x = .als r p) : plA H (A r) p = some a ∧ OV P H Z (T r) (A r) (F r) ∧ ∀ w, (T r).get p = some w → ∃ f', OV P H Z w a f' ∧ ∀ b ∈ f', b ∈ F r := by
  have hl := look_rel S hx
  rw [h] at hl
  cases hl with
  | als hg hw hp ho =>
    refine ⟨hp, ho, fun w hg2 => ?_⟩
    obtain ⟨a', f', e1, e2, e3⟩ := at_rel ho hg2
    rw [hp] at e1; cases e1
    exact ⟨f', e2, e3⟩

theorem RRs.window {cs : List RV} {x : List Value} {o : Nat} (h : RRs P H Z cs ((x.drop o).take cs.length)) {o2 k : Nat} (hk : o2 + k ≤ cs.length) : RRs P H Z ((cs.drop o2).take k) ((x.drop (o + o2)).take ((cs.drop o2).take k).length) := by
  have := h.drop_take o2 k
  rw [List.drop_take, List.take_take, List.drop_drop, Nat.min_eq_left (by omega)] at this
  have e : ((cs.drop o2).take k).length = k := by simp; omega
  rw [e]
  exact this

/-- A window within a window that never changes. -/
theorem win_rel {cs : List RV} {a0 : Value} (hr : RR P H Z (.bx cs) a0) {o k : Nat} (hk : o + k ≤ cs.length) : ∃ b o0, a0 = .pointer (some ⟨b, o0, none⟩) ∧ RR P H Z (.bx ((cs.drop o).take k)) (.pointer (some ⟨b, o0 + o, none⟩)) := by
  obtain ⟨b, o0, c, t9, rw_, rfl, h1, hz, hb, hle, hr⟩ := hr.bx_inv
  exact ⟨b, o0, rfl, .bx' h1 hz hb (by simp; omega) (hr.window hk)⟩

theorem sim_fa (S : SR P T A H Z F) {x : Opd} {a0 : Value} (ha : EV A x a0) {s : TypeId} {fi o k : Nat} {fields : Array Field} {fd : Field} (hu : P.underlying s = some (.struct fields)) (hf : fields[fi]? = some fd) (ho : fd.offset = o) (hk : sz P fd.type = some k) (hk0 : k ≠ 0)
    {v : TV} (h : exec T (.fa o k x) = some (v, T')) : ∃ a, fieldAddrA P s fi a0 = some a ∧ Out P H Z A F v T' a H := by
  have hl := look_rel S ha
  simp only [exec] at h
  have key : ∀ b o0, fieldAddrA P s fi (.pointer (some ⟨b, o0, none⟩)) = some (.pointer (some ⟨b, o0 + o, none⟩)) := fun b o0 => by
    simp [fieldAddrA, hu, hf, hk, hk0, ho]
  split at h
  · rename_i cs hlk
    rw [hlk] at hl
    split at h
    · rename_i hle
      simp only [Option.some.injEq, Prod.mk.injEq] at h
      obtain ⟨rfl, rfl⟩ := h
      cases hl with
      | v hr =>
        obtain ⟨b, o0, rfl, r2⟩ := win_rel hr hle
        exact ⟨_, key b o0, .plain S r2⟩
    · cases h
  · rename_i r p hlk
    obtain ⟨hp, hor, hw⟩ := als_rel S ha hlk
    split at h
    · rename_i t9 cs hg
      simp only [Option.some.injEq, Prod.mk.injEq] at h
      obtain ⟨rfl, rfl⟩ := h
      obtain ⟨f', e2, _⟩ := hw _ hg
      cases e2 with
      | bx h1 hb hv =>
        refine ⟨_, key _ _, .tr S ?_⟩
        rw [Nat.zero_add]
        exact .one (.adr hg hp)
    · cases h
  · rename_i r p o' k' hlk
    rw [hlk] at hl
    simp only [Option.some.injEq, Prod.mk.injEq] at h
    obtain ⟨rfl, rfl⟩ := h
    cases hl with
    | adr hg hp hor => exact ⟨_, key _ _, .tr S (.one (.adr hg hp))⟩
  · rename_i r p i o' k' hlk
    rw [hlk] at hl
    simp only [Option.some.injEq, Prod.mk.injEq] at h
    obtain ⟨rfl, rfl⟩ := h
    cases hl with
    | ade hg hp hs hi hor =>
      refine ⟨_, key _ _, .tr S ?_⟩
      rw [Nat.add_assoc]
      exact .one (.ade hg hp hs hi)
  · cases h

theorem elem_rel {e : TypeId} {els : List RV} {a : Value} (h : RR P H Z (.sl e els) a) {i k : Nat} {y : RV} (hk : sz P e = some k) (hy : els[i]? = some y) :
    ∃ b o c, a = .slice (some ⟨b, o, none⟩) els.length c ∧ RR P H Z (.bx y.cells) (.pointer (some ⟨b, o + i * k, none⟩)) := by
  obtain ⟨hi, rfl⟩ := List.getElem?_eq_some_iff.1 hy
  obtain ⟨b, o, c, k', cs, rw_, ag, rfl, hz, h1, hb, hk', hag, hc, hcap, hle, hel⟩ := h.sl_inv (fun h => by rw [h] at hi; simp at hi)
  rw [hk] at hk'; cases hk'
  obtain ⟨s1, s2, s3⟩ := hel i hi
  have hb2 : (i + 1) * k ≤ els.length * k := Nat.mul_le_mul_right _ (Nat.succ_le_of_lt hi)
  rw [Nat.add_mul] at hb2
  exact ⟨b, o, c, rfl, .bx' h1 hz hb (by omega) (by rw [s1]; exact s3)⟩

theorem sim_ia (S : SR P T A H Z F) {x y : Opd} {a0 i0 : Value} (ha : EV A x a0) (hi : EV A y i0) {t e : TypeId} {k : Nat} (hu : P.underlying t = some (.slice e)) (hk : sz P e = some k)
    {v : TV} (h : exec T (.ia e k x y) = some (v, T')) : ∃ a, indexAddrA P t a0 i0 = some a ∧ Out P H Z A F v T' a H := by
  have hl := look_rel S ha
  simp only [exec] at h
  obtain ⟨⟨ik, i⟩, hio, h⟩ := Option.bind_eq_some_iff.1 h
  have := int_rel S hi hio
  subst this
  simp only at h
  split at h
  · rename_i e' els hlk
    rw [hlk] at hl
    split at h
    · rename_i hc
      obtain ⟨h0, he⟩ := hc
      obtain ⟨z, hz, h⟩ := Option.map_eq_some_iff.1 h
      simp only [Prod.mk.injEq] at h
      obtain ⟨rfl, rfl⟩ := h
      cases hl with
      | v hr =>
        rw [he] at hr
        obtain ⟨b, o, c, rfl, r2⟩ := elem_rel hr hk hz
        obtain ⟨hi', _⟩ := List.getElem?_eq_some_iff.1 hz
        refine ⟨_, ?_, .plain S r2⟩
        have : i < (els.length : Int) := by omega
        simp [indexAddrA, hu, hk, h0, this]
    · cases h
  · rename_i r p hlk
    obtain ⟨hp, hor, hw⟩ := als_rel S ha hlk
    split at h
    · rename_i e' els hg
      split at h
      · rename_i hc
        obtain ⟨h0, h1, he⟩ := hc
        rw [he] at hg
        simp only [Option.some.injEq, Prod.mk.injEq] at h
        obtain ⟨rfl, rfl⟩ := h
        obtain ⟨f', e2, _⟩ := hw _ hg
        obtain ⟨b, c, k', cs, ag, rfl, _, _, hb, hk', _⟩ := e2.sl_inv (fun h => by rw [h] at h1; simp at h1; omega)
        refine ⟨.pointer (some ⟨b, i.toNat * k, none⟩), by simp [indexAddrA, hu, hk, h0, h1], .tr S ?_⟩
        have := @TR1.ade P T A H Z r p b i.toNat 0 k k c els.length e els hg hp hk (by omega)
        rw [Nat.add_zero] at this
        exact .one this
      · cases h
    · cases h
  · rename_i r p lo n hlk
    rw [hlk] at hl
    split at h
    · rename_i e' els hg
      split at h
      · rename_i hc
        obtain ⟨h0, h1, he⟩ := hc
        rw [he] at hg
        simp only [Option.some.injEq, Prod.mk.injEq] at h
        obtain ⟨rfl, rfl⟩ := h
        cases hl with
        | @win _ _ b o _ _ c cc m ke e2 els2 hg2 hp hs hi2 h02 hq ho =>
          rw [hg] at hg2; cases hg2
          rw [hk] at hs; cases hs
          have ho2 : o = lo * k := by omega
          subst ho2
          refine ⟨.pointer (some ⟨b, lo * k + i.toNat * k, none⟩), by simp [indexAddrA, hu, hk, h0, h1], .tr S ?_⟩
          have := @TR1.ade P T A H Z r p b (lo + i.toNat) 0 k k cc m e els hg hp hk (by omega)
          rw [Nat.add_zero, Nat.add_mul] at this
          exact .one this
      · cases h
    · cases h
  · cases h

theorem sim_iaA (S : SR P T A H Z F) {x y : Opd} {a0 i0 : Value} (ha : EV A x a0) (hi : EV A y i0) {t e : TypeId} {k len : Nat} (hu : P.underlying t = some (.array len e)) (hk : sz P e = some k)
    {v : TV} (h : exec T (.iaA len k x y) = some (v, T')) : ∃ a, indexAddrA P t a0 i0 = some a ∧ Out P H Z A F v T' a H := by
  have hl := look_rel S ha
  simp only [exec] at h
  obtain ⟨⟨ik, i⟩, hio, h⟩ := Option.bind_eq_some_iff.1 h
  have := int_rel S hi hio
  subst this
  simp only at h
  split at h
  · rename_i hc
    have key : ∀ b o0, indexAddrA P t (.pointer (some ⟨b, o0, none⟩)) (.int ik i) = some (.pointer (some ⟨b, o0 + i.toNat * k, none⟩)) := fun b o0 => by
      simp [indexAddrA, hu, hk, hc]
    split at h
    · rename_i cs hlk
      rw [hlk] at hl
      split at h
      · rename_i hle
        simp only [Option.some.injEq, Prod.mk.injEq] at h
        obtain ⟨rfl, rfl⟩ := h
        cases hl with
        | v hr =>
          obtain ⟨b, o0, rfl, r2⟩ := win_rel hr hle
          exact ⟨_, key b o0, .plain S r2⟩
      · cases h
    · rename_i r p hlk
      obtain ⟨hp, hor, hw⟩ := als_rel S ha hlk
      split at h
      · rename_i t9 cs hg
        simp only [Option.some.injEq, Prod.mk.injEq] at h
        obtain ⟨rfl, rfl⟩ := h
        obtain ⟨f', e2, _⟩ := hw _ hg
        cases e2 with
        | bx h1 hb hv =>
          refine ⟨_, key _ _, .tr S ?_⟩
          rw [Nat.zero_add]
          exact .one (.adr hg hp)
      · cases h
    · rename_i r p o' k' hlk
      rw [hlk] at hl
      simp only [Option.some.injEq, Prod.mk.injEq] at h
      obtain ⟨rfl, rfl⟩ := h
      cases hl with
      | adr hg hp hor => exact ⟨_, key _ _, .tr S (.one (.adr hg hp))⟩
    · rename_i r p j o' k' hlk
      rw [hlk] at hl
      simp only [Option.some.injEq, Prod.mk.injEq] at h
      obtain ⟨rfl, rfl⟩ := h
      cases hl with
      | ade hg hp hs hi hor =>
        refine ⟨_, key _ _, .tr S ?_⟩
        rw [Nat.add_assoc]
        exact .one (.ade hg hp hs hi)
    · cases h
  · cases h

def partR (cs : List RV) (o : Nat) : Option Nat → Option RV
  | none => cs[o]?
  | some k => if o + k ≤ cs.length then some (.agg ((cs.drop o).take k)) else none

/-- A part of a row of cells. -/
theorem part_rel {cs : List RV} {x : Array Value} (h1 : ones x) (hr : RRs P H Z cs x.toList) {ty : TypeId} {o : Nat} {k : Option Nat} (hag : isAggA P ty = some k.isSome) (hk : ∀ n, k = some n → sz P ty = some n) {y : RV}
    (h : partR cs o k = some y) : ∃ a, partA P ty x o = some a ∧ RR P H Z y a := by
  have hl := hr.1
  simp only [Array.length_toList] at hl
  cases k with
  | none =>
    simp only [partR] at h
    obtain ⟨a, e, r⟩ := hr.get h
    exact ⟨a, by simp only [partA, hag, Option.isSome_none]; simpa using e, r⟩
  | some k =>
    simp only [partR] at h
    split at h
    · cases h
      refine ⟨.agg (x.extract o (o + k)), by simp [partA, hag, hk k rfl], .agg' (ones_extract h1 _ _) ?_⟩
      rw [take_extract']
      exact hr.drop_take o k
    · cases h

theorem sim_fld (S : SR P T A H Z F) {x : Opd} {a0 : Value} (ha : EV A x a0) {s : TypeId} {fi o : Nat} {k : Option Nat} {fields : Array Field} {fd : Field} (hu : P.underlying s = some (.struct fields)) (hf : fields[fi]? = some fd) (ho : fd.offset = o) (hag : isAggA P fd.type = some k.isSome) (hk : ∀ n, k = some n → sz P fd.type = some n)
    {v : TV} (h : exec T (.fld o k x) = some (v, T')) : ∃ a, fieldA P s fi a0 = some a ∧ Out P H Z A F v T' a H := by
  have hl := look_rel S ha
  simp only [exec] at h
  split at h
  · rename_i cs hlk
    rw [hlk] at hl
    cases hl with
    | v hr =>
      obtain ⟨xa, rfl, h1, hr⟩ := hr.agg_inv
      have : ∃ y, v = .v y ∧ T' = T ∧ partR cs o k = some y := by
        cases k with
        | none =>
          simp only [partR] at h ⊢
          obtain ⟨y, hy, h⟩ := Option.map_eq_some_iff.1 h
          simp only [Prod.mk.injEq] at h
          exact ⟨y, h.1.symm, h.2.symm, hy⟩
        | some k =>
          simp only [partR] at h ⊢
          split at h
          · simp only [Option.some.injEq, Prod.mk.injEq] at h
            rename_i hle
            exact ⟨_, h.1.symm, h.2.symm, by simp [hle]⟩
          · cases h
      obtain ⟨y, rfl, rfl, e⟩ := this
      obtain ⟨a, q1, q2⟩ := part_rel h1 hr hag hk e
      exact ⟨a, by simp [fieldA, hu, hf, ho, q1], .plain S q2⟩
  · cases h

theorem sim_idxA (S : SR P T A H Z F) {x y : Opd} {a0 i0 : Value} (ha : EV A x a0) (hi : EV A y i0) {t e : TypeId} {k len : Nat} {ag : Bool} (hu : P.underlying t = some (.array len e)) (hk : sz P e = some k) (hag : isAggA P e = some ag)
    {v : TV} (h : exec T (.idxA len k ag x y) = some (v, T')) : ∃ a, indexA P t a0 i0 = some a ∧ Out P H Z A F v T' a H := by
  have hl := look_rel S ha
  simp only [exec] at h
  obtain ⟨⟨ik, i⟩, hio, h⟩ := Option.bind_eq_some_iff.1 h
  have := int_rel S hi hio
  subst this
  simp only at h
  split at h
  · rename_i hc
    split at h
    · rename_i cs hlk
      rw [hlk] at hl
      cases hl with
      | v hr =>
        obtain ⟨xa, rfl, h1, hr⟩ := hr.agg_inv
        have : ∃ y, v = .v y ∧ T' = T ∧ partR cs (i.toNat * k) (if ag then some k else none) = some y := by
          cases ag with
          | false =>
            simp only [Bool.false_eq_true, if_false, partR] at h ⊢
            obtain ⟨y, hy, h⟩ := Option.map_eq_some_iff.1 h
            simp only [Prod.mk.injEq] at h
            exact ⟨y, h.1.symm, h.2.symm, hy⟩
          | true =>
            simp only [if_true, partR] at h ⊢
            split at h
            · simp only [Option.some.injEq, Prod.mk.injEq] at h
              rename_i hle
              exact ⟨_, h.1.symm, h.2.symm, by simp [hle]⟩
            · cases h
        obtain ⟨y, rfl, rfl, e⟩ := this
        obtain ⟨a, q1, q2⟩ := part_rel (ty := _) h1 hr (by cases ag <;> simpa using hag) (fun n hn => by cases ag <;> simp at hn; rw [← hn]; exact hk) e
        exact ⟨a, by simp [indexA, hu, hk, hc, q1], .plain S q2⟩
    · cases h
  · cases h

theorem sim_idxS (S : SR P T A H Z F) {x y : Opd} {a0 i0 : Value} (ha : EV A x a0) (hi : EV A y i0) {t : TypeId} (hu : P.underlying t = some .string)
    {v : TV} (h : exec T (.idxS x y) = some (v, T')) : ∃ a, indexA P t a0 i0 = some a ∧ Out P H Z A F v T' a H := by
  simp only [exec] at h
  obtain ⟨s, hs, h⟩ := Option.bind_eq_some_iff.1 h
  obtain ⟨⟨ik, i⟩, hio, h⟩ := Option.bind_eq_some_iff.1 h
  have := int_rel S hi hio
  subst this
  have := str_rel S ha hs
  subst this
  simp only at h
  split at h
  · rename_i h0
    obtain ⟨b, hb, h⟩ := Option.map_eq_some_iff.1 h
    simp only [Prod.mk.injEq] at h
    obtain ⟨rfl, rfl⟩ := h
    exact ⟨.int .u8 b.toNat, by simp [indexA, hu, h0, hb], .plain S (.int _ _)⟩
  · cases h

theorem intP_rel {op : BinOp} {k : IntKind} {a b : Int} {y : RV} (h : intP op k a b = some y) : ∃ v, intA op k a b = some v ∧ RR P H Z y v := by
  unfold intP at h
  cases op <;> simp only [] at h <;> first
    | (cases h; exact ⟨_, rfl, .int _ _⟩)
    | (cases h; exact ⟨_, rfl, .bool _⟩)
    | (split at h <;> first | (cases h; done) | (rename_i hb; cases h; exact ⟨_, by simp [intA, hb], .int _ _⟩))

theorem strP_rel {op : BinOp} {a b : ByteArray} {y : RV} (h : strP op a b = some y) : ∃ v, strA op a b = some v ∧ RR P H Z y v := by
  unfold strP at h
  cases op <;> simp only [] at h <;> first
    | (cases h; done)
    | (cases h; exact ⟨_, rfl, .bool _⟩)
    | (split at h <;> first | (cases h; done) | (rename_i hb; cases h; exact ⟨_, by simp [strA, hb], .str _⟩))

theorem sim_bin (S : SR P T A H Z F) {x y : Opd} {a0 b0 : Value} (ha : EV A x a0) (hb : EV A y b0) {op : BinOp} {t : TypeId}
    {v : TV} (h : exec T (.bin op x y) = some (v, T')) : ∃ a, binA P op t a0 b0 = some a ∧ Out P H Z A F v T' a H := by
  have hl1 := look_rel S ha
  have hl2 := look_rel S hb
  simp only [exec] at h
  split at h
  · rename_i k a k' b e1 e2
    rw [e1] at hl1; rw [e2] at hl2
    have q1 : a0 = .int k a := by cases hl1 with | v h => cases h; rfl
    have q2 : b0 = .int k' b := by cases hl2 with | v h => cases h; rfl
    subst q1 q2
    split at h
    · rename_i hs
      obtain ⟨y, hy, h⟩ := Option.map_eq_some_iff.1 h
      simp only [Prod.mk.injEq] at h
      obtain ⟨rfl, rfl⟩ := h
      obtain ⟨v, e, r⟩ := intP_rel hy
      exact ⟨v, by simp [binA, hs, e], .plain S r⟩
    · rename_i hs
      split at h
      · rename_i hk
        obtain ⟨y, hy, h⟩ := Option.map_eq_some_iff.1 h
        simp only [Prod.mk.injEq] at h
        obtain ⟨rfl, rfl⟩ := h
        obtain ⟨v, e, r⟩ := intP_rel hy
        exact ⟨v, by simp [binA, hs, hk, ← e], .plain S r⟩
      · cases h
  · rename_i a b e1 e2
    rw [e1] at hl1; rw [e2] at hl2
    have q1 : a0 = .string a := by cases hl1 with | v h => cases h; rfl
    have q2 : b0 = .string b := by cases hl2 with | v h => cases h; rfl
    subst q1 q2
    obtain ⟨y, hy, h⟩ := Option.map_eq_some_iff.1 h
    simp only [Prod.mk.injEq] at h
    obtain ⟨rfl, rfl⟩ := h
    obtain ⟨v, e, r⟩ := strP_rel hy
    exact ⟨v, by simp [binA, e], .plain S r⟩
  · cases h

theorem sim_un (S : SR P T A H Z F) {x : Opd} {a0 : Value} (ha : EV A x a0) {op : UnOp}
    {v : TV} (h : exec T (.un op x) = some (v, T')) : ∃ a, unA op a0 = some a ∧ Out P H Z A F v T' a H := by
  have hl1 := look_rel S ha
  simp only [exec] at h
  split at h
  · rename_i b e1
    rw [e1] at hl1
    have q1 : a0 = .bool b := by cases hl1 with | v h => cases h; rfl
    subst q1
    split at h
    · simp only [Option.some.injEq, Prod.mk.injEq] at h
      obtain ⟨rfl, rfl⟩ := h
      exact ⟨_, rfl, .plain S (.bool _)⟩
    · cases h
  · rename_i k n e1
    rw [e1] at hl1
    have q1 : a0 = .int k n := by cases hl1 with | v h => cases h; rfl
    subst q1
    split at h
    · simp only [Option.some.injEq, Prod.mk.injEq] at h
      obtain ⟨rfl, rfl⟩ := h
      exact ⟨_, rfl, .plain S (.int _ _)⟩
    · obtain ⟨y, hy, h⟩ := Option.map_eq_some_iff.1 h
      simp only [Prod.mk.injEq] at h
      obtain ⟨rfl, rfl⟩ := h
      obtain ⟨v, e, r⟩ := intP_rel hy
      exact ⟨v, by simp [unA, e], .plain S r⟩
    · cases h
  · cases h

theorem sim_conv (S : SR P T A H Z F) {x : Opd} {a0 : Value} (ha : EV A x a0) {s d : TypeId} {k0 k : IntKind} (hs : P.underlying s = some (.int k0)) (hd : P.underlying d = some (.int k))
    {v : TV} (h : exec T (.conv k x) = some (v, T')) : ∃ a, convertA P H s d a0 = some (a, H) ∧ Out P H Z A F v T' a H := by
  simp only [exec] at h
  obtain ⟨⟨ik, i⟩, hio, h⟩ := Option.map_eq_some_iff.1 h
  have := int_rel S ha hio
  subst this
  simp only [Prod.mk.injEq] at h
  obtain ⟨rfl, rfl⟩ := h
  exact ⟨_, by simp only [convertA, hs, hd], .plain S (.int _ _)⟩

theorem sim_cnvS (S : SR P T A H Z F) {x : Opd} {a0 : Value} (ha : EV A x a0) {s d : TypeId} (hs : P.underlying s = some .string) (hd : P.underlying d = some .string)
    {v : TV} (h : exec T (.cnvS x) = some (v, T')) : ∃ a, convertA P H s d a0 = some (a, H) ∧ Out P H Z A F v T' a H := by
  simp only [exec] at h
  obtain ⟨w, hio, h⟩ := Option.map_eq_some_iff.1 h
  have := str_rel S ha hio
  subst this
  simp only [Prod.mk.injEq] at h
  obtain ⟨rfl, rfl⟩ := h
  exact ⟨_, by simp only [convertA, hs, hd], .plain S (.str _)⟩

theorem sim_nilck (S : SR P T A H Z F) {x : Opd} {a0 : Value} (ha : EV A x a0)
    {v : TV} (h : exec T (.nilck x) = some (v, T')) : ∃ a, nilCheckA a0 = some a ∧ Out P H Z A F v T' a H := by
  have hl := look_rel S ha
  simp only [exec] at h
  split at h
  · rename_i cs hlk
    rw [hlk] at hl
    simp only [Option.some.injEq, Prod.mk.injEq] at h
    obtain ⟨rfl, rfl⟩ := h
    cases hl with
    | v hr => cases hr with | bx a b c d e => exact ⟨_, rfl, .plain S (.bx a b c d e)⟩
  · rename_i r p hlk
    obtain ⟨hp, hor, hw⟩ := als_rel S ha hlk
    split at h
    · rename_i t9 cs hg
      simp only [Option.some.injEq, Prod.mk.injEq] at h
      obtain ⟨rfl, rfl⟩ := h
      obtain ⟨f', e2, _⟩ := hw _ hg
      rw [hlk] at hl
      cases e2 with
      | bx h1 hb hv => exact ⟨_, rfl, .look S hl⟩
    · cases h
  · rename_i r p o' k' hlk
    rw [hlk] at hl
    simp only [Option.some.injEq, Prod.mk.injEq] at h
    obtain ⟨rfl, rfl⟩ := h
    cases hl with
    | adr hg hp hor => exact ⟨_, rfl, .tr S (.one (.adr hg hp))⟩
  · rename_i r p j o' k' hlk
    rw [hlk] at hl
    simp only [Option.some.injEq, Prod.mk.injEq] at h
    obtain ⟨rfl, rfl⟩ := h
    cases hl with
    | ade hg hp hs hi hor => exact ⟨_, rfl, .tr S (.one (.ade hg hp hs hi))⟩
  · rename_i f a c hlk
    rw [hlk] at hl
    simp only [Option.some.injEq, Prod.mk.injEq] at h
    obtain ⟨rfl, rfl⟩ := h
    cases hl with
    | v hr => cases hr with | fn a b c d => exact ⟨_, rfl, .plain S (.fn a b c d)⟩
  · rename_i f a c hlk
    rw [hlk] at hl
    simp only [Option.some.injEq, Prod.mk.injEq] at h
    obtain ⟨rfl, rfl⟩ := h
    cases hl with
    | fn ht => cases ht with
      | one h => cases h with | own h => cases h
      | fn a b c d => exact ⟨_, rfl, .tr S (.fn a b c d)⟩
  · cases h

end Go.PM

/-
  PM: operations that write nothing, against AH's: lengths, pieces of texts, comparisons, maps read, functions made.
-/
namespace Go.PM
open Go Go.AH
variable {P : Program} {H H' : Heap} {Z Z' : Nat → Prop} {T T' : Tm} {A : Nat → Value} {F F' : Nat → List Nat}

theorem sim_mv (S : SR P T A H Z F) {x : Opd} {a0 : Value} (ha : EV A x a0) {v : TV} (h : exec T (.mv x) = some (v, T')) : Out P H Z A F v T' a0 H := by
  simp only [exec, Option.some.injEq, Prod.mk.injEq] at h
  obtain ⟨rfl, rfl⟩ := h
  exact .look S (look_rel S ha)

theorem sim_pick (S : SR P T A H Z F) {c x y : Opd} {c0 a0 b0 : Value} (hc : EV A c c0) (ha : EV A x a0) (hb : EV A y b0) {v : TV} (h : exec T (.pick c x y) = some (v, T')) :
    ∃ a, pickA c0 a0 b0 = some a ∧ Out P H Z A F v T' a H := by
  have hl := look_rel S hc
  simp only [exec] at h
  split at h
  · rename_i t hlk
    rw [hlk] at hl
    simp only [Option.some.injEq, Prod.mk.injEq] at h
    obtain ⟨rfl, rfl⟩ := h
    cases hl with
    | v hr =>
      cases hr
      refine ⟨if t then a0 else b0, rfl, ?_⟩
      cases t
      · exact .look S (look_rel S hb)
      · exact .look S (look_rel S ha)
  · cases h

theorem sim_mm (S : SR P T A H Z F) {x y : Opd} {a0 b0 : Value} (ha : EV A x a0) (hb : EV A y b0) {mx : Bool} {v : TV} (h : exec T (.mm mx x y) = some (v, T')) :
    ∃ a, (if mx then maxA [a0, b0] else minA [a0, b0]) = some a ∧ Out P H Z A F v T' a H := by
  have hl1 := look_rel S ha
  have hl2 := look_rel S hb
  simp only [exec] at h
  split at h
  · rename_i k a k' b e1 e2
    rw [e1] at hl1; rw [e2] at hl2
    have q1 : a0 = .int k a := by cases hl1 with | v h => cases h; rfl
    have q2 : b0 = .int k' b := by cases hl2 with | v h => cases h; rfl
    subst q1 q2
    simp only [Option.some.injEq, Prod.mk.injEq] at h
    obtain ⟨rfl, rfl⟩ := h
    refine ⟨.int k (if mx then (if b > a then b else a) else (if b < a then b else a)), ?_, .plain S (.int _ _)⟩
    cases mx <;> simp [maxA, minA]
  · cases h

theorem sim_ext (S : SR P T A H Z F) {x : Opd} {a0 : Value} (ha : EV A x a0) {i : Nat} {v : TV} (h : exec T (.ext x i) = some (v, T')) :
    ∃ a, extractA i a0 = some a ∧ Out P H Z A F v T' a H := by
  have hl := look_rel S ha
  simp only [exec] at h
  split at h
  · rename_i cs hlk
    rw [hlk] at hl
    obtain ⟨u, hu, h⟩ := Option.map_eq_some_iff.1 h
    simp only [Prod.mk.injEq] at h
    obtain ⟨rfl, rfl⟩ := h
    split at hu
    · rename_i h2
      obtain ⟨hi, rfl⟩ := List.getElem?_eq_some_iff.1 hu
      cases hl with
      | tup ht =>
        cases ht with
        | one h => cases h with | own h => cases h
        | @tup _ xa hl h =>
          have hi' : i < xa.size := hl ▸ hi
          refine ⟨xa[i], ?_, .tr S (.one (h i hi hi'))⟩
          have : 2 ≤ xa.size := hl ▸ h2
          simp [extractA, this, hi']
    · cases hu
  · cases h

theorem bnd_rel (S : SR P T A H Z F) {x : Option Opd} {o : Option Value} {d n m : Nat} (hx : (x = none ∧ o = none) ∨ ∃ x' o', x = some x' ∧ o = some o' ∧ EV A x' o') (h : bndP T x d n = some m) : bnd o d n = some m ∧ (m ≤ n ∨ (x = none ∧ m = d)) := by
  rcases hx with ⟨rfl, rfl⟩ | ⟨x', o', rfl, rfl, hx⟩
  · simp only [bndP, Option.some.injEq] at h; exact ⟨by simp [bnd, h], .inr ⟨rfl, h.symm⟩⟩
  · simp only [bndP] at h
    split at h
    · rename_i k i hi
      have := int_rel S hx hi
      subst this
      split at h
      · rename_i hc
        cases h
        exact ⟨by simp [bnd, hc], .inl (by omega)⟩
      · cases h
    · cases h

theorem sim_sub (S : SR P T A H Z F) {x : Opd} {a0 : Value} (ha : EV A x a0) {lo hi : Option Opd} {lo' hi' : Option Value} (hlo : (lo = none ∧ lo' = none) ∨ ∃ x' o', lo = some x' ∧ lo' = some o' ∧ EV A x' o') (hhi : (hi = none ∧ hi' = none) ∨ ∃ x' o', hi = some x' ∧ hi' = some o' ∧ EV A x' o')
    {t : TypeId} (hu : P.underlying t = some .string) {v : TV} (h : exec T (.sub x lo hi) = some (v, T')) : ∃ a, sliceA P t H a0 lo' hi' none = some a ∧ Out P H Z A F v T' a H := by
  simp only [exec] at h
  obtain ⟨s, hs, h⟩ := Option.bind_eq_some_iff.1 h
  obtain ⟨m, hm, h⟩ := Option.bind_eq_some_iff.1 h
  obtain ⟨l, hl, h⟩ := Option.map_eq_some_iff.1 h
  simp only [Prod.mk.injEq] at h
  obtain ⟨rfl, rfl⟩ := h
  have := str_rel S ha hs
  subst this
  exact ⟨.string (s.extract l m), by simp [sliceA, hu, (bnd_rel S hhi hm).1, (bnd_rel S hlo hl).1], .plain S (.str _)⟩

theorem sim_len (S : SR P T A H Z F) {x : Opd} {a0 : Value} (ha : EV A x a0) {w : Nat} {t : TypeId} (hu : (match w, P.underlying t with | 0, some .string => true | 1, some (.slice _) => true | 2, some (.map _ _) => true | _, _ => false) = true)
    {v : TV} (h : exec T (.len w x) = some (v, T')) : ∃ a, lenA P H t a0 = some a ∧ Out P H Z A F v T' a H := by
  have hl := look_rel S ha
  have fin : ∀ (n : Nat) (q : Option (TV × Tm)), q = some (.v (.int .i64 n), T) → q = some (v, T') → lenA P H t a0 = some (.int .i64 n) → ∃ a, lenA P H t a0 = some a ∧ Out P H Z A F v T' a H := fun n q e1 e2 e3 => by
    rw [e1] at e2
    simp only [Option.some.injEq, Prod.mk.injEq] at e2
    obtain ⟨rfl, rfl⟩ := e2
    exact ⟨_, e3, .plain S (.int _ _)⟩
  have len_sl : ∀ {e : TypeId} {els : List RV}, RR P H Z (.sl e els) a0 → ∃ o c, a0 = .slice o els.length c := fun h => by cases h <;> exact ⟨_, _, rfl⟩
  split at hu
  · rename_i hu2
    simp only [exec] at h
    split at h <;> (first | omega | skip)
    · rename_i s _ hlk
      rw [hlk] at hl
      refine fin _ _ rfl h ?_
      cases hl with | v hr => cases hr; simp [lenA, hu2]
    · cases h
  · rename_i hu2
    simp only [exec] at h
    split at h <;> (first | omega | skip)
    · rename_i e els _ hlk
      rw [hlk] at hl
      refine fin _ _ rfl h ?_
      cases hl with
      | v hr => obtain ⟨o, c, rfl⟩ := len_sl hr; simp [lenA, hu2]
    · rename_i e _ hlk
      rw [hlk] at hl
      refine fin 0 _ rfl h ?_
      cases hl with
      | sl => simp [lenA, hu2]
    · rename_i r p _ hlk
      obtain ⟨hp, hor, hw⟩ := als_rel S ha hlk
      split at h
      · rename_i e els hg
        obtain ⟨f', e2, _⟩ := hw _ hg
        refine fin _ _ rfl h ?_
        cases e2 <;> simp [lenA, hu2]
      · cases h
    · rename_i r p lo n _ hlk
      rw [hlk] at hl
      refine fin n _ rfl h ?_
      cases hl with
      | win => simp [lenA, hu2]
    · cases h
  · rename_i hu2
    simp only [exec] at h
    split at h <;> (first | omega | skip)
    · rename_i _ hlk
      rw [hlk] at hl
      refine fin 0 _ rfl h ?_
      cases hl with | v hr => cases hr; simp [lenA, hu2]
    · rename_i kt ks vs _ hlk
      rw [hlk] at hl
      refine fin _ _ rfl h ?_
      cases hl with | v hr => cases hr with | mp hz hb hk hv h1 h2 => simp [lenA, hu2, hb, hk]
    · rename_i r p _ hlk
      obtain ⟨hp, hor, hw⟩ := als_rel S ha hlk
      split at h
      · rename_i kt ks vs hg
        obtain ⟨f', e2, _⟩ := hw _ hg
        refine fin _ _ rfl h ?_
        cases e2 with
        | mp hb hk hv => have := hk.1; simp at this; simp [lenA, hu2, hb, this]
      · cases h
    · cases h
  · cases hu

/-! ### Comparisons of flat values -/
theorem fit_rel {k : Sk} {x : RV} {a : Value} (h : RR P H Z x a) : fitR k x = k.fits a := by
  cases h <;> cases k <;> rfl
theorem fitL_rel : ∀ {ks : List Sk} {l : List RV} {x : List Value}, RRs P H Z l x → fitL ks l = fitsAll ks x
  | [], [], [], _ => rfl
  | [], _ :: _, _ :: _, _ => rfl
  | _ :: _, [], [], _ => rfl
  | k :: ks, y :: l, a :: x, h => by
    have h0 : RR P H Z y a := h.2 0 (by simp) (by simp)
    have hr : RRs P H Z l x := ⟨by simpa using h.1, fun i h1 h2 => h.2 (i + 1) (by simpa using h1) (by simpa using h2)⟩
    simp only [fitL, fitsAll, fitL_rel hr]
    rw [fit_rel h0]
  | _, [], _ :: _, h => by have := h.1; simp at this
  | _, _ :: _, [], h => by have := h.1; simp at this

theorem eqSc_rel {x y : RV} {a b : Value} (h : RR P H Z x a) (k : RR P H Z y b) : scalarEq a b = (eqSc x y == some true) := by
  cases h <;> cases k <;> simp [scalarEq, eqSc]
theorem eqLs_rel : ∀ {l m : List RV} {x y : List Value}, RRs P H Z l x → RRs P H Z m y → listEq x y = (eqLs l m == some true)
  | [], [], [], [], _, _ => rfl
  | [], _ :: _, [], _ :: _, _, _ => rfl
  | _ :: _, [], _ :: _, [], _, _ => rfl
  | u :: l, w :: m, a :: x, b :: y, h, k => by
    have h0 := h.2 0 (by simp) (by simp)
    have k0 := k.2 0 (by simp) (by simp)
    have hr : RRs P H Z l x := ⟨by simpa using h.1, fun i h1 h2 => h.2 (i + 1) (by simpa using h1) (by simpa using h2)⟩
    have kr : RRs P H Z m y := ⟨by simpa using k.1, fun i h1 h2 => k.2 (i + 1) (by simpa using h1) (by simpa using h2)⟩
    have e1 := eqSc_rel h0 k0
    have e2 := eqLs_rel hr kr
    simp only [List.getElem_cons_zero] at e1
    simp only [listEq, eqLs, e1, e2]
    cases eqSc u w with
    | none => simp
    | some p => cases eqLs l m with
      | none => cases p <;> simp
      | some q => cases p <;> cases q <;> rfl
  | [], _, _ :: _, _, h, _ => by have := h.1; simp at this
  | _ :: _, _, [], _, h, _ => by have := h.1; simp at this
  | _, [], _, _ :: _, _, k => by have := k.1; simp at this
  | _, _ :: _, _, [], _, k => by have := k.1; simp at this

theorem RR.isAgg {x : RV} {a : Value} (h : RR P H Z x a) : isAggV a = x.isAgg := by cases h <;> rfl
theorem RR.rcells {x : RV} {a : Value} (h : RR P H Z x a) : RRs P H Z x.cells a.cells.toList := by
  have one : ∀ {y : RV} {b : Value}, RR P H Z y b → RRs P H Z [y] [b] := fun h => ⟨rfl, fun i h1 h2 => by
    have : i = 0 := by simp at h1; omega
    subst this
    exact h⟩
  cases h with
  | agg h1 hl h =>
      obtain ⟨xa, e, _, hr⟩ := RR.agg_inv (P := P) (H := H) (Z := Z) (.agg h1 hl h)
      cases e
      exact hr
  | bool b => exact one (.bool b)
  | int k i => exact one (.int k i)
  | str s => exact one (.str s)
  | nilp => exact one .nilp
  | nilf => exact one .nilf
  | nilm => exact one .nilm
  | slN e => exact one (.slN e)
  | fn a b c d => exact one (.fn a b c d)
  | mp a b c d e f => exact one (.mp a b c d e f)
  | bx a b c d e => exact one (.bx a b c d e)
  | sl a b c d e f g h i j => exact one (.sl a b c d e f g h i j)

theorem eqFl_rel {x y : RV} {a b : Value} (h : RR P H Z x a) (k : RR P H Z y b) : flatEq a b = (eqFl x y == some true) := by
  cases hx : x.isAgg with
  | false =>
    have e1 : eqFl x y = eqSc x y := by
      cases x <;> first | rfl | (simp [RV.isAgg] at hx)
    have ha := h.isAgg
    rw [hx] at ha
    have e2 : flatEq a b = scalarEq a b := by
      cases a <;> first | rfl | (simp [isAggV] at ha)
    rw [e1, e2, eqSc_rel h k]
  | true =>
    cases x <;> simp [RV.isAgg] at hx
    rename_i cs
    obtain ⟨xa, rfl, h1, hr⟩ := h.agg_inv
    cases hy : y.isAgg with
    | false =>
      have hb := k.isAgg
      rw [hy] at hb
      have e2 : flatEq (.agg xa) b = false := by
        cases b <;> first | rfl | (simp [isAggV] at hb)
      have e1 : eqFl (.agg cs) y = none := by
        cases y <;> first | rfl | (simp [RV.isAgg] at hy)
      rw [e1, e2]; rfl
    | true =>
      cases y <;> simp [RV.isAgg] at hy
      rename_i ds
      obtain ⟨yb, rfl, k1, kr⟩ := k.agg_inv
      simp only [flatEq, eqFl]
      exact eqLs_rel hr kr

theorem fitV_rel {t : TypeId} {fk : Bool × List Sk} {x : RV} {a : Value} (h : RR P H Z x a) (hk : flatK P 9 t = some fk.2) (ha : isAggA P t = some fk.1) (hf : fitV fk x = true) : fits P t a = true := by
  simp only [fitV, Bool.and_eq_true, beq_iff_eq] at hf
  have := fitL_rel (ks := fk.2) h.rcells
  simp only [fits, hk, ha, h.isAgg, ← this, hf.1, hf.2, beq_self_eq_true, Bool.and_self]

theorem find_rel {k : RV} {a : Value} (h : RR P H Z k a) : ∀ {ks : List RV} {es : List (Value × Value)} (i0 : Nat), RRs P H Z ks (es.map (·.1)) →
    (findK k ks i0 = none ∧ findA a es i0 = none) ∨ ∃ i e, findK k ks i0 = some (i0 + i) ∧ es[i]? = some e ∧ findA a es i0 = some (i0 + i, e.2)
  | [], [], i0, _ => .inl ⟨rfl, rfl⟩
  | [], _ :: _, _, h => by have := h.1; simp at this
  | _ :: _, [], _, h => by have := h.1; simp at this
  | y :: ks, e :: es, i0, hr => by
    have h0 : RR P H Z y e.1 := hr.2 0 (by simp) (by simp)
    have hr' : RRs P H Z ks (es.map (·.1)) := ⟨by simpa using hr.1, fun i h1 h2 => by
      have := hr.2 (i + 1) (by simpa using h1) (by simpa using h2)
      simpa using this⟩
    have e1 := eqFl_rel h h0
    simp only [findK, findA, e1]
    by_cases hq : eqFl k y = some true
    · simp only [hq, if_true, beq_self_eq_true]
      exact .inr ⟨0, e, rfl, rfl, rfl⟩
    · have : (eqFl k y == some true) = false := by simpa using hq
      simp only [hq, if_false, this, Bool.false_eq_true]
      rcases find_rel h (i0 + 1) hr' with ⟨k1, k2⟩ | ⟨i, e', k1, k2, k3⟩
      · exact .inl ⟨k1, k2⟩
      · exact .inr ⟨i + 1, e', by rw [k1]; congr 1; omega, by simpa using k2, by rw [k3]; congr 2; omega⟩

theorem sim_eqF (S : SR P T A H Z F) {x y : Opd} {a0 b0 : Value} (ha : EV A x a0) (hb : EV A y b0) {op : BinOp} {t : TypeId} {neg : Bool} {ek : EK} (hop : (decide (op = .eql) && !neg || decide (op = .neq) && neg) = true)
    (hu : (match ek, P.underlying t with
    | .b, some .bool => true
    | .s sk, some (.struct _) => decide (flatK P 9 t = some sk) && decide (isAggA P t = some true) && !P.eqGuardType P.depth t
    | .p, some (.pointer _) => true
    | .l, some (.slice _) => true
    | .m, some (.map _ _) => true
    | _, _ => false) = true)
    {v : TV} (h : exec T (.eqF neg ek x y) = some (v, T')) : ∃ a, binA P op t a0 b0 = some a ∧ Out P H Z A F v T' a H := by
  have hl1 := look_rel S ha
  have hl2 := look_rel S hb
  simp only [exec] at h
  obtain ⟨e, he, h⟩ := Option.map_eq_some_iff.1 h
  simp only [Prod.mk.injEq] at h
  obtain ⟨rfl, rfl⟩ := h
  have fin : eqA P t a0 b0 = some e → (∀ k i, a0 ≠ .int k i) → (∀ s, a0 ≠ .string s) → ∃ a, binA P op t a0 b0 = some a ∧ Out P H Z A F (.v (.bool (if neg then !e else e))) T a H := fun q n1 n2 => by
    refine ⟨.bool (if neg then !e else e), ?_, .plain S (.bool _)⟩
    cases neg
    · simp at hop; subst hop
      unfold binA
      split
      · exact absurd rfl (n1 _ _)
      · exact absurd rfl (n2 _)
      · simp [q]
    · simp at hop; subst hop
      unfold binA
      split
      · exact absurd rfl (n1 _ _)
      · exact absurd rfl (n2 _)
      · simp [q]
  unfold eqP at he
  split at he
  · rename_i p q e1 e2
    rw [e1] at hl1; rw [e2] at hl2
    cases hl1 with | v h1 => cases hl2 with | v h2 =>
    cases h1; cases h2; cases he
    refine fin ?_ (by simp) (by simp)
    split at hu <;> simp_all [eqA]
  · rename_i sk p q e1 e2
    rw [e1] at hl1; rw [e2] at hl2
    cases hl1 with | v h1 => cases hl2 with | v h2 =>
    obtain ⟨xa, rfl, o1, r1⟩ := h1.agg_inv
    obtain ⟨yb, rfl, o2, r2⟩ := h2.agg_inv
    split at he
    · rename_i hf
      simp only [Bool.and_eq_true] at hf
      refine fin ?_ (by simp) (by simp)
      have q1 := fitL_rel (ks := sk) r1
      have q2 := fitL_rel (ks := sk) r2
      have q3 := eqLs_rel r1 r2
      rw [he] at q3
      rw [hf.1] at q1
      rw [hf.2] at q2
      split at hu <;> simp_all [eqA, fits, isAggV, Value.cells]
    · cases he
  · rename_i e1 e2
    rw [e1] at hl1; rw [e2] at hl2
    cases hl1 with | v h1 => cases hl2 with | v h2 =>
    cases h1; cases h2; cases he
    refine fin ?_ (by simp) (by simp)
    split at hu <;> simp_all [eqA]
  · rename_i cs e1 e2
    rw [e1] at hl1; rw [e2] at hl2
    cases hl1 with | v h1 => cases hl2 with | v h2 =>
    cases h1; cases h2; cases he
    refine fin ?_ (by simp) (by simp)
    split at hu <;> simp_all [eqA]
  · rename_i r p e1 e2
    rw [e2] at hl2
    obtain ⟨hp, hor, hw⟩ := als_rel S ha e1
    cases hl2 with | v h2 =>
    cases h2
    split at he
    · rename_i hg
      cases he
      obtain ⟨f', o2, _⟩ := hw _ hg
      cases o2
      refine fin ?_ (by simp) (by simp)
      split at hu <;> simp_all [eqA]
    · cases he
  · rename_i e1 e2
    rw [e1] at hl1; rw [e2] at hl2
    cases hl2 with | v h2 =>
    cases h2; cases he
    cases hl1
    refine fin ?_ (by simp) (by simp)
    split at hu <;> simp_all [eqA]
  · rename_i e1 e2
    rw [e1] at hl1; rw [e2] at hl2
    cases hl2 with | v h2 =>
    cases h2; cases he
    cases hl1
    refine fin ?_ (by simp) (by simp)
    split at hu <;> simp_all [eqA]
  · rename_i e1 e2
    rw [e1] at hl1; rw [e2] at hl2
    cases hl1 with | v h1 => cases hl2 with | v h2 =>
    cases h1; cases h2; cases he
    refine fin ?_ (by simp) (by simp)
    split at hu <;> simp_all [eqA]
  · rename_i e1 e2
    rw [e1] at hl1; rw [e2] at hl2
    cases hl1 with | v h1 => cases hl2 with | v h2 =>
    cases h1; cases h2; cases he
    refine fin ?_ (by simp) (by simp)
    split at hu <;> simp_all [eqA]
  · rename_i r p e1 e2
    rw [e2] at hl2
    obtain ⟨hp, hor, hw⟩ := als_rel S ha e1
    cases hl2 with | v h2 =>
    cases h2
    split at he
    · rename_i hg
      cases he
      obtain ⟨f', o2, _⟩ := hw _ hg
      cases o2
      refine fin ?_ (by simp) (by simp)
      split at hu <;> simp_all [eqA]
    · cases he
  · rename_i e1 e2
    rw [e1] at hl1; rw [e2] at hl2
    cases hl1 with | v h1 =>
    cases hl2
    obtain ⟨b, o, c, k, cs, rw_, ag, rfl, _⟩ := h1.sl_inv (by simp)
    cases he
    refine fin ?_ (by simp) (by simp)
    split at hu <;> simp_all [eqA]
  · rename_i r p e1 e2
    rw [e2] at hl2
    obtain ⟨hp, hor, hw⟩ := als_rel S ha e1
    cases hl2
    split at he
    · rename_i hg
      cases he
      obtain ⟨f', o2, _⟩ := hw _ hg
      obtain ⟨b, c, k, cs, ag, rfl, _⟩ := o2.sl_inv (by simp)
      refine fin ?_ (by simp) (by simp)
      split at hu <;> simp_all [eqA]
    · cases he
  · cases he

/-- A list that is empty or none, held against none: one of the two. -/
theorem sim_may (S : SR P T A H Z F) {x y : Opd} {a0 b0 : Value} (ha : EV A x a0) (hb : EV A y b0) {op : BinOp} {t : TypeId} {neg : Bool} (hop : (decide (op = .eql) && !neg || decide (op = .neq) && neg) = true)
    (hu : (match P.underlying t with | some (.slice _) => true | _ => false) = true) (h : mayEq T (.eqF neg .l x y) = true) : ∃ b, binA P op t a0 b0 = some (.bool b) := by
  have hl1 := look_rel S ha
  have hl2 := look_rel S hb
  have key : ∀ p n c, a0 = .slice p n c → b0 = .slice none 0 0 → ∃ b, binA P op t a0 b0 = some (.bool b) := fun p n c e1 e2 => by
    subst e1 e2
    have : ∃ b, eqA P t (.slice p n c) (.slice none 0 0) = some b := by
      split at hu
      · rename_i hq
        cases p <;> simp [eqA, hq]
      · cases hu
    obtain ⟨b, hb⟩ := this
    cases neg
    · simp at hop; subst hop
      exact ⟨b, by simp [binA, hb]⟩
    · simp at hop; subst hop
      exact ⟨!b, by simp [binA, hb]⟩
  unfold mayEq at h
  split at h
  · rename_i q1 x' e' heq
    cases heq
    have eb : b0 = .slice none 0 0 := by
      cases hl2; rfl
    split at h
    · rename_i e e1
      rw [e1] at hl1
      cases hl1 with | v h1 =>
      cases h1
      · exact key _ _ _ rfl eb
      · exact key _ _ _ rfl eb
    · rename_i e e1
      rw [e1] at hl1
      cases hl1
      exact key _ _ _ rfl eb
    · rename_i r p e1
      obtain ⟨hp, hor, hw⟩ := als_rel S ha e1
      split at h
      · rename_i hg
        obtain ⟨f', o2, _⟩ := hw _ hg
        cases o2
        · exact key _ _ _ rfl eb
        · exact key _ _ _ rfl eb
      · cases h
    · cases h
  · cases h

theorem zval_rel {t : TypeId} {z : RV} (h : zval P t z = true) : ∃ zv, zeroV P t = some zv ∧ OV P H Z (own0 z) zv [] ∧ TR1 P T A H Z (own0 z) zv [] := by
  unfold zval at h
  have lst : ∀ (l : List RV) (x : List Value), cstL l x = true → RRs P H Z l x := by
    intro l
    induction l with
    | nil => intro x h; cases x with | nil => exact ⟨rfl, fun i h => by simp at h⟩ | cons => simp [cstL] at h
    | cons y l ih =>
      intro x h
      cases x with
      | nil => simp [cstL] at h
      | cons a x =>
        simp only [cstL, Bool.and_eq_true] at h
        have := ih x h.2
        refine ⟨by simpa using this.1, fun i h1 h2 => ?_⟩
        cases i with
        | zero => exact cst_rr h.1
        | succ i => exact this.2 i (by simpa using h1) (by simpa using h2)
  split at h
  · rename_i x hz
    split at h
    · rename_i zs
      have hb : ones x := by
        unfold zeroV at hz
        split at hz
        · split at hz
          · rename_i hb
            cases hz
            unfold ones
            rw [List.all_eq_true] at hb ⊢
            intro v hv
            have := hb v hv
            cases v <;> simp_all [isBase, Value.oneCell']
          · cases hz
        · cases hz
      have hr : RR P H Z (.agg zs) (.agg x) := .agg' hb (lst _ _ h)
      exact ⟨_, hz, .v hr, .own (.v hr)⟩
    · cases h
  · rename_i v _ hz
    exact ⟨v, hz, own0_ov h, .own (own0_ov h)⟩
  · cases h

theorem chkKey_spec {t kt : TypeId} {fk : Bool × List Sk} (h : chkKey P t kt fk = true) : ∃ et, P.underlying t = some (.map kt et) ∧ flatK P 9 kt = some fk.2 ∧ isAggA P kt = some fk.1 := by
  unfold chkKey at h
  split at h
  · rename_i kt' et hu
    simp only [Bool.and_eq_true, beq_iff_eq, decide_eq_true_eq] at h
    obtain ⟨⟨rfl, h1⟩, h2⟩ := h
    exact ⟨et, hu, h1, h2⟩
  · cases h
theorem chkMapZ_spec {t kt et : TypeId} {z : RV} (hu : P.underlying t = some (.map kt et)) (h : chkMapZ P t z = true) : zval P et z = true := by
  unfold chkMapZ at h
  rw [hu] at h
  exact h

/-- A flat value read. -/
theorem view_flat (S : SR P T A H Z F) {x : Opd} {a : Value} (hx : EV A x a) {y : RV} (h : view T x = some y) (hf : y.flat = true) : RR P H Z y a := by
  have hl := look_rel S hx
  unfold view view0 at h
  split at h
  · rename_i f p c hlk
    obtain ⟨q, _, h⟩ := Option.bind_eq_some_iff.1 h
    obtain ⟨w, _, rfl⟩ := Option.map_eq_some_iff.1 h
    simp [RV.flat] at hf
  · rename_i u hn
    unfold view1 at h
    split at h
    · rename_i z hlk
      cases h
      rw [hlk] at hl
      cases hl with | v hr => exact hr
    · cases h; simp [RV.flat] at hf
    · rename_i r p hlk
      obtain ⟨hp, hor, hw⟩ := als_rel S hx hlk
      obtain ⟨w, hg, hd⟩ := Option.bind_eq_some_iff.1 h
      obtain ⟨f', o2, _⟩ := hw _ hg
      exact (o2.dem hd).flat hf H Z
    · split at h
      · split at h
        · obtain ⟨_, _, rfl⟩ := Option.map_eq_some_iff.1 h
          simp [RV.flat] at hf
        · cases h
      · cases h
    · split at h
      · obtain ⟨_, _, h⟩ := Option.bind_eq_some_iff.1 h
        split at h
        · cases h; simp [RV.flat] at hf
        · cases h
      · cases h
    · cases h

theorem fitL_flat : ∀ {ks : List Sk} {l : List RV}, fitL ks l = true → flatLs l = true
  | _, [], _ => rfl
  | [], _ :: _, h => by simp [fitL] at h
  | k :: ks, y :: l, h => by
    simp only [fitL, Bool.and_eq_true] at h
    simp only [flatLs, Bool.and_eq_true]
    exact ⟨by cases k <;> cases y <;> first | rfl | (simp [fitR] at h), fitL_flat h.2⟩
theorem fitV_flat {fk : Bool × List Sk} {x : RV} (h : fitV fk x = true) : x.flat = true := by
  simp only [fitV, Bool.and_eq_true] at h
  have := fitL_flat h.1
  cases x <;> first | rfl | (simpa [RV.cells, flatLs] using this) | (simpa [RV.cells, RV.flat] using this)

def mapEs (H : Heap) (kt : TypeId) : Value → Option (List (Value × Value))
  | .map none => some []
  | .map (some r) => match H[r]? with | some (.map kt' es) => if kt' = kt then some es else none | _ => none
  | _ => none

theorem lookupA_eq {t kt et : TypeId} {m k : Value} {ok : Bool} (hu : P.underlying t = some (.map kt et)) (hf : fits P kt k = true) : lookupA P t H m k ok = (mapEs H kt m).bind fun es =>
    match findA k es 0 with
    | some (_, v) => some (if ok then .tuple #[v, .bool true] else v)
    | none => (zeroV P et).map fun z => if ok then .tuple #[z, .bool false] else z := by
  unfold lookupA
  simp only [hu, hf, if_true]
  congr 1

theorem sim_lookup (S : SR P T A H Z F) {m k : Opd} {m0 k0 : Value} (hm : EV A m m0) (hk : EV A k k0) {t kt : TypeId} {fk : Bool × List Sk} {z : RV} {ok : Bool} (hc : chkKey P t kt fk = true) (hz : chkMapZ P t z = true)
    {v : TV} (h : exec T (.lookup kt fk z ok m k) = some (v, T')) : ∃ a, lookupA P t H m0 k0 ok = some a ∧ Out P H Z A F v T' a H := by
  obtain ⟨et, hu, hfk, hag⟩ := chkKey_spec hc
  obtain ⟨zv, hzv, oz, tz⟩ := zval_rel (H := H) (Z := Z) (T := T) (A := A) (chkMapZ_spec hu hz)
  simp only [exec] at h
  obtain ⟨y, hy, h'⟩ := Option.bind_eq_some_iff.1 h
  clear h
  have h := h'
  clear h'
  split at h
  · cases h
  rename_i hfit
  have hfit : fitV fk y = true := by simpa using hfit
  have hr := view_flat S hk hy (fitV_flat hfit)
  have hfits := fitV_rel hr hfk hag hfit
  have hl := look_rel S hm
  have two : ∀ {u : TV} {a : Value} {b : Bool}, TR1 P T A H Z u a [] → TR P T A H Z (if ok then .tup [u, .v (.bool b)] else u) (if ok then .tuple #[a, .bool b] else a) [] := fun {u a b} hu1 => by
    clear h
    cases ok
    · exact .one hu1
    · refine .tup rfl fun i h1 h2 => ?_
      rcases i with _ | _ | i
      · exact hu1
      · exact .own (.v (.bool b))
      · simp at h1; omega
  -- nothing found
  have miss : ∀ {es : List (Value × Value)}, mapEs H kt m0 = some es → findA k0 es 0 = none →
      some (if ok then TV.tup [own0 z, .v (.bool false)] else own0 z, T) = some (v, T') → ∃ a, lookupA P t H m0 k0 ok = some a ∧ Out P H Z A F v T' a H := fun {es} q1 q2 q3 => by
    simp only [Option.some.injEq, Prod.mk.injEq] at q3
    obtain ⟨rfl, rfl⟩ := q3
    refine ⟨if ok then .tuple #[zv, .bool false] else zv, ?_, .tr S (two tz)⟩
    rw [lookupA_eq hu hfits]
    simp only [q1, Option.bind_some, q2, hzv, Option.map_some]
  have hit : ∀ {es : List (Value × Value)} {i : Nat} {a : Value} {u : TV}, mapEs H kt m0 = some es → findA k0 es 0 = some (i, a) →
      TR1 P T A H Z u a [] → some (if ok then TV.tup [u, .v (.bool true)] else u, T) = some (v, T') → ∃ a, lookupA P t H m0 k0 ok = some a ∧ Out P H Z A F v T' a H := fun {es i a u} q1 q2 q4 q3 => by
    simp only [Option.some.injEq, Prod.mk.injEq] at q3
    obtain ⟨rfl, rfl⟩ := q3
    refine ⟨if ok then .tuple #[a, .bool true] else a, ?_, .tr S (two q4)⟩
    rw [lookupA_eq hu hfits]
    simp only [q1, Option.bind_some, q2]
  split at h
  · rename_i hlk
    rw [hlk] at hl
    cases hl with | v h1 =>
    cases h1
    exact miss (es := []) rfl rfl h
  · rename_i kt' ks vs hlk
    rw [hlk] at hl
    split at h
    · cases h
    rename_i hkt
    have hkt : kt' = kt := by simpa using hkt
    subst hkt
    cases hl with | v h1 =>
    cases h1 with
    | @mp _ _ _ r es hz9 hb hkl hvl r1 r2 =>
      have hes : mapEs H kt' (.map (some r)) = some es := by simp [mapEs, hb]
      rcases find_rel hr (ks := ks) (es := es) 0 ⟨by simpa using hkl, fun i h1 h2 => by simpa using r1 i h1 (by simpa using h2)⟩ with ⟨k1, k2⟩ | ⟨i, e, k1, k2, k3⟩
      · rw [k1] at h
        exact miss hes k2 h
      · rw [k1] at h
        simp only [Nat.zero_add] at h k3
        obtain ⟨w, hw, h⟩ := Option.map_eq_some_iff.1 h
        obtain ⟨hi1, rfl⟩ := List.getElem?_eq_some_iff.1 hw
        obtain ⟨hi2, rfl⟩ := List.getElem?_eq_some_iff.1 k2
        exact hit (u := .v vs[i]) hes k3 (.own (.v (r2 i hi1 hi2))) (by rw [← h])
  · rename_i r p hlk
    obtain ⟨hp, hor, hw⟩ := als_rel S hm hlk
    split at h
    · rename_i kt' ks vs hg
      split at h
      · cases h
      rename_i hkt
      have hkt : kt' = kt := by simpa using hkt
      subst hkt
      obtain ⟨f', o2, _⟩ := hw _ hg
      cases o2 with
      | @mp _ _ _ r9 es f hb hkr hv =>
        have hes : mapEs H kt' (.map (some r9)) = some es := by simp [mapEs, hb]
        rcases find_rel hr 0 hkr with ⟨k1, k2⟩ | ⟨i, e, k1, k2, k3⟩
        · rw [k1] at h
          exact miss hes k2 h
        · rw [k1] at h
          simp only [Nat.zero_add] at h k3
          obtain ⟨w, hw, h⟩ := Option.bind_eq_some_iff.1 h
          obtain ⟨av, g1, fs, g2, q1, _, q2, _⟩ := hv.focus hw
          have q1' : e.2 = av := by simpa [k2] using q1
          subst q1'
          split at h
          · cases q2 with | v q2 => exact hit hes k3 (.own (.v q2)) h
          · split at h
            · refine hit hes k3 (.als (w := w) ?_ ?_) h
              · rw [get_app, hg]; simp [TV.get, TV.child, hw]
              · rw [plA_app, hp]; simp [plA, childA, hb, k2]
            · cases h
    · cases h
  · cases h

theorem sim_mkfn (S : SR P T A H Z F) {first cap : List Opd} {x y : Array Value} (h1 : first.length = x.size ∧ ∀ i (h : i < first.length) (h' : i < x.size), EV A first[i] x[i]) (h2 : cap.length = y.size ∧ ∀ i (h : i < cap.length) (h' : i < y.size), EV A cap[i] y[i])
    {f : FuncId} {v : TV} (h : exec T (.mkfn f first cap) = some (v, T')) : Out P H Z A F v T' (.func (.func f) x y) H := by
  simp only [exec] at h
  split at h
  · rename_i hlf
    simp only [Option.some.injEq, Prod.mk.injEq] at h
    obtain ⟨rfl, rfl⟩ := h
    simp only [Bool.and_eq_true, List.all_eq_true] at hlf
    have leaf : ∀ {u : TV} {a : Value}, TR P T A H Z u a [] → u.leaf = true → TR1 P T A H Z u a [] := fun h hu => by
      cases h with
      | one h => exact h
      | tup => simp [TV.leaf] at hu
      | fn => simp [TV.leaf] at hu
    refine .tr S (.fn (by simpa using h1.1) (by simpa using h2.1) (fun i k1 k2 => ?_) (fun i k1 k2 => ?_))
    · simp only [List.getElem_map]
      exact leaf (look_rel S (h1.2 i (by simpa using k1) k2)).tr (hlf.1 _ (List.mem_map_of_mem (List.getElem_mem _)))
    · simp only [List.getElem_map]
      exact leaf (look_rel S (h2.2 i (by simpa using k1) k2)).tr (hlf.2 _ (List.mem_map_of_mem (List.getElem_mem _)))
  · cases h

end Go.PM

/-
  PM: operations that make something: boxes, structs, lists, maps.
-/
namespace Go.PM
open Go Go.AH
variable {P : Program} {H H' H0 : Heap} {Z Z' Z0 : Nat → Prop} {T T' : Tm} {A : Nat → Value} {F F' F0 : Nat → List Nat}

theorem zpush (S : SR P T A H Z F) (blk : Blk) : ∀ b, Z b → Z b ∧ (H.push blk)[b]? = H[b]? := fun b hb => ⟨hb, get_push_lt _ _ (S.zl b hb)⟩

theorem TR.lt {t : TV} {a : Value} {f : List Nat} (h : TR P T A H Z t a f) : ∀ b ∈ f, b < H.size := by
  cases h with
  | one h => cases h with
    | own h => exact h.lt
    | als => simp
    | adr => simp
    | ade => simp
    | win => simp
  | tup => simp
  | fn => simp
theorem SR.flt (S : SR P T A H Z F) {x b : Nat} (hb : b ∈ F x) : b < H.size := (S.tr x).lt b hb

theorem SR.push (S : SR P T A H Z F) (blk : Blk) : SR P T A (H.push blk) Z F :=
  S.mono (zpush S blk) (fun x b hb => ⟨get_push_lt _ _ (S.flt hb), S.fz x b hb⟩) fun b hb => by have := S.zl b hb; simp; omega

/-- Something new that is one's own. -/
theorem Out.new (st : Stp H0 Z0 F0 H Z F) (S : SR P T A H Z F) {blk : Blk} {u : TV} {a : Value} {f0 : List Nat} (hov : OV P (H.push blk) Z u a (H.size :: f0)) (hn : f0.Nodup) (hz : ∀ b ∈ f0, ¬ Z b) (hd : ∀ x, ∀ b ∈ f0, b ∉ F x) (hlt : ∀ b ∈ f0, b < H.size) (hor : ∀ b ∈ f0, (∃ x, b ∈ F0 x) ∨ H0.size ≤ b) :
    Out P H0 Z0 A F0 u T a (H.push blk) := by
  refine ⟨Z, F, H.size :: f0, S.push blk, .one (.own hov), List.nodup_cons.2 ⟨fun h => Nat.lt_irrefl _ (hlt _ h), hn⟩, fun b hb => ?_, fun x b hb hx => ?_, ?_, fun b hb => ?_⟩
  · rcases List.mem_cons.1 hb with rfl | hb
    · exact fun h => Nat.lt_irrefl _ (S.zl _ h)
    · exact hz b hb
  · rcases List.mem_cons.1 hb with rfl | hb
    · exact Nat.lt_irrefl _ (S.flt hx)
    · exact hd x b hb hx
  · exact ⟨by have := st.size; simp; omega, fun b hb h => (get_push_lt _ _ (Nat.lt_of_lt_of_le hb st.size)).trans (st.frame b hb h), st.zmono, st.znew, st.fnew⟩
  · rcases List.mem_cons.1 hb with rfl | hb
    · exact .inr st.size
    · exact hor b hb

theorem cstL_rel : ∀ (l : List RV) (x : List Value), cstL l x = true → RRs P H Z l x
  | [], [], _ => ⟨rfl, fun i h => by simp at h⟩
  | [], _ :: _, h => by simp [cstL] at h
  | _ :: _, [], h => by simp [cstL] at h
  | y :: l, a :: x, h => by
    simp only [cstL, Bool.and_eq_true] at h
    have := cstL_rel l x h.2
    refine ⟨by simpa using this.1, fun i h1 h2 => ?_⟩
    cases i with
    | zero => exact cst_rr h.1
    | succ i => exact this.2 i (by simpa using h1) (by simpa using h2)
theorem cstL_own0 : ∀ {l : List RV} {x : List Value}, cstL l x = true → OVL P H Z (l.map own0) x []
  | [], [], _ => .nil
  | [], _ :: _, h => by simp [cstL] at h
  | _ :: _, [], h => by simp [cstL] at h
  | y :: l, a :: x, h => by
    simp only [cstL, Bool.and_eq_true] at h
    have := OVL.cons (own0_ov (P := P) (H := H) (Z := Z) h.1) (cstL_own0 h.2)
    simpa using this
theorem zeroA_ones {t : TypeId} {z : Array Value} (h : zeroA P t = some z) : ones z := by
  unfold zeroA at h
  split at h
  · split at h
    · rename_i hb
      cases h
      unfold ones
      rw [List.all_eq_true] at hb ⊢
      intro v hv
      have := hb v hv
      cases v <;> simp_all [isBase, Value.oneCell']
    · cases h
  · cases h

theorem sim_alloc (S : SR P T A H Z F) {t : TypeId} {zs : List RV} (hz : zrow P t zs = true) {v : TV} (h : exec T (.alloc t zs) = some (v, T')) :
    ∃ z, zeroA P t = some z ∧ Out P H Z A F v T' (allocA t H z).1 (allocA t H z).2 := by
  unfold zrow at hz
  split at hz
  · rename_i z hzA
    simp only [exec, Option.some.injEq, Prod.mk.injEq] at h
    obtain ⟨rfl, rfl⟩ := h
    refine ⟨z, hzA, Out.new Stp.refl S (f0 := []) (.bx (zeroA_ones hzA) (get_push_eq _ _) (cstL_own0 hz)) (by simp) (by simp) (by simp) (by simp) (by simp)⟩
  · cases hz

theorem OV.noTuple {u : TV} {a : Value} {f : List Nat} (h : OV P H Z u a f) (hj : u.isJunk = false) : noTuple a = true := by
  cases h with
  | v h => cases h <;> rfl
  | junk => simp [TV.isJunk] at hj
  | _ => rfl

theorem sim_box (S : SR P T A H Z F) {x : Opd} {a0 : Value} (ha : EV A x a0) {t : TypeId} {v : TV} (h : exec T (.box t x) = some (v, T')) :
    noTuple a0 = true ∧ Out P H Z A F v T' (allocA t H a0.cells).1 (allocA t H a0.cells).2 := by
  simp only [exec] at h
  obtain ⟨⟨u, T1⟩, ht, h⟩ := Option.bind_eq_some_iff.1 h
  split at h
  · cases h
  · rename_i hj
    have hj : u.isJunk = false := by simpa using hj
    simp only [Option.some.injEq, Prod.mk.injEq] at h
    obtain ⟨rfl, rfl⟩ := h
    obtain ⟨Z1, F1, f, S1, fr, st, hor, _⟩ := take_rel S ha ht
    have hju : u ≠ .junk := fun h => by subst h; simp [TV.isJunk] at hj
    refine ⟨fr.ov.noTuple hj, Out.new st S1 (.bx (fr.ov.cones hju) (get_push_eq _ _) ((fr.ov.cells hju).mono (zpush S1 _) fun b hb => get_push_lt _ _ (fr.ov.lt b hb))) fr.nd fr.fz fr.dj fr.ov.lt fun b hb => .inl (hor b hb)⟩

/-! ### Parts -/
theorem fold_set (off : Nat) : ∀ (vs : List Value) (k : Nat) (x : Array Value), off + k + vs.length ≤ x.size → ((vs.zipIdx k).foldl (fun cs (c, j) => cs.setIfInBounds (off + j) c) x).toList = setR x.toList (off + k) vs
  | [], k, x, _ => by simp [setR]
  | v :: vs, k, x, h => by
    simp only [List.length_cons] at h
    simp only [List.zipIdx_cons, List.foldl_cons]
    rw [fold_set off vs (k + 1) (x.setIfInBounds (off + k) v) (by simp; omega)]
    have hlt : off + k < x.toList.length := by simp; omega
    simp only [setR, Array.toList_setIfInBounds, List.length_cons]
    rw [show off + (k + 1) = off + k + 1 by omega]
    have h1 : (x.toList.set (off + k) v).take (off + k + 1) = x.toList.take (off + k) ++ [v] := by
      rw [List.take_add_one, List.take_set_of_le (Nat.le_refl _), List.getElem?_set_self hlt]
      rfl
    have h2 : (x.toList.set (off + k) v).drop (off + k + 1 + vs.length) = x.toList.drop (off + k + (vs.length + 1)) := by
      rw [List.drop_set_of_lt (by omega)]
      congr 1
      omega
    rw [h1, h2]
    simp

/-- A row with other cells in it. -/
theorem OVL.setR {cs : List TV} {a : List Value} {f g : List Nat} {us : List TV} {bs : List Value} {o : Nat} (h : OVL P H Z cs a f) (k : OVL P H Z us bs g) (hle : o + us.length ≤ cs.length) :
    ∃ f', OVL P H Z (PM.setR cs o us) (PM.setR a o bs) f' ∧ (∀ b, b ∈ f' → b ∈ f ∨ b ∈ g) ∧ (f.Nodup → g.Nodup → (∀ b ∈ f, b ∉ g) → f'.Nodup) := by
  obtain ⟨f1, f2, f3, rfl, o1, o2, o3⟩ := h.seg hle
  have hl := k.length
  refine ⟨f1 ++ g ++ f3, ?_, fun b hb => ?_, fun n1 n2 n3 => ?_⟩
  · unfold PM.setR
    rw [← hl]
    exact (o1.append k).append o3
  · simp only [List.mem_append] at hb ⊢
    rcases hb with (hb | hb) | hb <;> simp [hb]
  · obtain ⟨nf1, nf23, n12⟩ := List.nodup_append.1 n1
    obtain ⟨nf2, nf3, n23⟩ := List.nodup_append.1 nf23
    refine List.nodup_append.2 ⟨List.nodup_append.2 ⟨nf1, n2, fun a ha b hb hab => ?_⟩, nf3, fun a ha b hb hab => ?_⟩
    · subst hab; exact n3 a (by simp [ha]) hb
    · subst hab
      rcases List.mem_append.1 ha with ha | ha
      · exact n12 a ha a (by simp [hb]) rfl
      · exact n3 a (by simp [hb]) ha

theorem ones_setR {x y : Array Value} {vs : List Value} {o : Nat} (h : ones x) (hv : vs.all Value.oneCell' = true) (e : y.toList = setR x.toList o vs) : ones y := by
  unfold ones at *
  rw [e, setR]
  rw [List.all_eq_true] at h hv ⊢
  intro v hm
  simp only [List.mem_append] at hm
  rcases hm with (hm | hm) | hm
  · exact h v (List.mem_of_mem_take hm)
  · exact hv v hm
  · exact h v (List.mem_of_mem_drop hm)

/-- Is this a footprint that nobody has? -/
structure FreeL (P : Program) (H : Heap) (Z : Nat → Prop) (F : Nat → List Nat) (us : List TV) (as : List Value) (f : List Nat) : Prop where
  ov : OVL P H Z us as f
  nd : f.Nodup
  fz : ∀ b ∈ f, ¬ Z b
  dj : ∀ x, ∀ b ∈ f, b ∉ F x

/-- Handing over leaves what nobody has. -/
theorem take_rel' (S : SR P T A H Z F) {x : Opd} {a : Value} (hx : EV A x a) {u : TV} (h : take T x = some (u, T')) {us : List TV} {as : List Value} {g : List Nat} (fl : FreeL P H Z F us as g) :
    ∃ Z1 F1 f, SR P T' A H Z1 F1 ∧ Free P H Z1 F1 u a f ∧ Stp H Z F H Z1 F1 ∧ (∀ b ∈ f, ∃ x, b ∈ F x) ∧ FreeL P H Z1 F1 us as g ∧ ∀ b ∈ g, b ∉ f := by
  obtain ⟨Z1, F1, f, S1, fr, st, hor, _⟩ := take_rel S hx h
  refine ⟨Z1, F1, f, S1, fr, st, hor, ⟨fl.ov.mono (fun b hb => ⟨st.zmono b hb, rfl⟩) fun _ _ => rfl, fl.nd, fun b hb hz => ?_, fun x b hb hx => ?_⟩, fun b hb hf => ?_⟩
  · rcases st.znew b hz with h | ⟨y, h⟩ | h
    · exact fl.fz b hb h
    · exact fl.dj y b hb h
    · exact absurd (fl.ov.lt b hb) (by omega)
  · rcases st.fnew x b hx with ⟨y, h⟩ | h
    · exact fl.dj y b hb h
    · exact absurd (fl.ov.lt b hb) (by omega)
  · obtain ⟨y, h⟩ := hor b hf
    exact fl.dj y b hb h

theorem fill_sim {nt : Nat} {TA : Tmps} (hT : ∀ s, s < nt → TA.getD s undef = A s) {place : Nat → Option (Nat × Nat)} : ∀ {ps : List (Nat × Operand)} {qs : List (Nat × Nat × Opd)} {T T' : Tm} {Z : Nat → Prop} {F : Nat → List Nat} {cs cs' : List TV} {x : Array Value} {f : List Nat},
    chkPl nt place ps qs = true → SR P T A H Z F → FreeL P H Z F cs x.toList f → ones x → fillT T cs qs = some (cs', T') → Stp H0 Z0 F0 H Z F → (∀ b ∈ f, (∃ x, b ∈ F0 x) ∨ H0.size ≤ b) →
    ∃ out Z' F' f', Instr.fill place x (ps.map fun p => (p.1, ev TA p.2)) = some out ∧ (ps.all fun p => noTuple (ev TA p.2)) = true ∧ SR P T' A H Z' F' ∧ FreeL P H Z' F' cs' out.toList f' ∧ ones out ∧ Stp H0 Z0 F0 H Z' F' ∧ (∀ b ∈ f', (∃ x, b ∈ F0 x) ∨ H0.size ≤ b)
  | [], [], T, T', Z, F, cs, cs', x, f, _, S, fl, h1, h, st, hor => by
    simp only [fillT, Option.some.injEq, Prod.mk.injEq] at h
    obtain ⟨rfl, rfl⟩ := h
    exact ⟨x, Z, F, f, rfl, rfl, S, fl, h1, st, hor⟩
  | [], _ :: _, T, T', Z, F, cs, cs', x, f, hc, S, fl, h1, h, st, hor => by simp [chkPl] at hc
  | _ :: _, [], T, T', Z, F, cs, cs', x, f, hc, S, fl, h1, h, st, hor => by simp [chkPl] at hc
  | (i, o) :: ps, (off, k, y) :: qs, T, T', Z, F, cs, cs', x, f, hc, S, fl, h1, h, st, hor => by
    simp only [chkPl, Bool.and_eq_true, decide_eq_true_eq] at hc
    obtain ⟨⟨hpl, hco⟩, hrest⟩ := hc
    simp only [fillT] at h
    obtain ⟨⟨u, T1⟩, ht, h⟩ := Option.bind_eq_some_iff.1 h
    simp only at h
    split at h
    · rename_i hcond
      obtain ⟨hk, hle, hj⟩ := hcond
      have hev := ev_of hT hco
      obtain ⟨Z1, F1, g, S1, fr, st1, hor1, fl1, hdis⟩ := take_rel' S hev ht fl
      have hju : u ≠ .junk := fun h => by subst h; simp [TV.isJunk] at hj
      have hcells := fr.ov.cells hju
      have hlen := hcells.length
      have hcl := fl1.ov.length
      simp only [Array.length_toList] at hlen hcl
      obtain ⟨f', o1, o2, o3⟩ := fl1.ov.setR hcells (o := off) (by omega)
      have hfs := fold_set off (ev TA o).cells.toList 0 x (by simp; omega)
      simp only [Nat.add_zero] at hfs
      have fl2 : FreeL P H Z1 F1 (PM.setR cs off u.cellsT) (((ev TA o).cells.toList.zipIdx 0).foldl (fun cs (c, j) => cs.setIfInBounds (off + j) c) x).toList f' := by
        rw [hfs]
        exact ⟨o1, o3 fl1.nd fr.nd hdis, fun b hb => (o2 b hb).elim (fl1.fz b) (fr.fz b), fun z b hb => (o2 b hb).elim (fl1.dj z b) (fr.dj z b)⟩
      have hone := fr.ov.cones hju
      obtain ⟨out, Z', F', f9, r1, r2, r3, r4, r5, r6, r7⟩ := fill_sim hT hrest S1 fl2 (ones_setR h1 hone hfs) h (st.trans st1) fun b hb => by
        rcases o2 b hb with hb | hb
        · exact hor b hb
        · obtain ⟨z, hz⟩ := hor1 b hb
          exact st.fnew z b hz
      refine ⟨out, Z', F', f9, ?_, ?_, r3, r4, r5, r6, r7⟩
      · simp only [List.map_cons, Instr.fill, hpl]
        have c1 : ¬ ((ev TA o).cells.size ≠ k) := by omega
        have c2 : ¬ (off + (ev TA o).cells.size > x.size) := by omega
        simp only [c1, c2, decide_false, Bool.or_self, Bool.false_eq_true, if_false]
        rw [← r1, ← Array.foldl_toList, Array.toList_zipIdx]
      · simp only [List.all_cons, Bool.and_eq_true]
        exact ⟨fr.ov.noTuple hj, r2⟩
    · cases h

end Go.PM
