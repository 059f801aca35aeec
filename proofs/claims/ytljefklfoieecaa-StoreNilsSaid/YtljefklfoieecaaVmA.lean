/- The value machine: a deterministic evaluator of the loaded code over tree data and a store of owned memory. Definitions alone. -/
import Derived.Calls
import Derived.Laws.Entries
set_option linter.unusedSimpArgs false
set_option linter.unusedVariables false
namespace Go.Vm

/-- Tree data: no address in it. 'agg': the cells of a struct or an array, one after the other. -/
inductive D where
  | bool (b : Bool)
  | int (k : IntKind) (n : Int)
  | flt (k : FloatKind) (bits : Nat)
  | str (s : List UInt8)
  | sl (xs : List D)
  | agg (xs : List D)
  | map (es : List (D × D))
  | iface (t : TypeId) (x : D)
  | ptr (x : D)
  | fn (f : Fn) (first caps : List D)
  | nili
  | nilp
  | nilf
  | nilm
  deriving Inhabited

/-- The machine's values: data; a slice without spare room ('ts'); a slice of a row of the store ('rs'), of the cells of one element of it ('cs'); an address in the store ('ref': row or box, element, cell); a map of the store; an iterator; ..; 'junk': nothing is known. -/
inductive V where
  | d (x : D)
  | ts (xs : List D)
  | rs (id off len : Nat)
  | cs (id ix off len : Nat)
  | ref (id ix off : Nat)
  | mr (id : Nat)
  | it (id : Nat)
  | agg (xs : List V)
  | iface (t : TypeId) (v : V)
  | fn (f : Fn) (first caps : List V)
  | tup (xs : List V)
  | junk
  deriving Inhabited

/-- What lies in the store. -/
inductive Ob where
  | row (xs : List V) (e : TypeId)
  | mp (es : List (D × V × Nat)) (clock : Nat)
  | iter (s : List UInt8) (pos : Nat)
  | fz (xs : List D) (e : TypeId)
  | fm (es : List (D × D))
  | dead
  | hole
  deriving Inhabited

abbrev Store := List Ob

def D.isAgg : D → Bool | .agg _ => true | _ => false
def D.cells : D → List D | .agg xs => xs | .bool b => [.bool b] | .int k n => [.int k n] | .flt k b => [.flt k b] | .str s => [.str s] | .sl xs => [.sl xs] | .map es => [.map es] | .iface t x => [.iface t x] | .ptr x => [.ptr x] | .fn f a b => [.fn f a b] | .nili => [.nili] | .nilp => [.nilp] | .nilf => [.nilf] | .nilm => [.nilm]
def V.isAgg : V → Bool | .d x => x.isAgg | .agg _ => true | _ => false
def V.cells : V → List V | .d x => x.cells.map .d | .agg xs => xs | .tup xs => [.tup xs] | .ts xs => [.ts xs] | .rs i o l => [.rs i o l] | .cs i x o l => [.cs i x o l] | .ref i x o => [.ref i x o] | .mr i => [.mr i] | .it i => [.it i] | .iface t v => [.iface t v] | .fn f a b => [.fn f a b] | .junk => [.junk]

/-- Not a tuple, and known. -/
def V.one : V → Bool | .tup _ => false | .junk => false | _ => true
/-- All of them, or none. -/
def allO {α β : Type} (f : α → Option β) : List α → Option (List β)
  | [] => some []
  | x :: r => match f x with
    | none => none
    | some y => match allO f r with
      | none => none
      | some ys => some (y :: ys)

def strOf (s : ByteArray) : List UInt8 := s.data.toList

/-- A constant, or a zero value, without address. -/
def ofLeaf : Value → Option V
  | .bool b => some (.d (.bool b))
  | .int k n => some (.d (.int k n))
  | .float k b => some (.d (.flt k b))
  | .string s => some (.d (.str (strOf s)))
  | .pointer none => some (.d .nilp)
  | .slice none 0 0 => some (.ts [])
  | .map none => some (.d .nilm)
  | .nilFunc => some (.d .nilf)
  | .nilIface => some (.d .nili)
  | _ => none
def ofVal : Value → Option V
  | .agg cs => (allO ofLeaf cs.toList).map .agg
  | .func f a b => if a.size = 0 && b.size = 0 then some (.fn f [] []) else none
  | v => ofLeaf v

def evalO (T : List V) : Operand → V
  | .tmp t => T.getD t .junk
  | .const v => (ofVal v).getD .junk
  | .global _ => .junk
  | .func f => .fn (.func f) [] []

/-- As data, where nothing of the store hangs on it. -/
def leafD : V → Option D
  | .d x => if x.isAgg then none else some x
  | .ts xs => some (.sl xs)
  | .iface t (.d x) => some (.iface t x)
  | _ => none
def asD : V → Option D
  | .d x => some x
  | .agg xs => (allO leafD xs).map .agg
  | v => leafD v

/-- As data, through the store; which rows and maps must stay as they are then. -/
def frz (S : Store) : Nat → V → Option D
  | 0, _ => none
  | n + 1, v => match v with
    | .d x => some x
    | .ts xs => some (.sl xs)
    | .agg xs => match allO (frz S n) xs with
      | some ds => if ds.any D.isAgg then none else some (.agg ds)
      | none => none
    | .iface t v => (frz S n v).map (.iface t)
    | .rs id off len => match S[id]? with
      | some (.row xs e) => if off + len ≤ xs.length && (allO (frz S n) xs).isSome then (allO (frz S n) ((xs.drop off).take len)).map .sl else none
      | some (.fz xs e) => if off + len ≤ xs.length then some (.sl ((xs.drop off).take len)) else none
      | _ => none
    | .cs id ix off len => match S[id]? with
      | some (.row xs e) => match xs[ix]? with
        | some x => if x.isAgg && off + len ≤ x.cells.length && (allO (frz S n) xs).isSome then (allO leafD ((x.cells.drop off).take len)).map .sl else none
        | none => none
      | some (.fz xs e) => match xs[ix]? with
        | some x => if x.isAgg && off + len ≤ x.cells.length then some (.sl ((x.cells.drop off).take len)) else none
        | none => none
      | _ => none
    | .ref id ix 0 => match S[id]? with
      | some (.row xs e) => match xs[ix]? with
        | some x => if (allO (frz S n) xs).isSome then (frz S n x).map .ptr else none
        | none => none
      | some (.fz xs e) => (xs[ix]?).map .ptr
      | _ => none
    | .fn f first caps => match allO (frz S n) first, allO (frz S n) caps with
      | some a, some b => some (.fn f a b)
      | _, _ => none
    | .mr id => match S[id]? with
      | some (.mp es _) => (allO (fun (e : D × V × Nat) => (frz S n e.2.1).map fun x => (e.1, x)) es).map .map
      | some (.fm es) => some (.map es)
      | _ => none
    | _ => none
def frzIds (S : Store) : Nat → V → List Nat
  | 0, _ => []
  | n + 1, v => match v with
    | .agg xs => xs.flatMap (frzIds S n)
    | .iface t v => frzIds S n v
    | .rs id off len => match S[id]? with
      | some (.row xs e) => id :: xs.flatMap (frzIds S n)
      | _ => []
    | .cs id ix off len => match S[id]? with
      | some (.row xs e) => id :: xs.flatMap (frzIds S n)
      | _ => []
    | .ref id ix off => match S[id]? with
      | some (.row xs e) => id :: xs.flatMap (frzIds S n)
      | _ => []
    | .fn f first caps => first.flatMap (frzIds S n) ++ caps.flatMap (frzIds S n)
    | .mr id => match S[id]? with
      | some (.mp es _) => id :: es.flatMap fun e => frzIds S n e.2.1
      | _ => []
    | _ => []
def frzFuel : Nat := 12
/-- The object as it stays. -/
def frzOb (S : Store) : Ob → Option Ob
  | .row xs e => (allO (frz S frzFuel) xs).map fun ds => .fz ds e
  | .mp es _ => (allO (fun (e : D × V × Nat) => (frz S frzFuel e.2.1).map fun x => (e.1, x)) es).map .fm
  | .iter _ _ => none
  | o => some o
def obIds (S : Store) : Ob → List Nat
  | .row xs e => xs.flatMap (frzIds S frzFuel)
  | .mp es _ => es.flatMap fun e => frzIds S frzFuel e.2.1
  | _ => []
/-- Mark what stays: the objects are read off the store as it was; what they lead to is marked, too. -/
def mark (S0 : Store) (all : List Nat) : Store → List Nat → Option Store
  | S, [] => some S
  | S, id :: r => match S0[id]? with
    | some o => match frzOb S0 o with
      | some o' => if (obIds S0 o).all all.contains then mark S0 all (S.set id o') r else none
      | none => none
    | none => none
/-- No address hangs on it. -/
def D.plain : D → Bool
  | .sl _ => false
  | .map _ => false
  | .ptr _ => false
  | .fn _ _ _ => false
  | .iface _ x => match x with | .int .. | .bool _ | .str _ => true | _ => false
  | .agg xs => xs.all fun | .sl _ | .map _ | .iface .. | .agg _ | .ptr _ | .fn .. => false | _ => true
  | _ => true

section
variable (P : Program)

def sz (t : TypeId) : Option Nat := match P.underlying t with | none => none | some _ => (P.info? t).map (·.size)
def bytesOf (t : TypeId) : Nat := ((P.info? t).map (·.bytes)).getD 0
def zeroV (t : TypeId) : Option V := ((P.info? t).bind (·.zero)).bind ofVal
def aggT (t : TypeId) : Bool := match P.underlying t with | some (.struct _) | some (.array _ _) => true | _ => false
/-- A value of this type has this form: an aggregate's cells as many as the type has. -/
def fitsT (t : TypeId) (v : V) : Bool := v.one && (v.isAgg == aggT P t) && (sz P t == some v.cells.length)
def fitsD (t : TypeId) (x : D) : Bool := (x.isAgg == aggT P t) && (sz P t == some x.cells.length)

/-- A part of a row of cells, as a value of type t. -/
def partV (t : TypeId) (cs : List V) (off : Nat) : Option V :=
  match sz P t with
  | none => none
  | some n =>
    if off + n ≤ cs.length then
      if aggT P t then some (.agg ((cs.drop off).take n)) else if n = 1 then cs[off]? else none
    else none
def partD (t : TypeId) (cs : List D) (off : Nat) : Option D :=
  match sz P t with
  | none => none
  | some n =>
    if off + n ≤ cs.length then
      if aggT P t then some (.agg ((cs.drop off).take n)) else if n = 1 then cs[off]? else none
    else none

def loadV (S : Store) (t : TypeId) : V → Option V
  | .ref id ix off => match S[id]? with
    | some (.row xs e) => match xs[ix]? with
      | some x => if off = 0 && fitsT P t x then some x else partV P t x.cells off
      | none => none
    | some (.fz xs e) => match xs[ix]? with
      | some x => if off = 0 && fitsD P t x then some (.d x) else (partD P t x.cells off).map .d
      | none => none
    | _ => none
  | .d (.ptr x) => if fitsD P t x then some (.d x) else none
  | _ => none
def storeV (S : Store) (t : TypeId) (a v : V) : Option Store :=
  match a with
  | .ref id ix off => match S[id]? with
    | some (.row xs e) => match xs[ix]? with
      | some x =>
        if fitsT P t v then
          if off = 0 && (x.cells.length == v.cells.length) && (x.isAgg == v.isAgg) then some (S.set id (.row (xs.set ix v) e))
          else if off + v.cells.length ≤ x.cells.length && x.isAgg then
            some (S.set id (.row (xs.set ix (.agg (x.cells.take off ++ v.cells ++ x.cells.drop (off + v.cells.length)))) e))
          else none
        else none
      | none => none
    | _ => none
  | _ => none

def fieldAddrV (s : TypeId) (f : Nat) : V → Option V
  | .ref id ix off => match P.underlying s with
    | some (.struct fs) => match fs[f]? with
      | some fd => match sz P fd.type with
        | some (n + 1) => some (.ref id ix (off + fd.offset))
        | _ => none
      | none => none
    | _ => none
  | .d (.ptr x) => match P.underlying s with
    | some (.struct fs) => match fs[f]? with
      | some fd => match sz P fd.type with
        | some (n + 1) => if x.isAgg then (partD P fd.type x.cells fd.offset).map fun y => .d (.ptr y) else none
        | _ => none
      | none => none
    | _ => none
  | _ => none
def fieldV (s : TypeId) (f : Nat) (v : V) : Option V :=
  if v.isAgg then match P.underlying s with
    | some (.struct fs) => match fs[f]? with
      | some fd => match v with
        | .d x => (partD P fd.type x.cells fd.offset).map .d
        | v => partV P fd.type v.cells fd.offset
      | none => none
    | _ => none
  else none

def intOf? : V → Option Int
  | .d (.int _ n) => some n
  | _ => none

def rowB (S : Store) (id : Nat) : Bool := match S[id]? with | some (.row _ _) => true | some (.fz _ _) => true | _ => false
def rowT (S : Store) (id : Nat) (e : TypeId) : Bool := match S[id]? with | some (.row _ e') => e' == e | some (.fz _ e') => e' == e | _ => false
def indexAddrV (S : Store) (t : TypeId) (x ix : V) : Option V :=
  match intOf? ix with
  | none => none
  | some i => match P.underlying t with
    | some (.slice e) => match x with
      | .rs id off len => if (0 ≤ i ∧ i < len) ∧ rowT S id e = true ∧ (sz P e).isSome = true then some (.ref id (off + i.toNat) 0) else none
      | .cs id jx off len => if (0 ≤ i ∧ i < len) ∧ rowB S id = true ∧ sz P e = some 1 then some (.ref id jx (off + i.toNat)) else none
      | .d (.sl xs) => if 0 ≤ i ∧ i < xs.length then match xs[i.toNat]? with | some y => if fitsD P e y then some (.d (.ptr y)) else none | none => none else none
      | .ts xs => if 0 ≤ i ∧ i < xs.length then match xs[i.toNat]? with | some y => if fitsD P e y then some (.d (.ptr y)) else none | none => none else none
      | _ => none
    | some (.array n e) => match sz P e with
      | some k => if 0 ≤ i ∧ i < n then match x with
          | .ref id jx off => some (.ref id jx (off + i.toNat * k))
          | .d (.ptr x) => if x.isAgg then (partD P e x.cells (i.toNat * k)).map fun y => .d (.ptr y) else none
          | _ => none
        else none
      | none => none
    | _ => none
def indexV (t : TypeId) (x ix : V) : Option V :=
  match intOf? ix with
  | none => none
  | some i => match P.underlying t with
    | some .string => match x with
      | .d (.str s) => if 0 ≤ i then match s[i.toNat]? with | some b => some (.d (.int .u8 b.toNat)) | none => none else none
      | _ => none
    | some (.array n e) => match sz P e with
      | some k => if 0 ≤ i ∧ i < n then match x with
          | .d x => if x.isAgg then (partD P e x.cells (i.toNat * k)).map .d else none
          | .agg xs => partV P e xs (i.toNat * k)
          | _ => none
        else none
      | none => none
    | _ => none

/-- The parts laid into a row of cells. -/
def fillV (place : Nat → Option (Nat × Nat)) : List V → List (Nat × V) → Option (List V)
  | cs, [] => some cs
  | cs, (i, v) :: r => match place i with
    | none => none
    | some (off, n) => if v.one && v.cells.length = n && off + n ≤ cs.length then fillV place (cs.take off ++ v.cells ++ cs.drop (off + n)) r else none
def buildV (t : TypeId) (parts : List (Nat × V)) : Option V :=
  match zeroV P t with
  | none => none
  | some z => if z.isAgg then match P.underlying t with
    | some (.struct fs) => if fs.toList.all fun f => (sz P f.type).isSome then (fillV (fun i => (fs[i]?).map fun f => (f.offset, (sz P f.type).getD 0)) z.cells parts).map .agg else none
    | some (.array _ e) => match sz P e with
      | some n => (fillV (fun i => some (i * n, n)) z.cells parts).map .agg
      | none => none
    | _ => none
    else none
/-- The elements of a slice's literal. -/
def litV (z : V) (n : Nat) (parts : List (Nat × V)) : List V := parts.foldl (fun xs p => xs.set p.1 p.2) (List.replicate n z)

end

/-- The numbers' operations. -/
def intBin (op : BinOp) (k : IntKind) (a : Int) (k' : IntKind) (b : Int) : Option D :=
  match op with
  | .shl => if b < 0 then none else some (.int k (k.wrap (a * 2 ^ (min b.toNat k.bits))))
  | .shr => if b < 0 then none else some (.int k (a.fdiv (2 ^ (min b.toNat k.bits))))
  | _ => if k = k' then match op with
    | .add => some (.int k (k.wrap (a + b)))
    | .sub => some (.int k (k.wrap (a - b)))
    | .mul => some (.int k (k.wrap (a * b)))
    | .quo => if b = 0 then none else some (.int k (k.wrap (a.tdiv b)))
    | .rem => if b = 0 then none else some (.int k (a.tmod b))
    | .and => some (.int k (k.wrap (BitVec.ofInt k.bits a &&& BitVec.ofInt k.bits b).toNat))
    | .or => some (.int k (k.wrap (BitVec.ofInt k.bits a ||| BitVec.ofInt k.bits b).toNat))
    | .xor => some (.int k (k.wrap (BitVec.ofInt k.bits a ^^^ BitVec.ofInt k.bits b).toNat))
    | .andNot => some (.int k (k.wrap (BitVec.ofInt k.bits a &&& ~~~ BitVec.ofInt k.bits b).toNat))
    | .eql => some (.bool (a == b))
    | .neq => some (.bool (a != b))
    | .lss => some (.bool (decide (a < b)))
    | .leq => some (.bool (decide (a ≤ b)))
    | .gtr => some (.bool (decide (a > b)))
    | .geq => some (.bool (decide (a ≥ b)))
    | _ => none
    else none
def strBin (op : BinOp) (a b : List UInt8) : Option D :=
  match op with
  | .add => if a.length + b.length ≤ 9223372036854775807 then some (.str (a ++ b)) else none
  | .eql => some (.bool (a == b))
  | .neq => some (.bool (!(a == b)))
  | .lss => some (.bool (Op.bytesLess a b))
  | .leq => some (.bool (Op.bytesLess a b || a == b))
  | .gtr => some (.bool (!(Op.bytesLess a b || a == b)))
  | .geq => some (.bool (!Op.bytesLess a b))
  | _ => none
/-- '==' of two values without parts. -/
def eqLeaf (P : Program) (t : TypeId) (x y : D) : Option Bool :=
  match P.underlying t, x, y with
  | some .bool, .bool a, .bool b => some (a == b)
  | some (.int _), .int k a, .int k' b => if k = k' then some (a == b) else none
  | some .string, .str a, .str b => some (a == b)
  | _, _, _ => none
/-- Keys that are numbers, texts and bools, or structs of such. -/
def leafT (P : Program) (t : TypeId) : Bool := match P.underlying t with | some .bool | some (.int _) | some .string => true | _ => false
def eqFs (P : Program) (g : TypeId → D → D → Option Bool) : List Field → List D → List D → Option Bool
  | [], _, _ => some true
  | f :: fs, xs, ys =>
    if f.name ≠ "_" then
      match partD P f.type xs f.offset, partD P f.type ys f.offset with
      | some x, some y => match g f.type x y with
        | some true => eqFs P g fs xs ys
        | some false => some false
        | none => none
      | _, _ => none
    else none
def eqLs (P : Program) (e : TypeId) : Nat → List D → List D → Option Bool
  | 0, _, _ => some true
  | n + 1, x :: xs, y :: ys => match eqLeaf P e x y with
    | some true => eqLs P e n xs ys
    | some false => some false
    | none => none
  | _, _, _ => none
def eqD (P : Program) : Nat → TypeId → D → D → Option Bool
  | 0, _, _, _ => none
  | n + 1, t, x, y => match x, y with
    | .agg xs, .agg ys => match P.underlying t with
      | some (.struct fs) => if P.stoodInHeld t then none else eqFs P (eqD P n) fs.toList xs ys
      | some (.array m e) => if sz P e == some 1 && n ≠ 0 then eqLs P e m xs ys else none
      | _ => none
    | x, y => eqLeaf P t x y
def ptrT (P : Program) (t : TypeId) : Bool := match P.underlying t with | some (.pointer _) => true | _ => false
/-- A pointer against nil. -/
def eqPtr : V → V → Option Bool
  | .ref .., .d .nilp => some false
  | .d .nilp, .ref .. => some false
  | .d (.ptr _), .d .nilp => some false
  | .d .nilp, .d (.ptr _) => some false
  | .d .nilp, .d .nilp => some true
  | _, _ => none
/-- Maps and functions, against nil. -/
def mapT (P : Program) (t : TypeId) : Bool := match P.underlying t with | some (.map _ _) => true | _ => false
def fnT (P : Program) (t : TypeId) : Bool := match P.underlying t with | some (.func _ _ _) => true | _ => false
def eqMap : V → V → Option Bool
  | .mr _, .d .nilm => some false
  | .d .nilm, .mr _ => some false
  | .d .nilm, .d .nilm => some true
  | .d (.map (_ :: _)), .d .nilm => some false
  | .d .nilm, .d (.map (_ :: _)) => some false
  | _, _ => none
def eqFn : V → V → Option Bool
  | .fn _ _ _, .d .nilf => some false
  | .d (.fn _ _ _), .d .nilf => some false
  | .d .nilf, .fn _ _ _ => some false
  | .d .nilf, .d (.fn _ _ _) => some false
  | .d .nilf, .d .nilf => some true
  | _, _ => none
def eqV (P : Program) (t : TypeId) (x y : V) : Option Bool :=
  if ptrT P t then eqPtr x y else if mapT P t then eqMap x y else if fnT P t then eqFn x y else
  match asD x, asD y with
  | some (.agg xs), some (.agg ys) => if P.eqGuardType P.depth t then none else eqD P 8 t (.agg xs) (.agg ys)
  | some x, some y => eqLeaf P t x y
  | _, _ => none
def binV (P : Program) (op : BinOp) (t : TypeId) (x y : V) : Option V :=
  match x, y with
  | .d (.int k a), .d (.int k' b) => (intBin op k a k' b).map .d
  | .d (.str a), .d (.str b) => (strBin op a b).map .d
  | x, y => match op with
    | .eql => (eqV P t x y).map fun b => .d (.bool b)
    | .neq => (eqV P t x y).map fun b => .d (.bool (!b))
    | _ => none
def unV : UnOp → V → Option V
  | .not, .d (.bool b) => some (.d (.bool (!b)))
  | .neg, .d (.int k n) => some (.d (.int k (k.wrap (0 - n))))
  | _, _ => none

/-- The elements of a slice. -/
def elemsV (S : Store) : V → Option (List V)
  | .d (.sl xs) => some (xs.map .d)
  | .ts xs => some (xs.map .d)
  | .rs id off len => match S[id]? with
    | some (.row xs _) => if off + len ≤ xs.length then some ((xs.drop off).take len) else none
    | some (.fz xs _) => if off + len ≤ xs.length then some (((xs.drop off).take len).map .d) else none
    | _ => none
  | .cs id ix off len => match S[id]? with
    | some (.row xs _) => match xs[ix]? with
      | some x => if x.isAgg && off + len ≤ x.cells.length then some ((x.cells.drop off).take len) else none
      | none => none
    | some (.fz xs _) => match xs[ix]? with
      | some x => if x.isAgg && off + len ≤ x.cells.length then some (((x.cells.drop off).take len).map .d) else none
      | none => none
    | _ => none
  | .d (.str s) => some (s.map fun b => .d (.int .u8 b.toNat))
  | _ => none
/-- A key among a map's entries. -/
def findD {α : Type} (P : Program) (t : TypeId) (k : V) : List (D × α) → Nat → Option (Option (Nat × α))
  | [], _ => some none
  | e :: r, i => match eqV P t k (.d e.1) with
    | some true => some (some (i, e.2))
    | some false => findD P t k r (i + 1)
    | none => none
end Go.Vm
