/- The value machine: a deterministic evaluator of the loaded code over tree data and a store of owned memory. Definitions alone. -/
import Derived.Calls
import Derived.Laws.Entries
import GoSem.ClaimData
set_option linter.unusedVariables false
set_option linter.unusedSimpArgs false
section
namespace Go.Vm
inductive D where
 | bool (b:Bool)
 | int (k:IntKind) (n:Int)
 | flt (k:FloatKind) (bits:Nat)
 | str (s:List UInt8)
 | sl (xs:List D)
 | agg (xs:List D)
 | map (es:List (D × D))
 | iface (t:TypeId) (x:D)
 | ptr (x:D)
 | fn (f:Fn) (first caps:List D)
 | nili
 | nilp
 | nilf
 | nilm
 deriving Inhabited
inductive V where
 | d (x:D)
 | ts (xs:List D)
 | rs (id off len:Nat)
 | cs (id ix off len:Nat)
 | ref (id ix off:Nat)
 | mr (id:Nat)
 | it (id:Nat)
 | agg (xs:List V)
 | iface (t:TypeId) (v:V)
 | fn (f:Fn) (first caps:List V)
 | tup (xs:List V)
 | junk
 deriving Inhabited
inductive Ob where
 | row (xs:List V) (e:TypeId)
 | mp (es:List (D × V × Nat)) (clock:Nat)
 | iter (s:List UInt8) (pos:Nat)
 | mit (mid since:Nat) (seen:List Nat) (last:Nat)
 | fz (xs:List D) (e:TypeId)
 | fm (es:List (D × D))
 | dead
 | hole
 deriving Inhabited
abbrev zA:=List Ob
def D.isAgg:D→Bool | .agg _=>true | _=>false
def D.cells:D→List D | .agg xs=>xs | .bool b=>[.bool b] | .int k n=>[.int k n] | .flt k b=>[.flt k b] | .str s=>[.str s] | .sl xs=>[.sl xs] | .map es=>[.map es] | .iface t x=>[.iface t x] | .ptr x=>[.ptr x] | .fn f a b=>[.fn f a b] | .nili=>[.nili] | .nilp=>[.nilp] | .nilf=>[.nilf] | .nilm=>[.nilm]
def V.isAgg:V→Bool | .d x=>x.isAgg | .agg _=>true | _=>false
def V.cells:V→List V | .d x=>x.cells.map .d | .agg xs=>xs | .tup xs=>[.tup xs] | .ts xs=>[.ts xs] | .rs i o l=>[.rs i o l] | .cs i x o l=>[.cs i x o l] | .ref i x o=>[.ref i x o] | .mr i=>[.mr i] | .it i=>[.it i] | .iface t v=>[.iface t v] | .fn f a b=>[.fn f a b] | .junk=>[.junk]
def V.one:V→Bool | .tup _=>false | .junk=>false | _=>true
def allO {α β:Type} (f:α→Option β):List α→Option (List β)
 | []=>some []
 | x::r=>match f x with
  | none=>none
  | some y=>match allO f r with
   | none=>none
   | some ys=>some (y::ys)
def zkv (s:ByteArray):List UInt8:=s.data.toList
def z6s:Value→Option V
 | .bool b=>some (.d (.bool b))
 | .int k n=>some (.d (.int k n))
 | .float k b=>some (.d (.flt k b))
 | .string s=>some (.d (.str (zkv s)))
 | .pointer none=>some (.d .nilp)
 | .slice none 0 0=>some (.ts [])
 | .map none=>some (.d .nilm)
 | .nilFunc=>some (.d .nilf)
 | .nilIface=>some (.d .nili)
 | _=>none
def zhd:Value→Option V
 | .agg cs=>(allO z6s cs.toList).map .agg
 | .func f a b=>if a.size=0 && b.size=0 then some (.fn f [] []) else none
 | v=>z6s v
def zC (T:List V):Operand→V
 | .tmp t=>T.getD t .junk
 | .const v=>(zhd v).getD .junk
 | .global _=>.junk
 | .func f=>.fn (.func f) [] []
def z49:V→Option D
 | .d x=>if x.isAgg then none else some x
 | .ts xs=>some (.sl xs)
 | .iface t (.d x)=>some (.iface t x)
 | _=>none
def asD:V→Option D
 | .d x=>some x
 | .agg xs=>(allO z49 xs).map .agg
 | v=>z49 v
def frz (S:zA):Nat→V→Option D
 | 0,_=>none
 | n + 1,v=>match v with
  | .d x=>some x
  | .ts xs=>some (.sl xs)
  | .agg xs=>match allO (frz S n) xs with
   | some ds=>if ds.any D.isAgg then none else some (.agg ds)
   | none=>none
  | .iface t v=>(frz S n v).map (.iface t)
  | .rs id off len=>match S[id]? with
   | some (.row xs e)=>if off + len ≤ xs.length && (allO (frz S n) xs).isSome then (allO (frz S n) ((xs.drop off).take len)).map .sl else none
   | some (.fz xs e)=>if off + len ≤ xs.length then some (.sl ((xs.drop off).take len)) else none
   | _=>none
  | .cs id ix off len=>match S[id]? with
   | some (.row xs e)=>match xs[ix]? with
    | some x=>if x.isAgg && off + len ≤ x.cells.length && (allO (frz S n) xs).isSome then (allO z49 ((x.cells.drop off).take len)).map .sl else none
    | none=>none
   | some (.fz xs e)=>match xs[ix]? with
    | some x=>if x.isAgg && off + len ≤ x.cells.length then some (.sl ((x.cells.drop off).take len)) else none
    | none=>none
   | _=>none
  | .ref id ix 0=>match S[id]? with
   | some (.row xs e)=>match xs[ix]? with
    | some x=>if (allO (frz S n) xs).isSome then (frz S n x).map .ptr else none
    | none=>none
   | some (.fz xs e)=>(xs[ix]?).map .ptr
   | _=>none
  | .fn f first caps=>match allO (frz S n) first,allO (frz S n) caps with
   | some a,some b=>some (.fn f a b)
   | _,_=>none
  | .mr id=>match S[id]? with
   | some (.mp es _)=>(allO (fun (e:D × V × Nat)=>(frz S n e.2.1).map fun x=>(e.1,x)) es).map .map
   | some (.fm es)=>some (.map es)
   | _=>none
  | _=>none
def frzIds (S:zA):Nat→V→List Nat
 | 0,_=>[]
 | n + 1,v=>match v with
  | .agg xs=>xs.flatMap (frzIds S n)
  | .iface t v=>frzIds S n v
  | .rs id off len=>match S[id]? with
   | some (.row xs e)=>id::xs.flatMap (frzIds S n)
   | _=>[]
  | .cs id ix off len=>match S[id]? with
   | some (.row xs e)=>id::xs.flatMap (frzIds S n)
   | _=>[]
  | .ref id ix off=>match S[id]? with
   | some (.row xs e)=>id::xs.flatMap (frzIds S n)
   | _=>[]
  | .fn f first caps=>first.flatMap (frzIds S n) ++ caps.flatMap (frzIds S n)
  | .mr id=>match S[id]? with
   | some (.mp es _)=>id::es.flatMap fun e=>frzIds S n e.2.1
   | _=>[]
  | _=>[]
def zG:Nat:=12
def z3e (S:zA):Ob→Option Ob
 | .row xs e=>(allO (frz S zG) xs).map fun ds=>.fz ds e
 | .mp es _=>(allO (fun (e:D × V × Nat)=>(frz S zG e.2.1).map fun x=>(e.1,x)) es).map .fm
 | .iter _ _=>none
 | .mit .. => none
 | o=>some o
def z9d (S:zA):Ob→List Nat
 | .row xs e=>xs.flatMap (frzIds S zG)
 | .mp es _=>es.flatMap fun e=>frzIds S zG e.2.1
 | _=>[]
def mark (S0:zA) (all:List Nat):zA→List Nat→Option zA
 | S,[]=>some S
 | S,id::r=>match S0[id]? with
  | some o=>match z3e S0 o with
   | some o'=>if (z9d S0 o).all all.contains then mark S0 all (S.set id o') r else none
   | none=>none
  | none=>none
def D.plain:D→Bool
 | .sl _=>false
 | .map _=>false
 | .ptr _=>false
 | .fn _ _ _=>false
 | .iface _ x=>match x with | .int .. | .bool _ | .str _=>true | _=>false
 | .agg xs=>xs.all fun | .sl _ | .map _ | .iface .. | .agg _ | .ptr _ | .fn .. => false | _=>true
 | _=>true
section
variable (P:Program)
def sz (t:TypeId):Option Nat:=match P.underlying t with | none=>none | some _=>(P.info? t).map (·.size)
def bytesOf (t:TypeId):Nat:=((P.info? t).map (·.bytes)).getD 0
def zeroV (t:TypeId):Option V:=((P.info? t).bind (·.zero)).bind zhd
def aggT (t:TypeId):Bool:=match P.underlying t with | some (.struct _) | some (.array _ _)=>true | _=>false
def qA (t:TypeId) (v:V):Bool:=v.one && (v.isAgg == aggT P t) && (sz P t == some v.cells.length)
def z14 (t:TypeId) (x:D):Bool:=(x.isAgg == aggT P t) && (sz P t == some x.cells.length)
def z7j (t:TypeId) (cs:List V) (off:Nat):Option V :=
 match sz P t with
 | none=>none
 | some n =>
  if off + n ≤ cs.length then
   if aggT P t then some (.agg ((cs.drop off).take n)) else if n=1 then cs[off]? else none
  else none
def z65 (t:TypeId) (cs:List D) (off:Nat):Option D :=
 match sz P t with
 | none=>none
 | some n =>
  if off + n ≤ cs.length then
   if aggT P t then some (.agg ((cs.drop off).take n)) else if n=1 then cs[off]? else none
  else none
def kN (S:zA) (t:TypeId):V→Option V
 | .ref id ix off=>match S[id]? with
  | some (.row xs e)=>match xs[ix]? with
   | some x=>if off=0 && qA P t x then some x else z7j P t x.cells off
   | none=>none
  | some (.fz xs e)=>match xs[ix]? with
   | some x=>if off=0 && z14 P t x then some (.d x) else (z65 P t x.cells off).map .d
   | none=>none
  | _=>none
 | .d (.ptr x)=>if z14 P t x then some (.d x) else none
 | _=>none
def z0e (S:zA) (t:TypeId) (a v:V):Option zA :=
 match a with
 | .ref id ix off=>match S[id]? with
  | some (.row xs e)=>match xs[ix]? with
   | some x =>
    if qA P t v then
     if off=0 && (x.cells.length == v.cells.length) && (x.isAgg == v.isAgg) then some (S.set id (.row (xs.set ix v) e))
     else if off + v.cells.length ≤ x.cells.length && x.isAgg then
      some (S.set id (.row (xs.set ix (.agg (x.cells.take off ++ v.cells ++ x.cells.drop (off + v.cells.length)))) e))
     else none
    else none
   | none=>none
  | _=>none
 | _=>none
def zX (s:TypeId) (f:Nat):V→Option V
 | .ref id ix off=>match P.underlying s with
  | some (.struct fs)=>match fs[f]? with
   | some fd=>match sz P fd.type with
    | some (n + 1)=>some (.ref id ix (off + fd.offset))
    | _=>none
   | none=>none
  | _=>none
 | .d (.ptr x)=>match P.underlying s with
  | some (.struct fs)=>match fs[f]? with
   | some fd=>match sz P fd.type with
    | some (n + 1)=>if x.isAgg then (z65 P fd.type x.cells fd.offset).map fun y=>.d (.ptr y) else none
    | _=>none
   | none=>none
  | _=>none
 | _=>none
def z8m (s:TypeId) (f:Nat) (v:V):Option V :=
 if v.isAgg then match P.underlying s with
  | some (.struct fs)=>match fs[f]? with
   | some fd=>match v with
    | .d x=>(z65 P fd.type x.cells fd.offset).map .d
    | v=>z7j P fd.type v.cells fd.offset
   | none=>none
  | _=>none
 else none
def intOf? : V→Option Int
 | .d (.int _ n)=>some n
 | _=>none
def rowB (S:zA) (id:Nat):Bool:=match S[id]? with | some (.row _ _)=>true | some (.fz _ _)=>true | _=>false
def rowT (S:zA) (id:Nat) (e:TypeId):Bool:=match S[id]? with | some (.row _ e')=>e' == e | some (.fz _ e')=>e' == e | _=>false
def zM (S:zA) (t:TypeId) (x ix:V):Option V :=
 match intOf? ix with
 | none=>none
 | some i=>match P.underlying t with
  | some (.slice e)=>match x with
   | .rs id off len=>if (0 ≤ i∧i < len)∧rowT S id e=true∧(sz P e).isSome=true then some (.ref id (off + i.toNat) 0) else none
   | .cs id jx off len=>if (0 ≤ i∧i < len)∧rowB S id=true∧sz P e=some 1 then some (.ref id jx (off + i.toNat)) else none
   | .d (.sl xs)=>if 0 ≤ i∧i < xs.length then match xs[i.toNat]? with | some y=>if z14 P e y then some (.d (.ptr y)) else none | none=>none else none
   | .ts xs=>if 0 ≤ i∧i < xs.length then match xs[i.toNat]? with | some y=>if z14 P e y then some (.d (.ptr y)) else none | none=>none else none
   | _=>none
  | some (.array n e)=>match sz P e with
   | some k=>if 0 ≤ i∧i < n then match x with
     | .ref id jx off=>some (.ref id jx (off + i.toNat * k))
     | .d (.ptr x)=>if x.isAgg then (z65 P e x.cells (i.toNat * k)).map fun y=>.d (.ptr y) else none
     | _=>none
    else none
   | none=>none
  | _=>none
def z4z (t:TypeId) (x ix:V):Option V :=
 match intOf? ix with
 | none=>none
 | some i=>match P.underlying t with
  | some .string=>match x with
   | .d (.str s)=>if 0 ≤ i then match s[i.toNat]? with | some b=>some (.d (.int .u8 b.toNat)) | none=>none else none
   | _=>none
  | some (.array n e)=>match sz P e with
   | some k=>if 0 ≤ i∧i < n then match x with
     | .d x=>if x.isAgg then (z65 P e x.cells (i.toNat * k)).map .d else none
     | .agg xs=>z7j P e xs (i.toNat * k)
     | _=>none
    else none
   | none=>none
  | _=>none
def zhm (place:Nat→Option (Nat × Nat)):List V→List (Nat × V)→Option (List V)
 | cs,[]=>some cs
 | cs,(i,v)::r=>match place i with
  | none=>none
  | some (off,n)=>if v.one && v.cells.length=n && off + n ≤ cs.length then zhm place (cs.take off ++ v.cells ++ cs.drop (off + n)) r else none
def wX (t:TypeId) (parts:List (Nat × V)):Option V :=
 match zeroV P t with
 | none=>none
 | some z=>if z.isAgg then match P.underlying t with
  | some (.struct fs)=>if fs.toList.all fun f=>(sz P f.type).isSome then (zhm (fun i=>(fs[i]?).map fun f=>(f.offset,(sz P f.type).getD 0)) z.cells parts).map .agg else none
  | some (.array _ e)=>match sz P e with
   | some n=>(zhm (fun i=>some (i * n,n)) z.cells parts).map .agg
   | none=>none
  | _=>none
  else none
def litV (z:V) (n:Nat) (parts:List (Nat × V)):List V:=parts.foldl (fun xs p=>xs.set p.1 p.2) (List.replicate n z)
end
def qO (op:BinOp) (k:IntKind) (a:Int) (k':IntKind) (b:Int):Option D :=
 match op with
 | .shl=>if b < 0 then none else some (.int k (k.wrap (a * 2 ^ (min b.toNat k.bits))))
 | .shr=>if b < 0 then none else some (.int k (a.fdiv (2 ^ (min b.toNat k.bits))))
 | _=>if k=k' then match op with
  | .add=>some (.int k (k.wrap (a + b)))
  | .sub=>some (.int k (k.wrap (a - b)))
  | .mul=>some (.int k (k.wrap (a * b)))
  | .quo=>if b=0 then none else some (.int k (k.wrap (a.tdiv b)))
  | .rem=>if b=0 then none else some (.int k (a.tmod b))
  | .and=>some (.int k (k.wrap (BitVec.ofInt k.bits a &&& BitVec.ofInt k.bits b).toNat))
  | .or=>some (.int k (k.wrap (BitVec.ofInt k.bits a ||| BitVec.ofInt k.bits b).toNat))
  | .xor=>some (.int k (k.wrap (BitVec.ofInt k.bits a ^^^ BitVec.ofInt k.bits b).toNat))
  | .andNot=>some (.int k (k.wrap (BitVec.ofInt k.bits a &&& ~~~ BitVec.ofInt k.bits b).toNat))
  | .eql=>some (.bool (a == b))
  | .neq=>some (.bool (a != b))
  | .lss=>some (.bool (decide (a < b)))
  | .leq=>some (.bool (decide (a ≤ b)))
  | .gtr=>some (.bool (decide (a > b)))
  | .geq=>some (.bool (decide (a ≥ b)))
  | _=>none
  else none
def z59 (op:BinOp) (a b:List UInt8):Option D :=
 match op with
 | .add=>if a.length + b.length ≤ 9223372036854775807 then some (.str (a ++ b)) else none
 | .eql=>some (.bool (a == b))
 | .neq=>some (.bool (!(a == b)))
 | .lss=>some (.bool (Op.bytesLess a b))
 | .leq=>some (.bool (Op.bytesLess a b || a == b))
 | .gtr=>some (.bool (!(Op.bytesLess a b || a == b)))
 | .geq=>some (.bool (!Op.bytesLess a b))
 | _=>none
def z0s (P:Program) (t:TypeId) (x y:D):Option Bool :=
 match P.underlying t,x,y with
 | some .bool,.bool a,.bool b=>some (a == b)
 | some (.int _),.int k a,.int k' b=>if k=k' then some (a == b) else none
 | some .string,.str a,.str b=>some (a == b)
 | _,_,_=>none
def zgr (P:Program) (t:TypeId):Bool:=match P.underlying t with | some .bool | some (.int _) | some .string=>true | _=>false
def eqFs (P:Program) (g:TypeId→D→D→Option Bool):List Field→List D→List D→Option Bool
 | [],_,_=>some true
 | f::fs,xs,ys =>
  if f.name ≠ "_" then
   match z65 P f.type xs f.offset,z65 P f.type ys f.offset with
   | some x,some y=>match g f.type x y with
    | some true=>eqFs P g fs xs ys
    | some false=>some false
    | none=>none
   | _,_=>none
  else none
def eqLs (P:Program) (e:TypeId):Nat→List D→List D→Option Bool
 | 0,_,_=>some true
 | n + 1,x::xs,y::ys=>match z0s P e x y with
  | some true=>eqLs P e n xs ys
  | some false=>some false
  | none=>none
 | _,_,_=>none
def eqD (P:Program):Nat→TypeId→D→D→Option Bool
 | 0,_,_,_=>none
 | n + 1,t,x,y=>match x,y with
  | .agg xs,.agg ys=>match P.underlying t with
   | some (.struct fs)=>if P.stoodInHeld t then none else eqFs P (eqD P n) fs.toList xs ys
   | some (.array m e)=>if sz P e == some 1 && n ≠ 0 then eqLs P e m xs ys else none
   | _=>none
  | x,y=>z0s P t x y
def ptrT (P:Program) (t:TypeId):Bool:=match P.underlying t with | some (.pointer _)=>true | _=>false
def zqx:V→V→Option Bool
 | .ref .., .d .nilp=>some false
 | .d .nilp,.ref .. => some false
 | .d (.ptr _),.d .nilp=>some false
 | .d .nilp,.d (.ptr _)=>some false
 | .d .nilp,.d .nilp=>some true
 | _,_=>none
def mapT (P:Program) (t:TypeId):Bool:=match P.underlying t with | some (.map _ _)=>true | _=>false
def fnT (P:Program) (t:TypeId):Bool:=match P.underlying t with | some (.func _ _ _)=>true | _=>false
def zt6:V→V→Option Bool
 | .mr _,.d .nilm=>some false
 | .d .nilm,.mr _=>some false
 | .d .nilm,.d .nilm=>some true
 | .d (.map (_::_)),.d .nilm=>some false
 | .d .nilm,.d (.map (_::_))=>some false
 | _,_=>none
def eqFn:V→V→Option Bool
 | .fn _ _ _,.d .nilf=>some false
 | .d (.fn _ _ _),.d .nilf=>some false
 | .d .nilf,.fn _ _ _=>some false
 | .d .nilf,.d (.fn _ _ _)=>some false
 | .d .nilf,.d .nilf=>some true
 | _,_=>none
def eqV (P:Program) (t:TypeId) (x y:V):Option Bool :=
 if ptrT P t then zqx x y else if mapT P t then zt6 x y else if fnT P t then eqFn x y else
 match asD x,asD y with
 | some (.agg xs),some (.agg ys)=>if P.eqGuardType P.depth t then none else eqD P 8 t (.agg xs) (.agg ys)
 | some x,some y=>z0s P t x y
 | _,_=>none
def binV (P:Program) (op:BinOp) (t:TypeId) (x y:V):Option V :=
 match x,y with
 | .d (.int k a),.d (.int k' b)=>(qO op k a k' b).map .d
 | .d (.str a),.d (.str b)=>(z59 op a b).map .d
 | x,y=>match op with
  | .eql=>(eqV P t x y).map fun b=>.d (.bool b)
  | .neq=>(eqV P t x y).map fun b=>.d (.bool (!b))
  | _=>none
def unV:UnOp→V→Option V
 | .not,.d (.bool b)=>some (.d (.bool (!b)))
 | .neg,.d (.int k n)=>some (.d (.int k (k.wrap (0 - n))))
 | _,_=>none
def jV (S:zA):V→Option (List V)
 | .d (.sl xs)=>some (xs.map .d)
 | .ts xs=>some (xs.map .d)
 | .rs id off len=>match S[id]? with
  | some (.row xs _)=>if off + len ≤ xs.length then some ((xs.drop off).take len) else none
  | some (.fz xs _)=>if off + len ≤ xs.length then some (((xs.drop off).take len).map .d) else none
  | _=>none
 | .cs id ix off len=>match S[id]? with
  | some (.row xs _)=>match xs[ix]? with
   | some x=>if x.isAgg && off + len ≤ x.cells.length then some ((x.cells.drop off).take len) else none
   | none=>none
  | some (.fz xs _)=>match xs[ix]? with
   | some x=>if x.isAgg && off + len ≤ x.cells.length then some (((x.cells.drop off).take len).map .d) else none
   | none=>none
  | _=>none
 | .d (.str s)=>some (s.map fun b=>.d (.int .u8 b.toNat))
 | _=>none
def findD {α:Type} (P:Program) (t:TypeId) (k:V):List (D × α)→Nat→Option (Option (Nat × α))
 | [],_=>some none
 | e::r,i=>match eqV P t k (.d e.1) with
  | some true=>some (some (i,e.2))
  | some false=>findD P t k r (i + 1)
  | none=>none
inductive Out where
 | ret (v:V)
 | pan (v:V)
 deriving Inhabited
inductive Ex where
 | norm
 | exit (n:Nat)
 | ret
 | pan (v:V)
 deriving Inhabited
inductive Rs where
 | val (v:V) (S:zA) (c:Nat)
 | skip (S:zA) (c:Nat)
 | enter (f:FuncId) (args:List V)
 | dfr (f:FuncId) (args:List V)
 | pan (v:V)
 deriving Inhabited
structure Body where
 code:Code
 ntmps:Nat
 results:Array ResultVar
def zB (P:Program) (f:FuncId):Option Body :=
 match P.funcs[f]? with
 | none=>none
 | some fn => if fn.name == "runtime.NumGoroutine" then none else match fn.body with
  | none=>none
  | some c=>some ⟨c,fn.ntmps,fn.results⟩
section
variable (P:Program)
def room (e:TypeId) (n:Nat):Bool:=n * bytesOf P e ≤ 140737488355328 && n ≤ 9223372036854775807
def zm8 (e:TypeId) (x:V):Option (List V) :=
 match x with
 | .d (.int .i64 n)=>if 1 ≤ n∧n ≤ 1000000 then match zeroV P e with
   | some z=>if qA P e z && (sz P e).isSome && sz P e != some 0 then some (List.replicate n.toNat z) else none
   | none=>none
  else none
 | _=>none
def intT (tx:TypeId):Bool:=match P.underlying tx with | some (.int _)=>true | _=>false
def srcV (S:zA) (e tx:TypeId) (x:V):Option (List V) :=
 match x with
 | .d (.str s)=>match P.underlying tx with
  | some .string=>if sz P e=some 1 then some (s.map fun b=>.d (.int .u8 b.toNat)) else none
  | _=>none
 | x=>match P.underlying tx with
  | some (.slice _)=>match jV S x with
   | some ys=>if ys.all (qA P e) && (sz P e).isSome then some ys else none
   | none=>none
  | some (.int .i64)=>zm8 P e x
  | _=>none
def zOk (e:TypeId):Bool:=match zeroV P e with | some z=>qA P e z | none=>false
def qJ (S:zA) (t tx:TypeId) (s x:V):Option (V × zA × Nat) :=
 match P.underlying t with
 | some (.slice e)=>match srcV P S e tx x with
  | none=>none
  | some []=>match s with
   | .ts xs=>some (.ts xs,S,1)
   | .rs id off len=>some (.rs id off len,S,1)
   | .d (.sl xs)=>some (.d (.sl xs),S,1)
   | _=>none
  | some (y::r)=>if zOk P e then match s with
   | .ts xs=>if xs.all (z14 P e) && room P e (xs.length + (r.length + 1)) then some (.rs S.length 0 (xs.length + (r.length + 1)),S ++ [.row (xs.map .d ++ y::r) e],2) else none
   | .rs id off len=>match S[id]? with
    | some (.row xs e')=>if off=0 && e'=e && len ≤ xs.length && room P e (len + (r.length + 1)) then some (.rs S.length 0 (len + (r.length + 1)),S.set id .dead ++ [.row (xs.take len ++ y::r) e],3) else none
    | _=>none
   | _=>none
   else none
 | _=>none
def copyV (S:zA) (t tx:TypeId) (d x:V):Option (V × zA) :=
 match P.underlying t with
 | some (.slice e)=>if intT P tx then none else match srcV P S e tx x with
  | none=>none
  | some ys=>match d with
   | .rs id off len=>match S[id]? with
    | some (.row xs e')=>if e'=e && off + len ≤ xs.length then
      some (.d (.int .i64 (min ys.length len:Nat)),S.set id (.row (xs.take off ++ ys.take (min ys.length len) ++ xs.drop (off + min ys.length len)) e))
     else none
    | _=>none
   | _=>none
 | _=>none
def kF (y:Nat):Option V→Nat→Option Nat
 | none,dflt=>some dflt
 | some v,_=>match intOf? v with
  | some i=>if 0 ≤ i∧i ≤ y then some i.toNat else none
  | none=>none
def wM (S:zA) (n:Nat) (e:TypeId) (x:V) (lo hi:Option V):Option V :=
 if sz P e == some 1 && !aggT P e then match kF n hi n with
  | some h=>match kF h lo 0 with
   | some l=>match x with
    | .ref id ix off=>match S[id]? with
     | some (.row xs e')=>match sz P e' with
      | some k=>if off + n ≤ k then some (.cs id ix (off + l) (h - l)) else none
      | none=>none
     | _=>none
    | .d (.ptr x)=>if x.isAgg && x.cells.length=n then some (.d (.sl ((x.cells.take h).drop l))) else none
    | _=>none
   | none=>none
  | none=>none
 else none
def vF (S:zA) (t:TypeId) (x:V) (lo hi:Option V):Option V :=
 match P.underlying t with
 | some .string=>match x with
  | .d (.str s)=>match kF s.length hi s.length with
   | some h=>match kF h lo 0 with
    | some l=>some (.d (.str ((s.take h).drop l)))
    | none=>none
   | none=>none
  | _=>none
 | some (.slice e)=>match x with
  | .d (.sl xs)=>match kF xs.length hi xs.length with
   | some h=>match kF h lo 0 with
    | some l=>if xs.all (z14 P e) && (sz P e).isSome then some (.d (.sl ((xs.take h).drop l))) else none
    | none=>none
   | none=>none
  | .ts xs=>match kF xs.length hi xs.length with
   | some h=>match kF h lo 0 with
    | some l=>if xs.all (z14 P e) && (sz P e).isSome then some (if h=xs.length then .ts (xs.drop l) else .d (.sl ((xs.take h).drop l))) else none
    | none=>none
   | none=>none
  | .rs id off len=>match kF len hi len with
   | some h=>match kF h lo 0 with
    | some l=>if rowT S id e && (sz P e).isSome then some (.rs id (off + l) (h - l)) else none
    | none=>none
   | none=>none
  | _=>none
 | some (.pointer arr)=>match P.underlying arr with
  | some (.array n e)=>wM P S n e x lo hi
  | _=>none
 | some (.array n e)=>wM P S n e x lo hi
 | _=>none
def jL (S:zA) (t:TypeId) (l c:V):Option (V × zA) :=
 match P.underlying t with
 | some (.slice e)=>match l,c,zeroV P e with
  | .d (.int .i64 l),.d (.int .i64 c),some z=>if 0 ≤ l∧l ≤ c∧c ≤ 9223372036854775807 then if room P e c.toNat && qA P e z then
    some (.rs S.length 0 l.toNat,S ++ [.row (List.replicate c.toNat z) e]) else none else none
  | _,_,_=>none
 | _=>none
def z6n:List V→Option (List UInt8)
 | []=>some []
 | .d (.int .u8 n)::r=>match z6n r with | some s=>some (UInt8.ofNat n.toNat::s) | none=>none
 | _::_=>none
def qF (S:zA) (src dst:TypeId) (x:V):Option (V × Nat) :=
 match P.underlying src,P.underlying dst,x with
 | some _,some (.int k),.d (.int _ n)=>some (.d (.int k (k.wrap n)),0)
 | some _,some .string,.d (.str s)=>some (.d (.str s),0)
 | some _,some (.slice e),.d (.str s)=>match P.underlying e with
  | some (.int .u8)=>if s.length < 9223372036854775807 then some (.d (.sl (s.map fun b=>.int .u8 b.toNat)),0) else none
  | _=>none
 | some (.slice e),some .string,x=>match P.underlying e with
  | some (.int .u8)=>match x with
   | .d (.str _)=>none
   | x=>match jV S x with
    | some ys=>(z6n ys).map fun s=>(.d (.str s),1)
    | none=>none
  | _=>none
 | _,_,_=>none
def kH (S:zA):V→Option (List (D × V))
 | .d (.map es)=>some (es.map fun e=>(e.1,.d e.2))
 | .d .nilm=>some []
 | .mr id=>match S[id]? with
  | some (.mp es _)=>some (es.map fun e=>(e.1,e.2.1))
  | some (.fm es)=>some (es.map fun e=>(e.1,.d e.2))
  | _=>none
 | _=>none
def z94 (kt:TypeId) (k:V):Bool :=
 match P.underlying kt,asD k with
 | some (.struct fs),some (.agg xs)=>fs.toList.all fun f=>zgr P f.type && f.offset < xs.length
 | _,some k=>zgr P kt && !k.isAgg
 | _,none=>false
def jE:D→D→Bool
 | .bool a,.bool b=>a == b
 | .int k a,.int k' b=>k == k' && a == b
 | .str a,.str b=>a == b
 | _,_=>false
def wP:List D→List D→Bool
 | [],[]=>true
 | x::xs,y::ys=>jE x y && wP xs ys
 | _,_=>false
def z9a:D→D→Bool
 | .agg xs,.agg ys=>wP xs ys
 | x,y=>jE x y
def wF (S:zA) (t:TypeId) (x k:V) (ok:Bool):Option V :=
 match P.underlying t with
 | some (.map kt et)=>if z94 P kt k then match kH S x,zeroV P et with
  | some es,some z=>match findD P kt k es 0 with
   | some (some (_,v))=>some (if ok then .tup [v,.d (.bool true)] else v)
   | some none=>some (if ok then .tup [z,.d (.bool false)] else z)
   | none=>none
  | _,_=>none
  else none
 | _=>none
def jS (S:zA) (t:TypeId) (x k v:V):Option zA :=
 match P.underlying t with
 | some (.map kt et)=>if z94 P kt k && v.one then match x,asD k with
  | .mr id,some kd=>match S[id]? with
   | some (.mp es clock)=>match findD P kt k es 0 with
    | some (some (i,u))=>match es[i]? with
     | some e=>if z9a e.1 kd then some (S.set id (.mp (es.set i (kd,v,u.2)) clock)) else none
     | none=>none
    | some none=>some (S.set id (.mp (es ++ [(kd,v,clock)]) (clock + 1)))
    | none=>none
   | _=>none
  | _,_=>none
  else none
 | _=>none
def vE (S:zA) (t:TypeId) (x k:V):Option (V × zA) :=
 match P.underlying t with
 | some (.map kt et)=>if z94 P kt k then match x,asD k,zeroV P et with
  | .mr id,some kd,some z=>match S[id]? with
   | some (.mp es clock)=>match findD P kt k es 0 with
    | some (some (i,u))=>match es[i]? with
     | some e=>if z9a e.1 kd then some (.tup [u.1,.d (.int .i64 u.2)],S.set id (.mp (es.set i (kd,u)) clock)) else none
     | none=>none
    | some none=>some (.tup [z,.d (.int .i64 clock)],S.set id (.mp (es ++ [(kd,z,clock)]) (clock + 1)))
    | none=>none
   | _=>none
  | _,_,_=>none
  else none
 | _=>none
def z4k (n:Int):List (D × V × Nat)→Nat→Option Nat
 | [],_=>none
 | e::r,i=>if (e.2.2:Int) == n then some i else z4k n r (i + 1)
def kQ (S:zA) (x st v:V):Option zA :=
 if !v.one then none else
 match x,st with
 | .mr id,.d (.int _ n)=>match S[id]? with
  | some (.mp es clock)=>match z4k n es 0 with
   | some i=>match es[i]? with
    | some e=>some (S.set id (.mp (es.set i (e.1,v,e.2.2)) clock))
    | none=>none
   | none=>none
  | _=>none
 | _,_=>none
def z07 (S:zA) (t:TypeId) (x k:V):Option zA :=
 match P.underlying t with
 | some (.map kt et)=>if z94 P kt k then match x with
  | .mr id=>match S[id]? with
   | some (.mp es clock)=>match findD P kt k es 0 with
    | some (some (i,_))=>some (S.set id (.mp (es.eraseIdx i) clock))
    | some none=>some (S.set id (.mp es clock))
    | none=>none
   | _=>none
  | _=>none
  else none
 | _=>none
def zna:V→V→Option V
 | .d (.int k x),.d (.int k' y)=>if k=k' then some (.d (.int k (if y > x then y else x))) else none
 | _,_=>none
def zpu:V→V→Option V
 | .d (.int k x),.d (.int k' y)=>if k=k' then some (.d (.int k (if y < x then y else x))) else none
 | _,_=>none
def zd7 (f:V→V→Option V):V→List V→Option V
 | x,[]=>some x
 | x,y::r=>match f x y with
  | some z=>zd7 f z r
  | none=>none
def zI (S:zA) (b:Builtin) (ts:List TypeId) (args:List V):Option Rs :=
 match b,ts,args with
 | .len,t::_,[x]=>match P.underlying t with
  | some (.array n _)=>some (.val (.d (.int .i64 n)) S 0)
  | some .string=>match x with
   | .d (.str s)=>some (.val (.d (.int .i64 s.length)) S 0)
   | _=>none
  | some (.slice _)=>match x with
   | .d (.sl xs)=>some (.val (.d (.int .i64 xs.length)) S 0)
   | .ts xs=>some (.val (.d (.int .i64 xs.length)) S 0)
   | .rs _ _ n=>some (.val (.d (.int .i64 n)) S 0)
   | .cs _ _ _ n=>some (.val (.d (.int .i64 n)) S 0)
   | _=>none
  | some (.map _ _)=>match kH S x with
   | some es=>some (.val (.d (.int .i64 es.length)) S 1)
   | none=>none
  | _=>none
 | .append,[t,tx],[s,x]=>(qJ P S t tx s x).map fun r=>.val r.1 r.2.1 r.2.2
 | .copy,[t,tx],[d,x]=>(copyV P S t tx d x).map fun r=>.val r.1 r.2 3
 | .delete,t::_,[m,k]=>(z07 P S t m k).map fun S'=>.val (.tup []) S' 3
 | .max,_,x::r=>(zd7 zna x r).map fun v=>.val v S 0
 | .min,_,x::r=>(zd7 zpu x r).map fun v=>.val v S 0
 | _,_,_=>none
def z1p (S:zA):V→Option Rs
 | .mr id=>match S[id]? with
  | some (.mp _ clock)=>some (.val (.it S.length) (S ++ [.mit id clock [] clock]) 2)
  | _=>none
 | _=>none
def z5b (S:zA):V→Option Rs
 | .it id=>match S[id]? with
  | some (.mit mid since seen last)=>match S[mid]? with
   | some (.mp es clock) =>
    if (!seen.isEmpty && !es.isEmpty && es.all fun e=>decide (e.2.2 ≥ last))=true then none
    else match es.filter fun e => !seen.contains e.2.2 with
     | []=>some (.val (.tup [.d (.bool false)]) S 3)
     | e::r=>if r.isEmpty && decide (e.2.2 < since) then some (.val (.tup [.d (.bool true),.d e.1,e.2.1]) (S.set id (.mit mid since (seen ++ [e.2.2]) clock)) 3) else none
   | _=>none
  | _=>none
 | _=>none
def z1y (S:zA):V→Option Rs
 | .it id=>match S[id]? with
  | some (.mit mid since seen last)=>match S[mid]? with
   | some (.mp es clock)=>if clock=last then match seen.getLast? with
    | some st=>match es.find? fun e=>e.2.2 == st with
     | some e=>some (.val (.tup [.d e.1,e.2.1]) S 3)
     | none=>none
    | none=>none
    else none
   | _=>none
  | _=>none
 | _=>none
def opV (S:zA) (T:List V) (o:Oper):Option Rs :=
 match o.op with
 | .move x=>some (.val (zC T x) S 0)
 | .assign x=>some (.val (zC T x) S 0)
 | .pick c a b=>match zC T c with
  | .d (.bool true)=>some (.val (zC T a) S 0)
  | .d (.bool false)=>some (.val (zC T b) S 0)
  | _=>none
 | .alloc e=>match zeroV P e with
  | some z=>if qA P e z then some (.val (.ref S.length 0 0) (S ++ [.row [z] e]) 2) else none
  | none=>none
 | .box e x=>if qA P e (zC T x) then some (.val (.ref S.length 0 0) (S ++ [.row [zC T x] e]) 2) else none
 | .build t parts=>(wX P t (parts.toList.map fun p=>(p.1,zC T p.2))).map fun v=>.val v S 0
 | .buildSlice t len parts=>match P.underlying t with
  | some (.slice e)=>match zeroV P e,sz P e with
   | some z,some k=>if qA P e z && (parts.toList.all fun p=>p.1 < len && qA P e (zC T p.2)) && len * k ≤ 16777216 && k ≠ 0 then
     match allO asD (litV z len (parts.toList.map fun p=>(p.1,zC T p.2))) with
     | some ds=>some (.val (.ts ds) S 0)
     | none=>some (.val (.rs S.length 0 len) (S ++ [.row (litV z len (parts.toList.map fun p=>(p.1,zC T p.2))) e]) 2)
    else none
   | _,_=>none
  | _=>none
 | .load t a=>(kN P S t (zC T a)).map fun v=>.val v S 1
 | .store t a x=>(z0e P S t (zC T a) (zC T x)).map fun S'=>.skip S' 3
 | .nilCheck x=>match zC T x with
  | .ref i ix off=>some (.val (.ref i ix off) S 0)
  | .d (.ptr x)=>some (.val (.d (.ptr x)) S 0)
  | .fn (.func g) a b=>some (.val (.fn (.func g) a b) S 0)
  | _=>none
 | .binOp op t x y _=>(binV P op t (zC T x) (zC T y)).map fun v=>.val v S 0
 | .unOp op _ x=>(unV op (zC T x)).map fun v=>.val v S 0
 | .convert src dst x=>(qF P S src dst (zC T x)).map fun r=>.val r.1 S r.2
 | .makeInterface t x=>match P.underlying t with
  | some (.interface _)=>none
  | some _=>if (zC T x).one then some (.val (.iface t (zC T x)) S 0) else none
  | none=>none
 | .makeFunc fn first caps=>if (first.toList.map (zC T)).all V.one && (caps.toList.map (zC T)).all V.one then some (.val (.fn fn (first.toList.map (zC T)) (caps.toList.map (zC T))) S 0) else none
 | .makeMap t r=>match r with
  | none=>some (.val (.mr S.length) (S ++ [.mp [] 0]) 2)
  | some _=>none
 | .makeSlice t l c=>(jL P S t (zC T l) (zC T c)).map fun r=>.val r.1 r.2 2
 | .slice t x lo hi none=>(vF P S t (zC T x) (lo.map (zC T)) (hi.map (zC T))).map fun v=>.val v S 1
 | .fieldAddr s x f=>(zX P s f (zC T x)).map fun v=>.val v S 0
 | .indexAddr t x ix=>(zM P S t (zC T x) (zC T ix)).map fun v=>.val v S 1
 | .field s x f=>(z8m P s f (zC T x)).map fun v=>.val v S 0
 | .index t x ix=>(z4z P t (zC T x) (zC T ix)).map fun v=>.val v S 0
 | .lookup t x k ok=>(wF P S t (zC T x) (zC T k) ok).map fun v=>.val v S 1
 | .mapUpdate t m k x=>(jS P S t (zC T m) (zC T k) (zC T x)).map fun S'=>.skip S' 3
 | .mapEntry t m k=>(vE P S t (zC T m) (zC T k)).map fun r=>.val r.1 r.2 3
 | .entryStore t m st x=>(kQ S (zC T m) (zC T st) (zC T x)).map fun S'=>.skip S' 3
 | .range t x=>match P.underlying t with
  | some .string=>match zC T x with
   | .d (.str s)=>some (.val (.it S.length) (S ++ [.iter s 0]) 2)
   | _=>none
  | some (.map _ _)=>z1p S (zC T x)
  | _=>none
 | .next it true=>match zC T it with
  | .it id=>match S[id]? with
   | some (.iter s pos) =>
    if pos < s.length then
     let r:=Utf8.decode ⟨s.toArray⟩ pos
     some (.val (.tup [.d (.bool true),.d (.int .i64 pos),.d (.int .i32 r.1)]) (S.set id (.iter s (pos + r.2))) 3)
    else some (.val (.tup [.d (.bool false)]) S 3)
   | _=>none
  | _=>none
 | .next it false=>z5b S (zC T it)
 | .entry it=>z1y S (zC T it)
 | .extract t ix=>match zC T t with
  | .tup vs=>match vs[ix]? with
   | some v=>some (.val v S 0)
   | none=>none
  | _=>none
 | .call c=>match c.callee with
  | .builtin b=>zI P S b c.argTypes.toList (c.args.toList.map (zC T))
  | .value f=>match zC T f with
   | .fn (.func g) first caps=>if (c.args.toList.map (zC T)).all V.one && (zB P g).isSome then some (.enter g (first ++ c.args.toList.map (zC T) ++ caps)) else none
   | .d (.fn (.func g) first caps)=>if (c.args.toList.map (zC T)).all V.one && (zB P g).isSome then some (.enter g (first.map .d ++ c.args.toList.map (zC T) ++ caps.map .d)) else none
   | _=>none
  | .invoke _ _=>none
 | .defer c=>match c.callee with
  | .value f=>match zC T f with
   | .fn (.func g) first caps=>if (c.args.toList.map (zC T)).all V.one && (zB P g).isSome then some (.dfr g (first ++ c.args.toList.map (zC T) ++ caps)) else none
   | _=>none
  | _=>none
 | .panic x=>match zC T x with
  | .iface t v=>some (.pan (.iface t v))
  | .d (.iface t v)=>some (.pan (.d (.iface t v)))
  | _=>none
 | _=>none
end
structure Cfg where
 P:Program
 mixed:P.follows .mixedOrders=true
 shared:FuncId→Bool
 ext:FuncId→Option (List D→Option Out)
 catch_:FuncId→Option (Out→Option V)
def z8o (S:zA):Out→Option Out
 | .ret (.tup vs)=>(allO (frz S zG) vs).map fun ds=>.ret (.tup (ds.map .d))
 | .ret v=>(frz S zG v).map fun x=>.ret (.d x)
 | .pan v=>(frz S zG v).map fun x=>.pan (.d x)
def z0w:Out→Bool
 | .ret (.d x)=>x.plain
 | .ret (.tup vs)=>vs.all fun | .d x=>x.plain | _=>false
 | .pan (.d x)=>x.plain
 | _=>false
abbrev jX:=FuncId→List V→zA→Option (Out × zA)
def answer (C:Cfg) (call:jX) (f:FuncId) (ds:List D):Option Out :=
 match C.ext f with
 | some g=>g ds
 | none=>match call f (ds.map .d) [] with
  | none=>none
  | some (out,S')=>z8o S' out
def jO (C:Cfg) (call:jX) (f:FuncId) (args:List V) (S:zA):Option (Out × zA × Nat) :=
 if C.shared f then (call f args S).map fun r=>(r.1,r.2,3)
 else match allO (frz S zG) args with
  | none=>none
  | some ds=>match answer C call f ds with
   | none=>none
   | some out =>
    if (args.flatMap (frzIds S zG)).isEmpty then some (out,S,1)
    else if z0w out then some (out,S,1)
    else match mark S (args.flatMap (frzIds S zG)) S (args.flatMap (frzIds S zG)) with
     | some S2=>some (out,S2,3)
     | none=>none
def putT (T:List V):Option Tmp→V→List V
 | some d,v=>T.set d v
 | none,_=>T
def qL (ops:Array Oper) (T:List V) (j:Nat):Option (Option Bool) :=
 match (ops[j]?).bind (·.dst) with
 | none=>some none
 | some d=>match T[d]? with
  | none=>some none
  | some (.d (.bool b))=>some (some b)
  | some (.tup _)=>some none
  | some _=>none
def zW (ops:Array Oper) (T:List V) (o:Oper):Option Bool :=
 match o.guard with
 | none=>some true
 | some (j,want)=>(qL ops T j).map (· == some want)
abbrev Dfs:=List (FuncId × List V)
def wB (P:Program) (T:List V) (o:Oper):List Oper→Option (List V)
 | o2::_=>match o.op,o2.op,o.dst with
  | .buildSlice t len parts,.convert t1 t2 (.tmp d),some d' =>
   if o.guard.isNone∧o2.guard.isNone∧t1=t∧t2=t∧d'=d∧d < T.length then match P.underlying t with
    | some (.slice e)=>match P.underlying e,zeroV P e,sz P e with
     | some (.int .u8),some z,some k=>if qA P e z && (parts.toList.all fun p=>p.1 < len && qA P e (zC T p.2)) && len * k ≤ 16777216 && k ≠ 0 then
       match allO asD (litV z len (parts.toList.map fun p=>(p.1,zC T p.2))) with
       | some ds=>some (putT (T.set d .junk) o2.dst (.ts ds))
       | none=>none
      else none
     | _,_,_=>none
    | _=>none
   else none
  | _,_,_=>none
 | []=>none
def seqV (C:Cfg) (call:jX) (ops:Array Oper):List Oper→List V→zA→Dfs→Option (Ex × List V × zA × Dfs)
 | [],T,S,F=>some (.norm,T,S,F)
 | o::r,T,S,F=>match wB C.P T o r with
  | some T'=>match r with
   | _::r'=>seqV C call ops r' T' S F
   | []=>none
  | none=>match zW ops T o with
   | none=>none
   | some false=>seqV C call ops r (putT T o.dst (.tup [])) S F
   | some true=>match opV C.P S T o with
    | none=>none
    | some (.val v S' _)=>seqV C call ops r (putT T o.dst v) S' F
    | some (.skip S' _)=>seqV C call ops r (putT T o.dst (.tup [])) S' F
    | some (.dfr f args)=>seqV C call ops r (putT T o.dst (.tup [])) S ((f,args)::F)
    | some (.pan v)=>some (.pan v,T,S,F)
    | some (.enter f args)=>match jO C call f args S with
     | none=>none
     | some (.ret v,S',_)=>seqV C call ops r (putT T o.dst v) S' F
     | some (.pan v,S',_)=>some (.pan v,T,S',F)
def addO (P:Program) (T:List V) (o:Oper):Option (Ob × (Nat→V)) :=
 match o.op with
 | .alloc e=>match zeroV P e with
  | some z=>if qA P e z then some (.row [z] e,fun id=>.ref id 0 0) else none
  | none=>none
 | .box e x=>if qA P e (zC T x) then some (.row [zC T x] e,fun id=>.ref id 0 0) else none
 | .makeMap t r=>match r with
  | none=>some (.mp [] 0,.mr)
  | some _=>none
 | .makeSlice t l c=>match P.underlying t with
  | some (.slice e)=>match zC T l,zC T c,zeroV P e with
   | .d (.int .i64 l),.d (.int .i64 c),some z=>if 0 ≤ l∧l ≤ c∧c ≤ 9223372036854775807 then if room P e c.toNat && qA P e z then
     some (.row (List.replicate c.toNat z) e,fun id=>.rs id 0 l.toNat) else none else none
   | _,_,_=>none
  | _=>none
 | .range t x=>match P.underlying t with
  | some .string=>match zC T x with
   | .d (.str s)=>some (.iter s 0,.it)
   | _=>none
  | _=>none
 | _=>none
def jP (o:Oper):Bool:=match o.op with | .alloc _ | .box .. | .makeMap .. | .makeSlice .. | .range .. => true | _=>false
def num2 (c:Nat):Nat:=if c=2 then 3 else c
def effC (C:Cfg) (call:jX) (ops:Array Oper) (id:Nat) (o:Oper) (T:List V) (S:zA):Option (V × zA × Nat) :=
 match zW ops T o with
 | none=>none
 | some false=>some (.tup [],S,0)
 | some true=>if jP o then match addO C.P T o with
   | some (ob,f)=>match S[id]? with
    | some .hole=>some (f id,S.set id ob,2)
    | _=>none
   | none=>none
  else match opV C.P S T o with
   | some (.val v S' c)=>some (v,S',num2 c)
   | some (.skip S' _)=>some (.tup [],S',3)
   | some (.enter f args)=>match jO C call f args S with
    | some (.ret v,S',c)=>some (v,S',num2 c)
    | _=>none
   | _=>none
def all2 (f:D→D→Bool):List D→List D→Bool
 | [],[]=>true
 | x::xs,y::ys=>f x y && all2 f xs ys
 | _,_=>false
def z1j:Nat→D→D→Bool
 | n + 1,.agg xs,.agg ys=>all2 (z1j n) xs ys
 | n + 1,.sl xs,.sl ys=>all2 (z1j n) xs ys
 | n + 1,.ptr x,.ptr y=>z1j n x y
 | _,x,y=>jE x y
def qP:V→V→Bool
 | .d x,.d y=>z1j 6 x y
 | .ref a b c,.ref a' b' c'=>a == a' && b == b' && c == c'
 | .mr a,.mr b=>a == b
 | .ts xs,.ts ys=>wP xs ys
 | .rs a b c,.rs a' b' c'=>a == a' && b == b' && c == c'
 | _,_=>false
def vK:List V→List V→Bool
 | [],[]=>true
 | x::xs,y::ys=>qP x y && vK xs ys
 | _,_=>false
def qR:V→V→Bool
 | .fn (.func f) a b,.fn (.func g) a' b'=>f == g && vK a a' && vK b b'
 | x,y=>qP x y
def kX:List V→List V→Bool
 | [],[]=>true
 | x::xs,y::ys=>qR x y && kX xs ys
 | _,_=>false
def wU:V→V→Bool
 | .agg xs,.agg ys=>kX xs ys
 | x,y=>qR x y
def jN (C:Cfg) (call:jX) (ops:Array Oper) (b:List Nat) (base i:Nat) (S':zA) (w:Nat × List V × V):Bool :=
 (b.getD i 0).testBit w.1 || match ops[w.1]? with
  | some o=>match effC C call ops (base + w.1) o w.2.1 S' with
   | some (v',_,1)=>wU w.2.2 v'
   | _=>false
  | none=>false
def seqC (C:Cfg) (call:jX) (ops:Array Oper) (b:List Nat) (base:Nat):List (Nat × List V × V)→List Nat→List V→zA→Option (List V × zA × List (Nat × Nat))
 | _,[],T,S=>some (T,S,[])
 | ws,i::r,T,S=>match ops[i]? with
  | none=>none
  | some o=>match effC C call ops (base + i) o T S with
   | none=>none
   | some (v,S',c) =>
    if 2 < c∧(ws.all (jN C call ops b base i S'))=false then none
    else match seqC C call ops b base (if c=1 then (i,T,v)::ws else ws) r (putT T o.dst v) S' with
     | none=>none
     | some (T2,S2,cs)=>some (T2,S2,(i,c)::cs)
def zqm (xs:List Operand):List Tmp:=xs.filterMap fun | .tmp t=>some t | _=>none
def zi7 (ops:Array Oper) (o:Oper):List Tmp :=
 zqm o.op.operands.toList ++ match o.guard with | some (j,_)=>((ops[j]?).bind (·.dst)).toList | none=>[]
def kU (ops:Array Oper) (a b:Oper):Bool :=
 (match a.dst with | some d => !(zi7 ops b).contains d && b.dst != some d | none=>true) &&
 (match b.dst with | some d => !(zi7 ops a).contains d | none=>true)
def z1m (a b:Nat):Bool:=a == 0 || b == 0 || a == 1 || b == 2
def z3u (acc:List Nat):List Edge→Nat→Nat
 | [],s=>s
 | e::r,s=>z3u acc r (if Region.binds .any e then s ||| 2 ^ e.on ||| acc.getD e.on 0 else s)
def zar (acc:List Nat):List Oper→List Nat
 | []=>acc
 | o::r=>zar (acc ++ [z3u acc o.after.toList 0]) r
def befs (ops:Array Oper):List Nat:=zar [] ops.toList
def q03 (sh:FuncId→Bool) (o:Oper):Nat :=
 if jP o then 3 else match o.op with
 | .call c=>match c.callee with
  | .value (.func g)=>if sh g then 2 else 1
  | .builtin b=>match b with | .append | .copy | .delete=>2 | _=>0
  | _=>2
 | .store .. | .mapUpdate .. | .mapEntry .. | .entryStore .. | .next .. => 2
 | _=>0
def zlb (sh:FuncId→Bool) (ops:Array Oper):Nat→List Nat→List Nat→List Nat
 | 0,_,done=>done.reverse
 | n + 1,todo,done =>
  let rs:=todo.filter fun i=>match ops[i]? with | some o=>o.after.all fun e => !Region.binds .any e || done.contains e.on | none=>false
  let pick (k:Nat):Option Nat:=rs.find? fun i=>match ops[i]? with | some o=>q03 sh o == k | none=>false
  match (((pick 0).or (pick 1)).or (pick 2)).or (pick 3) with
  | some i=>zlb sh ops n (todo.filter (· != i)) (i::done)
  | none=>done.reverse
def z2h (sh:FuncId→Bool) (ops:Array Oper):List Nat:=zlb sh ops ops.size (List.range ops.size) []
def vH (ops:Array Oper):Nat:=if ops.any jP then ops.size else 0
def z22 (ops:Array Oper) (b:List Nat) (p q:Nat × Nat):Bool :=
 p.1 != q.1 && ((b.getD q.1 0).testBit p.1 || match ops[p.1]?,ops[q.1]? with
  | some x,some y=>kU ops x y && z1m p.2 q.2
  | _,_=>false)
def z06 (ops:Array Oper) (b:List Nat):List (Nat × Nat)→Bool
 | []=>true
 | p::r=>r.all (z22 ops b p) && z06 ops b r
def z40:List Oper→Nat→Bool
 | [],_=>true
 | o::r,i=>(o.after.all fun e => !Region.binds .any e || e.on < i) && z40 r (i + 1)
def z2j (ops:Array Oper) (cs:List (Nat × Nat)):Bool :=
 (ops.toList.all fun o => !(o.op matches .select ..)) && z40 ops.toList 0 && ((List.range ops.size).all fun i=>cs.any fun p=>p.1 == i) && z06 ops (befs ops) cs
def panO (C:Cfg) (call:jX) (ops:Array Oper) (o:Oper) (T:List V) (S:zA):Option (V × zA) :=
 match zW ops T o with
 | some true=>if jP o then none else match opV C.P S T o with
  | some (.enter f args)=>match jO C call f args S with
   | some (.pan v,S',_)=>some (v,S')
   | _=>none
  | _=>none
 | _=>none
def seqP (C:Cfg) (call:jX) (ops:Array Oper) (b:List Nat) (base:Nat):List (Nat × List V × V)→List Nat→List V→zA→Option (V × zA × List (Nat × Nat) × Nat × List Nat)
 | _,[],_,_=>none
 | ws,i::r,T,S=>match ops[i]? with
  | none=>none
  | some o=>match panO C call ops o T S with
   | some (v,S')=>some (v,S',[],i,r)
   | none=>match effC C call ops (base + i) o T S with
    | none=>none
    | some (v,S',c) =>
     if 2 < c∧(ws.all (jN C call ops b base i S'))=false then none
     else match seqP C call ops b base (if c=1 then (i,T,v)::ws else ws) r (putT T o.dst v) S' with
      | none=>none
      | some (v2,S2,cs,p,rest)=>some (v2,S2,(i,c)::cs,p,rest)
def zek (P:Program) (o:Oper):Bool:=o.guard.isNone && match o.op with
 | .alloc e=>match zeroV P e with
  | some z=>qA P e z
  | none=>false
 | _=>false
def zr1 (P:Program) (ops:Array Oper) (cs:List (Nat × Nat)) (p:Nat) (rest:List Nat):Bool :=
 z40 ops.toList 0 && ((List.range ops.size).all fun i=>cs.any (fun q=>q.1 == i) || i == p || rest.contains i) && z06 ops (befs ops) cs &&
 (cs.all fun q=>q.1 != p && q.2 != 2 && ((befs ops).getD p 0).testBit q.1) &&
 (rest.all fun i=>i != p && (cs.all fun q=>q.1 != i) && (((befs ops).getD i 0).testBit p || match ops[i]?,ops[p]? with
  | some x,some y=>zek P x && kU ops x y && cs.all fun q=>match ops[q.1]? with | some z=>kU ops z x | none=>false
  | _,_=>false))
def killAll (base:Nat):List Nat→zA→zA
 | [],S=>S
 | i::r,S=>killAll base r (S.set (base + i) .dead)
def jT (P:Program) (T:List V) (S:zA):ResultVar→Option V
 | .tmp t=>some (T.getD t (.tup []))
 | .cell a t=>kN P S t (T.getD a (.tup []))
def qD (P:Program) (rs:Array ResultVar) (T:List V) (S:zA):Option V :=
 match rs.toList with
 | [r]=>jT P T S r
 | l=>match allO (jT P T S) l with
  | some vs=>if vs.all V.one then some (.tup vs) else none
  | none=>none
def vS (n:Nat) (args:List V):List V:=args ++ List.replicate (n - args.length) (.tup [])
abbrev z4l:=Code→List V→zA→Dfs→Option (Ex × List V × zA × Dfs)
def vV (P:Program) (ex:z4l) (f:FuncId) (args:List V) (S:zA):Option zA :=
 match zB P f with
 | none=>none
 | some b=>match ex b.code (vS b.ntmps args) S [] with
  | some (.norm,T,S',[])=>(qD P b.results T S').map fun _=>S'
  | some (.ret,T,S',[])=>(qD P b.results T S').map fun _=>S'
  | _=>none
def dfrV (P:Program) (ex:z4l):Dfs→zA→Option zA
  | [],S=>some S
  | (f,args)::r,S=>match vV P ex f args S with
    | some S'=>dfrV P ex r S'
    | none=>none
def endV (P:Program) (ex:z4l) (rs:Array ResultVar) (T:List V) (S:zA) (F:Dfs):Option (Out × zA) :=
 match dfrV P ex F S with
 | none=>none
 | some S'=>match qD P rs T S' with
  | none=>none
  | some v=>some (.ret v,S')
mutual
def exec (C:Cfg):Nat→Code→List V→zA→Dfs→Option (Ex × List V × zA × Dfs)
 | 0,_,_,_,_=>none
 | n + 1,c,T,S,F=>match c with
  | .skip=>some (.norm,T,S,F)
  | .label _=>some (.norm,T,S,F)
  | .region _ ops false=>seqV C (run C n) ops ops.toList T S F
  | .region _ ops true=>match seqC C (run C n) ops (befs ops) S.length [] (z2h C.shared ops) T (S ++ List.replicate (vH ops) .hole) with
   | some (T',S',cs)=>if z2j ops cs then some (.norm,T',S',F) else none
   | none=>match seqP C (run C n) ops (befs ops) S.length [] (z2h C.shared ops) T (S ++ List.replicate (vH ops) .hole) with
    | some (v,S',cs,p,rest)=>if zr1 C.P ops cs p rest then some (.pan v,T,killAll S.length rest S',F) else none
    | none=>none
  | .seq a b=>match exec C n a T S F with
   | some (.norm,T',S',F')=>exec C n b T' S' F'
   | r=>r
  | .cond c a b=>match zC T c with
   | .d (.bool true)=>exec C n a T S F
   | .d (.bool false)=>exec C n b T S F
   | _=>none
  | .block id b=>match exec C n b T S F with
   | some (.exit k,T',S',F')=>if k=id then some (.norm,T',S',F') else some (.exit k,T',S',F')
   | r=>r
  | .loop b=>match exec C n b T S F with
   | some (.norm,T',S',F')=>exec C n (.loop b) T' S' F'
   | r=>r
  | .scope b=>exec C n b T S F
  | .exit id=>some (.exit id,T,S,F)
  | .ret=>some (.ret,T,S,F)
  | _=>none
def run (C:Cfg):Nat→FuncId→List V→zA→Option (Out × zA)
 | 0,_,_,_=>none
 | n + 1,f,args,S=>match C.catch_ f with
  | some post=>match args with
   | [.fn (.func g) first caps]=>match run C n g (first ++ caps) S with
    | none=>none
    | some (o,S')=>match post o with
     | none=>none
     | some v=>some (.ret v,S')
   | _=>none
  | none=>match zB C.P f with
   | none=>none
   | some b=>match exec C n b.code (vS b.ntmps args) S [] with
    | some (.norm,T,S',F)=>endV C.P (exec C n) b.results T S' F
    | some (.ret,T,S',F)=>endV C.P (exec C n) b.results T S' F
    | some (.pan v,_,S',[])=>some (.pan v,S')
    | _=>none
end
def runD (C:Cfg) (n:Nat) (f:FuncId) (ds:List D):Option Out:=answer C (run C n) f ds
def z23 (c c':jX):Prop:= ∀ f as S r,c f as S=some r→c' f as S=some r
def zd9 (e e':z4l):Prop:= ∀ c T S F r,e c T S F=some r→e' c T S F=some r
section
variable {C:Cfg} {call call':jX}
theorem zdw (h:z23 call call') {f:FuncId} {ds:List D} {o:Out} (ha:answer C call f ds=some o):answer C call' f ds=some o:=by
 unfold answer at ha ⊢
 split at ha
 ·rename_i g hg; exact ha
 ·rename_i hg
  cases hc:call f (ds.map .d) [] with
  | none=>simp [hc] at ha
  | some r=>simp only [hc] at ha; simp only [h _ _ _ _ hc]; exact ha
theorem z3c (h:z23 call call') {f:FuncId} {args:List V} {S:zA} {r:Out × zA × Nat} (ha:jO C call f args S=some r):jO C call' f args S=some r:=by
 unfold jO at ha ⊢
 split at ha
 ·rename_i hs
  rw [if_pos hs]
  obtain ⟨q,hq,rfl⟩:=Option.map_eq_some_iff.1 ha
  rw [h _ _ _ _ hq]; rfl
 ·rename_i hs
  rw [if_neg hs]
  split at ha
  ·cases ha
  ·rename_i ds hds
   cases hc:answer C call f ds with
   | none=>simp [hc] at ha
   | some o=>simp only [hc] at ha; simp only [zdw h hc]; exact ha
theorem z03 (h:z23 call call') {ops:Array Oper} : ∀ {l:List Oper} {T:List V} {S:zA} {F:Dfs} {r:Ex × List V × zA × Dfs},seqV C call ops l T S F=some r→seqV C call' ops l T S F=some r
 | [],T,S,F,r,ha=>ha
 | o::l,T,S,F,r,ha=>by
  rw [seqV] at ha ⊢
  cases hlp:wB C.P T o l with
  | some T1 =>
   simp only [hlp] at ha ⊢
   cases l with
   | nil=>simp at ha
   | cons o2 l'=>exact z03 h ha
  | none =>
  simp only [hlp] at ha ⊢
  cases hw:zW ops T o with
  | none=>simp [hw] at ha
  | some b =>
   cases b with
   | false=>simp only [hw] at ha ⊢; exact z03 h ha
   | true =>
    simp only [hw] at ha ⊢
    cases ho:opV C.P S T o with
    | none=>simp [ho] at ha
    | some rs =>
     cases rs with
     | val v S' c=>simp only [ho] at ha ⊢; exact z03 h ha
     | skip S' c=>simp only [ho] at ha ⊢; exact z03 h ha
     | dfr f args=>simp only [ho] at ha ⊢; exact z03 h ha
     | pan v=>simp only [ho] at ha ⊢; exact ha
     | enter f args =>
      simp only [ho] at ha ⊢
      cases hc:jO C call f args S with
      | none=>simp [hc] at ha
      | some q =>
       obtain ⟨out,S',c⟩:=q
       simp only [z3c h hc]
       cases out with
       | ret v=>simp only [hc] at ha ⊢; exact z03 h ha
       | pan v=>simp only [hc] at ha ⊢; exact ha
termination_by l=>l.length
theorem vY (h:z23 call call') {ops:Array Oper} {i:Nat} {o:Oper} {T:List V} {S:zA} {r:V × zA × Nat} (ha:effC C call ops i o T S=some r):effC C call' ops i o T S=some r:=by
 unfold effC at ha ⊢
 cases hw:zW ops T o with
 | none=>simp [hw] at ha
 | some b =>
  cases b with
  | false=>simp only [hw] at ha ⊢; exact ha
  | true =>
   simp only [hw] at ha ⊢
   split at ha
   ·rename_i hk; rw [if_pos hk]; exact ha
   ·rename_i hk
    rw [if_neg hk]
    cases ho:opV C.P S T o with
    | none=>simp [ho] at ha
    | some rs =>
     cases rs with
     | enter f args =>
      simp only [ho] at ha ⊢
      cases hc:jO C call f args S with
      | none=>simp [hc] at ha
      | some q=>simp only [hc] at ha; simp only [z3c h hc]; exact ha
     | _=>simp only [ho] at ha ⊢; exact ha
theorem z6h (h:z23 call call') {ops:Array Oper} {b:List Nat} {base i:Nat} {S:zA} {w:Nat × List V × V} (ha:jN C call ops b base i S w=true):jN C call' ops b base i S w=true:=by
 unfold jN at ha ⊢
 rw [Bool.or_eq_true] at ha ⊢
 rcases ha with ha | ha
 ·exact .inl ha
 ·right
  cases ho:ops[w.1]? with
  | none=>simp [ho] at ha
  | some o =>
   simp only [ho] at ha ⊢
   split at ha
   ·rename_i v' S' he
    rw [vY h he]
    exact ha
   ·cases ha
theorem z4s (h:z23 call call') {ops:Array Oper} {b:List Nat} {base:Nat} : ∀ {l:List Nat} {ws:List (Nat × List V × V)} {T:List V} {S:zA} {r:List V × zA × List (Nat × Nat)},seqC C call ops b base ws l T S=some r→seqC C call' ops b base ws l T S=some r
 | [],ws,T,S,r,ha=>ha
 | i::l,ws,T,S,r,ha=>by
  simp only [seqC] at ha ⊢
  cases ho:ops[i]? with
  | none=>simp [ho] at ha
  | some o =>
   simp only [ho] at ha ⊢
   cases he:effC C call ops (base + i) o T S with
   | none=>simp [he] at ha
   | some q =>
    obtain ⟨v,S',c⟩:=q
    simp only [he] at ha
    simp only [vY h he]
    split at ha
    ·cases ha
    ·rename_i hc
     have hc' : ¬ (2 < c∧(ws.all (jN C call' ops b base i S'))=false):=by
      rintro ⟨hc3,hw⟩
      apply hc
      refine ⟨hc3,?_⟩
      rw [← Bool.not_eq_true] at hw ⊢
      intro hall
      apply hw
      rw [List.all_eq_true] at hall ⊢
      exact fun w hwm=>z6h h (hall w hwm)
     rw [if_neg hc']
     cases hr:seqC C call ops b base (if c=1 then (i,T,v)::ws else ws) l (putT T o.dst v) S' with
     | none=>simp [hr] at ha
     | some q2=>simp only [hr] at ha; simp only [z4s h hr]; exact ha
theorem zd5 {i:Nat} {ops:Array Oper} {o:Oper} {T:List V} {S:zA} {r:V × zA} (h:panO C call ops o T S=some r):effC C call ops i o T S=none:=by
 unfold panO at h
 unfold effC
 cases hw:zW ops T o with
 | none=>rfl
 | some b =>
  cases b with
  | false=>simp [hw] at h
  | true =>
   simp only [hw] at h ⊢
   split at h
   ·cases h
   ·rename_i hk
    rw [if_neg hk]
    cases ho:opV C.P S T o with
    | none=>rfl
    | some rs =>
     cases rs with
     | enter f args =>
      simp only [ho] at h ⊢
      cases hc:jO C call f args S with
      | none=>rfl
      | some q =>
       obtain ⟨out,S',c⟩:=q
       cases out with
       | ret v=>simp [hc] at h
       | pan v=>rfl
     | _=>simp [ho] at h
theorem zdd {i:Nat} {ops:Array Oper} {o:Oper} {T:List V} {S:zA} {r:V × zA × Nat} (h:effC C call ops i o T S=some r):panO C call ops o T S=none:=by
 cases hp:panO C call ops o T S with
 | none=>rfl
 | some q=>rw [zd5 hp] at h; cases h
theorem zcz (h:z23 call call') {ops:Array Oper} {o:Oper} {T:List V} {S:zA} {r:V × zA} (ha:panO C call ops o T S=some r):panO C call' ops o T S=some r:=by
 unfold panO at ha ⊢
 cases hw:zW ops T o with
 | none=>simp [hw] at ha
 | some b =>
  cases b with
  | false=>simp [hw] at ha
  | true =>
   simp only [hw] at ha ⊢
   split at ha
   ·cases ha
   ·rename_i hk
    rw [if_neg hk]
    cases ho:opV C.P S T o with
    | none=>simp [ho] at ha
    | some rs =>
     cases rs with
     | enter f args =>
      simp only [ho] at ha ⊢
      cases hc:jO C call f args S with
      | none=>simp [hc] at ha
      | some q=>simp only [hc] at ha; simp only [z3c h hc]; exact ha
     | _=>simp [ho] at ha
theorem zag (h:z23 call call') {ops:Array Oper} {b:List Nat} {base i:Nat} {S':zA} {ws:List (Nat × List V × V)} {c:Nat} (hc : ¬ (2 < c∧(ws.all (jN C call ops b base i S'))=false)) : ¬ (2 < c∧(ws.all (jN C call' ops b base i S'))=false):=by
 rintro ⟨hc3,hw⟩
 apply hc
 refine ⟨hc3,?_⟩
 rw [← Bool.not_eq_true] at hw ⊢
 intro hall
 apply hw
 rw [List.all_eq_true] at hall ⊢
 exact fun w hwm=>z6h h (hall w hwm)
theorem zdg (h:z23 call call') {ops:Array Oper} {b:List Nat} {base:Nat} : ∀ {l:List Nat} {ws:List (Nat × List V × V)} {T:List V} {S:zA} {r:V × zA × List (Nat × Nat) × Nat × List Nat},seqP C call ops b base ws l T S=some r→seqP C call' ops b base ws l T S=some r
 | [],ws,T,S,r,ha=>by simp [seqP] at ha
 | i::l,ws,T,S,r,ha=>by
  simp only [seqP] at ha ⊢
  cases ho:ops[i]? with
  | none=>simp [ho] at ha
  | some o =>
   simp only [ho] at ha ⊢
   cases hp:panO C call ops o T S with
   | some q=>simp only [hp] at ha; simp only [zcz h hp]; exact ha
   | none =>
    simp only [hp] at ha
    cases he:effC C call ops (base + i) o T S with
    | none=>simp [he] at ha
    | some q =>
     obtain ⟨v,S',c⟩:=q
     simp only [he] at ha
     simp only [zdd (vY h he),vY h he]
     split at ha
     ·cases ha
     ·rename_i hc
      rw [if_neg (zag h hc)]
      cases hr:seqP C call ops b base (if c=1 then (i,T,v)::ws else ws) l (putT T o.dst v) S' with
      | none=>simp [hr] at ha
      | some q2=>simp only [hr] at ha; simp only [zdg h hr]; exact ha
theorem z84 (h:z23 call call') {ops:Array Oper} {b:List Nat} {base:Nat} : ∀ {l:List Nat} {ws:List (Nat × List V × V)} {T:List V} {S:zA} {r:V × zA × List (Nat × Nat) × Nat × List Nat},seqP C call ops b base ws l T S=some r→seqC C call' ops b base ws l T S=none
 | [],ws,T,S,r,ha=>by simp [seqP] at ha
 | i::l,ws,T,S,r,ha=>by
  simp only [seqP] at ha
  simp only [seqC]
  cases ho:ops[i]? with
  | none=>simp [ho] at ha
  | some o =>
   simp only [ho] at ha ⊢
   cases hp:panO C call ops o T S with
   | some q=>simp only [zd5 (zcz h hp)]
   | none =>
    simp only [hp] at ha
    cases he:effC C call ops (base + i) o T S with
    | none=>simp [he] at ha
    | some q =>
     obtain ⟨v,S',c⟩:=q
     simp only [he] at ha
     simp only [vY h he]
     split at ha
     ·cases ha
     ·rename_i hc
      rw [if_neg (zag h hc)]
      cases hr:seqP C call ops b base (if c=1 then (i,T,v)::ws else ws) l (putT T o.dst v) S' with
      | none=>simp [hr] at ha
      | some q2=>simp only [z84 h hr]
theorem ze0 {P:Program} {ex ex':z4l} (h:zd9 ex ex') {f:FuncId} {args:List V} {S S':zA} (ha:vV P ex f args S=some S'):vV P ex' f args S=some S':=by
 unfold vV at ha ⊢
 split at ha
 ·cases ha
 ·rename_i b hb
  cases he:ex b.code (vS b.ntmps args) S [] with
  | none=>simp [he] at ha
  | some r=>simp only [he] at ha; simp only [h _ _ _ _ _ he]; exact ha
theorem zdn {P:Program} {ex ex':z4l} (h:zd9 ex ex') : ∀ {F:Dfs} {S S':zA},dfrV P ex F S=some S'→dfrV P ex' F S=some S'
  | [],S,S',ha=>ha
  | (f,args)::r,S,S',ha=>by
    simp only [dfrV] at ha ⊢
    cases hp:vV P ex f args S with
    | none=>simp [hp] at ha
    | some S1=>simp only [hp] at ha; simp only [ze0 h hp]; exact zdn h ha
theorem zcc {P:Program} {ex ex':z4l} (h:zd9 ex ex') {rs:Array ResultVar} {T:List V} {S:zA} {F:Dfs} {r:Out × zA} (ha:endV P ex rs T S F=some r):endV P ex' rs T S F=some r:=by
 unfold endV at ha ⊢
 cases hd:dfrV P ex F S with
 | none=>simp [hd] at ha
 | some S'=>simp only [hd] at ha; simp only [zdn h hd]; exact ha
end
theorem zwz (C:Cfg) : ∀ n,zd9 (exec C n) (exec C (n + 1))∧z23 (run C n) (run C (n + 1)):=by
 intro n
 induction n with
 | zero=>exact ⟨fun c T S F r h=>by simp [exec] at h,fun f as S r h=>by simp [run] at h⟩
 | succ n ih =>
  obtain ⟨ihe,ihr⟩:=ih
  constructor
  ·intro c T S F r h
   rw [exec.eq_def] at h ⊢
   simp only at h ⊢
   cases c with
   | region id ops dr =>
    cases dr with
    | false=>exact z03 ihr h
    | true =>
     simp only at h ⊢
     cases hs:seqC C (run C n) ops (befs ops) S.length [] (z2h C.shared ops) T (S ++ List.replicate (vH ops) .hole) with
     | none =>
      simp only [hs] at h
      cases hp:seqP C (run C n) ops (befs ops) S.length [] (z2h C.shared ops) T (S ++ List.replicate (vH ops) .hole) with
      | none=>simp [hp] at h
      | some q =>
       simp only [hp] at h
       simp only [z84 ihr hp,zdg ihr hp]
       exact h
     | some q=>simp only [hs] at h; simp only [z4s ihr hs]; exact h
   | seq a b =>
    simp only at h ⊢
    cases ha:exec C n a T S F with
    | none=>simp [ha] at h
    | some q =>
     obtain ⟨x,T',S',F'⟩:=q
     simp only [ihe _ _ _ _ _ ha]
     simp only [ha] at h
     cases x <;> simp only at h ⊢ <;> first | exact ihe _ _ _ _ _ h | exact h
   | cond c a b =>
    simp only at h ⊢
    split at h <;> first | exact ihe _ _ _ _ _ h | cases h
   | block id b =>
    simp only at h ⊢
    cases ha:exec C n b T S F with
    | none=>simp [ha] at h
    | some q=>simp only [ha] at h; simp only [ihe _ _ _ _ _ ha]; exact h
   | loop b =>
    simp only at h ⊢
    cases ha:exec C n b T S F with
    | none=>simp [ha] at h
    | some q =>
     obtain ⟨x,T',S',F'⟩:=q
     simp only [ihe _ _ _ _ _ ha]
     simp only [ha] at h
     cases x <;> simp only at h ⊢ <;> first | exact ihe _ _ _ _ _ h | exact h
   | scope b=>exact ihe _ _ _ _ _ h
   | _=>exact h
  ·intro f args S r h
   rw [run.eq_def] at h ⊢
   simp only at h ⊢
   split at h
   ·rename_i post hp
    split at h
    ·rename_i g first caps
     cases hc:run C n g (first ++ caps) S with
     | none=>simp [hc] at h
     | some q=>simp only [hc] at h; simp only [ihr _ _ _ _ hc]; exact h
    ·cases h
   ·split at h
    ·cases h
    ·rename_i b hb
     cases he:exec C n b.code (vS b.ntmps args) S [] with
     | none=>simp [he] at h
     | some q =>
      obtain ⟨x,T',S',F'⟩:=q
      simp only [ihe _ _ _ _ _ he]
      simp only [he] at h
      cases x with
      | norm=>exact zcc ihe h
      | ret=>exact zcc ihe h
      | exit k=>simp at h
      | pan v=>cases F' with
       | nil=>exact h
       | cons f F'=>simp at h
theorem z64 (C:Cfg) {n m:Nat} (h:n ≤ m):zd9 (exec C n) (exec C m):=by
 induction h with
 | refl=>exact fun _ _ _ _ _ h=>h
 | step _ ih=>exact fun c T S F r h=>(zwz C _).1 _ _ _ _ _ (ih _ _ _ _ _ h)
theorem z7h (C:Cfg) {n m:Nat} (h:n ≤ m):z23 (run C n) (run C m):=by
 induction h with
 | refl=>exact fun _ _ _ _ h=>h
 | step _ ih=>exact fun f as S r h=>(zwz C _).2 _ _ _ _ (ih _ _ _ _ h)
end Go.Vm
end
section
namespace Go.Vm
def CellsAt (w:World) (b off:Nat) (vs:List Value):Prop :=
 ∃ c e f,w.heap[b]? = some (.cells c e f) ∧ ∀ i v,vs[i]? = some v→c[off + i]? = some v
section
variable (A:Nat→Prop) (w:World)
mutual
def RepC:D→List Value→Prop
 | .bool b,vs=>vs=[.bool b]
 | .int k n,vs=>vs=[.int k n]
 | .flt k b,vs=>vs=[.float k b]
 | .str s,vs=>vs=[.string ⟨s.toArray⟩]
 | .sl xs,vs=>∃ a cap,vs=[.slice a xs.length cap]∧xs.length ≤ cap∧(xs=[] ∨ ∃ ad k us,a=some ad∧ad.spot=none∧A ad.block∧CellsAt w ad.block ad.off us∧RepE k xs us)
 | .agg xs,vs=>RepL xs vs
 | .map es,vs=>∃ r,vs=[.map r]∧((r=none∧es=[]) ∨ ∃ b en clock,r=some b∧A b∧w.heap[b]? = some (.map en clock)∧RepM es en.toList)
 | .iface t x,vs=>∃ v,vs=[.iface t v]∧((x.isAgg=true ∧ ∃ us,v = .agg us∧RepC x us.toList) ∨ (x.isAgg=false∧RepC x [v]))
 | .ptr x,vs=>∃ ad us,vs=[.pointer (some ad)]∧ad.spot=none∧A ad.block∧CellsAt w ad.block ad.off us∧RepC x us
 | .fn f first caps,vs=>∃ fa ca,vs=[.func f fa ca]∧RepS first fa.toList∧RepS caps ca.toList
 | .nili,vs=>vs=[.nilIface]
 | .nilp,vs=>vs=[.pointer none]
 | .nilf,vs=>vs=[.nilFunc]
 | .nilm,vs=>vs=[.map none]
def RepL:List D→List Value→Prop
 | [],vs=>vs=[]
 | x::r,vs=>∃ v us,vs=v::us∧x.isAgg=false∧RepC x [v]∧RepL r us
def RepE (k:Nat):List D→List Value→Prop
 | [],vs=>vs=[]
 | x::r,vs=>∃ us ws,vs=us ++ ws∧us.length=k∧RepC x us∧RepE k r ws
def RepS:List D→List Value→Prop
 | [],vs=>vs=[]
 | x::r,vs=>∃ v us,vs=v::us∧((x.isAgg=true ∧ ∃ us,v = .agg us∧RepC x us.toList) ∨ (x.isAgg=false∧RepC x [v]))∧RepS r us
def RepM:List (D × D)→List MapEntry→Prop
 | [],es=>es=[]
 | e::r,es=>∃ m ms,es=m::ms∧RepP e m∧RepM r ms
def RepP:D × D→MapEntry→Prop
 | (k,x),m=>((k.isAgg=true ∧ ∃ us,m.key = .agg us∧RepC k us.toList) ∨ (k.isAgg=false∧RepC k [m.key]))∧((x.isAgg=true ∧ ∃ us,m.val = .agg us∧RepC x us.toList) ∨ (x.isAgg=false∧RepC x [m.val]))
end
def RepX (x:D) (v:Value):Prop:=(x.isAgg=true ∧ ∃ us,v = .agg us∧RepC A w x us.toList) ∨ (x.isAgg=false∧RepC A w x [v])
end
section
variable {A A':Nat→Prop} {w w':World}
theorem CellsAt.mono {b off:Nat} {vs:List Value} (h:w'.heap[b]? = w.heap[b]?) (hc:CellsAt w b off vs):CellsAt w' b off vs:=by
 obtain ⟨c,e,f,h1,h2⟩:=hc
 exact ⟨c,e,f,h.trans h1,h2⟩
mutual
theorem qX (hA : ∀ b,A b→A' b) (hw : ∀ b,A b→w'.heap[b]? = w.heap[b]?) : ∀ (x:D) (vs:List Value),RepC A w x vs→RepC A' w' x vs
 | .bool _,_,h=>by simpa [RepC] using h
 | .int _ _,_,h=>by simpa [RepC] using h
 | .flt _ _,_,h=>by simpa [RepC] using h
 | .str _,_,h=>by simpa [RepC] using h
 | .nili,_,h=>by simpa [RepC] using h
 | .nilp,_,h=>by simpa [RepC] using h
 | .nilf,_,h=>by simpa [RepC] using h
 | .nilm,_,h=>by simpa [RepC] using h
 | .sl xs,vs,h=>by
  simp only [RepC] at h ⊢
  obtain ⟨a,cap,h1,h2,h3⟩:=h
  refine ⟨a,cap,h1,h2,?_⟩
  rcases h3 with h3 | ⟨ad,k,us,h4,h5,h6,h7,h8⟩
  ·exact .inl h3
  ·exact .inr ⟨ad,k,us,h4,h5,hA _ h6,h7.mono (hw _ h6),z2p hA hw k xs us h8⟩
 | .agg xs,vs,h=>by
  simp only [RepC] at h ⊢
  exact z4f hA hw xs vs h
 | .map es,vs,h=>by
  simp only [RepC] at h ⊢
  obtain ⟨r,h1,h2⟩:=h
  refine ⟨r,h1,?_⟩
  rcases h2 with h2 | ⟨b,en,clock,h3,h4,h5,h6⟩
  ·exact .inl h2
  ·exact .inr ⟨b,en,clock,h3,hA _ h4,(hw _ h4).trans h5,z4h hA hw es _ h6⟩
 | .iface t x,vs,h=>by
  simp only [RepC] at h ⊢
  obtain ⟨v,h1,h2⟩:=h
  exact ⟨v,h1,h2.imp (fun ⟨a,us,b,c⟩=>⟨a,us,b,qX hA hw x _ c⟩) (fun ⟨a,b⟩=>⟨a,qX hA hw x _ b⟩)⟩
 | .ptr x,vs,h=>by
  simp only [RepC] at h ⊢
  obtain ⟨ad,us,h1,h2,h3,h4,h5⟩:=h
  exact ⟨ad,us,h1,h2,hA _ h3,h4.mono (hw _ h3),qX hA hw x us h5⟩
 | .fn f first caps,vs,h=>by
  simp only [RepC] at h ⊢
  obtain ⟨fa,ca,h1,h2,h3⟩:=h
  exact ⟨fa,ca,h1,z5g hA hw first _ h2,z5g hA hw caps _ h3⟩
theorem z4f (hA : ∀ b,A b→A' b) (hw : ∀ b,A b→w'.heap[b]? = w.heap[b]?) : ∀ (xs:List D) (vs:List Value),RepL A w xs vs→RepL A' w' xs vs
 | [],_,h=>by simpa [RepL] using h
 | x::r,vs,h=>by
  simp only [RepL] at h ⊢
  obtain ⟨v,us,h1,h2,h3,h4⟩:=h
  exact ⟨v,us,h1,h2,qX hA hw x _ h3,z4f hA hw r us h4⟩
theorem z2p (hA : ∀ b,A b→A' b) (hw : ∀ b,A b→w'.heap[b]? = w.heap[b]?) (k:Nat) : ∀ (xs:List D) (vs:List Value),RepE A w k xs vs→RepE A' w' k xs vs
 | [],_,h=>by simpa [RepE] using h
 | x::r,vs,h=>by
  simp only [RepE] at h ⊢
  obtain ⟨us,ws,h1,h2,h3,h4⟩:=h
  exact ⟨us,ws,h1,h2,qX hA hw x _ h3,z2p hA hw k r ws h4⟩
theorem z5g (hA : ∀ b,A b→A' b) (hw : ∀ b,A b→w'.heap[b]? = w.heap[b]?) : ∀ (xs:List D) (vs:List Value),RepS A w xs vs→RepS A' w' xs vs
 | [],_,h=>by simpa [RepS] using h
 | x::r,vs,h=>by
  simp only [RepS] at h ⊢
  obtain ⟨v,us,h1,h2,h4⟩:=h
  exact ⟨v,us,h1,h2.imp (fun ⟨a,us,b,c⟩=>⟨a,us,b,qX hA hw x _ c⟩) (fun ⟨a,b⟩=>⟨a,qX hA hw x _ b⟩),z5g hA hw r us h4⟩
theorem z4h (hA : ∀ b,A b→A' b) (hw : ∀ b,A b→w'.heap[b]? = w.heap[b]?) : ∀ (es:List (D × D)) (ms:List MapEntry),RepM A w es ms→RepM A' w' es ms
 | [],_,h=>by simpa [RepM] using h
 | e::r,ms,h=>by
  simp only [RepM] at h ⊢
  obtain ⟨m,ms',h1,h2,h3⟩:=h
  exact ⟨m,ms',h1,zja hA hw e m h2,z4h hA hw r ms' h3⟩
theorem zja (hA : ∀ b,A b→A' b) (hw : ∀ b,A b→w'.heap[b]? = w.heap[b]?) : ∀ (e:D × D) (m:MapEntry),RepP A w e m→RepP A' w' e m
  | (k,x),m,h=>by
    simp only [RepP] at h ⊢
    exact ⟨h.1.imp (fun ⟨a,us,b,c⟩=>⟨a,us,b,qX hA hw k _ c⟩) (fun ⟨a,b⟩=>⟨a,qX hA hw k _ b⟩),h.2.imp (fun ⟨a,us,b,c⟩=>⟨a,us,b,qX hA hw x _ c⟩) (fun ⟨a,b⟩=>⟨a,qX hA hw x _ b⟩)⟩
end
theorem z2o (hA : ∀ b,A b→A' b) (hw : ∀ b,A b→w'.heap[b]? = w.heap[b]?) {x:D} {v:Value} (h:RepX A w x v):RepX A' w' x v :=
 h.imp (fun ⟨a,us,b,c⟩=>⟨a,us,b,qX hA hw x _ c⟩) (fun ⟨a,b⟩=>⟨a,qX hA hw x _ b⟩)
end
def Ob.live:Ob→Bool
 | .row .. => true
 | .mp .. => true
 | .iter .. => true
 | .mit .. => true
 | _=>false
section
variable (P:Program) (S:zA) (ρ:Nat→Nat) (A:Nat→Prop) (w:World)
def RowPl (id off len cap:Nat) (a:Option Addr):Prop :=
 let at' (n:Nat) (e:TypeId):Prop:= ∃ k,sz P e=some k∧(a=some ⟨ρ id,off * k,none⟩ ∨ cap=0)∧off + len ≤ n∧len ≤ cap ∧ ∃ c e' f,w.heap[ρ id]? = some (.cells c e' f)∧(off + cap) * k ≤ c.size
 match S[id]? with
 | some (.row xs e)=>at' xs.length e
 | some (.fz xs e)=>at' xs.length e
 | some .dead=>len ≤ cap
 | _=>False
def CellPl (id ix off len cap:Nat) (a:Option Addr):Prop :=
 let at' (n:Nat) (e:TypeId):Prop:= ∃ k,sz P e=some k∧(a=some ⟨ρ id,ix * k + off,none⟩ ∨ cap=0)∧ix < n∧off + cap ≤ k∧len ≤ cap
 match S[id]? with
 | some (.row xs e)=>at' xs.length e
 | some (.fz xs e)=>at' xs.length e
 | some .dead=>len ≤ cap
 | _=>False
def RefPl (id ix off:Nat) (a:Addr):Prop :=
 let at' (n:Nat) (e:TypeId):Prop:= ∃ k,sz P e=some k∧a=⟨ρ id,ix * k + off,none⟩∧ix < n
 match S[id]? with
 | some (.row xs e)=>at' xs.length e
 | some (.fz xs e)=>at' xs.length e
 | some .dead=>True
 | _=>False
def MapPl (id r:Nat):Prop :=
 match S[id]? with
 | some (.mp _ _)=>r=ρ id
 | some (.fm _)=>r=ρ id
 | some .dead=>True
 | _=>False
def ItPl (id r:Nat):Prop :=
 match S[id]? with
 | some (.iter _ _)=>r=ρ id
 | some (.mit ..)=>r=ρ id
 | some .dead=>True
 | _=>False
mutual
def zR:V→List Value→Prop
 | .d x,vs=>RepC A w x vs
 | .ts xs,vs=>∃ a,vs=[.slice a xs.length xs.length]∧RepC A w (.sl xs) vs
 | .rs id off len,vs=>∃ a cap,vs=[.slice a len cap]∧RowPl P S ρ w id off len cap a
 | .cs id ix off len,vs=>∃ a cap,vs=[.slice a len cap]∧CellPl P S ρ id ix off len cap a
 | .ref id ix off,vs=>∃ a,vs=[.pointer (some a)]∧RefPl P S ρ id ix off a
 | .mr id,vs=>∃ r,vs=[.map (some r)]∧MapPl S ρ id r
 | .it id,vs=>∃ r,vs=[.pointer (some ⟨r,0,none⟩)]∧ItPl S ρ id r
 | .agg xs,vs=>jA xs vs
 | .iface t x,vs=>∃ v,vs=[.iface t v]∧((x.isAgg=true ∧ ∃ us,v = .agg us∧zR x us.toList) ∨ (x.isAgg=false∧zR x [v]))
 | .fn f first caps,vs=>∃ fa ca,vs=[.func f fa ca]∧z1l first fa.toList∧z1l caps ca.toList
 | .tup _,_=>False
 | .junk,_=>False
def jA:List V→List Value→Prop
 | [],vs=>vs=[]
 | x::r,vs=>∃ v us,vs=v::us∧x.isAgg=false∧zR x [v]∧jA r us
def z1l:List V→List Value→Prop
 | [],vs=>vs=[]
 | x::r,vs=>∃ v us,vs=v::us∧((x.isAgg=true ∧ ∃ us,v = .agg us∧zR x us.toList) ∨ (x.isAgg=false∧zR x [v]))∧z1l r us
end
def qN (k:Nat):List V→List Value→Prop
 | [],vs=>vs=[]
 | x::r,vs=>∃ us ws,vs=us ++ ws∧us.length=k∧zR P S ρ A w x us∧qN k r ws
def RepW (x:V) (v:Value):Prop:=(x.isAgg=true ∧ ∃ us,v = .agg us∧zR P S ρ A w x us.toList) ∨ (x.isAgg=false∧zR P S ρ A w x [v])
def qS:List V→List Value→Prop
 | [],vs=>vs=[]
 | x::r,vs=>∃ v us,vs=v::us∧RepW P S ρ A w x v∧qS r us
def RepV:V→Value→Prop
 | .junk,_=>True
 | .tup xs,v=>∃ us,v = .tuple us∧qS P S ρ A w xs us.toList
 | x,v=>RepW P S ρ A w x v
def RepT:List V→List Value→Prop
 | [],vs=>vs=[]
 | x::r,vs=>∃ v us,vs=v::us∧RepV P S ρ A w x v∧RepT r us
def jI:List (D × V × Nat)→List MapEntry→Prop
 | [],es=>es=[]
 | e::r,es=>∃ m ms,es=m::ms∧RepX A w e.1 m.key∧RepW P S ρ A w e.2.1 m.val∧e.2.2=m.born∧jI r ms
def ObOk (b:Nat):Ob→Prop
 | .row xs e=>∃ k c us rest,sz P e=some k∧w.heap[b]? = some (.cells c e (0,0))∧c.toList=us ++ rest∧qN P S ρ A w k xs us
 | .mp es clock=>∃ en,w.heap[b]? = some (.map en clock)∧jI P S ρ A w es en.toList∧(∀ e ∈ es,e.2.2 < clock)∧(es.map fun e=>e.2.2).Nodup
 | .iter s pos=>w.heap[b]? = some (.stringIter ⟨s.toArray⟩ pos)
 | .mit mid since seen last=>∃ r,w.heap[b]? = some (.mapIter (some r) since seen.toArray last)∧MapPl S ρ mid r
 | .fz xs e=>∃ k c f us rest,sz P e=some k∧A b∧w.heap[b]? = some (.cells c e f)∧c.toList=us ++ rest∧RepE A w k xs us
 | .fm es=>∃ en clock,A b∧w.heap[b]? = some (.map en clock)∧RepM A w es en.toList
 | .dead=>True
 | .hole=>True
inductive GDat where
 | tab (cs:Array Value)
 | num
 | err (nm:String) (txt:List UInt8)
def GDat.Holds (P:Program) (A:Nat→Prop) (w:World):GDat→Array Value→Prop
 | .tab cs,c=>c=cs
 | .num,c=>∃ m,c = #[.int .i64 m]
 | .err nm txt,c=>∃ tp ad,c = #[.iface tp (.pointer (some ad))]∧P.typeName? 3 tp=some nm∧RepC A w (.ptr (.agg [.str txt])) [.pointer (some ad)]
def globTabs : List (String × GDat) := [("internal/strconv.uint64pow10", .tab ((List.range 20).map fun i => Value.int .u64 ((10 ^ i : Nat) : Int)).toArray), ("internal/bytealg.MaxLen", .num), ("strconv.ErrSyntax", .err "*errors.errorString" [105, 110, 118, 97, 108, 105, 100, 32, 115, 121, 110, 116, 97, 120]), ("strconv.ErrRange", .err "*errors.errorString" [118, 97, 108, 117, 101, 32, 111, 117, 116, 32, 111, 102, 32, 114, 97, 110, 103, 101])]
def GlobOk (P:Program) (A:Nat→Prop) (w:World):Prop:= ∀ x ∈ globTabs,∀ g,P.globalNamed x.1=some g→A g ∧ ∃ c t m,w.heap[g]? = some (.cells c t m)∧x.2.Holds P A w c
structure Inv:Prop where
 ok : ∀ id o,S[id]? = some o→ObOk P S ρ A w (ρ id) o
 inj : ∀ i j oi oj,S[i]? = some oi→S[j]? = some oj→oi.live=true→oj.live=true→ρ i=ρ j→i=j
 own : ∀ i o,S[i]? = some o→o.live=true → ¬ A (ρ i)
 lt : ∀ b,A b→b < w.heap.size
 gl:GlobOk P A w
end
theorem GlobOk.step {P:Program} {A A':Nat→Prop} {w w':World} (h:GlobOk P A w) (hA : ∀ b,A b→A' b) (hk : ∀ b,A b→w'.heap[b]? = w.heap[b]?):GlobOk P A' w':=fun x hx g hg=>by
 obtain ⟨h1,c,t,m,h2,h3⟩:=h x hx g hg
 refine ⟨hA g h1,c,t,m,(hk g h1).trans h2,?_⟩
 cases hd:x.2 with
 | tab cs=>rw [hd] at h3; exact h3
 | num=>rw [hd] at h3; exact h3
 | err nm txt =>
  rw [hd] at h3
  obtain ⟨tp,ad,e1,e2,e3⟩:=h3
  exact ⟨tp,ad,e1,e2,qX hA hk _ _ e3⟩
theorem GlobOk.no {P:Program} {A:Nat→Prop} {w:World} (h:globTabs.all (fun x=>(P.globalNamed x.1).isNone)=true):GlobOk P A w:=fun x hx g hg=>by
 have:=List.all_eq_true.1 h x hx
 rw [hg] at this
 cases this
def zjp (S:zA) (ρ:Nat→Nat) (b:Nat):Prop:= ∃ id o,S[id]? = some o∧o.live=true∧ρ id=b
def Ob.le:Ob→Ob→Prop
 | _,.dead=>True
 | .row xs e,.row ys e'=>xs.length=ys.length∧e=e'
 | .row xs e,.fz ys e'=>xs.length=ys.length∧e=e'
 | .fz xs e,.fz ys e'=>xs.length=ys.length∧e=e'
 | .mp _ _,.mp _ _=>True
 | .mp _ _,.fm _=>True
 | .fm _,.fm _=>True
 | .iter _ _,.iter _ _=>True
 | .mit .., .mit .. => True
 | .hole,.hole=>True
 | _,_=>False
theorem Ob.le_refl (o:Ob):o.le o:=by cases o <;> simp [Ob.le]
def SLe (S:zA) (ρ:Nat→Nat) (w:World) (S':zA) (ρ':Nat→Nat) (w':World):Prop :=
 ∀ id o,S[id]? = some o→o ≠ .hole → ∃ o',S'[id]? = some o'∧o.le o'∧(o' = .dead ∨ (ρ' id=ρ id ∧ ∀ c e f,w.heap[ρ id]? = some (.cells c e f) → ∃ c' e' f',w'.heap[ρ id]? = some (.cells c' e' f')∧c'.size=c.size))
structure Step (S:zA) (ρ:Nat→Nat) (A:Nat→Prop) (w:World) (S':zA) (ρ':Nat→Nat) (A':Nat→Prop) (w':World):Prop where
 os:w'.os=w.os
 tape:w'.tape=w.tape
 output:w'.output=w.output
 size:w.heap.size ≤ w'.heap.size
 keep : ∀ b,b < w.heap.size → ¬ zjp S ρ b→w'.heap[b]? = w.heap[b]?
 keepA : ∀ b,A b→w'.heap[b]? = w.heap[b]?
 amono : ∀ b,A b→A' b
 anew : ∀ b,A' b→A b ∨ zjp S ρ b ∨ w.heap.size ≤ b
 onew : ∀ b,zjp S' ρ' b→zjp S ρ b ∨ w.heap.size ≤ b
 sle:SLe S ρ w S' ρ' w'
section
variable {P:Program} {S S':zA} {ρ ρ':Nat→Nat} {A A':Nat→Prop} {w w':World}
theorem RowPl.mono (h:SLe S ρ w S' ρ' w') {id off len cap:Nat} {a:Option Addr} (hp:RowPl P S ρ w id off len cap a):RowPl P S' ρ' w' id off len cap a:=by
 unfold RowPl at hp ⊢
 cases ho:S[id]? with
 | none=>simp [ho] at hp
 | some o =>
  obtain ⟨o',ho',hle,hd⟩:=h id o ho (by rintro rfl; simp [ho] at hp)
  simp only [ho] at hp
  simp only [ho']
  cases o' with
  | dead=>cases o <;> simp only at hp <;> first | exact hp.elim | exact hp | (obtain ⟨k,h1,h2,h3,h4,_⟩:=hp; exact h4)
  | row ys e' =>
   rcases hd with hd | ⟨hr,hc⟩
   ·cases hd
   ·cases o with
    | row xs e =>
     obtain ⟨hl,rfl⟩:=hle
     obtain ⟨k,h1,h2,h3,h4,c,e2,f2,h5,h6⟩:=hp
     obtain ⟨c',e3,f3,h7,h8⟩:=hc c e2 f2 h5
     exact ⟨k,h1,by rw [hr]; exact h2,by omega,h4,c',e3,f3,by rw [hr]; exact h7,by omega⟩
    | _=>simp [Ob.le] at hle
  | fz ys e' =>
   rcases hd with hd | ⟨hr,hc⟩
   ·cases hd
   ·cases o with
    | row xs e =>
     obtain ⟨hl,rfl⟩:=hle
     obtain ⟨k,h1,h2,h3,h4,c,e2,f2,h5,h6⟩:=hp
     obtain ⟨c',e3,f3,h7,h8⟩:=hc c e2 f2 h5
     exact ⟨k,h1,by rw [hr]; exact h2,by omega,h4,c',e3,f3,by rw [hr]; exact h7,by omega⟩
    | fz xs e =>
     obtain ⟨hl,rfl⟩:=hle
     obtain ⟨k,h1,h2,h3,h4,c,e2,f2,h5,h6⟩:=hp
     obtain ⟨c',e3,f3,h7,h8⟩:=hc c e2 f2 h5
     exact ⟨k,h1,by rw [hr]; exact h2,by omega,h4,c',e3,f3,by rw [hr]; exact h7,by omega⟩
    | _=>simp [Ob.le] at hle
  | mp _ _=>cases o <;> first | exact hp.elim | simp [Ob.le] at hle
  | iter _ _=>cases o <;> first | exact hp.elim | simp [Ob.le] at hle
  | mit _ _ _ _=>cases o <;> first | exact hp.elim | simp [Ob.le] at hle
  | fm _=>cases o <;> first | exact hp.elim | simp [Ob.le] at hle
  | hole=>cases o <;> first | exact hp.elim | simp [Ob.le] at hle
theorem CellPl.mono (h:SLe S ρ w S' ρ' w') {id ix off len cap:Nat} {a:Option Addr} (hp:CellPl P S ρ id ix off len cap a):CellPl P S' ρ' id ix off len cap a:=by
 unfold CellPl at hp ⊢
 cases ho:S[id]? with
 | none=>simp [ho] at hp
 | some o =>
  obtain ⟨o',ho',hle,hd⟩:=h id o ho (by rintro rfl; simp [ho] at hp)
  simp only [ho] at hp
  simp only [ho']
  cases o' with
  | dead=>cases o <;> simp only at hp <;> first | exact hp.elim | exact hp | (obtain ⟨k,h1,h2,h3,h4,h5⟩:=hp; exact h5)
  | row ys e' =>
   rcases hd with hd | ⟨hr,hc⟩
   ·cases hd
   ·cases o with
    | row xs e =>
     obtain ⟨hl,rfl⟩:=hle
     obtain ⟨k,h1,h2,h3,h4,h5⟩:=hp
     exact ⟨k,h1,by rw [hr]; exact h2,by omega,h4,h5⟩
    | _=>simp [Ob.le] at hle
  | fz ys e' =>
   rcases hd with hd | ⟨hr,hc⟩
   ·cases hd
   ·cases o with
    | row xs e =>
     obtain ⟨hl,rfl⟩:=hle
     obtain ⟨k,h1,h2,h3,h4,h5⟩:=hp
     exact ⟨k,h1,by rw [hr]; exact h2,by omega,h4,h5⟩
    | fz xs e =>
     obtain ⟨hl,rfl⟩:=hle
     obtain ⟨k,h1,h2,h3,h4,h5⟩:=hp
     exact ⟨k,h1,by rw [hr]; exact h2,by omega,h4,h5⟩
    | _=>simp [Ob.le] at hle
  | mp _ _=>cases o <;> first | exact hp.elim | simp [Ob.le] at hle
  | iter _ _=>cases o <;> first | exact hp.elim | simp [Ob.le] at hle
  | mit _ _ _ _=>cases o <;> first | exact hp.elim | simp [Ob.le] at hle
  | fm _=>cases o <;> first | exact hp.elim | simp [Ob.le] at hle
  | hole=>cases o <;> first | exact hp.elim | simp [Ob.le] at hle
theorem RefPl.mono (h:SLe S ρ w S' ρ' w') {id ix off:Nat} {a:Addr} (hp:RefPl P S ρ id ix off a):RefPl P S' ρ' id ix off a:=by
 unfold RefPl at hp ⊢
 cases ho:S[id]? with
 | none=>simp [ho] at hp
 | some o =>
  obtain ⟨o',ho',hle,hd⟩:=h id o ho (by rintro rfl; simp [ho] at hp)
  simp only [ho] at hp
  simp only [ho']
  cases o' with
  | dead=>cases o <;> simp only at hp <;> first | exact hp.elim | trivial
  | row ys e' =>
   rcases hd with hd | ⟨hr,hc⟩
   ·cases hd
   ·cases o with
    | row xs e =>
     obtain ⟨hl,rfl⟩:=hle
     obtain ⟨k,h1,h2,h3⟩:=hp
     exact ⟨k,h1,by rw [hr]; exact h2,by omega⟩
    | _=>simp [Ob.le] at hle
  | fz ys e' =>
   rcases hd with hd | ⟨hr,hc⟩
   ·cases hd
   ·cases o with
    | row xs e =>
     obtain ⟨hl,rfl⟩:=hle
     obtain ⟨k,h1,h2,h3⟩:=hp
     exact ⟨k,h1,by rw [hr]; exact h2,by omega⟩
    | fz xs e =>
     obtain ⟨hl,rfl⟩:=hle
     obtain ⟨k,h1,h2,h3⟩:=hp
     exact ⟨k,h1,by rw [hr]; exact h2,by omega⟩
    | _=>simp [Ob.le] at hle
  | mp _ _=>cases o <;> first | exact hp.elim | simp [Ob.le] at hle
  | iter _ _=>cases o <;> first | exact hp.elim | simp [Ob.le] at hle
  | mit _ _ _ _=>cases o <;> first | exact hp.elim | simp [Ob.le] at hle
  | fm _=>cases o <;> first | exact hp.elim | simp [Ob.le] at hle
  | hole=>cases o <;> first | exact hp.elim | simp [Ob.le] at hle
theorem MapPl.mono (h:SLe S ρ w S' ρ' w') {id r:Nat} (hp:MapPl S ρ id r):MapPl S' ρ' id r:=by
 unfold MapPl at hp ⊢
 cases ho:S[id]? with
 | none=>simp [ho] at hp
 | some o =>
  obtain ⟨o',ho',hle,hd⟩:=h id o ho (by rintro rfl; simp [ho] at hp)
  simp only [ho] at hp
  simp only [ho']
  cases o' <;> cases o <;> simp_all [Ob.le]
theorem ItPl.mono (h:SLe S ρ w S' ρ' w') {id r:Nat} (hp:ItPl S ρ id r):ItPl S' ρ' id r:=by
 unfold ItPl at hp ⊢
 cases ho:S[id]? with
 | none=>simp [ho] at hp
 | some o =>
  obtain ⟨o',ho',hle,hd⟩:=h id o ho (by rintro rfl; simp [ho] at hp)
  simp only [ho] at hp
  simp only [ho']
  cases o' <;> cases o <;> simp_all [Ob.le]
mutual
theorem kY (hA : ∀ b,A b→A' b) (hw : ∀ b,A b→w'.heap[b]? = w.heap[b]?) (hs:SLe S ρ w S' ρ' w') : ∀ (x:V) (vs:List Value),zR P S ρ A w x vs→zR P S' ρ' A' w' x vs
 | .d x,vs,h=>by simp only [zR] at h ⊢; exact qX hA hw x vs h
 | .ts xs,vs,h=>by
  simp only [zR] at h ⊢
  obtain ⟨a,h1,h2⟩:=h
  exact ⟨a,h1,qX hA hw _ vs h2⟩
 | .rs id off len,vs,h=>by
  simp only [zR] at h ⊢
  obtain ⟨a,cap,h1,h2⟩:=h
  exact ⟨a,cap,h1,h2.mono hs⟩
 | .cs id ix off len,vs,h=>by
  simp only [zR] at h ⊢
  obtain ⟨a,cap,h1,h2⟩:=h
  exact ⟨a,cap,h1,h2.mono hs⟩
 | .ref id ix off,vs,h=>by
  simp only [zR] at h ⊢
  obtain ⟨a,h1,h2⟩:=h
  exact ⟨a,h1,h2.mono hs⟩
 | .mr id,vs,h=>by
  simp only [zR] at h ⊢
  obtain ⟨r,h1,h2⟩:=h
  exact ⟨r,h1,h2.mono hs⟩
 | .it id,vs,h=>by
  simp only [zR] at h ⊢
  obtain ⟨r,h1,h2⟩:=h
  exact ⟨r,h1,h2.mono hs⟩
 | .agg xs,vs,h=>by
  simp only [zR] at h ⊢
  exact za2 hA hw hs xs vs h
 | .iface t x,vs,h=>by
  simp only [zR] at h ⊢
  obtain ⟨v,h1,h2⟩:=h
  exact ⟨v,h1,h2.imp (fun ⟨a,us,b,c⟩=>⟨a,us,b,kY hA hw hs x _ c⟩) (fun ⟨a,b⟩=>⟨a,kY hA hw hs x _ b⟩)⟩
 | .fn f first caps,vs,h=>by
  simp only [zR] at h ⊢
  obtain ⟨fa,ca,h1,h2,h3⟩:=h
  exact ⟨fa,ca,h1,z5k hA hw hs first _ h2,z5k hA hw hs caps _ h3⟩
 | .tup _,_,h=>by simp [zR] at h
 | .junk,_,h=>by simp [zR] at h
theorem za2 (hA : ∀ b,A b→A' b) (hw : ∀ b,A b→w'.heap[b]? = w.heap[b]?) (hs:SLe S ρ w S' ρ' w') : ∀ (xs:List V) (vs:List Value),jA P S ρ A w xs vs→jA P S' ρ' A' w' xs vs
 | [],_,h=>by simpa [jA] using h
 | x::r,vs,h=>by
  simp only [jA] at h ⊢
  obtain ⟨v,us,h1,h2,h3,h4⟩:=h
  exact ⟨v,us,h1,h2,kY hA hw hs x _ h3,za2 hA hw hs r us h4⟩
theorem z5k (hA : ∀ b,A b→A' b) (hw : ∀ b,A b→w'.heap[b]? = w.heap[b]?) (hs:SLe S ρ w S' ρ' w') : ∀ (xs:List V) (vs:List Value),z1l P S ρ A w xs vs→z1l P S' ρ' A' w' xs vs
 | [],_,h=>by simpa [z1l] using h
 | x::r,vs,h=>by
  simp only [z1l] at h ⊢
  obtain ⟨v,us,h1,h2,h4⟩:=h
  exact ⟨v,us,h1,h2.imp (fun ⟨a,us,b,c⟩=>⟨a,us,b,kY hA hw hs x _ c⟩) (fun ⟨a,b⟩=>⟨a,kY hA hw hs x _ b⟩),z5k hA hw hs r us h4⟩
end
theorem jC (hA : ∀ b,A b→A' b) (hw : ∀ b,A b→w'.heap[b]? = w.heap[b]?) (hs:SLe S ρ w S' ρ' w') (k:Nat) : ∀ (xs:List V) (vs:List Value),qN P S ρ A w k xs vs→qN P S' ρ' A' w' k xs vs
 | [],_,h=>by simpa [qN] using h
 | x::r,vs,h=>by
  simp only [qN] at h ⊢
  obtain ⟨us,ws,h1,h2,h3,h4⟩:=h
  exact ⟨us,ws,h1,h2,kY hA hw hs x _ h3,jC hA hw hs k r ws h4⟩
theorem z0k (hA : ∀ b,A b→A' b) (hw : ∀ b,A b→w'.heap[b]? = w.heap[b]?) (hs:SLe S ρ w S' ρ' w') {x:V} {v:Value} (h:RepW P S ρ A w x v):RepW P S' ρ' A' w' x v :=
 h.imp (fun ⟨a,us,b,c⟩=>⟨a,us,b,kY hA hw hs x _ c⟩) (fun ⟨a,b⟩=>⟨a,kY hA hw hs x _ b⟩)
theorem z1f (hA : ∀ b,A b→A' b) (hw : ∀ b,A b→w'.heap[b]? = w.heap[b]?) (hs:SLe S ρ w S' ρ' w') : ∀ (xs:List V) (vs:List Value),qS P S ρ A w xs vs→qS P S' ρ' A' w' xs vs
 | [],_,h=>by simpa [qS] using h
 | x::r,vs,h=>by
  simp only [qS] at h ⊢
  obtain ⟨v,us,h1,h2,h3⟩:=h
  exact ⟨v,us,h1,z0k hA hw hs h2,z1f hA hw hs r us h3⟩
theorem zlj (hA : ∀ b,A b→A' b) (hw : ∀ b,A b→w'.heap[b]? = w.heap[b]?) (hs:SLe S ρ w S' ρ' w') {x:V} {v:Value} (h:RepV P S ρ A w x v):RepV P S' ρ' A' w' x v:=by
 cases x with
 | junk=>trivial
 | tup xs =>
  simp only [RepV] at h ⊢
  obtain ⟨us,h1,h2⟩:=h
  exact ⟨us,h1,z1f hA hw hs xs _ h2⟩
 | _=>simp only [RepV] at h ⊢; exact z0k hA hw hs h
theorem kC (hA : ∀ b,A b→A' b) (hw : ∀ b,A b→w'.heap[b]? = w.heap[b]?) (hs:SLe S ρ w S' ρ' w') : ∀ (xs:List V) (vs:List Value),RepT P S ρ A w xs vs→RepT P S' ρ' A' w' xs vs
 | [],_,h=>by simpa [RepT] using h
 | x::r,vs,h=>by
  simp only [RepT] at h ⊢
  obtain ⟨v,us,h1,h2,h3⟩:=h
  exact ⟨v,us,h1,zlj hA hw hs h2,kC hA hw hs r us h3⟩
theorem z5u (hA : ∀ b,A b→A' b) (hw : ∀ b,A b→w'.heap[b]? = w.heap[b]?) (hs:SLe S ρ w S' ρ' w') : ∀ (xs:List (D × V × Nat)) (vs:List MapEntry),jI P S ρ A w xs vs→jI P S' ρ' A' w' xs vs
 | [],_,h=>by simpa [jI] using h
 | x::r,vs,h=>by
  simp only [jI] at h ⊢
  obtain ⟨m,ms,h1,h2,h3,h4,h5⟩:=h
  exact ⟨m,ms,h1,z2o hA hw h2,z0k hA hw hs h3,h4,z5u hA hw hs r ms h5⟩
end
end Go.Vm
end
section
namespace Go.Vm
section
variable {P:Program} {S S':zA} {ρ ρ':Nat→Nat} {A A':Nat→Prop} {w w':World}
theorem z0v {x:D} (h:x.isAgg=false):x.cells=[x]:=by cases x <;> simp_all [D.isAgg,D.cells]
theorem z20 {x:V} (h:x.isAgg=false):x.cells=[x]:=by
 cases x <;> simp_all [V.isAgg,V.cells]
 rw [z0v h]
theorem wO {xs:List D} {v:Value}:RepX A w (.agg xs) v ↔ ∃ us,v = .agg us∧RepL A w xs us.toList:=by
 simp [RepX,D.isAgg,RepC]
theorem zE {x:D} (h:x.isAgg=false) {v:Value}:RepX A w x v ↔ RepC A w x [v]:=by simp [RepX,h]
theorem jR {x:D} {v:Value}:RepW P S ρ A w (.d x) v ↔ RepX A w x v:=by simp [RepW,RepX,V.isAgg,zR]
theorem jK {x:D} {v:Value}:RepV P S ρ A w (.d x) v ↔ RepX A w x v:=by simp only [RepV]; exact jR
theorem zH {x:V} (h:x.isAgg=false) {v:Value}:RepW P S ρ A w x v ↔ zR P S ρ A w x [v]:=by simp [RepW,h]
theorem zbd {xs:List V} {v:Value}:RepW P S ρ A w (.agg xs) v ↔ ∃ us,v = .agg us∧jA P S ρ A w xs us.toList:=by
 simp [RepW,V.isAgg,zR]
theorem zZ {x:V} (h:x.one=true) {v:Value}:RepV P S ρ A w x v ↔ RepW P S ρ A w x v:=by
 cases x <;> simp_all [V.one,RepV]
theorem zT {x:V} {v:Value} (h:RepW P S ρ A w x v):RepV P S ρ A w x v:=by
 cases x with
 | tup xs=>simp [RepW,V.isAgg,zR] at h
 | junk=>trivial
 | _=>exact h
def zhq:Value→Bool | .agg _=>false | .tuple _=>false | _=>true
theorem zmo {x:D} (h:x.isAgg=false) {v:Value} (hr:RepC A w x [v]):zhq v=true:=by
  cases x <;> simp only [D.isAgg,RepC,List.cons.injEq,and_true,Bool.true_eq_false] at h hr <;> try (subst hr; rfl)
  all_goals first | (obtain ⟨_,_,rfl,_⟩:=hr; rfl) | (obtain ⟨_,rfl,_⟩:=hr; rfl) | cases h
theorem zal {x:V} (h:x.isAgg=false) {v:Value} (hr:zR P S ρ A w x [v]):zhq v=true:=by
 cases x with
 | d x=>exact zmo h (by simpa [zR] using hr)
 | agg xs=>simp [V.isAgg] at h
 | tup xs=>simp [zR] at hr
 | junk=>simp [zR] at hr
 | _=>simp only [zR,List.cons.injEq,and_true] at hr; first | (obtain ⟨_,_,rfl,_⟩:=hr; rfl) | (obtain ⟨_,rfl,_⟩:=hr; rfl)
theorem jU : ∀ {x:D} {vs:List Value},RepC A w x vs→vs.length=x.cells.length:=by
 intro x vs h
 cases x with
 | agg xs =>
  simp only [RepC] at h
  simp only [D.cells]
  induction xs generalizing vs with
  | nil=>simp only [RepL] at h; simp [h]
  | cons x r ih =>
   simp only [RepL] at h
   obtain ⟨v,us,rfl,_,_,h4⟩:=h
   simp [ih h4]
 | _ =>
  simp only [RepC] at h
  first
   | (obtain ⟨_,_,rfl,_⟩:=h; rfl)
   | (obtain ⟨_,rfl,_⟩:=h; rfl)
   | (subst h; rfl)
theorem qY : ∀ {x:V} {vs:List Value},zR P S ρ A w x vs→vs.length=x.cells.length:=by
 intro x vs h
 cases x with
 | d x=>simp only [zR] at h; simp [V.cells,jU h]
 | agg xs =>
  simp only [zR] at h
  simp only [V.cells]
  induction xs generalizing vs with
  | nil=>simp only [jA] at h; simp [h]
  | cons x r ih =>
   simp only [jA] at h
   obtain ⟨v,us,rfl,_,_,h4⟩:=h
   simp [ih h4]
 | tup xs=>simp [zR] at h
 | junk=>simp [zR] at h
 | _ =>
  simp only [zR] at h
  first
   | (obtain ⟨_,_,rfl,_⟩:=h; rfl)
   | (obtain ⟨_,rfl,_⟩:=h; rfl)
theorem kO {x:V} {vs:List Value} (h:zR P S ρ A w x vs):jA P S ρ A w x.cells vs:=by
 cases x with
 | agg xs=>simpa only [zR,V.cells] using h
 | d x =>
  simp only [zR] at h
  simp only [V.cells]
  cases x with
  | agg xs =>
   simp only [RepC] at h
   simp only [D.cells]
   induction xs generalizing vs with
   | nil=>simpa [jA,RepL] using h
   | cons x r ih =>
    simp only [RepL] at h
    obtain ⟨v,us,rfl,h2,h3,h4⟩:=h
    simp only [List.map_cons,jA]
    exact ⟨v,us,rfl,h2,by simpa [zR] using h3,ih h4⟩
  | _ =>
   have hl:=jU h
   simp only [D.cells,List.length_cons,List.length_nil] at hl
   obtain ⟨v,rfl⟩:=List.length_eq_one_iff.1 hl
   simp only [D.cells,List.map_cons,List.map_nil,jA]
   exact ⟨v,[],rfl,rfl,by simpa [zR] using h,rfl⟩
 | tup xs=>simp [zR] at h
 | junk=>simp [zR] at h
 | _ =>
  have hl:=qY h
  simp only [V.cells,List.length_cons,List.length_nil] at hl
  obtain ⟨v,rfl⟩:=List.length_eq_one_iff.1 hl
  simp only [V.cells,jA]
  exact ⟨v,[],rfl,rfl,h,rfl⟩
theorem wI {x:D} {vs:List Value} (h:RepC A w x vs):RepL A w x.cells vs:=by
 cases x with
 | agg xs=>simpa only [RepC,D.cells] using h
 | _ =>
  have hl:=jU h
  simp only [D.cells,List.length_cons,List.length_nil] at hl
  obtain ⟨v,rfl⟩:=List.length_eq_one_iff.1 hl
  simp only [D.cells,RepL]
  exact ⟨v,[],rfl,rfl,h,rfl⟩
theorem z3p : ∀ {xs:List D} {vs:List Value},RepL A w xs vs→vs.length=xs.length
 | [],_,h=>by simp only [RepL] at h; simp [h]
 | x::r,vs,h=>by
  simp only [RepL] at h
  obtain ⟨v,us,rfl,_,_,h4⟩:=h
  simp [z3p h4]
theorem z2a : ∀ {xs:List V} {vs:List Value},jA P S ρ A w xs vs→vs.length=xs.length
 | [],_,h=>by simp only [jA] at h; simp [h]
 | x::r,vs,h=>by
  simp only [jA] at h
  obtain ⟨v,us,rfl,_,_,h4⟩:=h
  simp [z2a h4]
theorem zdp : ∀ {xs:List V} {vs:List Value},jA P S ρ A w xs vs → ∀ (i:Nat) (x:V),xs[i]? = some x → ∃ v,vs[i]? = some v∧x.isAgg=false∧zR P S ρ A w x [v]
 | [],_,_,i,x,hx=>by simp at hx
 | y::r,vs,h,i,x,hx=>by
  simp only [jA] at h
  obtain ⟨v,us,rfl,h2,h3,h4⟩:=h
  cases i with
  | zero=>simp at hx; subst hx; exact ⟨v,rfl,h2,h3⟩
  | succ i=>simp at hx; simpa using zdp h4 i x hx
theorem z78 : ∀ {xs:List D} {vs:List Value},RepL A w xs vs → ∀ (i:Nat) (x:D),xs[i]? = some x → ∃ v,vs[i]? = some v∧x.isAgg=false∧RepC A w x [v]
 | [],_,_,i,x,hx=>by simp at hx
 | y::r,vs,h,i,x,hx=>by
  simp only [RepL] at h
  obtain ⟨v,us,rfl,h2,h3,h4⟩:=h
  cases i with
  | zero=>simp at hx; subst hx; exact ⟨v,rfl,h2,h3⟩
  | succ i=>simp at hx; simpa using z78 h4 i x hx
theorem z0h : ∀ {xs:List V} {vs:List Value} (n:Nat),jA P S ρ A w xs vs→jA P S ρ A w (xs.drop n) (vs.drop n)
 | xs,vs,0,h=>h
 | [],_,n + 1,h=>by simp only [jA] at h; simp [h,jA]
 | x::r,vs,n + 1,h=>by
  simp only [jA] at h
  obtain ⟨v,us,rfl,_,_,h4⟩:=h
  simpa using z0h n h4
theorem z0i : ∀ {xs:List V} {vs:List Value} (n:Nat),jA P S ρ A w xs vs→jA P S ρ A w (xs.take n) (vs.take n)
 | xs,vs,0,h=>by simp [jA]
 | [],_,n + 1,h=>by simp only [jA] at h; simp [h,jA]
 | x::r,vs,n + 1,h=>by
  simp only [jA] at h
  obtain ⟨v,us,rfl,h2,h3,h4⟩:=h
  simp only [List.take_succ_cons,jA]
  exact ⟨v,us.take n,rfl,h2,h3,z0i n h4⟩
theorem z01 : ∀ {xs ys:List V} {vs us:List Value},jA P S ρ A w xs vs→jA P S ρ A w ys us→jA P S ρ A w (xs ++ ys) (vs ++ us)
 | [],ys,vs,us,h,h'=>by simp only [jA] at h; simpa [h] using h'
 | x::r,ys,vs,us,h,h'=>by
  simp only [jA] at h
  obtain ⟨v,ws,rfl,h2,h3,h4⟩:=h
  simp only [List.cons_append,jA]
  exact ⟨v,ws ++ us,rfl,h2,h3,z01 h4 h'⟩
theorem z2b : ∀ {xs:List D} {vs:List Value} (n:Nat),RepL A w xs vs→RepL A w (xs.drop n) (vs.drop n)
 | xs,vs,0,h=>h
 | [],_,n + 1,h=>by simp only [RepL] at h; simp [h,RepL]
 | x::r,vs,n + 1,h=>by
  simp only [RepL] at h
  obtain ⟨v,us,rfl,_,_,h4⟩:=h
  simpa using z2b n h4
theorem z2g : ∀ {xs:List D} {vs:List Value} (n:Nat),RepL A w xs vs→RepL A w (xs.take n) (vs.take n)
 | xs,vs,0,h=>by simp [RepL]
 | [],_,n + 1,h=>by simp only [RepL] at h; simp [h,RepL]
 | x::r,vs,n + 1,h=>by
  simp only [RepL] at h
  obtain ⟨v,us,rfl,h2,h3,h4⟩:=h
  simp only [List.take_succ_cons,RepL]
  exact ⟨v,us.take n,rfl,h2,h3,z2g n h4⟩
theorem z9z {xs:List V} {vs:List Value} (h:jA P S ρ A w xs vs) : ∀ u ∈ vs,zhq u=true:=by
 induction xs generalizing vs with
 | nil=>simp only [jA] at h; simp [h]
 | cons x r ih =>
  simp only [jA] at h
  obtain ⟨v,us,rfl,h2,h3,h4⟩:=h
  intro u hu
  rcases List.mem_cons.1 hu with rfl | hu
  ·exact zal h2 h3
  ·exact ih h4 u hu
theorem qU {k:Nat} : ∀ {xs:List V} {vs:List Value},qN P S ρ A w k xs vs→vs.length=xs.length * k
 | [],_,h=>by simp only [qN] at h; simp [h]
 | x::r,vs,h=>by
  simp only [qN] at h
  obtain ⟨us,ws,rfl,h2,_,h4⟩:=h
  simp [qU h4,h2,Nat.succ_mul,Nat.add_comm]
theorem z7q {k:Nat} : ∀ {xs:List D} {vs:List Value},RepE A w k xs vs→vs.length=xs.length * k
 | [],_,h=>by simp only [RepE] at h; simp [h]
 | x::r,vs,h=>by
  simp only [RepE] at h
  obtain ⟨us,ws,rfl,h2,_,h4⟩:=h
  simp [z7q h4,h2,Nat.succ_mul,Nat.add_comm]
theorem kS {k:Nat} : ∀ {xs:List V} {vs:List Value} (n:Nat),n ≤ xs.length→qN P S ρ A w k xs vs→qN P S ρ A w k (xs.take n) (vs.take (n * k))∧qN P S ρ A w k (xs.drop n) (vs.drop (n * k))
 | xs,vs,0,_,h=>by simp [qN]; exact h
 | [],_,n + 1,hn,h=>by simp at hn
 | x::r,vs,n + 1,hn,h=>by
  simp only [qN] at h
  obtain ⟨us,ws,rfl,h2,h3,h4⟩:=h
  have ih:=kS n (by simpa using hn) h4
  have e:(n + 1) * k=us.length + n * k:=by rw [h2,Nat.succ_mul]; omega
  constructor
  ·simp only [List.take_succ_cons,qN]
   exact ⟨us,ws.take (n * k),by rw [e,List.take_length_add_append],h2,h3,ih.1⟩
  ·simp only [List.drop_succ_cons]
   rw [e,List.drop_length_add_append]
   exact ih.2
theorem vN {k:Nat} : ∀ {xs:List D} {vs:List Value} (n:Nat),n ≤ xs.length→RepE A w k xs vs→RepE A w k (xs.take n) (vs.take (n * k))∧RepE A w k (xs.drop n) (vs.drop (n * k))
 | xs,vs,0,_,h=>by simp [RepE]; exact h
 | [],_,n + 1,hn,h=>by simp at hn
 | x::r,vs,n + 1,hn,h=>by
  simp only [RepE] at h
  obtain ⟨us,ws,rfl,h2,h3,h4⟩:=h
  have ih:=vN n (by simpa using hn) h4
  have e:(n + 1) * k=us.length + n * k:=by rw [h2,Nat.succ_mul]; omega
  constructor
  ·simp only [List.take_succ_cons,RepE]
   exact ⟨us,ws.take (n * k),by rw [e,List.take_length_add_append],h2,h3,ih.1⟩
  ·simp only [List.drop_succ_cons]
   rw [e,List.drop_length_add_append]
   exact ih.2
theorem vT {k:Nat} : ∀ {xs ys:List V} {vs us:List Value},qN P S ρ A w k xs vs→qN P S ρ A w k ys us→qN P S ρ A w k (xs ++ ys) (vs ++ us)
 | [],ys,vs,us,h,h'=>by simp only [qN] at h; simpa [h] using h'
 | x::r,ys,vs,us,h,h'=>by
  simp only [qN] at h
  obtain ⟨v,ws,rfl,h2,h3,h4⟩:=h
  simp only [List.cons_append,qN,List.append_assoc]
  exact ⟨v,ws ++ us,rfl,h2,h3,vT h4 h'⟩
theorem z1d {k:Nat} : ∀ {xs:List V} {vs:List Value},qN P S ρ A w k xs vs → ∀ (i:Nat) (x:V),xs[i]? = some x→zR P S ρ A w x ((vs.drop (i * k)).take k)∧i * k + k ≤ vs.length
 | [],_,_,i,x,hx=>by simp at hx
 | y::r,vs,h,i,x,hx=>by
  simp only [qN] at h
  obtain ⟨us,ws,rfl,h2,h3,h4⟩:=h
  cases i with
  | zero =>
   simp at hx; subst hx
   constructor
   ·simpa [← h2] using h3
   ·simp [h2]
  | succ i =>
   simp at hx
   have ih:=z1d h4 i x hx
   have e:(i + 1) * k=us.length + i * k:=by rw [h2,Nat.succ_mul]; omega
   constructor
   ·rw [e,List.drop_length_add_append]; exact ih.1
   ·rw [List.length_append,e]; have:=ih.2; omega
theorem z33 {k:Nat} : ∀ {xs:List D} {vs:List Value},RepE A w k xs vs → ∀ (i:Nat) (x:D),xs[i]? = some x→RepC A w x ((vs.drop (i * k)).take k)∧i * k + k ≤ vs.length
 | [],_,_,i,x,hx=>by simp at hx
 | y::r,vs,h,i,x,hx=>by
  simp only [RepE] at h
  obtain ⟨us,ws,rfl,h2,h3,h4⟩:=h
  cases i with
  | zero =>
   simp at hx; subst hx
   constructor
   ·simpa [← h2] using h3
   ·simp [h2]
  | succ i =>
   simp at hx
   have ih:=z33 h4 i x hx
   have e:(i + 1) * k=us.length + i * k:=by rw [h2,Nat.succ_mul]; omega
   constructor
   ·rw [e,List.drop_length_add_append]; exact ih.1
   ·rw [List.length_append,e]; have:=ih.2; omega
theorem z5h {k:Nat} : ∀ {xs:List D} {vs:List Value},RepE A w k xs vs→qN P S ρ A w k (xs.map .d) vs
 | [],_,h=>by simpa [RepE,qN] using h
 | x::r,vs,h=>by
  simp only [RepE] at h
  obtain ⟨us,ws,rfl,h2,h3,h4⟩:=h
  simp only [List.map_cons,qN]
  exact ⟨us,ws,rfl,h2,by simpa [zR] using h3,z5h h4⟩
theorem z7e : ∀ {xs:List V} {vs:List Value},jA P S ρ A w xs vs→qN P S ρ A w 1 xs vs
 | [],_,h=>by simpa [jA,qN] using h
 | x::r,vs,h=>by
  simp only [jA] at h
  obtain ⟨v,us,rfl,_,h3,h4⟩:=h
  simp only [qN]
  exact ⟨[v],us,rfl,rfl,h3,z7e h4⟩
theorem z2f : ∀ {xs:List D} {vs:List Value},RepL A w xs vs→RepE A w 1 xs vs
 | [],_,h=>by simpa [RepL,RepE] using h
 | x::r,vs,h=>by
  simp only [RepL] at h
  obtain ⟨v,us,rfl,_,h3,h4⟩:=h
  simp only [RepE]
  exact ⟨[v],us,rfl,rfl,h3,z2f h4⟩
theorem z7t {k:Nat} : ∀ {xs:List V} {vs:List Value},qN P S ρ A w k xs vs → ∀ (i:Nat) (x:V) (us:List Value),i < xs.length→us.length=k→zR P S ρ A w x us→qN P S ρ A w k (xs.set i x) (vs.take (i * k) ++ us ++ vs.drop (i * k + k))
 | [],_,_,i,x,us,hi,_,_=>by simp at hi
 | y::r,vs,h,i,x,us,hi,hl,hx=>by
  simp only [qN] at h
  obtain ⟨vs1,ws,rfl,h2,h3,h4⟩:=h
  cases i with
  | zero =>
   simp only [List.set_cons_zero,qN,Nat.zero_mul,List.take_zero,List.nil_append,Nat.zero_add]
   exact ⟨us,ws,by rw [← h2,List.drop_left],hl,hx,h4⟩
  | succ i =>
   have ih:=z7t h4 i x us (by simpa using hi) hl hx
   have e:(i + 1) * k=vs1.length + i * k:=by rw [h2,Nat.succ_mul]; omega
   simp only [List.set_cons_succ,qN]
   refine ⟨vs1,_,?_,h2,h3,ih⟩
   rw [e,List.take_length_add_append,show vs1.length + i * k + k=vs1.length + (i * k + k) by omega,List.drop_length_add_append]
   simp [List.append_assoc]
theorem z58 : ∀ {T:List V} {us:List Value},RepT P S ρ A w T us → ∀ (i:Nat) (x:V),T[i]? = some x → ∃ u,us[i]? = some u∧RepV P S ρ A w x u
 | [],_,_,i,x,hx=>by simp at hx
 | y::r,us,h,i,x,hx=>by
  simp only [RepT] at h
  obtain ⟨v,ws,rfl,h2,h3⟩:=h
  cases i with
  | zero=>simp at hx; subst hx; exact ⟨v,rfl,h2⟩
  | succ i=>simp at hx; simpa using z58 h3 i x hx
theorem z1q : ∀ {T:List V} {us:List Value},RepT P S ρ A w T us→us.length=T.length
 | [],_,h=>by simp only [RepT] at h; simp [h]
 | y::r,us,h=>by
  simp only [RepT] at h
  obtain ⟨v,ws,rfl,h2,h3⟩:=h
  simp [z1q h3]
theorem zba : ∀ {T:List V} {us:List Value},RepT P S ρ A w T us → ∀ (i:Nat) (x:V) (u:Value),RepV P S ρ A w x u→RepT P S ρ A w (T.set i x) (us.set i u)
 | [],_,h,i,x,u,_=>by simp only [RepT] at h; simp [h,RepT]
 | y::r,us,h,i,x,u,hx=>by
  simp only [RepT] at h
  obtain ⟨v,ws,rfl,h2,h3⟩:=h
  cases i with
  | zero=>simp only [List.set_cons_zero,RepT]; exact ⟨u,ws,rfl,hx,h3⟩
  | succ i=>simp only [List.set_cons_succ,RepT]; exact ⟨v,_,rfl,h2,zba h3 i x u hx⟩
theorem z7u : ∀ {T T':List V} {us us':List Value},RepT P S ρ A w T us→RepT P S ρ A w T' us'→RepT P S ρ A w (T ++ T') (us ++ us')
 | [],T',us,us',h,h'=>by simp only [RepT] at h; simpa [h] using h'
 | y::r,T',us,us',h,h'=>by
  simp only [RepT] at h
  obtain ⟨v,ws,rfl,h2,h3⟩:=h
  simp only [List.cons_append,RepT]
  exact ⟨v,ws ++ us',rfl,h2,z7u h3 h'⟩
theorem vJ:RepV P S ρ A w (.tup []) undef:=by
 simp only [RepV]; exact ⟨#[],rfl,by simp [qS]⟩
theorem zh8 (n:Nat):RepT P S ρ A w (List.replicate n (.tup [])) (List.replicate n undef):=by
 induction n with
 | zero=>simp [RepT]
 | succ n ih=>simp only [List.replicate_succ,RepT]; exact ⟨_,_,rfl,vJ,ih⟩
theorem z6f : ∀ {xs:List V} {us:List Value},qS P S ρ A w xs us→us.length=xs.length
 | [],_,h=>by simp only [qS] at h; simp [h]
 | y::r,us,h=>by
  simp only [qS] at h
  obtain ⟨v,ws,rfl,h2,h3⟩:=h
  simp [z6f h3]
theorem z5t : ∀ {xs:List V} {us:List Value},qS P S ρ A w xs us→RepT P S ρ A w xs us
 | [],_,h=>by simpa [qS,RepT] using h
 | y::r,us,h=>by
  simp only [qS] at h
  obtain ⟨v,ws,rfl,h2,h3⟩:=h
  simp only [RepT]
  exact ⟨v,ws,rfl,zT h2,z5t h3⟩
theorem kK : ∀ {T T':List V} {us us':List Value},qS P S ρ A w T us→qS P S ρ A w T' us'→qS P S ρ A w (T ++ T') (us ++ us')
 | [],T',us,us',h,h'=>by simp only [qS] at h; simpa [h] using h'
 | y::r,T',us,us',h,h'=>by
  simp only [qS] at h
  obtain ⟨v,ws,rfl,h2,h3⟩:=h
  simp only [List.cons_append,qS]
  exact ⟨v,ws ++ us',rfl,h2,kK h3 h'⟩
theorem z38 {v:Value} {x:V} (h:z6s v=some x):x.isAgg=false∧zR P S ρ A w x [v]:=by
 unfold z6s at h
 split at h <;> simp only [Option.some.injEq,reduceCtorEq] at h <;> subst h
 all_goals exact ⟨rfl,by simp [zR,RepC,zkv]⟩
theorem z8l : ∀ {cs:List Value} {xs:List V},allO z6s cs=some xs→jA P S ρ A w xs cs
 | [],xs,h=>by simp only [allO,Option.some.injEq] at h; subst h; simp [jA]
 | c::r,xs,h=>by
  simp only [allO] at h
  cases h1:z6s c with
  | none=>simp [h1] at h
  | some y =>
   cases h2:allO z6s r with
   | none=>simp [h1,h2] at h
   | some ys =>
    simp only [h1,h2,Option.some.injEq] at h
    subst h
    simp only [jA]
    exact ⟨c,r,rfl,(z38 (P:=P) (S:=S) (ρ:=ρ) (A:=A) (w:=w) h1).1,(z38 h1).2,z8l h2⟩
theorem z0l {v:Value} {x:V} (h:zhd v=some x):RepW P S ρ A w x v:=by
 unfold zhd at h
 split at h
 ·rename_i cs
  cases h1:allO z6s cs.toList with
  | none=>simp [h1] at h
  | some xs =>
   simp only [h1,Option.map_some,Option.some.injEq] at h
   subst h
   exact zbd.2 ⟨cs,rfl,z8l h1⟩
 ·rename_i f a b
  split at h
  ·rename_i hab
   simp only [Bool.and_eq_true,decide_eq_true_eq] at hab
   simp only [Option.some.injEq] at h
   subst h
   exact (zH rfl).2 (by simp only [zR]; exact ⟨_,_,rfl,by simp [z1l,Array.size_eq_zero_iff.1 hab.1],by simp [z1l,Array.size_eq_zero_iff.1 hab.2]⟩)
  ·cases h
 ·exact (zH (z38 (P:=P) (S:=S) (ρ:=ρ) (A:=A) (w:=w) h).1).2 (z38 h).2
theorem z1g {T:List V} {a:Act} (hT:RepT P S ρ A w T a.tmps.toList) (x:Operand):RepV P S ρ A w (zC T x) (a.eval x):=by
 cases x with
 | tmp t =>
  simp only [zC,Act.eval]
  cases h:T[t]? with
  | none=>simp [List.getD,h,RepV]
  | some y =>
   obtain ⟨u,h1,h2⟩:=z58 hT t y h
   have:a.tmps.getD t undef=u:=by
    have h1':a.tmps[t]? = some u:=by simpa using h1
    simp [Array.getD_eq_getD_getElem?,h1']
   simp only [List.getD,h,Option.getD_some,this]
   exact h2
 | const v =>
  simp only [zC,Act.eval]
  cases h:zhd v with
  | none=>simp [RepV]
  | some y=>exact zT (z0l h)
 | global g=>simp [zC,RepV]
 | func f=>exact zT ((zH rfl).2 (by simp only [zR,Act.eval]; exact ⟨_,_,rfl,by simp [z1l],by simp [z1l]⟩))
end
section
variable {P:Program} {S:zA} {ρ:Nat→Nat} {A:Nat→Prop} {w:World}
theorem Step.refl:Step S ρ A w S ρ A w where
 os:=rfl
 tape:=rfl
 output:=rfl
 size:=Nat.le_refl _
 keep:=fun _ _ _=>rfl
 keepA:=fun _ _=>rfl
 amono:=fun _ h=>h
 anew:=fun _ h=>.inl h
 onew:=fun _ h=>.inl h
 sle:=fun id o h _=>⟨o,h,o.le_refl,.inr ⟨rfl,fun c e f hc=>⟨c,e,f,hc,rfl⟩⟩⟩
theorem Ob.le_trans {a b c:Ob} (h1:a.le b) (h2:b.le c):a.le c:=by
 cases a <;> cases b <;> cases c <;> simp_all [Ob.le]
theorem SLe.trans {S1 S2 S3:zA} {ρ1 ρ2 ρ3:Nat→Nat} {w1 w2 w3:World} (h1:SLe S1 ρ1 w1 S2 ρ2 w2) (h2:SLe S2 ρ2 w2 S3 ρ3 w3):SLe S1 ρ1 w1 S3 ρ3 w3:=by
 intro id o ho hne
 obtain ⟨o',ho',hle,hd⟩:=h1 id o ho hne
 obtain ⟨o'',ho'',hle',hd'⟩:=h2 id o' ho' (by rintro rfl; apply hne; cases o <;> simp_all [Ob.le])
 refine ⟨o'',ho'',Ob.le_trans hle hle',?_⟩
 rcases hd' with rfl | ⟨hr',hc'⟩
 ·exact .inl rfl
 ·rcases hd with rfl | ⟨hr,hc⟩
  ·left; cases o'' <;> simp_all [Ob.le]
  ·right
   refine ⟨hr'.trans hr,fun c e f h=>?_⟩
   obtain ⟨c',e',f',h3,h4⟩:=hc c e f h
   obtain ⟨c'',e'',f'',h5,h6⟩:=hc' c' e' f' (by rw [hr]; exact h3)
   exact ⟨c'',e'',f'',by rw [hr] at h5; exact h5,h6.trans h4⟩
theorem Step.trans {S1 S2 S3:zA} {ρ1 ρ2 ρ3:Nat→Nat} {A1 A2 A3:Nat→Prop} {w1 w2 w3:World} (h1:Step S1 ρ1 A1 w1 S2 ρ2 A2 w2) (h2:Step S2 ρ2 A2 w2 S3 ρ3 A3 w3):Step S1 ρ1 A1 w1 S3 ρ3 A3 w3 where
 os:=h2.os.trans h1.os
 tape:=h2.tape.trans h1.tape
 output:=h2.output.trans h1.output
 size:=Nat.le_trans h1.size h2.size
 keep:=fun b hb ho=>(h2.keep b (Nat.lt_of_lt_of_le hb h1.size) (fun h=>(h1.onew b h).elim ho (fun h=>by omega))).trans (h1.keep b hb ho)
 keepA:=fun b hb=>(h2.keepA b (h1.amono b hb)).trans (h1.keepA b hb)
 amono:=fun b hb=>h2.amono b (h1.amono b hb)
 anew:=fun b hb=>by
  rcases h2.anew b hb with h | h | h
  ·exact h1.anew b h
  ·exact .inr (h1.onew b h)
  ·exact .inr (.inr (Nat.le_trans h1.size h))
 onew:=fun b hb=>by
  rcases h2.onew b hb with h | h
  ·exact h1.onew b h
  ·exact .inr (Nat.le_trans h1.size h)
 sle:=h1.sle.trans h2.sle
end
section
variable {P:Program} {S S':zA} {ρ ρ':Nat→Nat} {A A':Nat→Prop} {w w':World}
theorem kA {b:Nat} {x:Obj} (hx:w.heap[b]? = some x):b < w.heap.size:=by
 rcases Nat.lt_or_ge b w.heap.size with h' | h'
 ·exact h'
 ·simp [Array.getElem?_eq_none h'] at hx
theorem ObOk.lt {b:Nat} {o:Ob} (h:ObOk P S ρ A w b o) (hl:o ≠ .dead) (hl2:o ≠ .hole):b < w.heap.size:=by
 cases o <;> simp only [ObOk] at h
 ·obtain ⟨k,c,us,rest,_,h1,_⟩:=h; exact kA h1
 ·obtain ⟨en,h1,_⟩:=h; exact kA h1
 ·exact kA h
 ·obtain ⟨r,h1,_⟩:=h; exact kA h1
 ·obtain ⟨k,c,f,us,rest,_,_,h1,_⟩:=h; exact kA h1
 ·obtain ⟨en,cl,_,h1,_⟩:=h; exact kA h1
 ·exact absurd rfl hl
 ·exact absurd rfl hl2
theorem ObOk.mono (hA : ∀ b,A b→A' b) (hw : ∀ b,A b→w'.heap[b]? = w.heap[b]?) (hs:SLe S ρ w S' ρ' w') {b:Nat} {o:Ob} (hb:o.live=true→w'.heap[b]? = w.heap[b]?)
  (h:ObOk P S ρ A w b o):ObOk P S' ρ' A' w' b o:=by
 cases o with
 | row xs e =>
  simp only [ObOk] at h ⊢
  obtain ⟨k,c,us,rest,h1,h2,h3,h4⟩:=h
  exact ⟨k,c,us,rest,h1,(hb rfl).trans h2,h3,jC hA hw hs k xs us h4⟩
 | mp es clock =>
  simp only [ObOk] at h ⊢
  obtain ⟨en,h1,h2,h3⟩:=h
  exact ⟨en,(hb rfl).trans h1,z5u hA hw hs es _ h2,h3⟩
 | iter s pos =>
  simp only [ObOk] at h ⊢
  exact (hb rfl).trans h
 | mit mid since seen last =>
  simp only [ObOk] at h ⊢
  obtain ⟨r,h1,h2⟩:=h
  exact ⟨r,(hb rfl).trans h1,h2.mono hs⟩
 | fz xs e =>
  simp only [ObOk] at h ⊢
  obtain ⟨k,c,f,us,rest,h1,h2,h3,h4,h5⟩:=h
  exact ⟨k,c,f,us,rest,h1,hA _ h2,(hw _ h2).trans h3,h4,z2p hA hw k xs us h5⟩
 | fm es =>
  simp only [ObOk] at h ⊢
  obtain ⟨en,clock,h1,h2,h3⟩:=h
  exact ⟨en,clock,hA _ h1,(hw _ h1).trans h2,z4h hA hw es _ h3⟩
 | dead=>trivial
 | hole=>trivial
theorem Inv.world (h:Inv P S ρ A w) (hsz:w.heap.size ≤ w'.heap.size) (hold : ∀ b,b < w.heap.size→w'.heap[b]? = w.heap[b]?) (h1:w'.os=w.os) (h2:w'.tape=w.tape) (h3:w'.output=w.output) :
  Inv P S ρ A w'∧Step S ρ A w S ρ A w':=by
 have hs:SLe S ρ w S ρ w':=fun id o ho _=>⟨o,ho,o.le_refl,by
  by_cases hd:o = .dead
  ·exact .inl hd
  ·exact .inr ⟨rfl,fun c e f hc=>⟨c,e,f,(hold _ (kA hc)).trans hc,rfl⟩⟩⟩
 have hA : ∀ b,A b→w'.heap[b]? = w.heap[b]? := fun b hb=>hold b (h.lt b hb)
 refine ⟨⟨fun id o ho=>?_,h.inj,h.own,fun b hb=>Nat.lt_of_lt_of_le (h.lt b hb) hsz,h.gl.step (fun _ h=>h) hA⟩,⟨h1,h2,h3,hsz,fun b hb _=>hold b hb,hA,fun _ h=>h,fun _ h=>.inl h,fun _ h=>.inl h,hs⟩⟩
 exact (h.ok id o ho).mono (fun _ h=>h) hA hs (fun hl=>hold _ ((h.ok id o ho).lt (by rintro rfl; cases hl) (by rintro rfl; cases hl)))
theorem Inv.push (h:Inv P S ρ A w) {o:Ob} (hl:o.live=true) (hsz:w'.heap.size=w.heap.size + 1) (hold : ∀ b,b < w.heap.size→w'.heap[b]? = w.heap[b]?) (h1:w'.os=w.os) (h2:w'.tape=w.tape) (h3:w'.output=w.output)
  (hok:SLe S ρ w (S ++ [o]) (fun i=>if i=S.length then w.heap.size else ρ i) w'→(∀ b,A b→w'.heap[b]? = w.heap[b]?)→ObOk P (S ++ [o]) (fun i=>if i=S.length then w.heap.size else ρ i) A w' w.heap.size o) :
  Inv P (S ++ [o]) (fun i=>if i=S.length then w.heap.size else ρ i) A w'∧Step S ρ A w (S ++ [o]) (fun i=>if i=S.length then w.heap.size else ρ i) A w':=by
 have lt_of : ∀ {id:Nat} {x:Ob},S[id]? = some x→id < S.length:=fun {id x} hx=>by
  rcases Nat.lt_or_ge id S.length with h' | h'
  ·exact h'
  ·simp [List.getElem?_eq_none h'] at hx
 have hs:SLe S ρ w (S ++ [o]) (fun i=>if i=S.length then w.heap.size else ρ i) w':=fun id x hx hnh=>by
  have hid:=lt_of hx
  refine ⟨x,by rw [List.getElem?_append_left hid]; exact hx,x.le_refl,?_⟩
  by_cases hd:x = .dead
  ·exact .inl hd
  ·exact .inr ⟨by simp [Nat.ne_of_lt hid],fun c e f hc=>⟨c,e,f,(hold _ (kA hc)).trans hc,rfl⟩⟩
 have hA : ∀ b,A b→w'.heap[b]? = w.heap[b]? := fun b hb=>hold b (h.lt b hb)
 have split : ∀ id x,(S ++ [o])[id]? = some x→(id < S.length∧S[id]? = some x) ∨ (id=S.length∧x=o):=by
  intro id x hx
  rcases Nat.lt_trichotomy id S.length with h' | h' | h'
  ·rw [List.getElem?_append_left h'] at hx; exact .inl ⟨h',hx⟩
  ·subst h'; simp at hx; exact .inr ⟨rfl,hx.symm⟩
  ·rw [List.getElem?_eq_none (by simp; omega)] at hx; cases hx
 have hlt : ∀ id x,S[id]? = some x→x.live=true→ρ id < w.heap.size:=fun id x hx hxl=>(h.ok id x hx).lt (by rintro rfl; cases hxl) (by rintro rfl; cases hxl)
 refine ⟨⟨fun id x hx=>?_,fun i j x y hx hy hxl hyl hij=>?_,fun i x hx hxl=>?_,fun b hb=>by have:=h.lt b hb; omega,h.gl.step (fun _ h=>h) hA⟩,⟨h1,h2,h3,by omega,fun b hb _=>hold b hb,hA,fun _ h=>h,fun _ h=>.inl h,fun b hb=>?_,hs⟩⟩
 ·rcases split id x hx with ⟨h',hx'⟩ | ⟨rfl,rfl⟩
  ·simp only [if_neg (Nat.ne_of_lt h')]
   exact (h.ok id x hx').mono (fun _ h=>h) hA hs (fun hl=>hold _ ((h.ok id x hx').lt (by rintro rfl; cases hl) (by rintro rfl; cases hl)))
  ·simp only [if_true]
   exact hok hs hA
 ·rcases split i x hx with ⟨hi,hx'⟩ | ⟨rfl,rfl⟩ <;> rcases split j y hy with ⟨hj,hy'⟩ | ⟨rfl,rfl⟩
  ·simp only [if_neg (Nat.ne_of_lt hi),if_neg (Nat.ne_of_lt hj)] at hij
   exact h.inj i j x y hx' hy' hxl hyl hij
  ·simp only [if_neg (Nat.ne_of_lt hi),if_true] at hij
   have:=hlt i x hx' hxl; omega
  ·simp only [if_neg (Nat.ne_of_lt hj),if_true] at hij
   have:=hlt j y hy' hyl; omega
  ·rfl
 ·rcases split i x hx with ⟨hi,hx'⟩ | ⟨rfl,rfl⟩
  ·simp only [if_neg (Nat.ne_of_lt hi)]
   exact h.own i x hx' hxl
  ·simp only [if_true]
   intro hb
   have:=h.lt _ hb; omega
 ·obtain ⟨id,x,hx,hxl,rfl⟩:=hb
  rcases split id x hx with ⟨hi,hx'⟩ | ⟨rfl,rfl⟩
  ·simp only [if_neg (Nat.ne_of_lt hi)]
   exact .inl ⟨id,x,hx',hxl,rfl⟩
  ·simp only [if_true]
   exact .inr (Nat.le_refl _)
theorem wG {id:Nat} {o':Ob} {i:Nat} {x:Ob} (hx:(S.set id o')[i]? = some x):(i=id∧x=o'∧id < S.length) ∨ (i ≠ id∧S[i]? = some x):=by
 rw [List.getElem?_set] at hx
 by_cases hi:id=i
 ·subst hi
  simp only [if_true] at hx
  split at hx
  ·rename_i hlt
   simp only [Option.some.injEq] at hx
   exact .inl ⟨rfl,hx.symm,hlt⟩
  ·cases hx
 ·rw [if_neg hi] at hx
  exact .inr ⟨fun h=>hi h.symm,hx⟩
theorem Inv.turn (h:Inv P S ρ A w) {id:Nat} {o o':Ob} (hS:S[id]? = some o) (hl:o.live=true) (hle:o.le o') (hsz:w'.heap.size=w.heap.size) (hold : ∀ b,b ≠ ρ id→w'.heap[b]? = w.heap[b]?)
  (hc:o' = .dead ∨ ∀ c e f,w.heap[ρ id]? = some (.cells c e f) → ∃ c' e' f',w'.heap[ρ id]? = some (.cells c' e' f')∧c'.size=c.size) (h1:w'.os=w.os) (h2:w'.tape=w.tape) (h3:w'.output=w.output) (hl':o'.live=true ∨ o' = .dead)
  (hok:SLe S ρ w (S.set id o') ρ w'→(∀ b,A b→w'.heap[b]? = w.heap[b]?)→ObOk P (S.set id o') ρ A w' (ρ id) o') :
  Inv P (S.set id o') ρ A w'∧Step S ρ A w (S.set id o') ρ A w':=by
 have hid:id < S.length:=by
  rcases Nat.lt_or_ge id S.length with h' | h'
  ·exact h'
  ·simp [List.getElem?_eq_none h'] at hS
 have hne : ∀ j x,S[j]? = some x→x.live=true→j ≠ id→ρ j ≠ ρ id:=fun j x hx hxl hj he=>hj (h.inj j id x o hx hS hxl hl he)
 have hA : ∀ b,A b→w'.heap[b]? = w.heap[b]? := fun b hb=>hold b (fun he=>h.own id o hS hl (he ▸ hb))
 have hs:SLe S ρ w (S.set id o') ρ w':=fun j x hx hnh=>by
  by_cases hj:j=id
  ·subst hj
   rw [hS] at hx
   cases hx
   refine ⟨o',by rw [List.getElem?_set_self hid],hle,?_⟩
   rcases hc with hc | hc
   ·exact .inl hc
   ·exact .inr ⟨rfl,hc⟩
  ·refine ⟨x,by rw [List.getElem?_set_ne (fun h=>hj h.symm)]; exact hx,x.le_refl,?_⟩
   by_cases hd:x = .dead
   ·exact .inl hd
   ·refine .inr ⟨rfl,fun c e f hcc=>?_⟩
    have:ρ j ≠ ρ id:=by
     by_cases hxl:x.live=true
     ·exact hne j x hx hxl hj
     ·intro he
      have hok':=h.ok j x hx
      have hAj:A (ρ j):=by
       cases x <;> simp only [Ob.live,not_true_eq_false] at hxl
       ·simp only [ObOk] at hok'; obtain ⟨_,_,_,_,_,_,h',_⟩:=hok'; exact h'
       ·simp only [ObOk] at hok'; obtain ⟨_,_,h',_⟩:=hok'; exact h'
       ·exact absurd rfl hd
       ·exact absurd rfl hnh
      exact h.own id o hS hl (he ▸ hAj)
    exact ⟨c,e,f,(hold _ this).trans hcc,rfl⟩
 refine ⟨⟨fun j x hx=>?_,fun i j x y hx hy hxl hyl hij=>?_,fun i x hx hxl=>?_,fun b hb=>by have:=h.lt b hb; omega,h.gl.step (fun _ h=>h) hA⟩,⟨h1,h2,h3,by omega,fun b hb hb'=>hold b (fun he=>hb' ⟨id,o,hS,hl,he.symm⟩),hA,fun _ h=>h,fun _ h=>.inl h,fun b hb=>?_,hs⟩⟩
 ·rcases wG hx with ⟨rfl,rfl,_⟩ | ⟨hj,hx'⟩
  ·exact hok hs hA
  ·exact (h.ok j x hx').mono (fun _ h=>h) hA hs (fun hxl=>hold _ (hne j x hx' hxl hj))
 ·rcases wG hx with ⟨rfl,rfl,_⟩ | ⟨hi,hx'⟩ <;> rcases wG hy with ⟨rfl,rfl,_⟩ | ⟨hj,hy'⟩
  ·rfl
  ·exact absurd hij.symm (hne j y hy' hyl hj)
  ·exact absurd hij (hne i x hx' hxl hi)
  ·exact h.inj i j x y hx' hy' hxl hyl hij
 ·rcases wG hx with ⟨rfl,rfl,_⟩ | ⟨hi,hx'⟩
  ·exact h.own i o hS hl
  ·exact h.own i x hx' hxl
 ·obtain ⟨j,x,hx,hxl,rfl⟩:=hb
  rcases wG hx with ⟨rfl,rfl,_⟩ | ⟨hj,hx'⟩
  ·exact .inl ⟨j,o,hS,hl,rfl⟩
  ·exact .inl ⟨j,x,hx',hxl,rfl⟩
theorem Inv.move (h:Inv P S ρ A w) {id:Nat} {o o':Ob} (hS:S[id]? = some o) (hl:o.live=true) (hsz:w'.heap.size=w.heap.size) (hold : ∀ b,b ≠ ρ id→w'.heap[b]? = w.heap[b]?)
  (h1:w'.os=w.os) (h2:w'.tape=w.tape) (h3:w'.output=w.output) (hl':o'.live=true)
  (hok:SLe S ρ w (S.set id .dead ++ [o']) (fun i=>if i=S.length then ρ id else ρ i) w'→(∀ b,A b→w'.heap[b]? = w.heap[b]?)→ObOk P (S.set id .dead ++ [o']) (fun i=>if i=S.length then ρ id else ρ i) A w' (ρ id) o') :
  Inv P (S.set id .dead ++ [o']) (fun i=>if i=S.length then ρ id else ρ i) A w'∧Step S ρ A w (S.set id .dead ++ [o']) (fun i=>if i=S.length then ρ id else ρ i) A w':=by
 have lt_of : ∀ {id:Nat} {x:Ob},S[id]? = some x→id < S.length:=fun {id x} hx=>by
  rcases Nat.lt_or_ge id S.length with h' | h'
  ·exact h'
  ·simp [List.getElem?_eq_none h'] at hx
 have hid:=lt_of hS
 have hne : ∀ j x,S[j]? = some x→x.live=true→j ≠ id→ρ j ≠ ρ id:=fun j x hx hxl hj he=>hj (h.inj j id x o hx hS hxl hl he)
 have hA : ∀ b,A b→w'.heap[b]? = w.heap[b]? := fun b hb=>hold b (fun he=>h.own id o hS hl (he ▸ hb))
 have split : ∀ i x,(S.set id .dead ++ [o'])[i]? = some x→(i=S.length∧x=o') ∨ (i=id∧x = .dead) ∨ (i ≠ id∧i < S.length∧S[i]? = some x):=by
  intro i x hx
  rcases Nat.lt_trichotomy i S.length with h' | h' | h'
  ·rw [List.getElem?_append_left (by simpa using h')] at hx
   rcases wG hx with ⟨rfl,rfl,_⟩ | ⟨hj,hx'⟩
   ·exact .inr (.inl ⟨rfl,rfl⟩)
   ·exact .inr (.inr ⟨hj,h',hx'⟩)
  ·subst h'
   rw [List.getElem?_append_right (by simp)] at hx
   simp at hx
   exact .inl ⟨rfl,hx.symm⟩
  ·rw [List.getElem?_eq_none (by simp; omega)] at hx; cases hx
 have hs:SLe S ρ w (S.set id .dead ++ [o']) (fun i=>if i=S.length then ρ id else ρ i) w':=fun j x hx hnh=>by
  have hj':=lt_of hx
  by_cases hj:j=id
  ·subst hj
   exact ⟨.dead,by rw [List.getElem?_append_left (by simpa using hj'),List.getElem?_set_self hj'],by cases x <;> simp [Ob.le],.inl rfl⟩
  ·refine ⟨x,by rw [List.getElem?_append_left (by simpa using hj'),List.getElem?_set_ne (fun h=>hj h.symm)]; exact hx,x.le_refl,?_⟩
   by_cases hd:x = .dead
   ·exact .inl hd
   ·refine .inr ⟨by simp [Nat.ne_of_lt hj'],fun c e f hcc=>?_⟩
    have:ρ j ≠ ρ id:=by
     by_cases hxl:x.live=true
     ·exact hne j x hx hxl hj
     ·intro he
      have hok':=h.ok j x hx
      have hAj:A (ρ j):=by
       cases x <;> simp only [Ob.live,not_true_eq_false] at hxl
       ·simp only [ObOk] at hok'; obtain ⟨_,_,_,_,_,_,h',_⟩:=hok'; exact h'
       ·simp only [ObOk] at hok'; obtain ⟨_,_,h',_⟩:=hok'; exact h'
       ·exact absurd rfl hd
       ·exact absurd rfl hnh
      exact h.own id o hS hl (he ▸ hAj)
    exact ⟨c,e,f,(hold _ this).trans hcc,rfl⟩
 refine ⟨⟨fun j x hx=>?_,fun i j x y hx hy hxl hyl hij=>?_,fun i x hx hxl=>?_,fun b hb=>by have:=h.lt b hb; omega,h.gl.step (fun _ h=>h) hA⟩,⟨h1,h2,h3,by omega,fun b hb hb'=>hold b (fun he=>hb' ⟨id,o,hS,hl,he.symm⟩),hA,fun _ h=>h,fun _ h=>.inl h,fun b hb=>?_,hs⟩⟩
 ·rcases split j x hx with ⟨rfl,rfl⟩ | ⟨rfl,rfl⟩ | ⟨hj,hj',hx'⟩
  ·simp only [if_true]; exact hok hs hA
  ·trivial
  ·simp only [if_neg (Nat.ne_of_lt hj')]
   exact (h.ok j x hx').mono (fun _ h=>h) hA hs (fun hxl=>hold _ (hne j x hx' hxl hj))
 ·rcases split i x hx with ⟨rfl,rfl⟩ | ⟨rfl,rfl⟩ | ⟨hi,hi',hx'⟩ <;> rcases split j y hy with ⟨rfl,rfl⟩ | ⟨rfl,rfl⟩ | ⟨hj,hj',hy'⟩
  ·rfl
  ·cases hyl
  ·simp only [if_true,if_neg (Nat.ne_of_lt hj')] at hij
   exact absurd hij.symm (hne j y hy' hyl hj)
  ·cases hxl
  ·cases hxl
  ·cases hxl
  ·simp only [if_true,if_neg (Nat.ne_of_lt hi')] at hij
   exact absurd hij (hne i x hx' hxl hi)
  ·cases hyl
  ·simp only [if_neg (Nat.ne_of_lt hi'),if_neg (Nat.ne_of_lt hj')] at hij
   exact h.inj i j x y hx' hy' hxl hyl hij
 ·rcases split i x hx with ⟨rfl,rfl⟩ | ⟨rfl,rfl⟩ | ⟨hi,hi',hx'⟩
  ·simp only [if_true]; exact h.own id o hS hl
  ·cases hxl
  ·simp only [if_neg (Nat.ne_of_lt hi')]; exact h.own i x hx' hxl
 ·obtain ⟨j,x,hx,hxl,rfl⟩:=hb
  rcases split j x hx with ⟨rfl,rfl⟩ | ⟨rfl,rfl⟩ | ⟨hj,hj',hx'⟩
  ·simp only [if_true]; exact .inl ⟨id,o,hS,hl,rfl⟩
  ·cases hxl
  ·simp only [if_neg (Nat.ne_of_lt hj')]; exact .inl ⟨j,x,hx',hxl,rfl⟩
end
section
variable {P:Program} {S:zA} {ρ:Nat→Nat} {A Q:Nat→Prop} {w:World}
theorem z1b {α β:Type} {f:α→Option β} : ∀ {xs:List α} {ys:List β},allO f xs=some ys→xs.length=ys.length ∧ ∀ (i:Nat) (x:α),xs[i]? = some x → ∃ y,f x=some y∧ys[i]? = some y
 | [],ys,h=>by simp only [allO,Option.some.injEq] at h; subst h; simp
 | x::r,ys,h=>by
  simp only [allO] at h
  cases h1:f x with
  | none=>simp [h1] at h
  | some y =>
   cases h2:allO f r with
   | none=>simp [h1,h2] at h
   | some zs =>
    simp only [h1,h2,Option.some.injEq] at h
    subst h
    obtain ⟨e1,e2⟩:=z1b h2
    refine ⟨by simp [e1],fun i z hz=>?_⟩
    cases i with
    | zero=>simp at hz; subst hz; exact ⟨y,h1,rfl⟩
    | succ i=>simp at hz; simpa using e2 i z hz
theorem wK {α β:Type} {f:α→Option β} {x:α} {r:List α} {ys:List β} (h:allO f (x::r)=some ys) : ∃ y zs,f x=some y∧allO f r=some zs∧ys=y::zs:=by
 simp only [allO] at h
 cases h1:f x with
 | none=>simp [h1] at h
 | some y =>
  cases h2:allO f r with
  | none=>simp [h1,h2] at h
  | some zs =>
   simp only [h1,h2,Option.some.injEq] at h
   exact ⟨y,zs,rfl,rfl,h.symm⟩
theorem frzL {f:V→Option D} {ids:V→List Nat} (hf : ∀ v x us,f v=some x→zR P S ρ A w v us→(∀ i ∈ ids v,Q (ρ i))→RepC Q w x us∧x.isAgg=v.isAgg) :
  ∀ {xs:List V} {ds:List D} {us:List Value},allO f xs=some ds→jA P S ρ A w xs us→(∀ i ∈ xs.flatMap ids,Q (ρ i))→RepL Q w ds us
 | [],ds,us,h,hr,_=>by simp only [allO,Option.some.injEq] at h; subst h; simpa [RepL,jA] using hr
 | v::r,ds,us,h,hr,hq=>by
  obtain ⟨y,zs,h1,h2,rfl⟩:=wK h
  simp only [jA] at hr
  obtain ⟨u,ws,rfl,h3,h4,h5⟩:=hr
  obtain ⟨e1,e2⟩:=hf v y [u] h1 h4 (fun i hi=>hq i (by simp [hi]))
  simp only [RepL]
  exact ⟨u,ws,rfl,e2.trans h3,e1,frzL hf h2 h5 (fun i hi=>hq i (by simp only [List.flatMap_cons,List.mem_append]; exact .inr hi))⟩
theorem frzE {f:V→Option D} {ids:V→List Nat} (hf : ∀ v x us,f v=some x→zR P S ρ A w v us→(∀ i ∈ ids v,Q (ρ i))→RepC Q w x us∧x.isAgg=v.isAgg) (k:Nat) :
  ∀ {xs:List V} {ds:List D} {us:List Value},allO f xs=some ds→qN P S ρ A w k xs us→(∀ i ∈ xs.flatMap ids,Q (ρ i))→RepE Q w k ds us
 | [],ds,us,h,hr,_=>by simp only [allO,Option.some.injEq] at h; subst h; simpa [RepE,qN] using hr
 | v::r,ds,us,h,hr,hq=>by
  obtain ⟨y,zs,h1,h2,rfl⟩:=wK h
  simp only [qN] at hr
  obtain ⟨u,ws,rfl,h3,h4,h5⟩:=hr
  obtain ⟨e1,e2⟩:=hf v y u h1 h4 (fun i hi=>hq i (by simp [hi]))
  simp only [RepE]
  exact ⟨u,ws,rfl,h3,e1,frzE hf k h2 h5 (fun i hi=>hq i (by simp only [List.flatMap_cons,List.mem_append]; exact .inr hi))⟩
theorem frzS {f:V→Option D} {ids:V→List Nat} (hf : ∀ v x us,f v=some x→zR P S ρ A w v us→(∀ i ∈ ids v,Q (ρ i))→RepC Q w x us∧x.isAgg=v.isAgg) :
  ∀ {xs:List V} {ds:List D} {us:List Value},allO f xs=some ds→z1l P S ρ A w xs us→(∀ i ∈ xs.flatMap ids,Q (ρ i))→RepS Q w ds us
 | [],ds,us,h,hr,_=>by simp only [allO,Option.some.injEq] at h; subst h; simpa [RepS,z1l] using hr
 | v::r,ds,us,h,hr,hq=>by
  obtain ⟨y,zs,h1,h2,rfl⟩:=wK h
  simp only [z1l] at hr
  obtain ⟨u,ws,rfl,h3,h5⟩:=hr
  have hqi : ∀ i ∈ ids v,Q (ρ i):=fun i hi=>hq i (by simp [hi])
  simp only [RepS]
  refine ⟨u,ws,rfl,?_,frzS hf h2 h5 (fun i hi=>hq i (by simp only [List.flatMap_cons,List.mem_append]; exact .inr hi))⟩
  rcases h3 with ⟨g1,us',g2,g3⟩ | ⟨g1,g3⟩
  ·obtain ⟨e1,e2⟩:=hf v y _ h1 g3 hqi
   exact .inl ⟨e2.trans g1,us',g2,e1⟩
  ·obtain ⟨e1,e2⟩:=hf v y _ h1 g3 hqi
   exact .inr ⟨e2.trans g1,e1⟩
theorem frzM {f:V→Option D} {ids:V→List Nat} (hAQ : ∀ b,A b→Q b) (hf : ∀ v x us,f v=some x→zR P S ρ A w v us→(∀ i ∈ ids v,Q (ρ i))→RepC Q w x us∧x.isAgg=v.isAgg) :
    ∀ {es:List (D × V × Nat)} {ds:List (D × D)} {ms:List MapEntry},allO (fun (e:D × V × Nat)=>(f e.2.1).map fun x=>(e.1,x)) es=some ds→jI P S ρ A w es ms→(∀ i ∈ es.flatMap (fun e=>ids e.2.1),Q (ρ i))→RepM Q w ds ms
  | [],ds,ms,h,hr,_=>by simp only [allO,Option.some.injEq] at h; subst h; simpa [RepM,jI] using hr
  | (kx,v,n)::r,ds,ms,h,hr,hq=>by
    obtain ⟨y,zs,h1,h2,rfl⟩:=wK h
    cases hv:f v with
    | none=>simp [hv] at h1
    | some x =>
      simp only [hv,Option.map_some,Option.some.injEq] at h1
      subst h1
      simp only [jI] at hr
      obtain ⟨m,ms',rfl,h3,h4,_,h5⟩:=hr
      have hqi : ∀ i ∈ ids v,Q (ρ i):=fun i hi=>hq i (by simp [hi])
      simp only [RepM,RepP]
      refine ⟨m,ms',rfl,⟨z2o hAQ (fun _ _=>rfl) h3,?_⟩,frzM hAQ hf h2 h5 (fun i hi=>hq i (by simp only [List.flatMap_cons,List.mem_append]; exact .inr hi))⟩
      rcases h4 with ⟨g1,us',g2,g3⟩ | ⟨g1,g3⟩
      · obtain ⟨e1,e2⟩:=hf v x _ hv g3 hqi
        exact .inl ⟨e2.trans g1,us',g2,e1⟩
      · obtain ⟨e1,e2⟩:=hf v x _ hv g3 hqi
        exact .inr ⟨e2.trans g1,e1⟩
theorem qM {b:Nat} {c:Array Value} {e:TypeId} {f:Nat × Nat} {us rest:List Value} (hh:w.heap[b]? = some (.cells c e f)) (hc:c.toList=us ++ rest) (n m:Nat):CellsAt w b n ((us.drop n).take m):=by
 refine ⟨c,e,f,hh,fun i v hv=>?_⟩
 rw [List.getElem?_take] at hv
 split at hv
 ·rw [List.getElem?_drop] at hv
  have:c.toList[n + i]? = some v:=by
   rw [hc,List.getElem?_append_left]
   ·exact hv
   ·rcases Nat.lt_or_ge (n + i) us.length with h | h
    ·exact h
    ·simp [List.getElem?_eq_none h] at hv
  simpa using this
 ·cases hv
theorem zcy {v:V} {x:D} {us:List Value} (h:z49 v=some x) (hr:zR P S ρ A w v us):RepC A w x us∧x.isAgg=false∧v.isAgg=false:=by
 unfold z49 at h
 split at h
 ·rename_i y
  split at h
  ·cases h
  ·rename_i hy
   simp only [Option.some.injEq] at h; subst h
   simp only [zR] at hr
   exact ⟨hr,by simpa using hy,by simpa [V.isAgg] using hy⟩
 ·simp only [Option.some.injEq] at h; subst h
  simp only [zR] at hr
  obtain ⟨a,_,h2⟩:=hr
  exact ⟨h2,rfl,rfl⟩
 ·rename_i t y
  simp only [Option.some.injEq] at h; subst h
  simp only [zR] at hr
  obtain ⟨u,rfl,h3⟩:=hr
  simp only [RepC]
  exact ⟨⟨u,rfl,h3.imp (fun ⟨a,us,b,c⟩=>⟨a,us,b,c⟩) id⟩,rfl,rfl⟩
 ·cases h
theorem zeh : ∀ {xs:List V} {ds:List D} {us:List Value},allO z49 xs=some ds→jA P S ρ A w xs us→RepL A w ds us
 | [],ds,us,h,hr=>by simp only [allO,Option.some.injEq] at h; subst h; simpa [RepL,jA] using hr
 | v::r,ds,us,h,hr=>by
  obtain ⟨y,zs,h1,h2,rfl⟩:=wK h
  simp only [jA] at hr
  obtain ⟨u,ws,rfl,h3,h4,h5⟩:=hr
  obtain ⟨e1,e2,_⟩:=zcy h1 h4
  simp only [RepL]
  exact ⟨u,ws,rfl,e2,e1,zeh h2 h5⟩
theorem zec {v:V} {x:D} {us:List Value} (h:asD v=some x) (hr:zR P S ρ A w v us):RepC A w x us∧x.isAgg=v.isAgg:=by
 unfold asD at h
 split at h
 ·simp only [Option.some.injEq] at h; subst h
  simp only [zR] at hr
  exact ⟨hr,rfl⟩
 ·rename_i xs
  cases h1:allO z49 xs with
  | none=>simp [h1] at h
  | some ds =>
   simp only [h1,Option.map_some,Option.some.injEq] at h; subst h
   simp only [zR] at hr
   simp only [RepC]
   exact ⟨zeh h1 hr,rfl⟩
 ·obtain ⟨h1,h2,h3⟩:=zcy h hr
  exact ⟨h1,h2.trans h3.symm⟩
theorem z63 (hI:Inv P S ρ A w) (hAQ : ∀ b,A b→Q b) : ∀ (n:Nat) (v:V) (x:D) (us:List Value),frz S n v=some x→zR P S ρ A w v us→(∀ i ∈ frzIds S n v,Q (ρ i))→RepC Q w x us∧x.isAgg=v.isAgg:=by
 intro n
 induction n with
 | zero=>intro v x us h; simp [frz] at h
 | succ n ih =>
  intro v x us h hr hq
  cases v with
  | d y =>
   simp only [frz,Option.some.injEq] at h; subst h
   simp only [zR] at hr
   exact ⟨qX hAQ (fun _ _=>rfl) _ _ hr,rfl⟩
  | ts xs =>
   simp only [frz,Option.some.injEq] at h; subst h
   simp only [zR] at hr
   obtain ⟨a,_,h2⟩:=hr
   exact ⟨qX hAQ (fun _ _=>rfl) _ _ h2,rfl⟩
  | agg xs =>
   simp only [frz] at h
   cases h1:allO (frz S n) xs with
   | none=>simp [h1] at h
   | some ds =>
    simp only [h1] at h
    split at h
    ·cases h
    ·simp only [Option.some.injEq] at h; subst h
     simp only [zR] at hr
     simp only [RepC]
     exact ⟨frzL ih h1 hr (by simpa [frzIds] using hq),rfl⟩
  | iface t v =>
   simp only [frz] at h
   cases h1:frz S n v with
   | none=>simp [h1] at h
   | some y =>
    simp only [h1,Option.map_some,Option.some.injEq] at h; subst h
    simp only [zR] at hr
    obtain ⟨u,rfl,h3⟩:=hr
    simp only [RepC]
    refine ⟨⟨u,rfl,?_⟩,rfl⟩
    have hqi : ∀ i ∈ frzIds S n v,Q (ρ i):=by simpa [frzIds] using hq
    rcases h3 with ⟨g1,us',g2,g3⟩ | ⟨g1,g3⟩
    ·obtain ⟨e1,e2⟩:=ih v y _ h1 g3 hqi
     exact .inl ⟨e2.trans g1,us',g2,e1⟩
    ·obtain ⟨e1,e2⟩:=ih v y _ h1 g3 hqi
     exact .inr ⟨e2.trans g1,e1⟩
  | fn f first caps =>
   simp only [frz] at h
   cases h1:allO (frz S n) first with
   | none=>simp [h1] at h
   | some a =>
    cases h2:allO (frz S n) caps with
    | none=>simp [h1,h2] at h
    | some b =>
     simp only [h1,h2,Option.some.injEq] at h; subst h
     simp only [zR] at hr
     obtain ⟨fa,ca,rfl,h3,h4⟩:=hr
     simp only [frzIds,List.mem_append] at hq
     simp only [RepC]
     exact ⟨⟨fa,ca,rfl,frzS ih h1 h3 (fun i hi=>hq i (.inl hi)),frzS ih h2 h4 (fun i hi=>hq i (.inr hi))⟩,rfl⟩
  | rs id off len =>
   simp only [frz] at h
   cases ho:S[id]? with
   | none=>simp [ho] at h
   | some o =>
    have hok:=hI.ok id o ho
    simp only [zR] at hr
    obtain ⟨a,cap,rfl,hpl⟩:=hr
    simp only [RowPl,ho] at hpl
    cases o with
    | row xs e =>
     simp only [ho] at h
     split at h
     ·rename_i hle
      simp only [Bool.and_eq_true,decide_eq_true_eq] at hle
      replace hle:=hle.1
      cases h1:allO (frz S n) ((xs.drop off).take len) with
      | none=>simp [h1] at h
      | some ds =>
       simp only [h1,Option.map_some,Option.some.injEq] at h; subst h
       obtain ⟨k,hk,ha,h3,h4,c2,e2,f2,h5,h6⟩:=hpl
       simp only [ObOk] at hok
       obtain ⟨k',c,us,rest,hk',hh,hcl,hre⟩:=hok
       rw [hk] at hk'; cases hk'
       have hlen:ds.length=len:=by
        have:=(z1b h1).1
        simp only [List.length_take,List.length_drop] at this
        omega
       have hq' : ∀ i ∈ ((xs.drop off).take len).flatMap (frzIds S n),Q (ρ i):=fun i hi=>hq i (by
        simp only [frzIds,ho,List.mem_cons,List.mem_flatMap] at hi ⊢
        obtain ⟨y,hy,hiy⟩:=hi
        exact .inr ⟨y,List.mem_of_mem_drop (List.mem_of_mem_take hy),hiy⟩)
       have hE:=frzE ih k h1 (kS len (by simp; omega) (kS off (by omega) hre).2).1 hq'
       have hQ:Q (ρ id):=hq id (by simp [frzIds,ho])
       simp only [RepC,hlen]
       refine ⟨⟨_,cap,rfl,h4,?_⟩,rfl⟩
       rcases ha with rfl | ha
       ·exact .inr ⟨_,k,_,rfl,rfl,hQ,qM hh hcl (off * k) (len * k),hE⟩
       ·exact .inl (List.length_eq_zero_iff.1 (by omega))
     ·cases h
    | fz xs e =>
     simp only [ho] at h
     split at h
     ·rename_i hle
      simp only [Option.some.injEq] at h; subst h
      obtain ⟨k,hk,ha,h3,h4,c2,e2,f2,h5,h6⟩:=hpl
      simp only [ObOk] at hok
      obtain ⟨k',c,f,us,rest,hk',hA,hh,hcl,hre⟩:=hok
      rw [hk] at hk'; cases hk'
      have hlen:((xs.drop off).take len).length=len:=by simp; omega
      have hE:=(vN len (by simp; omega) (vN off (by omega) hre).2).1
      simp only [RepC,hlen]
      refine ⟨⟨_,cap,rfl,h4,?_⟩,rfl⟩
      rcases ha with rfl | ha
      ·exact .inr ⟨_,k,_,rfl,rfl,hAQ _ hA,qM hh hcl (off * k) (len * k),z2p hAQ (fun _ _=>rfl) _ _ _ hE⟩
      ·exact .inl (List.length_eq_zero_iff.1 (by omega))
     ·cases h
    | _=>simp [ho] at h
  | cs id ix off len =>
   simp only [frz] at h
   cases ho:S[id]? with
   | none=>simp [ho] at h
   | some o =>
    have hok:=hI.ok id o ho
    simp only [zR] at hr
    obtain ⟨a,cap,rfl,hpl⟩:=hr
    simp only [CellPl,ho] at hpl
    cases o with
    | row xs e =>
     simp only [ho] at h
     cases hx:xs[ix]? with
     | none=>simp [hx] at h
     | some y =>
      simp only [hx] at h
      split at h
      ·rename_i hle
       simp only [Bool.and_eq_true,decide_eq_true_eq] at hle
       replace hle:=hle.1
       cases h1:allO z49 ((y.cells.drop off).take len) with
       | none=>simp [h1] at h
       | some ds =>
        simp only [h1,Option.map_some,Option.some.injEq] at h; subst h
        obtain ⟨k,hk,ha,h3,h4,h5⟩:=hpl
        simp only [ObOk] at hok
        obtain ⟨k',c,us,rest,hk',hh,hcl,hre⟩:=hok
        rw [hk] at hk'; cases hk'
        obtain ⟨g1,g2⟩:=z1d hre ix y hx
        have g3:=z0i len (z0h off (kO g1))
        have gl:=qY g1
        simp only [List.length_take,List.length_drop] at gl
        have hlen:ds.length=len:=by
         have:=(z1b h1).1
         simp only [List.length_take,List.length_drop] at this
         omega
        have hL:=z4f hAQ (fun _ _=>rfl) _ _ (zeh h1 g3)
        have hQ:Q (ρ id):=hq id (by simp [frzIds,ho])
        simp only [RepC,hlen]
        refine ⟨⟨_,cap,rfl,h5,?_⟩,rfl⟩
        rcases ha with rfl | ha
        rotate_left
        ·exact .inl (List.length_eq_zero_iff.1 (by omega))
        refine .inr ⟨_,1,_,rfl,rfl,hQ,?_,z2f hL⟩
        have hcat:=qM hh hcl (ix * k + off) len
        rw [List.drop_take,List.take_take,List.drop_drop]
        rw [show min len (k - off)=len by omega]
        exact hcat
      ·cases h
    | fz xs e =>
     simp only [ho] at h
     cases hx:xs[ix]? with
     | none=>simp [hx] at h
     | some y =>
      simp only [hx] at h
      split at h
      ·rename_i hle
       simp only [Bool.and_eq_true,decide_eq_true_eq] at hle
       simp only [Option.some.injEq] at h; subst h
       obtain ⟨k,hk,ha,h3,h4,h5⟩:=hpl
       simp only [ObOk] at hok
       obtain ⟨k',c,f,us,rest,hk',hA,hh,hcl,hre⟩:=hok
       rw [hk] at hk'; cases hk'
       obtain ⟨g1,g2⟩:=z33 hre ix y hx
       have g3:=z2g len (z2b off (wI g1))
       have gl:=jU g1
       simp only [List.length_take,List.length_drop] at gl
       have hlen:((y.cells.drop off).take len).length=len:=by simp; omega
       have hL:=z4f hAQ (fun _ _=>rfl) _ _ g3
       simp only [RepC,hlen]
       refine ⟨⟨_,cap,rfl,h5,?_⟩,rfl⟩
       rcases ha with rfl | ha
       rotate_left
       ·exact .inl (List.length_eq_zero_iff.1 (by omega))
       refine .inr ⟨_,1,_,rfl,rfl,hAQ _ hA,?_,z2f hL⟩
       have hcat:=qM hh hcl (ix * k + off) len
       rw [List.drop_take,List.take_take,List.drop_drop]
       rw [show min len (k - off)=len by omega]
       exact hcat
      ·cases h
    | _=>simp [ho] at h
  | ref id ix off =>
   cases off with
   | succ off=>simp [frz] at h
   | zero =>
    simp only [frz] at h
    cases ho:S[id]? with
    | none=>simp [ho] at h
    | some o =>
     have hok:=hI.ok id o ho
     simp only [zR] at hr
     obtain ⟨a,rfl,hpl⟩:=hr
     simp only [RefPl,ho] at hpl
     cases o with
     | row xs e =>
      simp only [ho] at h
      cases hx:xs[ix]? with
      | none=>simp [hx] at h
      | some y =>
       simp only [hx] at h
       split at h
       rotate_left
       ·cases h
       cases h1:frz S n y with
       | none=>simp [h1] at h
       | some z =>
        simp only [h1,Option.map_some,Option.some.injEq] at h; subst h
        obtain ⟨k,hk,rfl,h3⟩:=hpl
        simp only [ObOk] at hok
        obtain ⟨k',c,us,rest,hk',hh,hcl,hre⟩:=hok
        rw [hk] at hk'; cases hk'
        obtain ⟨g1,g2⟩:=z1d hre ix y hx
        obtain ⟨e1,e2⟩:=ih y z _ h1 g1 (fun i hi=>hq i (by
         simp only [frzIds,ho,List.mem_cons,List.mem_flatMap]
         exact .inr ⟨y,List.mem_of_getElem? hx,hi⟩))
        have hQ:Q (ρ id):=hq id (by simp [frzIds,ho])
        simp only [RepC]
        exact ⟨⟨_,_,rfl,rfl,hQ,by simpa using qM hh hcl (ix * k) k,e1⟩,rfl⟩
     | fz xs e =>
      simp only [ho] at h
      cases hx:xs[ix]? with
      | none=>simp [hx] at h
      | some y =>
       simp only [hx,Option.map_some,Option.some.injEq] at h; subst h
       obtain ⟨k,hk,rfl,h3⟩:=hpl
       simp only [ObOk] at hok
       obtain ⟨k',c,f,us,rest,hk',hA,hh,hcl,hre⟩:=hok
       rw [hk] at hk'; cases hk'
       obtain ⟨g1,g2⟩:=z33 hre ix y hx
       simp only [RepC]
       exact ⟨⟨_,_,rfl,rfl,hAQ _ hA,by simpa using qM hh hcl (ix * k) k,qX hAQ (fun _ _=>rfl) _ _ g1⟩,rfl⟩
     | _=>simp [ho] at h
  | mr id =>
   simp only [frz] at h
   cases ho:S[id]? with
   | none=>simp [ho] at h
   | some o =>
    have hok:=hI.ok id o ho
    simp only [zR] at hr
    obtain ⟨r,rfl,hpl⟩:=hr
    simp only [MapPl,ho] at hpl
    cases o with
    | mp es clock =>
     simp only [ho] at h
     cases h1:allO (fun (e:D × V × Nat)=>(frz S n e.2.1).map fun x=>(e.1,x)) es with
     | none=>simp [h1] at h
     | some ds =>
      simp only [h1,Option.map_some,Option.some.injEq] at h; subst h
      simp only at hpl
      subst hpl
      simp only [ObOk] at hok
      obtain ⟨en,hh,hM,_⟩:=hok
      have hQ:Q (ρ id):=hq id (by simp [frzIds,ho])
      simp only [RepC]
      exact ⟨⟨_,rfl,.inr ⟨_,en,clock,rfl,hQ,hh,frzM hAQ ih h1 hM (fun i hi=>hq i (by
       simp only [frzIds,ho,List.mem_cons]
       exact .inr hi))⟩⟩,rfl⟩
    | fm es =>
     simp only [ho,Option.some.injEq] at h; subst h
     simp only at hpl
     subst hpl
     simp only [ObOk] at hok
     obtain ⟨en,clock,hA,hh,hM⟩:=hok
     simp only [RepC]
     exact ⟨⟨_,rfl,.inr ⟨_,en,clock,rfl,hAQ _ hA,hh,z4h hAQ (fun _ _=>rfl) _ _ hM⟩⟩,rfl⟩
    | _=>simp [ho] at h
  | it id=>simp [frz] at h
  | tup xs=>simp [frz] at h
  | junk=>simp [frz] at h
end
end Go.Vm
end
