/- The value machine: operations with effects, regions, code, calls. Definitions alone. -/
import Derived.Test.YtljefklfoieecaaVmA
set_option linter.unusedSimpArgs false
set_option linter.unusedVariables false
namespace Go.Vm

inductive Out where
  | ret (v : V)
  | pan (v : V)
  deriving Inhabited
inductive Ex where
  | norm
  | exit (n : Nat)
  | ret
  | pan (v : V)
  deriving Inhabited
/-- What an operation comes to. The number: 0 looks at no store; 1 reads it; 2 adds to it; 3 turns it. -/
inductive Rs where
  | val (v : V) (S : Store) (c : Nat)
  | skip (S : Store) (c : Nat)
  | enter (f : FuncId) (args : List V)
  | dfr (f : FuncId) (args : List V)
  | pan (v : V)
  deriving Inhabited

structure Body where
  code : Code
  ntmps : Nat
  results : Array ResultVar
def bodyOf (P : Program) (f : FuncId) : Option Body :=
  match P.funcs[f]? with
  | none => none
  | some fn => if fn.name == "runtime.NumGoroutine" then none else match fn.body with
    | none => none
    | some c => some ⟨c, fn.ntmps, fn.results⟩
section
variable (P : Program)

def room (e : TypeId) (n : Nat) : Bool := n * bytesOf P e ≤ 140737488355328 && n ≤ 9223372036854775807

def allocV (S : Store) (e : TypeId) (z : V) : V × Store := (.ref S.length 0 0, S ++ [.row [z] e])

/-- What is appended, or copied: its elements, which fit. -/
def srcV (S : Store) (e tx : TypeId) (x : V) : Option (List V) :=
  match x with
  | .d (.str s) => match P.underlying tx with
    | some .string => if sz P e = some 1 then some (s.map fun b => .d (.int .u8 b.toNat)) else none
    | _ => none
  | x => match P.underlying tx with
    | some (.slice _) => match elemsV S x with
      | some ys => if ys.all (fitsT P e) && (sz P e).isSome then some ys else none
      | none => none
    | _ => none
def zOk (e : TypeId) : Bool := match zeroV P e with | some z => fitsT P e z | none => false
def appendV (S : Store) (t tx : TypeId) (s x : V) : Option (V × Store × Nat) :=
  match P.underlying t with
  | some (.slice e) => match srcV P S e tx x with
    | none => none
    | some [] => match s with
      | .ts xs => some (.ts xs, S, 1)
      | .rs id off len => some (.rs id off len, S, 1)
      | .d (.sl xs) => some (.d (.sl xs), S, 1)
      | _ => none
    | some (y :: r) => if zOk P e then match s with
      | .ts xs => if xs.all (fitsD P e) && room P e (xs.length + (r.length + 1)) then some (.rs S.length 0 (xs.length + (r.length + 1)), S ++ [.row (xs.map .d ++ y :: r) e], 2) else none
      | .rs id off len => match S[id]? with
        | some (.row xs e') => if off = 0 && e' = e && len ≤ xs.length && room P e (len + (r.length + 1)) then some (.rs S.length 0 (len + (r.length + 1)), S.set id .dead ++ [.row (xs.take len ++ y :: r) e], 3) else none
        | _ => none
      | _ => none
      else none
  | _ => none

def copyV (S : Store) (t tx : TypeId) (d x : V) : Option (V × Store) :=
  match P.underlying t with
  | some (.slice e) => match srcV P S e tx x with
    | none => none
    | some ys => match d with
      | .rs id off len => match S[id]? with
        | some (.row xs e') => if e' = e && off + len ≤ xs.length then
            some (.d (.int .i64 (min ys.length len : Nat)), S.set id (.row (xs.take off ++ ys.take (min ys.length len) ++ xs.drop (off + min ys.length len)) e))
          else none
        | _ => none
      | _ => none
  | _ => none

/-- A bound of a slice's expression: none means that it panics. -/
def boundV (y : Nat) : Option V → Nat → Option Nat
  | none, dflt => some dflt
  | some v, _ => match intOf? v with
    | some i => if 0 ≤ i ∧ i ≤ y then some i.toNat else none
    | none => none
/-- A slice of an array that is addressed. -/
def sliceArrV (S : Store) (n : Nat) (e : TypeId) (x : V) (lo hi : Option V) : Option V :=
  if sz P e == some 1 && !aggT P e then match boundV n hi n with
    | some h => match boundV h lo 0 with
      | some l => match x with
        | .ref id ix off => match S[id]? with
          | some (.row xs e') => match sz P e' with
            | some k => if off + n ≤ k then some (.cs id ix (off + l) (h - l)) else none
            | none => none
          | _ => none
        | .d (.ptr x) => if x.isAgg && x.cells.length = n then some (.d (.sl ((x.cells.take h).drop l))) else none
        | _ => none
      | none => none
    | none => none
  else none
def sliceV (S : Store) (t : TypeId) (x : V) (lo hi : Option V) : Option V :=
  match P.underlying t with
  | some .string => match x with
    | .d (.str s) => match boundV s.length hi s.length with
      | some h => match boundV h lo 0 with
        | some l => some (.d (.str ((s.take h).drop l)))
        | none => none
      | none => none
    | _ => none
  | some (.slice e) => match x with
    | .d (.sl xs) => match boundV xs.length hi xs.length with
      | some h => match boundV h lo 0 with
        | some l => if xs.all (fitsD P e) && (sz P e).isSome then some (.d (.sl ((xs.take h).drop l))) else none
        | none => none
      | none => none
    | .ts xs => match boundV xs.length hi xs.length with
      | some h => match boundV h lo 0 with
        | some l => if xs.all (fitsD P e) && (sz P e).isSome then some (if h = xs.length then .ts (xs.drop l) else .d (.sl ((xs.take h).drop l))) else none
        | none => none
      | none => none
    | .rs id off len => match boundV len hi len with
      | some h => match boundV h lo 0 with
        | some l => if rowT S id e && (sz P e).isSome then some (.rs id (off + l) (h - l)) else none
        | none => none
      | none => none
    | _ => none
  | some (.pointer arr) => match P.underlying arr with
    | some (.array n e) => sliceArrV P S n e x lo hi
    | _ => none
  | some (.array n e) => sliceArrV P S n e x lo hi
  | _ => none

def makeSliceV (S : Store) (t : TypeId) (l c : V) : Option (V × Store) :=
  match P.underlying t with
  | some (.slice e) => match l, c, zeroV P e with
    | .d (.int .i64 l), .d (.int .i64 c), some z => if 0 ≤ l ∧ l ≤ c ∧ c ≤ 9223372036854775807 then if room P e c.toNat && fitsT P e z then
        some (.rs S.length 0 l.toNat, S ++ [.row (List.replicate c.toNat z) e]) else none else none
    | _, _, _ => none
  | _ => none

def bytesD : List V → Option (List UInt8)
  | [] => some []
  | .d (.int .u8 n) :: r => match bytesD r with | some s => some (UInt8.ofNat n.toNat :: s) | none => none
  | _ :: _ => none
def convertV (S : Store) (src dst : TypeId) (x : V) : Option (V × Nat) :=
  match P.underlying src, P.underlying dst, x with
  | some _, some (.int k), .d (.int _ n) => some (.d (.int k (k.wrap n)), 0)
  | some _, some .string, .d (.str s) => some (.d (.str s), 0)
  | some _, some (.slice e), .d (.str s) => match P.underlying e with
    | some (.int .u8) => if s.length < 9223372036854775807 then some (.d (.sl (s.map fun b => .int .u8 b.toNat)), 0) else none
    | _ => none
  | some (.slice e), some .string, x => match P.underlying e with
    | some (.int .u8) => match x with
      | .d (.str _) => none
      | x => match elemsV S x with
        | some ys => (bytesD ys).map fun s => (.d (.str s), 1)
        | none => none
    | _ => none
  | _, _, _ => none

def entriesV (S : Store) : V → Option (List (D × V))
  | .d (.map es) => some (es.map fun e => (e.1, .d e.2))
  | .d .nilm => some []
  | .mr id => match S[id]? with
    | some (.mp es _) => some (es.map fun e => (e.1, e.2.1))
    | some (.fm es) => some (es.map fun e => (e.1, .d e.2))
    | _ => none
  | _ => none
def keyOk (kt : TypeId) (k : V) : Bool :=
  match P.underlying kt, asD k with
  | some (.struct fs), some (.agg xs) => fs.toList.all fun f => leafT P f.type && f.offset < xs.length
  | _, some k => leafT P kt && !k.isAgg
  | _, none => false
def sameLeaf : D → D → Bool
  | .bool a, .bool b => a == b
  | .int k a, .int k' b => k == k' && a == b
  | .str a, .str b => a == b
  | _, _ => false
def sameAll : List D → List D → Bool
  | [], [] => true
  | x :: xs, y :: ys => sameLeaf x y && sameAll xs ys
  | _, _ => false
def sameD : D → D → Bool
  | .agg xs, .agg ys => sameAll xs ys
  | x, y => sameLeaf x y
def lookupV (S : Store) (t : TypeId) (x k : V) (ok : Bool) : Option V :=
  match P.underlying t with
  | some (.map kt et) => if keyOk P kt k then match entriesV S x, zeroV P et with
    | some es, some z => match findD P kt k es 0 with
      | some (some (_, v)) => some (if ok then .tup [v, .d (.bool true)] else v)
      | some none => some (if ok then .tup [z, .d (.bool false)] else z)
      | none => none
    | _, _ => none
    else none
  | _ => none
def mapUpdateV (S : Store) (t : TypeId) (x k v : V) : Option Store :=
  match P.underlying t with
  | some (.map kt et) => if keyOk P kt k && v.one then match x, asD k with
    | .mr id, some kd => match S[id]? with
      | some (.mp es clock) => match findD P kt k es 0 with
        | some (some (i, u)) => match es[i]? with
          | some e => if sameD e.1 kd then some (S.set id (.mp (es.set i (kd, v, u.2)) clock)) else none
          | none => none
        | some none => some (S.set id (.mp (es ++ [(kd, v, clock)]) (clock + 1)))
        | none => none
      | _ => none
    | _, _ => none
    else none
  | _ => none
def mapEntryV (S : Store) (t : TypeId) (x k : V) : Option (V × Store) :=
  match P.underlying t with
  | some (.map kt et) => if keyOk P kt k then match x, asD k, zeroV P et with
    | .mr id, some kd, some z => match S[id]? with
      | some (.mp es clock) => match findD P kt k es 0 with
        | some (some (i, u)) => match es[i]? with
          | some e => if sameD e.1 kd then some (.tup [u.1, .d (.int .i64 u.2)], S.set id (.mp (es.set i (kd, u)) clock)) else none
          | none => none
        | some none => some (.tup [z, .d (.int .i64 clock)], S.set id (.mp (es ++ [(kd, z, clock)]) (clock + 1)))
        | none => none
      | _ => none
    | _, _, _ => none
    else none
  | _ => none
def bornAt (n : Int) : List (D × V × Nat) → Nat → Option Nat
  | [], _ => none
  | e :: r, i => if (e.2.2 : Int) == n then some i else bornAt n r (i + 1)
def entryStoreV (S : Store) (x st v : V) : Option Store :=
  if !v.one then none else
  match x, st with
  | .mr id, .d (.int _ n) => match S[id]? with
    | some (.mp es clock) => match bornAt n es 0 with
      | some i => match es[i]? with
        | some e => some (S.set id (.mp (es.set i (e.1, v, e.2.2)) clock))
        | none => none
      | none => none
    | _ => none
  | _, _ => none
def deleteV (S : Store) (t : TypeId) (x k : V) : Option Store :=
  match P.underlying t with
  | some (.map kt et) => if keyOk P kt k then match x with
    | .mr id => match S[id]? with
      | some (.mp es clock) => match findD P kt k es 0 with
        | some (some (i, _)) => some (S.set id (.mp (es.eraseIdx i) clock))
        | some none => some (S.set id (.mp es clock))
        | none => none
      | _ => none
    | _ => none
    else none
  | _ => none

def max2V : V → V → Option V
  | .d (.int k x), .d (.int k' y) => if k = k' then some (.d (.int k (if y > x then y else x))) else none
  | _, _ => none
def min2V : V → V → Option V
  | .d (.int k x), .d (.int k' y) => if k = k' then some (.d (.int k (if y < x then y else x))) else none
  | _, _ => none
def foldV (f : V → V → Option V) : V → List V → Option V
  | x, [] => some x
  | x, y :: r => match f x y with
    | some z => foldV f z r
    | none => none

def builtinV (S : Store) (b : Builtin) (ts : List TypeId) (args : List V) : Option Rs :=
  match b, ts, args with
  | .len, t :: _, [x] => match P.underlying t with
    | some (.array n _) => some (.val (.d (.int .i64 n)) S 0)
    | some .string => match x with
      | .d (.str s) => some (.val (.d (.int .i64 s.length)) S 0)
      | _ => none
    | some (.slice _) => match x with
      | .d (.sl xs) => some (.val (.d (.int .i64 xs.length)) S 0)
      | .ts xs => some (.val (.d (.int .i64 xs.length)) S 0)
      | .rs _ _ n => some (.val (.d (.int .i64 n)) S 0)
      | .cs _ _ _ n => some (.val (.d (.int .i64 n)) S 0)
      | _ => none
    | some (.map _ _) => match entriesV S x with
      | some es => some (.val (.d (.int .i64 es.length)) S 1)
      | none => none
    | _ => none
  | .append, [t, tx], [s, x] => (appendV P S t tx s x).map fun r => .val r.1 r.2.1 r.2.2
  | .copy, [t, tx], [d, x] => (copyV P S t tx d x).map fun r => .val r.1 r.2 3
  | .delete, t :: _, [m, k] => (deleteV P S t m k).map fun S' => .val (.tup []) S' 3
  | .max, _, x :: r => (foldV max2V x r).map fun v => .val v S 0
  | .min, _, x :: r => (foldV min2V x r).map fun v => .val v S 0
  | _, _, _ => none

def opV (S : Store) (T : List V) (o : Oper) : Option Rs :=
  match o.op with
  | .move x => some (.val (evalO T x) S 0)
  | .assign x => some (.val (evalO T x) S 0)
  | .pick c a b => match evalO T c with
    | .d (.bool true) => some (.val (evalO T a) S 0)
    | .d (.bool false) => some (.val (evalO T b) S 0)
    | _ => none
  | .alloc e => match zeroV P e with
    | some z => if fitsT P e z then some (.val (.ref S.length 0 0) (S ++ [.row [z] e]) 2) else none
    | none => none
  | .box e x => if fitsT P e (evalO T x) then some (.val (.ref S.length 0 0) (S ++ [.row [evalO T x] e]) 2) else none
  | .build t parts => (buildV P t (parts.toList.map fun p => (p.1, evalO T p.2))).map fun v => .val v S 0
  | .buildSlice t len parts => match P.underlying t with
    | some (.slice e) => match zeroV P e, sz P e with
      | some z, some k => if fitsT P e z && (parts.toList.all fun p => p.1 < len && fitsT P e (evalO T p.2)) && len * k ≤ 16777216 && k ≠ 0 then
          match allO asD (litV z len (parts.toList.map fun p => (p.1, evalO T p.2))) with
          | some ds => some (.val (.ts ds) S 0)
          | none => some (.val (.rs S.length 0 len) (S ++ [.row (litV z len (parts.toList.map fun p => (p.1, evalO T p.2))) e]) 2)
        else none
      | _, _ => none
    | _ => none
  | .load t a => (loadV P S t (evalO T a)).map fun v => .val v S 1
  | .store t a x => (storeV P S t (evalO T a) (evalO T x)).map fun S' => .skip S' 3
  | .nilCheck x => match evalO T x with
    | .ref i ix off => some (.val (.ref i ix off) S 0)
    | .d (.ptr x) => some (.val (.d (.ptr x)) S 0)
    | .fn (.func g) a b => some (.val (.fn (.func g) a b) S 0)
    | _ => none
  | .binOp op t x y _ => (binV P op t (evalO T x) (evalO T y)).map fun v => .val v S 0
  | .unOp op _ x => (unV op (evalO T x)).map fun v => .val v S 0
  | .convert src dst x => (convertV P S src dst (evalO T x)).map fun r => .val r.1 S r.2
  | .makeInterface t x => match P.underlying t with
    | some (.interface _) => none
    | some _ => if (evalO T x).one then some (.val (.iface t (evalO T x)) S 0) else none
    | none => none
  | .makeFunc fn first caps => if (first.toList.map (evalO T)).all V.one && (caps.toList.map (evalO T)).all V.one then some (.val (.fn fn (first.toList.map (evalO T)) (caps.toList.map (evalO T))) S 0) else none
  | .makeMap t r => match r with
    | none => some (.val (.mr S.length) (S ++ [.mp [] 0]) 2)
    | some _ => none
  | .makeSlice t l c => (makeSliceV P S t (evalO T l) (evalO T c)).map fun r => .val r.1 r.2 2
  | .slice t x lo hi none => (sliceV P S t (evalO T x) (lo.map (evalO T)) (hi.map (evalO T))).map fun v => .val v S 1
  | .fieldAddr s x f => (fieldAddrV P s f (evalO T x)).map fun v => .val v S 0
  | .indexAddr t x ix => (indexAddrV P S t (evalO T x) (evalO T ix)).map fun v => .val v S 1
  | .field s x f => (fieldV P s f (evalO T x)).map fun v => .val v S 0
  | .index t x ix => (indexV P t (evalO T x) (evalO T ix)).map fun v => .val v S 0
  | .lookup t x k ok => (lookupV P S t (evalO T x) (evalO T k) ok).map fun v => .val v S 1
  | .mapUpdate t m k x => (mapUpdateV P S t (evalO T m) (evalO T k) (evalO T x)).map fun S' => .skip S' 3
  | .mapEntry t m k => (mapEntryV P S t (evalO T m) (evalO T k)).map fun r => .val r.1 r.2 3
  | .entryStore t m st x => (entryStoreV S (evalO T m) (evalO T st) (evalO T x)).map fun S' => .skip S' 3
  | .range t x => match P.underlying t with
    | some .string => match evalO T x with
      | .d (.str s) => some (.val (.it S.length) (S ++ [.iter s 0]) 2)
      | _ => none
    | _ => none
  | .next it true => match evalO T it with
    | .it id => match S[id]? with
      | some (.iter s pos) =>
        if pos < s.length then
          let r := Utf8.decode ⟨s.toArray⟩ pos
          some (.val (.tup [.d (.bool true), .d (.int .i64 pos), .d (.int .i32 r.1)]) (S.set id (.iter s (pos + r.2))) 3)
        else some (.val (.tup [.d (.bool false)]) S 3)
      | _ => none
    | _ => none
  | .extract t ix => match evalO T t with
    | .tup vs => match vs[ix]? with
      | some v => some (.val v S 0)
      | none => none
    | _ => none
  | .call c => match c.callee with
    | .builtin b => builtinV P S b c.argTypes.toList (c.args.toList.map (evalO T))
    | .value f => match evalO T f with
      | .fn (.func g) first caps => if (c.args.toList.map (evalO T)).all V.one && (bodyOf P g).isSome then some (.enter g (first ++ c.args.toList.map (evalO T) ++ caps)) else none
      | .d (.fn (.func g) first caps) => if (c.args.toList.map (evalO T)).all V.one && (bodyOf P g).isSome then some (.enter g (first.map .d ++ c.args.toList.map (evalO T) ++ caps.map .d)) else none
      | _ => none
    | .invoke _ _ => none
  | .defer c => match c.callee with
    | .value f => match evalO T f with
      | .fn (.func g) first caps => if (c.args.toList.map (evalO T)).all V.one && (bodyOf P g).isSome then some (.dfr g (first ++ c.args.toList.map (evalO T) ++ caps)) else none
      | _ => none
    | _ => none
  | .panic x => match evalO T x with
    | .iface t v => some (.pan (.iface t v))
    | .d (.iface t v) => some (.pan (.d (.iface t v)))
    | _ => none
  | _ => none

end

/-- The machine's settings: which calls share the store. -/
structure Cfg where
  P : Program
  mixed : P.follows .mixedOrders = true
  shared : FuncId → Bool
  /-- Calls that are answered by a law of their own. -/
  ext : FuncId → Option (List D → Option Out)
  /-- Functions that call the function they are handed, and tell what it came to. -/
  catch_ : FuncId → Option (Out → Option V)

def frzOut (S : Store) : Out → Option Out
  | .ret (.tup vs) => (allO (frz S frzFuel) vs).map fun ds => .ret (.tup (ds.map .d))
  | .ret v => (frz S frzFuel v).map fun x => .ret (.d x)
  | .pan v => (frz S frzFuel v).map fun x => .pan (.d x)
def plainOut : Out → Bool
  | .ret (.d x) => x.plain
  | .ret (.tup vs) => vs.all fun | .d x => x.plain | _ => false
  | .pan (.d x) => x.plain
  | _ => false

abbrev CallF := FuncId → List V → Store → Option (Out × Store)
/-- A call apart: data in, data out. -/
def answer (C : Cfg) (call : CallF) (f : FuncId) (ds : List D) : Option Out :=
  match C.ext f with
  | some g => g ds
  | none => match call f (ds.map .d) [] with
    | none => none
    | some (out, S') => frzOut S' out
/-- A call: by the store itself, or apart from it: what it is handed is frozen, and so is what it answers. -/
def callV (C : Cfg) (call : CallF) (f : FuncId) (args : List V) (S : Store) : Option (Out × Store × Nat) :=
  if C.shared f then (call f args S).map fun r => (r.1, r.2, 3)
  else match allO (frz S frzFuel) args with
    | none => none
    | some ds => match answer C call f ds with
      | none => none
      | some out =>
        if (args.flatMap (frzIds S frzFuel)).isEmpty then some (out, S, 1)
        else if plainOut out then some (out, S, 1)
        else match mark S (args.flatMap (frzIds S frzFuel)) S (args.flatMap (frzIds S frzFuel)) with
          | some S2 => some (out, S2, 3)
          | none => none

def putT (T : List V) : Option Tmp → V → List V
  | some d, v => T.set d v
  | none, _ => T

/-- What the guard's operation yielded: none: not known. -/
def yieldT (ops : Array Oper) (T : List V) (j : Nat) : Option (Option Bool) :=
  match (ops[j]?).bind (·.dst) with
  | none => some none
  | some d => match T[d]? with
    | none => some none
    | some (.d (.bool b)) => some (some b)
    | some (.tup _) => some none
    | some _ => none
def wantedT (ops : Array Oper) (T : List V) (o : Oper) : Option Bool :=
  match o.guard with
  | none => some true
  | some (j, want) => (yieldT ops T j).map (· == some want)

abbrev Dfs := List (FuncId × List V)
/-- A literal of bytes, and the mark that it comes of a text: the two operations as one. -/
def litPair (P : Program) (T : List V) (o : Oper) : List Oper → Option (List V)
  | o2 :: _ => match o.op, o2.op, o.dst with
    | .buildSlice t len parts, .convert t1 t2 (.tmp d), some d' =>
      if o.guard.isNone ∧ o2.guard.isNone ∧ t1 = t ∧ t2 = t ∧ d' = d ∧ d < T.length then match P.underlying t with
        | some (.slice e) => match P.underlying e, zeroV P e, sz P e with
          | some (.int .u8), some z, some k => if fitsT P e z && (parts.toList.all fun p => p.1 < len && fitsT P e (evalO T p.2)) && len * k ≤ 16777216 && k ≠ 0 then
              match allO asD (litV z len (parts.toList.map fun p => (p.1, evalO T p.2))) with
              | some ds => some (putT (T.set d .junk) o2.dst (.ts ds))
              | none => none
            else none
          | _, _, _ => none
        | _ => none
      else none
    | _, _, _ => none
  | [] => none
/-- One operation behind the other. -/
def seqV (C : Cfg) (call : CallF) (ops : Array Oper) : List Oper → List V → Store → Dfs → Option (Ex × List V × Store × Dfs)
  | [], T, S, F => some (.norm, T, S, F)
  | o :: r, T, S, F => match litPair C.P T o r with
    | some T' => match r with
      | _ :: r' => seqV C call ops r' T' S F
      | [] => none
    | none => match wantedT ops T o with
      | none => none
      | some false => seqV C call ops r (putT T o.dst (.tup [])) S F
      | some true => match opV C.P S T o with
        | none => none
        | some (.val v S' _) => seqV C call ops r (putT T o.dst v) S' F
        | some (.skip S' _) => seqV C call ops r (putT T o.dst (.tup [])) S' F
        | some (.dfr f args) => seqV C call ops r (putT T o.dst (.tup [])) S ((f, args) :: F)
        | some (.pan v) => some (.pan v, T, S, F)
        | some (.enter f args) => match callV C call f args S with
          | none => none
          | some (.ret v, S', _) => seqV C call ops r (putT T o.dst v) S' F
          | some (.pan v, S', _) => some (.pan v, T, S', F)

/-- What an operation adds to the store, and the value that tells it. -/
def addO (P : Program) (T : List V) (o : Oper) : Option (Ob × (Nat → V)) :=
  match o.op with
  | .alloc e => match zeroV P e with
    | some z => if fitsT P e z then some (.row [z] e, fun id => .ref id 0 0) else none
    | none => none
  | .box e x => if fitsT P e (evalO T x) then some (.row [evalO T x] e, fun id => .ref id 0 0) else none
  | .makeMap t r => match r with
    | none => some (.mp [] 0, .mr)
    | some _ => none
  | .makeSlice t l c => match P.underlying t with
    | some (.slice e) => match evalO T l, evalO T c, zeroV P e with
      | .d (.int .i64 l), .d (.int .i64 c), some z => if 0 ≤ l ∧ l ≤ c ∧ c ≤ 9223372036854775807 then if room P e c.toNat && fitsT P e z then
          some (.row (List.replicate c.toNat z) e, fun id => .rs id 0 l.toNat) else none else none
      | _, _, _ => none
    | _ => none
  | .range t x => match P.underlying t with
    | some .string => match evalO T x with
      | .d (.str s) => some (.iter s 0, .it)
      | _ => none
    | _ => none
  | _ => none
def addsK (o : Oper) : Bool := match o.op with | .alloc _ | .box .. | .makeMap .. | .makeSlice .. | .range .. => true | _ => false
def num2 (c : Nat) : Nat := if c = 2 then 3 else c
/-- What one operation of a drawing region does, ahead of its being put: what it adds fills the hole 'id'. -/
def effC (C : Cfg) (call : CallF) (ops : Array Oper) (id : Nat) (o : Oper) (T : List V) (S : Store) : Option (V × Store × Nat) :=
  match wantedT ops T o with
  | none => none
  | some false => some (.tup [], S, 0)
  | some true => if addsK o then match addO C.P T o with
      | some (ob, f) => match S[id]? with
        | some .hole => some (f id, S.set id ob, 2)
        | _ => none
      | none => none
    else match opV C.P S T o with
      | some (.val v S' c) => some (v, S', num2 c)
      | some (.skip S' _) => some (.tup [], S', 3)
      | some (.enter f args) => match callV C call f args S with
        | some (.ret v, S', c) => some (v, S', num2 c)
        | _ => none
      | _ => none
def sameCell : V → V → Bool
  | .d x, .d y => sameD x y
  | .ref a b c, .ref a' b' c' => a == a' && b == b' && c == c'
  | .mr a, .mr b => a == b
  | .ts xs, .ts ys => sameAll xs ys
  | .rs a b c, .rs a' b' c' => a == a' && b == b' && c == c'
  | _, _ => false
def sameCells : List V → List V → Bool
  | [], [] => true
  | x :: xs, y :: ys => sameCell x y && sameCells xs ys
  | _, _ => false
/-- Two values are the same (of simple ones alone). -/
def sameV : V → V → Bool
  | .agg xs, .agg ys => sameCells xs ys
  | x, y => sameCell x y
/-- A read that stands ahead gives the same behind operation i, or is bound to stand ahead. -/
def watchOk (C : Cfg) (call : CallF) (ops : Array Oper) (b : List Nat) (base i : Nat) (S' : Store) (w : Nat × List V × V) : Bool :=
  (b.getD i 0).testBit w.1 || match ops[w.1]? with
    | some o => match effC C call ops (base + w.1) o w.2.1 S' with
      | some (v', _, 1) => sameV w.2.2 v'
      | _ => false
    | none => false
/-- One behind the other, by their indices, with their numbers; 'ws': the reads so far. -/
def seqC (C : Cfg) (call : CallF) (ops : Array Oper) (b : List Nat) (base : Nat) : List (Nat × List V × V) → List Nat → List V → Store → Option (List V × Store × List (Nat × Nat))
  | _, [], T, S => some (T, S, [])
  | ws, i :: r, T, S => match ops[i]? with
    | none => none
    | some o => match effC C call ops (base + i) o T S with
      | none => none
      | some (v, S', c) =>
        if 2 < c ∧ (ws.all (watchOk C call ops b base i S')) = false then none
        else match seqC C call ops b base (if c = 1 then (i, T, v) :: ws else ws) r (putT T o.dst v) S' with
          | none => none
          | some (T2, S2, cs) => some (T2, S2, (i, c) :: cs)

def tmpsOf (xs : List Operand) : List Tmp := xs.filterMap fun | .tmp t => some t | _ => none
/-- The temporaries that an operation looks at. -/
def looks (ops : Array Oper) (o : Oper) : List Tmp :=
  tmpsOf o.op.operands.toList ++ match o.guard with | some (j, _) => ((ops[j]?).bind (·.dst)).toList | none => []
def tmpsApart (ops : Array Oper) (a b : Oper) : Bool :=
  (match a.dst with | some d => !(looks ops b).contains d && b.dst != some d | none => true) &&
  (match b.dst with | some d => !(looks ops a).contains d | none => true)
def clsApart (a b : Nat) : Bool := a == 0 || b == 0 || a == 1 || b == 2
/-- Which operations stand before one, by the edges that bind in any mode. -/
def befBits (acc : List Nat) : List Edge → Nat → Nat
  | [], s => s
  | e :: r, s => befBits acc r (if Region.binds .any e then s ||| 2 ^ e.on ||| acc.getD e.on 0 else s)
def befGo (acc : List Nat) : List Oper → List Nat
  | [] => acc
  | o :: r => befGo (acc ++ [befBits acc o.after.toList 0]) r
def befs (ops : Array Oper) : List Nat := befGo [] ops.toList
/-- The order in which the machine itself goes: reads early, what turns the store late, what adds to it last, as far as the edges let it. -/
def rankO (sh : FuncId → Bool) (o : Oper) : Nat :=
  if addsK o then 3 else match o.op with
  | .call c => match c.callee with
    | .value (.func g) => if sh g then 2 else 1
    | .builtin b => match b with | .append | .copy | .delete => 2 | _ => 0
    | _ => 2
  | .store .. | .mapUpdate .. | .mapEntry .. | .entryStore .. | .next .. => 2
  | _ => 0
def orderGo (sh : FuncId → Bool) (ops : Array Oper) : Nat → List Nat → List Nat → List Nat
  | 0, _, done => done.reverse
  | n + 1, todo, done =>
    let rs := todo.filter fun i => match ops[i]? with | some o => o.after.all fun e => !Region.binds .any e || done.contains e.on | none => false
    let pick (k : Nat) : Option Nat := rs.find? fun i => match ops[i]? with | some o => rankO sh o == k | none => false
    match (((pick 0).or (pick 1)).or (pick 2)).or (pick 3) with
    | some i => orderGo sh ops n (todo.filter (· != i)) (i :: done)
    | none => done.reverse
def orderOf (sh : FuncId → Bool) (ops : Array Oper) : List Nat := orderGo sh ops ops.size (List.range ops.size) []
def holesN (ops : Array Oper) : Nat := if ops.any addsK then ops.size else 0
def pairOk (ops : Array Oper) (b : List Nat) (p q : Nat × Nat) : Bool :=
  p.1 != q.1 && ((b.getD q.1 0).testBit p.1 || match ops[p.1]?, ops[q.1]? with
    | some x, some y => tmpsApart ops x y && clsApart p.2 q.2
    | _, _ => false)
def pairsOk (ops : Array Oper) (b : List Nat) : List (Nat × Nat) → Bool
  | [] => true
  | p :: r => r.all (pairOk ops b p) && pairsOk ops b r
def edgesOk : List Oper → Nat → Bool
  | [], _ => true
  | o :: r, i => (o.after.all fun e => !Region.binds .any e || e.on < i) && edgesOk r (i + 1)
/-- In whatever order its edges allow, the region comes to the same. -/
def drawOk (ops : Array Oper) (cs : List (Nat × Nat)) : Bool :=
  (ops.toList.all fun o => !(o.op matches .select ..)) && edgesOk ops.toList 0 && ((List.range ops.size).all fun i => cs.any fun p => p.1 == i) && pairsOk ops (befs ops) cs

def resultV (P : Program) (T : List V) (S : Store) : ResultVar → Option V
  | .tmp t => some (T.getD t (.tup []))
  | .cell a t => loadV P S t (T.getD a (.tup []))
def resultsV (P : Program) (rs : Array ResultVar) (T : List V) (S : Store) : Option V :=
  match rs.toList with
  | [r] => resultV P T S r
  | l => match allO (resultV P T S) l with
    | some vs => if vs.all V.one then some (.tup vs) else none
    | none => none

def startT (n : Nat) (args : List V) : List V := args ++ List.replicate (n - args.length) (.tup [])

abbrev ExecF := Code → List V → Store → Dfs → Option (Ex × List V × Store × Dfs)
/-- A function that defers nothing, and returns: the store behind it. -/
def plainV (P : Program) (ex : ExecF) (f : FuncId) (args : List V) (S : Store) : Option Store :=
  match bodyOf P f with
  | none => none
  | some b => match ex b.code (startT b.ntmps args) S [] with
    | some (.norm, T, S', []) => (resultsV P b.results T S').map fun _ => S'
    | some (.ret, T, S', []) => (resultsV P b.results T S').map fun _ => S'
    | _ => none
/-- What was deferred, the last one first. -/
def dfrV (P : Program) (ex : ExecF) : Dfs → Store → Option Store
  | [], S => some S
  | (f, args) :: r, S => match plainV P ex f args S with
    | some S' => dfrV P ex r S'
    | none => none
def endV (P : Program) (ex : ExecF) (rs : Array ResultVar) (T : List V) (S : Store) (F : Dfs) : Option (Out × Store) :=
  match dfrV P ex F S with
  | none => none
  | some S' => match resultsV P rs T S' with
    | none => none
    | some v => some (.ret v, S')

mutual
def exec (C : Cfg) : Nat → Code → List V → Store → Dfs → Option (Ex × List V × Store × Dfs)
  | 0, _, _, _, _ => none
  | n + 1, c, T, S, F => match c with
    | .skip => some (.norm, T, S, F)
    | .label _ => some (.norm, T, S, F)
    | .region _ ops false => seqV C (run C n) ops ops.toList T S F
    | .region _ ops true => match seqC C (run C n) ops (befs ops) S.length [] (orderOf C.shared ops) T (S ++ List.replicate (holesN ops) .hole) with
      | some (T', S', cs) => if drawOk ops cs then some (.norm, T', S', F) else none
      | none => none
    | .seq a b => match exec C n a T S F with
      | some (.norm, T', S', F') => exec C n b T' S' F'
      | r => r
    | .cond c a b => match evalO T c with
      | .d (.bool true) => exec C n a T S F
      | .d (.bool false) => exec C n b T S F
      | _ => none
    | .block id b => match exec C n b T S F with
      | some (.exit k, T', S', F') => if k = id then some (.norm, T', S', F') else some (.exit k, T', S', F')
      | r => r
    | .loop b => match exec C n b T S F with
      | some (.norm, T', S', F') => exec C n (.loop b) T' S' F'
      | r => r
    | .scope b => exec C n b T S F
    | .exit id => some (.exit id, T, S, F)
    | .ret => some (.ret, T, S, F)
    | _ => none
def run (C : Cfg) : Nat → FuncId → List V → Store → Option (Out × Store)
  | 0, _, _, _ => none
  | n + 1, f, args, S => match C.catch_ f with
    | some post => match args with
      | [.fn (.func g) first caps] => match run C n g (first ++ caps) S with
        | none => none
        | some (o, S') => match post o with
          | none => none
          | some v => some (.ret v, S')
      | _ => none
    | none => match bodyOf C.P f with
      | none => none
      | some b => match exec C n b.code (startT b.ntmps args) S [] with
        | some (.norm, T, S', F) => endV C.P (exec C n) b.results T S' F
        | some (.ret, T, S', F) => endV C.P (exec C n) b.results T S' F
        | some (.pan v, _, S', []) => some (.pan v, S')
        | _ => none
end
/-- A call apart, with so much fuel. -/
def runD (C : Cfg) (n : Nat) (f : FuncId) (ds : List D) : Option Out := answer C (run C n) f ds
end Go.Vm
