/- Facts on the program's types, and its functions' bodies: written by mkty.py. -/
import Derived.Test.YtghllhghboaagaaProg
import Derived.Test.YtghllhghboaagaaP06
/-! Facts on the program's types, and its functions' bodies: written by mkty.py. -/
section
set_option linter.unusedVariables false
set_option maxRecDepth 100000
namespace Go.Proofs.Ytghllhghboaagaa
open Go.Vm
/-- Behind a call of what it is handed: 0, or the error that it gave up with. -/
def caughtV : Out → Option V
  | .ret _ => some (.d (.int .i64 0))
  | .pan (.iface 41 (.d (.int .i64 n))) => some (.d (.int .i64 n))
  | .pan (.d (.iface 41 (.int .i64 n))) => some (.d (.int .i64 n))
  | _ => Option.none
/-- The example is told by what it came to. -/
def worksX : List D → Option Out := fun ds => match ds with | [] => some (.ret (.d (.bool true))) | _ => Option.none
def mask : Nat := 12406011854720023396352
noncomputable def cfg : Cfg := { P := Try.prog, mixed := by kernel_rfl, shared := fun f => Nat.testBit mask f, ext := fun f => match Nat.beq f 16 with | true => some worksX | false => Option.none, catch_ := fun f => match Nat.beq f 42 with | true => some caughtV | false => Option.none }
theorem hP : cfg.P = Try.prog := rfl
def encB (l : List UInt8) : D := .sl (l.map fun b => .int .u8 b.toNat)
theorem fits3 (a : Int) : fitsD Try.prog 3 (.int .i64 a) = true := by kernel_rfl
theorem fitsT3 (a : Int) : fitsT Try.prog 3 (.d (.int .i64 a)) = true := by kernel_rfl
theorem ff3 {a : Int} : fitsT Try.prog 3 (.d (.int .i64 a)) = true := by kernel_rfl
theorem ld3 {S : Store} {a : Int} : loadV Try.prog S 3 (.d (.ptr (.int .i64 a))) = some (.d (.int .i64 a)) := by kernel_rfl
theorem fits41 (a : Int) : fitsD Try.prog 41 (.int .i64 a) = true := by kernel_rfl
theorem fitsT41 (a : Int) : fitsT Try.prog 41 (.d (.int .i64 a)) = true := by kernel_rfl
theorem ff41 {a : Int} : fitsT Try.prog 41 (.d (.int .i64 a)) = true := by kernel_rfl
theorem ld41 {S : Store} {a : Int} : loadV Try.prog S 41 (.d (.ptr (.int .i64 a))) = some (.d (.int .i64 a)) := by kernel_rfl
theorem fits5 (a : Int) : fitsD Try.prog 5 (.int .u8 a) = true := by kernel_rfl
theorem fitsT5 (a : Int) : fitsT Try.prog 5 (.d (.int .u8 a)) = true := by kernel_rfl
theorem ff5 {a : Int} : fitsT Try.prog 5 (.d (.int .u8 a)) = true := by kernel_rfl
theorem ld5 {S : Store} {a : Int} : loadV Try.prog S 5 (.d (.ptr (.int .u8 a))) = some (.d (.int .u8 a)) := by kernel_rfl
theorem fits9 (a : (List UInt8)) : fitsD Try.prog 9 (.str a) = true := by kernel_rfl
theorem fitsT9 (a : (List UInt8)) : fitsT Try.prog 9 (.d (.str a)) = true := by kernel_rfl
theorem ff9 {a : (List UInt8)} : fitsT Try.prog 9 (.d (.str a)) = true := by kernel_rfl
theorem ld9 {S : Store} {a : (List UInt8)} : loadV Try.prog S 9 (.d (.ptr (.str a))) = some (.d (.str a)) := by kernel_rfl
theorem fits4 (a : Bool) : fitsD Try.prog 4 (.bool a) = true := by kernel_rfl
theorem fitsT4 (a : Bool) : fitsT Try.prog 4 (.d (.bool a)) = true := by kernel_rfl
theorem ff4 {a : Bool} : fitsT Try.prog 4 (.d (.bool a)) = true := by kernel_rfl
theorem ld4 {S : Store} {a : Bool} : loadV Try.prog S 4 (.d (.ptr (.bool a))) = some (.d (.bool a)) := by kernel_rfl
theorem fits29 (a : List D) : fitsD Try.prog 29 (.sl a) = true := by kernel_rfl
theorem ff29 {a : List D} : fitsT Try.prog 29 (.d (.sl a)) = true := by kernel_rfl
theorem ld29 {S : Store} {a : List D} : loadV Try.prog S 29 (.d (.ptr (.sl a))) = some (.d (.sl a)) := by kernel_rfl
theorem fits30 (a : List D) : fitsD Try.prog 30 (.sl a) = true := by kernel_rfl
theorem ff30 {a : List D} : fitsT Try.prog 30 (.d (.sl a)) = true := by kernel_rfl
theorem ld30 {S : Store} {a : List D} : loadV Try.prog S 30 (.d (.ptr (.sl a))) = some (.d (.sl a)) := by kernel_rfl
theorem fits42 (a : List D) : fitsD Try.prog 42 (.sl a) = true := by kernel_rfl
theorem ff42 {a : List D} : fitsT Try.prog 42 (.d (.sl a)) = true := by kernel_rfl
theorem ld42 {S : Store} {a : List D} : loadV Try.prog S 42 (.d (.ptr (.sl a))) = some (.d (.sl a)) := by kernel_rfl
theorem fits33 (a : List D) : fitsD Try.prog 33 (.sl a) = true := by kernel_rfl
theorem ff33 {a : List D} : fitsT Try.prog 33 (.d (.sl a)) = true := by kernel_rfl
theorem ld33 {S : Store} {a : List D} : loadV Try.prog S 33 (.d (.ptr (.sl a))) = some (.d (.sl a)) := by kernel_rfl
theorem fits27 (a : List D) : fitsD Try.prog 27 (.sl a) = true := by kernel_rfl
theorem ff27 {a : List D} : fitsT Try.prog 27 (.d (.sl a)) = true := by kernel_rfl
theorem ld27 {S : Store} {a : List D} : loadV Try.prog S 27 (.d (.ptr (.sl a))) = some (.d (.sl a)) := by kernel_rfl
theorem fits25 (a : List D) : fitsD Try.prog 25 (.sl a) = true := by kernel_rfl
theorem ff25 {a : List D} : fitsT Try.prog 25 (.d (.sl a)) = true := by kernel_rfl
theorem ld25 {S : Store} {a : List D} : loadV Try.prog S 25 (.d (.ptr (.sl a))) = some (.d (.sl a)) := by kernel_rfl
theorem fits22 (a : List D) : fitsD Try.prog 22 (.sl a) = true := by kernel_rfl
theorem ff22 {a : List D} : fitsT Try.prog 22 (.d (.sl a)) = true := by kernel_rfl
theorem ld22 {S : Store} {a : List D} : loadV Try.prog S 22 (.d (.ptr (.sl a))) = some (.d (.sl a)) := by kernel_rfl
structure Ent where
  name : (List UInt8)
  ino : Int
  deriving DecidableEq
def encEnt (a : Ent) : D := .agg [.str a.name, .int .i64 a.ino]
theorem fits88 (a : Ent) : fitsD Try.prog 88 (encEnt a) = true := by kernel_rfl
theorem fitsT88 (a : Ent) : fitsT Try.prog 88 (.d (encEnt a)) = true := by kernel_rfl
theorem z88 : zeroV Try.prog 88 = some (.agg [.d (.str []), .d (.int .i64 0)]) := by kernel_rfl
theorem zf88 : fitsT Try.prog 88 (.agg [.d (.str []), .d (.int .i64 0)]) = true := by kernel_rfl
theorem zz88  : zeroV Try.prog 88 = some (.agg [.d (.str []), .d (.int .i64 0)]) := z88
theorem zzf88  : fitsT Try.prog 88 (.agg [.d (.str []), .d (.int .i64 0)]) = true := zf88
theorem ff88 {a : Ent} : fitsT Try.prog 88 (.d (encEnt a)) = true := by kernel_rfl
theorem ffa88 {x0 x1 : V} : fitsT Try.prog 88 (.agg [x0, x1]) = true := by kernel_rfl
theorem lr88 {a : Ent} : loadR Try.prog 88 0 (some (.d (encEnt a))) = some (.d (encEnt a)) := by kernel_rfl
theorem lra88 {x0 x1 : V} : loadR Try.prog 88 0 (some (.agg [x0, x1])) = some (.agg [x0, x1]) := by kernel_rfl
theorem sr88 {a b : Ent} : storeR Try.prog 88 0 (.d (encEnt a)) (.d (encEnt b)) = some (.d (encEnt a)) := by kernel_rfl
theorem srb88 {a : Ent} {x0 x1 : V} : storeR Try.prog 88 0 (.d (encEnt a)) (.agg [x0, x1]) = some (.d (encEnt a)) := by kernel_rfl
theorem src88 {a : Ent} {x0 x1 : V} : storeR Try.prog 88 0 (.agg [x0, x1]) (.d (encEnt a)) = some (.agg [x0, x1]) := by kernel_rfl
theorem srd88 {x0 x1 y0 y1 : V} : storeR Try.prog 88 0 (.agg [x0, x1]) (.agg [y0, y1]) = some (.agg [x0, x1]) := by kernel_rfl
theorem ld88 {S : Store} {a : Ent} : loadV Try.prog S 88 (.d (.ptr (encEnt a))) = some (.d (encEnt a)) := by kernel_rfl
theorem fa88_0 {a : Ent} : fieldAddrV Try.prog 88 0 (.d (.ptr (encEnt a))) = some (.d (.ptr (.str a.name))) := by kernel_rfl
theorem fd88_0 {a : Ent} : fieldV Try.prog 88 0 (.d (encEnt a)) = some (.d (.str a.name)) := by kernel_rfl
theorem lr88_0 {a : Ent} : loadR Try.prog 9 0 (some (.d (encEnt a))) = some (.d (.str a.name)) := by kernel_rfl
theorem lra88_0 {x0 x1 : V} : loadR Try.prog 9 0 (some (.agg [x0, x1])) = some x0 := by kernel_rfl
theorem sr88_0 {a : Ent} {v : V} (h1 : fitsT Try.prog 9 v = true) (h2 : v.cells = [v]) : storeR Try.prog 9 0 v (.d (encEnt a)) = some (.agg [v, .d (.int .i64 a.ino)]) := by simp only [storeR, h1, h2]; rfl
theorem sra88_0 {x0 x1 v : V} (h1 : fitsT Try.prog 9 v = true) (h2 : v.cells = [v]) : storeR Try.prog 9 0 v (.agg [x0, x1]) = some (.agg [v, x1]) := by simp only [storeR, h1, h2]; rfl
theorem fr88_0 {j x y : Nat} : fieldAddrV Try.prog 88 0 (.ref j x y) = some (.ref j x (y + 0)) := by kernel_rfl
theorem fa88_1 {a : Ent} : fieldAddrV Try.prog 88 1 (.d (.ptr (encEnt a))) = some (.d (.ptr (.int .i64 a.ino))) := by kernel_rfl
theorem fd88_1 {a : Ent} : fieldV Try.prog 88 1 (.d (encEnt a)) = some (.d (.int .i64 a.ino)) := by kernel_rfl
theorem lr88_1 {a : Ent} : loadR Try.prog 3 1 (some (.d (encEnt a))) = some (.d (.int .i64 a.ino)) := by kernel_rfl
theorem lra88_1 {x0 x1 : V} : loadR Try.prog 3 1 (some (.agg [x0, x1])) = some x1 := by kernel_rfl
theorem sr88_1 {a : Ent} {v : V} (h1 : fitsT Try.prog 3 v = true) (h2 : v.cells = [v]) : storeR Try.prog 3 1 v (.d (encEnt a)) = some (.agg [.d (.str a.name), v]) := by simp only [storeR, h1, h2]; rfl
theorem sra88_1 {x0 x1 v : V} (h1 : fitsT Try.prog 3 v = true) (h2 : v.cells = [v]) : storeR Try.prog 3 1 v (.agg [x0, x1]) = some (.agg [x0, v]) := by simp only [storeR, h1, h2]; rfl
theorem sri88_1 {a : Ent} {x : Int} : storeR Try.prog 3 1 (.d (.int .i64 x)) (.d (encEnt a)) = some (.agg [.d (.str a.name), .d (.int .i64 x)]) := by kernel_rfl
theorem sria88_1 {x0 x1 : V} {x : Int} : storeR Try.prog 3 1 (.d (.int .i64 x)) (.agg [x0, x1]) = some (.agg [x0, .d (.int .i64 x)]) := by kernel_rfl
theorem fr88_1 {j x y : Nat} : fieldAddrV Try.prog 88 1 (.ref j x y) = some (.ref j x (y + 1)) := by kernel_rfl
structure Node where
  ino : Int
  kind : Int
  links : Int
  parent : Int
  size : Int
  data : List UInt8
  names : List Ent
  deriving DecidableEq
def encNode (a : Node) : D := .agg [.int .i64 a.ino, .int .i64 a.kind, .int .i64 a.links, .int .i64 a.parent, .int .i64 a.size, encB a.data, .sl (a.names.map encEnt)]
theorem fits91 (a : Node) : fitsD Try.prog 91 (encNode a) = true := by kernel_rfl
theorem fitsT91 (a : Node) : fitsT Try.prog 91 (.d (encNode a)) = true := by kernel_rfl
theorem z91 : zeroV Try.prog 91 = some (.agg [.d (.int .i64 0), .d (.int .i64 0), .d (.int .i64 0), .d (.int .i64 0), .d (.int .i64 0), .ts [], .ts []]) := by kernel_rfl
theorem zf91 : fitsT Try.prog 91 (.agg [.d (.int .i64 0), .d (.int .i64 0), .d (.int .i64 0), .d (.int .i64 0), .d (.int .i64 0), .ts [], .ts []]) = true := by kernel_rfl
theorem zz91  : zeroV Try.prog 91 = some (.agg [.d (.int .i64 0), .d (.int .i64 0), .d (.int .i64 0), .d (.int .i64 0), .d (.int .i64 0), .ts [], .ts []]) := z91
theorem zzf91  : fitsT Try.prog 91 (.agg [.d (.int .i64 0), .d (.int .i64 0), .d (.int .i64 0), .d (.int .i64 0), .d (.int .i64 0), .ts [], .ts []]) = true := zf91
theorem ff91 {a : Node} : fitsT Try.prog 91 (.d (encNode a)) = true := by kernel_rfl
theorem ffa91 {x0 x1 x2 x3 x4 x5 x6 : V} : fitsT Try.prog 91 (.agg [x0, x1, x2, x3, x4, x5, x6]) = true := by kernel_rfl
theorem lr91 {a : Node} : loadR Try.prog 91 0 (some (.d (encNode a))) = some (.d (encNode a)) := by kernel_rfl
theorem lra91 {x0 x1 x2 x3 x4 x5 x6 : V} : loadR Try.prog 91 0 (some (.agg [x0, x1, x2, x3, x4, x5, x6])) = some (.agg [x0, x1, x2, x3, x4, x5, x6]) := by kernel_rfl
theorem sr91 {a b : Node} : storeR Try.prog 91 0 (.d (encNode a)) (.d (encNode b)) = some (.d (encNode a)) := by kernel_rfl
theorem srb91 {a : Node} {x0 x1 x2 x3 x4 x5 x6 : V} : storeR Try.prog 91 0 (.d (encNode a)) (.agg [x0, x1, x2, x3, x4, x5, x6]) = some (.d (encNode a)) := by kernel_rfl
theorem src91 {a : Node} {x0 x1 x2 x3 x4 x5 x6 : V} : storeR Try.prog 91 0 (.agg [x0, x1, x2, x3, x4, x5, x6]) (.d (encNode a)) = some (.agg [x0, x1, x2, x3, x4, x5, x6]) := by kernel_rfl
theorem srd91 {x0 x1 x2 x3 x4 x5 x6 y0 y1 y2 y3 y4 y5 y6 : V} : storeR Try.prog 91 0 (.agg [x0, x1, x2, x3, x4, x5, x6]) (.agg [y0, y1, y2, y3, y4, y5, y6]) = some (.agg [x0, x1, x2, x3, x4, x5, x6]) := by kernel_rfl
theorem ld91 {S : Store} {a : Node} : loadV Try.prog S 91 (.d (.ptr (encNode a))) = some (.d (encNode a)) := by kernel_rfl
theorem fa91_0 {a : Node} : fieldAddrV Try.prog 91 0 (.d (.ptr (encNode a))) = some (.d (.ptr (.int .i64 a.ino))) := by kernel_rfl
theorem fd91_0 {a : Node} : fieldV Try.prog 91 0 (.d (encNode a)) = some (.d (.int .i64 a.ino)) := by kernel_rfl
theorem lr91_0 {a : Node} : loadR Try.prog 3 0 (some (.d (encNode a))) = some (.d (.int .i64 a.ino)) := by kernel_rfl
theorem lra91_0 {x0 x1 x2 x3 x4 x5 x6 : V} : loadR Try.prog 3 0 (some (.agg [x0, x1, x2, x3, x4, x5, x6])) = some x0 := by kernel_rfl
theorem sr91_0 {a : Node} {v : V} (h1 : fitsT Try.prog 3 v = true) (h2 : v.cells = [v]) : storeR Try.prog 3 0 v (.d (encNode a)) = some (.agg [v, .d (.int .i64 a.kind), .d (.int .i64 a.links), .d (.int .i64 a.parent), .d (.int .i64 a.size), .d (encB a.data), .d (.sl (a.names.map encEnt))]) := by simp only [storeR, h1, h2]; rfl
theorem sra91_0 {x0 x1 x2 x3 x4 x5 x6 v : V} (h1 : fitsT Try.prog 3 v = true) (h2 : v.cells = [v]) : storeR Try.prog 3 0 v (.agg [x0, x1, x2, x3, x4, x5, x6]) = some (.agg [v, x1, x2, x3, x4, x5, x6]) := by simp only [storeR, h1, h2]; rfl
theorem sri91_0 {a : Node} {x : Int} : storeR Try.prog 3 0 (.d (.int .i64 x)) (.d (encNode a)) = some (.agg [.d (.int .i64 x), .d (.int .i64 a.kind), .d (.int .i64 a.links), .d (.int .i64 a.parent), .d (.int .i64 a.size), .d (encB a.data), .d (.sl (a.names.map encEnt))]) := by kernel_rfl
theorem sria91_0 {x0 x1 x2 x3 x4 x5 x6 : V} {x : Int} : storeR Try.prog 3 0 (.d (.int .i64 x)) (.agg [x0, x1, x2, x3, x4, x5, x6]) = some (.agg [.d (.int .i64 x), x1, x2, x3, x4, x5, x6]) := by kernel_rfl
theorem fr91_0 {j x y : Nat} : fieldAddrV Try.prog 91 0 (.ref j x y) = some (.ref j x (y + 0)) := by kernel_rfl
theorem fa91_1 {a : Node} : fieldAddrV Try.prog 91 1 (.d (.ptr (encNode a))) = some (.d (.ptr (.int .i64 a.kind))) := by kernel_rfl
theorem fd91_1 {a : Node} : fieldV Try.prog 91 1 (.d (encNode a)) = some (.d (.int .i64 a.kind)) := by kernel_rfl
theorem lr91_1 {a : Node} : loadR Try.prog 3 1 (some (.d (encNode a))) = some (.d (.int .i64 a.kind)) := by kernel_rfl
theorem lra91_1 {x0 x1 x2 x3 x4 x5 x6 : V} : loadR Try.prog 3 1 (some (.agg [x0, x1, x2, x3, x4, x5, x6])) = some x1 := by kernel_rfl
theorem sr91_1 {a : Node} {v : V} (h1 : fitsT Try.prog 3 v = true) (h2 : v.cells = [v]) : storeR Try.prog 3 1 v (.d (encNode a)) = some (.agg [.d (.int .i64 a.ino), v, .d (.int .i64 a.links), .d (.int .i64 a.parent), .d (.int .i64 a.size), .d (encB a.data), .d (.sl (a.names.map encEnt))]) := by simp only [storeR, h1, h2]; rfl
theorem sra91_1 {x0 x1 x2 x3 x4 x5 x6 v : V} (h1 : fitsT Try.prog 3 v = true) (h2 : v.cells = [v]) : storeR Try.prog 3 1 v (.agg [x0, x1, x2, x3, x4, x5, x6]) = some (.agg [x0, v, x2, x3, x4, x5, x6]) := by simp only [storeR, h1, h2]; rfl
theorem sri91_1 {a : Node} {x : Int} : storeR Try.prog 3 1 (.d (.int .i64 x)) (.d (encNode a)) = some (.agg [.d (.int .i64 a.ino), .d (.int .i64 x), .d (.int .i64 a.links), .d (.int .i64 a.parent), .d (.int .i64 a.size), .d (encB a.data), .d (.sl (a.names.map encEnt))]) := by kernel_rfl
theorem sria91_1 {x0 x1 x2 x3 x4 x5 x6 : V} {x : Int} : storeR Try.prog 3 1 (.d (.int .i64 x)) (.agg [x0, x1, x2, x3, x4, x5, x6]) = some (.agg [x0, .d (.int .i64 x), x2, x3, x4, x5, x6]) := by kernel_rfl
theorem fr91_1 {j x y : Nat} : fieldAddrV Try.prog 91 1 (.ref j x y) = some (.ref j x (y + 1)) := by kernel_rfl
theorem fa91_2 {a : Node} : fieldAddrV Try.prog 91 2 (.d (.ptr (encNode a))) = some (.d (.ptr (.int .i64 a.links))) := by kernel_rfl
theorem fd91_2 {a : Node} : fieldV Try.prog 91 2 (.d (encNode a)) = some (.d (.int .i64 a.links)) := by kernel_rfl
theorem lr91_2 {a : Node} : loadR Try.prog 3 2 (some (.d (encNode a))) = some (.d (.int .i64 a.links)) := by kernel_rfl
theorem lra91_2 {x0 x1 x2 x3 x4 x5 x6 : V} : loadR Try.prog 3 2 (some (.agg [x0, x1, x2, x3, x4, x5, x6])) = some x2 := by kernel_rfl
theorem sr91_2 {a : Node} {v : V} (h1 : fitsT Try.prog 3 v = true) (h2 : v.cells = [v]) : storeR Try.prog 3 2 v (.d (encNode a)) = some (.agg [.d (.int .i64 a.ino), .d (.int .i64 a.kind), v, .d (.int .i64 a.parent), .d (.int .i64 a.size), .d (encB a.data), .d (.sl (a.names.map encEnt))]) := by simp only [storeR, h1, h2]; rfl
theorem sra91_2 {x0 x1 x2 x3 x4 x5 x6 v : V} (h1 : fitsT Try.prog 3 v = true) (h2 : v.cells = [v]) : storeR Try.prog 3 2 v (.agg [x0, x1, x2, x3, x4, x5, x6]) = some (.agg [x0, x1, v, x3, x4, x5, x6]) := by simp only [storeR, h1, h2]; rfl
theorem sri91_2 {a : Node} {x : Int} : storeR Try.prog 3 2 (.d (.int .i64 x)) (.d (encNode a)) = some (.agg [.d (.int .i64 a.ino), .d (.int .i64 a.kind), .d (.int .i64 x), .d (.int .i64 a.parent), .d (.int .i64 a.size), .d (encB a.data), .d (.sl (a.names.map encEnt))]) := by kernel_rfl
theorem sria91_2 {x0 x1 x2 x3 x4 x5 x6 : V} {x : Int} : storeR Try.prog 3 2 (.d (.int .i64 x)) (.agg [x0, x1, x2, x3, x4, x5, x6]) = some (.agg [x0, x1, .d (.int .i64 x), x3, x4, x5, x6]) := by kernel_rfl
theorem fr91_2 {j x y : Nat} : fieldAddrV Try.prog 91 2 (.ref j x y) = some (.ref j x (y + 2)) := by kernel_rfl
theorem fa91_3 {a : Node} : fieldAddrV Try.prog 91 3 (.d (.ptr (encNode a))) = some (.d (.ptr (.int .i64 a.parent))) := by kernel_rfl
theorem fd91_3 {a : Node} : fieldV Try.prog 91 3 (.d (encNode a)) = some (.d (.int .i64 a.parent)) := by kernel_rfl
theorem lr91_3 {a : Node} : loadR Try.prog 3 3 (some (.d (encNode a))) = some (.d (.int .i64 a.parent)) := by kernel_rfl
theorem lra91_3 {x0 x1 x2 x3 x4 x5 x6 : V} : loadR Try.prog 3 3 (some (.agg [x0, x1, x2, x3, x4, x5, x6])) = some x3 := by kernel_rfl
theorem sr91_3 {a : Node} {v : V} (h1 : fitsT Try.prog 3 v = true) (h2 : v.cells = [v]) : storeR Try.prog 3 3 v (.d (encNode a)) = some (.agg [.d (.int .i64 a.ino), .d (.int .i64 a.kind), .d (.int .i64 a.links), v, .d (.int .i64 a.size), .d (encB a.data), .d (.sl (a.names.map encEnt))]) := by simp only [storeR, h1, h2]; rfl
theorem sra91_3 {x0 x1 x2 x3 x4 x5 x6 v : V} (h1 : fitsT Try.prog 3 v = true) (h2 : v.cells = [v]) : storeR Try.prog 3 3 v (.agg [x0, x1, x2, x3, x4, x5, x6]) = some (.agg [x0, x1, x2, v, x4, x5, x6]) := by simp only [storeR, h1, h2]; rfl
theorem sri91_3 {a : Node} {x : Int} : storeR Try.prog 3 3 (.d (.int .i64 x)) (.d (encNode a)) = some (.agg [.d (.int .i64 a.ino), .d (.int .i64 a.kind), .d (.int .i64 a.links), .d (.int .i64 x), .d (.int .i64 a.size), .d (encB a.data), .d (.sl (a.names.map encEnt))]) := by kernel_rfl
theorem sria91_3 {x0 x1 x2 x3 x4 x5 x6 : V} {x : Int} : storeR Try.prog 3 3 (.d (.int .i64 x)) (.agg [x0, x1, x2, x3, x4, x5, x6]) = some (.agg [x0, x1, x2, .d (.int .i64 x), x4, x5, x6]) := by kernel_rfl
theorem fr91_3 {j x y : Nat} : fieldAddrV Try.prog 91 3 (.ref j x y) = some (.ref j x (y + 3)) := by kernel_rfl
theorem fa91_4 {a : Node} : fieldAddrV Try.prog 91 4 (.d (.ptr (encNode a))) = some (.d (.ptr (.int .i64 a.size))) := by kernel_rfl
theorem fd91_4 {a : Node} : fieldV Try.prog 91 4 (.d (encNode a)) = some (.d (.int .i64 a.size)) := by kernel_rfl
theorem lr91_4 {a : Node} : loadR Try.prog 3 4 (some (.d (encNode a))) = some (.d (.int .i64 a.size)) := by kernel_rfl
theorem lra91_4 {x0 x1 x2 x3 x4 x5 x6 : V} : loadR Try.prog 3 4 (some (.agg [x0, x1, x2, x3, x4, x5, x6])) = some x4 := by kernel_rfl
theorem sr91_4 {a : Node} {v : V} (h1 : fitsT Try.prog 3 v = true) (h2 : v.cells = [v]) : storeR Try.prog 3 4 v (.d (encNode a)) = some (.agg [.d (.int .i64 a.ino), .d (.int .i64 a.kind), .d (.int .i64 a.links), .d (.int .i64 a.parent), v, .d (encB a.data), .d (.sl (a.names.map encEnt))]) := by simp only [storeR, h1, h2]; rfl
theorem sra91_4 {x0 x1 x2 x3 x4 x5 x6 v : V} (h1 : fitsT Try.prog 3 v = true) (h2 : v.cells = [v]) : storeR Try.prog 3 4 v (.agg [x0, x1, x2, x3, x4, x5, x6]) = some (.agg [x0, x1, x2, x3, v, x5, x6]) := by simp only [storeR, h1, h2]; rfl
theorem sri91_4 {a : Node} {x : Int} : storeR Try.prog 3 4 (.d (.int .i64 x)) (.d (encNode a)) = some (.agg [.d (.int .i64 a.ino), .d (.int .i64 a.kind), .d (.int .i64 a.links), .d (.int .i64 a.parent), .d (.int .i64 x), .d (encB a.data), .d (.sl (a.names.map encEnt))]) := by kernel_rfl
theorem sria91_4 {x0 x1 x2 x3 x4 x5 x6 : V} {x : Int} : storeR Try.prog 3 4 (.d (.int .i64 x)) (.agg [x0, x1, x2, x3, x4, x5, x6]) = some (.agg [x0, x1, x2, x3, .d (.int .i64 x), x5, x6]) := by kernel_rfl
theorem fr91_4 {j x y : Nat} : fieldAddrV Try.prog 91 4 (.ref j x y) = some (.ref j x (y + 4)) := by kernel_rfl
theorem fa91_5 {a : Node} : fieldAddrV Try.prog 91 5 (.d (.ptr (encNode a))) = some (.d (.ptr (encB a.data))) := by kernel_rfl
theorem fd91_5 {a : Node} : fieldV Try.prog 91 5 (.d (encNode a)) = some (.d (encB a.data)) := by kernel_rfl
theorem lr91_5 {a : Node} : loadR Try.prog 29 5 (some (.d (encNode a))) = some (.d (encB a.data)) := by kernel_rfl
theorem lra91_5 {x0 x1 x2 x3 x4 x5 x6 : V} : loadR Try.prog 29 5 (some (.agg [x0, x1, x2, x3, x4, x5, x6])) = some x5 := by kernel_rfl
theorem sr91_5 {a : Node} {v : V} (h1 : fitsT Try.prog 29 v = true) (h2 : v.cells = [v]) : storeR Try.prog 29 5 v (.d (encNode a)) = some (.agg [.d (.int .i64 a.ino), .d (.int .i64 a.kind), .d (.int .i64 a.links), .d (.int .i64 a.parent), .d (.int .i64 a.size), v, .d (.sl (a.names.map encEnt))]) := by simp only [storeR, h1, h2]; rfl
theorem sra91_5 {x0 x1 x2 x3 x4 x5 x6 v : V} (h1 : fitsT Try.prog 29 v = true) (h2 : v.cells = [v]) : storeR Try.prog 29 5 v (.agg [x0, x1, x2, x3, x4, x5, x6]) = some (.agg [x0, x1, x2, x3, x4, v, x6]) := by simp only [storeR, h1, h2]; rfl
theorem fr91_5 {j x y : Nat} : fieldAddrV Try.prog 91 5 (.ref j x y) = some (.ref j x (y + 5)) := by kernel_rfl
theorem fa91_6 {a : Node} : fieldAddrV Try.prog 91 6 (.d (.ptr (encNode a))) = some (.d (.ptr (.sl (a.names.map encEnt)))) := by kernel_rfl
theorem fd91_6 {a : Node} : fieldV Try.prog 91 6 (.d (encNode a)) = some (.d (.sl (a.names.map encEnt))) := by kernel_rfl
theorem lr91_6 {a : Node} : loadR Try.prog 30 6 (some (.d (encNode a))) = some (.d (.sl (a.names.map encEnt))) := by kernel_rfl
theorem lra91_6 {x0 x1 x2 x3 x4 x5 x6 : V} : loadR Try.prog 30 6 (some (.agg [x0, x1, x2, x3, x4, x5, x6])) = some x6 := by kernel_rfl
theorem sr91_6 {a : Node} {v : V} (h1 : fitsT Try.prog 30 v = true) (h2 : v.cells = [v]) : storeR Try.prog 30 6 v (.d (encNode a)) = some (.agg [.d (.int .i64 a.ino), .d (.int .i64 a.kind), .d (.int .i64 a.links), .d (.int .i64 a.parent), .d (.int .i64 a.size), .d (encB a.data), v]) := by simp only [storeR, h1, h2]; rfl
theorem sra91_6 {x0 x1 x2 x3 x4 x5 x6 v : V} (h1 : fitsT Try.prog 30 v = true) (h2 : v.cells = [v]) : storeR Try.prog 30 6 v (.agg [x0, x1, x2, x3, x4, x5, x6]) = some (.agg [x0, x1, x2, x3, x4, x5, v]) := by simp only [storeR, h1, h2]; rfl
theorem fr91_6 {j x y : Nat} : fieldAddrV Try.prog 91 6 (.ref j x y) = some (.ref j x (y + 6)) := by kernel_rfl
theorem fits32 (a : Node) : fitsD Try.prog 32 (encNode a) = true := by kernel_rfl
theorem fitsT32 (a : Node) : fitsT Try.prog 32 (.d (encNode a)) = true := by kernel_rfl
theorem z32 : zeroV Try.prog 32 = some (.agg [.d (.int .i64 0), .d (.int .i64 0), .d (.int .i64 0), .d (.int .i64 0), .d (.int .i64 0), .ts [], .ts []]) := by kernel_rfl
theorem zf32 : fitsT Try.prog 32 (.agg [.d (.int .i64 0), .d (.int .i64 0), .d (.int .i64 0), .d (.int .i64 0), .d (.int .i64 0), .ts [], .ts []]) = true := by kernel_rfl
theorem zz32  : zeroV Try.prog 32 = some (.agg [.d (.int .i64 0), .d (.int .i64 0), .d (.int .i64 0), .d (.int .i64 0), .d (.int .i64 0), .ts [], .ts []]) := z32
theorem zzf32  : fitsT Try.prog 32 (.agg [.d (.int .i64 0), .d (.int .i64 0), .d (.int .i64 0), .d (.int .i64 0), .d (.int .i64 0), .ts [], .ts []]) = true := zf32
theorem ff32 {a : Node} : fitsT Try.prog 32 (.d (encNode a)) = true := by kernel_rfl
theorem ffa32 {x0 x1 x2 x3 x4 x5 x6 : V} : fitsT Try.prog 32 (.agg [x0, x1, x2, x3, x4, x5, x6]) = true := by kernel_rfl
theorem lr32 {a : Node} : loadR Try.prog 32 0 (some (.d (encNode a))) = some (.d (encNode a)) := by kernel_rfl
theorem lra32 {x0 x1 x2 x3 x4 x5 x6 : V} : loadR Try.prog 32 0 (some (.agg [x0, x1, x2, x3, x4, x5, x6])) = some (.agg [x0, x1, x2, x3, x4, x5, x6]) := by kernel_rfl
theorem sr32 {a b : Node} : storeR Try.prog 32 0 (.d (encNode a)) (.d (encNode b)) = some (.d (encNode a)) := by kernel_rfl
theorem srb32 {a : Node} {x0 x1 x2 x3 x4 x5 x6 : V} : storeR Try.prog 32 0 (.d (encNode a)) (.agg [x0, x1, x2, x3, x4, x5, x6]) = some (.d (encNode a)) := by kernel_rfl
theorem src32 {a : Node} {x0 x1 x2 x3 x4 x5 x6 : V} : storeR Try.prog 32 0 (.agg [x0, x1, x2, x3, x4, x5, x6]) (.d (encNode a)) = some (.agg [x0, x1, x2, x3, x4, x5, x6]) := by kernel_rfl
theorem srd32 {x0 x1 x2 x3 x4 x5 x6 y0 y1 y2 y3 y4 y5 y6 : V} : storeR Try.prog 32 0 (.agg [x0, x1, x2, x3, x4, x5, x6]) (.agg [y0, y1, y2, y3, y4, y5, y6]) = some (.agg [x0, x1, x2, x3, x4, x5, x6]) := by kernel_rfl
theorem ld32 {S : Store} {a : Node} : loadV Try.prog S 32 (.d (.ptr (encNode a))) = some (.d (encNode a)) := by kernel_rfl
theorem fa32_0 {a : Node} : fieldAddrV Try.prog 32 0 (.d (.ptr (encNode a))) = some (.d (.ptr (.int .i64 a.ino))) := by kernel_rfl
theorem fd32_0 {a : Node} : fieldV Try.prog 32 0 (.d (encNode a)) = some (.d (.int .i64 a.ino)) := by kernel_rfl
theorem lr32_0 {a : Node} : loadR Try.prog 3 0 (some (.d (encNode a))) = some (.d (.int .i64 a.ino)) := by kernel_rfl
theorem lra32_0 {x0 x1 x2 x3 x4 x5 x6 : V} : loadR Try.prog 3 0 (some (.agg [x0, x1, x2, x3, x4, x5, x6])) = some x0 := by kernel_rfl
theorem sr32_0 {a : Node} {v : V} (h1 : fitsT Try.prog 3 v = true) (h2 : v.cells = [v]) : storeR Try.prog 3 0 v (.d (encNode a)) = some (.agg [v, .d (.int .i64 a.kind), .d (.int .i64 a.links), .d (.int .i64 a.parent), .d (.int .i64 a.size), .d (encB a.data), .d (.sl (a.names.map encEnt))]) := by simp only [storeR, h1, h2]; rfl
theorem sra32_0 {x0 x1 x2 x3 x4 x5 x6 v : V} (h1 : fitsT Try.prog 3 v = true) (h2 : v.cells = [v]) : storeR Try.prog 3 0 v (.agg [x0, x1, x2, x3, x4, x5, x6]) = some (.agg [v, x1, x2, x3, x4, x5, x6]) := by simp only [storeR, h1, h2]; rfl
theorem sri32_0 {a : Node} {x : Int} : storeR Try.prog 3 0 (.d (.int .i64 x)) (.d (encNode a)) = some (.agg [.d (.int .i64 x), .d (.int .i64 a.kind), .d (.int .i64 a.links), .d (.int .i64 a.parent), .d (.int .i64 a.size), .d (encB a.data), .d (.sl (a.names.map encEnt))]) := by kernel_rfl
theorem sria32_0 {x0 x1 x2 x3 x4 x5 x6 : V} {x : Int} : storeR Try.prog 3 0 (.d (.int .i64 x)) (.agg [x0, x1, x2, x3, x4, x5, x6]) = some (.agg [.d (.int .i64 x), x1, x2, x3, x4, x5, x6]) := by kernel_rfl
theorem fr32_0 {j x y : Nat} : fieldAddrV Try.prog 32 0 (.ref j x y) = some (.ref j x (y + 0)) := by kernel_rfl
theorem fa32_1 {a : Node} : fieldAddrV Try.prog 32 1 (.d (.ptr (encNode a))) = some (.d (.ptr (.int .i64 a.kind))) := by kernel_rfl
theorem fd32_1 {a : Node} : fieldV Try.prog 32 1 (.d (encNode a)) = some (.d (.int .i64 a.kind)) := by kernel_rfl
theorem lr32_1 {a : Node} : loadR Try.prog 3 1 (some (.d (encNode a))) = some (.d (.int .i64 a.kind)) := by kernel_rfl
theorem lra32_1 {x0 x1 x2 x3 x4 x5 x6 : V} : loadR Try.prog 3 1 (some (.agg [x0, x1, x2, x3, x4, x5, x6])) = some x1 := by kernel_rfl
theorem sr32_1 {a : Node} {v : V} (h1 : fitsT Try.prog 3 v = true) (h2 : v.cells = [v]) : storeR Try.prog 3 1 v (.d (encNode a)) = some (.agg [.d (.int .i64 a.ino), v, .d (.int .i64 a.links), .d (.int .i64 a.parent), .d (.int .i64 a.size), .d (encB a.data), .d (.sl (a.names.map encEnt))]) := by simp only [storeR, h1, h2]; rfl
theorem sra32_1 {x0 x1 x2 x3 x4 x5 x6 v : V} (h1 : fitsT Try.prog 3 v = true) (h2 : v.cells = [v]) : storeR Try.prog 3 1 v (.agg [x0, x1, x2, x3, x4, x5, x6]) = some (.agg [x0, v, x2, x3, x4, x5, x6]) := by simp only [storeR, h1, h2]; rfl
theorem sri32_1 {a : Node} {x : Int} : storeR Try.prog 3 1 (.d (.int .i64 x)) (.d (encNode a)) = some (.agg [.d (.int .i64 a.ino), .d (.int .i64 x), .d (.int .i64 a.links), .d (.int .i64 a.parent), .d (.int .i64 a.size), .d (encB a.data), .d (.sl (a.names.map encEnt))]) := by kernel_rfl
theorem sria32_1 {x0 x1 x2 x3 x4 x5 x6 : V} {x : Int} : storeR Try.prog 3 1 (.d (.int .i64 x)) (.agg [x0, x1, x2, x3, x4, x5, x6]) = some (.agg [x0, .d (.int .i64 x), x2, x3, x4, x5, x6]) := by kernel_rfl
theorem fr32_1 {j x y : Nat} : fieldAddrV Try.prog 32 1 (.ref j x y) = some (.ref j x (y + 1)) := by kernel_rfl
theorem fa32_2 {a : Node} : fieldAddrV Try.prog 32 2 (.d (.ptr (encNode a))) = some (.d (.ptr (.int .i64 a.links))) := by kernel_rfl
theorem fd32_2 {a : Node} : fieldV Try.prog 32 2 (.d (encNode a)) = some (.d (.int .i64 a.links)) := by kernel_rfl
theorem lr32_2 {a : Node} : loadR Try.prog 3 2 (some (.d (encNode a))) = some (.d (.int .i64 a.links)) := by kernel_rfl
theorem lra32_2 {x0 x1 x2 x3 x4 x5 x6 : V} : loadR Try.prog 3 2 (some (.agg [x0, x1, x2, x3, x4, x5, x6])) = some x2 := by kernel_rfl
theorem sr32_2 {a : Node} {v : V} (h1 : fitsT Try.prog 3 v = true) (h2 : v.cells = [v]) : storeR Try.prog 3 2 v (.d (encNode a)) = some (.agg [.d (.int .i64 a.ino), .d (.int .i64 a.kind), v, .d (.int .i64 a.parent), .d (.int .i64 a.size), .d (encB a.data), .d (.sl (a.names.map encEnt))]) := by simp only [storeR, h1, h2]; rfl
theorem sra32_2 {x0 x1 x2 x3 x4 x5 x6 v : V} (h1 : fitsT Try.prog 3 v = true) (h2 : v.cells = [v]) : storeR Try.prog 3 2 v (.agg [x0, x1, x2, x3, x4, x5, x6]) = some (.agg [x0, x1, v, x3, x4, x5, x6]) := by simp only [storeR, h1, h2]; rfl
theorem sri32_2 {a : Node} {x : Int} : storeR Try.prog 3 2 (.d (.int .i64 x)) (.d (encNode a)) = some (.agg [.d (.int .i64 a.ino), .d (.int .i64 a.kind), .d (.int .i64 x), .d (.int .i64 a.parent), .d (.int .i64 a.size), .d (encB a.data), .d (.sl (a.names.map encEnt))]) := by kernel_rfl
theorem sria32_2 {x0 x1 x2 x3 x4 x5 x6 : V} {x : Int} : storeR Try.prog 3 2 (.d (.int .i64 x)) (.agg [x0, x1, x2, x3, x4, x5, x6]) = some (.agg [x0, x1, .d (.int .i64 x), x3, x4, x5, x6]) := by kernel_rfl
theorem fr32_2 {j x y : Nat} : fieldAddrV Try.prog 32 2 (.ref j x y) = some (.ref j x (y + 2)) := by kernel_rfl
theorem fa32_3 {a : Node} : fieldAddrV Try.prog 32 3 (.d (.ptr (encNode a))) = some (.d (.ptr (.int .i64 a.parent))) := by kernel_rfl
theorem fd32_3 {a : Node} : fieldV Try.prog 32 3 (.d (encNode a)) = some (.d (.int .i64 a.parent)) := by kernel_rfl
theorem lr32_3 {a : Node} : loadR Try.prog 3 3 (some (.d (encNode a))) = some (.d (.int .i64 a.parent)) := by kernel_rfl
theorem lra32_3 {x0 x1 x2 x3 x4 x5 x6 : V} : loadR Try.prog 3 3 (some (.agg [x0, x1, x2, x3, x4, x5, x6])) = some x3 := by kernel_rfl
theorem sr32_3 {a : Node} {v : V} (h1 : fitsT Try.prog 3 v = true) (h2 : v.cells = [v]) : storeR Try.prog 3 3 v (.d (encNode a)) = some (.agg [.d (.int .i64 a.ino), .d (.int .i64 a.kind), .d (.int .i64 a.links), v, .d (.int .i64 a.size), .d (encB a.data), .d (.sl (a.names.map encEnt))]) := by simp only [storeR, h1, h2]; rfl
theorem sra32_3 {x0 x1 x2 x3 x4 x5 x6 v : V} (h1 : fitsT Try.prog 3 v = true) (h2 : v.cells = [v]) : storeR Try.prog 3 3 v (.agg [x0, x1, x2, x3, x4, x5, x6]) = some (.agg [x0, x1, x2, v, x4, x5, x6]) := by simp only [storeR, h1, h2]; rfl
theorem sri32_3 {a : Node} {x : Int} : storeR Try.prog 3 3 (.d (.int .i64 x)) (.d (encNode a)) = some (.agg [.d (.int .i64 a.ino), .d (.int .i64 a.kind), .d (.int .i64 a.links), .d (.int .i64 x), .d (.int .i64 a.size), .d (encB a.data), .d (.sl (a.names.map encEnt))]) := by kernel_rfl
theorem sria32_3 {x0 x1 x2 x3 x4 x5 x6 : V} {x : Int} : storeR Try.prog 3 3 (.d (.int .i64 x)) (.agg [x0, x1, x2, x3, x4, x5, x6]) = some (.agg [x0, x1, x2, .d (.int .i64 x), x4, x5, x6]) := by kernel_rfl
theorem fr32_3 {j x y : Nat} : fieldAddrV Try.prog 32 3 (.ref j x y) = some (.ref j x (y + 3)) := by kernel_rfl
theorem fa32_4 {a : Node} : fieldAddrV Try.prog 32 4 (.d (.ptr (encNode a))) = some (.d (.ptr (.int .i64 a.size))) := by kernel_rfl
theorem fd32_4 {a : Node} : fieldV Try.prog 32 4 (.d (encNode a)) = some (.d (.int .i64 a.size)) := by kernel_rfl
theorem lr32_4 {a : Node} : loadR Try.prog 3 4 (some (.d (encNode a))) = some (.d (.int .i64 a.size)) := by kernel_rfl
theorem lra32_4 {x0 x1 x2 x3 x4 x5 x6 : V} : loadR Try.prog 3 4 (some (.agg [x0, x1, x2, x3, x4, x5, x6])) = some x4 := by kernel_rfl
theorem sr32_4 {a : Node} {v : V} (h1 : fitsT Try.prog 3 v = true) (h2 : v.cells = [v]) : storeR Try.prog 3 4 v (.d (encNode a)) = some (.agg [.d (.int .i64 a.ino), .d (.int .i64 a.kind), .d (.int .i64 a.links), .d (.int .i64 a.parent), v, .d (encB a.data), .d (.sl (a.names.map encEnt))]) := by simp only [storeR, h1, h2]; rfl
theorem sra32_4 {x0 x1 x2 x3 x4 x5 x6 v : V} (h1 : fitsT Try.prog 3 v = true) (h2 : v.cells = [v]) : storeR Try.prog 3 4 v (.agg [x0, x1, x2, x3, x4, x5, x6]) = some (.agg [x0, x1, x2, x3, v, x5, x6]) := by simp only [storeR, h1, h2]; rfl
theorem sri32_4 {a : Node} {x : Int} : storeR Try.prog 3 4 (.d (.int .i64 x)) (.d (encNode a)) = some (.agg [.d (.int .i64 a.ino), .d (.int .i64 a.kind), .d (.int .i64 a.links), .d (.int .i64 a.parent), .d (.int .i64 x), .d (encB a.data), .d (.sl (a.names.map encEnt))]) := by kernel_rfl
theorem sria32_4 {x0 x1 x2 x3 x4 x5 x6 : V} {x : Int} : storeR Try.prog 3 4 (.d (.int .i64 x)) (.agg [x0, x1, x2, x3, x4, x5, x6]) = some (.agg [x0, x1, x2, x3, .d (.int .i64 x), x5, x6]) := by kernel_rfl
theorem fr32_4 {j x y : Nat} : fieldAddrV Try.prog 32 4 (.ref j x y) = some (.ref j x (y + 4)) := by kernel_rfl
theorem fa32_5 {a : Node} : fieldAddrV Try.prog 32 5 (.d (.ptr (encNode a))) = some (.d (.ptr (encB a.data))) := by kernel_rfl
theorem fd32_5 {a : Node} : fieldV Try.prog 32 5 (.d (encNode a)) = some (.d (encB a.data)) := by kernel_rfl
theorem lr32_5 {a : Node} : loadR Try.prog 29 5 (some (.d (encNode a))) = some (.d (encB a.data)) := by kernel_rfl
theorem lra32_5 {x0 x1 x2 x3 x4 x5 x6 : V} : loadR Try.prog 29 5 (some (.agg [x0, x1, x2, x3, x4, x5, x6])) = some x5 := by kernel_rfl
theorem sr32_5 {a : Node} {v : V} (h1 : fitsT Try.prog 29 v = true) (h2 : v.cells = [v]) : storeR Try.prog 29 5 v (.d (encNode a)) = some (.agg [.d (.int .i64 a.ino), .d (.int .i64 a.kind), .d (.int .i64 a.links), .d (.int .i64 a.parent), .d (.int .i64 a.size), v, .d (.sl (a.names.map encEnt))]) := by simp only [storeR, h1, h2]; rfl
theorem sra32_5 {x0 x1 x2 x3 x4 x5 x6 v : V} (h1 : fitsT Try.prog 29 v = true) (h2 : v.cells = [v]) : storeR Try.prog 29 5 v (.agg [x0, x1, x2, x3, x4, x5, x6]) = some (.agg [x0, x1, x2, x3, x4, v, x6]) := by simp only [storeR, h1, h2]; rfl
theorem fr32_5 {j x y : Nat} : fieldAddrV Try.prog 32 5 (.ref j x y) = some (.ref j x (y + 5)) := by kernel_rfl
theorem fa32_6 {a : Node} : fieldAddrV Try.prog 32 6 (.d (.ptr (encNode a))) = some (.d (.ptr (.sl (a.names.map encEnt)))) := by kernel_rfl
theorem fd32_6 {a : Node} : fieldV Try.prog 32 6 (.d (encNode a)) = some (.d (.sl (a.names.map encEnt))) := by kernel_rfl
theorem lr32_6 {a : Node} : loadR Try.prog 30 6 (some (.d (encNode a))) = some (.d (.sl (a.names.map encEnt))) := by kernel_rfl
theorem lra32_6 {x0 x1 x2 x3 x4 x5 x6 : V} : loadR Try.prog 30 6 (some (.agg [x0, x1, x2, x3, x4, x5, x6])) = some x6 := by kernel_rfl
theorem sr32_6 {a : Node} {v : V} (h1 : fitsT Try.prog 30 v = true) (h2 : v.cells = [v]) : storeR Try.prog 30 6 v (.d (encNode a)) = some (.agg [.d (.int .i64 a.ino), .d (.int .i64 a.kind), .d (.int .i64 a.links), .d (.int .i64 a.parent), .d (.int .i64 a.size), .d (encB a.data), v]) := by simp only [storeR, h1, h2]; rfl
theorem sra32_6 {x0 x1 x2 x3 x4 x5 x6 v : V} (h1 : fitsT Try.prog 30 v = true) (h2 : v.cells = [v]) : storeR Try.prog 30 6 v (.agg [x0, x1, x2, x3, x4, x5, x6]) = some (.agg [x0, x1, x2, x3, x4, x5, v]) := by simp only [storeR, h1, h2]; rfl
theorem fr32_6 {j x y : Nat} : fieldAddrV Try.prog 32 6 (.ref j x y) = some (.ref j x (y + 6)) := by kernel_rfl
structure Ans where
  err : Int
  ino : Int
  kind : Int
  links : Int
  size : Int
  data : List UInt8
  names : List (List UInt8)
  deriving DecidableEq
def encAns (a : Ans) : D := .agg [.int .i64 a.err, .int .i64 a.ino, .int .i64 a.kind, .int .i64 a.links, .int .i64 a.size, encB a.data, .sl (a.names.map .str)]
theorem fits52 (a : Ans) : fitsD Try.prog 52 (encAns a) = true := by kernel_rfl
theorem fitsT52 (a : Ans) : fitsT Try.prog 52 (.d (encAns a)) = true := by kernel_rfl
theorem z52 : zeroV Try.prog 52 = some (.agg [.d (.int .i64 0), .d (.int .i64 0), .d (.int .i64 0), .d (.int .i64 0), .d (.int .i64 0), .ts [], .ts []]) := by kernel_rfl
theorem zf52 : fitsT Try.prog 52 (.agg [.d (.int .i64 0), .d (.int .i64 0), .d (.int .i64 0), .d (.int .i64 0), .d (.int .i64 0), .ts [], .ts []]) = true := by kernel_rfl
theorem zz52  : zeroV Try.prog 52 = some (.agg [.d (.int .i64 0), .d (.int .i64 0), .d (.int .i64 0), .d (.int .i64 0), .d (.int .i64 0), .ts [], .ts []]) := z52
theorem zzf52  : fitsT Try.prog 52 (.agg [.d (.int .i64 0), .d (.int .i64 0), .d (.int .i64 0), .d (.int .i64 0), .d (.int .i64 0), .ts [], .ts []]) = true := zf52
theorem ff52 {a : Ans} : fitsT Try.prog 52 (.d (encAns a)) = true := by kernel_rfl
theorem ffa52 {x0 x1 x2 x3 x4 x5 x6 : V} : fitsT Try.prog 52 (.agg [x0, x1, x2, x3, x4, x5, x6]) = true := by kernel_rfl
theorem lr52 {a : Ans} : loadR Try.prog 52 0 (some (.d (encAns a))) = some (.d (encAns a)) := by kernel_rfl
theorem lra52 {x0 x1 x2 x3 x4 x5 x6 : V} : loadR Try.prog 52 0 (some (.agg [x0, x1, x2, x3, x4, x5, x6])) = some (.agg [x0, x1, x2, x3, x4, x5, x6]) := by kernel_rfl
theorem sr52 {a b : Ans} : storeR Try.prog 52 0 (.d (encAns a)) (.d (encAns b)) = some (.d (encAns a)) := by kernel_rfl
theorem srb52 {a : Ans} {x0 x1 x2 x3 x4 x5 x6 : V} : storeR Try.prog 52 0 (.d (encAns a)) (.agg [x0, x1, x2, x3, x4, x5, x6]) = some (.d (encAns a)) := by kernel_rfl
theorem src52 {a : Ans} {x0 x1 x2 x3 x4 x5 x6 : V} : storeR Try.prog 52 0 (.agg [x0, x1, x2, x3, x4, x5, x6]) (.d (encAns a)) = some (.agg [x0, x1, x2, x3, x4, x5, x6]) := by kernel_rfl
theorem srd52 {x0 x1 x2 x3 x4 x5 x6 y0 y1 y2 y3 y4 y5 y6 : V} : storeR Try.prog 52 0 (.agg [x0, x1, x2, x3, x4, x5, x6]) (.agg [y0, y1, y2, y3, y4, y5, y6]) = some (.agg [x0, x1, x2, x3, x4, x5, x6]) := by kernel_rfl
theorem ld52 {S : Store} {a : Ans} : loadV Try.prog S 52 (.d (.ptr (encAns a))) = some (.d (encAns a)) := by kernel_rfl
theorem fa52_0 {a : Ans} : fieldAddrV Try.prog 52 0 (.d (.ptr (encAns a))) = some (.d (.ptr (.int .i64 a.err))) := by kernel_rfl
theorem fd52_0 {a : Ans} : fieldV Try.prog 52 0 (.d (encAns a)) = some (.d (.int .i64 a.err)) := by kernel_rfl
theorem lr52_0 {a : Ans} : loadR Try.prog 3 0 (some (.d (encAns a))) = some (.d (.int .i64 a.err)) := by kernel_rfl
theorem lra52_0 {x0 x1 x2 x3 x4 x5 x6 : V} : loadR Try.prog 3 0 (some (.agg [x0, x1, x2, x3, x4, x5, x6])) = some x0 := by kernel_rfl
theorem sr52_0 {a : Ans} {v : V} (h1 : fitsT Try.prog 3 v = true) (h2 : v.cells = [v]) : storeR Try.prog 3 0 v (.d (encAns a)) = some (.agg [v, .d (.int .i64 a.ino), .d (.int .i64 a.kind), .d (.int .i64 a.links), .d (.int .i64 a.size), .d (encB a.data), .d (.sl (a.names.map .str))]) := by simp only [storeR, h1, h2]; rfl
theorem sra52_0 {x0 x1 x2 x3 x4 x5 x6 v : V} (h1 : fitsT Try.prog 3 v = true) (h2 : v.cells = [v]) : storeR Try.prog 3 0 v (.agg [x0, x1, x2, x3, x4, x5, x6]) = some (.agg [v, x1, x2, x3, x4, x5, x6]) := by simp only [storeR, h1, h2]; rfl
theorem sri52_0 {a : Ans} {x : Int} : storeR Try.prog 3 0 (.d (.int .i64 x)) (.d (encAns a)) = some (.agg [.d (.int .i64 x), .d (.int .i64 a.ino), .d (.int .i64 a.kind), .d (.int .i64 a.links), .d (.int .i64 a.size), .d (encB a.data), .d (.sl (a.names.map .str))]) := by kernel_rfl
theorem sria52_0 {x0 x1 x2 x3 x4 x5 x6 : V} {x : Int} : storeR Try.prog 3 0 (.d (.int .i64 x)) (.agg [x0, x1, x2, x3, x4, x5, x6]) = some (.agg [.d (.int .i64 x), x1, x2, x3, x4, x5, x6]) := by kernel_rfl
theorem fr52_0 {j x y : Nat} : fieldAddrV Try.prog 52 0 (.ref j x y) = some (.ref j x (y + 0)) := by kernel_rfl
theorem fa52_1 {a : Ans} : fieldAddrV Try.prog 52 1 (.d (.ptr (encAns a))) = some (.d (.ptr (.int .i64 a.ino))) := by kernel_rfl
theorem fd52_1 {a : Ans} : fieldV Try.prog 52 1 (.d (encAns a)) = some (.d (.int .i64 a.ino)) := by kernel_rfl
theorem lr52_1 {a : Ans} : loadR Try.prog 3 1 (some (.d (encAns a))) = some (.d (.int .i64 a.ino)) := by kernel_rfl
theorem lra52_1 {x0 x1 x2 x3 x4 x5 x6 : V} : loadR Try.prog 3 1 (some (.agg [x0, x1, x2, x3, x4, x5, x6])) = some x1 := by kernel_rfl
theorem sr52_1 {a : Ans} {v : V} (h1 : fitsT Try.prog 3 v = true) (h2 : v.cells = [v]) : storeR Try.prog 3 1 v (.d (encAns a)) = some (.agg [.d (.int .i64 a.err), v, .d (.int .i64 a.kind), .d (.int .i64 a.links), .d (.int .i64 a.size), .d (encB a.data), .d (.sl (a.names.map .str))]) := by simp only [storeR, h1, h2]; rfl
theorem sra52_1 {x0 x1 x2 x3 x4 x5 x6 v : V} (h1 : fitsT Try.prog 3 v = true) (h2 : v.cells = [v]) : storeR Try.prog 3 1 v (.agg [x0, x1, x2, x3, x4, x5, x6]) = some (.agg [x0, v, x2, x3, x4, x5, x6]) := by simp only [storeR, h1, h2]; rfl
theorem sri52_1 {a : Ans} {x : Int} : storeR Try.prog 3 1 (.d (.int .i64 x)) (.d (encAns a)) = some (.agg [.d (.int .i64 a.err), .d (.int .i64 x), .d (.int .i64 a.kind), .d (.int .i64 a.links), .d (.int .i64 a.size), .d (encB a.data), .d (.sl (a.names.map .str))]) := by kernel_rfl
theorem sria52_1 {x0 x1 x2 x3 x4 x5 x6 : V} {x : Int} : storeR Try.prog 3 1 (.d (.int .i64 x)) (.agg [x0, x1, x2, x3, x4, x5, x6]) = some (.agg [x0, .d (.int .i64 x), x2, x3, x4, x5, x6]) := by kernel_rfl
theorem fr52_1 {j x y : Nat} : fieldAddrV Try.prog 52 1 (.ref j x y) = some (.ref j x (y + 1)) := by kernel_rfl
theorem fa52_2 {a : Ans} : fieldAddrV Try.prog 52 2 (.d (.ptr (encAns a))) = some (.d (.ptr (.int .i64 a.kind))) := by kernel_rfl
theorem fd52_2 {a : Ans} : fieldV Try.prog 52 2 (.d (encAns a)) = some (.d (.int .i64 a.kind)) := by kernel_rfl
theorem lr52_2 {a : Ans} : loadR Try.prog 3 2 (some (.d (encAns a))) = some (.d (.int .i64 a.kind)) := by kernel_rfl
theorem lra52_2 {x0 x1 x2 x3 x4 x5 x6 : V} : loadR Try.prog 3 2 (some (.agg [x0, x1, x2, x3, x4, x5, x6])) = some x2 := by kernel_rfl
theorem sr52_2 {a : Ans} {v : V} (h1 : fitsT Try.prog 3 v = true) (h2 : v.cells = [v]) : storeR Try.prog 3 2 v (.d (encAns a)) = some (.agg [.d (.int .i64 a.err), .d (.int .i64 a.ino), v, .d (.int .i64 a.links), .d (.int .i64 a.size), .d (encB a.data), .d (.sl (a.names.map .str))]) := by simp only [storeR, h1, h2]; rfl
theorem sra52_2 {x0 x1 x2 x3 x4 x5 x6 v : V} (h1 : fitsT Try.prog 3 v = true) (h2 : v.cells = [v]) : storeR Try.prog 3 2 v (.agg [x0, x1, x2, x3, x4, x5, x6]) = some (.agg [x0, x1, v, x3, x4, x5, x6]) := by simp only [storeR, h1, h2]; rfl
theorem sri52_2 {a : Ans} {x : Int} : storeR Try.prog 3 2 (.d (.int .i64 x)) (.d (encAns a)) = some (.agg [.d (.int .i64 a.err), .d (.int .i64 a.ino), .d (.int .i64 x), .d (.int .i64 a.links), .d (.int .i64 a.size), .d (encB a.data), .d (.sl (a.names.map .str))]) := by kernel_rfl
theorem sria52_2 {x0 x1 x2 x3 x4 x5 x6 : V} {x : Int} : storeR Try.prog 3 2 (.d (.int .i64 x)) (.agg [x0, x1, x2, x3, x4, x5, x6]) = some (.agg [x0, x1, .d (.int .i64 x), x3, x4, x5, x6]) := by kernel_rfl
theorem fr52_2 {j x y : Nat} : fieldAddrV Try.prog 52 2 (.ref j x y) = some (.ref j x (y + 2)) := by kernel_rfl
theorem fa52_3 {a : Ans} : fieldAddrV Try.prog 52 3 (.d (.ptr (encAns a))) = some (.d (.ptr (.int .i64 a.links))) := by kernel_rfl
theorem fd52_3 {a : Ans} : fieldV Try.prog 52 3 (.d (encAns a)) = some (.d (.int .i64 a.links)) := by kernel_rfl
theorem lr52_3 {a : Ans} : loadR Try.prog 3 3 (some (.d (encAns a))) = some (.d (.int .i64 a.links)) := by kernel_rfl
theorem lra52_3 {x0 x1 x2 x3 x4 x5 x6 : V} : loadR Try.prog 3 3 (some (.agg [x0, x1, x2, x3, x4, x5, x6])) = some x3 := by kernel_rfl
theorem sr52_3 {a : Ans} {v : V} (h1 : fitsT Try.prog 3 v = true) (h2 : v.cells = [v]) : storeR Try.prog 3 3 v (.d (encAns a)) = some (.agg [.d (.int .i64 a.err), .d (.int .i64 a.ino), .d (.int .i64 a.kind), v, .d (.int .i64 a.size), .d (encB a.data), .d (.sl (a.names.map .str))]) := by simp only [storeR, h1, h2]; rfl
theorem sra52_3 {x0 x1 x2 x3 x4 x5 x6 v : V} (h1 : fitsT Try.prog 3 v = true) (h2 : v.cells = [v]) : storeR Try.prog 3 3 v (.agg [x0, x1, x2, x3, x4, x5, x6]) = some (.agg [x0, x1, x2, v, x4, x5, x6]) := by simp only [storeR, h1, h2]; rfl
theorem sri52_3 {a : Ans} {x : Int} : storeR Try.prog 3 3 (.d (.int .i64 x)) (.d (encAns a)) = some (.agg [.d (.int .i64 a.err), .d (.int .i64 a.ino), .d (.int .i64 a.kind), .d (.int .i64 x), .d (.int .i64 a.size), .d (encB a.data), .d (.sl (a.names.map .str))]) := by kernel_rfl
theorem sria52_3 {x0 x1 x2 x3 x4 x5 x6 : V} {x : Int} : storeR Try.prog 3 3 (.d (.int .i64 x)) (.agg [x0, x1, x2, x3, x4, x5, x6]) = some (.agg [x0, x1, x2, .d (.int .i64 x), x4, x5, x6]) := by kernel_rfl
theorem fr52_3 {j x y : Nat} : fieldAddrV Try.prog 52 3 (.ref j x y) = some (.ref j x (y + 3)) := by kernel_rfl
theorem fa52_4 {a : Ans} : fieldAddrV Try.prog 52 4 (.d (.ptr (encAns a))) = some (.d (.ptr (.int .i64 a.size))) := by kernel_rfl
theorem fd52_4 {a : Ans} : fieldV Try.prog 52 4 (.d (encAns a)) = some (.d (.int .i64 a.size)) := by kernel_rfl
theorem lr52_4 {a : Ans} : loadR Try.prog 3 4 (some (.d (encAns a))) = some (.d (.int .i64 a.size)) := by kernel_rfl
theorem lra52_4 {x0 x1 x2 x3 x4 x5 x6 : V} : loadR Try.prog 3 4 (some (.agg [x0, x1, x2, x3, x4, x5, x6])) = some x4 := by kernel_rfl
theorem sr52_4 {a : Ans} {v : V} (h1 : fitsT Try.prog 3 v = true) (h2 : v.cells = [v]) : storeR Try.prog 3 4 v (.d (encAns a)) = some (.agg [.d (.int .i64 a.err), .d (.int .i64 a.ino), .d (.int .i64 a.kind), .d (.int .i64 a.links), v, .d (encB a.data), .d (.sl (a.names.map .str))]) := by simp only [storeR, h1, h2]; rfl
theorem sra52_4 {x0 x1 x2 x3 x4 x5 x6 v : V} (h1 : fitsT Try.prog 3 v = true) (h2 : v.cells = [v]) : storeR Try.prog 3 4 v (.agg [x0, x1, x2, x3, x4, x5, x6]) = some (.agg [x0, x1, x2, x3, v, x5, x6]) := by simp only [storeR, h1, h2]; rfl
theorem sri52_4 {a : Ans} {x : Int} : storeR Try.prog 3 4 (.d (.int .i64 x)) (.d (encAns a)) = some (.agg [.d (.int .i64 a.err), .d (.int .i64 a.ino), .d (.int .i64 a.kind), .d (.int .i64 a.links), .d (.int .i64 x), .d (encB a.data), .d (.sl (a.names.map .str))]) := by kernel_rfl
theorem sria52_4 {x0 x1 x2 x3 x4 x5 x6 : V} {x : Int} : storeR Try.prog 3 4 (.d (.int .i64 x)) (.agg [x0, x1, x2, x3, x4, x5, x6]) = some (.agg [x0, x1, x2, x3, .d (.int .i64 x), x5, x6]) := by kernel_rfl
theorem fr52_4 {j x y : Nat} : fieldAddrV Try.prog 52 4 (.ref j x y) = some (.ref j x (y + 4)) := by kernel_rfl
theorem fa52_5 {a : Ans} : fieldAddrV Try.prog 52 5 (.d (.ptr (encAns a))) = some (.d (.ptr (encB a.data))) := by kernel_rfl
theorem fd52_5 {a : Ans} : fieldV Try.prog 52 5 (.d (encAns a)) = some (.d (encB a.data)) := by kernel_rfl
theorem lr52_5 {a : Ans} : loadR Try.prog 29 5 (some (.d (encAns a))) = some (.d (encB a.data)) := by kernel_rfl
theorem lra52_5 {x0 x1 x2 x3 x4 x5 x6 : V} : loadR Try.prog 29 5 (some (.agg [x0, x1, x2, x3, x4, x5, x6])) = some x5 := by kernel_rfl
theorem sr52_5 {a : Ans} {v : V} (h1 : fitsT Try.prog 29 v = true) (h2 : v.cells = [v]) : storeR Try.prog 29 5 v (.d (encAns a)) = some (.agg [.d (.int .i64 a.err), .d (.int .i64 a.ino), .d (.int .i64 a.kind), .d (.int .i64 a.links), .d (.int .i64 a.size), v, .d (.sl (a.names.map .str))]) := by simp only [storeR, h1, h2]; rfl
theorem sra52_5 {x0 x1 x2 x3 x4 x5 x6 v : V} (h1 : fitsT Try.prog 29 v = true) (h2 : v.cells = [v]) : storeR Try.prog 29 5 v (.agg [x0, x1, x2, x3, x4, x5, x6]) = some (.agg [x0, x1, x2, x3, x4, v, x6]) := by simp only [storeR, h1, h2]; rfl
theorem fr52_5 {j x y : Nat} : fieldAddrV Try.prog 52 5 (.ref j x y) = some (.ref j x (y + 5)) := by kernel_rfl
theorem fa52_6 {a : Ans} : fieldAddrV Try.prog 52 6 (.d (.ptr (encAns a))) = some (.d (.ptr (.sl (a.names.map .str)))) := by kernel_rfl
theorem fd52_6 {a : Ans} : fieldV Try.prog 52 6 (.d (encAns a)) = some (.d (.sl (a.names.map .str))) := by kernel_rfl
theorem lr52_6 {a : Ans} : loadR Try.prog 42 6 (some (.d (encAns a))) = some (.d (.sl (a.names.map .str))) := by kernel_rfl
theorem lra52_6 {x0 x1 x2 x3 x4 x5 x6 : V} : loadR Try.prog 42 6 (some (.agg [x0, x1, x2, x3, x4, x5, x6])) = some x6 := by kernel_rfl
theorem sr52_6 {a : Ans} {v : V} (h1 : fitsT Try.prog 42 v = true) (h2 : v.cells = [v]) : storeR Try.prog 42 6 v (.d (encAns a)) = some (.agg [.d (.int .i64 a.err), .d (.int .i64 a.ino), .d (.int .i64 a.kind), .d (.int .i64 a.links), .d (.int .i64 a.size), .d (encB a.data), v]) := by simp only [storeR, h1, h2]; rfl
theorem sra52_6 {x0 x1 x2 x3 x4 x5 x6 v : V} (h1 : fitsT Try.prog 42 v = true) (h2 : v.cells = [v]) : storeR Try.prog 42 6 v (.agg [x0, x1, x2, x3, x4, x5, x6]) = some (.agg [x0, x1, x2, x3, x4, x5, v]) := by simp only [storeR, h1, h2]; rfl
theorem fr52_6 {j x y : Nat} : fieldAddrV Try.prog 52 6 (.ref j x y) = some (.ref j x (y + 6)) := by kernel_rfl
theorem fits44 (a : Ans) : fitsD Try.prog 44 (encAns a) = true := by kernel_rfl
theorem fitsT44 (a : Ans) : fitsT Try.prog 44 (.d (encAns a)) = true := by kernel_rfl
theorem z44 : zeroV Try.prog 44 = some (.agg [.d (.int .i64 0), .d (.int .i64 0), .d (.int .i64 0), .d (.int .i64 0), .d (.int .i64 0), .ts [], .ts []]) := by kernel_rfl
theorem zf44 : fitsT Try.prog 44 (.agg [.d (.int .i64 0), .d (.int .i64 0), .d (.int .i64 0), .d (.int .i64 0), .d (.int .i64 0), .ts [], .ts []]) = true := by kernel_rfl
theorem zz44  : zeroV Try.prog 44 = some (.agg [.d (.int .i64 0), .d (.int .i64 0), .d (.int .i64 0), .d (.int .i64 0), .d (.int .i64 0), .ts [], .ts []]) := z44
theorem zzf44  : fitsT Try.prog 44 (.agg [.d (.int .i64 0), .d (.int .i64 0), .d (.int .i64 0), .d (.int .i64 0), .d (.int .i64 0), .ts [], .ts []]) = true := zf44
theorem ff44 {a : Ans} : fitsT Try.prog 44 (.d (encAns a)) = true := by kernel_rfl
theorem ffa44 {x0 x1 x2 x3 x4 x5 x6 : V} : fitsT Try.prog 44 (.agg [x0, x1, x2, x3, x4, x5, x6]) = true := by kernel_rfl
theorem lr44 {a : Ans} : loadR Try.prog 44 0 (some (.d (encAns a))) = some (.d (encAns a)) := by kernel_rfl
theorem lra44 {x0 x1 x2 x3 x4 x5 x6 : V} : loadR Try.prog 44 0 (some (.agg [x0, x1, x2, x3, x4, x5, x6])) = some (.agg [x0, x1, x2, x3, x4, x5, x6]) := by kernel_rfl
theorem sr44 {a b : Ans} : storeR Try.prog 44 0 (.d (encAns a)) (.d (encAns b)) = some (.d (encAns a)) := by kernel_rfl
theorem srb44 {a : Ans} {x0 x1 x2 x3 x4 x5 x6 : V} : storeR Try.prog 44 0 (.d (encAns a)) (.agg [x0, x1, x2, x3, x4, x5, x6]) = some (.d (encAns a)) := by kernel_rfl
theorem src44 {a : Ans} {x0 x1 x2 x3 x4 x5 x6 : V} : storeR Try.prog 44 0 (.agg [x0, x1, x2, x3, x4, x5, x6]) (.d (encAns a)) = some (.agg [x0, x1, x2, x3, x4, x5, x6]) := by kernel_rfl
theorem srd44 {x0 x1 x2 x3 x4 x5 x6 y0 y1 y2 y3 y4 y5 y6 : V} : storeR Try.prog 44 0 (.agg [x0, x1, x2, x3, x4, x5, x6]) (.agg [y0, y1, y2, y3, y4, y5, y6]) = some (.agg [x0, x1, x2, x3, x4, x5, x6]) := by kernel_rfl
theorem ld44 {S : Store} {a : Ans} : loadV Try.prog S 44 (.d (.ptr (encAns a))) = some (.d (encAns a)) := by kernel_rfl
theorem fa44_0 {a : Ans} : fieldAddrV Try.prog 44 0 (.d (.ptr (encAns a))) = some (.d (.ptr (.int .i64 a.err))) := by kernel_rfl
theorem fd44_0 {a : Ans} : fieldV Try.prog 44 0 (.d (encAns a)) = some (.d (.int .i64 a.err)) := by kernel_rfl
theorem lr44_0 {a : Ans} : loadR Try.prog 41 0 (some (.d (encAns a))) = some (.d (.int .i64 a.err)) := by kernel_rfl
theorem lra44_0 {x0 x1 x2 x3 x4 x5 x6 : V} : loadR Try.prog 41 0 (some (.agg [x0, x1, x2, x3, x4, x5, x6])) = some x0 := by kernel_rfl
theorem sr44_0 {a : Ans} {v : V} (h1 : fitsT Try.prog 41 v = true) (h2 : v.cells = [v]) : storeR Try.prog 41 0 v (.d (encAns a)) = some (.agg [v, .d (.int .i64 a.ino), .d (.int .i64 a.kind), .d (.int .i64 a.links), .d (.int .i64 a.size), .d (encB a.data), .d (.sl (a.names.map .str))]) := by simp only [storeR, h1, h2]; rfl
theorem sra44_0 {x0 x1 x2 x3 x4 x5 x6 v : V} (h1 : fitsT Try.prog 41 v = true) (h2 : v.cells = [v]) : storeR Try.prog 41 0 v (.agg [x0, x1, x2, x3, x4, x5, x6]) = some (.agg [v, x1, x2, x3, x4, x5, x6]) := by simp only [storeR, h1, h2]; rfl
theorem sri44_0 {a : Ans} {x : Int} : storeR Try.prog 41 0 (.d (.int .i64 x)) (.d (encAns a)) = some (.agg [.d (.int .i64 x), .d (.int .i64 a.ino), .d (.int .i64 a.kind), .d (.int .i64 a.links), .d (.int .i64 a.size), .d (encB a.data), .d (.sl (a.names.map .str))]) := by kernel_rfl
theorem sria44_0 {x0 x1 x2 x3 x4 x5 x6 : V} {x : Int} : storeR Try.prog 41 0 (.d (.int .i64 x)) (.agg [x0, x1, x2, x3, x4, x5, x6]) = some (.agg [.d (.int .i64 x), x1, x2, x3, x4, x5, x6]) := by kernel_rfl
theorem fr44_0 {j x y : Nat} : fieldAddrV Try.prog 44 0 (.ref j x y) = some (.ref j x (y + 0)) := by kernel_rfl
theorem fa44_1 {a : Ans} : fieldAddrV Try.prog 44 1 (.d (.ptr (encAns a))) = some (.d (.ptr (.int .i64 a.ino))) := by kernel_rfl
theorem fd44_1 {a : Ans} : fieldV Try.prog 44 1 (.d (encAns a)) = some (.d (.int .i64 a.ino)) := by kernel_rfl
theorem lr44_1 {a : Ans} : loadR Try.prog 3 1 (some (.d (encAns a))) = some (.d (.int .i64 a.ino)) := by kernel_rfl
theorem lra44_1 {x0 x1 x2 x3 x4 x5 x6 : V} : loadR Try.prog 3 1 (some (.agg [x0, x1, x2, x3, x4, x5, x6])) = some x1 := by kernel_rfl
theorem sr44_1 {a : Ans} {v : V} (h1 : fitsT Try.prog 3 v = true) (h2 : v.cells = [v]) : storeR Try.prog 3 1 v (.d (encAns a)) = some (.agg [.d (.int .i64 a.err), v, .d (.int .i64 a.kind), .d (.int .i64 a.links), .d (.int .i64 a.size), .d (encB a.data), .d (.sl (a.names.map .str))]) := by simp only [storeR, h1, h2]; rfl
theorem sra44_1 {x0 x1 x2 x3 x4 x5 x6 v : V} (h1 : fitsT Try.prog 3 v = true) (h2 : v.cells = [v]) : storeR Try.prog 3 1 v (.agg [x0, x1, x2, x3, x4, x5, x6]) = some (.agg [x0, v, x2, x3, x4, x5, x6]) := by simp only [storeR, h1, h2]; rfl
theorem sri44_1 {a : Ans} {x : Int} : storeR Try.prog 3 1 (.d (.int .i64 x)) (.d (encAns a)) = some (.agg [.d (.int .i64 a.err), .d (.int .i64 x), .d (.int .i64 a.kind), .d (.int .i64 a.links), .d (.int .i64 a.size), .d (encB a.data), .d (.sl (a.names.map .str))]) := by kernel_rfl
theorem sria44_1 {x0 x1 x2 x3 x4 x5 x6 : V} {x : Int} : storeR Try.prog 3 1 (.d (.int .i64 x)) (.agg [x0, x1, x2, x3, x4, x5, x6]) = some (.agg [x0, .d (.int .i64 x), x2, x3, x4, x5, x6]) := by kernel_rfl
theorem fr44_1 {j x y : Nat} : fieldAddrV Try.prog 44 1 (.ref j x y) = some (.ref j x (y + 1)) := by kernel_rfl
theorem fa44_2 {a : Ans} : fieldAddrV Try.prog 44 2 (.d (.ptr (encAns a))) = some (.d (.ptr (.int .i64 a.kind))) := by kernel_rfl
theorem fd44_2 {a : Ans} : fieldV Try.prog 44 2 (.d (encAns a)) = some (.d (.int .i64 a.kind)) := by kernel_rfl
theorem lr44_2 {a : Ans} : loadR Try.prog 3 2 (some (.d (encAns a))) = some (.d (.int .i64 a.kind)) := by kernel_rfl
theorem lra44_2 {x0 x1 x2 x3 x4 x5 x6 : V} : loadR Try.prog 3 2 (some (.agg [x0, x1, x2, x3, x4, x5, x6])) = some x2 := by kernel_rfl
theorem sr44_2 {a : Ans} {v : V} (h1 : fitsT Try.prog 3 v = true) (h2 : v.cells = [v]) : storeR Try.prog 3 2 v (.d (encAns a)) = some (.agg [.d (.int .i64 a.err), .d (.int .i64 a.ino), v, .d (.int .i64 a.links), .d (.int .i64 a.size), .d (encB a.data), .d (.sl (a.names.map .str))]) := by simp only [storeR, h1, h2]; rfl
theorem sra44_2 {x0 x1 x2 x3 x4 x5 x6 v : V} (h1 : fitsT Try.prog 3 v = true) (h2 : v.cells = [v]) : storeR Try.prog 3 2 v (.agg [x0, x1, x2, x3, x4, x5, x6]) = some (.agg [x0, x1, v, x3, x4, x5, x6]) := by simp only [storeR, h1, h2]; rfl
theorem sri44_2 {a : Ans} {x : Int} : storeR Try.prog 3 2 (.d (.int .i64 x)) (.d (encAns a)) = some (.agg [.d (.int .i64 a.err), .d (.int .i64 a.ino), .d (.int .i64 x), .d (.int .i64 a.links), .d (.int .i64 a.size), .d (encB a.data), .d (.sl (a.names.map .str))]) := by kernel_rfl
theorem sria44_2 {x0 x1 x2 x3 x4 x5 x6 : V} {x : Int} : storeR Try.prog 3 2 (.d (.int .i64 x)) (.agg [x0, x1, x2, x3, x4, x5, x6]) = some (.agg [x0, x1, .d (.int .i64 x), x3, x4, x5, x6]) := by kernel_rfl
theorem fr44_2 {j x y : Nat} : fieldAddrV Try.prog 44 2 (.ref j x y) = some (.ref j x (y + 2)) := by kernel_rfl
theorem fa44_3 {a : Ans} : fieldAddrV Try.prog 44 3 (.d (.ptr (encAns a))) = some (.d (.ptr (.int .i64 a.links))) := by kernel_rfl
theorem fd44_3 {a : Ans} : fieldV Try.prog 44 3 (.d (encAns a)) = some (.d (.int .i64 a.links)) := by kernel_rfl
theorem lr44_3 {a : Ans} : loadR Try.prog 3 3 (some (.d (encAns a))) = some (.d (.int .i64 a.links)) := by kernel_rfl
theorem lra44_3 {x0 x1 x2 x3 x4 x5 x6 : V} : loadR Try.prog 3 3 (some (.agg [x0, x1, x2, x3, x4, x5, x6])) = some x3 := by kernel_rfl
theorem sr44_3 {a : Ans} {v : V} (h1 : fitsT Try.prog 3 v = true) (h2 : v.cells = [v]) : storeR Try.prog 3 3 v (.d (encAns a)) = some (.agg [.d (.int .i64 a.err), .d (.int .i64 a.ino), .d (.int .i64 a.kind), v, .d (.int .i64 a.size), .d (encB a.data), .d (.sl (a.names.map .str))]) := by simp only [storeR, h1, h2]; rfl
theorem sra44_3 {x0 x1 x2 x3 x4 x5 x6 v : V} (h1 : fitsT Try.prog 3 v = true) (h2 : v.cells = [v]) : storeR Try.prog 3 3 v (.agg [x0, x1, x2, x3, x4, x5, x6]) = some (.agg [x0, x1, x2, v, x4, x5, x6]) := by simp only [storeR, h1, h2]; rfl
theorem sri44_3 {a : Ans} {x : Int} : storeR Try.prog 3 3 (.d (.int .i64 x)) (.d (encAns a)) = some (.agg [.d (.int .i64 a.err), .d (.int .i64 a.ino), .d (.int .i64 a.kind), .d (.int .i64 x), .d (.int .i64 a.size), .d (encB a.data), .d (.sl (a.names.map .str))]) := by kernel_rfl
theorem sria44_3 {x0 x1 x2 x3 x4 x5 x6 : V} {x : Int} : storeR Try.prog 3 3 (.d (.int .i64 x)) (.agg [x0, x1, x2, x3, x4, x5, x6]) = some (.agg [x0, x1, x2, .d (.int .i64 x), x4, x5, x6]) := by kernel_rfl
theorem fr44_3 {j x y : Nat} : fieldAddrV Try.prog 44 3 (.ref j x y) = some (.ref j x (y + 3)) := by kernel_rfl
theorem fa44_4 {a : Ans} : fieldAddrV Try.prog 44 4 (.d (.ptr (encAns a))) = some (.d (.ptr (.int .i64 a.size))) := by kernel_rfl
theorem fd44_4 {a : Ans} : fieldV Try.prog 44 4 (.d (encAns a)) = some (.d (.int .i64 a.size)) := by kernel_rfl
theorem lr44_4 {a : Ans} : loadR Try.prog 3 4 (some (.d (encAns a))) = some (.d (.int .i64 a.size)) := by kernel_rfl
theorem lra44_4 {x0 x1 x2 x3 x4 x5 x6 : V} : loadR Try.prog 3 4 (some (.agg [x0, x1, x2, x3, x4, x5, x6])) = some x4 := by kernel_rfl
theorem sr44_4 {a : Ans} {v : V} (h1 : fitsT Try.prog 3 v = true) (h2 : v.cells = [v]) : storeR Try.prog 3 4 v (.d (encAns a)) = some (.agg [.d (.int .i64 a.err), .d (.int .i64 a.ino), .d (.int .i64 a.kind), .d (.int .i64 a.links), v, .d (encB a.data), .d (.sl (a.names.map .str))]) := by simp only [storeR, h1, h2]; rfl
theorem sra44_4 {x0 x1 x2 x3 x4 x5 x6 v : V} (h1 : fitsT Try.prog 3 v = true) (h2 : v.cells = [v]) : storeR Try.prog 3 4 v (.agg [x0, x1, x2, x3, x4, x5, x6]) = some (.agg [x0, x1, x2, x3, v, x5, x6]) := by simp only [storeR, h1, h2]; rfl
theorem sri44_4 {a : Ans} {x : Int} : storeR Try.prog 3 4 (.d (.int .i64 x)) (.d (encAns a)) = some (.agg [.d (.int .i64 a.err), .d (.int .i64 a.ino), .d (.int .i64 a.kind), .d (.int .i64 a.links), .d (.int .i64 x), .d (encB a.data), .d (.sl (a.names.map .str))]) := by kernel_rfl
theorem sria44_4 {x0 x1 x2 x3 x4 x5 x6 : V} {x : Int} : storeR Try.prog 3 4 (.d (.int .i64 x)) (.agg [x0, x1, x2, x3, x4, x5, x6]) = some (.agg [x0, x1, x2, x3, .d (.int .i64 x), x5, x6]) := by kernel_rfl
theorem fr44_4 {j x y : Nat} : fieldAddrV Try.prog 44 4 (.ref j x y) = some (.ref j x (y + 4)) := by kernel_rfl
theorem fa44_5 {a : Ans} : fieldAddrV Try.prog 44 5 (.d (.ptr (encAns a))) = some (.d (.ptr (encB a.data))) := by kernel_rfl
theorem fd44_5 {a : Ans} : fieldV Try.prog 44 5 (.d (encAns a)) = some (.d (encB a.data)) := by kernel_rfl
theorem lr44_5 {a : Ans} : loadR Try.prog 29 5 (some (.d (encAns a))) = some (.d (encB a.data)) := by kernel_rfl
theorem lra44_5 {x0 x1 x2 x3 x4 x5 x6 : V} : loadR Try.prog 29 5 (some (.agg [x0, x1, x2, x3, x4, x5, x6])) = some x5 := by kernel_rfl
theorem sr44_5 {a : Ans} {v : V} (h1 : fitsT Try.prog 29 v = true) (h2 : v.cells = [v]) : storeR Try.prog 29 5 v (.d (encAns a)) = some (.agg [.d (.int .i64 a.err), .d (.int .i64 a.ino), .d (.int .i64 a.kind), .d (.int .i64 a.links), .d (.int .i64 a.size), v, .d (.sl (a.names.map .str))]) := by simp only [storeR, h1, h2]; rfl
theorem sra44_5 {x0 x1 x2 x3 x4 x5 x6 v : V} (h1 : fitsT Try.prog 29 v = true) (h2 : v.cells = [v]) : storeR Try.prog 29 5 v (.agg [x0, x1, x2, x3, x4, x5, x6]) = some (.agg [x0, x1, x2, x3, x4, v, x6]) := by simp only [storeR, h1, h2]; rfl
theorem fr44_5 {j x y : Nat} : fieldAddrV Try.prog 44 5 (.ref j x y) = some (.ref j x (y + 5)) := by kernel_rfl
theorem fa44_6 {a : Ans} : fieldAddrV Try.prog 44 6 (.d (.ptr (encAns a))) = some (.d (.ptr (.sl (a.names.map .str)))) := by kernel_rfl
theorem fd44_6 {a : Ans} : fieldV Try.prog 44 6 (.d (encAns a)) = some (.d (.sl (a.names.map .str))) := by kernel_rfl
theorem lr44_6 {a : Ans} : loadR Try.prog 42 6 (some (.d (encAns a))) = some (.d (.sl (a.names.map .str))) := by kernel_rfl
theorem lra44_6 {x0 x1 x2 x3 x4 x5 x6 : V} : loadR Try.prog 42 6 (some (.agg [x0, x1, x2, x3, x4, x5, x6])) = some x6 := by kernel_rfl
theorem sr44_6 {a : Ans} {v : V} (h1 : fitsT Try.prog 42 v = true) (h2 : v.cells = [v]) : storeR Try.prog 42 6 v (.d (encAns a)) = some (.agg [.d (.int .i64 a.err), .d (.int .i64 a.ino), .d (.int .i64 a.kind), .d (.int .i64 a.links), .d (.int .i64 a.size), .d (encB a.data), v]) := by simp only [storeR, h1, h2]; rfl
theorem sra44_6 {x0 x1 x2 x3 x4 x5 x6 v : V} (h1 : fitsT Try.prog 42 v = true) (h2 : v.cells = [v]) : storeR Try.prog 42 6 v (.agg [x0, x1, x2, x3, x4, x5, x6]) = some (.agg [x0, x1, x2, x3, x4, x5, v]) := by simp only [storeR, h1, h2]; rfl
theorem fr44_6 {j x y : Nat} : fieldAddrV Try.prog 44 6 (.ref j x y) = some (.ref j x (y + 6)) := by kernel_rfl
structure Opn where
  does : Int
  a : (List UInt8)
  b : (List UInt8)
  off : Int
  n : Int
  data : List UInt8
  deriving DecidableEq
def encOpn (a : Opn) : D := .agg [.int .i64 a.does, .str a.a, .str a.b, .int .i64 a.off, .int .i64 a.n, encB a.data]
theorem fits50 (a : Opn) : fitsD Try.prog 50 (encOpn a) = true := by kernel_rfl
theorem fitsT50 (a : Opn) : fitsT Try.prog 50 (.d (encOpn a)) = true := by kernel_rfl
theorem z50 : zeroV Try.prog 50 = some (.agg [.d (.int .i64 0), .d (.str []), .d (.str []), .d (.int .i64 0), .d (.int .i64 0), .ts []]) := by kernel_rfl
theorem zf50 : fitsT Try.prog 50 (.agg [.d (.int .i64 0), .d (.str []), .d (.str []), .d (.int .i64 0), .d (.int .i64 0), .ts []]) = true := by kernel_rfl
theorem zz50  : zeroV Try.prog 50 = some (.agg [.d (.int .i64 0), .d (.str []), .d (.str []), .d (.int .i64 0), .d (.int .i64 0), .ts []]) := z50
theorem zzf50  : fitsT Try.prog 50 (.agg [.d (.int .i64 0), .d (.str []), .d (.str []), .d (.int .i64 0), .d (.int .i64 0), .ts []]) = true := zf50
theorem ff50 {a : Opn} : fitsT Try.prog 50 (.d (encOpn a)) = true := by kernel_rfl
theorem ffa50 {x0 x1 x2 x3 x4 x5 : V} : fitsT Try.prog 50 (.agg [x0, x1, x2, x3, x4, x5]) = true := by kernel_rfl
theorem lr50 {a : Opn} : loadR Try.prog 50 0 (some (.d (encOpn a))) = some (.d (encOpn a)) := by kernel_rfl
theorem lra50 {x0 x1 x2 x3 x4 x5 : V} : loadR Try.prog 50 0 (some (.agg [x0, x1, x2, x3, x4, x5])) = some (.agg [x0, x1, x2, x3, x4, x5]) := by kernel_rfl
theorem sr50 {a b : Opn} : storeR Try.prog 50 0 (.d (encOpn a)) (.d (encOpn b)) = some (.d (encOpn a)) := by kernel_rfl
theorem srb50 {a : Opn} {x0 x1 x2 x3 x4 x5 : V} : storeR Try.prog 50 0 (.d (encOpn a)) (.agg [x0, x1, x2, x3, x4, x5]) = some (.d (encOpn a)) := by kernel_rfl
theorem src50 {a : Opn} {x0 x1 x2 x3 x4 x5 : V} : storeR Try.prog 50 0 (.agg [x0, x1, x2, x3, x4, x5]) (.d (encOpn a)) = some (.agg [x0, x1, x2, x3, x4, x5]) := by kernel_rfl
theorem srd50 {x0 x1 x2 x3 x4 x5 y0 y1 y2 y3 y4 y5 : V} : storeR Try.prog 50 0 (.agg [x0, x1, x2, x3, x4, x5]) (.agg [y0, y1, y2, y3, y4, y5]) = some (.agg [x0, x1, x2, x3, x4, x5]) := by kernel_rfl
theorem ld50 {S : Store} {a : Opn} : loadV Try.prog S 50 (.d (.ptr (encOpn a))) = some (.d (encOpn a)) := by kernel_rfl
theorem fa50_0 {a : Opn} : fieldAddrV Try.prog 50 0 (.d (.ptr (encOpn a))) = some (.d (.ptr (.int .i64 a.does))) := by kernel_rfl
theorem fd50_0 {a : Opn} : fieldV Try.prog 50 0 (.d (encOpn a)) = some (.d (.int .i64 a.does)) := by kernel_rfl
theorem lr50_0 {a : Opn} : loadR Try.prog 3 0 (some (.d (encOpn a))) = some (.d (.int .i64 a.does)) := by kernel_rfl
theorem lra50_0 {x0 x1 x2 x3 x4 x5 : V} : loadR Try.prog 3 0 (some (.agg [x0, x1, x2, x3, x4, x5])) = some x0 := by kernel_rfl
theorem sr50_0 {a : Opn} {v : V} (h1 : fitsT Try.prog 3 v = true) (h2 : v.cells = [v]) : storeR Try.prog 3 0 v (.d (encOpn a)) = some (.agg [v, .d (.str a.a), .d (.str a.b), .d (.int .i64 a.off), .d (.int .i64 a.n), .d (encB a.data)]) := by simp only [storeR, h1, h2]; rfl
theorem sra50_0 {x0 x1 x2 x3 x4 x5 v : V} (h1 : fitsT Try.prog 3 v = true) (h2 : v.cells = [v]) : storeR Try.prog 3 0 v (.agg [x0, x1, x2, x3, x4, x5]) = some (.agg [v, x1, x2, x3, x4, x5]) := by simp only [storeR, h1, h2]; rfl
theorem sri50_0 {a : Opn} {x : Int} : storeR Try.prog 3 0 (.d (.int .i64 x)) (.d (encOpn a)) = some (.agg [.d (.int .i64 x), .d (.str a.a), .d (.str a.b), .d (.int .i64 a.off), .d (.int .i64 a.n), .d (encB a.data)]) := by kernel_rfl
theorem sria50_0 {x0 x1 x2 x3 x4 x5 : V} {x : Int} : storeR Try.prog 3 0 (.d (.int .i64 x)) (.agg [x0, x1, x2, x3, x4, x5]) = some (.agg [.d (.int .i64 x), x1, x2, x3, x4, x5]) := by kernel_rfl
theorem fr50_0 {j x y : Nat} : fieldAddrV Try.prog 50 0 (.ref j x y) = some (.ref j x (y + 0)) := by kernel_rfl
theorem fa50_1 {a : Opn} : fieldAddrV Try.prog 50 1 (.d (.ptr (encOpn a))) = some (.d (.ptr (.str a.a))) := by kernel_rfl
theorem fd50_1 {a : Opn} : fieldV Try.prog 50 1 (.d (encOpn a)) = some (.d (.str a.a)) := by kernel_rfl
theorem lr50_1 {a : Opn} : loadR Try.prog 9 1 (some (.d (encOpn a))) = some (.d (.str a.a)) := by kernel_rfl
theorem lra50_1 {x0 x1 x2 x3 x4 x5 : V} : loadR Try.prog 9 1 (some (.agg [x0, x1, x2, x3, x4, x5])) = some x1 := by kernel_rfl
theorem sr50_1 {a : Opn} {v : V} (h1 : fitsT Try.prog 9 v = true) (h2 : v.cells = [v]) : storeR Try.prog 9 1 v (.d (encOpn a)) = some (.agg [.d (.int .i64 a.does), v, .d (.str a.b), .d (.int .i64 a.off), .d (.int .i64 a.n), .d (encB a.data)]) := by simp only [storeR, h1, h2]; rfl
theorem sra50_1 {x0 x1 x2 x3 x4 x5 v : V} (h1 : fitsT Try.prog 9 v = true) (h2 : v.cells = [v]) : storeR Try.prog 9 1 v (.agg [x0, x1, x2, x3, x4, x5]) = some (.agg [x0, v, x2, x3, x4, x5]) := by simp only [storeR, h1, h2]; rfl
theorem fr50_1 {j x y : Nat} : fieldAddrV Try.prog 50 1 (.ref j x y) = some (.ref j x (y + 1)) := by kernel_rfl
theorem fa50_2 {a : Opn} : fieldAddrV Try.prog 50 2 (.d (.ptr (encOpn a))) = some (.d (.ptr (.str a.b))) := by kernel_rfl
theorem fd50_2 {a : Opn} : fieldV Try.prog 50 2 (.d (encOpn a)) = some (.d (.str a.b)) := by kernel_rfl
theorem lr50_2 {a : Opn} : loadR Try.prog 9 2 (some (.d (encOpn a))) = some (.d (.str a.b)) := by kernel_rfl
theorem lra50_2 {x0 x1 x2 x3 x4 x5 : V} : loadR Try.prog 9 2 (some (.agg [x0, x1, x2, x3, x4, x5])) = some x2 := by kernel_rfl
theorem sr50_2 {a : Opn} {v : V} (h1 : fitsT Try.prog 9 v = true) (h2 : v.cells = [v]) : storeR Try.prog 9 2 v (.d (encOpn a)) = some (.agg [.d (.int .i64 a.does), .d (.str a.a), v, .d (.int .i64 a.off), .d (.int .i64 a.n), .d (encB a.data)]) := by simp only [storeR, h1, h2]; rfl
theorem sra50_2 {x0 x1 x2 x3 x4 x5 v : V} (h1 : fitsT Try.prog 9 v = true) (h2 : v.cells = [v]) : storeR Try.prog 9 2 v (.agg [x0, x1, x2, x3, x4, x5]) = some (.agg [x0, x1, v, x3, x4, x5]) := by simp only [storeR, h1, h2]; rfl
theorem fr50_2 {j x y : Nat} : fieldAddrV Try.prog 50 2 (.ref j x y) = some (.ref j x (y + 2)) := by kernel_rfl
theorem fa50_3 {a : Opn} : fieldAddrV Try.prog 50 3 (.d (.ptr (encOpn a))) = some (.d (.ptr (.int .i64 a.off))) := by kernel_rfl
theorem fd50_3 {a : Opn} : fieldV Try.prog 50 3 (.d (encOpn a)) = some (.d (.int .i64 a.off)) := by kernel_rfl
theorem lr50_3 {a : Opn} : loadR Try.prog 3 3 (some (.d (encOpn a))) = some (.d (.int .i64 a.off)) := by kernel_rfl
theorem lra50_3 {x0 x1 x2 x3 x4 x5 : V} : loadR Try.prog 3 3 (some (.agg [x0, x1, x2, x3, x4, x5])) = some x3 := by kernel_rfl
theorem sr50_3 {a : Opn} {v : V} (h1 : fitsT Try.prog 3 v = true) (h2 : v.cells = [v]) : storeR Try.prog 3 3 v (.d (encOpn a)) = some (.agg [.d (.int .i64 a.does), .d (.str a.a), .d (.str a.b), v, .d (.int .i64 a.n), .d (encB a.data)]) := by simp only [storeR, h1, h2]; rfl
theorem sra50_3 {x0 x1 x2 x3 x4 x5 v : V} (h1 : fitsT Try.prog 3 v = true) (h2 : v.cells = [v]) : storeR Try.prog 3 3 v (.agg [x0, x1, x2, x3, x4, x5]) = some (.agg [x0, x1, x2, v, x4, x5]) := by simp only [storeR, h1, h2]; rfl
theorem sri50_3 {a : Opn} {x : Int} : storeR Try.prog 3 3 (.d (.int .i64 x)) (.d (encOpn a)) = some (.agg [.d (.int .i64 a.does), .d (.str a.a), .d (.str a.b), .d (.int .i64 x), .d (.int .i64 a.n), .d (encB a.data)]) := by kernel_rfl
theorem sria50_3 {x0 x1 x2 x3 x4 x5 : V} {x : Int} : storeR Try.prog 3 3 (.d (.int .i64 x)) (.agg [x0, x1, x2, x3, x4, x5]) = some (.agg [x0, x1, x2, .d (.int .i64 x), x4, x5]) := by kernel_rfl
theorem fr50_3 {j x y : Nat} : fieldAddrV Try.prog 50 3 (.ref j x y) = some (.ref j x (y + 3)) := by kernel_rfl
theorem fa50_4 {a : Opn} : fieldAddrV Try.prog 50 4 (.d (.ptr (encOpn a))) = some (.d (.ptr (.int .i64 a.n))) := by kernel_rfl
theorem fd50_4 {a : Opn} : fieldV Try.prog 50 4 (.d (encOpn a)) = some (.d (.int .i64 a.n)) := by kernel_rfl
theorem lr50_4 {a : Opn} : loadR Try.prog 3 4 (some (.d (encOpn a))) = some (.d (.int .i64 a.n)) := by kernel_rfl
theorem lra50_4 {x0 x1 x2 x3 x4 x5 : V} : loadR Try.prog 3 4 (some (.agg [x0, x1, x2, x3, x4, x5])) = some x4 := by kernel_rfl
theorem sr50_4 {a : Opn} {v : V} (h1 : fitsT Try.prog 3 v = true) (h2 : v.cells = [v]) : storeR Try.prog 3 4 v (.d (encOpn a)) = some (.agg [.d (.int .i64 a.does), .d (.str a.a), .d (.str a.b), .d (.int .i64 a.off), v, .d (encB a.data)]) := by simp only [storeR, h1, h2]; rfl
theorem sra50_4 {x0 x1 x2 x3 x4 x5 v : V} (h1 : fitsT Try.prog 3 v = true) (h2 : v.cells = [v]) : storeR Try.prog 3 4 v (.agg [x0, x1, x2, x3, x4, x5]) = some (.agg [x0, x1, x2, x3, v, x5]) := by simp only [storeR, h1, h2]; rfl
theorem sri50_4 {a : Opn} {x : Int} : storeR Try.prog 3 4 (.d (.int .i64 x)) (.d (encOpn a)) = some (.agg [.d (.int .i64 a.does), .d (.str a.a), .d (.str a.b), .d (.int .i64 a.off), .d (.int .i64 x), .d (encB a.data)]) := by kernel_rfl
theorem sria50_4 {x0 x1 x2 x3 x4 x5 : V} {x : Int} : storeR Try.prog 3 4 (.d (.int .i64 x)) (.agg [x0, x1, x2, x3, x4, x5]) = some (.agg [x0, x1, x2, x3, .d (.int .i64 x), x5]) := by kernel_rfl
theorem fr50_4 {j x y : Nat} : fieldAddrV Try.prog 50 4 (.ref j x y) = some (.ref j x (y + 4)) := by kernel_rfl
theorem fa50_5 {a : Opn} : fieldAddrV Try.prog 50 5 (.d (.ptr (encOpn a))) = some (.d (.ptr (encB a.data))) := by kernel_rfl
theorem fd50_5 {a : Opn} : fieldV Try.prog 50 5 (.d (encOpn a)) = some (.d (encB a.data)) := by kernel_rfl
theorem lr50_5 {a : Opn} : loadR Try.prog 29 5 (some (.d (encOpn a))) = some (.d (encB a.data)) := by kernel_rfl
theorem lra50_5 {x0 x1 x2 x3 x4 x5 : V} : loadR Try.prog 29 5 (some (.agg [x0, x1, x2, x3, x4, x5])) = some x5 := by kernel_rfl
theorem sr50_5 {a : Opn} {v : V} (h1 : fitsT Try.prog 29 v = true) (h2 : v.cells = [v]) : storeR Try.prog 29 5 v (.d (encOpn a)) = some (.agg [.d (.int .i64 a.does), .d (.str a.a), .d (.str a.b), .d (.int .i64 a.off), .d (.int .i64 a.n), v]) := by simp only [storeR, h1, h2]; rfl
theorem sra50_5 {x0 x1 x2 x3 x4 x5 v : V} (h1 : fitsT Try.prog 29 v = true) (h2 : v.cells = [v]) : storeR Try.prog 29 5 v (.agg [x0, x1, x2, x3, x4, x5]) = some (.agg [x0, x1, x2, x3, x4, v]) := by simp only [storeR, h1, h2]; rfl
theorem fr50_5 {j x y : Nat} : fieldAddrV Try.prog 50 5 (.ref j x y) = some (.ref j x (y + 5)) := by kernel_rfl
theorem fits48 (a : Opn) : fitsD Try.prog 48 (encOpn a) = true := by kernel_rfl
theorem fitsT48 (a : Opn) : fitsT Try.prog 48 (.d (encOpn a)) = true := by kernel_rfl
theorem z48 : zeroV Try.prog 48 = some (.agg [.d (.int .i64 0), .d (.str []), .d (.str []), .d (.int .i64 0), .d (.int .i64 0), .ts []]) := by kernel_rfl
theorem zf48 : fitsT Try.prog 48 (.agg [.d (.int .i64 0), .d (.str []), .d (.str []), .d (.int .i64 0), .d (.int .i64 0), .ts []]) = true := by kernel_rfl
theorem zz48  : zeroV Try.prog 48 = some (.agg [.d (.int .i64 0), .d (.str []), .d (.str []), .d (.int .i64 0), .d (.int .i64 0), .ts []]) := z48
theorem zzf48  : fitsT Try.prog 48 (.agg [.d (.int .i64 0), .d (.str []), .d (.str []), .d (.int .i64 0), .d (.int .i64 0), .ts []]) = true := zf48
theorem ff48 {a : Opn} : fitsT Try.prog 48 (.d (encOpn a)) = true := by kernel_rfl
theorem ffa48 {x0 x1 x2 x3 x4 x5 : V} : fitsT Try.prog 48 (.agg [x0, x1, x2, x3, x4, x5]) = true := by kernel_rfl
theorem lr48 {a : Opn} : loadR Try.prog 48 0 (some (.d (encOpn a))) = some (.d (encOpn a)) := by kernel_rfl
theorem lra48 {x0 x1 x2 x3 x4 x5 : V} : loadR Try.prog 48 0 (some (.agg [x0, x1, x2, x3, x4, x5])) = some (.agg [x0, x1, x2, x3, x4, x5]) := by kernel_rfl
theorem sr48 {a b : Opn} : storeR Try.prog 48 0 (.d (encOpn a)) (.d (encOpn b)) = some (.d (encOpn a)) := by kernel_rfl
theorem srb48 {a : Opn} {x0 x1 x2 x3 x4 x5 : V} : storeR Try.prog 48 0 (.d (encOpn a)) (.agg [x0, x1, x2, x3, x4, x5]) = some (.d (encOpn a)) := by kernel_rfl
theorem src48 {a : Opn} {x0 x1 x2 x3 x4 x5 : V} : storeR Try.prog 48 0 (.agg [x0, x1, x2, x3, x4, x5]) (.d (encOpn a)) = some (.agg [x0, x1, x2, x3, x4, x5]) := by kernel_rfl
theorem srd48 {x0 x1 x2 x3 x4 x5 y0 y1 y2 y3 y4 y5 : V} : storeR Try.prog 48 0 (.agg [x0, x1, x2, x3, x4, x5]) (.agg [y0, y1, y2, y3, y4, y5]) = some (.agg [x0, x1, x2, x3, x4, x5]) := by kernel_rfl
theorem ld48 {S : Store} {a : Opn} : loadV Try.prog S 48 (.d (.ptr (encOpn a))) = some (.d (encOpn a)) := by kernel_rfl
theorem fa48_0 {a : Opn} : fieldAddrV Try.prog 48 0 (.d (.ptr (encOpn a))) = some (.d (.ptr (.int .i64 a.does))) := by kernel_rfl
theorem fd48_0 {a : Opn} : fieldV Try.prog 48 0 (.d (encOpn a)) = some (.d (.int .i64 a.does)) := by kernel_rfl
theorem lr48_0 {a : Opn} : loadR Try.prog 3 0 (some (.d (encOpn a))) = some (.d (.int .i64 a.does)) := by kernel_rfl
theorem lra48_0 {x0 x1 x2 x3 x4 x5 : V} : loadR Try.prog 3 0 (some (.agg [x0, x1, x2, x3, x4, x5])) = some x0 := by kernel_rfl
theorem sr48_0 {a : Opn} {v : V} (h1 : fitsT Try.prog 3 v = true) (h2 : v.cells = [v]) : storeR Try.prog 3 0 v (.d (encOpn a)) = some (.agg [v, .d (.str a.a), .d (.str a.b), .d (.int .i64 a.off), .d (.int .i64 a.n), .d (encB a.data)]) := by simp only [storeR, h1, h2]; rfl
theorem sra48_0 {x0 x1 x2 x3 x4 x5 v : V} (h1 : fitsT Try.prog 3 v = true) (h2 : v.cells = [v]) : storeR Try.prog 3 0 v (.agg [x0, x1, x2, x3, x4, x5]) = some (.agg [v, x1, x2, x3, x4, x5]) := by simp only [storeR, h1, h2]; rfl
theorem sri48_0 {a : Opn} {x : Int} : storeR Try.prog 3 0 (.d (.int .i64 x)) (.d (encOpn a)) = some (.agg [.d (.int .i64 x), .d (.str a.a), .d (.str a.b), .d (.int .i64 a.off), .d (.int .i64 a.n), .d (encB a.data)]) := by kernel_rfl
theorem sria48_0 {x0 x1 x2 x3 x4 x5 : V} {x : Int} : storeR Try.prog 3 0 (.d (.int .i64 x)) (.agg [x0, x1, x2, x3, x4, x5]) = some (.agg [.d (.int .i64 x), x1, x2, x3, x4, x5]) := by kernel_rfl
theorem fr48_0 {j x y : Nat} : fieldAddrV Try.prog 48 0 (.ref j x y) = some (.ref j x (y + 0)) := by kernel_rfl
theorem fa48_1 {a : Opn} : fieldAddrV Try.prog 48 1 (.d (.ptr (encOpn a))) = some (.d (.ptr (.str a.a))) := by kernel_rfl
theorem fd48_1 {a : Opn} : fieldV Try.prog 48 1 (.d (encOpn a)) = some (.d (.str a.a)) := by kernel_rfl
theorem lr48_1 {a : Opn} : loadR Try.prog 9 1 (some (.d (encOpn a))) = some (.d (.str a.a)) := by kernel_rfl
theorem lra48_1 {x0 x1 x2 x3 x4 x5 : V} : loadR Try.prog 9 1 (some (.agg [x0, x1, x2, x3, x4, x5])) = some x1 := by kernel_rfl
theorem sr48_1 {a : Opn} {v : V} (h1 : fitsT Try.prog 9 v = true) (h2 : v.cells = [v]) : storeR Try.prog 9 1 v (.d (encOpn a)) = some (.agg [.d (.int .i64 a.does), v, .d (.str a.b), .d (.int .i64 a.off), .d (.int .i64 a.n), .d (encB a.data)]) := by simp only [storeR, h1, h2]; rfl
theorem sra48_1 {x0 x1 x2 x3 x4 x5 v : V} (h1 : fitsT Try.prog 9 v = true) (h2 : v.cells = [v]) : storeR Try.prog 9 1 v (.agg [x0, x1, x2, x3, x4, x5]) = some (.agg [x0, v, x2, x3, x4, x5]) := by simp only [storeR, h1, h2]; rfl
theorem fr48_1 {j x y : Nat} : fieldAddrV Try.prog 48 1 (.ref j x y) = some (.ref j x (y + 1)) := by kernel_rfl
theorem fa48_2 {a : Opn} : fieldAddrV Try.prog 48 2 (.d (.ptr (encOpn a))) = some (.d (.ptr (.str a.b))) := by kernel_rfl
theorem fd48_2 {a : Opn} : fieldV Try.prog 48 2 (.d (encOpn a)) = some (.d (.str a.b)) := by kernel_rfl
theorem lr48_2 {a : Opn} : loadR Try.prog 9 2 (some (.d (encOpn a))) = some (.d (.str a.b)) := by kernel_rfl
theorem lra48_2 {x0 x1 x2 x3 x4 x5 : V} : loadR Try.prog 9 2 (some (.agg [x0, x1, x2, x3, x4, x5])) = some x2 := by kernel_rfl
theorem sr48_2 {a : Opn} {v : V} (h1 : fitsT Try.prog 9 v = true) (h2 : v.cells = [v]) : storeR Try.prog 9 2 v (.d (encOpn a)) = some (.agg [.d (.int .i64 a.does), .d (.str a.a), v, .d (.int .i64 a.off), .d (.int .i64 a.n), .d (encB a.data)]) := by simp only [storeR, h1, h2]; rfl
theorem sra48_2 {x0 x1 x2 x3 x4 x5 v : V} (h1 : fitsT Try.prog 9 v = true) (h2 : v.cells = [v]) : storeR Try.prog 9 2 v (.agg [x0, x1, x2, x3, x4, x5]) = some (.agg [x0, x1, v, x3, x4, x5]) := by simp only [storeR, h1, h2]; rfl
theorem fr48_2 {j x y : Nat} : fieldAddrV Try.prog 48 2 (.ref j x y) = some (.ref j x (y + 2)) := by kernel_rfl
theorem fa48_3 {a : Opn} : fieldAddrV Try.prog 48 3 (.d (.ptr (encOpn a))) = some (.d (.ptr (.int .i64 a.off))) := by kernel_rfl
theorem fd48_3 {a : Opn} : fieldV Try.prog 48 3 (.d (encOpn a)) = some (.d (.int .i64 a.off)) := by kernel_rfl
theorem lr48_3 {a : Opn} : loadR Try.prog 3 3 (some (.d (encOpn a))) = some (.d (.int .i64 a.off)) := by kernel_rfl
theorem lra48_3 {x0 x1 x2 x3 x4 x5 : V} : loadR Try.prog 3 3 (some (.agg [x0, x1, x2, x3, x4, x5])) = some x3 := by kernel_rfl
theorem sr48_3 {a : Opn} {v : V} (h1 : fitsT Try.prog 3 v = true) (h2 : v.cells = [v]) : storeR Try.prog 3 3 v (.d (encOpn a)) = some (.agg [.d (.int .i64 a.does), .d (.str a.a), .d (.str a.b), v, .d (.int .i64 a.n), .d (encB a.data)]) := by simp only [storeR, h1, h2]; rfl
theorem sra48_3 {x0 x1 x2 x3 x4 x5 v : V} (h1 : fitsT Try.prog 3 v = true) (h2 : v.cells = [v]) : storeR Try.prog 3 3 v (.agg [x0, x1, x2, x3, x4, x5]) = some (.agg [x0, x1, x2, v, x4, x5]) := by simp only [storeR, h1, h2]; rfl
theorem sri48_3 {a : Opn} {x : Int} : storeR Try.prog 3 3 (.d (.int .i64 x)) (.d (encOpn a)) = some (.agg [.d (.int .i64 a.does), .d (.str a.a), .d (.str a.b), .d (.int .i64 x), .d (.int .i64 a.n), .d (encB a.data)]) := by kernel_rfl
theorem sria48_3 {x0 x1 x2 x3 x4 x5 : V} {x : Int} : storeR Try.prog 3 3 (.d (.int .i64 x)) (.agg [x0, x1, x2, x3, x4, x5]) = some (.agg [x0, x1, x2, .d (.int .i64 x), x4, x5]) := by kernel_rfl
theorem fr48_3 {j x y : Nat} : fieldAddrV Try.prog 48 3 (.ref j x y) = some (.ref j x (y + 3)) := by kernel_rfl
theorem fa48_4 {a : Opn} : fieldAddrV Try.prog 48 4 (.d (.ptr (encOpn a))) = some (.d (.ptr (.int .i64 a.n))) := by kernel_rfl
theorem fd48_4 {a : Opn} : fieldV Try.prog 48 4 (.d (encOpn a)) = some (.d (.int .i64 a.n)) := by kernel_rfl
theorem lr48_4 {a : Opn} : loadR Try.prog 3 4 (some (.d (encOpn a))) = some (.d (.int .i64 a.n)) := by kernel_rfl
theorem lra48_4 {x0 x1 x2 x3 x4 x5 : V} : loadR Try.prog 3 4 (some (.agg [x0, x1, x2, x3, x4, x5])) = some x4 := by kernel_rfl
theorem sr48_4 {a : Opn} {v : V} (h1 : fitsT Try.prog 3 v = true) (h2 : v.cells = [v]) : storeR Try.prog 3 4 v (.d (encOpn a)) = some (.agg [.d (.int .i64 a.does), .d (.str a.a), .d (.str a.b), .d (.int .i64 a.off), v, .d (encB a.data)]) := by simp only [storeR, h1, h2]; rfl
theorem sra48_4 {x0 x1 x2 x3 x4 x5 v : V} (h1 : fitsT Try.prog 3 v = true) (h2 : v.cells = [v]) : storeR Try.prog 3 4 v (.agg [x0, x1, x2, x3, x4, x5]) = some (.agg [x0, x1, x2, x3, v, x5]) := by simp only [storeR, h1, h2]; rfl
theorem sri48_4 {a : Opn} {x : Int} : storeR Try.prog 3 4 (.d (.int .i64 x)) (.d (encOpn a)) = some (.agg [.d (.int .i64 a.does), .d (.str a.a), .d (.str a.b), .d (.int .i64 a.off), .d (.int .i64 x), .d (encB a.data)]) := by kernel_rfl
theorem sria48_4 {x0 x1 x2 x3 x4 x5 : V} {x : Int} : storeR Try.prog 3 4 (.d (.int .i64 x)) (.agg [x0, x1, x2, x3, x4, x5]) = some (.agg [x0, x1, x2, x3, .d (.int .i64 x), x5]) := by kernel_rfl
theorem fr48_4 {j x y : Nat} : fieldAddrV Try.prog 48 4 (.ref j x y) = some (.ref j x (y + 4)) := by kernel_rfl
theorem fa48_5 {a : Opn} : fieldAddrV Try.prog 48 5 (.d (.ptr (encOpn a))) = some (.d (.ptr (encB a.data))) := by kernel_rfl
theorem fd48_5 {a : Opn} : fieldV Try.prog 48 5 (.d (encOpn a)) = some (.d (encB a.data)) := by kernel_rfl
theorem lr48_5 {a : Opn} : loadR Try.prog 29 5 (some (.d (encOpn a))) = some (.d (encB a.data)) := by kernel_rfl
theorem lra48_5 {x0 x1 x2 x3 x4 x5 : V} : loadR Try.prog 29 5 (some (.agg [x0, x1, x2, x3, x4, x5])) = some x5 := by kernel_rfl
theorem sr48_5 {a : Opn} {v : V} (h1 : fitsT Try.prog 29 v = true) (h2 : v.cells = [v]) : storeR Try.prog 29 5 v (.d (encOpn a)) = some (.agg [.d (.int .i64 a.does), .d (.str a.a), .d (.str a.b), .d (.int .i64 a.off), .d (.int .i64 a.n), v]) := by simp only [storeR, h1, h2]; rfl
theorem sra48_5 {x0 x1 x2 x3 x4 x5 v : V} (h1 : fitsT Try.prog 29 v = true) (h2 : v.cells = [v]) : storeR Try.prog 29 5 v (.agg [x0, x1, x2, x3, x4, x5]) = some (.agg [x0, x1, x2, x3, x4, v]) := by simp only [storeR, h1, h2]; rfl
theorem fr48_5 {j x y : Nat} : fieldAddrV Try.prog 48 5 (.ref j x y) = some (.ref j x (y + 5)) := by kernel_rfl
theorem zOk29 : zOk Try.prog 5 = true := by kernel_rfl
theorem szo29 : (sz Try.prog 5).isSome = true := by kernel_rfl
theorem room29 {m : Nat} (h : m ≤ 1000000) : room Try.prog 5 m = true := room_of rfl (by decide +kernel) h
theorem ix29 {S : Store} {l : List UInt8} {i : Nat} (h : i < l.length) : indexAddrV Try.prog S 29 (.d (.sl (l.map (fun b : UInt8 => D.int .u8 b.toNat)))) (.d (.int .i64 i)) = some (.d (.ptr (.int .u8 (l[i].toNat : Int)))) := ix_map Try.underlying29 (fun a => fits5 _) h
theorem len29 {S : Store} {xs : List D} : builtinV Try.prog S .len [29] [.d (.sl xs)] = some (.val (.d (.int .i64 xs.length)) S 0) := len_sl Try.underlying29
theorem lents29 {S : Store} {xs : List D} : builtinV Try.prog S .len [29] [.ts xs] = some (.val (.d (.int .i64 xs.length)) S 0) := len_ts Try.underlying29
theorem lenrs29 {S : Store} {i o m : Nat} : builtinV Try.prog S .len [29] [.rs i o m] = some (.val (.d (.int .i64 m)) S 0) := len_rs Try.underlying29
theorem bs29 {S : Store} {a : Int} : bs1 Try.prog S 29 (.d (.int .u8 a)) = some (.val (.ts [.int .u8 a]) S 0) := by kernel_rfl
theorem ap29 {S : Store} {v : V} {xs : List UInt8} (a : UInt8) (ho : OwnS S v 5 (xs.map fun x => .d (.int .u8 x.toNat))) (hl : xs.length < 1000000) : ∃ v' S' c, appendV Try.prog S 29 29 v (.ts [.int .u8 a.toNat]) = some (v', S', c) ∧ OwnS S' v' 5 ((xs ++ [a]).map fun x => .d (.int .u8 x.toNat)) ∧ (∀ j o, S[j]? = some o → NotAt v j → S'[j]? = some o ∧ NotAt v' j) ∧ S.length ≤ S'.length := append_enc (enc := fun x : UInt8 => D.int .u8 x.toNat) a Try.underlying29 zOk29 szo29 (fits5 _) ho (room29 (by omega))
theorem zOk30 : zOk Try.prog 88 = true := by kernel_rfl
theorem szo30 : (sz Try.prog 88).isSome = true := by kernel_rfl
theorem room30 {m : Nat} (h : m ≤ 1000000) : room Try.prog 88 m = true := room_of rfl (by decide +kernel) h
theorem ix30 {S : Store} {l : List Ent} {i : Nat} (h : i < l.length) : indexAddrV Try.prog S 30 (.d (.sl (l.map (encEnt)))) (.d (.int .i64 i)) = some (.d (.ptr ((encEnt) l[i]))) := ix_map Try.underlying30 (fits88) h
theorem len30 {S : Store} {xs : List D} : builtinV Try.prog S .len [30] [.d (.sl xs)] = some (.val (.d (.int .i64 xs.length)) S 0) := len_sl Try.underlying30
theorem lents30 {S : Store} {xs : List D} : builtinV Try.prog S .len [30] [.ts xs] = some (.val (.d (.int .i64 xs.length)) S 0) := len_ts Try.underlying30
theorem lenrs30 {S : Store} {i o m : Nat} : builtinV Try.prog S .len [30] [.rs i o m] = some (.val (.d (.int .i64 m)) S 0) := len_rs Try.underlying30
theorem bs30 {S : Store} {a : Ent} : bs1 Try.prog S 30 (.d (encEnt a)) = some (.val (.ts [encEnt a]) S 0) := by kernel_rfl
theorem ap30 {S : Store} {v : V} {xs : List Ent} (a : Ent) (ho : OwnS S v 88 (xs.map fun x => .d (encEnt x))) (hl : xs.length < 1000000) : ∃ v' S' c, appendV Try.prog S 30 30 v (.ts [encEnt a]) = some (v', S', c) ∧ OwnS S' v' 88 ((xs ++ [a]).map fun x => .d (encEnt x)) ∧ (∀ j o, S[j]? = some o → NotAt v j → S'[j]? = some o ∧ NotAt v' j) ∧ S.length ≤ S'.length := append_enc a Try.underlying30 zOk30 szo30 (fits88 a) ho (room30 (by omega))
theorem zOk42 : zOk Try.prog 9 = true := by kernel_rfl
theorem szo42 : (sz Try.prog 9).isSome = true := by kernel_rfl
theorem room42 {m : Nat} (h : m ≤ 1000000) : room Try.prog 9 m = true := room_of rfl (by decide +kernel) h
theorem ix42 {S : Store} {l : List (List UInt8)} {i : Nat} (h : i < l.length) : indexAddrV Try.prog S 42 (.d (.sl (l.map (D.str)))) (.d (.int .i64 i)) = some (.d (.ptr ((D.str) l[i]))) := ix_map Try.underlying42 (fun a => fits9 a) h
theorem len42 {S : Store} {xs : List D} : builtinV Try.prog S .len [42] [.d (.sl xs)] = some (.val (.d (.int .i64 xs.length)) S 0) := len_sl Try.underlying42
theorem lents42 {S : Store} {xs : List D} : builtinV Try.prog S .len [42] [.ts xs] = some (.val (.d (.int .i64 xs.length)) S 0) := len_ts Try.underlying42
theorem lenrs42 {S : Store} {i o m : Nat} : builtinV Try.prog S .len [42] [.rs i o m] = some (.val (.d (.int .i64 m)) S 0) := len_rs Try.underlying42
theorem bs42 {S : Store} {a : (List UInt8)} : bs1 Try.prog S 42 (.d (.str a)) = some (.val (.ts [.str a]) S 0) := by kernel_rfl
theorem ap42 {S : Store} {v : V} {xs : List (List UInt8)} (a : (List UInt8)) (ho : OwnS S v 9 (xs.map fun x => .d (D.str x))) (hl : xs.length < 1000000) : ∃ v' S' c, appendV Try.prog S 42 42 v (.ts [D.str a]) = some (v', S', c) ∧ OwnS S' v' 9 ((xs ++ [a]).map fun x => .d (D.str x)) ∧ (∀ j o, S[j]? = some o → NotAt v j → S'[j]? = some o ∧ NotAt v' j) ∧ S.length ≤ S'.length := append_enc a Try.underlying42 zOk42 szo42 (fits9 a) ho (room42 (by omega))
theorem zOk33 : zOk Try.prog 3 = true := by kernel_rfl
theorem szo33 : (sz Try.prog 3).isSome = true := by kernel_rfl
theorem room33 {m : Nat} (h : m ≤ 1000000) : room Try.prog 3 m = true := room_of rfl (by decide +kernel) h
theorem ix33 {S : Store} {l : List Int} {i : Nat} (h : i < l.length) : indexAddrV Try.prog S 33 (.d (.sl (l.map (D.int .i64)))) (.d (.int .i64 i)) = some (.d (.ptr ((D.int .i64) l[i]))) := ix_map Try.underlying33 (fun a => fits3 a) h
theorem len33 {S : Store} {xs : List D} : builtinV Try.prog S .len [33] [.d (.sl xs)] = some (.val (.d (.int .i64 xs.length)) S 0) := len_sl Try.underlying33
theorem lents33 {S : Store} {xs : List D} : builtinV Try.prog S .len [33] [.ts xs] = some (.val (.d (.int .i64 xs.length)) S 0) := len_ts Try.underlying33
theorem lenrs33 {S : Store} {i o m : Nat} : builtinV Try.prog S .len [33] [.rs i o m] = some (.val (.d (.int .i64 m)) S 0) := len_rs Try.underlying33
theorem bs33 {S : Store} {a : Int} : bs1 Try.prog S 33 (.d (.int .i64 a)) = some (.val (.ts [.int .i64 a]) S 0) := by kernel_rfl
theorem ap33 {S : Store} {v : V} {xs : List Int} (a : Int) (ho : OwnS S v 3 (xs.map fun x => .d (D.int .i64 x))) (hl : xs.length < 1000000) : ∃ v' S' c, appendV Try.prog S 33 33 v (.ts [D.int .i64 a]) = some (v', S', c) ∧ OwnS S' v' 3 ((xs ++ [a]).map fun x => .d (D.int .i64 x)) ∧ (∀ j o, S[j]? = some o → NotAt v j → S'[j]? = some o ∧ NotAt v' j) ∧ S.length ≤ S'.length := append_enc a Try.underlying33 zOk33 szo33 (fits3 a) ho (room33 (by omega))
theorem zOk27 : zOk Try.prog 91 = true := by kernel_rfl
theorem szo27 : (sz Try.prog 91).isSome = true := by kernel_rfl
theorem room27 {m : Nat} (h : m ≤ 1000000) : room Try.prog 91 m = true := room_of rfl (by decide +kernel) h
theorem ix27 {S : Store} {l : List Node} {i : Nat} (h : i < l.length) : indexAddrV Try.prog S 27 (.d (.sl (l.map (encNode)))) (.d (.int .i64 i)) = some (.d (.ptr ((encNode) l[i]))) := ix_map Try.underlying27 (fits91) h
theorem len27 {S : Store} {xs : List D} : builtinV Try.prog S .len [27] [.d (.sl xs)] = some (.val (.d (.int .i64 xs.length)) S 0) := len_sl Try.underlying27
theorem lents27 {S : Store} {xs : List D} : builtinV Try.prog S .len [27] [.ts xs] = some (.val (.d (.int .i64 xs.length)) S 0) := len_ts Try.underlying27
theorem lenrs27 {S : Store} {i o m : Nat} : builtinV Try.prog S .len [27] [.rs i o m] = some (.val (.d (.int .i64 m)) S 0) := len_rs Try.underlying27
theorem bs27 {S : Store} {a : Node} : bs1 Try.prog S 27 (.d (encNode a)) = some (.val (.ts [encNode a]) S 0) := by kernel_rfl
theorem ap27 {S : Store} {v : V} {xs : List Node} (a : Node) (ho : OwnS S v 91 (xs.map fun x => .d (encNode x))) (hl : xs.length < 1000000) : ∃ v' S' c, appendV Try.prog S 27 27 v (.ts [encNode a]) = some (v', S', c) ∧ OwnS S' v' 91 ((xs ++ [a]).map fun x => .d (encNode x)) ∧ (∀ j o, S[j]? = some o → NotAt v j → S'[j]? = some o ∧ NotAt v' j) ∧ S.length ≤ S'.length := append_enc a Try.underlying27 zOk27 szo27 (fits91 a) ho (room27 (by omega))
theorem zOk25 : zOk Try.prog 32 = true := by kernel_rfl
theorem szo25 : (sz Try.prog 32).isSome = true := by kernel_rfl
theorem room25 {m : Nat} (h : m ≤ 1000000) : room Try.prog 32 m = true := room_of rfl (by decide +kernel) h
theorem ix25 {S : Store} {l : List Node} {i : Nat} (h : i < l.length) : indexAddrV Try.prog S 25 (.d (.sl (l.map (encNode)))) (.d (.int .i64 i)) = some (.d (.ptr ((encNode) l[i]))) := ix_map Try.underlying25 (fits32) h
theorem len25 {S : Store} {xs : List D} : builtinV Try.prog S .len [25] [.d (.sl xs)] = some (.val (.d (.int .i64 xs.length)) S 0) := len_sl Try.underlying25
theorem lents25 {S : Store} {xs : List D} : builtinV Try.prog S .len [25] [.ts xs] = some (.val (.d (.int .i64 xs.length)) S 0) := len_ts Try.underlying25
theorem lenrs25 {S : Store} {i o m : Nat} : builtinV Try.prog S .len [25] [.rs i o m] = some (.val (.d (.int .i64 m)) S 0) := len_rs Try.underlying25
theorem bs25 {S : Store} {a : Node} : bs1 Try.prog S 25 (.d (encNode a)) = some (.val (.ts [encNode a]) S 0) := by kernel_rfl
theorem ap25 {S : Store} {v : V} {xs : List Node} (a : Node) (ho : OwnS S v 32 (xs.map fun x => .d (encNode x))) (hl : xs.length < 1000000) : ∃ v' S' c, appendV Try.prog S 25 25 v (.ts [encNode a]) = some (v', S', c) ∧ OwnS S' v' 32 ((xs ++ [a]).map fun x => .d (encNode x)) ∧ (∀ j o, S[j]? = some o → NotAt v j → S'[j]? = some o ∧ NotAt v' j) ∧ S.length ≤ S'.length := append_enc a Try.underlying25 zOk25 szo25 (fits32 a) ho (room25 (by omega))
theorem zOk22 : zOk Try.prog 50 = true := by kernel_rfl
theorem szo22 : (sz Try.prog 50).isSome = true := by kernel_rfl
theorem room22 {m : Nat} (h : m ≤ 1000000) : room Try.prog 50 m = true := room_of rfl (by decide +kernel) h
theorem ix22 {S : Store} {l : List Opn} {i : Nat} (h : i < l.length) : indexAddrV Try.prog S 22 (.d (.sl (l.map (encOpn)))) (.d (.int .i64 i)) = some (.d (.ptr ((encOpn) l[i]))) := ix_map Try.underlying22 (fits50) h
theorem len22 {S : Store} {xs : List D} : builtinV Try.prog S .len [22] [.d (.sl xs)] = some (.val (.d (.int .i64 xs.length)) S 0) := len_sl Try.underlying22
theorem lents22 {S : Store} {xs : List D} : builtinV Try.prog S .len [22] [.ts xs] = some (.val (.d (.int .i64 xs.length)) S 0) := len_ts Try.underlying22
theorem lenrs22 {S : Store} {i o m : Nat} : builtinV Try.prog S .len [22] [.rs i o m] = some (.val (.d (.int .i64 m)) S 0) := len_rs Try.underlying22
theorem bs22 {S : Store} {a : Opn} : bs1 Try.prog S 22 (.d (encOpn a)) = some (.val (.ts [encOpn a]) S 0) := by kernel_rfl
theorem ap22 {S : Store} {v : V} {xs : List Opn} (a : Opn) (ho : OwnS S v 50 (xs.map fun x => .d (encOpn x))) (hl : xs.length < 1000000) : ∃ v' S' c, appendV Try.prog S 22 22 v (.ts [encOpn a]) = some (v', S', c) ∧ OwnS S' v' 50 ((xs ++ [a]).map fun x => .d (encOpn x)) ∧ (∀ j o, S[j]? = some o → NotAt v j → S'[j]? = some o ∧ NotAt v' j) ∧ S.length ≤ S'.length := append_enc a Try.underlying22 zOk22 szo22 (fits50 a) ho (room22 (by omega))
theorem ixstr {s : List UInt8} {i : Nat} (h : i < s.length) : indexV Try.prog 9 (.d (.str s)) (.d (.int .i64 i)) = some (.d (.int .u8 s[i].toNat)) := idx_str Try.underlying9 h
theorem lenstr {S : Store} {s : List UInt8} : builtinV Try.prog S .len [9] [.d (.str s)] = some (.val (.d (.int .i64 s.length)) S 0) := len_str Try.underlying9
theorem body112 : bodyOf Try.prog 112 = some ⟨Try.f112.body.getD .skip, 28, #[.tmp 4]⟩ := by
  unfold bodyOf
  rw [Try.func112]
  rfl
theorem bo112  : (bodyOf Try.prog 112).isSome = true := by kernel_rfl
theorem sh112  : cfg.shared 112 = false := by kernel_rfl
theorem body89 : bodyOf Try.prog 89 = some ⟨Try.f89.body.getD .skip, 52, #[.tmp 4]⟩ := by
  unfold bodyOf
  rw [Try.func89]
  rfl
theorem bo89  : (bodyOf Try.prog 89).isSome = true := by kernel_rfl
theorem sh89  : cfg.shared 89 = false := by kernel_rfl
theorem body65 : bodyOf Try.prog 65 = some ⟨Try.f65.body.getD .skip, 16, #[.cell 4 91]⟩ := by
  unfold bodyOf
  rw [Try.func65]
  rfl
theorem bo65  : (bodyOf Try.prog 65).isSome = true := by kernel_rfl
theorem sh65  : cfg.shared 65 = false := by kernel_rfl
theorem body88 : bodyOf Try.prog 88 = some ⟨Try.f88.body.getD .skip, 62, #[.tmp 8]⟩ := by
  unfold bodyOf
  rw [Try.func88]
  rfl
theorem bo88  : (bodyOf Try.prog 88).isSome = true := by kernel_rfl
theorem sh88  : cfg.shared 88 = false := by kernel_rfl
theorem body91 : bodyOf Try.prog 91 = some ⟨Try.f91.body.getD .skip, 41, #[.tmp 6]⟩ := by
  unfold bodyOf
  rw [Try.func91]
  rfl
theorem bo91  : (bodyOf Try.prog 91).isSome = true := by kernel_rfl
theorem sh91  : cfg.shared 91 = false := by kernel_rfl
theorem body90 : bodyOf Try.prog 90 = some ⟨Try.f90.body.getD .skip, 22, #[.tmp 4]⟩ := by
  unfold bodyOf
  rw [Try.func90]
  rfl
theorem bo90  : (bodyOf Try.prog 90).isSome = true := by kernel_rfl
theorem sh90  : cfg.shared 90 = false := by kernel_rfl
theorem body92 : bodyOf Try.prog 92 = some ⟨Try.f92.body.getD .skip, 21, #[.tmp 6]⟩ := by
  unfold bodyOf
  rw [Try.func92]
  rfl
theorem bo92  : (bodyOf Try.prog 92).isSome = true := by kernel_rfl
theorem sh92  : cfg.shared 92 = false := by kernel_rfl
theorem body62 : bodyOf Try.prog 62 = some ⟨Try.f62.body.getD .skip, 32, #[.tmp 4, .tmp 5]⟩ := by
  unfold bodyOf
  rw [Try.func62]
  rfl
theorem bo62  : (bodyOf Try.prog 62).isSome = true := by kernel_rfl
theorem sh62  : cfg.shared 62 = false := by kernel_rfl
theorem body28 : bodyOf Try.prog 28 = some ⟨Try.f28.body.getD .skip, 21, #[.tmp 4, .tmp 5]⟩ := by
  unfold bodyOf
  rw [Try.func28]
  rfl
theorem bo28  : (bodyOf Try.prog 28).isSome = true := by kernel_rfl
theorem sh28  : cfg.shared 28 = false := by kernel_rfl
theorem body30 : bodyOf Try.prog 30 = some ⟨Try.f30.body.getD .skip, 47, #[.tmp 4, .tmp 5, .tmp 6]⟩ := by
  unfold bodyOf
  rw [Try.func30]
  rfl
theorem bo30  : (bodyOf Try.prog 30).isSome = true := by kernel_rfl
theorem sh30  : cfg.shared 30 = false := by kernel_rfl
theorem body32 : bodyOf Try.prog 32 = some ⟨Try.f32.body.getD .skip, 11, #[.tmp 2]⟩ := by
  unfold bodyOf
  rw [Try.func32]
  rfl
theorem bo32  : (bodyOf Try.prog 32).isSome = true := by kernel_rfl
theorem sh32  : cfg.shared 32 = false := by kernel_rfl
theorem body46 : bodyOf Try.prog 46 = some ⟨Try.f46.body.getD .skip, 5, #[.cell 2 52]⟩ := by
  unfold bodyOf
  rw [Try.func46]
  rfl
theorem bo46  : (bodyOf Try.prog 46).isSome = true := by kernel_rfl
theorem sh46  : cfg.shared 46 = false := by kernel_rfl
theorem body47 : bodyOf Try.prog 47 = some ⟨Try.f47.body.getD .skip, 51, #[.tmp 4, .cell 5 52]⟩ := by
  unfold bodyOf
  rw [Try.func47]
  rfl
theorem bo47  : (bodyOf Try.prog 47).isSome = true := by kernel_rfl
theorem sh47  : cfg.shared 47 = false := by kernel_rfl
theorem body48 : bodyOf Try.prog 48 = some ⟨Try.f48.body.getD .skip, 65, #[.tmp 4, .cell 5 52]⟩ := by
  unfold bodyOf
  rw [Try.func48]
  rfl
theorem bo48  : (bodyOf Try.prog 48).isSome = true := by kernel_rfl
theorem sh48  : cfg.shared 48 = false := by kernel_rfl
theorem body49 : bodyOf Try.prog 49 = some ⟨Try.f49.body.getD .skip, 74, #[.tmp 4, .cell 5 52]⟩ := by
  unfold bodyOf
  rw [Try.func49]
  rfl
theorem bo49  : (bodyOf Try.prog 49).isSome = true := by kernel_rfl
theorem sh49  : cfg.shared 49 = false := by kernel_rfl
theorem body50 : bodyOf Try.prog 50 = some ⟨Try.f50.body.getD .skip, 126, #[.tmp 4, .cell 5 52]⟩ := by
  unfold bodyOf
  rw [Try.func50]
  rfl
theorem bo50  : (bodyOf Try.prog 50).isSome = true := by kernel_rfl
theorem sh50  : cfg.shared 50 = false := by kernel_rfl
theorem body51 : bodyOf Try.prog 51 = some ⟨Try.f51.body.getD .skip, 147, #[.tmp 4, .cell 5 52]⟩ := by
  unfold bodyOf
  rw [Try.func51]
  rfl
theorem bo51  : (bodyOf Try.prog 51).isSome = true := by kernel_rfl
theorem sh51  : cfg.shared 51 = false := by kernel_rfl
theorem body52 : bodyOf Try.prog 52 = some ⟨Try.f52.body.getD .skip, 61, #[.cell 4 52]⟩ := by
  unfold bodyOf
  rw [Try.func52]
  rfl
theorem bo52  : (bodyOf Try.prog 52).isSome = true := by kernel_rfl
theorem sh52  : cfg.shared 52 = false := by kernel_rfl
theorem body21 : bodyOf Try.prog 21 = some ⟨Try.f21.body.getD .skip, 60, #[.tmp 4, .cell 5 52]⟩ := by
  unfold bodyOf
  rw [Try.func21]
  rfl
theorem bo21  : (bodyOf Try.prog 21).isSome = true := by kernel_rfl
theorem sh21  : cfg.shared 21 = false := by kernel_rfl
theorem body18 : bodyOf Try.prog 18 = some ⟨Try.f18.body.getD .skip, 3, #[.tmp 0]⟩ := by
  unfold bodyOf
  rw [Try.func18]
  rfl
theorem bo18  : (bodyOf Try.prog 18).isSome = true := by kernel_rfl
theorem sh18  : cfg.shared 18 = false := by kernel_rfl
theorem body67 : bodyOf Try.prog 67 = some ⟨Try.f67.body.getD .skip, 20, #[.tmp 4]⟩ := by
  unfold bodyOf
  rw [Try.func67]
  rfl
theorem bo67  : (bodyOf Try.prog 67).isSome = true := by kernel_rfl
theorem sh67  : cfg.shared 67 = false := by kernel_rfl
theorem body87 : bodyOf Try.prog 87 = some ⟨Try.f87.body.getD .skip, 27, #[.tmp 4]⟩ := by
  unfold bodyOf
  rw [Try.func87]
  rfl
theorem bo87  : (bodyOf Try.prog 87).isSome = true := by kernel_rfl
theorem sh87  : cfg.shared 87 = false := by kernel_rfl
theorem body55 : bodyOf Try.prog 55 = some ⟨Try.f55.body.getD .skip, 52, #[.tmp 4]⟩ := by
  unfold bodyOf
  rw [Try.func55]
  rfl
theorem bo55  : (bodyOf Try.prog 55).isSome = true := by kernel_rfl
theorem sh55  : cfg.shared 55 = false := by kernel_rfl
theorem body95 : bodyOf Try.prog 95 = some ⟨Try.f95.body.getD .skip, 26, #[.tmp 4]⟩ := by
  unfold bodyOf
  rw [Try.func95]
  rfl
theorem bo95  : (bodyOf Try.prog 95).isSome = true := by kernel_rfl
theorem sh95  : cfg.shared 95 = false := by kernel_rfl
theorem body61 : bodyOf Try.prog 61 = some ⟨Try.f61.body.getD .skip, 67, #[.tmp 2, .tmp 3]⟩ := by
  unfold bodyOf
  rw [Try.func61]
  rfl
theorem bo61  : (bodyOf Try.prog 61).isSome = true := by kernel_rfl
theorem sh61  : cfg.shared 61 = false := by kernel_rfl
theorem body100 : bodyOf Try.prog 100 = some ⟨Try.f100.body.getD .skip, 36, #[.tmp 2]⟩ := by
  unfold bodyOf
  rw [Try.func100]
  rfl
theorem bo100  : (bodyOf Try.prog 100).isSome = true := by kernel_rfl
theorem sh100  : cfg.shared 100 = false := by kernel_rfl
theorem body111 : bodyOf Try.prog 111 = some ⟨Try.f111.body.getD .skip, 37, #[.tmp 4]⟩ := by
  unfold bodyOf
  rw [Try.func111]
  rfl
theorem bo111  : (bodyOf Try.prog 111).isSome = true := by kernel_rfl
theorem sh111  : cfg.shared 111 = false := by kernel_rfl
theorem body93 : bodyOf Try.prog 93 = some ⟨Try.f93.body.getD .skip, 35, #[.tmp 6]⟩ := by
  unfold bodyOf
  rw [Try.func93]
  rfl
theorem bo93  : (bodyOf Try.prog 93).isSome = true := by kernel_rfl
theorem sh93  : cfg.shared 93 = false := by kernel_rfl
theorem body94 : bodyOf Try.prog 94 = some ⟨Try.f94.body.getD .skip, 46, #[.tmp 6]⟩ := by
  unfold bodyOf
  rw [Try.func94]
  rfl
theorem bo94  : (bodyOf Try.prog 94).isSome = true := by kernel_rfl
theorem sh94  : cfg.shared 94 = false := by kernel_rfl
theorem body53 : bodyOf Try.prog 53 = some ⟨Try.f53.body.getD .skip, 26, #[.tmp 4]⟩ := by
  unfold bodyOf
  rw [Try.func53]
  rfl
theorem bo53  : (bodyOf Try.prog 53).isSome = true := by kernel_rfl
theorem sh53  : cfg.shared 53 = false := by kernel_rfl
theorem body54 : bodyOf Try.prog 54 = some ⟨Try.f54.body.getD .skip, 26, #[.tmp 4]⟩ := by
  unfold bodyOf
  rw [Try.func54]
  rfl
theorem bo54  : (bodyOf Try.prog 54).isSome = true := by kernel_rfl
theorem sh54  : cfg.shared 54 = false := by kernel_rfl
theorem body45 : bodyOf Try.prog 45 = some ⟨Try.f45.body.getD .skip, 17, #[.tmp 2]⟩ := by
  unfold bodyOf
  rw [Try.func45]
  rfl
theorem bo45  : (bodyOf Try.prog 45).isSome = true := by kernel_rfl
theorem sh45  : cfg.shared 45 = false := by kernel_rfl
theorem body10 : bodyOf Try.prog 10 = some ⟨Try.f10.body.getD .skip, 41, #[.tmp 4]⟩ := by
  unfold bodyOf
  rw [Try.func10]
  rfl
theorem bo10  : (bodyOf Try.prog 10).isSome = true := by kernel_rfl
theorem sh10  : cfg.shared 10 = false := by kernel_rfl
theorem body13 : bodyOf Try.prog 13 = some ⟨Try.f13.body.getD .skip, 25, #[.tmp 2]⟩ := by
  unfold bodyOf
  rw [Try.func13]
  rfl
theorem bo13  : (bodyOf Try.prog 13).isSome = true := by kernel_rfl
theorem sh13  : cfg.shared 13 = false := by kernel_rfl
theorem body12 : bodyOf Try.prog 12 = some ⟨Try.f12.body.getD .skip, 31, #[.tmp 2]⟩ := by
  unfold bodyOf
  rw [Try.func12]
  rfl
theorem bo12  : (bodyOf Try.prog 12).isSome = true := by kernel_rfl
theorem sh12  : cfg.shared 12 = false := by kernel_rfl
theorem body3 : bodyOf Try.prog 3 = some ⟨Try.f3.body.getD .skip, 93, #[.tmp 2]⟩ := by
  unfold bodyOf
  rw [Try.func3]
  rfl
theorem bo3  : (bodyOf Try.prog 3).isSome = true := by kernel_rfl
theorem sh3  : cfg.shared 3 = false := by kernel_rfl
theorem body11 : bodyOf Try.prog 11 = some ⟨Try.f11.body.getD .skip, 41, #[.tmp 0]⟩ := by
  unfold bodyOf
  rw [Try.func11]
  rfl
theorem bo11  : (bodyOf Try.prog 11).isSome = true := by kernel_rfl
theorem sh11  : cfg.shared 11 = false := by kernel_rfl
theorem body14 : bodyOf Try.prog 14 = some ⟨Try.f14.body.getD .skip, 36, #[.tmp 4]⟩ := by
  unfold bodyOf
  rw [Try.func14]
  rfl
theorem bo14  : (bodyOf Try.prog 14).isSome = true := by kernel_rfl
theorem sh14  : cfg.shared 14 = false := by kernel_rfl
theorem body15 : bodyOf Try.prog 15 = some ⟨Try.f15.body.getD .skip, 31, #[.cell 4 32, .tmp 5]⟩ := by
  unfold bodyOf
  rw [Try.func15]
  rfl
theorem bo15  : (bodyOf Try.prog 15).isSome = true := by kernel_rfl
theorem sh15  : cfg.shared 15 = false := by kernel_rfl
theorem body22 : bodyOf Try.prog 22 = some ⟨Try.f22.body.getD .skip, 52, #[.tmp 4]⟩ := by
  unfold bodyOf
  rw [Try.func22]
  rfl
theorem bo22  : (bodyOf Try.prog 22).isSome = true := by kernel_rfl
theorem sh22  : cfg.shared 22 = false := by kernel_rfl
theorem body20 : bodyOf Try.prog 20 = some ⟨Try.f20.body.getD .skip, 18, #[.cell 2 48]⟩ := by
  unfold bodyOf
  rw [Try.func20]
  rfl
theorem bo20  : (bodyOf Try.prog 20).isSome = true := by kernel_rfl
theorem sh20  : cfg.shared 20 = false := by kernel_rfl
theorem body23 : bodyOf Try.prog 23 = some ⟨Try.f23.body.getD .skip, 18, #[.cell 2 52]⟩ := by
  unfold bodyOf
  rw [Try.func23]
  rfl
theorem bo23  : (bodyOf Try.prog 23).isSome = true := by kernel_rfl
theorem sh23  : cfg.shared 23 = false := by kernel_rfl
theorem body24 : bodyOf Try.prog 24 = some ⟨Try.f24.body.getD .skip, 27, #[.tmp 4]⟩ := by
  unfold bodyOf
  rw [Try.func24]
  rfl
theorem bo24  : (bodyOf Try.prog 24).isSome = true := by kernel_rfl
theorem sh24  : cfg.shared 24 = false := by kernel_rfl
theorem body37 : bodyOf Try.prog 37 = some ⟨Try.f37.body.getD .skip, 26, #[.tmp 4]⟩ := by
  unfold bodyOf
  rw [Try.func37]
  rfl
theorem bo37  : (bodyOf Try.prog 37).isSome = true := by kernel_rfl
theorem sh37  : cfg.shared 37 = false := by kernel_rfl
theorem body40 : bodyOf Try.prog 40 = some ⟨Try.f40.body.getD .skip, 34, #[.tmp 2]⟩ := by
  unfold bodyOf
  rw [Try.func40]
  rfl
theorem bo40  : (bodyOf Try.prog 40).isSome = true := by kernel_rfl
theorem sh40  : cfg.shared 40 = false := by kernel_rfl
theorem body66 : bodyOf Try.prog 66 = some ⟨Try.f66.body.getD .skip, 20, #[.tmp 2]⟩ := by
  unfold bodyOf
  rw [Try.func66]
  rfl
theorem bo66  : (bodyOf Try.prog 66).isSome = true := by kernel_rfl
theorem sh66  : cfg.shared 66 = false := by kernel_rfl
theorem body31 : bodyOf Try.prog 31 = some ⟨Try.f31.body.getD .skip, 6, #[.tmp 2]⟩ := by
  unfold bodyOf
  rw [Try.func31]
  rfl
theorem bo31  : (bodyOf Try.prog 31).isSome = true := by kernel_rfl
theorem sh31  : cfg.shared 31 = false := by kernel_rfl
theorem body105 : bodyOf Try.prog 105 = some ⟨Try.f105.body.getD .skip, 22, #[.tmp 4, .tmp 5]⟩ := by
  unfold bodyOf
  rw [Try.func105]
  rfl
theorem bo105  : (bodyOf Try.prog 105).isSome = true := by kernel_rfl
theorem sh105  : cfg.shared 105 = false := by kernel_rfl
theorem body99 : bodyOf Try.prog 99 = some ⟨Try.f99.body.getD .skip, 47, #[.cell 4 32]⟩ := by
  unfold bodyOf
  rw [Try.func99]
  rfl
theorem bo99  : (bodyOf Try.prog 99).isSome = true := by kernel_rfl
theorem sh99  : cfg.shared 99 = false := by kernel_rfl
theorem body60 : bodyOf Try.prog 60 = some ⟨Try.f60.body.getD .skip, 17, #[.cell 4 32]⟩ := by
  unfold bodyOf
  rw [Try.func60]
  rfl
theorem bo60  : (bodyOf Try.prog 60).isSome = true := by kernel_rfl
theorem sh60  : cfg.shared 60 = false := by kernel_rfl
theorem body64 : bodyOf Try.prog 64 = some ⟨Try.f64.body.getD .skip, 27, #[.cell 4 32, .tmp 5]⟩ := by
  unfold bodyOf
  rw [Try.func64]
  rfl
theorem bo64  : (bodyOf Try.prog 64).isSome = true := by kernel_rfl
theorem sh64  : cfg.shared 64 = false := by kernel_rfl
theorem bo102  : (bodyOf Try.prog 102).isSome = true := by kernel_rfl
theorem sh102  : cfg.shared 102 = false := by kernel_rfl
theorem bo98  : (bodyOf Try.prog 98).isSome = true := by kernel_rfl
theorem sh98  : cfg.shared 98 = false := by kernel_rfl
theorem body27 : bodyOf Try.prog 27 = some ⟨Try.f27.body.getD .skip, 10, #[.cell 4 3, .tmp 5]⟩ := by
  unfold bodyOf
  rw [Try.func27]
  rfl
theorem bo27  : (bodyOf Try.prog 27).isSome = true := by kernel_rfl
theorem sh27  : cfg.shared 27 = false := by kernel_rfl
theorem bo59  : (bodyOf Try.prog 59).isSome = true := by kernel_rfl
theorem sh59  : cfg.shared 59 = true := by kernel_rfl
theorem body29 : bodyOf Try.prog 29 = some ⟨Try.f29.body.getD .skip, 12, #[.cell 4 3, .cell 5 9, .tmp 6]⟩ := by
  unfold bodyOf
  rw [Try.func29]
  rfl
theorem bo29  : (bodyOf Try.prog 29).isSome = true := by kernel_rfl
theorem sh29  : cfg.shared 29 = false := by kernel_rfl
theorem bo63  : (bodyOf Try.prog 63).isSome = true := by kernel_rfl
theorem sh63  : cfg.shared 63 = true := by kernel_rfl
theorem body97 : bodyOf Try.prog 97 = some ⟨Try.f97.body.getD .skip, 45, #[.tmp 2, .tmp 3]⟩ := by
  unfold bodyOf
  rw [Try.func97]
  rfl
theorem bo97  : (bodyOf Try.prog 97).isSome = true := by kernel_rfl
theorem sh97  : cfg.shared 97 = false := by kernel_rfl
theorem body101 : bodyOf Try.prog 101 = some ⟨Try.f101.body.getD .skip, 29, #[.tmp 2, .tmp 3, .tmp 4]⟩ := by
  unfold bodyOf
  rw [Try.func101]
  rfl
theorem bo101  : (bodyOf Try.prog 101).isSome = true := by kernel_rfl
theorem sh101  : cfg.shared 101 = false := by kernel_rfl
theorem body113 : bodyOf Try.prog 113 = some ⟨Try.f113.body.getD .skip, 34, #[.tmp 2]⟩ := by
  unfold bodyOf
  rw [Try.func113]
  rfl
theorem bo113  : (bodyOf Try.prog 113).isSome = true := by kernel_rfl
theorem sh113  : cfg.shared 113 = false := by kernel_rfl
theorem body96 : bodyOf Try.prog 96 = some ⟨Try.f96.body.getD .skip, 36, #[.tmp 2]⟩ := by
  unfold bodyOf
  rw [Try.func96]
  rfl
theorem bo96  : (bodyOf Try.prog 96).isSome = true := by kernel_rfl
theorem sh96  : cfg.shared 96 = false := by kernel_rfl
theorem body7 : bodyOf Try.prog 7 = some ⟨Try.f7.body.getD .skip, 88, #[.tmp 4]⟩ := by
  unfold bodyOf
  rw [Try.func7]
  rfl
theorem bo7  : (bodyOf Try.prog 7).isSome = true := by kernel_rfl
theorem sh7  : cfg.shared 7 = false := by kernel_rfl
set_option linter.defProp false
/-- The facts. -/
def ty :=
  And.intro @ff3 <|
  And.intro @ld3 <|
  And.intro @ff41 <|
  And.intro @ld41 <|
  And.intro @ff5 <|
  And.intro @ld5 <|
  And.intro @ff9 <|
  And.intro @ld9 <|
  And.intro @ff4 <|
  And.intro @ld4 <|
  And.intro @ff29 <|
  And.intro @ld29 <|
  And.intro @ff30 <|
  And.intro @ld30 <|
  And.intro @ff42 <|
  And.intro @ld42 <|
  And.intro @ff33 <|
  And.intro @ld33 <|
  And.intro @ff27 <|
  And.intro @ld27 <|
  And.intro @ff25 <|
  And.intro @ld25 <|
  And.intro @ff22 <|
  And.intro @ld22 <|
  And.intro @zz88 <|
  And.intro @zzf88 <|
  And.intro @ff88 <|
  And.intro @ffa88 <|
  And.intro @lr88 <|
  And.intro @lra88 <|
  And.intro @sr88 <|
  And.intro @srb88 <|
  And.intro @src88 <|
  And.intro @srd88 <|
  And.intro @ld88 <|
  And.intro @fa88_0 <|
  And.intro @fd88_0 <|
  And.intro @lr88_0 <|
  And.intro @lra88_0 <|
  And.intro @sr88_0 <|
  And.intro @sra88_0 <|
  And.intro @fr88_0 <|
  And.intro @fa88_1 <|
  And.intro @fd88_1 <|
  And.intro @lr88_1 <|
  And.intro @lra88_1 <|
  And.intro @sr88_1 <|
  And.intro @sra88_1 <|
  And.intro @sri88_1 <|
  And.intro @sria88_1 <|
  And.intro @fr88_1 <|
  And.intro @zz91 <|
  And.intro @zzf91 <|
  And.intro @ff91 <|
  And.intro @ffa91 <|
  And.intro @lr91 <|
  And.intro @lra91 <|
  And.intro @sr91 <|
  And.intro @srb91 <|
  And.intro @src91 <|
  And.intro @srd91 <|
  And.intro @ld91 <|
  And.intro @fa91_0 <|
  And.intro @fd91_0 <|
  And.intro @lr91_0 <|
  And.intro @lra91_0 <|
  And.intro @sr91_0 <|
  And.intro @sra91_0 <|
  And.intro @sri91_0 <|
  And.intro @sria91_0 <|
  And.intro @fr91_0 <|
  And.intro @fa91_1 <|
  And.intro @fd91_1 <|
  And.intro @lr91_1 <|
  And.intro @lra91_1 <|
  And.intro @sr91_1 <|
  And.intro @sra91_1 <|
  And.intro @sri91_1 <|
  And.intro @sria91_1 <|
  And.intro @fr91_1 <|
  And.intro @fa91_2 <|
  And.intro @fd91_2 <|
  And.intro @lr91_2 <|
  And.intro @lra91_2 <|
  And.intro @sr91_2 <|
  And.intro @sra91_2 <|
  And.intro @sri91_2 <|
  And.intro @sria91_2 <|
  And.intro @fr91_2 <|
  And.intro @fa91_3 <|
  And.intro @fd91_3 <|
  And.intro @lr91_3 <|
  And.intro @lra91_3 <|
  And.intro @sr91_3 <|
  And.intro @sra91_3 <|
  And.intro @sri91_3 <|
  And.intro @sria91_3 <|
  And.intro @fr91_3 <|
  And.intro @fa91_4 <|
  And.intro @fd91_4 <|
  And.intro @lr91_4 <|
  And.intro @lra91_4 <|
  And.intro @sr91_4 <|
  And.intro @sra91_4 <|
  And.intro @sri91_4 <|
  And.intro @sria91_4 <|
  And.intro @fr91_4 <|
  And.intro @fa91_5 <|
  And.intro @fd91_5 <|
  And.intro @lr91_5 <|
  And.intro @lra91_5 <|
  And.intro @sr91_5 <|
  And.intro @sra91_5 <|
  And.intro @fr91_5 <|
  And.intro @fa91_6 <|
  And.intro @fd91_6 <|
  And.intro @lr91_6 <|
  And.intro @lra91_6 <|
  And.intro @sr91_6 <|
  And.intro @sra91_6 <|
  And.intro @fr91_6 <|
  And.intro @zz32 <|
  And.intro @zzf32 <|
  And.intro @ff32 <|
  And.intro @ffa32 <|
  And.intro @lr32 <|
  And.intro @lra32 <|
  And.intro @sr32 <|
  And.intro @srb32 <|
  And.intro @src32 <|
  And.intro @srd32 <|
  And.intro @ld32 <|
  And.intro @fa32_0 <|
  And.intro @fd32_0 <|
  And.intro @lr32_0 <|
  And.intro @lra32_0 <|
  And.intro @sr32_0 <|
  And.intro @sra32_0 <|
  And.intro @sri32_0 <|
  And.intro @sria32_0 <|
  And.intro @fr32_0 <|
  And.intro @fa32_1 <|
  And.intro @fd32_1 <|
  And.intro @lr32_1 <|
  And.intro @lra32_1 <|
  And.intro @sr32_1 <|
  And.intro @sra32_1 <|
  And.intro @sri32_1 <|
  And.intro @sria32_1 <|
  And.intro @fr32_1 <|
  And.intro @fa32_2 <|
  And.intro @fd32_2 <|
  And.intro @lr32_2 <|
  And.intro @lra32_2 <|
  And.intro @sr32_2 <|
  And.intro @sra32_2 <|
  And.intro @sri32_2 <|
  And.intro @sria32_2 <|
  And.intro @fr32_2 <|
  And.intro @fa32_3 <|
  And.intro @fd32_3 <|
  And.intro @lr32_3 <|
  And.intro @lra32_3 <|
  And.intro @sr32_3 <|
  And.intro @sra32_3 <|
  And.intro @sri32_3 <|
  And.intro @sria32_3 <|
  And.intro @fr32_3 <|
  And.intro @fa32_4 <|
  And.intro @fd32_4 <|
  And.intro @lr32_4 <|
  And.intro @lra32_4 <|
  And.intro @sr32_4 <|
  And.intro @sra32_4 <|
  And.intro @sri32_4 <|
  And.intro @sria32_4 <|
  And.intro @fr32_4 <|
  And.intro @fa32_5 <|
  And.intro @fd32_5 <|
  And.intro @lr32_5 <|
  And.intro @lra32_5 <|
  And.intro @sr32_5 <|
  And.intro @sra32_5 <|
  And.intro @fr32_5 <|
  And.intro @fa32_6 <|
  And.intro @fd32_6 <|
  And.intro @lr32_6 <|
  And.intro @lra32_6 <|
  And.intro @sr32_6 <|
  And.intro @sra32_6 <|
  And.intro @fr32_6 <|
  And.intro @zz52 <|
  And.intro @zzf52 <|
  And.intro @ff52 <|
  And.intro @ffa52 <|
  And.intro @lr52 <|
  And.intro @lra52 <|
  And.intro @sr52 <|
  And.intro @srb52 <|
  And.intro @src52 <|
  And.intro @srd52 <|
  And.intro @ld52 <|
  And.intro @fa52_0 <|
  And.intro @fd52_0 <|
  And.intro @lr52_0 <|
  And.intro @lra52_0 <|
  And.intro @sr52_0 <|
  And.intro @sra52_0 <|
  And.intro @sri52_0 <|
  And.intro @sria52_0 <|
  And.intro @fr52_0 <|
  And.intro @fa52_1 <|
  And.intro @fd52_1 <|
  And.intro @lr52_1 <|
  And.intro @lra52_1 <|
  And.intro @sr52_1 <|
  And.intro @sra52_1 <|
  And.intro @sri52_1 <|
  And.intro @sria52_1 <|
  And.intro @fr52_1 <|
  And.intro @fa52_2 <|
  And.intro @fd52_2 <|
  And.intro @lr52_2 <|
  And.intro @lra52_2 <|
  And.intro @sr52_2 <|
  And.intro @sra52_2 <|
  And.intro @sri52_2 <|
  And.intro @sria52_2 <|
  And.intro @fr52_2 <|
  And.intro @fa52_3 <|
  And.intro @fd52_3 <|
  And.intro @lr52_3 <|
  And.intro @lra52_3 <|
  And.intro @sr52_3 <|
  And.intro @sra52_3 <|
  And.intro @sri52_3 <|
  And.intro @sria52_3 <|
  And.intro @fr52_3 <|
  And.intro @fa52_4 <|
  And.intro @fd52_4 <|
  And.intro @lr52_4 <|
  And.intro @lra52_4 <|
  And.intro @sr52_4 <|
  And.intro @sra52_4 <|
  And.intro @sri52_4 <|
  And.intro @sria52_4 <|
  And.intro @fr52_4 <|
  And.intro @fa52_5 <|
  And.intro @fd52_5 <|
  And.intro @lr52_5 <|
  And.intro @lra52_5 <|
  And.intro @sr52_5 <|
  And.intro @sra52_5 <|
  And.intro @fr52_5 <|
  And.intro @fa52_6 <|
  And.intro @fd52_6 <|
  And.intro @lr52_6 <|
  And.intro @lra52_6 <|
  And.intro @sr52_6 <|
  And.intro @sra52_6 <|
  And.intro @fr52_6 <|
  And.intro @zz44 <|
  And.intro @zzf44 <|
  And.intro @ff44 <|
  And.intro @ffa44 <|
  And.intro @lr44 <|
  And.intro @lra44 <|
  And.intro @sr44 <|
  And.intro @srb44 <|
  And.intro @src44 <|
  And.intro @srd44 <|
  And.intro @ld44 <|
  And.intro @fa44_0 <|
  And.intro @fd44_0 <|
  And.intro @lr44_0 <|
  And.intro @lra44_0 <|
  And.intro @sr44_0 <|
  And.intro @sra44_0 <|
  And.intro @sri44_0 <|
  And.intro @sria44_0 <|
  And.intro @fr44_0 <|
  And.intro @fa44_1 <|
  And.intro @fd44_1 <|
  And.intro @lr44_1 <|
  And.intro @lra44_1 <|
  And.intro @sr44_1 <|
  And.intro @sra44_1 <|
  And.intro @sri44_1 <|
  And.intro @sria44_1 <|
  And.intro @fr44_1 <|
  And.intro @fa44_2 <|
  And.intro @fd44_2 <|
  And.intro @lr44_2 <|
  And.intro @lra44_2 <|
  And.intro @sr44_2 <|
  And.intro @sra44_2 <|
  And.intro @sri44_2 <|
  And.intro @sria44_2 <|
  And.intro @fr44_2 <|
  And.intro @fa44_3 <|
  And.intro @fd44_3 <|
  And.intro @lr44_3 <|
  And.intro @lra44_3 <|
  And.intro @sr44_3 <|
  And.intro @sra44_3 <|
  And.intro @sri44_3 <|
  And.intro @sria44_3 <|
  And.intro @fr44_3 <|
  And.intro @fa44_4 <|
  And.intro @fd44_4 <|
  And.intro @lr44_4 <|
  And.intro @lra44_4 <|
  And.intro @sr44_4 <|
  And.intro @sra44_4 <|
  And.intro @sri44_4 <|
  And.intro @sria44_4 <|
  And.intro @fr44_4 <|
  And.intro @fa44_5 <|
  And.intro @fd44_5 <|
  And.intro @lr44_5 <|
  And.intro @lra44_5 <|
  And.intro @sr44_5 <|
  And.intro @sra44_5 <|
  And.intro @fr44_5 <|
  And.intro @fa44_6 <|
  And.intro @fd44_6 <|
  And.intro @lr44_6 <|
  And.intro @lra44_6 <|
  And.intro @sr44_6 <|
  And.intro @sra44_6 <|
  And.intro @fr44_6 <|
  And.intro @zz50 <|
  And.intro @zzf50 <|
  And.intro @ff50 <|
  And.intro @ffa50 <|
  And.intro @lr50 <|
  And.intro @lra50 <|
  And.intro @sr50 <|
  And.intro @srb50 <|
  And.intro @src50 <|
  And.intro @srd50 <|
  And.intro @ld50 <|
  And.intro @fa50_0 <|
  And.intro @fd50_0 <|
  And.intro @lr50_0 <|
  And.intro @lra50_0 <|
  And.intro @sr50_0 <|
  And.intro @sra50_0 <|
  And.intro @sri50_0 <|
  And.intro @sria50_0 <|
  And.intro @fr50_0 <|
  And.intro @fa50_1 <|
  And.intro @fd50_1 <|
  And.intro @lr50_1 <|
  And.intro @lra50_1 <|
  And.intro @sr50_1 <|
  And.intro @sra50_1 <|
  And.intro @fr50_1 <|
  And.intro @fa50_2 <|
  And.intro @fd50_2 <|
  And.intro @lr50_2 <|
  And.intro @lra50_2 <|
  And.intro @sr50_2 <|
  And.intro @sra50_2 <|
  And.intro @fr50_2 <|
  And.intro @fa50_3 <|
  And.intro @fd50_3 <|
  And.intro @lr50_3 <|
  And.intro @lra50_3 <|
  And.intro @sr50_3 <|
  And.intro @sra50_3 <|
  And.intro @sri50_3 <|
  And.intro @sria50_3 <|
  And.intro @fr50_3 <|
  And.intro @fa50_4 <|
  And.intro @fd50_4 <|
  And.intro @lr50_4 <|
  And.intro @lra50_4 <|
  And.intro @sr50_4 <|
  And.intro @sra50_4 <|
  And.intro @sri50_4 <|
  And.intro @sria50_4 <|
  And.intro @fr50_4 <|
  And.intro @fa50_5 <|
  And.intro @fd50_5 <|
  And.intro @lr50_5 <|
  And.intro @lra50_5 <|
  And.intro @sr50_5 <|
  And.intro @sra50_5 <|
  And.intro @fr50_5 <|
  And.intro @zz48 <|
  And.intro @zzf48 <|
  And.intro @ff48 <|
  And.intro @ffa48 <|
  And.intro @lr48 <|
  And.intro @lra48 <|
  And.intro @sr48 <|
  And.intro @srb48 <|
  And.intro @src48 <|
  And.intro @srd48 <|
  And.intro @ld48 <|
  And.intro @fa48_0 <|
  And.intro @fd48_0 <|
  And.intro @lr48_0 <|
  And.intro @lra48_0 <|
  And.intro @sr48_0 <|
  And.intro @sra48_0 <|
  And.intro @sri48_0 <|
  And.intro @sria48_0 <|
  And.intro @fr48_0 <|
  And.intro @fa48_1 <|
  And.intro @fd48_1 <|
  And.intro @lr48_1 <|
  And.intro @lra48_1 <|
  And.intro @sr48_1 <|
  And.intro @sra48_1 <|
  And.intro @fr48_1 <|
  And.intro @fa48_2 <|
  And.intro @fd48_2 <|
  And.intro @lr48_2 <|
  And.intro @lra48_2 <|
  And.intro @sr48_2 <|
  And.intro @sra48_2 <|
  And.intro @fr48_2 <|
  And.intro @fa48_3 <|
  And.intro @fd48_3 <|
  And.intro @lr48_3 <|
  And.intro @lra48_3 <|
  And.intro @sr48_3 <|
  And.intro @sra48_3 <|
  And.intro @sri48_3 <|
  And.intro @sria48_3 <|
  And.intro @fr48_3 <|
  And.intro @fa48_4 <|
  And.intro @fd48_4 <|
  And.intro @lr48_4 <|
  And.intro @lra48_4 <|
  And.intro @sr48_4 <|
  And.intro @sra48_4 <|
  And.intro @sri48_4 <|
  And.intro @sria48_4 <|
  And.intro @fr48_4 <|
  And.intro @fa48_5 <|
  And.intro @fd48_5 <|
  And.intro @lr48_5 <|
  And.intro @lra48_5 <|
  And.intro @sr48_5 <|
  And.intro @sra48_5 <|
  And.intro @fr48_5 <|
  And.intro @ix29 <|
  And.intro @len29 <|
  And.intro @lents29 <|
  And.intro @lenrs29 <|
  And.intro @bs29 <|
  And.intro @ix30 <|
  And.intro @len30 <|
  And.intro @lents30 <|
  And.intro @lenrs30 <|
  And.intro @bs30 <|
  And.intro @ix42 <|
  And.intro @len42 <|
  And.intro @lents42 <|
  And.intro @lenrs42 <|
  And.intro @bs42 <|
  And.intro @ix33 <|
  And.intro @len33 <|
  And.intro @lents33 <|
  And.intro @lenrs33 <|
  And.intro @bs33 <|
  And.intro @ix27 <|
  And.intro @len27 <|
  And.intro @lents27 <|
  And.intro @lenrs27 <|
  And.intro @bs27 <|
  And.intro @ix25 <|
  And.intro @len25 <|
  And.intro @lents25 <|
  And.intro @lenrs25 <|
  And.intro @bs25 <|
  And.intro @ix22 <|
  And.intro @len22 <|
  And.intro @lents22 <|
  And.intro @lenrs22 <|
  And.intro @bs22 <|
  And.intro @ixstr <|
  And.intro @lenstr <|
  And.intro @bo112 <|
  And.intro @sh112 <|
  And.intro @bo89 <|
  And.intro @sh89 <|
  And.intro @bo65 <|
  And.intro @sh65 <|
  And.intro @bo88 <|
  And.intro @sh88 <|
  And.intro @bo91 <|
  And.intro @sh91 <|
  And.intro @bo90 <|
  And.intro @sh90 <|
  And.intro @bo92 <|
  And.intro @sh92 <|
  And.intro @bo62 <|
  And.intro @sh62 <|
  And.intro @bo28 <|
  And.intro @sh28 <|
  And.intro @bo30 <|
  And.intro @sh30 <|
  And.intro @bo32 <|
  And.intro @sh32 <|
  And.intro @bo46 <|
  And.intro @sh46 <|
  And.intro @bo47 <|
  And.intro @sh47 <|
  And.intro @bo48 <|
  And.intro @sh48 <|
  And.intro @bo49 <|
  And.intro @sh49 <|
  And.intro @bo50 <|
  And.intro @sh50 <|
  And.intro @bo51 <|
  And.intro @sh51 <|
  And.intro @bo52 <|
  And.intro @sh52 <|
  And.intro @bo21 <|
  And.intro @sh21 <|
  And.intro @bo18 <|
  And.intro @sh18 <|
  And.intro @bo67 <|
  And.intro @sh67 <|
  And.intro @bo87 <|
  And.intro @sh87 <|
  And.intro @bo55 <|
  And.intro @sh55 <|
  And.intro @bo95 <|
  And.intro @sh95 <|
  And.intro @bo61 <|
  And.intro @sh61 <|
  And.intro @bo100 <|
  And.intro @sh100 <|
  And.intro @bo111 <|
  And.intro @sh111 <|
  And.intro @bo93 <|
  And.intro @sh93 <|
  And.intro @bo94 <|
  And.intro @sh94 <|
  And.intro @bo53 <|
  And.intro @sh53 <|
  And.intro @bo54 <|
  And.intro @sh54 <|
  And.intro @bo45 <|
  And.intro @sh45 <|
  And.intro @bo10 <|
  And.intro @sh10 <|
  And.intro @bo13 <|
  And.intro @sh13 <|
  And.intro @bo12 <|
  And.intro @sh12 <|
  And.intro @bo3 <|
  And.intro @sh3 <|
  And.intro @bo11 <|
  And.intro @sh11 <|
  And.intro @bo14 <|
  And.intro @sh14 <|
  And.intro @bo15 <|
  And.intro @sh15 <|
  And.intro @bo22 <|
  And.intro @sh22 <|
  And.intro @bo20 <|
  And.intro @sh20 <|
  And.intro @bo23 <|
  And.intro @sh23 <|
  And.intro @bo24 <|
  And.intro @sh24 <|
  And.intro @bo37 <|
  And.intro @sh37 <|
  And.intro @bo40 <|
  And.intro @sh40 <|
  And.intro @bo66 <|
  And.intro @sh66 <|
  And.intro @bo31 <|
  And.intro @sh31 <|
  And.intro @bo105 <|
  And.intro @sh105 <|
  And.intro @bo99 <|
  And.intro @sh99 <|
  And.intro @bo60 <|
  And.intro @sh60 <|
  And.intro @bo64 <|
  And.intro @sh64 <|
  And.intro @bo102 <|
  And.intro @sh102 <|
  And.intro @bo98 <|
  And.intro @sh98 <|
  And.intro @bo27 <|
  And.intro @sh27 <|
  And.intro @bo59 <|
  And.intro @sh59 <|
  And.intro @bo29 <|
  And.intro @sh29 <|
  And.intro @bo63 <|
  And.intro @sh63 <|
  And.intro @bo97 <|
  And.intro @sh97 <|
  And.intro @bo101 <|
  And.intro @sh101 <|
  And.intro @bo113 <|
  And.intro @sh113 <|
  And.intro @bo96 <|
  And.intro @sh96 <|
  And.intro @bo7 @sh7
end Go.Proofs.Ytghllhghboaagaa
end
/-! The document's model: the functions on trees: what they answer. -/
section
set_option linter.unusedVariables false
set_option linter.unusedSimpArgs false
set_option maxRecDepth 10000
namespace Go.Proofs.Ytghllhghboaagaa
open Go.Vm
theorem less_l (t : List Node) (ino : Int) (hl : t.length < 1000000) (R : Post) (g4 : V) : ∀ (k i : Nat) (xs : List Node) (S : Store) (v5 g7 g8 g9 g10 g11 g12 g13 g14 g15 g16 g17 g18 g19 g20 g21 g22 g23 g24 g25 g26 g27 : V),
   t.length - i = k → i ≤ t.length → OwnS S v5 91 (xs.map fun n => .d (encNode n)) → xs = (t.take i).filter (fun n => n.ino ≠ ino) →
   (∀ S v5 i g7 g8 g9 g10 g11 g12 g13 g14 g15 g16 g17 g18 g19 g20 g21 g22 g23 g24 g25 g26 g27, OwnS S v5 91 ((t.filter (fun n => n.ino ≠ ino)).map fun n => .d (encNode n)) → R (.exit 0) ((.d (.sl (t.map encNode))) :: (.d (.int .i64 ino)) :: (.tup []) :: (.tup []) :: g4 :: v5 :: i :: g7 :: g8 :: g9 :: g10 :: g11 :: g12 :: g13 :: g14 :: g15 :: g16 :: g17 :: g18 :: g19 :: g20 :: g21 :: g22 :: g23 :: g24 :: g25 :: g26 :: g27 :: []) S []) →
   Wp cfg (.loop (lpOf (Try.f112.body.getD .skip) 0)) ((.d (.sl (t.map encNode))) :: (.d (.int .i64 ino)) :: (.tup []) :: (.tup []) :: g4 :: v5 :: (.d (.int .i64 i)) :: g7 :: g8 :: g9 :: g10 :: g11 :: g12 :: g13 :: g14 :: g15 :: g16 :: g17 :: g18 :: g19 :: g20 :: g21 :: g22 :: g23 :: g24 :: g25 :: g26 :: g27 :: []) S [] R := by
  intro k
  induction k with
  | zero =>
    intro i xs S v5 g7 g8 g9 g10 g11 g12 g13 g14 g15 g16 g17 g18 g19 g20 g21 g22 g23 g24 g25 g26 g27 hk hi ho hx hR
    have hie : i = t.length := by omega
    subst hie
    rw [wk_of]
    refine wk_loop ?_
    conv => arg 2; whnf
    simp (maxSteps := 1000000) (disch := first | assumption | omega | rfl) only [↓vmp, vme, vmb, ty, hP, dec_t, dec_f, wrap64, List.length_map, Int.toNat_natCast, Nat.reduceAdd]
    rw [List.take_length] at hx
    subst hx
    exact hR _ _ _ _ _ _ _ _ _ _ _ _ _ _ _ _ _ _ _ _ _ _ _ _ ho
  | succ k ih =>
    intro i xs S v5 g7 g8 g9 g10 g11 g12 g13 g14 g15 g16 g17 g18 g19 g20 g21 g22 g23 g24 g25 g26 g27 hk hi ho hx hR
    have hlt : i < t.length := by omega
    have htk : t.take (i + 1) = t.take i ++ [t[i]] := by rw [List.take_succ_eq_append_getElem hlt]
    rw [wk_of]
    refine wk_loop ?_
    conv => arg 2; whnf
    by_cases hc : t[i].ino ≠ ino
    · have hxl : xs.length ≤ i := by rw [hx]; exact Nat.le_trans (List.length_filter_le _ _) (by simp; omega)
      obtain ⟨v', S', c, ha, ho', hfr, hlen⟩ := ap27 t[i] ho (by omega)
      simp (maxSteps := 1000000) (disch := first | assumption | omega | rfl) only [↓vmp, vme, vmb, ty, hP, dec_t, dec_f, wrap64, List.length_map, Int.toNat_natCast, Nat.reduceAdd, ha]
      exact ih (i + 1) (xs ++ [t[i]]) S' v' _ _ _ _ _ _ _ _ _ _ _ _ _ _ _ _ _ _ _ _ _ (by omega) (by omega) ho' (by rw [htk, List.filter_append, hx]; simp [hc]) hR
    · simp (maxSteps := 1000000) (disch := first | assumption | omega | rfl) only [↓vmp, vme, vmb, ty, hP, dec_t, dec_f, wrap64, List.length_map, Int.toNat_natCast, Nat.reduceAdd]
      exact ih (i + 1) xs S v5 _ _ _ _ _ _ _ _ _ _ _ _ _ _ _ _ _ _ _ _ _ (by omega) (by omega) ho (by rw [htk, List.filter_append, hx]; simp [hc]) hR
theorem less_ok (t : List Node) (ino : Int) (hl : t.length < 1000000) : Ev cfg 112 [.sl (t.map encNode), .int .i64 ino] (.ret (.d (.sl ((t.filter (fun n => n.ino ≠ ino)).map encNode)))) := by
  refine ev_of rfl rfl body112 ?_
  show Wp cfg (Try.f112.body.getD .skip) ((.d (.sl (t.map encNode))) :: (.d (.int .i64 ino)) :: (.tup []) :: (.tup []) :: (.tup []) :: (.tup []) :: (.tup []) :: (.tup []) :: (.tup []) :: (.tup []) :: (.tup []) :: (.tup []) :: (.tup []) :: (.tup []) :: (.tup []) :: (.tup []) :: (.tup []) :: (.tup []) :: (.tup []) :: (.tup []) :: (.tup []) :: (.tup []) :: (.tup []) :: (.tup []) :: (.tup []) :: (.tup []) :: (.tup []) :: (.tup []) :: []) [] [] _
  conv => arg 2; whnf
  simp (maxSteps := 1000000) (disch := first | assumption | omega | rfl) only [↓vmp, vme, vmb, ty, hP, dec_t, dec_f, wrap64, List.length_map, Int.toNat_natCast, Nat.reduceAdd]
  refine less_l t ino hl _ _ t.length 0 [] [] _ _ _ _ _ _ _ _ _ _ _ _ _ _ _ _ _ _ _ _ _ _ rfl (by omega) OwnS.nil rfl ?_
  intro S v5 i g7 g8 g9 g10 g11 g12 g13 g14 g15 g16 g17 g18 g19 g20 g21 g22 g23 g24 g25 g26 g27 ho
  simp (maxSteps := 1000000) (disch := first | assumption | omega | rfl) only [↓vmp, vme, vmb, ty, hP, dec_t, dec_f, wrap64, List.length_map, Int.toNat_natCast, Nat.reduceAdd]
  exact retQ_one rfl (own_one ho) (own_frz' ho)
/-- Where the node of a number is put in. -/
def withA (n : Node) : Bool → List Node → List Node
  | put, [] => if put then [] else [n]
  | put, x :: r => (if put = false ∧ n.ino ≤ x.ino then [n] else []) ++ (if x.ino ≠ n.ino then [x] else []) ++ withA n (put || decide (n.ino ≤ x.ino)) r
def withN (t : List Node) (n : Node) : List Node := withA n false t
theorem with_l (t : List Node) (n : Node) (hl : t.length < 400000) (R : Post) (g4 : V) : ∀ (k i : Nat) (put : Bool) (xs : List Node) (S : Store) (v5 g8 g9 g10 g11 g12 g13 g14 g15 g16 g17 g18 g19 g20 g21 g22 g23 g24 g25 g26 g27 g28 g29 g30 g31 g32 g33 g34 g35 g36 g37 g38 g39 g40 g41 g42 g43 g44 g45 g46 g47 g48 g49 g50 g51 : V),
   t.length - i = k → i ≤ t.length → xs.length ≤ 2 * i → OwnS S v5 91 (xs.map fun n => .d (encNode n)) → S[0]? = some (.row [.d (encNode n)] 91) → NotAt v5 0 →
   (∀ S v5 put' xs' g8 g9 g10 g11 g12 g13 g14 g15 g16 g17 g18 g19 g20 g21 g22 g23 g24 g25 g26 g27 g28 g29 g30 g31 g32 g33 g34 g35 g36 g37 g38 g39 g40 g41 g42 g43 g44 g45 g46 g47 g48 g49 g50 g51, xs'.length ≤ 2 * t.length → OwnS S v5 91 (xs'.map fun n => .d (encNode n)) → xs' ++ (if put' then [] else [n]) = xs ++ withA n put (t.drop i) → S[0]? = some (.row [.d (encNode n)] 91) → NotAt v5 0 → R (.exit 0) ((.d (.sl (t.map encNode))) :: (.d (encNode n)) :: (.tup []) :: (.ref 0 0 0) :: g4 :: v5 :: (.d (.bool put')) :: (.d (.int .i64 t.length)) :: g8 :: g9 :: g10 :: g11 :: g12 :: g13 :: g14 :: g15 :: g16 :: g17 :: g18 :: g19 :: g20 :: g21 :: g22 :: g23 :: g24 :: g25 :: g26 :: g27 :: g28 :: g29 :: g30 :: g31 :: g32 :: g33 :: g34 :: g35 :: g36 :: g37 :: g38 :: g39 :: g40 :: g41 :: g42 :: g43 :: g44 :: g45 :: g46 :: g47 :: g48 :: g49 :: g50 :: g51 :: []) S []) →
   Wp cfg (.loop (lpOf (Try.f89.body.getD .skip) 0)) ((.d (.sl (t.map encNode))) :: (.d (encNode n)) :: (.tup []) :: (.ref 0 0 0) :: g4 :: v5 :: (.d (.bool put)) :: (.d (.int .i64 i)) :: g8 :: g9 :: g10 :: g11 :: g12 :: g13 :: g14 :: g15 :: g16 :: g17 :: g18 :: g19 :: g20 :: g21 :: g22 :: g23 :: g24 :: g25 :: g26 :: g27 :: g28 :: g29 :: g30 :: g31 :: g32 :: g33 :: g34 :: g35 :: g36 :: g37 :: g38 :: g39 :: g40 :: g41 :: g42 :: g43 :: g44 :: g45 :: g46 :: g47 :: g48 :: g49 :: g50 :: g51 :: []) S [] R := by
  intro k
  induction k with
  | zero =>
    intro i put xs S v5 g8 g9 g10 g11 g12 g13 g14 g15 g16 g17 g18 g19 g20 g21 g22 g23 g24 g25 g26 g27 g28 g29 g30 g31 g32 g33 g34 g35 g36 g37 g38 g39 g40 g41 g42 g43 g44 g45 g46 g47 g48 g49 g50 g51 hk hi hxl ho hb hna hR
    have hie : i = t.length := by omega
    subst hie
    rw [wk_of]
    refine wk_loop ?_
    conv => arg 2; whnf
    simp (maxSteps := 1000000) (disch := first | assumption | omega | rfl) only [↓vmp, vme, vmb, ty, hP, dec_t, dec_f, wrap64, List.length_map, Int.toNat_natCast, Nat.reduceAdd]
    exact hR _ _ put xs _ _ _ _ _ _ _ _ _ _ _ _ _ _ _ _ _ _ _ _ _ _ _ _ _ _ _ _ _ _ _ _ _ _ _ _ _ _ _ _ _ _ _ _ (by omega) ho (by rw [List.drop_length]; rfl) hb hna
  | succ k ih =>
    intro i put xs S v5 g8 g9 g10 g11 g12 g13 g14 g15 g16 g17 g18 g19 g20 g21 g22 g23 g24 g25 g26 g27 g28 g29 g30 g31 g32 g33 g34 g35 g36 g37 g38 g39 g40 g41 g42 g43 g44 g45 g46 g47 g48 g49 g50 g51 hk hi hxl ho hb hna hR
    have hlt : i < t.length := by omega
    have hr : rowE S 0 0 = some (.d (encNode n)) := rowE_of hb
    have hdr : t.drop i = t[i] :: t.drop (i + 1) := List.drop_eq_getElem_cons hlt
    rw [hdr] at hR
    rw [wk_of]
    refine wk_loop ?_
    conv => arg 2; whnf
    simp (maxSteps := 1000000) (disch := first | assumption | omega | rfl) only [↓vmp, vme, vmb, ty, hP, dec_t, dec_f, wrap64, List.length_map, Int.toNat_natCast, Nat.reduceAdd]
    refine wk_draw (is := [0, 1, 2, 3, 4, 5, 6, 7, 8, 9, 10, 11]) (h := 0) (by kernel_rfl) (by kernel_rfl) ?_
    cases put with
    | true =>
      simp (maxSteps := 1000000) (disch := first | assumption | omega | rfl) only [List.replicate_zero, eq_self, vmd, vmk, vmo, vmg, vme, vmb, ty, hP, dec_t, dec_f, wrap64, List.length_map, Int.toNat_natCast, Nat.reduceAdd, hr]
      refine ⟨by kernel_rfl, ?_⟩
      simp (maxSteps := 1000000) (disch := first | assumption | omega | rfl) only [↓vmp, vme, vmb, ty, hP, dec_t, dec_f, wrap64, List.length_map, Int.toNat_natCast, Nat.reduceAdd]
      refine wk_draw (is := [0, 1, 2, 3, 4, 5, 6, 7]) (h := 0) (by kernel_rfl) (by kernel_rfl) ?_
      by_cases h2 : t[i].ino ≠ n.ino
      · obtain ⟨v', S', c, ha, ho', hfr, hlen⟩ := ap27 t[i] ho (by omega)
        obtain ⟨hb', hna'⟩ := hfr _ _ hb hna
        simp (maxSteps := 1000000) (disch := first | assumption | omega | rfl) only [List.replicate_zero, eq_self, vmd, vmk, vmo, vmg, vme, vmb, ty, hP, dec_t, dec_f, wrap64, List.length_map, Int.toNat_natCast, Nat.reduceAdd, hr]
        refine ⟨by kernel_rfl, ?_⟩
        simp (maxSteps := 1000000) (disch := first | assumption | omega | rfl) only [↓vmp, vme, vmb, ty, hP, dec_t, dec_f, wrap64, List.length_map, Int.toNat_natCast, Nat.reduceAdd, ha]
        exact ih (i + 1) true (xs ++ [t[i]]) S' v' _ _ _ _ _ _ _ _ _ _ _ _ _ _ _ _ _ _ _ _ _ _ _ _ _ _ _ _ _ _ _ _ _ _ _ _ _ _ _ _ _ _ _ _ (by omega) (by omega) (by simp; omega) ho' hb' hna' (fun S v5 put' xs' g8 g9 g10 g11 g12 g13 g14 g15 g16 g17 g18 g19 g20 g21 g22 g23 g24 g25 g26 g27 g28 g29 g30 g31 g32 g33 g34 g35 g36 g37 g38 g39 g40 g41 g42 g43 g44 g45 g46 g47 g48 g49 g50 g51 a1 a2 a3 a4 a5 => hR S v5 put' xs' g8 g9 g10 g11 g12 g13 g14 g15 g16 g17 g18 g19 g20 g21 g22 g23 g24 g25 g26 g27 g28 g29 g30 g31 g32 g33 g34 g35 g36 g37 g38 g39 g40 g41 g42 g43 g44 g45 g46 g47 g48 g49 g50 g51 a1 a2 (by rw [a3]; simp [withA, h2]) a4 a5)
      · simp (maxSteps := 1000000) (disch := first | assumption | omega | rfl) only [List.replicate_zero, eq_self, vmd, vmk, vmo, vmg, vme, vmb, ty, hP, dec_t, dec_f, wrap64, List.length_map, Int.toNat_natCast, Nat.reduceAdd, hr]
        refine ⟨by kernel_rfl, ?_⟩
        simp (maxSteps := 1000000) (disch := first | assumption | omega | rfl) only [↓vmp, vme, vmb, ty, hP, dec_t, dec_f, wrap64, List.length_map, Int.toNat_natCast, Nat.reduceAdd]
        exact ih (i + 1) true xs S v5 _ _ _ _ _ _ _ _ _ _ _ _ _ _ _ _ _ _ _ _ _ _ _ _ _ _ _ _ _ _ _ _ _ _ _ _ _ _ _ _ _ _ _ _ (by omega) (by omega) (by omega) ho hb hna (fun S v5 put' xs' g8 g9 g10 g11 g12 g13 g14 g15 g16 g17 g18 g19 g20 g21 g22 g23 g24 g25 g26 g27 g28 g29 g30 g31 g32 g33 g34 g35 g36 g37 g38 g39 g40 g41 g42 g43 g44 g45 g46 g47 g48 g49 g50 g51 a1 a2 a3 a4 a5 => hR S v5 put' xs' g8 g9 g10 g11 g12 g13 g14 g15 g16 g17 g18 g19 g20 g21 g22 g23 g24 g25 g26 g27 g28 g29 g30 g31 g32 g33 g34 g35 g36 g37 g38 g39 g40 g41 g42 g43 g44 g45 g46 g47 g48 g49 g50 g51 a1 a2 (by rw [a3]; simp [withA, h2]) a4 a5)
    | false =>
      by_cases h1 : n.ino ≤ t[i].ino
      · obtain ⟨v', S', c, ha, ho', hfr, hlen⟩ := ap27 n ho (by omega)
        obtain ⟨hb', hna'⟩ := hfr _ _ hb hna
        have hr' : rowE S' 0 0 = some (.d (encNode n)) := rowE_of hb'
        simp (maxSteps := 1000000) (disch := first | assumption | omega | rfl) only [List.replicate_zero, eq_self, vmd, vmk, vmo, vmg, vme, vmb, ty, hP, dec_t, dec_f, wrap64, List.length_map, Int.toNat_natCast, Nat.reduceAdd, hr]
        refine ⟨by kernel_rfl, ?_⟩
        simp (maxSteps := 1000000) (disch := first | assumption | omega | rfl) only [↓vmp, vme, vmb, ty, hP, dec_t, dec_f, wrap64, List.length_map, Int.toNat_natCast, Nat.reduceAdd, hr, ha]
        refine wk_draw (is := [0, 1, 2, 3, 4, 5, 6, 7]) (h := 0) (by kernel_rfl) (by kernel_rfl) ?_
        by_cases h2 : t[i].ino ≠ n.ino
        · obtain ⟨v2, S2, c2, ha2, ho2, hfr2, hlen2⟩ := ap27 t[i] ho' (by simp; omega)
          obtain ⟨hb2, hna2⟩ := hfr2 _ _ hb' hna'
          simp (maxSteps := 1000000) (disch := first | assumption | omega | rfl) only [List.replicate_zero, eq_self, vmd, vmk, vmo, vmg, vme, vmb, ty, hP, dec_t, dec_f, wrap64, List.length_map, Int.toNat_natCast, Nat.reduceAdd, hr']
          refine ⟨by kernel_rfl, ?_⟩
          simp (maxSteps := 1000000) (disch := first | assumption | omega | rfl) only [↓vmp, vme, vmb, ty, hP, dec_t, dec_f, wrap64, List.length_map, Int.toNat_natCast, Nat.reduceAdd, ha2]
          exact ih (i + 1) true (xs ++ [n] ++ [t[i]]) S2 v2 _ _ _ _ _ _ _ _ _ _ _ _ _ _ _ _ _ _ _ _ _ _ _ _ _ _ _ _ _ _ _ _ _ _ _ _ _ _ _ _ _ _ _ _ (by omega) (by omega) (by simp; omega) ho2 hb2 hna2 (fun S v5 put' xs' g8 g9 g10 g11 g12 g13 g14 g15 g16 g17 g18 g19 g20 g21 g22 g23 g24 g25 g26 g27 g28 g29 g30 g31 g32 g33 g34 g35 g36 g37 g38 g39 g40 g41 g42 g43 g44 g45 g46 g47 g48 g49 g50 g51 a1 a2 a3 a4 a5 => hR S v5 put' xs' g8 g9 g10 g11 g12 g13 g14 g15 g16 g17 g18 g19 g20 g21 g22 g23 g24 g25 g26 g27 g28 g29 g30 g31 g32 g33 g34 g35 g36 g37 g38 g39 g40 g41 g42 g43 g44 g45 g46 g47 g48 g49 g50 g51 a1 a2 (by rw [a3]; simp [withA, h1, h2]) a4 a5)
        · simp (maxSteps := 1000000) (disch := first | assumption | omega | rfl) only [List.replicate_zero, eq_self, vmd, vmk, vmo, vmg, vme, vmb, ty, hP, dec_t, dec_f, wrap64, List.length_map, Int.toNat_natCast, Nat.reduceAdd, hr']
          refine ⟨by kernel_rfl, ?_⟩
          simp (maxSteps := 1000000) (disch := first | assumption | omega | rfl) only [↓vmp, vme, vmb, ty, hP, dec_t, dec_f, wrap64, List.length_map, Int.toNat_natCast, Nat.reduceAdd]
          exact ih (i + 1) true (xs ++ [n]) S' v' _ _ _ _ _ _ _ _ _ _ _ _ _ _ _ _ _ _ _ _ _ _ _ _ _ _ _ _ _ _ _ _ _ _ _ _ _ _ _ _ _ _ _ _ (by omega) (by omega) (by simp; omega) ho' hb' hna' (fun S v5 put' xs' g8 g9 g10 g11 g12 g13 g14 g15 g16 g17 g18 g19 g20 g21 g22 g23 g24 g25 g26 g27 g28 g29 g30 g31 g32 g33 g34 g35 g36 g37 g38 g39 g40 g41 g42 g43 g44 g45 g46 g47 g48 g49 g50 g51 a1 a2 a3 a4 a5 => hR S v5 put' xs' g8 g9 g10 g11 g12 g13 g14 g15 g16 g17 g18 g19 g20 g21 g22 g23 g24 g25 g26 g27 g28 g29 g30 g31 g32 g33 g34 g35 g36 g37 g38 g39 g40 g41 g42 g43 g44 g45 g46 g47 g48 g49 g50 g51 a1 a2 (by rw [a3]; simp [withA, h1, h2]) a4 a5)
      · have h2 : t[i].ino ≠ n.ino := by omega
        obtain ⟨v', S', c, ha, ho', hfr, hlen⟩ := ap27 t[i] ho (by omega)
        obtain ⟨hb', hna'⟩ := hfr _ _ hb hna
        simp (maxSteps := 1000000) (disch := first | assumption | omega | rfl) only [List.replicate_zero, eq_self, vmd, vmk, vmo, vmg, vme, vmb, ty, hP, dec_t, dec_f, wrap64, List.length_map, Int.toNat_natCast, Nat.reduceAdd, hr]
        refine ⟨by kernel_rfl, ?_⟩
        simp (maxSteps := 1000000) (disch := first | assumption | omega | rfl) only [↓vmp, vme, vmb, ty, hP, dec_t, dec_f, wrap64, List.length_map, Int.toNat_natCast, Nat.reduceAdd]
        refine wk_draw (is := [0, 1, 2, 3, 4, 5, 6, 7]) (h := 0) (by kernel_rfl) (by kernel_rfl) ?_
        simp (maxSteps := 1000000) (disch := first | assumption | omega | rfl) only [List.replicate_zero, eq_self, vmd, vmk, vmo, vmg, vme, vmb, ty, hP, dec_t, dec_f, wrap64, List.length_map, Int.toNat_natCast, Nat.reduceAdd, hr]
        refine ⟨by kernel_rfl, ?_⟩
        simp (maxSteps := 1000000) (disch := first | assumption | omega | rfl) only [↓vmp, vme, vmb, ty, hP, dec_t, dec_f, wrap64, List.length_map, Int.toNat_natCast, Nat.reduceAdd, ha]
        exact ih (i + 1) false (xs ++ [t[i]]) S' v' _ _ _ _ _ _ _ _ _ _ _ _ _ _ _ _ _ _ _ _ _ _ _ _ _ _ _ _ _ _ _ _ _ _ _ _ _ _ _ _ _ _ _ _ (by omega) (by omega) (by simp; omega) ho' hb' hna' (fun S v5 put' xs' g8 g9 g10 g11 g12 g13 g14 g15 g16 g17 g18 g19 g20 g21 g22 g23 g24 g25 g26 g27 g28 g29 g30 g31 g32 g33 g34 g35 g36 g37 g38 g39 g40 g41 g42 g43 g44 g45 g46 g47 g48 g49 g50 g51 a1 a2 a3 a4 a5 => hR S v5 put' xs' g8 g9 g10 g11 g12 g13 g14 g15 g16 g17 g18 g19 g20 g21 g22 g23 g24 g25 g26 g27 g28 g29 g30 g31 g32 g33 g34 g35 g36 g37 g38 g39 g40 g41 g42 g43 g44 g45 g46 g47 g48 g49 g50 g51 a1 a2 (by rw [a3]; simp [withA, h1, h2]) a4 a5)
theorem with_ok (t : List Node) (n : Node) (hl : t.length < 400000) : Ev cfg 89 [.sl (t.map encNode), encNode n] (.ret (.d (.sl ((withN t n).map encNode)))) := by
  refine ev_of rfl rfl body89 ?_
  show Wp cfg (Try.f89.body.getD .skip) ((.d (.sl (t.map encNode))) :: (.d (encNode n)) :: (.tup []) :: (.tup []) :: (.tup []) :: (.tup []) :: (.tup []) :: (.tup []) :: (.tup []) :: (.tup []) :: (.tup []) :: (.tup []) :: (.tup []) :: (.tup []) :: (.tup []) :: (.tup []) :: (.tup []) :: (.tup []) :: (.tup []) :: (.tup []) :: (.tup []) :: (.tup []) :: (.tup []) :: (.tup []) :: (.tup []) :: (.tup []) :: (.tup []) :: (.tup []) :: (.tup []) :: (.tup []) :: (.tup []) :: (.tup []) :: (.tup []) :: (.tup []) :: (.tup []) :: (.tup []) :: (.tup []) :: (.tup []) :: (.tup []) :: (.tup []) :: (.tup []) :: (.tup []) :: (.tup []) :: (.tup []) :: (.tup []) :: (.tup []) :: (.tup []) :: (.tup []) :: (.tup []) :: (.tup []) :: (.tup []) :: (.tup []) :: []) [] [] _
  conv => arg 2; whnf
  simp (maxSteps := 1000000) (disch := first | assumption | omega | rfl) only [↓vmp, vme, vmb, ty, hP, dec_t, dec_f, wrap64, List.length_map, Int.toNat_natCast, Nat.reduceAdd]
  refine with_l t n hl _ _ t.length 0 false [] _ _ _ _ _ _ _ _ _ _ _ _ _ _ _ _ _ _ _ _ _ _ _ _ _ _ _ _ _ _ _ _ _ _ _ _ _ _ _ _ _ _ _ _ _ _ rfl (by omega) (by simp) OwnS.nil rfl NotAt.ts ?_
  intro S v5 put' xs' g8 g9 g10 g11 g12 g13 g14 g15 g16 g17 g18 g19 g20 g21 g22 g23 g24 g25 g26 g27 g28 g29 g30 g31 g32 g33 g34 g35 g36 g37 g38 g39 g40 g41 g42 g43 g44 g45 g46 g47 g48 g49 g50 g51 hxl ho hx hb hna
  have hr : rowE S 0 0 = some (.d (encNode n)) := rowE_of hb
  rw [List.nil_append, List.drop_zero] at hx
  change _ = withN t n at hx
  cases put' with
  | true =>
    simp (maxSteps := 1000000) (disch := first | assumption | omega | rfl) only [↓vmp, vme, vmb, ty, hP, dec_t, dec_f, wrap64, List.length_map, Int.toNat_natCast, Nat.reduceAdd]
    rw [← hx]
    simp only [if_true, List.append_nil]
    exact retQ_one rfl (own_one ho) (own_frz' ho)
  | false =>
    obtain ⟨v', S', c, ha, ho', hfr, hlen⟩ := ap27 n ho (by omega)
    simp (maxSteps := 1000000) (disch := first | assumption | omega | rfl) only [↓vmp, vme, vmb, ty, hP, dec_t, dec_f, wrap64, List.length_map, Int.toNat_natCast, Nat.reduceAdd, hr, ha]
    rw [← hx]
    exact retQ_one rfl (own_one ho') (own_frz' ho')
end Go.Proofs.Ytghllhghboaagaa
end
