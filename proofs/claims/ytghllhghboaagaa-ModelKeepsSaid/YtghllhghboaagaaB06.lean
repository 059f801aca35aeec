/- Facts on the program's types, and its functions' bodies: written by mkty.py. -/
import Derived.Test.YtghllhghboaagaaProg
import Derived.Test.YtghllhghboaagaaB05
set_option linter.unusedVariables false
set_option linter.unusedSimpArgs false
set_option maxRecDepth 100000
set_option maxHeartbeats 4000000
set_option linter.defProp false
section
namespace Go.Proofs.Ytghllhghboaagaa
open Go.Vm
def z1g : Out → Option V
 | .ret _ => some (.d (.int .i64 0))
 | .pan (.iface 41 (.d (.int .i64 n))) => some (.d (.int .i64 n))
 | .pan (.d (.iface 41 (.int .i64 n))) => some (.d (.int .i64 n))
 | _ => Option.none
def zex : List D → Option Out := fun ds => match ds with | [] => some (.ret (.d (.bool true))) | _ => Option.none
def mask : Nat := 12406011854720023396352
noncomputable def cfg : Cfg := { P := Try.prog, mixed := by kernel_rfl, shared := fun f => Nat.testBit mask f, ext := fun f => match Nat.beq f 16 with | true => some zex | false => Option.none, catch_ := fun f => match Nat.beq f 42 with | true => some z1g | false => Option.none }
theorem hP : cfg.P = Try.prog := rfl
def encB (l : List UInt8) : D := .sl (l.map fun b => .int .u8 b.toNat)
theorem ff3 {a : Int} : qH Try.prog 3 (.d (.int .i64 a)) = true := by kernel_rfl
theorem ld3 {S : zA} {a : Int} : jZ Try.prog S 3 (.d (.ptr (.int .i64 a))) = some (.d (.int .i64 a)) := by kernel_rfl
theorem zo1 (a : Int) : z0e Try.prog 5 (.int .u8 a) = true := by kernel_rfl
theorem zqc (a : Int) : qH Try.prog 5 (.d (.int .u8 a)) = true := by kernel_rfl
theorem ld5 {S : zA} {a : Int} : jZ Try.prog S 5 (.d (.ptr (.int .u8 a))) = some (.d (.int .u8 a)) := by kernel_rfl
theorem zo8 (a : (List UInt8)) : z0e Try.prog 9 (.str a) = true := by kernel_rfl
theorem ff9 {a : (List UInt8)} : qH Try.prog 9 (.d (.str a)) = true := by kernel_rfl
theorem ld9 {S : zA} {a : (List UInt8)} : jZ Try.prog S 9 (.d (.ptr (.str a))) = some (.d (.str a)) := by kernel_rfl
theorem ff25 {a : List D} : qH Try.prog 25 (.d (.sl a)) = true := by kernel_rfl
structure Ent where
 name : (List UInt8)
 ino : Int
 deriving DecidableEq
def zJ (a : Ent) : D := .agg [.str a.name, .int .i64 a.ino]
theorem zin (a : Ent) : z0e Try.prog 88 (zJ a) = true := by kernel_rfl
theorem zgu (a : Ent) : qH Try.prog 88 (.d (zJ a)) = true := by kernel_rfl
theorem z88 : zeroV Try.prog 88 = some (.agg [.d (.str []), .d (.int .i64 0)]) := by kernel_rfl
theorem zf88 : qH Try.prog 88 (.agg [.d (.str []), .d (.int .i64 0)]) = true := by kernel_rfl
theorem zz88  : zeroV Try.prog 88 = some (.agg [.d (.str []), .d (.int .i64 0)]) := z88
theorem q0z {x0 x1 : V} : qH Try.prog 88 (.agg [x0, x1]) = true := by kernel_rfl
theorem lr88 {a : Ent} : kS Try.prog 88 0 (some (.d (zJ a))) = some (.d (zJ a)) := by kernel_rfl
theorem q0w {a : Ent} {x0 x1 : V} : qX Try.prog 88 0 (.d (zJ a)) (.agg [x0, x1]) = some (.d (zJ a)) := by kernel_rfl
theorem ld88 {S : zA} {a : Ent} : jZ Try.prog S 88 (.d (.ptr (zJ a))) = some (.d (zJ a)) := by kernel_rfl
theorem zzy {a : Ent} : zP Try.prog 88 0 (.d (.ptr (zJ a))) = some (.d (.ptr (.str a.name))) := by kernel_rfl
theorem zxb {a : Ent} : kS Try.prog 9 0 (some (.d (zJ a))) = some (.d (.str a.name)) := by kernel_rfl
theorem q0b {j x y : Nat} : zP Try.prog 88 0 (.ref j x y) = some (.ref j x (y + 0)) := by kernel_rfl
theorem zxj {a : Ent} : zP Try.prog 88 1 (.d (.ptr (zJ a))) = some (.d (.ptr (.int .i64 a.ino))) := by kernel_rfl
theorem zvm {a : Ent} : kS Try.prog 3 1 (some (.d (zJ a))) = some (.d (.int .i64 a.ino)) := by kernel_rfl
theorem zya {j x y : Nat} : zP Try.prog 88 1 (.ref j x y) = some (.ref j x (y + 1)) := by kernel_rfl
structure Node where
 ino : Int
 kind : Int
 links : Int
 parent : Int
 size : Int
 data : List UInt8
 names : List Ent
 deriving DecidableEq
def zB (a : Node) : D := .agg [.int .i64 a.ino, .int .i64 a.kind, .int .i64 a.links, .int .i64 a.parent, .int .i64 a.size, encB a.data, .sl (a.names.map zJ)]
theorem zqm (a : Node) : z0e Try.prog 91 (zB a) = true := by kernel_rfl
theorem z91 : zeroV Try.prog 91 = some (.agg [.d (.int .i64 0), .d (.int .i64 0), .d (.int .i64 0), .d (.int .i64 0), .d (.int .i64 0), .ts [], .ts []]) := by kernel_rfl
theorem zz91  : zeroV Try.prog 91 = some (.agg [.d (.int .i64 0), .d (.int .i64 0), .d (.int .i64 0), .d (.int .i64 0), .d (.int .i64 0), .ts [], .ts []]) := z91
theorem ff91 {a : Node} : qH Try.prog 91 (.d (zB a)) = true := by kernel_rfl
theorem q10 {x0 x1 x2 x3 x4 x5 x6 : V} : qH Try.prog 91 (.agg [x0, x1, x2, x3, x4, x5, x6]) = true := by kernel_rfl
theorem lr91 {a : Node} : kS Try.prog 91 0 (some (.d (zB a))) = some (.d (zB a)) := by kernel_rfl
theorem q0f {x0 x1 x2 x3 x4 x5 x6 : V} : kS Try.prog 91 0 (some (.agg [x0, x1, x2, x3, x4, x5, x6])) = some (.agg [x0, x1, x2, x3, x4, x5, x6]) := by kernel_rfl
theorem q22 {a : Node} {x0 x1 x2 x3 x4 x5 x6 : V} : qX Try.prog 91 0 (.d (zB a)) (.agg [x0, x1, x2, x3, x4, x5, x6]) = some (.d (zB a)) := by kernel_rfl
theorem q20 {x0 x1 x2 x3 x4 x5 x6 y0 y1 y2 y3 y4 y5 y6 : V} : qX Try.prog 91 0 (.agg [x0, x1, x2, x3, x4, x5, x6]) (.agg [y0, y1, y2, y3, y4, y5, y6]) = some (.agg [x0, x1, x2, x3, x4, x5, x6]) := by kernel_rfl
theorem ld91 {S : zA} {a : Node} : jZ Try.prog S 91 (.d (.ptr (zB a))) = some (.d (zB a)) := by kernel_rfl
theorem zxa {a : Node} : zP Try.prog 91 0 (.d (.ptr (zB a))) = some (.d (.ptr (.int .i64 a.ino))) := by kernel_rfl
theorem zx1 {a : Node} : kS Try.prog 3 0 (some (.d (zB a))) = some (.d (.int .i64 a.ino)) := by kernel_rfl
theorem zur {x0 x1 x2 x3 x4 x5 x6 : V} : kS Try.prog 3 0 (some (.agg [x0, x1, x2, x3, x4, x5, x6])) = some x0 := by kernel_rfl
theorem zyd {j x y : Nat} : zP Try.prog 91 0 (.ref j x y) = some (.ref j x (y + 0)) := by kernel_rfl
theorem zye {a : Node} : z59 Try.prog 91 1 (.d (zB a)) = some (.d (.int .i64 a.kind)) := by kernel_rfl
theorem zvb {a : Node} : kS Try.prog 3 1 (some (.d (zB a))) = some (.d (.int .i64 a.kind)) := by kernel_rfl
theorem zpe {x0 x1 x2 x3 x4 x5 x6 : V} {x : Int} : qX Try.prog 3 1 (.d (.int .i64 x)) (.agg [x0, x1, x2, x3, x4, x5, x6]) = some (.agg [x0, .d (.int .i64 x), x2, x3, x4, x5, x6]) := by kernel_rfl
theorem zzk {j x y : Nat} : zP Try.prog 91 1 (.ref j x y) = some (.ref j x (y + 1)) := by kernel_rfl
theorem q06 {a : Node} : kS Try.prog 3 2 (some (.d (zB a))) = some (.d (.int .i64 a.links)) := by kernel_rfl
theorem zt5 {x0 x1 x2 x3 x4 x5 x6 : V} : kS Try.prog 3 2 (some (.agg [x0, x1, x2, x3, x4, x5, x6])) = some x2 := by kernel_rfl
theorem zuc {a : Node} {x : Int} : qX Try.prog 3 2 (.d (.int .i64 x)) (.d (zB a)) = some (.agg [.d (.int .i64 a.ino), .d (.int .i64 a.kind), .d (.int .i64 x), .d (.int .i64 a.parent), .d (.int .i64 a.size), .d (encB a.data), .d (.sl (a.names.map zJ))]) := by kernel_rfl
theorem q01 {j x y : Nat} : zP Try.prog 91 2 (.ref j x y) = some (.ref j x (y + 2)) := by kernel_rfl
theorem zx4 {a : Node} : z59 Try.prog 91 3 (.d (zB a)) = some (.d (.int .i64 a.parent)) := by kernel_rfl
theorem ztw {a : Node} {x : Int} : qX Try.prog 3 3 (.d (.int .i64 x)) (.d (zB a)) = some (.agg [.d (.int .i64 a.ino), .d (.int .i64 a.kind), .d (.int .i64 a.links), .d (.int .i64 x), .d (.int .i64 a.size), .d (encB a.data), .d (.sl (a.names.map zJ))]) := by kernel_rfl
theorem znw {x0 x1 x2 x3 x4 x5 x6 : V} {x : Int} : qX Try.prog 3 3 (.d (.int .i64 x)) (.agg [x0, x1, x2, x3, x4, x5, x6]) = some (.agg [x0, x1, x2, .d (.int .i64 x), x4, x5, x6]) := by kernel_rfl
theorem zvq {j x y : Nat} : zP Try.prog 91 3 (.ref j x y) = some (.ref j x (y + 3)) := by kernel_rfl
theorem zwm {a : Node} : kS Try.prog 3 4 (some (.d (zB a))) = some (.d (.int .i64 a.size)) := by kernel_rfl
theorem zq0 {x0 x1 x2 x3 x4 x5 x6 : V} {x : Int} : qX Try.prog 3 4 (.d (.int .i64 x)) (.agg [x0, x1, x2, x3, x4, x5, x6]) = some (.agg [x0, x1, x2, x3, .d (.int .i64 x), x5, x6]) := by kernel_rfl
theorem zwt {j x y : Nat} : zP Try.prog 91 4 (.ref j x y) = some (.ref j x (y + 4)) := by kernel_rfl
theorem zw9 {a : Node} : kS Try.prog 29 5 (some (.d (zB a))) = some (.d (encB a.data)) := by kernel_rfl
theorem zym {j x y : Nat} : zP Try.prog 91 5 (.ref j x y) = some (.ref j x (y + 5)) := by kernel_rfl
theorem zv8 {a : Node} : kS Try.prog 30 6 (some (.d (zB a))) = some (.d (.sl (a.names.map zJ))) := by kernel_rfl
theorem zts {x0 x1 x2 x3 x4 x5 x6 : V} : kS Try.prog 30 6 (some (.agg [x0, x1, x2, x3, x4, x5, x6])) = some x6 := by kernel_rfl
theorem zm9 {a : Node} {v : V} (h1 : qH Try.prog 30 v = true) (h2 : v.cells = [v]) : qX Try.prog 30 6 v (.d (zB a)) = some (.agg [.d (.int .i64 a.ino), .d (.int .i64 a.kind), .d (.int .i64 a.links), .d (.int .i64 a.parent), .d (.int .i64 a.size), .d (encB a.data), v]) := by simp only [qX, h1, h2]; rfl
theorem zv3 {j x y : Nat} : zP Try.prog 91 6 (.ref j x y) = some (.ref j x (y + 6)) := by kernel_rfl
theorem zyv (a : Node) : z0e Try.prog 32 (zB a) = true := by kernel_rfl
theorem zlx (a : Node) : qH Try.prog 32 (.d (zB a)) = true := by kernel_rfl
theorem z32 : zeroV Try.prog 32 = some (.agg [.d (.int .i64 0), .d (.int .i64 0), .d (.int .i64 0), .d (.int .i64 0), .d (.int .i64 0), .ts [], .ts []]) := by kernel_rfl
theorem zf32 : qH Try.prog 32 (.agg [.d (.int .i64 0), .d (.int .i64 0), .d (.int .i64 0), .d (.int .i64 0), .d (.int .i64 0), .ts [], .ts []]) = true := by kernel_rfl
theorem zz32  : zeroV Try.prog 32 = some (.agg [.d (.int .i64 0), .d (.int .i64 0), .d (.int .i64 0), .d (.int .i64 0), .d (.int .i64 0), .ts [], .ts []]) := z32
theorem ff32 {a : Node} : qH Try.prog 32 (.d (zB a)) = true := by kernel_rfl
theorem zgv {x0 x1 x2 x3 x4 x5 x6 : V} : qH Try.prog 32 (.agg [x0, x1, x2, x3, x4, x5, x6]) = true := by kernel_rfl
theorem lr32 {a : Node} : kS Try.prog 32 0 (some (.d (zB a))) = some (.d (zB a)) := by kernel_rfl
theorem q1y {x0 x1 x2 x3 x4 x5 x6 : V} : kS Try.prog 32 0 (some (.agg [x0, x1, x2, x3, x4, x5, x6])) = some (.agg [x0, x1, x2, x3, x4, x5, x6]) := by kernel_rfl
theorem sr32 {a b : Node} : qX Try.prog 32 0 (.d (zB a)) (.d (zB b)) = some (.d (zB a)) := by kernel_rfl
theorem q1r {a : Node} {x0 x1 x2 x3 x4 x5 x6 : V} : qX Try.prog 32 0 (.d (zB a)) (.agg [x0, x1, x2, x3, x4, x5, x6]) = some (.d (zB a)) := by kernel_rfl
theorem ld32 {S : zA} {a : Node} : jZ Try.prog S 32 (.d (.ptr (zB a))) = some (.d (zB a)) := by kernel_rfl
theorem zv6 {a : Node} : z59 Try.prog 32 0 (.d (zB a)) = some (.d (.int .i64 a.ino)) := by kernel_rfl
theorem zw2 {j x y : Nat} : zP Try.prog 32 0 (.ref j x y) = some (.ref j x (y + 0)) := by kernel_rfl
theorem zv7 {j x y : Nat} : zP Try.prog 32 1 (.ref j x y) = some (.ref j x (y + 1)) := by kernel_rfl
theorem zx9 {a : Node} : zP Try.prog 32 2 (.d (.ptr (zB a))) = some (.d (.ptr (.int .i64 a.links))) := by kernel_rfl
theorem zxy {j x y : Nat} : zP Try.prog 32 2 (.ref j x y) = some (.ref j x (y + 2)) := by kernel_rfl
theorem q08 {a : Node} : zP Try.prog 32 3 (.d (.ptr (zB a))) = some (.d (.ptr (.int .i64 a.parent))) := by kernel_rfl
theorem zxw {j x y : Nat} : zP Try.prog 32 3 (.ref j x y) = some (.ref j x (y + 3)) := by kernel_rfl
theorem zy0 {j x y : Nat} : zP Try.prog 32 4 (.ref j x y) = some (.ref j x (y + 4)) := by kernel_rfl
theorem zlm {a : Node} {v : V} (h1 : qH Try.prog 29 v = true) (h2 : v.cells = [v]) : qX Try.prog 29 5 v (.d (zB a)) = some (.agg [.d (.int .i64 a.ino), .d (.int .i64 a.kind), .d (.int .i64 a.links), .d (.int .i64 a.parent), .d (.int .i64 a.size), v, .d (.sl (a.names.map zJ))]) := by simp only [qX, h1, h2]; rfl
theorem zuo {x0 x1 x2 x3 x4 x5 x6 v : V} (h1 : qH Try.prog 29 v = true) (h2 : v.cells = [v]) : qX Try.prog 29 5 v (.agg [x0, x1, x2, x3, x4, x5, x6]) = some (.agg [x0, x1, x2, x3, x4, v, x6]) := by simp only [qX, h1, h2]; rfl
theorem zyt {j x y : Nat} : zP Try.prog 32 5 (.ref j x y) = some (.ref j x (y + 5)) := by kernel_rfl
theorem zd1 {x0 x1 x2 x3 x4 x5 x6 v : V} (h1 : qH Try.prog 30 v = true) (h2 : v.cells = [v]) : qX Try.prog 30 6 v (.agg [x0, x1, x2, x3, x4, x5, x6]) = some (.agg [x0, x1, x2, x3, x4, x5, v]) := by simp only [qX, h1, h2]; rfl
theorem zwo {j x y : Nat} : zP Try.prog 32 6 (.ref j x y) = some (.ref j x (y + 6)) := by kernel_rfl
structure Ans where
 err : Int
 ino : Int
 kind : Int
 links : Int
 size : Int
 data : List UInt8
 names : List (List UInt8)
 deriving DecidableEq
def qO (a : Ans) : D := .agg [.int .i64 a.err, .int .i64 a.ino, .int .i64 a.kind, .int .i64 a.links, .int .i64 a.size, encB a.data, .sl (a.names.map .str)]
theorem z52 : zeroV Try.prog 52 = some (.agg [.d (.int .i64 0), .d (.int .i64 0), .d (.int .i64 0), .d (.int .i64 0), .d (.int .i64 0), .ts [], .ts []]) := by kernel_rfl
theorem zz52  : zeroV Try.prog 52 = some (.agg [.d (.int .i64 0), .d (.int .i64 0), .d (.int .i64 0), .d (.int .i64 0), .d (.int .i64 0), .ts [], .ts []]) := z52
theorem q15 {x0 x1 x2 x3 x4 x5 x6 : V} : qH Try.prog 52 (.agg [x0, x1, x2, x3, x4, x5, x6]) = true := by kernel_rfl
theorem q0l {a : Ans} {x0 x1 x2 x3 x4 x5 x6 : V} : qX Try.prog 52 0 (.d (qO a)) (.agg [x0, x1, x2, x3, x4, x5, x6]) = some (.d (qO a)) := by kernel_rfl
theorem q0p {x0 x1 x2 x3 x4 x5 x6 y0 y1 y2 y3 y4 y5 y6 : V} : qX Try.prog 52 0 (.agg [x0, x1, x2, x3, x4, x5, x6]) (.agg [y0, y1, y2, y3, y4, y5, y6]) = some (.agg [x0, x1, x2, x3, x4, x5, x6]) := by kernel_rfl
theorem zs6 {x0 x1 x2 x3 x4 x5 x6 v : V} (h1 : qH Try.prog 29 v = true) (h2 : v.cells = [v]) : qX Try.prog 29 5 v (.agg [x0, x1, x2, x3, x4, x5, x6]) = some (.agg [x0, x1, x2, x3, x4, v, x6]) := by simp only [qX, h1, h2]; rfl
theorem zte {x0 x1 x2 x3 x4 x5 x6 v : V} (h1 : qH Try.prog 42 v = true) (h2 : v.cells = [v]) : qX Try.prog 42 6 v (.agg [x0, x1, x2, x3, x4, x5, x6]) = some (.agg [x0, x1, x2, x3, x4, x5, v]) := by simp only [qX, h1, h2]; rfl
theorem z44 : zeroV Try.prog 44 = some (.agg [.d (.int .i64 0), .d (.int .i64 0), .d (.int .i64 0), .d (.int .i64 0), .d (.int .i64 0), .ts [], .ts []]) := by kernel_rfl
theorem zf44 : qH Try.prog 44 (.agg [.d (.int .i64 0), .d (.int .i64 0), .d (.int .i64 0), .d (.int .i64 0), .d (.int .i64 0), .ts [], .ts []]) = true := by kernel_rfl
theorem zz44  : zeroV Try.prog 44 = some (.agg [.d (.int .i64 0), .d (.int .i64 0), .d (.int .i64 0), .d (.int .i64 0), .d (.int .i64 0), .ts [], .ts []]) := z44
theorem q24 {x0 x1 x2 x3 x4 x5 x6 : V} : qH Try.prog 44 (.agg [x0, x1, x2, x3, x4, x5, x6]) = true := by kernel_rfl
theorem q0q {a : Ans} {x0 x1 x2 x3 x4 x5 x6 : V} : qX Try.prog 44 0 (.d (qO a)) (.agg [x0, x1, x2, x3, x4, x5, x6]) = some (.d (qO a)) := by kernel_rfl
theorem zzs {a : Ans} : kS Try.prog 41 0 (some (.d (qO a))) = some (.d (.int .i64 a.err)) := by kernel_rfl
theorem zw3 {j x y : Nat} : zP Try.prog 44 0 (.ref j x y) = some (.ref j x (y + 0)) := by kernel_rfl
theorem zxt {j x y : Nat} : zP Try.prog 44 1 (.ref j x y) = some (.ref j x (y + 1)) := by kernel_rfl
theorem zvu {j x y : Nat} : zP Try.prog 44 2 (.ref j x y) = some (.ref j x (y + 2)) := by kernel_rfl
theorem zwy {j x y : Nat} : zP Try.prog 44 3 (.ref j x y) = some (.ref j x (y + 3)) := by kernel_rfl
theorem zy8 {j x y : Nat} : zP Try.prog 44 4 (.ref j x y) = some (.ref j x (y + 4)) := by kernel_rfl
theorem zyr {j x y : Nat} : zP Try.prog 44 5 (.ref j x y) = some (.ref j x (y + 5)) := by kernel_rfl
theorem zvy {j x y : Nat} : zP Try.prog 44 6 (.ref j x y) = some (.ref j x (y + 6)) := by kernel_rfl
structure Opn where
 does : Int
 a : (List UInt8)
 b : (List UInt8)
 off : Int
 n : Int
 data : List UInt8
 deriving DecidableEq
def encOpn (a : Opn) : D := .agg [.int .i64 a.does, .str a.a, .str a.b, .int .i64 a.off, .int .i64 a.n, encB a.data]
theorem zv9 (a : Opn) : z0e Try.prog 50 (encOpn a) = true := by kernel_rfl
theorem ff50 {a : Opn} : qH Try.prog 50 (.d (encOpn a)) = true := by kernel_rfl
theorem lr50 {a : Opn} : kS Try.prog 50 0 (some (.d (encOpn a))) = some (.d (encOpn a)) := by kernel_rfl
theorem ld50 {S : zA} {a : Opn} : jZ Try.prog S 50 (.d (.ptr (encOpn a))) = some (.d (encOpn a)) := by kernel_rfl
theorem zr9 {a : Opn} : kS Try.prog 3 0 (some (.d (encOpn a))) = some (.d (.int .i64 a.does)) := by kernel_rfl
theorem zwv {j x y : Nat} : zP Try.prog 50 0 (.ref j x y) = some (.ref j x (y + 0)) := by kernel_rfl
theorem zw0 {a : Opn} : zP Try.prog 50 1 (.d (.ptr (encOpn a))) = some (.d (.ptr (.str a.a))) := by kernel_rfl
theorem zr3 {a : Opn} : kS Try.prog 9 1 (some (.d (encOpn a))) = some (.d (.str a.a)) := by kernel_rfl
theorem zza {j x y : Nat} : zP Try.prog 50 1 (.ref j x y) = some (.ref j x (y + 1)) := by kernel_rfl
theorem zy3 {a : Opn} : zP Try.prog 50 2 (.d (.ptr (encOpn a))) = some (.d (.ptr (.str a.b))) := by kernel_rfl
theorem zqr {a : Opn} : kS Try.prog 9 2 (some (.d (encOpn a))) = some (.d (.str a.b)) := by kernel_rfl
theorem zzx {j x y : Nat} : zP Try.prog 50 2 (.ref j x y) = some (.ref j x (y + 2)) := by kernel_rfl
theorem zr5 {a : Opn} : kS Try.prog 3 3 (some (.d (encOpn a))) = some (.d (.int .i64 a.off)) := by kernel_rfl
theorem zz0 {j x y : Nat} : zP Try.prog 50 3 (.ref j x y) = some (.ref j x (y + 3)) := by kernel_rfl
theorem zqw {a : Opn} : kS Try.prog 3 4 (some (.d (encOpn a))) = some (.d (.int .i64 a.n)) := by kernel_rfl
theorem zvk {j x y : Nat} : zP Try.prog 50 4 (.ref j x y) = some (.ref j x (y + 4)) := by kernel_rfl
theorem zyo {a : Opn} : zP Try.prog 50 5 (.d (.ptr (encOpn a))) = some (.d (.ptr (encB a.data))) := by kernel_rfl
theorem zvt {a : Opn} : kS Try.prog 29 5 (some (.d (encOpn a))) = some (.d (encB a.data)) := by kernel_rfl
theorem zwx {j x y : Nat} : zP Try.prog 50 5 (.ref j x y) = some (.ref j x (y + 5)) := by kernel_rfl
theorem z48 : zeroV Try.prog 48 = some (.agg [.d (.int .i64 0), .d (.str []), .d (.str []), .d (.int .i64 0), .d (.int .i64 0), .ts []]) := by kernel_rfl
theorem zf48 : qH Try.prog 48 (.agg [.d (.int .i64 0), .d (.str []), .d (.str []), .d (.int .i64 0), .d (.int .i64 0), .ts []]) = true := by kernel_rfl
theorem zz48  : zeroV Try.prog 48 = some (.agg [.d (.int .i64 0), .d (.str []), .d (.str []), .d (.int .i64 0), .d (.int .i64 0), .ts []]) := z48
theorem ff48 {a : Opn} : qH Try.prog 48 (.d (encOpn a)) = true := by kernel_rfl
theorem q1u {x0 x1 x2 x3 x4 x5 : V} : qH Try.prog 48 (.agg [x0, x1, x2, x3, x4, x5]) = true := by kernel_rfl
theorem lr48 {a : Opn} : kS Try.prog 48 0 (some (.d (encOpn a))) = some (.d (encOpn a)) := by kernel_rfl
theorem q1z {x0 x1 x2 x3 x4 x5 y0 y1 y2 y3 y4 y5 : V} : qX Try.prog 48 0 (.agg [x0, x1, x2, x3, x4, x5]) (.agg [y0, y1, y2, y3, y4, y5]) = some (.agg [x0, x1, x2, x3, x4, x5]) := by kernel_rfl
theorem zzg {j x y : Nat} : zP Try.prog 48 0 (.ref j x y) = some (.ref j x (y + 0)) := by kernel_rfl
theorem zyq {j x y : Nat} : zP Try.prog 48 1 (.ref j x y) = some (.ref j x (y + 1)) := by kernel_rfl
theorem zx6 {j x y : Nat} : zP Try.prog 48 2 (.ref j x y) = some (.ref j x (y + 2)) := by kernel_rfl
theorem q0a {j x y : Nat} : zP Try.prog 48 3 (.ref j x y) = some (.ref j x (y + 3)) := by kernel_rfl
theorem zy1 {j x y : Nat} : zP Try.prog 48 4 (.ref j x y) = some (.ref j x (y + 4)) := by kernel_rfl
theorem zxr {j x y : Nat} : zP Try.prog 48 5 (.ref j x y) = some (.ref j x (y + 5)) := by kernel_rfl
theorem zzm : zOk Try.prog 5 = true := by kernel_rfl
theorem ztt : (sz Try.prog 5).isSome = true := by kernel_rfl
theorem zes {m : Nat} (h : m ≤ 1000000) : room Try.prog 5 m = true := z5n rfl (by decide +kernel) h
theorem ix29 {S : zA} {l : List UInt8} {i : Nat} (h : i < l.length) : qN Try.prog S 29 (.d (.sl (l.map (fun b : UInt8 => D.int .u8 b.toNat)))) (.d (.int .i64 i)) = some (.d (.ptr (.int .u8 (l[i].toNat : Int)))) := zbn Try.underlying29 (fun a => zo1 _) h
theorem q1j {S : zA} {xs : List D} : qD Try.prog S .len [29] [.d (.sl xs)] = some (.val (.d (.int .i64 xs.length)) S 0) := zbz Try.underlying29
theorem bs29 {S : zA} {a : Int} : bs1 Try.prog S 29 (.d (.int .u8 a)) = some (.val (.ts [.int .u8 a]) S 0) := by kernel_rfl
theorem ap29 {S : zA} {v : V} {xs : List UInt8} (a : UInt8) (ho : OwnS S v 5 (xs.map fun x => .d (.int .u8 x.toNat))) (hl : xs.length < 1000000) : ∃ v' S' c, qI Try.prog S 29 29 v (.ts [.int .u8 a.toNat]) = some (v', S', c) ∧ OwnS S' v' 5 ((xs ++ [a]).map fun x => .d (.int .u8 x.toNat)) ∧ (∀ j o, S[j]? = some o → NotAt v j → S'[j]? = some o ∧ NotAt v' j) ∧ S.length ≤ S'.length := z4q (enc := fun x : UInt8 => D.int .u8 x.toNat) a Try.underlying29 zzm ztt (zo1 _) ho (zes (by omega))
theorem zvo : zOk Try.prog 88 = true := by kernel_rfl
theorem zyh : (sz Try.prog 88).isSome = true := by kernel_rfl
theorem zqh {m : Nat} (h : m ≤ 1000000) : room Try.prog 88 m = true := z5n rfl (by decide +kernel) h
theorem ix30 {S : zA} {l : List Ent} {i : Nat} (h : i < l.length) : qN Try.prog S 30 (.d (.sl (l.map (zJ)))) (.d (.int .i64 i)) = some (.d (.ptr ((zJ) l[i]))) := zbn Try.underlying30 (zin) h
theorem q25 {S : zA} {xs : List D} : qD Try.prog S .len [30] [.d (.sl xs)] = some (.val (.d (.int .i64 xs.length)) S 0) := zbz Try.underlying30
theorem bs30 {S : zA} {a : Ent} : bs1 Try.prog S 30 (.d (zJ a)) = some (.val (.ts [zJ a]) S 0) := by kernel_rfl
theorem ap30 {S : zA} {v : V} {xs : List Ent} (a : Ent) (ho : OwnS S v 88 (xs.map fun x => .d (zJ x))) (hl : xs.length < 1000000) : ∃ v' S' c, qI Try.prog S 30 30 v (.ts [zJ a]) = some (v', S', c) ∧ OwnS S' v' 88 ((xs ++ [a]).map fun x => .d (zJ x)) ∧ (∀ j o, S[j]? = some o → NotAt v j → S'[j]? = some o ∧ NotAt v' j) ∧ S.length ≤ S'.length := z4q a Try.underlying30 zvo zyh (zin a) ho (zqh (by omega))
theorem q07 : zOk Try.prog 9 = true := by kernel_rfl
theorem zn6 : (sz Try.prog 9).isSome = true := by kernel_rfl
theorem zrh {m : Nat} (h : m ≤ 1000000) : room Try.prog 9 m = true := z5n rfl (by decide +kernel) h
theorem ix42 {S : zA} {l : List (List UInt8)} {i : Nat} (h : i < l.length) : qN Try.prog S 42 (.d (.sl (l.map (D.str)))) (.d (.int .i64 i)) = some (.d (.ptr ((D.str) l[i]))) := zbn Try.underlying42 (fun a => zo8 a) h
theorem q1w {S : zA} {xs : List D} : qD Try.prog S .len [42] [.d (.sl xs)] = some (.val (.d (.int .i64 xs.length)) S 0) := zbz Try.underlying42
theorem bs42 {S : zA} {a : (List UInt8)} : bs1 Try.prog S 42 (.d (.str a)) = some (.val (.ts [.str a]) S 0) := by kernel_rfl
theorem ap42 {S : zA} {v : V} {xs : List (List UInt8)} (a : (List UInt8)) (ho : OwnS S v 9 (xs.map fun x => .d (D.str x))) (hl : xs.length < 1000000) : ∃ v' S' c, qI Try.prog S 42 42 v (.ts [D.str a]) = some (v', S', c) ∧ OwnS S' v' 9 ((xs ++ [a]).map fun x => .d (D.str x)) ∧ (∀ j o, S[j]? = some o → NotAt v j → S'[j]? = some o ∧ NotAt v' j) ∧ S.length ≤ S'.length := z4q a Try.underlying42 q07 zn6 (zo8 a) ho (zrh (by omega))
theorem q1t : zOk Try.prog 91 = true := by kernel_rfl
theorem q23 : (sz Try.prog 91).isSome = true := by kernel_rfl
theorem zz2 {m : Nat} (h : m ≤ 1000000) : room Try.prog 91 m = true := z5n rfl (by decide +kernel) h
theorem ix27 {S : zA} {l : List Node} {i : Nat} (h : i < l.length) : qN Try.prog S 27 (.d (.sl (l.map (zB)))) (.d (.int .i64 i)) = some (.d (.ptr ((zB) l[i]))) := zbn Try.underlying27 (zqm) h
theorem q1m {S : zA} {xs : List D} : qD Try.prog S .len [27] [.d (.sl xs)] = some (.val (.d (.int .i64 xs.length)) S 0) := zbz Try.underlying27
theorem bs27 {S : zA} {a : Node} : bs1 Try.prog S 27 (.d (zB a)) = some (.val (.ts [zB a]) S 0) := by kernel_rfl
theorem ap27 {S : zA} {v : V} {xs : List Node} (a : Node) (ho : OwnS S v 91 (xs.map fun x => .d (zB x))) (hl : xs.length < 1000000) : ∃ v' S' c, qI Try.prog S 27 27 v (.ts [zB a]) = some (v', S', c) ∧ OwnS S' v' 91 ((xs ++ [a]).map fun x => .d (zB x)) ∧ (∀ j o, S[j]? = some o → NotAt v j → S'[j]? = some o ∧ NotAt v' j) ∧ S.length ≤ S'.length := z4q a Try.underlying27 q1t q23 (zqm a) ho (zz2 (by omega))
theorem zwl : zOk Try.prog 32 = true := by kernel_rfl
theorem zow : (sz Try.prog 32).isSome = true := by kernel_rfl
theorem zqp {m : Nat} (h : m ≤ 1000000) : room Try.prog 32 m = true := z5n rfl (by decide +kernel) h
theorem ix25 {S : zA} {l : List Node} {i : Nat} (h : i < l.length) : qN Try.prog S 25 (.d (.sl (l.map (zB)))) (.d (.int .i64 i)) = some (.d (.ptr ((zB) l[i]))) := zbn Try.underlying25 (zyv) h
theorem q19 {S : zA} {xs : List D} : qD Try.prog S .len [25] [.d (.sl xs)] = some (.val (.d (.int .i64 xs.length)) S 0) := zbz Try.underlying25
theorem ix22 {S : zA} {l : List Opn} {i : Nat} (h : i < l.length) : qN Try.prog S 22 (.d (.sl (l.map (encOpn)))) (.d (.int .i64 i)) = some (.d (.ptr ((encOpn) l[i]))) := zbn Try.underlying22 (zv9) h
theorem q0y {S : zA} {xs : List D} : qD Try.prog S .len [22] [.d (.sl xs)] = some (.val (.d (.int .i64 xs.length)) S 0) := zbz Try.underlying22
theorem bs22 {S : zA} {a : Opn} : bs1 Try.prog S 22 (.d (encOpn a)) = some (.val (.ts [encOpn a]) S 0) := by kernel_rfl
theorem q21 {s : List UInt8} {i : Nat} (h : i < s.length) : z4e Try.prog 9 (.d (.str s)) (.d (.int .i64 i)) = some (.d (.int .u8 s[i].toNat)) := zhf Try.underlying9 h
theorem zva {S : zA} {s : List UInt8} : qD Try.prog S .len [9] [.d (.str s)] = some (.val (.d (.int .i64 s.length)) S 0) := ztk Try.underlying9
theorem zrr : zC Try.prog 112 = some ⟨Try.f112.body.getD .skip, 28, #[.tmp 4]⟩ := by
 unfold zC
 rw [Try.func112]
 rfl
theorem q1i  : (zC Try.prog 112).isSome = true := by kernel_rfl
theorem zwj : zC Try.prog 89 = some ⟨Try.f89.body.getD .skip, 52, #[.tmp 4]⟩ := by
 unfold zC
 rw [Try.func89]
 rfl
theorem bo89  : (zC Try.prog 89).isSome = true := by kernel_rfl
theorem zyu : zC Try.prog 65 = some ⟨Try.f65.body.getD .skip, 16, #[.cell 4 91]⟩ := by
 unfold zC
 rw [Try.func65]
 rfl
theorem bo65  : (zC Try.prog 65).isSome = true := by kernel_rfl
theorem zve : zC Try.prog 88 = some ⟨Try.f88.body.getD .skip, 62, #[.tmp 8]⟩ := by
 unfold zC
 rw [Try.func88]
 rfl
theorem bo88  : (zC Try.prog 88).isSome = true := by kernel_rfl
theorem zzz : zC Try.prog 91 = some ⟨Try.f91.body.getD .skip, 41, #[.tmp 6]⟩ := by
 unfold zC
 rw [Try.func91]
 rfl
theorem bo91  : (zC Try.prog 91).isSome = true := by kernel_rfl
theorem zzj : zC Try.prog 90 = some ⟨Try.f90.body.getD .skip, 22, #[.tmp 4]⟩ := by
 unfold zC
 rw [Try.func90]
 rfl
theorem bo90  : (zC Try.prog 90).isSome = true := by kernel_rfl
theorem zwc : zC Try.prog 92 = some ⟨Try.f92.body.getD .skip, 21, #[.tmp 6]⟩ := by
 unfold zC
 rw [Try.func92]
 rfl
theorem bo92  : (zC Try.prog 92).isSome = true := by kernel_rfl
theorem q02 : zC Try.prog 62 = some ⟨Try.f62.body.getD .skip, 32, #[.tmp 4, .tmp 5]⟩ := by
 unfold zC
 rw [Try.func62]
 rfl
theorem bo62  : (zC Try.prog 62).isSome = true := by kernel_rfl
theorem zyz : zC Try.prog 28 = some ⟨Try.f28.body.getD .skip, 21, #[.tmp 4, .tmp 5]⟩ := by
 unfold zC
 rw [Try.func28]
 rfl
theorem bo28  : (zC Try.prog 28).isSome = true := by kernel_rfl
theorem zvx : zC Try.prog 30 = some ⟨Try.f30.body.getD .skip, 47, #[.tmp 4, .tmp 5, .tmp 6]⟩ := by
 unfold zC
 rw [Try.func30]
 rfl
theorem bo30  : (zC Try.prog 30).isSome = true := by kernel_rfl
theorem zx5 : zC Try.prog 32 = some ⟨Try.f32.body.getD .skip, 11, #[.tmp 2]⟩ := by
 unfold zC
 rw [Try.func32]
 rfl
theorem bo32  : (zC Try.prog 32).isSome = true := by kernel_rfl
theorem zx3 : zC Try.prog 46 = some ⟨Try.f46.body.getD .skip, 5, #[.cell 2 52]⟩ := by
 unfold zC
 rw [Try.func46]
 rfl
theorem bo46  : (zC Try.prog 46).isSome = true := by kernel_rfl
theorem zy2 : zC Try.prog 47 = some ⟨Try.f47.body.getD .skip, 51, #[.tmp 4, .cell 5 52]⟩ := by
 unfold zC
 rw [Try.func47]
 rfl
theorem bo47  : (zC Try.prog 47).isSome = true := by kernel_rfl
theorem zw4 : zC Try.prog 48 = some ⟨Try.f48.body.getD .skip, 65, #[.tmp 4, .cell 5 52]⟩ := by
 unfold zC
 rw [Try.func48]
 rfl
theorem bo48  : (zC Try.prog 48).isSome = true := by kernel_rfl
theorem zxc : zC Try.prog 49 = some ⟨Try.f49.body.getD .skip, 74, #[.tmp 4, .cell 5 52]⟩ := by
 unfold zC
 rw [Try.func49]
 rfl
theorem bo49  : (zC Try.prog 49).isSome = true := by kernel_rfl
theorem zys : zC Try.prog 50 = some ⟨Try.f50.body.getD .skip, 126, #[.tmp 4, .cell 5 52]⟩ := by
 unfold zC
 rw [Try.func50]
 rfl
theorem bo50  : (zC Try.prog 50).isSome = true := by kernel_rfl
theorem zxg : zC Try.prog 51 = some ⟨Try.f51.body.getD .skip, 147, #[.tmp 4, .cell 5 52]⟩ := by
 unfold zC
 rw [Try.func51]
 rfl
theorem bo51  : (zC Try.prog 51).isSome = true := by kernel_rfl
theorem zww : zC Try.prog 52 = some ⟨Try.f52.body.getD .skip, 61, #[.cell 4 52]⟩ := by
 unfold zC
 rw [Try.func52]
 rfl
theorem bo52  : (zC Try.prog 52).isSome = true := by kernel_rfl
theorem zwq : zC Try.prog 21 = some ⟨Try.f21.body.getD .skip, 60, #[.tmp 4, .cell 5 52]⟩ := by
 unfold zC
 rw [Try.func21]
 rfl
theorem bo21  : (zC Try.prog 21).isSome = true := by kernel_rfl
theorem zzf : zC Try.prog 18 = some ⟨Try.f18.body.getD .skip, 3, #[.tmp 0]⟩ := by
 unfold zC
 rw [Try.func18]
 rfl
theorem bo18  : (zC Try.prog 18).isSome = true := by kernel_rfl
theorem zxs : zC Try.prog 67 = some ⟨Try.f67.body.getD .skip, 20, #[.tmp 4]⟩ := by
 unfold zC
 rw [Try.func67]
 rfl
theorem bo67  : (zC Try.prog 67).isSome = true := by kernel_rfl
theorem zy7 : zC Try.prog 87 = some ⟨Try.f87.body.getD .skip, 27, #[.tmp 4]⟩ := by
 unfold zC
 rw [Try.func87]
 rfl
theorem bo87  : (zC Try.prog 87).isSome = true := by kernel_rfl
theorem zzw : zC Try.prog 61 = some ⟨Try.f61.body.getD .skip, 67, #[.tmp 2, .tmp 3]⟩ := by
 unfold zC
 rw [Try.func61]
 rfl
theorem bo61  : (zC Try.prog 61).isSome = true := by kernel_rfl
theorem ztd : zC Try.prog 100 = some ⟨Try.f100.body.getD .skip, 36, #[.tmp 2]⟩ := by
 unfold zC
 rw [Try.func100]
 rfl
theorem q1a  : (zC Try.prog 100).isSome = true := by kernel_rfl
theorem zt7 : zC Try.prog 111 = some ⟨Try.f111.body.getD .skip, 37, #[.tmp 4]⟩ := by
 unfold zC
 rw [Try.func111]
 rfl
theorem q1k  : (zC Try.prog 111).isSome = true := by kernel_rfl
theorem zx2 : zC Try.prog 93 = some ⟨Try.f93.body.getD .skip, 35, #[.tmp 6]⟩ := by
 unfold zC
 rw [Try.func93]
 rfl
theorem bo93  : (zC Try.prog 93).isSome = true := by kernel_rfl
theorem zv0 : zC Try.prog 94 = some ⟨Try.f94.body.getD .skip, 46, #[.tmp 6]⟩ := by
 unfold zC
 rw [Try.func94]
 rfl
theorem bo94  : (zC Try.prog 94).isSome = true := by kernel_rfl
theorem zxh : zC Try.prog 45 = some ⟨Try.f45.body.getD .skip, 17, #[.tmp 2]⟩ := by
 unfold zC
 rw [Try.func45]
 rfl
theorem bo45  : (zC Try.prog 45).isSome = true := by kernel_rfl
theorem zw7 : zC Try.prog 10 = some ⟨Try.f10.body.getD .skip, 41, #[.tmp 4]⟩ := by
 unfold zC
 rw [Try.func10]
 rfl
theorem bo10  : (zC Try.prog 10).isSome = true := by kernel_rfl
theorem zyc : zC Try.prog 13 = some ⟨Try.f13.body.getD .skip, 25, #[.tmp 2]⟩ := by
 unfold zC
 rw [Try.func13]
 rfl
theorem bo13  : (zC Try.prog 13).isSome = true := by kernel_rfl
theorem zz7 : zC Try.prog 12 = some ⟨Try.f12.body.getD .skip, 31, #[.tmp 2]⟩ := by
 unfold zC
 rw [Try.func12]
 rfl
theorem bo12  : (zC Try.prog 12).isSome = true := by kernel_rfl
theorem zzq : zC Try.prog 20 = some ⟨Try.f20.body.getD .skip, 18, #[.cell 2 48]⟩ := by
 unfold zC
 rw [Try.func20]
 rfl
theorem bo20  : (zC Try.prog 20).isSome = true := by kernel_rfl
theorem zqt : zC Try.prog 40 = some ⟨Try.f40.body.getD .skip, 34, #[.tmp 2]⟩ := by
 unfold zC
 rw [Try.func40]
 rfl
theorem bo40  : (zC Try.prog 40).isSome = true := by kernel_rfl
theorem zxq : zC Try.prog 66 = some ⟨Try.f66.body.getD .skip, 20, #[.tmp 2]⟩ := by
 unfold zC
 rw [Try.func66]
 rfl
theorem bo66  : (zC Try.prog 66).isSome = true := by kernel_rfl
theorem zue : zC Try.prog 105 = some ⟨Try.f105.body.getD .skip, 22, #[.tmp 4, .tmp 5]⟩ := by
 unfold zC
 rw [Try.func105]
 rfl
theorem q1g  : (zC Try.prog 105).isSome = true := by kernel_rfl
theorem zlr : zC Try.prog 99 = some ⟨Try.f99.body.getD .skip, 47, #[.cell 4 32]⟩ := by
 unfold zC
 rw [Try.func99]
 rfl
theorem bo99  : (zC Try.prog 99).isSome = true := by kernel_rfl
theorem zii : zC Try.prog 60 = some ⟨Try.f60.body.getD .skip, 17, #[.cell 4 32]⟩ := by
 unfold zC
 rw [Try.func60]
 rfl
theorem bo60  : (zC Try.prog 60).isSome = true := by kernel_rfl
theorem zv2 : zC Try.prog 64 = some ⟨Try.f64.body.getD .skip, 27, #[.cell 4 32, .tmp 5]⟩ := by
 unfold zC
 rw [Try.func64]
 rfl
theorem bo64  : (zC Try.prog 64).isSome = true := by kernel_rfl
theorem q0v  : (zC Try.prog 102).isSome = true := by kernel_rfl
theorem bo98  : (zC Try.prog 98).isSome = true := by kernel_rfl
theorem q0e : zC Try.prog 27 = some ⟨Try.f27.body.getD .skip, 10, #[.cell 4 3, .tmp 5]⟩ := by
 unfold zC
 rw [Try.func27]
 rfl
theorem bo27  : (zC Try.prog 27).isSome = true := by kernel_rfl
theorem zze : zC Try.prog 97 = some ⟨Try.f97.body.getD .skip, 45, #[.tmp 2, .tmp 3]⟩ := by
 unfold zC
 rw [Try.func97]
 rfl
theorem bo97  : (zC Try.prog 97).isSome = true := by kernel_rfl
theorem zrs : zC Try.prog 101 = some ⟨Try.f101.body.getD .skip, 29, #[.tmp 2, .tmp 3, .tmp 4]⟩ := by
 unfold zC
 rw [Try.func101]
 rfl
theorem q14  : (zC Try.prog 101).isSome = true := by kernel_rfl
theorem zs7 : zC Try.prog 113 = some ⟨Try.f113.body.getD .skip, 34, #[.tmp 2]⟩ := by
 unfold zC
 rw [Try.func113]
 rfl
theorem q1n  : (zC Try.prog 113).isSome = true := by kernel_rfl
theorem zvh : zC Try.prog 96 = some ⟨Try.f96.body.getD .skip, 36, #[.tmp 2]⟩ := by
 unfold zC
 rw [Try.func96]
 rfl
theorem bo96  : (zC Try.prog 96).isSome = true := by kernel_rfl
def ty :=
 And.intro @ff3 <|
 And.intro @ld3 <|
 And.intro @ld5 <|
 And.intro @ff9 <|
 And.intro @ld9 <|
 And.intro @ff25 <|
 And.intro @zz88 <|
 And.intro @q0z <|
 And.intro @lr88 <|
 And.intro @q0w <|
 And.intro @ld88 <|
 And.intro @zzy <|
 And.intro @zxb <|
 And.intro @q0b <|
 And.intro @zxj <|
 And.intro @zvm <|
 And.intro @zya <|
 And.intro @zz91 <|
 And.intro @ff91 <|
 And.intro @q10 <|
 And.intro @lr91 <|
 And.intro @q0f <|
 And.intro @q22 <|
 And.intro @q20 <|
 And.intro @ld91 <|
 And.intro @zxa <|
 And.intro @zx1 <|
 And.intro @zur <|
 And.intro @zyd <|
 And.intro @zye <|
 And.intro @zvb <|
 And.intro @zpe <|
 And.intro @zzk <|
 And.intro @q06 <|
 And.intro @zt5 <|
 And.intro @zuc <|
 And.intro @q01 <|
 And.intro @zx4 <|
 And.intro @ztw <|
 And.intro @znw <|
 And.intro @zvq <|
 And.intro @zwm <|
 And.intro @zq0 <|
 And.intro @zwt <|
 And.intro @zw9 <|
 And.intro @zym <|
 And.intro @zv8 <|
 And.intro @zts <|
 And.intro @zv3 <|
 And.intro @zz32 <|
 And.intro @ff32 <|
 And.intro @zgv <|
 And.intro @lr32 <|
 And.intro @q1y <|
 And.intro @sr32 <|
 And.intro @q1r <|
 And.intro @ld32 <|
 And.intro @zv6 <|
 And.intro @zw2 <|
 And.intro @zv7 <|
 And.intro @zx9 <|
 And.intro @zxy <|
 And.intro @q08 <|
 And.intro @zxw <|
 And.intro @zy0 <|
 And.intro @zyt <|
 And.intro @zwo <|
 And.intro @zz52 <|
 And.intro @q15 <|
 And.intro @q0l <|
 And.intro @q0p <|
 And.intro @zz44 <|
 And.intro @q24 <|
 And.intro @q0q <|
 And.intro @zzs <|
 And.intro @zw3 <|
 And.intro @zxt <|
 And.intro @zvu <|
 And.intro @zwy <|
 And.intro @zy8 <|
 And.intro @zyr <|
 And.intro @zvy <|
 And.intro @ff50 <|
 And.intro @lr50 <|
 And.intro @ld50 <|
 And.intro @zr9 <|
 And.intro @zwv <|
 And.intro @zw0 <|
 And.intro @zr3 <|
 And.intro @zza <|
 And.intro @zy3 <|
 And.intro @zqr <|
 And.intro @zzx <|
 And.intro @zr5 <|
 And.intro @zz0 <|
 And.intro @zqw <|
 And.intro @zvk <|
 And.intro @zyo <|
 And.intro @zvt <|
 And.intro @zwx <|
 And.intro @zz48 <|
 And.intro @ff48 <|
 And.intro @q1u <|
 And.intro @lr48 <|
 And.intro @q1z <|
 And.intro @zzg <|
 And.intro @zyq <|
 And.intro @zx6 <|
 And.intro @q0a <|
 And.intro @zy1 <|
 And.intro @zxr <|
 And.intro @bs29 <|
 And.intro @ix30 <|
 And.intro @q25 <|
 And.intro @bs30 <|
 And.intro @ix42 <|
 And.intro @q1w <|
 And.intro @bs42 <|
 And.intro @ix27 <|
 And.intro @q1m <|
 And.intro @bs27 <|
 And.intro @ix25 <|
 And.intro @q19 <|
 And.intro @ix22 <|
 And.intro @q0y <|
 And.intro @bs22 <|
 And.intro @q21 <|
 And.intro @zva <|
 And.intro @q1i <|
 And.intro @bo89 <|
 And.intro @bo65 <|
 And.intro @bo88 <|
 And.intro @bo91 <|
 And.intro @bo90 <|
 And.intro @bo92 <|
 And.intro @bo62 <|
 And.intro @bo28 <|
 And.intro @bo30 <|
 And.intro @bo32 <|
 And.intro @bo46 <|
 And.intro @bo47 <|
 And.intro @bo48 <|
 And.intro @bo49 <|
 And.intro @bo50 <|
 And.intro @bo51 <|
 And.intro @bo52 <|
 And.intro @bo21 <|
 And.intro @bo18 <|
 And.intro @bo67 <|
 And.intro @bo87 <|
 And.intro @bo61 <|
 And.intro @q1a <|
 And.intro @q1k <|
 And.intro @bo93 <|
 And.intro @bo94 <|
 And.intro @bo45 <|
 And.intro @bo10 <|
 And.intro @bo13 <|
 And.intro @bo12 <|
 And.intro @bo20 <|
 And.intro @bo40 <|
 And.intro @bo66 <|
 And.intro @q1g <|
 And.intro @bo99 <|
 And.intro @bo60 <|
 And.intro @bo64 <|
 And.intro @q0v <|
 And.intro @bo98 <|
 And.intro @bo27 <|
 And.intro @bo97 <|
 And.intro @q14 <|
 And.intro @q1n @bo96
def ga :=
 And.intro @vme <| And.intro @vmb <| And.intro @ty <| And.intro hP <| And.intro @q26 <| And.intro @q27 <| And.intro @wrap64 <| And.intro @List.length_map.{0,0} Int.toNat_natCast
def gb :=
 And.intro ga <| And.intro @List.cons_append.{0} <| And.intro @List.nil_append.{0} <| And.intro @Option.map_some.{0,0} <| And.intro @Option.map_none.{0,0} <| And.intro @z3x <| And.intro @zkj vmg
def uZ (l : List V) : List V := (.tup []) :: (.tup []) :: (.tup []) :: (.tup []) :: (.tup []) :: (.tup []) :: (.tup []) :: (.tup []) :: (.tup []) :: (.tup []) :: l
theorem zxi (t : List Node) (ino : Int) (hl : t.length < 1000000) (R : Post) (g4 : V) : ∀ (k i : Nat) (xs : List Node) (S : zA) (v5 g7 g8 g9 gH gO gI gD gA gE gF gG gB gC gJ gK gN gL gM gP gQ gU : V),
 t.length - i = k → i ≤ t.length → OwnS S v5 91 (xs.map fun n => .d (zB n)) → xs = (t.take i).filter (fun n => n.ino ≠ ino) →
 (∀ S v5 i g7 g8 g9 gH gO gI gD gA gE gF gG gB gC gJ gK gN gL gM gP gQ gU, OwnS S v5 91 ((t.filter (fun n => n.ino ≠ ino)).map fun n => .d (zB n)) → R (.exit 0) ((.d (.sl (t.map zB))) :: (.d (.int .i64 ino)) :: (.tup []) :: (.tup []) :: g4 :: v5 :: i :: g7 :: g8 :: g9 :: gH :: gO :: gI :: gD :: gA :: gE :: gF :: gG :: gB :: gC :: gJ :: gK :: gN :: gL :: gM :: gP :: gQ :: gU :: []) S []) →
 Wp cfg (.loop (lpOf (Try.f112.body.getD .skip) 0)) ((.d (.sl (t.map zB))) :: (.d (.int .i64 ino)) :: (.tup []) :: (.tup []) :: g4 :: v5 :: (.d (.int .i64 i)) :: g7 :: g8 :: g9 :: gH :: gO :: gI :: gD :: gA :: gE :: gF :: gG :: gB :: gC :: gJ :: gK :: gN :: gL :: gM :: gP :: gQ :: gU :: []) S [] R := by
 intro k
 induction k with
 | zero =>
  intro i xs S v5 g7 g8 g9 gH gO gI gD gA gE gF gG gB gC gJ gK gN gL gM gP gQ gU hk hi ho hx hR
  have hie : i = t.length := by omega
  subst hie
  rw [qL]
  refine zU ?_
  conv => arg 2; whnf
  simp (maxSteps:=1000000) (disch:=first|assumption|omega|rfl) only [↓vmp, ga, Nat.reduceAdd]
  rw [List.take_length] at hx
  subst hx
  exact hR _ _ _ _ _ _ _ _ _ _ _ _ _ _ _ _ _ _ _ _ _ _ _ _ ho
 | succ k ih =>
  intro i xs S v5 g7 g8 g9 gH gO gI gD gA gE gF gG gB gC gJ gK gN gL gM gP gQ gU hk hi ho hx hR
  have hlt : i < t.length := by omega
  have htk : t.take (i + 1) = t.take i ++ [t[i]] := by rw [List.take_succ_eq_append_getElem hlt]
  rw [qL]
  refine zU ?_
  conv => arg 2; whnf
  by_cases hc : t[i].ino ≠ ino
  ·have hxl : xs.length ≤ i := by rw [hx]; exact Nat.le_trans (List.length_filter_le _ _) (by simp; omega)
   obtain ⟨v', S', c, ha, ho', hfr, hlen⟩ := ap27 t[i] ho (by omega)
   simp (maxSteps:=1000000) (disch:=first|assumption|omega|rfl) only [↓vmp, ga, Nat.reduceAdd, ha]
   exact ih (i + 1) (xs ++ [t[i]]) S' v' _ _ _ _ _ _ _ _ _ _ _ _ _ _ _ _ _ _ _ _ _ (by omega) (by omega) ho' (by rw [htk, List.filter_append, hx]; simp [hc]) hR
  ·simp (maxSteps:=1000000) (disch:=first|assumption|omega|rfl) only [↓vmp, ga, Nat.reduceAdd]
   exact ih (i + 1) xs S v5 _ _ _ _ _ _ _ _ _ _ _ _ _ _ _ _ _ _ _ _ _ (by omega) (by omega) ho (by rw [htk, List.filter_append, hx]; simp [hc]) hR
theorem zsl (t : List Node) (ino : Int) (hl : t.length < 1000000) : Ev cfg 112 [.sl (t.map zB), .int .i64 ino] (.ret (.d (.sl ((t.filter (fun n => n.ino ≠ ino)).map zB)))) := by
 refine kR rfl rfl zrr ?_
 show Wp cfg (Try.f112.body.getD .skip) ((.d (.sl (t.map zB))) :: (.d (.int .i64 ino)) :: uZ (uZ ((.tup []) :: (.tup []) :: (.tup []) :: (.tup []) :: (.tup []) :: (.tup []) :: []))) [] [] _
 unfold uZ
 conv => arg 2; whnf
 simp (maxSteps:=1000000) (disch:=first|assumption|omega|rfl) only [↓vmp, ga, Nat.reduceAdd]
 refine zxi t ino hl _ _ t.length 0 [] [] _ _ _ _ _ _ _ _ _ _ _ _ _ _ _ _ _ _ _ _ _ _ rfl (by omega) OwnS.nil rfl ?_
 intro S v5 i g7 g8 g9 gH gO gI gD gA gE gF gG gB gC gJ gK gN gL gM gP gQ gU ho
 simp (maxSteps:=1000000) (disch:=first|assumption|omega|rfl) only [↓vmp, ga, Nat.reduceAdd]
 exact zM rfl (z2j ho) (z4t ho)
def wL (n : Node) : Bool → List Node → List Node
 | put, [] => if put then [] else [n]
 | put, x :: r => (if put = false ∧ n.ino ≤ x.ino then [n] else []) ++ (if x.ino ≠ n.ino then [x] else []) ++ wL n (put || decide (n.ino ≤ x.ino)) r
def qR (t : List Node) (n : Node) : List Node := wL n false t
theorem zzc (t : List Node) (n : Node) (hl : t.length < 400000) (R : Post) (g4 : V) : ∀ (k i : Nat) (put : Bool) (xs : List Node) (S : zA) (v5 g8 g9 gH gO gI gD gA gE gF gG gB gC gJ gK gN gL gM gP gQ gU gR gS gT gV gW gX gY gZ gf gg gh gi gj gk gm gn gr gz hC xA hH hJ hY hZ : V),
 t.length - i = k → i ≤ t.length → xs.length ≤ 2 * i → OwnS S v5 91 (xs.map fun n => .d (zB n)) → S[0]? = some (.row [.d (zB n)] 91) → NotAt v5 0 →
 (∀ S v5 put' xs' g8 g9 gH gO gI gD gA gE gF gG gB gC gJ gK gN gL gM gP gQ gU gR gS gT gV gW gX gY gZ gf gg gh gi gj gk gm gn gr gz hC xA hH hJ hY hZ, xs'.length ≤ 2 * t.length → OwnS S v5 91 (xs'.map fun n => .d (zB n)) → xs' ++ (if put' then [] else [n]) = xs ++ wL n put (t.drop i) → S[0]? = some (.row [.d (zB n)] 91) → NotAt v5 0 → R (.exit 0) ((.d (.sl (t.map zB))) :: (.d (zB n)) :: (.tup []) :: (.ref 0 0 0) :: g4 :: v5 :: (.d (.bool put')) :: (.d (.int .i64 t.length)) :: g8 :: g9 :: gH :: gO :: gI :: gD :: gA :: gE :: gF :: gG :: gB :: gC :: gJ :: gK :: gN :: gL :: gM :: gP :: gQ :: gU :: gR :: gS :: gT :: gV :: gW :: gX :: gY :: gZ :: gf :: gg :: gh :: gi :: gj :: gk :: gm :: gn :: gr :: gz :: hC :: xA :: hH :: hJ :: hY :: hZ :: []) S []) →
 Wp cfg (.loop (lpOf (Try.f89.body.getD .skip) 0)) ((.d (.sl (t.map zB))) :: (.d (zB n)) :: (.tup []) :: (.ref 0 0 0) :: g4 :: v5 :: (.d (.bool put)) :: (.d (.int .i64 i)) :: g8 :: g9 :: gH :: gO :: gI :: gD :: gA :: gE :: gF :: gG :: gB :: gC :: gJ :: gK :: gN :: gL :: gM :: gP :: gQ :: gU :: gR :: gS :: gT :: gV :: gW :: gX :: gY :: gZ :: gf :: gg :: gh :: gi :: gj :: gk :: gm :: gn :: gr :: gz :: hC :: xA :: hH :: hJ :: hY :: hZ :: []) S [] R := by
 intro k
 induction k with
 | zero =>
  intro i put xs S v5 g8 g9 gH gO gI gD gA gE gF gG gB gC gJ gK gN gL gM gP gQ gU gR gS gT gV gW gX gY gZ gf gg gh gi gj gk gm gn gr gz hC xA hH hJ hY hZ hk hi hxl ho hb hna hR
  have hie : i = t.length := by omega
  subst hie
  rw [qL]
  refine zU ?_
  conv => arg 2; whnf
  simp (maxSteps:=1000000) (disch:=first|assumption|omega|rfl) only [↓vmp, ga, Nat.reduceAdd]
  exact hR _ _ put xs _ _ _ _ _ _ _ _ _ _ _ _ _ _ _ _ _ _ _ _ _ _ _ _ _ _ _ _ _ _ _ _ _ _ _ _ _ _ _ _ _ _ _ _ (by omega) ho (by rw [List.drop_length]; rfl) hb hna
 | succ k ih =>
  intro i put xs S v5 g8 g9 gH gO gI gD gA gE gF gG gB gC gJ gK gN gL gM gP gQ gU gR gS gT gV gW gX gY gZ gf gg gh gi gj gk gm gn gr gz hC xA hH hJ hY hZ hk hi hxl ho hb hna hR
  have hlt : i < t.length := by omega
  have hr : rowE S 0 0 = some (.d (zB n)) := zF hb
  have hdr : t.drop i = t[i] :: t.drop (i + 1) := List.drop_eq_getElem_cons hlt
  rw [hdr] at hR
  rw [qL]
  refine zU ?_
  conv => arg 2; whnf
  simp (maxSteps:=1000000) (disch:=first|assumption|omega|rfl) only [↓vmp, ga, Nat.reduceAdd]
  refine qT (is := [0, 1, 2, 3, 4, 5, 6, 7, 8, 9, 10, 11]) (h := 0) (by kernel_rfl) (by kernel_rfl) ?_
  cases put with
  | true =>
   simp (maxSteps:=1000000) (disch:=first|assumption|omega|rfl) only [List.replicate_zero, eq_self, vmd, vmk, vmo, vmg, ga, Nat.reduceAdd, hr]
   refine ⟨by kernel_rfl, ?_⟩
   simp (maxSteps:=1000000) (disch:=first|assumption|omega|rfl) only [↓vmp, ga, Nat.reduceAdd]
   refine qT (is := [0, 1, 2, 3, 4, 5, 6, 7]) (h := 0) (by kernel_rfl) (by kernel_rfl) ?_
   by_cases h2 : t[i].ino ≠ n.ino
   ·obtain ⟨v', S', c, ha, ho', hfr, hlen⟩ := ap27 t[i] ho (by omega)
    obtain ⟨hb', hna'⟩ := hfr _ _ hb hna
    simp (maxSteps:=1000000) (disch:=first|assumption|omega|rfl) only [List.replicate_zero, eq_self, vmd, vmk, vmo, vmg, ga, Nat.reduceAdd, hr]
    refine ⟨by kernel_rfl, ?_⟩
    simp (maxSteps:=1000000) (disch:=first|assumption|omega|rfl) only [↓vmp, ga, Nat.reduceAdd, ha]
    exact ih (i + 1) true (xs ++ [t[i]]) S' v' _ _ _ _ _ _ _ _ _ _ _ _ _ _ _ _ _ _ _ _ _ _ _ _ _ _ _ _ _ _ _ _ _ _ _ _ _ _ _ _ _ _ _ _ (by omega) (by omega) (by simp; omega) ho' hb' hna' (fun S v5 put' xs' g8 g9 gH gO gI gD gA gE gF gG gB gC gJ gK gN gL gM gP gQ gU gR gS gT gV gW gX gY gZ gf gg gh gi gj gk gm gn gr gz hC xA hH hJ hY hZ a1 a2 a3 a4 a5 => hR S v5 put' xs' g8 g9 gH gO gI gD gA gE gF gG gB gC gJ gK gN gL gM gP gQ gU gR gS gT gV gW gX gY gZ gf gg gh gi gj gk gm gn gr gz hC xA hH hJ hY hZ a1 a2 (by rw [a3]; simp [wL, h2]) a4 a5)
   ·simp (maxSteps:=1000000) (disch:=first|assumption|omega|rfl) only [List.replicate_zero, eq_self, vmd, vmk, vmo, vmg, ga, Nat.reduceAdd, hr]
    refine ⟨by kernel_rfl, ?_⟩
    simp (maxSteps:=1000000) (disch:=first|assumption|omega|rfl) only [↓vmp, ga, Nat.reduceAdd]
    exact ih (i + 1) true xs S v5 _ _ _ _ _ _ _ _ _ _ _ _ _ _ _ _ _ _ _ _ _ _ _ _ _ _ _ _ _ _ _ _ _ _ _ _ _ _ _ _ _ _ _ _ (by omega) (by omega) (by omega) ho hb hna (fun S v5 put' xs' g8 g9 gH gO gI gD gA gE gF gG gB gC gJ gK gN gL gM gP gQ gU gR gS gT gV gW gX gY gZ gf gg gh gi gj gk gm gn gr gz hC xA hH hJ hY hZ a1 a2 a3 a4 a5 => hR S v5 put' xs' g8 g9 gH gO gI gD gA gE gF gG gB gC gJ gK gN gL gM gP gQ gU gR gS gT gV gW gX gY gZ gf gg gh gi gj gk gm gn gr gz hC xA hH hJ hY hZ a1 a2 (by rw [a3]; simp [wL, h2]) a4 a5)
  | false =>
   by_cases h1 : n.ino ≤ t[i].ino
   ·obtain ⟨v', S', c, ha, ho', hfr, hlen⟩ := ap27 n ho (by omega)
    obtain ⟨hb', hna'⟩ := hfr _ _ hb hna
    have hr' : rowE S' 0 0 = some (.d (zB n)) := zF hb'
    simp (maxSteps:=1000000) (disch:=first|assumption|omega|rfl) only [List.replicate_zero, eq_self, vmd, vmk, vmo, vmg, ga, Nat.reduceAdd, hr]
    refine ⟨by kernel_rfl, ?_⟩
    simp (maxSteps:=1000000) (disch:=first|assumption|omega|rfl) only [↓vmp, ga, Nat.reduceAdd, hr, ha]
    refine qT (is := [0, 1, 2, 3, 4, 5, 6, 7]) (h := 0) (by kernel_rfl) (by kernel_rfl) ?_
    by_cases h2 : t[i].ino ≠ n.ino
    ·obtain ⟨v2, S2, c2, ha2, ho2, hfr2, hlen2⟩ := ap27 t[i] ho' (by simp; omega)
     obtain ⟨hb2, hna2⟩ := hfr2 _ _ hb' hna'
     simp (maxSteps:=1000000) (disch:=first|assumption|omega|rfl) only [List.replicate_zero, eq_self, vmd, vmk, vmo, vmg, ga, Nat.reduceAdd, hr']
     refine ⟨by kernel_rfl, ?_⟩
     simp (maxSteps:=1000000) (disch:=first|assumption|omega|rfl) only [↓vmp, ga, Nat.reduceAdd, ha2]
     exact ih (i + 1) true (xs ++ [n] ++ [t[i]]) S2 v2 _ _ _ _ _ _ _ _ _ _ _ _ _ _ _ _ _ _ _ _ _ _ _ _ _ _ _ _ _ _ _ _ _ _ _ _ _ _ _ _ _ _ _ _ (by omega) (by omega) (by simp; omega) ho2 hb2 hna2 (fun S v5 put' xs' g8 g9 gH gO gI gD gA gE gF gG gB gC gJ gK gN gL gM gP gQ gU gR gS gT gV gW gX gY gZ gf gg gh gi gj gk gm gn gr gz hC xA hH hJ hY hZ a1 a2 a3 a4 a5 => hR S v5 put' xs' g8 g9 gH gO gI gD gA gE gF gG gB gC gJ gK gN gL gM gP gQ gU gR gS gT gV gW gX gY gZ gf gg gh gi gj gk gm gn gr gz hC xA hH hJ hY hZ a1 a2 (by rw [a3]; simp [wL, h1, h2]) a4 a5)
    ·simp (maxSteps:=1000000) (disch:=first|assumption|omega|rfl) only [List.replicate_zero, eq_self, vmd, vmk, vmo, vmg, ga, Nat.reduceAdd, hr']
     refine ⟨by kernel_rfl, ?_⟩
     simp (maxSteps:=1000000) (disch:=first|assumption|omega|rfl) only [↓vmp, ga, Nat.reduceAdd]
     exact ih (i + 1) true (xs ++ [n]) S' v' _ _ _ _ _ _ _ _ _ _ _ _ _ _ _ _ _ _ _ _ _ _ _ _ _ _ _ _ _ _ _ _ _ _ _ _ _ _ _ _ _ _ _ _ (by omega) (by omega) (by simp; omega) ho' hb' hna' (fun S v5 put' xs' g8 g9 gH gO gI gD gA gE gF gG gB gC gJ gK gN gL gM gP gQ gU gR gS gT gV gW gX gY gZ gf gg gh gi gj gk gm gn gr gz hC xA hH hJ hY hZ a1 a2 a3 a4 a5 => hR S v5 put' xs' g8 g9 gH gO gI gD gA gE gF gG gB gC gJ gK gN gL gM gP gQ gU gR gS gT gV gW gX gY gZ gf gg gh gi gj gk gm gn gr gz hC xA hH hJ hY hZ a1 a2 (by rw [a3]; simp [wL, h1, h2]) a4 a5)
   ·have h2 : t[i].ino ≠ n.ino := by omega
    obtain ⟨v', S', c, ha, ho', hfr, hlen⟩ := ap27 t[i] ho (by omega)
    obtain ⟨hb', hna'⟩ := hfr _ _ hb hna
    simp (maxSteps:=1000000) (disch:=first|assumption|omega|rfl) only [List.replicate_zero, eq_self, vmd, vmk, vmo, vmg, ga, Nat.reduceAdd, hr]
    refine ⟨by kernel_rfl, ?_⟩
    simp (maxSteps:=1000000) (disch:=first|assumption|omega|rfl) only [↓vmp, ga, Nat.reduceAdd]
    refine qT (is := [0, 1, 2, 3, 4, 5, 6, 7]) (h := 0) (by kernel_rfl) (by kernel_rfl) ?_
    simp (maxSteps:=1000000) (disch:=first|assumption|omega|rfl) only [List.replicate_zero, eq_self, vmd, vmk, vmo, vmg, ga, Nat.reduceAdd, hr]
    refine ⟨by kernel_rfl, ?_⟩
    simp (maxSteps:=1000000) (disch:=first|assumption|omega|rfl) only [↓vmp, ga, Nat.reduceAdd, ha]
    exact ih (i + 1) false (xs ++ [t[i]]) S' v' _ _ _ _ _ _ _ _ _ _ _ _ _ _ _ _ _ _ _ _ _ _ _ _ _ _ _ _ _ _ _ _ _ _ _ _ _ _ _ _ _ _ _ _ (by omega) (by omega) (by simp; omega) ho' hb' hna' (fun S v5 put' xs' g8 g9 gH gO gI gD gA gE gF gG gB gC gJ gK gN gL gM gP gQ gU gR gS gT gV gW gX gY gZ gf gg gh gi gj gk gm gn gr gz hC xA hH hJ hY hZ a1 a2 a3 a4 a5 => hR S v5 put' xs' g8 g9 gH gO gI gD gA gE gF gG gB gC gJ gK gN gL gM gP gQ gU gR gS gT gV gW gX gY gZ gf gg gh gi gj gk gm gn gr gz hC xA hH hJ hY hZ a1 a2 (by rw [a3]; simp [wL, h1, h2]) a4 a5)
theorem z9f (t : List Node) (n : Node) (hl : t.length < 400000) : Ev cfg 89 [.sl (t.map zB), zB n] (.ret (.d (.sl ((qR t n).map zB)))) := by
 refine kR rfl rfl zwj ?_
 show Wp cfg (Try.f89.body.getD .skip) ((.d (.sl (t.map zB))) :: (.d (zB n)) :: uZ (uZ (uZ (uZ (uZ []))))) [] [] _
 unfold uZ
 conv => arg 2; whnf
 simp (maxSteps:=1000000) (disch:=first|assumption|omega|rfl) only [↓vmp, ga, Nat.reduceAdd]
 refine zzc t n hl _ _ t.length 0 false [] _ _ _ _ _ _ _ _ _ _ _ _ _ _ _ _ _ _ _ _ _ _ _ _ _ _ _ _ _ _ _ _ _ _ _ _ _ _ _ _ _ _ _ _ _ _ rfl (by omega) (by simp) OwnS.nil rfl NotAt.ts ?_
 intro S v5 put' xs' g8 g9 gH gO gI gD gA gE gF gG gB gC gJ gK gN gL gM gP gQ gU gR gS gT gV gW gX gY gZ gf gg gh gi gj gk gm gn gr gz hC xA hH hJ hY hZ hxl ho hx hb hna
 have hr : rowE S 0 0 = some (.d (zB n)) := zF hb
 rw [List.nil_append, List.drop_zero] at hx
 change _ = qR t n at hx
 cases put' with
 | true =>
  simp (maxSteps:=1000000) (disch:=first|assumption|omega|rfl) only [↓vmp, ga, Nat.reduceAdd]
  rw [← hx]
  simp only [if_true, List.append_nil]
  exact zM rfl (z2j ho) (z4t ho)
 | false =>
  obtain ⟨v', S', c, ha, ho', hfr, hlen⟩ := ap27 n ho (by omega)
  simp (maxSteps:=1000000) (disch:=first|assumption|omega|rfl) only [↓vmp, ga, Nat.reduceAdd, hr, ha]
  rw [← hx]
  exact zM rfl (z2j ho') (z4t ho')
def jH (ino : Int) : Nat → List Node → Int
 | _, [] => -1
 | i, x :: r => if x.ino = ino then (i : Int) else jH ino (i + 1) r
theorem z0k (ino : Int) : ∀ (l : List Node) (i : Nat), (l.find? (fun n => decide (n.ino = ino)) = none ∧ jH ino i l = -1) ∨ ∃ (k : Nat) (hk : k < l.length), jH ino i l = ((i + k : Nat) : Int) ∧ l.find? (fun n => decide (n.ino = ino)) = some l[k]
 | [], i => .inl ⟨rfl, rfl⟩
 | x :: r, i => by
  by_cases h : x.ino = ino
  ·exact .inr ⟨0, by simp, by simp [jH, h], by simp [h]⟩
  ·rcases z0k ino r (i + 1) with ⟨h1, h2⟩ | ⟨k, hk, h1, h2⟩
   ·exact .inl ⟨by simp [h, h1], by simp [jH, h, h2]⟩
   ·exact .inr ⟨k + 1, by simp; omega, by simp [jH, h, h1]; omega, by simp [h, h2]⟩
theorem zz5 (t : List Node) (ino : Int) (hl : t.length < 1000000) (R : Post) (S : zA) (g4 : V) : ∀ (k i : Nat) (g6 g7 g8 g9 gH gO gI gD gA gE gF gG gB gC : V), t.length - i = k → i ≤ t.length →
 (∀ g6 g7 g8 g9 gH gO gI gD gA gE gF gG gB gC, jH ino i (t.drop i) = -1 → R (.exit 0) ((.d (.sl (t.map zB))) :: (.d (.int .i64 ino)) :: (.tup []) :: (.tup []) :: g4 :: (.d (.int .i64 t.length)) :: g6 :: g7 :: g8 :: g9 :: gH :: gO :: gI :: gD :: gA :: gE :: gF :: gG :: gB :: gC :: []) S []) →
 (∀ v5 g6 g7 g8 g9 gH gO gI gD gA gE gF gG gB gC, R .ret ((.d (.sl (t.map zB))) :: (.d (.int .i64 ino)) :: (.tup []) :: (.tup []) :: (.d (.int .i64 (jH ino i (t.drop i)))) :: v5 :: g6 :: g7 :: g8 :: g9 :: gH :: gO :: gI :: gD :: gA :: gE :: gF :: gG :: gB :: gC :: []) S []) →
 Wp cfg (.loop (lpOf (Try.f67.body.getD .skip) 0)) ((.d (.sl (t.map zB))) :: (.d (.int .i64 ino)) :: (.tup []) :: (.tup []) :: g4 :: (.d (.int .i64 i)) :: g6 :: g7 :: g8 :: g9 :: gH :: gO :: gI :: gD :: gA :: gE :: gF :: gG :: gB :: gC :: []) S [] R := by
 intro k
 induction k with
 | zero =>
  intro i g6 g7 g8 g9 gH gO gI gD gA gE gF gG gB gC hk hi hE hR
  have hie : i = t.length := by omega
  subst hie
  rw [qL]
  refine zU ?_
  conv => arg 2; whnf
  simp (maxSteps:=1000000) (disch:=first|assumption|omega|rfl) only [↓vmp, ga, Nat.reduceAdd]
  exact hE _ _ _ _ _ _ _ _ _ _ _ _ _ _ (by rw [List.drop_length]; rfl)
 | succ k ih =>
  intro i g6 g7 g8 g9 gH gO gI gD gA gE gF gG gB gC hk hi hE hR
  have hlt : i < t.length := by omega
  have hdr : t.drop i = t[i] :: t.drop (i + 1) := List.drop_eq_getElem_cons hlt
  rw [hdr] at hE hR
  rw [qL]
  refine zU ?_
  conv => arg 2; whnf
  by_cases hc : t[i].ino = ino
  ·simp (maxSteps:=1000000) (disch:=first|assumption|omega|rfl) only [↓vmp, ga, Nat.reduceAdd]
   simp only [jH, hc, if_true] at hR
   exact hR _ _ _ _ _ _ _ _ _ _ _ _ _ _ _
  ·simp (maxSteps:=1000000) (disch:=first|assumption|omega|rfl) only [↓vmp, ga, Nat.reduceAdd]
   simp only [jH, hc, if_false] at hE hR
   exact ih (i + 1) _ _ _ _ _ _ _ _ _ _ _ _ _ _ (by omega) (by omega) hE hR
theorem zsp (t : List Node) (ino : Int) (hl : t.length < 1000000) : Ev cfg 67 [.sl (t.map zB), .int .i64 ino] (.ret (.d (.int .i64 (jH ino 0 t)))) := by
 refine kR rfl rfl zxs ?_
 show Wp cfg (Try.f67.body.getD .skip) ((.d (.sl (t.map zB))) :: (.d (.int .i64 ino)) :: uZ ((.tup []) :: (.tup []) :: (.tup []) :: (.tup []) :: (.tup []) :: (.tup []) :: (.tup []) :: (.tup []) :: [])) [] [] _
 unfold uZ
 conv => arg 2; whnf
 simp (maxSteps:=1000000) (disch:=first|assumption|omega|rfl) only [↓vmp, ga, Nat.reduceAdd]
 refine zz5 t ino hl _ _ _ t.length 0 _ _ _ _ _ _ _ _ _ _ _ _ _ _ rfl (by omega) ?_ ?_
 ·intro g6 g7 g8 g9 gH gO gI gD gA gE gF gG gB gC h
  rw [List.drop_zero] at h
  rw [h]
  simp (maxSteps:=1000000) (disch:=first|assumption|omega|rfl) only [↓vmp, ga, Nat.reduceAdd]
  exact zM rfl rfl rfl
 ·intro v5 g6 g7 g8 g9 gH gO gI gD gA gE gF gG gB gC
  simp (maxSteps:=1000000) (disch:=first|assumption|omega|rfl) only [↓vmp, ga, Nat.reduceAdd]
  exact zM rfl rfl rfl
theorem z4f {ops : Array Oper} {dst : Option Tmp} {l : List Oper} {T : List V} {S : zA} {F : Dfs} {Q : Post} {t : List Node} {ino : Int} (hl : t.length < 1000000) :
  WpR cfg ops dst l T S F Q (some (.enter 67 [.d (.sl (t.map zB)), .d (.int .i64 ino)])) = WpL cfg ops l (putT T dst (.d (.int .i64 (jH ino 0 t)))) S F Q :=
 zV (ds := [.sl (t.map zB), .int .i64 ino]) rfl (zsp t ino hl)
def zN : Node := ⟨0, 0, 0, 0, 0, [], []⟩
def getN (t : List Node) (ino : Int) : Node := (t.find? (fun n => decide (n.ino = ino))).getD zN
theorem zqu (t : List Node) (ino : Int) (hl : t.length < 1000000) : Ev cfg 65 [.sl (t.map zB), .int .i64 ino] (.ret (.d (zB (getN t ino)))) := by
 refine kR rfl rfl zyu ?_
 show Wp cfg (Try.f65.body.getD .skip) ((.d (.sl (t.map zB))) :: (.d (.int .i64 ino)) :: uZ ((.tup []) :: (.tup []) :: (.tup []) :: (.tup []) :: [])) [] [] _
 unfold uZ
 conv => arg 2; whnf
 have hb : z05 Try.prog 91 [] = some (.agg [.d (.int .i64 0), .d (.int .i64 0), .d (.int .i64 0), .d (.int .i64 0), .d (.int .i64 0), .ts [], .ts []]) := by kernel_rfl
 rcases z0k ino t 0 with ⟨h1, h2⟩ | ⟨k, hk, h1, h2⟩
 ·simp (maxSteps:=1000000) (disch:=first|assumption|omega|rfl) only [↓vmp, ga, Nat.reduceAdd, z4f, h2, hb]
  refine vO rfl (v := .agg [.d (.int .i64 0), .d (.int .i64 0), .d (.int .i64 0), .d (.int .i64 0), .d (.int .i64 0), .ts [], .ts []]) (by kernel_rfl) rfl ?_
  simp only [getN, h1, Option.getD_none]
  rfl
 ·rw [Nat.zero_add] at h1
  simp (maxSteps:=1000000) (disch:=first|assumption|omega|rfl) only [↓vmp, ga, Nat.reduceAdd, z4f, h1, hb]
  refine vO rfl (v := .d (zB t[k])) (by kernel_rfl) rfl ?_
  simp only [getN, h2, Option.getD_some]
  rfl
theorem jS {ops : Array Oper} {dst : Option Tmp} {l : List Oper} {T : List V} {S : zA} {F : Dfs} {Q : Post} {t : List Node} {ino : Int} (hl : t.length < 1000000) :
  WpR cfg ops dst l T S F Q (some (.enter 65 [.d (.sl (t.map zB)), .d (.int .i64 ino)])) = WpL cfg ops l (putT T dst (.d (zB (getN t ino)))) S F Q :=
 zV (ds := [.sl (t.map zB), .int .i64 ino]) rfl (zqu t ino hl)
def qE (l : List Ent) (s : List UInt8) : Int := match l.find? (fun e => decide (e.name = s)) with | some e => e.ino | none => -1
theorem zdl {x : Ent} {r : List Ent} {s : List UInt8} (h : x.name = s) : qE (x :: r) s = x.ino := by simp [qE, h]
theorem zac {x : Ent} {r : List Ent} {s : List UInt8} (h : ¬ x.name = s) : qE (x :: r) s = qE r s := by simp [qE, h]
theorem zvr (n : Node) (s : List UInt8) (hl : n.names.length < 1000000) (R : Post) (g4 : V) : ∀ (k i : Nat) (g6 g7 g8 g9 gH gO gI gD gA gE gF gG gB gC gJ gK gN gL gM gP gQ : V), n.names.length - i = k → i ≤ n.names.length →
 (∀ g6 g7 g8 g9 gH gO gI gD gA gE gF gG gB gC gJ gK gN gL gM gP gQ, qE (n.names.drop i) s = -1 → R (.exit 0) ((.d (zB n)) :: (.d (.str s)) :: (.ref 0 0 0) :: (.tup []) :: g4 :: (.d (.int .i64 n.names.length)) :: g6 :: g7 :: g8 :: g9 :: gH :: gO :: gI :: gD :: gA :: gE :: gF :: gG :: gB :: gC :: gJ :: gK :: gN :: gL :: gM :: gP :: gQ :: []) [.row [.d (zB n)] 91] []) →
 (∀ v5 g6 g7 g8 g9 gH gO gI gD gA gE gF gG gB gC gJ gK gN gL gM gP gQ, R .ret ((.d (zB n)) :: (.d (.str s)) :: (.ref 0 0 0) :: (.tup []) :: (.d (.int .i64 (qE (n.names.drop i) s))) :: v5 :: g6 :: g7 :: g8 :: g9 :: gH :: gO :: gI :: gD :: gA :: gE :: gF :: gG :: gB :: gC :: gJ :: gK :: gN :: gL :: gM :: gP :: gQ :: []) [.row [.d (zB n)] 91] []) →
 Wp cfg (.loop (lpOf (Try.f87.body.getD .skip) 0)) ((.d (zB n)) :: (.d (.str s)) :: (.ref 0 0 0) :: (.tup []) :: g4 :: (.d (.int .i64 i)) :: g6 :: g7 :: g8 :: g9 :: gH :: gO :: gI :: gD :: gA :: gE :: gF :: gG :: gB :: gC :: gJ :: gK :: gN :: gL :: gM :: gP :: gQ :: []) [.row [.d (zB n)] 91] [] R := by
 intro k
 induction k with
 | zero =>
  intro i g6 g7 g8 g9 gH gO gI gD gA gE gF gG gB gC gJ gK gN gL gM gP gQ hk hi hE hR
  have hie : i = n.names.length := by omega
  subst hie
  rw [qL]
  refine zU ?_
  conv => arg 2; whnf
  simp (maxSteps:=1000000) (disch:=first|assumption|omega|rfl) only [↓vmp, ga, Nat.reduceAdd]
  exact hE _ _ _ _ _ _ _ _ _ _ _ _ _ _ _ _ _ _ _ _ _ (by rw [List.drop_length]; rfl)
 | succ k ih =>
  intro i g6 g7 g8 g9 gH gO gI gD gA gE gF gG gB gC gJ gK gN gL gM gP gQ hk hi hE hR
  have hlt : i < n.names.length := by omega
  have hdr : n.names.drop i = n.names[i] :: n.names.drop (i + 1) := List.drop_eq_getElem_cons hlt
  rw [hdr] at hE hR
  rw [qL]
  refine zU ?_
  conv => arg 2; whnf
  by_cases hc : n.names[i].name = s
  ·simp (maxSteps:=1000000) (disch:=first|assumption|omega|rfl) only [↓vmp, ga, Nat.reduceAdd, z3x]
   rw [zdl hc] at hR
   exact hR _ _ _ _ _ _ _ _ _ _ _ _ _ _ _ _ _ _ _ _ _ _
  ·simp (maxSteps:=1000000) (disch:=first|assumption|omega|rfl) only [↓vmp, ga, Nat.reduceAdd, z3x]
   rw [zac hc] at hE hR
   exact ih (i + 1) _ _ _ _ _ _ _ _ _ _ _ _ _ _ _ _ _ _ _ _ _ (by omega) (by omega) hE hR
theorem zkt (n : Node) (s : List UInt8) (hl : n.names.length < 1000000) : Ev cfg 87 [zB n, .str s] (.ret (.d (.int .i64 (qE n.names s)))) := by
 refine kR rfl rfl zy7 ?_
 show Wp cfg (Try.f87.body.getD .skip) ((.d (zB n)) :: (.d (.str s)) :: uZ (uZ ((.tup []) :: (.tup []) :: (.tup []) :: (.tup []) :: (.tup []) :: []))) [] [] _
 unfold uZ
 conv => arg 2; whnf
 simp (maxSteps:=1000000) (disch:=first|assumption|omega|rfl) only [↓vmp, ga, Nat.reduceAdd]
 refine zvr n s hl _ _ n.names.length 0 _ _ _ _ _ _ _ _ _ _ _ _ _ _ _ _ _ _ _ _ _ rfl (by omega) ?_ ?_
 ·intro g6 g7 g8 g9 gH gO gI gD gA gE gF gG gB gC gJ gK gN gL gM gP gQ h
  rw [List.drop_zero] at h
  rw [h]
  simp (maxSteps:=1000000) (disch:=first|assumption|omega|rfl) only [↓vmp, ga, Nat.reduceAdd]
  exact zM rfl rfl rfl
 ·intro v5 g6 g7 g8 g9 gH gO gI gD gA gE gF gG gB gC gJ gK gN gL gM gP gQ
  simp (maxSteps:=1000000) (disch:=first|assumption|omega|rfl) only [↓vmp, ga, Nat.reduceAdd]
  exact zM rfl rfl rfl
theorem z1b {ops : Array Oper} {dst : Option Tmp} {l : List Oper} {T : List V} {S : zA} {F : Dfs} {Q : Post} {n : Node} {s : List UInt8} (hl : n.names.length < 1000000) :
  WpR cfg ops dst l T S F Q (some (.enter 87 [.d (zB n), .d (.str s)])) = WpL cfg ops l (putT T dst (.d (.int .i64 (qE n.names s)))) S F Q :=
 zV (ds := [zB n, .str s]) rfl (zkt n s hl)
theorem zku {ops : Array Oper} {dst : Option Tmp} {l : List Oper} {T : List V} {S : zA} {F : Dfs} {Q : Post} {t : List Node} {ino : Int} (hl : t.length < 1000000) :
  WpR cfg ops dst l T S F Q (some (.enter 112 [.d (.sl (t.map zB)), .d (.int .i64 ino)])) = WpL cfg ops l (putT T dst (.d (.sl ((t.filter (fun n => n.ino ≠ ino)).map zB)))) S F Q :=
 zV (ds := [.sl (t.map zB), .int .i64 ino]) rfl (zsl t ino hl)
theorem z1t {ops : Array Oper} {dst : Option Tmp} {l : List Oper} {T : List V} {S : zA} {F : Dfs} {Q : Post} {t : List Node} {a b c d e : Int} {f : List UInt8} {g : List Ent} (hl : t.length < 400000) :
  WpR cfg ops dst l T S F Q (some (.enter 89 [.d (.sl (t.map zB)), .agg [.d (.int .i64 a), .d (.int .i64 b), .d (.int .i64 c), .d (.int .i64 d), .d (.int .i64 e), .d (encB f), .d (.sl (g.map zJ))]])) = WpL cfg ops l (putT T dst (.d (.sl ((qR t ⟨a, b, c, d, e, f, g⟩).map zB)))) S F Q :=
 zno (ds := [.sl (t.map zB), zB ⟨a, b, c, d, e, f, g⟩]) rfl rfl rfl (z9f t _ hl)
def jO (t : List Node) (ino : Int) : List Node := if (getN t ino).links - 1 < 1 then t.filter (fun n => n.ino ≠ ino) else qR t { getN t ino with links := (getN t ino).links - 1 }
theorem zp9 (t : List Node) (ino : Int) (hl : t.length < 400000) (hk : -1000000 ≤ (getN t ino).links ∧ (getN t ino).links ≤ 1000000) : Ev cfg 90 [.sl (t.map zB), .int .i64 ino] (.ret (.d (.sl ((jO t ino).map zB)))) := by
 refine kR rfl rfl zzj ?_
 show Wp cfg (Try.f90.body.getD .skip) ((.d (.sl (t.map zB))) :: (.d (.int .i64 ino)) :: uZ (uZ [])) [] [] _
 unfold uZ
 conv => arg 2; whnf
 by_cases h : (getN t ino).links - 1 < 1
 ·simp (maxSteps:=1000000) (disch:=first|assumption|omega|rfl) only [↓vmp, ga, Nat.reduceAdd, jS, zku]
  simp only [jO, h, if_true]
  exact zM rfl rfl rfl
 ·simp (maxSteps:=1000000) (disch:=first|assumption|omega|rfl) only [↓vmp, ga, Nat.reduceAdd, jS, z1t]
  simp only [jO, h, if_false]
  exact zM rfl rfl rfl
theorem z4p {ops : Array Oper} {dst : Option Tmp} {l : List Oper} {T : List V} {S : zA} {F : Dfs} {Q : Post} {t : List Node} {ino : Int} (hl : t.length < 400000) (hk1 : -1000000 ≤ (getN t ino).links) (hk2 : (getN t ino).links ≤ 1000000) :
  WpR cfg ops dst l T S F Q (some (.enter 90 [.d (.sl (t.map zB)), .d (.int .i64 ino)])) = WpL cfg ops l (putT T dst (.d (.sl ((jO t ino).map zB)))) S F Q :=
 zV (ds := [.sl (t.map zB), .int .i64 ino]) rfl (zp9 t ino hl ⟨hk1, hk2⟩)
def wF (t : List Node) (top : Int) : Nat → Int → Bool
 | 0, _ => false
 | n + 1, d => if d = top then true else wF t top n (getN t d).parent
theorem zua (t : List Node) (top : Int) (hl : t.length < 400000) (R : Post) (S : zA) (g6 : V) : ∀ (k i : Nat) (d : Int) (g8 g9 gH gO gI gD gA gE gF gG gB gC gJ : V), t.length + 1 - i = k → i ≤ t.length + 1 →
 (∀ v1 v7 g8 g9 gH gO gI gD gA gE gF gG gB gC gJ, wF t top k d = false → R (.exit 0) ((.d (.sl (t.map zB))) :: v1 :: (.d (.int .i64 top)) :: (.tup []) :: (.tup []) :: (.tup []) :: g6 :: v7 :: g8 :: g9 :: gH :: gO :: gI :: gD :: gA :: gE :: gF :: gG :: gB :: gC :: gJ :: []) S []) →
 (∀ v1 v7 g8 g9 gH gO gI gD gA gE gF gG gB gC gJ, wF t top k d = true → R .ret ((.d (.sl (t.map zB))) :: v1 :: (.d (.int .i64 top)) :: (.tup []) :: (.tup []) :: (.tup []) :: (.d (.bool true)) :: v7 :: g8 :: g9 :: gH :: gO :: gI :: gD :: gA :: gE :: gF :: gG :: gB :: gC :: gJ :: []) S []) →
 Wp cfg (.loop (lpOf (Try.f92.body.getD .skip) 0)) ((.d (.sl (t.map zB))) :: (.d (.int .i64 d)) :: (.d (.int .i64 top)) :: (.tup []) :: (.tup []) :: (.tup []) :: g6 :: (.d (.int .i64 i)) :: g8 :: g9 :: gH :: gO :: gI :: gD :: gA :: gE :: gF :: gG :: gB :: gC :: gJ :: []) S [] R := by
 intro k
 induction k with
 | zero =>
  intro i d g8 g9 gH gO gI gD gA gE gF gG gB gC gJ hk hi hE hR
  have hie : i = t.length + 1 := by omega
  subst hie
  rw [qL]
  refine zU ?_
  conv => arg 2; whnf
  simp (maxSteps:=1000000) (disch:=first|assumption|omega|rfl) only [↓vmp, ga, Nat.reduceAdd]
  exact hE _ _ _ _ _ _ _ _ _ _ _ _ _ _ _ rfl
 | succ k ih =>
  intro i d g8 g9 gH gO gI gD gA gE gF gG gB gC gJ hk hi hE hR
  have hlt : i ≤ t.length := by omega
  rw [qL]
  refine zU ?_
  conv => arg 2; whnf
  by_cases hc : d = top
  ·simp (maxSteps:=1000000) (disch:=first|assumption|omega|rfl) only [↓vmp, ga, Nat.reduceAdd]
   exact hR _ _ _ _ _ _ _ _ _ _ _ _ _ _ _ (by simp [wF, hc])
  ·simp (maxSteps:=1000000) (disch:=first|assumption|omega|rfl) only [↓vmp, ga, Nat.reduceAdd, jS]
   have e : wF t top (k + 1) d = wF t top k (getN t d).parent := by simp [wF, hc]
   rw [e] at hE hR
   exact ih (i + 1) _ _ _ _ _ _ _ _ _ _ _ _ _ _ (by omega) (by omega) hE hR
theorem zof (t : List Node) (d top : Int) (hl : t.length < 400000) : Ev cfg 92 [.sl (t.map zB), .int .i64 d, .int .i64 top] (.ret (.d (.bool (wF t top (t.length + 1) d)))) := by
 refine kR rfl rfl zwc ?_
 show Wp cfg (Try.f92.body.getD .skip) ((.d (.sl (t.map zB))) :: (.d (.int .i64 d)) :: (.d (.int .i64 top)) :: uZ ((.tup []) :: (.tup []) :: (.tup []) :: (.tup []) :: (.tup []) :: (.tup []) :: (.tup []) :: (.tup []) :: [])) [] [] _
 unfold uZ
 conv => arg 2; whnf
 simp (maxSteps:=1000000) (disch:=first|assumption|omega|rfl) only [↓vmp, ga, Nat.reduceAdd]
 refine zua t top hl _ _ _ (t.length + 1) 0 d _ _ _ _ _ _ _ _ _ _ _ _ _ rfl (by omega) ?_ ?_
 ·intro v1 v7 g8 g9 gH gO gI gD gA gE gF gG gB gC gJ h
  rw [h]
  simp (maxSteps:=1000000) (disch:=first|assumption|omega|rfl) only [↓vmp, ga, Nat.reduceAdd]
  exact zM rfl rfl rfl
 ·intro v1 v7 g8 g9 gH gO gI gD gA gE gF gG gB gC gJ h
  rw [h]
  simp (maxSteps:=1000000) (disch:=first|assumption|omega|rfl) only [↓vmp, ga, Nat.reduceAdd]
  exact zM rfl rfl rfl
theorem zke {ops : Array Oper} {dst : Option Tmp} {l : List Oper} {T : List V} {S : zA} {F : Dfs} {Q : Post} {t : List Node} {d top : Int} (hl : t.length < 400000) :
  WpR cfg ops dst l T S F Q (some (.enter 92 [.d (.sl (t.map zB)), .d (.int .i64 d), .d (.int .i64 top)])) = WpL cfg ops l (putT T dst (.d (.bool (wF t top (t.length + 1) d)))) S F Q :=
 zV (ds := [.sl (t.map zB), .int .i64 d, .int .i64 top]) rfl (zof t d top hl)
def kV : List UInt8 → List UInt8 → Bool
 | x :: a, y :: b => if x ≠ y then decide (x < y) else kV a b
 | [], _ :: _ => true
 | _, [] => false
theorem q1e {a b : UInt8} (h : a ≠ b) : ((a.toNat : Int)) ≠ ((b.toNat : Int)) := fun e => h (UInt8.toNat_inj.1 (by omega))
theorem ztr (a b : List UInt8) (hla : a.length < 1000000) (hlb : b.length < 1000000) (R : Post) (S : zA) (g4 : V) : ∀ (k i : Nat) (g6 g7 g8 g9 gH gO gI gD gA gE gF gG gB gC gJ gK gN gL gM gP gQ gU gR gS gT gV gW gX gY gZ gf : V), a.length - i = k → i ≤ a.length → i ≤ b.length →
 (∀ v5 g6 g7 g8 g9 gH gO gI gD gA gE gF gG gB gC gJ gK gN gL gM gP gQ gU gR gS gT gV gW gX gY gZ gf, kV (a.drop i) (b.drop i) = decide (a.length < b.length) → R (.exit 0) ((.d (.str a)) :: (.d (.str b)) :: (.tup []) :: (.tup []) :: g4 :: v5 :: g6 :: g7 :: g8 :: g9 :: gH :: gO :: gI :: gD :: gA :: gE :: gF :: gG :: gB :: gC :: gJ :: gK :: gN :: gL :: gM :: gP :: gQ :: gU :: gR :: gS :: gT :: gV :: gW :: gX :: gY :: gZ :: gf :: []) S []) →
 (∀ v5 g6 g7 g8 g9 gH gO gI gD gA gE gF gG gB gC gJ gK gN gL gM gP gQ gU gR gS gT gV gW gX gY gZ gf, R .ret ((.d (.str a)) :: (.d (.str b)) :: (.tup []) :: (.tup []) :: (.d (.bool (kV (a.drop i) (b.drop i)))) :: v5 :: g6 :: g7 :: g8 :: g9 :: gH :: gO :: gI :: gD :: gA :: gE :: gF :: gG :: gB :: gC :: gJ :: gK :: gN :: gL :: gM :: gP :: gQ :: gU :: gR :: gS :: gT :: gV :: gW :: gX :: gY :: gZ :: gf :: []) S []) →
 Wp cfg (.loop (lpOf (Try.f111.body.getD .skip) 0)) ((.d (.str a)) :: (.d (.str b)) :: (.tup []) :: (.tup []) :: g4 :: (.d (.int .i64 i)) :: g6 :: g7 :: g8 :: g9 :: gH :: gO :: gI :: gD :: gA :: gE :: gF :: gG :: gB :: gC :: gJ :: gK :: gN :: gL :: gM :: gP :: gQ :: gU :: gR :: gS :: gT :: gV :: gW :: gX :: gY :: gZ :: gf :: []) S [] R := by
 intro k
 induction k with
 | zero =>
  intro i g6 g7 g8 g9 gH gO gI gD gA gE gF gG gB gC gJ gK gN gL gM gP gQ gU gR gS gT gV gW gX gY gZ gf hk hi hj hE hR
  have hie : i = a.length := by omega
  subst hie
  rw [qL]
  refine zU ?_
  conv => arg 2; whnf
  simp (maxSteps:=1000000) (disch:=first|assumption|omega|rfl) only [↓vmp, ga, Nat.reduceAdd, vmg]
  refine hE _ _ _ _ _ _ _ _ _ _ _ _ _ _ _ _ _ _ _ _ _ _ _ _ _ _ _ _ _ _ _ _ ?_
  rw [List.drop_length]
  by_cases h : a.length < b.length
  ·rw [List.drop_eq_getElem_cons h]; simp [kV, h]
  ·rw [List.drop_eq_nil_of_le (by omega)]; simp [kV, h]
 | succ k ih =>
  intro i g6 g7 g8 g9 gH gO gI gD gA gE gF gG gB gC gJ gK gN gL gM gP gQ gU gR gS gT gV gW gX gY gZ gf hk hi hj hE hR
  have hlt : i < a.length := by omega
  rw [qL]
  refine zU ?_
  conv => arg 2; whnf
  by_cases hb : i < b.length
  ·have h1 : a.drop i = a[i] :: a.drop (i + 1) := List.drop_eq_getElem_cons hlt
   have h2 : b.drop i = b[i] :: b.drop (i + 1) := List.drop_eq_getElem_cons hb
   rw [h1, h2] at hE hR
   simp (maxSteps:=1000000) (disch:=first|assumption|omega|rfl) only [↓vmp, ga, Nat.reduceAdd, vmg]
   refine qT (is := [0, 1, 2, 3, 4, 5, 6]) (h := 0) (by kernel_rfl) (by kernel_rfl) ?_
   by_cases hc : a[i] = b[i]
   ·have hc' : ((a[i].toNat : Int)) = ((b[i].toNat : Int)) := by rw [hc]
    simp (maxSteps:=1000000) (disch:=first|assumption|omega|rfl) only [List.replicate_zero, eq_self, vmd, vmk, vmo, vmg, ga, Nat.reduceAdd]
    refine ⟨by kernel_rfl, ?_⟩
    simp (maxSteps:=1000000) (disch:=first|assumption|omega|rfl) only [↓vmp, ga, Nat.reduceAdd]
    have e : kV (a[i] :: a.drop (i + 1)) (b[i] :: b.drop (i + 1)) = kV (a.drop (i + 1)) (b.drop (i + 1)) := by rw [kV, if_neg (by simpa using hc)]
    rw [e] at hE hR
    exact ih (i + 1) _ _ _ _ _ _ _ _ _ _ _ _ _ _ _ _ _ _ _ _ _ _ _ _ _ _ _ _ _ _ _ (by omega) (by omega) (by omega) hE hR
   ·have hc' := q1e hc
    simp (maxSteps:=1000000) (disch:=first|assumption|omega|rfl) only [List.replicate_zero, eq_self, vmd, vmk, vmo, vmg, ga, Nat.reduceAdd]
    refine ⟨by kernel_rfl, ?_⟩
    simp (maxSteps:=1000000) (disch:=first|assumption|omega|rfl) only [↓vmp, ga, Nat.reduceAdd]
    refine qT (is := [0, 1, 2, 3, 4, 5, 6, 7]) (h := 0) (by kernel_rfl) (by kernel_rfl) ?_
    simp (maxSteps:=1000000) (disch:=first|assumption|omega|rfl) only [List.replicate_zero, eq_self, vmd, vmk, vmo, vmg, ga, Nat.reduceAdd]
    refine ⟨by kernel_rfl, ?_⟩
    simp (maxSteps:=1000000) (disch:=first|assumption|omega|rfl) only [↓vmp, ga, Nat.reduceAdd]
    have e : kV (a[i] :: a.drop (i + 1)) (b[i] :: b.drop (i + 1)) = decide ((a[i].toNat : Int) < (b[i].toNat : Int)) := by
     rw [kV, if_pos hc]
     congr 1
     simp [UInt8.lt_iff_toNat_lt]
    rw [e] at hR
    exact hR _ _ _ _ _ _ _ _ _ _ _ _ _ _ _ _ _ _ _ _ _ _ _ _ _ _ _ _ _ _ _ _
  ·simp (maxSteps:=1000000) (disch:=first|assumption|omega|rfl) only [↓vmp, ga, Nat.reduceAdd, vmg]
   refine hE _ _ _ _ _ _ _ _ _ _ _ _ _ _ _ _ _ _ _ _ _ _ _ _ _ _ _ _ _ _ _ _ ?_
   have e1 : b.drop i = [] := List.drop_eq_nil_of_le (by omega)
   have e2 : decide (a.length < b.length) = false := decide_eq_false (by omega)
   rw [List.drop_eq_getElem_cons hlt, e1, e2]
   rfl
theorem zov (a b : List UInt8) (hla : a.length < 1000000) (hlb : b.length < 1000000) : Ev cfg 111 [.str a, .str b] (.ret (.d (.bool (kV a b)))) := by
 refine kR rfl rfl zt7 ?_
 show Wp cfg (Try.f111.body.getD .skip) ((.d (.str a)) :: (.d (.str b)) :: uZ (uZ (uZ ((.tup []) :: (.tup []) :: (.tup []) :: (.tup []) :: (.tup []) :: [])))) [] [] _
 unfold uZ
 conv => arg 2; whnf
 simp (maxSteps:=1000000) (disch:=first|assumption|omega|rfl) only [↓vmp, ga, Nat.reduceAdd]
 refine ztr a b hla hlb _ _ _ a.length 0 _ _ _ _ _ _ _ _ _ _ _ _ _ _ _ _ _ _ _ _ _ _ _ _ _ _ _ _ _ _ _ rfl (by omega) (by omega) ?_ ?_
 ·intro v5 g6 g7 g8 g9 gH gO gI gD gA gE gF gG gB gC gJ gK gN gL gM gP gQ gU gR gS gT gV gW gX gY gZ gf h
  rw [List.drop_zero, List.drop_zero] at h
  rw [h]
  by_cases hc : a.length < b.length <;> simp only [hc, decide_true, decide_false]
  ·simp (maxSteps:=1000000) (disch:=first|assumption|omega|rfl) only [↓vmp, ga, Nat.reduceAdd]
   exact zM rfl rfl rfl
  ·simp (maxSteps:=1000000) (disch:=first|assumption|omega|rfl) only [↓vmp, ga, Nat.reduceAdd]
   exact zM rfl rfl rfl
 ·intro v5 g6 g7 g8 g9 gH gO gI gD gA gE gF gG gB gC gJ gK gN gL gM gP gQ gU gR gS gT gV gW gX gY gZ gf
  simp (maxSteps:=1000000) (disch:=first|assumption|omega|rfl) only [↓vmp, ga, Nat.reduceAdd]
  exact zM rfl rfl rfl
theorem zba {ops : Array Oper} {dst : Option Tmp} {l : List Oper} {T : List V} {S : zA} {F : Dfs} {Q : Post} {a b : List UInt8} (hla : a.length < 1000000) (hlb : b.length < 1000000) :
  WpR cfg ops dst l T S F Q (some (.enter 111 [.d (.str a), .d (.str b)])) = WpL cfg ops l (putT T dst (.d (.bool (kV a b)))) S F Q :=
 zV (ds := [.str a, .str b]) rfl (zov a b hla hlb)
theorem za4 {α : Type} {enc : α → D} {S : zA} {v : V} {e : TypeId} {xs : List α} (h : OwnS S v e (xs.map fun x => .d (enc x))) : OwnS S v e ((xs.map enc).map V.d) := by simpa [List.map_map, Function.comp_def] using h
theorem zd6 {S : zA} {a b c d e : Int} {f : List UInt8} {v : V} {g : List Ent} (h : OwnS S v 88 (g.map fun x => .d (zJ x))) :
  frz S zO (.agg [.d (.int .i64 a), .d (.int .i64 b), .d (.int .i64 c), .d (.int .i64 d), .d (.int .i64 e), .d (encB f), v]) = some (zB ⟨a, b, c, d, e, f, g⟩) := by
 have h1 : frz S 11 v = some (.sl (g.map zJ)) := z8s (n := 9) (za4 h)
 show (match allO (frz S 11) [.d (.int .i64 a), .d (.int .i64 b), .d (.int .i64 c), .d (.int .i64 d), .d (.int .i64 e), .d (encB f), v] with | some ds => if ds.any D.isAgg then none else some (D.agg ds) | none => none) = _
 have h2 : ∀ x : D, frz S 11 (.d x) = some x := fun _ => rfl
 simp only [allO, h1, h2]
 rfl
theorem zcd {S : zA} {t : List D} {a b c d e : Int} {f : List UInt8} {v : V} {g : List Ent} (h : OwnS S v 88 (g.map fun x => .d (zJ x))) :
  ∀ i ∈ [V.d (.sl t), V.agg [.d (.int .i64 a), .d (.int .i64 b), .d (.int .i64 c), .d (.int .i64 d), .d (.int .i64 e), .d (encB f), v]].flatMap (zZ S zO), RowD S i := by
 intro i hi
 have e1 : [V.d (.sl t), V.agg [.d (.int .i64 a), .d (.int .i64 b), .d (.int .i64 c), .d (.int .i64 d), .d (.int .i64 e), .d (encB f), v]].flatMap (zZ S zO) = (zZ S 11 v ++ []) ++ [] := rfl
 rw [e1, List.append_nil, List.append_nil] at hi
 exact zrn (n := 10) (za4 h) i hi
def zS (t : List Node) (dir : Int) (s : List UInt8) : List Node := qR t { getN t dir with names := (getN t dir).names.filter (fun e => decide (e.name ≠ s)) }
theorem q04 (t : List Node) (dir : Int) (s : List UInt8) (d : Node) (hl : d.names.length < 1000000) (R : Post) (g6 : V) : ∀ (k i : Nat) (xs : List Ent) (S : zA) (v8 gH gO gI gD gA gE gF gG gB gC gJ gK gN gL gM gP gQ gU gR gS gT gV gW gX gY gZ gf gg gh gi gj : V),
 d.names.length - i = k → i ≤ d.names.length → xs.length ≤ i → OwnS S v8 88 (xs.map fun n => .d (zJ n)) → S[0]? = some (.row [.d (zB d)] 91) → NotAt v8 0 →
 (∀ S v8 (xs' : List Ent) v9 gH gO gI gD gA gE gF gG gB gC gJ gK gN gL gM gP gQ gU gR gS gT gV gW gX gY gZ gf gg gh gi gj, OwnS S v8 88 (xs'.map fun n => .d (zJ n)) → xs' = xs ++ (d.names.drop i).filter (fun e => decide (e.name ≠ s)) → S[0]? = some (.row [.d (zB d)] 91) → NotAt v8 0 → R (.exit 0) ((.d (.sl (t.map zB))) :: (.d (.int .i64 dir)) :: (.d (.str s)) :: (.tup []) :: (.tup []) :: (.tup []) :: g6 :: (.ref 0 0 0) :: v8 :: v9 :: gH :: gO :: gI :: gD :: gA :: gE :: gF :: gG :: gB :: gC :: gJ :: gK :: gN :: gL :: gM :: gP :: gQ :: gU :: gR :: gS :: gT :: gV :: gW :: gX :: gY :: gZ :: gf :: gg :: gh :: gi :: gj :: []) S []) →
 Wp cfg (.loop (lpOf (Try.f91.body.getD .skip) 0)) ((.d (.sl (t.map zB))) :: (.d (.int .i64 dir)) :: (.d (.str s)) :: (.tup []) :: (.tup []) :: (.tup []) :: g6 :: (.ref 0 0 0) :: v8 :: (.d (.int .i64 i)) :: gH :: gO :: gI :: gD :: gA :: gE :: gF :: gG :: gB :: gC :: gJ :: gK :: gN :: gL :: gM :: gP :: gQ :: gU :: gR :: gS :: gT :: gV :: gW :: gX :: gY :: gZ :: gf :: gg :: gh :: gi :: gj :: []) S [] R := by
 intro k
 induction k with
 | zero =>
  intro i xs S v8 gH gO gI gD gA gE gF gG gB gC gJ gK gN gL gM gP gQ gU gR gS gT gV gW gX gY gZ gf gg gh gi gj hk hi hxl ho hb hna hR
  have hie : i = d.names.length := by omega
  subst hie
  have hr : rowE S 0 0 = some (.d (zB d)) := zF hb
  rw [qL]
  refine zU ?_
  conv => arg 2; whnf
  simp (maxSteps:=1000000) (disch:=first|assumption|omega|rfl) only [↓vmp, ga, Nat.reduceAdd, hr]
  exact hR _ _ xs _ _ _ _ _ _ _ _ _ _ _ _ _ _ _ _ _ _ _ _ _ _ _ _ _ _ _ _ _ _ _ _ ho (by rw [List.drop_length]; simp) hb hna
 | succ k ih =>
  intro i xs S v8 gH gO gI gD gA gE gF gG gB gC gJ gK gN gL gM gP gQ gU gR gS gT gV gW gX gY gZ gf gg gh gi gj hk hi hxl ho hb hna hR
  have hlt : i < d.names.length := by omega
  have hdr : d.names.drop i = d.names[i] :: d.names.drop (i + 1) := List.drop_eq_getElem_cons hlt
  rw [hdr] at hR
  have hr : rowE S 0 0 = some (.d (zB d)) := zF hb
  rw [qL]
  refine zU ?_
  conv => arg 2; whnf
  by_cases hc : d.names[i].name ≠ s
  ·obtain ⟨v', S', c, ha, ho', hfr, hlen⟩ := ap30 d.names[i] ho (by omega)
   obtain ⟨hb', hna'⟩ := hfr _ _ hb hna
   simp (maxSteps:=1000000) (disch:=first|assumption|omega|rfl) only [↓vmp, ga, Nat.reduceAdd, hr, zkj, ha]
   exact ih (i + 1) (xs ++ [d.names[i]]) S' v' _ _ _ _ _ _ _ _ _ _ _ _ _ _ _ _ _ _ _ _ _ _ _ _ _ _ _ _ _ _ _ (by omega) (by omega) (by simp; omega) ho' hb' hna' (fun S v8 xs' v9 gH gO gI gD gA gE gF gG gB gC gJ gK gN gL gM gP gQ gU gR gS gT gV gW gX gY gZ gf gg gh gi gj a1 a2 a3 a4 => hR S v8 xs' v9 gH gO gI gD gA gE gF gG gB gC gJ gK gN gL gM gP gQ gU gR gS gT gV gW gX gY gZ gf gg gh gi gj a1 (by rw [a2, List.filter_cons_of_pos (by simpa using hc)]; simp) a3 a4)
  ·simp (maxSteps:=1000000) (disch:=first|assumption|omega|rfl) only [↓vmp, ga, Nat.reduceAdd, hr, zkj]
   exact ih (i + 1) xs S v8 _ _ _ _ _ _ _ _ _ _ _ _ _ _ _ _ _ _ _ _ _ _ _ _ _ _ _ _ _ _ _ (by omega) (by omega) (by omega) ho hb hna (fun S v8 xs' v9 gH gO gI gD gA gE gF gG gB gC gJ gK gN gL gM gP gQ gU gR gS gT gV gW gX gY gZ gf gg gh gi gj a1 a2 a3 a4 => hR S v8 xs' v9 gH gO gI gD gA gE gF gG gB gC gJ gK gN gL gM gP gQ gU gR gS gT gV gW gX gY gZ gf gg gh gi gj a1 (by rw [a2, List.filter_cons_of_neg (by simpa using hc)]) a3 a4)
theorem zsg (t : List Node) (dir : Int) (s : List UInt8) (hl : t.length < 400000) (hn : (getN t dir).names.length < 1000000) : Ev cfg 91 [.sl (t.map zB), .int .i64 dir, .str s] (.ret (.d (.sl ((zS t dir s).map zB)))) := by
 refine kR rfl rfl zzz ?_
 show Wp cfg (Try.f91.body.getD .skip) ((.d (.sl (t.map zB))) :: (.d (.int .i64 dir)) :: (.d (.str s)) :: uZ (uZ (uZ ((.tup []) :: (.tup []) :: (.tup []) :: (.tup []) :: (.tup []) :: (.tup []) :: (.tup []) :: (.tup []) :: [])))) [] [] _
 unfold uZ
 conv => arg 2; whnf
 simp (maxSteps:=1000000) (disch:=first|assumption|omega|rfl) only [↓vmp, ga, Nat.reduceAdd, jS]
 refine q04 t dir s (getN t dir) hn _ _ (getN t dir).names.length 0 [] _ _ _ _ _ _ _ _ _ _ _ _ _ _ _ _ _ _ _ _ _ _ _ _ _ _ _ _ _ _ _ _ _ rfl (by omega) (by simp) OwnS.nil rfl NotAt.ts ?_
 intro S v8 xs v9 gH gO gI gD gA gE gF gG gB gC gJ gK gN gL gM gP gQ gU gR gS gT gV gW gX gY gZ gf gg gh gi gj ho hx hb hna
 rw [List.nil_append, List.drop_zero] at hx
 have hr : rowE S 0 0 = some (.d (zB (getN t dir))) := zF hb
 have hst := zm9 (a := getN t dir) (v := v8) (z13 ho (by kernel_rfl) (by kernel_rfl)) (z04 ho)
 have hpr := fun y => qB (y := y) hb
 have hr2 : ∀ y, rowE (S.set 0 (.row [y] 91)) 0 0 = some y := fun y => zF (jL hb)
 simp (maxSteps:=1000000) (disch:=first|assumption|omega|rfl) only [↓vmp, ga, Nat.reduceAdd, hr, hst, hpr, hr2]
 have ho2 := fun y => wN (o := .row [y] 91) ho hna
 refine z47 (ds := [.sl (t.map zB), zB { getN t dir with names := xs }]) rfl ?_ (zcd (ho2 _)) (z9f t _ hl) fun S2 => ?_
 ·have h1 := zd6 (a := (getN t dir).ino) (b := (getN t dir).kind) (c := (getN t dir).links) (d := (getN t dir).parent) (e := (getN t dir).size) (f := (getN t dir).data) (ho2 (.agg [.d (.int .i64 (getN t dir).ino), .d (.int .i64 (getN t dir).kind), .d (.int .i64 (getN t dir).links), .d (.int .i64 (getN t dir).parent), .d (.int .i64 (getN t dir).size), .d (encB (getN t dir).data), v8]))
  simp only [allO, zco, h1]
 ·simp (maxSteps:=1000000) (disch:=first|assumption|omega|rfl) only [↓vmp, ga, Nat.reduceAdd]
  rw [hx]
  exact zM rfl rfl rfl
def putA (s : List UInt8) (ino : Int) : Bool → List Ent → List Ent
 | b, [] => if b then [] else [⟨s, ino⟩]
 | b, e :: r => (if b = false ∧ kV s e.name = true then [⟨s, ino⟩] else []) ++ [e] ++ putA s ino (b || kV s e.name) r
def putN (t : List Node) (dir : Int) (s : List UInt8) (ino : Int) : List Node := qR t { getN t dir with names := putA s ino false (getN t dir).names }
theorem bd88 {s : List UInt8} {n : Int} : z05 Try.prog 88 [(0, .d (.str s)), (1, .d (.int .i64 n))] = some (.agg [.d (.str s), .d (.int .i64 n)]) := by kernel_rfl
theorem zlk {S : zA} {s : List UInt8} {n : Int} : bs1 Try.prog S 30 (.agg [.d (.str s), .d (.int .i64 n)]) = some (.val (.ts [zJ ⟨s, n⟩]) S 0) := by kernel_rfl
theorem q1h (t : List Node) (dir : Int) (s : List UInt8) (ino : Int) (d : Node) (hl : d.names.length < 400000) (hs : s.length < 1000000) (hm : ∀ e ∈ d.names, e.name.length < 1000000) (R : Post) (g8 : V) : ∀ (k i : Nat) (inn : Bool) (xs : List Ent) (S : zA) (v10 gD gA gE gF gG gB gC gJ gK gN gL gM gP gQ gU gR gS gT gV gW gX gY gZ gf gg gh gi gj gk gm gn gr gz hC xA hH hJ hY hZ xB xC xD xE xF xG xH xI xJ xK : V),
 d.names.length - i = k → i ≤ d.names.length → xs.length ≤ 2 * i → OwnS S v10 88 (xs.map fun n => .d (zJ n)) → S[0]? = some (.row [.d (zB d)] 91) → NotAt v10 0 →
 (∀ S v10 inn2 (xs' : List Ent) v12 gD gA gE gF gG gB gC gJ gK gN gL gM gP gQ gU gR gS gT gV gW gX gY gZ gf gg gh gi gj gk gm gn gr gz hC xA hH hJ hY hZ xB xC xD xE xF xG xH xI xJ xK, xs'.length ≤ 2 * d.names.length → OwnS S v10 88 (xs'.map fun n => .d (zJ n)) → xs' ++ (if inn2 then [] else [⟨s, ino⟩]) = xs ++ putA s ino inn (d.names.drop i) → S[0]? = some (.row [.d (zB d)] 91) → NotAt v10 0 → R (.exit 0) ((.d (.sl (t.map zB))) :: (.d (.int .i64 dir)) :: (.d (.str s)) :: (.d (.int .i64 ino)) :: (.tup []) :: (.tup []) :: (.tup []) :: (.tup []) :: g8 :: (.ref 0 0 0) :: v10 :: (.d (.bool inn2)) :: v12 :: gD :: gA :: gE :: gF :: gG :: gB :: gC :: gJ :: gK :: gN :: gL :: gM :: gP :: gQ :: gU :: gR :: gS :: gT :: gV :: gW :: gX :: gY :: gZ :: gf :: gg :: gh :: gi :: gj :: gk :: gm :: gn :: gr :: gz :: hC :: xA :: hH :: hJ :: hY :: hZ :: xB :: xC :: xD :: xE :: xF :: xG :: xH :: xI :: xJ :: xK :: []) S []) →
 Wp cfg (.loop (lpOf (Try.f88.body.getD .skip) 0)) ((.d (.sl (t.map zB))) :: (.d (.int .i64 dir)) :: (.d (.str s)) :: (.d (.int .i64 ino)) :: (.tup []) :: (.tup []) :: (.tup []) :: (.tup []) :: g8 :: (.ref 0 0 0) :: v10 :: (.d (.bool inn)) :: (.d (.int .i64 i)) :: gD :: gA :: gE :: gF :: gG :: gB :: gC :: gJ :: gK :: gN :: gL :: gM :: gP :: gQ :: gU :: gR :: gS :: gT :: gV :: gW :: gX :: gY :: gZ :: gf :: gg :: gh :: gi :: gj :: gk :: gm :: gn :: gr :: gz :: hC :: xA :: hH :: hJ :: hY :: hZ :: xB :: xC :: xD :: xE :: xF :: xG :: xH :: xI :: xJ :: xK :: []) S [] R := by
 intro k
 induction k with
 | zero =>
  intro i inn xs S v10 gD gA gE gF gG gB gC gJ gK gN gL gM gP gQ gU gR gS gT gV gW gX gY gZ gf gg gh gi gj gk gm gn gr gz hC xA hH hJ hY hZ xB xC xD xE xF xG xH xI xJ xK hk hi hxl ho hb hna hR
  have hie : i = d.names.length := by omega
  subst hie
  have hr : rowE S 0 0 = some (.d (zB d)) := zF hb
  rw [qL]
  refine zU ?_
  conv => arg 2; whnf
  simp (maxSteps:=1000000) (disch:=first|assumption|omega|rfl) only [↓vmp, ga, Nat.reduceAdd, hr]
  exact hR _ _ inn xs _ _ _ _ _ _ _ _ _ _ _ _ _ _ _ _ _ _ _ _ _ _ _ _ _ _ _ _ _ _ _ _ _ _ _ _ _ _ _ _ _ _ _ _ _ _ _ _ _ _ (by omega) ho (by rw [List.drop_length]; rfl) hb hna
 | succ k ih =>
  intro i inn xs S v10 gD gA gE gF gG gB gC gJ gK gN gL gM gP gQ gU gR gS gT gV gW gX gY gZ gf gg gh gi gj gk gm gn gr gz hC xA hH hJ hY hZ xB xC xD xE xF xG xH xI xJ xK hk hi hxl ho hb hna hR
  have hlt : i < d.names.length := by omega
  have hdr : d.names.drop i = d.names[i] :: d.names.drop (i + 1) := List.drop_eq_getElem_cons hlt
  rw [hdr] at hR
  have hr : rowE S 0 0 = some (.d (zB d)) := zF hb
  have hm1 : d.names[i].name.length < 1000000 := hm _ (List.getElem_mem hlt)
  rw [qL]
  refine zU ?_
  conv => arg 2; whnf
  cases inn with
  | true =>
   obtain ⟨v', S', c, ha, ho', hfr, hlen⟩ := ap30 d.names[i] ho (by omega)
   obtain ⟨hb', hna'⟩ := hfr _ _ hb hna
   simp (maxSteps:=1000000) (disch:=first|assumption|omega|rfl) only [↓vmp, ga, Nat.reduceAdd, vmg, hr, ha]
   exact ih (i + 1) true (xs ++ [d.names[i]]) S' v' _ _ _ _ _ _ _ _ _ _ _ _ _ _ _ _ _ _ _ _ _ _ _ _ _ _ _ _ _ _ _ _ _ _ _ _ _ _ _ _ _ _ _ _ _ _ _ _ _ (by omega) (by omega) (by simp; omega) ho' hb' hna' (fun S v10 inn xs' v12 gD gA gE gF gG gB gC gJ gK gN gL gM gP gQ gU gR gS gT gV gW gX gY gZ gf gg gh gi gj gk gm gn gr gz hC xA hH hJ hY hZ xB xC xD xE xF xG xH xI xJ xK a0 a1 a2 a3 a4 => hR S v10 inn xs' v12 gD gA gE gF gG gB gC gJ gK gN gL gM gP gQ gU gR gS gT gV gW gX gY gZ gf gg gh gi gj gk gm gn gr gz hC xA hH hJ hY hZ xB xC xD xE xF xG xH xI xJ xK a0 a1 (by rw [a2]; simp [putA]) a3 a4)
  | false =>
   cases hls : kV s d.names[i].name with
   | false =>
    obtain ⟨v', S', c, ha, ho', hfr, hlen⟩ := ap30 d.names[i] ho (by omega)
    obtain ⟨hb', hna'⟩ := hfr _ _ hb hna
    simp (maxSteps:=1000000) (disch:=first|assumption|omega|rfl) only [↓vmp, ga, Nat.reduceAdd, vmg, hr, ha, zba, hls]
    exact ih (i + 1) false (xs ++ [d.names[i]]) S' v' _ _ _ _ _ _ _ _ _ _ _ _ _ _ _ _ _ _ _ _ _ _ _ _ _ _ _ _ _ _ _ _ _ _ _ _ _ _ _ _ _ _ _ _ _ _ _ _ _ (by omega) (by omega) (by simp; omega) ho' hb' hna' (fun S v10 inn xs' v12 gD gA gE gF gG gB gC gJ gK gN gL gM gP gQ gU gR gS gT gV gW gX gY gZ gf gg gh gi gj gk gm gn gr gz hC xA hH hJ hY hZ xB xC xD xE xF xG xH xI xJ xK a0 a1 a2 a3 a4 => hR S v10 inn xs' v12 gD gA gE gF gG gB gC gJ gK gN gL gM gP gQ gU gR gS gT gV gW gX gY gZ gf gg gh gi gj gk gm gn gr gz hC xA hH hJ hY hZ xB xC xD xE xF xG xH xI xJ xK a0 a1 (by rw [a2]; simp [putA, hls]) a3 a4)
   | true =>
    obtain ⟨v', S', c, ha, ho', hfr, hlen⟩ := ap30 ⟨s, ino⟩ ho (by omega)
    obtain ⟨hb', hna'⟩ := hfr _ _ hb hna
    have hr' : rowE S' 0 0 = some (.d (zB d)) := zF hb'
    obtain ⟨v2, S2, c2, ha2, ho2, hfr2, hlen2⟩ := ap30 d.names[i] ho' (by simp; omega)
    obtain ⟨hb2, hna2⟩ := hfr2 _ _ hb' hna'
    simp (maxSteps:=1000000) (disch:=first|assumption|omega|rfl) only [↓vmp, ga, Nat.reduceAdd, vmg, hr, ha, zba, hls, bd88, zlk, hr', ha2]
    exact ih (i + 1) true (xs ++ [⟨s, ino⟩] ++ [d.names[i]]) S2 v2 _ _ _ _ _ _ _ _ _ _ _ _ _ _ _ _ _ _ _ _ _ _ _ _ _ _ _ _ _ _ _ _ _ _ _ _ _ _ _ _ _ _ _ _ _ _ _ _ _ (by omega) (by omega) (by simp; omega) ho2 hb2 hna2 (fun S v10 inn xs' v12 gD gA gE gF gG gB gC gJ gK gN gL gM gP gQ gU gR gS gT gV gW gX gY gZ gf gg gh gi gj gk gm gn gr gz hC xA hH hJ hY hZ xB xC xD xE xF xG xH xI xJ xK a0 a1 a2 a3 a4 => hR S v10 inn xs' v12 gD gA gE gF gG gB gC gJ gK gN gL gM gP gQ gU gR gS gT gV gW gX gY gZ gf gg gh gi gj gk gm gn gr gz hC xA hH hJ hY hZ xB xC xD xE xF xG xH xI xJ xK a0 a1 (by rw [a2]; simp [putA, hls]) a3 a4)
theorem zqk (t : List Node) (dir : Int) (s : List UInt8) (ino : Int) (hl : t.length < 400000) (hn : (getN t dir).names.length < 400000) (hs : s.length < 1000000) (hm : ∀ e ∈ (getN t dir).names, e.name.length < 1000000) : Ev cfg 88 [.sl (t.map zB), .int .i64 dir, .str s, .int .i64 ino] (.ret (.d (.sl ((putN t dir s ino).map zB)))) := by
 refine kR rfl rfl zve ?_
 show Wp cfg (Try.f88.body.getD .skip) ((.d (.sl (t.map zB))) :: (.d (.int .i64 dir)) :: (.d (.str s)) :: (.d (.int .i64 ino)) :: uZ (uZ (uZ (uZ (uZ ((.tup []) :: (.tup []) :: (.tup []) :: (.tup []) :: (.tup []) :: (.tup []) :: (.tup []) :: (.tup []) :: [])))))) [] [] _
 unfold uZ
 conv => arg 2; whnf
 simp (maxSteps:=1000000) (disch:=first|assumption|omega|rfl) only [↓vmp, ga, Nat.reduceAdd, jS]
 refine q1h t dir s ino (getN t dir) hn hs hm _ _ (getN t dir).names.length 0 false [] _ _ _ _ _ _ _ _ _ _ _ _ _ _ _ _ _ _ _ _ _ _ _ _ _ _ _ _ _ _ _ _ _ _ _ _ _ _ _ _ _ _ _ _ _ _ _ _ _ _ _ rfl (by omega) (by simp) OwnS.nil rfl NotAt.ts ?_
 intro S v10 inn xs v12 gD gA gE gF gG gB gC gJ gK gN gL gM gP gQ gU gR gS gT gV gW gX gY gZ gf gg gh gi gj gk gm gn gr gz hC xA hH hJ hY hZ xB xC xD xE xF xG xH xI xJ xK hxl ho hx hb hna
 rw [List.nil_append, List.drop_zero] at hx
 have hr : rowE S 0 0 = some (.d (zB (getN t dir))) := zF hb
 cases inn with
 | true =>
  simp only [if_true, List.append_nil] at hx
  have hst := zm9 (a := getN t dir) (v := v10) (z13 ho (by kernel_rfl) (by kernel_rfl)) (z04 ho)
  have hpr := fun y => qB (y := y) hb
  have hr2 : ∀ y, rowE (S.set 0 (.row [y] 91)) 0 0 = some y := fun y => zF (jL hb)
  simp (maxSteps:=1000000) (disch:=first|assumption|omega|rfl) only [↓vmp, ga, Nat.reduceAdd, hr, hst, hpr, hr2]
  have ho2 := fun y => wN (o := .row [y] 91) ho hna
  refine z47 (ds := [.sl (t.map zB), zB { getN t dir with names := xs }]) rfl ?_ (zcd (ho2 _)) (z9f t _ hl) fun S2 => ?_
  ·have h1 := zd6 (a := (getN t dir).ino) (b := (getN t dir).kind) (c := (getN t dir).links) (d := (getN t dir).parent) (e := (getN t dir).size) (f := (getN t dir).data) (ho2 (.agg [.d (.int .i64 (getN t dir).ino), .d (.int .i64 (getN t dir).kind), .d (.int .i64 (getN t dir).links), .d (.int .i64 (getN t dir).parent), .d (.int .i64 (getN t dir).size), .d (encB (getN t dir).data), v10]))
   simp only [allO, zco, h1]
  ·simp (maxSteps:=1000000) (disch:=first|assumption|omega|rfl) only [↓vmp, ga, Nat.reduceAdd]
   rw [hx]
   exact zM rfl rfl rfl
 | false =>
  obtain ⟨v', S', c, ha, ho', hfr, hlen⟩ := ap30 ⟨s, ino⟩ ho (by omega)
  obtain ⟨hb', hna'⟩ := hfr _ _ hb hna
  have hx : xs ++ [⟨s, ino⟩] = putA s ino false (getN t dir).names := hx
  have hr' : rowE S' 0 0 = some (.d (zB (getN t dir))) := zF hb'
  have hst := zm9 (a := getN t dir) (v := v') (z13 ho' (by kernel_rfl) (by kernel_rfl)) (z04 ho')
  have hpr := fun y => qB (y := y) hb'
  have hr2 : ∀ y, rowE (S'.set 0 (.row [y] 91)) 0 0 = some y := fun y => zF (jL hb')
  simp (maxSteps:=1000000) (disch:=first|assumption|omega|rfl) only [↓vmp, ga, Nat.reduceAdd, hr, ha, bd88, zlk, hr', hst, hpr, hr2]
  have ho2 := fun y => wN (o := .row [y] 91) ho' hna'
  refine z47 (ds := [.sl (t.map zB), zB { getN t dir with names := xs ++ [⟨s, ino⟩] }]) rfl ?_ (zcd (ho2 _)) (z9f t _ hl) fun S2 => ?_
  ·have h1 := zd6 (a := (getN t dir).ino) (b := (getN t dir).kind) (c := (getN t dir).links) (d := (getN t dir).parent) (e := (getN t dir).size) (f := (getN t dir).data) (ho2 (.agg [.d (.int .i64 (getN t dir).ino), .d (.int .i64 (getN t dir).kind), .d (.int .i64 (getN t dir).links), .d (.int .i64 (getN t dir).parent), .d (.int .i64 (getN t dir).size), .d (encB (getN t dir).data), v']))
   simp only [allO, zco, h1]
  ·simp (maxSteps:=1000000) (disch:=first|assumption|omega|rfl) only [↓vmp, ga, Nat.reduceAdd]
   rw [hx]
   exact zM rfl rfl rfl
end Go.Proofs.Ytghllhghboaagaa
end
section
namespace Go.Vm
open Go
theorem z3e {n d : Nat} {i : Int} (h0 : 0 ≤ i) (h1 : i.toNat ≤ n) : wO n (some (.d (.int .i64 i))) d = some i.toNat := by
 have h2 : i ≤ n := by omega
 simp only [wO, intOf?, h0, h2, if_true, and_self]
theorem z1l {n d : Nat} : wO n none d = some d := rfl
theorem zn7 {P : Program} {S : zA} {t : TypeId} {s : List UInt8} {lo hi : Int} (hu : P.underlying t = some .string) (h0 : 0 ≤ lo) (h1 : lo ≤ hi) (h2 : hi ≤ s.length) :
  jM P S t (.d (.str s)) (some (.d (.int .i64 lo))) (some (.d (.int .i64 hi))) = some (.d (.str ((s.take hi.toNat).drop lo.toNat))) := by
 simp only [jM, hu, z3e (n := s.length) (d := s.length) (i := hi) (by omega) (by omega), z3e (n := hi.toNat) (d := 0) (i := lo) h0 (by omega)]
theorem zt4 {P : Program} {S : zA} {t : TypeId} {s : List UInt8} {i : Nat} (hu : P.underlying t = some .string) (h : i < s.length) :
  jM P S t (.d (.str s)) (some (.d (.int .i64 i))) (some (.d (.int .i64 (i + 1)))) = some (.d (.str [s[i]])) := by
 rw [zn7 hu (by omega) (by omega) (by omega)]
 have : ((i : Int) + 1).toNat = i + 1 := by omega
 rw [this, Int.toNat_natCast, List.take_succ_eq_append_getElem h, List.drop_append, List.drop_eq_nil_of_le (by rw [List.length_take]; omega)]
 simp [Nat.min_eq_left (Nat.le_of_lt h)]
theorem zvd {P : Program} {S : zA} {t e : TypeId} {xs : List D} {lo hi : Int} (hu : P.underlying t = some (.slice e)) (hf : xs.all (z0e P e) = true) (hz : (sz P e).isSome = true) (h0 : 0 ≤ lo) (h1 : lo ≤ hi) (h2 : hi ≤ xs.length) :
  jM P S t (.d (.sl xs)) (some (.d (.int .i64 lo))) (some (.d (.int .i64 hi))) = some (.d (.sl ((xs.take hi.toNat).drop lo.toNat))) := by
 simp only [jM, hu, z3e (n := xs.length) (d := xs.length) (i := hi) (by omega) (by omega), z3e (n := hi.toNat) (d := 0) (i := lo) h0 (by omega), hf, hz, Bool.and_self, if_true]
theorem zqq {P : Program} {S : zA} {t e : TypeId} {xs : List D} {hi : Int} (hu : P.underlying t = some (.slice e)) (hf : xs.all (z0e P e) = true) (hz : (sz P e).isSome = true) (h1 : 0 ≤ hi) (h2 : hi ≤ xs.length) :
  jM P S t (.d (.sl xs)) none (some (.d (.int .i64 hi))) = some (.d (.sl (xs.take hi.toNat))) := by
 simp only [jM, hu, z3e (n := xs.length) (d := xs.length) (i := hi) (by omega) (by omega), z1l, hf, hz, Bool.and_self, if_true, List.drop_zero]
theorem zwi {a b : List UInt8} (h : a.length + b.length ≤ 9223372036854775807) : z25 .add a b = some (.str (a ++ b)) := by simp only [z25, h, if_true]
theorem strOf_mk {l : List UInt8} : strOf ⟨l.toArray⟩ = l := rfl
theorem zs2 {a : List UInt8} {c : UInt8} (h : a.length < 1000000) : z25 .add a [c] = some (.str (a ++ [c])) := zwi (by simp; omega)
theorem zzr {α : Type} {enc : α → D} {P : Program} {S : zA} {t e : TypeId} {v : V} {xs : List α} {i : Nat} (hu : P.underlying t = some (.slice e)) (hf : ∀ a, qH P e (.d (enc a)) = true) (hz : (sz P e).isSome = true) (ho : OwnS S v e (xs.map fun a => .d (enc a))) (h : i < xs.length) :
  ∃ a, qN P S t v (.d (.int .i64 i)) = some a ∧ jZ P S e a = some (.d (enc xs[i])) := by
 have h0 : (0 : Int) ≤ i := by omega
 rcases ho with ⟨rfl, h1⟩ | ⟨id, rfl, h1⟩
 ·have : xs.length = 0 := by simpa using congrArg List.length h1
  omega
 ·refine ⟨.ref id i 0, ?_, ?_⟩
  ·have h2 : ((i : Int) < ((xs.map fun a => V.d (enc a)).length : Int)) := by rw [List.length_map]; omega
   have h3 : rowT S id e = true := by simp only [rowT, h1, beq_self_eq_true]
   simp only [qN, intOf?, hu, h0, h2, h3, hz, and_self, if_true, Int.toNat_natCast, Nat.zero_add]
  ·have h2 : (xs.map fun a => V.d (enc a))[i]? = some (.d (enc xs[i])) := by rw [List.getElem?_map, List.getElem?_eq_getElem h]; rfl
   simp only [jZ, h1, h2, hf, decide_true, Bool.and_self, if_true]
section
variable {C : Cfg} {S : zA} {T : List V} {dst : Option Tmp} {ops : Array Oper} {F : Dfs} {Q : Post} {K : List Nat → List (Nat × Nat) → List V → zA → Prop} {rd : List Nat} {cs : List (Nat × Nat)} {i : Nat}
theorem zfl {f : FuncId} {args : List V} {ds : List D} {v : V} (hs : C.shared f = false) (hf : allO (frz S zO) args = some ds) (hi : (args.flatMap (zZ S zO)).isEmpty = true) (he : Ev C f ds (.ret v)) :
  WpE C ops F Q K rd cs i dst T S (some (.enter f args)) = K (i :: rd) (cs ++ [(i, 1)]) (putT T dst v) S := by
 obtain ⟨n, hn⟩ := he
 have hn' : answer C (run C n) f ds = some (.ret v) := hn
 have hc : jW C (run C n) f args S = some (.ret v, S, 1) := by
  unfold jW
  simp only [hs, Bool.false_eq_true, if_false, hf, hn', hi, if_true]
 apply propext
 constructor
 ·rintro ⟨m, v', S', c, h1, h2, h3⟩
  have := z31 h1 hc
  simp only [Prod.mk.injEq] at this
  obtain ⟨h4, rfl, rfl⟩ := this
  cases h4
  exact h3
 ·exact fun h => ⟨n, _, _, _, hc, fun h => absurd h (by decide), h⟩
theorem z2s {f : FuncId} {ds : List D} {v : V} (hs : C.shared f = false) (he : Ev C f ds (.ret v)) :
  WpE C ops F Q K rd cs i dst T S (some (.enter f (ds.map .d))) = K (i :: rd) (cs ++ [(i, 1)]) (putT T dst v) S := by
 have hfz : ∀ ds : List D, allO (frz S zO) (ds.map V.d) = some ds := by
  intro ds
  induction ds with
  | nil => rfl
  | cons x r ih => simp only [List.map_cons, allO, ih, zco]
 have hid : ∀ ds : List D, ((ds.map V.d).flatMap (zZ S zO)).isEmpty = true := by
  intro ds
  induction ds with
  | nil => rfl
  | cons x r ih => simp only [List.map_cons, List.flatMap_cons, zcb, List.nil_append]; exact ih
 exact zfl hs (hfz ds) (hid ds) he
end
end Go.Vm
end
section
namespace Go.Proofs.Ytghllhghboaagaa
open Go.Vm
theorem z2n {ops : Array Oper} {dst : Option Tmp} {l : List Oper} {T : List V} {S : zA} {F : Dfs} {Q : Post} {t : List Node} {dir : Int} {s : List UInt8} (hl : t.length < 400000) (hn : (getN t dir).names.length < 400000) :
  WpR cfg ops dst l T S F Q (some (.enter 91 [.d (.sl (t.map zB)), .d (.int .i64 dir), .d (.str s)])) = WpL cfg ops l (putT T dst (.d (.sl ((zS t dir s).map zB)))) S F Q :=
 zV (ds := [.sl (t.map zB), .int .i64 dir, .str s]) rfl (zsg t dir s hl (by omega))
theorem z8o {ops : Array Oper} {dst : Option Tmp} {l : List Oper} {T : List V} {S : zA} {F : Dfs} {Q : Post} {t : List Node} {dir ino : Int} {s : List UInt8} (hl : t.length < 400000) (hn : (getN t dir).names.length < 400000) (hs : s.length < 1000000) (hm : ∀ e ∈ (getN t dir).names, e.name.length < 1000000) :
  WpR cfg ops dst l T S F Q (some (.enter 88 [.d (.sl (t.map zB)), .d (.int .i64 dir), .d (.str s), .d (.int .i64 ino)])) = WpL cfg ops l (putT T dst (.d (.sl ((putN t dir s ino).map zB)))) S F Q :=
 zV (ds := [.sl (t.map zB), .int .i64 dir, .str s, .int .i64 ino]) rfl (zqk t dir s ino hl hn hs hm)
def z0r (c : UInt8) : Bool := decide (c ≠ 0 ∧ c ≠ 47)
def wR (s : List UInt8) : Bool := decide (1 ≤ s.length ∧ s.length ≤ 24 ∧ s ≠ [46] ∧ s ≠ [46, 46]) && s.all z0r
theorem u8_c {a : UInt8} {n : Nat} (hn : n < 256) : ((a.toNat : Int) = (n : Int)) ↔ a = UInt8.ofNat n := by
 constructor
 ·intro h
  apply UInt8.toNat_inj.1
  rw [UInt8.toNat_ofNat_of_lt' (by simpa using hn)]
  omega
 ·rintro rfl
  rw [UInt8.toNat_ofNat_of_lt' (by simpa using hn)]
theorem ztx (s : List UInt8) (hl : s.length < 1000000) (R : Post) (S : zA) (g2 : V) : ∀ (k i : Nat) (g4 g5 g6 g7 g8 g9 gH gO gI gD gA gE gF gG gB gC gJ gK gN gL gM gP gQ gU gR gS gT gV gW gX gY gZ : V), s.length - i = k → i ≤ s.length →
 (∀ v3 g4 g5 g6 g7 g8 g9 gH gO gI gD gA gE gF gG gB gC gJ gK gN gL gM gP gQ gU gR gS gT gV gW gX gY gZ, (s.drop i).all z0r = true → R (.exit 0) ((.d (.str s)) :: (.tup []) :: g2 :: v3 :: g4 :: g5 :: g6 :: g7 :: g8 :: g9 :: gH :: gO :: gI :: gD :: gA :: gE :: gF :: gG :: gB :: gC :: gJ :: gK :: gN :: gL :: gM :: gP :: gQ :: gU :: gR :: gS :: gT :: gV :: gW :: gX :: gY :: gZ :: []) S []) →
 (∀ v3 g4 g5 g6 g7 g8 g9 gH gO gI gD gA gE gF gG gB gC gJ gK gN gL gM gP gQ gU gR gS gT gV gW gX gY gZ, (s.drop i).all z0r = false → R .ret ((.d (.str s)) :: (.tup []) :: (.d (.bool false)) :: v3 :: g4 :: g5 :: g6 :: g7 :: g8 :: g9 :: gH :: gO :: gI :: gD :: gA :: gE :: gF :: gG :: gB :: gC :: gJ :: gK :: gN :: gL :: gM :: gP :: gQ :: gU :: gR :: gS :: gT :: gV :: gW :: gX :: gY :: gZ :: []) S []) →
 Wp cfg (.loop (lpOf (Try.f100.body.getD .skip) 0)) ((.d (.str s)) :: (.tup []) :: g2 :: (.d (.int .i64 i)) :: g4 :: g5 :: g6 :: g7 :: g8 :: g9 :: gH :: gO :: gI :: gD :: gA :: gE :: gF :: gG :: gB :: gC :: gJ :: gK :: gN :: gL :: gM :: gP :: gQ :: gU :: gR :: gS :: gT :: gV :: gW :: gX :: gY :: gZ :: []) S [] R := by
 intro k
 induction k with
 | zero =>
  intro i g4 g5 g6 g7 g8 g9 gH gO gI gD gA gE gF gG gB gC gJ gK gN gL gM gP gQ gU gR gS gT gV gW gX gY gZ hk hi hE hR
  have hie : i = s.length := by omega
  subst hie
  rw [qL]
  refine zU ?_
  conv => arg 2; whnf
  simp (maxSteps:=1000000) (disch:=first|assumption|omega|rfl) only [↓vmp, ga, Nat.reduceAdd]
  exact hE _ _ _ _ _ _ _ _ _ _ _ _ _ _ _ _ _ _ _ _ _ _ _ _ _ _ _ _ _ _ _ _ _ (by rw [List.drop_length]; rfl)
 | succ k ih =>
  intro i g4 g5 g6 g7 g8 g9 gH gO gI gD gA gE gF gG gB gC gJ gK gN gL gM gP gQ gU gR gS gT gV gW gX gY gZ hk hi hE hR
  have hlt : i < s.length := by omega
  have hdr : s.drop i = s[i] :: s.drop (i + 1) := List.drop_eq_getElem_cons hlt
  rw [hdr] at hE hR
  have e0 := u8_c (a := s[i]) (n := 0) (by omega)
  have e47 := u8_c (a := s[i]) (n := 47) (by omega)
  rw [qL]
  refine zU ?_
  conv => arg 2; whnf
  by_cases h0 : s[i] = 0
  ·have h0' : ((s[i].toNat : Int)) = 0 := e0.2 h0
   simp (maxSteps:=1000000) (disch:=first|assumption|omega|rfl) only [↓vmp, ga, Nat.reduceAdd, vmg]
   exact hR _ _ _ _ _ _ _ _ _ _ _ _ _ _ _ _ _ _ _ _ _ _ _ _ _ _ _ _ _ _ _ _ _ (by simp [z0r, h0])
  ·have h0' : ¬ ((s[i].toNat : Int)) = 0 := fun h => h0 (e0.1 h)
   by_cases h1 : s[i] = 47
   ·have h1' : ((s[i].toNat : Int)) = 47 := e47.2 h1
    simp (maxSteps:=1000000) (disch:=first|assumption|omega|rfl) only [↓vmp, ga, Nat.reduceAdd, vmg]
    exact hR _ _ _ _ _ _ _ _ _ _ _ _ _ _ _ _ _ _ _ _ _ _ _ _ _ _ _ _ _ _ _ _ _ (by simp [z0r, h1])
   ·have h1' : ¬ ((s[i].toNat : Int)) = 47 := fun h => h1 (e47.1 h)
    simp (maxSteps:=1000000) (disch:=first|assumption|omega|rfl) only [↓vmp, ga, Nat.reduceAdd, vmg]
    have e : (s[i] :: s.drop (i + 1)).all z0r = (s.drop (i + 1)).all z0r := by
     rw [List.all_cons]
     simp [z0r, h0, h1]
    rw [e] at hE hR
    exact ih (i + 1) _ _ _ _ _ _ _ _ _ _ _ _ _ _ _ _ _ _ _ _ _ _ _ _ _ _ _ _ _ _ _ _ (by omega) (by omega) hE hR
theorem znz (s : List UInt8) (hl : s.length < 1000000) : Ev cfg 100 [.str s] (.ret (.d (.bool (wR s)))) := by
 refine kR rfl rfl ztd ?_
 show Wp cfg (Try.f100.body.getD .skip) ((.d (.str s)) :: uZ (uZ (uZ ((.tup []) :: (.tup []) :: (.tup []) :: (.tup []) :: (.tup []) :: [])))) [] [] _
 unfold uZ
 conv => arg 2; whnf
 by_cases h1 : s.length < 1
 ·simp (maxSteps:=1000000) (disch:=first|assumption|omega|rfl) only [↓vmp, ga, Nat.reduceAdd, vmg]
  have : wR s = false := by
   have h : ¬ (1 ≤ s.length ∧ s.length ≤ 24 ∧ s ≠ [46] ∧ s ≠ [46, 46]) := by omega
   simp only [wR, decide_eq_false h, Bool.false_and]
  rw [this]
  exact zM rfl rfl rfl
 by_cases h2 : s.length > 24
 ·simp (maxSteps:=1000000) (disch:=first|assumption|omega|rfl) only [↓vmp, ga, Nat.reduceAdd, vmg]
  have : wR s = false := by
   have h : ¬ (1 ≤ s.length ∧ s.length ≤ 24 ∧ s ≠ [46] ∧ s ≠ [46, 46]) := by omega
   simp only [wR, decide_eq_false h, Bool.false_and]
  rw [this]
  exact zM rfl rfl rfl
 by_cases h3 : s = [46]
 ·simp (maxSteps:=1000000) (disch:=first|assumption|omega|rfl) only [↓vmp, ga, Nat.reduceAdd, vmg, strOf_mk, z3x]
  have : wR s = false := by
   have h : ¬ (1 ≤ s.length ∧ s.length ≤ 24 ∧ s ≠ [46] ∧ s ≠ [46, 46]) := fun h => h.2.2.1 h3
   simp only [wR, decide_eq_false h, Bool.false_and]
  rw [this]
  exact zM rfl rfl rfl
 by_cases h4 : s = [46, 46]
 ·simp (maxSteps:=1000000) (disch:=first|assumption|omega|rfl) only [↓vmp, ga, Nat.reduceAdd, vmg, strOf_mk, z3x]
  have : wR s = false := by
   have h : ¬ (1 ≤ s.length ∧ s.length ≤ 24 ∧ s ≠ [46] ∧ s ≠ [46, 46]) := fun h => h.2.2.2 h4
   simp only [wR, decide_eq_false h, Bool.false_and]
  rw [this]
  exact zM rfl rfl rfl
 have e : wR s = s.all z0r := by
  have h : (1 ≤ s.length ∧ s.length ≤ 24 ∧ s ≠ [46] ∧ s ≠ [46, 46]) := ⟨by omega, by omega, h3, h4⟩
  simp only [wR, decide_eq_true h, Bool.true_and]
 simp (maxSteps:=1000000) (disch:=first|assumption|omega|rfl) only [↓vmp, ga, Nat.reduceAdd, vmg, strOf_mk, z3x]
 refine ztx s hl _ _ _ s.length 0 _ _ _ _ _ _ _ _ _ _ _ _ _ _ _ _ _ _ _ _ _ _ _ _ _ _ _ _ _ _ _ _ rfl (by omega) ?_ ?_
 ·intro v3 g4 g5 g6 g7 g8 g9 gH gO gI gD gA gE gF gG gB gC gJ gK gN gL gM gP gQ gU gR gS gT gV gW gX gY gZ h
  simp (maxSteps:=1000000) (disch:=first|assumption|omega|rfl) only [↓vmp, ga, Nat.reduceAdd]
  rw [e, ← h]
  exact zM rfl rfl rfl
 ·intro v3 g4 g5 g6 g7 g8 g9 gH gO gI gD gA gE gF gG gB gC gJ gK gN gL gM gP gQ gU gR gS gT gV gW gX gY gZ h
  simp (maxSteps:=1000000) (disch:=first|assumption|omega|rfl) only [↓vmp, ga, Nat.reduceAdd]
  rw [e, ← h]
  exact zM rfl rfl rfl
theorem zbu {ops : Array Oper} {dst : Option Tmp} {l : List Oper} {T : List V} {S : zA} {F : Dfs} {Q : Post} {s : List UInt8} (hl : s.length < 1000000) :
  WpR cfg ops dst l T S F Q (some (.enter 100 [.d (.str s)])) = WpL cfg ops l (putT T dst (.d (.bool (wR s)))) S F Q :=
 zV (ds := [.str s]) rfl (znz s hl)
def kU : List UInt8 → List UInt8 → Option (List (List UInt8))
 | part, [] => if part = [] then none else some [part]
 | part, c :: r => if c = 47 then (if part = [] then none else (kU [] r).map (part :: ·)) else kU (part ++ [c]) r
def zL (s : List UInt8) : List (List UInt8) × Int :=
 if s.length < 1 ∨ 200 < s.length ∨ s.head? ≠ some 47 then ([], 15)
 else if s.length = 1 then ([], 0)
 else match kU [] (s.drop 1) with
  | none => ([], 15)
  | some l => if l.all wR then (l, 0) else ([], 3)
theorem zu0 (s : List UInt8) (hl : s.length ≤ 200) (R : Post) (g2 g3 g7 : V) (res : Option (List (List UInt8))) : ∀ (k i : Nat) (part : List UInt8) (xs : List (List UInt8)) (S : zA) (v4 g8 g9 gH gO gI gD gA gE gF gG gB gC gJ gK gN gL gM gP gQ gU gR gS gT gV gW gX gY gZ gf gg gh gi gj gk gm gn gr gz hC xA hH hJ hY hZ xB xC xD xE xF xG xH xI xJ xK xL xM xN xO xP : V), s.length - i = k → i ≤ s.length → part.length ≤ i → xs.length ≤ i →
 OwnS S v4 9 (xs.map fun x => .d (.str x)) → (kU part (s.drop i)).map (xs ++ ·) = res →
 (∀ S v4 l v5 v6 g8 g9 gH gO gI gD gA gE gF gG gB gC gJ gK gN gL gM gP gQ gU gR gS gT gV gW gX gY gZ gf gg gh gi gj gk gm gn gr gz hC xA hH hJ hY hZ xB xC xD xE xF xG xH xI xJ xK xL xM xN xO xP, res = some l → l.length ≤ s.length + 1 → OwnS S v4 9 (l.map fun x => .d (.str x)) → R (.exit 0) ((.d (.str s)) :: (.tup []) :: g2 :: g3 :: v4 :: v5 :: v6 :: g7 :: g8 :: g9 :: gH :: gO :: gI :: gD :: gA :: gE :: gF :: gG :: gB :: gC :: gJ :: gK :: gN :: gL :: gM :: gP :: gQ :: gU :: gR :: gS :: gT :: gV :: gW :: gX :: gY :: gZ :: gf :: gg :: gh :: gi :: gj :: gk :: gm :: gn :: gr :: gz :: hC :: xA :: hH :: hJ :: hY :: hZ :: xB :: xC :: xD :: xE :: xF :: xG :: xH :: xI :: xJ :: xK :: xL :: xM :: xN :: xO :: xP :: []) S []) →
 (∀ S v4 v5 v6 g8 g9 gH gO gI gD gA gE gF gG gB gC gJ gK gN gL gM gP gQ gU gR gS gT gV gW gX gY gZ gf gg gh gi gj gk gm gn gr gz hC xA hH hJ hY hZ xB xC xD xE xF xG xH xI xJ xK xL xM xN xO xP, res = none → R .ret ((.d (.str s)) :: (.tup []) :: (.ts []) :: (.d (.int .i64 15)) :: v4 :: v5 :: v6 :: g7 :: g8 :: g9 :: gH :: gO :: gI :: gD :: gA :: gE :: gF :: gG :: gB :: gC :: gJ :: gK :: gN :: gL :: gM :: gP :: gQ :: gU :: gR :: gS :: gT :: gV :: gW :: gX :: gY :: gZ :: gf :: gg :: gh :: gi :: gj :: gk :: gm :: gn :: gr :: gz :: hC :: xA :: hH :: hJ :: hY :: hZ :: xB :: xC :: xD :: xE :: xF :: xG :: xH :: xI :: xJ :: xK :: xL :: xM :: xN :: xO :: xP :: []) S []) →
 Wp cfg (.loop (lpOf (Try.f61.body.getD .skip) 0)) ((.d (.str s)) :: (.tup []) :: g2 :: g3 :: v4 :: (.d (.str part)) :: (.d (.int .i64 i)) :: g7 :: g8 :: g9 :: gH :: gO :: gI :: gD :: gA :: gE :: gF :: gG :: gB :: gC :: gJ :: gK :: gN :: gL :: gM :: gP :: gQ :: gU :: gR :: gS :: gT :: gV :: gW :: gX :: gY :: gZ :: gf :: gg :: gh :: gi :: gj :: gk :: gm :: gn :: gr :: gz :: hC :: xA :: hH :: hJ :: hY :: hZ :: xB :: xC :: xD :: xE :: xF :: xG :: xH :: xI :: xJ :: xK :: xL :: xM :: xN :: xO :: xP :: []) S [] R := by
 intro k
 induction k with
 | zero =>
  intro i part xs S v4 g8 g9 gH gO gI gD gA gE gF gG gB gC gJ gK gN gL gM gP gQ gU gR gS gT gV gW gX gY gZ gf gg gh gi gj gk gm gn gr gz hC xA hH hJ hY hZ xB xC xD xE xF xG xH xI xJ xK xL xM xN xO xP hk hi hp hx ho hr hE hR
  have hie : i = s.length := by omega
  subst hie
  rw [List.drop_length] at hr
  rw [qL]
  refine zU ?_
  conv => arg 2; whnf
  by_cases h : part = []
  ·simp (maxSteps:=1000000) (disch:=first|assumption|omega|rfl) only [↓vmp, ga, Nat.reduceAdd, vmg, strOf_mk, z3x]
   exact hR _ _ _ _ _ _ _ _ _ _ _ _ _ _ _ _ _ _ _ _ _ _ _ _ _ _ _ _ _ _ _ _ _ _ _ _ _ _ _ _ _ _ _ _ _ _ _ _ _ _ _ _ _ _ _ _ _ _ _ _ _ _ _ (by rw [← hr]; simp [kU, h])
  ·obtain ⟨v', S', c, ha, ho', hfr, hlen⟩ := ap42 part ho (by omega)
   simp (maxSteps:=1000000) (disch:=first|assumption|omega|rfl) only [↓vmp, ga, Nat.reduceAdd, vmg, strOf_mk, z3x, bs42, ha]
   rw [qL]
   refine zU ?_
   conv => arg 2; whnf
   simp (maxSteps:=1000000) (disch:=first|assumption|omega|rfl) only [↓vmp, ga, Nat.reduceAdd]
   refine hE _ _ (xs ++ [part]) _ _ _ _ _ _ _ _ _ _ _ _ _ _ _ _ _ _ _ _ _ _ _ _ _ _ _ _ _ _ _ _ _ _ _ _ _ _ _ _ _ _ _ _ _ _ _ _ _ _ _ _ _ _ _ _ _ _ _ _ _ (by rw [← hr]; simp [kU, h]) (by simp; omega) ho'
 | succ k ih =>
  intro i part xs S v4 g8 g9 gH gO gI gD gA gE gF gG gB gC gJ gK gN gL gM gP gQ gU gR gS gT gV gW gX gY gZ gf gg gh gi gj gk gm gn gr gz hC xA hH hJ hY hZ xB xC xD xE xF xG xH xI xJ xK xL xM xN xO xP hk hi hp hx ho hr hE hR
  have hlt : i < s.length := by omega
  have hdr : s.drop i = s[i] :: s.drop (i + 1) := List.drop_eq_getElem_cons hlt
  rw [hdr] at hr
  have e47 := u8_c (a := s[i]) (n := 47) (by omega)
  rw [qL]
  refine zU ?_
  conv => arg 2; whnf
  by_cases h1 : s[i] = 47
  ·have h1' : ((s[i].toNat : Int)) = 47 := e47.2 h1
   by_cases h : part = []
   ·simp (maxSteps:=1000000) (disch:=first|assumption|omega|rfl) only [↓vmp, ga, Nat.reduceAdd, vmg, strOf_mk, z3x]
    exact hR _ _ _ _ _ _ _ _ _ _ _ _ _ _ _ _ _ _ _ _ _ _ _ _ _ _ _ _ _ _ _ _ _ _ _ _ _ _ _ _ _ _ _ _ _ _ _ _ _ _ _ _ _ _ _ _ _ _ _ _ _ _ _ (by rw [← hr]; simp [kU, h, h1])
   ·obtain ⟨v', S', c, ha, ho', hfr, hlen⟩ := ap42 part ho (by omega)
    simp (maxSteps:=1000000) (disch:=first|assumption|omega|rfl) only [↓vmp, ga, Nat.reduceAdd, vmg, strOf_mk, z3x, bs42, ha]
    exact ih (i + 1) [] (xs ++ [part]) S' v' _ _ _ _ _ _ _ _ _ _ _ _ _ _ _ _ _ _ _ _ _ _ _ _ _ _ _ _ _ _ _ _ _ _ _ _ _ _ _ _ _ _ _ _ _ _ _ _ _ _ _ _ _ _ _ _ _ _ _ (by omega) (by omega) (by simp) (by simp; omega) ho' (by rw [← hr]; simp [kU, h, h1, Option.map_map, Function.comp_def]) hE hR
  ·have h1' : ¬ ((s[i].toNat : Int)) = 47 := fun h => h1 (e47.1 h)
   have hsl := zt4 (S := S) (t := 9) (s := s) (i := i) Try.underlying9 hlt
   simp (maxSteps:=1000000) (disch:=first|assumption|omega|rfl) only [↓vmp, ga, Nat.reduceAdd, vmg, strOf_mk, z3x, hsl, zs2]
   exact ih (i + 1) (part ++ [s[i]]) xs S v4 _ _ _ _ _ _ _ _ _ _ _ _ _ _ _ _ _ _ _ _ _ _ _ _ _ _ _ _ _ _ _ _ _ _ _ _ _ _ _ _ _ _ _ _ _ _ _ _ _ _ _ _ _ _ _ _ _ _ _ (by omega) (by omega) (by simp; omega) (by omega) ho (by rw [← hr]; simp [kU, h1]) hE hR
theorem zrw (xs : List (List UInt8)) (hl : xs.length < 1000000) (hs : ∀ x ∈ xs, x.length < 1000000) (R : Post) (S : zA) (g0 v4 g5 g6 : V) (ho : OwnS S v4 9 (xs.map fun x => .d (.str x))) : ∀ (k i : Nat) (g2 g3 g8 g9 gH gO gI gD gA gE gF gG gB gC gJ gK gN gL gM gP gQ gU gR gS gT gV gW gX gY gZ gf gg gh gi gj gk gm gn gr gz hC xA hH hJ hY hZ xB xC xD xE xF xG xH xI xJ xK xL xM xN xO xP : V), xs.length - i = k → i ≤ xs.length →
 (∀ v7 g2 g3 g8 g9 gH gO gI gD gA gE gF gG gB gC gJ gK gN gL gM gP gQ gU gR gS gT gV gW gX gY gZ gf gg gh gi gj gk gm gn gr gz hC xA hH hJ hY hZ xB xC xD xE xF xG xH xI xJ xK xL xM xN xO xP, (xs.drop i).all wR = true → R (.exit 2) (g0 :: (.tup []) :: g2 :: g3 :: v4 :: g5 :: g6 :: v7 :: g8 :: g9 :: gH :: gO :: gI :: gD :: gA :: gE :: gF :: gG :: gB :: gC :: gJ :: gK :: gN :: gL :: gM :: gP :: gQ :: gU :: gR :: gS :: gT :: gV :: gW :: gX :: gY :: gZ :: gf :: gg :: gh :: gi :: gj :: gk :: gm :: gn :: gr :: gz :: hC :: xA :: hH :: hJ :: hY :: hZ :: xB :: xC :: xD :: xE :: xF :: xG :: xH :: xI :: xJ :: xK :: xL :: xM :: xN :: xO :: xP :: []) S []) →
 (∀ v7 g8 g9 gH gO gI gD gA gE gF gG gB gC gJ gK gN gL gM gP gQ gU gR gS gT gV gW gX gY gZ gf gg gh gi gj gk gm gn gr gz hC xA hH hJ hY hZ xB xC xD xE xF xG xH xI xJ xK xL xM xN xO xP, (xs.drop i).all wR = false → R .ret (g0 :: (.tup []) :: (.ts []) :: (.d (.int .i64 3)) :: v4 :: g5 :: g6 :: v7 :: g8 :: g9 :: gH :: gO :: gI :: gD :: gA :: gE :: gF :: gG :: gB :: gC :: gJ :: gK :: gN :: gL :: gM :: gP :: gQ :: gU :: gR :: gS :: gT :: gV :: gW :: gX :: gY :: gZ :: gf :: gg :: gh :: gi :: gj :: gk :: gm :: gn :: gr :: gz :: hC :: xA :: hH :: hJ :: hY :: hZ :: xB :: xC :: xD :: xE :: xF :: xG :: xH :: xI :: xJ :: xK :: xL :: xM :: xN :: xO :: xP :: []) S []) →
 Wp cfg (.loop (lpOf (Try.f61.body.getD .skip) 2)) (g0 :: (.tup []) :: g2 :: g3 :: v4 :: g5 :: g6 :: (.d (.int .i64 i)) :: g8 :: g9 :: gH :: gO :: gI :: gD :: gA :: gE :: gF :: gG :: gB :: gC :: gJ :: gK :: gN :: gL :: gM :: gP :: gQ :: gU :: gR :: gS :: gT :: gV :: gW :: gX :: gY :: gZ :: gf :: gg :: gh :: gi :: gj :: gk :: gm :: gn :: gr :: gz :: hC :: xA :: hH :: hJ :: hY :: hZ :: xB :: xC :: xD :: xE :: xF :: xG :: xH :: xI :: xJ :: xK :: xL :: xM :: xN :: xO :: xP :: []) S [] R := by
 intro k
 have hlen := ztj (P := Try.prog) (t := 42) Try.underlying42 ho
 rw [List.length_map] at hlen
 induction k with
 | zero =>
  intro i g2 g3 g8 g9 gH gO gI gD gA gE gF gG gB gC gJ gK gN gL gM gP gQ gU gR gS gT gV gW gX gY gZ gf gg gh gi gj gk gm gn gr gz hC xA hH hJ hY hZ xB xC xD xE xF xG xH xI xJ xK xL xM xN xO xP hk hi hE hR
  have hie : i = xs.length := by omega
  subst hie
  rw [qL]
  refine zU ?_
  conv => arg 2; whnf
  simp (maxSteps:=1000000) (disch:=first|assumption|omega|rfl) only [↓vmp, ga, Nat.reduceAdd, hlen]
  exact hE _ _ _ _ _ _ _ _ _ _ _ _ _ _ _ _ _ _ _ _ _ _ _ _ _ _ _ _ _ _ _ _ _ _ _ _ _ _ _ _ _ _ _ _ _ _ _ _ _ _ _ _ _ _ _ _ _ _ _ _ _ _ (by rw [List.drop_length]; rfl)
 | succ k ih =>
  intro i g2 g3 g8 g9 gH gO gI gD gA gE gF gG gB gC gJ gK gN gL gM gP gQ gU gR gS gT gV gW gX gY gZ gf gg gh gi gj gk gm gn gr gz hC xA hH hJ hY hZ xB xC xD xE xF xG xH xI xJ xK xL xM xN xO xP hk hi hE hR
  have hlt : i < xs.length := by omega
  have hdr : xs.drop i = xs[i] :: xs.drop (i + 1) := List.drop_eq_getElem_cons hlt
  rw [hdr] at hE hR
  have hsx : xs[i].length < 1000000 := hs _ (List.getElem_mem hlt)
  obtain ⟨a, h1, h2⟩ := zzr (enc := D.str) (P := Try.prog) (t := 42) Try.underlying42 (fun a => by kernel_rfl) zn6 ho hlt
  rw [qL]
  refine zU ?_
  conv => arg 2; whnf
  cases hc : wR xs[i] with
  | false =>
   simp (maxSteps:=1000000) (disch:=first|assumption|omega|rfl) only [↓vmp, ga, Nat.reduceAdd, hlen, h1, h2, zbu, hc]
   exact hR _ _ _ _ _ _ _ _ _ _ _ _ _ _ _ _ _ _ _ _ _ _ _ _ _ _ _ _ _ _ _ _ _ _ _ _ _ _ _ _ _ _ _ _ _ _ _ _ _ _ _ _ _ _ _ _ _ _ _ _ (by rw [List.all_cons, hc, Bool.false_and])
  | true =>
   simp (maxSteps:=1000000) (disch:=first|assumption|omega|rfl) only [↓vmp, ga, Nat.reduceAdd, hlen, h1, h2, zbu, hc]
   rw [List.all_cons, hc, Bool.true_and] at hE hR
   exact ih (i + 1) _ _ _ _ _ _ _ _ _ _ _ _ _ _ _ _ _ _ _ _ _ _ _ _ _ _ _ _ _ _ _ _ _ _ _ _ _ _ _ _ _ _ _ _ _ _ _ _ _ _ _ _ _ _ _ _ _ _ _ _ _ (by omega) (by omega) hE hR
theorem z7s : ∀ (r part : List UInt8) (l : List (List UInt8)), kU part r = some l → ∀ x ∈ l, x.length ≤ part.length + r.length
 | [], part, l, h, x, hx => by
  by_cases hp : part = []
  ·simp [kU, hp] at h
  ·simp only [kU, hp, if_false, Option.some.injEq] at h
   subst h
   simp only [List.mem_singleton] at hx
   subst hx
   simp
 | c :: r, part, l, h, x, hx => by
  by_cases hc : c = 47
  ·by_cases hp : part = []
   ·simp [kU, hp, hc] at h
   ·simp only [kU, hc, hp, if_true, if_false, Option.map_eq_some_iff] at h
    obtain ⟨l', h1, rfl⟩ := h
    rcases List.mem_cons.1 hx with rfl | h2
    ·simp
    ·have := z7s r [] l' h1 x h2
     simp at this ⊢
     omega
  ·simp only [kU, hc, if_false] at h
   have := z7s r _ l h x hx
   simp at this ⊢
   omega
theorem zoc (s : List UInt8) (hl : s.length < 1000000) : Ev cfg 61 [.str s] (.ret (.tup [.d (.sl ((zL s).1.map .str)), .d (.int .i64 (zL s).2)])) := by
 refine kR rfl rfl zzw ?_
 show Wp cfg (Try.f61.body.getD .skip) ((.d (.str s)) :: uZ (uZ (uZ (uZ (uZ (uZ ((.tup []) :: (.tup []) :: (.tup []) :: (.tup []) :: (.tup []) :: (.tup []) :: []))))))) [] [] _
 unfold uZ
 conv => arg 2; whnf
 by_cases h1 : s.length < 1
 ·have e : zL s = ([], 15) := by simp only [zL, h1, true_or, if_true]
  simp (maxSteps:=1000000) (disch:=first|assumption|omega|rfl) only [↓vmp, ga, Nat.reduceAdd, vmg]
  rw [e]
  exact kM rfl rfl rfl rfl rfl rfl
 by_cases h2 : s.length > 200
 ·have e : zL s = ([], 15) := if_pos (.inr (.inl h2))
  simp (maxSteps:=1000000) (disch:=first|assumption|omega|rfl) only [↓vmp, ga, Nat.reduceAdd, vmg]
  rw [e]
  exact kM rfl rfl rfl rfl rfl rfl
 have hlt : 0 < s.length := by omega
 have hh : s.head? = some s[0] := by rw [List.head?_eq_getElem?, List.getElem?_eq_getElem hlt]
 have hix : z4e Try.prog 9 (.d (.str s)) (.d (.int .i64 0)) = some (.d (.int .u8 s[0].toNat)) := zhf (i := 0) Try.underlying9 hlt
 have e47 := u8_c (a := s[0]) (n := 47) (by omega)
 by_cases h3 : s[0] = 47
 ·have h3' : ((s[0].toNat : Int)) = 47 := e47.2 h3
  have h4 : ¬ (s.length < 1 ∨ 200 < s.length ∨ s.head? ≠ some 47) := by
   rintro (h | h | h)
   ·exact h1 h
   ·exact h2 h
   ·exact h (by rw [hh, h3])
  by_cases h5 : s.length = 1
  ·have e : zL s = ([], 0) := by unfold zL; rw [if_neg h4, if_pos h5]
   simp (maxSteps:=1000000) (disch:=first|assumption|omega|rfl) only [↓vmp, ga, Nat.reduceAdd, vmg, hix]
   rw [e]
   exact kM rfl rfl rfl rfl rfl rfl
  ·simp (maxSteps:=1000000) (disch:=first|assumption|omega|rfl) only [↓vmp, ga, Nat.reduceAdd, vmg, hix, strOf_mk]
   have e : zL s = match kU [] (s.drop 1) with
    | none => ([], 15)
    | some l => if l.all wR then (l, 0) else ([], 3) := by unfold zL; rw [if_neg h4, if_neg h5]
   refine zu0 s (by omega) _ _ _ _ (kU [] (s.drop 1)) (s.length - 1) 1 [] [] [] (.ts []) _ _ _ _ _ _ _ _ _ _ _ _ _ _ _ _ _ _ _ _ _ _ _ _ _ _ _ _ _ _ _ _ _ _ _ _ _ _ _ _ _ _ _ _ _ _ _ _ _ _ _ _ _ _ _ _ _ _ _ rfl (by omega) (by simp) (by simp) OwnS.nil (by simp) ?_ ?_
   ·intro S v4 l v5 v6 g8 g9 gH gO gI gD gA gE gF gG gB gC gJ gK gN gL gM gP gQ gU gR gS gT gV gW gX gY gZ gf gg gh gi gj gk gm gn gr gz hC xA hH hJ hY hZ xB xC xD xE xF xG xH xI xJ xK xL xM xN xO xP hr hll ho
    rw [hr] at e
    simp (maxSteps:=1000000) (disch:=first|assumption|omega|rfl) only [↓vmp, ga, Nat.reduceAdd]
    refine zrw l (by omega) (fun x hx => ?_) _ S _ v4 _ _ ho l.length 0 _ _ _ _ _ _ _ _ _ _ _ _ _ _ _ _ _ _ _ _ _ _ _ _ _ _ _ _ _ _ _ _ _ _ _ _ _ _ _ _ _ _ _ _ _ _ _ _ _ _ _ _ _ _ _ _ _ _ _ _ _ rfl (by omega) ?_ ?_
    ·have := z7s _ _ _ hr x hx
     simp at this
     omega
    ·intro v7 g2 g3 g8 g9 gH gO gI gD gA gE gF gG gB gC gJ gK gN gL gM gP gQ gU gR gS gT gV gW gX gY gZ gf gg gh gi gj gk gm gn gr gz hC xA hH hJ hY hZ xB xC xD xE xF xG xH xI xJ xK xL xM xN xO xP h
     rw [List.drop_zero] at h
     have e2 : zL s = (l, 0) := by rw [e]; simp only [h, if_true]
     simp (maxSteps:=1000000) (disch:=first|assumption|omega|rfl) only [↓vmp, ga, Nat.reduceAdd]
     rw [e2]
     exact kM rfl rfl (z2j ho) rfl (z4t ho) rfl
    ·intro v7 g8 g9 gH gO gI gD gA gE gF gG gB gC gJ gK gN gL gM gP gQ gU gR gS gT gV gW gX gY gZ gf gg gh gi gj gk gm gn gr gz hC xA hH hJ hY hZ xB xC xD xE xF xG xH xI xJ xK xL xM xN xO xP h
     rw [List.drop_zero] at h
     have e2 : zL s = ([], 3) := by rw [e]; simp only [h, Bool.false_eq_true, if_false]
     simp (maxSteps:=1000000) (disch:=first|assumption|omega|rfl) only [↓vmp, ga, Nat.reduceAdd]
     rw [e2]
     exact kM rfl rfl rfl rfl rfl rfl
   ·intro S v4 v5 v6 g8 g9 gH gO gI gD gA gE gF gG gB gC gJ gK gN gL gM gP gQ gU gR gS gT gV gW gX gY gZ gf gg gh gi gj gk gm gn gr gz hC xA hH hJ hY hZ xB xC xD xE xF xG xH xI xJ xK xL xM xN xO xP hr
    rw [hr] at e
    simp (maxSteps:=1000000) (disch:=first|assumption|omega|rfl) only [↓vmp, ga, Nat.reduceAdd]
    rw [e]
    exact kM rfl rfl rfl rfl rfl rfl
 ·have h3' : ¬ ((s[0].toNat : Int)) = 47 := fun h => h3 (e47.1 h)
  have h4 : s.length < 1 ∨ 200 < s.length ∨ s.head? ≠ some 47 := .inr (.inr (by rw [hh]; simp [h3]))
  have e : zL s = ([], 15) := if_pos h4
  simp (maxSteps:=1000000) (disch:=first|assumption|omega|rfl) only [↓vmp, ga, Nat.reduceAdd, vmg, hix]
  rw [e]
  exact kM rfl rfl rfl rfl rfl rfl
theorem z0t {ops : Array Oper} {dst : Option Tmp} {l : List Oper} {T : List V} {S : zA} {F : Dfs} {Q : Post} {s : List UInt8} (hl : s.length < 1000000) :
  WpR cfg ops dst l T S F Q (some (.enter 61 [.d (.str s)])) = WpL cfg ops l (putT T dst (.tup [.d (.sl ((zL s).1.map .str)), .d (.int .i64 (zL s).2)])) S F Q :=
 zV (ds := [.str s]) rfl (zoc s hl)
structure Small (k : Nat) (t : List Node) : Prop where
 len : t.length ≤ k
 nms : ∀ n ∈ t, n.names.length ≤ k
 nam : ∀ n ∈ t, ∀ e ∈ n.names, e.name.length ≤ 200
 lnk : ∀ n ∈ t, -(k : Int) ≤ n.links ∧ n.links ≤ k
 siz : ∀ n ∈ t, 0 ≤ n.size ∧ n.size ≤ 34304 ∧ n.data.length = n.size
theorem jN (t : List Node) (ino : Int) : (getN t ino = zN ∧ ∀ n ∈ t, n.ino ≠ ino) ∨ (getN t ino ∈ t ∧ (getN t ino).ino = ino) := by
 unfold getN
 cases h : t.find? (fun n => decide (n.ino = ino)) with
 | none =>
  refine .inl ⟨rfl, fun n hn hi => ?_⟩
  have := List.find?_eq_none.1 h n hn
  simp [hi] at this
 | some x =>
  refine .inr ⟨List.mem_of_find?_eq_some h, ?_⟩
  have := List.find?_some h
  simpa using this
theorem Small.gnms {k : Nat} {t : List Node} (h : Small k t) (ino : Int) : (getN t ino).names.length ≤ k := by
 rcases jN t ino with ⟨h1, _⟩ | ⟨h1, _⟩
 ·rw [h1]; exact Nat.zero_le _
 ·exact h.nms _ h1
theorem Small.gnam {k : Nat} {t : List Node} (h : Small k t) (ino : Int) : ∀ e ∈ (getN t ino).names, e.name.length ≤ 200 := by
 rcases jN t ino with ⟨h1, _⟩ | ⟨h1, _⟩
 ·rw [h1]; intro e he; exact absurd he (by simp [zN])
 ·exact h.nam _ h1
theorem Small.glnk {k : Nat} {t : List Node} (h : Small k t) (ino : Int) : -(k : Int) ≤ (getN t ino).links ∧ (getN t ino).links ≤ k := by
 rcases jN t ino with ⟨h1, _⟩ | ⟨h1, _⟩
 ·rw [h1]; exact ⟨by simp [zN], by simp [zN]⟩
 ·exact h.lnk _ h1
theorem Small.gsiz {k : Nat} {t : List Node} (h : Small k t) (ino : Int) : 0 ≤ (getN t ino).size ∧ (getN t ino).size ≤ 34304 ∧ (getN t ino).data.length = (getN t ino).size := by
 rcases jN t ino with ⟨h1, _⟩ | ⟨h1, _⟩
 ·rw [h1]; exact ⟨by simp [zN], by simp [zN], by simp [zN]⟩
 ·exact h.siz _ h1
theorem zzu {ops : Array Oper} {F : Dfs} {Q : Post} {K : List Nat → List (Nat × Nat) → List V → zA → Prop} {rd : List Nat} {cs : List (Nat × Nat)} {i : Nat} {dst : Option Tmp} {T : List V} {S : zA} {t : List Node} {ino : Int} (hl : t.length < 1000000) :
  WpE cfg ops F Q K rd cs i dst T S (some (.enter 65 [.d (.sl (t.map zB)), .d (.int .i64 ino)])) = K (i :: rd) (cs ++ [(i, 1)]) (putT T dst (.d (zB (getN t ino)))) S := z2s (ds := [.sl (t.map zB), .int .i64 ino]) rfl (zqu t ino hl)
theorem zrp {ops : Array Oper} {F : Dfs} {Q : Post} {K : List Nat → List (Nat × Nat) → List V → zA → Prop} {rd : List Nat} {cs : List (Nat × Nat)} {i : Nat} {dst : Option Tmp} {T : List V} {S : zA} {n : Node} {s : List UInt8} (hl : n.names.length < 1000000) :
  WpE cfg ops F Q K rd cs i dst T S (some (.enter 87 [.d (zB n), .d (.str s)])) = K (i :: rd) (cs ++ [(i, 1)]) (putT T dst (.d (.int .i64 (qE n.names s)))) S := z2s (ds := [zB n, .str s]) rfl (zkt n s hl)
theorem zra {ops : Array Oper} {F : Dfs} {Q : Post} {K : List Nat → List (Nat × Nat) → List V → zA → Prop} {rd : List Nat} {cs : List (Nat × Nat)} {i : Nat} {dst : Option Tmp} {T : List V} {S : zA} {t : List Node} {dir ino : Int} {s : List UInt8} (hl : t.length < 400000) (hn : (getN t dir).names.length < 400000) (hs : s.length < 1000000) (hm : ∀ e ∈ (getN t dir).names, e.name.length < 1000000) :
  WpE cfg ops F Q K rd cs i dst T S (some (.enter 88 [.d (.sl (t.map zB)), .d (.int .i64 dir), .d (.str s), .d (.int .i64 ino)])) = K (i :: rd) (cs ++ [(i, 1)]) (putT T dst (.d (.sl ((putN t dir s ino).map zB)))) S := z2s (ds := [.sl (t.map zB), .int .i64 dir, .str s, .int .i64 ino]) rfl (zqk t dir s ino hl hn hs hm)
def goN (t : List Node) : List (List UInt8) → Int → Int × Int
 | [], d => (d, 0)
 | p :: r, d => if (getN t d).kind ≠ 2 then (0, 6) else if qE (getN t d).names p < 0 then (0, 4) else goN t r (qE (getN t d).names p)
theorem go_l (t : List Node) (k0 : Nat) (hk0 : k0 < 300000) (hS : Small k0 t) (ps : List (List UInt8)) (hl : ps.length < 1000000) (R : Post) (S : zA) (g4 g5 : V) : ∀ (k i : Nat) (d : Int) (g8 g9 gH gO gI gD gA gE gF gG gB gC gJ gK gN gL gM gP gQ gU gR gS gT gV : V), ps.length - i = k → i ≤ ps.length →
 (∀ d' v7 g8 g9 gH gO gI gD gA gE gF gG gB gC gJ gK gN gL gM gP gQ gU gR gS gT gV, goN t (ps.drop i) d = (d', 0) → R (.exit 0) ((.d (.sl (t.map zB))) :: (.d (.sl (ps.map .str))) :: (.tup []) :: (.tup []) :: g4 :: g5 :: (.d (.int .i64 d')) :: v7 :: g8 :: g9 :: gH :: gO :: gI :: gD :: gA :: gE :: gF :: gG :: gB :: gC :: gJ :: gK :: gN :: gL :: gM :: gP :: gQ :: gU :: gR :: gS :: gT :: gV :: []) S []) →
 (∀ v6 v7 g8 g9 gH gO gI gD gA gE gF gG gB gC gJ gK gN gL gM gP gQ gU gR gS gT gV, R .ret ((.d (.sl (t.map zB))) :: (.d (.sl (ps.map .str))) :: (.tup []) :: (.tup []) :: (.d (.int .i64 (goN t (ps.drop i) d).1)) :: (.d (.int .i64 (goN t (ps.drop i) d).2)) :: v6 :: v7 :: g8 :: g9 :: gH :: gO :: gI :: gD :: gA :: gE :: gF :: gG :: gB :: gC :: gJ :: gK :: gN :: gL :: gM :: gP :: gQ :: gU :: gR :: gS :: gT :: gV :: []) S []) →
 Wp cfg (.loop (lpOf (Try.f62.body.getD .skip) 0)) ((.d (.sl (t.map zB))) :: (.d (.sl (ps.map .str))) :: (.tup []) :: (.tup []) :: g4 :: g5 :: (.d (.int .i64 d)) :: (.d (.int .i64 i)) :: g8 :: g9 :: gH :: gO :: gI :: gD :: gA :: gE :: gF :: gG :: gB :: gC :: gJ :: gK :: gN :: gL :: gM :: gP :: gQ :: gU :: gR :: gS :: gT :: gV :: []) S [] R := by
 have hlt : t.length < 400000 := Nat.lt_of_le_of_lt hS.len (by omega)
 have hlt' : t.length < 1000000 := by omega
 intro k
 induction k with
 | zero =>
  intro i d g8 g9 gH gO gI gD gA gE gF gG gB gC gJ gK gN gL gM gP gQ gU gR gS gT gV hk hi hE hR
  have hie : i = ps.length := by omega
  subst hie
  rw [qL]
  refine zU ?_
  conv => arg 2; whnf
  simp (maxSteps:=1000000) (disch:=first|assumption|omega|rfl) only [↓vmp, ga, Nat.reduceAdd]
  exact hE _ _ _ _ _ _ _ _ _ _ _ _ _ _ _ _ _ _ _ _ _ _ _ _ _ _ (by rw [List.drop_length]; rfl)
 | succ k ih =>
  intro i d g8 g9 gH gO gI gD gA gE gF gG gB gC gJ gK gN gL gM gP gQ gU gR gS gT gV hk hi hE hR
  have hip : i < ps.length := by omega
  have hdr : ps.drop i = ps[i] :: ps.drop (i + 1) := List.drop_eq_getElem_cons hip
  rw [hdr] at hE hR
  have hgn : (getN t d).names.length < 1000000 := Nat.lt_of_le_of_lt (hS.gnms d) (by omega)
  rw [qL]
  refine zU ?_
  conv => arg 2; whnf
  by_cases hc : (getN t d).kind = 2
  ·simp (maxSteps:=1000000) (disch:=first|assumption|omega|rfl) only [↓vmp, ga, Nat.reduceAdd, jS]
   refine qT (is := [0, 1, 3, 4, 5, 6, 2, 7, 8]) (h := 0) (by kernel_rfl) (by kernel_rfl) ?_
   simp (maxSteps:=1000000) (disch:=first|assumption|omega|rfl) only [List.replicate_zero, eq_self, vmd, vmk, vmo, vmg, ga, Nat.reduceAdd, zzu, zrp]
   refine ⟨by kernel_rfl, ?_⟩
   by_cases hn : qE (getN t d).names ps[i] < 0
   ·simp (maxSteps:=1000000) (disch:=first|assumption|omega|rfl) only [↓vmp, ga, Nat.reduceAdd]
    have e : goN t (ps[i] :: ps.drop (i + 1)) d = (0, 4) := by simp only [goN, ne_eq, hc, not_true_eq_false, if_false, hn, if_true]
    rw [e] at hR
    exact hR _ _ _ _ _ _ _ _ _ _ _ _ _ _ _ _ _ _ _ _ _ _ _ _ _ _
   ·simp (maxSteps:=1000000) (disch:=first|assumption|omega|rfl) only [↓vmp, ga, Nat.reduceAdd]
    have e : goN t (ps[i] :: ps.drop (i + 1)) d = goN t (ps.drop (i + 1)) (qE (getN t d).names ps[i]) := by simp only [goN, ne_eq, hc, not_true_eq_false, if_false, hn]
    rw [e] at hE hR
    exact ih (i + 1) _ _ _ _ _ _ _ _ _ _ _ _ _ _ _ _ _ _ _ _ _ _ _ _ _ (by omega) (by omega) hE hR
  ·simp (maxSteps:=1000000) (disch:=first|assumption|omega|rfl) only [↓vmp, ga, Nat.reduceAdd, jS]
   have e : goN t (ps[i] :: ps.drop (i + 1)) d = (0, 6) := by simp only [goN, ne_eq, hc, not_false_eq_true, if_true]
   rw [e] at hR
   exact hR _ _ _ _ _ _ _ _ _ _ _ _ _ _ _ _ _ _ _ _ _ _ _ _ _ _
theorem q0r (t : List Node) (k0 : Nat) (hk0 : k0 < 300000) (hS : Small k0 t) (ps : List (List UInt8)) (hl : ps.length < 1000000) : Ev cfg 62 [.sl (t.map zB), .sl (ps.map .str)] (.ret (.tup [.d (.int .i64 (goN t ps 1).1), .d (.int .i64 (goN t ps 1).2)])) := by
 refine kR rfl rfl q02 ?_
 show Wp cfg (Try.f62.body.getD .skip) ((.d (.sl (t.map zB))) :: (.d (.sl (ps.map .str))) :: uZ (uZ (uZ []))) [] [] _
 unfold uZ
 conv => arg 2; whnf
 simp (maxSteps:=1000000) (disch:=first|assumption|omega|rfl) only [↓vmp, ga, Nat.reduceAdd]
 refine go_l t k0 hk0 hS ps hl _ _ _ _ ps.length 0 1 _ _ _ _ _ _ _ _ _ _ _ _ _ _ _ _ _ _ _ _ _ _ _ _ rfl (by omega) ?_ ?_
 ·intro d' v7 g8 g9 gH gO gI gD gA gE gF gG gB gC gJ gK gN gL gM gP gQ gU gR gS gT gV h
  rw [List.drop_zero] at h
  simp (maxSteps:=1000000) (disch:=first|assumption|omega|rfl) only [↓vmp, ga, Nat.reduceAdd]
  rw [h]
  exact kM rfl rfl rfl rfl rfl rfl
 ·intro v6 v7 g8 g9 gH gO gI gD gA gE gF gG gB gC gJ gK gN gL gM gP gQ gU gR gS gT gV
  simp (maxSteps:=1000000) (disch:=first|assumption|omega|rfl) only [↓vmp, ga, Nat.reduceAdd]
  exact kM rfl rfl rfl rfl rfl rfl
theorem zce {ops : Array Oper} {dst : Option Tmp} {l : List Oper} {T : List V} {S : zA} {F : Dfs} {Q : Post} {t : List Node} {ps : List (List UInt8)} {k0 : Nat} (hS : Small k0 t) (hk0 : k0 < 300000) (hl : ps.length < 1000000) :
  WpR cfg ops dst l T S F Q (some (.enter 62 [.d (.sl (t.map zB)), .d (.sl (ps.map .str))])) = WpL cfg ops l (putT T dst (.tup [.d (.int .i64 (goN t ps 1).1), .d (.int .i64 (goN t ps 1).2)])) S F Q :=
 zV (ds := [.sl (t.map zB), .sl (ps.map .str)]) rfl (q0r t k0 hk0 hS ps hl)
theorem z7j : ∀ (r part : List UInt8) (l : List (List UInt8)), kU part r = some l → l.length ≤ r.length + 1
 | [], part, l, h => by
  by_cases hp : part = []
  ·simp [kU, hp] at h
  ·simp only [kU, hp, if_false, Option.some.injEq] at h
   subst h
   simp
 | c :: r, part, l, h => by
  by_cases hc : c = 47
  ·by_cases hp : part = []
   ·simp [kU, hp, hc] at h
   ·simp only [kU, hc, hp, if_true, if_false, Option.map_eq_some_iff] at h
    obtain ⟨l', h1, rfl⟩ := h
    have := z7j r [] l' h1
    simp
    omega
  ·simp only [kU, hc, if_false] at h
   have := z7j r _ l h
   simp
   omega
theorem z1o (s : List UInt8) : (zL s).1.length ≤ 200 := by
 unfold zL
 by_cases h1 : s.length < 1 ∨ 200 < s.length ∨ s.head? ≠ some 47
 ·rw [if_pos h1]; simp
 ·rw [if_neg h1]
  by_cases h2 : s.length = 1
  ·rw [if_pos h2]; simp
  ·rw [if_neg h2]
   cases h : kU [] (s.drop 1) with
   | none => simp
   | some l =>
    have := z7j _ _ _ h
    simp at this
    simp only
    split
    ·show l.length ≤ 200
     omega
    ·simp
theorem zje (s : List UInt8) : ∀ x ∈ (zL s).1, wR x = true := by
 unfold zL
 by_cases h1 : s.length < 1 ∨ 200 < s.length ∨ s.head? ≠ some 47
 ·rw [if_pos h1]; simp
 ·rw [if_neg h1]
  by_cases h2 : s.length = 1
  ·rw [if_pos h2]; simp
  ·rw [if_neg h2]
   cases h : kU [] (s.drop 1) with
   | none => simp
   | some l =>
    simp only
    split
    ·rename_i ha
     exact fun x hx => List.all_eq_true.1 ha x hx
    ·simp
theorem zk3 {s : List UInt8} (h : wR s = true) : s.length ≤ 24 := by
 simp only [wR, Bool.and_eq_true, decide_eq_true_eq] at h
 exact h.1.2.1
def zE (t : List Node) (s : List UInt8) : Int × Int := if (zL s).2 ≠ 0 then (0, (zL s).2) else goN t (zL s).1 1
theorem zjo (t : List Node) (k0 : Nat) (hk0 : k0 < 300000) (hS : Small k0 t) (s : List UInt8) (hl : s.length < 1000000) : Ev cfg 28 [.sl (t.map zB), .str s] (.ret (.tup [.d (.int .i64 (zE t s).1), .d (.int .i64 (zE t s).2)])) := by
 refine kR rfl rfl zyz ?_
 show Wp cfg (Try.f28.body.getD .skip) ((.d (.sl (t.map zB))) :: (.d (.str s)) :: uZ ((.tup []) :: (.tup []) :: (.tup []) :: (.tup []) :: (.tup []) :: (.tup []) :: (.tup []) :: (.tup []) :: (.tup []) :: [])) [] [] _
 unfold uZ
 conv => arg 2; whnf
 have hn := z1o s
 have hn' : (zL s).1.length < 1000000 := by omega
 by_cases h : (zL s).2 = 0
 ·have e : zE t s = goN t (zL s).1 1 := by simp only [zE, h, ne_eq, not_true_eq_false, if_false]
  simp (maxSteps:=1000000) (disch:=first|assumption|omega|rfl) only [↓vmp, ga, Nat.reduceAdd, vmg, strOf_mk, Option.map_some, Option.map_none, z0t, zce hS hk0]
  rw [e]
  exact kM rfl rfl rfl rfl rfl rfl
 ·have e : zE t s = (0, (zL s).2) := by simp only [zE, h, ne_eq, not_false_eq_true, if_true]
  simp (maxSteps:=1000000) (disch:=first|assumption|omega|rfl) only [↓vmp, ga, Nat.reduceAdd, vmg, strOf_mk, Option.map_some, Option.map_none, z0t]
  rw [e]
  exact kM rfl rfl rfl rfl rfl rfl
def zI (t : List Node) (s : List UInt8) : Int × List UInt8 × Int :=
 if (zL s).2 ≠ 0 then (0, [], (zL s).2)
 else if (zL s).1.length = 0 then (0, [], 15)
 else if (goN t ((zL s).1.take ((zL s).1.length - 1)) 1).2 ≠ 0 then (0, [], (goN t ((zL s).1.take ((zL s).1.length - 1)) 1).2)
 else if (getN t (goN t ((zL s).1.take ((zL s).1.length - 1)) 1).1).kind ≠ 2 then (0, [], 6)
 else ((goN t ((zL s).1.take ((zL s).1.length - 1)) 1).1, (zL s).1.getD ((zL s).1.length - 1) [], 0)
theorem zpu (t : List Node) (k0 : Nat) (hk0 : k0 < 300000) (hS : Small k0 t) (s : List UInt8) (hl : s.length < 1000000) : Ev cfg 30 [.sl (t.map zB), .str s] (.ret (.tup [.d (.int .i64 (zI t s).1), .d (.str (zI t s).2.1), .d (.int .i64 (zI t s).2.2)])) := by
 refine kR rfl rfl zvx ?_
 show Wp cfg (Try.f30.body.getD .skip) ((.d (.sl (t.map zB))) :: (.d (.str s)) :: uZ (uZ (uZ (uZ ((.tup []) :: (.tup []) :: (.tup []) :: (.tup []) :: (.tup []) :: []))))) [] [] _
 unfold uZ
 conv => arg 2; whnf
 have hn := z1o s
 have hlt' : t.length < 1000000 := Nat.lt_of_le_of_lt hS.len (by omega)
 have hw : zI t s = (if (zL s).2 ≠ 0 then (0, [], (zL s).2)
 else if (zL s).1.length = 0 then (0, [], 15)
 else if (goN t ((zL s).1.take ((zL s).1.length - 1)) 1).2 ≠ 0 then (0, [], (goN t ((zL s).1.take ((zL s).1.length - 1)) 1).2)
 else if (getN t (goN t ((zL s).1.take ((zL s).1.length - 1)) 1).1).kind ≠ 2 then (0, [], 6)
 else ((goN t ((zL s).1.take ((zL s).1.length - 1)) 1).1, (zL s).1.getD ((zL s).1.length - 1) [], 0)) := rfl
 by_cases h : (zL s).2 = 0
 ·rw [if_neg (by simp [h])] at hw
  by_cases h0 : (zL s).1.length = 0
  ·rw [if_pos h0] at hw
   simp (maxSteps:=1000000) (disch:=first|assumption|omega|rfl) only [↓vmp, ga, Nat.reduceAdd, vmg, strOf_mk, Option.map_some, Option.map_none, z0t]
   rw [hw]
   exact z0a rfl rfl rfl rfl rfl rfl rfl rfl rfl
  ·rw [if_neg h0] at hw
   have hsl := zqq (S := []) (P := Try.prog) (t := 42) (e := 9) (xs := (zL s).1.map D.str) (hi := ((zL s).1.length : Int) - 1) Try.underlying42 (by simp only [List.all_map, List.all_eq_true]; intro x _; exact zo8 x) zn6 (by omega) (by simp only [List.length_map]; omega)
   rw [← List.map_take, show (((zL s).1.length : Int) - 1).toNat = (zL s).1.length - 1 by omega] at hsl
   have hn' : ((zL s).1.take ((zL s).1.length - 1)).length < 1000000 := by rw [List.length_take]; omega
   by_cases h1 : (goN t ((zL s).1.take ((zL s).1.length - 1)) 1).2 = 0
   ·rw [if_neg (by simp [h1])] at hw
    by_cases h2 : (getN t (goN t ((zL s).1.take ((zL s).1.length - 1)) 1).1).kind = 2
    ·rw [if_neg (by simp [h2])] at hw
     have hlt : (zL s).1.length - 1 < (zL s).1.length := by omega
     have hix := ix42 (S := []) hlt
     rw [show (((zL s).1.length - 1 : Nat) : Int) = ((zL s).1.length : Int) - 1 by omega] at hix
     simp (maxSteps:=1000000) (disch:=first|assumption|omega|rfl) only [↓vmp, ga, Nat.reduceAdd, vmg, strOf_mk, Option.map_some, Option.map_none, z0t, hsl, zce hS hk0, jS]
     refine qT (is := [0, 1, 2, 3, 4, 5, 6, 7, 8, 9]) (h := 0) (by kernel_rfl) (by kernel_rfl) ?_
     simp (maxSteps:=1000000) (disch:=first|assumption|omega|rfl) only [List.replicate_zero, eq_self, vmd, vmk, vmo, vmg, ga, Nat.reduceAdd, hix]
     refine ⟨by kernel_rfl, ?_⟩
     simp (maxSteps:=1000000) (disch:=first|assumption|omega|rfl) only [↓vmp, ga, Nat.reduceAdd]
     rw [hw, List.getD_eq_getElem?_getD, List.getElem?_eq_getElem hlt]
     exact z0a rfl rfl rfl rfl rfl rfl rfl rfl rfl
    ·rw [if_pos h2] at hw
     simp (maxSteps:=1000000) (disch:=first|assumption|omega|rfl) only [↓vmp, ga, Nat.reduceAdd, vmg, strOf_mk, Option.map_some, Option.map_none, z0t, hsl, zce hS hk0, jS]
     rw [hw]
     exact z0a rfl rfl rfl rfl rfl rfl rfl rfl rfl
   ·rw [if_pos h1] at hw
    simp (maxSteps:=1000000) (disch:=first|assumption|omega|rfl) only [↓vmp, ga, Nat.reduceAdd, vmg, strOf_mk, Option.map_some, Option.map_none, z0t, hsl, zce hS hk0]
    rw [hw]
    exact z0a rfl rfl rfl rfl rfl rfl rfl rfl rfl
 ·rw [if_pos h] at hw
  simp (maxSteps:=1000000) (disch:=first|assumption|omega|rfl) only [↓vmp, ga, Nat.reduceAdd, vmg, strOf_mk, Option.map_some, Option.map_none, z0t]
  rw [hw]
  exact z0a rfl rfl rfl rfl rfl rfl rfl rfl rfl
end Go.Proofs.Ytghllhghboaagaa
end
