/- Facts on the program's types, and its functions' bodies: written by mkty.py. -/
import Derived.Test.YtghllhghboaagaaProg
import Derived.Test.YtghllhghboaagaaC05
set_option linter.unusedVariables false
set_option linter.unusedSimpArgs false
set_option maxRecDepth 100000
set_option maxHeartbeats 4000000
set_option linter.defProp false
section
namespace Go.Proofs.Ytghllhghboaagaa
open Go.Vm
def z2f : Out → Option V
 | .ret _ => some (.d (.int .i64 0))
 | .pan (.iface 41 (.d (.int .i64 n))) => some (.d (.int .i64 n))
 | .pan (.d (.iface 41 (.int .i64 n))) => some (.d (.int .i64 n))
 | _ => Option.none
def ze7 : List D → Option Out := fun ds => match ds with | [] => some (.ret (.d (.bool true))) | _ => Option.none
def mask : Nat := 12406011854720023396352
noncomputable def cfg : Cfg := { P := Try.prog, mixed := by kernel_rfl, shared := fun f => Nat.testBit mask f, ext := fun f => match Nat.beq f 16 with | true => some ze7 | false => Option.none, catch_ := fun f => match Nat.beq f 42 with | true => some z2f | false => Option.none }
theorem hP : cfg.P = Try.prog := rfl
def encB (l : List UInt8) : D := .sl (l.map fun b => .int .u8 b.toNat)
theorem ld3 {S : zA} {a : Int} : jV Try.prog S 3 (.d (.ptr (.int .i64 a))) = some (.d (.int .i64 a)) := by kernel_rfl
theorem zo2 (a : Int) : vW Try.prog 5 (.int .u8 a) = true := by kernel_rfl
theorem zp4 (a : Int) : qI Try.prog 5 (.d (.int .u8 a)) = true := by kernel_rfl
theorem ld5 {S : zA} {a : Int} : jV Try.prog S 5 (.d (.ptr (.int .u8 a))) = some (.d (.int .u8 a)) := by kernel_rfl
theorem zo5 (a : (List UInt8)) : vW Try.prog 9 (.str a) = true := by kernel_rfl
theorem ff9 {a : (List UInt8)} : qI Try.prog 9 (.d (.str a)) = true := by kernel_rfl
theorem ld9 {S : zA} {a : (List UInt8)} : jV Try.prog S 9 (.d (.ptr (.str a))) = some (.d (.str a)) := by kernel_rfl
structure Ent where
 name : (List UInt8)
 ino : Int
 deriving DecidableEq
def zI (a : Ent) : D := .agg [.str a.name, .int .i64 a.ino]
theorem zgo (a : Ent) : vW Try.prog 88 (zI a) = true := by kernel_rfl
theorem zg4 (a : Ent) : qI Try.prog 88 (.d (zI a)) = true := by kernel_rfl
theorem z88 : zeroV Try.prog 88 = some (.agg [.d (.str []), .d (.int .i64 0)]) := by kernel_rfl
theorem zf88 : qI Try.prog 88 (.agg [.d (.str []), .d (.int .i64 0)]) = true := by kernel_rfl
theorem zz88  : zeroV Try.prog 88 = some (.agg [.d (.str []), .d (.int .i64 0)]) := z88
theorem q1f {x0 x1 : V} : qI Try.prog 88 (.agg [x0, x1]) = true := by kernel_rfl
theorem lr88 {a : Ent} : kA Try.prog 88 0 (some (.d (zI a))) = some (.d (zI a)) := by kernel_rfl
theorem q1h {a : Ent} {x0 x1 : V} : qW Try.prog 88 0 (.d (zI a)) (.agg [x0, x1]) = some (.d (zI a)) := by kernel_rfl
theorem ld88 {S : zA} {a : Ent} : jV Try.prog S 88 (.d (.ptr (zI a))) = some (.d (zI a)) := by kernel_rfl
theorem zyt {a : Ent} : zL Try.prog 88 0 (.d (.ptr (zI a))) = some (.d (.ptr (.str a.name))) := by kernel_rfl
theorem zve {a : Ent} : kA Try.prog 9 0 (some (.d (zI a))) = some (.d (.str a.name)) := by kernel_rfl
theorem zw1 {j x y : Nat} : zL Try.prog 88 0 (.ref j x y) = some (.ref j x (y + 0)) := by kernel_rfl
theorem zxp {a : Ent} : zL Try.prog 88 1 (.d (.ptr (zI a))) = some (.d (.ptr (.int .i64 a.ino))) := by kernel_rfl
theorem zy0 {a : Ent} : kA Try.prog 3 1 (some (.d (zI a))) = some (.d (.int .i64 a.ino)) := by kernel_rfl
theorem zyu {j x y : Nat} : zL Try.prog 88 1 (.ref j x y) = some (.ref j x (y + 1)) := by kernel_rfl
structure Node where
 ino : Int
 kind : Int
 links : Int
 parent : Int
 size : Int
 data : List UInt8
 names : List Ent
 deriving DecidableEq
def zB (a : Node) : D := .agg [.int .i64 a.ino, .int .i64 a.kind, .int .i64 a.links, .int .i64 a.parent, .int .i64 a.size, encB a.data, .sl (a.names.map zI)]
theorem zpg (a : Node) : vW Try.prog 91 (zB a) = true := by kernel_rfl
theorem z91 : zeroV Try.prog 91 = some (.agg [.d (.int .i64 0), .d (.int .i64 0), .d (.int .i64 0), .d (.int .i64 0), .d (.int .i64 0), .ts [], .ts []]) := by kernel_rfl
theorem zz91  : zeroV Try.prog 91 = some (.agg [.d (.int .i64 0), .d (.int .i64 0), .d (.int .i64 0), .d (.int .i64 0), .d (.int .i64 0), .ts [], .ts []]) := z91
theorem ff91 {a : Node} : qI Try.prog 91 (.d (zB a)) = true := by kernel_rfl
theorem q1t {x0 x1 x2 x3 x4 x5 x6 : V} : qI Try.prog 91 (.agg [x0, x1, x2, x3, x4, x5, x6]) = true := by kernel_rfl
theorem lr91 {a : Node} : kA Try.prog 91 0 (some (.d (zB a))) = some (.d (zB a)) := by kernel_rfl
theorem q0d {x0 x1 x2 x3 x4 x5 x6 : V} : kA Try.prog 91 0 (some (.agg [x0, x1, x2, x3, x4, x5, x6])) = some (.agg [x0, x1, x2, x3, x4, x5, x6]) := by kernel_rfl
theorem q20 {a : Node} {x0 x1 x2 x3 x4 x5 x6 : V} : qW Try.prog 91 0 (.d (zB a)) (.agg [x0, x1, x2, x3, x4, x5, x6]) = some (.d (zB a)) := by kernel_rfl
theorem q0w {x0 x1 x2 x3 x4 x5 x6 y0 y1 y2 y3 y4 y5 y6 : V} : qW Try.prog 91 0 (.agg [x0, x1, x2, x3, x4, x5, x6]) (.agg [y0, y1, y2, y3, y4, y5, y6]) = some (.agg [x0, x1, x2, x3, x4, x5, x6]) := by kernel_rfl
theorem ld91 {S : zA} {a : Node} : jV Try.prog S 91 (.d (.ptr (zB a))) = some (.d (zB a)) := by kernel_rfl
theorem zzj {a : Node} : zL Try.prog 91 0 (.d (.ptr (zB a))) = some (.d (.ptr (.int .i64 a.ino))) := by kernel_rfl
theorem zxg {a : Node} : kA Try.prog 3 0 (some (.d (zB a))) = some (.d (.int .i64 a.ino)) := by kernel_rfl
theorem zqa {x0 x1 x2 x3 x4 x5 x6 : V} : kA Try.prog 3 0 (some (.agg [x0, x1, x2, x3, x4, x5, x6])) = some x0 := by kernel_rfl
theorem zwj {j x y : Nat} : zL Try.prog 91 0 (.ref j x y) = some (.ref j x (y + 0)) := by kernel_rfl
theorem zyz {a : Node} : z6a Try.prog 91 1 (.d (zB a)) = some (.d (.int .i64 a.kind)) := by kernel_rfl
theorem zv0 {a : Node} : kA Try.prog 3 1 (some (.d (zB a))) = some (.d (.int .i64 a.kind)) := by kernel_rfl
theorem zox {x0 x1 x2 x3 x4 x5 x6 : V} {x : Int} : qW Try.prog 3 1 (.d (.int .i64 x)) (.agg [x0, x1, x2, x3, x4, x5, x6]) = some (.agg [x0, .d (.int .i64 x), x2, x3, x4, x5, x6]) := by kernel_rfl
theorem zvn {j x y : Nat} : zL Try.prog 91 1 (.ref j x y) = some (.ref j x (y + 1)) := by kernel_rfl
theorem zty {a : Node} : kA Try.prog 3 2 (some (.d (zB a))) = some (.d (.int .i64 a.links)) := by kernel_rfl
theorem zs7 {x0 x1 x2 x3 x4 x5 x6 : V} : kA Try.prog 3 2 (some (.agg [x0, x1, x2, x3, x4, x5, x6])) = some x2 := by kernel_rfl
theorem zs8 {a : Node} {x : Int} : qW Try.prog 3 2 (.d (.int .i64 x)) (.d (zB a)) = some (.agg [.d (.int .i64 a.ino), .d (.int .i64 a.kind), .d (.int .i64 x), .d (.int .i64 a.parent), .d (.int .i64 a.size), .d (encB a.data), .d (.sl (a.names.map zI))]) := by kernel_rfl
theorem zvz {j x y : Nat} : zL Try.prog 91 2 (.ref j x y) = some (.ref j x (y + 2)) := by kernel_rfl
theorem zwh {a : Node} : z6a Try.prog 91 3 (.d (zB a)) = some (.d (.int .i64 a.parent)) := by kernel_rfl
theorem zw7 {a : Node} : kA Try.prog 3 3 (some (.d (zB a))) = some (.d (.int .i64 a.parent)) := by kernel_rfl
theorem zqk {a : Node} {x : Int} : qW Try.prog 3 3 (.d (.int .i64 x)) (.d (zB a)) = some (.agg [.d (.int .i64 a.ino), .d (.int .i64 a.kind), .d (.int .i64 a.links), .d (.int .i64 x), .d (.int .i64 a.size), .d (encB a.data), .d (.sl (a.names.map zI))]) := by kernel_rfl
theorem zok {x0 x1 x2 x3 x4 x5 x6 : V} {x : Int} : qW Try.prog 3 3 (.d (.int .i64 x)) (.agg [x0, x1, x2, x3, x4, x5, x6]) = some (.agg [x0, x1, x2, .d (.int .i64 x), x4, x5, x6]) := by kernel_rfl
theorem zud {j x y : Nat} : zL Try.prog 91 3 (.ref j x y) = some (.ref j x (y + 3)) := by kernel_rfl
theorem zys {a : Node} : kA Try.prog 3 4 (some (.d (zB a))) = some (.d (.int .i64 a.size)) := by kernel_rfl
theorem zou {x0 x1 x2 x3 x4 x5 x6 : V} {x : Int} : qW Try.prog 3 4 (.d (.int .i64 x)) (.agg [x0, x1, x2, x3, x4, x5, x6]) = some (.agg [x0, x1, x2, x3, .d (.int .i64 x), x5, x6]) := by kernel_rfl
theorem zwy {j x y : Nat} : zL Try.prog 91 4 (.ref j x y) = some (.ref j x (y + 4)) := by kernel_rfl
theorem zun {a : Node} : kA Try.prog 29 5 (some (.d (zB a))) = some (.d (encB a.data)) := by kernel_rfl
theorem zwe {j x y : Nat} : zL Try.prog 91 5 (.ref j x y) = some (.ref j x (y + 5)) := by kernel_rfl
theorem zxr {a : Node} : kA Try.prog 30 6 (some (.d (zB a))) = some (.d (.sl (a.names.map zI))) := by kernel_rfl
theorem zqx {x0 x1 x2 x3 x4 x5 x6 : V} : kA Try.prog 30 6 (some (.agg [x0, x1, x2, x3, x4, x5, x6])) = some x6 := by kernel_rfl
theorem zm9 {a : Node} {v : V} (h1 : qI Try.prog 30 v = true) (h2 : v.cells = [v]) : qW Try.prog 30 6 v (.d (zB a)) = some (.agg [.d (.int .i64 a.ino), .d (.int .i64 a.kind), .d (.int .i64 a.links), .d (.int .i64 a.parent), .d (.int .i64 a.size), .d (encB a.data), v]) := by simp only [qW, h1, h2]; rfl
theorem zzp {j x y : Nat} : zL Try.prog 91 6 (.ref j x y) = some (.ref j x (y + 6)) := by kernel_rfl
theorem zps (a : Node) : vW Try.prog 32 (zB a) = true := by kernel_rfl
theorem zt7 (a : Node) : qI Try.prog 32 (.d (zB a)) = true := by kernel_rfl
theorem z32 : zeroV Try.prog 32 = some (.agg [.d (.int .i64 0), .d (.int .i64 0), .d (.int .i64 0), .d (.int .i64 0), .d (.int .i64 0), .ts [], .ts []]) := by kernel_rfl
theorem zf32 : qI Try.prog 32 (.agg [.d (.int .i64 0), .d (.int .i64 0), .d (.int .i64 0), .d (.int .i64 0), .d (.int .i64 0), .ts [], .ts []]) = true := by kernel_rfl
theorem zz32  : zeroV Try.prog 32 = some (.agg [.d (.int .i64 0), .d (.int .i64 0), .d (.int .i64 0), .d (.int .i64 0), .d (.int .i64 0), .ts [], .ts []]) := z32
theorem ff32 {a : Node} : qI Try.prog 32 (.d (zB a)) = true := by kernel_rfl
theorem zoi {x0 x1 x2 x3 x4 x5 x6 : V} : qI Try.prog 32 (.agg [x0, x1, x2, x3, x4, x5, x6]) = true := by kernel_rfl
theorem lr32 {a : Node} : kA Try.prog 32 0 (some (.d (zB a))) = some (.d (zB a)) := by kernel_rfl
theorem q0c {x0 x1 x2 x3 x4 x5 x6 : V} : kA Try.prog 32 0 (some (.agg [x0, x1, x2, x3, x4, x5, x6])) = some (.agg [x0, x1, x2, x3, x4, x5, x6]) := by kernel_rfl
theorem zzx {a : Node} {x0 x1 x2 x3 x4 x5 x6 : V} : qW Try.prog 32 0 (.d (zB a)) (.agg [x0, x1, x2, x3, x4, x5, x6]) = some (.d (zB a)) := by kernel_rfl
theorem q0a {x0 x1 x2 x3 x4 x5 x6 y0 y1 y2 y3 y4 y5 y6 : V} : qW Try.prog 32 0 (.agg [x0, x1, x2, x3, x4, x5, x6]) (.agg [y0, y1, y2, y3, y4, y5, y6]) = some (.agg [x0, x1, x2, x3, x4, x5, x6]) := by kernel_rfl
theorem ld32 {S : zA} {a : Node} : jV Try.prog S 32 (.d (.ptr (zB a))) = some (.d (zB a)) := by kernel_rfl
theorem zxq {j x y : Nat} : zL Try.prog 32 0 (.ref j x y) = some (.ref j x (y + 0)) := by kernel_rfl
theorem zvk {j x y : Nat} : zL Try.prog 32 1 (.ref j x y) = some (.ref j x (y + 1)) := by kernel_rfl
theorem zyj {j x y : Nat} : zL Try.prog 32 2 (.ref j x y) = some (.ref j x (y + 2)) := by kernel_rfl
theorem zyi {j x y : Nat} : zL Try.prog 32 3 (.ref j x y) = some (.ref j x (y + 3)) := by kernel_rfl
theorem zwc {j x y : Nat} : zL Try.prog 32 4 (.ref j x y) = some (.ref j x (y + 4)) := by kernel_rfl
theorem zpj {a : Node} {v : V} (h1 : qI Try.prog 29 v = true) (h2 : v.cells = [v]) : qW Try.prog 29 5 v (.d (zB a)) = some (.agg [.d (.int .i64 a.ino), .d (.int .i64 a.kind), .d (.int .i64 a.links), .d (.int .i64 a.parent), .d (.int .i64 a.size), v, .d (.sl (a.names.map zI))]) := by simp only [qW, h1, h2]; rfl
theorem zsh {x0 x1 x2 x3 x4 x5 x6 v : V} (h1 : qI Try.prog 29 v = true) (h2 : v.cells = [v]) : qW Try.prog 29 5 v (.agg [x0, x1, x2, x3, x4, x5, x6]) = some (.agg [x0, x1, x2, x3, x4, v, x6]) := by simp only [qW, h1, h2]; rfl
theorem zyp {j x y : Nat} : zL Try.prog 32 5 (.ref j x y) = some (.ref j x (y + 5)) := by kernel_rfl
theorem zff {x0 x1 x2 x3 x4 x5 x6 v : V} (h1 : qI Try.prog 30 v = true) (h2 : v.cells = [v]) : qW Try.prog 30 6 v (.agg [x0, x1, x2, x3, x4, x5, x6]) = some (.agg [x0, x1, x2, x3, x4, x5, v]) := by simp only [qW, h1, h2]; rfl
theorem zzl {j x y : Nat} : zL Try.prog 32 6 (.ref j x y) = some (.ref j x (y + 6)) := by kernel_rfl
structure Ans where
 err : Int
 ino : Int
 kind : Int
 links : Int
 size : Int
 data : List UInt8
 names : List (List UInt8)
 deriving DecidableEq
def zT (a : Ans) : D := .agg [.int .i64 a.err, .int .i64 a.ino, .int .i64 a.kind, .int .i64 a.links, .int .i64 a.size, encB a.data, .sl (a.names.map .str)]
theorem z52 : zeroV Try.prog 52 = some (.agg [.d (.int .i64 0), .d (.int .i64 0), .d (.int .i64 0), .d (.int .i64 0), .d (.int .i64 0), .ts [], .ts []]) := by kernel_rfl
theorem zf52 : qI Try.prog 52 (.agg [.d (.int .i64 0), .d (.int .i64 0), .d (.int .i64 0), .d (.int .i64 0), .d (.int .i64 0), .ts [], .ts []]) = true := by kernel_rfl
theorem zz52  : zeroV Try.prog 52 = some (.agg [.d (.int .i64 0), .d (.int .i64 0), .d (.int .i64 0), .d (.int .i64 0), .d (.int .i64 0), .ts [], .ts []]) := z52
theorem ff52 {a : Ans} : qI Try.prog 52 (.d (zT a)) = true := by kernel_rfl
theorem q00 {x0 x1 x2 x3 x4 x5 x6 : V} : qI Try.prog 52 (.agg [x0, x1, x2, x3, x4, x5, x6]) = true := by kernel_rfl
theorem lr52 {a : Ans} : kA Try.prog 52 0 (some (.d (zT a))) = some (.d (zT a)) := by kernel_rfl
theorem q1g {a : Ans} {x0 x1 x2 x3 x4 x5 x6 : V} : qW Try.prog 52 0 (.d (zT a)) (.agg [x0, x1, x2, x3, x4, x5, x6]) = some (.d (zT a)) := by kernel_rfl
theorem q0l {x0 x1 x2 x3 x4 x5 x6 y0 y1 y2 y3 y4 y5 y6 : V} : qW Try.prog 52 0 (.agg [x0, x1, x2, x3, x4, x5, x6]) (.agg [y0, y1, y2, y3, y4, y5, y6]) = some (.agg [x0, x1, x2, x3, x4, x5, x6]) := by kernel_rfl
theorem zuo {a : Ans} : kA Try.prog 3 0 (some (.d (zT a))) = some (.d (.int .i64 a.err)) := by kernel_rfl
theorem zw5 {j x y : Nat} : zL Try.prog 52 0 (.ref j x y) = some (.ref j x (y + 0)) := by kernel_rfl
theorem zvc {a : Ans} : kA Try.prog 3 1 (some (.d (zT a))) = some (.d (.int .i64 a.ino)) := by kernel_rfl
theorem zx2 {j x y : Nat} : zL Try.prog 52 1 (.ref j x y) = some (.ref j x (y + 1)) := by kernel_rfl
theorem zuy {a : Ans} : kA Try.prog 3 2 (some (.d (zT a))) = some (.d (.int .i64 a.kind)) := by kernel_rfl
theorem zy7 {j x y : Nat} : zL Try.prog 52 2 (.ref j x y) = some (.ref j x (y + 2)) := by kernel_rfl
theorem zwk {a : Ans} : kA Try.prog 3 3 (some (.d (zT a))) = some (.d (.int .i64 a.links)) := by kernel_rfl
theorem zzm {j x y : Nat} : zL Try.prog 52 3 (.ref j x y) = some (.ref j x (y + 3)) := by kernel_rfl
theorem zx4 {a : Ans} : kA Try.prog 3 4 (some (.d (zT a))) = some (.d (.int .i64 a.size)) := by kernel_rfl
theorem zwd {j x y : Nat} : zL Try.prog 52 4 (.ref j x y) = some (.ref j x (y + 4)) := by kernel_rfl
theorem zuw {a : Ans} : kA Try.prog 29 5 (some (.d (zT a))) = some (.d (encB a.data)) := by kernel_rfl
theorem zqr {x0 x1 x2 x3 x4 x5 x6 v : V} (h1 : qI Try.prog 29 v = true) (h2 : v.cells = [v]) : qW Try.prog 29 5 v (.agg [x0, x1, x2, x3, x4, x5, x6]) = some (.agg [x0, x1, x2, x3, x4, v, x6]) := by simp only [qW, h1, h2]; rfl
theorem zx6 {j x y : Nat} : zL Try.prog 52 5 (.ref j x y) = some (.ref j x (y + 5)) := by kernel_rfl
theorem zwz {a : Ans} : kA Try.prog 42 6 (some (.d (zT a))) = some (.d (.sl (a.names.map .str))) := by kernel_rfl
theorem ztm {x0 x1 x2 x3 x4 x5 x6 v : V} (h1 : qI Try.prog 42 v = true) (h2 : v.cells = [v]) : qW Try.prog 42 6 v (.agg [x0, x1, x2, x3, x4, x5, x6]) = some (.agg [x0, x1, x2, x3, x4, x5, v]) := by simp only [qW, h1, h2]; rfl
theorem zub {j x y : Nat} : zL Try.prog 52 6 (.ref j x y) = some (.ref j x (y + 6)) := by kernel_rfl
theorem zv3 (a : Ans) : vW Try.prog 44 (zT a) = true := by kernel_rfl
theorem z44 : zeroV Try.prog 44 = some (.agg [.d (.int .i64 0), .d (.int .i64 0), .d (.int .i64 0), .d (.int .i64 0), .d (.int .i64 0), .ts [], .ts []]) := by kernel_rfl
theorem zf44 : qI Try.prog 44 (.agg [.d (.int .i64 0), .d (.int .i64 0), .d (.int .i64 0), .d (.int .i64 0), .d (.int .i64 0), .ts [], .ts []]) = true := by kernel_rfl
theorem zz44  : zeroV Try.prog 44 = some (.agg [.d (.int .i64 0), .d (.int .i64 0), .d (.int .i64 0), .d (.int .i64 0), .d (.int .i64 0), .ts [], .ts []]) := z44
theorem ff44 {a : Ans} : qI Try.prog 44 (.d (zT a)) = true := by kernel_rfl
theorem q13 {x0 x1 x2 x3 x4 x5 x6 : V} : qI Try.prog 44 (.agg [x0, x1, x2, x3, x4, x5, x6]) = true := by kernel_rfl
theorem lr44 {a : Ans} : kA Try.prog 44 0 (some (.d (zT a))) = some (.d (zT a)) := by kernel_rfl
theorem q01 {a : Ans} {x0 x1 x2 x3 x4 x5 x6 : V} : qW Try.prog 44 0 (.d (zT a)) (.agg [x0, x1, x2, x3, x4, x5, x6]) = some (.d (zT a)) := by kernel_rfl
theorem zwr {a : Ans} : kA Try.prog 41 0 (some (.d (zT a))) = some (.d (.int .i64 a.err)) := by kernel_rfl
theorem zu6 {j x y : Nat} : zL Try.prog 44 0 (.ref j x y) = some (.ref j x (y + 0)) := by kernel_rfl
theorem zz3 {j x y : Nat} : zL Try.prog 44 1 (.ref j x y) = some (.ref j x (y + 1)) := by kernel_rfl
theorem zwi {j x y : Nat} : zL Try.prog 44 2 (.ref j x y) = some (.ref j x (y + 2)) := by kernel_rfl
theorem zwg {j x y : Nat} : zL Try.prog 44 3 (.ref j x y) = some (.ref j x (y + 3)) := by kernel_rfl
theorem zza {j x y : Nat} : zL Try.prog 44 4 (.ref j x y) = some (.ref j x (y + 4)) := by kernel_rfl
theorem zxf {j x y : Nat} : zL Try.prog 44 5 (.ref j x y) = some (.ref j x (y + 5)) := by kernel_rfl
theorem zvd {j x y : Nat} : zL Try.prog 44 6 (.ref j x y) = some (.ref j x (y + 6)) := by kernel_rfl
structure Opn where
 does : Int
 a : (List UInt8)
 b : (List UInt8)
 off : Int
 n : Int
 data : List UInt8
 deriving DecidableEq
def encOpn (a : Opn) : D := .agg [.int .i64 a.does, .str a.a, .str a.b, .int .i64 a.off, .int .i64 a.n, encB a.data]
theorem zw3 (a : Opn) : vW Try.prog 50 (encOpn a) = true := by kernel_rfl
theorem ff50 {a : Opn} : qI Try.prog 50 (.d (encOpn a)) = true := by kernel_rfl
theorem lr50 {a : Opn} : kA Try.prog 50 0 (some (.d (encOpn a))) = some (.d (encOpn a)) := by kernel_rfl
theorem ld50 {S : zA} {a : Opn} : jV Try.prog S 50 (.d (.ptr (encOpn a))) = some (.d (encOpn a)) := by kernel_rfl
theorem zpy {a : Opn} : kA Try.prog 3 0 (some (.d (encOpn a))) = some (.d (.int .i64 a.does)) := by kernel_rfl
theorem zus {j x y : Nat} : zL Try.prog 50 0 (.ref j x y) = some (.ref j x (y + 0)) := by kernel_rfl
theorem zxk {a : Opn} : zL Try.prog 50 1 (.d (.ptr (encOpn a))) = some (.d (.ptr (.str a.a))) := by kernel_rfl
theorem zpv {a : Opn} : kA Try.prog 9 1 (some (.d (encOpn a))) = some (.d (.str a.a)) := by kernel_rfl
theorem zxb {j x y : Nat} : zL Try.prog 50 1 (.ref j x y) = some (.ref j x (y + 1)) := by kernel_rfl
theorem zye {a : Opn} : zL Try.prog 50 2 (.d (.ptr (encOpn a))) = some (.d (.ptr (.str a.b))) := by kernel_rfl
theorem zpm {a : Opn} : kA Try.prog 9 2 (some (.d (encOpn a))) = some (.d (.str a.b)) := by kernel_rfl
theorem zx1 {j x y : Nat} : zL Try.prog 50 2 (.ref j x y) = some (.ref j x (y + 2)) := by kernel_rfl
theorem zpw {a : Opn} : kA Try.prog 3 3 (some (.d (encOpn a))) = some (.d (.int .i64 a.off)) := by kernel_rfl
theorem zw0 {j x y : Nat} : zL Try.prog 50 3 (.ref j x y) = some (.ref j x (y + 3)) := by kernel_rfl
theorem zp1 {a : Opn} : kA Try.prog 3 4 (some (.d (encOpn a))) = some (.d (.int .i64 a.n)) := by kernel_rfl
theorem zzo {j x y : Nat} : zL Try.prog 50 4 (.ref j x y) = some (.ref j x (y + 4)) := by kernel_rfl
theorem zvh {a : Opn} : zL Try.prog 50 5 (.d (.ptr (encOpn a))) = some (.d (.ptr (encB a.data))) := by kernel_rfl
theorem zvf {a : Opn} : kA Try.prog 29 5 (some (.d (encOpn a))) = some (.d (encB a.data)) := by kernel_rfl
theorem zvw {j x y : Nat} : zL Try.prog 50 5 (.ref j x y) = some (.ref j x (y + 5)) := by kernel_rfl
theorem zpr (a : Opn) : vW Try.prog 48 (encOpn a) = true := by kernel_rfl
theorem z48 : zeroV Try.prog 48 = some (.agg [.d (.int .i64 0), .d (.str []), .d (.str []), .d (.int .i64 0), .d (.int .i64 0), .ts []]) := by kernel_rfl
theorem zf48 : qI Try.prog 48 (.agg [.d (.int .i64 0), .d (.str []), .d (.str []), .d (.int .i64 0), .d (.int .i64 0), .ts []]) = true := by kernel_rfl
theorem zz48  : zeroV Try.prog 48 = some (.agg [.d (.int .i64 0), .d (.str []), .d (.str []), .d (.int .i64 0), .d (.int .i64 0), .ts []]) := z48
theorem ff48 {a : Opn} : qI Try.prog 48 (.d (encOpn a)) = true := by kernel_rfl
theorem q1d {x0 x1 x2 x3 x4 x5 : V} : qI Try.prog 48 (.agg [x0, x1, x2, x3, x4, x5]) = true := by kernel_rfl
theorem lr48 {a : Opn} : kA Try.prog 48 0 (some (.d (encOpn a))) = some (.d (encOpn a)) := by kernel_rfl
theorem q1k {a : Opn} {x0 x1 x2 x3 x4 x5 : V} : qW Try.prog 48 0 (.d (encOpn a)) (.agg [x0, x1, x2, x3, x4, x5]) = some (.d (encOpn a)) := by kernel_rfl
theorem q0q {x0 x1 x2 x3 x4 x5 y0 y1 y2 y3 y4 y5 : V} : qW Try.prog 48 0 (.agg [x0, x1, x2, x3, x4, x5]) (.agg [y0, y1, y2, y3, y4, y5]) = some (.agg [x0, x1, x2, x3, x4, x5]) := by kernel_rfl
theorem ld48 {S : zA} {a : Opn} : jV Try.prog S 48 (.d (.ptr (encOpn a))) = some (.d (encOpn a)) := by kernel_rfl
theorem zu2 {j x y : Nat} : zL Try.prog 48 0 (.ref j x y) = some (.ref j x (y + 0)) := by kernel_rfl
theorem zwf {j x y : Nat} : zL Try.prog 48 1 (.ref j x y) = some (.ref j x (y + 1)) := by kernel_rfl
theorem zxs {j x y : Nat} : zL Try.prog 48 2 (.ref j x y) = some (.ref j x (y + 2)) := by kernel_rfl
theorem zyl {j x y : Nat} : zL Try.prog 48 3 (.ref j x y) = some (.ref j x (y + 3)) := by kernel_rfl
theorem zyv {j x y : Nat} : zL Try.prog 48 4 (.ref j x y) = some (.ref j x (y + 4)) := by kernel_rfl
theorem zu5 {j x y : Nat} : zL Try.prog 48 5 (.ref j x y) = some (.ref j x (y + 5)) := by kernel_rfl
theorem zuk : zOk Try.prog 5 = true := by kernel_rfl
theorem zr3 : (sz Try.prog 5).isSome = true := by kernel_rfl
theorem zd5 {m : Nat} (h : m ≤ 1000000) : room Try.prog 5 m = true := z38 rfl (by decide +kernel) h
theorem ix29 {S : zA} {l : List UInt8} {i : Nat} (h : i < l.length) : qM Try.prog S 29 (.d (.sl (l.map (fun b : UInt8 => D.int .u8 b.toNat)))) (.d (.int .i64 i)) = some (.d (.ptr (.int .u8 (l[i].toNat : Int)))) := z9h Try.underlying29 (fun a => zo2 _) h
theorem q15 {S : zA} {xs : List D} : qB Try.prog S .len [29] [.d (.sl xs)] = some (.val (.d (.int .i64 xs.length)) S 0) := z7i Try.underlying29
theorem bs29 {S : zA} {a : Int} : bs1 Try.prog S 29 (.d (.int .u8 a)) = some (.val (.ts [.int .u8 a]) S 0) := by kernel_rfl
theorem ap29 {S : zA} {v : V} {xs : List UInt8} (a : UInt8) (ho : OwnS S v 5 (xs.map fun x => .d (.int .u8 x.toNat))) (hl : xs.length < 1000000) : ∃ v' S' c, qF Try.prog S 29 29 v (.ts [.int .u8 a.toNat]) = some (v', S', c) ∧ OwnS S' v' 5 ((xs ++ [a]).map fun x => .d (.int .u8 x.toNat)) ∧ (∀ j o, S[j]? = some o → NotAt v j → S'[j]? = some o ∧ NotAt v' j) ∧ S.length ≤ S'.length := z0m (enc := fun x : UInt8 => D.int .u8 x.toNat) a Try.underlying29 zuk zr3 (zo2 _) ho (zd5 (by omega))
theorem ztu : zOk Try.prog 88 = true := by kernel_rfl
theorem zww : (sz Try.prog 88).isSome = true := by kernel_rfl
theorem zpo {m : Nat} (h : m ≤ 1000000) : room Try.prog 88 m = true := z38 rfl (by decide +kernel) h
theorem ix30 {S : zA} {l : List Ent} {i : Nat} (h : i < l.length) : qM Try.prog S 30 (.d (.sl (l.map (zI)))) (.d (.int .i64 i)) = some (.d (.ptr ((zI) l[i]))) := z9h Try.underlying30 (zgo) h
theorem q0k {S : zA} {xs : List D} : qB Try.prog S .len [30] [.d (.sl xs)] = some (.val (.d (.int .i64 xs.length)) S 0) := z7i Try.underlying30
theorem bs30 {S : zA} {a : Ent} : bs1 Try.prog S 30 (.d (zI a)) = some (.val (.ts [zI a]) S 0) := by kernel_rfl
theorem ap30 {S : zA} {v : V} {xs : List Ent} (a : Ent) (ho : OwnS S v 88 (xs.map fun x => .d (zI x))) (hl : xs.length < 1000000) : ∃ v' S' c, qF Try.prog S 30 30 v (.ts [zI a]) = some (v', S', c) ∧ OwnS S' v' 88 ((xs ++ [a]).map fun x => .d (zI x)) ∧ (∀ j o, S[j]? = some o → NotAt v j → S'[j]? = some o ∧ NotAt v' j) ∧ S.length ≤ S'.length := z0m a Try.underlying30 ztu zww (zgo a) ho (zpo (by omega))
theorem zy6 : zOk Try.prog 9 = true := by kernel_rfl
theorem zjv : (sz Try.prog 9).isSome = true := by kernel_rfl
theorem zp8 {m : Nat} (h : m ≤ 1000000) : room Try.prog 9 m = true := z38 rfl (by decide +kernel) h
theorem ix42 {S : zA} {l : List (List UInt8)} {i : Nat} (h : i < l.length) : qM Try.prog S 42 (.d (.sl (l.map (D.str)))) (.d (.int .i64 i)) = some (.d (.ptr ((D.str) l[i]))) := z9h Try.underlying42 (fun a => zo5 a) h
theorem zzv {S : zA} {xs : List D} : qB Try.prog S .len [42] [.d (.sl xs)] = some (.val (.d (.int .i64 xs.length)) S 0) := z7i Try.underlying42
theorem bs42 {S : zA} {a : (List UInt8)} : bs1 Try.prog S 42 (.d (.str a)) = some (.val (.ts [.str a]) S 0) := by kernel_rfl
theorem ap42 {S : zA} {v : V} {xs : List (List UInt8)} (a : (List UInt8)) (ho : OwnS S v 9 (xs.map fun x => .d (D.str x))) (hl : xs.length < 1000000) : ∃ v' S' c, qF Try.prog S 42 42 v (.ts [D.str a]) = some (v', S', c) ∧ OwnS S' v' 9 ((xs ++ [a]).map fun x => .d (D.str x)) ∧ (∀ j o, S[j]? = some o → NotAt v j → S'[j]? = some o ∧ NotAt v' j) ∧ S.length ≤ S'.length := z0m a Try.underlying42 zy6 zjv (zo5 a) ho (zp8 (by omega))
theorem q1x : zOk Try.prog 91 = true := by kernel_rfl
theorem zzz : (sz Try.prog 91).isSome = true := by kernel_rfl
theorem zuz {m : Nat} (h : m ≤ 1000000) : room Try.prog 91 m = true := z38 rfl (by decide +kernel) h
theorem ix27 {S : zA} {l : List Node} {i : Nat} (h : i < l.length) : qM Try.prog S 27 (.d (.sl (l.map (zB)))) (.d (.int .i64 i)) = some (.d (.ptr ((zB) l[i]))) := z9h Try.underlying27 (zpg) h
theorem q1z {S : zA} {xs : List D} : qB Try.prog S .len [27] [.d (.sl xs)] = some (.val (.d (.int .i64 xs.length)) S 0) := z7i Try.underlying27
theorem bs27 {S : zA} {a : Node} : bs1 Try.prog S 27 (.d (zB a)) = some (.val (.ts [zB a]) S 0) := by kernel_rfl
theorem ap27 {S : zA} {v : V} {xs : List Node} (a : Node) (ho : OwnS S v 91 (xs.map fun x => .d (zB x))) (hl : xs.length < 1000000) : ∃ v' S' c, qF Try.prog S 27 27 v (.ts [zB a]) = some (v', S', c) ∧ OwnS S' v' 91 ((xs ++ [a]).map fun x => .d (zB x)) ∧ (∀ j o, S[j]? = some o → NotAt v j → S'[j]? = some o ∧ NotAt v' j) ∧ S.length ≤ S'.length := z0m a Try.underlying27 q1x zzz (zpg a) ho (zuz (by omega))
theorem ztt : zOk Try.prog 32 = true := by kernel_rfl
theorem zqi : (sz Try.prog 32).isSome = true := by kernel_rfl
theorem zpz {m : Nat} (h : m ≤ 1000000) : room Try.prog 32 m = true := z38 rfl (by decide +kernel) h
theorem ix25 {S : zA} {l : List Node} {i : Nat} (h : i < l.length) : qM Try.prog S 25 (.d (.sl (l.map (zB)))) (.d (.int .i64 i)) = some (.d (.ptr ((zB) l[i]))) := z9h Try.underlying25 (zps) h
theorem q1j {S : zA} {xs : List D} : qB Try.prog S .len [25] [.d (.sl xs)] = some (.val (.d (.int .i64 xs.length)) S 0) := z7i Try.underlying25
theorem bs25 {S : zA} {a : Node} : bs1 Try.prog S 25 (.d (zB a)) = some (.val (.ts [zB a]) S 0) := by kernel_rfl
theorem ap25 {S : zA} {v : V} {xs : List Node} (a : Node) (ho : OwnS S v 32 (xs.map fun x => .d (zB x))) (hl : xs.length < 1000000) : ∃ v' S' c, qF Try.prog S 25 25 v (.ts [zB a]) = some (v', S', c) ∧ OwnS S' v' 32 ((xs ++ [a]).map fun x => .d (zB x)) ∧ (∀ j o, S[j]? = some o → NotAt v j → S'[j]? = some o ∧ NotAt v' j) ∧ S.length ≤ S'.length := z0m a Try.underlying25 ztt zqi (zps a) ho (zpz (by omega))
theorem ix22 {S : zA} {l : List Opn} {i : Nat} (h : i < l.length) : qM Try.prog S 22 (.d (.sl (l.map (encOpn)))) (.d (.int .i64 i)) = some (.d (.ptr ((encOpn) l[i]))) := z9h Try.underlying22 (zw3) h
theorem zzs {S : zA} {xs : List D} : qB Try.prog S .len [22] [.d (.sl xs)] = some (.val (.d (.int .i64 xs.length)) S 0) := z7i Try.underlying22
theorem q0f {s : List UInt8} {i : Nat} (h : i < s.length) : z46 Try.prog 9 (.d (.str s)) (.d (.int .i64 i)) = some (.d (.int .u8 s[i].toNat)) := zgl Try.underlying9 h
theorem zu0 {S : zA} {s : List UInt8} : qB Try.prog S .len [9] [.d (.str s)] = some (.val (.d (.int .i64 s.length)) S 0) := zrk Try.underlying9
theorem zqh : zC Try.prog 112 = some ⟨Try.f112.body.getD .skip, 28, #[.tmp 4]⟩ := by
 unfold zC
 rw [Try.func112]
 rfl
theorem q1a  : (zC Try.prog 112).isSome = true := by kernel_rfl
theorem zw2 : zC Try.prog 89 = some ⟨Try.f89.body.getD .skip, 52, #[.tmp 4]⟩ := by
 unfold zC
 rw [Try.func89]
 rfl
theorem bo89  : (zC Try.prog 89).isSome = true := by kernel_rfl
theorem zvm : zC Try.prog 65 = some ⟨Try.f65.body.getD .skip, 16, #[.cell 4 91]⟩ := by
 unfold zC
 rw [Try.func65]
 rfl
theorem bo65  : (zC Try.prog 65).isSome = true := by kernel_rfl
theorem zym : zC Try.prog 88 = some ⟨Try.f88.body.getD .skip, 62, #[.tmp 8]⟩ := by
 unfold zC
 rw [Try.func88]
 rfl
theorem bo88  : (zC Try.prog 88).isSome = true := by kernel_rfl
theorem zup : zC Try.prog 91 = some ⟨Try.f91.body.getD .skip, 41, #[.tmp 6]⟩ := by
 unfold zC
 rw [Try.func91]
 rfl
theorem bo91  : (zC Try.prog 91).isSome = true := by kernel_rfl
theorem zum : zC Try.prog 90 = some ⟨Try.f90.body.getD .skip, 22, #[.tmp 4]⟩ := by
 unfold zC
 rw [Try.func90]
 rfl
theorem bo90  : (zC Try.prog 90).isSome = true := by kernel_rfl
theorem zuc : zC Try.prog 92 = some ⟨Try.f92.body.getD .skip, 21, #[.tmp 6]⟩ := by
 unfold zC
 rw [Try.func92]
 rfl
theorem bo92  : (zC Try.prog 92).isSome = true := by kernel_rfl
theorem zyy : zC Try.prog 62 = some ⟨Try.f62.body.getD .skip, 32, #[.tmp 4, .tmp 5]⟩ := by
 unfold zC
 rw [Try.func62]
 rfl
theorem bo62  : (zC Try.prog 62).isSome = true := by kernel_rfl
theorem zxl : zC Try.prog 28 = some ⟨Try.f28.body.getD .skip, 21, #[.tmp 4, .tmp 5]⟩ := by
 unfold zC
 rw [Try.func28]
 rfl
theorem bo28  : (zC Try.prog 28).isSome = true := by kernel_rfl
theorem zx9 : zC Try.prog 30 = some ⟨Try.f30.body.getD .skip, 47, #[.tmp 4, .tmp 5, .tmp 6]⟩ := by
 unfold zC
 rw [Try.func30]
 rfl
theorem bo30  : (zC Try.prog 30).isSome = true := by kernel_rfl
theorem zxw : zC Try.prog 32 = some ⟨Try.f32.body.getD .skip, 11, #[.tmp 2]⟩ := by
 unfold zC
 rw [Try.func32]
 rfl
theorem bo32  : (zC Try.prog 32).isSome = true := by kernel_rfl
theorem zut : zC Try.prog 46 = some ⟨Try.f46.body.getD .skip, 5, #[.cell 2 52]⟩ := by
 unfold zC
 rw [Try.func46]
 rfl
theorem bo46  : (zC Try.prog 46).isSome = true := by kernel_rfl
theorem zvo : zC Try.prog 47 = some ⟨Try.f47.body.getD .skip, 51, #[.tmp 4, .cell 5 52]⟩ := by
 unfold zC
 rw [Try.func47]
 rfl
theorem bo47  : (zC Try.prog 47).isSome = true := by kernel_rfl
theorem zxe : zC Try.prog 48 = some ⟨Try.f48.body.getD .skip, 65, #[.tmp 4, .cell 5 52]⟩ := by
 unfold zC
 rw [Try.func48]
 rfl
theorem bo48  : (zC Try.prog 48).isSome = true := by kernel_rfl
theorem zxy : zC Try.prog 49 = some ⟨Try.f49.body.getD .skip, 74, #[.tmp 4, .cell 5 52]⟩ := by
 unfold zC
 rw [Try.func49]
 rfl
theorem bo49  : (zC Try.prog 49).isSome = true := by kernel_rfl
theorem zvu : zC Try.prog 50 = some ⟨Try.f50.body.getD .skip, 126, #[.tmp 4, .cell 5 52]⟩ := by
 unfold zC
 rw [Try.func50]
 rfl
theorem bo50  : (zC Try.prog 50).isSome = true := by kernel_rfl
theorem ztx : zC Try.prog 51 = some ⟨Try.f51.body.getD .skip, 147, #[.tmp 4, .cell 5 52]⟩ := by
 unfold zC
 rw [Try.func51]
 rfl
theorem bo51  : (zC Try.prog 51).isSome = true := by kernel_rfl
theorem zzb : zC Try.prog 52 = some ⟨Try.f52.body.getD .skip, 61, #[.cell 4 52]⟩ := by
 unfold zC
 rw [Try.func52]
 rfl
theorem bo52  : (zC Try.prog 52).isSome = true := by kernel_rfl
theorem zvb : zC Try.prog 21 = some ⟨Try.f21.body.getD .skip, 60, #[.tmp 4, .cell 5 52]⟩ := by
 unfold zC
 rw [Try.func21]
 rfl
theorem bo21  : (zC Try.prog 21).isSome = true := by kernel_rfl
theorem zv8 : zC Try.prog 18 = some ⟨Try.f18.body.getD .skip, 3, #[.tmp 0]⟩ := by
 unfold zC
 rw [Try.func18]
 rfl
theorem bo18  : (zC Try.prog 18).isSome = true := by kernel_rfl
theorem zxo : zC Try.prog 67 = some ⟨Try.f67.body.getD .skip, 20, #[.tmp 4]⟩ := by
 unfold zC
 rw [Try.func67]
 rfl
theorem bo67  : (zC Try.prog 67).isSome = true := by kernel_rfl
theorem zv9 : zC Try.prog 87 = some ⟨Try.f87.body.getD .skip, 27, #[.tmp 4]⟩ := by
 unfold zC
 rw [Try.func87]
 rfl
theorem bo87  : (zC Try.prog 87).isSome = true := by kernel_rfl
theorem zy8 : zC Try.prog 55 = some ⟨Try.f55.body.getD .skip, 52, #[.tmp 4]⟩ := by
 unfold zC
 rw [Try.func55]
 rfl
theorem bo55  : (zC Try.prog 55).isSome = true := by kernel_rfl
theorem zyk : zC Try.prog 95 = some ⟨Try.f95.body.getD .skip, 26, #[.tmp 4]⟩ := by
 unfold zC
 rw [Try.func95]
 rfl
theorem bo95  : (zC Try.prog 95).isSome = true := by kernel_rfl
theorem zu1 : zC Try.prog 61 = some ⟨Try.f61.body.getD .skip, 67, #[.tmp 2, .tmp 3]⟩ := by
 unfold zC
 rw [Try.func61]
 rfl
theorem bo61  : (zC Try.prog 61).isSome = true := by kernel_rfl
theorem zqo : zC Try.prog 100 = some ⟨Try.f100.body.getD .skip, 36, #[.tmp 2]⟩ := by
 unfold zC
 rw [Try.func100]
 rfl
theorem q09  : (zC Try.prog 100).isSome = true := by kernel_rfl
theorem zt6 : zC Try.prog 111 = some ⟨Try.f111.body.getD .skip, 37, #[.tmp 4]⟩ := by
 unfold zC
 rw [Try.func111]
 rfl
theorem q1r  : (zC Try.prog 111).isSome = true := by kernel_rfl
theorem zvj : zC Try.prog 93 = some ⟨Try.f93.body.getD .skip, 35, #[.tmp 6]⟩ := by
 unfold zC
 rw [Try.func93]
 rfl
theorem bo93  : (zC Try.prog 93).isSome = true := by kernel_rfl
theorem zwv : zC Try.prog 94 = some ⟨Try.f94.body.getD .skip, 46, #[.tmp 6]⟩ := by
 unfold zC
 rw [Try.func94]
 rfl
theorem bo94  : (zC Try.prog 94).isSome = true := by kernel_rfl
theorem zvt : zC Try.prog 53 = some ⟨Try.f53.body.getD .skip, 26, #[.tmp 4]⟩ := by
 unfold zC
 rw [Try.func53]
 rfl
theorem bo53  : (zC Try.prog 53).isSome = true := by kernel_rfl
theorem zvl : zC Try.prog 54 = some ⟨Try.f54.body.getD .skip, 26, #[.tmp 4]⟩ := by
 unfold zC
 rw [Try.func54]
 rfl
theorem bo54  : (zC Try.prog 54).isSome = true := by kernel_rfl
theorem zz9 : zC Try.prog 45 = some ⟨Try.f45.body.getD .skip, 17, #[.tmp 2]⟩ := by
 unfold zC
 rw [Try.func45]
 rfl
theorem bo45  : (zC Try.prog 45).isSome = true := by kernel_rfl
theorem zxn : zC Try.prog 10 = some ⟨Try.f10.body.getD .skip, 41, #[.tmp 4]⟩ := by
 unfold zC
 rw [Try.func10]
 rfl
theorem bo10  : (zC Try.prog 10).isSome = true := by kernel_rfl
theorem zxh : zC Try.prog 22 = some ⟨Try.f22.body.getD .skip, 52, #[.tmp 4]⟩ := by
 unfold zC
 rw [Try.func22]
 rfl
theorem bo22  : (zC Try.prog 22).isSome = true := by kernel_rfl
theorem zz7 : zC Try.prog 20 = some ⟨Try.f20.body.getD .skip, 18, #[.cell 2 48]⟩ := by
 unfold zC
 rw [Try.func20]
 rfl
theorem bo20  : (zC Try.prog 20).isSome = true := by kernel_rfl
theorem zyr : zC Try.prog 23 = some ⟨Try.f23.body.getD .skip, 18, #[.cell 2 52]⟩ := by
 unfold zC
 rw [Try.func23]
 rfl
theorem bo23  : (zC Try.prog 23).isSome = true := by kernel_rfl
theorem zvg : zC Try.prog 24 = some ⟨Try.f24.body.getD .skip, 27, #[.tmp 4]⟩ := by
 unfold zC
 rw [Try.func24]
 rfl
theorem bo24  : (zC Try.prog 24).isSome = true := by kernel_rfl
theorem zpf : zC Try.prog 40 = some ⟨Try.f40.body.getD .skip, 34, #[.tmp 2]⟩ := by
 unfold zC
 rw [Try.func40]
 rfl
theorem bo40  : (zC Try.prog 40).isSome = true := by kernel_rfl
theorem zx7 : zC Try.prog 66 = some ⟨Try.f66.body.getD .skip, 20, #[.tmp 2]⟩ := by
 unfold zC
 rw [Try.func66]
 rfl
theorem bo66  : (zC Try.prog 66).isSome = true := by kernel_rfl
theorem zqz : zC Try.prog 105 = some ⟨Try.f105.body.getD .skip, 22, #[.tmp 4, .tmp 5]⟩ := by
 unfold zC
 rw [Try.func105]
 rfl
theorem q02  : (zC Try.prog 105).isSome = true := by kernel_rfl
theorem zxd : zC Try.prog 99 = some ⟨Try.f99.body.getD .skip, 47, #[.cell 4 32]⟩ := by
 unfold zC
 rw [Try.func99]
 rfl
theorem bo99  : (zC Try.prog 99).isSome = true := by kernel_rfl
theorem zyd : zC Try.prog 60 = some ⟨Try.f60.body.getD .skip, 17, #[.cell 4 32]⟩ := by
 unfold zC
 rw [Try.func60]
 rfl
theorem bo60  : (zC Try.prog 60).isSome = true := by kernel_rfl
theorem zzf : zC Try.prog 64 = some ⟨Try.f64.body.getD .skip, 27, #[.cell 4 32, .tmp 5]⟩ := by
 unfold zC
 rw [Try.func64]
 rfl
theorem bo64  : (zC Try.prog 64).isSome = true := by kernel_rfl
theorem q19  : (zC Try.prog 102).isSome = true := by kernel_rfl
theorem bo98  : (zC Try.prog 98).isSome = true := by kernel_rfl
theorem zvr : zC Try.prog 97 = some ⟨Try.f97.body.getD .skip, 45, #[.tmp 2, .tmp 3]⟩ := by
 unfold zC
 rw [Try.func97]
 rfl
theorem bo97  : (zC Try.prog 97).isSome = true := by kernel_rfl
theorem zqb : zC Try.prog 101 = some ⟨Try.f101.body.getD .skip, 29, #[.tmp 2, .tmp 3, .tmp 4]⟩ := by
 unfold zC
 rw [Try.func101]
 rfl
theorem q0g  : (zC Try.prog 101).isSome = true := by kernel_rfl
theorem zqj : zC Try.prog 113 = some ⟨Try.f113.body.getD .skip, 34, #[.tmp 2]⟩ := by
 unfold zC
 rw [Try.func113]
 rfl
theorem q1m  : (zC Try.prog 113).isSome = true := by kernel_rfl
theorem zyc : zC Try.prog 96 = some ⟨Try.f96.body.getD .skip, 36, #[.tmp 2]⟩ := by
 unfold zC
 rw [Try.func96]
 rfl
theorem bo96  : (zC Try.prog 96).isSome = true := by kernel_rfl
def ty :=
 And.intro @ld3 <|
 And.intro @ld5 <|
 And.intro @ld9 <|
 And.intro @zz88 <|
 And.intro @q1f <|
 And.intro @lr88 <|
 And.intro @q1h <|
 And.intro @ld88 <|
 And.intro @zyt <|
 And.intro @zve <|
 And.intro @zw1 <|
 And.intro @zxp <|
 And.intro @zy0 <|
 And.intro @zyu <|
 And.intro @zz91 <|
 And.intro @ff91 <|
 And.intro @q1t <|
 And.intro @lr91 <|
 And.intro @q0d <|
 And.intro @q20 <|
 And.intro @q0w <|
 And.intro @ld91 <|
 And.intro @zzj <|
 And.intro @zxg <|
 And.intro @zqa <|
 And.intro @zwj <|
 And.intro @zyz <|
 And.intro @zv0 <|
 And.intro @zox <|
 And.intro @zvn <|
 And.intro @zty <|
 And.intro @zs7 <|
 And.intro @zs8 <|
 And.intro @zvz <|
 And.intro @zwh <|
 And.intro @zw7 <|
 And.intro @zqk <|
 And.intro @zok <|
 And.intro @zud <|
 And.intro @zys <|
 And.intro @zou <|
 And.intro @zwy <|
 And.intro @zun <|
 And.intro @zwe <|
 And.intro @zxr <|
 And.intro @zqx <|
 And.intro @zzp <|
 And.intro @zz32 <|
 And.intro @ff32 <|
 And.intro @zoi <|
 And.intro @lr32 <|
 And.intro @q0c <|
 And.intro @zzx <|
 And.intro @q0a <|
 And.intro @ld32 <|
 And.intro @zxq <|
 And.intro @zvk <|
 And.intro @zyj <|
 And.intro @zyi <|
 And.intro @zwc <|
 And.intro @zyp <|
 And.intro @zzl <|
 And.intro @zz52 <|
 And.intro @ff52 <|
 And.intro @q00 <|
 And.intro @lr52 <|
 And.intro @q1g <|
 And.intro @q0l <|
 And.intro @zuo <|
 And.intro @zw5 <|
 And.intro @zvc <|
 And.intro @zx2 <|
 And.intro @zuy <|
 And.intro @zy7 <|
 And.intro @zwk <|
 And.intro @zzm <|
 And.intro @zx4 <|
 And.intro @zwd <|
 And.intro @zuw <|
 And.intro @zx6 <|
 And.intro @zwz <|
 And.intro @zub <|
 And.intro @zz44 <|
 And.intro @ff44 <|
 And.intro @q13 <|
 And.intro @lr44 <|
 And.intro @q01 <|
 And.intro @zwr <|
 And.intro @zu6 <|
 And.intro @zz3 <|
 And.intro @zwi <|
 And.intro @zwg <|
 And.intro @zza <|
 And.intro @zxf <|
 And.intro @zvd <|
 And.intro @ff50 <|
 And.intro @lr50 <|
 And.intro @ld50 <|
 And.intro @zpy <|
 And.intro @zus <|
 And.intro @zxk <|
 And.intro @zpv <|
 And.intro @zxb <|
 And.intro @zye <|
 And.intro @zpm <|
 And.intro @zx1 <|
 And.intro @zpw <|
 And.intro @zw0 <|
 And.intro @zp1 <|
 And.intro @zzo <|
 And.intro @zvh <|
 And.intro @zvf <|
 And.intro @zvw <|
 And.intro @zz48 <|
 And.intro @ff48 <|
 And.intro @q1d <|
 And.intro @lr48 <|
 And.intro @q1k <|
 And.intro @q0q <|
 And.intro @ld48 <|
 And.intro @zu2 <|
 And.intro @zwf <|
 And.intro @zxs <|
 And.intro @zyl <|
 And.intro @zyv <|
 And.intro @zu5 <|
 And.intro @bs29 <|
 And.intro @ix30 <|
 And.intro @q0k <|
 And.intro @bs30 <|
 And.intro @ix42 <|
 And.intro @zzv <|
 And.intro @bs42 <|
 And.intro @ix27 <|
 And.intro @q1z <|
 And.intro @bs27 <|
 And.intro @ix25 <|
 And.intro @q1j <|
 And.intro @bs25 <|
 And.intro @ix22 <|
 And.intro @zzs <|
 And.intro @q0f <|
 And.intro @zu0 <|
 And.intro @q1a <|
 And.intro @bo89 <|
 And.intro @bo65 <|
 And.intro @bo88 <|
 And.intro @bo91 <|
 And.intro @bo90 <|
 And.intro @bo92 <|
 And.intro @bo62 <|
 And.intro @bo28 <|
 And.intro @bo30 <|
 And.intro @bo32 <|
 And.intro @bo46 <|
 And.intro @bo47 <|
 And.intro @bo48 <|
 And.intro @bo49 <|
 And.intro @bo50 <|
 And.intro @bo51 <|
 And.intro @bo52 <|
 And.intro @bo21 <|
 And.intro @bo18 <|
 And.intro @bo67 <|
 And.intro @bo87 <|
 And.intro @bo55 <|
 And.intro @bo95 <|
 And.intro @bo61 <|
 And.intro @q09 <|
 And.intro @q1r <|
 And.intro @bo93 <|
 And.intro @bo94 <|
 And.intro @bo53 <|
 And.intro @bo54 <|
 And.intro @bo45 <|
 And.intro @bo10 <|
 And.intro @bo22 <|
 And.intro @bo20 <|
 And.intro @bo23 <|
 And.intro @bo24 <|
 And.intro @bo40 <|
 And.intro @bo66 <|
 And.intro @q02 <|
 And.intro @bo99 <|
 And.intro @bo60 <|
 And.intro @bo64 <|
 And.intro @q19 <|
 And.intro @bo98 <|
 And.intro @bo97 <|
 And.intro @q0g <|
 And.intro @q1m @bo96
def ga :=
 And.intro @vme <| And.intro @vmb <| And.intro @ty <| And.intro hP <| And.intro @q0i <| And.intro @q0y <| And.intro @wrap64 <| And.intro @List.length_map.{0,0} Int.toNat_natCast
def gb :=
 And.intro ga <| And.intro @List.cons_append.{0} <| And.intro @List.nil_append.{0} <| And.intro @Option.map_some.{0,0} <| And.intro @Option.map_none.{0,0} <| And.intro @z40 <| And.intro @zmi vmg
def uZ (l : List V) : List V := (.tup []) :: (.tup []) :: (.tup []) :: (.tup []) :: (.tup []) :: (.tup []) :: (.tup []) :: (.tup []) :: (.tup []) :: (.tup []) :: l
theorem zvp (t : List Node) (ino : Int) (hl : t.length < 1000000) (R : Post) (g4 : V) : ∀ (k i : Nat) (xs : List Node) (S : zA) (v5 g7 g8 g9 gI gJ gF gA gB gG gH gC gD gE gK gL gO gM gN gP gQ gV : V),
 t.length - i = k → i ≤ t.length → OwnS S v5 91 (xs.map fun n => .d (zB n)) → xs = (t.take i).filter (fun n => n.ino ≠ ino) →
 (∀ S v5 i g7 g8 g9 gI gJ gF gA gB gG gH gC gD gE gK gL gO gM gN gP gQ gV, OwnS S v5 91 ((t.filter (fun n => n.ino ≠ ino)).map fun n => .d (zB n)) → R (.exit 0) ((.d (.sl (t.map zB))) :: (.d (.int .i64 ino)) :: (.tup []) :: (.tup []) :: g4 :: v5 :: i :: g7 :: g8 :: g9 :: gI :: gJ :: gF :: gA :: gB :: gG :: gH :: gC :: gD :: gE :: gK :: gL :: gO :: gM :: gN :: gP :: gQ :: gV :: []) S []) →
 Wp cfg (.loop (lpOf (Try.f112.body.getD .skip) 0)) ((.d (.sl (t.map zB))) :: (.d (.int .i64 ino)) :: (.tup []) :: (.tup []) :: g4 :: v5 :: (.d (.int .i64 i)) :: g7 :: g8 :: g9 :: gI :: gJ :: gF :: gA :: gB :: gG :: gH :: gC :: gD :: gE :: gK :: gL :: gO :: gM :: gN :: gP :: gQ :: gV :: []) S [] R := by
 intro k
 induction k with
 | zero =>
  intro i xs S v5 g7 g8 g9 gI gJ gF gA gB gG gH gC gD gE gK gL gO gM gN gP gQ gV hk hi ho hx hR
  have hie : i = t.length := by omega
  subst hie
  rw [qK]
  refine zS ?_
  conv => arg 2; whnf
  simp (maxSteps:=1000000) (disch:=first|assumption|omega|rfl) only [↓vmp, ga, Nat.reduceAdd]
  rw [List.take_length] at hx
  subst hx
  exact hR _ _ _ _ _ _ _ _ _ _ _ _ _ _ _ _ _ _ _ _ _ _ _ _ ho
 | succ k ih =>
  intro i xs S v5 g7 g8 g9 gI gJ gF gA gB gG gH gC gD gE gK gL gO gM gN gP gQ gV hk hi ho hx hR
  have hlt : i < t.length := by omega
  have htk : t.take (i + 1) = t.take i ++ [t[i]] := by rw [List.take_succ_eq_append_getElem hlt]
  rw [qK]
  refine zS ?_
  conv => arg 2; whnf
  by_cases hc : t[i].ino ≠ ino
  ·have hxl : xs.length ≤ i := by rw [hx]; exact Nat.le_trans (List.length_filter_le _ _) (by simp; omega)
   obtain ⟨v', S', c, ha, ho', hfr, hlen⟩ := ap27 t[i] ho (by omega)
   simp (maxSteps:=1000000) (disch:=first|assumption|omega|rfl) only [↓vmp, ga, Nat.reduceAdd, ha]
   exact ih (i + 1) (xs ++ [t[i]]) S' v' _ _ _ _ _ _ _ _ _ _ _ _ _ _ _ _ _ _ _ _ _ (by omega) (by omega) ho' (by rw [htk, List.filter_append, hx]; simp [hc]) hR
  ·simp (maxSteps:=1000000) (disch:=first|assumption|omega|rfl) only [↓vmp, ga, Nat.reduceAdd]
   exact ih (i + 1) xs S v5 _ _ _ _ _ _ _ _ _ _ _ _ _ _ _ _ _ _ _ _ _ (by omega) (by omega) ho (by rw [htk, List.filter_append, hx]; simp [hc]) hR
theorem zrz (t : List Node) (ino : Int) (hl : t.length < 1000000) : Ev cfg 112 [.sl (t.map zB), .int .i64 ino] (.ret (.d (.sl ((t.filter (fun n => n.ino ≠ ino)).map zB)))) := by
 refine kQ rfl rfl zqh ?_
 show Wp cfg (Try.f112.body.getD .skip) ((.d (.sl (t.map zB))) :: (.d (.int .i64 ino)) :: uZ (uZ ((.tup []) :: (.tup []) :: (.tup []) :: (.tup []) :: (.tup []) :: (.tup []) :: []))) [] [] _
 unfold uZ
 conv => arg 2; whnf
 simp (maxSteps:=1000000) (disch:=first|assumption|omega|rfl) only [↓vmp, ga, Nat.reduceAdd]
 refine zvp t ino hl _ _ t.length 0 [] [] _ _ _ _ _ _ _ _ _ _ _ _ _ _ _ _ _ _ _ _ _ _ rfl (by omega) OwnS.nil rfl ?_
 intro S v5 i g7 g8 g9 gI gJ gF gA gB gG gH gC gD gE gK gL gO gM gN gP gQ gV ho
 simp (maxSteps:=1000000) (disch:=first|assumption|omega|rfl) only [↓vmp, ga, Nat.reduceAdd]
 exact zV rfl (z19 ho) (z1e ho)
def wG (n : Node) : Bool → List Node → List Node
 | put, [] => if put then [] else [n]
 | put, x :: r => (if put = false ∧ n.ino ≤ x.ino then [n] else []) ++ (if x.ino ≠ n.ino then [x] else []) ++ wG n (put || decide (n.ino ≤ x.ino)) r
def qT (t : List Node) (n : Node) : List Node := wG n false t
theorem zui (t : List Node) (n : Node) (hl : t.length < 400000) (R : Post) (g4 : V) : ∀ (k i : Nat) (put : Bool) (xs : List Node) (S : zA) (v5 g8 g9 gI gJ gF gA gB gG gH gC gD gE gK gL gO gM gN gP gQ gV gR gS gT gU gW gX gY gZ gf gg gh gi gj gk gm gn gr gz hC hH hJ hY hZ xA : V),
 t.length - i = k → i ≤ t.length → xs.length ≤ 2 * i → OwnS S v5 91 (xs.map fun n => .d (zB n)) → S[0]? = some (.row [.d (zB n)] 91) → NotAt v5 0 →
 (∀ S v5 put' xs' g8 g9 gI gJ gF gA gB gG gH gC gD gE gK gL gO gM gN gP gQ gV gR gS gT gU gW gX gY gZ gf gg gh gi gj gk gm gn gr gz hC hH hJ hY hZ xA, xs'.length ≤ 2 * t.length → OwnS S v5 91 (xs'.map fun n => .d (zB n)) → xs' ++ (if put' then [] else [n]) = xs ++ wG n put (t.drop i) → S[0]? = some (.row [.d (zB n)] 91) → NotAt v5 0 → R (.exit 0) ((.d (.sl (t.map zB))) :: (.d (zB n)) :: (.tup []) :: (.ref 0 0 0) :: g4 :: v5 :: (.d (.bool put')) :: (.d (.int .i64 t.length)) :: g8 :: g9 :: gI :: gJ :: gF :: gA :: gB :: gG :: gH :: gC :: gD :: gE :: gK :: gL :: gO :: gM :: gN :: gP :: gQ :: gV :: gR :: gS :: gT :: gU :: gW :: gX :: gY :: gZ :: gf :: gg :: gh :: gi :: gj :: gk :: gm :: gn :: gr :: gz :: hC :: hH :: hJ :: hY :: hZ :: xA :: []) S []) →
 Wp cfg (.loop (lpOf (Try.f89.body.getD .skip) 0)) ((.d (.sl (t.map zB))) :: (.d (zB n)) :: (.tup []) :: (.ref 0 0 0) :: g4 :: v5 :: (.d (.bool put)) :: (.d (.int .i64 i)) :: g8 :: g9 :: gI :: gJ :: gF :: gA :: gB :: gG :: gH :: gC :: gD :: gE :: gK :: gL :: gO :: gM :: gN :: gP :: gQ :: gV :: gR :: gS :: gT :: gU :: gW :: gX :: gY :: gZ :: gf :: gg :: gh :: gi :: gj :: gk :: gm :: gn :: gr :: gz :: hC :: hH :: hJ :: hY :: hZ :: xA :: []) S [] R := by
 intro k
 induction k with
 | zero =>
  intro i put xs S v5 g8 g9 gI gJ gF gA gB gG gH gC gD gE gK gL gO gM gN gP gQ gV gR gS gT gU gW gX gY gZ gf gg gh gi gj gk gm gn gr gz hC hH hJ hY hZ xA hk hi hxl ho hb hna hR
  have hie : i = t.length := by omega
  subst hie
  rw [qK]
  refine zS ?_
  conv => arg 2; whnf
  simp (maxSteps:=1000000) (disch:=first|assumption|omega|rfl) only [↓vmp, ga, Nat.reduceAdd]
  exact hR _ _ put xs _ _ _ _ _ _ _ _ _ _ _ _ _ _ _ _ _ _ _ _ _ _ _ _ _ _ _ _ _ _ _ _ _ _ _ _ _ _ _ _ _ _ _ _ (by omega) ho (by rw [List.drop_length]; rfl) hb hna
 | succ k ih =>
  intro i put xs S v5 g8 g9 gI gJ gF gA gB gG gH gC gD gE gK gL gO gM gN gP gQ gV gR gS gT gU gW gX gY gZ gf gg gh gi gj gk gm gn gr gz hC hH hJ hY hZ xA hk hi hxl ho hb hna hR
  have hlt : i < t.length := by omega
  have hr : rowE S 0 0 = some (.d (zB n)) := zE hb
  have hdr : t.drop i = t[i] :: t.drop (i + 1) := List.drop_eq_getElem_cons hlt
  rw [hdr] at hR
  rw [qK]
  refine zS ?_
  conv => arg 2; whnf
  simp (maxSteps:=1000000) (disch:=first|assumption|omega|rfl) only [↓vmp, ga, Nat.reduceAdd]
  refine qS (is := [0, 1, 2, 3, 4, 5, 6, 7, 8, 9, 10, 11]) (h := 0) (by kernel_rfl) (by kernel_rfl) ?_
  cases put with
  | true =>
   simp (maxSteps:=1000000) (disch:=first|assumption|omega|rfl) only [List.replicate_zero, eq_self, vmd, vmk, vmo, vmg, ga, Nat.reduceAdd, hr]
   refine ⟨by kernel_rfl, ?_⟩
   simp (maxSteps:=1000000) (disch:=first|assumption|omega|rfl) only [↓vmp, ga, Nat.reduceAdd]
   refine qS (is := [0, 1, 2, 3, 4, 5, 6, 7]) (h := 0) (by kernel_rfl) (by kernel_rfl) ?_
   by_cases h2 : t[i].ino ≠ n.ino
   ·obtain ⟨v', S', c, ha, ho', hfr, hlen⟩ := ap27 t[i] ho (by omega)
    obtain ⟨hb', hna'⟩ := hfr _ _ hb hna
    simp (maxSteps:=1000000) (disch:=first|assumption|omega|rfl) only [List.replicate_zero, eq_self, vmd, vmk, vmo, vmg, ga, Nat.reduceAdd, hr]
    refine ⟨by kernel_rfl, ?_⟩
    simp (maxSteps:=1000000) (disch:=first|assumption|omega|rfl) only [↓vmp, ga, Nat.reduceAdd, ha]
    exact ih (i + 1) true (xs ++ [t[i]]) S' v' _ _ _ _ _ _ _ _ _ _ _ _ _ _ _ _ _ _ _ _ _ _ _ _ _ _ _ _ _ _ _ _ _ _ _ _ _ _ _ _ _ _ _ _ (by omega) (by omega) (by simp; omega) ho' hb' hna' (fun S v5 put' xs' g8 g9 gI gJ gF gA gB gG gH gC gD gE gK gL gO gM gN gP gQ gV gR gS gT gU gW gX gY gZ gf gg gh gi gj gk gm gn gr gz hC hH hJ hY hZ xA a1 a2 a3 a4 a5 => hR S v5 put' xs' g8 g9 gI gJ gF gA gB gG gH gC gD gE gK gL gO gM gN gP gQ gV gR gS gT gU gW gX gY gZ gf gg gh gi gj gk gm gn gr gz hC hH hJ hY hZ xA a1 a2 (by rw [a3]; simp [wG, h2]) a4 a5)
   ·simp (maxSteps:=1000000) (disch:=first|assumption|omega|rfl) only [List.replicate_zero, eq_self, vmd, vmk, vmo, vmg, ga, Nat.reduceAdd, hr]
    refine ⟨by kernel_rfl, ?_⟩
    simp (maxSteps:=1000000) (disch:=first|assumption|omega|rfl) only [↓vmp, ga, Nat.reduceAdd]
    exact ih (i + 1) true xs S v5 _ _ _ _ _ _ _ _ _ _ _ _ _ _ _ _ _ _ _ _ _ _ _ _ _ _ _ _ _ _ _ _ _ _ _ _ _ _ _ _ _ _ _ _ (by omega) (by omega) (by omega) ho hb hna (fun S v5 put' xs' g8 g9 gI gJ gF gA gB gG gH gC gD gE gK gL gO gM gN gP gQ gV gR gS gT gU gW gX gY gZ gf gg gh gi gj gk gm gn gr gz hC hH hJ hY hZ xA a1 a2 a3 a4 a5 => hR S v5 put' xs' g8 g9 gI gJ gF gA gB gG gH gC gD gE gK gL gO gM gN gP gQ gV gR gS gT gU gW gX gY gZ gf gg gh gi gj gk gm gn gr gz hC hH hJ hY hZ xA a1 a2 (by rw [a3]; simp [wG, h2]) a4 a5)
  | false =>
   by_cases h1 : n.ino ≤ t[i].ino
   ·obtain ⟨v', S', c, ha, ho', hfr, hlen⟩ := ap27 n ho (by omega)
    obtain ⟨hb', hna'⟩ := hfr _ _ hb hna
    have hr' : rowE S' 0 0 = some (.d (zB n)) := zE hb'
    simp (maxSteps:=1000000) (disch:=first|assumption|omega|rfl) only [List.replicate_zero, eq_self, vmd, vmk, vmo, vmg, ga, Nat.reduceAdd, hr]
    refine ⟨by kernel_rfl, ?_⟩
    simp (maxSteps:=1000000) (disch:=first|assumption|omega|rfl) only [↓vmp, ga, Nat.reduceAdd, hr, ha]
    refine qS (is := [0, 1, 2, 3, 4, 5, 6, 7]) (h := 0) (by kernel_rfl) (by kernel_rfl) ?_
    by_cases h2 : t[i].ino ≠ n.ino
    ·obtain ⟨v2, S2, c2, ha2, ho2, hfr2, hlen2⟩ := ap27 t[i] ho' (by simp; omega)
     obtain ⟨hb2, hna2⟩ := hfr2 _ _ hb' hna'
     simp (maxSteps:=1000000) (disch:=first|assumption|omega|rfl) only [List.replicate_zero, eq_self, vmd, vmk, vmo, vmg, ga, Nat.reduceAdd, hr']
     refine ⟨by kernel_rfl, ?_⟩
     simp (maxSteps:=1000000) (disch:=first|assumption|omega|rfl) only [↓vmp, ga, Nat.reduceAdd, ha2]
     exact ih (i + 1) true (xs ++ [n] ++ [t[i]]) S2 v2 _ _ _ _ _ _ _ _ _ _ _ _ _ _ _ _ _ _ _ _ _ _ _ _ _ _ _ _ _ _ _ _ _ _ _ _ _ _ _ _ _ _ _ _ (by omega) (by omega) (by simp; omega) ho2 hb2 hna2 (fun S v5 put' xs' g8 g9 gI gJ gF gA gB gG gH gC gD gE gK gL gO gM gN gP gQ gV gR gS gT gU gW gX gY gZ gf gg gh gi gj gk gm gn gr gz hC hH hJ hY hZ xA a1 a2 a3 a4 a5 => hR S v5 put' xs' g8 g9 gI gJ gF gA gB gG gH gC gD gE gK gL gO gM gN gP gQ gV gR gS gT gU gW gX gY gZ gf gg gh gi gj gk gm gn gr gz hC hH hJ hY hZ xA a1 a2 (by rw [a3]; simp [wG, h1, h2]) a4 a5)
    ·simp (maxSteps:=1000000) (disch:=first|assumption|omega|rfl) only [List.replicate_zero, eq_self, vmd, vmk, vmo, vmg, ga, Nat.reduceAdd, hr']
     refine ⟨by kernel_rfl, ?_⟩
     simp (maxSteps:=1000000) (disch:=first|assumption|omega|rfl) only [↓vmp, ga, Nat.reduceAdd]
     exact ih (i + 1) true (xs ++ [n]) S' v' _ _ _ _ _ _ _ _ _ _ _ _ _ _ _ _ _ _ _ _ _ _ _ _ _ _ _ _ _ _ _ _ _ _ _ _ _ _ _ _ _ _ _ _ (by omega) (by omega) (by simp; omega) ho' hb' hna' (fun S v5 put' xs' g8 g9 gI gJ gF gA gB gG gH gC gD gE gK gL gO gM gN gP gQ gV gR gS gT gU gW gX gY gZ gf gg gh gi gj gk gm gn gr gz hC hH hJ hY hZ xA a1 a2 a3 a4 a5 => hR S v5 put' xs' g8 g9 gI gJ gF gA gB gG gH gC gD gE gK gL gO gM gN gP gQ gV gR gS gT gU gW gX gY gZ gf gg gh gi gj gk gm gn gr gz hC hH hJ hY hZ xA a1 a2 (by rw [a3]; simp [wG, h1, h2]) a4 a5)
   ·have h2 : t[i].ino ≠ n.ino := by omega
    obtain ⟨v', S', c, ha, ho', hfr, hlen⟩ := ap27 t[i] ho (by omega)
    obtain ⟨hb', hna'⟩ := hfr _ _ hb hna
    simp (maxSteps:=1000000) (disch:=first|assumption|omega|rfl) only [List.replicate_zero, eq_self, vmd, vmk, vmo, vmg, ga, Nat.reduceAdd, hr]
    refine ⟨by kernel_rfl, ?_⟩
    simp (maxSteps:=1000000) (disch:=first|assumption|omega|rfl) only [↓vmp, ga, Nat.reduceAdd]
    refine qS (is := [0, 1, 2, 3, 4, 5, 6, 7]) (h := 0) (by kernel_rfl) (by kernel_rfl) ?_
    simp (maxSteps:=1000000) (disch:=first|assumption|omega|rfl) only [List.replicate_zero, eq_self, vmd, vmk, vmo, vmg, ga, Nat.reduceAdd, hr]
    refine ⟨by kernel_rfl, ?_⟩
    simp (maxSteps:=1000000) (disch:=first|assumption|omega|rfl) only [↓vmp, ga, Nat.reduceAdd, ha]
    exact ih (i + 1) false (xs ++ [t[i]]) S' v' _ _ _ _ _ _ _ _ _ _ _ _ _ _ _ _ _ _ _ _ _ _ _ _ _ _ _ _ _ _ _ _ _ _ _ _ _ _ _ _ _ _ _ _ (by omega) (by omega) (by simp; omega) ho' hb' hna' (fun S v5 put' xs' g8 g9 gI gJ gF gA gB gG gH gC gD gE gK gL gO gM gN gP gQ gV gR gS gT gU gW gX gY gZ gf gg gh gi gj gk gm gn gr gz hC hH hJ hY hZ xA a1 a2 a3 a4 a5 => hR S v5 put' xs' g8 g9 gI gJ gF gA gB gG gH gC gD gE gK gL gO gM gN gP gQ gV gR gS gT gU gW gX gY gZ gf gg gh gi gj gk gm gn gr gz hC hH hJ hY hZ xA a1 a2 (by rw [a3]; simp [wG, h1, h2]) a4 a5)
theorem z9c (t : List Node) (n : Node) (hl : t.length < 400000) : Ev cfg 89 [.sl (t.map zB), zB n] (.ret (.d (.sl ((qT t n).map zB)))) := by
 refine kQ rfl rfl zw2 ?_
 show Wp cfg (Try.f89.body.getD .skip) ((.d (.sl (t.map zB))) :: (.d (zB n)) :: uZ (uZ (uZ (uZ (uZ []))))) [] [] _
 unfold uZ
 conv => arg 2; whnf
 simp (maxSteps:=1000000) (disch:=first|assumption|omega|rfl) only [↓vmp, ga, Nat.reduceAdd]
 refine zui t n hl _ _ t.length 0 false [] _ _ _ _ _ _ _ _ _ _ _ _ _ _ _ _ _ _ _ _ _ _ _ _ _ _ _ _ _ _ _ _ _ _ _ _ _ _ _ _ _ _ _ _ _ _ rfl (by omega) (by simp) OwnS.nil rfl NotAt.ts ?_
 intro S v5 put' xs' g8 g9 gI gJ gF gA gB gG gH gC gD gE gK gL gO gM gN gP gQ gV gR gS gT gU gW gX gY gZ gf gg gh gi gj gk gm gn gr gz hC hH hJ hY hZ xA hxl ho hx hb hna
 have hr : rowE S 0 0 = some (.d (zB n)) := zE hb
 rw [List.nil_append, List.drop_zero] at hx
 change _ = qT t n at hx
 cases put' with
 | true =>
  simp (maxSteps:=1000000) (disch:=first|assumption|omega|rfl) only [↓vmp, ga, Nat.reduceAdd]
  rw [← hx]
  simp only [if_true, List.append_nil]
  exact zV rfl (z19 ho) (z1e ho)
 | false =>
  obtain ⟨v', S', c, ha, ho', hfr, hlen⟩ := ap27 n ho (by omega)
  simp (maxSteps:=1000000) (disch:=first|assumption|omega|rfl) only [↓vmp, ga, Nat.reduceAdd, hr, ha]
  rw [← hx]
  exact zV rfl (z19 ho') (z1e ho')
def jE (ino : Int) : Nat → List Node → Int
 | _, [] => -1
 | i, x :: r => if x.ino = ino then (i : Int) else jE ino (i + 1) r
theorem z06 (ino : Int) : ∀ (l : List Node) (i : Nat), (l.find? (fun n => decide (n.ino = ino)) = none ∧ jE ino i l = -1) ∨ ∃ (k : Nat) (hk : k < l.length), jE ino i l = ((i + k : Nat) : Int) ∧ l.find? (fun n => decide (n.ino = ino)) = some l[k]
 | [], i => .inl ⟨rfl, rfl⟩
 | x :: r, i => by
  by_cases h : x.ino = ino
  ·exact .inr ⟨0, by simp, by simp [jE, h], by simp [h]⟩
  ·rcases z06 ino r (i + 1) with ⟨h1, h2⟩ | ⟨k, hk, h1, h2⟩
   ·exact .inl ⟨by simp [h, h1], by simp [jE, h, h2]⟩
   ·exact .inr ⟨k + 1, by simp; omega, by simp [jE, h, h1]; omega, by simp [h, h2]⟩
theorem zx8 (t : List Node) (ino : Int) (hl : t.length < 1000000) (R : Post) (S : zA) (g4 : V) : ∀ (k i : Nat) (g6 g7 g8 g9 gI gJ gF gA gB gG gH gC gD gE : V), t.length - i = k → i ≤ t.length →
 (∀ g6 g7 g8 g9 gI gJ gF gA gB gG gH gC gD gE, jE ino i (t.drop i) = -1 → R (.exit 0) ((.d (.sl (t.map zB))) :: (.d (.int .i64 ino)) :: (.tup []) :: (.tup []) :: g4 :: (.d (.int .i64 t.length)) :: g6 :: g7 :: g8 :: g9 :: gI :: gJ :: gF :: gA :: gB :: gG :: gH :: gC :: gD :: gE :: []) S []) →
 (∀ v5 g6 g7 g8 g9 gI gJ gF gA gB gG gH gC gD gE, R .ret ((.d (.sl (t.map zB))) :: (.d (.int .i64 ino)) :: (.tup []) :: (.tup []) :: (.d (.int .i64 (jE ino i (t.drop i)))) :: v5 :: g6 :: g7 :: g8 :: g9 :: gI :: gJ :: gF :: gA :: gB :: gG :: gH :: gC :: gD :: gE :: []) S []) →
 Wp cfg (.loop (lpOf (Try.f67.body.getD .skip) 0)) ((.d (.sl (t.map zB))) :: (.d (.int .i64 ino)) :: (.tup []) :: (.tup []) :: g4 :: (.d (.int .i64 i)) :: g6 :: g7 :: g8 :: g9 :: gI :: gJ :: gF :: gA :: gB :: gG :: gH :: gC :: gD :: gE :: []) S [] R := by
 intro k
 induction k with
 | zero =>
  intro i g6 g7 g8 g9 gI gJ gF gA gB gG gH gC gD gE hk hi hE hR
  have hie : i = t.length := by omega
  subst hie
  rw [qK]
  refine zS ?_
  conv => arg 2; whnf
  simp (maxSteps:=1000000) (disch:=first|assumption|omega|rfl) only [↓vmp, ga, Nat.reduceAdd]
  exact hE _ _ _ _ _ _ _ _ _ _ _ _ _ _ (by rw [List.drop_length]; rfl)
 | succ k ih =>
  intro i g6 g7 g8 g9 gI gJ gF gA gB gG gH gC gD gE hk hi hE hR
  have hlt : i < t.length := by omega
  have hdr : t.drop i = t[i] :: t.drop (i + 1) := List.drop_eq_getElem_cons hlt
  rw [hdr] at hE hR
  rw [qK]
  refine zS ?_
  conv => arg 2; whnf
  by_cases hc : t[i].ino = ino
  ·simp (maxSteps:=1000000) (disch:=first|assumption|omega|rfl) only [↓vmp, ga, Nat.reduceAdd]
   simp only [jE, hc, if_true] at hR
   exact hR _ _ _ _ _ _ _ _ _ _ _ _ _ _ _
  ·simp (maxSteps:=1000000) (disch:=first|assumption|omega|rfl) only [↓vmp, ga, Nat.reduceAdd]
   simp only [jE, hc, if_false] at hE hR
   exact ih (i + 1) _ _ _ _ _ _ _ _ _ _ _ _ _ _ (by omega) (by omega) hE hR
theorem zrf (t : List Node) (ino : Int) (hl : t.length < 1000000) : Ev cfg 67 [.sl (t.map zB), .int .i64 ino] (.ret (.d (.int .i64 (jE ino 0 t)))) := by
 refine kQ rfl rfl zxo ?_
 show Wp cfg (Try.f67.body.getD .skip) ((.d (.sl (t.map zB))) :: (.d (.int .i64 ino)) :: uZ ((.tup []) :: (.tup []) :: (.tup []) :: (.tup []) :: (.tup []) :: (.tup []) :: (.tup []) :: (.tup []) :: [])) [] [] _
 unfold uZ
 conv => arg 2; whnf
 simp (maxSteps:=1000000) (disch:=first|assumption|omega|rfl) only [↓vmp, ga, Nat.reduceAdd]
 refine zx8 t ino hl _ _ _ t.length 0 _ _ _ _ _ _ _ _ _ _ _ _ _ _ rfl (by omega) ?_ ?_
 ·intro g6 g7 g8 g9 gI gJ gF gA gB gG gH gC gD gE h
  rw [List.drop_zero] at h
  rw [h]
  simp (maxSteps:=1000000) (disch:=first|assumption|omega|rfl) only [↓vmp, ga, Nat.reduceAdd]
  exact zV rfl rfl rfl
 ·intro v5 g6 g7 g8 g9 gI gJ gF gA gB gG gH gC gD gE
  simp (maxSteps:=1000000) (disch:=first|assumption|omega|rfl) only [↓vmp, ga, Nat.reduceAdd]
  exact zV rfl rfl rfl
theorem z3s {ops : Array Oper} {dst : Option Tmp} {l : List Oper} {T : List V} {S : zA} {F : Dfs} {Q : Post} {t : List Node} {ino : Int} (hl : t.length < 1000000) :
  WpR cfg ops dst l T S F Q (some (.enter 67 [.d (.sl (t.map zB)), .d (.int .i64 ino)])) = WpL cfg ops l (putT T dst (.d (.int .i64 (jE ino 0 t)))) S F Q :=
 zX (ds := [.sl (t.map zB), .int .i64 ino]) rfl (zrf t ino hl)
def zM : Node := ⟨0, 0, 0, 0, 0, [], []⟩
def getN (t : List Node) (ino : Int) : Node := (t.find? (fun n => decide (n.ino = ino))).getD zM
theorem zp2 (t : List Node) (ino : Int) (hl : t.length < 1000000) : Ev cfg 65 [.sl (t.map zB), .int .i64 ino] (.ret (.d (zB (getN t ino)))) := by
 refine kQ rfl rfl zvm ?_
 show Wp cfg (Try.f65.body.getD .skip) ((.d (.sl (t.map zB))) :: (.d (.int .i64 ino)) :: uZ ((.tup []) :: (.tup []) :: (.tup []) :: (.tup []) :: [])) [] [] _
 unfold uZ
 conv => arg 2; whnf
 have hb : vP Try.prog 91 [] = some (.agg [.d (.int .i64 0), .d (.int .i64 0), .d (.int .i64 0), .d (.int .i64 0), .d (.int .i64 0), .ts [], .ts []]) := by kernel_rfl
 rcases z06 ino t 0 with ⟨h1, h2⟩ | ⟨k, hk, h1, h2⟩
 ·simp (maxSteps:=1000000) (disch:=first|assumption|omega|rfl) only [↓vmp, ga, Nat.reduceAdd, z3s, h2, hb]
  refine vU rfl (v := .agg [.d (.int .i64 0), .d (.int .i64 0), .d (.int .i64 0), .d (.int .i64 0), .d (.int .i64 0), .ts [], .ts []]) (by kernel_rfl) rfl ?_
  simp only [getN, h1, Option.getD_none]
  rfl
 ·rw [Nat.zero_add] at h1
  simp (maxSteps:=1000000) (disch:=first|assumption|omega|rfl) only [↓vmp, ga, Nat.reduceAdd, z3s, h1, hb]
  refine vU rfl (v := .d (zB t[k])) (by kernel_rfl) rfl ?_
  simp only [getN, h2, Option.getD_some]
  rfl
theorem jP {ops : Array Oper} {dst : Option Tmp} {l : List Oper} {T : List V} {S : zA} {F : Dfs} {Q : Post} {t : List Node} {ino : Int} (hl : t.length < 1000000) :
  WpR cfg ops dst l T S F Q (some (.enter 65 [.d (.sl (t.map zB)), .d (.int .i64 ino)])) = WpL cfg ops l (putT T dst (.d (zB (getN t ino)))) S F Q :=
 zX (ds := [.sl (t.map zB), .int .i64 ino]) rfl (zp2 t ino hl)
def qQ (l : List Ent) (s : List UInt8) : Int := match l.find? (fun e => decide (e.name = s)) with | some e => e.ino | none => -1
theorem zct {x : Ent} {r : List Ent} {s : List UInt8} (h : x.name = s) : qQ (x :: r) s = x.ino := by simp [qQ, h]
theorem z8n {x : Ent} {r : List Ent} {s : List UInt8} (h : ¬ x.name = s) : qQ (x :: r) s = qQ r s := by simp [qQ, h]
theorem zzk (n : Node) (s : List UInt8) (hl : n.names.length < 1000000) (R : Post) (g4 : V) : ∀ (k i : Nat) (g6 g7 g8 g9 gI gJ gF gA gB gG gH gC gD gE gK gL gO gM gN gP gQ : V), n.names.length - i = k → i ≤ n.names.length →
 (∀ g6 g7 g8 g9 gI gJ gF gA gB gG gH gC gD gE gK gL gO gM gN gP gQ, qQ (n.names.drop i) s = -1 → R (.exit 0) ((.d (zB n)) :: (.d (.str s)) :: (.ref 0 0 0) :: (.tup []) :: g4 :: (.d (.int .i64 n.names.length)) :: g6 :: g7 :: g8 :: g9 :: gI :: gJ :: gF :: gA :: gB :: gG :: gH :: gC :: gD :: gE :: gK :: gL :: gO :: gM :: gN :: gP :: gQ :: []) [.row [.d (zB n)] 91] []) →
 (∀ v5 g6 g7 g8 g9 gI gJ gF gA gB gG gH gC gD gE gK gL gO gM gN gP gQ, R .ret ((.d (zB n)) :: (.d (.str s)) :: (.ref 0 0 0) :: (.tup []) :: (.d (.int .i64 (qQ (n.names.drop i) s))) :: v5 :: g6 :: g7 :: g8 :: g9 :: gI :: gJ :: gF :: gA :: gB :: gG :: gH :: gC :: gD :: gE :: gK :: gL :: gO :: gM :: gN :: gP :: gQ :: []) [.row [.d (zB n)] 91] []) →
 Wp cfg (.loop (lpOf (Try.f87.body.getD .skip) 0)) ((.d (zB n)) :: (.d (.str s)) :: (.ref 0 0 0) :: (.tup []) :: g4 :: (.d (.int .i64 i)) :: g6 :: g7 :: g8 :: g9 :: gI :: gJ :: gF :: gA :: gB :: gG :: gH :: gC :: gD :: gE :: gK :: gL :: gO :: gM :: gN :: gP :: gQ :: []) [.row [.d (zB n)] 91] [] R := by
 intro k
 induction k with
 | zero =>
  intro i g6 g7 g8 g9 gI gJ gF gA gB gG gH gC gD gE gK gL gO gM gN gP gQ hk hi hE hR
  have hie : i = n.names.length := by omega
  subst hie
  rw [qK]
  refine zS ?_
  conv => arg 2; whnf
  simp (maxSteps:=1000000) (disch:=first|assumption|omega|rfl) only [↓vmp, ga, Nat.reduceAdd]
  exact hE _ _ _ _ _ _ _ _ _ _ _ _ _ _ _ _ _ _ _ _ _ (by rw [List.drop_length]; rfl)
 | succ k ih =>
  intro i g6 g7 g8 g9 gI gJ gF gA gB gG gH gC gD gE gK gL gO gM gN gP gQ hk hi hE hR
  have hlt : i < n.names.length := by omega
  have hdr : n.names.drop i = n.names[i] :: n.names.drop (i + 1) := List.drop_eq_getElem_cons hlt
  rw [hdr] at hE hR
  rw [qK]
  refine zS ?_
  conv => arg 2; whnf
  by_cases hc : n.names[i].name = s
  ·simp (maxSteps:=1000000) (disch:=first|assumption|omega|rfl) only [↓vmp, ga, Nat.reduceAdd, z40]
   rw [zct hc] at hR
   exact hR _ _ _ _ _ _ _ _ _ _ _ _ _ _ _ _ _ _ _ _ _ _
  ·simp (maxSteps:=1000000) (disch:=first|assumption|omega|rfl) only [↓vmp, ga, Nat.reduceAdd, z40]
   rw [z8n hc] at hE hR
   exact ih (i + 1) _ _ _ _ _ _ _ _ _ _ _ _ _ _ _ _ _ _ _ _ _ (by omega) (by omega) hE hR
theorem zl2 (n : Node) (s : List UInt8) (hl : n.names.length < 1000000) : Ev cfg 87 [zB n, .str s] (.ret (.d (.int .i64 (qQ n.names s)))) := by
 refine kQ rfl rfl zv9 ?_
 show Wp cfg (Try.f87.body.getD .skip) ((.d (zB n)) :: (.d (.str s)) :: uZ (uZ ((.tup []) :: (.tup []) :: (.tup []) :: (.tup []) :: (.tup []) :: []))) [] [] _
 unfold uZ
 conv => arg 2; whnf
 simp (maxSteps:=1000000) (disch:=first|assumption|omega|rfl) only [↓vmp, ga, Nat.reduceAdd]
 refine zzk n s hl _ _ n.names.length 0 _ _ _ _ _ _ _ _ _ _ _ _ _ _ _ _ _ _ _ _ _ rfl (by omega) ?_ ?_
 ·intro g6 g7 g8 g9 gI gJ gF gA gB gG gH gC gD gE gK gL gO gM gN gP gQ h
  rw [List.drop_zero] at h
  rw [h]
  simp (maxSteps:=1000000) (disch:=first|assumption|omega|rfl) only [↓vmp, ga, Nat.reduceAdd]
  exact zV rfl rfl rfl
 ·intro v5 g6 g7 g8 g9 gI gJ gF gA gB gG gH gC gD gE gK gL gO gM gN gP gQ
  simp (maxSteps:=1000000) (disch:=first|assumption|omega|rfl) only [↓vmp, ga, Nat.reduceAdd]
  exact zV rfl rfl rfl
theorem z11 {ops : Array Oper} {dst : Option Tmp} {l : List Oper} {T : List V} {S : zA} {F : Dfs} {Q : Post} {n : Node} {s : List UInt8} (hl : n.names.length < 1000000) :
  WpR cfg ops dst l T S F Q (some (.enter 87 [.d (zB n), .d (.str s)])) = WpL cfg ops l (putT T dst (.d (.int .i64 (qQ n.names s)))) S F Q :=
 zX (ds := [zB n, .str s]) rfl (zl2 n s hl)
theorem zju {ops : Array Oper} {dst : Option Tmp} {l : List Oper} {T : List V} {S : zA} {F : Dfs} {Q : Post} {t : List Node} {ino : Int} (hl : t.length < 1000000) :
  WpR cfg ops dst l T S F Q (some (.enter 112 [.d (.sl (t.map zB)), .d (.int .i64 ino)])) = WpL cfg ops l (putT T dst (.d (.sl ((t.filter (fun n => n.ino ≠ ino)).map zB)))) S F Q :=
 zX (ds := [.sl (t.map zB), .int .i64 ino]) rfl (zrz t ino hl)
theorem z1i {ops : Array Oper} {dst : Option Tmp} {l : List Oper} {T : List V} {S : zA} {F : Dfs} {Q : Post} {t : List Node} {a b c d e : Int} {f : List UInt8} {g : List Ent} (hl : t.length < 400000) :
  WpR cfg ops dst l T S F Q (some (.enter 89 [.d (.sl (t.map zB)), .agg [.d (.int .i64 a), .d (.int .i64 b), .d (.int .i64 c), .d (.int .i64 d), .d (.int .i64 e), .d (encB f), .d (.sl (g.map zI))]])) = WpL cfg ops l (putT T dst (.d (.sl ((qT t ⟨a, b, c, d, e, f, g⟩).map zB)))) S F Q :=
 zjo (ds := [.sl (t.map zB), zB ⟨a, b, c, d, e, f, g⟩]) rfl rfl rfl (z9c t _ hl)
def jN (t : List Node) (ino : Int) : List Node := if (getN t ino).links - 1 < 1 then t.filter (fun n => n.ino ≠ ino) else qT t { getN t ino with links := (getN t ino).links - 1 }
theorem zo0 (t : List Node) (ino : Int) (hl : t.length < 400000) (hk : -1000000 ≤ (getN t ino).links ∧ (getN t ino).links ≤ 1000000) : Ev cfg 90 [.sl (t.map zB), .int .i64 ino] (.ret (.d (.sl ((jN t ino).map zB)))) := by
 refine kQ rfl rfl zum ?_
 show Wp cfg (Try.f90.body.getD .skip) ((.d (.sl (t.map zB))) :: (.d (.int .i64 ino)) :: uZ (uZ [])) [] [] _
 unfold uZ
 conv => arg 2; whnf
 by_cases h : (getN t ino).links - 1 < 1
 ·simp (maxSteps:=1000000) (disch:=first|assumption|omega|rfl) only [↓vmp, ga, Nat.reduceAdd, jP, zju]
  simp only [jN, h, if_true]
  exact zV rfl rfl rfl
 ·simp (maxSteps:=1000000) (disch:=first|assumption|omega|rfl) only [↓vmp, ga, Nat.reduceAdd, jP, z1i]
  simp only [jN, h, if_false]
  exact zV rfl rfl rfl
theorem z4f {ops : Array Oper} {dst : Option Tmp} {l : List Oper} {T : List V} {S : zA} {F : Dfs} {Q : Post} {t : List Node} {ino : Int} (hl : t.length < 400000) (hk1 : -1000000 ≤ (getN t ino).links) (hk2 : (getN t ino).links ≤ 1000000) :
  WpR cfg ops dst l T S F Q (some (.enter 90 [.d (.sl (t.map zB)), .d (.int .i64 ino)])) = WpL cfg ops l (putT T dst (.d (.sl ((jN t ino).map zB)))) S F Q :=
 zX (ds := [.sl (t.map zB), .int .i64 ino]) rfl (zo0 t ino hl ⟨hk1, hk2⟩)
def wJ (t : List Node) (top : Int) : Nat → Int → Bool
 | 0, _ => false
 | n + 1, d => if d = top then true else wJ t top n (getN t d).parent
theorem zr4 (t : List Node) (top : Int) (hl : t.length < 400000) (R : Post) (S : zA) (g6 : V) : ∀ (k i : Nat) (d : Int) (g8 g9 gI gJ gF gA gB gG gH gC gD gE gK : V), t.length + 1 - i = k → i ≤ t.length + 1 →
 (∀ v1 v7 g8 g9 gI gJ gF gA gB gG gH gC gD gE gK, wJ t top k d = false → R (.exit 0) ((.d (.sl (t.map zB))) :: v1 :: (.d (.int .i64 top)) :: (.tup []) :: (.tup []) :: (.tup []) :: g6 :: v7 :: g8 :: g9 :: gI :: gJ :: gF :: gA :: gB :: gG :: gH :: gC :: gD :: gE :: gK :: []) S []) →
 (∀ v1 v7 g8 g9 gI gJ gF gA gB gG gH gC gD gE gK, wJ t top k d = true → R .ret ((.d (.sl (t.map zB))) :: v1 :: (.d (.int .i64 top)) :: (.tup []) :: (.tup []) :: (.tup []) :: (.d (.bool true)) :: v7 :: g8 :: g9 :: gI :: gJ :: gF :: gA :: gB :: gG :: gH :: gC :: gD :: gE :: gK :: []) S []) →
 Wp cfg (.loop (lpOf (Try.f92.body.getD .skip) 0)) ((.d (.sl (t.map zB))) :: (.d (.int .i64 d)) :: (.d (.int .i64 top)) :: (.tup []) :: (.tup []) :: (.tup []) :: g6 :: (.d (.int .i64 i)) :: g8 :: g9 :: gI :: gJ :: gF :: gA :: gB :: gG :: gH :: gC :: gD :: gE :: gK :: []) S [] R := by
 intro k
 induction k with
 | zero =>
  intro i d g8 g9 gI gJ gF gA gB gG gH gC gD gE gK hk hi hE hR
  have hie : i = t.length + 1 := by omega
  subst hie
  rw [qK]
  refine zS ?_
  conv => arg 2; whnf
  simp (maxSteps:=1000000) (disch:=first|assumption|omega|rfl) only [↓vmp, ga, Nat.reduceAdd]
  exact hE _ _ _ _ _ _ _ _ _ _ _ _ _ _ _ rfl
 | succ k ih =>
  intro i d g8 g9 gI gJ gF gA gB gG gH gC gD gE gK hk hi hE hR
  have hlt : i ≤ t.length := by omega
  rw [qK]
  refine zS ?_
  conv => arg 2; whnf
  by_cases hc : d = top
  ·simp (maxSteps:=1000000) (disch:=first|assumption|omega|rfl) only [↓vmp, ga, Nat.reduceAdd]
   exact hR _ _ _ _ _ _ _ _ _ _ _ _ _ _ _ (by simp [wJ, hc])
  ·simp (maxSteps:=1000000) (disch:=first|assumption|omega|rfl) only [↓vmp, ga, Nat.reduceAdd, jP]
   have e : wJ t top (k + 1) d = wJ t top k (getN t d).parent := by simp [wJ, hc]
   rw [e] at hE hR
   exact ih (i + 1) _ _ _ _ _ _ _ _ _ _ _ _ _ _ (by omega) (by omega) hE hR
theorem znw (t : List Node) (d top : Int) (hl : t.length < 400000) : Ev cfg 92 [.sl (t.map zB), .int .i64 d, .int .i64 top] (.ret (.d (.bool (wJ t top (t.length + 1) d)))) := by
 refine kQ rfl rfl zuc ?_
 show Wp cfg (Try.f92.body.getD .skip) ((.d (.sl (t.map zB))) :: (.d (.int .i64 d)) :: (.d (.int .i64 top)) :: uZ ((.tup []) :: (.tup []) :: (.tup []) :: (.tup []) :: (.tup []) :: (.tup []) :: (.tup []) :: (.tup []) :: [])) [] [] _
 unfold uZ
 conv => arg 2; whnf
 simp (maxSteps:=1000000) (disch:=first|assumption|omega|rfl) only [↓vmp, ga, Nat.reduceAdd]
 refine zr4 t top hl _ _ _ (t.length + 1) 0 d _ _ _ _ _ _ _ _ _ _ _ _ _ rfl (by omega) ?_ ?_
 ·intro v1 v7 g8 g9 gI gJ gF gA gB gG gH gC gD gE gK h
  rw [h]
  simp (maxSteps:=1000000) (disch:=first|assumption|omega|rfl) only [↓vmp, ga, Nat.reduceAdd]
  exact zV rfl rfl rfl
 ·intro v1 v7 g8 g9 gI gJ gF gA gB gG gH gC gD gE gK h
  rw [h]
  simp (maxSteps:=1000000) (disch:=first|assumption|omega|rfl) only [↓vmp, ga, Nat.reduceAdd]
  exact zV rfl rfl rfl
theorem zi6 {ops : Array Oper} {dst : Option Tmp} {l : List Oper} {T : List V} {S : zA} {F : Dfs} {Q : Post} {t : List Node} {d top : Int} (hl : t.length < 400000) :
  WpR cfg ops dst l T S F Q (some (.enter 92 [.d (.sl (t.map zB)), .d (.int .i64 d), .d (.int .i64 top)])) = WpL cfg ops l (putT T dst (.d (.bool (wJ t top (t.length + 1) d)))) S F Q :=
 zX (ds := [.sl (t.map zB), .int .i64 d, .int .i64 top]) rfl (znw t d top hl)
def kY : List UInt8 → List UInt8 → Bool
 | x :: a, y :: b => if x ≠ y then decide (x < y) else kY a b
 | [], _ :: _ => true
 | _, [] => false
theorem q0z {a b : UInt8} (h : a ≠ b) : ((a.toNat : Int)) ≠ ((b.toNat : Int)) := fun e => h (UInt8.toNat_inj.1 (by omega))
theorem zth (a b : List UInt8) (hla : a.length < 1000000) (hlb : b.length < 1000000) (R : Post) (S : zA) (g4 : V) : ∀ (k i : Nat) (g6 g7 g8 g9 gI gJ gF gA gB gG gH gC gD gE gK gL gO gM gN gP gQ gV gR gS gT gU gW gX gY gZ gf : V), a.length - i = k → i ≤ a.length → i ≤ b.length →
 (∀ v5 g6 g7 g8 g9 gI gJ gF gA gB gG gH gC gD gE gK gL gO gM gN gP gQ gV gR gS gT gU gW gX gY gZ gf, kY (a.drop i) (b.drop i) = decide (a.length < b.length) → R (.exit 0) ((.d (.str a)) :: (.d (.str b)) :: (.tup []) :: (.tup []) :: g4 :: v5 :: g6 :: g7 :: g8 :: g9 :: gI :: gJ :: gF :: gA :: gB :: gG :: gH :: gC :: gD :: gE :: gK :: gL :: gO :: gM :: gN :: gP :: gQ :: gV :: gR :: gS :: gT :: gU :: gW :: gX :: gY :: gZ :: gf :: []) S []) →
 (∀ v5 g6 g7 g8 g9 gI gJ gF gA gB gG gH gC gD gE gK gL gO gM gN gP gQ gV gR gS gT gU gW gX gY gZ gf, R .ret ((.d (.str a)) :: (.d (.str b)) :: (.tup []) :: (.tup []) :: (.d (.bool (kY (a.drop i) (b.drop i)))) :: v5 :: g6 :: g7 :: g8 :: g9 :: gI :: gJ :: gF :: gA :: gB :: gG :: gH :: gC :: gD :: gE :: gK :: gL :: gO :: gM :: gN :: gP :: gQ :: gV :: gR :: gS :: gT :: gU :: gW :: gX :: gY :: gZ :: gf :: []) S []) →
 Wp cfg (.loop (lpOf (Try.f111.body.getD .skip) 0)) ((.d (.str a)) :: (.d (.str b)) :: (.tup []) :: (.tup []) :: g4 :: (.d (.int .i64 i)) :: g6 :: g7 :: g8 :: g9 :: gI :: gJ :: gF :: gA :: gB :: gG :: gH :: gC :: gD :: gE :: gK :: gL :: gO :: gM :: gN :: gP :: gQ :: gV :: gR :: gS :: gT :: gU :: gW :: gX :: gY :: gZ :: gf :: []) S [] R := by
 intro k
 induction k with
 | zero =>
  intro i g6 g7 g8 g9 gI gJ gF gA gB gG gH gC gD gE gK gL gO gM gN gP gQ gV gR gS gT gU gW gX gY gZ gf hk hi hj hE hR
  have hie : i = a.length := by omega
  subst hie
  rw [qK]
  refine zS ?_
  conv => arg 2; whnf
  simp (maxSteps:=1000000) (disch:=first|assumption|omega|rfl) only [↓vmp, ga, Nat.reduceAdd, vmg]
  refine hE _ _ _ _ _ _ _ _ _ _ _ _ _ _ _ _ _ _ _ _ _ _ _ _ _ _ _ _ _ _ _ _ ?_
  rw [List.drop_length]
  by_cases h : a.length < b.length
  ·rw [List.drop_eq_getElem_cons h]; simp [kY, h]
  ·rw [List.drop_eq_nil_of_le (by omega)]; simp [kY, h]
 | succ k ih =>
  intro i g6 g7 g8 g9 gI gJ gF gA gB gG gH gC gD gE gK gL gO gM gN gP gQ gV gR gS gT gU gW gX gY gZ gf hk hi hj hE hR
  have hlt : i < a.length := by omega
  rw [qK]
  refine zS ?_
  conv => arg 2; whnf
  by_cases hb : i < b.length
  ·have h1 : a.drop i = a[i] :: a.drop (i + 1) := List.drop_eq_getElem_cons hlt
   have h2 : b.drop i = b[i] :: b.drop (i + 1) := List.drop_eq_getElem_cons hb
   rw [h1, h2] at hE hR
   simp (maxSteps:=1000000) (disch:=first|assumption|omega|rfl) only [↓vmp, ga, Nat.reduceAdd, vmg]
   refine qS (is := [0, 1, 2, 3, 4, 5, 6]) (h := 0) (by kernel_rfl) (by kernel_rfl) ?_
   by_cases hc : a[i] = b[i]
   ·have hc' : ((a[i].toNat : Int)) = ((b[i].toNat : Int)) := by rw [hc]
    simp (maxSteps:=1000000) (disch:=first|assumption|omega|rfl) only [List.replicate_zero, eq_self, vmd, vmk, vmo, vmg, ga, Nat.reduceAdd]
    refine ⟨by kernel_rfl, ?_⟩
    simp (maxSteps:=1000000) (disch:=first|assumption|omega|rfl) only [↓vmp, ga, Nat.reduceAdd]
    have e : kY (a[i] :: a.drop (i + 1)) (b[i] :: b.drop (i + 1)) = kY (a.drop (i + 1)) (b.drop (i + 1)) := by rw [kY, if_neg (by simpa using hc)]
    rw [e] at hE hR
    exact ih (i + 1) _ _ _ _ _ _ _ _ _ _ _ _ _ _ _ _ _ _ _ _ _ _ _ _ _ _ _ _ _ _ _ (by omega) (by omega) (by omega) hE hR
   ·have hc' := q0z hc
    simp (maxSteps:=1000000) (disch:=first|assumption|omega|rfl) only [List.replicate_zero, eq_self, vmd, vmk, vmo, vmg, ga, Nat.reduceAdd]
    refine ⟨by kernel_rfl, ?_⟩
    simp (maxSteps:=1000000) (disch:=first|assumption|omega|rfl) only [↓vmp, ga, Nat.reduceAdd]
    refine qS (is := [0, 1, 2, 3, 4, 5, 6, 7]) (h := 0) (by kernel_rfl) (by kernel_rfl) ?_
    simp (maxSteps:=1000000) (disch:=first|assumption|omega|rfl) only [List.replicate_zero, eq_self, vmd, vmk, vmo, vmg, ga, Nat.reduceAdd]
    refine ⟨by kernel_rfl, ?_⟩
    simp (maxSteps:=1000000) (disch:=first|assumption|omega|rfl) only [↓vmp, ga, Nat.reduceAdd]
    have e : kY (a[i] :: a.drop (i + 1)) (b[i] :: b.drop (i + 1)) = decide ((a[i].toNat : Int) < (b[i].toNat : Int)) := by
     rw [kY, if_pos hc]
     congr 1
     simp [UInt8.lt_iff_toNat_lt]
    rw [e] at hR
    exact hR _ _ _ _ _ _ _ _ _ _ _ _ _ _ _ _ _ _ _ _ _ _ _ _ _ _ _ _ _ _ _ _
  ·simp (maxSteps:=1000000) (disch:=first|assumption|omega|rfl) only [↓vmp, ga, Nat.reduceAdd, vmg]
   refine hE _ _ _ _ _ _ _ _ _ _ _ _ _ _ _ _ _ _ _ _ _ _ _ _ _ _ _ _ _ _ _ _ ?_
   have e1 : b.drop i = [] := List.drop_eq_nil_of_le (by omega)
   have e2 : decide (a.length < b.length) = false := decide_eq_false (by omega)
   rw [List.drop_eq_getElem_cons hlt, e1, e2]
   rfl
theorem zoe (a b : List UInt8) (hla : a.length < 1000000) (hlb : b.length < 1000000) : Ev cfg 111 [.str a, .str b] (.ret (.d (.bool (kY a b)))) := by
 refine kQ rfl rfl zt6 ?_
 show Wp cfg (Try.f111.body.getD .skip) ((.d (.str a)) :: (.d (.str b)) :: uZ (uZ (uZ ((.tup []) :: (.tup []) :: (.tup []) :: (.tup []) :: (.tup []) :: [])))) [] [] _
 unfold uZ
 conv => arg 2; whnf
 simp (maxSteps:=1000000) (disch:=first|assumption|omega|rfl) only [↓vmp, ga, Nat.reduceAdd]
 refine zth a b hla hlb _ _ _ a.length 0 _ _ _ _ _ _ _ _ _ _ _ _ _ _ _ _ _ _ _ _ _ _ _ _ _ _ _ _ _ _ _ rfl (by omega) (by omega) ?_ ?_
 ·intro v5 g6 g7 g8 g9 gI gJ gF gA gB gG gH gC gD gE gK gL gO gM gN gP gQ gV gR gS gT gU gW gX gY gZ gf h
  rw [List.drop_zero, List.drop_zero] at h
  rw [h]
  by_cases hc : a.length < b.length <;> simp only [hc, decide_true, decide_false]
  ·simp (maxSteps:=1000000) (disch:=first|assumption|omega|rfl) only [↓vmp, ga, Nat.reduceAdd]
   exact zV rfl rfl rfl
  ·simp (maxSteps:=1000000) (disch:=first|assumption|omega|rfl) only [↓vmp, ga, Nat.reduceAdd]
   exact zV rfl rfl rfl
 ·intro v5 g6 g7 g8 g9 gI gJ gF gA gB gG gH gC gD gE gK gL gO gM gN gP gQ gV gR gS gT gU gW gX gY gZ gf
  simp (maxSteps:=1000000) (disch:=first|assumption|omega|rfl) only [↓vmp, ga, Nat.reduceAdd]
  exact zV rfl rfl rfl
theorem zb2 {ops : Array Oper} {dst : Option Tmp} {l : List Oper} {T : List V} {S : zA} {F : Dfs} {Q : Post} {a b : List UInt8} (hla : a.length < 1000000) (hlb : b.length < 1000000) :
  WpR cfg ops dst l T S F Q (some (.enter 111 [.d (.str a), .d (.str b)])) = WpL cfg ops l (putT T dst (.d (.bool (kY a b)))) S F Q :=
 zX (ds := [.str a, .str b]) rfl (zoe a b hla hlb)
theorem z6p {α : Type} {enc : α → D} {S : zA} {v : V} {e : TypeId} {xs : List α} (h : OwnS S v e (xs.map fun x => .d (enc x))) : OwnS S v e ((xs.map enc).map V.d) := by simpa [List.map_map, Function.comp_def] using h
theorem zbu {S : zA} {a b c d e : Int} {f : List UInt8} {v : V} {g : List Ent} (h : OwnS S v 88 (g.map fun x => .d (zI x))) :
  frz S zO (.agg [.d (.int .i64 a), .d (.int .i64 b), .d (.int .i64 c), .d (.int .i64 d), .d (.int .i64 e), .d (encB f), v]) = some (zB ⟨a, b, c, d, e, f, g⟩) := by
 have h1 : frz S 11 v = some (.sl (g.map zI)) := z82 (n := 9) (z6p h)
 show (match allO (frz S 11) [.d (.int .i64 a), .d (.int .i64 b), .d (.int .i64 c), .d (.int .i64 d), .d (.int .i64 e), .d (encB f), v] with | some ds => if ds.any D.isAgg then none else some (D.agg ds) | none => none) = _
 have h2 : ∀ x : D, frz S 11 (.d x) = some x := fun _ => rfl
 simp only [allO, h1, h2]
 rfl
theorem zce {S : zA} {t : List D} {a b c d e : Int} {f : List UInt8} {v : V} {g : List Ent} (h : OwnS S v 88 (g.map fun x => .d (zI x))) :
  ∀ i ∈ [V.d (.sl t), V.agg [.d (.int .i64 a), .d (.int .i64 b), .d (.int .i64 c), .d (.int .i64 d), .d (.int .i64 e), .d (encB f), v]].flatMap (zZ S zO), RowD S i := by
 intro i hi
 have e1 : [V.d (.sl t), V.agg [.d (.int .i64 a), .d (.int .i64 b), .d (.int .i64 c), .d (.int .i64 d), .d (.int .i64 e), .d (encB f), v]].flatMap (zZ S zO) = (zZ S 11 v ++ []) ++ [] := rfl
 rw [e1, List.append_nil, List.append_nil] at hi
 exact zlt (n := 10) (z6p h) i hi
def zU (t : List Node) (dir : Int) (s : List UInt8) : List Node := qT t { getN t dir with names := (getN t dir).names.filter (fun e => decide (e.name ≠ s)) }
theorem zwm (t : List Node) (dir : Int) (s : List UInt8) (d : Node) (hl : d.names.length < 1000000) (R : Post) (g6 : V) : ∀ (k i : Nat) (xs : List Ent) (S : zA) (v8 gI gJ gF gA gB gG gH gC gD gE gK gL gO gM gN gP gQ gV gR gS gT gU gW gX gY gZ gf gg gh gi gj : V),
 d.names.length - i = k → i ≤ d.names.length → xs.length ≤ i → OwnS S v8 88 (xs.map fun n => .d (zI n)) → S[0]? = some (.row [.d (zB d)] 91) → NotAt v8 0 →
 (∀ S v8 (xs' : List Ent) v9 gI gJ gF gA gB gG gH gC gD gE gK gL gO gM gN gP gQ gV gR gS gT gU gW gX gY gZ gf gg gh gi gj, OwnS S v8 88 (xs'.map fun n => .d (zI n)) → xs' = xs ++ (d.names.drop i).filter (fun e => decide (e.name ≠ s)) → S[0]? = some (.row [.d (zB d)] 91) → NotAt v8 0 → R (.exit 0) ((.d (.sl (t.map zB))) :: (.d (.int .i64 dir)) :: (.d (.str s)) :: (.tup []) :: (.tup []) :: (.tup []) :: g6 :: (.ref 0 0 0) :: v8 :: v9 :: gI :: gJ :: gF :: gA :: gB :: gG :: gH :: gC :: gD :: gE :: gK :: gL :: gO :: gM :: gN :: gP :: gQ :: gV :: gR :: gS :: gT :: gU :: gW :: gX :: gY :: gZ :: gf :: gg :: gh :: gi :: gj :: []) S []) →
 Wp cfg (.loop (lpOf (Try.f91.body.getD .skip) 0)) ((.d (.sl (t.map zB))) :: (.d (.int .i64 dir)) :: (.d (.str s)) :: (.tup []) :: (.tup []) :: (.tup []) :: g6 :: (.ref 0 0 0) :: v8 :: (.d (.int .i64 i)) :: gI :: gJ :: gF :: gA :: gB :: gG :: gH :: gC :: gD :: gE :: gK :: gL :: gO :: gM :: gN :: gP :: gQ :: gV :: gR :: gS :: gT :: gU :: gW :: gX :: gY :: gZ :: gf :: gg :: gh :: gi :: gj :: []) S [] R := by
 intro k
 induction k with
 | zero =>
  intro i xs S v8 gI gJ gF gA gB gG gH gC gD gE gK gL gO gM gN gP gQ gV gR gS gT gU gW gX gY gZ gf gg gh gi gj hk hi hxl ho hb hna hR
  have hie : i = d.names.length := by omega
  subst hie
  have hr : rowE S 0 0 = some (.d (zB d)) := zE hb
  rw [qK]
  refine zS ?_
  conv => arg 2; whnf
  simp (maxSteps:=1000000) (disch:=first|assumption|omega|rfl) only [↓vmp, ga, Nat.reduceAdd, hr]
  exact hR _ _ xs _ _ _ _ _ _ _ _ _ _ _ _ _ _ _ _ _ _ _ _ _ _ _ _ _ _ _ _ _ _ _ _ ho (by rw [List.drop_length]; simp) hb hna
 | succ k ih =>
  intro i xs S v8 gI gJ gF gA gB gG gH gC gD gE gK gL gO gM gN gP gQ gV gR gS gT gU gW gX gY gZ gf gg gh gi gj hk hi hxl ho hb hna hR
  have hlt : i < d.names.length := by omega
  have hdr : d.names.drop i = d.names[i] :: d.names.drop (i + 1) := List.drop_eq_getElem_cons hlt
  rw [hdr] at hR
  have hr : rowE S 0 0 = some (.d (zB d)) := zE hb
  rw [qK]
  refine zS ?_
  conv => arg 2; whnf
  by_cases hc : d.names[i].name ≠ s
  ·obtain ⟨v', S', c, ha, ho', hfr, hlen⟩ := ap30 d.names[i] ho (by omega)
   obtain ⟨hb', hna'⟩ := hfr _ _ hb hna
   simp (maxSteps:=1000000) (disch:=first|assumption|omega|rfl) only [↓vmp, ga, Nat.reduceAdd, hr, zmi, ha]
   exact ih (i + 1) (xs ++ [d.names[i]]) S' v' _ _ _ _ _ _ _ _ _ _ _ _ _ _ _ _ _ _ _ _ _ _ _ _ _ _ _ _ _ _ _ (by omega) (by omega) (by simp; omega) ho' hb' hna' (fun S v8 xs' v9 gI gJ gF gA gB gG gH gC gD gE gK gL gO gM gN gP gQ gV gR gS gT gU gW gX gY gZ gf gg gh gi gj a1 a2 a3 a4 => hR S v8 xs' v9 gI gJ gF gA gB gG gH gC gD gE gK gL gO gM gN gP gQ gV gR gS gT gU gW gX gY gZ gf gg gh gi gj a1 (by rw [a2, List.filter_cons_of_pos (by simpa using hc)]; simp) a3 a4)
  ·simp (maxSteps:=1000000) (disch:=first|assumption|omega|rfl) only [↓vmp, ga, Nat.reduceAdd, hr, zmi]
   exact ih (i + 1) xs S v8 _ _ _ _ _ _ _ _ _ _ _ _ _ _ _ _ _ _ _ _ _ _ _ _ _ _ _ _ _ _ _ (by omega) (by omega) (by omega) ho hb hna (fun S v8 xs' v9 gI gJ gF gA gB gG gH gC gD gE gK gL gO gM gN gP gQ gV gR gS gT gU gW gX gY gZ gf gg gh gi gj a1 a2 a3 a4 => hR S v8 xs' v9 gI gJ gF gA gB gG gH gC gD gE gK gL gO gM gN gP gQ gV gR gS gT gU gW gX gY gZ gf gg gh gi gj a1 (by rw [a2, List.filter_cons_of_neg (by simpa using hc)]) a3 a4)
theorem zt8 (t : List Node) (dir : Int) (s : List UInt8) (hl : t.length < 400000) (hn : (getN t dir).names.length < 1000000) : Ev cfg 91 [.sl (t.map zB), .int .i64 dir, .str s] (.ret (.d (.sl ((zU t dir s).map zB)))) := by
 refine kQ rfl rfl zup ?_
 show Wp cfg (Try.f91.body.getD .skip) ((.d (.sl (t.map zB))) :: (.d (.int .i64 dir)) :: (.d (.str s)) :: uZ (uZ (uZ ((.tup []) :: (.tup []) :: (.tup []) :: (.tup []) :: (.tup []) :: (.tup []) :: (.tup []) :: (.tup []) :: [])))) [] [] _
 unfold uZ
 conv => arg 2; whnf
 simp (maxSteps:=1000000) (disch:=first|assumption|omega|rfl) only [↓vmp, ga, Nat.reduceAdd, jP]
 refine zwm t dir s (getN t dir) hn _ _ (getN t dir).names.length 0 [] _ _ _ _ _ _ _ _ _ _ _ _ _ _ _ _ _ _ _ _ _ _ _ _ _ _ _ _ _ _ _ _ _ rfl (by omega) (by simp) OwnS.nil rfl NotAt.ts ?_
 intro S v8 xs v9 gI gJ gF gA gB gG gH gC gD gE gK gL gO gM gN gP gQ gV gR gS gT gU gW gX gY gZ gf gg gh gi gj ho hx hb hna
 rw [List.nil_append, List.drop_zero] at hx
 have hr : rowE S 0 0 = some (.d (zB (getN t dir))) := zE hb
 have hst := zm9 (a := getN t dir) (v := v8) (z1z ho (by kernel_rfl) (by kernel_rfl)) (z0z ho)
 have hpr := fun y => qD (y := y) hb
 have hr2 : ∀ y, rowE (S.set 0 (.row [y] 91)) 0 0 = some y := fun y => zE (jR hb)
 simp (maxSteps:=1000000) (disch:=first|assumption|omega|rfl) only [↓vmp, ga, Nat.reduceAdd, hr, hst, hpr, hr2]
 have ho2 := fun y => vC (o := .row [y] 91) ho hna
 refine z23 (ds := [.sl (t.map zB), zB { getN t dir with names := xs }]) rfl ?_ (zce (ho2 _)) (z9c t _ hl) fun S2 => ?_
 ·have h1 := zbu (a := (getN t dir).ino) (b := (getN t dir).kind) (c := (getN t dir).links) (d := (getN t dir).parent) (e := (getN t dir).size) (f := (getN t dir).data) (ho2 (.agg [.d (.int .i64 (getN t dir).ino), .d (.int .i64 (getN t dir).kind), .d (.int .i64 (getN t dir).links), .d (.int .i64 (getN t dir).parent), .d (.int .i64 (getN t dir).size), .d (encB (getN t dir).data), v8]))
  simp only [allO, zd8, h1]
 ·simp (maxSteps:=1000000) (disch:=first|assumption|omega|rfl) only [↓vmp, ga, Nat.reduceAdd]
  rw [hx]
  exact zV rfl rfl rfl
def putA (s : List UInt8) (ino : Int) : Bool → List Ent → List Ent
 | b, [] => if b then [] else [⟨s, ino⟩]
 | b, e :: r => (if b = false ∧ kY s e.name = true then [⟨s, ino⟩] else []) ++ [e] ++ putA s ino (b || kY s e.name) r
def putN (t : List Node) (dir : Int) (s : List UInt8) (ino : Int) : List Node := qT t { getN t dir with names := putA s ino false (getN t dir).names }
theorem bd88 {s : List UInt8} {n : Int} : vP Try.prog 88 [(0, .d (.str s)), (1, .d (.int .i64 n))] = some (.agg [.d (.str s), .d (.int .i64 n)]) := by kernel_rfl
theorem zlw {S : zA} {s : List UInt8} {n : Int} : bs1 Try.prog S 30 (.agg [.d (.str s), .d (.int .i64 n)]) = some (.val (.ts [zI ⟨s, n⟩]) S 0) := by kernel_rfl
theorem q07 (t : List Node) (dir : Int) (s : List UInt8) (ino : Int) (d : Node) (hl : d.names.length < 400000) (hs : s.length < 1000000) (hm : ∀ e ∈ d.names, e.name.length < 1000000) (R : Post) (g8 : V) : ∀ (k i : Nat) (inn : Bool) (xs : List Ent) (S : zA) (v10 gA gB gG gH gC gD gE gK gL gO gM gN gP gQ gV gR gS gT gU gW gX gY gZ gf gg gh gi gj gk gm gn gr gz hC hH hJ hY hZ xA xB xC xD xE xF xG xH xI xJ xK : V),
 d.names.length - i = k → i ≤ d.names.length → xs.length ≤ 2 * i → OwnS S v10 88 (xs.map fun n => .d (zI n)) → S[0]? = some (.row [.d (zB d)] 91) → NotAt v10 0 →
 (∀ S v10 inn2 (xs' : List Ent) v12 gA gB gG gH gC gD gE gK gL gO gM gN gP gQ gV gR gS gT gU gW gX gY gZ gf gg gh gi gj gk gm gn gr gz hC hH hJ hY hZ xA xB xC xD xE xF xG xH xI xJ xK, xs'.length ≤ 2 * d.names.length → OwnS S v10 88 (xs'.map fun n => .d (zI n)) → xs' ++ (if inn2 then [] else [⟨s, ino⟩]) = xs ++ putA s ino inn (d.names.drop i) → S[0]? = some (.row [.d (zB d)] 91) → NotAt v10 0 → R (.exit 0) ((.d (.sl (t.map zB))) :: (.d (.int .i64 dir)) :: (.d (.str s)) :: (.d (.int .i64 ino)) :: (.tup []) :: (.tup []) :: (.tup []) :: (.tup []) :: g8 :: (.ref 0 0 0) :: v10 :: (.d (.bool inn2)) :: v12 :: gA :: gB :: gG :: gH :: gC :: gD :: gE :: gK :: gL :: gO :: gM :: gN :: gP :: gQ :: gV :: gR :: gS :: gT :: gU :: gW :: gX :: gY :: gZ :: gf :: gg :: gh :: gi :: gj :: gk :: gm :: gn :: gr :: gz :: hC :: hH :: hJ :: hY :: hZ :: xA :: xB :: xC :: xD :: xE :: xF :: xG :: xH :: xI :: xJ :: xK :: []) S []) →
 Wp cfg (.loop (lpOf (Try.f88.body.getD .skip) 0)) ((.d (.sl (t.map zB))) :: (.d (.int .i64 dir)) :: (.d (.str s)) :: (.d (.int .i64 ino)) :: (.tup []) :: (.tup []) :: (.tup []) :: (.tup []) :: g8 :: (.ref 0 0 0) :: v10 :: (.d (.bool inn)) :: (.d (.int .i64 i)) :: gA :: gB :: gG :: gH :: gC :: gD :: gE :: gK :: gL :: gO :: gM :: gN :: gP :: gQ :: gV :: gR :: gS :: gT :: gU :: gW :: gX :: gY :: gZ :: gf :: gg :: gh :: gi :: gj :: gk :: gm :: gn :: gr :: gz :: hC :: hH :: hJ :: hY :: hZ :: xA :: xB :: xC :: xD :: xE :: xF :: xG :: xH :: xI :: xJ :: xK :: []) S [] R := by
 intro k
 induction k with
 | zero =>
  intro i inn xs S v10 gA gB gG gH gC gD gE gK gL gO gM gN gP gQ gV gR gS gT gU gW gX gY gZ gf gg gh gi gj gk gm gn gr gz hC hH hJ hY hZ xA xB xC xD xE xF xG xH xI xJ xK hk hi hxl ho hb hna hR
  have hie : i = d.names.length := by omega
  subst hie
  have hr : rowE S 0 0 = some (.d (zB d)) := zE hb
  rw [qK]
  refine zS ?_
  conv => arg 2; whnf
  simp (maxSteps:=1000000) (disch:=first|assumption|omega|rfl) only [↓vmp, ga, Nat.reduceAdd, hr]
  exact hR _ _ inn xs _ _ _ _ _ _ _ _ _ _ _ _ _ _ _ _ _ _ _ _ _ _ _ _ _ _ _ _ _ _ _ _ _ _ _ _ _ _ _ _ _ _ _ _ _ _ _ _ _ _ (by omega) ho (by rw [List.drop_length]; rfl) hb hna
 | succ k ih =>
  intro i inn xs S v10 gA gB gG gH gC gD gE gK gL gO gM gN gP gQ gV gR gS gT gU gW gX gY gZ gf gg gh gi gj gk gm gn gr gz hC hH hJ hY hZ xA xB xC xD xE xF xG xH xI xJ xK hk hi hxl ho hb hna hR
  have hlt : i < d.names.length := by omega
  have hdr : d.names.drop i = d.names[i] :: d.names.drop (i + 1) := List.drop_eq_getElem_cons hlt
  rw [hdr] at hR
  have hr : rowE S 0 0 = some (.d (zB d)) := zE hb
  have hm1 : d.names[i].name.length < 1000000 := hm _ (List.getElem_mem hlt)
  rw [qK]
  refine zS ?_
  conv => arg 2; whnf
  cases inn with
  | true =>
   obtain ⟨v', S', c, ha, ho', hfr, hlen⟩ := ap30 d.names[i] ho (by omega)
   obtain ⟨hb', hna'⟩ := hfr _ _ hb hna
   simp (maxSteps:=1000000) (disch:=first|assumption|omega|rfl) only [↓vmp, ga, Nat.reduceAdd, vmg, hr, ha]
   exact ih (i + 1) true (xs ++ [d.names[i]]) S' v' _ _ _ _ _ _ _ _ _ _ _ _ _ _ _ _ _ _ _ _ _ _ _ _ _ _ _ _ _ _ _ _ _ _ _ _ _ _ _ _ _ _ _ _ _ _ _ _ _ (by omega) (by omega) (by simp; omega) ho' hb' hna' (fun S v10 inn xs' v12 gA gB gG gH gC gD gE gK gL gO gM gN gP gQ gV gR gS gT gU gW gX gY gZ gf gg gh gi gj gk gm gn gr gz hC hH hJ hY hZ xA xB xC xD xE xF xG xH xI xJ xK a0 a1 a2 a3 a4 => hR S v10 inn xs' v12 gA gB gG gH gC gD gE gK gL gO gM gN gP gQ gV gR gS gT gU gW gX gY gZ gf gg gh gi gj gk gm gn gr gz hC hH hJ hY hZ xA xB xC xD xE xF xG xH xI xJ xK a0 a1 (by rw [a2]; simp [putA]) a3 a4)
  | false =>
   cases hls : kY s d.names[i].name with
   | false =>
    obtain ⟨v', S', c, ha, ho', hfr, hlen⟩ := ap30 d.names[i] ho (by omega)
    obtain ⟨hb', hna'⟩ := hfr _ _ hb hna
    simp (maxSteps:=1000000) (disch:=first|assumption|omega|rfl) only [↓vmp, ga, Nat.reduceAdd, vmg, hr, ha, zb2, hls]
    exact ih (i + 1) false (xs ++ [d.names[i]]) S' v' _ _ _ _ _ _ _ _ _ _ _ _ _ _ _ _ _ _ _ _ _ _ _ _ _ _ _ _ _ _ _ _ _ _ _ _ _ _ _ _ _ _ _ _ _ _ _ _ _ (by omega) (by omega) (by simp; omega) ho' hb' hna' (fun S v10 inn xs' v12 gA gB gG gH gC gD gE gK gL gO gM gN gP gQ gV gR gS gT gU gW gX gY gZ gf gg gh gi gj gk gm gn gr gz hC hH hJ hY hZ xA xB xC xD xE xF xG xH xI xJ xK a0 a1 a2 a3 a4 => hR S v10 inn xs' v12 gA gB gG gH gC gD gE gK gL gO gM gN gP gQ gV gR gS gT gU gW gX gY gZ gf gg gh gi gj gk gm gn gr gz hC hH hJ hY hZ xA xB xC xD xE xF xG xH xI xJ xK a0 a1 (by rw [a2]; simp [putA, hls]) a3 a4)
   | true =>
    obtain ⟨v', S', c, ha, ho', hfr, hlen⟩ := ap30 ⟨s, ino⟩ ho (by omega)
    obtain ⟨hb', hna'⟩ := hfr _ _ hb hna
    have hr' : rowE S' 0 0 = some (.d (zB d)) := zE hb'
    obtain ⟨v2, S2, c2, ha2, ho2, hfr2, hlen2⟩ := ap30 d.names[i] ho' (by simp; omega)
    obtain ⟨hb2, hna2⟩ := hfr2 _ _ hb' hna'
    simp (maxSteps:=1000000) (disch:=first|assumption|omega|rfl) only [↓vmp, ga, Nat.reduceAdd, vmg, hr, ha, zb2, hls, bd88, zlw, hr', ha2]
    exact ih (i + 1) true (xs ++ [⟨s, ino⟩] ++ [d.names[i]]) S2 v2 _ _ _ _ _ _ _ _ _ _ _ _ _ _ _ _ _ _ _ _ _ _ _ _ _ _ _ _ _ _ _ _ _ _ _ _ _ _ _ _ _ _ _ _ _ _ _ _ _ (by omega) (by omega) (by simp; omega) ho2 hb2 hna2 (fun S v10 inn xs' v12 gA gB gG gH gC gD gE gK gL gO gM gN gP gQ gV gR gS gT gU gW gX gY gZ gf gg gh gi gj gk gm gn gr gz hC hH hJ hY hZ xA xB xC xD xE xF xG xH xI xJ xK a0 a1 a2 a3 a4 => hR S v10 inn xs' v12 gA gB gG gH gC gD gE gK gL gO gM gN gP gQ gV gR gS gT gU gW gX gY gZ gf gg gh gi gj gk gm gn gr gz hC hH hJ hY hZ xA xB xC xD xE xF xG xH xI xJ xK a0 a1 (by rw [a2]; simp [putA, hls]) a3 a4)
theorem zpk (t : List Node) (dir : Int) (s : List UInt8) (ino : Int) (hl : t.length < 400000) (hn : (getN t dir).names.length < 400000) (hs : s.length < 1000000) (hm : ∀ e ∈ (getN t dir).names, e.name.length < 1000000) : Ev cfg 88 [.sl (t.map zB), .int .i64 dir, .str s, .int .i64 ino] (.ret (.d (.sl ((putN t dir s ino).map zB)))) := by
 refine kQ rfl rfl zym ?_
 show Wp cfg (Try.f88.body.getD .skip) ((.d (.sl (t.map zB))) :: (.d (.int .i64 dir)) :: (.d (.str s)) :: (.d (.int .i64 ino)) :: uZ (uZ (uZ (uZ (uZ ((.tup []) :: (.tup []) :: (.tup []) :: (.tup []) :: (.tup []) :: (.tup []) :: (.tup []) :: (.tup []) :: [])))))) [] [] _
 unfold uZ
 conv => arg 2; whnf
 simp (maxSteps:=1000000) (disch:=first|assumption|omega|rfl) only [↓vmp, ga, Nat.reduceAdd, jP]
 refine q07 t dir s ino (getN t dir) hn hs hm _ _ (getN t dir).names.length 0 false [] _ _ _ _ _ _ _ _ _ _ _ _ _ _ _ _ _ _ _ _ _ _ _ _ _ _ _ _ _ _ _ _ _ _ _ _ _ _ _ _ _ _ _ _ _ _ _ _ _ _ _ rfl (by omega) (by simp) OwnS.nil rfl NotAt.ts ?_
 intro S v10 inn xs v12 gA gB gG gH gC gD gE gK gL gO gM gN gP gQ gV gR gS gT gU gW gX gY gZ gf gg gh gi gj gk gm gn gr gz hC hH hJ hY hZ xA xB xC xD xE xF xG xH xI xJ xK hxl ho hx hb hna
 rw [List.nil_append, List.drop_zero] at hx
 have hr : rowE S 0 0 = some (.d (zB (getN t dir))) := zE hb
 cases inn with
 | true =>
  simp only [if_true, List.append_nil] at hx
  have hst := zm9 (a := getN t dir) (v := v10) (z1z ho (by kernel_rfl) (by kernel_rfl)) (z0z ho)
  have hpr := fun y => qD (y := y) hb
  have hr2 : ∀ y, rowE (S.set 0 (.row [y] 91)) 0 0 = some y := fun y => zE (jR hb)
  simp (maxSteps:=1000000) (disch:=first|assumption|omega|rfl) only [↓vmp, ga, Nat.reduceAdd, hr, hst, hpr, hr2]
  have ho2 := fun y => vC (o := .row [y] 91) ho hna
  refine z23 (ds := [.sl (t.map zB), zB { getN t dir with names := xs }]) rfl ?_ (zce (ho2 _)) (z9c t _ hl) fun S2 => ?_
  ·have h1 := zbu (a := (getN t dir).ino) (b := (getN t dir).kind) (c := (getN t dir).links) (d := (getN t dir).parent) (e := (getN t dir).size) (f := (getN t dir).data) (ho2 (.agg [.d (.int .i64 (getN t dir).ino), .d (.int .i64 (getN t dir).kind), .d (.int .i64 (getN t dir).links), .d (.int .i64 (getN t dir).parent), .d (.int .i64 (getN t dir).size), .d (encB (getN t dir).data), v10]))
   simp only [allO, zd8, h1]
  ·simp (maxSteps:=1000000) (disch:=first|assumption|omega|rfl) only [↓vmp, ga, Nat.reduceAdd]
   rw [hx]
   exact zV rfl rfl rfl
 | false =>
  obtain ⟨v', S', c, ha, ho', hfr, hlen⟩ := ap30 ⟨s, ino⟩ ho (by omega)
  obtain ⟨hb', hna'⟩ := hfr _ _ hb hna
  have hx : xs ++ [⟨s, ino⟩] = putA s ino false (getN t dir).names := hx
  have hr' : rowE S' 0 0 = some (.d (zB (getN t dir))) := zE hb'
  have hst := zm9 (a := getN t dir) (v := v') (z1z ho' (by kernel_rfl) (by kernel_rfl)) (z0z ho')
  have hpr := fun y => qD (y := y) hb'
  have hr2 : ∀ y, rowE (S'.set 0 (.row [y] 91)) 0 0 = some y := fun y => zE (jR hb')
  simp (maxSteps:=1000000) (disch:=first|assumption|omega|rfl) only [↓vmp, ga, Nat.reduceAdd, hr, ha, bd88, zlw, hr', hst, hpr, hr2]
  have ho2 := fun y => vC (o := .row [y] 91) ho' hna'
  refine z23 (ds := [.sl (t.map zB), zB { getN t dir with names := xs ++ [⟨s, ino⟩] }]) rfl ?_ (zce (ho2 _)) (z9c t _ hl) fun S2 => ?_
  ·have h1 := zbu (a := (getN t dir).ino) (b := (getN t dir).kind) (c := (getN t dir).links) (d := (getN t dir).parent) (e := (getN t dir).size) (f := (getN t dir).data) (ho2 (.agg [.d (.int .i64 (getN t dir).ino), .d (.int .i64 (getN t dir).kind), .d (.int .i64 (getN t dir).links), .d (.int .i64 (getN t dir).parent), .d (.int .i64 (getN t dir).size), .d (encB (getN t dir).data), v']))
   simp only [allO, zd8, h1]
  ·simp (maxSteps:=1000000) (disch:=first|assumption|omega|rfl) only [↓vmp, ga, Nat.reduceAdd]
   rw [hx]
   exact zV rfl rfl rfl
end Go.Proofs.Ytghllhghboaagaa
end
section
namespace Go.Vm
open Go
theorem z3a {n d : Nat} {i : Int} (h0 : 0 ≤ i) (h1 : i.toNat ≤ n) : wK n (some (.d (.int .i64 i))) d = some i.toNat := by
 have h2 : i ≤ n := by omega
 simp only [wK, intOf?, h0, h2, if_true, and_self]
theorem z1f {n d : Nat} : wK n none d = some d := rfl
theorem zla {P : Program} {S : zA} {t : TypeId} {s : List UInt8} {lo hi : Int} (hu : P.underlying t = some .string) (h0 : 0 ≤ lo) (h1 : lo ≤ hi) (h2 : hi ≤ s.length) :
  jL P S t (.d (.str s)) (some (.d (.int .i64 lo))) (some (.d (.int .i64 hi))) = some (.d (.str ((s.take hi.toNat).drop lo.toNat))) := by
 simp only [jL, hu, z3a (n := s.length) (d := s.length) (i := hi) (by omega) (by omega), z3a (n := hi.toNat) (d := 0) (i := lo) h0 (by omega)]
theorem zqt {P : Program} {S : zA} {t : TypeId} {s : List UInt8} {i : Nat} (hu : P.underlying t = some .string) (h : i < s.length) :
  jL P S t (.d (.str s)) (some (.d (.int .i64 i))) (some (.d (.int .i64 (i + 1)))) = some (.d (.str [s[i]])) := by
 rw [zla hu (by omega) (by omega) (by omega)]
 have : ((i : Int) + 1).toNat = i + 1 := by omega
 rw [this, Int.toNat_natCast, List.take_succ_eq_append_getElem h, List.drop_append, List.drop_eq_nil_of_le (by rw [List.length_take]; omega)]
 simp [Nat.min_eq_left (Nat.le_of_lt h)]
theorem zue {P : Program} {S : zA} {t e : TypeId} {xs : List D} {lo hi : Int} (hu : P.underlying t = some (.slice e)) (hf : xs.all (vW P e) = true) (hz : (sz P e).isSome = true) (h0 : 0 ≤ lo) (h1 : lo ≤ hi) (h2 : hi ≤ xs.length) :
  jL P S t (.d (.sl xs)) (some (.d (.int .i64 lo))) (some (.d (.int .i64 hi))) = some (.d (.sl ((xs.take hi.toNat).drop lo.toNat))) := by
 simp only [jL, hu, z3a (n := xs.length) (d := xs.length) (i := hi) (by omega) (by omega), z3a (n := hi.toNat) (d := 0) (i := lo) h0 (by omega), hf, hz, Bool.and_self, if_true]
theorem zpl {P : Program} {S : zA} {t e : TypeId} {xs : List D} {hi : Int} (hu : P.underlying t = some (.slice e)) (hf : xs.all (vW P e) = true) (hz : (sz P e).isSome = true) (h1 : 0 ≤ hi) (h2 : hi ≤ xs.length) :
  jL P S t (.d (.sl xs)) none (some (.d (.int .i64 hi))) = some (.d (.sl (xs.take hi.toNat))) := by
 simp only [jL, hu, z3a (n := xs.length) (d := xs.length) (i := hi) (by omega) (by omega), z1f, hf, hz, Bool.and_self, if_true, List.drop_zero]
theorem zuf {a b : List UInt8} (h : a.length + b.length ≤ 9223372036854775807) : z29 .add a b = some (.str (a ++ b)) := by simp only [z29, h, if_true]
theorem strOf_mk {l : List UInt8} : strOf ⟨l.toArray⟩ = l := rfl
theorem zsn {a : List UInt8} {c : UInt8} (h : a.length < 1000000) : z29 .add a [c] = some (.str (a ++ [c])) := zuf (by simp; omega)
theorem zuh {α : Type} {enc : α → D} {P : Program} {S : zA} {t e : TypeId} {v : V} {xs : List α} {i : Nat} (hu : P.underlying t = some (.slice e)) (hf : ∀ a, qI P e (.d (enc a)) = true) (hz : (sz P e).isSome = true) (ho : OwnS S v e (xs.map fun a => .d (enc a))) (h : i < xs.length) :
  ∃ a, qM P S t v (.d (.int .i64 i)) = some a ∧ jV P S e a = some (.d (enc xs[i])) := by
 have h0 : (0 : Int) ≤ i := by omega
 rcases ho with ⟨rfl, h1⟩ | ⟨id, rfl, h1⟩
 ·have : xs.length = 0 := by simpa using congrArg List.length h1
  omega
 ·refine ⟨.ref id i 0, ?_, ?_⟩
  ·have h2 : ((i : Int) < ((xs.map fun a => V.d (enc a)).length : Int)) := by rw [List.length_map]; omega
   have h3 : rowT S id e = true := by simp only [rowT, h1, beq_self_eq_true]
   simp only [qM, intOf?, hu, h0, h2, h3, hz, and_self, if_true, Int.toNat_natCast, Nat.zero_add]
  ·have h2 : (xs.map fun a => V.d (enc a))[i]? = some (.d (enc xs[i])) := by rw [List.getElem?_map, List.getElem?_eq_getElem h]; rfl
   simp only [jV, h1, h2, hf, decide_true, Bool.and_self, if_true]
section
variable {C : Cfg} {S : zA} {T : List V} {dst : Option Tmp} {ops : Array Oper} {F : Dfs} {Q : Post} {K : List Nat → List (Nat × Nat) → List V → zA → Prop} {rd : List Nat} {cs : List (Nat × Nat)} {i : Nat}
theorem zdp {f : FuncId} {args : List V} {ds : List D} {v : V} (hs : C.shared f = false) (hf : allO (frz S zO) args = some ds) (hi : (args.flatMap (zZ S zO)).isEmpty = true) (he : Ev C f ds (.ret v)) :
  WpE C ops F Q K rd cs i dst T S (some (.enter f args)) = K (i :: rd) (cs ++ [(i, 1)]) (putT T dst v) S := by
 obtain ⟨n, hn⟩ := he
 have hn' : answer C (run C n) f ds = some (.ret v) := hn
 have hc : kE C (run C n) f args S = some (.ret v, S, 1) := by
  unfold kE
  simp only [hs, Bool.false_eq_true, if_false, hf, hn', hi, if_true]
 apply propext
 constructor
 ·rintro ⟨m, v', S', c, h1, h2, h3⟩
  have := z2k h1 hc
  simp only [Prod.mk.injEq] at this
  obtain ⟨h4, rfl, rfl⟩ := this
  cases h4
  exact h3
 ·exact fun h => ⟨n, _, _, _, hc, fun h => absurd h (by decide), h⟩
theorem z1r {f : FuncId} {ds : List D} {v : V} (hs : C.shared f = false) (he : Ev C f ds (.ret v)) :
  WpE C ops F Q K rd cs i dst T S (some (.enter f (ds.map .d))) = K (i :: rd) (cs ++ [(i, 1)]) (putT T dst v) S := by
 have hfz : ∀ ds : List D, allO (frz S zO) (ds.map V.d) = some ds := by
  intro ds
  induction ds with
  | nil => rfl
  | cons x r ih => simp only [List.map_cons, allO, ih, zd8]
 have hid : ∀ ds : List D, ((ds.map V.d).flatMap (zZ S zO)).isEmpty = true := by
  intro ds
  induction ds with
  | nil => rfl
  | cons x r ih => simp only [List.map_cons, List.flatMap_cons, zbn, List.nil_append]; exact ih
 exact zdp hs (hfz ds) (hid ds) he
end
end Go.Vm
end
section
namespace Go.Proofs.Ytghllhghboaagaa
open Go.Vm
theorem z2h {ops : Array Oper} {dst : Option Tmp} {l : List Oper} {T : List V} {S : zA} {F : Dfs} {Q : Post} {t : List Node} {dir : Int} {s : List UInt8} (hl : t.length < 400000) (hn : (getN t dir).names.length < 400000) :
  WpR cfg ops dst l T S F Q (some (.enter 91 [.d (.sl (t.map zB)), .d (.int .i64 dir), .d (.str s)])) = WpL cfg ops l (putT T dst (.d (.sl ((zU t dir s).map zB)))) S F Q :=
 zX (ds := [.sl (t.map zB), .int .i64 dir, .str s]) rfl (zt8 t dir s hl (by omega))
theorem z89 {ops : Array Oper} {dst : Option Tmp} {l : List Oper} {T : List V} {S : zA} {F : Dfs} {Q : Post} {t : List Node} {dir ino : Int} {s : List UInt8} (hl : t.length < 400000) (hn : (getN t dir).names.length < 400000) (hs : s.length < 1000000) (hm : ∀ e ∈ (getN t dir).names, e.name.length < 1000000) :
  WpR cfg ops dst l T S F Q (some (.enter 88 [.d (.sl (t.map zB)), .d (.int .i64 dir), .d (.str s), .d (.int .i64 ino)])) = WpL cfg ops l (putT T dst (.d (.sl ((putN t dir s ino).map zB)))) S F Q :=
 zX (ds := [.sl (t.map zB), .int .i64 dir, .str s, .int .i64 ino]) rfl (zpk t dir s ino hl hn hs hm)
def z0i (c : UInt8) : Bool := decide (c ≠ 0 ∧ c ≠ 47)
def wM (s : List UInt8) : Bool := decide (1 ≤ s.length ∧ s.length ≤ 24 ∧ s ≠ [46] ∧ s ≠ [46, 46]) && s.all z0i
theorem u8_c {a : UInt8} {n : Nat} (hn : n < 256) : ((a.toNat : Int) = (n : Int)) ↔ a = UInt8.ofNat n := by
 constructor
 ·intro h
  apply UInt8.toNat_inj.1
  rw [UInt8.toNat_ofNat_of_lt' (by simpa using hn)]
  omega
 ·rintro rfl
  rw [UInt8.toNat_ofNat_of_lt' (by simpa using hn)]
theorem zrq (s : List UInt8) (hl : s.length < 1000000) (R : Post) (S : zA) (g2 : V) : ∀ (k i : Nat) (g4 g5 g6 g7 g8 g9 gI gJ gF gA gB gG gH gC gD gE gK gL gO gM gN gP gQ gV gR gS gT gU gW gX gY gZ : V), s.length - i = k → i ≤ s.length →
 (∀ v3 g4 g5 g6 g7 g8 g9 gI gJ gF gA gB gG gH gC gD gE gK gL gO gM gN gP gQ gV gR gS gT gU gW gX gY gZ, (s.drop i).all z0i = true → R (.exit 0) ((.d (.str s)) :: (.tup []) :: g2 :: v3 :: g4 :: g5 :: g6 :: g7 :: g8 :: g9 :: gI :: gJ :: gF :: gA :: gB :: gG :: gH :: gC :: gD :: gE :: gK :: gL :: gO :: gM :: gN :: gP :: gQ :: gV :: gR :: gS :: gT :: gU :: gW :: gX :: gY :: gZ :: []) S []) →
 (∀ v3 g4 g5 g6 g7 g8 g9 gI gJ gF gA gB gG gH gC gD gE gK gL gO gM gN gP gQ gV gR gS gT gU gW gX gY gZ, (s.drop i).all z0i = false → R .ret ((.d (.str s)) :: (.tup []) :: (.d (.bool false)) :: v3 :: g4 :: g5 :: g6 :: g7 :: g8 :: g9 :: gI :: gJ :: gF :: gA :: gB :: gG :: gH :: gC :: gD :: gE :: gK :: gL :: gO :: gM :: gN :: gP :: gQ :: gV :: gR :: gS :: gT :: gU :: gW :: gX :: gY :: gZ :: []) S []) →
 Wp cfg (.loop (lpOf (Try.f100.body.getD .skip) 0)) ((.d (.str s)) :: (.tup []) :: g2 :: (.d (.int .i64 i)) :: g4 :: g5 :: g6 :: g7 :: g8 :: g9 :: gI :: gJ :: gF :: gA :: gB :: gG :: gH :: gC :: gD :: gE :: gK :: gL :: gO :: gM :: gN :: gP :: gQ :: gV :: gR :: gS :: gT :: gU :: gW :: gX :: gY :: gZ :: []) S [] R := by
 intro k
 induction k with
 | zero =>
  intro i g4 g5 g6 g7 g8 g9 gI gJ gF gA gB gG gH gC gD gE gK gL gO gM gN gP gQ gV gR gS gT gU gW gX gY gZ hk hi hE hR
  have hie : i = s.length := by omega
  subst hie
  rw [qK]
  refine zS ?_
  conv => arg 2; whnf
  simp (maxSteps:=1000000) (disch:=first|assumption|omega|rfl) only [↓vmp, ga, Nat.reduceAdd]
  exact hE _ _ _ _ _ _ _ _ _ _ _ _ _ _ _ _ _ _ _ _ _ _ _ _ _ _ _ _ _ _ _ _ _ (by rw [List.drop_length]; rfl)
 | succ k ih =>
  intro i g4 g5 g6 g7 g8 g9 gI gJ gF gA gB gG gH gC gD gE gK gL gO gM gN gP gQ gV gR gS gT gU gW gX gY gZ hk hi hE hR
  have hlt : i < s.length := by omega
  have hdr : s.drop i = s[i] :: s.drop (i + 1) := List.drop_eq_getElem_cons hlt
  rw [hdr] at hE hR
  have e0 := u8_c (a := s[i]) (n := 0) (by omega)
  have e47 := u8_c (a := s[i]) (n := 47) (by omega)
  rw [qK]
  refine zS ?_
  conv => arg 2; whnf
  by_cases h0 : s[i] = 0
  ·have h0' : ((s[i].toNat : Int)) = 0 := e0.2 h0
   simp (maxSteps:=1000000) (disch:=first|assumption|omega|rfl) only [↓vmp, ga, Nat.reduceAdd, vmg]
   exact hR _ _ _ _ _ _ _ _ _ _ _ _ _ _ _ _ _ _ _ _ _ _ _ _ _ _ _ _ _ _ _ _ _ (by simp [z0i, h0])
  ·have h0' : ¬ ((s[i].toNat : Int)) = 0 := fun h => h0 (e0.1 h)
   by_cases h1 : s[i] = 47
   ·have h1' : ((s[i].toNat : Int)) = 47 := e47.2 h1
    simp (maxSteps:=1000000) (disch:=first|assumption|omega|rfl) only [↓vmp, ga, Nat.reduceAdd, vmg]
    exact hR _ _ _ _ _ _ _ _ _ _ _ _ _ _ _ _ _ _ _ _ _ _ _ _ _ _ _ _ _ _ _ _ _ (by simp [z0i, h1])
   ·have h1' : ¬ ((s[i].toNat : Int)) = 47 := fun h => h1 (e47.1 h)
    simp (maxSteps:=1000000) (disch:=first|assumption|omega|rfl) only [↓vmp, ga, Nat.reduceAdd, vmg]
    have e : (s[i] :: s.drop (i + 1)).all z0i = (s.drop (i + 1)).all z0i := by
     rw [List.all_cons]
     simp [z0i, h0, h1]
    rw [e] at hE hR
    exact ih (i + 1) _ _ _ _ _ _ _ _ _ _ _ _ _ _ _ _ _ _ _ _ _ _ _ _ _ _ _ _ _ _ _ _ (by omega) (by omega) hE hR
theorem zn7 (s : List UInt8) (hl : s.length < 1000000) : Ev cfg 100 [.str s] (.ret (.d (.bool (wM s)))) := by
 refine kQ rfl rfl zqo ?_
 show Wp cfg (Try.f100.body.getD .skip) ((.d (.str s)) :: uZ (uZ (uZ ((.tup []) :: (.tup []) :: (.tup []) :: (.tup []) :: (.tup []) :: [])))) [] [] _
 unfold uZ
 conv => arg 2; whnf
 by_cases h1 : s.length < 1
 ·simp (maxSteps:=1000000) (disch:=first|assumption|omega|rfl) only [↓vmp, ga, Nat.reduceAdd, vmg]
  have : wM s = false := by
   have h : ¬ (1 ≤ s.length ∧ s.length ≤ 24 ∧ s ≠ [46] ∧ s ≠ [46, 46]) := by omega
   simp only [wM, decide_eq_false h, Bool.false_and]
  rw [this]
  exact zV rfl rfl rfl
 by_cases h2 : s.length > 24
 ·simp (maxSteps:=1000000) (disch:=first|assumption|omega|rfl) only [↓vmp, ga, Nat.reduceAdd, vmg]
  have : wM s = false := by
   have h : ¬ (1 ≤ s.length ∧ s.length ≤ 24 ∧ s ≠ [46] ∧ s ≠ [46, 46]) := by omega
   simp only [wM, decide_eq_false h, Bool.false_and]
  rw [this]
  exact zV rfl rfl rfl
 by_cases h3 : s = [46]
 ·simp (maxSteps:=1000000) (disch:=first|assumption|omega|rfl) only [↓vmp, ga, Nat.reduceAdd, vmg, strOf_mk, z40]
  have : wM s = false := by
   have h : ¬ (1 ≤ s.length ∧ s.length ≤ 24 ∧ s ≠ [46] ∧ s ≠ [46, 46]) := fun h => h.2.2.1 h3
   simp only [wM, decide_eq_false h, Bool.false_and]
  rw [this]
  exact zV rfl rfl rfl
 by_cases h4 : s = [46, 46]
 ·simp (maxSteps:=1000000) (disch:=first|assumption|omega|rfl) only [↓vmp, ga, Nat.reduceAdd, vmg, strOf_mk, z40]
  have : wM s = false := by
   have h : ¬ (1 ≤ s.length ∧ s.length ≤ 24 ∧ s ≠ [46] ∧ s ≠ [46, 46]) := fun h => h.2.2.2 h4
   simp only [wM, decide_eq_false h, Bool.false_and]
  rw [this]
  exact zV rfl rfl rfl
 have e : wM s = s.all z0i := by
  have h : (1 ≤ s.length ∧ s.length ≤ 24 ∧ s ≠ [46] ∧ s ≠ [46, 46]) := ⟨by omega, by omega, h3, h4⟩
  simp only [wM, decide_eq_true h, Bool.true_and]
 simp (maxSteps:=1000000) (disch:=first|assumption|omega|rfl) only [↓vmp, ga, Nat.reduceAdd, vmg, strOf_mk, z40]
 refine zrq s hl _ _ _ s.length 0 _ _ _ _ _ _ _ _ _ _ _ _ _ _ _ _ _ _ _ _ _ _ _ _ _ _ _ _ _ _ _ _ rfl (by omega) ?_ ?_
 ·intro v3 g4 g5 g6 g7 g8 g9 gI gJ gF gA gB gG gH gC gD gE gK gL gO gM gN gP gQ gV gR gS gT gU gW gX gY gZ h
  simp (maxSteps:=1000000) (disch:=first|assumption|omega|rfl) only [↓vmp, ga, Nat.reduceAdd]
  rw [e, ← h]
  exact zV rfl rfl rfl
 ·intro v3 g4 g5 g6 g7 g8 g9 gI gJ gF gA gB gG gH gC gD gE gK gL gO gM gN gP gQ gV gR gS gT gU gW gX gY gZ h
  simp (maxSteps:=1000000) (disch:=first|assumption|omega|rfl) only [↓vmp, ga, Nat.reduceAdd]
  rw [e, ← h]
  exact zV rfl rfl rfl
theorem zb0 {ops : Array Oper} {dst : Option Tmp} {l : List Oper} {T : List V} {S : zA} {F : Dfs} {Q : Post} {s : List UInt8} (hl : s.length < 1000000) :
  WpR cfg ops dst l T S F Q (some (.enter 100 [.d (.str s)])) = WpL cfg ops l (putT T dst (.d (.bool (wM s)))) S F Q :=
 zX (ds := [.str s]) rfl (zn7 s hl)
def kW : List UInt8 → List UInt8 → Option (List (List UInt8))
 | part, [] => if part = [] then none else some [part]
 | part, c :: r => if c = 47 then (if part = [] then none else (kW [] r).map (part :: ·)) else kW (part ++ [c]) r
def zQ (s : List UInt8) : List (List UInt8) × Int :=
 if s.length < 1 ∨ 200 < s.length ∨ s.head? ≠ some 47 then ([], 15)
 else if s.length = 1 then ([], 0)
 else match kW [] (s.drop 1) with
  | none => ([], 15)
  | some l => if l.all wM then (l, 0) else ([], 3)
theorem zss (s : List UInt8) (hl : s.length ≤ 200) (R : Post) (g2 g3 g7 : V) (res : Option (List (List UInt8))) : ∀ (k i : Nat) (part : List UInt8) (xs : List (List UInt8)) (S : zA) (v4 g8 g9 gI gJ gF gA gB gG gH gC gD gE gK gL gO gM gN gP gQ gV gR gS gT gU gW gX gY gZ gf gg gh gi gj gk gm gn gr gz hC hH hJ hY hZ xA xB xC xD xE xF xG xH xI xJ xK xL xM xN xO xP : V), s.length - i = k → i ≤ s.length → part.length ≤ i → xs.length ≤ i →
 OwnS S v4 9 (xs.map fun x => .d (.str x)) → (kW part (s.drop i)).map (xs ++ ·) = res →
 (∀ S v4 l v5 v6 g8 g9 gI gJ gF gA gB gG gH gC gD gE gK gL gO gM gN gP gQ gV gR gS gT gU gW gX gY gZ gf gg gh gi gj gk gm gn gr gz hC hH hJ hY hZ xA xB xC xD xE xF xG xH xI xJ xK xL xM xN xO xP, res = some l → l.length ≤ s.length + 1 → OwnS S v4 9 (l.map fun x => .d (.str x)) → R (.exit 0) ((.d (.str s)) :: (.tup []) :: g2 :: g3 :: v4 :: v5 :: v6 :: g7 :: g8 :: g9 :: gI :: gJ :: gF :: gA :: gB :: gG :: gH :: gC :: gD :: gE :: gK :: gL :: gO :: gM :: gN :: gP :: gQ :: gV :: gR :: gS :: gT :: gU :: gW :: gX :: gY :: gZ :: gf :: gg :: gh :: gi :: gj :: gk :: gm :: gn :: gr :: gz :: hC :: hH :: hJ :: hY :: hZ :: xA :: xB :: xC :: xD :: xE :: xF :: xG :: xH :: xI :: xJ :: xK :: xL :: xM :: xN :: xO :: xP :: []) S []) →
 (∀ S v4 v5 v6 g8 g9 gI gJ gF gA gB gG gH gC gD gE gK gL gO gM gN gP gQ gV gR gS gT gU gW gX gY gZ gf gg gh gi gj gk gm gn gr gz hC hH hJ hY hZ xA xB xC xD xE xF xG xH xI xJ xK xL xM xN xO xP, res = none → R .ret ((.d (.str s)) :: (.tup []) :: (.ts []) :: (.d (.int .i64 15)) :: v4 :: v5 :: v6 :: g7 :: g8 :: g9 :: gI :: gJ :: gF :: gA :: gB :: gG :: gH :: gC :: gD :: gE :: gK :: gL :: gO :: gM :: gN :: gP :: gQ :: gV :: gR :: gS :: gT :: gU :: gW :: gX :: gY :: gZ :: gf :: gg :: gh :: gi :: gj :: gk :: gm :: gn :: gr :: gz :: hC :: hH :: hJ :: hY :: hZ :: xA :: xB :: xC :: xD :: xE :: xF :: xG :: xH :: xI :: xJ :: xK :: xL :: xM :: xN :: xO :: xP :: []) S []) →
 Wp cfg (.loop (lpOf (Try.f61.body.getD .skip) 0)) ((.d (.str s)) :: (.tup []) :: g2 :: g3 :: v4 :: (.d (.str part)) :: (.d (.int .i64 i)) :: g7 :: g8 :: g9 :: gI :: gJ :: gF :: gA :: gB :: gG :: gH :: gC :: gD :: gE :: gK :: gL :: gO :: gM :: gN :: gP :: gQ :: gV :: gR :: gS :: gT :: gU :: gW :: gX :: gY :: gZ :: gf :: gg :: gh :: gi :: gj :: gk :: gm :: gn :: gr :: gz :: hC :: hH :: hJ :: hY :: hZ :: xA :: xB :: xC :: xD :: xE :: xF :: xG :: xH :: xI :: xJ :: xK :: xL :: xM :: xN :: xO :: xP :: []) S [] R := by
 intro k
 induction k with
 | zero =>
  intro i part xs S v4 g8 g9 gI gJ gF gA gB gG gH gC gD gE gK gL gO gM gN gP gQ gV gR gS gT gU gW gX gY gZ gf gg gh gi gj gk gm gn gr gz hC hH hJ hY hZ xA xB xC xD xE xF xG xH xI xJ xK xL xM xN xO xP hk hi hp hx ho hr hE hR
  have hie : i = s.length := by omega
  subst hie
  rw [List.drop_length] at hr
  rw [qK]
  refine zS ?_
  conv => arg 2; whnf
  by_cases h : part = []
  ·simp (maxSteps:=1000000) (disch:=first|assumption|omega|rfl) only [↓vmp, ga, Nat.reduceAdd, vmg, strOf_mk, z40]
   exact hR _ _ _ _ _ _ _ _ _ _ _ _ _ _ _ _ _ _ _ _ _ _ _ _ _ _ _ _ _ _ _ _ _ _ _ _ _ _ _ _ _ _ _ _ _ _ _ _ _ _ _ _ _ _ _ _ _ _ _ _ _ _ _ (by rw [← hr]; simp [kW, h])
  ·obtain ⟨v', S', c, ha, ho', hfr, hlen⟩ := ap42 part ho (by omega)
   simp (maxSteps:=1000000) (disch:=first|assumption|omega|rfl) only [↓vmp, ga, Nat.reduceAdd, vmg, strOf_mk, z40, bs42, ha]
   rw [qK]
   refine zS ?_
   conv => arg 2; whnf
   simp (maxSteps:=1000000) (disch:=first|assumption|omega|rfl) only [↓vmp, ga, Nat.reduceAdd]
   refine hE _ _ (xs ++ [part]) _ _ _ _ _ _ _ _ _ _ _ _ _ _ _ _ _ _ _ _ _ _ _ _ _ _ _ _ _ _ _ _ _ _ _ _ _ _ _ _ _ _ _ _ _ _ _ _ _ _ _ _ _ _ _ _ _ _ _ _ _ (by rw [← hr]; simp [kW, h]) (by simp; omega) ho'
 | succ k ih =>
  intro i part xs S v4 g8 g9 gI gJ gF gA gB gG gH gC gD gE gK gL gO gM gN gP gQ gV gR gS gT gU gW gX gY gZ gf gg gh gi gj gk gm gn gr gz hC hH hJ hY hZ xA xB xC xD xE xF xG xH xI xJ xK xL xM xN xO xP hk hi hp hx ho hr hE hR
  have hlt : i < s.length := by omega
  have hdr : s.drop i = s[i] :: s.drop (i + 1) := List.drop_eq_getElem_cons hlt
  rw [hdr] at hr
  have e47 := u8_c (a := s[i]) (n := 47) (by omega)
  rw [qK]
  refine zS ?_
  conv => arg 2; whnf
  by_cases h1 : s[i] = 47
  ·have h1' : ((s[i].toNat : Int)) = 47 := e47.2 h1
   by_cases h : part = []
   ·simp (maxSteps:=1000000) (disch:=first|assumption|omega|rfl) only [↓vmp, ga, Nat.reduceAdd, vmg, strOf_mk, z40]
    exact hR _ _ _ _ _ _ _ _ _ _ _ _ _ _ _ _ _ _ _ _ _ _ _ _ _ _ _ _ _ _ _ _ _ _ _ _ _ _ _ _ _ _ _ _ _ _ _ _ _ _ _ _ _ _ _ _ _ _ _ _ _ _ _ (by rw [← hr]; simp [kW, h, h1])
   ·obtain ⟨v', S', c, ha, ho', hfr, hlen⟩ := ap42 part ho (by omega)
    simp (maxSteps:=1000000) (disch:=first|assumption|omega|rfl) only [↓vmp, ga, Nat.reduceAdd, vmg, strOf_mk, z40, bs42, ha]
    exact ih (i + 1) [] (xs ++ [part]) S' v' _ _ _ _ _ _ _ _ _ _ _ _ _ _ _ _ _ _ _ _ _ _ _ _ _ _ _ _ _ _ _ _ _ _ _ _ _ _ _ _ _ _ _ _ _ _ _ _ _ _ _ _ _ _ _ _ _ _ _ (by omega) (by omega) (by simp) (by simp; omega) ho' (by rw [← hr]; simp [kW, h, h1, Option.map_map, Function.comp_def]) hE hR
  ·have h1' : ¬ ((s[i].toNat : Int)) = 47 := fun h => h1 (e47.1 h)
   have hsl := zqt (S := S) (t := 9) (s := s) (i := i) Try.underlying9 hlt
   simp (maxSteps:=1000000) (disch:=first|assumption|omega|rfl) only [↓vmp, ga, Nat.reduceAdd, vmg, strOf_mk, z40, hsl, zsn]
   exact ih (i + 1) (part ++ [s[i]]) xs S v4 _ _ _ _ _ _ _ _ _ _ _ _ _ _ _ _ _ _ _ _ _ _ _ _ _ _ _ _ _ _ _ _ _ _ _ _ _ _ _ _ _ _ _ _ _ _ _ _ _ _ _ _ _ _ _ _ _ _ _ (by omega) (by omega) (by simp; omega) (by omega) ho (by rw [← hr]; simp [kW, h1]) hE hR
theorem zs1 (xs : List (List UInt8)) (hl : xs.length < 1000000) (hs : ∀ x ∈ xs, x.length < 1000000) (R : Post) (S : zA) (g0 v4 g5 g6 : V) (ho : OwnS S v4 9 (xs.map fun x => .d (.str x))) : ∀ (k i : Nat) (g2 g3 g8 g9 gI gJ gF gA gB gG gH gC gD gE gK gL gO gM gN gP gQ gV gR gS gT gU gW gX gY gZ gf gg gh gi gj gk gm gn gr gz hC hH hJ hY hZ xA xB xC xD xE xF xG xH xI xJ xK xL xM xN xO xP : V), xs.length - i = k → i ≤ xs.length →
 (∀ v7 g2 g3 g8 g9 gI gJ gF gA gB gG gH gC gD gE gK gL gO gM gN gP gQ gV gR gS gT gU gW gX gY gZ gf gg gh gi gj gk gm gn gr gz hC hH hJ hY hZ xA xB xC xD xE xF xG xH xI xJ xK xL xM xN xO xP, (xs.drop i).all wM = true → R (.exit 2) (g0 :: (.tup []) :: g2 :: g3 :: v4 :: g5 :: g6 :: v7 :: g8 :: g9 :: gI :: gJ :: gF :: gA :: gB :: gG :: gH :: gC :: gD :: gE :: gK :: gL :: gO :: gM :: gN :: gP :: gQ :: gV :: gR :: gS :: gT :: gU :: gW :: gX :: gY :: gZ :: gf :: gg :: gh :: gi :: gj :: gk :: gm :: gn :: gr :: gz :: hC :: hH :: hJ :: hY :: hZ :: xA :: xB :: xC :: xD :: xE :: xF :: xG :: xH :: xI :: xJ :: xK :: xL :: xM :: xN :: xO :: xP :: []) S []) →
 (∀ v7 g8 g9 gI gJ gF gA gB gG gH gC gD gE gK gL gO gM gN gP gQ gV gR gS gT gU gW gX gY gZ gf gg gh gi gj gk gm gn gr gz hC hH hJ hY hZ xA xB xC xD xE xF xG xH xI xJ xK xL xM xN xO xP, (xs.drop i).all wM = false → R .ret (g0 :: (.tup []) :: (.ts []) :: (.d (.int .i64 3)) :: v4 :: g5 :: g6 :: v7 :: g8 :: g9 :: gI :: gJ :: gF :: gA :: gB :: gG :: gH :: gC :: gD :: gE :: gK :: gL :: gO :: gM :: gN :: gP :: gQ :: gV :: gR :: gS :: gT :: gU :: gW :: gX :: gY :: gZ :: gf :: gg :: gh :: gi :: gj :: gk :: gm :: gn :: gr :: gz :: hC :: hH :: hJ :: hY :: hZ :: xA :: xB :: xC :: xD :: xE :: xF :: xG :: xH :: xI :: xJ :: xK :: xL :: xM :: xN :: xO :: xP :: []) S []) →
 Wp cfg (.loop (lpOf (Try.f61.body.getD .skip) 2)) (g0 :: (.tup []) :: g2 :: g3 :: v4 :: g5 :: g6 :: (.d (.int .i64 i)) :: g8 :: g9 :: gI :: gJ :: gF :: gA :: gB :: gG :: gH :: gC :: gD :: gE :: gK :: gL :: gO :: gM :: gN :: gP :: gQ :: gV :: gR :: gS :: gT :: gU :: gW :: gX :: gY :: gZ :: gf :: gg :: gh :: gi :: gj :: gk :: gm :: gn :: gr :: gz :: hC :: hH :: hJ :: hY :: hZ :: xA :: xB :: xC :: xD :: xE :: xF :: xG :: xH :: xI :: xJ :: xK :: xL :: xM :: xN :: xO :: xP :: []) S [] R := by
 intro k
 have hlen := zre (P := Try.prog) (t := 42) Try.underlying42 ho
 rw [List.length_map] at hlen
 induction k with
 | zero =>
  intro i g2 g3 g8 g9 gI gJ gF gA gB gG gH gC gD gE gK gL gO gM gN gP gQ gV gR gS gT gU gW gX gY gZ gf gg gh gi gj gk gm gn gr gz hC hH hJ hY hZ xA xB xC xD xE xF xG xH xI xJ xK xL xM xN xO xP hk hi hE hR
  have hie : i = xs.length := by omega
  subst hie
  rw [qK]
  refine zS ?_
  conv => arg 2; whnf
  simp (maxSteps:=1000000) (disch:=first|assumption|omega|rfl) only [↓vmp, ga, Nat.reduceAdd, hlen]
  exact hE _ _ _ _ _ _ _ _ _ _ _ _ _ _ _ _ _ _ _ _ _ _ _ _ _ _ _ _ _ _ _ _ _ _ _ _ _ _ _ _ _ _ _ _ _ _ _ _ _ _ _ _ _ _ _ _ _ _ _ _ _ _ (by rw [List.drop_length]; rfl)
 | succ k ih =>
  intro i g2 g3 g8 g9 gI gJ gF gA gB gG gH gC gD gE gK gL gO gM gN gP gQ gV gR gS gT gU gW gX gY gZ gf gg gh gi gj gk gm gn gr gz hC hH hJ hY hZ xA xB xC xD xE xF xG xH xI xJ xK xL xM xN xO xP hk hi hE hR
  have hlt : i < xs.length := by omega
  have hdr : xs.drop i = xs[i] :: xs.drop (i + 1) := List.drop_eq_getElem_cons hlt
  rw [hdr] at hE hR
  have hsx : xs[i].length < 1000000 := hs _ (List.getElem_mem hlt)
  obtain ⟨a, h1, h2⟩ := zuh (enc := D.str) (P := Try.prog) (t := 42) Try.underlying42 (fun a => by kernel_rfl) zjv ho hlt
  rw [qK]
  refine zS ?_
  conv => arg 2; whnf
  cases hc : wM xs[i] with
  | false =>
   simp (maxSteps:=1000000) (disch:=first|assumption|omega|rfl) only [↓vmp, ga, Nat.reduceAdd, hlen, h1, h2, zb0, hc]
   exact hR _ _ _ _ _ _ _ _ _ _ _ _ _ _ _ _ _ _ _ _ _ _ _ _ _ _ _ _ _ _ _ _ _ _ _ _ _ _ _ _ _ _ _ _ _ _ _ _ _ _ _ _ _ _ _ _ _ _ _ _ (by rw [List.all_cons, hc, Bool.false_and])
  | true =>
   simp (maxSteps:=1000000) (disch:=first|assumption|omega|rfl) only [↓vmp, ga, Nat.reduceAdd, hlen, h1, h2, zb0, hc]
   rw [List.all_cons, hc, Bool.true_and] at hE hR
   exact ih (i + 1) _ _ _ _ _ _ _ _ _ _ _ _ _ _ _ _ _ _ _ _ _ _ _ _ _ _ _ _ _ _ _ _ _ _ _ _ _ _ _ _ _ _ _ _ _ _ _ _ _ _ _ _ _ _ _ _ _ _ _ _ _ (by omega) (by omega) hE hR
theorem z6v : ∀ (r part : List UInt8) (l : List (List UInt8)), kW part r = some l → ∀ x ∈ l, x.length ≤ part.length + r.length
 | [], part, l, h, x, hx => by
  by_cases hp : part = []
  ·simp [kW, hp] at h
  ·simp only [kW, hp, if_false, Option.some.injEq] at h
   subst h
   simp only [List.mem_singleton] at hx
   subst hx
   simp
 | c :: r, part, l, h, x, hx => by
  by_cases hc : c = 47
  ·by_cases hp : part = []
   ·simp [kW, hp, hc] at h
   ·simp only [kW, hc, hp, if_true, if_false, Option.map_eq_some_iff] at h
    obtain ⟨l', h1, rfl⟩ := h
    rcases List.mem_cons.1 hx with rfl | h2
    ·simp
    ·have := z6v r [] l' h1 x h2
     simp at this ⊢
     omega
  ·simp only [kW, hc, if_false] at h
   have := z6v r _ l h x hx
   simp at this ⊢
   omega
theorem znp (s : List UInt8) (hl : s.length < 1000000) : Ev cfg 61 [.str s] (.ret (.tup [.d (.sl ((zQ s).1.map .str)), .d (.int .i64 (zQ s).2)])) := by
 refine kQ rfl rfl zu1 ?_
 show Wp cfg (Try.f61.body.getD .skip) ((.d (.str s)) :: uZ (uZ (uZ (uZ (uZ (uZ ((.tup []) :: (.tup []) :: (.tup []) :: (.tup []) :: (.tup []) :: (.tup []) :: []))))))) [] [] _
 unfold uZ
 conv => arg 2; whnf
 by_cases h1 : s.length < 1
 ·have e : zQ s = ([], 15) := by simp only [zQ, h1, true_or, if_true]
  simp (maxSteps:=1000000) (disch:=first|assumption|omega|rfl) only [↓vmp, ga, Nat.reduceAdd, vmg]
  rw [e]
  exact kF rfl rfl rfl rfl rfl rfl
 by_cases h2 : s.length > 200
 ·have e : zQ s = ([], 15) := if_pos (.inr (.inl h2))
  simp (maxSteps:=1000000) (disch:=first|assumption|omega|rfl) only [↓vmp, ga, Nat.reduceAdd, vmg]
  rw [e]
  exact kF rfl rfl rfl rfl rfl rfl
 have hlt : 0 < s.length := by omega
 have hh : s.head? = some s[0] := by rw [List.head?_eq_getElem?, List.getElem?_eq_getElem hlt]
 have hix : z46 Try.prog 9 (.d (.str s)) (.d (.int .i64 0)) = some (.d (.int .u8 s[0].toNat)) := zgl (i := 0) Try.underlying9 hlt
 have e47 := u8_c (a := s[0]) (n := 47) (by omega)
 by_cases h3 : s[0] = 47
 ·have h3' : ((s[0].toNat : Int)) = 47 := e47.2 h3
  have h4 : ¬ (s.length < 1 ∨ 200 < s.length ∨ s.head? ≠ some 47) := by
   rintro (h | h | h)
   ·exact h1 h
   ·exact h2 h
   ·exact h (by rw [hh, h3])
  by_cases h5 : s.length = 1
  ·have e : zQ s = ([], 0) := by unfold zQ; rw [if_neg h4, if_pos h5]
   simp (maxSteps:=1000000) (disch:=first|assumption|omega|rfl) only [↓vmp, ga, Nat.reduceAdd, vmg, hix]
   rw [e]
   exact kF rfl rfl rfl rfl rfl rfl
  ·simp (maxSteps:=1000000) (disch:=first|assumption|omega|rfl) only [↓vmp, ga, Nat.reduceAdd, vmg, hix, strOf_mk]
   have e : zQ s = match kW [] (s.drop 1) with
    | none => ([], 15)
    | some l => if l.all wM then (l, 0) else ([], 3) := by unfold zQ; rw [if_neg h4, if_neg h5]
   refine zss s (by omega) _ _ _ _ (kW [] (s.drop 1)) (s.length - 1) 1 [] [] [] (.ts []) _ _ _ _ _ _ _ _ _ _ _ _ _ _ _ _ _ _ _ _ _ _ _ _ _ _ _ _ _ _ _ _ _ _ _ _ _ _ _ _ _ _ _ _ _ _ _ _ _ _ _ _ _ _ _ _ _ _ _ rfl (by omega) (by simp) (by simp) OwnS.nil (by simp) ?_ ?_
   ·intro S v4 l v5 v6 g8 g9 gI gJ gF gA gB gG gH gC gD gE gK gL gO gM gN gP gQ gV gR gS gT gU gW gX gY gZ gf gg gh gi gj gk gm gn gr gz hC hH hJ hY hZ xA xB xC xD xE xF xG xH xI xJ xK xL xM xN xO xP hr hll ho
    rw [hr] at e
    simp (maxSteps:=1000000) (disch:=first|assumption|omega|rfl) only [↓vmp, ga, Nat.reduceAdd]
    refine zs1 l (by omega) (fun x hx => ?_) _ S _ v4 _ _ ho l.length 0 _ _ _ _ _ _ _ _ _ _ _ _ _ _ _ _ _ _ _ _ _ _ _ _ _ _ _ _ _ _ _ _ _ _ _ _ _ _ _ _ _ _ _ _ _ _ _ _ _ _ _ _ _ _ _ _ _ _ _ _ _ rfl (by omega) ?_ ?_
    ·have := z6v _ _ _ hr x hx
     simp at this
     omega
    ·intro v7 g2 g3 g8 g9 gI gJ gF gA gB gG gH gC gD gE gK gL gO gM gN gP gQ gV gR gS gT gU gW gX gY gZ gf gg gh gi gj gk gm gn gr gz hC hH hJ hY hZ xA xB xC xD xE xF xG xH xI xJ xK xL xM xN xO xP h
     rw [List.drop_zero] at h
     have e2 : zQ s = (l, 0) := by rw [e]; simp only [h, if_true]
     simp (maxSteps:=1000000) (disch:=first|assumption|omega|rfl) only [↓vmp, ga, Nat.reduceAdd]
     rw [e2]
     exact kF rfl rfl (z19 ho) rfl (z1e ho) rfl
    ·intro v7 g8 g9 gI gJ gF gA gB gG gH gC gD gE gK gL gO gM gN gP gQ gV gR gS gT gU gW gX gY gZ gf gg gh gi gj gk gm gn gr gz hC hH hJ hY hZ xA xB xC xD xE xF xG xH xI xJ xK xL xM xN xO xP h
     rw [List.drop_zero] at h
     have e2 : zQ s = ([], 3) := by rw [e]; simp only [h, Bool.false_eq_true, if_false]
     simp (maxSteps:=1000000) (disch:=first|assumption|omega|rfl) only [↓vmp, ga, Nat.reduceAdd]
     rw [e2]
     exact kF rfl rfl rfl rfl rfl rfl
   ·intro S v4 v5 v6 g8 g9 gI gJ gF gA gB gG gH gC gD gE gK gL gO gM gN gP gQ gV gR gS gT gU gW gX gY gZ gf gg gh gi gj gk gm gn gr gz hC hH hJ hY hZ xA xB xC xD xE xF xG xH xI xJ xK xL xM xN xO xP hr
    rw [hr] at e
    simp (maxSteps:=1000000) (disch:=first|assumption|omega|rfl) only [↓vmp, ga, Nat.reduceAdd]
    rw [e]
    exact kF rfl rfl rfl rfl rfl rfl
 ·have h3' : ¬ ((s[0].toNat : Int)) = 47 := fun h => h3 (e47.1 h)
  have h4 : s.length < 1 ∨ 200 < s.length ∨ s.head? ≠ some 47 := .inr (.inr (by rw [hh]; simp [h3]))
  have e : zQ s = ([], 15) := if_pos h4
  simp (maxSteps:=1000000) (disch:=first|assumption|omega|rfl) only [↓vmp, ga, Nat.reduceAdd, vmg, hix]
  rw [e]
  exact kF rfl rfl rfl rfl rfl rfl
theorem z0s {ops : Array Oper} {dst : Option Tmp} {l : List Oper} {T : List V} {S : zA} {F : Dfs} {Q : Post} {s : List UInt8} (hl : s.length < 1000000) :
  WpR cfg ops dst l T S F Q (some (.enter 61 [.d (.str s)])) = WpL cfg ops l (putT T dst (.tup [.d (.sl ((zQ s).1.map .str)), .d (.int .i64 (zQ s).2)])) S F Q :=
 zX (ds := [.str s]) rfl (znp s hl)
structure Small (k : Nat) (t : List Node) : Prop where
 len : t.length ≤ k
 nms : ∀ n ∈ t, n.names.length ≤ k
 nam : ∀ n ∈ t, ∀ e ∈ n.names, e.name.length ≤ 200
 lnk : ∀ n ∈ t, -(k : Int) ≤ n.links ∧ n.links ≤ k
 siz : ∀ n ∈ t, 0 ≤ n.size ∧ n.size ≤ 34304 ∧ n.data.length = n.size
theorem jM (t : List Node) (ino : Int) : (getN t ino = zM ∧ ∀ n ∈ t, n.ino ≠ ino) ∨ (getN t ino ∈ t ∧ (getN t ino).ino = ino) := by
 unfold getN
 cases h : t.find? (fun n => decide (n.ino = ino)) with
 | none =>
  refine .inl ⟨rfl, fun n hn hi => ?_⟩
  have := List.find?_eq_none.1 h n hn
  simp [hi] at this
 | some x =>
  refine .inr ⟨List.mem_of_find?_eq_some h, ?_⟩
  have := List.find?_some h
  simpa using this
theorem Small.gnms {k : Nat} {t : List Node} (h : Small k t) (ino : Int) : (getN t ino).names.length ≤ k := by
 rcases jM t ino with ⟨h1, _⟩ | ⟨h1, _⟩
 ·rw [h1]; exact Nat.zero_le _
 ·exact h.nms _ h1
theorem Small.gnam {k : Nat} {t : List Node} (h : Small k t) (ino : Int) : ∀ e ∈ (getN t ino).names, e.name.length ≤ 200 := by
 rcases jM t ino with ⟨h1, _⟩ | ⟨h1, _⟩
 ·rw [h1]; intro e he; exact absurd he (by simp [zM])
 ·exact h.nam _ h1
theorem Small.glnk {k : Nat} {t : List Node} (h : Small k t) (ino : Int) : -(k : Int) ≤ (getN t ino).links ∧ (getN t ino).links ≤ k := by
 rcases jM t ino with ⟨h1, _⟩ | ⟨h1, _⟩
 ·rw [h1]; exact ⟨by simp [zM], by simp [zM]⟩
 ·exact h.lnk _ h1
theorem Small.gsiz {k : Nat} {t : List Node} (h : Small k t) (ino : Int) : 0 ≤ (getN t ino).size ∧ (getN t ino).size ≤ 34304 ∧ (getN t ino).data.length = (getN t ino).size := by
 rcases jM t ino with ⟨h1, _⟩ | ⟨h1, _⟩
 ·rw [h1]; exact ⟨by simp [zM], by simp [zM], by simp [zM]⟩
 ·exact h.siz _ h1
theorem zvy {ops : Array Oper} {F : Dfs} {Q : Post} {K : List Nat → List (Nat × Nat) → List V → zA → Prop} {rd : List Nat} {cs : List (Nat × Nat)} {i : Nat} {dst : Option Tmp} {T : List V} {S : zA} {t : List Node} {ino : Int} (hl : t.length < 1000000) :
  WpE cfg ops F Q K rd cs i dst T S (some (.enter 65 [.d (.sl (t.map zB)), .d (.int .i64 ino)])) = K (i :: rd) (cs ++ [(i, 1)]) (putT T dst (.d (zB (getN t ino)))) S := z1r (ds := [.sl (t.map zB), .int .i64 ino]) rfl (zp2 t ino hl)
theorem zti {ops : Array Oper} {F : Dfs} {Q : Post} {K : List Nat → List (Nat × Nat) → List V → zA → Prop} {rd : List Nat} {cs : List (Nat × Nat)} {i : Nat} {dst : Option Tmp} {T : List V} {S : zA} {n : Node} {s : List UInt8} (hl : n.names.length < 1000000) :
  WpE cfg ops F Q K rd cs i dst T S (some (.enter 87 [.d (zB n), .d (.str s)])) = K (i :: rd) (cs ++ [(i, 1)]) (putT T dst (.d (.int .i64 (qQ n.names s)))) S := z1r (ds := [zB n, .str s]) rfl (zl2 n s hl)
theorem zq2 {ops : Array Oper} {F : Dfs} {Q : Post} {K : List Nat → List (Nat × Nat) → List V → zA → Prop} {rd : List Nat} {cs : List (Nat × Nat)} {i : Nat} {dst : Option Tmp} {T : List V} {S : zA} {t : List Node} {dir ino : Int} {s : List UInt8} (hl : t.length < 400000) (hn : (getN t dir).names.length < 400000) (hs : s.length < 1000000) (hm : ∀ e ∈ (getN t dir).names, e.name.length < 1000000) :
  WpE cfg ops F Q K rd cs i dst T S (some (.enter 88 [.d (.sl (t.map zB)), .d (.int .i64 dir), .d (.str s), .d (.int .i64 ino)])) = K (i :: rd) (cs ++ [(i, 1)]) (putT T dst (.d (.sl ((putN t dir s ino).map zB)))) S := z1r (ds := [.sl (t.map zB), .int .i64 dir, .str s, .int .i64 ino]) rfl (zpk t dir s ino hl hn hs hm)
def goN (t : List Node) : List (List UInt8) → Int → Int × Int
 | [], d => (d, 0)
 | p :: r, d => if (getN t d).kind ≠ 2 then (0, 6) else if qQ (getN t d).names p < 0 then (0, 4) else goN t r (qQ (getN t d).names p)
theorem go_l (t : List Node) (k0 : Nat) (hk0 : k0 < 300000) (hS : Small k0 t) (ps : List (List UInt8)) (hl : ps.length < 1000000) (R : Post) (S : zA) (g4 g5 : V) : ∀ (k i : Nat) (d : Int) (g8 g9 gI gJ gF gA gB gG gH gC gD gE gK gL gO gM gN gP gQ gV gR gS gT gU : V), ps.length - i = k → i ≤ ps.length →
 (∀ d' v7 g8 g9 gI gJ gF gA gB gG gH gC gD gE gK gL gO gM gN gP gQ gV gR gS gT gU, goN t (ps.drop i) d = (d', 0) → R (.exit 0) ((.d (.sl (t.map zB))) :: (.d (.sl (ps.map .str))) :: (.tup []) :: (.tup []) :: g4 :: g5 :: (.d (.int .i64 d')) :: v7 :: g8 :: g9 :: gI :: gJ :: gF :: gA :: gB :: gG :: gH :: gC :: gD :: gE :: gK :: gL :: gO :: gM :: gN :: gP :: gQ :: gV :: gR :: gS :: gT :: gU :: []) S []) →
 (∀ v6 v7 g8 g9 gI gJ gF gA gB gG gH gC gD gE gK gL gO gM gN gP gQ gV gR gS gT gU, R .ret ((.d (.sl (t.map zB))) :: (.d (.sl (ps.map .str))) :: (.tup []) :: (.tup []) :: (.d (.int .i64 (goN t (ps.drop i) d).1)) :: (.d (.int .i64 (goN t (ps.drop i) d).2)) :: v6 :: v7 :: g8 :: g9 :: gI :: gJ :: gF :: gA :: gB :: gG :: gH :: gC :: gD :: gE :: gK :: gL :: gO :: gM :: gN :: gP :: gQ :: gV :: gR :: gS :: gT :: gU :: []) S []) →
 Wp cfg (.loop (lpOf (Try.f62.body.getD .skip) 0)) ((.d (.sl (t.map zB))) :: (.d (.sl (ps.map .str))) :: (.tup []) :: (.tup []) :: g4 :: g5 :: (.d (.int .i64 d)) :: (.d (.int .i64 i)) :: g8 :: g9 :: gI :: gJ :: gF :: gA :: gB :: gG :: gH :: gC :: gD :: gE :: gK :: gL :: gO :: gM :: gN :: gP :: gQ :: gV :: gR :: gS :: gT :: gU :: []) S [] R := by
 have hlt : t.length < 400000 := Nat.lt_of_le_of_lt hS.len (by omega)
 have hlt' : t.length < 1000000 := by omega
 intro k
 induction k with
 | zero =>
  intro i d g8 g9 gI gJ gF gA gB gG gH gC gD gE gK gL gO gM gN gP gQ gV gR gS gT gU hk hi hE hR
  have hie : i = ps.length := by omega
  subst hie
  rw [qK]
  refine zS ?_
  conv => arg 2; whnf
  simp (maxSteps:=1000000) (disch:=first|assumption|omega|rfl) only [↓vmp, ga, Nat.reduceAdd]
  exact hE _ _ _ _ _ _ _ _ _ _ _ _ _ _ _ _ _ _ _ _ _ _ _ _ _ _ (by rw [List.drop_length]; rfl)
 | succ k ih =>
  intro i d g8 g9 gI gJ gF gA gB gG gH gC gD gE gK gL gO gM gN gP gQ gV gR gS gT gU hk hi hE hR
  have hip : i < ps.length := by omega
  have hdr : ps.drop i = ps[i] :: ps.drop (i + 1) := List.drop_eq_getElem_cons hip
  rw [hdr] at hE hR
  have hgn : (getN t d).names.length < 1000000 := Nat.lt_of_le_of_lt (hS.gnms d) (by omega)
  rw [qK]
  refine zS ?_
  conv => arg 2; whnf
  by_cases hc : (getN t d).kind = 2
  ·simp (maxSteps:=1000000) (disch:=first|assumption|omega|rfl) only [↓vmp, ga, Nat.reduceAdd, jP]
   refine qS (is := [0, 1, 3, 4, 5, 6, 2, 7, 8]) (h := 0) (by kernel_rfl) (by kernel_rfl) ?_
   simp (maxSteps:=1000000) (disch:=first|assumption|omega|rfl) only [List.replicate_zero, eq_self, vmd, vmk, vmo, vmg, ga, Nat.reduceAdd, zvy, zti]
   refine ⟨by kernel_rfl, ?_⟩
   by_cases hn : qQ (getN t d).names ps[i] < 0
   ·simp (maxSteps:=1000000) (disch:=first|assumption|omega|rfl) only [↓vmp, ga, Nat.reduceAdd]
    have e : goN t (ps[i] :: ps.drop (i + 1)) d = (0, 4) := by simp only [goN, ne_eq, hc, not_true_eq_false, if_false, hn, if_true]
    rw [e] at hR
    exact hR _ _ _ _ _ _ _ _ _ _ _ _ _ _ _ _ _ _ _ _ _ _ _ _ _ _
   ·simp (maxSteps:=1000000) (disch:=first|assumption|omega|rfl) only [↓vmp, ga, Nat.reduceAdd]
    have e : goN t (ps[i] :: ps.drop (i + 1)) d = goN t (ps.drop (i + 1)) (qQ (getN t d).names ps[i]) := by simp only [goN, ne_eq, hc, not_true_eq_false, if_false, hn]
    rw [e] at hE hR
    exact ih (i + 1) _ _ _ _ _ _ _ _ _ _ _ _ _ _ _ _ _ _ _ _ _ _ _ _ _ (by omega) (by omega) hE hR
  ·simp (maxSteps:=1000000) (disch:=first|assumption|omega|rfl) only [↓vmp, ga, Nat.reduceAdd, jP]
   have e : goN t (ps[i] :: ps.drop (i + 1)) d = (0, 6) := by simp only [goN, ne_eq, hc, not_false_eq_true, if_true]
   rw [e] at hR
   exact hR _ _ _ _ _ _ _ _ _ _ _ _ _ _ _ _ _ _ _ _ _ _ _ _ _ _
theorem q0r (t : List Node) (k0 : Nat) (hk0 : k0 < 300000) (hS : Small k0 t) (ps : List (List UInt8)) (hl : ps.length < 1000000) : Ev cfg 62 [.sl (t.map zB), .sl (ps.map .str)] (.ret (.tup [.d (.int .i64 (goN t ps 1).1), .d (.int .i64 (goN t ps 1).2)])) := by
 refine kQ rfl rfl zyy ?_
 show Wp cfg (Try.f62.body.getD .skip) ((.d (.sl (t.map zB))) :: (.d (.sl (ps.map .str))) :: uZ (uZ (uZ []))) [] [] _
 unfold uZ
 conv => arg 2; whnf
 simp (maxSteps:=1000000) (disch:=first|assumption|omega|rfl) only [↓vmp, ga, Nat.reduceAdd]
 refine go_l t k0 hk0 hS ps hl _ _ _ _ ps.length 0 1 _ _ _ _ _ _ _ _ _ _ _ _ _ _ _ _ _ _ _ _ _ _ _ _ rfl (by omega) ?_ ?_
 ·intro d' v7 g8 g9 gI gJ gF gA gB gG gH gC gD gE gK gL gO gM gN gP gQ gV gR gS gT gU h
  rw [List.drop_zero] at h
  simp (maxSteps:=1000000) (disch:=first|assumption|omega|rfl) only [↓vmp, ga, Nat.reduceAdd]
  rw [h]
  exact kF rfl rfl rfl rfl rfl rfl
 ·intro v6 v7 g8 g9 gI gJ gF gA gB gG gH gC gD gE gK gL gO gM gN gP gQ gV gR gS gT gU
  simp (maxSteps:=1000000) (disch:=first|assumption|omega|rfl) only [↓vmp, ga, Nat.reduceAdd]
  exact kF rfl rfl rfl rfl rfl rfl
theorem zbs {ops : Array Oper} {dst : Option Tmp} {l : List Oper} {T : List V} {S : zA} {F : Dfs} {Q : Post} {t : List Node} {ps : List (List UInt8)} {k0 : Nat} (hS : Small k0 t) (hk0 : k0 < 300000) (hl : ps.length < 1000000) :
  WpR cfg ops dst l T S F Q (some (.enter 62 [.d (.sl (t.map zB)), .d (.sl (ps.map .str))])) = WpL cfg ops l (putT T dst (.tup [.d (.int .i64 (goN t ps 1).1), .d (.int .i64 (goN t ps 1).2)])) S F Q :=
 zX (ds := [.sl (t.map zB), .sl (ps.map .str)]) rfl (q0r t k0 hk0 hS ps hl)
end Go.Proofs.Ytghllhghboaagaa
end
