/- Facts on the program's types, and its functions' bodies: written by mkty.py. -/
import Derived.Test.YtghllhghboaagaaProg
import GoSem.Core.Utf8
import Derived.KernelRfl
import Derived.Test.YtghllhghboaagaaS05
set_option linter.unusedVariables false
set_option linter.unusedSimpArgs false
set_option maxRecDepth 100000
set_option maxHeartbeats 4000000
set_option linter.defProp false
section
namespace Go.Proofs.Ytghllhghboaagaa
open Go.Vm
def z25 : Out → Option V
 | .ret _ => some (.d (.int .i64 0))
 | .pan (.iface 41 (.d (.int .i64 n))) => some (.d (.int .i64 n))
 | .pan (.d (.iface 41 (.int .i64 n))) => some (.d (.int .i64 n))
 | _ => Option.none
def zdh : List D → Option Out := fun ds => match ds with | [] => some (.ret (.d (.bool true))) | _ => Option.none
def mask : Nat := 12406011854720023396352
noncomputable def cfg : Cfg := { P := Try.prog, mixed := by kernel_rfl, shared := fun f => Nat.testBit mask f, ext := fun f => match Nat.beq f 16 with | true => some zdh | false => Option.none, catch_ := fun f => match Nat.beq f 42 with | true => some z25 | false => Option.none }
theorem hP : cfg.P = Try.prog := rfl
def encB (l : List UInt8) : D := .sl (l.map fun b => .int .u8 b.toNat)
theorem ld3 {S : zA} {a : Int} : jP Try.prog S 3 (.d (.ptr (.int .i64 a))) = some (.d (.int .i64 a)) := by kernel_rfl
theorem q12 (a : Int) : vN Try.prog 5 (.int .u8 a) = true := by kernel_rfl
theorem zus (a : (List UInt8)) : vN Try.prog 9 (.str a) = true := by kernel_rfl
theorem ff9 {a : (List UInt8)} : qD Try.prog 9 (.d (.str a)) = true := by kernel_rfl
theorem ld9 {S : zA} {a : (List UInt8)} : jP Try.prog S 9 (.d (.ptr (.str a))) = some (.d (.str a)) := by kernel_rfl
structure Ent where
 name : (List UInt8)
 ino : Int
 deriving DecidableEq
def zJ (a : Ent) : D := .agg [.str a.name, .int .i64 a.ino]
theorem zm7 (a : Ent) : vN Try.prog 88 (zJ a) = true := by kernel_rfl
theorem zh0 (a : Ent) : qD Try.prog 88 (.d (zJ a)) = true := by kernel_rfl
theorem z88 : zeroV Try.prog 88 = some (.agg [.d (.str []), .d (.int .i64 0)]) := by kernel_rfl
theorem zf88 : qD Try.prog 88 (.agg [.d (.str []), .d (.int .i64 0)]) = true := by kernel_rfl
theorem zz88  : zeroV Try.prog 88 = some (.agg [.d (.str []), .d (.int .i64 0)]) := z88
theorem q1p {x0 x1 : V} : qD Try.prog 88 (.agg [x0, x1]) = true := by kernel_rfl
theorem lr88 {a : Ent} : kE Try.prog 88 0 (some (.d (zJ a))) = some (.d (zJ a)) := by kernel_rfl
theorem q0q {a : Ent} {x0 x1 : V} : qL Try.prog 88 0 (.d (zJ a)) (.agg [x0, x1]) = some (.d (zJ a)) := by kernel_rfl
theorem ld88 {S : zA} {a : Ent} : jP Try.prog S 88 (.d (.ptr (zJ a))) = some (.d (zJ a)) := by kernel_rfl
theorem zzh {a : Ent} : kE Try.prog 9 0 (some (.d (zJ a))) = some (.d (.str a.name)) := by kernel_rfl
theorem zw4 {j x y : Nat} : zP Try.prog 88 0 (.ref j x y) = some (.ref j x (y + 0)) := by kernel_rfl
theorem zzu {a : Ent} : kE Try.prog 3 1 (some (.d (zJ a))) = some (.d (.int .i64 a.ino)) := by kernel_rfl
theorem zzc {j x y : Nat} : zP Try.prog 88 1 (.ref j x y) = some (.ref j x (y + 1)) := by kernel_rfl
structure Node where
 ino : Int
 kind : Int
 links : Int
 parent : Int
 size : Int
 data : List UInt8
 names : List Ent
 deriving DecidableEq
def zB (a : Node) : D := .agg [.int .i64 a.ino, .int .i64 a.kind, .int .i64 a.links, .int .i64 a.parent, .int .i64 a.size, encB a.data, .sl (a.names.map zJ)]
theorem zz3 {a : Node} : kE Try.prog 3 0 (some (.d (zB a))) = some (.d (.int .i64 a.ino)) := by kernel_rfl
theorem zsq {x0 x1 x2 x3 x4 x5 x6 : V} : kE Try.prog 3 0 (some (.agg [x0, x1, x2, x3, x4, x5, x6])) = some x0 := by kernel_rfl
theorem q05 {a : Node} : kE Try.prog 3 1 (some (.d (zB a))) = some (.d (.int .i64 a.kind)) := by kernel_rfl
theorem zzj {a : Node} : kE Try.prog 3 4 (some (.d (zB a))) = some (.d (.int .i64 a.size)) := by kernel_rfl
theorem zvh {a : Node} : kE Try.prog 29 5 (some (.d (zB a))) = some (.d (encB a.data)) := by kernel_rfl
theorem zw2 {a : Node} : kE Try.prog 30 6 (some (.d (zB a))) = some (.d (.sl (a.names.map zJ))) := by kernel_rfl
theorem zsx {x0 x1 x2 x3 x4 x5 x6 : V} : kE Try.prog 30 6 (some (.agg [x0, x1, x2, x3, x4, x5, x6])) = some x6 := by kernel_rfl
theorem zxh (a : Node) : vN Try.prog 32 (zB a) = true := by kernel_rfl
theorem zgo (a : Node) : qD Try.prog 32 (.d (zB a)) = true := by kernel_rfl
theorem z32 : zeroV Try.prog 32 = some (.agg [.d (.int .i64 0), .d (.int .i64 0), .d (.int .i64 0), .d (.int .i64 0), .d (.int .i64 0), .ts [], .ts []]) := by kernel_rfl
theorem zf32 : qD Try.prog 32 (.agg [.d (.int .i64 0), .d (.int .i64 0), .d (.int .i64 0), .d (.int .i64 0), .d (.int .i64 0), .ts [], .ts []]) = true := by kernel_rfl
theorem zz32  : zeroV Try.prog 32 = some (.agg [.d (.int .i64 0), .d (.int .i64 0), .d (.int .i64 0), .d (.int .i64 0), .d (.int .i64 0), .ts [], .ts []]) := z32
theorem ff32 {a : Node} : qD Try.prog 32 (.d (zB a)) = true := by kernel_rfl
theorem zqu {x0 x1 x2 x3 x4 x5 x6 : V} : qD Try.prog 32 (.agg [x0, x1, x2, x3, x4, x5, x6]) = true := by kernel_rfl
theorem lr32 {a : Node} : kE Try.prog 32 0 (some (.d (zB a))) = some (.d (zB a)) := by kernel_rfl
theorem q0v {x0 x1 x2 x3 x4 x5 x6 : V} : kE Try.prog 32 0 (some (.agg [x0, x1, x2, x3, x4, x5, x6])) = some (.agg [x0, x1, x2, x3, x4, x5, x6]) := by kernel_rfl
theorem q1s {a : Node} {x0 x1 x2 x3 x4 x5 x6 : V} : qL Try.prog 32 0 (.d (zB a)) (.agg [x0, x1, x2, x3, x4, x5, x6]) = some (.d (zB a)) := by kernel_rfl
theorem q2c {x0 x1 x2 x3 x4 x5 x6 y0 y1 y2 y3 y4 y5 y6 : V} : qL Try.prog 32 0 (.agg [x0, x1, x2, x3, x4, x5, x6]) (.agg [y0, y1, y2, y3, y4, y5, y6]) = some (.agg [x0, x1, x2, x3, x4, x5, x6]) := by kernel_rfl
theorem ld32 {S : zA} {a : Node} : jP Try.prog S 32 (.d (.ptr (zB a))) = some (.d (zB a)) := by kernel_rfl
theorem zxe {j x y : Nat} : zP Try.prog 32 0 (.ref j x y) = some (.ref j x (y + 0)) := by kernel_rfl
theorem q01 {j x y : Nat} : zP Try.prog 32 1 (.ref j x y) = some (.ref j x (y + 1)) := by kernel_rfl
theorem zzw {a : Node} : zP Try.prog 32 2 (.d (.ptr (zB a))) = some (.d (.ptr (.int .i64 a.links))) := by kernel_rfl
theorem zyk {j x y : Nat} : zP Try.prog 32 2 (.ref j x y) = some (.ref j x (y + 2)) := by kernel_rfl
theorem zyh {a : Node} : zP Try.prog 32 3 (.d (.ptr (zB a))) = some (.d (.ptr (.int .i64 a.parent))) := by kernel_rfl
theorem q07 {j x y : Nat} : zP Try.prog 32 3 (.ref j x y) = some (.ref j x (y + 3)) := by kernel_rfl
theorem zw3 {j x y : Nat} : zP Try.prog 32 4 (.ref j x y) = some (.ref j x (y + 4)) := by kernel_rfl
theorem zr1 {a : Node} {v : V} (h1 : qD Try.prog 29 v = true) (h2 : v.cells = [v]) : qL Try.prog 29 5 v (.d (zB a)) = some (.agg [.d (.int .i64 a.ino), .d (.int .i64 a.kind), .d (.int .i64 a.links), .d (.int .i64 a.parent), .d (.int .i64 a.size), v, .d (.sl (a.names.map zJ))]) := by simp only [qL, h1, h2]; rfl
theorem zrz {x0 x1 x2 x3 x4 x5 x6 v : V} (h1 : qD Try.prog 29 v = true) (h2 : v.cells = [v]) : qL Try.prog 29 5 v (.agg [x0, x1, x2, x3, x4, x5, x6]) = some (.agg [x0, x1, x2, x3, x4, v, x6]) := by simp only [qL, h1, h2]; rfl
theorem zzv {j x y : Nat} : zP Try.prog 32 5 (.ref j x y) = some (.ref j x (y + 5)) := by kernel_rfl
theorem zhb {x0 x1 x2 x3 x4 x5 x6 v : V} (h1 : qD Try.prog 30 v = true) (h2 : v.cells = [v]) : qL Try.prog 30 6 v (.agg [x0, x1, x2, x3, x4, x5, x6]) = some (.agg [x0, x1, x2, x3, x4, x5, v]) := by simp only [qL, h1, h2]; rfl
theorem zy1 {j x y : Nat} : zP Try.prog 32 6 (.ref j x y) = some (.ref j x (y + 6)) := by kernel_rfl
structure Ans where
 err : Int
 ino : Int
 kind : Int
 links : Int
 size : Int
 data : List UInt8
 names : List (List UInt8)
 deriving DecidableEq
def z7u (a : Ans) : D := .agg [.int .i64 a.err, .int .i64 a.ino, .int .i64 a.kind, .int .i64 a.links, .int .i64 a.size, encB a.data, .sl (a.names.map .str)]
theorem zt2 {x0 x1 x2 x3 x4 x5 x6 v : V} (h1 : qD Try.prog 29 v = true) (h2 : v.cells = [v]) : qL Try.prog 29 5 v (.agg [x0, x1, x2, x3, x4, x5, x6]) = some (.agg [x0, x1, x2, x3, x4, v, x6]) := by simp only [qL, h1, h2]; rfl
theorem zve {x0 x1 x2 x3 x4 x5 x6 v : V} (h1 : qD Try.prog 42 v = true) (h2 : v.cells = [v]) : qL Try.prog 42 6 v (.agg [x0, x1, x2, x3, x4, x5, x6]) = some (.agg [x0, x1, x2, x3, x4, x5, v]) := by simp only [qL, h1, h2]; rfl
theorem z44 : zeroV Try.prog 44 = some (.agg [.d (.int .i64 0), .d (.int .i64 0), .d (.int .i64 0), .d (.int .i64 0), .d (.int .i64 0), .ts [], .ts []]) := by kernel_rfl
theorem zf44 : qD Try.prog 44 (.agg [.d (.int .i64 0), .d (.int .i64 0), .d (.int .i64 0), .d (.int .i64 0), .d (.int .i64 0), .ts [], .ts []]) = true := by kernel_rfl
theorem zz44  : zeroV Try.prog 44 = some (.agg [.d (.int .i64 0), .d (.int .i64 0), .d (.int .i64 0), .d (.int .i64 0), .d (.int .i64 0), .ts [], .ts []]) := z44
theorem q0p {x0 x1 x2 x3 x4 x5 x6 : V} : qD Try.prog 44 (.agg [x0, x1, x2, x3, x4, x5, x6]) = true := by kernel_rfl
theorem q2v {a : Ans} {x0 x1 x2 x3 x4 x5 x6 : V} : qL Try.prog 44 0 (.d (z7u a)) (.agg [x0, x1, x2, x3, x4, x5, x6]) = some (.d (z7u a)) := by kernel_rfl
theorem zzx {j x y : Nat} : zP Try.prog 44 1 (.ref j x y) = some (.ref j x (y + 1)) := by kernel_rfl
theorem zyx {j x y : Nat} : zP Try.prog 44 2 (.ref j x y) = some (.ref j x (y + 2)) := by kernel_rfl
theorem zz8 {j x y : Nat} : zP Try.prog 44 3 (.ref j x y) = some (.ref j x (y + 3)) := by kernel_rfl
theorem zwu {j x y : Nat} : zP Try.prog 44 4 (.ref j x y) = some (.ref j x (y + 4)) := by kernel_rfl
theorem q0j {j x y : Nat} : zP Try.prog 44 5 (.ref j x y) = some (.ref j x (y + 5)) := by kernel_rfl
theorem zxl {j x y : Nat} : zP Try.prog 44 6 (.ref j x y) = some (.ref j x (y + 6)) := by kernel_rfl
structure Opn where
 does : Int
 a : (List UInt8)
 b : (List UInt8)
 off : Int
 n : Int
 data : List UInt8
 deriving DecidableEq
def encOpn (a : Opn) : D := .agg [.int .i64 a.does, .str a.a, .str a.b, .int .i64 a.off, .int .i64 a.n, encB a.data]
theorem zwm (a : Opn) : vN Try.prog 50 (encOpn a) = true := by kernel_rfl
theorem ff50 {a : Opn} : qD Try.prog 50 (.d (encOpn a)) = true := by kernel_rfl
theorem ld50 {S : zA} {a : Opn} : jP Try.prog S 50 (.d (.ptr (encOpn a))) = some (.d (encOpn a)) := by kernel_rfl
theorem zr4 {a : Opn} : kE Try.prog 3 0 (some (.d (encOpn a))) = some (.d (.int .i64 a.does)) := by kernel_rfl
theorem q0a {j x y : Nat} : zP Try.prog 50 0 (.ref j x y) = some (.ref j x (y + 0)) := by kernel_rfl
theorem zx6 {a : Opn} : zP Try.prog 50 1 (.d (.ptr (encOpn a))) = some (.d (.ptr (.str a.a))) := by kernel_rfl
theorem zr7 {a : Opn} : kE Try.prog 9 1 (some (.d (encOpn a))) = some (.d (.str a.a)) := by kernel_rfl
theorem q02 {j x y : Nat} : zP Try.prog 50 1 (.ref j x y) = some (.ref j x (y + 1)) := by kernel_rfl
theorem q03 {a : Opn} : zP Try.prog 50 2 (.d (.ptr (encOpn a))) = some (.d (.ptr (.str a.b))) := by kernel_rfl
theorem zr8 {a : Opn} : kE Try.prog 9 2 (some (.d (encOpn a))) = some (.d (.str a.b)) := by kernel_rfl
theorem q08 {j x y : Nat} : zP Try.prog 50 2 (.ref j x y) = some (.ref j x (y + 2)) := by kernel_rfl
theorem zrs {a : Opn} : kE Try.prog 3 3 (some (.d (encOpn a))) = some (.d (.int .i64 a.off)) := by kernel_rfl
theorem zxv {j x y : Nat} : zP Try.prog 50 3 (.ref j x y) = some (.ref j x (y + 3)) := by kernel_rfl
theorem zrm {a : Opn} : kE Try.prog 3 4 (some (.d (encOpn a))) = some (.d (.int .i64 a.n)) := by kernel_rfl
theorem zvo {j x y : Nat} : zP Try.prog 50 4 (.ref j x y) = some (.ref j x (y + 4)) := by kernel_rfl
theorem zzm {a : Opn} : zP Try.prog 50 5 (.d (.ptr (encOpn a))) = some (.d (.ptr (encB a.data))) := by kernel_rfl
theorem zwt {a : Opn} : kE Try.prog 29 5 (some (.d (encOpn a))) = some (.d (encB a.data)) := by kernel_rfl
theorem zx5 {j x y : Nat} : zP Try.prog 50 5 (.ref j x y) = some (.ref j x (y + 5)) := by kernel_rfl
theorem z48 : zeroV Try.prog 48 = some (.agg [.d (.int .i64 0), .d (.str []), .d (.str []), .d (.int .i64 0), .d (.int .i64 0), .ts []]) := by kernel_rfl
theorem zf48 : qD Try.prog 48 (.agg [.d (.int .i64 0), .d (.str []), .d (.str []), .d (.int .i64 0), .d (.int .i64 0), .ts []]) = true := by kernel_rfl
theorem zz48  : zeroV Try.prog 48 = some (.agg [.d (.int .i64 0), .d (.str []), .d (.str []), .d (.int .i64 0), .d (.int .i64 0), .ts []]) := z48
theorem ff48 {a : Opn} : qD Try.prog 48 (.d (encOpn a)) = true := by kernel_rfl
theorem q2n {x0 x1 x2 x3 x4 x5 : V} : qD Try.prog 48 (.agg [x0, x1, x2, x3, x4, x5]) = true := by kernel_rfl
theorem lr48 {a : Opn} : kE Try.prog 48 0 (some (.d (encOpn a))) = some (.d (encOpn a)) := by kernel_rfl
theorem q16 {x0 x1 x2 x3 x4 x5 y0 y1 y2 y3 y4 y5 : V} : qL Try.prog 48 0 (.agg [x0, x1, x2, x3, x4, x5]) (.agg [y0, y1, y2, y3, y4, y5]) = some (.agg [x0, x1, x2, x3, x4, x5]) := by kernel_rfl
theorem zy6 {j x y : Nat} : zP Try.prog 48 0 (.ref j x y) = some (.ref j x (y + 0)) := by kernel_rfl
theorem zxk {j x y : Nat} : zP Try.prog 48 1 (.ref j x y) = some (.ref j x (y + 1)) := by kernel_rfl
theorem zz1 {j x y : Nat} : zP Try.prog 48 2 (.ref j x y) = some (.ref j x (y + 2)) := by kernel_rfl
theorem zvx {j x y : Nat} : zP Try.prog 48 3 (.ref j x y) = some (.ref j x (y + 3)) := by kernel_rfl
theorem zyw {j x y : Nat} : zP Try.prog 48 4 (.ref j x y) = some (.ref j x (y + 4)) := by kernel_rfl
theorem zxz {j x y : Nat} : zP Try.prog 48 5 (.ref j x y) = some (.ref j x (y + 5)) := by kernel_rfl
theorem q1x : zOk Try.prog 5 = true := by kernel_rfl
theorem q1r : (sz Try.prog 5).isSome = true := by kernel_rfl
theorem q0f {m : Nat} (h : m ≤ 1000000) : room Try.prog 5 m = true := z38 rfl (by decide +kernel) h
theorem q13 {S : zA} {xs : List D} : zY Try.prog S .len [29] [.d (.sl xs)] = some (.val (.d (.int .i64 xs.length)) S 0) := z86 Try.underlying29
theorem bs29 {S : zA} {a : Int} : bs1 Try.prog S 29 (.d (.int .u8 a)) = some (.val (.ts [.int .u8 a]) S 0) := by kernel_rfl
theorem q0t : zOk Try.prog 88 = true := by kernel_rfl
theorem q2e : (sz Try.prog 88).isSome = true := by kernel_rfl
theorem zw0 {m : Nat} (h : m ≤ 1000000) : room Try.prog 88 m = true := z38 rfl (by decide +kernel) h
theorem ix30 {S : zA} {l : List Ent} {i : Nat} (h : i < l.length) : qJ Try.prog S 30 (.d (.sl (l.map (zJ)))) (.d (.int .i64 i)) = some (.d (.ptr ((zJ) l[i]))) := z9f Try.underlying30 (zm7) h
theorem q1q {S : zA} {xs : List D} : zY Try.prog S .len [30] [.d (.sl xs)] = some (.val (.d (.int .i64 xs.length)) S 0) := z86 Try.underlying30
theorem zvz : zOk Try.prog 9 = true := by kernel_rfl
theorem zv4 : (sz Try.prog 9).isSome = true := by kernel_rfl
theorem zrq {m : Nat} (h : m ≤ 1000000) : room Try.prog 9 m = true := z38 rfl (by decide +kernel) h
theorem ix42 {S : zA} {l : List (List UInt8)} {i : Nat} (h : i < l.length) : qJ Try.prog S 42 (.d (.sl (l.map (D.str)))) (.d (.int .i64 i)) = some (.d (.ptr ((D.str) l[i]))) := z9f Try.underlying42 (fun a => zus a) h
theorem q2h {S : zA} {xs : List D} : zY Try.prog S .len [42] [.d (.sl xs)] = some (.val (.d (.int .i64 xs.length)) S 0) := z86 Try.underlying42
theorem bs42 {S : zA} {a : (List UInt8)} : bs1 Try.prog S 42 (.d (.str a)) = some (.val (.ts [.str a]) S 0) := by kernel_rfl
theorem ap42 {S : zA} {v : V} {xs : List (List UInt8)} (a : (List UInt8)) (ho : OwnS S v 9 (xs.map fun x => .d (D.str x))) (hl : xs.length < 1000000) : ∃ v' S' c, zW Try.prog S 42 42 v (.ts [D.str a]) = some (v', S', c) ∧ OwnS S' v' 9 ((xs ++ [a]).map fun x => .d (D.str x)) ∧ (∀ j o, S[j]? = some o → NotAt v j → S'[j]? = some o ∧ NotAt v' j) ∧ S.length ≤ S'.length := zkf a Try.underlying42 zvz zv4 (zus a) ho (zrq (by omega))
theorem q1a {S : zA} {xs : List D} : zY Try.prog S .len [33] [.d (.sl xs)] = some (.val (.d (.int .i64 xs.length)) S 0) := z86 Try.underlying33
theorem zur {S : zA} {xs : List D} : zY Try.prog S .len [33] [.ts xs] = some (.val (.d (.int .i64 xs.length)) S 0) := zng Try.underlying33
theorem q0s : zOk Try.prog 32 = true := by kernel_rfl
theorem zxu : (sz Try.prog 32).isSome = true := by kernel_rfl
theorem zlp {m : Nat} (h : m ≤ 1000000) : room Try.prog 32 m = true := z38 rfl (by decide +kernel) h
theorem ix25 {S : zA} {l : List Node} {i : Nat} (h : i < l.length) : qJ Try.prog S 25 (.d (.sl (l.map (zB)))) (.d (.int .i64 i)) = some (.d (.ptr ((zB) l[i]))) := z9f Try.underlying25 (zxh) h
theorem q18 {S : zA} {xs : List D} : zY Try.prog S .len [25] [.d (.sl xs)] = some (.val (.d (.int .i64 xs.length)) S 0) := z86 Try.underlying25
theorem bs25 {S : zA} {a : Node} : bs1 Try.prog S 25 (.d (zB a)) = some (.val (.ts [zB a]) S 0) := by kernel_rfl
theorem ix22 {S : zA} {l : List Opn} {i : Nat} (h : i < l.length) : qJ Try.prog S 22 (.d (.sl (l.map (encOpn)))) (.d (.int .i64 i)) = some (.d (.ptr ((encOpn) l[i]))) := z9f Try.underlying22 (zwm) h
theorem q1y {S : zA} {xs : List D} : zY Try.prog S .len [22] [.d (.sl xs)] = some (.val (.d (.int .i64 xs.length)) S 0) := z86 Try.underlying22
theorem q2m {s : List UInt8} {i : Nat} (h : i < s.length) : z4t Try.prog 9 (.d (.str s)) (.d (.int .i64 i)) = some (.d (.int .u8 s[i].toNat)) := znq Try.underlying9 h
theorem zy8 {S : zA} {s : List UInt8} : zY Try.prog S .len [9] [.d (.str s)] = some (.val (.d (.int .i64 s.length)) S 0) := zuz Try.underlying9
theorem zy9 : zF Try.prog 10 = some ⟨Try.f10.body.getD .skip, 41, #[.tmp 4]⟩ := by
 unfold zF
 rw [Try.func10]
 rfl
theorem bo10  : (zF Try.prog 10).isSome = true := by kernel_rfl
theorem bo11  : (zF Try.prog 11).isSome = true := by kernel_rfl
theorem zzq : zF Try.prog 15 = some ⟨Try.f15.body.getD .skip, 31, #[.cell 4 32, .tmp 5]⟩ := by
 unfold zF
 rw [Try.func15]
 rfl
theorem bo15  : (zF Try.prog 15).isSome = true := by kernel_rfl
theorem zze : zF Try.prog 20 = some ⟨Try.f20.body.getD .skip, 18, #[.cell 2 48]⟩ := by
 unfold zF
 rw [Try.func20]
 rfl
theorem bo20  : (zF Try.prog 20).isSome = true := by kernel_rfl
theorem zwy : zF Try.prog 40 = some ⟨Try.f40.body.getD .skip, 34, #[.tmp 2]⟩ := by
 unfold zF
 rw [Try.func40]
 rfl
theorem bo40  : (zF Try.prog 40).isSome = true := by kernel_rfl
theorem zwn : zF Try.prog 66 = some ⟨Try.f66.body.getD .skip, 20, #[.tmp 2]⟩ := by
 unfold zF
 rw [Try.func66]
 rfl
theorem bo66  : (zF Try.prog 66).isSome = true := by kernel_rfl
theorem zv3 : zF Try.prog 105 = some ⟨Try.f105.body.getD .skip, 22, #[.tmp 4, .tmp 5]⟩ := by
 unfold zF
 rw [Try.func105]
 rfl
theorem q1c  : (zF Try.prog 105).isSome = true := by kernel_rfl
theorem zys : zF Try.prog 99 = some ⟨Try.f99.body.getD .skip, 47, #[.cell 4 32]⟩ := by
 unfold zF
 rw [Try.func99]
 rfl
theorem bo99  : (zF Try.prog 99).isSome = true := by kernel_rfl
theorem zw9 : zF Try.prog 60 = some ⟨Try.f60.body.getD .skip, 17, #[.cell 4 32]⟩ := by
 unfold zF
 rw [Try.func60]
 rfl
theorem bo60  : (zF Try.prog 60).isSome = true := by kernel_rfl
theorem zxr : zF Try.prog 64 = some ⟨Try.f64.body.getD .skip, 27, #[.cell 4 32, .tmp 5]⟩ := by
 unfold zF
 rw [Try.func64]
 rfl
theorem bo64  : (zF Try.prog 64).isSome = true := by kernel_rfl
theorem q11  : (zF Try.prog 102).isSome = true := by kernel_rfl
theorem bo98  : (zF Try.prog 98).isSome = true := by kernel_rfl
theorem q0k : zF Try.prog 97 = some ⟨Try.f97.body.getD .skip, 45, #[.tmp 2, .tmp 3]⟩ := by
 unfold zF
 rw [Try.func97]
 rfl
theorem bo97  : (zF Try.prog 97).isSome = true := by kernel_rfl
theorem zty : zF Try.prog 101 = some ⟨Try.f101.body.getD .skip, 29, #[.tmp 2, .tmp 3, .tmp 4]⟩ := by
 unfold zF
 rw [Try.func101]
 rfl
theorem q1v  : (zF Try.prog 101).isSome = true := by kernel_rfl
theorem zui : zF Try.prog 113 = some ⟨Try.f113.body.getD .skip, 34, #[.tmp 2]⟩ := by
 unfold zF
 rw [Try.func113]
 rfl
theorem q1e  : (zF Try.prog 113).isSome = true := by kernel_rfl
theorem zzd : zF Try.prog 96 = some ⟨Try.f96.body.getD .skip, 36, #[.tmp 2]⟩ := by
 unfold zF
 rw [Try.func96]
 rfl
theorem bo96  : (zF Try.prog 96).isSome = true := by kernel_rfl
def ty :=
 And.intro @ld3 <|
 And.intro @ld9 <|
 And.intro @zz88 <|
 And.intro @q1p <|
 And.intro @lr88 <|
 And.intro @q0q <|
 And.intro @ld88 <|
 And.intro @zzh <|
 And.intro @zw4 <|
 And.intro @zzu <|
 And.intro @zzc <|
 And.intro @zz3 <|
 And.intro @zsq <|
 And.intro @q05 <|
 And.intro @zzj <|
 And.intro @zvh <|
 And.intro @zw2 <|
 And.intro @zsx <|
 And.intro @zz32 <|
 And.intro @ff32 <|
 And.intro @zqu <|
 And.intro @lr32 <|
 And.intro @q0v <|
 And.intro @q1s <|
 And.intro @q2c <|
 And.intro @ld32 <|
 And.intro @zxe <|
 And.intro @q01 <|
 And.intro @zzw <|
 And.intro @zyk <|
 And.intro @zyh <|
 And.intro @q07 <|
 And.intro @zw3 <|
 And.intro @zzv <|
 And.intro @zy1 <|
 And.intro @zz44 <|
 And.intro @q0p <|
 And.intro @q2v <|
 And.intro @zzx <|
 And.intro @zyx <|
 And.intro @zz8 <|
 And.intro @zwu <|
 And.intro @q0j <|
 And.intro @zxl <|
 And.intro @ff50 <|
 And.intro @ld50 <|
 And.intro @zr4 <|
 And.intro @q0a <|
 And.intro @zx6 <|
 And.intro @zr7 <|
 And.intro @q02 <|
 And.intro @q03 <|
 And.intro @zr8 <|
 And.intro @q08 <|
 And.intro @zrs <|
 And.intro @zxv <|
 And.intro @zrm <|
 And.intro @zvo <|
 And.intro @zzm <|
 And.intro @zwt <|
 And.intro @zx5 <|
 And.intro @zz48 <|
 And.intro @ff48 <|
 And.intro @q2n <|
 And.intro @lr48 <|
 And.intro @q16 <|
 And.intro @zy6 <|
 And.intro @zxk <|
 And.intro @zz1 <|
 And.intro @zvx <|
 And.intro @zyw <|
 And.intro @zxz <|
 And.intro @bs29 <|
 And.intro @ix30 <|
 And.intro @q1q <|
 And.intro @ix42 <|
 And.intro @q2h <|
 And.intro @bs42 <|
 And.intro @q1a <|
 And.intro @zur <|
 And.intro @ix25 <|
 And.intro @q18 <|
 And.intro @bs25 <|
 And.intro @ix22 <|
 And.intro @q1y <|
 And.intro @q2m <|
 And.intro @zy8 <|
 And.intro @bo10 <|
 And.intro @bo11 <|
 And.intro @bo15 <|
 And.intro @bo20 <|
 And.intro @bo40 <|
 And.intro @bo66 <|
 And.intro @q1c <|
 And.intro @bo99 <|
 And.intro @bo60 <|
 And.intro @bo64 <|
 And.intro @q11 <|
 And.intro @bo98 <|
 And.intro @bo97 <|
 And.intro @q1v <|
 And.intro @q1e @bo96
def ga :=
 And.intro @vme <| And.intro @vmb <| And.intro @ty <| And.intro hP <| And.intro @q2a <| And.intro @q2k <| And.intro @wrap64 <| And.intro @List.length_map.{0,0} Int.toNat_natCast
def gb :=
 And.intro ga <| And.intro @List.cons_append.{0} <| And.intro @List.nil_append.{0} <| And.intro @Option.map_some.{0,0} <| And.intro @Option.map_none.{0,0} <| And.intro @zw8 <| And.intro @zwg vmg
def uZ (l : List V) : List V := (.tup []) :: (.tup []) :: (.tup []) :: (.tup []) :: (.tup []) :: (.tup []) :: (.tup []) :: (.tup []) :: (.tup []) :: (.tup []) :: l
def wQ (n : Node) : Bool → List Node → List Node
 | put, [] => if put then [] else [n]
 | put, x :: r => (if put = false ∧ n.ino ≤ x.ino then [n] else []) ++ (if x.ino ≠ n.ino then [x] else []) ++ wQ n (put || decide (n.ino ≤ x.ino)) r
def qY (t : List Node) (n : Node) : List Node := wQ n false t
def vI (ino : Int) : Nat → List Node → Int
 | _, [] => -1
 | i, x :: r => if x.ino = ino then (i : Int) else vI ino (i + 1) r
theorem z1a (ino : Int) : ∀ (l : List Node) (i : Nat), (l.find? (fun n => decide (n.ino = ino)) = none ∧ vI ino i l = -1) ∨ ∃ (k : Nat) (hk : k < l.length), vI ino i l = ((i + k : Nat) : Int) ∧ l.find? (fun n => decide (n.ino = ino)) = some l[k]
 | [], i => .inl ⟨rfl, rfl⟩
 | x :: r, i => by
  by_cases h : x.ino = ino
  ·exact .inr ⟨0, by simp, by simp [vI, h], by simp [h]⟩
  ·rcases z1a ino r (i + 1) with ⟨h1, h2⟩ | ⟨k, hk, h1, h2⟩
   ·exact .inl ⟨by simp [h, h1], by simp [vI, h, h2]⟩
   ·exact .inr ⟨k + 1, by simp; omega, by simp [vI, h, h1]; omega, by simp [h, h2]⟩
def zM : Node := ⟨0, 0, 0, 0, 0, [], []⟩
def getN (t : List Node) (ino : Int) : Node := (t.find? (fun n => decide (n.ino = ino))).getD zM
def qV (l : List Ent) (s : List UInt8) : Int := match l.find? (fun e => decide (e.name = s)) with | some e => e.ino | none => -1
theorem zm8 {x : Ent} {r : List Ent} {s : List UInt8} (h : x.name = s) : qV (x :: r) s = x.ino := by simp [qV, h]
theorem zds {x : Ent} {r : List Ent} {s : List UInt8} (h : ¬ x.name = s) : qV (x :: r) s = qV r s := by simp [qV, h]
def kO (t : List Node) (ino : Int) : List Node := if (getN t ino).links - 1 < 1 then t.filter (fun n => n.ino ≠ ino) else qY t { getN t ino with links := (getN t ino).links - 1 }
def z0c (t : List Node) (top : Int) : Nat → Int → Bool
 | 0, _ => false
 | n + 1, d => if d = top then true else z0c t top n (getN t d).parent
def wD : List UInt8 → List UInt8 → Bool
 | x :: a, y :: b => if x ≠ y then decide (x < y) else wD a b
 | [], _ :: _ => true
 | _, [] => false
theorem zo0 {α : Type} {enc : α → D} {S : zA} {v : V} {e : TypeId} {xs : List α} (h : OwnS S v e (xs.map fun x => .d (enc x))) : OwnS S v e ((xs.map enc).map V.d) := by simpa [List.map_map, Function.comp_def] using h
def zU (t : List Node) (dir : Int) (s : List UInt8) : List Node := qY t { getN t dir with names := (getN t dir).names.filter (fun e => decide (e.name ≠ s)) }
def putA (s : List UInt8) (ino : Int) : Bool → List Ent → List Ent
 | b, [] => if b then [] else [⟨s, ino⟩]
 | b, e :: r => (if b = false ∧ wD s e.name = true then [⟨s, ino⟩] else []) ++ [e] ++ putA s ino (b || wD s e.name) r
def putN (t : List Node) (dir : Int) (s : List UInt8) (ino : Int) : List Node := qY t { getN t dir with names := putA s ino false (getN t dir).names }
theorem bd88 {s : List UInt8} {n : Int} : z1j Try.prog 88 [(0, .d (.str s)), (1, .d (.int .i64 n))] = some (.agg [.d (.str s), .d (.int .i64 n)]) := by kernel_rfl
theorem zum {S : zA} {s : List UInt8} {n : Int} : bs1 Try.prog S 30 (.agg [.d (.str s), .d (.int .i64 n)]) = some (.val (.ts [zJ ⟨s, n⟩]) S 0) := by kernel_rfl
end Go.Proofs.Ytghllhghboaagaa
end
section
namespace Go.Vm
open Go
theorem z4a {n d : Nat} {i : Int} (h0 : 0 ≤ i) (h1 : i.toNat ≤ n) : wC n (some (.d (.int .i64 i))) d = some i.toNat := by
 have h2 : i ≤ n := by omega
 simp only [wC, intOf?, h0, h2, if_true, and_self]
theorem wO {n d : Nat} : wC n none d = some d := rfl
theorem ztm {P : Program} {S : zA} {t : TypeId} {s : List UInt8} {lo hi : Int} (hu : P.underlying t = some .string) (h0 : 0 ≤ lo) (h1 : lo ≤ hi) (h2 : hi ≤ s.length) :
  qT P S t (.d (.str s)) (some (.d (.int .i64 lo))) (some (.d (.int .i64 hi))) = some (.d (.str ((s.take hi.toNat).drop lo.toNat))) := by
 simp only [qT, hu, z4a (n := s.length) (d := s.length) (i := hi) (by omega) (by omega), z4a (n := hi.toNat) (d := 0) (i := lo) h0 (by omega)]
theorem zvt {P : Program} {S : zA} {t e : TypeId} {xs : List D} {hi : Int} (hu : P.underlying t = some (.slice e)) (hf : xs.all (vN P e) = true) (hz : (sz P e).isSome = true) (h1 : 0 ≤ hi) (h2 : hi ≤ xs.length) :
  qT P S t (.d (.sl xs)) none (some (.d (.int .i64 hi))) = some (.d (.sl (xs.take hi.toNat))) := by
 simp only [qT, hu, z4a (n := xs.length) (d := xs.length) (i := hi) (by omega) (by omega), wO, hf, hz, Bool.and_self, if_true, List.drop_zero]
theorem strOf_mk {l : List UInt8} : strOf ⟨l.toArray⟩ = l := rfl
section
variable {C : Cfg} {S : zA} {T : List V} {dst : Option Tmp} {ops : Array Oper} {F : Dfs} {Q : Post} {K : List Nat → List (Nat × Nat) → List V → zA → Prop} {rd : List Nat} {cs : List (Nat × Nat)} {i : Nat}
theorem ze5 {f : FuncId} {args : List V} {ds : List D} {v : V} (hs : C.shared f = false) (hf : allO (frz S zR) args = some ds) (hi : (args.flatMap (qH S zR)).isEmpty = true) (he : Ev C f ds (.ret v)) :
  WpE C ops F Q K rd cs i dst T S (some (.enter f args)) = K (i :: rd) (cs ++ [(i, 1)]) (putT T dst v) S := by
 obtain ⟨n, hn⟩ := he
 have hn' : answer C (run C n) f ds = some (.ret v) := hn
 have hc : kR C (run C n) f args S = some (.ret v, S, 1) := by
  unfold kR
  simp only [hs, Bool.false_eq_true, if_false, hf, hn', hi, if_true]
 apply propext
 constructor
 ·rintro ⟨m, v', S', c, h1, h2, h3⟩
  have := z3o h1 hc
  simp only [Prod.mk.injEq] at this
  obtain ⟨h4, rfl, rfl⟩ := this
  cases h4
  exact h3
 ·exact fun h => ⟨n, _, _, _, hc, fun h => absurd h (by decide), h⟩
theorem z69 {f : FuncId} {ds : List D} {v : V} (hs : C.shared f = false) (he : Ev C f ds (.ret v)) :
  WpE C ops F Q K rd cs i dst T S (some (.enter f (ds.map .d))) = K (i :: rd) (cs ++ [(i, 1)]) (putT T dst v) S := by
 have hfz : ∀ ds : List D, allO (frz S zR) (ds.map V.d) = some ds := by
  intro ds
  induction ds with
  | nil => rfl
  | cons x r ih => simp only [List.map_cons, allO, ih, zq0]
 have hid : ∀ ds : List D, ((ds.map V.d).flatMap (qH S zR)).isEmpty = true := by
  intro ds
  induction ds with
  | nil => rfl
  | cons x r ih => simp only [List.map_cons, List.flatMap_cons, zif, List.nil_append]; exact ih
 exact ze5 hs (hfz ds) (hid ds) he
end
end Go.Vm
end
section
namespace Go.Proofs.Ytghllhghboaagaa
open Go.Vm
def z4m (c : UInt8) : Bool := decide (c ≠ 0 ∧ c ≠ 47)
def z20 (s : List UInt8) : Bool := decide (1 ≤ s.length ∧ s.length ≤ 24 ∧ s ≠ [46] ∧ s ≠ [46, 46]) && s.all z4m
def z0f : List UInt8 → List UInt8 → Option (List (List UInt8))
 | part, [] => if part = [] then none else some [part]
 | part, c :: r => if c = 47 then (if part = [] then none else (z0f [] r).map (part :: ·)) else z0f (part ++ [c]) r
def zV (s : List UInt8) : List (List UInt8) × Int :=
 if s.length < 1 ∨ 200 < s.length ∨ s.head? ≠ some 47 then ([], 15)
 else if s.length = 1 then ([], 0)
 else match z0f [] (s.drop 1) with
  | none => ([], 15)
  | some l => if l.all z20 then (l, 0) else ([], 3)
structure Small (k : Nat) (t : List Node) : Prop where
 len : t.length ≤ k
 nms : ∀ n ∈ t, n.names.length ≤ k
 nam : ∀ n ∈ t, ∀ e ∈ n.names, e.name.length ≤ 200
 lnk : ∀ n ∈ t, -(k : Int) ≤ n.links ∧ n.links ≤ k
 siz : ∀ n ∈ t, 0 ≤ n.size ∧ n.size ≤ 34304 ∧ n.data.length = n.size
theorem jH (t : List Node) (ino : Int) : (getN t ino = zM ∧ ∀ n ∈ t, n.ino ≠ ino) ∨ (getN t ino ∈ t ∧ (getN t ino).ino = ino) := by
 unfold getN
 cases h : t.find? (fun n => decide (n.ino = ino)) with
 | none =>
  refine .inl ⟨rfl, fun n hn hi => ?_⟩
  have := List.find?_eq_none.1 h n hn
  simp [hi] at this
 | some x =>
  refine .inr ⟨List.mem_of_find?_eq_some h, ?_⟩
  have := List.find?_some h
  simpa using this
theorem Small.gnms {k : Nat} {t : List Node} (h : Small k t) (ino : Int) : (getN t ino).names.length ≤ k := by
 rcases jH t ino with ⟨h1, _⟩ | ⟨h1, _⟩
 ·rw [h1]; exact Nat.zero_le _
 ·exact h.nms _ h1
theorem Small.gnam {k : Nat} {t : List Node} (h : Small k t) (ino : Int) : ∀ e ∈ (getN t ino).names, e.name.length ≤ 200 := by
 rcases jH t ino with ⟨h1, _⟩ | ⟨h1, _⟩
 ·rw [h1]; intro e he; exact absurd he (by simp [zM])
 ·exact h.nam _ h1
theorem Small.glnk {k : Nat} {t : List Node} (h : Small k t) (ino : Int) : -(k : Int) ≤ (getN t ino).links ∧ (getN t ino).links ≤ k := by
 rcases jH t ino with ⟨h1, _⟩ | ⟨h1, _⟩
 ·rw [h1]; exact ⟨by simp [zM], by simp [zM]⟩
 ·exact h.lnk _ h1
theorem Small.gsiz {k : Nat} {t : List Node} (h : Small k t) (ino : Int) : 0 ≤ (getN t ino).size ∧ (getN t ino).size ≤ 34304 ∧ (getN t ino).data.length = (getN t ino).size := by
 rcases jH t ino with ⟨h1, _⟩ | ⟨h1, _⟩
 ·rw [h1]; exact ⟨by simp [zM], by simp [zM], by simp [zM]⟩
 ·exact h.siz _ h1
def goN (t : List Node) : List (List UInt8) → Int → Int × Int
 | [], d => (d, 0)
 | p :: r, d => if (getN t d).kind ≠ 2 then (0, 6) else if qV (getN t d).names p < 0 then (0, 4) else goN t r (qV (getN t d).names p)
theorem z74 : ∀ (r part : List UInt8) (l : List (List UInt8)), z0f part r = some l → l.length ≤ r.length + 1
 | [], part, l, h => by
  by_cases hp : part = []
  ·simp [z0f, hp] at h
  ·simp only [z0f, hp, if_false, Option.some.injEq] at h
   subst h
   simp
 | c :: r, part, l, h => by
  by_cases hc : c = 47
  ·by_cases hp : part = []
   ·simp [z0f, hp, hc] at h
   ·simp only [z0f, hc, hp, if_true, if_false, Option.map_eq_some_iff] at h
    obtain ⟨l', h1, rfl⟩ := h
    have := z74 r [] l' h1
    simp
    omega
  ·simp only [z0f, hc, if_false] at h
   have := z74 r _ l h
   simp
   omega
theorem z7k (s : List UInt8) : (zV s).1.length ≤ 200 := by
 unfold zV
 by_cases h1 : s.length < 1 ∨ 200 < s.length ∨ s.head? ≠ some 47
 ·rw [if_pos h1]; simp
 ·rw [if_neg h1]
  by_cases h2 : s.length = 1
  ·rw [if_pos h2]; simp
  ·rw [if_neg h2]
   cases h : z0f [] (s.drop 1) with
   | none => simp
   | some l =>
    have := z74 _ _ _ h
    simp at this
    simp only
    split
    ·show l.length ≤ 200
     omega
    ·simp
theorem zbk (s : List UInt8) : ∀ x ∈ (zV s).1, z20 x = true := by
 unfold zV
 by_cases h1 : s.length < 1 ∨ 200 < s.length ∨ s.head? ≠ some 47
 ·rw [if_pos h1]; simp
 ·rw [if_neg h1]
  by_cases h2 : s.length = 1
  ·rw [if_pos h2]; simp
  ·rw [if_neg h2]
   cases h : z0f [] (s.drop 1) with
   | none => simp
   | some l =>
    simp only
    split
    ·rename_i ha
     exact fun x hx => List.all_eq_true.1 ha x hx
    ·simp
theorem zkg {s : List UInt8} (h : z20 s = true) : s.length ≤ 24 := by
 simp only [z20, Bool.and_eq_true, decide_eq_true_eq] at h
 exact h.1.2.1
def zN (t : List Node) (s : List UInt8) : Int × Int := if (zV s).2 ≠ 0 then (0, (zV s).2) else goN t (zV s).1 1
def zQ (t : List Node) (s : List UInt8) : Int × List UInt8 × Int :=
 if (zV s).2 ≠ 0 then (0, [], (zV s).2)
 else if (zV s).1.length = 0 then (0, [], 15)
 else if (goN t ((zV s).1.take ((zV s).1.length - 1)) 1).2 ≠ 0 then (0, [], (goN t ((zV s).1.take ((zV s).1.length - 1)) 1).2)
 else if (getN t (goN t ((zV s).1.take ((zV s).1.length - 1)) 1).1).kind ≠ 2 then (0, [], 6)
 else ((goN t ((zV s).1.take ((zV s).1.length - 1)) 1).1, (zV s).1.getD ((zV s).1.length - 1) [], 0)
def za8 (t : List Node) : Nat → Int → Int
 | 0, i => i
 | n + 1, i => if 0 ≤ vI i 0 t then za8 t n (i + 1) else i
def jE (t : List Node) : Int := za8 t (t.length + 1) 2
theorem zoe {t : List Node} {i : Int} (h : vI i 0 t < 0) : ∀ n ∈ t, n.ino ≠ i := by
 rcases z1a i t 0 with ⟨h1, h2⟩ | ⟨k, hk, h1, h2⟩
 ·intro n hn hi
  have := List.find?_eq_none.1 h1 n hn
  simp [hi] at this
 ·omega
theorem ze4 {t : List Node} {i : Int} (h : 0 ≤ vI i 0 t) : ∃ n ∈ t, n.ino = i := by
 rcases z1a i t 0 with ⟨h1, h2⟩ | ⟨k, hk, h1, h2⟩
 ·omega
 ·exact ⟨t[k], List.getElem_mem hk, by simpa using List.find?_some h2⟩
def zis (t : List Node) (i : Int) : Nat := t.countP (fun n => decide (i ≤ n.ino))
theorem zi4 {t : List Node} {i : Int} (h : ∃ n ∈ t, n.ino = i) : zis t (i + 1) < zis t i := by
 obtain ⟨n, hn, hi⟩ := h
 unfold zis
 induction t with
 | nil => simp at hn
 | cons x r ih =>
  have mono : ∀ r : List Node, r.countP (fun n => decide (i + 1 ≤ n.ino)) ≤ r.countP (fun n => decide (i ≤ n.ino)) := fun r => List.countP_mono_left (fun a _ h => by simp at h ⊢; omega)
  rw [List.countP_cons, List.countP_cons]
  rcases List.mem_cons.1 hn with rfl | hm
  ·have h1 : ¬ (decide (i + 1 ≤ n.ino) = true) := by simp; omega
   have h2 : decide (i ≤ n.ino) = true := by simp; omega
   rw [if_neg h1, if_pos h2]
   have := mono r
   omega
  ·have := ih hm
   by_cases h1 : decide (i + 1 ≤ x.ino) = true
   ·have h2 : decide (i ≤ x.ino) = true := by simp at h1 ⊢; omega
    rw [if_pos h1, if_pos h2]; omega
   ·rw [if_neg h1]
    split <;> omega
theorem zby (t : List Node) : ∀ (k : Nat) (i : Int), zis t i ≤ k → vI (za8 t (k + 1) i) 0 t < 0 ∧ i ≤ za8 t (k + 1) i ∧ za8 t (k + 1) i ≤ i + k
 | 0, i, hk => by
  have hf : ¬ 0 ≤ vI i 0 t := fun h => by have := zi4 (ze4 h); omega
  rw [za8, if_neg hf]
  exact ⟨by omega, by omega, by omega⟩
 | k + 1, i, hk => by
  by_cases hf : 0 ≤ vI i 0 t
  ·have := zi4 (ze4 hf)
   rw [za8, if_pos hf]
   have h := zby t k (i + 1) (by omega)
   exact ⟨h.1, by omega, by omega⟩
  ·rw [za8, if_neg hf]
   exact ⟨by omega, by omega, by omega⟩
theorem z0g (t : List Node) : (∀ n ∈ t, n.ino ≠ jE t) ∧ 2 ≤ jE t ∧ jE t ≤ t.length + 2 := by
 have h := zby t t.length 2 List.countP_le_length
 exact ⟨zoe h.1, h.2.1, by have := h.2.2; unfold jE; omega⟩
def wF (e : Int) : Ans := ⟨e, 0, 0, 0, 0, [], []⟩
theorem za4 {n x : Node} : ∀ {l : List Node} {b : Bool}, x ∈ wQ n b l ↔ (b = false ∧ x = n) ∨ (x ∈ l ∧ x.ino ≠ n.ino)
 | [], b => by cases b <;> simp [wQ]
 | y :: r, b => by
  rw [wQ]
  simp only [List.mem_append, za4 (l := r), List.mem_cons]
  cases b with
  | true => by_cases h2 : y.ino ≠ n.ino <;> grind
  | false => by_cases h1 : n.ino ≤ y.ino <;> by_cases h2 : y.ino ≠ n.ino <;> grind
theorem wI {t : List Node} {n x : Node} : x ∈ qY t n ↔ x = n ∨ (x ∈ t ∧ x.ino ≠ n.ino) := by
 unfold qY
 rw [za4]
 simp
theorem zel {n : Node} : ∀ {l : List Node} {b : Bool}, (wQ n b l).length ≤ l.length + (if b then 0 else 1)
 | [], b => by cases b <;> simp [wQ]
 | y :: r, b => by
  rw [wQ]
  simp only [List.length_append, List.length_cons]
  have := zel (n := n) (l := r) (b := b || decide (n.ino ≤ y.ino))
  cases b with
  | true =>
   simp only [Bool.true_or, if_true] at this
   simp only [Bool.true_or, Bool.true_eq_false, false_and, if_false, List.length_nil, if_true]
   split <;> simp <;> omega
  | false =>
   by_cases h1 : n.ino ≤ y.ino
   ·simp only [h1, decide_true, Bool.or_true, if_true] at this
    simp only [h1, decide_true, Bool.or_true, and_self, if_true, List.length_cons, List.length_nil, Bool.false_eq_true, if_false]
    split <;> simp <;> omega
   ·simp only [h1, decide_false, Bool.or_false, Bool.false_eq_true, if_false] at this
    simp only [h1, decide_false, Bool.or_false, and_false, if_false, List.length_nil, Bool.false_eq_true]
    split <;> simp <;> omega
theorem zmx {t : List Node} {n : Node} : (qY t n).length ≤ t.length + 1 := zel
theorem Small.mono {k m : Nat} {t : List Node} (h : Small k t) (hm : k ≤ m) : Small m t :=
 ⟨Nat.le_trans h.len hm, fun n hn => Nat.le_trans (h.nms n hn) hm, h.nam, fun n hn => ⟨by have := (h.lnk n hn).1; omega, by have := (h.lnk n hn).2; omega⟩, h.siz⟩
structure SmallN (k : Nat) (n : Node) : Prop where
 nms : n.names.length ≤ k
 nam : ∀ e ∈ n.names, e.name.length ≤ 200
 lnk : -(k : Int) ≤ n.links ∧ n.links ≤ k
 siz : 0 ≤ n.size ∧ n.size ≤ 34304 ∧ n.data.length = n.size
theorem Small.get {k : Nat} {t : List Node} (h : Small k t) (ino : Int) : SmallN k (getN t ino) := ⟨h.gnms ino, h.gnam ino, h.glnk ino, h.gsiz ino⟩
theorem SmallN.mono {k m : Nat} {n : Node} (h : SmallN k n) (hm : k ≤ m) : SmallN m n := ⟨Nat.le_trans h.nms hm, h.nam, ⟨by have := h.lnk.1; omega, by have := h.lnk.2; omega⟩, h.siz⟩
theorem Small.with {k : Nat} {t : List Node} {n : Node} (h : Small k t) (hn : SmallN (k + 1) n) : Small (k + 1) (qY t n) := by
 have h' := h.mono (Nat.le_succ k)
 refine ⟨Nat.le_trans zmx (by have := h.len; omega), ?_, ?_, ?_, ?_⟩ <;> intro x hx <;> rcases wI.1 hx with rfl | ⟨h1, _⟩
 ·exact hn.nms
 ·exact h'.nms x h1
 ·exact hn.nam
 ·exact h'.nam x h1
 ·exact hn.lnk
 ·exact h'.lnk x h1
 ·exact hn.siz
 ·exact h'.siz x h1
theorem Small.filter {k : Nat} {t : List Node} {p : Node → Bool} (h : Small k t) : Small k (t.filter p) :=
 ⟨Nat.le_trans (List.length_filter_le _ _) h.len, fun n hn => h.nms n (List.mem_filter.1 hn).1, fun n hn => h.nam n (List.mem_filter.1 hn).1, fun n hn => h.lnk n (List.mem_filter.1 hn).1, fun n hn => h.siz n (List.mem_filter.1 hn).1⟩
theorem Small.drop {k : Nat} {t : List Node} {dir : Int} {s : List UInt8} (h : Small k t) : Small (k + 1) (zU t dir s) := by
 have hg := (h.get dir).mono (Nat.le_succ k)
 exact h.with ⟨Nat.le_trans (List.length_filter_le _ _) hg.nms, fun e he => hg.nam e (List.mem_filter.1 he).1, hg.lnk, hg.siz⟩
theorem mem_putA {s : List UInt8} {ino : Int} {x : Ent} : ∀ {l : List Ent} {b : Bool}, x ∈ putA s ino b l ↔ (b = false ∧ x = ⟨s, ino⟩) ∨ x ∈ l
 | [], b => by cases b <;> simp [putA]
 | y :: r, b => by
  rw [putA]
  simp only [List.mem_append, mem_putA (l := r), List.mem_cons, List.not_mem_nil, or_false]
  cases b with
  | true => simp
  | false => cases h : wD s y.name <;> grind
theorem ziq {s : List UInt8} {ino : Int} : ∀ {l : List Ent} {b : Bool}, (putA s ino b l).length = l.length + (if b then 0 else 1)
 | [], b => by cases b <;> simp [putA]
 | y :: r, b => by
  rw [putA]
  simp only [List.length_append, List.length_cons, ziq (l := r), List.length_nil]
  cases b with
  | true => simp; omega
  | false => cases h : wD s y.name <;> simp <;> omega
theorem Small.put {k : Nat} {t : List Node} {dir ino : Int} {s : List UInt8} (h : Small k t) (hs : s.length ≤ 200) : Small (k + 1) (putN t dir s ino) := by
 have hg := (h.get dir)
 refine h.with ⟨?_, ?_, (hg.mono (Nat.le_succ k)).lnk, hg.siz⟩
 ·show (putA s ino false _).length ≤ k + 1
  rw [ziq]
  have := hg.nms
  simp only [Bool.false_eq_true, if_false]
  omega
 ·intro e he
  rcases mem_putA.1 he with ⟨_, rfl⟩ | h1
  ·exact hs
  ·exact hg.nam e h1
theorem Small.loses {k : Nat} {t : List Node} {ino : Int} (h : Small k t) : Small (k + 1) (kO t ino) := by
 unfold kO
 have hg := (h.get ino)
 split
 ·exact (h.filter).mono (Nat.le_succ k)
 ·refine h.with ⟨Nat.le_succ_of_le hg.nms, hg.nam, ⟨?_, ?_⟩, hg.siz⟩
  ·have := hg.lnk.1
   show -((k + 1 : Nat) : Int) ≤ (getN t ino).links - 1
   omega
  ·have := hg.lnk.2
   show (getN t ino).links - 1 ≤ ((k + 1 : Nat) : Int)
   omega
theorem z71 (t : List Node) (s : List UInt8) : (zQ t s).2.1.length ≤ 24 := by
 unfold zQ
 by_cases h1 : (zV s).2 ≠ 0
 ·rw [if_pos h1]; simp
 ·rw [if_neg h1]
  by_cases h2 : (zV s).1.length = 0
  ·rw [if_pos h2]; simp
  ·rw [if_neg h2]
   split
   ·simp
   ·split
    ·simp
    ·show ((zV s).1.getD _ _).length ≤ 24
     have hlt : (zV s).1.length - 1 < (zV s).1.length := by omega
     rw [List.getD_eq_getElem?_getD, List.getElem?_eq_getElem hlt]
     exact zkg (zbk s _ (List.getElem_mem hlt))
theorem zhc {P : Program} {T : List V} {S : zA} {t a u : Nat} {v w x : V} {d e : D} (hv : T.getD t (.tup []) = v) (ha : T.getD a (.tup []) = w) (hl : jP P S u w = some x) (h1 : v.one = true) (h2 : x.one = true) (h3 : frz S zR v = some d) (h4 : frz S zR x = some e) : RetQ P #[.tmp t, .cell a u] (.ret (.tup [.d d, .d e])) .ret T S [] :=
 z6k (r1 := .tmp t) (r2 := .cell a u) (l := []) (vs := [v, x]) (ds := [d, e]) (by simp only [allO, wH, hv, ha, hl]) (by simp [h1, h2]) (by simp only [allO, h3, h4])
def okN : Ans := ⟨0, 0, 0, 0, 0, [], []⟩
def qM (t : List Node) (o : Opn) : Node := if o.does = 2 then ⟨jE t, 2, 1, (zQ t o.a).1, 0, [], []⟩ else ⟨jE t, 1, 1, 0, 0, [], []⟩
def z3j (t : List Node) (o : Opn) : List Node × Ans :=
 if (zQ t o.a).2.2 ≠ 0 then (t, wF (zQ t o.a).2.2)
 else if 0 ≤ qV (getN t (zQ t o.a).1).names (zQ t o.a).2.1 then (t, wF 5)
 else (putN (qY t (qM t o)) (zQ t o.a).1 (zQ t o.a).2.1 (jE t), { okN with ino := jE t })
def more (n : Node) : Node := ⟨n.ino, n.kind, n.links + 1, n.parent, n.size, n.data, n.names⟩
def z3v (t : List Node) (o : Opn) : List Node × Ans :=
 if (zN t o.a).2 ≠ 0 then (t, wF (zN t o.a).2)
 else if (getN t (zN t o.a).1).kind = 2 then (t, wF 7)
 else if (zQ t o.b).2.2 ≠ 0 then (t, wF (zQ t o.b).2.2)
 else if 0 ≤ qV (getN t (zQ t o.b).1).names (zQ t o.b).2.1 then (t, wF 5)
 else (putN (qY t (more (getN t (zN t o.a).1))) (zQ t o.b).1 (zQ t o.b).2.1 (zN t o.a).1, okN)
end Go.Proofs.Ytghllhghboaagaa
end
section
namespace Go.Vm
theorem vgd :
 (∀ {a x : V} {r : List V}, (a :: r).getD 0 x = a) ∧
 (∀ {a b x : V} {r : List V}, (a :: b :: r).getD 1 x = b) ∧
 (∀ {a b c x : V} {r : List V}, (a :: b :: c :: r).getD 2 x = c) ∧
 (∀ {a b c d x : V} {r : List V}, (a :: b :: c :: d :: r).getD 3 x = d) ∧
 (∀ {a b c d e x : V} {r : List V}, (a :: b :: c :: d :: e :: r).getD 4 x = e) ∧
 (∀ {a b c d e f x : V} {r : List V}, (a :: b :: c :: d :: e :: f :: r).getD 5 x = f) ∧
 (∀ {a b c d e f g x : V} {r : List V}, (a :: b :: c :: d :: e :: f :: g :: r).getD 6 x = g) ∧
 (∀ {a b c d e f g h x : V} {r : List V}, (a :: b :: c :: d :: e :: f :: g :: h :: r).getD 7 x = h) ∧
 (∀ {a b c d e f g h x : V} {r : List V} {n : Nat}, (a :: b :: c :: d :: e :: f :: g :: h :: r).getD (n + 8) x = r.getD n x) ∧
 (∀ {a b c d e f g h a1 b1 c1 d1 e1 f1 g1 h1 x : V} {r : List V} {n : Nat}, (a :: b :: c :: d :: e :: f :: g :: h :: a1 :: b1 :: c1 :: d1 :: e1 :: f1 :: g1 :: h1 :: r).getD (n + 16) x = r.getD n x) ∧
 (∀ {a b c d e f g h a1 b1 c1 d1 e1 f1 g1 h1 a2 b2 c2 d2 e2 f2 g2 h2 a3 b3 c3 d3 e3 f3 g3 h3 x : V} {r : List V} {n : Nat}, (a :: b :: c :: d :: e :: f :: g :: h :: a1 :: b1 :: c1 :: d1 :: e1 :: f1 :: g1 :: h1 :: a2 :: b2 :: c2 :: d2 :: e2 :: f2 :: g2 :: h2 :: a3 :: b3 :: c3 :: d3 :: e3 :: f3 :: g3 :: h3 :: r).getD (n + 32) x = r.getD n x) ∧
 (∀ {a b c d e f g h a1 b1 c1 d1 e1 f1 g1 h1 a2 b2 c2 d2 e2 f2 g2 h2 a3 b3 c3 d3 e3 f3 g3 h3 a4 b4 c4 d4 e4 f4 g4 h4 a5 b5 c5 d5 e5 f5 g5 h5 a6 b6 c6 d6 e6 f6 g6 h6 a7 b7 c7 d7 e7 f7 g7 h7 x : V} {r : List V} {n : Nat}, (a :: b :: c :: d :: e :: f :: g :: h :: a1 :: b1 :: c1 :: d1 :: e1 :: f1 :: g1 :: h1 :: a2 :: b2 :: c2 :: d2 :: e2 :: f2 :: g2 :: h2 :: a3 :: b3 :: c3 :: d3 :: e3 :: f3 :: g3 :: h3 :: a4 :: b4 :: c4 :: d4 :: e4 :: f4 :: g4 :: h4 :: a5 :: b5 :: c5 :: d5 :: e5 :: f5 :: g5 :: h5 :: a6 :: b6 :: c6 :: d6 :: e6 :: f6 :: g6 :: h6 :: a7 :: b7 :: c7 :: d7 :: e7 :: f7 :: g7 :: h7 :: r).getD (n + 64) x = r.getD n x) :=
 ⟨rfl, rfl, rfl, rfl, rfl, rfl, rfl, rfl, rfl, rfl, rfl, rfl⟩
theorem vst :
 (∀ {a x : V} {r : List V}, (a :: r).set 0 x = x :: r) ∧
 (∀ {a b x : V} {r : List V}, (a :: b :: r).set 1 x = a :: x :: r) ∧
 (∀ {a b c x : V} {r : List V}, (a :: b :: c :: r).set 2 x = a :: b :: x :: r) ∧
 (∀ {a b c d x : V} {r : List V}, (a :: b :: c :: d :: r).set 3 x = a :: b :: c :: x :: r) ∧
 (∀ {a b c d e x : V} {r : List V}, (a :: b :: c :: d :: e :: r).set 4 x = a :: b :: c :: d :: x :: r) ∧
 (∀ {a b c d e f x : V} {r : List V}, (a :: b :: c :: d :: e :: f :: r).set 5 x = a :: b :: c :: d :: e :: x :: r) ∧
 (∀ {a b c d e f g x : V} {r : List V}, (a :: b :: c :: d :: e :: f :: g :: r).set 6 x = a :: b :: c :: d :: e :: f :: x :: r) ∧
 (∀ {a b c d e f g h x : V} {r : List V}, (a :: b :: c :: d :: e :: f :: g :: h :: r).set 7 x = a :: b :: c :: d :: e :: f :: g :: x :: r) ∧
 (∀ {a b c d e f g h x : V} {r : List V} {n : Nat}, (a :: b :: c :: d :: e :: f :: g :: h :: r).set (n + 8) x = a :: b :: c :: d :: e :: f :: g :: h :: r.set n x) ∧
 (∀ {a b c d e f g h a1 b1 c1 d1 e1 f1 g1 h1 x : V} {r : List V} {n : Nat}, (a :: b :: c :: d :: e :: f :: g :: h :: a1 :: b1 :: c1 :: d1 :: e1 :: f1 :: g1 :: h1 :: r).set (n + 16) x = a :: b :: c :: d :: e :: f :: g :: h :: a1 :: b1 :: c1 :: d1 :: e1 :: f1 :: g1 :: h1 :: r.set n x) ∧
 (∀ {a b c d e f g h a1 b1 c1 d1 e1 f1 g1 h1 a2 b2 c2 d2 e2 f2 g2 h2 a3 b3 c3 d3 e3 f3 g3 h3 x : V} {r : List V} {n : Nat}, (a :: b :: c :: d :: e :: f :: g :: h :: a1 :: b1 :: c1 :: d1 :: e1 :: f1 :: g1 :: h1 :: a2 :: b2 :: c2 :: d2 :: e2 :: f2 :: g2 :: h2 :: a3 :: b3 :: c3 :: d3 :: e3 :: f3 :: g3 :: h3 :: r).set (n + 32) x = a :: b :: c :: d :: e :: f :: g :: h :: a1 :: b1 :: c1 :: d1 :: e1 :: f1 :: g1 :: h1 :: a2 :: b2 :: c2 :: d2 :: e2 :: f2 :: g2 :: h2 :: a3 :: b3 :: c3 :: d3 :: e3 :: f3 :: g3 :: h3 :: r.set n x) ∧
 (∀ {a b c d e f g h a1 b1 c1 d1 e1 f1 g1 h1 a2 b2 c2 d2 e2 f2 g2 h2 a3 b3 c3 d3 e3 f3 g3 h3 a4 b4 c4 d4 e4 f4 g4 h4 a5 b5 c5 d5 e5 f5 g5 h5 a6 b6 c6 d6 e6 f6 g6 h6 a7 b7 c7 d7 e7 f7 g7 h7 x : V} {r : List V} {n : Nat}, (a :: b :: c :: d :: e :: f :: g :: h :: a1 :: b1 :: c1 :: d1 :: e1 :: f1 :: g1 :: h1 :: a2 :: b2 :: c2 :: d2 :: e2 :: f2 :: g2 :: h2 :: a3 :: b3 :: c3 :: d3 :: e3 :: f3 :: g3 :: h3 :: a4 :: b4 :: c4 :: d4 :: e4 :: f4 :: g4 :: h4 :: a5 :: b5 :: c5 :: d5 :: e5 :: f5 :: g5 :: h5 :: a6 :: b6 :: c6 :: d6 :: e6 :: f6 :: g6 :: h6 :: a7 :: b7 :: c7 :: d7 :: e7 :: f7 :: g7 :: h7 :: r).set (n + 64) x = a :: b :: c :: d :: e :: f :: g :: h :: a1 :: b1 :: c1 :: d1 :: e1 :: f1 :: g1 :: h1 :: a2 :: b2 :: c2 :: d2 :: e2 :: f2 :: g2 :: h2 :: a3 :: b3 :: c3 :: d3 :: e3 :: f3 :: g3 :: h3 :: a4 :: b4 :: c4 :: d4 :: e4 :: f4 :: g4 :: h4 :: a5 :: b5 :: c5 :: d5 :: e5 :: f5 :: g5 :: h5 :: a6 :: b6 :: c6 :: d6 :: e6 :: f6 :: g6 :: h6 :: a7 :: b7 :: c7 :: d7 :: e7 :: f7 :: g7 :: h7 :: r.set n x) :=
 ⟨rfl, rfl, rfl, rfl, rfl, rfl, rfl, rfl, rfl, rfl, rfl, rfl⟩
theorem vix :
 (∀ {a : V} {r : List V}, (a :: r)[0]? = some a) ∧
 (∀ {a b : V} {r : List V}, (a :: b :: r)[1]? = some b) ∧
 (∀ {a b c : V} {r : List V}, (a :: b :: c :: r)[2]? = some c) ∧
 (∀ {a b c d : V} {r : List V}, (a :: b :: c :: d :: r)[3]? = some d) ∧
 (∀ {a b c d e : V} {r : List V}, (a :: b :: c :: d :: e :: r)[4]? = some e) ∧
 (∀ {a b c d e f : V} {r : List V}, (a :: b :: c :: d :: e :: f :: r)[5]? = some f) ∧
 (∀ {a b c d e f g : V} {r : List V}, (a :: b :: c :: d :: e :: f :: g :: r)[6]? = some g) ∧
 (∀ {a b c d e f g h : V} {r : List V}, (a :: b :: c :: d :: e :: f :: g :: h :: r)[7]? = some h) ∧
 (∀ {a b c d e f g h : V} {r : List V} {n : Nat}, (a :: b :: c :: d :: e :: f :: g :: h :: r)[n + 8]? = r[n]?) ∧
 (∀ {a b c d e f g h a1 b1 c1 d1 e1 f1 g1 h1 : V} {r : List V} {n : Nat}, (a :: b :: c :: d :: e :: f :: g :: h :: a1 :: b1 :: c1 :: d1 :: e1 :: f1 :: g1 :: h1 :: r)[n + 16]? = r[n]?) ∧
 (∀ {a b c d e f g h a1 b1 c1 d1 e1 f1 g1 h1 a2 b2 c2 d2 e2 f2 g2 h2 a3 b3 c3 d3 e3 f3 g3 h3 : V} {r : List V} {n : Nat}, (a :: b :: c :: d :: e :: f :: g :: h :: a1 :: b1 :: c1 :: d1 :: e1 :: f1 :: g1 :: h1 :: a2 :: b2 :: c2 :: d2 :: e2 :: f2 :: g2 :: h2 :: a3 :: b3 :: c3 :: d3 :: e3 :: f3 :: g3 :: h3 :: r)[n + 32]? = r[n]?) ∧
 (∀ {a b c d e f g h a1 b1 c1 d1 e1 f1 g1 h1 a2 b2 c2 d2 e2 f2 g2 h2 a3 b3 c3 d3 e3 f3 g3 h3 a4 b4 c4 d4 e4 f4 g4 h4 a5 b5 c5 d5 e5 f5 g5 h5 a6 b6 c6 d6 e6 f6 g6 h6 a7 b7 c7 d7 e7 f7 g7 h7 : V} {r : List V} {n : Nat}, (a :: b :: c :: d :: e :: f :: g :: h :: a1 :: b1 :: c1 :: d1 :: e1 :: f1 :: g1 :: h1 :: a2 :: b2 :: c2 :: d2 :: e2 :: f2 :: g2 :: h2 :: a3 :: b3 :: c3 :: d3 :: e3 :: f3 :: g3 :: h3 :: a4 :: b4 :: c4 :: d4 :: e4 :: f4 :: g4 :: h4 :: a5 :: b5 :: c5 :: d5 :: e5 :: f5 :: g5 :: h5 :: a6 :: b6 :: c6 :: d6 :: e6 :: f6 :: g6 :: h6 :: a7 :: b7 :: c7 :: d7 :: e7 :: f7 :: g7 :: h7 :: r)[n + 64]? = r[n]?) :=
 ⟨rfl, rfl, rfl, rfl, rfl, rfl, rfl, rfl, rfl, rfl, rfl, rfl⟩
end Go.Vm
end
section
namespace Go.Proofs.Ytghllhghboaagaa
open Go.Vm
def gc := And.intro gb @strOf_mk
def gq := And.intro @vgd <| And.intro @vst @vix
def gp := And.intro @vmp gq
def gd := And.intro @vmd <| And.intro @vmk <| And.intro @vmo vmg
def vF (t : List Node) (o : Opn) : List Node × Ans :=
 if (zQ t o.a).2.2 ≠ 0 then (t, wF (zQ t o.a).2.2)
 else if qV (getN t (zQ t o.a).1).names (zQ t o.a).2.1 < 0 then (t, wF 4)
 else if o.does = 4 ∧ (getN t (qV (getN t (zQ t o.a).1).names (zQ t o.a).2.1)).kind = 2 then (t, wF 7)
 else if o.does = 5 ∧ (getN t (qV (getN t (zQ t o.a).1).names (zQ t o.a).2.1)).kind ≠ 2 then (t, wF 6)
 else if o.does = 5 ∧ 0 < (getN t (qV (getN t (zQ t o.a).1).names (zQ t o.a).2.1)).names.length then (t, wF 8)
 else (kO (zU t (zQ t o.a).1 (zQ t o.a).2.1) (qV (getN t (zQ t o.a).1).names (zQ t o.a).2.1), okN)
def moved (n : Node) (p : Int) : Node := ⟨n.ino, n.kind, n.links, p, n.size, n.data, n.names⟩
def renamed (t : List Node) (f : Int) (old : List UInt8) (d : Int) (s : List UInt8) (ino was kind : Int) : List Node :=
 let t1 := if 0 ≤ was then kO (zU t d s) was else t
 let t2 := putN (zU t1 f old) d s ino
 if kind = 2 then qY t2 (moved (getN t2 ino) d) else t2
def z3e (t : List Node) (f : Int) (old : List UInt8) (ino : Int) (d : Int) (s : List UInt8) (was : Int) : List Node × Ans :=
 if was = ino then (t, okN)
 else if (getN t ino).kind = 2 ∧ z0c t ino (t.length + 1) d = true then (t, wF 9)
 else if 0 ≤ was ∧ (getN t ino).kind = 2 then (t, wF 5)
 else if 0 ≤ was ∧ (getN t was).kind = 2 then (t, wF 7)
 else (renamed t f old d s ino was (getN t ino).kind, okN)
def wY (t : List Node) (o : Opn) : List Node × Ans :=
 if (zQ t o.a).2.2 ≠ 0 then (t, wF (zQ t o.a).2.2)
 else if qV (getN t (zQ t o.a).1).names (zQ t o.a).2.1 < 0 then (t, wF 4)
 else if (zQ t o.b).2.2 ≠ 0 then (t, wF (zQ t o.b).2.2)
 else z3e t (zQ t o.a).1 (zQ t o.a).2.1 (qV (getN t (zQ t o.a).1).names (zQ t o.a).2.1) (zQ t o.b).1 (zQ t o.b).2.1 (qV (getN t (zQ t o.b).1).names (zQ t o.b).2.1)
end Go.Proofs.Ytghllhghboaagaa
end
section
namespace Go.Vm
open Go
section
variable {C : Cfg} {S : zA} {T : List V} {dst : Option Tmp} {ops : Array Oper} {F : Dfs} {Q : Post} {K : List Nat → List (Nat × Nat) → List V → zA → Prop} {rd : List Nat} {cs : List (Nat × Nat)} {i : Nat}
theorem zci {base : Nat} {K : List (Nat × Nat) → List V → zA → Prop} {ob : Ob} {f : Nat → V} : WpA base K cs i dst T S (some (ob, f)) = (S[base + i]? = some .hole ∧ K (cs ++ [(i, 2)]) (putT T dst (f (base + i))) (S.set (base + i) ob)) := rfl
end
section
variable {C : Cfg} {ops : Array Oper} {dst : Option Tmp} {ty : TypeId} {pos : String} {after : Array Edge} {l : List Oper} {T : List V} {S : zA} {F : Dfs} {Q : Post} {t : TypeId} {n : Nat} {ps : Array (Nat × Operand)} {d2 : Option Tmp} {ty2 : TypeId} {pos2 : String} {after2 : Array Edge} {g2 : Option (Nat × Bool)}
theorem zdm {x : Operand} : WpL C ops (⟨dst, .buildSlice t n ps, ty, pos, after, none⟩ :: ⟨d2, .assign x, ty2, pos2, after2, g2⟩ :: l) T S F Q = WpR C ops dst (⟨d2, .assign x, ty2, pos2, after2, g2⟩ :: l) T S F Q (opV C.P S T ⟨dst, .buildSlice t n ps, ty, pos, after, none⟩) := z9a rfl
theorem zkv {x : Operand} : WpL C ops (⟨dst, .buildSlice t n ps, ty, pos, after, none⟩ :: ⟨d2, .move x, ty2, pos2, after2, g2⟩ :: l) T S F Q = WpR C ops dst (⟨d2, .move x, ty2, pos2, after2, g2⟩ :: l) T S F Q (opV C.P S T ⟨dst, .buildSlice t n ps, ty, pos, after, none⟩) := z9a rfl
theorem z90 {s : TypeId} {x : Operand} {f : Nat} : WpL C ops (⟨dst, .buildSlice t n ps, ty, pos, after, none⟩ :: ⟨d2, .fieldAddr s x f, ty2, pos2, after2, g2⟩ :: l) T S F Q = WpR C ops dst (⟨d2, .fieldAddr s x f, ty2, pos2, after2, g2⟩ :: l) T S F Q (opV C.P S T ⟨dst, .buildSlice t n ps, ty, pos, after, none⟩) := z9a rfl
theorem zhj {s : TypeId} {qs : Array (Nat × Operand)} : WpL C ops (⟨dst, .buildSlice t n ps, ty, pos, after, none⟩ :: ⟨d2, .build s qs, ty2, pos2, after2, g2⟩ :: l) T S F Q = WpR C ops dst (⟨d2, .build s qs, ty2, pos2, after2, g2⟩ :: l) T S F Q (opV C.P S T ⟨dst, .buildSlice t n ps, ty, pos, after, none⟩) := z9a rfl
theorem zp5 {s : TypeId} {m : Nat} {qs : Array (Nat × Operand)} : WpL C ops (⟨dst, .buildSlice t n ps, ty, pos, after, none⟩ :: ⟨d2, .buildSlice s m qs, ty2, pos2, after2, g2⟩ :: l) T S F Q = WpR C ops dst (⟨d2, .buildSlice s m qs, ty2, pos2, after2, g2⟩ :: l) T S F Q (opV C.P S T ⟨dst, .buildSlice t n ps, ty, pos, after, none⟩) := z9a rfl
theorem vbs :
 (∀ {C : Cfg} {ops : Array Oper} {dst : Option Tmp} {ty : TypeId} {pos : String} {after : Array Edge} {l : List Oper} {T : List V} {S : zA} {F : Dfs} {Q : Post} {t : TypeId} {n : Nat} {ps : Array (Nat × Operand)} {d2 : Option Tmp} {ty2 : TypeId} {pos2 : String} {after2 : Array Edge} {g2 : Option (Nat × Bool)} {x : Operand}, WpL C ops (⟨dst, .buildSlice t n ps, ty, pos, after, none⟩ :: ⟨d2, .assign x, ty2, pos2, after2, g2⟩ :: l) T S F Q = WpR C ops dst (⟨d2, .assign x, ty2, pos2, after2, g2⟩ :: l) T S F Q (opV C.P S T ⟨dst, .buildSlice t n ps, ty, pos, after, none⟩)) ∧
 (∀ {C : Cfg} {ops : Array Oper} {dst : Option Tmp} {ty : TypeId} {pos : String} {after : Array Edge} {l : List Oper} {T : List V} {S : zA} {F : Dfs} {Q : Post} {t : TypeId} {n : Nat} {ps : Array (Nat × Operand)} {d2 : Option Tmp} {ty2 : TypeId} {pos2 : String} {after2 : Array Edge} {g2 : Option (Nat × Bool)} {x : Operand}, WpL C ops (⟨dst, .buildSlice t n ps, ty, pos, after, none⟩ :: ⟨d2, .move x, ty2, pos2, after2, g2⟩ :: l) T S F Q = WpR C ops dst (⟨d2, .move x, ty2, pos2, after2, g2⟩ :: l) T S F Q (opV C.P S T ⟨dst, .buildSlice t n ps, ty, pos, after, none⟩)) ∧
 (∀ {C : Cfg} {ops : Array Oper} {dst : Option Tmp} {ty : TypeId} {pos : String} {after : Array Edge} {l : List Oper} {T : List V} {S : zA} {F : Dfs} {Q : Post} {t : TypeId} {n : Nat} {ps : Array (Nat × Operand)} {d2 : Option Tmp} {ty2 : TypeId} {pos2 : String} {after2 : Array Edge} {g2 : Option (Nat × Bool)} {s : TypeId} {x : Operand} {f : Nat}, WpL C ops (⟨dst, .buildSlice t n ps, ty, pos, after, none⟩ :: ⟨d2, .fieldAddr s x f, ty2, pos2, after2, g2⟩ :: l) T S F Q = WpR C ops dst (⟨d2, .fieldAddr s x f, ty2, pos2, after2, g2⟩ :: l) T S F Q (opV C.P S T ⟨dst, .buildSlice t n ps, ty, pos, after, none⟩)) ∧
 (∀ {C : Cfg} {ops : Array Oper} {dst : Option Tmp} {ty : TypeId} {pos : String} {after : Array Edge} {l : List Oper} {T : List V} {S : zA} {F : Dfs} {Q : Post} {t : TypeId} {n : Nat} {ps : Array (Nat × Operand)} {d2 : Option Tmp} {ty2 : TypeId} {pos2 : String} {after2 : Array Edge} {g2 : Option (Nat × Bool)} {s : TypeId} {qs : Array (Nat × Operand)}, WpL C ops (⟨dst, .buildSlice t n ps, ty, pos, after, none⟩ :: ⟨d2, .build s qs, ty2, pos2, after2, g2⟩ :: l) T S F Q = WpR C ops dst (⟨d2, .build s qs, ty2, pos2, after2, g2⟩ :: l) T S F Q (opV C.P S T ⟨dst, .buildSlice t n ps, ty, pos, after, none⟩)) ∧
 (∀ {C : Cfg} {ops : Array Oper} {dst : Option Tmp} {ty : TypeId} {pos : String} {after : Array Edge} {l : List Oper} {T : List V} {S : zA} {F : Dfs} {Q : Post} {t : TypeId} {n : Nat} {ps : Array (Nat × Operand)} {d2 : Option Tmp} {ty2 : TypeId} {pos2 : String} {after2 : Array Edge} {g2 : Option (Nat × Bool)} {s : TypeId} {m : Nat} {qs : Array (Nat × Operand)}, WpL C ops (⟨dst, .buildSlice t n ps, ty, pos, after, none⟩ :: ⟨d2, .buildSlice s m qs, ty2, pos2, after2, g2⟩ :: l) T S F Q = WpR C ops dst (⟨d2, .buildSlice s m qs, ty2, pos2, after2, g2⟩ :: l) T S F Q (opV C.P S T ⟨dst, .buildSlice t n ps, ty, pos, after, none⟩)) :=
 ⟨zdm, zkv, z90, zhj, zp5⟩
end
theorem zbu {P : Program} {S : zA} {t e : TypeId} {xs : List D} (hu : P.underlying t = some (.slice e)) (hz : zOk P e = true) (hs : (sz P e).isSome = true) (hf : ∀ x ∈ xs, vN P e x = true) (hr : room P e xs.length = true) :
  ∃ v' S' c, zW P S t t (.ts []) (.d (.sl xs)) = some (v', S', c) ∧ OwnS S' v' e (xs.map .d) ∧ (∀ j o, S[j]? = some o → S'[j]? = some o ∧ NotAt v' j) ∧ S.length ≤ S'.length := by
 have hft : (xs.map V.d).all (qD P e) = true := by
  rw [List.all_map, List.all_eq_true]
  intro x hx
  have h := hf x hx
  unfold vN at h
  show qD P e (.d x) = true
  unfold qD
  simp only [Bool.and_eq_true] at h ⊢
  refine ⟨⟨rfl, h.1⟩, ?_⟩
  simpa [V.cells] using h.2
 have hsrc : srcV P S e t (.d (.sl xs)) = some (xs.map .d) := by
  simp only [srcV, hu, kU, hft, hs, Bool.and_self, if_true]
 cases xs with
 | nil => exact ⟨.ts [], S, 1, by simp only [zW, hu, hsrc, List.map_nil], .inl ⟨rfl, rfl⟩, fun j o hj => ⟨hj, fun off l h => by cases h⟩, Nat.le_refl _⟩
 | cons y r =>
  refine ⟨.rs S.length 0 (r.length + 1), S ++ [.row ((y :: r).map .d) e], 2, ?_, .inr ⟨S.length, by simp, by simp⟩, fun j o hj => ⟨?_, ?_⟩, by simp⟩
  ·have hr1 : room P e (0 + (r.length + 1)) = true := by simpa using hr
   simp only [zW, hu, hsrc, hz, if_true, List.map_cons, List.all_nil, Bool.true_and, List.length_nil, List.length_map, List.map_nil, List.nil_append]
   rw [if_pos hr1, Nat.zero_add]
  ·rw [List.getElem?_append_left (zZ hj)]; exact hj
  ·intro off l h
   have := zZ hj
   cases h; omega
theorem zL {S : zA} {x : V} {e : TypeId} : rowE (S ++ [.row [x] e]) S.length 0 = some x := zC (e := e) (by simp)
theorem zI {S : zA} {x y : V} {e : TypeId} : z11 (S ++ [.row [x] e]) S.length 0 y = some (S ++ [.row [y] e]) := by
 rw [qG (x := x) (e := e) (by simp)]
 simp
end Go.Vm
end
section
namespace Go.Proofs.Ytghllhghboaagaa
open Go.Vm
theorem ldB {S : zA} {l : List UInt8} : jP Try.prog S 29 (.d (.ptr (encB l))) = some (.d (encB l)) := by kernel_rfl
theorem lenB {S : zA} {l : List UInt8} : zY Try.prog S .len [29] [.d (encB l)] = some (.val (.d (.int .i64 l.length)) S 0) := by
 unfold encB; rw [q13, List.length_map]
def layA (at_ : Int) (data : List UInt8) : Nat → List UInt8 → List UInt8
 | _, [] => []
 | i, x :: r => (if 0 ≤ at_ ∧ at_ ≤ i ∧ (i : Int) - at_ < data.length then data.getD ((i : Int) - at_).toNat 0 else x) :: layA at_ data (i + 1) r
def layN (b : List UInt8) (at_ : Int) (data : List UInt8) : List UInt8 := layA at_ data 0 b
theorem zic {a : Int} {d : List UInt8} : ∀ {i : Nat} {l : List UInt8}, (layA a d i l).length = l.length
 | _, [] => rfl
 | i, x :: r => by simp [layA, zic]
theorem z60 {b d : List UInt8} {a : Int} : (layN b a d).length = b.length := zic
def zgm (b : List UInt8) (off n : Int) : List UInt8 := if off < 0 ∨ n < 1 ∨ b.length ≤ off then [] else (b.take (if (b.length : Int) - off < n then (b.length : Int) else off + n).toNat).drop off.toNat
def cutN (n : Node) (m : Int) : Node := ⟨n.ino, n.kind, n.links, n.parent, m, layN (List.replicate m.toNat 0) 0 n.data, n.names⟩
def zad (n : Node) (o : Opn) : Int := if n.size > o.off + o.data.length then n.size else o.off + o.data.length
def z6m (n : Node) (o : Opn) : Node := ⟨n.ino, n.kind, n.links, n.parent, zad n o, layN (layN (List.replicate (zad n o).toNat 0) 0 n.data) o.off o.data, n.names⟩
def q24 (l : List UInt8) : Ans := ⟨0, 0, 0, 0, 0, l, []⟩
def z4v (t : List Node) (n : Node) (o : Opn) : List Node × Ans :=
 if n.kind = 2 then (t, wF 7)
 else if o.does = 7 then
  if o.off < 0 then (t, wF 1)
  else if o.off > 34304 - o.data.length then (t, wF 11)
  else if o.data.length = 0 then (t, okN)
  else (qY t (z6m n o), okN)
 else if o.does = 8 then
  if o.off < 0 then (t, wF 1)
  else if o.n < 0 then (t, wF 1)
  else (t, q24 (zgm n.data o.off o.n))
 else if o.n < 0 then (t, wF 1)
 else if o.n > 34304 then (t, wF 11)
 else (qY t (cutN n o.n), okN)
def vG (t : List Node) (o : Opn) : List Node × Ans :=
 if (zN t o.a).2 ≠ 0 then (t, wF (zN t o.a).2) else z4v t (getN t (zN t o.a).1) o
theorem z5 : zeroV Try.prog 5 = some (.d (.int .u8 0)) := by kernel_rfl
def mayN (o : Opn) : Bool := decide (o.does ≥ 1 ∧ o.does ≤ 13 ∧ o.data.length ≤ 1024)
def newN : List Node := [⟨1, 2, 1, 1, 0, [], []⟩]
def zr6 (l : List (List UInt8)) : Ans := ⟨0, 0, 0, 0, 0, [], l⟩
def zmp (n : Node) (ino : Int) (o : Opn) : Ans :=
 if o.does = 11 then ⟨0, ino, n.kind, n.links, n.size, [], []⟩
 else if o.does = 12 then okN
 else if n.kind ≠ 2 then wF 6
 else zr6 (n.names.map (·.name))
def z31 (t : List Node) (o : Opn) : Ans := if (zN t o.a).2 ≠ 0 then wF (zN t o.a).2 else zmp (getN t (zN t o.a).1) (zN t o.a).1 o
def jL (t : List Node) (o : Opn) : List Node × Ans :=
 if mayN o = false then (t, wF 1)
 else if o.does < 3 then z3j t o
 else if o.does = 3 then z3v t o
 else if o.does < 6 then vF t o
 else if o.does = 6 then wY t o
 else if o.does < 10 then vG t o
 else if o.does < 13 then (t, z31 t o)
 else (t, okN)
theorem Small.make {k : Nat} {t : List Node} {o : Opn} (h : Small k t) : Small (k + 5) (z3j t o).1 := by
 unfold z3j
 split
 ·exact h.mono (by omega)
 ·split
  ·exact h.mono (by omega)
  ·have hmk : SmallN (k + 1) (qM t o) := by unfold qM; split <;> exact ⟨Nat.zero_le _, fun e he => by simp at he, ⟨by simp; omega, by simp; omega⟩, by simp⟩
   exact ((h.with hmk).put (by have := z71 t o.a; omega)).mono (by omega)
theorem SmallN.more {k : Nat} {n : Node} (h : SmallN k n) : SmallN (k + 1) (more n) :=
 ⟨Nat.le_succ_of_le h.nms, h.nam, ⟨by have := h.lnk.1; show -((k + 1 : Nat) : Int) ≤ n.links + 1; omega, by have := h.lnk.2; show n.links + 1 ≤ ((k + 1 : Nat) : Int); omega⟩, h.siz⟩
theorem Small.link {k : Nat} {t : List Node} {o : Opn} (h : Small k t) : Small (k + 5) (z3v t o).1 := by
 unfold z3v
 split
 ·exact h.mono (by omega)
 ·split
  ·exact h.mono (by omega)
  ·split
   ·exact h.mono (by omega)
   ·split
    ·exact h.mono (by omega)
    ·exact ((h.with (h.get _).more).put (by have := z71 t o.b; omega)).mono (by omega)
theorem Small.remove {k : Nat} {t : List Node} {o : Opn} (h : Small k t) : Small (k + 5) (vF t o).1 := by
 unfold vF
 repeat' split
 all_goals first | exact h.mono (by omega) | exact (h.drop.loses).mono (by omega)
theorem SmallN.moved {k : Nat} {n : Node} {p : Int} (h : SmallN k n) : SmallN k (moved n p) := ⟨h.nms, h.nam, h.lnk, h.siz⟩
theorem Small.rename {k : Nat} {t : List Node} {o : Opn} (h : Small k t) : Small (k + 5) (wY t o).1 := by
 unfold wY
 split
 ·exact h.mono (by omega)
 ·split
  ·exact h.mono (by omega)
  ·split
   ·exact h.mono (by omega)
   ·unfold z3e
    split
    ·exact h.mono (by omega)
    ·split
     ·exact h.mono (by omega)
     ·split
      ·exact h.mono (by omega)
      ·split
       ·exact h.mono (by omega)
       ·unfold renamed
        have hln := z71 t o.b
        generalize zQ t o.a = w1 at *
        generalize zQ t o.b = w2 at *
        have h1 : Small (k + 2) (if 0 ≤ qV (getN t w2.1).names w2.2.1 then kO (zU t w2.1 w2.2.1) (qV (getN t w2.1).names w2.2.1) else t) := by
         split
         ·exact h.drop.loses
         ·exact h.mono (by omega)
        have h2 := (h1.drop (dir := w1.1) (s := w1.2.1)).put (dir := w2.1) (s := w2.2.1) (ino := qV (getN t w1.1).names w1.2.1) (by omega)
        simp only
        split
        ·exact h2.with ((h2.get _).moved.mono (by omega))
        ·exact h2.mono (by omega)
theorem Small.bytes {k : Nat} {t : List Node} {o : Opn} (h : Small k t) (hd : o.data.length ≤ 1024) : Small (k + 5) (vG t o).1 := by
 unfold vG
 split
 ·exact h.mono (by omega)
 ·have hg := (h.get (zN t o.a).1).mono (Nat.le_succ k)
  generalize getN t (zN t o.a).1 = n at hg ⊢
  unfold z4v
  split
  ·exact h.mono (by omega)
  ·split
   ·split
    ·exact h.mono (by omega)
    ·split
     ·exact h.mono (by omega)
     ·split
      ·exact h.mono (by omega)
      ·rename_i c1 c2 c3
       have hs := hg.siz
       have hw : 0 ≤ zad n o ∧ zad n o ≤ 34304 := by unfold zad; split <;> omega
       refine (h.with (n := z6m n o) ⟨hg.nms, hg.nam, hg.lnk, hw.1, hw.2, ?_⟩).mono (by omega)
       show ((layN (layN (List.replicate (zad n o).toNat 0) 0 n.data) o.off o.data).length : Int) = zad n o
       rw [z60, z60, List.length_replicate]
       omega
   ·split
    ·split
     ·exact h.mono (by omega)
     ·split <;> exact h.mono (by omega)
    ·split
     ·exact h.mono (by omega)
     ·split
      ·exact h.mono (by omega)
      ·rename_i c1 c2
       refine (h.with (n := cutN n o.n) ⟨hg.nms, hg.nam, hg.lnk, by show 0 ≤ o.n; omega, by show o.n ≤ 34304; omega, ?_⟩).mono (by omega)
       show ((layN (List.replicate o.n.toNat 0) 0 n.data).length : Int) = o.n
       rw [z60, List.length_replicate]
       omega
theorem Small.step {k : Nat} {t : List Node} {o : Opn} (h : Small k t) : Small (k + 5) (jL t o).1 := by
 unfold jL
 split
 ·exact h.mono (by omega)
 ·rename_i hm
  have hd : o.data.length ≤ 1024 := by
   cases hm' : mayN o with
   | false => exact absurd hm' hm
   | true => exact (of_decide_eq_true hm').2.2
  repeat' split
  ·exact h.make
  ·exact h.link
  ·exact h.remove
  ·exact h.rename
  ·exact h.bytes hd
  ·exact h.mono (by omega)
  ·exact h.mono (by omega)
theorem Small.new : Small 1 newN := ⟨by simp [newN], fun n hn => by simp [newN] at hn; subst hn; simp, fun n hn => by simp [newN] at hn; subst hn; simp, fun n hn => by simp [newN] at hn; subst hn; simp, fun n hn => by simp [newN] at hn; subst hn; simp⟩
structure Script (l : List Opn) : Prop where
 len : l.length ≤ 1000
 a : ∀ o ∈ l, o.a.length ≤ 300
 b : ∀ o ∈ l, o.b.length ≤ 300
 data : ∀ o ∈ l, o.data.length ≤ 1100
theorem z1u {S S' : zA} {v : V} {e : TypeId} {xs : List V} (h : OwnS S v e xs) (hk : ∀ (j : Nat) (o : Ob), S[j]? = some o → S'[j]? = some o) : OwnS S' v e xs := by
 rcases h with h | ⟨j, rfl, h1⟩
 ·exact .inl h
 ·exact .inr ⟨j, rfl, hk _ _ h1⟩
theorem zub {S : zA} {v : V} {e : TypeId} {xs : List V} {j : Nat} (h : OwnS S v e xs) (hn : ∀ o, S[j]? = some o → ∀ xs e, o ≠ .row xs e) : NotAt v j := by
 rcases h with ⟨rfl, _⟩ | ⟨i, rfl, h1⟩
 ·exact NotAt.ts
 ·intro off l hh
  cases hh
  exact hn _ h1 _ _ rfl
def badO (o : Opn) : Bool := decide ((o.a.length : Int) > 300 ∨ (o.b.length : Int) > 300 ∨ (o.data.length : Int) > 1100)
theorem zzz (l : List Opn) (hl : l.length < 1000000) (R : Post) (S : zA) (g1 g4 : V) : ∀ (k i : Nat) (g6 g7 g8 g9 gP gQ gM gF gD gG gH gC gA gB gK gE gL gI gJ gN gO gR gS gT gX gW gU gV gZ gY gi gf gg gh gj : V), l.length - i = k → i ≤ l.length →
 (∀ i' g6 g7 g8 g9 gP gQ gM gF gD gG gH gC gA gB gK gE gL gI gJ gN gO gR gS gT gX gW gU gV gZ gY gi gf gg gh gj, (l.drop i).any badO = false → R (.exit 0) ((.d (.sl (l.map encOpn))) :: g1 :: (.tup []) :: (.tup []) :: g4 :: i' :: g6 :: g7 :: g8 :: g9 :: gP :: gQ :: gM :: gF :: gD :: gG :: gH :: gC :: gA :: gB :: gK :: gE :: gL :: gI :: gJ :: gN :: gO :: gR :: gS :: gT :: gX :: gW :: gU :: gV :: gZ :: gY :: gi :: gf :: gg :: gh :: gj :: []) S []) →
 (∀ i' g6 g7 g8 g9 gP gQ gM gF gD gG gH gC gA gB gK gE gL gI gJ gN gO gR gS gT gX gW gU gV gZ gY gi gf gg gh gj, (l.drop i).any badO = true → R .ret ((.d (.sl (l.map encOpn))) :: g1 :: (.tup []) :: (.tup []) :: (.d (.bool true)) :: i' :: g6 :: g7 :: g8 :: g9 :: gP :: gQ :: gM :: gF :: gD :: gG :: gH :: gC :: gA :: gB :: gK :: gE :: gL :: gI :: gJ :: gN :: gO :: gR :: gS :: gT :: gX :: gW :: gU :: gV :: gZ :: gY :: gi :: gf :: gg :: gh :: gj :: []) S []) →
 Wp cfg (.loop (lpOf (Try.f10.body.getD .skip) 0)) ((.d (.sl (l.map encOpn))) :: g1 :: (.tup []) :: (.tup []) :: g4 :: (.d (.int .i64 i)) :: g6 :: g7 :: g8 :: g9 :: gP :: gQ :: gM :: gF :: gD :: gG :: gH :: gC :: gA :: gB :: gK :: gE :: gL :: gI :: gJ :: gN :: gO :: gR :: gS :: gT :: gX :: gW :: gU :: gV :: gZ :: gY :: gi :: gf :: gg :: gh :: gj :: []) S [] R := by
 intro k
 induction k with
 | zero =>
  intro i g6 g7 g8 g9 gP gQ gM gF gD gG gH gC gA gB gK gE gL gI gJ gN gO gR gS gT gX gW gU gV gZ gY gi gf gg gh gj hk hi hE hR
  have hie : i = l.length := by omega
  rw [qQ]
  refine qC ?_
  conv => arg 2; whnf
  simp (maxSteps:=1000000) (disch:=first|assumption|omega|rfl) only [↓gp, gc, Nat.reduceAdd]
  exact hE _ _ _ _ _ _ _ _ _ _ _ _ _ _ _ _ _ _ _ _ _ _ _ _ _ _ _ _ _ _ _ _ _ _ _ _ (by rw [hie, List.drop_length]; rfl)
 | succ k ih =>
  intro i g6 g7 g8 g9 gP gQ gM gF gD gG gH gC gA gB gK gE gL gI gJ gN gO gR gS gT gX gW gU gV gZ gY gi gf gg gh gj hk hi hE hR
  have hlt : i < l.length := by omega
  have hdr : l.drop i = l[i] :: l.drop (i + 1) := List.drop_eq_getElem_cons hlt
  rw [hdr, List.any_cons] at hE hR
  rw [qQ]
  refine qC ?_
  conv => arg 2; whnf
  by_cases c1 : (l[i].a.length : Int) > 300
  ·skip
   have hb : badO l[i] = true := decide_eq_true (.inl c1)
   simp (maxSteps:=1000000) (disch:=first|assumption|omega|rfl) only [↓gp, gc, Nat.reduceAdd, ldB, lenB]
   exact hR _ _ _ _ _ _ _ _ _ _ _ _ _ _ _ _ _ _ _ _ _ _ _ _ _ _ _ _ _ _ _ _ _ _ _ _ (by rw [hb]; rfl)
  ·by_cases c2 : (l[i].b.length : Int) > 300
   ·have hb : badO l[i] = true := decide_eq_true (.inr (.inl c2))
    simp (maxSteps:=1000000) (disch:=first|assumption|omega|rfl) only [↓gp, gc, Nat.reduceAdd, ldB, lenB]
    exact hR _ _ _ _ _ _ _ _ _ _ _ _ _ _ _ _ _ _ _ _ _ _ _ _ _ _ _ _ _ _ _ _ _ _ _ _ (by rw [hb]; rfl)
   ·by_cases c3 : (l[i].data.length : Int) > 1100
    ·have hb : badO l[i] = true := decide_eq_true (.inr (.inr c3))
     simp (maxSteps:=1000000) (disch:=first|assumption|omega|rfl) only [↓gp, gc, Nat.reduceAdd, ldB, lenB]
     exact hR _ _ _ _ _ _ _ _ _ _ _ _ _ _ _ _ _ _ _ _ _ _ _ _ _ _ _ _ _ _ _ _ _ _ _ _ (by rw [hb]; rfl)
    ·have hb : badO l[i] = false := decide_eq_false (by omega)
     rw [hb, Bool.false_or] at hE hR
     simp (maxSteps:=1000000) (disch:=first|assumption|omega|rfl) only [↓gp, gc, Nat.reduceAdd, ldB, lenB]
     exact ih (i + 1) _ _ _ _ _ _ _ _ _ _ _ _ _ _ _ _ _ _ _ _ _ _ _ _ _ _ _ _ _ _ _ _ _ _ _ (by omega) (by omega) hE hR
def zg1 (l : List Opn) (m : Int) : Bool := decide ((l.length : Int) > m) || l.any badO
theorem zv1 (l : List Opn) (m : Int) (hm : m ≤ 1000) : Ev cfg 10 [.sl (l.map encOpn), .int .i64 m] (.ret (.d (.bool (zg1 l m)))) := by
 refine z1r rfl rfl zy9 ?_
 show Wp cfg (Try.f10.body.getD .skip) ((.d (.sl (l.map encOpn))) :: (.d (.int .i64 m)) :: uZ (uZ (uZ ((.tup []) :: (.tup []) :: (.tup []) :: (.tup []) :: (.tup []) :: (.tup []) :: (.tup []) :: (.tup []) :: (.tup []) :: [])))) [] [] _
 unfold uZ
 conv => arg 2; whnf
 unfold zg1
 by_cases c : (l.length : Int) > m
 ·skip
  simp (maxSteps:=1000000) (disch:=first|assumption|omega|rfl) only [↓gp, gc, Nat.reduceAdd]
  exact qN rfl rfl rfl
 ·rw [decide_eq_false c, Bool.false_or]
  have hl : l.length < 1000000 := by omega
  simp (maxSteps:=1000000) (disch:=first|assumption|omega|rfl) only [↓gp, gc, Nat.reduceAdd]
  refine zzz l hl _ _ _ _ l.length 0 _ _ _ _ _ _ _ _ _ _ _ _ _ _ _ _ _ _ _ _ _ _ _ _ _ _ _ _ _ _ _ _ _ _ _ rfl (by omega) ?_ ?_
  ·intro i' g6 g7 g8 g9 gP gQ gM gF gD gG gH gC gA gB gK gE gL gI gJ gN gO gR gS gT gX gW gU gV gZ gY gi gf gg gh gj h
   rw [List.drop_zero] at h
   simp (maxSteps:=1000000) (disch:=first|assumption|omega|rfl) only [↓gp, gc, Nat.reduceAdd]
   rw [h]
   exact qN rfl rfl rfl
  ·intro i' g6 g7 g8 g9 gP gQ gM gF gD gG gH gC gA gB gK gE gL gI gJ gN gO gR gS gT gX gW gU gV gZ gY gi gf gg gh gj h
   rw [List.drop_zero] at h
   simp (maxSteps:=1000000) (disch:=first|assumption|omega|rfl) only [↓gp, gc, Nat.reduceAdd]
   rw [h]
   exact qN rfl rfl rfl
theorem zfw {S : zA} {T : List V} {dst : Option Tmp} {ty : TypeId} {pos : String} {after : Array Edge} {g : Option (Nat × Bool)} : opV Try.prog S T ⟨dst, .buildSlice 29 0 #[], ty, pos, after, g⟩ = some (.val (.ts []) S 0) := by kernel_rfl
theorem zr5 {S : zA} {T : List V} {dst : Option Tmp} {ty : TypeId} {pos : String} {after : Array Edge} {g : Option (Nat × Bool)} : opV Try.prog S T ⟨dst, .buildSlice 30 0 #[], ty, pos, after, g⟩ = some (.val (.ts []) S 0) := by kernel_rfl
theorem apB {S : zA} {l : List UInt8} (h : l.length ≤ 1000000) : ∃ v' S' c, zW Try.prog S 29 29 (.ts []) (.d (encB l)) = some (v', S', c) ∧ OwnS S' v' 5 (l.map fun b => .d (.int .u8 b.toNat)) ∧ (∀ j o, S[j]? = some o → S'[j]? = some o ∧ NotAt v' j) ∧ S.length ≤ S'.length := by
 obtain ⟨v', S', c, h1, h2, h3, h4⟩ := zbu (S := S) (xs := l.map fun b => D.int .u8 b.toNat) Try.underlying29 q1x q1r (by simp only [List.mem_map]; rintro x ⟨b, _, rfl⟩; exact q12 _) (by rw [List.length_map]; exact q0f h)
 exact ⟨v', S', c, h1, by simpa [List.map_map, Function.comp_def] using h2, h3, h4⟩
theorem apE {S : zA} {l : List Ent} (h : l.length ≤ 1000000) : ∃ v' S' c, zW Try.prog S 30 30 (.ts []) (.d (.sl (l.map zJ))) = some (v', S', c) ∧ OwnS S' v' 88 (l.map fun b => .d (zJ b)) ∧ (∀ j o, S[j]? = some o → S'[j]? = some o ∧ NotAt v' j) ∧ S.length ≤ S'.length := by
 obtain ⟨v', S', c, h1, h2, h3, h4⟩ := zbu (S := S) (xs := l.map zJ) Try.underlying30 q0t q2e (by simp only [List.mem_map]; rintro x ⟨b, _, rfl⟩; exact zm7 _) (by rw [List.length_map]; exact zw0 h)
 exact ⟨v', S', c, h1, by simpa [List.map_map, Function.comp_def] using h2, h3, h4⟩
def zD (n : Node) (v1 v2 : V) : V := .agg [.d (.int .i64 n.ino), .d (.int .i64 n.kind), .d (.int .i64 n.links), .d (.int .i64 n.parent), .d (.int .i64 n.size), v1, v2]
theorem zas {k : Nat} {S : zA} {n : Node} {v1 v2 : V} (h1 : OwnS S v1 5 (n.data.map fun b => .d (.int .u8 b.toNat))) (h2 : OwnS S v2 88 (n.names.map fun x => .d (zJ x))) :
  frz S (k + 3) (zD n v1 v2) = some (zB n) := by
 have e1 : frz S (k + 2) v1 = some (encB n.data) := zj6 (n := k) (zo0 (enc := fun b : UInt8 => D.int .u8 b.toNat) h1)
 have e2 : frz S (k + 2) v2 = some (.sl (n.names.map zJ)) := zj6 (n := k) (zo0 h2)
 show (match allO (frz S (k + 2)) [.d (.int .i64 n.ino), .d (.int .i64 n.kind), .d (.int .i64 n.links), .d (.int .i64 n.parent), .d (.int .i64 n.size), v1, v2] with | some ds => if ds.any D.isAgg then none else some (D.agg ds) | none => none) = _
 have h2 : ∀ x : D, frz S (k + 2) (.d x) = some x := fun _ => rfl
 simp only [allO, e1, e2, h2]
 rfl
def hasN (t : List Node) (ino : Int) : Bool := (t.find? (fun n => decide (n.ino = ino))).isSome
theorem zvy : z1j Try.prog 32 [] = some (.agg [.d (.int .i64 0), .d (.int .i64 0), .d (.int .i64 0), .d (.int .i64 0), .d (.int .i64 0), .ts [], .ts []]) := by kernel_rfl
theorem zme {P : Program} {T : List V} {S : zA} {t a u : Nat} {v w x : V} {d e : D} (hv : T.getD t (.tup []) = v) (ha : T.getD a (.tup []) = w) (hl : jP P S u w = some x) (h1 : v.one = true) (h2 : x.one = true) (h3 : frz S zR v = some d) (h4 : frz S zR x = some e) : RetQ P #[.cell a u, .tmp t] (.ret (.tup [.d e, .d d])) .ret T S [] :=
 z6k (r1 := .cell a u) (r2 := .tmp t) (l := []) (vs := [x, v]) (ds := [e, d]) (by simp only [allO, wH, hv, ha, hl]) (by simp [h1, h2]) (by simp only [allO, h3, h4])
def Sep (w v : V) : Prop := ∀ j off l, v = .rs j off l → NotAt w j
def Frame (S : zA) (w : V) (S' : zA) (w' : V) : Prop := ∀ (j : Nat) (o : Ob), S[j]? = some o → NotAt w j → S'[j]? = some o ∧ NotAt w' j
theorem z5q {S S' : zA} {w w' v : V} {e : TypeId} {xs : List V} (h : OwnS S v e xs) (hs : Sep w v) (hf : Frame S w S' w') : OwnS S' v e xs ∧ Sep w' v := by
 rcases h with ⟨rfl, rfl⟩ | ⟨i, rfl, h1⟩
 ·exact ⟨.inl ⟨rfl, rfl⟩, fun j off l hv => by cases hv⟩
 ·obtain ⟨h2, h3⟩ := hf i _ h1 (hs i _ _ rfl)
  exact ⟨.inr ⟨i, rfl, h2⟩, fun j off l hv => by cases hv; exact h3⟩
def NodeV (S : zA) (w : V) (n : Node) (u : V) : Prop := u = .d (zB n) ∨ ∃ v1 v2, u = zD n v1 v2 ∧ OwnS S v1 5 (n.data.map fun b => .d (.int .u8 b.toNat)) ∧ OwnS S v2 88 (n.names.map fun x => .d (zJ x)) ∧ Sep w v1 ∧ Sep w v2
theorem NodeV.keep {S S' : zA} {w : V} {n : Node} {u : V} (h : NodeV S w n u) (hk : ∀ (j : Nat) (o : Ob), S[j]? = some o → S'[j]? = some o) : NodeV S' w n u := by
 rcases h with h | ⟨v1, v2, h0, h1, h2, h3, h4⟩
 ·exact .inl h
 ·exact .inr ⟨v1, v2, h0, z1u h1 hk, z1u h2 hk, h3, h4⟩
theorem NodeV.frame {S S' : zA} {w w' : V} {n : Node} {u : V} (h : NodeV S w n u) (hf : Frame S w S' w') : NodeV S' w' n u := by
 rcases h with h | ⟨v1, v2, h0, h1, h2, h3, h4⟩
 ·exact .inl h
 ·exact .inr ⟨v1, v2, h0, (z5q h1 h3 hf).1, (z5q h2 h4 hf).1, (z5q h1 h3 hf).2, (z5q h2 h4 hf).2⟩
theorem NodeV.frz {S : zA} {w : V} {n : Node} {u : V} (h : NodeV S w n u) : frz S 11 u = some (zB n) := by
 rcases h with rfl | ⟨v1, v2, rfl, h1, h2, _, _⟩
 ·rfl
 ·exact zas (k := 8) h1 h2
def AllN (S : zA) (w : V) : List Node → List V → Prop
 | [], [] => True
 | n :: ns, u :: us => NodeV S w n u ∧ AllN S w ns us
 | _, _ => False
theorem AllN.keep {S S' : zA} {w : V} (hk : ∀ (j : Nat) (o : Ob), S[j]? = some o → S'[j]? = some o) : ∀ {ns : List Node} {us : List V}, AllN S w ns us → AllN S' w ns us
 | [], [], _ => trivial
 | n :: ns, u :: us, h => ⟨h.1.keep hk, AllN.keep hk h.2⟩
theorem AllN.frame {S S' : zA} {w w' : V} (hf : Frame S w S' w') : ∀ {ns : List Node} {us : List V}, AllN S w ns us → AllN S' w' ns us
 | [], [], _ => trivial
 | n :: ns, u :: us, h => ⟨h.1.frame hf, AllN.frame hf h.2⟩
theorem AllN.snoc {S : zA} {w : V} {n : Node} {u : V} (hn : NodeV S w n u) : ∀ {ns : List Node} {us : List V}, AllN S w ns us → AllN S w (ns ++ [n]) (us ++ [u])
 | [], [], _ => ⟨hn, trivial⟩
 | m :: ns, v :: us, h => ⟨h.1, AllN.snoc hn h.2⟩
theorem AllN.len {S : zA} {w : V} : ∀ {ns : List Node} {us : List V}, AllN S w ns us → us.length = ns.length
 | [], [], _ => rfl
 | m :: ns, v :: us, h => by simp [AllN.len h.2]
theorem AllN.frz {S : zA} {w : V} : ∀ {ns : List Node} {us : List V}, AllN S w ns us → allO (frz S 11) us = some (ns.map zB)
 | [], [], _ => rfl
 | m :: ns, v :: us, h => by simp only [allO, h.1.frz, AllN.frz h.2, List.map_cons]
theorem zqi {S : zA} {v : V} {e : TypeId} {us : List V} {ds : List D} (h : OwnS S v e us) (ha : allO (frz S 11) us = some ds) : frz S zR v = some (.sl ds) := by
 rcases h with ⟨rfl, rfl⟩ | ⟨id, rfl, h1⟩
 ·simp only [allO, Option.some.injEq] at ha
  subst ha; rfl
 ·show (match S[id]? with
   | some (.row xs e) => if 0 + us.length ≤ xs.length && (allO (Go.Vm.frz S 11) xs).isSome then (allO (Go.Vm.frz S 11) ((xs.drop 0).take us.length)).map D.sl else none
   | some (.fz xs e) => if 0 + us.length ≤ xs.length then some (D.sl ((xs.drop 0).take us.length)) else none
   | _ => none) = _
  have h2 : (us.drop 0).take us.length = us := by rw [List.drop_zero, List.take_of_length_le (Nat.le_refl _)]
  simp only [h1, h2, ha, Option.isSome_some, Bool.and_true, Option.map_some]
  simp
theorem zl2 {P : Program} {S : zA} {t e : TypeId} {v w u : V} {xs : List V} (hu : P.underlying t = some (.slice e)) (hz : zOk P e = true) (hsrc : srcV P S e t w = some [u]) (ho : OwnS S v e xs) (hr : room P e (xs.length + 1) = true) :
  ∃ v' S' c, zW P S t t v w = some (v', S', c) ∧ OwnS S' v' e (xs ++ [u]) ∧ Frame S v S' v' := by
 rcases ho with ⟨rfl, rfl⟩ | ⟨id, rfl, h1⟩
 ·refine ⟨.rs S.length 0 1, S ++ [.row [u] e], 2, ?_, .inr ⟨S.length, rfl, by simp⟩, fun j o hj _ => ⟨?_, ?_⟩⟩
  ·simp only [zW, hu, hsrc, hz, if_true]
   have hr1 : room P e 1 = true := by simpa using hr
   simp [hr1]
  ·rw [List.getElem?_append_left (zZ hj)]; exact hj
  ·intro off l h
   have := zZ hj
   cases h; omega
 ·refine ⟨.rs S.length 0 (xs.length + 1), S.set id .dead ++ [.row (xs ++ [u]) e], 3, ?_, .inr ⟨S.length, by simp, by simp⟩, fun j o hj hn => ⟨?_, ?_⟩⟩
  ·simp only [zW, hu, hsrc, hz, if_true, h1]
   simp [hr]
  ·have hj' := zZ hj
   rw [List.getElem?_append_left (by simpa using hj'), List.getElem?_set_ne]
   ·exact hj
   ·rintro rfl; exact hn 0 _ rfl
  ·intro off l h
   have := zZ hj
   cases h; omega
theorem zvj {S : zA} {a b c d e : Int} : bs1 Try.prog S 25 (.agg [.d (.int .i64 a), .d (.int .i64 b), .d (.int .i64 c), .d (.int .i64 d), .d (.int .i64 e), .ts [], .ts []]) = some (.val (.ts [.agg [.int .i64 a, .int .i64 b, .int .i64 c, .int .i64 d, .int .i64 e, .sl [], .sl []]]) S 0) := by kernel_rfl
end Go.Proofs.Ytghllhghboaagaa
end
section
namespace Go.Vm
theorem zol (s : List UInt8) (i : Nat) : (⟨s.toArray⟩ : ByteArray).get! i = s.getD i 0 := by
 show s.toArray[i]! = _
 simp [List.getD_eq_getElem?_getD, List.getElem!_eq_getElem?_getD]
 rfl
theorem ziv (s : List UInt8) (pos : Nat) (h : pos < s.length) : 1 ≤ (Utf8.decode ⟨s.toArray⟩ pos).2 ∧ pos + (Utf8.decode ⟨s.toArray⟩ pos).2 ≤ s.length ∧ (s[pos] = 47 → Utf8.decode ⟨s.toArray⟩ pos = (47, 1)) ∧ (s[pos] ≠ 47 → (Utf8.decode ⟨s.toArray⟩ pos).1 ≠ 47) ∧ ∀ k, pos < k → k < pos + (Utf8.decode ⟨s.toArray⟩ pos).2 → s.getD k 0 ≠ 47 := by
 have h0 : (s.getD (pos + 0) 0) = s[pos] := by simp [List.getD_eq_getElem?_getD, h]
 have e47 : s[pos] = 47 ↔ s[pos].toNat = 47 := ⟨fun h => by rw [h]; rfl, fun h => UInt8.toNat_inj.1 h⟩
 have n47 : ∀ k, s.getD k 0 = 47 → (s.getD k 0).toNat = 47 := fun k h => by rw [h]; rfl
 have hsz : (⟨s.toArray⟩ : ByteArray).size = s.length := rfl
 unfold Utf8.decode
 simp only [zol, hsz, h0, e47, ne_eq]
 generalize hb : s[pos].toNat = b at *
 generalize h1 : (s.getD (pos + 1) 0).toNat = b1
 generalize h2 : (s.getD (pos + 2) 0).toNat = b2
 generalize h3 : (s.getD (pos + 3) 0).toNat = b3
 have k1 : ∀ k, k = pos + 1 → s.getD k 0 = 47 → b1 = 47 := fun k hk hh => by rw [← h1, ← hk]; exact n47 k hh
 have k2 : ∀ k, k = pos + 2 → s.getD k 0 = 47 → b2 = 47 := fun k hk hh => by rw [← h2, ← hk]; exact n47 k hh
 have k3 : ∀ k, k = pos + 3 → s.getD k 0 = 47 → b3 = 47 := fun k hk hh => by rw [← h3, ← hk]; exact n47 k hh
 clear n47 hsz h0 e47 h1 h2 h3 hb
 split
 ·rename_i c
  refine ⟨by omega, by simp only; omega, fun hh => by rw [hh], fun hh => hh, fun k a b => by simp only at b; omega⟩
 ·rename_i c
  have hne : ¬ b = 47 := by omega
  split
  ·rename_i c1
   simp only [Bool.and_eq_true, decide_eq_true_eq, beq_iff_eq] at c1
   split
   ·rename_i c2
    refine ⟨by simp, by simp only; omega, fun hh => absurd hh hne, fun _ => by simp only; omega, fun k a b hh => ?_⟩
    simp only at b
    have := k1 k (by omega) hh
    omega
   ·refine ⟨by simp, by simp only; omega, fun hh => absurd hh hne, fun _ => by simp [Utf8.runeError], fun k a b => by simp only at b; omega⟩
  ·split
   ·rename_i c1
    simp only [Bool.and_eq_true, decide_eq_true_eq, beq_iff_eq] at c1
    split
    ·rename_i c2
     simp only [Bool.and_eq_true, decide_eq_true_eq] at c2
     refine ⟨by simp, by simp only; omega, fun hh => absurd hh hne, fun _ => by simp only; omega, fun k a b hh => ?_⟩
     simp only at b
     rcases (by omega : k = pos + 1 ∨ k = pos + 2) with hk | hk
     ·have := k1 k hk hh; omega
     ·have := k2 k hk hh; omega
    ·refine ⟨by simp, by simp only; omega, fun hh => absurd hh hne, fun _ => by simp [Utf8.runeError], fun k a b => by simp only at b; omega⟩
   ·split
    ·rename_i c1
     simp only [Bool.and_eq_true, decide_eq_true_eq, beq_iff_eq] at c1
     split
     ·rename_i c2
      simp only [Bool.and_eq_true, decide_eq_true_eq] at c2
      refine ⟨by simp, by simp only; omega, fun hh => absurd hh hne, fun _ => by simp only; omega, fun k a b hh => ?_⟩
      simp only at b
      rcases (by omega : k = pos + 1 ∨ k = pos + 2 ∨ k = pos + 3) with hk | hk | hk
      ·have := k1 k hk hh; omega
      ·have := k2 k hk hh; omega
      ·have := k3 k hk hh; omega
     ·refine ⟨by simp, by simp only; omega, fun hh => absurd hh hne, fun _ => by simp [Utf8.runeError], fun k a b => by simp only at b; omega⟩
    ·refine ⟨by simp, by simp only; omega, fun hh => absurd hh hne, fun _ => by simp [Utf8.runeError], fun k a b => by simp only at b; omega⟩
end Go.Vm
end
section
namespace Go.Proofs.Ytghllhghboaagaa
open Go.Vm
theorem q1d (s : List UInt8) (hl : s.length < 1000000) (R : Post) (S : zA) (g2 : V) : ∀ (k i : Nat) (g3 g4 g5 g6 g7 g8 g9 gP gQ gM gF gD gG gH gC gA gB gI gJ gN gO gR gS gT gX gW gU gV gZ gY : V), s.length - i = k → i ≤ s.length →
 (∀ i' g3 g4 g5 g6 g7 g8 g9 gP gQ gM gF gD gG gH gC gA gB gI gJ gN gO gR gS gT gX gW gU gV gZ gY, (s.drop i).all z4m = true → R (.exit 0) ((.d (.str s)) :: (.tup []) :: g2 :: g3 :: g4 :: g5 :: g6 :: g7 :: g8 :: g9 :: gP :: gQ :: gM :: gF :: gD :: gG :: gH :: gC :: gA :: gB :: (.d (.str s)) :: (.d (.int .i64 s.length)) :: i' :: gI :: gJ :: gN :: gO :: gR :: gS :: gT :: gX :: gW :: gU :: gV :: gZ :: gY :: []) S []) →
 (∀ i' g3 g4 g5 g6 g7 g8 g9 gP gQ gM gF gD gG gH gC gA gB gI gJ gN gO gR gS gT gX gW gU gV gZ gY, (s.drop i).all z4m = false → R .ret ((.d (.str s)) :: (.tup []) :: (.d (.int .i64 3)) :: g3 :: g4 :: g5 :: g6 :: g7 :: g8 :: g9 :: gP :: gQ :: gM :: gF :: gD :: gG :: gH :: gC :: gA :: gB :: (.d (.str s)) :: (.d (.int .i64 s.length)) :: i' :: gI :: gJ :: gN :: gO :: gR :: gS :: gT :: gX :: gW :: gU :: gV :: gZ :: gY :: []) S []) →
 Wp cfg (.loop (lpOf (Try.f96.body.getD .skip) 0)) ((.d (.str s)) :: (.tup []) :: g2 :: g3 :: g4 :: g5 :: g6 :: g7 :: g8 :: g9 :: gP :: gQ :: gM :: gF :: gD :: gG :: gH :: gC :: gA :: gB :: (.d (.str s)) :: (.d (.int .i64 s.length)) :: (.d (.int .i64 i)) :: gI :: gJ :: gN :: gO :: gR :: gS :: gT :: gX :: gW :: gU :: gV :: gZ :: gY :: []) S [] R := by
 intro k
 induction k with
 | zero =>
  intro i g3 g4 g5 g6 g7 g8 g9 gP gQ gM gF gD gG gH gC gA gB gI gJ gN gO gR gS gT gX gW gU gV gZ gY hk hi hE hR
  have hie : i = s.length := by omega
  rw [qQ]
  refine qC ?_
  conv => arg 2; whnf
  simp (maxSteps:=1000000) (disch:=first|assumption|omega|rfl) only [↓gp, gc, Nat.reduceAdd]
  exact hE _ _ _ _ _ _ _ _ _ _ _ _ _ _ _ _ _ _ _ _ _ _ _ _ _ _ _ _ _ _ _ (by rw [hie, List.drop_length]; rfl)
 | succ k ih =>
  intro i g3 g4 g5 g6 g7 g8 g9 gP gQ gM gF gD gG gH gC gA gB gI gJ gN gO gR gS gT gX gW gU gV gZ gY hk hi hE hR
  have hlt : i < s.length := by omega
  have hdr : s.drop i = s[i] :: s.drop (i + 1) := List.drop_eq_getElem_cons hlt
  rw [hdr, List.all_cons] at hE hR
  have e0 : s[i] = 0 ↔ (s[i].toNat : Int) = 0 := ⟨fun h => by rw [h]; rfl, fun h => UInt8.toNat_inj.1 (by simpa using h)⟩
  have e47 : s[i] = 47 ↔ (s[i].toNat : Int) = 47 := ⟨fun h => by rw [h]; rfl, fun h => UInt8.toNat_inj.1 (by show s[i].toNat = 47; omega)⟩
  rw [qQ]
  refine qC ?_
  conv => arg 2; whnf
  by_cases c0 : (s[i].toNat : Int) = 0
  ·have hr : z4m s[i] = false := by simp [z4m, e0.2 c0]
   simp (maxSteps:=1000000) (disch:=first|assumption|omega|rfl) only [↓gp, gc, Nat.reduceAdd]
   exact hR _ _ _ _ _ _ _ _ _ _ _ _ _ _ _ _ _ _ _ _ _ _ _ _ _ _ _ _ _ _ _ (by rw [hr]; rfl)
  ·by_cases c1 : (s[i].toNat : Int) = 47
   ·have hr : z4m s[i] = false := by simp [z4m, e47.2 c1]
    simp (maxSteps:=1000000) (disch:=first|assumption|omega|rfl) only [↓gp, gc, Nat.reduceAdd]
    exact hR _ _ _ _ _ _ _ _ _ _ _ _ _ _ _ _ _ _ _ _ _ _ _ _ _ _ _ _ _ _ _ (by rw [hr]; rfl)
   ·have hr : z4m s[i] = true := by simp only [z4m, decide_eq_true_eq]; exact ⟨fun h => c0 (e0.1 h), fun h => c1 (e47.1 h)⟩
    rw [hr, Bool.true_and] at hE hR
    simp (maxSteps:=1000000) (disch:=first|assumption|omega|rfl) only [↓gp, gc, Nat.reduceAdd]
    exact ih (i + 1) _ _ _ _ _ _ _ _ _ _ _ _ _ _ _ _ _ _ _ _ _ _ _ _ _ _ _ _ _ _ (by omega) (by omega) hE hR
def z4s (s : List UInt8) : Int := if z20 s = true then 0 else 3
theorem zq8 (s : List UInt8) (hl : s.length < 1000000) : Ev cfg 96 [.str s] (.ret (.d (.int .i64 (z4s s)))) := by
 refine z1r rfl rfl zzd ?_
 show Wp cfg (Try.f96.body.getD .skip) ((.d (.str s)) :: uZ (uZ (uZ ((.tup []) :: (.tup []) :: (.tup []) :: (.tup []) :: (.tup []) :: [])))) [] [] _
 unfold uZ
 conv => arg 2; whnf
 have bad : ¬ (1 ≤ s.length ∧ s.length ≤ 24 ∧ s ≠ [46] ∧ s ≠ [46, 46]) → z4s s = 3 := fun h => by
  unfold z4s
  rw [if_neg]
  intro hr
  simp only [z20, Bool.and_eq_true, decide_eq_true_eq] at hr
  exact h hr.1
 by_cases c1 : (s.length : Int) < 1
 ·simp (maxSteps:=1000000) (disch:=first|assumption|omega|rfl) only [↓gp, gc, Nat.reduceAdd]
  rw [bad (fun h => by omega)]
  exact qN rfl rfl rfl
 ·by_cases c2 : (s.length : Int) > 24
  ·simp (maxSteps:=1000000) (disch:=first|assumption|omega|rfl) only [↓gp, gc, Nat.reduceAdd]
   rw [bad (fun h => by omega)]
   exact qN rfl rfl rfl
  ·by_cases c3 : s = [46]
   ·simp (maxSteps:=1000000) (disch:=first|assumption|omega|rfl) only [↓gp, gc, Nat.reduceAdd]
    rw [bad (fun h => h.2.2.1 c3)]
    exact qN rfl rfl rfl
   ·by_cases c4 : s = [46, 46]
    ·simp (maxSteps:=1000000) (disch:=first|assumption|omega|rfl) only [↓gp, gc, Nat.reduceAdd]
     rw [bad (fun h => h.2.2.2 c4)]
     exact qN rfl rfl rfl
    ·simp (maxSteps:=1000000) (disch:=first|assumption|omega|rfl) only [↓gp, gc, Nat.reduceAdd]
     have good : z4s s = if s.all z4m = true then 0 else 3 := by
      unfold z4s z20
      rw [decide_eq_true (⟨by omega, by omega, c3, c4⟩ : 1 ≤ s.length ∧ s.length ≤ 24 ∧ s ≠ [46] ∧ s ≠ [46, 46]), Bool.true_and]
     refine q1d s hl _ _ _ s.length 0 _ _ _ _ _ _ _ _ _ _ _ _ _ _ _ _ _ _ _ _ _ _ _ _ _ _ _ _ _ _ rfl (by omega) ?_ ?_
     ·intro i' g3 g4 g5 g6 g7 g8 g9 gP gQ gM gF gD gG gH gC gA gB gI gJ gN gO gR gS gT gX gW gU gV gZ gY h
      rw [List.drop_zero] at h
      simp (maxSteps:=1000000) (disch:=first|assumption|omega|rfl) only [↓gp, gc, Nat.reduceAdd]
      rw [good, if_pos h]
      exact qN rfl rfl rfl
     ·intro i' g3 g4 g5 g6 g7 g8 g9 gP gQ gM gF gD gG gH gC gA gB gI gJ gN gO gR gS gT gX gW gU gV gZ gY h
      rw [List.drop_zero] at h
      simp (maxSteps:=1000000) (disch:=first|assumption|omega|rfl) only [↓gp, gc, Nat.reduceAdd]
      rw [good, if_neg (by rw [h]; exact Bool.noConfusion)]
      exact qN rfl rfl rfl
theorem zbp {ops : Array Oper} {dst : Option Tmp} {k : List Oper} {T : List V} {S : zA} {F : Dfs} {Q : Post} {s : List UInt8} (hl : s.length < 1000000) :
  WpR cfg ops dst k T S F Q (some (.enter 96 [.d (.str s)])) = WpL cfg ops k (putT T dst (.d (.int .i64 (z4s s)))) S F Q :=
 jI (ds := [.str s]) rfl (zq8 s hl)
def zax (S : zA) : V → Option Rs
 | .it id => match S[id]? with
  | some (.iter s pos) => if pos < s.length then some (.val (.tup [.d (.bool true), .d (.int .i64 pos), .d (.int .i32 (Utf8.decode ⟨s.toArray⟩ pos).1)]) (S.set id (.iter s (pos + (Utf8.decode ⟨s.toArray⟩ pos).2))) 3) else some (.val (.tup [.d (.bool false)]) S 3)
  | _ => none
 | _ => none
def zl6 (S : zA) : V → Option Rs
 | .d (.str s) => some (.val (.it S.length) (S ++ [.iter s 0]) 2)
 | _ => none
theorem z97 {C : Cfg} {ops : Array Oper} {dst : Option Tmp} {ty : TypeId} {pos : String} {after : Array Edge} {l : List Oper} {T : List V} {S : zA} {F : Dfs} {Q : Post} {it : Operand} : WpL C ops (⟨dst, .next it true, ty, pos, after, none⟩ :: l) T S F Q = WpR C ops dst l T S F Q (zax S (zG T it)) := by
 rw [vV rfl]
 simp only [opV, zax]
 cases zG T it <;> rfl
theorem zn0 {ops : Array Oper} {dst : Option Tmp} {ty : TypeId} {pos : String} {after : Array Edge} {l : List Oper} {T : List V} {S : zA} {F : Dfs} {Q : Post} {x : Operand} : WpL cfg ops (⟨dst, .range 9 x, ty, pos, after, none⟩ :: l) T S F Q = WpR cfg ops dst l T S F Q (zl6 S (zG T x)) := by
 rw [vV rfl]
 simp only [opV, hP, Try.underlying9, zl6]
 cases zG T x with
 | d y => cases y <;> rfl
 | _ => rfl
theorem zjr {S : zA} {s : List UInt8} : zl6 S (.d (.str s)) = some (.val (.it S.length) (S ++ [.iter s 0]) 2) := rfl
theorem zma {P : Program} {S : zA} {t : TypeId} {s : List UInt8} {lo : Int} (hu : P.underlying t = some .string) (h0 : 0 ≤ lo) (h1 : lo ≤ s.length) :
  qT P S t (.d (.str s)) (some (.d (.int .i64 lo))) none = some (.d (.str (s.drop lo.toNat))) := by
 simp only [qT, hu, z4a (n := s.length) (d := 0) (i := lo) h0 (by omega), wO, List.take_length]
def spl : List UInt8 → List UInt8 → List (List UInt8)
 | part, [] => [part]
 | part, c :: r => if c = 47 then part :: spl [] r else spl (part ++ [c]) r
theorem zj3 : ∀ (w : Nat) (s part : List UInt8), w ≤ s.length → (∀ k, k < w → s.getD k 0 ≠ 47) → spl part s = spl (part ++ s.take w) (s.drop w)
 | 0, s, part, _, _ => by simp
 | w + 1, [], part, h, _ => by simp at h
 | w + 1, c :: r, part, h, hk => by
  have h0 : c ≠ 47 := hk 0 (by omega)
  have := zj3 w r (part ++ [c]) (by simpa using h) (fun k hkw => by have := hk (k + 1) (by omega); simpa using this)
  simp only [spl, h0, if_false, List.take_succ_cons, List.drop_succ_cons]
  rw [this, List.append_assoc]
  rfl
theorem z9b : ∀ (s part : List UInt8), (spl part s).length ≤ s.length + 1
 | [], part => by simp [spl]
 | c :: r, part => by
  unfold spl
  split
  ·have := z9b r []; simp; omega
  ·have := z9b r (part ++ [c]); simp; omega
theorem zms (s : List UInt8) (hl : s.length < 1000000) (total : List (List UInt8)) (ht : total.length < 1000000) (R : Post) (g2 : V) : ∀ (k p b : Nat) (xs : List (List UInt8)) (S : zA) (v3 v5 v6 g9 gP gQ gM gF gD gG gH gC gA gB gK gE gL gI gJ gN gO gR gS gT gX gW gU gV : V), s.length - p ≤ k → b ≤ p → 1 ≤ p → p ≤ s.length → xs ++ spl ((s.take p).drop b) (s.drop p) = total → OwnS S v3 9 (xs.map fun x => .d (.str x)) → S[0]? = some (.iter s p) →
 (∀ S v3 (b' : Nat) ys v5 v6 g9 gP gQ gM gF gD gG gH gC gA gB gK gE gL gI gJ gN gO gR gS gT gX gW gU gV, b' ≤ s.length → ys ++ [s.drop b'] = total → OwnS S v3 9 (ys.map fun x => .d (.str x)) → R (.exit 0) ((.d (.str s)) :: (.tup []) :: g2 :: v3 :: (.d (.int .i64 b')) :: v5 :: v6 :: (.d (.str s)) :: (.it 0) :: g9 :: gP :: gQ :: gM :: gF :: gD :: gG :: gH :: gC :: gA :: gB :: gK :: gE :: gL :: gI :: gJ :: gN :: gO :: gR :: gS :: gT :: gX :: gW :: gU :: gV :: []) S []) →
 Wp cfg (.loop (lpOf (Try.f113.body.getD .skip) 0)) ((.d (.str s)) :: (.tup []) :: g2 :: v3 :: (.d (.int .i64 b)) :: v5 :: v6 :: (.d (.str s)) :: (.it 0) :: g9 :: gP :: gQ :: gM :: gF :: gD :: gG :: gH :: gC :: gA :: gB :: gK :: gE :: gL :: gI :: gJ :: gN :: gO :: gR :: gS :: gT :: gX :: gW :: gU :: gV :: []) S [] R := by
 intro k
 induction k with
 | zero =>
  intro p b xs S v3 v5 v6 g9 gP gQ gM gF gD gG gH gC gA gB gK gE gL gI gJ gN gO gR gS gT gX gW gU gV hk hb hp hpl hx ho hS hR
  have hpe : p = s.length := by omega
  have hnx : zax S (.it 0) = some (.val (.tup [.d (.bool false)]) S 3) := by simp only [zax, hS]; rw [if_neg (by omega)]
  rw [qQ]
  refine qC ?_
  conv => arg 2; whnf
  simp (maxSteps:=1000000) (disch:=first|assumption|omega|rfl) only [↓gp, gc, Nat.reduceAdd, ↓z97, hnx]
  rw [hpe, List.drop_length, List.take_length] at hx
  exact hR _ _ b xs _ _ _ _ _ _ _ _ _ _ _ _ _ _ _ _ _ _ _ _ _ _ _ _ _ _ _ (by omega) hx ho
 | succ k ih =>
  intro p b xs S v3 v5 v6 g9 gP gQ gM gF gD gG gH gC gA gB gK gE gL gI gJ gN gO gR gS gT gX gW gU gV hk hb hp hpl hx ho hS hR
  by_cases hlt : p < s.length
  ·have hnx : zax S (.it 0) = some (.val (.tup [.d (.bool true), .d (.int .i64 p), .d (.int .i32 (Utf8.decode ⟨s.toArray⟩ p).1)]) (S.set 0 (.iter s (p + (Utf8.decode ⟨s.toArray⟩ p).2))) 3) := by simp only [zax, hS]; rw [if_pos hlt]
   obtain ⟨h1, h2, h3, h4, h5⟩ := ziv s p hlt
   have hdr : s.drop p = s[p] :: s.drop (p + 1) := List.drop_eq_getElem_cons hlt
   have hna : NotAt v3 0 := zub ho (fun o ho' xs e he => by rw [hS] at ho'; cases ho'; cases he)
   rw [qQ]
   refine qC ?_
   conv => arg 2; whnf
   by_cases c47 : s[p] = 47
   ·have hd := h3 c47
    rw [hd] at hnx
    have hc : ((((47, 1) : Nat × Nat).1 : Nat) : Int) = 47 := rfl
    have hsl := ztm (S := S.set 0 (.iter s (p + 1))) (P := Try.prog) (t := 9) (s := s) (lo := (b : Int)) (hi := (p : Int)) Try.underlying9 (by omega) (by omega) (by omega)
    rw [Int.toNat_natCast, Int.toNat_natCast] at hsl
    have hxl : xs.length < 1000000 := by have := congrArg List.length hx; simp at this; omega
    obtain ⟨v', S', c, ha, ho', hfr, hlen⟩ := ap42 ((s.take p).drop b) (vM (o := .iter s (p + 1)) ho hna) hxl
    have hp0 : ((p : Int)) > 0 := by omega
    simp (maxSteps:=1000000) (disch:=first|assumption|omega|rfl) only [↓gp, gc, Nat.reduceAdd, ↓z97, hnx, hsl, ha]
    have hS' := (hfr 0 _ (kD (o' := .iter s (p + 1)) hS) hna).1
    refine ih (p + 1) (p + 1) (xs ++ [(s.take p).drop b]) S' v' _ _ _ _ _ _ _ _ _ _ _ _ _ _ _ _ _ _ _ _ _ _ _ _ _ _ _ (by omega) (Nat.le_refl _) (by omega) (by omega) ?_ ho' hS' hR
    rw [← hx, hdr, List.append_assoc]
    simp only [spl, c47, if_true]
    rw [show (s.take (p + 1)).drop (p + 1) = [] from List.drop_eq_nil_of_le (by rw [List.length_take]; omega)]
    rfl
   ·have hne := h4 c47
    generalize Utf8.decode ⟨s.toArray⟩ p = d at *
    have hne' : ¬ ((d.1 : Int)) = 47 := by omega
    simp (maxSteps:=1000000) (disch:=first|assumption|omega|rfl) only [↓gp, gc, Nat.reduceAdd, ↓z97, hnx]
    refine ih (p + d.2) b xs _ v3 _ _ _ _ _ _ _ _ _ _ _ _ _ _ _ _ _ _ _ _ _ _ _ _ _ _ _ (by omega) (by omega) (by omega) (by omega) ?_ (vM ho hna) (kD hS) hR
    rw [← hx, zj3 d.2 (s.drop p) _ (by rw [List.length_drop]; omega) (fun k hk => ?_)]
    ·rw [List.drop_drop, ← List.drop_append_of_le_length (by rw [List.length_take]; omega), ← List.take_add]
    ·rw [List.getD_eq_getElem?_getD, List.getElem?_drop, ← List.getD_eq_getElem?_getD]
     by_cases hk0 : k = 0
     ·rw [hk0, Nat.add_zero, List.getD_eq_getElem?_getD, List.getElem?_eq_getElem hlt]; exact c47
     ·exact h5 (p + k) (by omega) (by omega)
  ·have hpe : p = s.length := by omega
   have hnx : zax S (.it 0) = some (.val (.tup [.d (.bool false)]) S 3) := by simp only [zax, hS]; rw [if_neg (by omega)]
   rw [qQ]
   refine qC ?_
   conv => arg 2; whnf
   simp (maxSteps:=1000000) (disch:=first|assumption|omega|rfl) only [↓gp, gc, Nat.reduceAdd, ↓z97, hnx]
   rw [hpe, List.drop_length, List.take_length] at hx
   exact hR _ _ b xs _ _ _ _ _ _ _ _ _ _ _ _ _ _ _ _ _ _ _ _ _ _ _ _ _ _ _ (by omega) hx ho
theorem zjt (r : List UInt8) (hl : r.length < 900000) : Ev cfg 113 [.str (47 :: r)] (.ret (.d (.sl ((spl [] r).map .str)))) := by
 refine z1r rfl rfl zui ?_
 show Wp cfg (Try.f113.body.getD .skip) ((.d (.str (47 :: r))) :: uZ (uZ (uZ ((.tup []) :: (.tup []) :: (.tup []) :: [])))) [] [] _
 unfold uZ
 conv => arg 2; whnf
 have hlt : 0 < (47 :: r).length := by simp
 obtain ⟨_, _, h3, _, _⟩ := ziv (47 :: r) 0 hlt
 have hd := h3 rfl
 have hnx : zax [.iter (47 :: r) 0] (.it 0) = some (.val (.tup [.d (.bool true), .d (.int .i64 0), .d (.int .i32 47)]) [.iter (47 :: r) 1] 3) := by
  simp only [zax]
  rw [show ([Ob.iter (47 :: r) 0] : zA)[0]? = some (.iter (47 :: r) 0) from rfl]
  simp only
  rw [if_pos hlt, hd]
  rfl
 simp (maxSteps:=1000000) (disch:=first|assumption|omega|rfl) only [↓gp, gc, Nat.reduceAdd, ↓zn0, zjr]
 rw [qQ]
 refine qC ?_
 conv => arg 2; whnf
 simp (maxSteps:=1000000) (disch:=first|assumption|omega|rfl) only [↓gp, gc, Nat.reduceAdd, ↓z97, hnx, decide_true, decide_false]
 refine zms (47 :: r) (by simp; omega) (spl [] r) (by have := z9b r []; omega) _ _ (47 :: r).length 1 1 [] _ _ _ _ _ _ _ _ _ _ _ _ _ _ _ _ _ _ _ _ _ _ _ _ _ _ _ _ _ (by omega) (Nat.le_refl _) (Nat.le_refl _) (by simp) ?_ OwnS.nil rfl ?_
 ·simp
 ·intro S v3 b' ys v5 v6 g9 gP gQ gM gF gD gG gH gC gA gB gK gE gL gI gJ gN gO gR gS gT gX gW gU gV hb hy ho
  have hsl := zma (S := S) (P := Try.prog) (t := 9) (s := 47 :: r) (lo := (b' : Int)) Try.underlying9 (by omega) (by omega)
  rw [Int.toNat_natCast] at hsl
  have hyl : ys.length < 1000000 := by
   have h1 := congrArg List.length hy
   have h2 := z9b r []
   simp at h1; omega
  obtain ⟨v', S', c, ha, ho', hfr, hlen⟩ := ap42 ((47 :: r).drop b') ho hyl
  simp (maxSteps:=1000000) (disch:=first|assumption|omega|rfl) only [↓gp, gc, Nat.reduceAdd, hsl, ha]
  rw [← hy]
  exact qN rfl (zch ho') (zpf ho')
theorem zfh {ops : Array Oper} {dst : Option Tmp} {k : List Oper} {T : List V} {S : zA} {F : Dfs} {Q : Post} {r : List UInt8} (hl : r.length < 900000) :
  WpR cfg ops dst k T S F Q (some (.enter 113 [.d (.str (47 :: r))])) = WpL cfg ops k (putT T dst (.d (.sl ((spl [] r).map .str)))) S F Q :=
 jI (ds := [.str (47 :: r)]) rfl (zjt r hl)
theorem z8z : ∀ (r part : List UInt8), z0f part r = if [] ∈ spl part r then none else some (spl part r)
 | [], part => by
  by_cases hp : part = []
  ·simp [z0f, spl, hp]
  ·have : ¬ ([] : List UInt8) = part := fun h => hp h.symm
   simp [z0f, spl, hp, this]
 | c :: r, part => by
  by_cases hc : c = 47
  ·by_cases hp : part = []
   ·simp [z0f, spl, hp, hc]
   ·have hp' : ¬ ([] : List UInt8) = part := fun h => hp h.symm
    simp only [z0f, spl, hc, hp, if_true, if_false, z8z r [], List.mem_cons, hp', false_or]
    split <;> rfl
  ·simp only [z0f, spl, hc, if_false]
   exact z8z r _
theorem zho : ∀ (r part x : List UInt8), x ∈ spl part r → x.length ≤ part.length + r.length
 | [], part, x, h => by simp [spl] at h; subst h; simp
 | c :: r, part, x, h => by
  unfold spl at h
  split at h
  ·rcases List.mem_cons.1 h with rfl | h
   ·simp
   ·have := zho r [] x h; simp at this ⊢; omega
  ·have := zho r _ x h; simp at this ⊢; omega
theorem zux (l : List (List UInt8)) (hl : l.length < 1000000) (R : Post) (S : zA) (g0 g1 g2 g3 g4 : V) : ∀ (k i : Nat) (g5 g6 g7 g8 g9 gP gQ gM gF gD gG gH gC gA gB gK gE gL gI gJ gS gT gX gW gU gV gZ gY gi gf gg gh gj gk gm gn gr : V), l.length - i = k → i ≤ l.length →
 (∀ i' g5 g6 g7 g8 g9 gP gQ gM gF gD gG gH gC gA gB gK gE gL gI gJ gS gT gX gW gU gV gZ gY gi gf gg gh gj gk gm gn gr, [] ∉ l.drop i → R (.exit 0) (g0 :: g1 :: g2 :: g3 :: g4 :: g5 :: g6 :: g7 :: g8 :: g9 :: gP :: gQ :: gM :: gF :: gD :: gG :: gH :: gC :: gA :: gB :: gK :: gE :: gL :: gI :: gJ :: (.d (.sl (l.map .str))) :: (.d (.int .i64 l.length)) :: i' :: gS :: gT :: gX :: gW :: gU :: gV :: gZ :: gY :: gi :: gf :: gg :: gh :: gj :: gk :: gm :: gn :: gr :: []) S []) →
 (∀ i' g5 g6 g7 g8 g9 gP gQ gM gF gD gG gH gC gA gB gK gE gL gI gJ gS gT gX gW gU gV gZ gY gi gf gg gh gj gk gm gn gr, [] ∈ l.drop i → R .ret (g0 :: g1 :: (.ts []) :: (.d (.int .i64 15)) :: g4 :: g5 :: g6 :: g7 :: g8 :: g9 :: gP :: gQ :: gM :: gF :: gD :: gG :: gH :: gC :: gA :: gB :: gK :: gE :: gL :: gI :: gJ :: (.d (.sl (l.map .str))) :: (.d (.int .i64 l.length)) :: i' :: gS :: gT :: gX :: gW :: gU :: gV :: gZ :: gY :: gi :: gf :: gg :: gh :: gj :: gk :: gm :: gn :: gr :: []) S []) →
 Wp cfg (.loop (lpOf (Try.f97.body.getD .skip) 0)) (g0 :: g1 :: g2 :: g3 :: g4 :: g5 :: g6 :: g7 :: g8 :: g9 :: gP :: gQ :: gM :: gF :: gD :: gG :: gH :: gC :: gA :: gB :: gK :: gE :: gL :: gI :: gJ :: (.d (.sl (l.map .str))) :: (.d (.int .i64 l.length)) :: (.d (.int .i64 i)) :: gS :: gT :: gX :: gW :: gU :: gV :: gZ :: gY :: gi :: gf :: gg :: gh :: gj :: gk :: gm :: gn :: gr :: []) S [] R := by
 intro k
 induction k with
 | zero =>
  intro i g5 g6 g7 g8 g9 gP gQ gM gF gD gG gH gC gA gB gK gE gL gI gJ gS gT gX gW gU gV gZ gY gi gf gg gh gj gk gm gn gr hk hi hE hR
  have hie : i = l.length := by omega
  rw [qQ]
  refine qC ?_
  conv => arg 2; whnf
  simp (maxSteps:=1000000) (disch:=first|assumption|omega|rfl) only [↓gp, gc, Nat.reduceAdd]
  exact hE _ _ _ _ _ _ _ _ _ _ _ _ _ _ _ _ _ _ _ _ _ _ _ _ _ _ _ _ _ _ _ _ _ _ _ _ _ _ (by rw [hie, List.drop_length]; simp)
 | succ k ih =>
  intro i g5 g6 g7 g8 g9 gP gQ gM gF gD gG gH gC gA gB gK gE gL gI gJ gS gT gX gW gU gV gZ gY gi gf gg gh gj gk gm gn gr hk hi hE hR
  have hlt : i < l.length := by omega
  have hdr : l.drop i = l[i] :: l.drop (i + 1) := List.drop_eq_getElem_cons hlt
  rw [hdr] at hE hR
  rw [qQ]
  refine qC ?_
  conv => arg 2; whnf
  by_cases hc : l[i] = []
  ·simp (maxSteps:=1000000) (disch:=first|assumption|omega|rfl) only [↓gp, gc, Nat.reduceAdd]
   exact hR _ _ _ _ _ _ _ _ _ _ _ _ _ _ _ _ _ _ _ _ _ _ _ _ _ _ _ _ _ _ _ _ _ _ _ _ _ _ (by rw [hc]; exact List.mem_cons_self)
  ·have hc' : ¬ [] = l[i] := fun h => hc h.symm
   simp (maxSteps:=1000000) (disch:=first|assumption|omega|rfl) only [↓gp, gc, Nat.reduceAdd]
   exact ih (i + 1) _ _ _ _ _ _ _ _ _ _ _ _ _ _ _ _ _ _ _ _ _ _ _ _ _ _ _ _ _ _ _ _ _ _ _ _ _ (by omega) (by omega) (fun i' g5 g6 g7 g8 g9 gP gQ gM gF gD gG gH gC gA gB gK gE gL gI gJ gS gT gX gW gU gV gZ gY gi gf gg gh gj gk gm gn gr h => hE i' g5 g6 g7 g8 g9 gP gQ gM gF gD gG gH gC gA gB gK gE gL gI gJ gS gT gX gW gU gV gZ gY gi gf gg gh gj gk gm gn gr (by rw [List.mem_cons]; exact fun hh => hh.elim hc' h)) (fun i' g5 g6 g7 g8 g9 gP gQ gM gF gD gG gH gC gA gB gK gE gL gI gJ gS gT gX gW gU gV gZ gY gi gf gg gh gj gk gm gn gr h => hR i' g5 g6 g7 g8 g9 gP gQ gM gF gD gG gH gC gA gB gK gE gL gI gJ gS gT gX gW gU gV gZ gY gi gf gg gh gj gk gm gn gr (List.mem_cons_of_mem _ h))
theorem zt3 (l : List (List UInt8)) (hl : l.length < 1000000) (hm : ∀ x ∈ l, x.length < 1000000) (R : Post) (S : zA) (g0 g1 g2 g3 g4 : V) : ∀ (k i : Nat) (g5 g6 g7 g8 g9 gP gQ gM gF gD gG gH gC gA gB gK gE gL gI gJ gN gO gR gS gT gX gW gU gV gf gg gh gj gk gm gn gr : V), l.length - i = k → i ≤ l.length →
 (∀ i' g5 g6 g7 g8 g9 gP gQ gM gF gD gG gH gC gA gB gK gE gL gI gJ gN gO gR gS gT gX gW gU gV gf gg gh gj gk gm gn gr, (l.drop i).all z20 = true → R (.exit 2) (g0 :: g1 :: g2 :: g3 :: g4 :: g5 :: g6 :: g7 :: g8 :: g9 :: gP :: gQ :: gM :: gF :: gD :: gG :: gH :: gC :: gA :: gB :: gK :: gE :: gL :: gI :: gJ :: gN :: gO :: gR :: gS :: gT :: gX :: gW :: gU :: gV :: (.d (.sl (l.map .str))) :: (.d (.int .i64 l.length)) :: i' :: gf :: gg :: gh :: gj :: gk :: gm :: gn :: gr :: []) S []) →
 (∀ i' g5 g6 g7 g8 g9 gP gQ gM gF gD gG gH gC gA gB gK gE gL gI gJ gN gO gR gS gT gX gW gU gV gf gg gh gj gk gm gn gr, (l.drop i).all z20 = false → R .ret (g0 :: g1 :: (.ts []) :: (.d (.int .i64 3)) :: g4 :: g5 :: g6 :: g7 :: g8 :: g9 :: gP :: gQ :: gM :: gF :: gD :: gG :: gH :: gC :: gA :: gB :: gK :: gE :: gL :: gI :: gJ :: gN :: gO :: gR :: gS :: gT :: gX :: gW :: gU :: gV :: (.d (.sl (l.map .str))) :: (.d (.int .i64 l.length)) :: i' :: gf :: gg :: gh :: gj :: gk :: gm :: gn :: gr :: []) S []) →
 Wp cfg (.loop (lpOf (Try.f97.body.getD .skip) 2)) (g0 :: g1 :: g2 :: g3 :: g4 :: g5 :: g6 :: g7 :: g8 :: g9 :: gP :: gQ :: gM :: gF :: gD :: gG :: gH :: gC :: gA :: gB :: gK :: gE :: gL :: gI :: gJ :: gN :: gO :: gR :: gS :: gT :: gX :: gW :: gU :: gV :: (.d (.sl (l.map .str))) :: (.d (.int .i64 l.length)) :: (.d (.int .i64 i)) :: gf :: gg :: gh :: gj :: gk :: gm :: gn :: gr :: []) S [] R := by
 intro k
 induction k with
 | zero =>
  intro i g5 g6 g7 g8 g9 gP gQ gM gF gD gG gH gC gA gB gK gE gL gI gJ gN gO gR gS gT gX gW gU gV gf gg gh gj gk gm gn gr hk hi hE hR
  have hie : i = l.length := by omega
  rw [qQ]
  refine qC ?_
  conv => arg 2; whnf
  simp (maxSteps:=1000000) (disch:=first|assumption|omega|rfl) only [↓gp, gc, Nat.reduceAdd]
  exact hE _ _ _ _ _ _ _ _ _ _ _ _ _ _ _ _ _ _ _ _ _ _ _ _ _ _ _ _ _ _ _ _ _ _ _ _ _ _ (by rw [hie, List.drop_length]; rfl)
 | succ k ih =>
  intro i g5 g6 g7 g8 g9 gP gQ gM gF gD gG gH gC gA gB gK gE gL gI gJ gN gO gR gS gT gX gW gU gV gf gg gh gj gk gm gn gr hk hi hE hR
  have hlt : i < l.length := by omega
  have hdr : l.drop i = l[i] :: l.drop (i + 1) := List.drop_eq_getElem_cons hlt
  rw [hdr, List.all_cons] at hE hR
  have hml := hm _ (List.getElem_mem hlt)
  rw [qQ]
  refine qC ?_
  conv => arg 2; whnf
  cases hc : z20 l[i] with
  | false =>
   have hn : ¬ z4s l[i] = 0 := by simp [z4s, hc]
   simp (maxSteps:=1000000) (disch:=first|assumption|omega|rfl) only [↓gp, gc, Nat.reduceAdd, zbp]
   exact hR _ _ _ _ _ _ _ _ _ _ _ _ _ _ _ _ _ _ _ _ _ _ _ _ _ _ _ _ _ _ _ _ _ _ _ _ _ _ (by rw [hc]; rfl)
  | true =>
   have hn : z4s l[i] = 0 := by simp [z4s, hc]
   rw [hc, Bool.true_and] at hE hR
   simp (maxSteps:=1000000) (disch:=first|assumption|omega|rfl) only [↓gp, gc, Nat.reduceAdd, zbp, hn]
   exact ih (i + 1) _ _ _ _ _ _ _ _ _ _ _ _ _ _ _ _ _ _ _ _ _ _ _ _ _ _ _ _ _ _ _ _ _ _ _ _ _ (by omega) (by omega) hE hR
theorem zfp (s : List UInt8) (hl : s.length < 900000) : Ev cfg 97 [.str s] (.ret (.tup [.d (.sl ((zV s).1.map .str)), .d (.int .i64 (zV s).2)])) := by
 refine z1r rfl rfl q0k ?_
 show Wp cfg (Try.f97.body.getD .skip) ((.d (.str s)) :: uZ (uZ (uZ (uZ ((.tup []) :: (.tup []) :: (.tup []) :: (.tup []) :: []))))) [] [] _
 unfold uZ
 conv => arg 2; whnf
 by_cases h0 : s = []
 ·subst h0
  simp (maxSteps:=1000000) (disch:=first|assumption|omega|rfl) only [↓gp, gc, Nat.reduceAdd, decide_true, decide_false]
  exact z0n rfl rfl rfl rfl rfl rfl
 ·by_cases h1 : (s.length : Int) > 200
  ·have e : zV s = ([], 15) := by unfold zV; rw [if_pos (.inr (.inl (by omega)))]
   simp (maxSteps:=1000000) (disch:=first|assumption|omega|rfl) only [↓gp, gc, Nat.reduceAdd, decide_true, decide_false]
   rw [e]
   exact z0n rfl rfl rfl rfl rfl rfl
  ·obtain ⟨c, r, rfl⟩ : ∃ c r, s = c :: r := by
    cases s with
    | nil => exact absurd rfl h0
    | cons c r => exact ⟨c, r, rfl⟩
   have hix : z4t Try.prog 9 (.d (.str (c :: r))) (.d (.int .i64 0)) = some (.d (.int .u8 c.toNat)) := znq (i := 0) (s := c :: r) Try.underlying9 (by simp)
   have e47 : c = 47 ↔ (c.toNat : Int) = 47 := ⟨fun h => by rw [h]; rfl, fun h => UInt8.toNat_inj.1 (by show c.toNat = 47; omega)⟩
   by_cases h2 : (c.toNat : Int) = 47
   ·have hc : c = 47 := e47.2 h2
    subst hc
    by_cases h3 : r = []
    ·subst h3
     simp (maxSteps:=1000000) (disch:=first|assumption|omega|rfl) only [↓gp, gc, Nat.reduceAdd, decide_true, decide_false, hix]
     exact z0n rfl rfl rfl rfl rfl rfl
    ·have h3' : ¬ (47 :: r) = [47] := fun h => h3 (by simpa using h)
     have hrl : r.length < 900000 := by simp at hl; omega
     have hsl := z9b r []
     have hll : (spl [] r).length < 1000000 := by omega
     have e : zV (47 :: r) = match z0f [] r with | none => ([], 15) | some l => if l.all z20 then (l, 0) else ([], 3) := by
      unfold zV
      rw [if_neg (by simp at h1 ⊢; omega), if_neg (by intro h; exact h3 (by simpa using h))]
      rfl
     rw [z8z] at e
     simp (maxSteps:=1000000) (disch:=first|assumption|omega|rfl) only [↓gp, gc, Nat.reduceAdd, decide_true, decide_false, hix, zfh]
     refine zux (spl [] r) hll _ _ _ _ _ _ _ (spl [] r).length 0 _ _ _ _ _ _ _ _ _ _ _ _ _ _ _ _ _ _ _ _ _ _ _ _ _ _ _ _ _ _ _ _ _ _ _ _ _ rfl (by omega) ?_ ?_
     ·intro i' g5 g6 g7 g8 g9 gP gQ gM gF gD gG gH gC gA gB gK gE gL gI gJ gS gT gX gW gU gV gZ gY gi gf gg gh gj gk gm gn gr hne
      rw [List.drop_zero] at hne
      rw [if_neg hne] at e
      simp only at e
      simp (maxSteps:=1000000) (disch:=first|assumption|omega|rfl) only [↓gp, gc, Nat.reduceAdd, decide_true, decide_false]
      refine zt3 (spl [] r) hll (fun x hx => by have := zho r [] x hx; simp at this; omega) _ _ _ _ _ _ _ (spl [] r).length 0 _ _ _ _ _ _ _ _ _ _ _ _ _ _ _ _ _ _ _ _ _ _ _ _ _ _ _ _ _ _ _ _ _ _ _ _ _ rfl (by omega) ?_ ?_
      ·intro i' g5 g6 g7 g8 g9 gP gQ gM gF gD gG gH gC gA gB gK gE gL gI gJ gN gO gR gS gT gX gW gU gV gf gg gh gj gk gm gn gr ha
       rw [List.drop_zero] at ha
       rw [if_pos ha] at e
       simp (maxSteps:=1000000) (disch:=first|assumption|omega|rfl) only [↓gp, gc, Nat.reduceAdd, decide_true, decide_false]
       rw [e]
       exact z0n rfl rfl rfl rfl rfl rfl
      ·intro i' g5 g6 g7 g8 g9 gP gQ gM gF gD gG gH gC gA gB gK gE gL gI gJ gN gO gR gS gT gX gW gU gV gf gg gh gj gk gm gn gr ha
       rw [List.drop_zero] at ha
       rw [if_neg (by rw [ha]; exact Bool.noConfusion)] at e
       simp (maxSteps:=1000000) (disch:=first|assumption|omega|rfl) only [↓gp, gc, Nat.reduceAdd, decide_true, decide_false]
       rw [e]
       exact z0n rfl rfl rfl rfl rfl rfl
     ·intro i' g5 g6 g7 g8 g9 gP gQ gM gF gD gG gH gC gA gB gK gE gL gI gJ gS gT gX gW gU gV gZ gY gi gf gg gh gj gk gm gn gr hne
      rw [List.drop_zero] at hne
      rw [if_pos hne] at e
      simp (maxSteps:=1000000) (disch:=first|assumption|omega|rfl) only [↓gp, gc, Nat.reduceAdd, decide_true, decide_false]
      rw [e]
      exact z0n rfl rfl rfl rfl rfl rfl
   ·have e : zV (c :: r) = ([], 15) := by
     unfold zV
     rw [if_pos (.inr (.inr (by simp; exact fun h => h2 (e47.1 h))))]
    simp (maxSteps:=1000000) (disch:=first|assumption|omega|rfl) only [↓gp, gc, Nat.reduceAdd, decide_true, decide_false, hix]
    rw [e]
    exact z0n rfl rfl rfl rfl rfl rfl
theorem z5c {ops : Array Oper} {dst : Option Tmp} {k : List Oper} {T : List V} {S : zA} {F : Dfs} {Q : Post} {s : List UInt8} (hl : s.length < 900000) :
  WpR cfg ops dst k T S F Q (some (.enter 97 [.d (.str s)])) = WpL cfg ops k (putT T dst (.tup [.d (.sl ((zV s).1.map .str)), .d (.int .i64 (zV s).2)])) S F Q :=
 jI (ds := [.str s]) rfl (zfp s hl)
def upN (s : List UInt8) : List (List UInt8) × List UInt8 × Int :=
 if (zV s).2 ≠ 0 then ([], [], (zV s).2)
 else if (zV s).1.length = 0 then ([], [], 15)
 else ((zV s).1.take ((zV s).1.length - 1), (zV s).1.getD ((zV s).1.length - 1) [], 0)
theorem q1l (s : List UInt8) (hl : s.length < 900000) : Ev cfg 101 [.str s] (.ret (.tup [.d (.sl ((upN s).1.map .str)), .d (.str (upN s).2.1), .d (.int .i64 (upN s).2.2)])) := by
 refine z1r rfl rfl zty ?_
 show Wp cfg (Try.f101.body.getD .skip) ((.d (.str s)) :: uZ (uZ ((.tup []) :: (.tup []) :: (.tup []) :: (.tup []) :: (.tup []) :: (.tup []) :: (.tup []) :: (.tup []) :: []))) [] [] _
 unfold uZ
 conv => arg 2; whnf
 generalize hr : upN s = q
 unfold upN at hr
 have hn := z7k s
 by_cases h : (zV s).2 = 0
 ·rw [if_neg (by simp [h])] at hr
  by_cases h0 : (zV s).1.length = 0
  ·have h0' : ((zV s).1.length : Int) = 0 := by omega
   simp (maxSteps:=1000000) (disch:=first|assumption|omega|rfl) only [↓gp, gc, Nat.reduceAdd, z5c]
   rw [if_pos h0] at hr
   subst hr
   exact z78 rfl rfl rfl rfl rfl rfl rfl rfl rfl
  ·have h0' : ¬ ((zV s).1.length : Int) = 0 := by omega
   rw [if_neg h0] at hr
   have hsl := zvt (S := []) (P := Try.prog) (t := 42) (e := 9) (xs := (zV s).1.map D.str) (hi := ((zV s).1.length : Int) - 1) Try.underlying42 (by simp only [List.all_map, List.all_eq_true]; intro x _; exact zus x) zv4 (by omega) (by simp only [List.length_map]; omega)
   rw [← List.map_take, show (((zV s).1.length : Int) - 1).toNat = (zV s).1.length - 1 by omega] at hsl
   have hlt : (zV s).1.length - 1 < (zV s).1.length := by omega
   have hix := ix42 (S := []) hlt
   rw [show (((zV s).1.length - 1 : Nat) : Int) = ((zV s).1.length : Int) - 1 by omega] at hix
   simp (maxSteps:=1000000) (disch:=first|assumption|omega|rfl) only [↓gp, gc, Nat.reduceAdd, z5c]
   refine jA (is := [0, 1, 2, 3, 4, 5, 6, 7, 8, 9, 10, 11, 12, 13]) (h := 0) (by kernel_rfl) (by kernel_rfl) ?_
   simp (maxSteps:=1000000) (disch:=first|assumption|omega|rfl) only [List.replicate_zero, eq_self, gd, ga, Nat.reduceAdd, ↓gq, Option.map_some, Option.map_none, hsl, hix]
   refine ⟨by kernel_rfl, ?_⟩
   simp (maxSteps:=1000000) (disch:=first|assumption|omega|rfl) only [↓gp, gc, Nat.reduceAdd]
   subst hr
   rw [List.getD_eq_getElem?_getD, List.getElem?_eq_getElem hlt]
   exact z78 rfl rfl rfl rfl rfl rfl rfl rfl rfl
 ·simp (maxSteps:=1000000) (disch:=first|assumption|omega|rfl) only [↓gp, gc, Nat.reduceAdd, z5c]
  rw [if_pos h] at hr
  subst hr
  exact z78 rfl rfl rfl rfl rfl rfl rfl rfl rfl
theorem z4f {C : Cfg} {ops : Array Oper} {dst : Option Tmp} {ty : TypeId} {pos : String} {after : Array Edge} {l : List Oper} {T : List V} {S : zA} {F : Dfs} {Q : Post} {t : TypeId} : WpL C ops (⟨dst, .makeMap t none, ty, pos, after, none⟩ :: l) T S F Q = WpL C ops l (putT T dst (.mr S.length)) (S ++ [.mp [] 0]) F Q := by
 rw [vV rfl]; rfl
def za0 (t : List Node) : List Int → Prop
 | [] => False
 | i :: r => hasN t i = true ∧ match r with
  | [] => i = 1
  | j :: _ => i ≠ 1 ∧ (getN t i).parent = j ∧ za0 t r
theorem eqI {a b : Int} : eqV Try.prog 3 (.d (.int .i64 a)) (.d (.int .i64 b)) = some (a == b) := by kernel_rfl
theorem keyI {k : Int} : z8f Try.prog 3 (.d (.int .i64 k)) = true := by kernel_rfl
theorem z3 : zeroV Try.prog 3 = some (.d (.int .i64 0)) := by kernel_rfl
def mapD (t : List Node) : List (D × D) := t.map fun n => (.int .i64 n.ino, zB n)
theorem zfm {S S' : zA} {v : V} {e : TypeId} {xs : List V} (h : OwnS S v e xs) (hk : ∀ (j : Nat) (ys : List V) (u : TypeId), S[j]? = some (.row ys u) → S'[j]? = some (.row ys u)) : OwnS S' v e xs := by
 rcases h with h | ⟨j, rfl, h1⟩
 ·exact .inl h
 ·exact .inr ⟨j, rfl, hk _ _ _ h1⟩
def MapN (S : zA) : Nat → List Node → List (D × V × Nat) → Prop
 | _, [], [] => True
 | c, n :: ns, e :: es => (∃ v1 v2, e = (.int .i64 n.ino, zD n v1 v2, c) ∧ OwnS S v1 5 (n.data.map fun b => .d (.int .u8 b.toNat)) ∧ OwnS S v2 88 (n.names.map fun x => .d (zJ x))) ∧ MapN S (c + 1) ns es
 | _, _, _ => False
theorem MapN.keep {S S' : zA} (hk : ∀ (j : Nat) (ys : List V) (u : TypeId), S[j]? = some (.row ys u) → S'[j]? = some (.row ys u)) : ∀ {ns : List Node} {es : List (D × V × Nat)} {c : Nat}, MapN S c ns es → MapN S' c ns es
 | [], [], _, _ => trivial
 | n :: ns, e :: es, c, ⟨⟨v1, v2, h0, h1, h2⟩, h3⟩ => ⟨⟨v1, v2, h0, zfm h1 hk, zfm h2 hk⟩, MapN.keep hk h3⟩
theorem MapN.snoc {S : zA} {n : Node} {v1 v2 : V} (h1 : OwnS S v1 5 (n.data.map fun b => .d (.int .u8 b.toNat))) (h2 : OwnS S v2 88 (n.names.map fun x => .d (zJ x))) : ∀ {ns : List Node} {es : List (D × V × Nat)} {c : Nat}, MapN S c ns es → MapN S c (ns ++ [n]) (es ++ [(.int .i64 n.ino, zD n v1 v2, c + ns.length)])
 | [], [], c, _ => ⟨⟨v1, v2, rfl, h1, h2⟩, trivial⟩
 | m :: ns, e :: es, c, ⟨h3, h4⟩ => by
  have := MapN.snoc h1 h2 h4
  rw [show c + 1 + ns.length = c + (m :: ns).length by simp; omega] at this
  exact ⟨h3, this⟩
theorem MapN.no {S : zA} {k : Int} : ∀ {ns : List Node} {es : List (D × V × Nat)} {c i : Nat}, MapN S c ns es → k ∉ ns.map (·.ino) → findD Try.prog 3 (.d (.int .i64 k)) es i = some none
 | [], [], _, _, _, _ => rfl
 | n :: ns, e :: es, c, i, ⟨⟨v1, v2, h0, _, _⟩, h3⟩, hk => by
  subst h0
  have h1 : (k == n.ino) = false := by rw [beq_eq_false_iff_ne]; rintro rfl; exact hk (by simp)
  simp only [findD, eqI, h1]
  exact MapN.no h3 (fun hh => hk (by simp at hh ⊢; exact .inr hh))
theorem MapN.frz {S : zA} : ∀ {ns : List Node} {es : List (D × V × Nat)} {c : Nat}, MapN S c ns es → allO (fun (e : D × V × Nat) => (frz S 9 e.2.1).map fun x => (e.1, x)) es = some (mapD ns)
 | [], [], _, _ => rfl
 | n :: ns, e :: es, c, ⟨⟨v1, v2, h0, h1, h2⟩, h3⟩ => by
  subst h0
  have hf : Go.Vm.frz S 9 (zD n v1 v2) = some (zB n) := zas (k := 6) h1 h2
  simp only [allO, hf, Option.map_some, MapN.frz h3]
  rfl
theorem q2q {i : Nat} : z1j Try.prog 127 [(0, .mr i)] = some (.agg [.mr i]) := by kernel_rfl
theorem q2r {i : Nat} : qD Try.prog 127 (.agg [.mr i]) = true := by kernel_rfl
theorem vB {j x y : Nat} : zP Try.prog 127 0 (.ref j x y) = some (.ref j x (y + 0)) := by kernel_rfl
theorem wX {i : Nat} : kE Try.prog 125 0 (some (.agg [.mr i])) = some (.mr i) := by kernel_rfl
theorem jG {P : Program} {S : zA} {T : List V} {dst : Option Tmp} {ty : TypeId} {pos : String} {after : Array Edge} {g : Option (Nat × Bool)} {t : TypeId} {m k x : Operand} : opV P S T ⟨dst, .mapUpdate t m k x, ty, pos, after, g⟩ = (qS P S t (zG T m) (zG T k) (zG T x)).map fun S' => .skip S' 3 := rfl
def nilS (S : zA) : V → Option Rs
 | .ref i ix off => some (.val (.ref i ix off) S 0)
 | .d (.ptr x) => some (.val (.d (.ptr x)) S 0)
 | .fn (.func g) a b => some (.val (.fn (.func g) a b) S 0)
 | _ => none
theorem qP {P : Program} {S : zA} {T : List V} {dst : Option Tmp} {ty : TypeId} {pos : String} {after : Array Edge} {g : Option (Nat × Bool)} {x : Operand} : opV P S T ⟨dst, .nilCheck x, ty, pos, after, g⟩ = nilS S (zG T x) := by
 simp only [opV]
 generalize zG T x = v
 cases v with
 | d y => cases y <;> rfl
 | fn f a b => cases f <;> rfl
 | _ => rfl
theorem qI {S : zA} {i ix off : Nat} : nilS S (.ref i ix off) = some (.val (.ref i ix off) S 0) := rfl
theorem zrj {C : Cfg} {ops : Array Oper} {dst : Option Tmp} {ty : TypeId} {pos : String} {after : Array Edge} {l : List Oper} {T : List V} {S : zA} {F : Dfs} {Q : Post} {x : Operand} : WpL C ops (⟨dst, .nilCheck x, ty, pos, after, none⟩ :: l) T S F Q = WpR C ops dst l T S F Q (nilS S (zG T x)) := by
 rw [vV rfl, qP]
def PanQ (o : Out) : Post := fun x T S F => ∃ v, x = .pan v ∧ F = [] ∧ z22 S (.pan v) = some o
theorem ze7 {C : Cfg} {f : FuncId} {c : Code} {n : Nat} {rs : Array ResultVar} {ds : List D} {o : Out} (hx : C.ext f = none) (hc : C.catch_ f = none) (hb : zF C.P f = some ⟨c, n, rs⟩)
  (h : Wp C c (z05 n (ds.map .d)) [] [] (post C [] (PanQ o))) : Ev C f ds o := by
 obtain ⟨m, x, T, S, F, h1, v, rfl, rfl, h4⟩ := h
 refine ⟨m + 1, ?_⟩
 unfold runD answer
 simp only [hx, run, hc, hb, h1]
 exact h4
theorem zck {C : Cfg} {S : zA} {ops : Array Oper} {dst : Option Tmp} {l : List Oper} {T : List V} {F : Dfs} {Q : Post} {f : FuncId} {ds : List D} {v : V} (hs : C.shared f = false) (he : Ev C f ds (.pan v)) :
  WpR C ops dst l T S F Q (some (.enter f (ds.map .d))) = Q (.pan v) T S F := by
 obtain ⟨n, hn⟩ := he
 have hn' : answer C (run C n) f ds = some (.pan v) := hn
 have hfz : ∀ ds : List D, allO (frz S zR) (ds.map V.d) = some ds := by
  intro ds
  induction ds with
  | nil => rfl
  | cons x r ih => simp only [List.map_cons, allO, ih, zq0]
 have hid : ((ds.map V.d).flatMap (qH S zR)).isEmpty = true := by rw [zns]; rfl
 have hc : kR C (run C n) f (ds.map .d) S = some (.pan v, S, 1) := by
  unfold kR
  simp only [hs, Bool.false_eq_true, if_false, hfz, hn', hid, if_true]
 apply propext
 constructor
 ·rintro ⟨m, o, S', c, h1, h2⟩
  have := z3o h1 hc
  simp only [Prod.mk.injEq] at this
  obtain ⟨rfl, rfl, rfl⟩ := this
  exact h2
 ·exact fun h => ⟨n, _, _, _, hc, h⟩
def panS (Q : Post) (T : List V) (S : zA) (F : Dfs) : V → Prop
 | .iface t v => Q (.pan (.iface t v)) T S F
 | .d (.iface t v) => Q (.pan (.d (.iface t v))) T S F
 | _ => False
theorem zqs {C : Cfg} {ops : Array Oper} {dst : Option Tmp} {ty : TypeId} {pos : String} {after : Array Edge} {l : List Oper} {T : List V} {S : zA} {F : Dfs} {Q : Post} {x : Operand} : WpL C ops (⟨dst, .panic x, ty, pos, after, none⟩ :: l) T S F Q = panS Q T S F (zG T x) := by
 apply propext
 have hp : z1h C.P T ⟨dst, .panic x, ty, pos, after, none⟩ l = none := z1w rfl
 generalize he : zG T x = v
 constructor
 ·rintro ⟨n, y, T', S', F', h1, h2⟩
  simp only [seqV, hp, qB, opV, he] at h1
  cases v with
  | iface t u => simp only [Option.some.injEq, Prod.mk.injEq] at h1; obtain ⟨rfl, rfl, rfl, rfl⟩ := h1; exact h2
  | d u => cases u <;> simp only [reduceCtorEq, Option.some.injEq, Prod.mk.injEq] at h1; obtain ⟨rfl, rfl, rfl, rfl⟩ := h1; exact h2
  | _ => cases h1
 ·intro h
  cases v with
  | iface t u => exact ⟨0, _, T, S, F, by simp only [seqV, hp, qB, opV, he], h⟩
  | d u => cases u <;> first | exact h.elim | exact ⟨0, _, T, S, F, by simp only [seqV, hp, qB, opV, he], h⟩
  | _ => exact h.elim
def zm9 (t : TypeId) (S : zA) (v : V) : Option Rs := if v.one = true then some (.val (.iface t v) S 0) else none
theorem zkc {ops : Array Oper} {dst : Option Tmp} {ty : TypeId} {pos : String} {after : Array Edge} {l : List Oper} {T : List V} {S : zA} {F : Dfs} {Q : Post} {x : Operand} : WpL cfg ops (⟨dst, .makeInterface 41 x, ty, pos, after, none⟩ :: l) T S F Q = WpR cfg ops dst l T S F Q (zm9 41 S (zG T x)) := by
 rw [vV rfl]
 simp only [opV, hP, Try.underlying41, zm9]
theorem zpt {t : TypeId} {S : zA} {x : D} : zm9 t S (.d x) = some (.val (.iface t (.d x)) S 0) := rfl
theorem zib {P : Program} {x : Ex} {T : List V} {S : zA} (hx : x = .norm ∨ x = .ret) : RetQ P #[] (.ret (.tup [])) x T S [] := ⟨hx, rfl, .tup [], rfl, rfl⟩
def panD (e : Int) : Out := .pan (.d (.iface 41 (.int .i64 e)))
theorem zrn : zF Try.prog 98 = some ⟨Try.f98.body.getD .skip, 6, #[]⟩ := by
 unfold zF
 rw [Try.func98]
 rfl
theorem znt : zF Try.prog 102 = some ⟨Try.f102.body.getD .skip, 7, #[]⟩ := by
 unfold zF
 rw [Try.func102]
 rfl
theorem zwl : Ev cfg 98 [.int .i64 0] (.ret (.tup [])) := by
 refine z1r rfl rfl zrn ?_
 show Wp cfg (Try.f98.body.getD .skip) ((.d (.int .i64 0)) :: (.tup []) :: (.tup []) :: (.tup []) :: (.tup []) :: (.tup []) :: []) [] [] _
 conv => arg 2; whnf
 simp (maxSteps:=1000000) (disch:=first|assumption|omega|rfl) only [↓gp, gc, Nat.reduceAdd, decide_false, ne_eq, not_true_eq_false]
 exact zib (.inl rfl)
theorem zr3 (e : Int) (he : e ≠ 0) : Ev cfg 98 [.int .i64 e] (panD e) := by
 refine ze7 rfl rfl zrn ?_
 show Wp cfg (Try.f98.body.getD .skip) ((.d (.int .i64 e)) :: (.tup []) :: (.tup []) :: (.tup []) :: (.tup []) :: (.tup []) :: []) [] [] _
 conv => arg 2; whnf
 simp (maxSteps:=1000000) (disch:=first|assumption|omega|rfl) only [↓gp, gc, Nat.reduceAdd, ↓zkc, zpt, ↓zqs, panS]
 exact ⟨_, rfl, rfl, rfl⟩
theorem zk6 {ops : Array Oper} {dst : Option Tmp} {k : List Oper} {T : List V} {S : zA} {F : Dfs} {Q : Post} {e : Int} (he : e ≠ 0) :
  WpR cfg ops dst k T S F Q (some (.enter 98 [.d (.int .i64 e)])) = Q (.pan (.d (.iface 41 (.int .i64 e)))) T S F :=
 zck (ds := [.int .i64 e]) rfl (zr3 e he)
theorem zxo (e : Int) : Ev cfg 102 [.bool false, .int .i64 e] (.ret (.tup [])) := by
 refine z1r rfl rfl znt ?_
 show Wp cfg (Try.f102.body.getD .skip) ((.d (.bool false)) :: (.d (.int .i64 e)) :: (.tup []) :: (.tup []) :: (.tup []) :: (.tup []) :: (.tup []) :: []) [] [] _
 conv => arg 2; whnf
 simp (maxSteps:=1000000) (disch:=first|assumption|omega|rfl) only [↓gp, gc, Nat.reduceAdd]
 exact zib (.inl rfl)
theorem zwd (e : Int) (he : e ≠ 0) : Ev cfg 102 [.bool true, .int .i64 e] (panD e) := by
 refine ze7 rfl rfl znt ?_
 show Wp cfg (Try.f102.body.getD .skip) ((.d (.bool true)) :: (.d (.int .i64 e)) :: (.tup []) :: (.tup []) :: (.tup []) :: (.tup []) :: (.tup []) :: []) [] [] _
 conv => arg 2; whnf
 simp (maxSteps:=1000000) (disch:=first|assumption|omega|rfl) only [↓gp, gc, Nat.reduceAdd, zk6 he]
 exact ⟨_, rfl, rfl, rfl⟩
theorem z9n {t : List Node} {k : Int} : ∀ {i : Nat}, findD Try.prog 3 (.d (.int .i64 k)) ((mapD t).map fun e => (e.1, V.d e.2)) i = some none ∧ t.find? (fun n => decide (n.ino = k)) = none ∨ ∃ j n, findD Try.prog 3 (.d (.int .i64 k)) ((mapD t).map fun e => (e.1, V.d e.2)) i = some (some (j, .d (zB n))) ∧ t.find? (fun n => decide (n.ino = k)) = some n := by
 induction t with
 | nil => exact fun {i} => .inl ⟨rfl, rfl⟩
 | cons n r ih =>
  intro i
  by_cases h : n.ino = k
  ·refine .inr ⟨i, n, ?_, by simp [h]⟩
   simp only [mapD, List.map_cons, findD, eqI, h, beq_self_eq_true]
  ·have h1 : (k == n.ino) = false := by rw [beq_eq_false_iff_ne]; exact fun hh => h hh.symm
   simp only [mapD, List.map_cons, findD, eqI, h1]
   rcases ih (i := i + 1) with ⟨h2, h3⟩ | ⟨j, m, h2, h3⟩
   ·exact .inl ⟨h2, by simp [h, h3]⟩
   ·exact .inr ⟨j, m, h2, by simp [h, h3]⟩
theorem zqh {t : List Node} {i : Int} : hasN t i = decide (0 ≤ vI i 0 t) := by
 unfold hasN
 rcases z1a i t 0 with ⟨h1, h2⟩ | ⟨k, hk, h1, h2⟩
 ·rw [h1, h2]; rfl
 ·rw [h1, h2, decide_eq_true (by omega)]; rfl
theorem z92 {t : List Node} : ∀ {k : Nat} {i j : Int}, i ≤ j → j < za8 t k i → hasN t j = true
 | 0, i, j, h1, h2 => by simp only [za8] at h2; omega
 | k + 1, i, j, h1, h2 => by
  unfold za8 at h2
  split at h2
  ·rename_i hf
   by_cases hij : i = j
   ·rw [zqh, ← hij]; exact decide_eq_true hf
   ·exact z92 (k := k) (i := i + 1) (by omega) h2
  ·omega
def fidx (s : List UInt8) : Nat → List Ent → Option Nat
 | _, [] => none
 | i, e :: r => if e.name = s then some i else fidx s (i + 1) r
theorem z12 {s : List UInt8} : ∀ {l : List Ent} {i : Nat}, (fidx s i l = none ∧ qV l s = -1) ∨ ∃ k, ∃ h : k < l.length, fidx s i l = some (i + k) ∧ qV l s = l[k].ino
 | [], i => .inl ⟨rfl, rfl⟩
 | e :: r, i => by
  by_cases h : e.name = s
  ·refine .inr ⟨0, by simp, ?_, ?_⟩
   ·simp [fidx, h]
   ·rw [zm8 h]; rfl
  ·rcases z12 (s := s) (l := r) (i := i + 1) with ⟨h1, h2⟩ | ⟨k, hk, h1, h2⟩
   ·exact .inl ⟨by simp only [fidx, h, if_false, h1], by rw [zds h, h2]⟩
   ·refine .inr ⟨k + 1, by simp; omega, ?_, ?_⟩
    ·simp only [fidx, h, if_false, h1]
     rw [show i + 1 + k = i + (k + 1) by omega]
    ·rw [zds h, h2]; rfl
theorem zsk (n : Node) (s : List UInt8) (hl : n.names.length < 1000000) (R : Post) (g3 g8 : V) : ∀ (k i : Nat) (S : zA) (v6 v7 gM gF gD gG gH gC gA gB gK gE : V), n.names.length - i = k → i ≤ n.names.length →
 (∀ S v6 v7 i' gM gF gD gG gH gC gA gB gK gE, fidx s i (n.names.drop i) = none → R (.exit 0) ((.d (zB n)) :: (.d (.str s)) :: (.ref 0 0 0) :: g3 :: (.d (.int .i64 0)) :: (.d (.bool false)) :: v6 :: v7 :: g8 :: (.d (.sl (n.names.map zJ))) :: (.d (.int .i64 n.names.length)) :: i' :: gM :: gF :: gD :: gG :: gH :: gC :: gA :: gB :: gK :: gE :: []) S []) →
 (∀ S v6 v7 i' (j : Nat) gM gF gD gG gH gC gA gB gK gE, fidx s i (n.names.drop i) = some j → R .ret ((.d (zB n)) :: (.d (.str s)) :: (.ref 0 0 0) :: g3 :: (.d (.int .i64 j)) :: (.d (.bool true)) :: v6 :: v7 :: g8 :: (.d (.sl (n.names.map zJ))) :: (.d (.int .i64 n.names.length)) :: i' :: gM :: gF :: gD :: gG :: gH :: gC :: gA :: gB :: gK :: gE :: []) S []) →
 Wp cfg (.loop (lpOf (Try.f105.body.getD .skip) 0)) ((.d (zB n)) :: (.d (.str s)) :: (.ref 0 0 0) :: g3 :: (.d (.int .i64 0)) :: (.d (.bool false)) :: v6 :: v7 :: g8 :: (.d (.sl (n.names.map zJ))) :: (.d (.int .i64 n.names.length)) :: (.d (.int .i64 i)) :: gM :: gF :: gD :: gG :: gH :: gC :: gA :: gB :: gK :: gE :: []) S [] R := by
 intro k
 induction k with
 | zero =>
  intro i S v6 v7 gM gF gD gG gH gC gA gB gK gE hk hi hE hR
  have hie : i = n.names.length := by omega
  rw [qQ]
  refine qC ?_
  conv => arg 2; whnf
  simp (maxSteps:=1000000) (disch:=first|assumption|omega|rfl) only [↓gp, gc, Nat.reduceAdd]
  exact hE _ _ _ _ _ _ _ _ _ _ _ _ _ _ (by rw [hie, List.drop_length]; rfl)
 | succ k ih =>
  intro i S v6 v7 gM gF gD gG gH gC gA gB gK gE hk hi hE hR
  have hlt : i < n.names.length := by omega
  have hdr : n.names.drop i = n.names[i] :: n.names.drop (i + 1) := List.drop_eq_getElem_cons hlt
  rw [hdr] at hE hR
  rw [qQ]
  refine qC ?_
  conv => arg 2; whnf
  by_cases hc : n.names[i].name = s
  ·have e : fidx s i (n.names[i] :: n.names.drop (i + 1)) = some i := by simp only [fidx, hc, if_true]
   simp (maxSteps:=1000000) (disch:=first|assumption|omega|rfl) only [↓gp, gc, Nat.reduceAdd, zL, zI]
   exact hR _ _ _ _ _ _ _ _ _ _ _ _ _ _ _ e
  ·have e : fidx s i (n.names[i] :: n.names.drop (i + 1)) = fidx s (i + 1) (n.names.drop (i + 1)) := by simp only [fidx, hc, if_false]
   rw [e] at hE hR
   simp (maxSteps:=1000000) (disch:=first|assumption|omega|rfl) only [↓gp, gc, Nat.reduceAdd, zL, zI]
   exact ih (i + 1) _ _ _ _ _ _ _ _ _ _ _ _ _ (by omega) (by omega) hE hR
def vR (n : Node) (s : List UInt8) : Int × Bool := match fidx s 0 n.names with | some j => ((j : Nat), true) | none => (0, false)
theorem zq6 (n : Node) (s : List UInt8) (hl : n.names.length < 1000000) : Ev cfg 105 [zB n, .str s] (.ret (.tup [.d (.int .i64 (vR n s).1), .d (.bool (vR n s).2)])) := by
 refine z1r rfl rfl zv3 ?_
 show Wp cfg (Try.f105.body.getD .skip) ((.d (zB n)) :: (.d (.str s)) :: uZ (uZ [])) [] [] _
 unfold uZ
 conv => arg 2; whnf
 simp (maxSteps:=1000000) (disch:=first|assumption|omega|rfl) only [↓gp, gc, Nat.reduceAdd]
 refine zsk n s hl _ _ _ n.names.length 0 _ _ _ _ _ _ _ _ _ _ _ _ _ rfl (by omega) ?_ ?_
 ·intro S v6 v7 i' gM gF gD gG gH gC gA gB gK gE h
  rw [List.drop_zero] at h
  simp (maxSteps:=1000000) (disch:=first|assumption|omega|rfl) only [↓gp, gc, Nat.reduceAdd]
  unfold vR
  rw [h]
  exact z0n rfl rfl rfl rfl rfl rfl
 ·intro S v6 v7 i' j gM gF gD gG gH gC gA gB gK gE h
  rw [List.drop_zero] at h
  simp (maxSteps:=1000000) (disch:=first|assumption|omega|rfl) only [↓gp, gc, Nat.reduceAdd]
  unfold vR
  rw [h]
  exact z0n rfl rfl rfl rfl rfl rfl
structure Told (t : List Node) : Prop where
 root : hasN t 1 = true
 has : ∀ x, ∀ e ∈ (getN t x).names, hasN t e.ino = true
 ge2 : ∀ x, ∀ e ∈ (getN t x).names, 2 ≤ e.ino
end Go.Proofs.Ytghllhghboaagaa
end
section
namespace Go.Vm
open Go
section
variable {C : Cfg} {ops : Array Oper} {base : Nat} {F : Dfs} {Q : Post}
theorem jB {dst : Option Tmp} {l : List Oper} {T : List V} {S : zA} {f : FuncId} {args : List V} {R : Out → zA → Prop} (hs : C.shared f = true) (he : EvS C f args S R) (hk : ∀ v S', R (.ret v) S' → WpL C ops l (putT T dst v) S' F Q) (hpan : ∀ v S', R (.pan v) S' → Q (.pan v) T S' F) : WpR C ops dst l T S F Q (some (.enter f args)) := by
 obtain ⟨n, out, S', hn, hR⟩ := he
 have hc : kR C (run C n) f args S = some (out, S', 3) := by
  unfold kR
  simp only [hs, if_true, hn, Option.map_some]
 refine ⟨n, out, S', 3, hc, ?_⟩
 cases out with
 | ret v => exact hk v S' hR
 | pan v => exact hpan v S' hR
theorem zev {f g : FuncId} {first caps : List V} {S : zA} {R R' : Out → zA → Prop} {pst : Out → Option V} (hc : C.catch_ f = some pst) (he : EvS C g (first ++ caps) S R) (hR : ∀ o S', R o S' → ∃ v, pst o = some v ∧ R' (.ret v) S') : EvS C f [.fn (.func g) first caps] S R' := by
 obtain ⟨n, o, S', hn, hr⟩ := he
 obtain ⟨v, hv, hr'⟩ := hR o S' hr
 exact ⟨n + 1, .ret v, S', by simp only [run, hc, hn, hv], hr'⟩
def RQ (P : Program) (rs : Array ResultVar) (R : Out → zA → Prop) : Post := fun x T S F => F = [] ∧ match x with | .norm => ∃ v, jF P rs T S = some v ∧ R (.ret v) S | .ret => ∃ v, jF P rs T S = some v ∧ R (.ret v) S | .pan v => R (.pan v) S | .exit _ => False
theorem wJ {f : FuncId} {c : Code} {n : Nat} {rs : Array ResultVar} {args : List V} {S : zA} {R : Out → zA → Prop} (hc : C.catch_ f = none) (hb : zF C.P f = some ⟨c, n, rs⟩) (h : Wp C c (z05 n args) S [] (RQ C.P rs R)) : EvS C f args S R := zmw hc hb h
def mfS (fn : Fn) (S : zA) (xs ys : List V) : Option Rs := if xs.all V.one && ys.all V.one then some (.val (.fn fn xs ys) S 0) else none
theorem z9y {dst : Option Tmp} {ty : TypeId} {pos : String} {after : Array Edge} {l : List Oper} {T : List V} {S : zA} {fn : Fn} {first caps : Array Operand} : WpL C ops (⟨dst, .makeFunc fn first caps, ty, pos, after, none⟩ :: l) T S F Q = WpR C ops dst l T S F Q (mfS fn S (first.toList.map (zG T)) (caps.toList.map (zG T))) := by
 rw [vV rfl]; rfl
end
theorem z8q {P : Program} {T : List V} {dst : Option Tmp} {ty : TypeId} {pos : String} {after : Array Edge} {g : Option (Nat × Bool)} {e : TypeId} {z : V} (hz : zeroV P e = some z) (hf : qD P e z = true) : addO P T ⟨dst, .alloc e, ty, pos, after, g⟩ = some (.row [z] e, fun id => .ref id 0 0) := by
 simp only [addO, hz, hf, if_true]
end Go.Vm
end
section
namespace Go.Proofs.Ytghllhghboaagaa
open Go.Vm

theorem zzy {fn : Fn} {S : zA} {a b c d e f g h i : Nat} : mfS fn S [] [.ref a b c, .ref d e f, .ref g h i] = some (.val (.fn fn [] [.ref a b c, .ref d e f, .ref g h i]) S 0) := rfl
theorem bo42 : (zF Try.prog 42).isSome = true := by kernel_rfl
theorem z8t {dst : Option Tmp} {ty : TypeId} {pos : String} {after : Array Edge} {g : Option (Nat × Bool)} {t : TypeId} : kS ⟨dst, .alloc t, ty, pos, after, g⟩ = true := rfl
theorem zsr {t : List Node} (hT : Told t) : ∀ (ps : List (List UInt8)) (d : Int), hasN t d = true → (goN t ps d).2 = 0 → hasN t (goN t ps d).1 = true := fun ps => by
 induction ps with
 | nil => intro d hd _; exact hd
 | cons p r ih =>
  intro d hd h
  unfold goN at h ⊢
  split at h
  ·simp at h
  ·split at h
   ·simp at h
   ·rename_i h1 h2
    rw [if_neg h1, if_neg h2]
    rcases z12 (s := p) (l := (getN t d).names) (i := 0) with ⟨_, h3⟩ | ⟨j, hj, _, h3⟩
    ·rw [h3] at h2; exact absurd (by omega) h2
    ·rw [h3] at h ⊢
     exact ih _ (hT.has d _ (List.getElem_mem hj)) h
end Go.Proofs.Ytghllhghboaagaa
end
