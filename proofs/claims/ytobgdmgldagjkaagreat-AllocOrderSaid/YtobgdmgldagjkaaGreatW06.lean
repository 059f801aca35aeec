/- Facts on the program's types, and its functions' bodies: written by mkty.py. -/
import Derived.Test.YtobgdmgldagjkaaGreatProg
import Derived.Test.YtobgdmgldagjkaaGreatW05
set_option linter.unusedVariables false
set_option linter.unusedSimpArgs false
set_option maxRecDepth 100000
set_option maxHeartbeats 4000000
set_option linter.defProp false
section
namespace Go.Proofs.YtobgdmgldagjkaaGreat
open Go.Vm
def mask:Nat:=189675528937278537056026126315471541604245297724416
noncomputable def cfg:Cfg:={ P:=Tryz.prog,mixed:=by kernel_rfl,shared:=fun f=>Nat.testBit mask f,ext:=fun f=>Option.none,catch_:=fun f=>Option.none }
theorem hP:cfg.P=Tryz.prog:=rfl
def encB (l:List UInt8):D:= .sl (l.map fun b=>.int .u8 b.toNat)
theorem zms (a:Int):z14 Tryz.prog 3 (.int .i64 a)=true:=by kernel_rfl
theorem z7k (a:Int):qA Tryz.prog 3 (.d (.int .i64 a))=true:=by kernel_rfl
theorem ff3 {a:Int}:qA Tryz.prog 3 (.d (.int .i64 a))=true:=by kernel_rfl
theorem ld3 {S:zA} {a:Int}:kN Tryz.prog S 3 (.d (.ptr (.int .i64 a)))=some (.d (.int .i64 a)):=by kernel_rfl
theorem ff47 {a:Int}:qA Tryz.prog 47 (.d (.int .i64 a))=true:=by kernel_rfl
theorem q08 (a:Int):z14 Tryz.prog 5 (.int .u8 a)=true:=by kernel_rfl
theorem zqj (a:Int):qA Tryz.prog 5 (.d (.int .u8 a))=true:=by kernel_rfl
theorem ld5 {S:zA} {a:Int}:kN Tryz.prog S 5 (.d (.ptr (.int .u8 a)))=some (.d (.int .u8 a)):=by kernel_rfl
theorem ff4 {a:Bool}:qA Tryz.prog 4 (.d (.bool a))=true:=by kernel_rfl
structure Lay where
 blocks:Int
 inodes:Int
 merge:Int
 deriving DecidableEq
def encLay (a:Lay):D:= .agg [.int .i64 a.blocks,.int .i64 a.inodes,.int .u64 a.merge]
theorem z32:zeroV Tryz.prog 32=some (.agg [.d (.int .i64 0),.d (.int .i64 0),.d (.int .u64 0)]):=by kernel_rfl
theorem zf32:qA Tryz.prog 32 (.agg [.d (.int .i64 0),.d (.int .i64 0),.d (.int .u64 0)])=true:=by kernel_rfl
theorem zz32  : zeroV Tryz.prog 32=some (.agg [.d (.int .i64 0),.d (.int .i64 0),.d (.int .u64 0)]):=z32
theorem ff32 {a:Lay}:qA Tryz.prog 32 (.d (encLay a))=true:=by kernel_rfl
theorem q0w {x0 x1 x2:V}:qA Tryz.prog 32 (.agg [x0,x1,x2])=true:=by kernel_rfl
theorem lr32 {a:Lay}:qZ Tryz.prog 32 0 (some (.d (encLay a)))=some (.d (encLay a)):=by kernel_rfl
theorem q0c {x0 x1 x2:V}:qZ Tryz.prog 32 0 (some (.agg [x0,x1,x2]))=some (.agg [x0,x1,x2]):=by kernel_rfl
theorem zxd {a:Lay} {x0 x1 x2:V}:qW Tryz.prog 32 0 (.d (encLay a)) (.agg [x0,x1,x2])=some (.d (encLay a)):=by kernel_rfl
theorem q0s {x0 x1 x2 y0 y1 y2:V}:qW Tryz.prog 32 0 (.agg [x0,x1,x2]) (.agg [y0,y1,y2])=some (.agg [x0,x1,x2]):=by kernel_rfl
theorem z3m {a:Lay}:qZ Tryz.prog 3 0 (some (.d (encLay a)))=some ((.d (.int .i64 a.blocks))):=by kernel_rfl
theorem z0y {j x y:Nat}:zX Tryz.prog 32 0 (.ref j x y)=some (.ref j x (y + 0)):=by kernel_rfl
theorem zzv {a:Lay}:qZ Tryz.prog 3 1 (some (.d (encLay a)))=some ((.d (.int .i64 a.inodes))):=by kernel_rfl
theorem zgm {j x y:Nat}:zX Tryz.prog 32 1 (.ref j x y)=some (.ref j x (y + 1)):=by kernel_rfl
theorem zxb {a:Lay}:qZ Tryz.prog 30 2 (some (.d (encLay a)))=some ((.d (.int .u64 a.merge))):=by kernel_rfl
theorem q00 {j x y:Nat}:zX Tryz.prog 32 2 (.ref j x y)=some (.ref j x (y + 2)):=by kernel_rfl
theorem zw5:zOk Tryz.prog 5=true:=by kernel_rfl
theorem zjy {m:Nat} (h:m ≤ 1000000):room Tryz.prog 5 m=true:=zb5 rfl (by decide +kernel) h
theorem ix76 {S:zA} {l:List UInt8} {i:Nat} (h:i < l.length):zM Tryz.prog S 76 (.d (.sl (l.map (fun b:UInt8=>D.int .u8 b.toNat)))) (.d (.int .i64 i))=some (.d (.ptr (.int .u8 (l[i].toNat:Int)))):=zq2 Tryz.underlying76 (fun a=>q08 _) h
theorem zng {S:zA} {xs:List D}:zI Tryz.prog S .len [76] [.d (.sl xs)]=some (.val (.d (.int .i64 xs.length)) S 0):=zq4 Tryz.underlying76
theorem bs76 {S:zA} {a:Int}:bs1 Tryz.prog S 76 (.d (.int .u8 a))=some (.val (.ts [.int .u8 a]) S 0):=by kernel_rfl
theorem zns:zOk Tryz.prog 3=true:=by kernel_rfl
theorem zw8:(sz Tryz.prog 3).isSome=true:=by kernel_rfl
theorem zqo {m:Nat} (h:m ≤ 1000000):room Tryz.prog 3 m=true:=zb5 rfl (by decide +kernel) h
theorem ix22 {S:zA} {l:List Int} {i:Nat} (h:i < l.length):zM Tryz.prog S 22 (.d (.sl (l.map (D.int .i64)))) (.d (.int .i64 i))=some (.d (.ptr ((D.int .i64) l[i]))):=zq2 Tryz.underlying22 (fun a=>zms a) h
theorem zwm {S:zA} {xs:List D}:zI Tryz.prog S .len [22] [.d (.sl xs)]=some (.val (.d (.int .i64 xs.length)) S 0):=zq4 Tryz.underlying22
theorem zu7 {S:zA} {xs:List D}:zI Tryz.prog S .len [22] [.ts xs]=some (.val (.d (.int .i64 xs.length)) S 0):=zj6 Tryz.underlying22
theorem bs22 {S:zA} {a:Int}:bs1 Tryz.prog S 22 (.d (.int .i64 a))=some (.val (.ts [.int .i64 a]) S 0):=by kernel_rfl
theorem ap22 {S:zA} {v:V} {xs:List Int} (a:Int) (ho:OwnS S v 3 (xs.map fun x=>.d (D.int .i64 x))) (hl:xs.length < 1000000) : ∃ v' S' c,qJ Tryz.prog S 22 22 v (.ts [D.int .i64 a])=some (v',S',c)∧OwnS S' v' 3 ((xs ++ [a]).map fun x=>.d (D.int .i64 x))∧(∀ j o,S[j]? = some o→NotAt v j→S'[j]? = some o∧NotAt v' j)∧S.length ≤ S'.length:=zab a Tryz.underlying22 zns zw8 (zms a) ho (zqo (by omega))
theorem q02 {s:List UInt8} {i:Nat} (h:i < s.length):z4z Tryz.prog 9 (.d (.str s)) (.d (.int .i64 i))=some (.d (.int .u8 s[i].toNat)):=zv7 Tryz.underlying9 h
theorem zwa {S:zA} {s:List UInt8}:zI Tryz.prog S .len [9] [.d (.str s)]=some (.val (.d (.int .i64 s.length)) S 0):=zrf Tryz.underlying9
theorem zqz:zB Tryz.prog 100=some ⟨Tryz.f100.body.getD .skip,10, #[.tmp 2]⟩:=by
 unfold zB
 rw [Tryz.func100]
 rfl
theorem zvm  : (zB Tryz.prog 100).isSome=true:=by kernel_rfl
theorem zs9:zB Tryz.prog 101=some ⟨Tryz.f101.body.getD .skip,64, #[.tmp 4]⟩:=by
 unfold zB
 rw [Tryz.func101]
 rfl
theorem zvl  : (zB Tryz.prog 101).isSome=true:=by kernel_rfl
theorem zx5:zB Tryz.prog 63=some ⟨Tryz.f63.body.getD .skip,36, #[.tmp 2]⟩:=by
 unfold zB
 rw [Tryz.func63]
 rfl
theorem bo63  : (zB Tryz.prog 63).isSome=true:=by kernel_rfl
theorem zyp:zB Tryz.prog 31=some ⟨Tryz.f31.body.getD .skip,37, #[.tmp 2,.tmp 3]⟩:=by
 unfold zB
 rw [Tryz.func31]
 rfl
theorem bo31  : (zB Tryz.prog 31).isSome=true:=by kernel_rfl
theorem zvn:zB Tryz.prog 54=some ⟨Tryz.f54.body.getD .skip,11, #[.tmp 2]⟩:=by
 unfold zB
 rw [Tryz.func54]
 rfl
theorem bo54  : (zB Tryz.prog 54).isSome=true:=by kernel_rfl
theorem zzh:zB Tryz.prog 73=some ⟨Tryz.f73.body.getD .skip,10, #[.cell 2 32]⟩:=by
 unfold zB
 rw [Tryz.func73]
 rfl
theorem bo73  : (zB Tryz.prog 73).isSome=true:=by kernel_rfl
theorem zy0:zB Tryz.prog 45=some ⟨Tryz.f45.body.getD .skip,9, #[.tmp 2]⟩:=by
 unfold zB
 rw [Tryz.func45]
 rfl
theorem bo45  : (zB Tryz.prog 45).isSome=true:=by kernel_rfl
theorem zs3:zB Tryz.prog 120=some ⟨Tryz.f120.body.getD .skip,44, #[.cell 2 42,.tmp 3]⟩:=by
 unfold zB
 rw [Tryz.func120]
 rfl
theorem zua  : (zB Tryz.prog 120).isSome=true:=by kernel_rfl
theorem zwh:zB Tryz.prog 80=some ⟨Tryz.f80.body.getD .skip,10, #[.tmp 2]⟩:=by
 unfold zB
 rw [Tryz.func80]
 rfl
theorem bo80  : (zB Tryz.prog 80).isSome=true:=by kernel_rfl
theorem bo77  : (zB Tryz.prog 77).isSome=true:=by kernel_rfl
theorem zsi:zB Tryz.prog 108=some ⟨Tryz.f108.body.getD .skip,13, #[.tmp 2]⟩:=by
 unfold zB
 rw [Tryz.func108]
 rfl
theorem z93  : (zB Tryz.prog 108).isSome=true:=by kernel_rfl
theorem zl2  : (zB Tryz.prog 136).isSome=true:=by kernel_rfl
theorem zqa:zB Tryz.prog 71=some ⟨Tryz.f71.body.getD .skip,46, #[.cell 6 47]⟩:=by
 unfold zB
 rw [Tryz.func71]
 rfl
theorem bo71  : (zB Tryz.prog 71).isSome=true:=by kernel_rfl
theorem zuc:zB Tryz.prog 137=some ⟨Tryz.f137.body.getD .skip,17, #[.cell 2 42]⟩:=by
 unfold zB
 rw [Tryz.func137]
 rfl
theorem zvg  : (zB Tryz.prog 137).isSome=true:=by kernel_rfl
theorem zum:zB Tryz.prog 138=some ⟨Tryz.f138.body.getD .skip,16, #[.tmp 2]⟩:=by
 unfold zB
 rw [Tryz.func138]
 rfl
theorem zuz  : (zB Tryz.prog 138).isSome=true:=by kernel_rfl
theorem zql:zB Tryz.prog 78=some ⟨Tryz.f78.body.getD .skip,21, #[.cell 4 42,.tmp 5]⟩:=by
 unfold zB
 rw [Tryz.func78]
 rfl
theorem bo78  : (zB Tryz.prog 78).isSome=true:=by kernel_rfl
theorem zwj:zB Tryz.prog 79=some ⟨Tryz.f79.body.getD .skip,35, #[.cell 2 32,.tmp 3]⟩:=by
 unfold zB
 rw [Tryz.func79]
 rfl
theorem bo79  : (zB Tryz.prog 79).isSome=true:=by kernel_rfl
theorem q01:zB Tryz.prog 81=some ⟨Tryz.f81.body.getD .skip,9, #[.tmp 2]⟩:=by
 unfold zB
 rw [Tryz.func81]
 rfl
theorem bo81  : (zB Tryz.prog 81).isSome=true:=by kernel_rfl
theorem zxr:zB Tryz.prog 75=some ⟨Tryz.f75.body.getD .skip,29, #[.tmp 2]⟩:=by
 unfold zB
 rw [Tryz.func75]
 rfl
theorem bo75  : (zB Tryz.prog 75).isSome=true:=by kernel_rfl
theorem zrp:zB Tryz.prog 107=some ⟨Tryz.f107.body.getD .skip,39, #[.tmp 6]⟩:=by
 unfold zB
 rw [Tryz.func107]
 rfl
theorem zpv  : (zB Tryz.prog 107).isSome=true:=by kernel_rfl
theorem zrx:zB Tryz.prog 145=some ⟨Tryz.f145.body.getD .skip,6, #[.cell 2 42]⟩:=by
 unfold zB
 rw [Tryz.func145]
 rfl
theorem zzy  : (zB Tryz.prog 145).isSome=true:=by kernel_rfl
theorem zuf:zB Tryz.prog 146=some ⟨Tryz.f146.body.getD .skip,35, #[.cell 8 42]⟩:=by
 unfold zB
 rw [Tryz.func146]
 rfl
theorem zrr  : (zB Tryz.prog 146).isSome=true:=by kernel_rfl
theorem zv1:zB Tryz.prog 147=some ⟨Tryz.f147.body.getD .skip,42, #[.tmp 8,.tmp 9]⟩:=by
 unfold zB
 rw [Tryz.func147]
 rfl
theorem q1g  : (zB Tryz.prog 147).isSome=true:=by kernel_rfl
theorem zsp:zB Tryz.prog 148=some ⟨Tryz.f148.body.getD .skip,34, #[.cell 6 42]⟩:=by
 unfold zB
 rw [Tryz.func148]
 rfl
theorem zt3  : (zB Tryz.prog 148).isSome=true:=by kernel_rfl
theorem zut:zB Tryz.prog 149=some ⟨Tryz.f149.body.getD .skip,5, #[.tmp 2]⟩:=by
 unfold zB
 rw [Tryz.func149]
 rfl
theorem zy4  : (zB Tryz.prog 149).isSome=true:=by kernel_rfl
theorem zts:zB Tryz.prog 122=some ⟨Tryz.f122.body.getD .skip,12, #[.tmp 2,.tmp 3]⟩:=by
 unfold zB
 rw [Tryz.func122]
 rfl
theorem zsj  : (zB Tryz.prog 122).isSome=true:=by kernel_rfl
theorem zm3:zB Tryz.prog 111=some ⟨Tryz.f111.body.getD .skip,25, #[.tmp 4]⟩:=by
 unfold zB
 rw [Tryz.func111]
 rfl
theorem zi2  : (zB Tryz.prog 111).isSome=true:=by kernel_rfl
theorem zvf:zB Tryz.prog 140=some ⟨Tryz.f140.body.getD .skip,34, #[.cell 6 42]⟩:=by
 unfold zB
 rw [Tryz.func140]
 rfl
theorem zvd  : (zB Tryz.prog 140).isSome=true:=by kernel_rfl
theorem ztm:zB Tryz.prog 118=some ⟨Tryz.f118.body.getD .skip,39, #[.tmp 6,.tmp 7]⟩:=by
 unfold zB
 rw [Tryz.func118]
 rfl
theorem zzz  : (zB Tryz.prog 118).isSome=true:=by kernel_rfl
theorem zrw:zB Tryz.prog 119=some ⟨Tryz.f119.body.getD .skip,35, #[.tmp 6]⟩:=by
 unfold zB
 rw [Tryz.func119]
 rfl
theorem zwv  : (zB Tryz.prog 119).isSome=true:=by kernel_rfl
theorem zsr:zB Tryz.prog 109=some ⟨Tryz.f109.body.getD .skip,6, #[.tmp 2]⟩:=by
 unfold zB
 rw [Tryz.func109]
 rfl
theorem zjn  : (zB Tryz.prog 109).isSome=true:=by kernel_rfl
theorem zrt:zB Tryz.prog 144=some ⟨Tryz.f144.body.getD .skip,25, #[.tmp 6]⟩:=by
 unfold zB
 rw [Tryz.func144]
 rfl
theorem zjv  : (zB Tryz.prog 144).isSome=true:=by kernel_rfl
theorem zrv:zB Tryz.prog 161=some ⟨Tryz.f161.body.getD .skip,20, #[.tmp 4]⟩:=by
 unfold zB
 rw [Tryz.func161]
 rfl
theorem zz1  : (zB Tryz.prog 161).isSome=true:=by kernel_rfl
theorem zks:zB Tryz.prog 116=some ⟨Tryz.f116.body.getD .skip,17, #[.tmp 2,.tmp 3,.tmp 4]⟩:=by
 unfold zB
 rw [Tryz.func116]
 rfl
theorem zgw  : (zB Tryz.prog 116).isSome=true:=by kernel_rfl
theorem zwd:zB Tryz.prog 25=some ⟨Tryz.f25.body.getD .skip,9, #[.tmp 2]⟩:=by
 unfold zB
 rw [Tryz.func25]
 rfl
theorem bo25  : (zB Tryz.prog 25).isSome=true:=by kernel_rfl
theorem zyh:zB Tryz.prog 27=some ⟨Tryz.f27.body.getD .skip,9, #[.cell 2 55]⟩:=by
 unfold zB
 rw [Tryz.func27]
 rfl
theorem bo27  : (zB Tryz.prog 27).isSome=true:=by kernel_rfl
theorem zld:zB Tryz.prog 50=some ⟨Tryz.f50.body.getD .skip,31, #[.tmp 8]⟩:=by
 unfold zB
 rw [Tryz.func50]
 rfl
theorem bo50  : (zB Tryz.prog 50).isSome=true:=by kernel_rfl
theorem zvr:zB Tryz.prog 66=some ⟨Tryz.f66.body.getD .skip,16, #[.tmp 8]⟩:=by
 unfold zB
 rw [Tryz.func66]
 rfl
theorem bo66  : (zB Tryz.prog 66).isSome=true:=by kernel_rfl
theorem zyg:zB Tryz.prog 16=some ⟨Tryz.f16.body.getD .skip,10, #[.tmp 2]⟩:=by
 unfold zB
 rw [Tryz.func16]
 rfl
theorem bo16  : (zB Tryz.prog 16).isSome=true:=by kernel_rfl
theorem zy9:zB Tryz.prog 17=some ⟨Tryz.f17.body.getD .skip,40, #[.tmp 0]⟩:=by
 unfold zB
 rw [Tryz.func17]
 rfl
theorem bo17  : (zB Tryz.prog 17).isSome=true:=by kernel_rfl
theorem zq3:zB Tryz.prog 19=some ⟨Tryz.f19.body.getD .skip,57, #[.tmp 6,.tmp 7]⟩:=by
 unfold zB
 rw [Tryz.func19]
 rfl
theorem bo19  : (zB Tryz.prog 19).isSome=true:=by kernel_rfl
theorem zxs:zB Tryz.prog 43=some ⟨Tryz.f43.body.getD .skip,9, #[.tmp 2,.tmp 3]⟩:=by
 unfold zB
 rw [Tryz.func43]
 rfl
theorem bo43  : (zB Tryz.prog 43).isSome=true:=by kernel_rfl
theorem zxv:zB Tryz.prog 23=some ⟨Tryz.f23.body.getD .skip,48, #[.tmp 6]⟩:=by
 unfold zB
 rw [Tryz.func23]
 rfl
theorem bo23  : (zB Tryz.prog 23).isSome=true:=by kernel_rfl
theorem zyv:zB Tryz.prog 21=some ⟨Tryz.f21.body.getD .skip,8, #[.tmp 2]⟩:=by
 unfold zB
 rw [Tryz.func21]
 rfl
theorem bo21  : (zB Tryz.prog 21).isSome=true:=by kernel_rfl
theorem zyy:zB Tryz.prog 64=some ⟨Tryz.f64.body.getD .skip,8, #[.tmp 2]⟩:=by
 unfold zB
 rw [Tryz.func64]
 rfl
theorem bo64  : (zB Tryz.prog 64).isSome=true:=by kernel_rfl
theorem zvw:zB Tryz.prog 44=some ⟨Tryz.f44.body.getD .skip,45, #[.tmp 4]⟩:=by
 unfold zB
 rw [Tryz.func44]
 rfl
theorem bo44  : (zB Tryz.prog 44).isSome=true:=by kernel_rfl
theorem zyl:zB Tryz.prog 32=some ⟨Tryz.f32.body.getD .skip,9, #[.tmp 2]⟩:=by
 unfold zB
 rw [Tryz.func32]
 rfl
theorem bo32  : (zB Tryz.prog 32).isSome=true:=by kernel_rfl
theorem zw4:zB Tryz.prog 18=some ⟨Tryz.f18.body.getD .skip,12, #[.tmp 2]⟩:=by
 unfold zB
 rw [Tryz.func18]
 rfl
theorem bo18  : (zB Tryz.prog 18).isSome=true:=by kernel_rfl
theorem zwn:zB Tryz.prog 53=some ⟨Tryz.f53.body.getD .skip,22, #[.tmp 2,.tmp 3]⟩:=by
 unfold zB
 rw [Tryz.func53]
 rfl
theorem bo53  : (zB Tryz.prog 53).isSome=true:=by kernel_rfl
theorem zys:zB Tryz.prog 33=some ⟨Tryz.f33.body.getD .skip,30, #[.cell 4 70]⟩:=by
 unfold zB
 rw [Tryz.func33]
 rfl
theorem bo33  : (zB Tryz.prog 33).isSome=true:=by kernel_rfl
theorem zw9:zB Tryz.prog 49=some ⟨Tryz.f49.body.getD .skip,14, #[.cell 4 42]⟩:=by
 unfold zB
 rw [Tryz.func49]
 rfl
theorem bo49  : (zB Tryz.prog 49).isSome=true:=by kernel_rfl
theorem zz3:zB Tryz.prog 98=some ⟨Tryz.f98.body.getD .skip,20, #[.tmp 2]⟩:=by
 unfold zB
 rw [Tryz.func98]
 rfl
theorem bo98  : (zB Tryz.prog 98).isSome=true:=by kernel_rfl
theorem ztn:zB Tryz.prog 155=some ⟨Tryz.f155.body.getD .skip,35, #[.tmp 4]⟩:=by
 unfold zB
 rw [Tryz.func155]
 rfl
theorem ztz  : (zB Tryz.prog 155).isSome=true:=by kernel_rfl
theorem zyd:zB Tryz.prog 72=some ⟨Tryz.f72.body.getD .skip,8, #[.cell 4 55]⟩:=by
 unfold zB
 rw [Tryz.func72]
 rfl
theorem bo72  : (zB Tryz.prog 72).isSome=true:=by kernel_rfl
theorem zzt:zB Tryz.prog 74=some ⟨Tryz.f74.body.getD .skip,42, #[.cell 4 42,.tmp 5]⟩:=by
 unfold zB
 rw [Tryz.func74]
 rfl
theorem bo74  : (zB Tryz.prog 74).isSome=true:=by kernel_rfl
theorem zqh:zB Tryz.prog 97=some ⟨Tryz.f97.body.getD .skip,67, #[.tmp 8,.tmp 9]⟩:=by
 unfold zB
 rw [Tryz.func97]
 rfl
theorem bo97  : (zB Tryz.prog 97).isSome=true:=by kernel_rfl
theorem zxu:zB Tryz.prog 37=some ⟨Tryz.f37.body.getD .skip,10, #[.tmp 2]⟩:=by
 unfold zB
 rw [Tryz.func37]
 rfl
theorem bo37  : (zB Tryz.prog 37).isSome=true:=by kernel_rfl
theorem zxj:zB Tryz.prog 65=some ⟨Tryz.f65.body.getD .skip,26, #[.tmp 8]⟩:=by
 unfold zB
 rw [Tryz.func65]
 rfl
theorem bo65  : (zB Tryz.prog 65).isSome=true:=by kernel_rfl
theorem zx1:zB Tryz.prog 91=some ⟨Tryz.f91.body.getD .skip,11, #[.tmp 2,.tmp 3]⟩:=by
 unfold zB
 rw [Tryz.func91]
 rfl
theorem bo91  : (zB Tryz.prog 91).isSome=true:=by kernel_rfl
theorem zxp:zB Tryz.prog 28=some ⟨Tryz.f28.body.getD .skip,27, #[.tmp 4]⟩:=by
 unfold zB
 rw [Tryz.func28]
 rfl
theorem bo28  : (zB Tryz.prog 28).isSome=true:=by kernel_rfl
theorem zy5:zB Tryz.prog 68=some ⟨Tryz.f68.body.getD .skip,6, #[.tmp 3]⟩:=by
 unfold zB
 rw [Tryz.func68]
 rfl
theorem bo68  : (zB Tryz.prog 68).isSome=true:=by kernel_rfl
theorem zrk:zB Tryz.prog 105=some ⟨Tryz.f105.body.getD .skip,6, #[.tmp 3]⟩:=by
 unfold zB
 rw [Tryz.func105]
 rfl
theorem q1p  : (zB Tryz.prog 105).isSome=true:=by kernel_rfl
theorem zwq:zB Tryz.prog 26=some ⟨Tryz.f26.body.getD .skip,60, #[.tmp 4]⟩:=by
 unfold zB
 rw [Tryz.func26]
 rfl
theorem bo26  : (zB Tryz.prog 26).isSome=true:=by kernel_rfl
theorem zya:zB Tryz.prog 96=some ⟨Tryz.f96.body.getD .skip,19, #[.tmp 4]⟩:=by
 unfold zB
 rw [Tryz.func96]
 rfl
theorem bo96  : (zB Tryz.prog 96).isSome=true:=by kernel_rfl
theorem zv5:zB Tryz.prog 115=some ⟨Tryz.f115.body.getD .skip,27, #[.cell 4 42]⟩:=by
 unfold zB
 rw [Tryz.func115]
 rfl
theorem zsu  : (zB Tryz.prog 115).isSome=true:=by kernel_rfl
theorem zqy:zB Tryz.prog 113=some ⟨Tryz.f113.body.getD .skip,19, #[.cell 3 42]⟩:=by
 unfold zB
 rw [Tryz.func113]
 rfl
theorem q10  : (zB Tryz.prog 113).isSome=true:=by kernel_rfl
theorem zim:zB Tryz.prog 114=some ⟨Tryz.f114.body.getD .skip,39, #[.tmp 4]⟩:=by
 unfold zB
 rw [Tryz.func114]
 rfl
theorem zni  : (zB Tryz.prog 114).isSome=true:=by kernel_rfl
theorem zr9:zB Tryz.prog 134=some ⟨Tryz.f134.body.getD .skip,25, #[.tmp 2]⟩:=by
 unfold zB
 rw [Tryz.func134]
 rfl
theorem z96  : (zB Tryz.prog 134).isSome=true:=by kernel_rfl
theorem zs0:zB Tryz.prog 135=some ⟨Tryz.f135.body.getD .skip,72, #[.tmp 4,.tmp 5]⟩:=by
 unfold zB
 rw [Tryz.func135]
 rfl
theorem zn4  : (zB Tryz.prog 135).isSome=true:=by kernel_rfl
theorem ztq:zB Tryz.prog 130=some ⟨Tryz.f130.body.getD .skip,6, #[.tmp 4]⟩:=by
 unfold zB
 rw [Tryz.func130]
 rfl
theorem q07  : (zB Tryz.prog 130).isSome=true:=by kernel_rfl
theorem zsw:zB Tryz.prog 158=some ⟨Tryz.f158.body.getD .skip,38, #[.tmp 2]⟩:=by
 unfold zB
 rw [Tryz.func158]
 rfl
theorem zwi  : (zB Tryz.prog 158).isSome=true:=by kernel_rfl
theorem zvj:zB Tryz.prog 166=some ⟨Tryz.f166.body.getD .skip,24, #[.tmp 4]⟩:=by
 unfold zB
 rw [Tryz.func166]
 rfl
theorem zxz  : (zB Tryz.prog 166).isSome=true:=by kernel_rfl
theorem zr4:zB Tryz.prog 141=some ⟨Tryz.f141.body.getD .skip,59, #[.tmp 4]⟩:=by
 unfold zB
 rw [Tryz.func141]
 rfl
theorem zyi  : (zB Tryz.prog 141).isSome=true:=by kernel_rfl
theorem zvc:zB Tryz.prog 159=some ⟨Tryz.f159.body.getD .skip,21, #[.tmp 2]⟩:=by
 unfold zB
 rw [Tryz.func159]
 rfl
theorem zz8  : (zB Tryz.prog 159).isSome=true:=by kernel_rfl
theorem zrs:zB Tryz.prog 160=some ⟨Tryz.f160.body.getD .skip,62, #[.tmp 6]⟩:=by
 unfold zB
 rw [Tryz.func160]
 rfl
theorem zx8  : (zB Tryz.prog 160).isSome=true:=by kernel_rfl
theorem zt1:zB Tryz.prog 167=some ⟨Tryz.f167.body.getD .skip,50, #[.tmp 4]⟩:=by
 unfold zB
 rw [Tryz.func167]
 rfl
theorem zui  : (zB Tryz.prog 167).isSome=true:=by kernel_rfl
theorem zzk:zB Tryz.prog 89=some ⟨Tryz.f89.body.getD .skip,21, #[.tmp 4]⟩:=by
 unfold zB
 rw [Tryz.func89]
 rfl
theorem bo89  : (zB Tryz.prog 89).isSome=true:=by kernel_rfl
theorem zt8:zB Tryz.prog 129=some ⟨Tryz.f129.body.getD .skip,9, #[.tmp 3]⟩:=by
 unfold zB
 rw [Tryz.func129]
 rfl
theorem zqt  : (zB Tryz.prog 129).isSome=true:=by kernel_rfl
theorem zrd:zB Tryz.prog 128=some ⟨Tryz.f128.body.getD .skip,24, #[.tmp 4]⟩:=by
 unfold zB
 rw [Tryz.func128]
 rfl
theorem zxq  : (zB Tryz.prog 128).isSome=true:=by kernel_rfl
theorem zzw:zB Tryz.prog 90=some ⟨Tryz.f90.body.getD .skip,16, #[.cell 2 80]⟩:=by
 unfold zB
 rw [Tryz.func90]
 rfl
theorem bo90  : (zB Tryz.prog 90).isSome=true:=by kernel_rfl
theorem zr8:zB Tryz.prog 110=some ⟨Tryz.f110.body.getD .skip,31, #[.cell 6 42,.tmp 7]⟩:=by
 unfold zB
 rw [Tryz.func110]
 rfl
theorem zyt  : (zB Tryz.prog 110).isSome=true:=by kernel_rfl
theorem zu4:zB Tryz.prog 143=some ⟨Tryz.f143.body.getD .skip,8, #[.tmp 3]⟩:=by
 unfold zB
 rw [Tryz.func143]
 rfl
theorem zsz  : (zB Tryz.prog 143).isSome=true:=by kernel_rfl
theorem zu1:zB Tryz.prog 142=some ⟨Tryz.f142.body.getD .skip,33, #[.cell 8 42]⟩:=by
 unfold zB
 rw [Tryz.func142]
 rfl
theorem zxk  : (zB Tryz.prog 142).isSome=true:=by kernel_rfl
theorem zw3:zB Tryz.prog 70=some ⟨Tryz.f70.body.getD .skip,23, #[.cell 6 42,.tmp 7,.tmp 8]⟩:=by
 unfold zB
 rw [Tryz.func70]
 rfl
theorem bo70  : (zB Tryz.prog 70).isSome=true:=by kernel_rfl
theorem zr6:zB Tryz.prog 168=some ⟨Tryz.f168.body.getD .skip,33, #[.tmp 4]⟩:=by
 unfold zB
 rw [Tryz.func168]
 rfl
theorem zuw  : (zB Tryz.prog 168).isSome=true:=by kernel_rfl
theorem zw7:zB Tryz.prog 20=some ⟨Tryz.f20.body.getD .skip,13, #[.cell 2 42]⟩:=by
 unfold zB
 rw [Tryz.func20]
 rfl
theorem bo20  : (zB Tryz.prog 20).isSome=true:=by kernel_rfl
theorem zze:zB Tryz.prog 35=some ⟨Tryz.f35.body.getD .skip,9, #[.tmp 2]⟩:=by
 unfold zB
 rw [Tryz.func35]
 rfl
theorem bo35  : (zB Tryz.prog 35).isSome=true:=by kernel_rfl
theorem zzx:zB Tryz.prog 52=some ⟨Tryz.f52.body.getD .skip,7, #[.tmp 2]⟩:=by
 unfold zB
 rw [Tryz.func52]
 rfl
theorem bo52  : (zB Tryz.prog 52).isSome=true:=by kernel_rfl
theorem zxf:zB Tryz.prog 99=some ⟨Tryz.f99.body.getD .skip,37, #[.tmp 4]⟩:=by
 unfold zB
 rw [Tryz.func99]
 rfl
theorem bo99  : (zB Tryz.prog 99).isSome=true:=by kernel_rfl
theorem zxe:zB Tryz.prog 76=some ⟨Tryz.f76.body.getD .skip,23, #[.tmp 4]⟩:=by
 unfold zB
 rw [Tryz.func76]
 rfl
theorem bo76  : (zB Tryz.prog 76).isSome=true:=by kernel_rfl
theorem zt7:zB Tryz.prog 106=some ⟨Tryz.f106.body.getD .skip,29, #[.cell 6 78]⟩:=by
 unfold zB
 rw [Tryz.func106]
 rfl
theorem zzm  : (zB Tryz.prog 106).isSome=true:=by kernel_rfl
theorem bo62  : (zB Tryz.prog 62).isSome=true:=by kernel_rfl
theorem q06:zB Tryz.prog 8=some ⟨Tryz.f8.body.getD .skip,116, #[.tmp 4]⟩:=by
 unfold zB
 rw [Tryz.func8]
 rfl
theorem zy8:zB Tryz.prog 39=some ⟨Tryz.f39.body.getD .skip,26, #[.tmp 4]⟩:=by
 unfold zB
 rw [Tryz.func39]
 rfl
theorem bo39  : (zB Tryz.prog 39).isSome=true:=by kernel_rfl
theorem zx9:zB Tryz.prog 69=some ⟨Tryz.f69.body.getD .skip,19, #[.tmp 4]⟩:=by
 unfold zB
 rw [Tryz.func69]
 rfl
theorem bo69  : (zB Tryz.prog 69).isSome=true:=by kernel_rfl
theorem bo67  : (zB Tryz.prog 67).isSome=true:=by kernel_rfl
theorem q14  : (zB Tryz.prog 117).isSome=true:=by kernel_rfl
theorem zym  : (zB Tryz.prog 104).isSome=true:=by kernel_rfl
theorem q1u  : (zB Tryz.prog 112).isSome=true:=by kernel_rfl
def ty :=
 And.intro @ff3 <|
 And.intro @ld3 <|
 And.intro @ff47 <|
 And.intro @ld5 <|
 And.intro @ff4 <|
 And.intro @zz32 <|
 And.intro @ff32 <|
 And.intro @q0w <|
 And.intro @lr32 <|
 And.intro @q0c <|
 And.intro @zxd <|
 And.intro @q0s <|
 And.intro @z3m <|
 And.intro @z0y <|
 And.intro @zzv <|
 And.intro @zgm <|
 And.intro @zxb <|
 And.intro @q00 <|
 And.intro @bs76 <|
 And.intro @zu7 <|
 And.intro @bs22 <|
 And.intro @zwa <|
 And.intro @zvm <|
 And.intro @zvl <|
 And.intro @bo63 <|
 And.intro @bo31 <|
 And.intro @bo54 <|
 And.intro @bo73 <|
 And.intro @bo45 <|
 And.intro @zua <|
 And.intro @bo80 <|
 And.intro @bo77 <|
 And.intro @z93 <|
 And.intro @zl2 <|
 And.intro @bo71 <|
 And.intro @zvg <|
 And.intro @zuz <|
 And.intro @bo78 <|
 And.intro @bo79 <|
 And.intro @bo81 <|
 And.intro @bo75 <|
 And.intro @zpv <|
 And.intro @zzy <|
 And.intro @zrr <|
 And.intro @q1g <|
 And.intro @zt3 <|
 And.intro @zy4 <|
 And.intro @zsj <|
 And.intro @zi2 <|
 And.intro @zvd <|
 And.intro @zzz <|
 And.intro @zwv <|
 And.intro @zjn <|
 And.intro @zjv <|
 And.intro @zz1 <|
 And.intro @zgw <|
 And.intro @bo25 <|
 And.intro @bo27 <|
 And.intro @bo50 <|
 And.intro @bo66 <|
 And.intro @bo16 <|
 And.intro @bo17 <|
 And.intro @bo19 <|
 And.intro @bo43 <|
 And.intro @bo23 <|
 And.intro @bo21 <|
 And.intro @bo64 <|
 And.intro @bo44 <|
 And.intro @bo32 <|
 And.intro @bo18 <|
 And.intro @bo53 <|
 And.intro @bo33 <|
 And.intro @bo49 <|
 And.intro @bo98 <|
 And.intro @ztz <|
 And.intro @bo72 <|
 And.intro @bo97 <|
 And.intro @bo37 <|
 And.intro @bo65 <|
 And.intro @bo91 <|
 And.intro @bo28 <|
 And.intro @bo26 <|
 And.intro @bo96 <|
 And.intro @zsu <|
 And.intro @zni <|
 And.intro @z96 <|
 And.intro @zn4 <|
 And.intro @zwi <|
 And.intro @zxz <|
 And.intro @zyi <|
 And.intro @zz8 <|
 And.intro @zx8 <|
 And.intro @zui <|
 And.intro @bo89 <|
 And.intro @zxq <|
 And.intro @bo90 <|
 And.intro @zyt <|
 And.intro @zxk <|
 And.intro @bo70 <|
 And.intro @zuw <|
 And.intro @bo20 <|
 And.intro @bo35 <|
 And.intro @bo52 <|
 And.intro @bo99 <|
 And.intro @bo76 <|
 And.intro @zzm <|
 And.intro @bo62 <|
 And.intro @bo39 <|
 And.intro @bo69 <|
 And.intro @bo67 @zym
def ga :=
 And.intro @vme <| And.intro @vmb <| And.intro @ty <| And.intro hP <| And.intro @zrl <| And.intro @zt2 <| And.intro @wrap64 <| And.intro @List.length_map.{0,0} Int.toNat_natCast
def gb :=
 And.intro ga <| And.intro @List.cons_append.{0} <| And.intro @List.nil_append.{0} <| And.intro @Option.map_some.{0,0} <| And.intro @Option.map_none.{0,0} <| And.intro @zko <| And.intro @zkr vmg
def uZ (l:List V):List V:=(.tup [])::(.tup [])::(.tup [])::(.tup [])::(.tup [])::(.tup [])::(.tup [])::(.tup [])::(.tup [])::(.tup [])::l
def gc:=And.intro gb @zay
def gq:=And.intro @vgd <| And.intro @vst @vix
def gp:=And.intro @vmp gq
def gd:=And.intro @vmd <| And.intro @vmk <| And.intro @vmo vmg
theorem zQ {i:Decidable True}:@decide True i=true:=decide_eq_true trivial
abbrev InB (n:Int):Prop := -9223372036854775808 ≤ n∧n ≤ 9223372036854775807
theorem nl0:((0:Nat):Int)=0:=rfl
theorem nl1:((1:Nat):Int)=1:=rfl
theorem nl2:((2:Nat):Int)=2:=rfl
theorem nl4:((4:Nat):Int)=4:=rfl
theorem nl8:((8:Nat):Int)=8:=rfl
theorem nl10:((10:Nat):Int)=10:=rfl
theorem nl12:((12:Nat):Int)=12:=rfl
theorem nl16:((16:Nat):Int)=16:=rfl
theorem nl20:((20:Nat):Int)=20:=rfl
theorem zgt:((256:Nat):Int)=256:=rfl
theorem bt42:BT Tryz.prog 42 5 256:=⟨Tryz.underlying42,by kernel_rfl,by kernel_rfl,by kernel_rfl,by kernel_rfl,by decide⟩
theorem z42:zeroV Tryz.prog 42=some (blkV (zK 256)):=by kernel_rfl
theorem zf42:qA Tryz.prog 42 (blkV (zK 256))=true:=by kernel_rfl
section
variable {b b':List UInt8}
theorem fd42 (h:b.length=256):qA Tryz.prog 42 (.d (blkD b))=true:=bt42.fits wA h
theorem z3s (h:b.length=256):qZ Tryz.prog 42 0 (some (.d (blkD b)))=some (.d (blkD b)):=bt42.load wA h
theorem z9e (h:b.length=256):qZ Tryz.prog 42 0 (some (blkV b))=some (blkV b):=bt42.load isB_v h
theorem zr3 (h:b.length=256) (h':b'.length=256):qW Tryz.prog 42 0 (.d (blkD b)) (.d (blkD b'))=some (.d (blkD b)):=bt42.store wA h wA h'
theorem zan (h:b.length=256) (h':b'.length=256):qW Tryz.prog 42 0 (.d (blkD b)) (blkV b')=some (.d (blkD b)):=bt42.store wA h isB_v h'
theorem zl4 (h:b.length=256) (h':b'.length=256):qW Tryz.prog 42 0 (blkV b) (blkV b')=some (blkV b):=bt42.store isB_v h isB_v h'
theorem ia42 {S:zA} {j x:Nat} {i:Nat} (hi:i < 256):zM Tryz.prog S 42 (.ref j x 0) (.d (.int .i64 (i:Int)))=some (.ref j x i):=by rw [bt42.ia hi,Nat.zero_add]
theorem zkb:(blkV b).one=true:=rfl
theorem ztj {S:zA}:Go.Vm.frz S zG (blkV b)=some (blkD b):=isB_v.frz (n:=10)
end
theorem z256:(zK 256).length=256:=rfl
theorem zq8 {n:Int}:IntKind.u8.wrap n=n % 256:=rfl
theorem cv35 {S:zA} {n:Nat}:qF Tryz.prog S 3 5 (.d (.int .i64 (n:Int)))=some (.d (.int .u8 ((UInt8.ofNat (n % 256)).toNat:Int)),0):=by
 have h1:Tryz.prog.underlying 3=some (.int .i64):=by kernel_rfl
 have h2:Tryz.prog.underlying 5=some (.int .u8):=by kernel_rfl
 have e:((UInt8.ofNat (n % 256)).toNat:Int)=(n:Int) % 256:=by rw [UInt8.toNat_ofNat']; omega
 simp only [qF,h1,h2]
 rw [zq8,e]
theorem cvu {S:zA} {i:Nat} (h:i < 100):qF Tryz.prog S 3 204 (.d (.int .i64 (i:Int)))=some (.d (.int .u64 (i:Int)),0):=by
 have h1:Tryz.prog.underlying 3=some (.int .i64):=by kernel_rfl
 have h2:Tryz.prog.underlying 204=some (.int .u64):=by kernel_rfl
 have e:IntKind.u64.wrap (i:Int)=(i:Int):=by
  have:IntKind.u64.wrap (i:Int)=(i:Int) % 18446744073709551616:=rfl
  rw [this]; omega
 simp only [qF,h1,h2]
 rw [e]
theorem zq9 {K K':IntKind} {t:TypeId} {v i:Nat} (hK:K.bits=64) (h:i < 8):binV Tryz.prog .shr t (.d (.int K (v:Int))) (.d (.int K' ((8 * i:Nat):Int)))=some (.d (.int K ((v / 256 ^ i:Nat):Int))):=by
 have key : ∀ k:Nat,k ≤ 64→((v:Int).fdiv (2 ^ (min ((k:Int)).toNat K.bits)))=((v / 2 ^ k:Nat):Int):=fun k hk=>by
  have e:min ((k:Int)).toNat K.bits=k:=by rw [hK]; omega
  rw [e,Int.fdiv_eq_ediv_of_nonneg _ (by exact_mod_cast Nat.zero_le (2 ^ k)),Int.natCast_ediv]
  norm_cast
 simp only [binV,qO]
 rw [if_neg (by omega),key _ (by omega)]
 have e3:2 ^ (8 * i)=256 ^ i:=by rw [Nat.pow_mul]
 rw [e3]
 rfl
def MayL (l:Lay):Prop:=16 ≤ l.blocks∧l.blocks ≤ 512∧8 ≤ l.inodes∧l.inodes ≤ 128∧l.inodes.tmod 8=0∧2 + l.inodes.tdiv 8 < l.blocks
instance (l:Lay):Decidable (MayL l):=by unfold MayL; exact inferInstance
theorem zz5 {P:Program} {t:TypeId} {a b c:Int} (hb : ¬ b=0) (h:a.tmod b=c):binV P .rem t (.d (.int .i64 a)) (.d (.int .i64 b))=some (.d (.int .i64 c)):=by
 simp only [binV,qO,hb,if_true,if_false,Option.map_some,h]
theorem rem8 {a:Int}:binV Tryz.prog .rem 3 (.d (.int .i64 a)) (.d (.int .i64 8))=some (.d (.int .i64 (a.tmod 8))):=zz5 (by decide) rfl
theorem quo8 {a:Int} (h:InB a):binV Tryz.prog .quo 3 (.d (.int .i64 a)) (.d (.int .i64 8))=some (.d (.int .i64 (a.tdiv 8))):=by
 have hb : ¬ (8:Int)=0:=by decide
 have h2:IntKind.i64.wrap (a.tdiv 8)=a.tdiv 8:=wrap64 (by
  rcases Int.le_total 0 a with h0 | h0
  ·rw [Int.tdiv_eq_ediv_of_nonneg h0]; omega
  ·have e:a.tdiv 8 = -((-a).tdiv 8):=by rw [Int.neg_tdiv,Int.neg_neg]
   rw [e,Int.tdiv_eq_ediv_of_nonneg (by omega)]; omega)
 simp only [binV,qO,hb,if_false,Option.map_some,h2]
 rfl
theorem zfs (l:Lay) (hb:InB l.blocks) (hi:InB l.inodes):Ev cfg 75 [encLay l] (.ret (.d (.int .i64 (if MayL l then 0 else 1)))):=by
 refine kW rfl rfl zxr ?_
 show Wp cfg (Tryz.f75.body.getD .skip) ((.d (encLay l))::uZ (uZ ((.tup [])::(.tup [])::(.tup [])::(.tup [])::(.tup [])::(.tup [])::(.tup [])::(.tup [])::[]))) [] [] _
 unfold uZ
 conv=>arg 2; whnf
 generalize hp:(if MayL l then (0:Int) else 1)=p
 have hq:=quo8 hi
 have hr:=rem8 (a:=l.inodes)
 by_cases c1:l.blocks < 16
 ·rw [if_neg (fun h=>by have:=h.1; omega)] at hp; subst hp
  simp (maxSteps:=1000000) (disch:=first|assumption|omega|rfl) only [↓gp,gc,Nat.reduceAdd]
  exact zS rfl rfl rfl
 by_cases c2:l.blocks > 512
 ·rw [if_neg (fun h=>by have:=h.2.1; omega)] at hp; subst hp
  simp (maxSteps:=1000000) (disch:=first|assumption|omega|rfl) only [↓gp,gc,Nat.reduceAdd]
  exact zS rfl rfl rfl
 by_cases c3:l.inodes < 8
 ·rw [if_neg (fun h=>by have:=h.2.2.1; omega)] at hp; subst hp
  simp (maxSteps:=1000000) (disch:=first|assumption|omega|rfl) only [↓gp,gc,Nat.reduceAdd]
  exact zS rfl rfl rfl
 by_cases c4:l.inodes > 128
 ·rw [if_neg (fun h=>by have:=h.2.2.2.1; omega)] at hp; subst hp
  simp (maxSteps:=1000000) (disch:=first|assumption|omega|rfl) only [↓gp,gc,Nat.reduceAdd]
  exact zS rfl rfl rfl
 by_cases c5:l.inodes.tmod 8=0
 case neg =>
  rw [if_neg (fun h=>c5 h.2.2.2.2.1)] at hp; subst hp
  simp (maxSteps:=1000000) (disch:=first|assumption|omega|rfl) only [↓gp,gc,Nat.reduceAdd,hr]
  exact zS rfl rfl rfl
 have hd:0 ≤ l.inodes.tdiv 8∧l.inodes.tdiv 8 ≤ 16:=by
  rw [Int.tdiv_eq_ediv_of_nonneg (by omega)]; omega
 have hw:IntKind.i64.wrap (2 + l.inodes.tdiv 8)=2 + l.inodes.tdiv 8:=wrap64 (by omega)
 by_cases c6:2 + l.inodes.tdiv 8 ≥ l.blocks
 ·rw [if_neg (fun h=>by have:=h.2.2.2.2.2; omega)] at hp; subst hp
  simp (maxSteps:=1000000) (disch:=first|assumption|omega|rfl) only [↓gp,gc,Nat.reduceAdd,hr,hq,hw,c5]
  exact zS rfl rfl rfl
 ·rw [if_pos ⟨by omega,by omega,by omega,by omega,c5,by omega⟩] at hp; subst hp
  simp (maxSteps:=1000000) (disch:=first|assumption|omega|rfl) only [↓gp,gc,Nat.reduceAdd,hr,hq,hw,c5]
  exact zS rfl rfl rfl
theorem zn7 (a w n:Nat) (ha:a ≤ 1000000) (hw:w ≤ 1000000) (hn:n ≤ 1000000):Ev cfg 144 [.int .i64 (a:Int),.int .i64 (w:Int),.int .i64 (n:Int)] (.ret (.d (.bool (decide (1 ≤ w∧a + w ≤ n))))):=by
 refine kW rfl rfl zrt ?_
 show Wp cfg (Tryz.f144.body.getD .skip) ((.d (.int .i64 (a:Int)))::(.d (.int .i64 (w:Int)))::(.d (.int .i64 (n:Int)))::uZ (uZ ((.tup [])::(.tup [])::[]))) [] [] _
 unfold uZ
 conv=>arg 2; whnf
 generalize hp:decide (1 ≤ w∧a + w ≤ n)=p
 have h0:(a:Int) ≥ 0:=by omega
 have hwr:IntKind.i64.wrap ((n:Int) - (w:Int))=(n:Int) - (w:Int):=wrap64 (by omega)
 by_cases c1:(w:Int) ≥ 1
 case neg =>
  rw [decide_eq_false (by omega)] at hp; subst hp
  simp (maxSteps:=1000000) (disch:=first|assumption|omega|rfl) only [↓gp,gc,Nat.reduceAdd]
  exact zS rfl rfl rfl
 by_cases c2:(w:Int) ≤ (n:Int)
 case neg =>
  rw [decide_eq_false (by omega)] at hp; subst hp
  simp (maxSteps:=1000000) (disch:=first|assumption|omega|rfl) only [↓gp,gc,Nat.reduceAdd]
  exact zS rfl rfl rfl
 by_cases c3:(a:Int) ≤ (n:Int) - (w:Int)
 ·rw [decide_eq_true (by omega)] at hp; subst hp
  simp (maxSteps:=1000000) (disch:=first|assumption|omega|rfl) only [↓gp,gc,Nat.reduceAdd,hwr]
  exact zS rfl rfl rfl
 ·rw [decide_eq_false (by omega)] at hp; subst hp
  simp (maxSteps:=1000000) (disch:=first|assumption|omega|rfl) only [↓gp,gc,Nat.reduceAdd,hwr]
  exact zS rfl rfl rfl
section
variable {ops:Array Oper} {dst:Option Tmp} {k:List Oper} {T:List V} {S:zA} {F:Dfs} {Q:Post}
theorem z3a {a w n:Nat} (ha:a ≤ 1000000) (hw:w ≤ 1000000) (hn:n ≤ 1000000):WpR cfg ops dst k T S F Q (some (.enter 144 [.d (.int .i64 (a:Int)),.d (.int .i64 (w:Int)),.d (.int .i64 (n:Int))]))=WpL cfg ops k (putT T dst (.d (.bool (decide (1 ≤ w∧a + w ≤ n))))) S F Q :=
 qI (ds:=[.int .i64 (a:Int),.int .i64 (w:Int),.int .i64 (n:Int)]) rfl (zn7 a w n ha hw hn)
end
theorem zyf (b:List UInt8) (hb:b.length=256) (k0 w v:Nat) (hk0:k0 + w ≤ 256) (hw4:w ≤ 4) (z:V) (R:Post) : ∀ (k i:Nat) (u:V) (g0 g5 g6 g7 g9 gK gF gD gB gC gA gE gL gM gN gI gH gO gP gT gQ gU gR gS gV gW gX gY:V),w - i=k→i ≤ w→IsB u (layB b k0 (leB i v)) →
 (∀ u i' g0 g5 g6 g7 g9 gK gF gD gB gC gA gE gL gM gN gI gH gO gP gT gQ gU gR gS gV gW gX gY,IsB u (layB b k0 (leB w v))→R (.exit 0) (g0::(.d (.int .i64 (k0:Int)))::(.d (.int .i64 (w:Int)))::(.d (.int .i64 (v:Int)))::(.ref 0 0 0)::g5::g6::g7::(.ref 1 0 0)::g9::gK::gF::gD::gB::gC::gA::gE::gL::gM::(.d (.int .i64 (w:Int)))::i'::gN::gI::gH::gO::gP::gT::gQ::gU::gR::gS::gV::gW::gX::gY::[]) [.row [u] 42,.row [z] 42] []) →
 Wp cfg (.loop (lpOf (Tryz.f146.body.getD .skip) 0)) (g0::(.d (.int .i64 (k0:Int)))::(.d (.int .i64 (w:Int)))::(.d (.int .i64 (v:Int)))::(.ref 0 0 0)::g5::g6::g7::(.ref 1 0 0)::g9::gK::gF::gD::gB::gC::gA::gE::gL::gM::(.d (.int .i64 (w:Int)))::(.d (.int .i64 (i:Int)))::gN::gI::gH::gO::gP::gT::gQ::gU::gR::gS::gV::gW::gX::gY::[]) [.row [u] 42,.row [z] 42] [] R:=by
 intro k
 induction k with
 | zero =>
  intro i u g0 g5 g6 g7 g9 gK gF gD gB gC gA gE gL gM gN gI gH gO gP gT gQ gU gR gS gV gW gX gY hk hi hu hR
  have hie:i=w:=by omega
  subst hie
  rw [zO]
  refine zN ?_
  conv=>arg 2; whnf
  simp (maxSteps:=1000000) (disch:=first|assumption|omega|rfl) only [↓gp,gc,Nat.reduceAdd]
  exact hR _ _ _ _ _ _ _ _ _ _ _ _ _ _ _ _ _ _ _ _ _ _ _ _ _ _ _ _ _ _ hu
 | succ k ih =>
  intro i u g0 g5 g6 g7 g9 gK gF gD gB gC gA gE gL gM gN gI gH gO gP gT gQ gU gR gS gV gW gX gY hk hi hu hR
  have hlt:i < w:=by omega
  have hl:(layB b k0 (leB i v)).length=256:=by rw [kM (by rw [jH]; omega),hb]
  have h1:IntKind.i64.wrap ((k0:Int) + (i:Int))=((k0 + i:Nat):Int):=by rw [wrap64 (by omega)]; omega
  have h2:IntKind.i64.wrap (8 * (i:Int))=((8 * i:Nat):Int):=by rw [wrap64 (by omega)]; omega
  have h3:IntKind.i64.wrap ((i:Int) + 1)=((i + 1:Nat):Int):=by rw [wrap64 (by omega)]; omega
  have hcv:=fun S=>cvu (S:=S) (i:=8 * i) (by omega)
  have hsh:=fun K'=>zq9 (K:= .i64) (K':=K') (t:=3) (v:=v) (i:=i) rfl (by omega)
  have hia:=fun S j x=>ia42 (S:=S) (j:=j) (x:=x) (i:=k0 + i) (by omega)
  have hc5:=fun S=>cv35 (S:=S) (n:=v / 256 ^ i)
  have hp:=bt42.put hu hl (i:=k0 + i) (by omega) (x:=UInt8.ofNat (v / 256 ^ i % 256))
  have e:(layB b k0 (leB i v)).set (k0 + i) (UInt8.ofNat (v / 256 ^ i % 256))=layB b k0 (leB (i + 1) v):=by
   rw [zg1,z4p (by rw [jH]; omega),jH]
  rw [e] at hp
  rw [zO]
  refine zN ?_
  conv=>arg 2; whnf
  simp (maxSteps:=1000000) (disch:=first|assumption|omega|rfl) only [↓gp,gc,Nat.reduceAdd,h1,h2,h3,hcv,hsh,hia,hc5,hp]
  exact ih (i + 1) _ _ _ _ _ _ _ _ _ _ _ _ _ _ _ _ _ _ _ _ _ _ _ _ _ _ _ _ _ (by omega) (by omega) isB_v hR
theorem zsx (b:List UInt8) (hb:b.length=256) (k0 w v:Nat) (hk0:k0 + w ≤ 256) (hw1:1 ≤ w) (hw4:w ≤ 4):Ev cfg 146 [blkD b,.int .i64 (k0:Int),.int .i64 (w:Int),.int .i64 (v:Int)] (.ret (.d (blkD (layB b k0 (leB w v))))):=by
 refine kW rfl rfl zuf ?_
 show Wp cfg (Tryz.f146.body.getD .skip) ((.d (blkD b))::(.d (.int .i64 (k0:Int)))::(.d (.int .i64 (w:Int)))::(.d (.int .i64 (v:Int)))::uZ (uZ (uZ ((.tup [])::[])))) [] [] _
 unfold uZ
 conv=>arg 2; whnf
 have c4 : ¬ (w:Int) > 4:=by omega
 have ct:=fun {ops dst k T S F Q}=>z3a (ops:=ops) (dst:=dst) (k:=k) (T:=T) (S:=S) (F:=F) (Q:=Q) (a:=k0) (w:=w) (n:=256) (by omega) (by omega) (by omega)
 rw [decide_eq_true (show 1 ≤ w∧k0 + w ≤ 256 from ⟨hw1,hk0⟩)] at ct
 simp only [nl0,nl1,nl2,nl4,nl8,nl10,nl12,nl16,nl20,zgt] at ct
 have hll:(layB b k0 (leB w v)).length=256:=by rw [kM (by rw [jH]; omega),hb]
 have hf:=fd42 hb
 simp (maxSteps:=1000000) (disch:=first|assumption|omega|rfl) only [↓gp,gc,Nat.reduceAdd,z42,zf42,hf,ct,zjv]
 refine zyf b hb k0 w v hk0 hw4 _ _ w 0 _ _ _ _ _ _ _ _ _ _ _ _ _ _ _ _ _ _ _ _ _ _ _ _ _ _ _ _ _ rfl (Nat.zero_le _) (by rw [show leB 0 v=[] from rfl,z7a]; exact wA) ?_
 intro u i' g0 g5 g6 g7 g9 gK gF gD gB gC gA gE gL gM gN gI gH gO gP gT gQ gU gR gS gV gW gX gY hu
 have hld:=bt42.load hu hll
 have hst:=bt42.store hu hll (w:=blkV (zK 256)) isB_v z256
 simp (maxSteps:=1000000) (disch:=first|assumption|omega|rfl) only [↓gp,gc,Nat.reduceAdd,hld,hst]
 exact wL (u:= .ref 1 0 0) (v:=u) rfl ((zJ rfl).trans hld) hu.one (hu.frz (n:=10))
theorem q11 (b:List UInt8) (hb:b.length=256) (k0:Nat) (d:List UInt8) (hk0:k0 + d.length ≤ 256) (z:V) (R:Post) : ∀ (k i:Nat) (u:V) (g0 g4 g5 g7 g8 g9 gK gF gD gB gC gA gG gJ gN gI gH gO gP gT gQ gU gR gS gV gW gX:V),d.length - i=k→i ≤ d.length→IsB u (layB b k0 (d.take i)) →
 (∀ u i' g0 g4 g5 g7 g8 g9 gK gF gD gB gC gA gG gJ gN gI gH gO gP gT gQ gU gR gS gV gW gX,IsB u (layB b k0 d)→R (.exit 0) (g0::(.d (.int .i64 (k0:Int)))::(.d (encB d))::(.ref 0 0 0)::g4::g5::(.ref 1 0 0)::g7::g8::g9::gK::gF::gD::gB::gC::gA::(.d (encB d))::(.d (.int .i64 d.length))::i'::gG::gJ::gN::gI::gH::gO::gP::gT::gQ::gU::gR::gS::gV::gW::gX::[]) [.row [u] 42,.row [z] 42] []) →
 Wp cfg (.loop (lpOf (Tryz.f148.body.getD .skip) 0)) (g0::(.d (.int .i64 (k0:Int)))::(.d (encB d))::(.ref 0 0 0)::g4::g5::(.ref 1 0 0)::g7::g8::g9::gK::gF::gD::gB::gC::gA::(.d (encB d))::(.d (.int .i64 d.length))::(.d (.int .i64 (i:Int)))::gG::gJ::gN::gI::gH::gO::gP::gT::gQ::gU::gR::gS::gV::gW::gX::[]) [.row [u] 42,.row [z] 42] [] R:=by
 intro k
 induction k with
 | zero =>
  intro i u g0 g4 g5 g7 g8 g9 gK gF gD gB gC gA gG gJ gN gI gH gO gP gT gQ gU gR gS gV gW gX hk hi hu hR
  have hie:i=d.length:=by omega
  subst hie
  rw [List.take_length] at hu
  rw [zO]
  refine zN ?_
  conv=>arg 2; whnf
  simp (maxSteps:=1000000) (disch:=first|assumption|omega|rfl) only [↓gp,gc,Nat.reduceAdd]
  exact hR _ _ _ _ _ _ _ _ _ _ _ _ _ _ _ _ _ _ _ _ _ _ _ _ _ _ _ _ _ hu
 | succ k ih =>
  intro i u g0 g4 g5 g7 g8 g9 gK gF gD gB gC gA gG gJ gN gI gH gO gP gT gQ gU gR gS gV gW gX hk hi hu hR
  have hlt:i < d.length:=by omega
  have htl:(d.take i).length=i:=by rw [List.length_take]; omega
  have hl:(layB b k0 (d.take i)).length=256:=by rw [kM (by rw [htl]; omega),hb]
  have h1:IntKind.i64.wrap ((k0:Int) + (i:Int))=((k0 + i:Nat):Int):=by rw [wrap64 (by omega)]; omega
  have h2:IntKind.i64.wrap (256 - (k0:Int))=256 - (k0:Int):=wrap64 (by omega)
  have h4 : ¬ (i:Int) ≥ 256 - (k0:Int):=by omega
  have h3:IntKind.i64.wrap ((i:Int) + 1)=((i + 1:Nat):Int):=by rw [wrap64 (by omega)]; omega
  have hix:=fun S=>ix76 (S:=S) (l:=d) hlt
  have hia:=fun S j x=>ia42 (S:=S) (j:=j) (x:=x) (i:=k0 + i) (by omega)
  have hp:=bt42.put hu hl (i:=k0 + i) (by omega) (x:=d[i])
  have e:(layB b k0 (d.take i)).set (k0 + i) d[i]=layB b k0 (d.take (i + 1)):=by
   rw [List.take_add_one,List.getElem?_eq_getElem hlt]
   show _=layB b k0 (d.take i ++ [d[i]])
   rw [z4p (by rw [htl]; omega),htl]
  rw [e] at hp
  rw [zO]
  refine zN ?_
  conv=>arg 2; whnf
  simp (maxSteps:=1000000) (disch:=first|assumption|omega|rfl) only [↓gp,gc,Nat.reduceAdd,encB,h1,h2,h3,hix,hia,hp]
  exact ih (i + 1) _ _ _ _ _ _ _ _ _ _ _ _ _ _ _ _ _ _ _ _ _ _ _ _ _ _ _ _ (by omega) (by omega) isB_v hR
theorem zzl (b:List UInt8) (hb:b.length=256) (k0:Nat) (hk:k0 < 256) (d:List UInt8) (hk0:k0 + d.length ≤ 256):Ev cfg 148 [blkD b,.int .i64 (k0:Int),encB d] (.ret (.d (blkD (layB b k0 d)))):=by
 refine kW rfl rfl zsp ?_
 show Wp cfg (Tryz.f148.body.getD .skip) ((.d (blkD b))::(.d (.int .i64 (k0:Int)))::(.d (encB d))::uZ (uZ (uZ ((.tup [])::[])))) [] [] _
 unfold uZ
 conv=>arg 2; whnf
 have c1 : ¬ (k0:Int) < 0:=by omega
 have c2 : ¬ (k0:Int) ≥ 256:=by omega
 have hll:(layB b k0 d).length=256:=by rw [kM (by omega),hb]
 have hf:=fd42 hb
 have hln : ∀ S:zA,zI Tryz.prog S .len [76] [.d (encB d)]=some (.val (.d (.int .i64 d.length)) S 0):=fun S=>by rw [encB,zng,List.length_map]
 simp (maxSteps:=1000000) (disch:=first|assumption|omega|rfl) only [↓gp,gc,Nat.reduceAdd,z42,zf42,hf,hln]
 refine q11 b hb k0 d hk0 _ _ d.length 0 _ _ _ _ _ _ _ _ _ _ _ _ _ _ _ _ _ _ _ _ _ _ _ _ _ _ _ _ rfl (Nat.zero_le _) (by rw [List.take_zero,z7a]; exact wA) ?_
 intro u i' g0 g4 g5 g7 g8 g9 gK gF gD gB gC gA gG gJ gN gI gH gO gP gT gQ gU gR gS gV gW gX hu
 have hld:=bt42.load hu hll
 have hst:=bt42.store hu hll (w:=blkV (zK 256)) isB_v z256
 simp (maxSteps:=1000000) (disch:=first|assumption|omega|rfl) only [↓gp,gc,Nat.reduceAdd,hld,hst]
 exact wL (u:= .ref 1 0 0) (v:=u) rfl ((zJ rfl).trans hld) hu.one (hu.frz (n:=10))
theorem bd42:wX Tryz.prog 42 []=some (blkV (zK 256)):=by kernel_rfl
section
variable {ops:Array Oper} {dst:Option Tmp} {k:List Oper} {T:List V} {S:zA} {F:Dfs} {Q:Post}
theorem zfh {u:V} {b d:List UInt8} (hu:IsB u b) (hb:b.length=256) {k0:Nat} (hk:k0 < 256) (hk0:k0 + d.length ≤ 256):WpR cfg ops dst k T S F Q (some (.enter 148 [u,.d (.int .i64 (k0:Int)),.d (encB d)]))=WpL cfg ops k (putT T dst (.d (blkD (layB b k0 d)))) S F Q :=
 kT (ds:=[blkD b,.int .i64 (k0:Int),encB d]) rfl (by simp only [allO,hu.frz (n:=10),zG]; rfl) (by rw [List.flatMap_cons,hu.frzIds]; rfl) (zzl b hb k0 hk d hk0)
theorem z8w {u:V} {b:List UInt8} (hu:IsB u b) (hb:b.length=256) {k0 w v:Nat} (hk0:k0 + w ≤ 256) (hw1:1 ≤ w) (hw4:w ≤ 4):WpR cfg ops dst k T S F Q (some (.enter 146 [u,.d (.int .i64 (k0:Int)),.d (.int .i64 (w:Int)),.d (.int .i64 (v:Int))]))=WpL cfg ops k (putT T dst (.d (blkD (layB b k0 (leB w v))))) S F Q :=
 kT (ds:=[blkD b,.int .i64 (k0:Int),.int .i64 (w:Int),.int .i64 (v:Int)]) rfl (by simp only [allO,hu.frz (n:=10),zG]; rfl) (by rw [List.flatMap_cons,hu.frzIds]; rfl) (zsx b hb k0 w v hk0 hw1 hw4)
end
theorem q0p (d:List UInt8) (hd:d.length ≤ 256):Ev cfg 145 [encB d] (.ret (.d (blkD (layB (zK 256) 0 d)))):=by
 refine kW rfl rfl zrx ?_
 show Wp cfg (Tryz.f145.body.getD .skip) ((.d (encB d))::(.tup [])::(.tup [])::(.tup [])::(.tup [])::(.tup [])::[]) [] [] _
 conv=>arg 2; whnf
 have hll:(layB (zK 256) 0 d).length=256:=by rw [kM (by rw [z256]; omega),z256]
 have hc:=fun {ops dst k T S F Q}=>zfh (ops:=ops) (dst:=dst) (k:=k) (T:=T) (S:=S) (F:=F) (Q:=Q) (u:=blkV (zK 256)) (b:=zK 256) (d:=d) isB_v z256 (k0:=0) (by omega) (by omega)
 have hst:=zan hll z256
 have h1:(blkV (zK 256)).one=true:=rfl
 simp only [nl0,nl1,nl2,nl4,nl8,nl10,nl12,nl16,nl20,zgt] at hc
 simp (maxSteps:=1000000) (disch:=first|assumption|omega|rfl) only [↓gp,gc,Nat.reduceAdd,z42,zf42,bd42,hc,zt3,hst,h1]
 exact wL (u:= .ref 0 0 0) (v:= .d (blkD (layB (zK 256) 0 d))) rfl ((zJ rfl).trans (z3s hll)) rfl rfl
def rowY (d:List UInt8):Ob:= .row (d.map fun x=>V.d (byD x)) 5
section
variable {S:zA} {id n i:Nat} {d:List UInt8}
theorem ixY (hS:S[id]? = some (rowY d)) (hi:i < n):zM Tryz.prog S 76 (.rs id 0 n) (.d (.int .i64 (i:Int)))=some (.ref id i 0):=by
 have h1:rowT S id 5=true:=by unfold rowT; rw [hS]; rfl
 have h2:(sz Tryz.prog 5).isSome=true:=by kernel_rfl
 simp only [zM,intOf?,Tryz.underlying76]
 rw [if_pos ⟨⟨by omega,by omega⟩,h1,h2⟩]
 simp
theorem zpx (hS:S[id]? = some (rowY d)) (hi:i < d.length):rowE S id i=some (.d (.int .u8 (d[i].toNat:Int))):=by
 unfold rowE
 rw [hS]
 simp only [rowY,List.getElem?_map,List.getElem?_eq_getElem hi,Option.map_some]
 rfl
theorem zvu (hS:S[id]? = some (rowY d)) {x:UInt8}:jJ S id i (.d (.int .u8 (x.toNat:Int)))=some (S.set id (rowY (d.set i x))):=by
 unfold jJ
 rw [hS]
 simp only [rowY,List.map_set]
 rfl
theorem zro (hS:S[id]? = some (rowY d)) (hn:n=d.length):Go.Vm.frz S zG (.rs id 0 n)=some (encB d):=by
 subst hn
 show (match S[id]? with
  | some (.row xs e)=>if 0 + d.length ≤ xs.length && (allO (Go.Vm.frz S 11) xs).isSome then (allO (Go.Vm.frz S 11) ((xs.drop 0).take d.length)).map D.sl else none
  | some (.fz xs e)=>if 0 + d.length ≤ xs.length then some (D.sl ((xs.drop 0).take d.length)) else none
  | _=>none)=_
 rw [hS]
 have h2:((d.map fun x=>V.d (byD x)).drop 0).take d.length=d.map fun x=>V.d (byD x):=by rw [List.drop_zero,List.take_of_length_le (by simp)]
 simp only [rowY,zf7,h2,List.length_map,Nat.zero_add,Nat.le_refl,decide_true,Option.isSome_some,Bool.and_self,if_true,Option.map_some]
 rfl
theorem mk40 (h:n ≤ 1000000):jL Tryz.prog S 76 (.d (.int .i64 (n:Int))) (.d (.int .i64 (n:Int)))=some (.rs S.length 0 n,S ++ [rowY (zK n)]):=by
 have hz:zeroV Tryz.prog 5=some (.d (.int .u8 0)):=by kernel_rfl
 have hf:qA Tryz.prog 5 (.d (.int .u8 0))=true:=by kernel_rfl
 have hr:room Tryz.prog 5 n=true:=zjy h
 have e:List.replicate n (V.d (.int .u8 0))=(zK n).map fun x=>V.d (byD x):=by unfold zK; rw [List.map_replicate]; rfl
 simp only [jL,Tryz.underlying76,hz,Int.toNat_natCast,hr,hf,Bool.and_self,if_true]
 rw [if_pos ⟨by omega,Int.le_refl _,by omega⟩,e]
 rfl
end
theorem st5 {a b:Int}:qW Tryz.prog 5 0 (.d (.int .u8 a)) (.d (.int .u8 b))=some (.d (.int .u8 a)):=by kernel_rfl
theorem min_le {S:zA} {a b:Int} (h:a ≤ b):zI Tryz.prog S .min [3,3] [.d (.int .i64 a),.d (.int .i64 b)]=some (.val (.d (.int .i64 a)) S 0):=by
 simp only [zI,zd7,zpu,if_true]
 rw [if_neg (by omega)]
 rfl
theorem max_le {S:zA} {a b:Int} (h:a ≤ b):zI Tryz.prog S .max [3,3] [.d (.int .i64 a),.d (.int .i64 b)]=some (.val (.d (.int .i64 b)) S 0):=by
 simp only [zI,zd7,zna,if_true]
 by_cases hh:b > a
 ·rw [if_pos hh]; rfl
 ·have:a=b:=by omega
  subst this; rw [if_neg hh]; rfl
def vG (t:List UInt8) (i:Nat):List UInt8:=t.take i ++ zK (t.length - i)
theorem z8g {t:List UInt8} {i:Nat} (h:i ≤ t.length):(vG t i).length=t.length:=by unfold vG; simp [zK]; omega
theorem z8b {t:List UInt8} {i:Nat} (h:i < t.length):(vG t i).set i t[i]=vG t (i + 1):=by
 unfold vG zK
 obtain ⟨m,hm⟩ : ∃ m,t.length - i=m + 1:=⟨t.length - i - 1,by omega⟩
 have h1:(t.take i).length=i:=by rw [List.length_take]; omega
 rw [List.set_append_right _ _ (by omega),h1,Nat.sub_self,hm,List.replicate_succ,List.set_cons_zero,List.take_add_one,List.getElem?_eq_getElem h]
 have:t.length - (i + 1)=m:=by omega
 rw [this,List.append_assoc]
 rfl
theorem q1b (b:List UInt8) (hb:b.length=256) (k0:Nat) (t:List UInt8) (ht:t=(b.drop k0).take t.length) (hk0:k0 + t.length ≤ 256) (x6:V) (R:Post) : ∀ (k i:Nat) (g0 g2 g4 g5 g8 g9 gK gF gD gB gC gA gE gL gM gG gJ gN gI gH gO gQ gU gR gS gV gW gX gY gZ gh gj gk:V),t.length - i=k→i ≤ t.length →
 (∀ i' g0 g2 g4 g5 g8 g9 gK gF gD gB gC gA gE gL gM gG gJ gN gI gH gO gQ gU gR gS gV gW gX gY gZ gh gj gk,R (.exit 0) (g0::(.d (.int .i64 (k0:Int)))::g2::(.ref 0 0 0)::g4::g5::x6::(.rs 1 0 t.length)::g8::g9::gK::gF::gD::gB::gC::gA::gE::gL::gM::gG::gJ::gN::gI::gH::gO::(.d (.int .i64 (t.length:Int)))::i'::gQ::gU::gR::gS::gV::gW::gX::gY::gZ::gh::gj::gk::[]) [.row [.d (blkD b)] 42,rowY t] []) →
 Wp cfg (.loop (lpOf (Tryz.f107.body.getD .skip) 0)) (g0::(.d (.int .i64 (k0:Int)))::g2::(.ref 0 0 0)::g4::g5::x6::(.rs 1 0 t.length)::g8::g9::gK::gF::gD::gB::gC::gA::gE::gL::gM::gG::gJ::gN::gI::gH::gO::(.d (.int .i64 (t.length:Int)))::(.d (.int .i64 (i:Int)))::gQ::gU::gR::gS::gV::gW::gX::gY::gZ::gh::gj::gk::[]) [.row [.d (blkD b)] 42,rowY (vG t i)] [] R:=by
 intro k
 induction k with
 | zero =>
  intro i g0 g2 g4 g5 g8 g9 gK gF gD gB gC gA gE gL gM gG gJ gN gI gH gO gQ gU gR gS gV gW gX gY gZ gh gj gk hk hi hR
  have hie:i=t.length:=by omega
  subst hie
  have e:vG t t.length=t:=by unfold vG zK; simp
  rw [e]
  rw [zO]
  refine zN ?_
  conv=>arg 2; whnf
  simp (maxSteps:=1000000) (disch:=first|assumption|omega|rfl) only [↓gp,gc,Nat.reduceAdd]
  exact hR _ _ _ _ _ _ _ _ _ _ _ _ _ _ _ _ _ _ _ _ _ _ _ _ _ _ _ _ _ _ _ _ _ _
 | succ k ih =>
  intro i g0 g2 g4 g5 g8 g9 gK gF gD gB gC gA gE gL gM gG gJ gN gI gH gO gQ gU gR gS gV gW gX gY gZ gh gj gk hk hi hR
  have hlt:i < t.length:=by omega
  have hl:=z8g (t:=t) (i:=i) (by omega)
  have h1:IntKind.i64.wrap ((k0:Int) + (i:Int))=((k0 + i:Nat):Int):=by rw [wrap64 (by omega)]; omega
  have h3:IntKind.i64.wrap ((i:Int) + 1)=((i + 1:Nat):Int):=by rw [wrap64 (by omega)]; omega
  have hia:=fun S j x=>ia42 (S:=S) (j:=j) (x:=x) (i:=k0 + i) (by omega)
  have hg:=bt42.get (v:= .d (blkD b)) wA hb (i:=k0 + i) (by omega)
  have he:b[k0 + i]=t[i]:=by
   have:t[i]=((b.drop k0).take t.length)[i]'(by rw [← ht]; exact hlt):=by congr 1
   rw [this]; simp
  rw [he] at hg
  have hS:([.row [.d (blkD b)] 42,rowY (vG t i)]:zA)[1]? = some (rowY (vG t i)):=rfl
  have hix:=ixY (n:=t.length) (i:=i) hS hlt
  have hrw:=zpx (i:=i) hS (by omega)
  have hpt:=zvu (i:=i) hS (x:=t[i])
  rw [z8b hlt] at hpt
  have hpt:jJ [.row [.d (blkD b)] 42,rowY (vG t i)] 1 i (.d (.int .u8 (t[i].toNat:Int)))=some [.row [.d (blkD b)] 42,rowY (vG t (i + 1))]:=hpt
  rw [zO]
  refine zN ?_
  conv=>arg 2; whnf
  simp (maxSteps:=1000000) (disch:=first|assumption|omega|rfl) only [↓gp,gc,Nat.reduceAdd,h1,h3,hia,hg,hix,hrw,st5,hpt]
  exact ih (i + 1) _ _ _ _ _ _ _ _ _ _ _ _ _ _ _ _ _ _ _ _ _ _ _ _ _ _ _ _ _ _ _ _ _ (by omega) (by omega) hR
theorem zqr (b:List UInt8) (hb:b.length=256) (k0 n:Nat) (hn:1 ≤ n) (hk0:k0 + n ≤ 256):Ev cfg 107 [blkD b,.int .i64 (k0:Int),.int .i64 (n:Int)] (.ret (.d (encB ((b.drop k0).take n)))):=by
 refine kW rfl rfl zrp ?_
 show Wp cfg (Tryz.f107.body.getD .skip) ((.d (blkD b))::(.d (.int .i64 (k0:Int)))::(.d (.int .i64 (n:Int)))::uZ (uZ (uZ ((.tup [])::(.tup [])::(.tup [])::(.tup [])::(.tup [])::(.tup [])::[])))) [] [] _
 unfold uZ
 conv=>arg 2; whnf
 have hl:((b.drop k0).take n).length=n:=by rw [List.length_take,List.length_drop]; omega
 have c1 : ¬ (k0:Int) < 0:=by omega
 have c2 : ¬ (k0:Int) ≥ 256:=by omega
 have c3 : ¬ (n:Int) < 1:=by omega
 have h1:IntKind.i64.wrap (256 - (k0:Int))=256 - (k0:Int):=wrap64 (by omega)
 have hmin:=fun S=>min_le (S:=S) (a:=(n:Int)) (b:=256 - (k0:Int)) (by omega)
 have hf:=fd42 hb
 have hmk:=fun S=>mk40 (S:=S) (n:=n) (by omega)
 simp (maxSteps:=1000000) (disch:=first|assumption|omega|rfl) only [↓gp,gc,Nat.reduceAdd,hf,h1,hmin,hmk]
 have ht:(b.drop k0).take n=(b.drop k0).take ((b.drop k0).take n).length:=by rw [hl]
 generalize (b.drop k0).take n=t at *
 subst hl
 have e0:zK t.length=vG t 0:=by unfold vG; simp
 rw [e0]
 refine q1b b hb k0 t ht hk0 _ _ t.length 0 _ _ _ _ _ _ _ _ _ _ _ _ _ _ _ _ _ _ _ _ _ _ _ _ _ _ _ _ _ _ _ _ _ rfl (Nat.zero_le _) ?_
 intro i' g0 g2 g4 g5 g8 g9 gK gF gD gB gC gA gE gL gM gG gJ gN gI gH gO gQ gU gR gS gV gW gX gY gZ gh gj gk
 simp (maxSteps:=1000000) (disch:=first|assumption|omega|rfl) only [↓gp,gc,Nat.reduceAdd]
 exact zS rfl rfl (zro rfl rfl)
theorem zon {S:zA} {b:List UInt8} (h0:b ≠ []) (hl:b.length ≤ 100000):qJ Tryz.prog S 76 76 (.ts []) (.d (encB b))=some (.rs S.length 0 b.length,S ++ [rowY b],2):=by
 have hall:((b.map byD).map V.d).all (qA Tryz.prog 5)=true:=by
  rw [List.all_eq_true]
  intro y hy
  obtain ⟨z,hz,rfl⟩:=List.mem_map.1 hy
  obtain ⟨a,_,rfl⟩:=List.mem_map.1 hz
  exact zqj _
 have h5:(sz Tryz.prog 5).isSome=true:=by kernel_rfl
 have src:srcV Tryz.prog S 5 76 (.d (encB b))=some ((b.map byD).map V.d):=by
  have:encB b = .sl (b.map byD):=rfl
  rw [this]
  simp only [srcV,Tryz.underlying76,jV,hall,h5,Bool.and_self,if_true]
 cases b with
 | nil=>exact absurd rfl h0
 | cons a r =>
  have src1:srcV Tryz.prog S 5 76 (.d (encB (a::r)))=some (.d (byD a)::(r.map byD).map .d):=src
  have hl2:((r.map byD).map V.d).length=r.length:=by simp
  have hr:room Tryz.prog 5 (r.length + 1)=true:=zjy (by simp at hl; omega)
  simp only [qJ,Tryz.underlying76,src1,zw5,if_true,List.all_nil,List.length_nil,hr,Bool.and_self,List.map_nil,List.nil_append,List.length_cons,List.cons_append,List.map_cons,List.map_map,Function.comp_def,Nat.zero_add,List.length_map,Bool.and_true,rowY]
theorem q1i {S:zA} {n:Nat}:qF Tryz.prog S 30 5 (.d (.int .u64 (n:Int)))=some (.d (.int .u8 ((UInt8.ofNat (n % 256)).toNat:Int)),0):=by
 have h1:Tryz.prog.underlying 30=some (.int .u64):=by kernel_rfl
 have h2:Tryz.prog.underlying 5=some (.int .u8):=by kernel_rfl
 have e:((UInt8.ofNat (n % 256)).toNat:Int)=(n:Int) % 256:=by rw [UInt8.toNat_ofNat']; omega
 simp only [qF,h1,h2]
 rw [zq8,e]
theorem q1w (b:List UInt8) (hb:b.length ≤ 1000) (k0 w v:Nat) (hk0:k0 + w ≤ b.length) (hw8:w ≤ 8) (x8 x9:V) (R:Post) : ∀ (k i:Nat) (g0 g2 g4 g5 g6 g7 gF gD gB gC gA gE gL gM gG gJ gN gI gH gO gQ gU gR gS gV gW gX gY gZ gh gj gk gn gr gz:V),w - i=k→i ≤ w →
 (∀ i' g0 g2 g4 g5 g6 g7 gF gD gB gC gA gE gL gM gG gJ gN gI gH gO gQ gU gR gS gV gW gX gY gZ gh gj gk gn gr gz,R (.exit 0) (g0::(.d (.int .i64 (k0:Int)))::g2::(.d (.int .u64 (v:Int)))::g4::g5::g6::g7::x8::x9::(.rs 0 0 b.length)::gF::gD::gB::gC::gA::gE::gL::gM::gG::gJ::gN::gI::gH::gO::(.d (.int .i64 (w:Int)))::i'::gQ::gU::gR::gS::gV::gW::gX::gY::gZ::gh::gj::gk::gn::gr::gz::[]) [rowY (layB b k0 (leB w v))] []) →
 Wp cfg (.loop (lpOf (Tryz.f147.body.getD .skip) 0)) (g0::(.d (.int .i64 (k0:Int)))::g2::(.d (.int .u64 (v:Int)))::g4::g5::g6::g7::x8::x9::(.rs 0 0 b.length)::gF::gD::gB::gC::gA::gE::gL::gM::gG::gJ::gN::gI::gH::gO::(.d (.int .i64 (w:Int)))::(.d (.int .i64 (i:Int)))::gQ::gU::gR::gS::gV::gW::gX::gY::gZ::gh::gj::gk::gn::gr::gz::[]) [rowY (layB b k0 (leB i v))] [] R:=by
 intro k
 induction k with
 | zero =>
  intro i g0 g2 g4 g5 g6 g7 gF gD gB gC gA gE gL gM gG gJ gN gI gH gO gQ gU gR gS gV gW gX gY gZ gh gj gk gn gr gz hk hi hR
  have hie:i=w:=by omega
  subst hie
  rw [zO]
  refine zN ?_
  conv=>arg 2; whnf
  simp (maxSteps:=1000000) (disch:=first|assumption|omega|rfl) only [↓gp,gc,Nat.reduceAdd]
  exact hR _ _ _ _ _ _ _ _ _ _ _ _ _ _ _ _ _ _ _ _ _ _ _ _ _ _ _ _ _ _ _ _ _ _ _ _
 | succ k ih =>
  intro i g0 g2 g4 g5 g6 g7 gF gD gB gC gA gE gL gM gG gJ gN gI gH gO gQ gU gR gS gV gW gX gY gZ gh gj gk gn gr gz hk hi hR
  have hlt:i < w:=by omega
  have hl:(layB b k0 (leB i v)).length=b.length:=by rw [kM (by rw [jH]; omega)]
  have h1:IntKind.i64.wrap ((k0:Int) + (i:Int))=((k0 + i:Nat):Int):=by rw [wrap64 (by omega)]; omega
  have h2:IntKind.i64.wrap (8 * (i:Int))=((8 * i:Nat):Int):=by rw [wrap64 (by omega)]; omega
  have h3:IntKind.i64.wrap ((i:Int) + 1)=((i + 1:Nat):Int):=by rw [wrap64 (by omega)]; omega
  have hcv:=fun S=>cvu (S:=S) (i:=8 * i) (by omega)
  have hsh:=fun K'=>zq9 (K:= .u64) (K':=K') (t:=30) (v:=v) (i:=i) rfl (by omega)
  have hc5:=fun S=>q1i (S:=S) (n:=v / 256 ^ i)
  have hS:([rowY (layB b k0 (leB i v))]:zA)[0]? = some (rowY (layB b k0 (leB i v))):=rfl
  have hix:=ixY (n:=b.length) (i:=k0 + i) hS (by omega)
  have hrw:=zpx (i:=k0 + i) hS (by omega)
  have hpt:=zvu (i:=k0 + i) hS (x:=UInt8.ofNat (v / 256 ^ i % 256))
  have e:(layB b k0 (leB i v)).set (k0 + i) (UInt8.ofNat (v / 256 ^ i % 256))=layB b k0 (leB (i + 1) v):=by
   rw [zg1,z4p (by rw [jH]; omega),jH]
  rw [e] at hpt
  have hpt:jJ [rowY (layB b k0 (leB i v))] 0 (k0 + i) (.d (.int .u8 ((UInt8.ofNat (v / 256 ^ i % 256)).toNat:Int)))=some [rowY (layB b k0 (leB (i + 1) v))]:=hpt
  rw [zO]
  refine zN ?_
  conv=>arg 2; whnf
  simp (maxSteps:=1000000) (disch:=first|assumption|omega|rfl) only [↓gp,gc,Nat.reduceAdd,h1,h2,h3,hcv,hsh,hc5,hix,hrw,st5,hpt]
  exact ih (i + 1) _ _ _ _ _ _ _ _ _ _ _ _ _ _ _ _ _ _ _ _ _ _ _ _ _ _ _ _ _ _ _ _ _ _ _ (by omega) (by omega) hR
theorem zfi {S:zA} {T:List V} {dst:Option Tmp} {ty:TypeId} {pos:String} {after:Array Edge} {g:Option (Nat × Bool)}:opV Tryz.prog S T ⟨dst,.buildSlice 76 0 #[],ty,pos,after,g⟩=some (.val (.ts []) S 0):=by kernel_rfl
theorem zwo (b:List UInt8) (hb0:b ≠ []) (hb:b.length ≤ 1000) (k0 w v:Nat) (hk0:k0 + w ≤ b.length) (hw1:1 ≤ w) (hw8:w ≤ 8):Ev cfg 147 [encB b,.int .i64 (k0:Int),.int .i64 (w:Int),.int .u64 (v:Int)] (.ret (.tup [.d (encB (layB b k0 (leB w v))),.d (.bool true)])):=by
 refine kW rfl rfl zv1 ?_
 show Wp cfg (Tryz.f147.body.getD .skip) ((.d (encB b))::(.d (.int .i64 (k0:Int)))::(.d (.int .i64 (w:Int)))::(.d (.int .u64 (v:Int)))::uZ (uZ (uZ ((.tup [])::(.tup [])::(.tup [])::(.tup [])::(.tup [])::(.tup [])::(.tup [])::(.tup [])::[])))) [] [] _
 unfold uZ
 conv=>arg 2; whnf
 have c4 : ¬ (w:Int) > 8:=by omega
 have ct:=fun {ops dst k T S F Q}=>z3a (ops:=ops) (dst:=dst) (k:=k) (T:=T) (S:=S) (F:=F) (Q:=Q) (a:=k0) (w:=w) (n:=b.length) (by omega) (by omega) (by omega)
 rw [decide_eq_true (show 1 ≤ w∧k0 + w ≤ b.length from ⟨hw1,hk0⟩)] at ct
 have hln : ∀ S:zA,zI Tryz.prog S .len [76] [.d (encB b)]=some (.val (.d (.int .i64 b.length)) S 0):=fun S=>by rw [encB,zng,List.length_map]
 have hap:=fun S=>zon (S:=S) hb0 (by omega)
 have hll:(layB b k0 (leB w v)).length=b.length:=by rw [kM (by rw [jH]; omega)]
 simp (maxSteps:=1000000) (disch:=first|assumption|omega|rfl) only [↓gp,gc,Nat.reduceAdd,↓vbs,ct,zjv,hln,zfi,hap]
 have e0:rowY b=rowY (layB b k0 (leB 0 v)):=by rw [show leB 0 v=[] from rfl,z7a]
 rw [e0]
 refine q1w b hb k0 w v hk0 hw8 _ _ _ w 0 _ _ _ _ _ _ _ _ _ _ _ _ _ _ _ _ _ _ _ _ _ _ _ _ _ _ _ _ _ _ _ _ _ _ _ rfl (Nat.zero_le _) ?_
 intro i' g0 g2 g4 g5 g6 g7 gF gD gB gC gA gE gL gM gG gJ gN gI gH gO gQ gU gR gS gV gW gX gY gZ gh gj gk gn gr gz
 simp (maxSteps:=1000000) (disch:=first|assumption|omega|rfl) only [↓gp,gc,Nat.reduceAdd]
 exact zaz rfl rfl rfl rfl (zro rfl hll.symm) rfl
theorem u64_in {n:Int} (h0:0 ≤ n) (h1:n < 18446744073709551616):IntKind.u64.wrap n=n:=by
 have:IntKind.u64.wrap n=n % 18446744073709551616:=rfl
 rw [this]
 omega
theorem zqb {a x i:Nat} (ha:a < 256 ^ i):a ||| x * 256 ^ i=a + x * 256 ^ i:=by
 have e:(256:Nat) ^ i=2 ^ (8 * i):=by rw [Nat.pow_mul]
 rw [e] at ha ⊢
 have:=Nat.shiftLeft_add_eq_or_of_lt (i:=8 * i) (b:=a) ha x
 rw [Nat.shiftLeft_eq] at this
 rw [Nat.or_comm,← this,Nat.add_comm]
theorem q0k {a x i:Nat} {t:TypeId} (ha:a < 256 ^ i) (h:a + x * 256 ^ i < 18446744073709551616):binV Tryz.prog .or t (.d (.int .u64 (a:Int))) (.d (.int .u64 ((x * 256 ^ i:Nat):Int)))=some (.d (.int .u64 ((a + x * 256 ^ i:Nat):Int))):=by
 have e1:BitVec.ofInt IntKind.u64.bits (a:Int)=BitVec.ofNat 64 a:=BitVec.ofInt_natCast ..
 have e2:BitVec.ofInt IntKind.u64.bits ((x * 256 ^ i:Nat):Int)=BitVec.ofNat 64 (x * 256 ^ i):=BitVec.ofInt_natCast ..
 have e3:(BitVec.ofNat 64 a ||| BitVec.ofNat 64 (x * 256 ^ i)).toNat=a + x * 256 ^ i:=by
  rw [BitVec.toNat_or,BitVec.toNat_ofNat,BitVec.toNat_ofNat,Nat.mod_eq_of_lt (by omega),Nat.mod_eq_of_lt (by omega),zqb ha]
 simp only [binV,qO,e1,e2]
 show some (V.d (.int .u64 (IntKind.u64.wrap (((BitVec.ofNat 64 a ||| BitVec.ofNat 64 (x * 256 ^ i)).toNat:Nat):Int))))=_
 rw [e3,u64_in (by omega) (by omega)]
theorem zwc {a x i:Nat} {t:TypeId} (ha:a < 256 ^ i) (h:a + x * 256 ^ i < 9223372036854775808):binV Tryz.prog .or t (.d (.int .i64 (a:Int))) (.d (.int .i64 ((x * 256 ^ i:Nat):Int)))=some (.d (.int .i64 ((a + x * 256 ^ i:Nat):Int))):=by
 have e1:BitVec.ofInt IntKind.i64.bits (a:Int)=BitVec.ofNat 64 a:=BitVec.ofInt_natCast ..
 have e2:BitVec.ofInt IntKind.i64.bits ((x * 256 ^ i:Nat):Int)=BitVec.ofNat 64 (x * 256 ^ i):=BitVec.ofInt_natCast ..
 have e3:(BitVec.ofNat 64 a ||| BitVec.ofNat 64 (x * 256 ^ i)).toNat=a + x * 256 ^ i:=by
  rw [BitVec.toNat_or,BitVec.toNat_ofNat,BitVec.toNat_ofNat,Nat.mod_eq_of_lt (by omega),Nat.mod_eq_of_lt (by omega),zqb ha]
 simp only [binV,qO,e1,e2]
 show some (V.d (.int .i64 (IntKind.i64.wrap (((BitVec.ofNat 64 a ||| BitVec.ofNat 64 (x * 256 ^ i)).toNat:Nat):Int))))=_
 rw [e3,wrap64 (by omega)]
theorem zz9 {x i:Nat} {K':IntKind} {t:TypeId} (hi:i < 8) (h:x * 256 ^ i < 18446744073709551616):binV Tryz.prog .shl t (.d (.int .u64 (x:Int))) (.d (.int K' ((8 * i:Nat):Int)))=some (.d (.int .u64 ((x * 256 ^ i:Nat):Int))):=by
 have e:min ((8 * i:Nat):Int).toNat IntKind.u64.bits=8 * i:=by show min ((8 * i:Nat):Int).toNat 64=8 * i; omega
 have e2:(x:Int) * 2 ^ (8 * i)=((x * 256 ^ i:Nat):Int):=by
  have:(256:Nat) ^ i=2 ^ (8 * i):=by rw [Nat.pow_mul]
  rw [this]; push_cast; rfl
 simp only [binV,qO]
 rw [if_neg (by omega),e,e2,u64_in (by omega) (by omega)]
 rfl
theorem zr5 {x i:Nat} {K':IntKind} {t:TypeId} (hi:i < 8) (h:x * 256 ^ i < 9223372036854775808):binV Tryz.prog .shl t (.d (.int .i64 (x:Int))) (.d (.int K' ((8 * i:Nat):Int)))=some (.d (.int .i64 ((x * 256 ^ i:Nat):Int))):=by
 have e:min ((8 * i:Nat):Int).toNat IntKind.i64.bits=8 * i:=by show min ((8 * i:Nat):Int).toNat 64=8 * i; omega
 have e2:(x:Int) * 2 ^ (8 * i)=((x * 256 ^ i:Nat):Int):=by
  have:(256:Nat) ^ i=2 ^ (8 * i):=by rw [Nat.pow_mul]
  rw [this]; push_cast; rfl
 simp only [binV,qO]
 rw [if_neg (by omega),e,e2,wrap64 (by omega)]
 rfl
theorem q0n {S:zA} {x:UInt8}:qF Tryz.prog S 5 30 (.d (.int .u8 (x.toNat:Int)))=some (.d (.int .u64 (x.toNat:Int)),0):=by
 have h1:Tryz.prog.underlying 5=some (.int .u8):=by kernel_rfl
 have h2:Tryz.prog.underlying 30=some (.int .u64):=by kernel_rfl
 have:x.toNat < 256:=x.toNat_lt
 simp only [qF,h1,h2]
 rw [u64_in (by omega) (by omega)]
theorem cv53 {S:zA} {x:UInt8}:qF Tryz.prog S 5 3 (.d (.int .u8 (x.toNat:Int)))=some (.d (.int .i64 (x.toNat:Int)),0):=by
 have h1:Tryz.prog.underlying 5=some (.int .u8):=by kernel_rfl
 have h2:Tryz.prog.underlying 3=some (.int .i64):=by kernel_rfl
 have:x.toNat < 256:=x.toNat_lt
 simp only [qF,h1,h2]
 rw [wrap64 (by omega)]
theorem zfz {t:List UInt8} {i:Nat} (h:i < t.length):leN (t.take (i + 1))=leN (t.take i) + t[i].toNat * 256 ^ i:=by
 rw [List.take_add_one,List.getElem?_eq_getElem h]
 show leN (t.take i ++ [t[i]])=_
 rw [zfr,List.length_take,Nat.min_eq_left (by omega),Nat.mul_comm]
theorem z1x {t:List UInt8} {i:Nat} (h:i ≤ t.length):leN (t.take i) < 256 ^ i:=by
 have:=zqk (t.take i)
 rwa [List.length_take,Nat.min_eq_left h] at this
theorem zqs {i w:Nat} (h:i ≤ w):(256:Nat) ^ i ≤ 256 ^ w:=Nat.pow_le_pow_right (by decide) h
theorem q1j (b:List UInt8) (hb:b.length ≤ 1000) (k0:Nat) (t:List UInt8) (ht:t=(b.drop k0).take t.length) (hk0:k0 + t.length ≤ b.length) (hw8:t.length ≤ 8) (x6 x7:V) (R:Post) (S:zA) : ∀ (k i:Nat) (g2 g3 g4 g5 g9 gK gF gD gB gC gA gE gL gM gG gI gH gO gP gT gQ gU gR gS gV gW gX gY gZ gh gj gk:V),t.length - i=k→i ≤ t.length →
 (∀ i' g2 g3 g4 g5 g9 gK gF gD gB gC gA gE gL gM gG gI gH gO gP gT gQ gU gR gS gV gW gX gY gZ gh gj gk,R (.exit 0) ((.d (encB b))::(.d (.int .i64 (k0:Int)))::g2::g3::g4::g5::x6::x7::(.d (.int .u64 (leN t:Int)))::g9::gK::gF::gD::gB::gC::gA::gE::gL::gM::gG::(.d (.int .i64 (t.length:Int)))::i'::gI::gH::gO::gP::gT::gQ::gU::gR::gS::gV::gW::gX::gY::gZ::gh::gj::gk::[]) S []) →
 Wp cfg (.loop (lpOf (Tryz.f118.body.getD .skip) 0)) ((.d (encB b))::(.d (.int .i64 (k0:Int)))::g2::g3::g4::g5::x6::x7::(.d (.int .u64 (leN (t.take i):Int)))::g9::gK::gF::gD::gB::gC::gA::gE::gL::gM::gG::(.d (.int .i64 (t.length:Int)))::(.d (.int .i64 (i:Int)))::gI::gH::gO::gP::gT::gQ::gU::gR::gS::gV::gW::gX::gY::gZ::gh::gj::gk::[]) S [] R:=by
 intro k
 induction k with
 | zero =>
  intro i g2 g3 g4 g5 g9 gK gF gD gB gC gA gE gL gM gG gI gH gO gP gT gQ gU gR gS gV gW gX gY gZ gh gj gk hk hi hR
  have hie:i=t.length:=by omega
  subst hie
  rw [List.take_length]
  rw [zO]
  refine zN ?_
  conv=>arg 2; whnf
  simp (maxSteps:=1000000) (disch:=first|assumption|omega|rfl) only [↓gp,gc,Nat.reduceAdd]
  exact hR _ _ _ _ _ _ _ _ _ _ _ _ _ _ _ _ _ _ _ _ _ _ _ _ _ _ _ _ _ _ _ _ _
 | succ k ih =>
  intro i g2 g3 g4 g5 g9 gK gF gD gB gC gA gE gL gM gG gI gH gO gP gT gQ gU gR gS gV gW gX gY gZ gh gj gk hk hi hR
  have hlt:i < t.length:=by omega
  have h1:IntKind.i64.wrap ((k0:Int) + (i:Int))=((k0 + i:Nat):Int):=by rw [wrap64 (by omega)]; omega
  have h2:IntKind.i64.wrap (8 * (i:Int))=((8 * i:Nat):Int):=by rw [wrap64 (by omega)]; omega
  have h3:IntKind.i64.wrap ((i:Int) + 1)=((i + 1:Nat):Int):=by rw [wrap64 (by omega)]; omega
  have hcv:=fun S=>cvu (S:=S) (i:=8 * i) (by omega)
  have he:b[k0 + i]=t[i]:=by
   have:t[i]=((b.drop k0).take t.length)[i]'(by rw [← ht]; exact hlt):=by congr 1
   rw [this]; simp
  have hix : ∀ S:zA,zM Tryz.prog S 76 (.d (encB b)) (.d (.int .i64 ((k0 + i:Nat):Int)))=some (.d (.ptr (.int .u8 (t[i].toNat:Int)))):=fun S=>by rw [encB,ix76 (l:=b) (i:=k0 + i) (by omega),he]
  have hn:=zfz hlt
  have hlow:=z1x (t:=t) (i:=i) (by omega)
  have hhi:=z1x (t:=t) (i:=i + 1) (by omega)
  have hp:=zqs (i:=i + 1) (w:=8) (by omega)
  have hp8:(256:Nat) ^ 8=18446744073709551616:=by decide
  rw [hn] at hhi
  have hcx:=fun S=>q0n (S:=S) (x:=t[i])
  have hsh:=fun K'=>zz9 (K':=K') (t:=30) (x:=t[i].toNat) (i:=i) (by omega) (by omega)
  have hor:=q0k (t:=30) (a:=leN (t.take i)) (x:=t[i].toNat) (i:=i) hlow (by omega)
  rw [← hn] at hor
  rw [zO]
  refine zN ?_
  conv=>arg 2; whnf
  simp (maxSteps:=1000000) (disch:=first|assumption|omega|rfl) only [↓gp,gc,Nat.reduceAdd,h1,h2,h3,hcv,hix,hcx,hsh,hor]
  exact ih (i + 1) _ _ _ _ _ _ _ _ _ _ _ _ _ _ _ _ _ _ _ _ _ _ _ _ _ _ _ _ _ _ _ _ (by omega) (by omega) hR
theorem zvv (b:List UInt8) (hb:b.length ≤ 1000) (k0 w:Nat) (hk0:k0 + w ≤ b.length) (hw1:1 ≤ w) (hw8:w ≤ 8):Ev cfg 118 [encB b,.int .i64 (k0:Int),.int .i64 (w:Int)] (.ret (.tup [.d (.int .u64 (leN ((b.drop k0).take w):Int)),.d (.bool true)])):=by
 refine kW rfl rfl ztm ?_
 show Wp cfg (Tryz.f118.body.getD .skip) ((.d (encB b))::(.d (.int .i64 (k0:Int)))::(.d (.int .i64 (w:Int)))::uZ (uZ (uZ ((.tup [])::(.tup [])::(.tup [])::(.tup [])::(.tup [])::(.tup [])::[])))) [] [] _
 unfold uZ
 conv=>arg 2; whnf
 have c4 : ¬ (w:Int) > 8:=by omega
 have ct:=fun {ops dst k T S F Q}=>z3a (ops:=ops) (dst:=dst) (k:=k) (T:=T) (S:=S) (F:=F) (Q:=Q) (a:=k0) (w:=w) (n:=b.length) (by omega) (by omega) (by omega)
 rw [decide_eq_true (show 1 ≤ w∧k0 + w ≤ b.length from ⟨hw1,hk0⟩)] at ct
 have hln : ∀ S:zA,zI Tryz.prog S .len [76] [.d (encB b)]=some (.val (.d (.int .i64 b.length)) S 0):=fun S=>by rw [encB,zng,List.length_map]
 simp (maxSteps:=1000000) (disch:=first|assumption|omega|rfl) only [↓gp,gc,Nat.reduceAdd,ct,zjv,hln]
 have hl:((b.drop k0).take w).length=w:=by rw [List.length_take,List.length_drop]; omega
 have ht:(b.drop k0).take w=(b.drop k0).take ((b.drop k0).take w).length:=by rw [hl]
 generalize (b.drop k0).take w=t at *
 subst hl
 refine q1j b hb k0 t ht hk0 hw8 _ _ _ _ t.length 0 _ _ _ _ _ _ _ _ _ _ _ _ _ _ _ _ _ _ _ _ _ _ _ _ _ _ _ _ _ _ _ _ rfl (Nat.zero_le _) ?_
 intro i' g2 g3 g4 g5 g9 gK gF gD gB gC gA gE gL gM gG gI gH gO gP gT gQ gU gR gS gV gW gX gY gZ gh gj gk
 simp (maxSteps:=1000000) (disch:=first|assumption|omega|rfl) only [↓gp,gc,Nat.reduceAdd]
 exact zaz rfl rfl rfl rfl rfl rfl
theorem at_l (b:List UInt8) (hb:b.length=256) (k0:Nat) (t:List UInt8) (ht:t=(b.drop k0).take t.length) (hk0:k0 + t.length ≤ b.length) (hw4:t.length ≤ 4) (x6:V) (R:Post) : ∀ (k i:Nat) (g0 g2 g4 g5 g8 g9 gK gF gD gB gC gA gE gG gJ gN gI gH gO gP gT gQ gU gR gS gV gW gX gY:V),t.length - i=k→i ≤ t.length →
 (∀ i' g0 g2 g4 g5 g8 g9 gK gF gD gB gC gA gE gG gJ gN gI gH gO gP gT gQ gU gR gS gV gW gX gY,R (.exit 0) (g0::(.d (.int .i64 (k0:Int)))::g2::(.ref 0 0 0)::g4::g5::x6::(.d (.int .i64 (leN t:Int)))::g8::g9::gK::gF::gD::gB::gC::gA::gE::(.d (.int .i64 (t.length:Int)))::i'::gG::gJ::gN::gI::gH::gO::gP::gT::gQ::gU::gR::gS::gV::gW::gX::gY::[]) [.row [.d (blkD b)] 42] []) →
 Wp cfg (.loop (lpOf (Tryz.f119.body.getD .skip) 0)) (g0::(.d (.int .i64 (k0:Int)))::g2::(.ref 0 0 0)::g4::g5::x6::(.d (.int .i64 (leN (t.take i):Int)))::g8::g9::gK::gF::gD::gB::gC::gA::gE::(.d (.int .i64 (t.length:Int)))::(.d (.int .i64 (i:Int)))::gG::gJ::gN::gI::gH::gO::gP::gT::gQ::gU::gR::gS::gV::gW::gX::gY::[]) [.row [.d (blkD b)] 42] [] R:=by
 intro k
 induction k with
 | zero =>
  intro i g0 g2 g4 g5 g8 g9 gK gF gD gB gC gA gE gG gJ gN gI gH gO gP gT gQ gU gR gS gV gW gX gY hk hi hR
  have hie:i=t.length:=by omega
  subst hie
  rw [List.take_length]
  rw [zO]
  refine zN ?_
  conv=>arg 2; whnf
  simp (maxSteps:=1000000) (disch:=first|assumption|omega|rfl) only [↓gp,gc,Nat.reduceAdd]
  exact hR _ _ _ _ _ _ _ _ _ _ _ _ _ _ _ _ _ _ _ _ _ _ _ _ _ _ _ _ _ _
 | succ k ih =>
  intro i g0 g2 g4 g5 g8 g9 gK gF gD gB gC gA gE gG gJ gN gI gH gO gP gT gQ gU gR gS gV gW gX gY hk hi hR
  have hlt:i < t.length:=by omega
  have h1:IntKind.i64.wrap ((k0:Int) + (i:Int))=((k0 + i:Nat):Int):=by rw [wrap64 (by omega)]; omega
  have h2:IntKind.i64.wrap (8 * (i:Int))=((8 * i:Nat):Int):=by rw [wrap64 (by omega)]; omega
  have h3:IntKind.i64.wrap ((i:Int) + 1)=((i + 1:Nat):Int):=by rw [wrap64 (by omega)]; omega
  have hcv:=fun S=>cvu (S:=S) (i:=8 * i) (by omega)
  have hia:=fun S j x=>ia42 (S:=S) (j:=j) (x:=x) (i:=k0 + i) (by omega)
  have hg:=bt42.get (v:= .d (blkD b)) wA hb (i:=k0 + i) (by omega)
  have he:b[k0 + i]=t[i]:=by
   have:t[i]=((b.drop k0).take t.length)[i]'(by rw [← ht]; exact hlt):=by congr 1
   rw [this]; simp
  rw [he] at hg
  have hn:=zfz hlt
  have hlow:=z1x (t:=t) (i:=i) (by omega)
  have hhi:=z1x (t:=t) (i:=i + 1) (by omega)
  have hp:=zqs (i:=i + 1) (w:=4) (by omega)
  have hp8:(256:Nat) ^ 4=4294967296:=by decide
  rw [hn] at hhi
  have hcx:=fun S=>cv53 (S:=S) (x:=t[i])
  have hsh:=fun K'=>zr5 (K':=K') (t:=3) (x:=t[i].toNat) (i:=i) (by omega) (by omega)
  have hor:=zwc (t:=3) (a:=leN (t.take i)) (x:=t[i].toNat) (i:=i) hlow (by omega)
  rw [← hn] at hor
  rw [zO]
  refine zN ?_
  conv=>arg 2; whnf
  simp (maxSteps:=1000000) (disch:=first|assumption|omega|rfl) only [↓gp,gc,Nat.reduceAdd,h1,h2,h3,hcv,hia,hg,hcx,hsh,hor]
  exact ih (i + 1) _ _ _ _ _ _ _ _ _ _ _ _ _ _ _ _ _ _ _ _ _ _ _ _ _ _ _ _ _ (by omega) (by omega) hR
theorem q1q (b:List UInt8) (hb:b.length=256) (k0 w:Nat) (hk0:k0 + w ≤ 256) (hw1:1 ≤ w) (hw4:w ≤ 4):Ev cfg 119 [blkD b,.int .i64 (k0:Int),.int .i64 (w:Int)] (.ret (.d (.int .i64 (leN ((b.drop k0).take w):Int)))):=by
 refine kW rfl rfl zrw ?_
 show Wp cfg (Tryz.f119.body.getD .skip) ((.d (blkD b))::(.d (.int .i64 (k0:Int)))::(.d (.int .i64 (w:Int)))::uZ (uZ (uZ ((.tup [])::(.tup [])::[])))) [] [] _
 unfold uZ
 conv=>arg 2; whnf
 have c4 : ¬ (w:Int) > 4:=by omega
 have hf:=fd42 hb
 have ct:=fun {ops dst k T S F Q}=>z3a (ops:=ops) (dst:=dst) (k:=k) (T:=T) (S:=S) (F:=F) (Q:=Q) (a:=k0) (w:=w) (n:=256) (by omega) (by omega) (by omega)
 rw [decide_eq_true (show 1 ≤ w∧k0 + w ≤ 256 from ⟨hw1,hk0⟩)] at ct
 simp only [zgt] at ct
 simp (maxSteps:=1000000) (disch:=first|assumption|omega|rfl) only [↓gp,gc,Nat.reduceAdd,hf,ct,zjv]
 have hl:((b.drop k0).take w).length=w:=by rw [List.length_take,List.length_drop]; omega
 have ht:(b.drop k0).take w=(b.drop k0).take ((b.drop k0).take w).length:=by rw [hl]
 generalize (b.drop k0).take w=t at *
 subst hl
 refine at_l b hb k0 t ht (by omega) hw4 _ _ t.length 0 _ _ _ _ _ _ _ _ _ _ _ _ _ _ _ _ _ _ _ _ _ _ _ _ _ _ _ _ _ rfl (Nat.zero_le _) ?_
 intro i' g0 g2 g4 g5 g8 g9 gK gF gD gB gC gA gE gG gJ gN gI gH gO gP gT gQ gU gR gS gV gW gX gY
 simp (maxSteps:=1000000) (disch:=first|assumption|omega|rfl) only [↓gp,gc,Nat.reduceAdd]
 exact zS rfl rfl rfl
theorem ze6 {n:Int}:IntKind.u32.wrap n=n % 4294967296:=rfl
theorem zxw {h:Nat} {x:UInt8} (hh:h < 4294967296):binV Tryz.prog .xor 210 (.d (.int .u32 (h:Int))) (.d (.int .u32 (x.toNat:Int)))=some (.d (.int .u32 ((h ^^^ x.toNat:Nat):Int))):=by
 have hx:x.toNat < 256:=x.toNat_lt
 have e1:BitVec.ofInt IntKind.u32.bits (h:Int)=BitVec.ofNat 32 h:=BitVec.ofInt_natCast ..
 have e2:BitVec.ofInt IntKind.u32.bits (x.toNat:Int)=BitVec.ofNat 32 x.toNat:=BitVec.ofInt_natCast ..
 have e3:(BitVec.ofNat 32 h ^^^ BitVec.ofNat 32 x.toNat).toNat=h ^^^ x.toNat:=by
  rw [BitVec.toNat_xor,BitVec.toNat_ofNat,BitVec.toNat_ofNat,Nat.mod_eq_of_lt (by omega),Nat.mod_eq_of_lt (by omega)]
 have hlt:h ^^^ x.toNat < 4294967296:=Nat.xor_lt_two_pow (n:=32) hh (by omega)
 simp only [binV,qO,e1,e2]
 show some (V.d (.int .u32 (IntKind.u32.wrap (((BitVec.ofNat 32 h ^^^ BitVec.ofNat 32 x.toNat).toNat:Nat):Int))))=_
 rw [e3,ze6]
 congr 3
 omega
theorem zza {h:Nat} {x:UInt8}:binV Tryz.prog .mul 210 (.d (.int .u32 ((h ^^^ x.toNat:Nat):Int))) (.d (.int .u32 16777619))=some (.d (.int .u32 (mixS h x:Int))):=by
 have:IntKind.u32.wrap (((h ^^^ x.toNat:Nat):Int) * 16777619)=(mixS h x:Int):=by
  rw [ze6]; unfold mixS; omega
 simp only [binV,qO,this]
 rfl
theorem zw2 {S:zA} {x:UInt8}:qF Tryz.prog S 5 210 (.d (.int .u8 (x.toNat:Int)))=some (.d (.int .u32 (x.toNat:Int)),0):=by
 have h1:Tryz.prog.underlying 5=some (.int .u8):=by kernel_rfl
 have h2:Tryz.prog.underlying 210=some (.int .u32):=by kernel_rfl
 have hx:x.toNat < 256:=x.toNat_lt
 simp only [qF,h1,h2]
 have:IntKind.u32.wrap (x.toNat:Int)=(x.toNat:Int):=by rw [ze6]; omega
 rw [this]
theorem zmh {s:List UInt8} {x:UInt8} {h:Nat}:mixL h (s ++ [x])=mixS (mixL h s) x:=by
 unfold mixL
 rw [List.foldl_append,List.foldl_cons,List.foldl_nil]
theorem zig {s:List UInt8} {i h:Nat} (hi:i < s.length):mixL h (s.take (i + 1))=mixS (mixL h (s.take i)) s[i]:=by
 rw [List.take_succ_eq_append_getElem hi,zmh]
theorem zxt (s:List UInt8) (hs:s.length ≤ 1000000) (h:Nat) (hh:h < 4294967296) (x4:V) (R:Post) (S:zA) : ∀ (k i:Nat) (g2 g3 g5 g6 g9 gK gF gD gB gC gA gE gL gM gG:V),s.length - i=k→i ≤ s.length →
 (∀ i' g2 g3 g5 g6 g9 gK gF gD gB gC gA gE gL gM gG,R (.exit 0) ((.d (.int .u32 (mixL h s:Int)))::(.d (.str s))::g2::g3::x4::g5::g6::(.d (.int .i64 (s.length:Int)))::i'::g9::gK::gF::gD::gB::gC::gA::gE::gL::gM::gG::[]) S []) →
 Wp cfg (.loop (lpOf (Tryz.f161.body.getD .skip) 0)) ((.d (.int .u32 (mixL h (s.take i):Int)))::(.d (.str s))::g2::g3::x4::g5::g6::(.d (.int .i64 (s.length:Int)))::(.d (.int .i64 (i:Int)))::g9::gK::gF::gD::gB::gC::gA::gE::gL::gM::gG::[]) S [] R:=by
 intro k
 induction k with
 | zero =>
  intro i g2 g3 g5 g6 g9 gK gF gD gB gC gA gE gL gM gG hk hi hR
  have hie:i=s.length:=by omega
  subst hie
  rw [List.take_length]
  rw [zO]
  refine zN ?_
  conv=>arg 2; whnf
  simp (maxSteps:=1000000) (disch:=first|assumption|omega|rfl) only [↓gp,gc,Nat.reduceAdd]
  exact hR _ _ _ _ _ _ _ _ _ _ _ _ _ _ _ _
 | succ k ih =>
  intro i g2 g3 g5 g6 g9 gK gF gD gB gC gA gE gL gM gG hk hi hR
  have hlt:i < s.length:=by omega
  have h3:IntKind.i64.wrap ((i:Int) + 1)=((i + 1:Nat):Int):=by rw [wrap64 (by omega)]; omega
  have hix:=q02 hlt
  have hcx:=fun S=>zw2 (S:=S) (x:=s[i])
  have hlt2:=zf0 (s.take i) h hh
  have hxo:=zxw (x:=s[i]) hlt2
  have hmu:=zza (h:=mixL h (s.take i)) (x:=s[i])
  rw [← zig hlt] at hmu
  rw [zO]
  refine zN ?_
  conv=>arg 2; whnf
  simp (maxSteps:=1000000) (disch:=first|assumption|omega|rfl) only [↓gp,gc,Nat.reduceAdd,h3,hix,hcx,hxo,hmu]
  exact ih (i + 1) _ _ _ _ _ _ _ _ _ _ _ _ _ _ _ (by omega) (by omega) hR
theorem zux (s:List UInt8) (hs:s.length ≤ 1000000) (h:Nat) (hh:h < 4294967296):Ev cfg 161 [.int .u32 (h:Int),.str s] (.ret (.d (.int .u32 (mixL h s:Int)))):=by
 refine kW rfl rfl zrv ?_
 show Wp cfg (Tryz.f161.body.getD .skip) ((.d (.int .u32 (h:Int)))::(.d (.str s))::uZ ((.tup [])::(.tup [])::(.tup [])::(.tup [])::(.tup [])::(.tup [])::(.tup [])::(.tup [])::[])) [] [] _
 unfold uZ
 conv=>arg 2; whnf
 simp (maxSteps:=1000000) (disch:=first|assumption|omega|rfl) only [↓gp,gc,Nat.reduceAdd]
 refine zxt s hs h hh _ _ _ s.length 0 _ _ _ _ _ _ _ _ _ _ _ _ _ _ _ rfl (Nat.zero_le _) ?_
 intro i' g2 g3 g5 g6 g9 gK gF gD gB gC gA gE gL gM gG
 simp (maxSteps:=1000000) (disch:=first|assumption|omega|rfl) only [↓gp,gc,Nat.reduceAdd]
 exact zS rfl rfl rfl
section
variable {ops:Array Oper} {dst:Option Tmp} {k:List Oper} {T:List V} {S:zA} {F:Dfs} {Q:Post}
theorem zlh {s:List UInt8} (hs:s.length ≤ 1000000):WpR cfg ops dst k T S F Q (some (.enter 161 [.d (.int .u32 2166136261),.d (.str s)]))=WpL cfg ops k (putT T dst (.d (.int .u32 (zbv s:Int)))) S F Q :=
 qI (ds:=[.int .u32 2166136261,.str s]) rfl (zux s hs 2166136261 (by decide))
end
theorem zy6 (s:List UInt8) (hs:s.length ≤ 1000000):Ev cfg 149 [.str s] (.ret (.d (.int .u32 (zbv s:Int)))):=by
 refine kW rfl rfl zut ?_
 show Wp cfg (Tryz.f149.body.getD .skip) ((.d (.str s))::(.tup [])::(.tup [])::(.tup [])::(.tup [])::[]) [] [] _
 conv=>arg 2; whnf
 simp (maxSteps:=1000000) (disch:=first|assumption|omega|rfl) only [↓gp,gc,Nat.reduceAdd,zlh hs,zz1]
 exact zS rfl rfl rfl
section
variable {ops:Array Oper} {dst:Option Tmp} {k:List Oper} {T:List V} {S:zA} {F:Dfs} {Q:Post}
theorem znt {o o2:Oper} {T2:List V} (h:wB cfg.P T o (o2::k)=some T2):WpL cfg ops (o::o2::k) T S F Q=WpL cfg ops k T2 S F Q:=by
 have e : ∀ n,seqV cfg (run cfg n) ops (o::o2::k) T S F=seqV cfg (run cfg n) ops k T2 S F:=fun n=>by
  conv=>lhs; unfold seqV
  simp only [h]
 unfold WpL
 simp only [e]
theorem zpk {d:Nat} {dst2:Option Tmp} {ty ty2:TypeId} {pos pos2:String} {af af2:Array Edge} (hd:Nat.ble (d + 1) T.length=true) :
  WpL cfg ops (⟨some d,.buildSlice 76 8 #[(0,.const (.int .u8 101)),(1,.const (.int .u8 115)),(2,.const (.int .u8 99)),(3,.const (.int .u8 104)),(4,.const (.int .u8 101)),(5,.const (.int .u8 97)),(6,.const (.int .u8 116)),(7,.const (.int .u8 49))],ty,pos,af,none⟩::⟨dst2,.convert 76 76 (.tmp d),ty2,pos2,af2,none⟩::k) T S F Q=WpL cfg ops k (putT (putT T (some d) .junk) dst2 (.ts (magicB.map byD))) S F Q:=by
 refine znt ?_
 have hd':d < T.length:=Nat.le_of_ble_eq_true hd
 have hu:Tryz.prog.underlying 76=some (.slice 5):=Tryz.underlying76
 unfold wB
 simp only
 rw [if_pos ⟨rfl,rfl,trivial,trivial,trivial,hd'⟩]
 rfl
end
theorem za6 {ops:Array Oper} {dst:Option Tmp} {k:List Oper} {T:List V} {S:zA} {F:Dfs} {Q:Post} {l:Lay} (hb:InB l.blocks) (hi:InB l.inodes):WpR cfg ops dst k T S F Q (some (.enter 75 [.d (encLay l)]))=WpL cfg ops k (putT T dst (.d (.int .i64 (if MayL l then 0 else 1)))) S F Q :=
 qI (ds:=[encLay l]) rfl (zfs l hb hi)
theorem zvb {ops:Array Oper} {dst:Option Tmp} {k:List Oper} {T:List V} {S:zA} {F:Dfs} {Q:Post}:WpR cfg ops dst k T S F Q (some (.enter 145 [.ts (magicB.map byD)]))=WpL cfg ops k (putT T dst (.d (blkD (magicB ++ zK 248)))) S F Q :=
 kT (ds:=[encB magicB]) rfl (by kernel_rfl) (by kernel_rfl) (by rw [← (zkw 0 0 0).1]; exact q0p magicB (by decide))
theorem zgg {ops:Array Oper} {dst:Option Tmp} {k:List Oper} {T:List V} {S:zA} {F:Dfs} {Q:Post} {b:List UInt8} (hb:b.length=256) {k0 n:Nat} (hn:1 ≤ n) (hk0:k0 + n ≤ 256):WpR cfg ops dst k T S F Q (some (.enter 107 [.d (blkD b),.d (.int .i64 (k0:Int)),.d (.int .i64 (n:Int))]))=WpL cfg ops k (putT T dst (.d (encB ((b.drop k0).take n)))) S F Q :=
 qI (ds:=[blkD b,.int .i64 (k0:Int),.int .i64 (n:Int)]) rfl (zqr b hb k0 n hn hk0)
theorem znv {ops:Array Oper} {dst:Option Tmp} {k:List Oper} {T:List V} {S:zA} {F:Dfs} {Q:Post} {s:List UInt8} (hs:s.length ≤ 1000000):WpR cfg ops dst k T S F Q (some (.enter 149 [.d (.str s)]))=WpL cfg ops k (putT T dst (.d (.int .u32 (zbv s:Int)))) S F Q :=
 qI (ds:=[.str s]) rfl (zy6 s hs)
theorem zpq {l:List UInt8}:z6n (l.map fun b=>V.d (.int .u8 b.toNat))=some l:=by
 induction l with
 | nil=>rfl
 | cons b r ih =>
  simp only [List.map_cons,z6n,ih]
  rw [Int.toNat_natCast,UInt8.ofNat_toNat]
theorem zf8 {P:Program} {T:List V} {S:zA} {t a u:Nat} {v w x:V} {d e:D} (hv:T.getD t (.tup [])=v) (ha:T.getD a (.tup [])=w) (hl:kN P S u w=some x) (h1:v.one=true) (h2:x.one=true) (h3:Go.Vm.frz S zG v=some d) (h4:Go.Vm.frz S zG x=some e):RetQ P #[.cell a u,.tmp t] (.ret (.tup [.d e,.d d])) .ret T S [] :=
 z4t (r1:= .cell a u) (r2:= .tmp t) (l:=[]) (vs:=[x,v]) (ds:=[e,d]) (by simp only [allO,jT,hv,ha,hl]) (by simp [h1,h2]) (by simp only [allO,h3,h4])
theorem zc0 : ∀ l:List UInt8,eqLs Tryz.prog 5 l.length (l.map byD) (l.map byD)=some true
 | []=>rfl
 | x::r=>by
  have h:z0s Tryz.prog 5 (byD x) (byD x)=some true:=by
   have h5:Tryz.prog.underlying 5=some (.int .u8):=by kernel_rfl
   simp [z0s,h5,byD]
  simp only [List.length_cons,List.map_cons,eqLs,h,zc0 r]
theorem q0v {b:List UInt8} (hb:b.length=256):binV Tryz.prog .neq 42 (.d (blkD b)) (.d (blkD b))=some (.d (.bool false)):=by
 have h1:ptrT Tryz.prog 42=false:=by kernel_rfl
 have h2:mapT Tryz.prog 42=false:=by kernel_rfl
 have h3:fnT Tryz.prog 42=false:=by kernel_rfl
 have h4:Tryz.prog.eqGuardType Tryz.prog.depth 42=false:=by kernel_rfl
 have h5:sz Tryz.prog 5=some 1:=by kernel_rfl
 have h6:=zc0 b
 rw [hb] at h6
 have h7:eqD Tryz.prog 8 42 (.agg (b.map byD)) (.agg (b.map byD))=some true:=by
  simp only [eqD,Tryz.underlying42,h5,h6]
  rfl
 have h8:eqV Tryz.prog 42 (.d (.agg (b.map byD))) (.d (.agg (b.map byD)))=some true:=by
  simp only [eqV,h1,h2,h3,asD,h4,h7,Bool.false_eq_true,if_false]
 show (eqV Tryz.prog 42 (.d (.agg (b.map byD))) (.d (.agg (b.map byD)))).map (fun b=>V.d (.bool (!b)))=_
 rw [h8]
 rfl
theorem q1f {S:zA} {l:List UInt8}:qF Tryz.prog S 76 9 (.d (encB l))=some (.d (.str l),1):=by
 have hu:Tryz.prog.underlying 9=some .string:=by kernel_rfl
 have h5:Tryz.prog.underlying 5=some (.int .u8):=by kernel_rfl
 unfold encB
 simp only [qF,Tryz.underlying76,hu,h5,jV,List.map_map,Function.comp_def,zpq,Option.map_some]
theorem zvt {S:zA} {h:Nat} (hh:h < 4294967296):qF Tryz.prog S 210 3 (.d (.int .u32 (h:Int)))=some (.d (.int .i64 (h:Int)),0):=by
 have h1:Tryz.prog.underlying 210=some (.int .u32):=by kernel_rfl
 have h2:Tryz.prog.underlying 3=some (.int .i64):=by kernel_rfl
 simp only [qF,h1,h2]
 rw [wrap64 (by omega)]
theorem zp1 {n v:Nat}:layB (zK n) 0 (leB n v)=leB n v:=by
 have:=z31 (a:=[]) (n:=n) (d:=leB n v) (by rw [jH]; omega)
 rw [jH,Nat.sub_self] at this
 simpa [zK] using this
theorem zwu {ops:Array Oper} {F:Dfs} {Q:Post} {K:List Nat→List (Nat × Nat)→List V→zA→Prop} {rd:List Nat} {cs:List (Nat × Nat)} {i id:Nat} {dst:Option Tmp} {T:List V} {S:zA} {M:Nat} (hr:S[id]? = some (.row (List.replicate 8 (.d (.int .u8 0))) 5)) :
  WpE cfg ops F Q K rd cs i dst T S (some (.enter 147 [.rs id 0 8,.d (.int .i64 0),.d (.int .i64 8),.d (.int .u64 (M:Int))]))=(z3n ops rd i 3∧K rd (cs ++ [(i,3)]) (putT T dst (.tup [.d (encB (leB 8 M)),.d (.bool true)])) (S.set id (.fz ((zK 8).map byD) 5))):=by
 have hr':S[id]? = some (rowY (zK 8)):=hr
 have hr2:S[id]? = some (.row (((zK 8).map byD).map .d) 5):=hr
 refine ze1 (ds:=[encB (zK 8),.int .i64 ((0:Nat):Int),.int .i64 ((8:Nat):Int),.int .u64 (M:Int)]) rfl ?_ ?_ hr2 rfl ?_
 ·have h1:Go.Vm.frz S zG (.rs id 0 8)=some (encB (zK 8)):=zro hr' rfl
  simp only [allO,zt0,h1]
  rfl
 ·have h1:frzIds S zG (.rs id 0 8)=[id]:=by
   show (match S[id]? with | some (.row xs e)=>id::xs.flatMap (frzIds S 11) | _=>[])=_
   rw [hr2]
   simp only [zfm]
  simp only [List.flatMap_cons,h1,List.flatMap_nil,zaq,List.append_nil]
 ·have:=zwo (zK 8) (by decide) (by decide) 0 8 M (by decide) (by omega) (by omega)
  rw [zp1] at this
  exact this
theorem zmc (l:Lay) (B I M:Nat) (hl:l=⟨(B:Int),(I:Int),(M:Int)⟩) (hB:B ≤ 512) (hI:I ≤ 128) (hM:M < 18446744073709551616) (hm:MayL l):Ev cfg 120 [encLay l] (.ret (.tup [.d (blkD (supB B I M)),.d (.int .i64 0)])):=by
 refine kW rfl rfl zs3 ?_
 show Wp cfg (Tryz.f120.body.getD .skip) ((.d (encLay l))::uZ (uZ (uZ (uZ ((.tup [])::(.tup [])::(.tup [])::[]))))) [] [] _
 unfold uZ
 conv=>arg 2; whnf
 have hc:=fun {ops dst k T S F Q}=>za6 (ops:=ops) (dst:=dst) (k:=k) (T:=T) (S:=S) (F:=F) (Q:=Q) (l:=l) (by subst hl; unfold InB; simp only; omega) (by subst hl; unfold InB; simp only; omega)
 rw [if_pos hm] at hc
 subst hl
 obtain ⟨w1,w2,w3,w4,w5,w6⟩:=zkw B I M
 have l1:(magicB ++ zK 248).length=256:=by decide
 have l2:((magicB ++ leB 2 B) ++ zK 246).length=256:=by simp [magicB,jH,z2v]
 have l3:((magicB ++ leB 2 B ++ leB 2 I) ++ zK 244).length=256:=by simp [magicB,jH,z2v]
 have l4:(supL B I M ++ zK 236).length=256:=by rw [List.length_append,z3b,z2v]
 have l5:=z5a B I M
 have hx:=zoq (supL B I M)
 have c1:=fun {ops dst k T S F Q}=>z8w (ops:=ops) (dst:=dst) (k:=k) (T:=T) (S:=S) (F:=F) (Q:=Q) (u:= .d (blkD (magicB ++ zK 248))) (b:=magicB ++ zK 248) wA l1 (k0:=8) (w:=2) (v:=B) (by omega) (by omega) (by omega)
 have c2:=fun {ops dst k T S F Q}=>z8w (ops:=ops) (dst:=dst) (k:=k) (T:=T) (S:=S) (F:=F) (Q:=Q) (u:= .d (blkD ((magicB ++ leB 2 B) ++ zK 246))) wA l2 (k0:=10) (w:=2) (v:=I) (by omega) (by omega) (by omega)
 have c3:=fun {ops dst k T S F Q}=>zfh (ops:=ops) (dst:=dst) (k:=k) (T:=T) (S:=S) (F:=F) (Q:=Q) (u:= .d (blkD ((magicB ++ leB 2 B ++ leB 2 I) ++ zK 244))) (d:=leB 8 M) wA l3 (k0:=12) (by omega) (by rw [jH]; omega)
 have c4:=fun {ops dst k T S F Q}=>zgg (ops:=ops) (dst:=dst) (k:=k) (T:=T) (S:=S) (F:=F) (Q:=Q) l4 (k0:=0) (n:=20) (by omega) (by omega)
 have c5:=fun {ops dst k T S F Q}=>znv (ops:=ops) (dst:=dst) (k:=k) (T:=T) (S:=S) (F:=F) (Q:=Q) (s:=supL B I M) (by rw [z3b]; omega)
 have c6:=fun {ops dst k T S F Q}=>z8w (ops:=ops) (dst:=dst) (k:=k) (T:=T) (S:=S) (F:=F) (Q:=Q) (u:= .d (blkD (supL B I M ++ zK 236))) wA l4 (k0:=20) (w:=4) (v:=zbv (supL B I M)) (by omega) (by omega) (by omega)
 rw [w2] at c1
 rw [w3] at c2
 rw [w4] at c3
 rw [w5] at c4
 rw [w6] at c6
 simp only [nl0,nl1,nl2,nl4,nl8,nl10,nl12,nl16,nl20,zgt] at c1 c2 c3 c4 c5 c6
 have l0:=z256
 have hcv:=fun S=>zvt (S:=S) hx
 simp (maxSteps:=1000000) (disch:=first|assumption|omega|rfl) only [↓gp,gc,Nat.reduceAdd,z42,zf42,hc,bo75]
 rw [zpk (by kernel_rfl)]
 simp (maxSteps:=1000000) (disch:=first|assumption|omega|rfl) only [↓gp,gc,Nat.reduceAdd,z42,zf42,zvb,zzy,c1,c2,zrr,zr3,zan,z3s,z9e]
 have hroom:room Tryz.prog 5 (8:Int).toNat=true:=by kernel_rfl
 have hz0:qA Tryz.prog 5 (.d (.int .u8 0))=true:=by kernel_rfl
 have z5:zeroV Tryz.prog 5=some (.d (.int .u8 0)):=by kernel_rfl
 refine vB (is:=[1,2,0,3,4,5,6,7,8]) (h:=9) (by kernel_rfl) (by kernel_rfl) ?_
 simp (maxSteps:=1000000) (disch:=first|assumption|omega|rfl) only [List.replicate_zero,eq_self,gd,ga,Nat.reduceAdd,↓gq,vso,z80,zqu,zs6 Tryz.underlying76 z5,q0f hroom hz0,true_and]
 rw [show Int.toNat 8=8 from rfl,zwu rfl]
 refine ⟨fun _=>by kernel_rfl,?_⟩
 simp (maxSteps:=1000000) (disch:=first|assumption|omega|rfl) only [List.replicate_zero,eq_self,gd,ga,Nat.reduceAdd,↓gq,vso]
 refine ⟨by kernel_rfl,?_⟩
 simp (maxSteps:=1000000) (disch:=first|assumption|omega|rfl) only [↓gp,gc,Nat.reduceAdd,c3,zt3,c4,zpv,c5,zy4,c6,zrr,q1f,hcv,zr3,zan,z3s,z9e]
 exact zf8 rfl rfl ((zJ rfl).trans (z3s l5)) rfl rfl rfl rfl
section
variable {ops:Array Oper} {dst:Option Tmp} {k:List Oper} {T:List V} {S:zA} {F:Dfs} {Q:Post}
theorem zj5 {b:List UInt8} (hb:b.length=8):WpR cfg ops dst k T S F Q (some (.enter 118 [.d (encB b),.d (.int .i64 0),.d (.int .i64 8)]))=WpL cfg ops k (putT T dst (.tup [.d (.int .u64 (leN b:Int)),.d (.bool true)])) S F Q:=by
 have:=zvv b (by omega) 0 8 (by omega) (by omega) (by omega)
 rw [List.drop_zero,List.take_of_length_le (by omega)] at this
 exact qI (ds:=[encB b,.int .i64 0,.int .i64 8]) rfl this
theorem zj8 {l:Lay} {v:V} (h:Ev cfg 120 [encLay l] (.ret v)):WpR cfg ops dst k T S F Q (some (.enter 120 [.d (encLay l)]))=WpL cfg ops k (putT T dst v) S F Q :=
 qI (ds:=[encLay l]) rfl h
theorem bd24 {a b:Int} {c:Int}:wX Tryz.prog 32 [(0,.d (.int .i64 a)),(1,.d (.int .i64 b)),(2,.d (.int .u64 c))]=some (.agg [.d (.int .i64 a),.d (.int .i64 b),.d (.int .u64 c)]):=by kernel_rfl
end
theorem st24 {a b a' b':Int} {c c':Int}:qW Tryz.prog 32 0 (.agg [.d (.int .i64 a),.d (.int .i64 b),.d (.int .u64 c)]) (.agg [.d (.int .i64 a'),.d (.int .i64 b'),.d (.int .u64 c')])=some (.agg [.d (.int .i64 a),.d (.int .i64 b),.d (.int .u64 c)]):=by kernel_rfl
theorem zv0 {ops:Array Oper} {dst:Option Tmp} {k:List Oper} {T:List V} {S:zA} {F:Dfs} {Q:Post} {a b:Int} {c:Int} {v:V} (h:Ev cfg 120 [.agg [.int .i64 a,.int .i64 b,.int .u64 c]] (.ret v)):WpR cfg ops dst k T S F Q (some (.enter 120 [.agg [.d (.int .i64 a),.d (.int .i64 b),.d (.int .u64 c)]]))=WpL cfg ops k (putT T dst v) S F Q :=
 kT (ds:=[.agg [.int .i64 a,.int .i64 b,.int .u64 c]]) rfl rfl rfl h
theorem zy7 {ops:Array Oper} {F:Dfs} {Q:Post} {K:List Nat→List (Nat × Nat)→List V→zA→Prop} {rd:List Nat} {cs:List (Nat × Nat)} {i:Nat} {dst:Option Tmp} {T:List V} {S:zA} {b:List UInt8} (hb:b.length=256) {k0 w:Nat} (hk0:k0 + w ≤ 256) (hw1:1 ≤ w) (hw4:w ≤ 4) :
  WpE cfg ops F Q K rd cs i dst T S (some (.enter 119 [.d (blkD b),.d (.int .i64 (k0:Int)),.d (.int .i64 (w:Int))]))=K (i::rd) (cs ++ [(i,1)]) (putT T dst (.d (.int .i64 (leN ((b.drop k0).take w):Int)))) S :=
 zbu (ds:=[blkD b,.int .i64 (k0:Int),.int .i64 (w:Int)]) rfl rfl rfl (q1q b hb k0 w hk0 hw1 hw4)
theorem zrj (B I M:Nat) (hB:B ≤ 512) (hI:I ≤ 128) (hM:M < 18446744073709551616) (hm:MayL ⟨(B:Int),(I:Int),(M:Int)⟩):Ev cfg 79 [blkD (supB B I M)] (.ret (.tup [.d (encLay ⟨(B:Int),(I:Int),(M:Int)⟩),.d (.int .i64 0)])):=by
 refine kW rfl rfl zwj ?_
 show Wp cfg (Tryz.f79.body.getD .skip) ((.d (blkD (supB B I M)))::uZ (uZ (uZ ((.tup [])::(.tup [])::(.tup [])::(.tup [])::[])))) [] [] _
 unfold uZ
 conv=>arg 2; whnf
 have l5:=z5a B I M
 have hf:=fd42 l5
 have hp:=zmc _ B I M rfl hB hI hM hm
 have l0:=z256
 have e1:((supB B I M).drop 12).take 8=leB 8 M:=by
  unfold supB supL
  simp [magicB,jH,List.drop_append,List.take_append]
 have c1:=fun {ops dst k T S F Q}=>zgg (ops:=ops) (dst:=dst) (k:=k) (T:=T) (S:=S) (F:=F) (Q:=Q) l5 (k0:=12) (n:=8) (by omega) (by omega)
 rw [e1] at c1
 have c2:=fun {ops dst k T S F Q}=>zj5 (ops:=ops) (dst:=dst) (k:=k) (T:=T) (S:=S) (F:=F) (Q:=Q) (jH 8 M)
 rw [zbk,Nat.mod_eq_of_lt (by omega)] at c2
 simp only [nl0,nl1,nl2,nl4,nl8,nl10,nl12,nl16,nl20,zgt] at c1 c2
 simp (maxSteps:=1000000) (disch:=first|assumption|omega|rfl) only [↓gp,gc,Nat.reduceAdd,hf,c1,c2,zpv,zzz,z3s]
 have a1:((supB B I M).drop 8).take 2=leB 2 B:=by
  unfold supB supL
  simp [magicB,jH,List.drop_append,List.take_append]
 have a2:((supB B I M).drop 10).take 2=leB 2 I:=by
  unfold supB supL
  simp [magicB,jH,List.drop_append,List.take_append]
 have d1:=fun {ops F Q K rd cs i dst T S}=>zy7 (ops:=ops) (F:=F) (Q:=Q) (K:=K) (rd:=rd) (cs:=cs) (i:=i) (dst:=dst) (T:=T) (S:=S) l5 (k0:=8) (w:=2) (by omega) (by omega) (by omega)
 have d2:=fun {ops F Q K rd cs i dst T S}=>zy7 (ops:=ops) (F:=F) (Q:=Q) (K:=K) (rd:=rd) (cs:=cs) (i:=i) (dst:=dst) (T:=T) (S:=S) l5 (k0:=10) (w:=2) (by omega) (by omega) (by omega)
 rw [a1,zbk,Nat.mod_eq_of_lt (by omega)] at d1
 rw [a2,zbk,Nat.mod_eq_of_lt (by omega)] at d2
 simp only [nl0,nl1,nl2,nl4,nl8,nl10,nl12,nl16,nl20,zgt] at d1 d2
 refine vB (is:=[0,2,4,1,3,5,6,7]) (h:=8) (by kernel_rfl) (by kernel_rfl) ?_
 simp (maxSteps:=1000000) (disch:=first|assumption|omega|rfl) only [List.replicate_zero,eq_self,gd,ga,Nat.reduceAdd,↓gq,vso,d1,d2,zwv,z3s,bd24,zbf z32 zf32,z80,true_and,st24]
 refine ⟨fun _=>by kernel_rfl,?_⟩
 refine ⟨by kernel_rfl,?_⟩
 simp (maxSteps:=1000000) (disch:=first|assumption|omega|rfl) only [↓gp,gc,Nat.reduceAdd,zv0 hp,zua,z42,zf42,zan,z3s,q0v,st24]
 exact zf8 rfl rfl (x:= .agg [.d (.int .i64 (B:Int)),.d (.int .i64 (I:Int)),.d (.int .u64 (M:Int))]) ((zJ rfl).trans (by kernel_rfl)) rfl rfl rfl rfl
theorem zfw:Ev cfg 77 [] (.ret (.d (.int .i64 1))):=⟨50,by kernel_rfl⟩
theorem zrh (l:Lay) (hb:InB l.blocks) (hi:InB l.inodes) (hm:MayL l):Ev cfg 109 [encLay l] (.ret (.d (.bool true))):=by
 refine kW rfl rfl zsr ?_
 show Wp cfg (Tryz.f109.body.getD .skip) ((.d (encLay l))::(.tup [])::(.tup [])::(.tup [])::(.tup [])::(.tup [])::[]) [] [] _
 conv=>arg 2; whnf
 have hc:=fun {ops dst k T S F Q}=>za6 (ops:=ops) (dst:=dst) (k:=k) (T:=T) (S:=S) (F:=F) (Q:=Q) (l:=l) hb hi
 rw [if_pos hm] at hc
 simp (maxSteps:=1000000) (disch:=first|assumption|omega|rfl) only [↓gp,gc,Nat.reduceAdd,hc,bo75]
 exact zS rfl rfl rfl
theorem zft (l:Lay) (hb:InB l.blocks) (hi:InB l.inodes) (hm:MayL l):Ev cfg 122 [encLay l] (.ret (.tup [.d (.int .i64 2),.d (.int .i64 (l.inodes.tdiv 8))])):=by
 refine kW rfl rfl zts ?_
 show Wp cfg (Tryz.f122.body.getD .skip) ((.d (encLay l))::uZ ((.tup [])::[])) [] [] _
 unfold uZ
 conv=>arg 2; whnf
 have hc:=fun {ops dst k T S F Q}=>qI (C:=cfg) (ops:=ops) (dst:=dst) (l:=k) (T:=T) (S:=S) (F:=F) (Q:=Q) (ds:=[encLay l]) rfl (zrh l hb hi hm)
 have hc : ∀ {ops dst k T S F Q},WpR cfg ops dst k T S F Q (some (.enter 109 [.d (encLay l)]))=WpL cfg ops k (putT T dst (.d (.bool true))) S F Q:=hc
 have hq:=quo8 hi
 have hM:=fun {ops F Q K rd cs i dst T S}=>z54 (C:=cfg) (ops:=ops) (F:=F) (Q:=Q) (K:=K) (rd:=rd) (cs:=cs) (i:=i) (dst:=dst) (T:=T) (S:=S) (ds:=[]) rfl zfw
 simp only [List.map_nil] at hM
 simp (maxSteps:=1000000) (disch:=first|assumption|omega|rfl) only [↓gp,gc,Nat.reduceAdd,hc,zjn]
 refine vB (is:=[2,3,4,0,1,5,6]) (h:=0) (by kernel_rfl) (by kernel_rfl) ?_
 simp (maxSteps:=1000000) (disch:=first|assumption|omega|rfl) only [List.replicate_zero,eq_self,gd,ga,Nat.reduceAdd,↓gq,vso,hM,bo77,hq]
 refine ⟨by kernel_rfl,?_⟩
 simp (maxSteps:=1000000) (disch:=first|assumption|omega|rfl) only [↓gp,gc,Nat.reduceAdd]
 exact zaz rfl rfl rfl rfl rfl rfl
theorem zav (l:Lay) (hb:InB l.blocks) (hi:InB l.inodes) (hm:MayL l):Ev cfg 108 [encLay l] (.ret (.d (.int .i64 (2 + l.inodes.tdiv 8)))):=by
 refine kW rfl rfl zsi ?_
 show Wp cfg (Tryz.f108.body.getD .skip) ((.d (encLay l))::uZ ((.tup [])::(.tup [])::[])) [] [] _
 unfold uZ
 conv=>arg 2; whnf
 have hc : ∀ {ops dst k T S F Q},WpR cfg ops dst k T S F Q (some (.enter 122 [.d (encLay l)]))=WpL cfg ops k (putT T dst (.tup [.d (.int .i64 2),.d (.int .i64 (l.inodes.tdiv 8))])) S F Q:=fun {ops dst k T S F Q}=>qI (C:=cfg) (ops:=ops) (dst:=dst) (l:=k) (T:=T) (S:=S) (F:=F) (Q:=Q) (ds:=[encLay l]) rfl (zft l hb hi hm)
 have hd:0 ≤ l.inodes.tdiv 8∧l.inodes.tdiv 8 ≤ 16:=by
  have h1:=hm.2.2.1
  have h2:=hm.2.2.2.1
  rw [Int.tdiv_eq_ediv_of_nonneg (by omega)]; omega
 have hw:IntKind.i64.wrap (2 + l.inodes.tdiv 8)=2 + l.inodes.tdiv 8:=wrap64 (by omega)
 simp (maxSteps:=1000000) (disch:=first|assumption|omega|rfl) only [↓gp,gc,Nat.reduceAdd,hc,zsj,hw]
 exact zS rfl rfl rfl
def upto (n:Nat):List Int:=(List.range n).map fun i:Nat=>(i:Int)
theorem zl7 (n:Nat):upto (n + 1)=upto n ++ [(n:Int)]:=by unfold upto; rw [List.range_succ,List.map_append]; rfl
theorem z75 (n:Nat):(upto n).length=n:=by unfold upto; simp
def encI (l:List Int):D:= .sl (l.map (D.int .i64))
theorem q1l (l:Lay) (n:Nat) (hn:n ≤ 1000) (R:Post) : ∀ (k i:Nat) (S:zA) (v3 g0 g1 g2 g4 g5 g8 g9 gK gF gD gB gC gA:V),n - i=k→i ≤ n→OwnS S v3 3 ((upto i).map fun x=>.d (D.int .i64 x)) →
 (∀ S v3 i' g0 g1 g2 g4 g5 g8 g9 gK gF gD gB gC gA,OwnS S v3 3 ((upto n).map fun x=>.d (D.int .i64 x))→R (.exit 0) (g0::g1::g2::v3::g4::g5::(.d (.int .i64 (n:Int)))::i'::g8::g9::gK::gF::gD::gB::gC::gA::[]) S []) →
 Wp cfg (.loop (lpOf (Tryz.f138.body.getD .skip) 0)) (g0::g1::g2::v3::g4::g5::(.d (.int .i64 (n:Int)))::(.d (.int .i64 (i:Int)))::g8::g9::gK::gF::gD::gB::gC::gA::[]) S [] R:=by
 intro k
 induction k with
 | zero =>
  intro i S v3 g0 g1 g2 g4 g5 g8 g9 gK gF gD gB gC gA hk hi ho hR
  have hie:i=n:=by omega
  subst hie
  rw [zO]
  refine zN ?_
  conv=>arg 2; whnf
  simp (maxSteps:=1000000) (disch:=first|assumption|omega|rfl) only [↓gp,gc,Nat.reduceAdd]
  exact hR _ _ _ _ _ _ _ _ _ _ _ _ _ _ _ _ ho
 | succ k ih =>
  intro i S v3 g0 g1 g2 g4 g5 g8 g9 gK gF gD gB gC gA hk hi ho hR
  have hlt:i < n:=by omega
  have h3:IntKind.i64.wrap ((i:Int) + 1)=((i + 1:Nat):Int):=by rw [wrap64 (by omega)]; omega
  obtain ⟨v',S',c,ha,ho',hfr,hlen⟩:=ap22 (i:Int) ho (by rw [z75]; omega)
  rw [← zl7] at ho'
  rw [zO]
  refine zN ?_
  conv=>arg 2; whnf
  simp (maxSteps:=1000000) (disch:=first|assumption|omega|rfl) only [↓gp,gc,Nat.reduceAdd,ha,h3]
  exact ih (i + 1) S' v' _ _ _ _ _ _ _ _ _ _ _ _ _ (by omega) (by omega) ho' hR
theorem zw0 (l:Lay) (n:Nat) (hb:InB l.blocks) (hi:InB l.inodes) (hm:MayL l) (hn:2 + l.inodes.tdiv 8=(n:Int)) (hn1:n ≤ 1000):Ev cfg 138 [encLay l] (.ret (.d (encI (upto n)))):=by
 refine kW rfl rfl zum ?_
 show Wp cfg (Tryz.f138.body.getD .skip) ((.d (encLay l))::uZ ((.tup [])::(.tup [])::(.tup [])::(.tup [])::(.tup [])::[])) [] [] _
 unfold uZ
 conv=>arg 2; whnf
 have hc : ∀ {ops dst k T S F Q},WpR cfg ops dst k T S F Q (some (.enter 108 [.d (encLay l)]))=WpL cfg ops k (putT T dst (.d (.int .i64 (2 + l.inodes.tdiv 8)))) S F Q:=fun {ops dst k T S F Q}=>qI (C:=cfg) (ops:=ops) (dst:=dst) (l:=k) (T:=T) (S:=S) (F:=F) (Q:=Q) (ds:=[encLay l]) rfl (zav l hb hi hm)
 rw [hn] at hc
 simp (maxSteps:=1000000) (disch:=first|assumption|omega|rfl) only [↓gp,gc,Nat.reduceAdd,hc,z93]
 refine q1l l n hn1 _ n 0 _ _ _ _ _ _ _ _ _ _ _ _ _ _ _ rfl (by omega) OwnS.nil ?_
 intro S v3 i' g0 g1 g2 g4 g5 g8 g9 gK gF gD gB gC gA ho
 simp (maxSteps:=1000000) (disch:=first|assumption|omega|rfl) only [↓gp,gc,Nat.reduceAdd]
 exact zS rfl (qG ho) (zp4 (enc:=D.int .i64) ho)
theorem zpr : ∀ k,k < 18→Ev cfg 140 [blkD (mapB k),.int .i64 (k:Int),.bool true] (.ret (.d (blkD (mapB (k + 1)))))
 | 0,_=>⟨200,by kernel_rfl⟩
 | 1,_=>⟨200,by kernel_rfl⟩
 | 2,_=>⟨200,by kernel_rfl⟩
 | 3,_=>⟨200,by kernel_rfl⟩
 | 4,_=>⟨200,by kernel_rfl⟩
 | 5,_=>⟨200,by kernel_rfl⟩
 | 6,_=>⟨200,by kernel_rfl⟩
 | 7,_=>⟨200,by kernel_rfl⟩
 | 8,_=>⟨200,by kernel_rfl⟩
 | 9,_=>⟨200,by kernel_rfl⟩
 | 10,_=>⟨200,by kernel_rfl⟩
 | 11,_=>⟨200,by kernel_rfl⟩
 | 12,_=>⟨200,by kernel_rfl⟩
 | 13,_=>⟨200,by kernel_rfl⟩
 | 14,_=>⟨200,by kernel_rfl⟩
 | 15,_=>⟨200,by kernel_rfl⟩
 | 16,_=>⟨200,by kernel_rfl⟩
 | 17,_=>⟨200,by kernel_rfl⟩
 | n + 18,h=>by omega
theorem zr2 {ops:Array Oper} {dst:Option Tmp} {k:List Oper} {T:List V} {S:zA} {F:Dfs} {Q:Post} {u:V} {i:Nat} (hu:IsB u (mapB i)) (hi:i < 18):WpR cfg ops dst k T S F Q (some (.enter 140 [u,.d (.int .i64 (i:Int)),.d (.bool true)]))=WpL cfg ops k (putT T dst (.d (blkD (mapB (i + 1))))) S F Q :=
 kT (ds:=[blkD (mapB i),.int .i64 (i:Int),.bool true]) rfl (by simp only [allO,hu.frz (n:=10),zG]; rfl) (by rw [List.flatMap_cons,hu.frzIds]; rfl) (zpr i hi)
theorem zz7 (n:Nat) (hn:n ≤ 18) (R:Post) : ∀ (k i:Nat) (u:V) (g0 g1 g4 g5 g9 gK gF gD gB gC gA gE:V),n - i=k→i ≤ n→IsB u (mapB i) →
 (∀ u i' g0 g1 g4 g5 g9 gK gF gD gB gC gA gE,IsB u (mapB n)→R (.exit 0) (g0::g1::(.ref 0 0 0)::(.ref 1 0 0)::g4::g5::(.d (encI (upto n)))::(.d (.int .i64 (n:Int)))::i'::g9::gK::gF::gD::gB::gC::gA::gE::[]) [.row [blkV (zK 256)] 42,.row [u] 42] []) →
 Wp cfg (.loop (lpOf (Tryz.f137.body.getD .skip) 0)) (g0::g1::(.ref 0 0 0)::(.ref 1 0 0)::g4::g5::(.d (encI (upto n)))::(.d (.int .i64 (n:Int)))::(.d (.int .i64 (i:Int)))::g9::gK::gF::gD::gB::gC::gA::gE::[]) [.row [blkV (zK 256)] 42,.row [u] 42] [] R:=by
 intro k
 induction k with
 | zero =>
  intro i u g0 g1 g4 g5 g9 gK gF gD gB gC gA gE hk hi hu hR
  have hie:i=n:=by omega
  subst hie
  rw [zO]
  refine zN ?_
  conv=>arg 2; whnf
  simp (maxSteps:=1000000) (disch:=first|assumption|omega|rfl) only [↓gp,gc,Nat.reduceAdd]
  exact hR _ _ _ _ _ _ _ _ _ _ _ _ _ _ hu
 | succ k ih =>
  intro i u g0 g1 g4 g5 g9 gK gF gD gB gC gA gE hk hi hu hR
  have hlt:i < n:=by omega
  have h3:IntKind.i64.wrap ((i:Int) + 1)=((i + 1:Nat):Int):=by rw [wrap64 (by omega)]; omega
  have hix : ∀ S:zA,zM Tryz.prog S 22 (.d (encI (upto n))) (.d (.int .i64 (i:Int)))=some (.d (.ptr (.int .i64 (i:Int)))):=fun S=>by
   have:=ix22 (S:=S) (l:=upto n) (i:=i) (by rw [z75]; omega)
   have e:(upto n)[i]'(by rw [z75]; omega)=(i:Int):=by simp [upto]
   rw [e] at this
   exact this
  have hld:=bt42.load hu (z10 i)
  have hcw:=fun {ops dst k T S F Q}=>zr2 (ops:=ops) (dst:=dst) (k:=k) (T:=T) (S:=S) (F:=F) (Q:=Q) hu (by omega)
  have hst:=bt42.store (wA (b:=mapB (i + 1))) (z10 _) hu (z10 i)
  rw [zO]
  refine zN ?_
  conv=>arg 2; whnf
  simp (maxSteps:=1000000) (disch:=first|assumption|omega|rfl) only [↓gp,gc,Nat.reduceAdd,h3,hix,hld,hcw,zvd,hst,hu.one,if_true,eq_self]
  exact ih (i + 1) _ _ _ _ _ _ _ _ _ _ _ _ _ (by omega) (by omega) wA hR
theorem zsg (n:Nat) (hn:n ≤ 18):Ev cfg 137 [encI (upto n)] (.ret (.d (blkD (mapB n)))):=by
 refine kW rfl rfl zuc ?_
 show Wp cfg (Tryz.f137.body.getD .skip) ((.d (encI (upto n)))::uZ ((.tup [])::(.tup [])::(.tup [])::(.tup [])::(.tup [])::(.tup [])::[])) [] [] _
 unfold uZ
 conv=>arg 2; whnf
 have hln : ∀ S:zA,zI Tryz.prog S .len [22] [.d (encI (upto n))]=some (.val (.d (.int .i64 n)) S 0):=fun S=>by rw [encI,zwm,List.length_map,z75]
 simp (maxSteps:=1000000) (disch:=first|assumption|omega|rfl) only [↓gp,gc,Nat.reduceAdd,z42,zf42,hln]
 refine zz7 n hn _ n 0 _ _ _ _ _ _ _ _ _ _ _ _ _ rfl (Nat.zero_le _) isB_v ?_
 intro u i' g0 g1 g4 g5 g9 gK gF gD gB gC gA gE hu
 have hld:=bt42.load hu (z10 n)
 have hst:=bt42.store hu (z10 n) (w:=blkV (zK 256)) isB_v z256
 simp (maxSteps:=1000000) (disch:=first|assumption|omega|rfl) only [↓gp,gc,Nat.reduceAdd,hld,hst]
 exact wL (u:= .ref 0 0 0) (v:=u) rfl ((zJ rfl).trans hld) hu.one (hu.frz (n:=10))
def rootB:List UInt8:=[2,0,1,0,0,0,0,0,1,0] ++ zK 246
def zwy:D:= .agg [.int .i64 2,.int .i64 1,.int .i64 0,.int .i64 1,.int .i64 0,.int .i64 0,.int .i64 0,.int .i64 0,.int .i64 0,.int .i64 0,.int .i64 0]
theorem zmx:Ev cfg 136 [blkD (zK 256),.int .i64 0,zwy] (.ret (.tup [.d (blkD rootB),.d (.int .i64 0)])):=⟨1000,by kernel_rfl⟩
def dskV (r n:Nat) (f:Int) (lit off:Bool) (w q:Int):V:= .agg [.rs r 0 n,.d (.int .i64 f),.d (.bool lit),.d (.bool off),.d (.int .i64 w),.d (.int .i64 q)]
section
variable {r n d x y:Nat} {f w q f' w' q':Int} {lit off lit' off':Bool} {S:zA}
theorem z6m:zX Tryz.prog 135 0 (.ref d x y)=some (.ref d x (y + 0)):=by kernel_rfl
theorem zlr:zX Tryz.prog 135 1 (.ref d x y)=some (.ref d x (y + 1)):=by kernel_rfl
theorem zl1:zX Tryz.prog 135 2 (.ref d x y)=some (.ref d x (y + 2)):=by kernel_rfl
theorem za7:zX Tryz.prog 135 3 (.ref d x y)=some (.ref d x (y + 3)):=by kernel_rfl
theorem zyc:zX Tryz.prog 135 4 (.ref d x y)=some (.ref d x (y + 4)):=by kernel_rfl
theorem zzi:zX Tryz.prog 135 5 (.ref d x y)=some (.ref d x (y + 5)):=by kernel_rfl
theorem lk0:qZ Tryz.prog 63 0 (some (dskV r n f lit off w q))=some (.rs r 0 n):=by kernel_rfl
theorem lk1:qZ Tryz.prog 3 1 (some (dskV r n f lit off w q))=some (.d (.int .i64 f)):=by kernel_rfl
theorem lk2:qZ Tryz.prog 4 2 (some (dskV r n f lit off w q))=some (.d (.bool lit)):=by kernel_rfl
theorem lk3:qZ Tryz.prog 4 3 (some (dskV r n f lit off w q))=some (.d (.bool off)):=by kernel_rfl
theorem lk4:qZ Tryz.prog 3 4 (some (dskV r n f lit off w q))=some (.d (.int .i64 w)):=by kernel_rfl
theorem lk5:qZ Tryz.prog 3 5 (some (dskV r n f lit off w q))=some (.d (.int .i64 q)):=by kernel_rfl
theorem sk1:qW Tryz.prog 3 1 (.d (.int .i64 f')) (dskV r n f lit off w q)=some (dskV r n f' lit off w q):=by kernel_rfl
theorem sk3:qW Tryz.prog 4 3 (.d (.bool off')) (dskV r n f lit off w q)=some (dskV r n f lit off' w q):=by kernel_rfl
theorem sk4:qW Tryz.prog 3 4 (.d (.int .i64 w')) (dskV r n f lit off w q)=some (dskV r n f lit off w' q):=by kernel_rfl
theorem sk5:qW Tryz.prog 3 5 (.d (.int .i64 q')) (dskV r n f lit off w q)=some (dskV r n f lit off w q'):=by kernel_rfl
theorem zcg:binV Tryz.prog .eql 60 (.ref d x y) (.d .nilp)=some (.d (.bool false)):=by kernel_rfl
theorem u37:Tryz.prog.underlying 63=some (.slice 42):=by kernel_rfl
theorem zp3 {i o m:Nat}:zI Tryz.prog S .len [63] [.rs i o m]=some (.val (.d (.int .i64 m)) S 0):=zkl u37
theorem lr26:qZ Tryz.prog 60 0 (some (.ref d x y))=some (.ref d x y):=by kernel_rfl
theorem zgx:qZ Tryz.prog 47 0 (some (.d (.int .i64 f)))=some (.d (.int .i64 f)):=by kernel_rfl
theorem zlz:qW Tryz.prog 47 0 (.d (.int .i64 f')) (.d (.int .i64 f))=some (.d (.int .i64 f')):=by kernel_rfl
theorem ft26:qA Tryz.prog 60 (.ref d x y)=true:=by kernel_rfl
theorem z29:zeroV Tryz.prog 47=some (.d (.int .i64 0)):=by kernel_rfl
end
section
variable {S l:zA} {n k i:Nat} {x y:V} {a b c o:Ob} {e:TypeId}
theorem rA0 (h:S.length=n):rowE (S ++ .row [x] e::l) n 0=some x:=by
 subst h; exact zD (e:=e) (by simp)
theorem rA1 (h:S.length=n):rowE (S ++ a:: .row [x] e::l) (n + 1) 0=some x:=by
 subst h; exact zD (e:=e) (by rw [List.getElem?_append_right (by omega)]; simp)
theorem rA2 (h:S.length=n):rowE (S ++ a::b:: .row [x] e::l) (n + 2) 0=some x:=by
 subst h; exact zD (e:=e) (by rw [List.getElem?_append_right (by omega)]; simp)
theorem pA0 (h:S.length=n):jJ (S ++ .row [x] e::l) n 0 y=some (S ++ .row [y] e::l):=by
 subst h
 rw [qH (x:=x) (e:=e) (by simp)]
 simp
theorem pA1 (h:S.length=n):jJ (S ++ a:: .row [x] e::l) (n + 1) 0 y=some (S ++ a:: .row [y] e::l):=by
 subst h
 rw [qH (x:=x) (e:=e) (by rw [List.getElem?_append_right (by omega)]; simp)]
 rw [List.set_append_right _ _ (by omega)]
 simp
theorem pA2 (h:S.length=n):jJ (S ++ a::b:: .row [x] e::l) (n + 2) 0 y=some (S ++ a::b:: .row [y] e::l):=by
 subst h
 rw [qH (x:=x) (e:=e) (by rw [List.getElem?_append_right (by omega)]; simp)]
 rw [List.set_append_right _ _ (by omega)]
 simp
theorem rS0 (h:i < S.length):rowE (S.set i (.row [x] e) ++ l) i 0=some x:=zD (e:=e) (by rw [List.getElem?_append_left (by simpa using h)]; simp [h])
end
theorem zea:zB Tryz.prog 112=some ⟨(Tryz.f112.body.getD .skip),11, #[]⟩:=by
 unfold zB
 rw [Tryz.func112]
 rfl
theorem zsd:zB Tryz.prog 117=some ⟨(Tryz.f117.body.getD .skip),8, #[]⟩:=by
 unfold zB
 rw [Tryz.func117]
 rfl
structure DskAt (S:zA) (d r:Nat) (vs:List V) (f:Int) (lit off:Bool) (w q:Int):Prop where
 hd:S[d]? = some (.row [dskV r vs.length f lit off w q] 135)
 hr:S[r]? = some (.row vs 42)
 ne:r ≠ d
section
variable {S l:zA} {d r:Nat} {vs:List V} {f w q:Int} {lit off:Bool}
theorem DskAt.rd (h:DskAt S d r vs f lit off w q):rowE (S ++ l) d 0=some (dskV r vs.length f lit off w q):=zD (e:=135) (by rw [List.getElem?_append_left (zL h.hd)]; exact h.hd)
theorem DskAt.rd' (h:DskAt S d r vs f lit off w q):rowE S d 0=some (dskV r vs.length f lit off w q):=zD (e:=135) h.hd
theorem DskAt.pd (h:DskAt S d r vs f lit off w q) {y:V}:jJ (S ++ l) d 0 y=some (S.set d (.row [y] 135) ++ l):=by
 rw [qH (e:=135) (by rw [List.getElem?_append_left (zL h.hd)]; exact h.hd),List.set_append_left _ _ (zL h.hd)]
theorem DskAt.dl (h:DskAt S d r vs f lit off w q):d < S.length:=zL h.hd
theorem DskAt.rl (h:DskAt S d r vs f lit off w q):r < S.length:=zL h.hr
end
theorem zm9 (S:zA) (d r:Nat) (vs:List V) (f w q:Int) (lit off:Bool) (h:DskAt S d r vs f lit off w q):EvS cfg 80 [.ref d 0 0] S (fun o S'=>S'=S∧o = .ret (.d (.int .i64 vs.length))):=by
 refine qE rfl zwh ?_
 show Wp cfg (Tryz.f80.body.getD .skip) ((.ref d 0 0)::(.tup [])::(.tup [])::(.tup [])::(.tup [])::(.tup [])::(.tup [])::(.tup [])::(.tup [])::(.tup [])::[]) S [] _
 conv=>arg 2; whnf
 rw [zO]
 have hd:=h.rd'
 simp (maxSteps:=1000000) (disch:=first|assumption|omega|rfl) only [↓gp,gc,Nat.reduceAdd,zcg,z6m,hd,lk0,zp3]
 exact ⟨rfl,_,rfl,rfl,rfl⟩
theorem zjt (S:zA) (d r:Nat) (vs:List V) (f w q:Int) (lit:Bool) (no:Nat) (h:DskAt S d r vs f lit false w q) (hn:no < vs.length):EvS cfg 111 [.ref d 0 0,.d (.int .i64 (no:Int))] S (fun o S'=>S'=S∧o = .ret (.d (.int .i64 0))):=by
 refine qE rfl zm3 ?_
 show Wp cfg (Tryz.f111.body.getD .skip) ((.ref d 0 0)::(.d (.int .i64 (no:Int)))::uZ (uZ ((.tup [])::(.tup [])::(.tup [])::[]))) S [] _
 unfold uZ
 conv=>arg 2; whnf
 rw [zO]
 have hd:=h.rd'
 have c1 : ¬ (no:Int) < 0:=by omega
 have c2 : ¬ (no:Int) ≥ (vs.length:Int):=by omega
 simp (maxSteps:=1000000) (disch:=first|assumption|omega|rfl) only [↓gp,gc,Nat.reduceAdd,zcg,z6m,za7,hd,lk0,lk3,zp3]
 exact ⟨rfl,_,rfl,rfl,rfl⟩
theorem lset {S:zA} {d:Nat} {o:Ob}:(S.set d o).length=S.length:=List.length_set ..
theorem mf94 {S:zA} {a b:Nat}:mfS (.func 112) S [] [.ref a 0 0,.ref b 0 0]=some (.val (.fn (.func 112) [] [.ref a 0 0,.ref b 0 0]) S 0):=z15 rfl
theorem mf96 {S:zA} {a:Nat}:mfS (.func 117) S [] [.ref a 0 0]=some (.val (.fn (.func 117) [] [.ref a 0 0]) S 0):=z15 rfl
section
variable {ops:Array Oper} {dst:Option Tmp} {l:List Oper} {T:List V} {S:zA} {F:Dfs} {Q:Post} {ty:TypeId} {pos:String} {after:Array Edge} {t a b:Nat} {pre suf:List V}
noncomputable def dfV:V→Option Rs
 | .fn (.func g) first caps=>if (zB Tryz.prog g).isSome then some (.dfr g (first ++ caps)) else none
 | _=>none
theorem z72:WpL cfg ops (⟨dst,.defer ⟨.value (.tmp t), #[], #[]⟩,ty,pos,after,none⟩::l) T S F Q=WpR cfg ops dst l T S F Q (dfV (T.getD t .junk)):=by
 rw [vM rfl]
 have e:opV cfg.P S T ⟨dst,.defer ⟨.value (.tmp t), #[], #[]⟩,ty,pos,after,none⟩=dfV (T.getD t .junk):=by
  show (match T.getD t .junk with | .fn (.func g) first caps=>if [].all V.one && (zB Tryz.prog g).isSome then some (Rs.dfr g (first ++ [] ++ caps)) else none | _=>none)=_
  simp only [List.all_nil,Bool.true_and,List.append_nil]
  rfl
 rw [e]
theorem zg8 {f:FuncId} {args:List V}:WpR cfg ops dst l T S F Q (some (.dfr f args))=WpL cfg ops l (putT T dst (.tup [])) S ((f,args)::F) Q:=rfl
theorem df94 {x y:V}:dfV (.fn (.func 112) [] [x,y])=some (.dfr 112 [x,y]):=by
 unfold dfV
 exact if_pos q1u
theorem df96 {x:V}:dfV (.fn (.func 117) [] [x])=some (.dfr 117 [x]):=by
 unfold dfV
 exact if_pos q14
end
def nilS (S:zA):V→Option Rs
 | .ref i ix off=>some (.val (.ref i ix off) S 0)
 | .d (.ptr x)=>some (.val (.d (.ptr x)) S 0)
 | .fn (.func g) a b=>some (.val (.fn (.func g) a b) S 0)
 | _=>none
theorem qQ {P:Program} {S:zA} {T:List V} {dst:Option Tmp} {ty:TypeId} {pos:String} {after:Array Edge} {g:Option (Nat × Bool)} {x:Operand}:opV P S T ⟨dst,.nilCheck x,ty,pos,after,g⟩=nilS S (zC T x):=by
 simp only [opV]
 generalize zC T x=v
 cases v with
 | d y=>cases y <;> rfl
 | fn f a b=>cases f <;> rfl
 | _=>rfl
theorem kD {S:zA} {i ix off:Nat}:nilS S (.ref i ix off)=some (.val (.ref i ix off) S 0):=rfl
theorem zF {ops:Array Oper} {dst:Option Tmp} {l:List Oper} {T:List V} {S S2:zA} {F:Dfs} {Q:Post} {f:FuncId} {args:List V} {v:V} (hs:cfg.shared f=true) (he:EvS cfg f args S (fun o S'=>S'=S2∧o = .ret v)):WpR cfg ops dst l T S F Q (some (.enter f args))=WpL cfg ops l (putT T dst v) S2 F Q:=by
 obtain ⟨n,o,S',hn,rfl,rfl⟩:=he
 have hc:jO cfg (run cfg n) f args S=some (.ret v,S',3):=by
  unfold jO
  simp only [hs,if_true,hn,Option.map_some]
 apply propext
 constructor
 ·rintro ⟨m,o,S2,c,h1,h2⟩
  have:=wN h1 hc
  simp only [Prod.mk.injEq] at this
  obtain ⟨rfl,rfl,rfl⟩:=this
  exact h2
 ·exact fun h=>⟨n,_,_,_,hc,h⟩
theorem DskAt.app {S l:zA} {d r:Nat} {vs:List V} {f w q:Int} {lit off:Bool} (h:DskAt S d r vs f lit off w q):DskAt (S ++ l) d r vs f lit off w q :=
 ⟨by rw [List.getElem?_append_left h.dl]; exact h.hd,by rw [List.getElem?_append_left h.rl]; exact h.hr,h.ne⟩
theorem DskAt.setd {S:zA} {d r:Nat} {vs:List V} {f w q f' w' q':Int} {lit off lit' off':Bool} (h:DskAt S d r vs f lit off w q):DskAt (S.set d (.row [dskV r vs.length f' lit' off' w' q'] 135)) d r vs f' lit' off' w' q' :=
 ⟨zm7 h.hd,by rw [List.getElem?_set_ne (Ne.symm h.ne)]; exact h.hr,h.ne⟩
theorem q05 {S:zA} {r n i:Nat} {vs:List V} (hS:S[r]? = some (.row vs 42)) (hi:i < n):zM Tryz.prog S 63 (.rs r 0 n) (.d (.int .i64 (i:Int)))=some (.ref r i 0):=by
 have h1:rowT S r 42=true:=by unfold rowT; rw [hS]; rfl
 have h2:(sz Tryz.prog 42).isSome=true:=by kernel_rfl
 simp only [zM,intOf?,u37]
 rw [if_pos ⟨⟨by omega,by omega⟩,h1,h2⟩]
 simp
section
variable {S l:zA} {d r:Nat} {vs:List V} {f w q:Int} {lit off:Bool} {i:Nat}
theorem DskAt.ix (h:DskAt S d r vs f lit off w q) (hi:i < vs.length):zM Tryz.prog (S ++ l) 63 (.rs r 0 vs.length) (.d (.int .i64 (i:Int)))=some (.ref r i 0):=q05 (vs:=vs) (h.app (l:=l)).hr hi
theorem DskAt.rr (h:DskAt S d r vs f lit off w q) (hi:i < vs.length):rowE (S ++ l) r i=some vs[i]:=by
 unfold rowE
 rw [(h.app (l:=l)).hr]
 exact List.getElem?_eq_getElem hi
theorem DskAt.pr (h:DskAt S d r vs f lit off w q) {y:V}:jJ (S ++ l) r i y=some (S.set r (.row (vs.set i y) 42) ++ l):=by
 unfold jJ
 rw [(h.app (l:=l)).hr]
 simp only [List.set_append_left _ _ h.rl]
theorem DskAt.setr (h:DskAt S d r vs f lit off w q) {y:V}:DskAt (S.set r (.row (vs.set i y) 42)) d r (vs.set i y) f lit off w q :=
 ⟨by rw [List.getElem?_set_ne h.ne,List.length_set]; exact h.hd,zm7 h.hr,h.ne⟩
end
theorem zj1 (S:zA) (a d r:Nat) (vs:List V) (f w q:Int) (lit off:Bool) (h:DskAt S d r vs f lit off w q) (hS:S.length=a) (hw:0 ≤ w∧w ≤ 1000000) (b:Ob) :
  Wp cfg (Tryz.f112.body.getD .skip) ((.ref (a + 2) 0 0)::(.ref a 0 0)::(.tup [])::(.tup [])::(.tup [])::(.tup [])::(.tup [])::(.tup [])::(.tup [])::(.tup [])::(.tup [])::[]) (S ++ [.row [.ref d 0 0] 60,b,.row [.d (.int .i64 0)] 47]) [] (fun x T S2 F=>(x = .norm ∨ x = .ret)∧F=[]∧(∃ v,qD cfg.P #[] T S2=some v)∧S2=S.set d (.row [dskV r vs.length f lit off (w + 1) q] 135) ++ [.row [.ref d 0 0] 60,b,.row [.d (.int .i64 0)] 47]):=by
 conv=>arg 2; whnf
 rw [zO]
 have hd:=fun l=>h.rd (l:=l)
 have hp:=fun l y=>h.pd (l:=l) (y:=y)
 have h3:IntKind.i64.wrap (w + 1)=w + 1:=wrap64 (by omega)
 simp (maxSteps:=1000000) (disch:=first|assumption|omega|rfl) only [↓gp,gc,Nat.reduceAdd,zyc,rA0 hS,rA1 hS,rA2 hS,hd,hp,zgx,lr26,lk4,sk4,h3,zQ]
 try exact ⟨.inl trivial,trivial,⟨_,rfl⟩,trivial⟩
theorem ztc (S l:zA) (a:Nat) (e:Int) (he:e ≠ 0) (hS:S.length=a) (b c:Ob) :
  Wp cfg (Tryz.f112.body.getD .skip) ((.ref (a + 2) 0 0)::(.ref a 0 0)::(.tup [])::(.tup [])::(.tup [])::(.tup [])::(.tup [])::(.tup [])::(.tup [])::(.tup [])::(.tup [])::[]) (S ++ [c,b,.row [.d (.int .i64 e)] 47]) [] (fun x T S2 F=>(x = .norm ∨ x = .ret)∧F=[]∧(∃ v,qD cfg.P #[] T S2=some v)∧S2=S ++ [c,b,.row [.d (.int .i64 e)] 47]):=by
 conv=>arg 2; whnf
 rw [zO]
 have hde : ∀ i:Decidable (e=0),@decide (e=0) i=false:=fun i=>decide_eq_false he
 simp (maxSteps:=1000000) (disch:=first|assumption|omega|rfl) only [↓gp,gc,Nat.reduceAdd,rA2 hS,zgx,hde]
 try exact ⟨.inl trivial,trivial,⟨_,rfl⟩,trivial⟩
theorem zsn {T:List V} {S:zA} {t x:Nat} {e:Int} (h1:T.getD t (.tup []) = .ref x 0 0) (h2:rowE S x 0=some (.d (.int .i64 e))):qD Tryz.prog #[.cell t 47] T S=some (.d (.int .i64 e)):=by
 have hl:kN Tryz.prog S 47 (.ref x 0 0)=some (.d (.int .i64 e)):=(zJ h2).trans zgx
 simp only [qD,allO,jT,h1,hl]
theorem z53 (S:zA) (d r:Nat) (vs:List V) (w q:Int) (no:Nat) (u:V) (b:List UInt8) (h:DskAt S d r vs 0 true false w q) (hn:no < vs.length) (hu:IsB u b) (hb:b.length=256) :
  EvS cfg 71 [.ref d 0 0,.d (.int .i64 (no:Int)),u] S (fun o S'=>S'=S.set d (.row [dskV r vs.length 0 true true w q] 135) ++ [.row [.ref d 0 0] 60,.row [u] 42,.row [.d (.int .i64 12)] 47]∧o = .ret (.d (.int .i64 12))):=by
 refine zbh rfl zqa ?_
 show Wp cfg (Tryz.f71.body.getD .skip) ((.ref d 0 0)::(.d (.int .i64 (no:Int)))::u::uZ (uZ (uZ (uZ ((.tup [])::(.tup [])::(.tup [])::[]))))) S [] _
 unfold uZ
 conv=>arg 2; whnf
 rw [zO]
 have hf:=bt42.fits hu hb
 have hu1:=hu.one
 generalize ha:S.length=a
 have hd:=fun l=>h.rd (l:=l)
 have hp:=fun l y=>h.pd (l:=l) (y:=y)
 have hdl:=h.dl
 have hl : ∀ o,(S.set d o).length=a:=fun o=>lset.trans ha
 have hm:=fun {ops dst k T F Q} l=>zF (ops:=ops) (dst:=dst) (l:=k) (T:=T) (F:=F) (Q:=Q) rfl (zjt (S ++ l) d r vs 0 w q true no h.app hn)
 simp (maxSteps:=1000000) (disch:=first|assumption|omega|rfl) only [↓gp,gc,Nat.reduceAdd,ft26,hf,z29,hu1,List.append_assoc,List.length_append,List.length_cons,List.length_nil,ha,rA0 ha,rA1 ha,rA2 ha,pA2 ha,rA0 (hl _),rA1 (hl _),rA2 (hl _),pA2 (hl _),lr26,zgx,zlz,hm,zi2,hd,hp,zlr,zl1,za7,lk1,lk2,sk3,jM,mf94,z72,df94,zg8,zQ]
 exact ⟨.inr rfl,_,_,⟨_,_,zea,ztc (S.set d _) [] a 12 (by decide) (hl _) _ _,rfl⟩,zsn rfl (rA2 (hl _)),rfl,rfl⟩
theorem z4j (S:zA) (d r:Nat) (vs:List V) (f w q:Int) (lit:Bool) (no:Nat) (u v:V) (b b0:List UInt8) (h:DskAt S d r vs f lit false w q) (hn:no < vs.length) (hu:IsB u b) (hb:b.length=256) (hv:vs[no]=v) (hb0:IsB v b0) (hl0:b0.length=256) (hw:0 ≤ w∧w ≤ 1000000) (hf0:0 ≤ f∧InB f) (hlf:lit=true→f ≠ 0) :
  EvS cfg 71 [.ref d 0 0,.d (.int .i64 (no:Int)),u] S (fun o S'=>S'=(S.set d (.row [dskV r vs.length (if lit then f - 1 else f) lit false (w + 1) q] 135)).set r (.row (vs.set no u) 42) ++ [.row [.ref d 0 0] 60,.row [u] 42,.row [.d (.int .i64 0)] 47]∧o = .ret (.d (.int .i64 0))):=by
 refine zbh rfl zqa ?_
 show Wp cfg (Tryz.f71.body.getD .skip) ((.ref d 0 0)::(.d (.int .i64 (no:Int)))::u::uZ (uZ (uZ (uZ ((.tup [])::(.tup [])::(.tup [])::[]))))) S [] _
 unfold uZ
 conv=>arg 2; whnf
 rw [zO]
 have hf:=bt42.fits hu hb
 have hu1:=hu.one
 generalize ha:S.length=a
 have hd:=fun l=>h.rd (l:=l)
 have hp:=fun l y=>h.pd (l:=l) (y:=y)
 have hdl:=h.dl
 have hl : ∀ o,(S.set d o).length=a:=fun o=>lset.trans ha
 have hm:=fun {ops dst k T F Q} l=>zF (ops:=ops) (dst:=dst) (l:=k) (T:=T) (F:=F) (Q:=Q) rfl (zjt (S ++ l) d r vs f w q lit no h.app hn)
 have hld:=bt42.load hu hb
 have hst:=bt42.store hu hb (hv ▸ hb0) hl0
 have hl0 : ∀ i o,(S.set i o).length=a:=fun i o=>lset.trans ha
 have hl2 : ∀ i o j p,((S.set i o).set j p).length=a:=fun i o j p=>lset.trans (lset.trans ha)
 have hcm : ∀ o p,(S.set r o).set d p=(S.set d p).set r o:=fun o p=>List.set_comm _ _ h.ne
 cases lit with
 | false =>
  have hix:=fun l=>h.ix (l:=l) hn
  have hrr:=fun l=>h.rr (l:=l) hn
  have hpr:=fun l y=>h.pr (l:=l) (i:=no) (y:=y)
  simp (maxSteps:=1000000) (disch:=first|assumption|omega|rfl) only [↓gp,gc,Nat.reduceAdd,ft26,hf,z29,hu1,List.append_assoc,List.length_append,List.length_cons,List.length_nil,ha,rA0 ha,rA1 ha,rA2 ha,pA2 ha,rA0 (hl0 _ _),rA1 (hl0 _ _),rA2 (hl0 _ _),pA2 (hl0 _ _),lr26,zgx,zlz,hm,zi2,hd,hp,zlr,zl1,za7,lk1,lk2,sk3,jM,mf94,z72,df94,zg8,zQ]
  refine vB (is:=[0,1,2,3,4,5,6,7]) (h:=0) (by kernel_rfl) (by kernel_rfl) ?_
  simp (maxSteps:=1000000) (disch:=first|assumption|omega|rfl) only [List.replicate_zero,eq_self,gd,ga,Nat.reduceAdd,↓gq,vso,rA0 ha,rA1 ha,rA2 ha,lr26,hd,qQ,kD,z6m,lk0,hix,hld,hrr,hst,hpr,List.append_nil]
  refine ⟨fun _=>by kernel_rfl,?_⟩
  refine ⟨by kernel_rfl,?_⟩
  simp (maxSteps:=1000000) (disch:=first|assumption|omega|rfl) only [↓gp,gc,Nat.reduceAdd,pA2 (hl0 _ _),rA2 (hl0 _ _),zlz]
  refine ⟨.inr rfl,_,_,⟨_,_,zea,zj1 _ a d r _ _ w q _ _ h.setr (hl0 _ _) hw _,rfl⟩,zsn rfl (rA2 (hl2 _ _ _ _)),?_,rfl⟩
  rw [hcm,List.length_set]
  rfl
 | true =>
  have hf1 : ¬ f=0:=hlf rfl
  have h3:IntKind.i64.wrap (f - 1)=f - 1:=wrap64 (by obtain ⟨_,_,_⟩:=hf0; omega)
  have h' : ∀ f',DskAt (S.set d (.row [dskV r vs.length f' true false w q] 135)) d r vs f' true false w q:=fun f'=>h.setd
  have hde : ∀ i:Decidable (f=0),@decide (f=0) i=false:=fun i=>decide_eq_false hf1
  have hd1:=fun f' l=>(h' f').rd (l:=l)
  have hix:=fun f' l=>(h' f').ix (l:=l) hn
  have hrr:=fun f' l=>(h' f').rr (l:=l) hn
  have hpr:=fun f' l y=>(h' f').pr (l:=l) (i:=no) (y:=y)
  simp (maxSteps:=1000000) (disch:=first|assumption|omega|rfl) only [↓gp,gc,Nat.reduceAdd,ft26,hf,z29,hu1,List.append_assoc,List.length_append,List.length_cons,List.length_nil,ha,rA0 ha,rA1 ha,rA2 ha,pA2 ha,rA0 (hl0 _ _),rA1 (hl0 _ _),rA2 (hl0 _ _),pA2 (hl0 _ _),lr26,zgx,zlz,hm,zi2,hd,hp,zlr,zl1,za7,lk1,lk2,sk1,sk3,jM,mf94,z72,df94,zg8,zQ,hde,h3,hd1]
  refine vB (is:=[0,1,2,3,4,5,6,7]) (h:=0) (by kernel_rfl) (by kernel_rfl) ?_
  simp (maxSteps:=1000000) (disch:=first|assumption|omega|rfl) only [List.replicate_zero,eq_self,gd,ga,Nat.reduceAdd,↓gq,vso,rA0 (hl0 _ _),rA1 (hl0 _ _),rA2 (hl0 _ _),lr26,hd1,qQ,kD,z6m,lk0,hix,hld,hrr,hst,hpr,List.append_nil]
  refine ⟨fun _=>by kernel_rfl,?_⟩
  refine ⟨by kernel_rfl,?_⟩
  simp (maxSteps:=1000000) (disch:=first|assumption|omega|rfl) only [↓gp,gc,Nat.reduceAdd,pA2 (hl2 _ _ _ _),rA2 (hl2 _ _ _ _),zlz]
  refine ⟨.inr rfl,_,_,⟨_,_,zea,zj1 _ a d r _ _ w q _ _ (h' _).setr (hl2 _ _ _ _) hw _,rfl⟩,zsn rfl (rA2 (lset.trans (hl2 _ _ _ _))),?_,rfl⟩
  rw [List.set_comm _ _ h.ne,List.set_set,List.length_set]
  try rfl
theorem q1d (S:zA) (a d r:Nat) (vs:List V) (f w q:Int) (lit off:Bool) (h:DskAt S d r vs f lit off w q) (hS:S.length=a) (hq:0 ≤ q∧q ≤ 1000000) (b:Ob) :
  Wp cfg (Tryz.f117.body.getD .skip) ((.ref a 0 0)::(.tup [])::(.tup [])::(.tup [])::(.tup [])::(.tup [])::(.tup [])::(.tup [])::[]) (S ++ [.row [.ref d 0 0] 60,b]) [] (fun x T S2 F=>(x = .norm ∨ x = .ret)∧F=[]∧(∃ v,qD cfg.P #[] T S2=some v)∧S2=S.set d (.row [dskV r vs.length f lit off w (q + 1)] 135) ++ [.row [.ref d 0 0] 60,b]):=by
 conv=>arg 2; whnf
 rw [zO]
 have hd:=fun l=>h.rd (l:=l)
 have hp:=fun l y=>h.pd (l:=l) (y:=y)
 have h3:IntKind.i64.wrap (q + 1)=q + 1:=wrap64 (by omega)
 simp (maxSteps:=1000000) (disch:=first|assumption|omega|rfl) only [↓gp,gc,Nat.reduceAdd,zzi,rA0 hS,hd,hp,lr26,lk5,sk5,h3]
 try exact ⟨.inl trivial,trivial,⟨_,rfl⟩,trivial⟩
theorem zjm (S:zA) (d r:Nat) (vs:List V) (f w q:Int) (lit:Bool) (no:Nat) (v:V) (b:List UInt8) (h:DskAt S d r vs f lit false w q) (hn:no < vs.length) (hv:vs[no]=v) (hb:IsB v b) (hl:b.length=256) (hq:0 ≤ q∧q ≤ 1000000) :
  EvS cfg 78 [.ref d 0 0,.d (.int .i64 (no:Int))] S (fun o S'=>S'=S.set d (.row [dskV r vs.length f lit false w (q + 1)] 135) ++ [.row [.ref d 0 0] 60,.row [v] 42]∧o = .ret (.tup [v,.d (.int .i64 0)])):=by
 refine zbh rfl zql ?_
 show Wp cfg (Tryz.f78.body.getD .skip) ((.ref d 0 0)::(.d (.int .i64 (no:Int)))::uZ ((.tup [])::(.tup [])::(.tup [])::(.tup [])::(.tup [])::(.tup [])::(.tup [])::(.tup [])::(.tup [])::[])) S [] _
 unfold uZ
 conv=>arg 2; whnf
 rw [zO]
 generalize ha:S.length=a
 have hm:=fun {ops dst k T F Q} l=>zF (ops:=ops) (dst:=dst) (l:=k) (T:=T) (F:=F) (Q:=Q) rfl (zjt (S ++ l) d r vs f w q lit no h.app hn)
 have hd:=fun l=>h.rd (l:=l)
 have hix:=fun l=>h.ix (l:=l) hn
 have hrr:=fun l=>h.rr (l:=l) hn
 rw [hv] at hrr
 have hld:=bt42.load hb hl
 have hst:=bt42.store hb hl (w:=blkV (zK 256)) isB_v z256
 have hl0 : ∀ i o,(S.set i o).length=a:=fun i o=>lset.trans ha
 simp (maxSteps:=1000000) (disch:=first|assumption|omega|rfl) only [↓gp,gc,Nat.reduceAdd,ft26,z42,zf42,List.append_assoc,List.length_append,List.length_cons,List.length_nil,ha,rA0 ha,rA1 ha,pA1 ha,lr26,hm,zi2,hd,z6m,lk0,hix,hrr,hld,hst,jM,mf96,z72,df96,zg8]
 have hres : ∀ T:List V,T.getD 4 (.tup []) = .ref (a + 1) 0 0→T.getD 5 (.tup []) = .d (.int .i64 0)→qD Tryz.prog #[.cell 4 42,.tmp 5] T (S.set d (.row [dskV r vs.length f lit false w (q + 1)] 135) ++ [.row [.ref d 0 0] 60,.row [v] 42])=some (.tup [v,.d (.int .i64 0)]):=fun T h1 h2=>by
  have hl1:kN Tryz.prog (S.set d (.row [dskV r vs.length f lit false w (q + 1)] 135) ++ [.row [.ref d 0 0] 60,.row [v] 42]) 42 (.ref (a + 1) 0 0)=some v:=(zJ (rA1 (hl0 _ _))).trans hld
  have h3:V.one (.d (.int .i64 0))=true:=rfl
  simp only [qD,allO,jT,h1,h2,hl1,List.all_cons,List.all_nil,hb.one,h3,Bool.and_self,if_true]
 exact ⟨.inr rfl,_,_,⟨_,_,zsd,q1d _ a d r _ _ w q _ _ h ha hq _,rfl⟩,hres _ rfl rfl,rfl,rfl⟩
theorem zqd {m:Nat} (h:m ≤ 1000000):room Tryz.prog 42 m=true:=zb5 rfl (by decide +kernel) h
theorem bs37 {S:zA} {T:List V} {dst:Option Tmp} {ty:TypeId} {pos:String} {after:Array Edge} {g:Option (Nat × Bool)}:opV Tryz.prog S T ⟨dst,.buildSlice 63 0 #[],ty,pos,after,g⟩=some (.val (.ts []) S 0):=by kernel_rfl
theorem q19 {S:zA} {r:Nat} {vs:List V} (hr:S[r]? = some (.row vs 42)) (h0:vs ≠ []) (hl:vs.length ≤ 100000) (hv : ∀ v ∈ vs,qA Tryz.prog 42 v=true):qJ Tryz.prog S 63 63 (.ts []) (.rs r 0 vs.length)=some (.rs S.length 0 vs.length,S ++ [.row vs 42],2):=by
 have hall:vs.all (qA Tryz.prog 42)=true:=by rw [List.all_eq_true]; exact hv
 have h5:(sz Tryz.prog 42).isSome=true:=by kernel_rfl
 have hz:zOk Tryz.prog 42=true:=by kernel_rfl
 have el:jV S (.rs r 0 vs.length)=some vs:=by
  simp only [jV,hr,Nat.zero_add,Nat.le_refl,if_true,List.drop_zero,List.take_length]
 have src:srcV Tryz.prog S 42 63 (.rs r 0 vs.length)=some vs:=by
  simp only [srcV,u37,el,hall,h5,Bool.and_self,if_true]
 cases vs with
 | nil=>exact absurd rfl h0
 | cons a t =>
  simp only [List.length_cons] at src
  have hr2:room Tryz.prog 42 (t.length + 1)=true:=zqd (by simp at hl; omega)
  simp only [qJ,u37,src,hz,if_true,List.all_nil,List.length_nil,Nat.zero_add,hr2,Bool.and_self,List.map_nil,List.nil_append,List.length_cons]
theorem zn6 (S:zA) (d r:Nat) (vs:List V) (f w q:Int) (lit off:Bool) (h:DskAt S d r vs f lit off w q) (h0:vs ≠ []) (hl:vs.length ≤ 100000) (hv : ∀ v ∈ vs,qA Tryz.prog 42 v=true):EvS cfg 54 [.ref d 0 0] S (fun o S'=>S'=S ++ [.row vs 42]∧o = .ret (.rs S.length 0 vs.length)):=by
 refine qE rfl zvn ?_
 show Wp cfg (Tryz.f54.body.getD .skip) ((.ref d 0 0)::uZ []) S [] _
 unfold uZ
 conv=>arg 2; whnf
 rw [zO]
 have hd:=h.rd'
 have hap:=q19 h.hr h0 hl hv
 simp (maxSteps:=1000000) (disch:=first|assumption|omega|rfl) only [↓gp,gc,Nat.reduceAdd,↓vbs,zcg,z6m,hd,lk0,bs37,hap]
 exact ⟨rfl,_,rfl,rfl,rfl⟩
theorem mk37 {S:zA} {n:Nat} (h:n ≤ 1000000):jL Tryz.prog S 63 (.d (.int .i64 (n:Int))) (.d (.int .i64 (n:Int)))=some (.rs S.length 0 n,S ++ [.row (List.replicate n (blkV (zK 256))) 42]):=by
 have hr:=zqd h
 simp only [jL,u37,z42,Int.toNat_natCast,hr,zf42,Bool.and_self,if_true]
 rw [if_pos ⟨by omega,Int.le_refl _,by omega⟩]
theorem bd89 {r n:Nat}:wX Tryz.prog 135 [(0,.rs r 0 n)]=some (dskV r n 0 false false 0 0):=by kernel_rfl
theorem ft89 {r n:Nat} {f w q:Int} {lit off:Bool}:qA Tryz.prog 135 (dskV r n f lit off w q)=true:=by kernel_rfl
theorem zxl (S:zA) (n:Nat) (h1:16 ≤ n) (h2:n ≤ 512):EvS cfg 100 [.d (.int .i64 (n:Int))] S (fun o S'=>S'=S ++ [.row (List.replicate n (blkV (zK 256))) 42,.row [dskV S.length n 0 false false 0 0] 135]∧o = .ret (.ref (S.length + 1) 0 0)):=by
 refine qE rfl zqz ?_
 show Wp cfg (Tryz.f100.body.getD .skip) ((.d (.int .i64 (n:Int)))::(.tup [])::(.tup [])::(.tup [])::(.tup [])::(.tup [])::(.tup [])::(.tup [])::(.tup [])::(.tup [])::[]) S [] _
 conv=>arg 2; whnf
 rw [zO]
 have hmin:=fun S=>min_le (S:=S) (a:=(n:Int)) (b:=512) (by omega)
 have hmax:=fun S=>max_le (S:=S) (a:=16) (b:=(n:Int)) (by omega)
 have hmk:=fun S=>mk37 (S:=S) (n:=n) (by omega)
 have h1:(dskV S.length n 0 false false 0 0).one=true:=rfl
 simp (maxSteps:=1000000) (disch:=first|assumption|omega|rfl) only [↓gp,gc,Nat.reduceAdd,hmin,hmax,hmk,bd89,ft89,h1,List.append_assoc,List.length_append,List.length_cons,List.length_nil]
 exact ⟨rfl,_,rfl,rfl,rfl⟩
def K2 (d r:Nat) (S S':zA):Prop:= ∀ j o,j ≠ d→j ≠ r→S[j]? = some o→S'[j]? = some o
section
variable {d r:Nat} {S S' S'' l:zA} {o:Ob}
theorem K2.refl:K2 d r S S:=fun _ _ _ _ h=>h
theorem K2.trans (h:K2 d r S S') (h':K2 d r S' S''):K2 d r S S'':=fun j o a b c=>h' j o a b (h j o a b c)
theorem K2.app (h:K2 d r S S'):K2 d r S (S' ++ l):=fun j o a b c=>by
 have:=h j o a b c
 rw [List.getElem?_append_left (zL this)]; exact this
theorem K2.setd (h:K2 d r S S'):K2 d r S (S'.set d o):=fun j p a b c=>by
 rw [List.getElem?_set_ne (Ne.symm a)]; exact h j p a b c
theorem K2.setr (h:K2 d r S S'):K2 d r S (S'.set r o):=fun j p a b c=>by
 rw [List.getElem?_set_ne (Ne.symm b)]; exact h j p a b c
end
def zcl (no:Nat):List UInt8:=if no=2 then rootB else zK 256
theorem zkk (no:Nat):(zcl no).length=256:=by unfold zcl; split <;> rfl
def Fin2 (vs:List V) (B no:Nat):Prop:=vs.length=B∧vs[0]? = some (blkV (zK 256)) ∧ ∀ i v,vs[i]? = some v→IsB v (if 2 ≤ i∧i < no then zcl i else zK 256)
theorem Fin2.next {vs:List V} {B no:Nat} {u:V} (h:Fin2 vs B no) (h2:2 ≤ no) (hu:IsB u (zcl no)):Fin2 (vs.set no u) B (no + 1):=by
 obtain ⟨h1,h3,h4⟩:=h
 refine ⟨by rw [List.length_set]; exact h1,by rw [List.getElem?_set_ne (by omega)]; exact h3,?_⟩
 intro i v hv
 by_cases hi:i=no
 ·subst hi
  have hlt:i < vs.length:=by have:=(List.getElem?_eq_some_iff.1 hv).1; rwa [List.length_set] at this
  rw [List.getElem?_set_self hlt] at hv
  cases hv
  rw [if_pos ⟨h2,by omega⟩]
  exact hu
 ·rw [List.getElem?_set_ne (Ne.symm hi)] at hv
  have:=h4 i v hv
  by_cases hc:2 ≤ i∧i < no
  ·rw [if_pos hc] at this; rw [if_pos ⟨hc.1,by omega⟩]; exact this
  ·rw [if_neg hc] at this; rw [if_neg (by omega)]; exact this
theorem Fin2.at {vs:List V} {B no:Nat} (h:Fin2 vs B no) (hn:no < vs.length):IsB vs[no] (zK 256):=by
 have:=h.2.2 no vs[no] (List.getElem?_eq_getElem hn)
 rw [if_neg (by omega)] at this
 exact this
theorem bd61:wX Tryz.prog 70 [(0,.d (.int .i64 2)),(1,.d (.int .i64 1)),(3,.d (.int .i64 1))]=some (.agg [.d (.int .i64 2),.d (.int .i64 1),.d (.int .i64 0),.d (.int .i64 1),.d (.int .i64 0),.d (.int .i64 0),.d (.int .i64 0),.d (.int .i64 0),.d (.int .i64 0),.d (.int .i64 0),.d (.int .i64 0)]):=by kernel_rfl
theorem zir:rootB.length=256:=rfl
section
variable {ops:Array Oper} {dst:Option Tmp} {k:List Oper} {T:List V} {S:zA} {F:Dfs} {Q:Post}
theorem zb3:WpR cfg ops dst k T S F Q (some (.enter 136 [blkV (zK 256),.d (.int .i64 0),.agg [.d (.int .i64 2),.d (.int .i64 1),.d (.int .i64 0),.d (.int .i64 1),.d (.int .i64 0),.d (.int .i64 0),.d (.int .i64 0),.d (.int .i64 0),.d (.int .i64 0),.d (.int .i64 0),.d (.int .i64 0)]]))=WpL cfg ops k (putT T dst (.tup [.d (blkD rootB),.d (.int .i64 0)])) S F Q :=
 kT (ds:=[blkD (zK 256),.int .i64 0,zwy]) rfl (by simp only [allO,ztj]; rfl) (by kernel_rfl) zmx
theorem z5e:WpR cfg ops dst k T S F Q (some (.enter 77 []))=WpL cfg ops k (putT T dst (.d (.int .i64 1))) S F Q :=
 qI (ds:=[]) rfl zfw
theorem zdq {l:Lay} (hb:InB l.blocks) (hi:InB l.inodes) (hm:MayL l):WpR cfg ops dst k T S F Q (some (.enter 108 [.d (encLay l)]))=WpL cfg ops k (putT T dst (.d (.int .i64 (2 + l.inodes.tdiv 8)))) S F Q :=
 qI (ds:=[encLay l]) rfl (zav l hb hi hm)
theorem zg5 {S2:zA} {K:List Nat→List (Nat × Nat)→List V→zA→Prop} {rd:List Nat} {cs:List (Nat × Nat)} {i:Nat} {f:FuncId} {args:List V} {v:V} (hs:cfg.shared f=true) (he:EvS cfg f args S (fun o S'=>S'=S2∧o = .ret v)) :
  WpE cfg ops F Q K rd cs i dst T S (some (.enter f args))=(z3n ops rd i 3∧K rd (cs ++ [(i,3)]) (putT T dst v) S2):=by
 obtain ⟨n,o,S',hn,rfl,rfl⟩:=he
 have hc:jO cfg (run cfg n) f args S=some (.ret v,S',3):=by
  unfold jO
  simp only [hs,if_true,hn,Option.map_some]
 apply propext
 constructor
 ·rintro ⟨m,v',S2,c,h1,h2,h3⟩
  have:=wN h1 hc
  simp only [Prod.mk.injEq] at this
  obtain ⟨h4,rfl,rfl⟩:=this
  cases h4
  exact ⟨h2,h3⟩
 ·exact fun h=>⟨n,_,_,_,hc,h.1,h.2⟩
end
theorem q1t (l:Lay) (B K:Nat) (hb:InB l.blocks) (hi:InB l.inodes) (hm:MayL l) (hK:2 + l.inodes.tdiv 8=((2 + K:Nat):Int)) (hK1:K ≤ 16) (hB:2 + K < B) (S0:zA) (a d r:Nat) (hd:d < a) (hr:r < a) (h0:S0[a]? = some (.row [.d (encLay l)] 32)) (lit:Bool) (f0:Int) (R:Post) (x5:V) :
 ∀ (k no:Nat) (S:zA) (vs:List V) (f w:Int) (g1 g2 g4 g6 g8 g9 gK gF gD gB gC gA gE gL gM gG gJ gN gI gH gO gP gT gQ gU gR gS gV gW gX gY gZ gh gj gk gn gr gz hH hU hY hZ xA xB xC xD xE xF xG xH xI xJ xK xL xM xN xO xP xQ xR:V),2 + K - no=k→2 ≤ no→no ≤ 2 + K→K2 d r S0 S→DskAt S d r vs f lit false w 0→w=(no:Int) - 2→Fin2 vs B no→(lit=true→f + w=f0)→(0 ≤ f∧InB f) →
 (∀ (S:zA) (vs:List V) (f w:Int) (g1 g2 g4 g6 g8 g9 gK gF gD gB gC gA gE gL gM gG gJ gN gI gH gO gP gT gQ gU gR gS gV gW gX gY gZ gh gj gk gn gr gz hH hU hY hZ xA xB xC xD xE xF xG xH xI xJ xK xL xM xN xO xP xQ xR:V),K2 d r S0 S→DskAt S d r vs f lit false w 0→w=(K:Int)→Fin2 vs B (2 + K)→(lit=true→f + w=f0)→(0 ≤ f∧InB f)→R (.exit 0) ((.ref d 0 0)::g1::g2::(.ref a 0 0)::g4::x5::g6::(.d (.int .i64 ((2 + K:Nat):Int)))::g8::g9::gK::gF::gD::gB::gC::gA::gE::gL::gM::gG::gJ::gN::gI::gH::gO::gP::gT::gQ::gU::gR::gS::gV::gW::gX::gY::gZ::gh::gj::gk::gn::gr::gz::hH::hU::hY::hZ::xA::xB::xC::xD::xE::xF::xG::xH::xI::xJ::xK::xL::xM::xN::xO::xP::xQ::xR::[]) S []) →
 (∀ (S:zA) (vs:List V) (w:Int) (T:List V),lit=true→f0 < K→K2 d r S0 S→DskAt S d r vs 0 true true w 0→vs.length=B→vs[0]? = some (blkV (zK 256))→T.getD 4 (.tup []) = .d (.int .i64 12)→R .ret T S []) →
 Wp cfg (.loop (lpOf (Tryz.f101.body.getD .skip) 0)) ((.ref d 0 0)::g1::g2::(.ref a 0 0)::g4::x5::g6::(.d (.int .i64 (no:Int)))::g8::g9::gK::gF::gD::gB::gC::gA::gE::gL::gM::gG::gJ::gN::gI::gH::gO::gP::gT::gQ::gU::gR::gS::gV::gW::gX::gY::gZ::gh::gj::gk::gn::gr::gz::hH::hU::hY::hZ::xA::xB::xC::xD::xE::xF::xG::xH::xI::xJ::xK::xL::xM::xN::xO::xP::xQ::xR::[]) S [] R:=by
 intro k
 induction k with
 | zero =>
  intro no S vs f w g1 g2 g4 g6 g8 g9 gK gF gD gB gC gA gE gL gM gG gJ gN gI gH gO gP gT gQ gU gR gS gV gW gX gY gZ gh gj gk gn gr gz hH hU hY hZ xA xB xC xD xE xF xG xH xI xJ xK xL xM xN xO xP xQ xR hk h2 hn hK2 hD hw hF hlf hf hE hR
  have hie:no=2 + K:=by omega
  subst hie
  have hcell:rowE S a 0=some (.d (encLay l)):=zD (hK2 _ _ (by omega) (by omega) h0)
  have hdt:=fun {ops dst k T S F Q}=>zdq (ops:=ops) (dst:=dst) (k:=k) (T:=T) (S:=S) (F:=F) (Q:=Q) hb hi hm
  rw [hK] at hdt
  rw [zO]
  refine zN ?_
  conv=>arg 2; whnf
  simp (maxSteps:=1000000) (disch:=first|assumption|omega|rfl) only [↓gp,gc,Nat.reduceAdd,hcell,hdt,z93]
  exact hE S vs f w _ _ _ _ _ _ _ _ _ _ _ _ _ _ _ _ _ _ _ _ _ _ _ _ _ _ _ _ _ _ _ _ _ _ _ _ _ _ _ _ _ _ _ _ _ _ _ _ _ _ _ _ _ _ _ _ _ _ _ _ hK2 hD (by omega) hF hlf hf
 | succ k ih =>
  intro no S vs f w g1 g2 g4 g6 g8 g9 gK gF gD gB gC gA gE gL gM gG gJ gN gI gH gO gP gT gQ gU gR gS gV gW gX gY gZ gh gj gk gn gr gz hH hU hY hZ xA xB xC xD xE xF xG xH xI xJ xK xL xM xN xO xP xQ xR hk h2 hn hK2 hD hw hF hlf hf hE hR
  have hlt:no < 2 + K:=by omega
  have hcell:rowE S a 0=some (.d (encLay l)):=zD (hK2 _ _ (by omega) (by omega) h0)
  have hdt:=fun {ops dst k T S F Q}=>zdq (ops:=ops) (dst:=dst) (k:=k) (T:=T) (S:=S) (F:=F) (Q:=Q) hb hi hm
  rw [hK] at hdt
  have h3:IntKind.i64.wrap ((no:Int) + 1)=((no + 1:Nat):Int):=by rw [wrap64 (by omega)]; omega
  have hvl:no < vs.length:=by have:=hF.1; omega
  have hu0:=hF.at hvl
  have l0:=z256
  have l1:=zir
  rw [zO]
  refine zN ?_
  conv=>arg 2; whnf
  by_cases hn2:no=2
  ·have hB2:zcl no=rootB:=if_pos hn2
   have hnt:((no:Int)=2)=True:=by simp [hn2]
   by_cases hoff:lit=true∧f=0
   ·obtain ⟨rfl,rfl⟩:=hoff
    have hwr:=fun {ops dst k T F Q}=>zF (ops:=ops) (dst:=dst) (l:=k) (T:=T) (F:=F) (Q:=Q) rfl (z53 (S ++ [.row [.d (blkD rootB)] 42]) d r vs w 0 no (.d (blkD rootB)) _ hD.app hvl (wA (b:=rootB)) (by rfl))
    simp (maxSteps:=1000000) (disch:=first|assumption|omega|rfl) only [↓gp,gc,Nat.reduceAdd,hcell,hdt,z93,z42,zf42,z5e,bo77,z77,z30,bd61,zb3,zl2,zan,z9e,z3s,zkb,zQ,hnt,hwr,bo71]
    exact hR _ vs w _ rfl (by have:=hlf rfl; omega) hK2.app.setd.app (hD.app.setd (f':=0) (lit':=true) (off':=true) (w':=w) (q':=0)).app hF.1 hF.2.1 rfl
   ·have hlf0:lit=true→f ≠ 0:=fun e h=>hoff ⟨e,h⟩
    have hwr:=fun {ops dst k T F Q}=>zF (ops:=ops) (dst:=dst) (l:=k) (T:=T) (F:=F) (Q:=Q) rfl (z4j (S ++ [.row [.d (blkD rootB)] 42]) d r vs f w 0 lit no (.d (blkD rootB)) vs[no] _ _ hD.app hvl (wA (b:=rootB)) (by rfl) rfl hu0 l0 (by omega) hf hlf0)
    simp (maxSteps:=1000000) (disch:=first|assumption|omega|rfl) only [↓gp,gc,Nat.reduceAdd,hcell,hdt,z93,z42,zf42,z5e,bo77,z77,z30,bd61,zb3,zl2,zan,z9e,z3s,zkb,zQ,hnt,hwr,bo71,h3]
    refine ih (no + 1) _ (vs.set no (.d (blkD rootB))) (if lit=true then f - 1 else f) (w + 1) _ _ _ _ _ _ _ _ _ _ _ _ _ _ _ _ _ _ _ _ _ _ _ _ _ _ _ _ _ _ _ _ _ _ _ _ _ _ _ _ _ _ _ _ _ _ _ _ _ _ _ _ _ _ _ _ _ _ _ _ (by omega) (by omega) (by omega) hK2.app.setd.setr.app (hD.app.setd (f':=if lit=true then f - 1 else f) (lit':=lit) (off':=false) (w':=w + 1) (q':=0)).setr.app (by omega) (hF.next h2 (by rw [hB2]; exact wA)) ?_ ?_ hE hR
    ·intro e; rw [if_pos e]; have:=hlf e; omega
    ·obtain ⟨q1,q2,q3⟩:=hf
     cases lit
     ·exact ⟨q1,q2,q3⟩
     ·have:=hlf0 rfl; exact ⟨by simp only [if_true]; omega,by simp only [InB,if_true]; omega⟩
  ·have hB2:zcl no=zK 256:=if_neg hn2
   have hn3 : ¬ (no:Int)=2:=by omega
   have hde : ∀ i:Decidable ((no:Int)=2),@decide ((no:Int)=2) i=false:=fun i=>decide_eq_false hn3
   by_cases hoff:lit=true∧f=0
   ·obtain ⟨rfl,rfl⟩:=hoff
    have hwr:=fun {ops dst k T F Q}=>zF (ops:=ops) (dst:=dst) (l:=k) (T:=T) (F:=F) (Q:=Q) rfl (z53 (S ++ [.row [blkV (zK 256)] 42]) d r vs w 0 no (blkV (zK 256)) _ hD.app hvl (isB_v (b:=zK 256)) (by rfl))
    simp (maxSteps:=1000000) (disch:=first|assumption|omega|rfl) only [↓gp,gc,Nat.reduceAdd,hcell,hdt,z93,z42,zf42,z5e,bo77,z77,z30,bd61,zb3,zl2,zan,z9e,z3s,zkb,zQ,hde,hwr,bo71]
    exact hR _ vs w _ rfl (by have:=hlf rfl; omega) hK2.app.setd.app (hD.app.setd (f':=0) (lit':=true) (off':=true) (w':=w) (q':=0)).app hF.1 hF.2.1 rfl
   ·have hlf0:lit=true→f ≠ 0:=fun e h=>hoff ⟨e,h⟩
    have hwr:=fun {ops dst k T F Q}=>zF (ops:=ops) (dst:=dst) (l:=k) (T:=T) (F:=F) (Q:=Q) rfl (z4j (S ++ [.row [blkV (zK 256)] 42]) d r vs f w 0 lit no (blkV (zK 256)) vs[no] _ _ hD.app hvl (isB_v (b:=zK 256)) (by rfl) rfl hu0 l0 (by omega) hf hlf0)
    simp (maxSteps:=1000000) (disch:=first|assumption|omega|rfl) only [↓gp,gc,Nat.reduceAdd,hcell,hdt,z93,z42,zf42,z5e,bo77,z77,z30,bd61,zb3,zl2,zan,z9e,z3s,zkb,zQ,hde,hwr,bo71,h3]
    refine ih (no + 1) _ (vs.set no (blkV (zK 256))) (if lit=true then f - 1 else f) (w + 1) _ _ _ _ _ _ _ _ _ _ _ _ _ _ _ _ _ _ _ _ _ _ _ _ _ _ _ _ _ _ _ _ _ _ _ _ _ _ _ _ _ _ _ _ _ _ _ _ _ _ _ _ _ _ _ _ _ _ _ _ (by omega) (by omega) (by omega) hK2.app.setd.setr.app (hD.app.setd (f':=if lit=true then f - 1 else f) (lit':=lit) (off':=false) (w':=w + 1) (q':=0)).setr.app (by omega) (hF.next h2 (by rw [hB2]; exact isB_v)) ?_ ?_ hE hR
    ·intro e; rw [if_pos e]; have:=hlf e; omega
    ·obtain ⟨q1,q2,q3⟩:=hf
     cases lit
     ·exact ⟨q1,q2,q3⟩
     ·have:=hlf0 rfl; exact ⟨by simp only [if_true]; omega,by simp only [InB,if_true]; omega⟩
end Go.Proofs.YtobgdmgldagjkaaGreat
end
