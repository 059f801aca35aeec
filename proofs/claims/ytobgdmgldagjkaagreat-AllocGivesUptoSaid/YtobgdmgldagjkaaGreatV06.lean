/- Facts on the program's types, and its functions' bodies: written by mkty.py. -/
import Derived.Test.YtobgdmgldagjkaaGreatProg
import Derived.Test.YtobgdmgldagjkaaGreatV05
set_option linter.unusedVariables false
set_option linter.unusedSimpArgs false
set_option maxRecDepth 100000
set_option maxHeartbeats 4000000
set_option linter.defProp false
section
namespace Go.Proofs.YtobgdmgldagjkaaGreat
open Go.Vm
def mask:Nat:=189675528937278537056026126315471541604245297724416
noncomputable def cfg:Cfg:={ P:=Tryz.prog,mixed:=by kernel_rfl,shared:=fun f=>Nat.testBit mask f,ext:=fun f=>Option.none,catch_:=fun f=>Option.none }
theorem hP:cfg.P=Tryz.prog:=rfl
def encB (l:List UInt8):D:= .sl (l.map fun b=>.int .u8 b.toNat)
theorem zov (a:Int):z0x Tryz.prog 3 (.int .i64 a)=true:=by kernel_rfl
theorem z8h (a:Int):qE Tryz.prog 3 (.d (.int .i64 a))=true:=by kernel_rfl
theorem ff3 {a:Int}:qE Tryz.prog 3 (.d (.int .i64 a))=true:=by kernel_rfl
theorem ld3 {S:zA} {a:Int}:kM Tryz.prog S 3 (.d (.ptr (.int .i64 a)))=some (.d (.int .i64 a)):=by kernel_rfl
theorem ff47 {a:Int}:qE Tryz.prog 47 (.d (.int .i64 a))=true:=by kernel_rfl
theorem q12 (a:Int):z0x Tryz.prog 5 (.int .u8 a)=true:=by kernel_rfl
theorem zri (a:Int):qE Tryz.prog 5 (.d (.int .u8 a))=true:=by kernel_rfl
theorem ld5 {S:zA} {a:Int}:kM Tryz.prog S 5 (.d (.ptr (.int .u8 a)))=some (.d (.int .u8 a)):=by kernel_rfl
theorem q0m (a:Bool):z0x Tryz.prog 4 (.bool a)=true:=by kernel_rfl
theorem ff4 {a:Bool}:qE Tryz.prog 4 (.d (.bool a))=true:=by kernel_rfl
theorem ld4 {S:zA} {a:Bool}:kM Tryz.prog S 4 (.d (.ptr (.bool a)))=some (.d (.bool a)):=by kernel_rfl
structure Lay where
 blocks:Int
 inodes:Int
 merge:Int
 deriving DecidableEq
def encLay (a:Lay):D:= .agg [.int .i64 a.blocks,.int .i64 a.inodes,.int .u64 a.merge]
theorem z32:zeroV Tryz.prog 32=some (.agg [.d (.int .i64 0),.d (.int .i64 0),.d (.int .u64 0)]):=by kernel_rfl
theorem zf32:qE Tryz.prog 32 (.agg [.d (.int .i64 0),.d (.int .i64 0),.d (.int .u64 0)])=true:=by kernel_rfl
theorem zz32  : zeroV Tryz.prog 32=some (.agg [.d (.int .i64 0),.d (.int .i64 0),.d (.int .u64 0)]):=z32
theorem ff32 {a:Lay}:qE Tryz.prog 32 (.d (encLay a))=true:=by kernel_rfl
theorem q3v {x0 x1 x2:V}:qE Tryz.prog 32 (.agg [x0,x1,x2])=true:=by kernel_rfl
theorem lr32 {a:Lay}:qT Tryz.prog 32 0 (some (.d (encLay a)))=some (.d (encLay a)):=by kernel_rfl
theorem q2t {x0 x1 x2:V}:qT Tryz.prog 32 0 (some (.agg [x0,x1,x2]))=some (.agg [x0,x1,x2]):=by kernel_rfl
theorem q1g {a:Lay} {x0 x1 x2:V}:qY Tryz.prog 32 0 (.d (encLay a)) (.agg [x0,x1,x2])=some (.d (encLay a)):=by kernel_rfl
theorem q43 {x0 x1 x2 y0 y1 y2:V}:qY Tryz.prog 32 0 (.agg [x0,x1,x2]) (.agg [y0,y1,y2])=some (.agg [x0,x1,x2]):=by kernel_rfl
theorem z10 {a:Lay}:qT Tryz.prog 3 0 (some (.d (encLay a)))=some ((.d (.int .i64 a.blocks))):=by kernel_rfl
theorem z04 {j x y:Nat}:zS Tryz.prog 32 0 (.ref j x y)=some (.ref j x (y + 0)):=by kernel_rfl
theorem zjk {a:Lay}:qT Tryz.prog 3 1 (some (.d (encLay a)))=some ((.d (.int .i64 a.inodes))):=by kernel_rfl
theorem za1 {j x y:Nat}:zS Tryz.prog 32 1 (.ref j x y)=some (.ref j x (y + 1)):=by kernel_rfl
theorem zz1 {a:Lay}:qT Tryz.prog 30 2 (some (.d (encLay a)))=some ((.d (.int .u64 a.merge))):=by kernel_rfl
theorem zyg {j x y:Nat}:zS Tryz.prog 32 2 (.ref j x y)=some (.ref j x (y + 2)):=by kernel_rfl
theorem zuc:zOk Tryz.prog 5=true:=by kernel_rfl
theorem q3k:(sz Tryz.prog 5).isSome=true:=by kernel_rfl
theorem zg8 {m:Nat} (h:m ≤ 1000000):room Tryz.prog 5 m=true:=z5z rfl (by decide +kernel) h
theorem ix76 {S:zA} {l:List UInt8} {i:Nat} (h:i < l.length):zK Tryz.prog S 76 (.d (.sl (l.map (fun b:UInt8=>D.int .u8 b.toNat)))) (.d (.int .i64 i))=some (.d (.ptr (.int .u8 (l[i].toNat:Int)))):=zgm Tryz.underlying76 (fun a=>q12 _) h
theorem znc {S:zA} {xs:List D}:zL Tryz.prog S .len [76] [.d (.sl xs)]=some (.val (.d (.int .i64 xs.length)) S 0):=zg2 Tryz.underlying76
theorem bs76 {S:zA} {a:Int}:bs1 Tryz.prog S 76 (.d (.int .u8 a))=some (.val (.ts [.int .u8 a]) S 0):=by kernel_rfl
theorem ap76 {S:zA} {v:V} {xs:List UInt8} (a:UInt8) (ho:OwnS S v 5 (xs.map fun x=>.d (.int .u8 x.toNat))) (hl:xs.length < 1000000) : ∃ v' S' c,qM Tryz.prog S 76 76 v (.ts [.int .u8 a.toNat])=some (v',S',c)∧OwnS S' v' 5 ((xs ++ [a]).map fun x=>.d (.int .u8 x.toNat))∧(∀ j o,S[j]? = some o→NotAt v j→S'[j]? = some o∧NotAt v' j)∧S.length ≤ S'.length:=z3j (enc:=fun x:UInt8=>D.int .u8 x.toNat) a Tryz.underlying76 zuc q3k (q12 _) ho (zg8 (by omega))
theorem zpg:zOk Tryz.prog 3=true:=by kernel_rfl
theorem zyd:(sz Tryz.prog 3).isSome=true:=by kernel_rfl
theorem zrp {m:Nat} (h:m ≤ 1000000):room Tryz.prog 3 m=true:=z5z rfl (by decide +kernel) h
theorem ix22 {S:zA} {l:List Int} {i:Nat} (h:i < l.length):zK Tryz.prog S 22 (.d (.sl (l.map (D.int .i64)))) (.d (.int .i64 i))=some (.d (.ptr ((D.int .i64) l[i]))):=zgm Tryz.underlying22 (fun a=>zov a) h
theorem zxm {S:zA} {xs:List D}:zL Tryz.prog S .len [22] [.d (.sl xs)]=some (.val (.d (.int .i64 xs.length)) S 0):=zg2 Tryz.underlying22
theorem bs22 {S:zA} {a:Int}:bs1 Tryz.prog S 22 (.d (.int .i64 a))=some (.val (.ts [.int .i64 a]) S 0):=by kernel_rfl
theorem ap22 {S:zA} {v:V} {xs:List Int} (a:Int) (ho:OwnS S v 3 (xs.map fun x=>.d (D.int .i64 x))) (hl:xs.length < 1000000) : ∃ v' S' c,qM Tryz.prog S 22 22 v (.ts [D.int .i64 a])=some (v',S',c)∧OwnS S' v' 3 ((xs ++ [a]).map fun x=>.d (D.int .i64 x))∧(∀ j o,S[j]? = some o→NotAt v j→S'[j]? = some o∧NotAt v' j)∧S.length ≤ S'.length:=z3j a Tryz.underlying22 zpg zyd (zov a) ho (zrp (by omega))
theorem q13:zOk Tryz.prog 4=true:=by kernel_rfl
theorem zzo:(sz Tryz.prog 4).isSome=true:=by kernel_rfl
theorem zuz {m:Nat} (h:m ≤ 1000000):room Tryz.prog 4 m=true:=z5z rfl (by decide +kernel) h
theorem q2q {S:zA} {l:List Bool} {i:Nat} (h:i < l.length):zK Tryz.prog S 190 (.d (.sl (l.map (D.bool)))) (.d (.int .i64 i))=some (.d (.ptr ((D.bool) l[i]))):=zgm Tryz.underlying190 (fun a=>q0m a) h
theorem zr4 {S:zA} {xs:List D}:zL Tryz.prog S .len [190] [.d (.sl xs)]=some (.val (.d (.int .i64 xs.length)) S 0):=zg2 Tryz.underlying190
theorem znp {S:zA} {i o m:Nat}:zL Tryz.prog S .len [190] [.rs i o m]=some (.val (.d (.int .i64 m)) S 0):=z9z Tryz.underlying190
theorem q2e {S:zA} {a:Bool}:bs1 Tryz.prog S 190 (.d (.bool a))=some (.val (.ts [.bool a]) S 0):=by kernel_rfl
theorem q34 {S:zA} {v:V} {xs:List Bool} (a:Bool) (ho:OwnS S v 4 (xs.map fun x=>.d (D.bool x))) (hl:xs.length < 1000000) : ∃ v' S' c,qM Tryz.prog S 190 190 v (.ts [D.bool a])=some (v',S',c)∧OwnS S' v' 4 ((xs ++ [a]).map fun x=>.d (D.bool x))∧(∀ j o,S[j]? = some o→NotAt v j→S'[j]? = some o∧NotAt v' j)∧S.length ≤ S'.length:=z3j a Tryz.underlying190 q13 zzo (q0m a) ho (zuz (by omega))
theorem q4k {s:List UInt8} {i:Nat} (h:i < s.length):z5b Tryz.prog 9 (.d (.str s)) (.d (.int .i64 i))=some (.d (.int .u8 s[i].toNat)):=zrx Tryz.underlying9 h
theorem q07 {S:zA} {s:List UInt8}:zL Tryz.prog S .len [9] [.d (.str s)]=some (.val (.d (.int .i64 s.length)) S 0):=zvq Tryz.underlying9
theorem zuw:zB Tryz.prog 100=some ⟨Tryz.f100.body.getD .skip,10, #[.tmp 2]⟩:=by
 unfold zB
 rw [Tryz.func100]
 rfl
theorem zwy  : (zB Tryz.prog 100).isSome=true:=by kernel_rfl
theorem zvf:zB Tryz.prog 101=some ⟨Tryz.f101.body.getD .skip,64, #[.tmp 4]⟩:=by
 unfold zB
 rw [Tryz.func101]
 rfl
theorem q1a  : (zB Tryz.prog 101).isSome=true:=by kernel_rfl
theorem zx8:zB Tryz.prog 63=some ⟨Tryz.f63.body.getD .skip,36, #[.tmp 2]⟩:=by
 unfold zB
 rw [Tryz.func63]
 rfl
theorem bo63  : (zB Tryz.prog 63).isSome=true:=by kernel_rfl
theorem zx4:zB Tryz.prog 31=some ⟨Tryz.f31.body.getD .skip,37, #[.tmp 2,.tmp 3]⟩:=by
 unfold zB
 rw [Tryz.func31]
 rfl
theorem bo31  : (zB Tryz.prog 31).isSome=true:=by kernel_rfl
theorem zyc:zB Tryz.prog 95=some ⟨Tryz.f95.body.getD .skip,26, #[.tmp 4]⟩:=by
 unfold zB
 rw [Tryz.func95]
 rfl
theorem bo95  : (zB Tryz.prog 95).isSome=true:=by kernel_rfl
theorem zx7:zB Tryz.prog 73=some ⟨Tryz.f73.body.getD .skip,10, #[.cell 2 32]⟩:=by
 unfold zB
 rw [Tryz.func73]
 rfl
theorem bo73  : (zB Tryz.prog 73).isSome=true:=by kernel_rfl
theorem q0f:zB Tryz.prog 45=some ⟨Tryz.f45.body.getD .skip,9, #[.tmp 2]⟩:=by
 unfold zB
 rw [Tryz.func45]
 rfl
theorem bo45  : (zB Tryz.prog 45).isSome=true:=by kernel_rfl
theorem zwd:zB Tryz.prog 120=some ⟨Tryz.f120.body.getD .skip,44, #[.cell 2 42,.tmp 3]⟩:=by
 unfold zB
 rw [Tryz.func120]
 rfl
theorem zv9  : (zB Tryz.prog 120).isSome=true:=by kernel_rfl
theorem q26:zB Tryz.prog 80=some ⟨Tryz.f80.body.getD .skip,10, #[.tmp 2]⟩:=by
 unfold zB
 rw [Tryz.func80]
 rfl
theorem bo80  : (zB Tryz.prog 80).isSome=true:=by kernel_rfl
theorem bo77  : (zB Tryz.prog 77).isSome=true:=by kernel_rfl
theorem zwo:zB Tryz.prog 108=some ⟨Tryz.f108.body.getD .skip,13, #[.tmp 2]⟩:=by
 unfold zB
 rw [Tryz.func108]
 rfl
theorem z9r  : (zB Tryz.prog 108).isSome=true:=by kernel_rfl
theorem zjb  : (zB Tryz.prog 136).isSome=true:=by kernel_rfl
theorem zrh:zB Tryz.prog 71=some ⟨Tryz.f71.body.getD .skip,46, #[.cell 6 47]⟩:=by
 unfold zB
 rw [Tryz.func71]
 rfl
theorem bo71  : (zB Tryz.prog 71).isSome=true:=by kernel_rfl
theorem zuq:zB Tryz.prog 137=some ⟨Tryz.f137.body.getD .skip,17, #[.cell 2 42]⟩:=by
 unfold zB
 rw [Tryz.func137]
 rfl
theorem ztj  : (zB Tryz.prog 137).isSome=true:=by kernel_rfl
theorem zwk:zB Tryz.prog 138=some ⟨Tryz.f138.body.getD .skip,16, #[.tmp 2]⟩:=by
 unfold zB
 rw [Tryz.func138]
 rfl
theorem zvt  : (zB Tryz.prog 138).isSome=true:=by kernel_rfl
theorem zqz:zB Tryz.prog 78=some ⟨Tryz.f78.body.getD .skip,21, #[.cell 4 42,.tmp 5]⟩:=by
 unfold zB
 rw [Tryz.func78]
 rfl
theorem bo78  : (zB Tryz.prog 78).isSome=true:=by kernel_rfl
theorem zx2:zB Tryz.prog 79=some ⟨Tryz.f79.body.getD .skip,35, #[.cell 2 32,.tmp 3]⟩:=by
 unfold zB
 rw [Tryz.func79]
 rfl
theorem bo79  : (zB Tryz.prog 79).isSome=true:=by kernel_rfl
theorem zzq:zB Tryz.prog 81=some ⟨Tryz.f81.body.getD .skip,9, #[.tmp 2]⟩:=by
 unfold zB
 rw [Tryz.func81]
 rfl
theorem bo81  : (zB Tryz.prog 81).isSome=true:=by kernel_rfl
theorem zxt:zB Tryz.prog 75=some ⟨Tryz.f75.body.getD .skip,29, #[.tmp 2]⟩:=by
 unfold zB
 rw [Tryz.func75]
 rfl
theorem bo75  : (zB Tryz.prog 75).isSome=true:=by kernel_rfl
theorem zsc:zB Tryz.prog 107=some ⟨Tryz.f107.body.getD .skip,39, #[.tmp 6]⟩:=by
 unfold zB
 rw [Tryz.func107]
 rfl
theorem zps  : (zB Tryz.prog 107).isSome=true:=by kernel_rfl
theorem zv2:zB Tryz.prog 145=some ⟨Tryz.f145.body.getD .skip,6, #[.cell 2 42]⟩:=by
 unfold zB
 rw [Tryz.func145]
 rfl
theorem zyx  : (zB Tryz.prog 145).isSome=true:=by kernel_rfl
theorem zus:zB Tryz.prog 146=some ⟨Tryz.f146.body.getD .skip,35, #[.cell 8 42]⟩:=by
 unfold zB
 rw [Tryz.func146]
 rfl
theorem zug  : (zB Tryz.prog 146).isSome=true:=by kernel_rfl
theorem zue:zB Tryz.prog 147=some ⟨Tryz.f147.body.getD .skip,42, #[.tmp 8,.tmp 9]⟩:=by
 unfold zB
 rw [Tryz.func147]
 rfl
theorem q4g  : (zB Tryz.prog 147).isSome=true:=by kernel_rfl
theorem zv3:zB Tryz.prog 148=some ⟨Tryz.f148.body.getD .skip,34, #[.cell 6 42]⟩:=by
 unfold zB
 rw [Tryz.func148]
 rfl
theorem zup  : (zB Tryz.prog 148).isSome=true:=by kernel_rfl
theorem zv6:zB Tryz.prog 149=some ⟨Tryz.f149.body.getD .skip,5, #[.tmp 2]⟩:=by
 unfold zB
 rw [Tryz.func149]
 rfl
theorem zza  : (zB Tryz.prog 149).isSome=true:=by kernel_rfl
theorem zu3:zB Tryz.prog 122=some ⟨Tryz.f122.body.getD .skip,12, #[.tmp 2,.tmp 3]⟩:=by
 unfold zB
 rw [Tryz.func122]
 rfl
theorem ztg  : (zB Tryz.prog 122).isSome=true:=by kernel_rfl
theorem zm0:zB Tryz.prog 111=some ⟨Tryz.f111.body.getD .skip,25, #[.tmp 4]⟩:=by
 unfold zB
 rw [Tryz.func111]
 rfl
theorem zis  : (zB Tryz.prog 111).isSome=true:=by kernel_rfl
theorem zut:zB Tryz.prog 140=some ⟨Tryz.f140.body.getD .skip,34, #[.cell 6 42]⟩:=by
 unfold zB
 rw [Tryz.func140]
 rfl
theorem zso  : (zB Tryz.prog 140).isSome=true:=by kernel_rfl
theorem zs1:zB Tryz.prog 118=some ⟨Tryz.f118.body.getD .skip,39, #[.tmp 6,.tmp 7]⟩:=by
 unfold zB
 rw [Tryz.func118]
 rfl
theorem q0d  : (zB Tryz.prog 118).isSome=true:=by kernel_rfl
theorem zsg:zB Tryz.prog 119=some ⟨Tryz.f119.body.getD .skip,35, #[.tmp 6]⟩:=by
 unfold zB
 rw [Tryz.func119]
 rfl
theorem zxf  : (zB Tryz.prog 119).isSome=true:=by kernel_rfl
theorem zt6:zB Tryz.prog 133=some ⟨Tryz.f133.body.getD .skip,42, #[.tmp 2]⟩:=by
 unfold zB
 rw [Tryz.func133]
 rfl
theorem q20  : (zB Tryz.prog 133).isSome=true:=by kernel_rfl
theorem zu1:zB Tryz.prog 109=some ⟨Tryz.f109.body.getD .skip,6, #[.tmp 2]⟩:=by
 unfold zB
 rw [Tryz.func109]
 rfl
theorem zjp  : (zB Tryz.prog 109).isSome=true:=by kernel_rfl
theorem zwh:zB Tryz.prog 144=some ⟨Tryz.f144.body.getD .skip,25, #[.tmp 6]⟩:=by
 unfold zB
 rw [Tryz.func144]
 rfl
theorem zm1  : (zB Tryz.prog 144).isSome=true:=by kernel_rfl
theorem zru:zB Tryz.prog 161=some ⟨Tryz.f161.body.getD .skip,20, #[.tmp 4]⟩:=by
 unfold zB
 rw [Tryz.func161]
 rfl
theorem zzd  : (zB Tryz.prog 161).isSome=true:=by kernel_rfl
theorem zng:zB Tryz.prog 116=some ⟨Tryz.f116.body.getD .skip,17, #[.tmp 2,.tmp 3,.tmp 4]⟩:=by
 unfold zB
 rw [Tryz.func116]
 rfl
theorem zhk  : (zB Tryz.prog 116).isSome=true:=by kernel_rfl
theorem zyn:zB Tryz.prog 25=some ⟨Tryz.f25.body.getD .skip,9, #[.tmp 2]⟩:=by
 unfold zB
 rw [Tryz.func25]
 rfl
theorem bo25  : (zB Tryz.prog 25).isSome=true:=by kernel_rfl
theorem q1e:zB Tryz.prog 27=some ⟨Tryz.f27.body.getD .skip,9, #[.cell 2 55]⟩:=by
 unfold zB
 rw [Tryz.func27]
 rfl
theorem bo27  : (zB Tryz.prog 27).isSome=true:=by kernel_rfl
theorem zkk:zB Tryz.prog 50=some ⟨Tryz.f50.body.getD .skip,31, #[.tmp 8]⟩:=by
 unfold zB
 rw [Tryz.func50]
 rfl
theorem bo50  : (zB Tryz.prog 50).isSome=true:=by kernel_rfl
theorem zxk:zB Tryz.prog 66=some ⟨Tryz.f66.body.getD .skip,16, #[.tmp 8]⟩:=by
 unfold zB
 rw [Tryz.func66]
 rfl
theorem bo66  : (zB Tryz.prog 66).isSome=true:=by kernel_rfl
theorem q1w:zB Tryz.prog 16=some ⟨Tryz.f16.body.getD .skip,10, #[.tmp 2]⟩:=by
 unfold zB
 rw [Tryz.func16]
 rfl
theorem bo16  : (zB Tryz.prog 16).isSome=true:=by kernel_rfl
theorem zz3:zB Tryz.prog 17=some ⟨Tryz.f17.body.getD .skip,40, #[.tmp 0]⟩:=by
 unfold zB
 rw [Tryz.func17]
 rfl
theorem bo17  : (zB Tryz.prog 17).isSome=true:=by kernel_rfl
theorem zrc:zB Tryz.prog 19=some ⟨Tryz.f19.body.getD .skip,57, #[.tmp 6,.tmp 7]⟩:=by
 unfold zB
 rw [Tryz.func19]
 rfl
theorem bo19  : (zB Tryz.prog 19).isSome=true:=by kernel_rfl
theorem zzs:zB Tryz.prog 43=some ⟨Tryz.f43.body.getD .skip,9, #[.tmp 2,.tmp 3]⟩:=by
 unfold zB
 rw [Tryz.func43]
 rfl
theorem bo43  : (zB Tryz.prog 43).isSome=true:=by kernel_rfl
theorem zrm:zB Tryz.prog 23=some ⟨Tryz.f23.body.getD .skip,48, #[.tmp 6]⟩:=by
 unfold zB
 rw [Tryz.func23]
 rfl
theorem bo23  : (zB Tryz.prog 23).isSome=true:=by kernel_rfl
theorem q00:zB Tryz.prog 21=some ⟨Tryz.f21.body.getD .skip,8, #[.tmp 2]⟩:=by
 unfold zB
 rw [Tryz.func21]
 rfl
theorem bo21  : (zB Tryz.prog 21).isSome=true:=by kernel_rfl
theorem zzy:zB Tryz.prog 64=some ⟨Tryz.f64.body.getD .skip,8, #[.tmp 2]⟩:=by
 unfold zB
 rw [Tryz.func64]
 rfl
theorem bo64  : (zB Tryz.prog 64).isSome=true:=by kernel_rfl
theorem q05:zB Tryz.prog 44=some ⟨Tryz.f44.body.getD .skip,45, #[.tmp 4]⟩:=by
 unfold zB
 rw [Tryz.func44]
 rfl
theorem bo44  : (zB Tryz.prog 44).isSome=true:=by kernel_rfl
theorem zzm:zB Tryz.prog 24=some ⟨Tryz.f24.body.getD .skip,9, #[.tmp 2]⟩:=by
 unfold zB
 rw [Tryz.func24]
 rfl
theorem bo24  : (zB Tryz.prog 24).isSome=true:=by kernel_rfl
theorem zxo:zB Tryz.prog 32=some ⟨Tryz.f32.body.getD .skip,9, #[.tmp 2]⟩:=by
 unfold zB
 rw [Tryz.func32]
 rfl
theorem bo32  : (zB Tryz.prog 32).isSome=true:=by kernel_rfl
theorem zz7:zB Tryz.prog 18=some ⟨Tryz.f18.body.getD .skip,12, #[.tmp 2]⟩:=by
 unfold zB
 rw [Tryz.func18]
 rfl
theorem bo18  : (zB Tryz.prog 18).isSome=true:=by kernel_rfl
theorem zxe:zB Tryz.prog 53=some ⟨Tryz.f53.body.getD .skip,22, #[.tmp 2,.tmp 3]⟩:=by
 unfold zB
 rw [Tryz.func53]
 rfl
theorem bo53  : (zB Tryz.prog 53).isSome=true:=by kernel_rfl
theorem zyi:zB Tryz.prog 33=some ⟨Tryz.f33.body.getD .skip,30, #[.cell 4 70]⟩:=by
 unfold zB
 rw [Tryz.func33]
 rfl
theorem bo33  : (zB Tryz.prog 33).isSome=true:=by kernel_rfl
theorem q0l:zB Tryz.prog 49=some ⟨Tryz.f49.body.getD .skip,14, #[.cell 4 42]⟩:=by
 unfold zB
 rw [Tryz.func49]
 rfl
theorem bo49  : (zB Tryz.prog 49).isSome=true:=by kernel_rfl
theorem q1z:zB Tryz.prog 98=some ⟨Tryz.f98.body.getD .skip,20, #[.tmp 2]⟩:=by
 unfold zB
 rw [Tryz.func98]
 rfl
theorem bo98  : (zB Tryz.prog 98).isSome=true:=by kernel_rfl
theorem zvn:zB Tryz.prog 155=some ⟨Tryz.f155.body.getD .skip,35, #[.tmp 4]⟩:=by
 unfold zB
 rw [Tryz.func155]
 rfl
theorem zud  : (zB Tryz.prog 155).isSome=true:=by kernel_rfl
theorem zz4:zB Tryz.prog 72=some ⟨Tryz.f72.body.getD .skip,8, #[.cell 4 55]⟩:=by
 unfold zB
 rw [Tryz.func72]
 rfl
theorem bo72  : (zB Tryz.prog 72).isSome=true:=by kernel_rfl
theorem zyf:zB Tryz.prog 74=some ⟨Tryz.f74.body.getD .skip,42, #[.cell 4 42,.tmp 5]⟩:=by
 unfold zB
 rw [Tryz.func74]
 rfl
theorem bo74  : (zB Tryz.prog 74).isSome=true:=by kernel_rfl
theorem zrr:zB Tryz.prog 97=some ⟨Tryz.f97.body.getD .skip,67, #[.tmp 8,.tmp 9]⟩:=by
 unfold zB
 rw [Tryz.func97]
 rfl
theorem bo97  : (zB Tryz.prog 97).isSome=true:=by kernel_rfl
theorem zxq:zB Tryz.prog 37=some ⟨Tryz.f37.body.getD .skip,10, #[.tmp 2]⟩:=by
 unfold zB
 rw [Tryz.func37]
 rfl
theorem bo37  : (zB Tryz.prog 37).isSome=true:=by kernel_rfl
theorem q0u:zB Tryz.prog 65=some ⟨Tryz.f65.body.getD .skip,26, #[.tmp 8]⟩:=by
 unfold zB
 rw [Tryz.func65]
 rfl
theorem bo65  : (zB Tryz.prog 65).isSome=true:=by kernel_rfl
theorem q0a:zB Tryz.prog 91=some ⟨Tryz.f91.body.getD .skip,11, #[.tmp 2,.tmp 3]⟩:=by
 unfold zB
 rw [Tryz.func91]
 rfl
theorem bo91  : (zB Tryz.prog 91).isSome=true:=by kernel_rfl
theorem zxl:zB Tryz.prog 28=some ⟨Tryz.f28.body.getD .skip,27, #[.tmp 4]⟩:=by
 unfold zB
 rw [Tryz.func28]
 rfl
theorem bo28  : (zB Tryz.prog 28).isSome=true:=by kernel_rfl
theorem zxh:zB Tryz.prog 68=some ⟨Tryz.f68.body.getD .skip,6, #[.tmp 3]⟩:=by
 unfold zB
 rw [Tryz.func68]
 rfl
theorem bo68  : (zB Tryz.prog 68).isSome=true:=by kernel_rfl
theorem zu0:zB Tryz.prog 105=some ⟨Tryz.f105.body.getD .skip,6, #[.tmp 3]⟩:=by
 unfold zB
 rw [Tryz.func105]
 rfl
theorem q3o  : (zB Tryz.prog 105).isSome=true:=by kernel_rfl
theorem q1x:zB Tryz.prog 26=some ⟨Tryz.f26.body.getD .skip,60, #[.tmp 4]⟩:=by
 unfold zB
 rw [Tryz.func26]
 rfl
theorem bo26  : (zB Tryz.prog 26).isSome=true:=by kernel_rfl
theorem zxv:zB Tryz.prog 96=some ⟨Tryz.f96.body.getD .skip,19, #[.tmp 4]⟩:=by
 unfold zB
 rw [Tryz.func96]
 rfl
theorem bo96  : (zB Tryz.prog 96).isSome=true:=by kernel_rfl
theorem ztk:zB Tryz.prog 115=some ⟨Tryz.f115.body.getD .skip,27, #[.cell 4 42]⟩:=by
 unfold zB
 rw [Tryz.func115]
 rfl
theorem ztx  : (zB Tryz.prog 115).isSome=true:=by kernel_rfl
theorem zsu:zB Tryz.prog 113=some ⟨Tryz.f113.body.getD .skip,19, #[.cell 3 42]⟩:=by
 unfold zB
 rw [Tryz.func113]
 rfl
theorem q2k  : (zB Tryz.prog 113).isSome=true:=by kernel_rfl
theorem zku:zB Tryz.prog 114=some ⟨Tryz.f114.body.getD .skip,39, #[.tmp 4]⟩:=by
 unfold zB
 rw [Tryz.func114]
 rfl
theorem zpk  : (zB Tryz.prog 114).isSome=true:=by kernel_rfl
theorem zvx:zB Tryz.prog 134=some ⟨Tryz.f134.body.getD .skip,25, #[.tmp 2]⟩:=by
 unfold zB
 rw [Tryz.func134]
 rfl
theorem z9h  : (zB Tryz.prog 134).isSome=true:=by kernel_rfl
theorem zs7:zB Tryz.prog 135=some ⟨Tryz.f135.body.getD .skip,72, #[.tmp 4,.tmp 5]⟩:=by
 unfold zB
 rw [Tryz.func135]
 rfl
theorem znl  : (zB Tryz.prog 135).isSome=true:=by kernel_rfl
theorem zwf:zB Tryz.prog 130=some ⟨Tryz.f130.body.getD .skip,6, #[.tmp 4]⟩:=by
 unfold zB
 rw [Tryz.func130]
 rfl
theorem q3t  : (zB Tryz.prog 130).isSome=true:=by kernel_rfl
theorem zs9:zB Tryz.prog 158=some ⟨Tryz.f158.body.getD .skip,38, #[.tmp 2]⟩:=by
 unfold zB
 rw [Tryz.func158]
 rfl
theorem q1t  : (zB Tryz.prog 158).isSome=true:=by kernel_rfl
theorem zv1:zB Tryz.prog 166=some ⟨Tryz.f166.body.getD .skip,24, #[.tmp 4]⟩:=by
 unfold zB
 rw [Tryz.func166]
 rfl
theorem zxz  : (zB Tryz.prog 166).isSome=true:=by kernel_rfl
theorem zun:zB Tryz.prog 141=some ⟨Tryz.f141.body.getD .skip,59, #[.tmp 4]⟩:=by
 unfold zB
 rw [Tryz.func141]
 rfl
theorem zyb  : (zB Tryz.prog 141).isSome=true:=by kernel_rfl
theorem zw6:zB Tryz.prog 159=some ⟨Tryz.f159.body.getD .skip,21, #[.tmp 2]⟩:=by
 unfold zB
 rw [Tryz.func159]
 rfl
theorem q14  : (zB Tryz.prog 159).isSome=true:=by kernel_rfl
theorem zw7:zB Tryz.prog 160=some ⟨Tryz.f160.body.getD .skip,62, #[.tmp 6]⟩:=by
 unfold zB
 rw [Tryz.func160]
 rfl
theorem q25  : (zB Tryz.prog 160).isSome=true:=by kernel_rfl
theorem zwb:zB Tryz.prog 167=some ⟨Tryz.f167.body.getD .skip,50, #[.tmp 4]⟩:=by
 unfold zB
 rw [Tryz.func167]
 rfl
theorem ztr  : (zB Tryz.prog 167).isSome=true:=by kernel_rfl
theorem zxx:zB Tryz.prog 89=some ⟨Tryz.f89.body.getD .skip,21, #[.tmp 4]⟩:=by
 unfold zB
 rw [Tryz.func89]
 rfl
theorem bo89  : (zB Tryz.prog 89).isSome=true:=by kernel_rfl
theorem ztl:zB Tryz.prog 129=some ⟨Tryz.f129.body.getD .skip,9, #[.tmp 3]⟩:=by
 unfold zB
 rw [Tryz.func129]
 rfl
theorem zur  : (zB Tryz.prog 129).isSome=true:=by kernel_rfl
theorem zuj:zB Tryz.prog 128=some ⟨Tryz.f128.body.getD .skip,24, #[.tmp 4]⟩:=by
 unfold zB
 rw [Tryz.func128]
 rfl
theorem q27  : (zB Tryz.prog 128).isSome=true:=by kernel_rfl
theorem zxp:zB Tryz.prog 90=some ⟨Tryz.f90.body.getD .skip,16, #[.cell 2 80]⟩:=by
 unfold zB
 rw [Tryz.func90]
 rfl
theorem bo90  : (zB Tryz.prog 90).isSome=true:=by kernel_rfl
theorem zt4:zB Tryz.prog 110=some ⟨Tryz.f110.body.getD .skip,31, #[.cell 6 42,.tmp 7]⟩:=by
 unfold zB
 rw [Tryz.func110]
 rfl
theorem zyh  : (zB Tryz.prog 110).isSome=true:=by kernel_rfl
theorem zth:zB Tryz.prog 143=some ⟨Tryz.f143.body.getD .skip,8, #[.tmp 3]⟩:=by
 unfold zB
 rw [Tryz.func143]
 rfl
theorem zw4  : (zB Tryz.prog 143).isSome=true:=by kernel_rfl
theorem zsd:zB Tryz.prog 142=some ⟨Tryz.f142.body.getD .skip,33, #[.cell 8 42]⟩:=by
 unfold zB
 rw [Tryz.func142]
 rfl
theorem zxn  : (zB Tryz.prog 142).isSome=true:=by kernel_rfl
theorem zy5:zB Tryz.prog 70=some ⟨Tryz.f70.body.getD .skip,23, #[.cell 6 42,.tmp 7,.tmp 8]⟩:=by
 unfold zB
 rw [Tryz.func70]
 rfl
theorem bo70  : (zB Tryz.prog 70).isSome=true:=by kernel_rfl
theorem zv8:zB Tryz.prog 168=some ⟨Tryz.f168.body.getD .skip,33, #[.tmp 4]⟩:=by
 unfold zB
 rw [Tryz.func168]
 rfl
theorem zs8  : (zB Tryz.prog 168).isSome=true:=by kernel_rfl
theorem zy0:zB Tryz.prog 20=some ⟨Tryz.f20.body.getD .skip,13, #[.cell 2 42]⟩:=by
 unfold zB
 rw [Tryz.func20]
 rfl
theorem bo20  : (zB Tryz.prog 20).isSome=true:=by kernel_rfl
theorem zra:zB Tryz.prog 35=some ⟨Tryz.f35.body.getD .skip,9, #[.tmp 2]⟩:=by
 unfold zB
 rw [Tryz.func35]
 rfl
theorem bo35  : (zB Tryz.prog 35).isSome=true:=by kernel_rfl
theorem zy3:zB Tryz.prog 52=some ⟨Tryz.f52.body.getD .skip,7, #[.tmp 2]⟩:=by
 unfold zB
 rw [Tryz.func52]
 rfl
theorem bo52  : (zB Tryz.prog 52).isSome=true:=by kernel_rfl
theorem zym:zB Tryz.prog 99=some ⟨Tryz.f99.body.getD .skip,37, #[.tmp 4]⟩:=by
 unfold zB
 rw [Tryz.func99]
 rfl
theorem bo99  : (zB Tryz.prog 99).isSome=true:=by kernel_rfl
theorem zzj:zB Tryz.prog 76=some ⟨Tryz.f76.body.getD .skip,23, #[.tmp 4]⟩:=by
 unfold zB
 rw [Tryz.func76]
 rfl
theorem bo76  : (zB Tryz.prog 76).isSome=true:=by kernel_rfl
theorem zul:zB Tryz.prog 106=some ⟨Tryz.f106.body.getD .skip,29, #[.cell 6 78]⟩:=by
 unfold zB
 rw [Tryz.func106]
 rfl
theorem zzk  : (zB Tryz.prog 106).isSome=true:=by kernel_rfl
theorem zwp:zB Tryz.prog 131=some ⟨Tryz.f131.body.getD .skip,8, #[.cell 2 94]⟩:=by
 unfold zB
 rw [Tryz.func131]
 rfl
theorem zv0  : (zB Tryz.prog 131).isSome=true:=by kernel_rfl
theorem q22:zB Tryz.prog 92=some ⟨Tryz.f92.body.getD .skip,37, #[.tmp 2]⟩:=by
 unfold zB
 rw [Tryz.func92]
 rfl
theorem bo92  : (zB Tryz.prog 92).isSome=true:=by kernel_rfl
theorem bo62  : (zB Tryz.prog 62).isSome=true:=by kernel_rfl
theorem q2i:zB Tryz.prog 7=some ⟨Tryz.f7.body.getD .skip,167, #[.tmp 6]⟩:=by
 unfold zB
 rw [Tryz.func7]
 rfl
theorem bo40  : (zB Tryz.prog 40).isSome=true:=by kernel_rfl
theorem q0e:zB Tryz.prog 46=some ⟨Tryz.f46.body.getD .skip,21, #[.tmp 4]⟩:=by
 unfold zB
 rw [Tryz.func46]
 rfl
theorem bo46  : (zB Tryz.prog 46).isSome=true:=by kernel_rfl
theorem zze:zB Tryz.prog 42=some ⟨Tryz.f42.body.getD .skip,9, #[.tmp 2]⟩:=by
 unfold zB
 rw [Tryz.func42]
 rfl
theorem bo42  : (zB Tryz.prog 42).isSome=true:=by kernel_rfl
theorem zzn:zB Tryz.prog 93=some ⟨Tryz.f93.body.getD .skip,35, #[.tmp 6]⟩:=by
 unfold zB
 rw [Tryz.func93]
 rfl
theorem bo93  : (zB Tryz.prog 93).isSome=true:=by kernel_rfl
theorem zt1:zB Tryz.prog 132=some ⟨Tryz.f132.body.getD .skip,31, #[.tmp 2]⟩:=by
 unfold zB
 rw [Tryz.func132]
 rfl
theorem q0t  : (zB Tryz.prog 132).isSome=true:=by kernel_rfl
theorem zx1:zB Tryz.prog 51=some ⟨Tryz.f51.body.getD .skip,33, #[.tmp 4]⟩:=by
 unfold zB
 rw [Tryz.func51]
 rfl
theorem bo51  : (zB Tryz.prog 51).isSome=true:=by kernel_rfl
theorem zxs:zB Tryz.prog 39=some ⟨Tryz.f39.body.getD .skip,26, #[.tmp 4]⟩:=by
 unfold zB
 rw [Tryz.func39]
 rfl
theorem bo39  : (zB Tryz.prog 39).isSome=true:=by kernel_rfl
theorem q04:zB Tryz.prog 94=some ⟨Tryz.f94.body.getD .skip,24, #[.tmp 6]⟩:=by
 unfold zB
 rw [Tryz.func94]
 rfl
theorem bo94  : (zB Tryz.prog 94).isSome=true:=by kernel_rfl
theorem q0c:zB Tryz.prog 48=some ⟨Tryz.f48.body.getD .skip,17, #[.tmp 4]⟩:=by
 unfold zB
 rw [Tryz.func48]
 rfl
theorem bo48  : (zB Tryz.prog 48).isSome=true:=by kernel_rfl
theorem zys:zB Tryz.prog 22=some ⟨Tryz.f22.body.getD .skip,28, #[.tmp 4]⟩:=by
 unfold zB
 rw [Tryz.func22]
 rfl
theorem bo22  : (zB Tryz.prog 22).isSome=true:=by kernel_rfl
theorem zx9:zB Tryz.prog 47=some ⟨Tryz.f47.body.getD .skip,17, #[.cell 6 94]⟩:=by
 unfold zB
 rw [Tryz.func47]
 rfl
theorem bo47  : (zB Tryz.prog 47).isSome=true:=by kernel_rfl
theorem q1u:zB Tryz.prog 69=some ⟨Tryz.f69.body.getD .skip,19, #[.tmp 4]⟩:=by
 unfold zB
 rw [Tryz.func69]
 rfl
theorem bo69  : (zB Tryz.prog 69).isSome=true:=by kernel_rfl
theorem bo67  : (zB Tryz.prog 67).isSome=true:=by kernel_rfl
theorem q2f  : (zB Tryz.prog 117).isSome=true:=by kernel_rfl
theorem q1s  : (zB Tryz.prog 104).isSome=true:=by kernel_rfl
theorem q4j  : (zB Tryz.prog 112).isSome=true:=by kernel_rfl
def ty :=
 And.intro @ff3 <|
 And.intro @ld3 <|
 And.intro @ff47 <|
 And.intro @ld5 <|
 And.intro @ff4 <|
 And.intro @ld4 <|
 And.intro @zz32 <|
 And.intro @ff32 <|
 And.intro @q3v <|
 And.intro @lr32 <|
 And.intro @q2t <|
 And.intro @q1g <|
 And.intro @q43 <|
 And.intro @z10 <|
 And.intro @z04 <|
 And.intro @zjk <|
 And.intro @za1 <|
 And.intro @zz1 <|
 And.intro @zyg <|
 And.intro @bs76 <|
 And.intro @bs22 <|
 And.intro @znp <|
 And.intro @q2e <|
 And.intro @q07 <|
 And.intro @zwy <|
 And.intro @q1a <|
 And.intro @bo63 <|
 And.intro @bo31 <|
 And.intro @bo95 <|
 And.intro @bo73 <|
 And.intro @bo45 <|
 And.intro @zv9 <|
 And.intro @bo80 <|
 And.intro @bo77 <|
 And.intro @z9r <|
 And.intro @zjb <|
 And.intro @bo71 <|
 And.intro @ztj <|
 And.intro @zvt <|
 And.intro @bo78 <|
 And.intro @bo79 <|
 And.intro @bo81 <|
 And.intro @bo75 <|
 And.intro @zps <|
 And.intro @zyx <|
 And.intro @zug <|
 And.intro @q4g <|
 And.intro @zup <|
 And.intro @zza <|
 And.intro @ztg <|
 And.intro @zis <|
 And.intro @zso <|
 And.intro @q0d <|
 And.intro @zxf <|
 And.intro @q20 <|
 And.intro @zjp <|
 And.intro @zm1 <|
 And.intro @zzd <|
 And.intro @zhk <|
 And.intro @bo25 <|
 And.intro @bo27 <|
 And.intro @bo50 <|
 And.intro @bo66 <|
 And.intro @bo16 <|
 And.intro @bo17 <|
 And.intro @bo19 <|
 And.intro @bo43 <|
 And.intro @bo23 <|
 And.intro @bo21 <|
 And.intro @bo64 <|
 And.intro @bo44 <|
 And.intro @bo24 <|
 And.intro @bo32 <|
 And.intro @bo18 <|
 And.intro @bo53 <|
 And.intro @bo33 <|
 And.intro @bo49 <|
 And.intro @bo98 <|
 And.intro @zud <|
 And.intro @bo72 <|
 And.intro @bo97 <|
 And.intro @bo37 <|
 And.intro @bo65 <|
 And.intro @bo91 <|
 And.intro @bo28 <|
 And.intro @bo26 <|
 And.intro @bo96 <|
 And.intro @ztx <|
 And.intro @zpk <|
 And.intro @z9h <|
 And.intro @znl <|
 And.intro @q1t <|
 And.intro @zxz <|
 And.intro @zyb <|
 And.intro @q14 <|
 And.intro @q25 <|
 And.intro @ztr <|
 And.intro @bo89 <|
 And.intro @q27 <|
 And.intro @bo90 <|
 And.intro @zyh <|
 And.intro @zxn <|
 And.intro @bo70 <|
 And.intro @zs8 <|
 And.intro @bo20 <|
 And.intro @bo35 <|
 And.intro @bo52 <|
 And.intro @bo99 <|
 And.intro @bo76 <|
 And.intro @zzk <|
 And.intro @zv0 <|
 And.intro @bo92 <|
 And.intro @bo62 <|
 And.intro @bo40 <|
 And.intro @bo46 <|
 And.intro @bo42 <|
 And.intro @bo93 <|
 And.intro @q0t <|
 And.intro @bo51 <|
 And.intro @bo39 <|
 And.intro @bo94 <|
 And.intro @bo48 <|
 And.intro @bo22 <|
 And.intro @bo47 <|
 And.intro @bo69 <|
 And.intro @bo67 @q1s
def ga :=
 And.intro @vme <| And.intro @vmb <| And.intro @ty <| And.intro hP <| And.intro @zvo <| And.intro @zvh <| And.intro @wrap64 <| And.intro @List.length_map.{0,0} Int.toNat_natCast
def gb :=
 And.intro ga <| And.intro @List.cons_append.{0} <| And.intro @List.nil_append.{0} <| And.intro @Option.map_some.{0,0} <| And.intro @Option.map_none.{0,0} <| And.intro @zlg <| And.intro @zj7 vmg
def uZ (l:List V):List V:=(.tup [])::(.tup [])::(.tup [])::(.tup [])::(.tup [])::(.tup [])::(.tup [])::(.tup [])::(.tup [])::(.tup [])::l
def gc:=And.intro gb @zbv
def gq:=And.intro @vgd <| And.intro @vst @vix
def gp:=And.intro @vmp gq
def gd:=And.intro @vmd <| And.intro @vmk <| And.intro @vmo vmg
theorem zP {i:Decidable True}:@decide True i=true:=decide_eq_true trivial
abbrev InB (n:Int):Prop := -9223372036854775808 ≤ n∧n ≤ 9223372036854775807
theorem nl0:((0:Nat):Int)=0:=rfl
theorem nl1:((1:Nat):Int)=1:=rfl
theorem nl2:((2:Nat):Int)=2:=rfl
theorem nl4:((4:Nat):Int)=4:=rfl
theorem nl8:((8:Nat):Int)=8:=rfl
theorem nl10:((10:Nat):Int)=10:=rfl
theorem nl12:((12:Nat):Int)=12:=rfl
theorem nl16:((16:Nat):Int)=16:=rfl
theorem nl20:((20:Nat):Int)=20:=rfl
theorem zd0:((256:Nat):Int)=256:=rfl
theorem zr7:((2048:Nat):Int)=2048:=rfl
theorem bt42:BT Tryz.prog 42 5 256:=⟨Tryz.underlying42,by kernel_rfl,by kernel_rfl,by kernel_rfl,by kernel_rfl,by decide⟩
theorem z42:zeroV Tryz.prog 42=some (blkV (zT 256)):=by kernel_rfl
theorem zf42:qE Tryz.prog 42 (blkV (zT 256))=true:=by kernel_rfl
section
variable {b b':List UInt8}
theorem fd42 (h:b.length=256):qE Tryz.prog 42 (.d (blkD b))=true:=bt42.fits wI h
theorem z3y (h:b.length=256):qT Tryz.prog 42 0 (some (.d (blkD b)))=some (.d (blkD b)):=bt42.load wI h
theorem z9j (h:b.length=256):qT Tryz.prog 42 0 (some (blkV b))=some (blkV b):=bt42.load isB_v h
theorem zsl (h:b.length=256) (h':b'.length=256):qY Tryz.prog 42 0 (.d (blkD b)) (.d (blkD b'))=some (.d (blkD b)):=bt42.store wI h wI h'
theorem zc3 (h:b.length=256) (h':b'.length=256):qY Tryz.prog 42 0 (.d (blkD b)) (blkV b')=some (.d (blkD b)):=bt42.store wI h isB_v h'
theorem zn5 (h:b.length=256) (h':b'.length=256):qY Tryz.prog 42 0 (blkV b) (blkV b')=some (blkV b):=bt42.store isB_v h isB_v h'
theorem ia42 {S:zA} {j x:Nat} {i:Nat} (hi:i < 256):zK Tryz.prog S 42 (.ref j x 0) (.d (.int .i64 (i:Int)))=some (.ref j x i):=by rw [bt42.ia hi,Nat.zero_add]
theorem zlr:(blkV b).one=true:=rfl
theorem zst {S:zA}:Go.Vm.frz S zI (blkV b)=some (blkD b):=isB_v.frz (n:=10)
end
theorem z256:(zT 256).length=256:=rfl
theorem zne {n:Int}:IntKind.u8.wrap n=n % 256:=rfl
theorem cv35 {S:zA} {n:Nat}:qK Tryz.prog S 3 5 (.d (.int .i64 (n:Int)))=some (.d (.int .u8 ((UInt8.ofNat (n % 256)).toNat:Int)),0):=by
 have h1:Tryz.prog.underlying 3=some (.int .i64):=by kernel_rfl
 have h2:Tryz.prog.underlying 5=some (.int .u8):=by kernel_rfl
 have e:((UInt8.ofNat (n % 256)).toNat:Int)=(n:Int) % 256:=by rw [UInt8.toNat_ofNat']; omega
 simp only [qK,h1,h2]
 rw [zne,e]
theorem cvu {S:zA} {i:Nat} (h:i < 100):qK Tryz.prog S 3 204 (.d (.int .i64 (i:Int)))=some (.d (.int .u64 (i:Int)),0):=by
 have h1:Tryz.prog.underlying 3=some (.int .i64):=by kernel_rfl
 have h2:Tryz.prog.underlying 204=some (.int .u64):=by kernel_rfl
 have e:IntKind.u64.wrap (i:Int)=(i:Int):=by
  have:IntKind.u64.wrap (i:Int)=(i:Int) % 18446744073709551616:=rfl
  rw [this]; omega
 simp only [qK,h1,h2]
 rw [e]
theorem zrl {K K':IntKind} {t:TypeId} {v i:Nat} (hK:K.bits=64) (h:i < 8):binV Tryz.prog .shr t (.d (.int K (v:Int))) (.d (.int K' ((8 * i:Nat):Int)))=some (.d (.int K ((v / 256 ^ i:Nat):Int))):=by
 have key : ∀ k:Nat,k ≤ 64→((v:Int).fdiv (2 ^ (min ((k:Int)).toNat K.bits)))=((v / 2 ^ k:Nat):Int):=fun k hk=>by
  have e:min ((k:Int)).toNat K.bits=k:=by rw [hK]; omega
  rw [e,Int.fdiv_eq_ediv_of_nonneg _ (by exact_mod_cast Nat.zero_le (2 ^ k)),Int.natCast_ediv]
  norm_cast
 simp only [binV,qR]
 rw [if_neg (by omega),key _ (by omega)]
 have e3:2 ^ (8 * i)=256 ^ i:=by rw [Nat.pow_mul]
 rw [e3]
 rfl
def MayL (l:Lay):Prop:=16 ≤ l.blocks∧l.blocks ≤ 512∧8 ≤ l.inodes∧l.inodes ≤ 128∧l.inodes.tmod 8=0∧2 + l.inodes.tdiv 8 < l.blocks
instance (l:Lay):Decidable (MayL l):=by unfold MayL; exact inferInstance
theorem zrt {P:Program} {t:TypeId} {a b c:Int} (hb : ¬ b=0) (h:a.tmod b=c):binV P .rem t (.d (.int .i64 a)) (.d (.int .i64 b))=some (.d (.int .i64 c)):=by
 simp only [binV,qR,hb,if_true,if_false,Option.map_some,h]
theorem rem8 {a:Int}:binV Tryz.prog .rem 3 (.d (.int .i64 a)) (.d (.int .i64 8))=some (.d (.int .i64 (a.tmod 8))):=zrt (by decide) rfl
theorem quo8 {a:Int} (h:InB a):binV Tryz.prog .quo 3 (.d (.int .i64 a)) (.d (.int .i64 8))=some (.d (.int .i64 (a.tdiv 8))):=by
 have hb : ¬ (8:Int)=0:=by decide
 have h2:IntKind.i64.wrap (a.tdiv 8)=a.tdiv 8:=wrap64 (by
  rcases Int.le_total 0 a with h0 | h0
  ·rw [Int.tdiv_eq_ediv_of_nonneg h0]; omega
  ·have e:a.tdiv 8 = -((-a).tdiv 8):=by rw [Int.neg_tdiv,Int.neg_neg]
   rw [e,Int.tdiv_eq_ediv_of_nonneg (by omega)]; omega)
 simp only [binV,qR,hb,if_false,Option.map_some,h2]
 rfl
theorem zgr (l:Lay) (hb:InB l.blocks) (hi:InB l.inodes):Ev cfg 75 [encLay l] (.ret (.d (.int .i64 (if MayL l then 0 else 1)))):=by
 refine kB rfl rfl zxt ?_
 show Wp cfg (Tryz.f75.body.getD .skip) ((.d (encLay l))::uZ (uZ ((.tup [])::(.tup [])::(.tup [])::(.tup [])::(.tup [])::(.tup [])::(.tup [])::(.tup [])::[]))) [] [] _
 unfold uZ
 conv=>arg 2; whnf
 generalize hp:(if MayL l then (0:Int) else 1)=p
 have hq:=quo8 hi
 have hr:=rem8 (a:=l.inodes)
 by_cases c1:l.blocks < 16
 ·rw [if_neg (fun h=>by have:=h.1; omega)] at hp; subst hp
  simp (maxSteps:=1000000) (disch:=first|assumption|omega|rfl) only [↓gp,gc,Nat.reduceAdd]
  exact zU rfl rfl rfl
 by_cases c2:l.blocks > 512
 ·rw [if_neg (fun h=>by have:=h.2.1; omega)] at hp; subst hp
  simp (maxSteps:=1000000) (disch:=first|assumption|omega|rfl) only [↓gp,gc,Nat.reduceAdd]
  exact zU rfl rfl rfl
 by_cases c3:l.inodes < 8
 ·rw [if_neg (fun h=>by have:=h.2.2.1; omega)] at hp; subst hp
  simp (maxSteps:=1000000) (disch:=first|assumption|omega|rfl) only [↓gp,gc,Nat.reduceAdd]
  exact zU rfl rfl rfl
 by_cases c4:l.inodes > 128
 ·rw [if_neg (fun h=>by have:=h.2.2.2.1; omega)] at hp; subst hp
  simp (maxSteps:=1000000) (disch:=first|assumption|omega|rfl) only [↓gp,gc,Nat.reduceAdd]
  exact zU rfl rfl rfl
 by_cases c5:l.inodes.tmod 8=0
 case neg =>
  rw [if_neg (fun h=>c5 h.2.2.2.2.1)] at hp; subst hp
  simp (maxSteps:=1000000) (disch:=first|assumption|omega|rfl) only [↓gp,gc,Nat.reduceAdd,hr]
  exact zU rfl rfl rfl
 have hd:0 ≤ l.inodes.tdiv 8∧l.inodes.tdiv 8 ≤ 16:=by
  rw [Int.tdiv_eq_ediv_of_nonneg (by omega)]; omega
 have hw:IntKind.i64.wrap (2 + l.inodes.tdiv 8)=2 + l.inodes.tdiv 8:=wrap64 (by omega)
 by_cases c6:2 + l.inodes.tdiv 8 ≥ l.blocks
 ·rw [if_neg (fun h=>by have:=h.2.2.2.2.2; omega)] at hp; subst hp
  simp (maxSteps:=1000000) (disch:=first|assumption|omega|rfl) only [↓gp,gc,Nat.reduceAdd,hr,hq,hw,c5]
  exact zU rfl rfl rfl
 ·rw [if_pos ⟨by omega,by omega,by omega,by omega,c5,by omega⟩] at hp; subst hp
  simp (maxSteps:=1000000) (disch:=first|assumption|omega|rfl) only [↓gp,gc,Nat.reduceAdd,hr,hq,hw,c5]
  exact zU rfl rfl rfl
theorem zpo (a w n:Nat) (ha:a ≤ 1000000) (hw:w ≤ 1000000) (hn:n ≤ 1000000):Ev cfg 144 [.int .i64 (a:Int),.int .i64 (w:Int),.int .i64 (n:Int)] (.ret (.d (.bool (decide (1 ≤ w∧a + w ≤ n))))):=by
 refine kB rfl rfl zwh ?_
 show Wp cfg (Tryz.f144.body.getD .skip) ((.d (.int .i64 (a:Int)))::(.d (.int .i64 (w:Int)))::(.d (.int .i64 (n:Int)))::uZ (uZ ((.tup [])::(.tup [])::[]))) [] [] _
 unfold uZ
 conv=>arg 2; whnf
 generalize hp:decide (1 ≤ w∧a + w ≤ n)=p
 have h0:(a:Int) ≥ 0:=by omega
 have hwr:IntKind.i64.wrap ((n:Int) - (w:Int))=(n:Int) - (w:Int):=wrap64 (by omega)
 by_cases c1:(w:Int) ≥ 1
 case neg =>
  rw [decide_eq_false (by omega)] at hp; subst hp
  simp (maxSteps:=1000000) (disch:=first|assumption|omega|rfl) only [↓gp,gc,Nat.reduceAdd]
  exact zU rfl rfl rfl
 by_cases c2:(w:Int) ≤ (n:Int)
 case neg =>
  rw [decide_eq_false (by omega)] at hp; subst hp
  simp (maxSteps:=1000000) (disch:=first|assumption|omega|rfl) only [↓gp,gc,Nat.reduceAdd]
  exact zU rfl rfl rfl
 by_cases c3:(a:Int) ≤ (n:Int) - (w:Int)
 ·rw [decide_eq_true (by omega)] at hp; subst hp
  simp (maxSteps:=1000000) (disch:=first|assumption|omega|rfl) only [↓gp,gc,Nat.reduceAdd,hwr]
  exact zU rfl rfl rfl
 ·rw [decide_eq_false (by omega)] at hp; subst hp
  simp (maxSteps:=1000000) (disch:=first|assumption|omega|rfl) only [↓gp,gc,Nat.reduceAdd,hwr]
  exact zU rfl rfl rfl
section
variable {ops:Array Oper} {dst:Option Tmp} {k:List Oper} {T:List V} {S:zA} {F:Dfs} {Q:Post}
theorem z3f {a w n:Nat} (ha:a ≤ 1000000) (hw:w ≤ 1000000) (hn:n ≤ 1000000):WpR cfg ops dst k T S F Q (some (.enter 144 [.d (.int .i64 (a:Int)),.d (.int .i64 (w:Int)),.d (.int .i64 (n:Int))]))=WpL cfg ops k (putT T dst (.d (.bool (decide (1 ≤ w∧a + w ≤ n))))) S F Q :=
 qJ (ds:=[.int .i64 (a:Int),.int .i64 (w:Int),.int .i64 (n:Int)]) rfl (zpo a w n ha hw hn)
end
theorem zz2 (b:List UInt8) (hb:b.length=256) (k0 w v:Nat) (hk0:k0 + w ≤ 256) (hw4:w ≤ 4) (z:V) (R:Post) : ∀ (k i:Nat) (u:V) (g0 g5 g6 g7 g9 gI gF gD gB gC gA gE gL gM gN gJ gH gO gP gT gQ gU gR gS gV gW gX gY:V),w - i=k→i ≤ w→IsB u (layB b k0 (leB i v)) →
 (∀ u i' g0 g5 g6 g7 g9 gI gF gD gB gC gA gE gL gM gN gJ gH gO gP gT gQ gU gR gS gV gW gX gY,IsB u (layB b k0 (leB w v))→R (.exit 0) (g0::(.d (.int .i64 (k0:Int)))::(.d (.int .i64 (w:Int)))::(.d (.int .i64 (v:Int)))::(.ref 0 0 0)::g5::g6::g7::(.ref 1 0 0)::g9::gI::gF::gD::gB::gC::gA::gE::gL::gM::(.d (.int .i64 (w:Int)))::i'::gN::gJ::gH::gO::gP::gT::gQ::gU::gR::gS::gV::gW::gX::gY::[]) [.row [u] 42,.row [z] 42] []) →
 Wp cfg (.loop (lpOf (Tryz.f146.body.getD .skip) 0)) (g0::(.d (.int .i64 (k0:Int)))::(.d (.int .i64 (w:Int)))::(.d (.int .i64 (v:Int)))::(.ref 0 0 0)::g5::g6::g7::(.ref 1 0 0)::g9::gI::gF::gD::gB::gC::gA::gE::gL::gM::(.d (.int .i64 (w:Int)))::(.d (.int .i64 (i:Int)))::gN::gJ::gH::gO::gP::gT::gQ::gU::gR::gS::gV::gW::gX::gY::[]) [.row [u] 42,.row [z] 42] [] R:=by
 intro k
 induction k with
 | zero =>
  intro i u g0 g5 g6 g7 g9 gI gF gD gB gC gA gE gL gM gN gJ gH gO gP gT gQ gU gR gS gV gW gX gY hk hi hu hR
  have hie:i=w:=by omega
  subst hie
  rw [zO]
  refine zM ?_
  conv=>arg 2; whnf
  simp (maxSteps:=1000000) (disch:=first|assumption|omega|rfl) only [↓gp,gc,Nat.reduceAdd]
  exact hR _ _ _ _ _ _ _ _ _ _ _ _ _ _ _ _ _ _ _ _ _ _ _ _ _ _ _ _ _ _ hu
 | succ k ih =>
  intro i u g0 g5 g6 g7 g9 gI gF gD gB gC gA gE gL gM gN gJ gH gO gP gT gQ gU gR gS gV gW gX gY hk hi hu hR
  have hlt:i < w:=by omega
  have hl:(layB b k0 (leB i v)).length=256:=by rw [kZ (by rw [jK]; omega),hb]
  have h1:IntKind.i64.wrap ((k0:Int) + (i:Int))=((k0 + i:Nat):Int):=by rw [wrap64 (by omega)]; omega
  have h2:IntKind.i64.wrap (8 * (i:Int))=((8 * i:Nat):Int):=by rw [wrap64 (by omega)]; omega
  have h3:IntKind.i64.wrap ((i:Int) + 1)=((i + 1:Nat):Int):=by rw [wrap64 (by omega)]; omega
  have hcv:=fun S=>cvu (S:=S) (i:=8 * i) (by omega)
  have hsh:=fun K'=>zrl (K:= .i64) (K':=K') (t:=3) (v:=v) (i:=i) rfl (by omega)
  have hia:=fun S j x=>ia42 (S:=S) (j:=j) (x:=x) (i:=k0 + i) (by omega)
  have hc5:=fun S=>cv35 (S:=S) (n:=v / 256 ^ i)
  have hp:=bt42.put hu hl (i:=k0 + i) (by omega) (x:=UInt8.ofNat (v / 256 ^ i % 256))
  have e:(layB b k0 (leB i v)).set (k0 + i) (UInt8.ofNat (v / 256 ^ i % 256))=layB b k0 (leB (i + 1) v):=by
   rw [zgn,z53 (by rw [jK]; omega),jK]
  rw [e] at hp
  rw [zO]
  refine zM ?_
  conv=>arg 2; whnf
  simp (maxSteps:=1000000) (disch:=first|assumption|omega|rfl) only [↓gp,gc,Nat.reduceAdd,h1,h2,h3,hcv,hsh,hia,hc5,hp]
  exact ih (i + 1) _ _ _ _ _ _ _ _ _ _ _ _ _ _ _ _ _ _ _ _ _ _ _ _ _ _ _ _ _ (by omega) (by omega) isB_v hR
theorem zsi (b:List UInt8) (hb:b.length=256) (k0 w v:Nat) (hk0:k0 + w ≤ 256) (hw1:1 ≤ w) (hw4:w ≤ 4):Ev cfg 146 [blkD b,.int .i64 (k0:Int),.int .i64 (w:Int),.int .i64 (v:Int)] (.ret (.d (blkD (layB b k0 (leB w v))))):=by
 refine kB rfl rfl zus ?_
 show Wp cfg (Tryz.f146.body.getD .skip) ((.d (blkD b))::(.d (.int .i64 (k0:Int)))::(.d (.int .i64 (w:Int)))::(.d (.int .i64 (v:Int)))::uZ (uZ (uZ ((.tup [])::[])))) [] [] _
 unfold uZ
 conv=>arg 2; whnf
 have c4 : ¬ (w:Int) > 4:=by omega
 have ct:=fun {ops dst k T S F Q}=>z3f (ops:=ops) (dst:=dst) (k:=k) (T:=T) (S:=S) (F:=F) (Q:=Q) (a:=k0) (w:=w) (n:=256) (by omega) (by omega) (by omega)
 rw [decide_eq_true (show 1 ≤ w∧k0 + w ≤ 256 from ⟨hw1,hk0⟩)] at ct
 simp only [nl0,nl1,nl2,nl4,nl8,nl10,nl12,nl16,nl20,zd0] at ct
 have hll:(layB b k0 (leB w v)).length=256:=by rw [kZ (by rw [jK]; omega),hb]
 have hf:=fd42 hb
 simp (maxSteps:=1000000) (disch:=first|assumption|omega|rfl) only [↓gp,gc,Nat.reduceAdd,z42,zf42,hf,ct,zm1]
 refine zz2 b hb k0 w v hk0 hw4 _ _ w 0 _ _ _ _ _ _ _ _ _ _ _ _ _ _ _ _ _ _ _ _ _ _ _ _ _ _ _ _ _ rfl (Nat.zero_le _) (by rw [show leB 0 v=[] from rfl,z7i]; exact wI) ?_
 intro u i' g0 g5 g6 g7 g9 gI gF gD gB gC gA gE gL gM gN gJ gH gO gP gT gQ gU gR gS gV gW gX gY hu
 have hld:=bt42.load hu hll
 have hst:=bt42.store hu hll (w:=blkV (zT 256)) isB_v z256
 simp (maxSteps:=1000000) (disch:=first|assumption|omega|rfl) only [↓gp,gc,Nat.reduceAdd,hld,hst]
 exact wP (u:= .ref 1 0 0) (v:=u) rfl ((zJ rfl).trans hld) hu.one (hu.frz (n:=10))
theorem q4c (b:List UInt8) (hb:b.length=256) (k0:Nat) (d:List UInt8) (hk0:k0 + d.length ≤ 256) (z:V) (R:Post) : ∀ (k i:Nat) (u:V) (g0 g4 g5 g7 g8 g9 gI gF gD gB gC gA gG gK gN gJ gH gO gP gT gQ gU gR gS gV gW gX:V),d.length - i=k→i ≤ d.length→IsB u (layB b k0 (d.take i)) →
 (∀ u i' g0 g4 g5 g7 g8 g9 gI gF gD gB gC gA gG gK gN gJ gH gO gP gT gQ gU gR gS gV gW gX,IsB u (layB b k0 d)→R (.exit 0) (g0::(.d (.int .i64 (k0:Int)))::(.d (encB d))::(.ref 0 0 0)::g4::g5::(.ref 1 0 0)::g7::g8::g9::gI::gF::gD::gB::gC::gA::(.d (encB d))::(.d (.int .i64 d.length))::i'::gG::gK::gN::gJ::gH::gO::gP::gT::gQ::gU::gR::gS::gV::gW::gX::[]) [.row [u] 42,.row [z] 42] []) →
 Wp cfg (.loop (lpOf (Tryz.f148.body.getD .skip) 0)) (g0::(.d (.int .i64 (k0:Int)))::(.d (encB d))::(.ref 0 0 0)::g4::g5::(.ref 1 0 0)::g7::g8::g9::gI::gF::gD::gB::gC::gA::(.d (encB d))::(.d (.int .i64 d.length))::(.d (.int .i64 (i:Int)))::gG::gK::gN::gJ::gH::gO::gP::gT::gQ::gU::gR::gS::gV::gW::gX::[]) [.row [u] 42,.row [z] 42] [] R:=by
 intro k
 induction k with
 | zero =>
  intro i u g0 g4 g5 g7 g8 g9 gI gF gD gB gC gA gG gK gN gJ gH gO gP gT gQ gU gR gS gV gW gX hk hi hu hR
  have hie:i=d.length:=by omega
  subst hie
  rw [List.take_length] at hu
  rw [zO]
  refine zM ?_
  conv=>arg 2; whnf
  simp (maxSteps:=1000000) (disch:=first|assumption|omega|rfl) only [↓gp,gc,Nat.reduceAdd]
  exact hR _ _ _ _ _ _ _ _ _ _ _ _ _ _ _ _ _ _ _ _ _ _ _ _ _ _ _ _ _ hu
 | succ k ih =>
  intro i u g0 g4 g5 g7 g8 g9 gI gF gD gB gC gA gG gK gN gJ gH gO gP gT gQ gU gR gS gV gW gX hk hi hu hR
  have hlt:i < d.length:=by omega
  have htl:(d.take i).length=i:=by rw [List.length_take]; omega
  have hl:(layB b k0 (d.take i)).length=256:=by rw [kZ (by rw [htl]; omega),hb]
  have h1:IntKind.i64.wrap ((k0:Int) + (i:Int))=((k0 + i:Nat):Int):=by rw [wrap64 (by omega)]; omega
  have h2:IntKind.i64.wrap (256 - (k0:Int))=256 - (k0:Int):=wrap64 (by omega)
  have h4 : ¬ (i:Int) ≥ 256 - (k0:Int):=by omega
  have h3:IntKind.i64.wrap ((i:Int) + 1)=((i + 1:Nat):Int):=by rw [wrap64 (by omega)]; omega
  have hix:=fun S=>ix76 (S:=S) (l:=d) hlt
  have hia:=fun S j x=>ia42 (S:=S) (j:=j) (x:=x) (i:=k0 + i) (by omega)
  have hp:=bt42.put hu hl (i:=k0 + i) (by omega) (x:=d[i])
  have e:(layB b k0 (d.take i)).set (k0 + i) d[i]=layB b k0 (d.take (i + 1)):=by
   rw [List.take_add_one,List.getElem?_eq_getElem hlt]
   show _=layB b k0 (d.take i ++ [d[i]])
   rw [z53 (by rw [htl]; omega),htl]
  rw [e] at hp
  rw [zO]
  refine zM ?_
  conv=>arg 2; whnf
  simp (maxSteps:=1000000) (disch:=first|assumption|omega|rfl) only [↓gp,gc,Nat.reduceAdd,encB,h1,h2,h3,hix,hia,hp]
  exact ih (i + 1) _ _ _ _ _ _ _ _ _ _ _ _ _ _ _ _ _ _ _ _ _ _ _ _ _ _ _ _ (by omega) (by omega) isB_v hR
theorem zxy (b:List UInt8) (hb:b.length=256) (k0:Nat) (hk:k0 < 256) (d:List UInt8) (hk0:k0 + d.length ≤ 256):Ev cfg 148 [blkD b,.int .i64 (k0:Int),encB d] (.ret (.d (blkD (layB b k0 d)))):=by
 refine kB rfl rfl zv3 ?_
 show Wp cfg (Tryz.f148.body.getD .skip) ((.d (blkD b))::(.d (.int .i64 (k0:Int)))::(.d (encB d))::uZ (uZ (uZ ((.tup [])::[])))) [] [] _
 unfold uZ
 conv=>arg 2; whnf
 have c1 : ¬ (k0:Int) < 0:=by omega
 have c2 : ¬ (k0:Int) ≥ 256:=by omega
 have hll:(layB b k0 d).length=256:=by rw [kZ (by omega),hb]
 have hf:=fd42 hb
 have hln : ∀ S:zA,zL Tryz.prog S .len [76] [.d (encB d)]=some (.val (.d (.int .i64 d.length)) S 0):=fun S=>by rw [encB,znc,List.length_map]
 simp (maxSteps:=1000000) (disch:=first|assumption|omega|rfl) only [↓gp,gc,Nat.reduceAdd,z42,zf42,hf,hln]
 refine q4c b hb k0 d hk0 _ _ d.length 0 _ _ _ _ _ _ _ _ _ _ _ _ _ _ _ _ _ _ _ _ _ _ _ _ _ _ _ _ rfl (Nat.zero_le _) (by rw [List.take_zero,z7i]; exact wI) ?_
 intro u i' g0 g4 g5 g7 g8 g9 gI gF gD gB gC gA gG gK gN gJ gH gO gP gT gQ gU gR gS gV gW gX hu
 have hld:=bt42.load hu hll
 have hst:=bt42.store hu hll (w:=blkV (zT 256)) isB_v z256
 simp (maxSteps:=1000000) (disch:=first|assumption|omega|rfl) only [↓gp,gc,Nat.reduceAdd,hld,hst]
 exact wP (u:= .ref 1 0 0) (v:=u) rfl ((zJ rfl).trans hld) hu.one (hu.frz (n:=10))
theorem bd42:wK Tryz.prog 42 []=some (blkV (zT 256)):=by kernel_rfl
section
variable {ops:Array Oper} {dst:Option Tmp} {k:List Oper} {T:List V} {S:zA} {F:Dfs} {Q:Post}
theorem zg9 {u:V} {b d:List UInt8} (hu:IsB u b) (hb:b.length=256) {k0:Nat} (hk:k0 < 256) (hk0:k0 + d.length ≤ 256):WpR cfg ops dst k T S F Q (some (.enter 148 [u,.d (.int .i64 (k0:Int)),.d (encB d)]))=WpL cfg ops k (putT T dst (.d (blkD (layB b k0 d)))) S F Q :=
 wA (ds:=[blkD b,.int .i64 (k0:Int),encB d]) rfl (by simp only [allO,hu.frz (n:=10),zI]; rfl) (by rw [List.flatMap_cons,hu.frzIds]; rfl) (zxy b hb k0 hk d hk0)
theorem z8r {u:V} {b:List UInt8} (hu:IsB u b) (hb:b.length=256) {k0 w v:Nat} (hk0:k0 + w ≤ 256) (hw1:1 ≤ w) (hw4:w ≤ 4):WpR cfg ops dst k T S F Q (some (.enter 146 [u,.d (.int .i64 (k0:Int)),.d (.int .i64 (w:Int)),.d (.int .i64 (v:Int))]))=WpL cfg ops k (putT T dst (.d (blkD (layB b k0 (leB w v))))) S F Q :=
 wA (ds:=[blkD b,.int .i64 (k0:Int),.int .i64 (w:Int),.int .i64 (v:Int)]) rfl (by simp only [allO,hu.frz (n:=10),zI]; rfl) (by rw [List.flatMap_cons,hu.frzIds]; rfl) (zsi b hb k0 w v hk0 hw1 hw4)
end
theorem q2o (d:List UInt8) (hd:d.length ≤ 256):Ev cfg 145 [encB d] (.ret (.d (blkD (layB (zT 256) 0 d)))):=by
 refine kB rfl rfl zv2 ?_
 show Wp cfg (Tryz.f145.body.getD .skip) ((.d (encB d))::(.tup [])::(.tup [])::(.tup [])::(.tup [])::(.tup [])::[]) [] [] _
 conv=>arg 2; whnf
 have hll:(layB (zT 256) 0 d).length=256:=by rw [kZ (by rw [z256]; omega),z256]
 have hc:=fun {ops dst k T S F Q}=>zg9 (ops:=ops) (dst:=dst) (k:=k) (T:=T) (S:=S) (F:=F) (Q:=Q) (u:=blkV (zT 256)) (b:=zT 256) (d:=d) isB_v z256 (k0:=0) (by omega) (by omega)
 have hst:=zc3 hll z256
 have h1:(blkV (zT 256)).one=true:=rfl
 simp only [nl0,nl1,nl2,nl4,nl8,nl10,nl12,nl16,nl20,zd0] at hc
 simp (maxSteps:=1000000) (disch:=first|assumption|omega|rfl) only [↓gp,gc,Nat.reduceAdd,z42,zf42,bd42,hc,zup,hst,h1]
 exact wP (u:= .ref 0 0 0) (v:= .d (blkD (layB (zT 256) 0 d))) rfl ((zJ rfl).trans (z3y hll)) rfl rfl
def rowY (d:List UInt8):Ob:= .row (d.map fun x=>V.d (byD x)) 5
section
variable {S:zA} {id n i:Nat} {d:List UInt8}
theorem ixY (hS:S[id]? = some (rowY d)) (hi:i < n):zK Tryz.prog S 76 (.rs id 0 n) (.d (.int .i64 (i:Int)))=some (.ref id i 0):=by
 have h1:rowT S id 5=true:=by unfold rowT; rw [hS]; rfl
 have h2:(sz Tryz.prog 5).isSome=true:=by kernel_rfl
 simp only [zK,intOf?,Tryz.underlying76]
 rw [if_pos ⟨⟨by omega,by omega⟩,h1,h2⟩]
 simp
theorem zmf (hS:S[id]? = some (rowY d)) (hi:i < d.length):rowE S id i=some (.d (.int .u8 (d[i].toNat:Int))):=by
 unfold rowE
 rw [hS]
 simp only [rowY,List.getElem?_map,List.getElem?_eq_getElem hi,Option.map_some]
 rfl
theorem ztp (hS:S[id]? = some (rowY d)) {x:UInt8}:jE S id i (.d (.int .u8 (x.toNat:Int)))=some (S.set id (rowY (d.set i x))):=by
 unfold jE
 rw [hS]
 simp only [rowY,List.map_set]
 rfl
theorem zpq (hS:S[id]? = some (rowY d)) (hn:n=d.length):Go.Vm.frz S zI (.rs id 0 n)=some (encB d):=by
 subst hn
 show (match S[id]? with
  | some (.row xs e)=>if 0 + d.length ≤ xs.length && (allO (Go.Vm.frz S 11) xs).isSome then (allO (Go.Vm.frz S 11) ((xs.drop 0).take d.length)).map D.sl else none
  | some (.fz xs e)=>if 0 + d.length ≤ xs.length then some (D.sl ((xs.drop 0).take d.length)) else none
  | _=>none)=_
 rw [hS]
 have h2:((d.map fun x=>V.d (byD x)).drop 0).take d.length=d.map fun x=>V.d (byD x):=by rw [List.drop_zero,List.take_of_length_le (by simp)]
 simp only [rowY,zep,h2,List.length_map,Nat.zero_add,Nat.le_refl,decide_true,Option.isSome_some,Bool.and_self,if_true,Option.map_some]
 rfl
theorem mk40 (h:n ≤ 1000000):jO Tryz.prog S 76 (.d (.int .i64 (n:Int))) (.d (.int .i64 (n:Int)))=some (.rs S.length 0 n,S ++ [rowY (zT n)]):=by
 have hz:zeroV Tryz.prog 5=some (.d (.int .u8 0)):=by kernel_rfl
 have hf:qE Tryz.prog 5 (.d (.int .u8 0))=true:=by kernel_rfl
 have hr:room Tryz.prog 5 n=true:=zg8 h
 have e:List.replicate n (V.d (.int .u8 0))=(zT n).map fun x=>V.d (byD x):=by unfold zT; rw [List.map_replicate]; rfl
 simp only [jO,Tryz.underlying76,hz,Int.toNat_natCast,hr,hf,Bool.and_self,if_true]
 rw [if_pos ⟨by omega,Int.le_refl _,by omega⟩,e]
 rfl
end
theorem st5 {a b:Int}:qY Tryz.prog 5 0 (.d (.int .u8 a)) (.d (.int .u8 b))=some (.d (.int .u8 a)):=by kernel_rfl
theorem ldr5 {a:Int}:qT Tryz.prog 5 0 (some (.d (.int .u8 a)))=some (.d (.int .u8 a)):=by kernel_rfl
theorem min_le {S:zA} {a b:Int} (h:a ≤ b):zL Tryz.prog S .min [3,3] [.d (.int .i64 a),.d (.int .i64 b)]=some (.val (.d (.int .i64 a)) S 0):=by
 simp only [zL,zdy,zo7,if_true]
 rw [if_neg (by omega)]
 rfl
theorem max_le {S:zA} {a b:Int} (h:a ≤ b):zL Tryz.prog S .max [3,3] [.d (.int .i64 a),.d (.int .i64 b)]=some (.val (.d (.int .i64 b)) S 0):=by
 simp only [zL,zdy,zo1,if_true]
 by_cases hh:b > a
 ·rw [if_pos hh]; rfl
 ·have:a=b:=by omega
  subst this; rw [if_neg hh]; rfl
def vR (t:List UInt8) (i:Nat):List UInt8:=t.take i ++ zT (t.length - i)
theorem z92 {t:List UInt8} {i:Nat} (h:i ≤ t.length):(vR t i).length=t.length:=by unfold vR; simp [zT]; omega
theorem z83 {t:List UInt8} {i:Nat} (h:i < t.length):(vR t i).set i t[i]=vR t (i + 1):=by
 unfold vR zT
 obtain ⟨m,hm⟩ : ∃ m,t.length - i=m + 1:=⟨t.length - i - 1,by omega⟩
 have h1:(t.take i).length=i:=by rw [List.length_take]; omega
 rw [List.set_append_right _ _ (by omega),h1,Nat.sub_self,hm,List.replicate_succ,List.set_cons_zero,List.take_add_one,List.getElem?_eq_getElem h]
 have:t.length - (i + 1)=m:=by omega
 rw [this,List.append_assoc]
 rfl
theorem q46 (b:List UInt8) (hb:b.length=256) (k0:Nat) (t:List UInt8) (ht:t=(b.drop k0).take t.length) (hk0:k0 + t.length ≤ 256) (x6:V) (R:Post) : ∀ (k i:Nat) (g0 g2 g4 g5 g8 g9 gI gF gD gB gC gA gE gL gM gG gK gN gJ gH gO gQ gU gR gS gV gW gX gY gZ gh gj gk:V),t.length - i=k→i ≤ t.length →
 (∀ i' g0 g2 g4 g5 g8 g9 gI gF gD gB gC gA gE gL gM gG gK gN gJ gH gO gQ gU gR gS gV gW gX gY gZ gh gj gk,R (.exit 0) (g0::(.d (.int .i64 (k0:Int)))::g2::(.ref 0 0 0)::g4::g5::x6::(.rs 1 0 t.length)::g8::g9::gI::gF::gD::gB::gC::gA::gE::gL::gM::gG::gK::gN::gJ::gH::gO::(.d (.int .i64 (t.length:Int)))::i'::gQ::gU::gR::gS::gV::gW::gX::gY::gZ::gh::gj::gk::[]) [.row [.d (blkD b)] 42,rowY t] []) →
 Wp cfg (.loop (lpOf (Tryz.f107.body.getD .skip) 0)) (g0::(.d (.int .i64 (k0:Int)))::g2::(.ref 0 0 0)::g4::g5::x6::(.rs 1 0 t.length)::g8::g9::gI::gF::gD::gB::gC::gA::gE::gL::gM::gG::gK::gN::gJ::gH::gO::(.d (.int .i64 (t.length:Int)))::(.d (.int .i64 (i:Int)))::gQ::gU::gR::gS::gV::gW::gX::gY::gZ::gh::gj::gk::[]) [.row [.d (blkD b)] 42,rowY (vR t i)] [] R:=by
 intro k
 induction k with
 | zero =>
  intro i g0 g2 g4 g5 g8 g9 gI gF gD gB gC gA gE gL gM gG gK gN gJ gH gO gQ gU gR gS gV gW gX gY gZ gh gj gk hk hi hR
  have hie:i=t.length:=by omega
  subst hie
  have e:vR t t.length=t:=by unfold vR zT; simp
  rw [e]
  rw [zO]
  refine zM ?_
  conv=>arg 2; whnf
  simp (maxSteps:=1000000) (disch:=first|assumption|omega|rfl) only [↓gp,gc,Nat.reduceAdd]
  exact hR _ _ _ _ _ _ _ _ _ _ _ _ _ _ _ _ _ _ _ _ _ _ _ _ _ _ _ _ _ _ _ _ _ _
 | succ k ih =>
  intro i g0 g2 g4 g5 g8 g9 gI gF gD gB gC gA gE gL gM gG gK gN gJ gH gO gQ gU gR gS gV gW gX gY gZ gh gj gk hk hi hR
  have hlt:i < t.length:=by omega
  have hl:=z92 (t:=t) (i:=i) (by omega)
  have h1:IntKind.i64.wrap ((k0:Int) + (i:Int))=((k0 + i:Nat):Int):=by rw [wrap64 (by omega)]; omega
  have h3:IntKind.i64.wrap ((i:Int) + 1)=((i + 1:Nat):Int):=by rw [wrap64 (by omega)]; omega
  have hia:=fun S j x=>ia42 (S:=S) (j:=j) (x:=x) (i:=k0 + i) (by omega)
  have hg:=bt42.get (v:= .d (blkD b)) wI hb (i:=k0 + i) (by omega)
  have he:b[k0 + i]=t[i]:=by
   have:t[i]=((b.drop k0).take t.length)[i]'(by rw [← ht]; exact hlt):=by congr 1
   rw [this]; simp
  rw [he] at hg
  have hS:([.row [.d (blkD b)] 42,rowY (vR t i)]:zA)[1]? = some (rowY (vR t i)):=rfl
  have hix:=ixY (n:=t.length) (i:=i) hS hlt
  have hrw:=zmf (i:=i) hS (by omega)
  have hpt:=ztp (i:=i) hS (x:=t[i])
  rw [z83 hlt] at hpt
  have hpt:jE [.row [.d (blkD b)] 42,rowY (vR t i)] 1 i (.d (.int .u8 (t[i].toNat:Int)))=some [.row [.d (blkD b)] 42,rowY (vR t (i + 1))]:=hpt
  rw [zO]
  refine zM ?_
  conv=>arg 2; whnf
  simp (maxSteps:=1000000) (disch:=first|assumption|omega|rfl) only [↓gp,gc,Nat.reduceAdd,h1,h3,hia,hg,hix,hrw,st5,hpt]
  exact ih (i + 1) _ _ _ _ _ _ _ _ _ _ _ _ _ _ _ _ _ _ _ _ _ _ _ _ _ _ _ _ _ _ _ _ _ (by omega) (by omega) hR
theorem zrb (b:List UInt8) (hb:b.length=256) (k0 n:Nat) (hn:1 ≤ n) (hk0:k0 + n ≤ 256):Ev cfg 107 [blkD b,.int .i64 (k0:Int),.int .i64 (n:Int)] (.ret (.d (encB ((b.drop k0).take n)))):=by
 refine kB rfl rfl zsc ?_
 show Wp cfg (Tryz.f107.body.getD .skip) ((.d (blkD b))::(.d (.int .i64 (k0:Int)))::(.d (.int .i64 (n:Int)))::uZ (uZ (uZ ((.tup [])::(.tup [])::(.tup [])::(.tup [])::(.tup [])::(.tup [])::[])))) [] [] _
 unfold uZ
 conv=>arg 2; whnf
 have hl:((b.drop k0).take n).length=n:=by rw [List.length_take,List.length_drop]; omega
 have c1 : ¬ (k0:Int) < 0:=by omega
 have c2 : ¬ (k0:Int) ≥ 256:=by omega
 have c3 : ¬ (n:Int) < 1:=by omega
 have h1:IntKind.i64.wrap (256 - (k0:Int))=256 - (k0:Int):=wrap64 (by omega)
 have hmin:=fun S=>min_le (S:=S) (a:=(n:Int)) (b:=256 - (k0:Int)) (by omega)
 have hf:=fd42 hb
 have hmk:=fun S=>mk40 (S:=S) (n:=n) (by omega)
 simp (maxSteps:=1000000) (disch:=first|assumption|omega|rfl) only [↓gp,gc,Nat.reduceAdd,hf,h1,hmin,hmk]
 have ht:(b.drop k0).take n=(b.drop k0).take ((b.drop k0).take n).length:=by rw [hl]
 generalize (b.drop k0).take n=t at *
 subst hl
 have e0:zT t.length=vR t 0:=by unfold vR; simp
 rw [e0]
 refine q46 b hb k0 t ht hk0 _ _ t.length 0 _ _ _ _ _ _ _ _ _ _ _ _ _ _ _ _ _ _ _ _ _ _ _ _ _ _ _ _ _ _ _ _ _ rfl (Nat.zero_le _) ?_
 intro i' g0 g2 g4 g5 g8 g9 gI gF gD gB gC gA gE gL gM gG gK gN gJ gH gO gQ gU gR gS gV gW gX gY gZ gh gj gk
 simp (maxSteps:=1000000) (disch:=first|assumption|omega|rfl) only [↓gp,gc,Nat.reduceAdd]
 exact zU rfl rfl (zpq rfl rfl)
theorem zon {S:zA} {b:List UInt8} (h0:b ≠ []) (hl:b.length ≤ 100000):qM Tryz.prog S 76 76 (.ts []) (.d (encB b))=some (.rs S.length 0 b.length,S ++ [rowY b],2):=by
 have hall:((b.map byD).map V.d).all (qE Tryz.prog 5)=true:=by
  rw [List.all_eq_true]
  intro y hy
  obtain ⟨z,hz,rfl⟩:=List.mem_map.1 hy
  obtain ⟨a,_,rfl⟩:=List.mem_map.1 hz
  exact zri _
 have h5:(sz Tryz.prog 5).isSome=true:=by kernel_rfl
 have src:srcV Tryz.prog S 5 76 (.d (encB b))=some ((b.map byD).map V.d):=by
  have:encB b = .sl (b.map byD):=rfl
  rw [this]
  simp only [srcV,Tryz.underlying76,kI,hall,h5,Bool.and_self,if_true]
 cases b with
 | nil=>exact absurd rfl h0
 | cons a r =>
  have src1:srcV Tryz.prog S 5 76 (.d (encB (a::r)))=some (.d (byD a)::(r.map byD).map .d):=src
  have hl2:((r.map byD).map V.d).length=r.length:=by simp
  have hr:room Tryz.prog 5 (r.length + 1)=true:=zg8 (by simp at hl; omega)
  simp only [qM,Tryz.underlying76,src1,zuc,if_true,List.all_nil,List.length_nil,hr,Bool.and_self,List.map_nil,List.nil_append,List.length_cons,List.cons_append,List.map_cons,List.map_map,Function.comp_def,Nat.zero_add,List.length_map,Bool.and_true,rowY]
theorem q3z {S:zA} {n:Nat}:qK Tryz.prog S 30 5 (.d (.int .u64 (n:Int)))=some (.d (.int .u8 ((UInt8.ofNat (n % 256)).toNat:Int)),0):=by
 have h1:Tryz.prog.underlying 30=some (.int .u64):=by kernel_rfl
 have h2:Tryz.prog.underlying 5=some (.int .u8):=by kernel_rfl
 have e:((UInt8.ofNat (n % 256)).toNat:Int)=(n:Int) % 256:=by rw [UInt8.toNat_ofNat']; omega
 simp only [qK,h1,h2]
 rw [zne,e]
theorem q3e (b:List UInt8) (hb:b.length ≤ 1000) (k0 w v:Nat) (hk0:k0 + w ≤ b.length) (hw8:w ≤ 8) (x8 x9:V) (R:Post) : ∀ (k i:Nat) (g0 g2 g4 g5 g6 g7 gF gD gB gC gA gE gL gM gG gK gN gJ gH gO gQ gU gR gS gV gW gX gY gZ gh gj gk gn gr gz:V),w - i=k→i ≤ w →
 (∀ i' g0 g2 g4 g5 g6 g7 gF gD gB gC gA gE gL gM gG gK gN gJ gH gO gQ gU gR gS gV gW gX gY gZ gh gj gk gn gr gz,R (.exit 0) (g0::(.d (.int .i64 (k0:Int)))::g2::(.d (.int .u64 (v:Int)))::g4::g5::g6::g7::x8::x9::(.rs 0 0 b.length)::gF::gD::gB::gC::gA::gE::gL::gM::gG::gK::gN::gJ::gH::gO::(.d (.int .i64 (w:Int)))::i'::gQ::gU::gR::gS::gV::gW::gX::gY::gZ::gh::gj::gk::gn::gr::gz::[]) [rowY (layB b k0 (leB w v))] []) →
 Wp cfg (.loop (lpOf (Tryz.f147.body.getD .skip) 0)) (g0::(.d (.int .i64 (k0:Int)))::g2::(.d (.int .u64 (v:Int)))::g4::g5::g6::g7::x8::x9::(.rs 0 0 b.length)::gF::gD::gB::gC::gA::gE::gL::gM::gG::gK::gN::gJ::gH::gO::(.d (.int .i64 (w:Int)))::(.d (.int .i64 (i:Int)))::gQ::gU::gR::gS::gV::gW::gX::gY::gZ::gh::gj::gk::gn::gr::gz::[]) [rowY (layB b k0 (leB i v))] [] R:=by
 intro k
 induction k with
 | zero =>
  intro i g0 g2 g4 g5 g6 g7 gF gD gB gC gA gE gL gM gG gK gN gJ gH gO gQ gU gR gS gV gW gX gY gZ gh gj gk gn gr gz hk hi hR
  have hie:i=w:=by omega
  subst hie
  rw [zO]
  refine zM ?_
  conv=>arg 2; whnf
  simp (maxSteps:=1000000) (disch:=first|assumption|omega|rfl) only [↓gp,gc,Nat.reduceAdd]
  exact hR _ _ _ _ _ _ _ _ _ _ _ _ _ _ _ _ _ _ _ _ _ _ _ _ _ _ _ _ _ _ _ _ _ _ _ _
 | succ k ih =>
  intro i g0 g2 g4 g5 g6 g7 gF gD gB gC gA gE gL gM gG gK gN gJ gH gO gQ gU gR gS gV gW gX gY gZ gh gj gk gn gr gz hk hi hR
  have hlt:i < w:=by omega
  have hl:(layB b k0 (leB i v)).length=b.length:=by rw [kZ (by rw [jK]; omega)]
  have h1:IntKind.i64.wrap ((k0:Int) + (i:Int))=((k0 + i:Nat):Int):=by rw [wrap64 (by omega)]; omega
  have h2:IntKind.i64.wrap (8 * (i:Int))=((8 * i:Nat):Int):=by rw [wrap64 (by omega)]; omega
  have h3:IntKind.i64.wrap ((i:Int) + 1)=((i + 1:Nat):Int):=by rw [wrap64 (by omega)]; omega
  have hcv:=fun S=>cvu (S:=S) (i:=8 * i) (by omega)
  have hsh:=fun K'=>zrl (K:= .u64) (K':=K') (t:=30) (v:=v) (i:=i) rfl (by omega)
  have hc5:=fun S=>q3z (S:=S) (n:=v / 256 ^ i)
  have hS:([rowY (layB b k0 (leB i v))]:zA)[0]? = some (rowY (layB b k0 (leB i v))):=rfl
  have hix:=ixY (n:=b.length) (i:=k0 + i) hS (by omega)
  have hrw:=zmf (i:=k0 + i) hS (by omega)
  have hpt:=ztp (i:=k0 + i) hS (x:=UInt8.ofNat (v / 256 ^ i % 256))
  have e:(layB b k0 (leB i v)).set (k0 + i) (UInt8.ofNat (v / 256 ^ i % 256))=layB b k0 (leB (i + 1) v):=by
   rw [zgn,z53 (by rw [jK]; omega),jK]
  rw [e] at hpt
  have hpt:jE [rowY (layB b k0 (leB i v))] 0 (k0 + i) (.d (.int .u8 ((UInt8.ofNat (v / 256 ^ i % 256)).toNat:Int)))=some [rowY (layB b k0 (leB (i + 1) v))]:=hpt
  rw [zO]
  refine zM ?_
  conv=>arg 2; whnf
  simp (maxSteps:=1000000) (disch:=first|assumption|omega|rfl) only [↓gp,gc,Nat.reduceAdd,h1,h2,h3,hcv,hsh,hc5,hix,hrw,st5,hpt]
  exact ih (i + 1) _ _ _ _ _ _ _ _ _ _ _ _ _ _ _ _ _ _ _ _ _ _ _ _ _ _ _ _ _ _ _ _ _ _ _ (by omega) (by omega) hR
theorem zgc {S:zA} {T:List V} {dst:Option Tmp} {ty:TypeId} {pos:String} {after:Array Edge} {g:Option (Nat × Bool)}:opV Tryz.prog S T ⟨dst,.buildSlice 76 0 #[],ty,pos,after,g⟩=some (.val (.ts []) S 0):=by kernel_rfl
theorem zx3 (b:List UInt8) (hb0:b ≠ []) (hb:b.length ≤ 1000) (k0 w v:Nat) (hk0:k0 + w ≤ b.length) (hw1:1 ≤ w) (hw8:w ≤ 8):Ev cfg 147 [encB b,.int .i64 (k0:Int),.int .i64 (w:Int),.int .u64 (v:Int)] (.ret (.tup [.d (encB (layB b k0 (leB w v))),.d (.bool true)])):=by
 refine kB rfl rfl zue ?_
 show Wp cfg (Tryz.f147.body.getD .skip) ((.d (encB b))::(.d (.int .i64 (k0:Int)))::(.d (.int .i64 (w:Int)))::(.d (.int .u64 (v:Int)))::uZ (uZ (uZ ((.tup [])::(.tup [])::(.tup [])::(.tup [])::(.tup [])::(.tup [])::(.tup [])::(.tup [])::[])))) [] [] _
 unfold uZ
 conv=>arg 2; whnf
 have c4 : ¬ (w:Int) > 8:=by omega
 have ct:=fun {ops dst k T S F Q}=>z3f (ops:=ops) (dst:=dst) (k:=k) (T:=T) (S:=S) (F:=F) (Q:=Q) (a:=k0) (w:=w) (n:=b.length) (by omega) (by omega) (by omega)
 rw [decide_eq_true (show 1 ≤ w∧k0 + w ≤ b.length from ⟨hw1,hk0⟩)] at ct
 have hln : ∀ S:zA,zL Tryz.prog S .len [76] [.d (encB b)]=some (.val (.d (.int .i64 b.length)) S 0):=fun S=>by rw [encB,znc,List.length_map]
 have hap:=fun S=>zon (S:=S) hb0 (by omega)
 have hll:(layB b k0 (leB w v)).length=b.length:=by rw [kZ (by rw [jK]; omega)]
 simp (maxSteps:=1000000) (disch:=first|assumption|omega|rfl) only [↓gp,gc,Nat.reduceAdd,↓vbs,ct,zm1,hln,zgc,hap]
 have e0:rowY b=rowY (layB b k0 (leB 0 v)):=by rw [show leB 0 v=[] from rfl,z7i]
 rw [e0]
 refine q3e b hb k0 w v hk0 hw8 _ _ _ w 0 _ _ _ _ _ _ _ _ _ _ _ _ _ _ _ _ _ _ _ _ _ _ _ _ _ _ _ _ _ _ _ _ _ _ _ rfl (Nat.zero_le _) ?_
 intro i' g0 g2 g4 g5 g6 g7 gF gD gB gC gA gE gL gM gG gK gN gJ gH gO gQ gU gR gS gV gW gX gY gZ gh gj gk gn gr gz
 simp (maxSteps:=1000000) (disch:=first|assumption|omega|rfl) only [↓gp,gc,Nat.reduceAdd]
 exact zbm rfl rfl rfl rfl (zpq rfl hll.symm) rfl
theorem u64_in {n:Int} (h0:0 ≤ n) (h1:n < 18446744073709551616):IntKind.u64.wrap n=n:=by
 have:IntKind.u64.wrap n=n % 18446744073709551616:=rfl
 rw [this]
 omega
theorem zr8 {a x i:Nat} (ha:a < 256 ^ i):a ||| x * 256 ^ i=a + x * 256 ^ i:=by
 have e:(256:Nat) ^ i=2 ^ (8 * i):=by rw [Nat.pow_mul]
 rw [e] at ha ⊢
 have:=Nat.shiftLeft_add_eq_or_of_lt (i:=8 * i) (b:=a) ha x
 rw [Nat.shiftLeft_eq] at this
 rw [Nat.or_comm,← this,Nat.add_comm]
theorem q3f {a x i:Nat} {t:TypeId} (ha:a < 256 ^ i) (h:a + x * 256 ^ i < 18446744073709551616):binV Tryz.prog .or t (.d (.int .u64 (a:Int))) (.d (.int .u64 ((x * 256 ^ i:Nat):Int)))=some (.d (.int .u64 ((a + x * 256 ^ i:Nat):Int))):=by
 have e1:BitVec.ofInt IntKind.u64.bits (a:Int)=BitVec.ofNat 64 a:=BitVec.ofInt_natCast ..
 have e2:BitVec.ofInt IntKind.u64.bits ((x * 256 ^ i:Nat):Int)=BitVec.ofNat 64 (x * 256 ^ i):=BitVec.ofInt_natCast ..
 have e3:(BitVec.ofNat 64 a ||| BitVec.ofNat 64 (x * 256 ^ i)).toNat=a + x * 256 ^ i:=by
  rw [BitVec.toNat_or,BitVec.toNat_ofNat,BitVec.toNat_ofNat,Nat.mod_eq_of_lt (by omega),Nat.mod_eq_of_lt (by omega),zr8 ha]
 simp only [binV,qR,e1,e2]
 show some (V.d (.int .u64 (IntKind.u64.wrap (((BitVec.ofNat 64 a ||| BitVec.ofNat 64 (x * 256 ^ i)).toNat:Nat):Int))))=_
 rw [e3,u64_in (by omega) (by omega)]
theorem q0q {a x i:Nat} {t:TypeId} (ha:a < 256 ^ i) (h:a + x * 256 ^ i < 9223372036854775808):binV Tryz.prog .or t (.d (.int .i64 (a:Int))) (.d (.int .i64 ((x * 256 ^ i:Nat):Int)))=some (.d (.int .i64 ((a + x * 256 ^ i:Nat):Int))):=by
 have e1:BitVec.ofInt IntKind.i64.bits (a:Int)=BitVec.ofNat 64 a:=BitVec.ofInt_natCast ..
 have e2:BitVec.ofInt IntKind.i64.bits ((x * 256 ^ i:Nat):Int)=BitVec.ofNat 64 (x * 256 ^ i):=BitVec.ofInt_natCast ..
 have e3:(BitVec.ofNat 64 a ||| BitVec.ofNat 64 (x * 256 ^ i)).toNat=a + x * 256 ^ i:=by
  rw [BitVec.toNat_or,BitVec.toNat_ofNat,BitVec.toNat_ofNat,Nat.mod_eq_of_lt (by omega),Nat.mod_eq_of_lt (by omega),zr8 ha]
 simp only [binV,qR,e1,e2]
 show some (V.d (.int .i64 (IntKind.i64.wrap (((BitVec.ofNat 64 a ||| BitVec.ofNat 64 (x * 256 ^ i)).toNat:Nat):Int))))=_
 rw [e3,wrap64 (by omega)]
theorem zyu {x i:Nat} {K':IntKind} {t:TypeId} (hi:i < 8) (h:x * 256 ^ i < 18446744073709551616):binV Tryz.prog .shl t (.d (.int .u64 (x:Int))) (.d (.int K' ((8 * i:Nat):Int)))=some (.d (.int .u64 ((x * 256 ^ i:Nat):Int))):=by
 have e:min ((8 * i:Nat):Int).toNat IntKind.u64.bits=8 * i:=by show min ((8 * i:Nat):Int).toNat 64=8 * i; omega
 have e2:(x:Int) * 2 ^ (8 * i)=((x * 256 ^ i:Nat):Int):=by
  have:(256:Nat) ^ i=2 ^ (8 * i):=by rw [Nat.pow_mul]
  rw [this]; push_cast; rfl
 simp only [binV,qR]
 rw [if_neg (by omega),e,e2,u64_in (by omega) (by omega)]
 rfl
theorem zry {x i:Nat} {K':IntKind} {t:TypeId} (hi:i < 8) (h:x * 256 ^ i < 9223372036854775808):binV Tryz.prog .shl t (.d (.int .i64 (x:Int))) (.d (.int K' ((8 * i:Nat):Int)))=some (.d (.int .i64 ((x * 256 ^ i:Nat):Int))):=by
 have e:min ((8 * i:Nat):Int).toNat IntKind.i64.bits=8 * i:=by show min ((8 * i:Nat):Int).toNat 64=8 * i; omega
 have e2:(x:Int) * 2 ^ (8 * i)=((x * 256 ^ i:Nat):Int):=by
  have:(256:Nat) ^ i=2 ^ (8 * i):=by rw [Nat.pow_mul]
  rw [this]; push_cast; rfl
 simp only [binV,qR]
 rw [if_neg (by omega),e,e2,wrap64 (by omega)]
 rfl
theorem q38 {S:zA} {x:UInt8}:qK Tryz.prog S 5 30 (.d (.int .u8 (x.toNat:Int)))=some (.d (.int .u64 (x.toNat:Int)),0):=by
 have h1:Tryz.prog.underlying 5=some (.int .u8):=by kernel_rfl
 have h2:Tryz.prog.underlying 30=some (.int .u64):=by kernel_rfl
 have:x.toNat < 256:=x.toNat_lt
 simp only [qK,h1,h2]
 rw [u64_in (by omega) (by omega)]
theorem cv53 {S:zA} {x:UInt8}:qK Tryz.prog S 5 3 (.d (.int .u8 (x.toNat:Int)))=some (.d (.int .i64 (x.toNat:Int)),0):=by
 have h1:Tryz.prog.underlying 5=some (.int .u8):=by kernel_rfl
 have h2:Tryz.prog.underlying 3=some (.int .i64):=by kernel_rfl
 have:x.toNat < 256:=x.toNat_lt
 simp only [qK,h1,h2]
 rw [wrap64 (by omega)]
theorem zga {t:List UInt8} {i:Nat} (h:i < t.length):leN (t.take (i + 1))=leN (t.take i) + t[i].toNat * 256 ^ i:=by
 rw [List.take_add_one,List.getElem?_eq_getElem h]
 show leN (t.take i ++ [t[i]])=_
 rw [zgv,List.length_take,Nat.min_eq_left (by omega),Nat.mul_comm]
theorem z23 {t:List UInt8} {i:Nat} (h:i ≤ t.length):leN (t.take i) < 256 ^ i:=by
 have:=zrq (t.take i)
 rwa [List.length_take,Nat.min_eq_left h] at this
theorem zr2 {i w:Nat} (h:i ≤ w):(256:Nat) ^ i ≤ 256 ^ w:=Nat.pow_le_pow_right (by decide) h
theorem q28 (b:List UInt8) (hb:b.length ≤ 1000) (k0:Nat) (t:List UInt8) (ht:t=(b.drop k0).take t.length) (hk0:k0 + t.length ≤ b.length) (hw8:t.length ≤ 8) (x6 x7:V) (R:Post) (S:zA) : ∀ (k i:Nat) (g2 g3 g4 g5 g9 gI gF gD gB gC gA gE gL gM gG gJ gH gO gP gT gQ gU gR gS gV gW gX gY gZ gh gj gk:V),t.length - i=k→i ≤ t.length →
 (∀ i' g2 g3 g4 g5 g9 gI gF gD gB gC gA gE gL gM gG gJ gH gO gP gT gQ gU gR gS gV gW gX gY gZ gh gj gk,R (.exit 0) ((.d (encB b))::(.d (.int .i64 (k0:Int)))::g2::g3::g4::g5::x6::x7::(.d (.int .u64 (leN t:Int)))::g9::gI::gF::gD::gB::gC::gA::gE::gL::gM::gG::(.d (.int .i64 (t.length:Int)))::i'::gJ::gH::gO::gP::gT::gQ::gU::gR::gS::gV::gW::gX::gY::gZ::gh::gj::gk::[]) S []) →
 Wp cfg (.loop (lpOf (Tryz.f118.body.getD .skip) 0)) ((.d (encB b))::(.d (.int .i64 (k0:Int)))::g2::g3::g4::g5::x6::x7::(.d (.int .u64 (leN (t.take i):Int)))::g9::gI::gF::gD::gB::gC::gA::gE::gL::gM::gG::(.d (.int .i64 (t.length:Int)))::(.d (.int .i64 (i:Int)))::gJ::gH::gO::gP::gT::gQ::gU::gR::gS::gV::gW::gX::gY::gZ::gh::gj::gk::[]) S [] R:=by
 intro k
 induction k with
 | zero =>
  intro i g2 g3 g4 g5 g9 gI gF gD gB gC gA gE gL gM gG gJ gH gO gP gT gQ gU gR gS gV gW gX gY gZ gh gj gk hk hi hR
  have hie:i=t.length:=by omega
  subst hie
  rw [List.take_length]
  rw [zO]
  refine zM ?_
  conv=>arg 2; whnf
  simp (maxSteps:=1000000) (disch:=first|assumption|omega|rfl) only [↓gp,gc,Nat.reduceAdd]
  exact hR _ _ _ _ _ _ _ _ _ _ _ _ _ _ _ _ _ _ _ _ _ _ _ _ _ _ _ _ _ _ _ _ _
 | succ k ih =>
  intro i g2 g3 g4 g5 g9 gI gF gD gB gC gA gE gL gM gG gJ gH gO gP gT gQ gU gR gS gV gW gX gY gZ gh gj gk hk hi hR
  have hlt:i < t.length:=by omega
  have h1:IntKind.i64.wrap ((k0:Int) + (i:Int))=((k0 + i:Nat):Int):=by rw [wrap64 (by omega)]; omega
  have h2:IntKind.i64.wrap (8 * (i:Int))=((8 * i:Nat):Int):=by rw [wrap64 (by omega)]; omega
  have h3:IntKind.i64.wrap ((i:Int) + 1)=((i + 1:Nat):Int):=by rw [wrap64 (by omega)]; omega
  have hcv:=fun S=>cvu (S:=S) (i:=8 * i) (by omega)
  have he:b[k0 + i]=t[i]:=by
   have:t[i]=((b.drop k0).take t.length)[i]'(by rw [← ht]; exact hlt):=by congr 1
   rw [this]; simp
  have hix : ∀ S:zA,zK Tryz.prog S 76 (.d (encB b)) (.d (.int .i64 ((k0 + i:Nat):Int)))=some (.d (.ptr (.int .u8 (t[i].toNat:Int)))):=fun S=>by rw [encB,ix76 (l:=b) (i:=k0 + i) (by omega),he]
  have hn:=zga hlt
  have hlow:=z23 (t:=t) (i:=i) (by omega)
  have hhi:=z23 (t:=t) (i:=i + 1) (by omega)
  have hp:=zr2 (i:=i + 1) (w:=8) (by omega)
  have hp8:(256:Nat) ^ 8=18446744073709551616:=by decide
  rw [hn] at hhi
  have hcx:=fun S=>q38 (S:=S) (x:=t[i])
  have hsh:=fun K'=>zyu (K':=K') (t:=30) (x:=t[i].toNat) (i:=i) (by omega) (by omega)
  have hor:=q3f (t:=30) (a:=leN (t.take i)) (x:=t[i].toNat) (i:=i) hlow (by omega)
  rw [← hn] at hor
  rw [zO]
  refine zM ?_
  conv=>arg 2; whnf
  simp (maxSteps:=1000000) (disch:=first|assumption|omega|rfl) only [↓gp,gc,Nat.reduceAdd,h1,h2,h3,hcv,hix,hcx,hsh,hor]
  exact ih (i + 1) _ _ _ _ _ _ _ _ _ _ _ _ _ _ _ _ _ _ _ _ _ _ _ _ _ _ _ _ _ _ _ _ (by omega) (by omega) hR
theorem q1c (b:List UInt8) (hb:b.length ≤ 1000) (k0 w:Nat) (hk0:k0 + w ≤ b.length) (hw1:1 ≤ w) (hw8:w ≤ 8):Ev cfg 118 [encB b,.int .i64 (k0:Int),.int .i64 (w:Int)] (.ret (.tup [.d (.int .u64 (leN ((b.drop k0).take w):Int)),.d (.bool true)])):=by
 refine kB rfl rfl zs1 ?_
 show Wp cfg (Tryz.f118.body.getD .skip) ((.d (encB b))::(.d (.int .i64 (k0:Int)))::(.d (.int .i64 (w:Int)))::uZ (uZ (uZ ((.tup [])::(.tup [])::(.tup [])::(.tup [])::(.tup [])::(.tup [])::[])))) [] [] _
 unfold uZ
 conv=>arg 2; whnf
 have c4 : ¬ (w:Int) > 8:=by omega
 have ct:=fun {ops dst k T S F Q}=>z3f (ops:=ops) (dst:=dst) (k:=k) (T:=T) (S:=S) (F:=F) (Q:=Q) (a:=k0) (w:=w) (n:=b.length) (by omega) (by omega) (by omega)
 rw [decide_eq_true (show 1 ≤ w∧k0 + w ≤ b.length from ⟨hw1,hk0⟩)] at ct
 have hln : ∀ S:zA,zL Tryz.prog S .len [76] [.d (encB b)]=some (.val (.d (.int .i64 b.length)) S 0):=fun S=>by rw [encB,znc,List.length_map]
 simp (maxSteps:=1000000) (disch:=first|assumption|omega|rfl) only [↓gp,gc,Nat.reduceAdd,ct,zm1,hln]
 have hl:((b.drop k0).take w).length=w:=by rw [List.length_take,List.length_drop]; omega
 have ht:(b.drop k0).take w=(b.drop k0).take ((b.drop k0).take w).length:=by rw [hl]
 generalize (b.drop k0).take w=t at *
 subst hl
 refine q28 b hb k0 t ht hk0 hw8 _ _ _ _ t.length 0 _ _ _ _ _ _ _ _ _ _ _ _ _ _ _ _ _ _ _ _ _ _ _ _ _ _ _ _ _ _ _ _ rfl (Nat.zero_le _) ?_
 intro i' g2 g3 g4 g5 g9 gI gF gD gB gC gA gE gL gM gG gJ gH gO gP gT gQ gU gR gS gV gW gX gY gZ gh gj gk
 simp (maxSteps:=1000000) (disch:=first|assumption|omega|rfl) only [↓gp,gc,Nat.reduceAdd]
 exact zbm rfl rfl rfl rfl rfl rfl
theorem at_l (b:List UInt8) (hb:b.length=256) (k0:Nat) (t:List UInt8) (ht:t=(b.drop k0).take t.length) (hk0:k0 + t.length ≤ b.length) (hw4:t.length ≤ 4) (x6:V) (R:Post) : ∀ (k i:Nat) (g0 g2 g4 g5 g8 g9 gI gF gD gB gC gA gE gG gK gN gJ gH gO gP gT gQ gU gR gS gV gW gX gY:V),t.length - i=k→i ≤ t.length →
 (∀ i' g0 g2 g4 g5 g8 g9 gI gF gD gB gC gA gE gG gK gN gJ gH gO gP gT gQ gU gR gS gV gW gX gY,R (.exit 0) (g0::(.d (.int .i64 (k0:Int)))::g2::(.ref 0 0 0)::g4::g5::x6::(.d (.int .i64 (leN t:Int)))::g8::g9::gI::gF::gD::gB::gC::gA::gE::(.d (.int .i64 (t.length:Int)))::i'::gG::gK::gN::gJ::gH::gO::gP::gT::gQ::gU::gR::gS::gV::gW::gX::gY::[]) [.row [.d (blkD b)] 42] []) →
 Wp cfg (.loop (lpOf (Tryz.f119.body.getD .skip) 0)) (g0::(.d (.int .i64 (k0:Int)))::g2::(.ref 0 0 0)::g4::g5::x6::(.d (.int .i64 (leN (t.take i):Int)))::g8::g9::gI::gF::gD::gB::gC::gA::gE::(.d (.int .i64 (t.length:Int)))::(.d (.int .i64 (i:Int)))::gG::gK::gN::gJ::gH::gO::gP::gT::gQ::gU::gR::gS::gV::gW::gX::gY::[]) [.row [.d (blkD b)] 42] [] R:=by
 intro k
 induction k with
 | zero =>
  intro i g0 g2 g4 g5 g8 g9 gI gF gD gB gC gA gE gG gK gN gJ gH gO gP gT gQ gU gR gS gV gW gX gY hk hi hR
  have hie:i=t.length:=by omega
  subst hie
  rw [List.take_length]
  rw [zO]
  refine zM ?_
  conv=>arg 2; whnf
  simp (maxSteps:=1000000) (disch:=first|assumption|omega|rfl) only [↓gp,gc,Nat.reduceAdd]
  exact hR _ _ _ _ _ _ _ _ _ _ _ _ _ _ _ _ _ _ _ _ _ _ _ _ _ _ _ _ _ _
 | succ k ih =>
  intro i g0 g2 g4 g5 g8 g9 gI gF gD gB gC gA gE gG gK gN gJ gH gO gP gT gQ gU gR gS gV gW gX gY hk hi hR
  have hlt:i < t.length:=by omega
  have h1:IntKind.i64.wrap ((k0:Int) + (i:Int))=((k0 + i:Nat):Int):=by rw [wrap64 (by omega)]; omega
  have h2:IntKind.i64.wrap (8 * (i:Int))=((8 * i:Nat):Int):=by rw [wrap64 (by omega)]; omega
  have h3:IntKind.i64.wrap ((i:Int) + 1)=((i + 1:Nat):Int):=by rw [wrap64 (by omega)]; omega
  have hcv:=fun S=>cvu (S:=S) (i:=8 * i) (by omega)
  have hia:=fun S j x=>ia42 (S:=S) (j:=j) (x:=x) (i:=k0 + i) (by omega)
  have hg:=bt42.get (v:= .d (blkD b)) wI hb (i:=k0 + i) (by omega)
  have he:b[k0 + i]=t[i]:=by
   have:t[i]=((b.drop k0).take t.length)[i]'(by rw [← ht]; exact hlt):=by congr 1
   rw [this]; simp
  rw [he] at hg
  have hn:=zga hlt
  have hlow:=z23 (t:=t) (i:=i) (by omega)
  have hhi:=z23 (t:=t) (i:=i + 1) (by omega)
  have hp:=zr2 (i:=i + 1) (w:=4) (by omega)
  have hp8:(256:Nat) ^ 4=4294967296:=by decide
  rw [hn] at hhi
  have hcx:=fun S=>cv53 (S:=S) (x:=t[i])
  have hsh:=fun K'=>zry (K':=K') (t:=3) (x:=t[i].toNat) (i:=i) (by omega) (by omega)
  have hor:=q0q (t:=3) (a:=leN (t.take i)) (x:=t[i].toNat) (i:=i) hlow (by omega)
  rw [← hn] at hor
  rw [zO]
  refine zM ?_
  conv=>arg 2; whnf
  simp (maxSteps:=1000000) (disch:=first|assumption|omega|rfl) only [↓gp,gc,Nat.reduceAdd,h1,h2,h3,hcv,hia,hg,hcx,hsh,hor]
  exact ih (i + 1) _ _ _ _ _ _ _ _ _ _ _ _ _ _ _ _ _ _ _ _ _ _ _ _ _ _ _ _ _ (by omega) (by omega) hR
theorem q2a (b:List UInt8) (hb:b.length=256) (k0 w:Nat) (hk0:k0 + w ≤ 256) (hw1:1 ≤ w) (hw4:w ≤ 4):Ev cfg 119 [blkD b,.int .i64 (k0:Int),.int .i64 (w:Int)] (.ret (.d (.int .i64 (leN ((b.drop k0).take w):Int)))):=by
 refine kB rfl rfl zsg ?_
 show Wp cfg (Tryz.f119.body.getD .skip) ((.d (blkD b))::(.d (.int .i64 (k0:Int)))::(.d (.int .i64 (w:Int)))::uZ (uZ (uZ ((.tup [])::(.tup [])::[])))) [] [] _
 unfold uZ
 conv=>arg 2; whnf
 have c4 : ¬ (w:Int) > 4:=by omega
 have hf:=fd42 hb
 have ct:=fun {ops dst k T S F Q}=>z3f (ops:=ops) (dst:=dst) (k:=k) (T:=T) (S:=S) (F:=F) (Q:=Q) (a:=k0) (w:=w) (n:=256) (by omega) (by omega) (by omega)
 rw [decide_eq_true (show 1 ≤ w∧k0 + w ≤ 256 from ⟨hw1,hk0⟩)] at ct
 simp only [zd0] at ct
 simp (maxSteps:=1000000) (disch:=first|assumption|omega|rfl) only [↓gp,gc,Nat.reduceAdd,hf,ct,zm1]
 have hl:((b.drop k0).take w).length=w:=by rw [List.length_take,List.length_drop]; omega
 have ht:(b.drop k0).take w=(b.drop k0).take ((b.drop k0).take w).length:=by rw [hl]
 generalize (b.drop k0).take w=t at *
 subst hl
 refine at_l b hb k0 t ht (by omega) hw4 _ _ t.length 0 _ _ _ _ _ _ _ _ _ _ _ _ _ _ _ _ _ _ _ _ _ _ _ _ _ _ _ _ _ rfl (Nat.zero_le _) ?_
 intro i' g0 g2 g4 g5 g8 g9 gI gF gD gB gC gA gE gG gK gN gJ gH gO gP gT gQ gU gR gS gV gW gX gY
 simp (maxSteps:=1000000) (disch:=first|assumption|omega|rfl) only [↓gp,gc,Nat.reduceAdd]
 exact zU rfl rfl rfl
theorem zeo {n:Int}:IntKind.u32.wrap n=n % 4294967296:=rfl
theorem q1q {h:Nat} {x:UInt8} (hh:h < 4294967296):binV Tryz.prog .xor 210 (.d (.int .u32 (h:Int))) (.d (.int .u32 (x.toNat:Int)))=some (.d (.int .u32 ((h ^^^ x.toNat:Nat):Int))):=by
 have hx:x.toNat < 256:=x.toNat_lt
 have e1:BitVec.ofInt IntKind.u32.bits (h:Int)=BitVec.ofNat 32 h:=BitVec.ofInt_natCast ..
 have e2:BitVec.ofInt IntKind.u32.bits (x.toNat:Int)=BitVec.ofNat 32 x.toNat:=BitVec.ofInt_natCast ..
 have e3:(BitVec.ofNat 32 h ^^^ BitVec.ofNat 32 x.toNat).toNat=h ^^^ x.toNat:=by
  rw [BitVec.toNat_xor,BitVec.toNat_ofNat,BitVec.toNat_ofNat,Nat.mod_eq_of_lt (by omega),Nat.mod_eq_of_lt (by omega)]
 have hlt:h ^^^ x.toNat < 4294967296:=Nat.xor_lt_two_pow (n:=32) hh (by omega)
 simp only [binV,qR,e1,e2]
 show some (V.d (.int .u32 (IntKind.u32.wrap (((BitVec.ofNat 32 h ^^^ BitVec.ofNat 32 x.toNat).toNat:Nat):Int))))=_
 rw [e3,zeo]
 congr 3
 omega
theorem q1p {h:Nat} {x:UInt8}:binV Tryz.prog .mul 210 (.d (.int .u32 ((h ^^^ x.toNat:Nat):Int))) (.d (.int .u32 16777619))=some (.d (.int .u32 (mixS h x:Int))):=by
 have:IntKind.u32.wrap (((h ^^^ x.toNat:Nat):Int) * 16777619)=(mixS h x:Int):=by
  rw [zeo]; unfold mixS; omega
 simp only [binV,qR,this]
 rfl
theorem zzx {S:zA} {x:UInt8}:qK Tryz.prog S 5 210 (.d (.int .u8 (x.toNat:Int)))=some (.d (.int .u32 (x.toNat:Int)),0):=by
 have h1:Tryz.prog.underlying 5=some (.int .u8):=by kernel_rfl
 have h2:Tryz.prog.underlying 210=some (.int .u32):=by kernel_rfl
 have hx:x.toNat < 256:=x.toNat_lt
 simp only [qK,h1,h2]
 have:IntKind.u32.wrap (x.toNat:Int)=(x.toNat:Int):=by rw [zeo]; omega
 rw [this]
theorem zjx {s:List UInt8} {x:UInt8} {h:Nat}:mixL h (s ++ [x])=mixS (mixL h s) x:=by
 unfold mixL
 rw [List.foldl_append,List.foldl_cons,List.foldl_nil]
theorem zjw {s:List UInt8} {i h:Nat} (hi:i < s.length):mixL h (s.take (i + 1))=mixS (mixL h (s.take i)) s[i]:=by
 rw [List.take_succ_eq_append_getElem hi,zjx]
theorem zx5 (s:List UInt8) (hs:s.length ≤ 1000000) (h:Nat) (hh:h < 4294967296) (x4:V) (R:Post) (S:zA) : ∀ (k i:Nat) (g2 g3 g5 g6 g9 gI gF gD gB gC gA gE gL gM gG:V),s.length - i=k→i ≤ s.length →
 (∀ i' g2 g3 g5 g6 g9 gI gF gD gB gC gA gE gL gM gG,R (.exit 0) ((.d (.int .u32 (mixL h s:Int)))::(.d (.str s))::g2::g3::x4::g5::g6::(.d (.int .i64 (s.length:Int)))::i'::g9::gI::gF::gD::gB::gC::gA::gE::gL::gM::gG::[]) S []) →
 Wp cfg (.loop (lpOf (Tryz.f161.body.getD .skip) 0)) ((.d (.int .u32 (mixL h (s.take i):Int)))::(.d (.str s))::g2::g3::x4::g5::g6::(.d (.int .i64 (s.length:Int)))::(.d (.int .i64 (i:Int)))::g9::gI::gF::gD::gB::gC::gA::gE::gL::gM::gG::[]) S [] R:=by
 intro k
 induction k with
 | zero =>
  intro i g2 g3 g5 g6 g9 gI gF gD gB gC gA gE gL gM gG hk hi hR
  have hie:i=s.length:=by omega
  subst hie
  rw [List.take_length]
  rw [zO]
  refine zM ?_
  conv=>arg 2; whnf
  simp (maxSteps:=1000000) (disch:=first|assumption|omega|rfl) only [↓gp,gc,Nat.reduceAdd]
  exact hR _ _ _ _ _ _ _ _ _ _ _ _ _ _ _ _
 | succ k ih =>
  intro i g2 g3 g5 g6 g9 gI gF gD gB gC gA gE gL gM gG hk hi hR
  have hlt:i < s.length:=by omega
  have h3:IntKind.i64.wrap ((i:Int) + 1)=((i + 1:Nat):Int):=by rw [wrap64 (by omega)]; omega
  have hix:=q4k hlt
  have hcx:=fun S=>zzx (S:=S) (x:=s[i])
  have hlt2:=zfr (s.take i) h hh
  have hxo:=q1q (x:=s[i]) hlt2
  have hmu:=q1p (h:=mixL h (s.take i)) (x:=s[i])
  rw [← zjw hlt] at hmu
  rw [zO]
  refine zM ?_
  conv=>arg 2; whnf
  simp (maxSteps:=1000000) (disch:=first|assumption|omega|rfl) only [↓gp,gc,Nat.reduceAdd,h3,hix,hcx,hxo,hmu]
  exact ih (i + 1) _ _ _ _ _ _ _ _ _ _ _ _ _ _ _ (by omega) (by omega) hR
theorem zua (s:List UInt8) (hs:s.length ≤ 1000000) (h:Nat) (hh:h < 4294967296):Ev cfg 161 [.int .u32 (h:Int),.str s] (.ret (.d (.int .u32 (mixL h s:Int)))):=by
 refine kB rfl rfl zru ?_
 show Wp cfg (Tryz.f161.body.getD .skip) ((.d (.int .u32 (h:Int)))::(.d (.str s))::uZ ((.tup [])::(.tup [])::(.tup [])::(.tup [])::(.tup [])::(.tup [])::(.tup [])::(.tup [])::[])) [] [] _
 unfold uZ
 conv=>arg 2; whnf
 simp (maxSteps:=1000000) (disch:=first|assumption|omega|rfl) only [↓gp,gc,Nat.reduceAdd]
 refine zx5 s hs h hh _ _ _ s.length 0 _ _ _ _ _ _ _ _ _ _ _ _ _ _ _ rfl (Nat.zero_le _) ?_
 intro i' g2 g3 g5 g6 g9 gI gF gD gB gC gA gE gL gM gG
 simp (maxSteps:=1000000) (disch:=first|assumption|omega|rfl) only [↓gp,gc,Nat.reduceAdd]
 exact zU rfl rfl rfl
section
variable {ops:Array Oper} {dst:Option Tmp} {k:List Oper} {T:List V} {S:zA} {F:Dfs} {Q:Post}
theorem zit {s:List UInt8} (hs:s.length ≤ 1000000):WpR cfg ops dst k T S F Q (some (.enter 161 [.d (.int .u32 2166136261),.d (.str s)]))=WpL cfg ops k (putT T dst (.d (.int .u32 (zdl s:Int)))) S F Q :=
 qJ (ds:=[.int .u32 2166136261,.str s]) rfl (zua s hs 2166136261 (by decide))
end
theorem q1v (s:List UInt8) (hs:s.length ≤ 1000000):Ev cfg 149 [.str s] (.ret (.d (.int .u32 (zdl s:Int)))):=by
 refine kB rfl rfl zv6 ?_
 show Wp cfg (Tryz.f149.body.getD .skip) ((.d (.str s))::(.tup [])::(.tup [])::(.tup [])::(.tup [])::[]) [] [] _
 conv=>arg 2; whnf
 simp (maxSteps:=1000000) (disch:=first|assumption|omega|rfl) only [↓gp,gc,Nat.reduceAdd,zit hs,zzd]
 exact zU rfl rfl rfl
section
variable {ops:Array Oper} {dst:Option Tmp} {k:List Oper} {T:List V} {S:zA} {F:Dfs} {Q:Post}
theorem zqf {o o2:Oper} {T2:List V} (h:wF cfg.P T o (o2::k)=some T2):WpL cfg ops (o::o2::k) T S F Q=WpL cfg ops k T2 S F Q:=by
 have e : ∀ n,seqV cfg (run cfg n) ops (o::o2::k) T S F=seqV cfg (run cfg n) ops k T2 S F:=fun n=>by
  conv=>lhs; unfold seqV
  simp only [h]
 unfold WpL
 simp only [e]
theorem zpp {d:Nat} {dst2:Option Tmp} {ty ty2:TypeId} {pos pos2:String} {af af2:Array Edge} (hd:Nat.ble (d + 1) T.length=true) :
  WpL cfg ops (⟨some d,.buildSlice 76 8 #[(0,.const (.int .u8 101)),(1,.const (.int .u8 115)),(2,.const (.int .u8 99)),(3,.const (.int .u8 104)),(4,.const (.int .u8 101)),(5,.const (.int .u8 97)),(6,.const (.int .u8 116)),(7,.const (.int .u8 49))],ty,pos,af,none⟩::⟨dst2,.convert 76 76 (.tmp d),ty2,pos2,af2,none⟩::k) T S F Q=WpL cfg ops k (putT (putT T (some d) .junk) dst2 (.ts (magicB.map byD))) S F Q:=by
 refine zqf ?_
 have hd':d < T.length:=Nat.le_of_ble_eq_true hd
 have hu:Tryz.prog.underlying 76=some (.slice 5):=Tryz.underlying76
 unfold wF
 simp only
 rw [if_pos ⟨rfl,rfl,trivial,trivial,trivial,hd'⟩]
 rfl
end
theorem zav {ops:Array Oper} {dst:Option Tmp} {k:List Oper} {T:List V} {S:zA} {F:Dfs} {Q:Post} {l:Lay} (hb:InB l.blocks) (hi:InB l.inodes):WpR cfg ops dst k T S F Q (some (.enter 75 [.d (encLay l)]))=WpL cfg ops k (putT T dst (.d (.int .i64 (if MayL l then 0 else 1)))) S F Q :=
 qJ (ds:=[encLay l]) rfl (zgr l hb hi)
theorem zvk {ops:Array Oper} {dst:Option Tmp} {k:List Oper} {T:List V} {S:zA} {F:Dfs} {Q:Post}:WpR cfg ops dst k T S F Q (some (.enter 145 [.ts (magicB.map byD)]))=WpL cfg ops k (putT T dst (.d (blkD (magicB ++ zT 248)))) S F Q :=
 wA (ds:=[encB magicB]) rfl (by kernel_rfl) (by kernel_rfl) (by rw [← (znf 0 0 0).1]; exact q2o magicB (by decide))
theorem zgl {ops:Array Oper} {dst:Option Tmp} {k:List Oper} {T:List V} {S:zA} {F:Dfs} {Q:Post} {b:List UInt8} (hb:b.length=256) {k0 n:Nat} (hn:1 ≤ n) (hk0:k0 + n ≤ 256):WpR cfg ops dst k T S F Q (some (.enter 107 [.d (blkD b),.d (.int .i64 (k0:Int)),.d (.int .i64 (n:Int))]))=WpL cfg ops k (putT T dst (.d (encB ((b.drop k0).take n)))) S F Q :=
 qJ (ds:=[blkD b,.int .i64 (k0:Int),.int .i64 (n:Int)]) rfl (zrb b hb k0 n hn hk0)
theorem zoh {ops:Array Oper} {dst:Option Tmp} {k:List Oper} {T:List V} {S:zA} {F:Dfs} {Q:Post} {s:List UInt8} (hs:s.length ≤ 1000000):WpR cfg ops dst k T S F Q (some (.enter 149 [.d (.str s)]))=WpL cfg ops k (putT T dst (.d (.int .u32 (zdl s:Int)))) S F Q :=
 qJ (ds:=[.str s]) rfl (q1v s hs)
theorem zqc {l:List UInt8}:z6t (l.map fun b=>V.d (.int .u8 b.toNat))=some l:=by
 induction l with
 | nil=>rfl
 | cons b r ih =>
  simp only [List.map_cons,z6t,ih]
  rw [Int.toNat_natCast,UInt8.ofNat_toNat]
theorem zeq {P:Program} {T:List V} {S:zA} {t a u:Nat} {v w x:V} {d e:D} (hv:T.getD t (.tup [])=v) (ha:T.getD a (.tup [])=w) (hl:kM P S u w=some x) (h1:v.one=true) (h2:x.one=true) (h3:Go.Vm.frz S zI v=some d) (h4:Go.Vm.frz S zI x=some e):RetQ P #[.cell a u,.tmp t] (.ret (.tup [.d e,.d d])) .ret T S [] :=
 z57 (r1:= .cell a u) (r2:= .tmp t) (l:=[]) (vs:=[x,v]) (ds:=[e,d]) (by simp only [allO,jW,hv,ha,hl]) (by simp [h1,h2]) (by simp only [allO,h3,h4])
theorem zd3 : ∀ l:List UInt8,eqLs Tryz.prog 5 l.length (l.map byD) (l.map byD)=some true
 | []=>rfl
 | x::r=>by
  have h:z1d Tryz.prog 5 (byD x) (byD x)=some true:=by
   have h5:Tryz.prog.underlying 5=some (.int .u8):=by kernel_rfl
   simp [z1d,h5,byD]
  simp only [List.length_cons,List.map_cons,eqLs,h,zd3 r]
theorem q29 {b:List UInt8} (hb:b.length=256):binV Tryz.prog .neq 42 (.d (blkD b)) (.d (blkD b))=some (.d (.bool false)):=by
 have h1:ptrT Tryz.prog 42=false:=by kernel_rfl
 have h2:mapT Tryz.prog 42=false:=by kernel_rfl
 have h3:fnT Tryz.prog 42=false:=by kernel_rfl
 have h4:Tryz.prog.eqGuardType Tryz.prog.depth 42=false:=by kernel_rfl
 have h5:sz Tryz.prog 5=some 1:=by kernel_rfl
 have h6:=zd3 b
 rw [hb] at h6
 have h7:eqD Tryz.prog 8 42 (.agg (b.map byD)) (.agg (b.map byD))=some true:=by
  simp only [eqD,Tryz.underlying42,h5,h6]
  rfl
 have h8:eqV Tryz.prog 42 (.d (.agg (b.map byD))) (.d (.agg (b.map byD)))=some true:=by
  simp only [eqV,h1,h2,h3,asD,h4,h7,Bool.false_eq_true,if_false]
 show (eqV Tryz.prog 42 (.d (.agg (b.map byD))) (.d (.agg (b.map byD)))).map (fun b=>V.d (.bool (!b)))=_
 rw [h8]
 rfl
theorem q2r {S:zA} {l:List UInt8}:qK Tryz.prog S 76 9 (.d (encB l))=some (.d (.str l),1):=by
 have hu:Tryz.prog.underlying 9=some .string:=by kernel_rfl
 have h5:Tryz.prog.underlying 5=some (.int .u8):=by kernel_rfl
 unfold encB
 simp only [qK,Tryz.underlying76,hu,h5,kI,List.map_map,Function.comp_def,zqc,Option.map_some]
theorem q1i {S:zA} {h:Nat} (hh:h < 4294967296):qK Tryz.prog S 210 3 (.d (.int .u32 (h:Int)))=some (.d (.int .i64 (h:Int)),0):=by
 have h1:Tryz.prog.underlying 210=some (.int .u32):=by kernel_rfl
 have h2:Tryz.prog.underlying 3=some (.int .i64):=by kernel_rfl
 simp only [qK,h1,h2]
 rw [wrap64 (by omega)]
theorem zq2 {n v:Nat}:layB (zT n) 0 (leB n v)=leB n v:=by
 have:=z3i (a:=[]) (n:=n) (d:=leB n v) (by rw [jK]; omega)
 rw [jK,Nat.sub_self] at this
 simpa [zT] using this
theorem zzc {ops:Array Oper} {F:Dfs} {Q:Post} {K:List Nat→List (Nat × Nat)→List V→zA→Prop} {rd:List Nat} {cs:List (Nat × Nat)} {i id:Nat} {dst:Option Tmp} {T:List V} {S:zA} {M:Nat} (hr:S[id]? = some (.row (List.replicate 8 (.d (.int .u8 0))) 5)) :
  WpE cfg ops F Q K rd cs i dst T S (some (.enter 147 [.rs id 0 8,.d (.int .i64 0),.d (.int .i64 8),.d (.int .u64 (M:Int))]))=(z3r ops rd i 3∧K rd (cs ++ [(i,3)]) (putT T dst (.tup [.d (encB (leB 8 M)),.d (.bool true)])) (S.set id (.fz ((zT 8).map byD) 5))):=by
 have hr':S[id]? = some (rowY (zT 8)):=hr
 have hr2:S[id]? = some (.row (((zT 8).map byD).map .d) 5):=hr
 refine zf7 (ds:=[encB (zT 8),.int .i64 ((0:Nat):Int),.int .i64 ((8:Nat):Int),.int .u64 (M:Int)]) rfl ?_ ?_ hr2 rfl ?_
 ·have h1:Go.Vm.frz S zI (.rs id 0 8)=some (encB (zT 8)):=zpq hr' rfl
  simp only [allO,zu7,h1]
  rfl
 ·have h1:frzIds S zI (.rs id 0 8)=[id]:=by
   show (match S[id]? with | some (.row xs e)=>id::xs.flatMap (frzIds S 11) | _=>[])=_
   rw [hr2]
   simp only [ze6]
  simp only [List.flatMap_cons,h1,List.flatMap_nil,zbz,List.append_nil]
 ·have:=zx3 (zT 8) (by decide) (by decide) 0 8 M (by decide) (by omega) (by omega)
  rw [zq2] at this
  exact this
theorem znb (l:Lay) (B I M:Nat) (hl:l=⟨(B:Int),(I:Int),(M:Int)⟩) (hB:B ≤ 512) (hI:I ≤ 128) (hM:M < 18446744073709551616) (hm:MayL l):Ev cfg 120 [encLay l] (.ret (.tup [.d (blkD (supB B I M)),.d (.int .i64 0)])):=by
 refine kB rfl rfl zwd ?_
 show Wp cfg (Tryz.f120.body.getD .skip) ((.d (encLay l))::uZ (uZ (uZ (uZ ((.tup [])::(.tup [])::(.tup [])::[]))))) [] [] _
 unfold uZ
 conv=>arg 2; whnf
 have hc:=fun {ops dst k T S F Q}=>zav (ops:=ops) (dst:=dst) (k:=k) (T:=T) (S:=S) (F:=F) (Q:=Q) (l:=l) (by subst hl; unfold InB; simp only; omega) (by subst hl; unfold InB; simp only; omega)
 rw [if_pos hm] at hc
 subst hl
 obtain ⟨w1,w2,w3,w4,w5,w6⟩:=znf B I M
 have l1:(magicB ++ zT 248).length=256:=by decide
 have l2:((magicB ++ leB 2 B) ++ zT 246).length=256:=by simp [magicB,jK,z2h]
 have l3:((magicB ++ leB 2 B ++ leB 2 I) ++ zT 244).length=256:=by simp [magicB,jK,z2h]
 have l4:(supL B I M ++ zT 236).length=256:=by rw [List.length_append,z39,z2h]
 have l5:=z5m B I M
 have hx:=zpu (supL B I M)
 have c1:=fun {ops dst k T S F Q}=>z8r (ops:=ops) (dst:=dst) (k:=k) (T:=T) (S:=S) (F:=F) (Q:=Q) (u:= .d (blkD (magicB ++ zT 248))) (b:=magicB ++ zT 248) wI l1 (k0:=8) (w:=2) (v:=B) (by omega) (by omega) (by omega)
 have c2:=fun {ops dst k T S F Q}=>z8r (ops:=ops) (dst:=dst) (k:=k) (T:=T) (S:=S) (F:=F) (Q:=Q) (u:= .d (blkD ((magicB ++ leB 2 B) ++ zT 246))) wI l2 (k0:=10) (w:=2) (v:=I) (by omega) (by omega) (by omega)
 have c3:=fun {ops dst k T S F Q}=>zg9 (ops:=ops) (dst:=dst) (k:=k) (T:=T) (S:=S) (F:=F) (Q:=Q) (u:= .d (blkD ((magicB ++ leB 2 B ++ leB 2 I) ++ zT 244))) (d:=leB 8 M) wI l3 (k0:=12) (by omega) (by rw [jK]; omega)
 have c4:=fun {ops dst k T S F Q}=>zgl (ops:=ops) (dst:=dst) (k:=k) (T:=T) (S:=S) (F:=F) (Q:=Q) l4 (k0:=0) (n:=20) (by omega) (by omega)
 have c5:=fun {ops dst k T S F Q}=>zoh (ops:=ops) (dst:=dst) (k:=k) (T:=T) (S:=S) (F:=F) (Q:=Q) (s:=supL B I M) (by rw [z39]; omega)
 have c6:=fun {ops dst k T S F Q}=>z8r (ops:=ops) (dst:=dst) (k:=k) (T:=T) (S:=S) (F:=F) (Q:=Q) (u:= .d (blkD (supL B I M ++ zT 236))) wI l4 (k0:=20) (w:=4) (v:=zdl (supL B I M)) (by omega) (by omega) (by omega)
 rw [w2] at c1
 rw [w3] at c2
 rw [w4] at c3
 rw [w5] at c4
 rw [w6] at c6
 simp only [nl0,nl1,nl2,nl4,nl8,nl10,nl12,nl16,nl20,zd0] at c1 c2 c3 c4 c5 c6
 have l0:=z256
 have hcv:=fun S=>q1i (S:=S) hx
 simp (maxSteps:=1000000) (disch:=first|assumption|omega|rfl) only [↓gp,gc,Nat.reduceAdd,z42,zf42,hc,bo75]
 rw [zpp (by kernel_rfl)]
 simp (maxSteps:=1000000) (disch:=first|assumption|omega|rfl) only [↓gp,gc,Nat.reduceAdd,z42,zf42,zvk,zyx,c1,c2,zug,zsl,zc3,z3y,z9j]
 have hroom:room Tryz.prog 5 (8:Int).toNat=true:=by kernel_rfl
 have hz0:qE Tryz.prog 5 (.d (.int .u8 0))=true:=by kernel_rfl
 have z5:zeroV Tryz.prog 5=some (.d (.int .u8 0)):=by kernel_rfl
 refine vC (is:=[1,2,0,3,4,5,6,7,8]) (h:=9) (by kernel_rfl) (by kernel_rfl) ?_
 simp (maxSteps:=1000000) (disch:=first|assumption|omega|rfl) only [List.replicate_zero,eq_self,gd,ga,Nat.reduceAdd,↓gq,vso,z8t,zuf,zs5 Tryz.underlying76 z5,q3i hroom hz0,true_and]
 rw [show Int.toNat 8=8 from rfl,zzc rfl]
 refine ⟨fun _=>by kernel_rfl,?_⟩
 simp (maxSteps:=1000000) (disch:=first|assumption|omega|rfl) only [List.replicate_zero,eq_self,gd,ga,Nat.reduceAdd,↓gq,vso]
 refine ⟨by kernel_rfl,?_⟩
 simp (maxSteps:=1000000) (disch:=first|assumption|omega|rfl) only [↓gp,gc,Nat.reduceAdd,c3,zup,c4,zps,c5,zza,c6,zug,q2r,hcv,zsl,zc3,z3y,z9j]
 exact zeq rfl rfl ((zJ rfl).trans (z3y l5)) rfl rfl rfl rfl
section
variable {ops:Array Oper} {dst:Option Tmp} {k:List Oper} {T:List V} {S:zA} {F:Dfs} {Q:Post}
theorem zkm {b:List UInt8} (hb:b.length=8):WpR cfg ops dst k T S F Q (some (.enter 118 [.d (encB b),.d (.int .i64 0),.d (.int .i64 8)]))=WpL cfg ops k (putT T dst (.tup [.d (.int .u64 (leN b:Int)),.d (.bool true)])) S F Q:=by
 have:=q1c b (by omega) 0 8 (by omega) (by omega) (by omega)
 rw [List.drop_zero,List.take_of_length_le (by omega)] at this
 exact qJ (ds:=[encB b,.int .i64 0,.int .i64 8]) rfl this
theorem zmk {l:Lay} {v:V} (h:Ev cfg 120 [encLay l] (.ret v)):WpR cfg ops dst k T S F Q (some (.enter 120 [.d (encLay l)]))=WpL cfg ops k (putT T dst v) S F Q :=
 qJ (ds:=[encLay l]) rfl h
theorem bd24 {a b:Int} {c:Int}:wK Tryz.prog 32 [(0,.d (.int .i64 a)),(1,.d (.int .i64 b)),(2,.d (.int .u64 c))]=some (.agg [.d (.int .i64 a),.d (.int .i64 b),.d (.int .u64 c)]):=by kernel_rfl
end
theorem st24 {a b a' b':Int} {c c':Int}:qY Tryz.prog 32 0 (.agg [.d (.int .i64 a),.d (.int .i64 b),.d (.int .u64 c)]) (.agg [.d (.int .i64 a'),.d (.int .i64 b'),.d (.int .u64 c')])=some (.agg [.d (.int .i64 a),.d (.int .i64 b),.d (.int .u64 c)]):=by kernel_rfl
theorem zww {ops:Array Oper} {dst:Option Tmp} {k:List Oper} {T:List V} {S:zA} {F:Dfs} {Q:Post} {a b:Int} {c:Int} {v:V} (h:Ev cfg 120 [.agg [.int .i64 a,.int .i64 b,.int .u64 c]] (.ret v)):WpR cfg ops dst k T S F Q (some (.enter 120 [.agg [.d (.int .i64 a),.d (.int .i64 b),.d (.int .u64 c)]]))=WpL cfg ops k (putT T dst v) S F Q :=
 wA (ds:=[.agg [.int .i64 a,.int .i64 b,.int .u64 c]]) rfl rfl rfl h
theorem q1b {ops:Array Oper} {F:Dfs} {Q:Post} {K:List Nat→List (Nat × Nat)→List V→zA→Prop} {rd:List Nat} {cs:List (Nat × Nat)} {i:Nat} {dst:Option Tmp} {T:List V} {S:zA} {b:List UInt8} (hb:b.length=256) {k0 w:Nat} (hk0:k0 + w ≤ 256) (hw1:1 ≤ w) (hw4:w ≤ 4) :
  WpE cfg ops F Q K rd cs i dst T S (some (.enter 119 [.d (blkD b),.d (.int .i64 (k0:Int)),.d (.int .i64 (w:Int))]))=K (i::rd) (cs ++ [(i,1)]) (putT T dst (.d (.int .i64 (leN ((b.drop k0).take w):Int)))) S :=
 zdt (ds:=[blkD b,.int .i64 (k0:Int),.int .i64 (w:Int)]) rfl rfl rfl (q2a b hb k0 w hk0 hw1 hw4)
theorem zwg (B I M:Nat) (hB:B ≤ 512) (hI:I ≤ 128) (hM:M < 18446744073709551616) (hm:MayL ⟨(B:Int),(I:Int),(M:Int)⟩):Ev cfg 79 [blkD (supB B I M)] (.ret (.tup [.d (encLay ⟨(B:Int),(I:Int),(M:Int)⟩),.d (.int .i64 0)])):=by
 refine kB rfl rfl zx2 ?_
 show Wp cfg (Tryz.f79.body.getD .skip) ((.d (blkD (supB B I M)))::uZ (uZ (uZ ((.tup [])::(.tup [])::(.tup [])::(.tup [])::[])))) [] [] _
 unfold uZ
 conv=>arg 2; whnf
 have l5:=z5m B I M
 have hf:=fd42 l5
 have hp:=znb _ B I M rfl hB hI hM hm
 have l0:=z256
 have e1:((supB B I M).drop 12).take 8=leB 8 M:=by
  unfold supB supL
  simp [magicB,jK,List.drop_append,List.take_append]
 have c1:=fun {ops dst k T S F Q}=>zgl (ops:=ops) (dst:=dst) (k:=k) (T:=T) (S:=S) (F:=F) (Q:=Q) l5 (k0:=12) (n:=8) (by omega) (by omega)
 rw [e1] at c1
 have c2:=fun {ops dst k T S F Q}=>zkm (ops:=ops) (dst:=dst) (k:=k) (T:=T) (S:=S) (F:=F) (Q:=Q) (jK 8 M)
 rw [zby,Nat.mod_eq_of_lt (by omega)] at c2
 simp only [nl0,nl1,nl2,nl4,nl8,nl10,nl12,nl16,nl20,zd0] at c1 c2
 simp (maxSteps:=1000000) (disch:=first|assumption|omega|rfl) only [↓gp,gc,Nat.reduceAdd,hf,c1,c2,zps,q0d,z3y]
 have a1:((supB B I M).drop 8).take 2=leB 2 B:=by
  unfold supB supL
  simp [magicB,jK,List.drop_append,List.take_append]
 have a2:((supB B I M).drop 10).take 2=leB 2 I:=by
  unfold supB supL
  simp [magicB,jK,List.drop_append,List.take_append]
 have d1:=fun {ops F Q K rd cs i dst T S}=>q1b (ops:=ops) (F:=F) (Q:=Q) (K:=K) (rd:=rd) (cs:=cs) (i:=i) (dst:=dst) (T:=T) (S:=S) l5 (k0:=8) (w:=2) (by omega) (by omega) (by omega)
 have d2:=fun {ops F Q K rd cs i dst T S}=>q1b (ops:=ops) (F:=F) (Q:=Q) (K:=K) (rd:=rd) (cs:=cs) (i:=i) (dst:=dst) (T:=T) (S:=S) l5 (k0:=10) (w:=2) (by omega) (by omega) (by omega)
 rw [a1,zby,Nat.mod_eq_of_lt (by omega)] at d1
 rw [a2,zby,Nat.mod_eq_of_lt (by omega)] at d2
 simp only [nl0,nl1,nl2,nl4,nl8,nl10,nl12,nl16,nl20,zd0] at d1 d2
 refine vC (is:=[0,2,4,1,3,5,6,7]) (h:=8) (by kernel_rfl) (by kernel_rfl) ?_
 simp (maxSteps:=1000000) (disch:=first|assumption|omega|rfl) only [List.replicate_zero,eq_self,gd,ga,Nat.reduceAdd,↓gq,vso,d1,d2,zxf,z3y,bd24,zbk z32 zf32,z8t,true_and,st24]
 refine ⟨fun _=>by kernel_rfl,?_⟩
 refine ⟨by kernel_rfl,?_⟩
 simp (maxSteps:=1000000) (disch:=first|assumption|omega|rfl) only [↓gp,gc,Nat.reduceAdd,zww hp,zv9,z42,zf42,zc3,z3y,q29,st24]
 exact zeq rfl rfl (x:= .agg [.d (.int .i64 (B:Int)),.d (.int .i64 (I:Int)),.d (.int .u64 (M:Int))]) ((zJ rfl).trans (by kernel_rfl)) rfl rfl rfl rfl
theorem zgw:Ev cfg 77 [] (.ret (.d (.int .i64 1))):=⟨50,by kernel_rfl⟩
theorem ztv (l:Lay) (hb:InB l.blocks) (hi:InB l.inodes) (hm:MayL l):Ev cfg 109 [encLay l] (.ret (.d (.bool true))):=by
 refine kB rfl rfl zu1 ?_
 show Wp cfg (Tryz.f109.body.getD .skip) ((.d (encLay l))::(.tup [])::(.tup [])::(.tup [])::(.tup [])::(.tup [])::[]) [] [] _
 conv=>arg 2; whnf
 have hc:=fun {ops dst k T S F Q}=>zav (ops:=ops) (dst:=dst) (k:=k) (T:=T) (S:=S) (F:=F) (Q:=Q) (l:=l) hb hi
 rw [if_pos hm] at hc
 simp (maxSteps:=1000000) (disch:=first|assumption|omega|rfl) only [↓gp,gc,Nat.reduceAdd,hc,bo75]
 exact zU rfl rfl rfl
theorem zg0 (l:Lay) (hb:InB l.blocks) (hi:InB l.inodes) (hm:MayL l):Ev cfg 122 [encLay l] (.ret (.tup [.d (.int .i64 2),.d (.int .i64 (l.inodes.tdiv 8))])):=by
 refine kB rfl rfl zu3 ?_
 show Wp cfg (Tryz.f122.body.getD .skip) ((.d (encLay l))::uZ ((.tup [])::[])) [] [] _
 unfold uZ
 conv=>arg 2; whnf
 have hc:=fun {ops dst k T S F Q}=>qJ (C:=cfg) (ops:=ops) (dst:=dst) (l:=k) (T:=T) (S:=S) (F:=F) (Q:=Q) (ds:=[encLay l]) rfl (ztv l hb hi hm)
 have hc : ∀ {ops dst k T S F Q},WpR cfg ops dst k T S F Q (some (.enter 109 [.d (encLay l)]))=WpL cfg ops k (putT T dst (.d (.bool true))) S F Q:=hc
 have hq:=quo8 hi
 have hM:=fun {ops F Q K rd cs i dst T S}=>z5g (C:=cfg) (ops:=ops) (F:=F) (Q:=Q) (K:=K) (rd:=rd) (cs:=cs) (i:=i) (dst:=dst) (T:=T) (S:=S) (ds:=[]) rfl zgw
 simp only [List.map_nil] at hM
 simp (maxSteps:=1000000) (disch:=first|assumption|omega|rfl) only [↓gp,gc,Nat.reduceAdd,hc,zjp]
 refine vC (is:=[2,3,4,0,1,5,6]) (h:=0) (by kernel_rfl) (by kernel_rfl) ?_
 simp (maxSteps:=1000000) (disch:=first|assumption|omega|rfl) only [List.replicate_zero,eq_self,gd,ga,Nat.reduceAdd,↓gq,vso,hM,bo77,hq]
 refine ⟨by kernel_rfl,?_⟩
 simp (maxSteps:=1000000) (disch:=first|assumption|omega|rfl) only [↓gp,gc,Nat.reduceAdd]
 exact zbm rfl rfl rfl rfl rfl rfl
theorem zbg (l:Lay) (hb:InB l.blocks) (hi:InB l.inodes) (hm:MayL l):Ev cfg 108 [encLay l] (.ret (.d (.int .i64 (2 + l.inodes.tdiv 8)))):=by
 refine kB rfl rfl zwo ?_
 show Wp cfg (Tryz.f108.body.getD .skip) ((.d (encLay l))::uZ ((.tup [])::(.tup [])::[])) [] [] _
 unfold uZ
 conv=>arg 2; whnf
 have hc : ∀ {ops dst k T S F Q},WpR cfg ops dst k T S F Q (some (.enter 122 [.d (encLay l)]))=WpL cfg ops k (putT T dst (.tup [.d (.int .i64 2),.d (.int .i64 (l.inodes.tdiv 8))])) S F Q:=fun {ops dst k T S F Q}=>qJ (C:=cfg) (ops:=ops) (dst:=dst) (l:=k) (T:=T) (S:=S) (F:=F) (Q:=Q) (ds:=[encLay l]) rfl (zg0 l hb hi hm)
 have hd:0 ≤ l.inodes.tdiv 8∧l.inodes.tdiv 8 ≤ 16:=by
  have h1:=hm.2.2.1
  have h2:=hm.2.2.2.1
  rw [Int.tdiv_eq_ediv_of_nonneg (by omega)]; omega
 have hw:IntKind.i64.wrap (2 + l.inodes.tdiv 8)=2 + l.inodes.tdiv 8:=wrap64 (by omega)
 simp (maxSteps:=1000000) (disch:=first|assumption|omega|rfl) only [↓gp,gc,Nat.reduceAdd,hc,ztg,hw]
 exact zU rfl rfl rfl
def upto (n:Nat):List Int:=(List.range n).map fun i:Nat=>(i:Int)
theorem zjy (n:Nat):upto (n + 1)=upto n ++ [(n:Int)]:=by unfold upto; rw [List.range_succ,List.map_append]; rfl
theorem z7c (n:Nat):(upto n).length=n:=by unfold upto; simp
def encI (l:List Int):D:= .sl (l.map (D.int .i64))
theorem q37 (l:Lay) (n:Nat) (hn:n ≤ 1000) (R:Post) : ∀ (k i:Nat) (S:zA) (v3 g0 g1 g2 g4 g5 g8 g9 gI gF gD gB gC gA:V),n - i=k→i ≤ n→OwnS S v3 3 ((upto i).map fun x=>.d (D.int .i64 x)) →
 (∀ S v3 i' g0 g1 g2 g4 g5 g8 g9 gI gF gD gB gC gA,OwnS S v3 3 ((upto n).map fun x=>.d (D.int .i64 x))→R (.exit 0) (g0::g1::g2::v3::g4::g5::(.d (.int .i64 (n:Int)))::i'::g8::g9::gI::gF::gD::gB::gC::gA::[]) S []) →
 Wp cfg (.loop (lpOf (Tryz.f138.body.getD .skip) 0)) (g0::g1::g2::v3::g4::g5::(.d (.int .i64 (n:Int)))::(.d (.int .i64 (i:Int)))::g8::g9::gI::gF::gD::gB::gC::gA::[]) S [] R:=by
 intro k
 induction k with
 | zero =>
  intro i S v3 g0 g1 g2 g4 g5 g8 g9 gI gF gD gB gC gA hk hi ho hR
  have hie:i=n:=by omega
  subst hie
  rw [zO]
  refine zM ?_
  conv=>arg 2; whnf
  simp (maxSteps:=1000000) (disch:=first|assumption|omega|rfl) only [↓gp,gc,Nat.reduceAdd]
  exact hR _ _ _ _ _ _ _ _ _ _ _ _ _ _ _ _ ho
 | succ k ih =>
  intro i S v3 g0 g1 g2 g4 g5 g8 g9 gI gF gD gB gC gA hk hi ho hR
  have hlt:i < n:=by omega
  have h3:IntKind.i64.wrap ((i:Int) + 1)=((i + 1:Nat):Int):=by rw [wrap64 (by omega)]; omega
  obtain ⟨v',S',c,ha,ho',hfr,hlen⟩:=ap22 (i:Int) ho (by rw [z7c]; omega)
  rw [← zjy] at ho'
  rw [zO]
  refine zM ?_
  conv=>arg 2; whnf
  simp (maxSteps:=1000000) (disch:=first|assumption|omega|rfl) only [↓gp,gc,Nat.reduceAdd,ha,h3]
  exact ih (i + 1) S' v' _ _ _ _ _ _ _ _ _ _ _ _ _ (by omega) (by omega) ho' hR
theorem zzu (l:Lay) (n:Nat) (hb:InB l.blocks) (hi:InB l.inodes) (hm:MayL l) (hn:2 + l.inodes.tdiv 8=(n:Int)) (hn1:n ≤ 1000):Ev cfg 138 [encLay l] (.ret (.d (encI (upto n)))):=by
 refine kB rfl rfl zwk ?_
 show Wp cfg (Tryz.f138.body.getD .skip) ((.d (encLay l))::uZ ((.tup [])::(.tup [])::(.tup [])::(.tup [])::(.tup [])::[])) [] [] _
 unfold uZ
 conv=>arg 2; whnf
 have hc : ∀ {ops dst k T S F Q},WpR cfg ops dst k T S F Q (some (.enter 108 [.d (encLay l)]))=WpL cfg ops k (putT T dst (.d (.int .i64 (2 + l.inodes.tdiv 8)))) S F Q:=fun {ops dst k T S F Q}=>qJ (C:=cfg) (ops:=ops) (dst:=dst) (l:=k) (T:=T) (S:=S) (F:=F) (Q:=Q) (ds:=[encLay l]) rfl (zbg l hb hi hm)
 rw [hn] at hc
 simp (maxSteps:=1000000) (disch:=first|assumption|omega|rfl) only [↓gp,gc,Nat.reduceAdd,hc,z9r]
 refine q37 l n hn1 _ n 0 _ _ _ _ _ _ _ _ _ _ _ _ _ _ _ rfl (by omega) OwnS.nil ?_
 intro S v3 i' g0 g1 g2 g4 g5 g8 g9 gI gF gD gB gC gA ho
 simp (maxSteps:=1000000) (disch:=first|assumption|omega|rfl) only [↓gp,gc,Nat.reduceAdd]
 exact zU rfl (qH ho) (zh2 (enc:=D.int .i64) ho)
theorem zpe : ∀ k,k < 18→Ev cfg 140 [blkD (mapB k),.int .i64 (k:Int),.bool true] (.ret (.d (blkD (mapB (k + 1)))))
 | 0,_=>⟨200,by kernel_rfl⟩
 | 1,_=>⟨200,by kernel_rfl⟩
 | 2,_=>⟨200,by kernel_rfl⟩
 | 3,_=>⟨200,by kernel_rfl⟩
 | 4,_=>⟨200,by kernel_rfl⟩
 | 5,_=>⟨200,by kernel_rfl⟩
 | 6,_=>⟨200,by kernel_rfl⟩
 | 7,_=>⟨200,by kernel_rfl⟩
 | 8,_=>⟨200,by kernel_rfl⟩
 | 9,_=>⟨200,by kernel_rfl⟩
 | 10,_=>⟨200,by kernel_rfl⟩
 | 11,_=>⟨200,by kernel_rfl⟩
 | 12,_=>⟨200,by kernel_rfl⟩
 | 13,_=>⟨200,by kernel_rfl⟩
 | 14,_=>⟨200,by kernel_rfl⟩
 | 15,_=>⟨200,by kernel_rfl⟩
 | 16,_=>⟨200,by kernel_rfl⟩
 | 17,_=>⟨200,by kernel_rfl⟩
 | n + 18,h=>by omega
theorem zv4 {ops:Array Oper} {dst:Option Tmp} {k:List Oper} {T:List V} {S:zA} {F:Dfs} {Q:Post} {u:V} {i:Nat} (hu:IsB u (mapB i)) (hi:i < 18):WpR cfg ops dst k T S F Q (some (.enter 140 [u,.d (.int .i64 (i:Int)),.d (.bool true)]))=WpL cfg ops k (putT T dst (.d (blkD (mapB (i + 1))))) S F Q :=
 wA (ds:=[blkD (mapB i),.int .i64 (i:Int),.bool true]) rfl (by simp only [allO,hu.frz (n:=10),zI]; rfl) (by rw [List.flatMap_cons,hu.frzIds]; rfl) (zpe i hi)
theorem q19 (n:Nat) (hn:n ≤ 18) (R:Post) : ∀ (k i:Nat) (u:V) (g0 g1 g4 g5 g9 gI gF gD gB gC gA gE:V),n - i=k→i ≤ n→IsB u (mapB i) →
 (∀ u i' g0 g1 g4 g5 g9 gI gF gD gB gC gA gE,IsB u (mapB n)→R (.exit 0) (g0::g1::(.ref 0 0 0)::(.ref 1 0 0)::g4::g5::(.d (encI (upto n)))::(.d (.int .i64 (n:Int)))::i'::g9::gI::gF::gD::gB::gC::gA::gE::[]) [.row [blkV (zT 256)] 42,.row [u] 42] []) →
 Wp cfg (.loop (lpOf (Tryz.f137.body.getD .skip) 0)) (g0::g1::(.ref 0 0 0)::(.ref 1 0 0)::g4::g5::(.d (encI (upto n)))::(.d (.int .i64 (n:Int)))::(.d (.int .i64 (i:Int)))::g9::gI::gF::gD::gB::gC::gA::gE::[]) [.row [blkV (zT 256)] 42,.row [u] 42] [] R:=by
 intro k
 induction k with
 | zero =>
  intro i u g0 g1 g4 g5 g9 gI gF gD gB gC gA gE hk hi hu hR
  have hie:i=n:=by omega
  subst hie
  rw [zO]
  refine zM ?_
  conv=>arg 2; whnf
  simp (maxSteps:=1000000) (disch:=first|assumption|omega|rfl) only [↓gp,gc,Nat.reduceAdd]
  exact hR _ _ _ _ _ _ _ _ _ _ _ _ _ _ hu
 | succ k ih =>
  intro i u g0 g1 g4 g5 g9 gI gF gD gB gC gA gE hk hi hu hR
  have hlt:i < n:=by omega
  have h3:IntKind.i64.wrap ((i:Int) + 1)=((i + 1:Nat):Int):=by rw [wrap64 (by omega)]; omega
  have hix : ∀ S:zA,zK Tryz.prog S 22 (.d (encI (upto n))) (.d (.int .i64 (i:Int)))=some (.d (.ptr (.int .i64 (i:Int)))):=fun S=>by
   have:=ix22 (S:=S) (l:=upto n) (i:=i) (by rw [z7c]; omega)
   have e:(upto n)[i]'(by rw [z7c]; omega)=(i:Int):=by simp [upto]
   rw [e] at this
   exact this
  have hld:=bt42.load hu (z1v i)
  have hcw:=fun {ops dst k T S F Q}=>zv4 (ops:=ops) (dst:=dst) (k:=k) (T:=T) (S:=S) (F:=F) (Q:=Q) hu (by omega)
  have hst:=bt42.store (wI (b:=mapB (i + 1))) (z1v _) hu (z1v i)
  rw [zO]
  refine zM ?_
  conv=>arg 2; whnf
  simp (maxSteps:=1000000) (disch:=first|assumption|omega|rfl) only [↓gp,gc,Nat.reduceAdd,h3,hix,hld,hcw,zso,hst,hu.one,if_true,eq_self]
  exact ih (i + 1) _ _ _ _ _ _ _ _ _ _ _ _ _ (by omega) (by omega) wI hR
theorem zty (n:Nat) (hn:n ≤ 18):Ev cfg 137 [encI (upto n)] (.ret (.d (blkD (mapB n)))):=by
 refine kB rfl rfl zuq ?_
 show Wp cfg (Tryz.f137.body.getD .skip) ((.d (encI (upto n)))::uZ ((.tup [])::(.tup [])::(.tup [])::(.tup [])::(.tup [])::(.tup [])::[])) [] [] _
 unfold uZ
 conv=>arg 2; whnf
 have hln : ∀ S:zA,zL Tryz.prog S .len [22] [.d (encI (upto n))]=some (.val (.d (.int .i64 n)) S 0):=fun S=>by rw [encI,zxm,List.length_map,z7c]
 simp (maxSteps:=1000000) (disch:=first|assumption|omega|rfl) only [↓gp,gc,Nat.reduceAdd,z42,zf42,hln]
 refine q19 n hn _ n 0 _ _ _ _ _ _ _ _ _ _ _ _ _ rfl (Nat.zero_le _) isB_v ?_
 intro u i' g0 g1 g4 g5 g9 gI gF gD gB gC gA gE hu
 have hld:=bt42.load hu (z1v n)
 have hst:=bt42.store hu (z1v n) (w:=blkV (zT 256)) isB_v z256
 simp (maxSteps:=1000000) (disch:=first|assumption|omega|rfl) only [↓gp,gc,Nat.reduceAdd,hld,hst]
 exact wP (u:= .ref 0 0 0) (v:=u) rfl ((zJ rfl).trans hld) hu.one (hu.frz (n:=10))
def rootB:List UInt8:=[2,0,1,0,0,0,0,0,1,0] ++ zT 246
def zxb:D:= .agg [.int .i64 2,.int .i64 1,.int .i64 0,.int .i64 1,.int .i64 0,.int .i64 0,.int .i64 0,.int .i64 0,.int .i64 0,.int .i64 0,.int .i64 0]
theorem zqu:Ev cfg 136 [blkD (zT 256),.int .i64 0,zxb] (.ret (.tup [.d (blkD rootB),.d (.int .i64 0)])):=⟨1000,by kernel_rfl⟩
def dskV (r n:Nat) (f:Int) (lit off:Bool) (w q:Int):V:= .agg [.rs r 0 n,.d (.int .i64 f),.d (.bool lit),.d (.bool off),.d (.int .i64 w),.d (.int .i64 q)]
section
variable {r n d x y:Nat} {f w q f' w' q':Int} {lit off lit' off':Bool} {S:zA}
theorem z8x:zS Tryz.prog 135 0 (.ref d x y)=some (.ref d x (y + 0)):=by kernel_rfl
theorem zja:zS Tryz.prog 135 1 (.ref d x y)=some (.ref d x (y + 1)):=by kernel_rfl
theorem zn2:zS Tryz.prog 135 2 (.ref d x y)=some (.ref d x (y + 2)):=by kernel_rfl
theorem zaw:zS Tryz.prog 135 3 (.ref d x y)=some (.ref d x (y + 3)):=by kernel_rfl
theorem zz6:zS Tryz.prog 135 4 (.ref d x y)=some (.ref d x (y + 4)):=by kernel_rfl
theorem q1h:zS Tryz.prog 135 5 (.ref d x y)=some (.ref d x (y + 5)):=by kernel_rfl
theorem lk0:qT Tryz.prog 63 0 (some (dskV r n f lit off w q))=some (.rs r 0 n):=by kernel_rfl
theorem lk1:qT Tryz.prog 3 1 (some (dskV r n f lit off w q))=some (.d (.int .i64 f)):=by kernel_rfl
theorem lk2:qT Tryz.prog 4 2 (some (dskV r n f lit off w q))=some (.d (.bool lit)):=by kernel_rfl
theorem lk3:qT Tryz.prog 4 3 (some (dskV r n f lit off w q))=some (.d (.bool off)):=by kernel_rfl
theorem lk4:qT Tryz.prog 3 4 (some (dskV r n f lit off w q))=some (.d (.int .i64 w)):=by kernel_rfl
theorem lk5:qT Tryz.prog 3 5 (some (dskV r n f lit off w q))=some (.d (.int .i64 q)):=by kernel_rfl
theorem sk1:qY Tryz.prog 3 1 (.d (.int .i64 f')) (dskV r n f lit off w q)=some (dskV r n f' lit off w q):=by kernel_rfl
theorem sk3:qY Tryz.prog 4 3 (.d (.bool off')) (dskV r n f lit off w q)=some (dskV r n f lit off' w q):=by kernel_rfl
theorem sk4:qY Tryz.prog 3 4 (.d (.int .i64 w')) (dskV r n f lit off w q)=some (dskV r n f lit off w' q):=by kernel_rfl
theorem sk5:qY Tryz.prog 3 5 (.d (.int .i64 q')) (dskV r n f lit off w q)=some (dskV r n f lit off w q'):=by kernel_rfl
theorem zef:binV Tryz.prog .eql 60 (.ref d x y) (.d .nilp)=some (.d (.bool false)):=by kernel_rfl
theorem u37:Tryz.prog.underlying 63=some (.slice 42):=by kernel_rfl
theorem zor {i o m:Nat}:zL Tryz.prog S .len [63] [.rs i o m]=some (.val (.d (.int .i64 m)) S 0):=z9z u37
theorem lr26:qT Tryz.prog 60 0 (some (.ref d x y))=some (.ref d x y):=by kernel_rfl
theorem zig:qT Tryz.prog 47 0 (some (.d (.int .i64 f)))=some (.d (.int .i64 f)):=by kernel_rfl
theorem zly:qY Tryz.prog 47 0 (.d (.int .i64 f')) (.d (.int .i64 f))=some (.d (.int .i64 f')):=by kernel_rfl
theorem ft26:qE Tryz.prog 60 (.ref d x y)=true:=by kernel_rfl
theorem z29:zeroV Tryz.prog 47=some (.d (.int .i64 0)):=by kernel_rfl
end
section
variable {S l:zA} {n k i:Nat} {x y:V} {a b c o:Ob} {e:TypeId}
theorem rA0 (h:S.length=n):rowE (S ++ .row [x] e::l) n 0=some x:=by
 subst h; exact zE (e:=e) (by simp)
theorem rA1 (h:S.length=n):rowE (S ++ a:: .row [x] e::l) (n + 1) 0=some x:=by
 subst h; exact zE (e:=e) (by rw [List.getElem?_append_right (by omega)]; simp)
theorem rA2 (h:S.length=n):rowE (S ++ a::b:: .row [x] e::l) (n + 2) 0=some x:=by
 subst h; exact zE (e:=e) (by rw [List.getElem?_append_right (by omega)]; simp)
theorem pA0 (h:S.length=n):jE (S ++ .row [x] e::l) n 0 y=some (S ++ .row [y] e::l):=by
 subst h
 rw [qL (x:=x) (e:=e) (by simp)]
 simp
theorem pA1 (h:S.length=n):jE (S ++ a:: .row [x] e::l) (n + 1) 0 y=some (S ++ a:: .row [y] e::l):=by
 subst h
 rw [qL (x:=x) (e:=e) (by rw [List.getElem?_append_right (by omega)]; simp)]
 rw [List.set_append_right _ _ (by omega)]
 simp
theorem pA2 (h:S.length=n):jE (S ++ a::b:: .row [x] e::l) (n + 2) 0 y=some (S ++ a::b:: .row [y] e::l):=by
 subst h
 rw [qL (x:=x) (e:=e) (by rw [List.getElem?_append_right (by omega)]; simp)]
 rw [List.set_append_right _ _ (by omega)]
 simp
theorem rS0 (h:i < S.length):rowE (S.set i (.row [x] e) ++ l) i 0=some x:=zE (e:=e) (by rw [List.getElem?_append_left (by simpa using h)]; simp [h])
end
theorem zei:zB Tryz.prog 112=some ⟨(Tryz.f112.body.getD .skip),11, #[]⟩:=by
 unfold zB
 rw [Tryz.func112]
 rfl
theorem zu9:zB Tryz.prog 117=some ⟨(Tryz.f117.body.getD .skip),8, #[]⟩:=by
 unfold zB
 rw [Tryz.func117]
 rfl
structure DskAt (S:zA) (d r:Nat) (vs:List V) (f:Int) (lit off:Bool) (w q:Int):Prop where
 hd:S[d]? = some (.row [dskV r vs.length f lit off w q] 135)
 hr:S[r]? = some (.row vs 42)
 ne:r ≠ d
section
variable {S l:zA} {d r:Nat} {vs:List V} {f w q:Int} {lit off:Bool}
theorem DskAt.rd (h:DskAt S d r vs f lit off w q):rowE (S ++ l) d 0=some (dskV r vs.length f lit off w q):=zE (e:=135) (by rw [List.getElem?_append_left (zQ h.hd)]; exact h.hd)
theorem DskAt.rd' (h:DskAt S d r vs f lit off w q):rowE S d 0=some (dskV r vs.length f lit off w q):=zE (e:=135) h.hd
theorem DskAt.pd (h:DskAt S d r vs f lit off w q) {y:V}:jE (S ++ l) d 0 y=some (S.set d (.row [y] 135) ++ l):=by
 rw [qL (e:=135) (by rw [List.getElem?_append_left (zQ h.hd)]; exact h.hd),List.set_append_left _ _ (zQ h.hd)]
theorem DskAt.dl (h:DskAt S d r vs f lit off w q):d < S.length:=zQ h.hd
theorem DskAt.rl (h:DskAt S d r vs f lit off w q):r < S.length:=zQ h.hr
end
theorem zki (S:zA) (d r:Nat) (vs:List V) (f w q:Int) (lit off:Bool) (h:DskAt S d r vs f lit off w q):EvS cfg 80 [.ref d 0 0] S (fun o S'=>S'=S∧o = .ret (.d (.int .i64 vs.length))):=by
 refine qF rfl q26 ?_
 show Wp cfg (Tryz.f80.body.getD .skip) ((.ref d 0 0)::(.tup [])::(.tup [])::(.tup [])::(.tup [])::(.tup [])::(.tup [])::(.tup [])::(.tup [])::(.tup [])::[]) S [] _
 conv=>arg 2; whnf
 rw [zO]
 have hd:=h.rd'
 simp (maxSteps:=1000000) (disch:=first|assumption|omega|rfl) only [↓gp,gc,Nat.reduceAdd,zef,z8x,hd,lk0,zor]
 exact ⟨rfl,_,rfl,rfl,rfl⟩
theorem zk2 (S:zA) (d r:Nat) (vs:List V) (f w q:Int) (lit:Bool) (no:Nat) (h:DskAt S d r vs f lit false w q) (hn:no < vs.length):EvS cfg 111 [.ref d 0 0,.d (.int .i64 (no:Int))] S (fun o S'=>S'=S∧o = .ret (.d (.int .i64 0))):=by
 refine qF rfl zm0 ?_
 show Wp cfg (Tryz.f111.body.getD .skip) ((.ref d 0 0)::(.d (.int .i64 (no:Int)))::uZ (uZ ((.tup [])::(.tup [])::(.tup [])::[]))) S [] _
 unfold uZ
 conv=>arg 2; whnf
 rw [zO]
 have hd:=h.rd'
 have c1 : ¬ (no:Int) < 0:=by omega
 have c2 : ¬ (no:Int) ≥ (vs.length:Int):=by omega
 simp (maxSteps:=1000000) (disch:=first|assumption|omega|rfl) only [↓gp,gc,Nat.reduceAdd,zef,z8x,zaw,hd,lk0,lk3,zor]
 exact ⟨rfl,_,rfl,rfl,rfl⟩
theorem lset {S:zA} {d:Nat} {o:Ob}:(S.set d o).length=S.length:=List.length_set ..
theorem mf94 {S:zA} {a b:Nat}:mfS (.func 112) S [] [.ref a 0 0,.ref b 0 0]=some (.val (.fn (.func 112) [] [.ref a 0 0,.ref b 0 0]) S 0):=z17 rfl
theorem mf96 {S:zA} {a:Nat}:mfS (.func 117) S [] [.ref a 0 0]=some (.val (.fn (.func 117) [] [.ref a 0 0]) S 0):=z17 rfl
section
variable {ops:Array Oper} {dst:Option Tmp} {l:List Oper} {T:List V} {S:zA} {F:Dfs} {Q:Post} {ty:TypeId} {pos:String} {after:Array Edge} {t a b:Nat} {pre suf:List V}
noncomputable def dfV:V→Option Rs
 | .fn (.func g) first caps=>if (zB Tryz.prog g).isSome then some (.dfr g (first ++ caps)) else none
 | _=>none
theorem z7l:WpL cfg ops (⟨dst,.defer ⟨.value (.tmp t), #[], #[]⟩,ty,pos,after,none⟩::l) T S F Q=WpR cfg ops dst l T S F Q (dfV (T.getD t .junk)):=by
 rw [vY rfl]
 have e:opV cfg.P S T ⟨dst,.defer ⟨.value (.tmp t), #[], #[]⟩,ty,pos,after,none⟩=dfV (T.getD t .junk):=by
  show (match T.getD t .junk with | .fn (.func g) first caps=>if [].all V.one && (zB Tryz.prog g).isSome then some (Rs.dfr g (first ++ [] ++ caps)) else none | _=>none)=_
  simp only [List.all_nil,Bool.true_and,List.append_nil]
  rfl
 rw [e]
theorem zh0 {f:FuncId} {args:List V}:WpR cfg ops dst l T S F Q (some (.dfr f args))=WpL cfg ops l (putT T dst (.tup [])) S ((f,args)::F) Q:=rfl
theorem df94 {x y:V}:dfV (.fn (.func 112) [] [x,y])=some (.dfr 112 [x,y]):=by
 unfold dfV
 exact if_pos q4j
theorem df96 {x:V}:dfV (.fn (.func 117) [] [x])=some (.dfr 117 [x]):=by
 unfold dfV
 exact if_pos q2f
end
def nilS (S:zA):V→Option Rs
 | .ref i ix off=>some (.val (.ref i ix off) S 0)
 | .d (.ptr x)=>some (.val (.d (.ptr x)) S 0)
 | .fn (.func g) a b=>some (.val (.fn (.func g) a b) S 0)
 | _=>none
theorem qV {P:Program} {S:zA} {T:List V} {dst:Option Tmp} {ty:TypeId} {pos:String} {after:Array Edge} {g:Option (Nat × Bool)} {x:Operand}:opV P S T ⟨dst,.nilCheck x,ty,pos,after,g⟩=nilS S (zG T x):=by
 simp only [opV]
 generalize zG T x=v
 cases v with
 | d y=>cases y <;> rfl
 | fn f a b=>cases f <;> rfl
 | _=>rfl
theorem kK {S:zA} {i ix off:Nat}:nilS S (.ref i ix off)=some (.val (.ref i ix off) S 0):=rfl
theorem zD {ops:Array Oper} {dst:Option Tmp} {l:List Oper} {T:List V} {S S2:zA} {F:Dfs} {Q:Post} {f:FuncId} {args:List V} {v:V} (hs:cfg.shared f=true) (he:EvS cfg f args S (fun o S'=>S'=S2∧o = .ret v)):WpR cfg ops dst l T S F Q (some (.enter f args))=WpL cfg ops l (putT T dst v) S2 F Q:=by
 obtain ⟨n,o,S',hn,rfl,rfl⟩:=he
 have hc:jG cfg (run cfg n) f args S=some (.ret v,S',3):=by
  unfold jG
  simp only [hs,if_true,hn,Option.map_some]
 apply propext
 constructor
 ·rintro ⟨m,o,S2,c,h1,h2⟩
  have:=kS h1 hc
  simp only [Prod.mk.injEq] at this
  obtain ⟨rfl,rfl,rfl⟩:=this
  exact h2
 ·exact fun h=>⟨n,_,_,_,hc,h⟩
theorem DskAt.app {S l:zA} {d r:Nat} {vs:List V} {f w q:Int} {lit off:Bool} (h:DskAt S d r vs f lit off w q):DskAt (S ++ l) d r vs f lit off w q :=
 ⟨by rw [List.getElem?_append_left h.dl]; exact h.hd,by rw [List.getElem?_append_left h.rl]; exact h.hr,h.ne⟩
theorem DskAt.setd {S:zA} {d r:Nat} {vs:List V} {f w q f' w' q':Int} {lit off lit' off':Bool} (h:DskAt S d r vs f lit off w q):DskAt (S.set d (.row [dskV r vs.length f' lit' off' w' q'] 135)) d r vs f' lit' off' w' q' :=
 ⟨zj6 h.hd,by rw [List.getElem?_set_ne (Ne.symm h.ne)]; exact h.hr,h.ne⟩
theorem q30 {S:zA} {r n i:Nat} {vs:List V} (hS:S[r]? = some (.row vs 42)) (hi:i < n):zK Tryz.prog S 63 (.rs r 0 n) (.d (.int .i64 (i:Int)))=some (.ref r i 0):=by
 have h1:rowT S r 42=true:=by unfold rowT; rw [hS]; rfl
 have h2:(sz Tryz.prog 42).isSome=true:=by kernel_rfl
 simp only [zK,intOf?,u37]
 rw [if_pos ⟨⟨by omega,by omega⟩,h1,h2⟩]
 simp
section
variable {S l:zA} {d r:Nat} {vs:List V} {f w q:Int} {lit off:Bool} {i:Nat}
theorem DskAt.ix (h:DskAt S d r vs f lit off w q) (hi:i < vs.length):zK Tryz.prog (S ++ l) 63 (.rs r 0 vs.length) (.d (.int .i64 (i:Int)))=some (.ref r i 0):=q30 (vs:=vs) (h.app (l:=l)).hr hi
theorem DskAt.rr (h:DskAt S d r vs f lit off w q) (hi:i < vs.length):rowE (S ++ l) r i=some vs[i]:=by
 unfold rowE
 rw [(h.app (l:=l)).hr]
 exact List.getElem?_eq_getElem hi
theorem DskAt.pr (h:DskAt S d r vs f lit off w q) {y:V}:jE (S ++ l) r i y=some (S.set r (.row (vs.set i y) 42) ++ l):=by
 unfold jE
 rw [(h.app (l:=l)).hr]
 simp only [List.set_append_left _ _ h.rl]
theorem DskAt.setr (h:DskAt S d r vs f lit off w q) {y:V}:DskAt (S.set r (.row (vs.set i y) 42)) d r (vs.set i y) f lit off w q :=
 ⟨by rw [List.getElem?_set_ne h.ne,List.length_set]; exact h.hd,zj6 h.hr,h.ne⟩
end
theorem zla (S:zA) (a d r:Nat) (vs:List V) (f w q:Int) (lit off:Bool) (h:DskAt S d r vs f lit off w q) (hS:S.length=a) (hw:0 ≤ w∧w ≤ 1000000) (b:Ob) :
  Wp cfg (Tryz.f112.body.getD .skip) ((.ref (a + 2) 0 0)::(.ref a 0 0)::(.tup [])::(.tup [])::(.tup [])::(.tup [])::(.tup [])::(.tup [])::(.tup [])::(.tup [])::(.tup [])::[]) (S ++ [.row [.ref d 0 0] 60,b,.row [.d (.int .i64 0)] 47]) [] (fun x T S2 F=>(x = .norm ∨ x = .ret)∧F=[]∧(∃ v,qI cfg.P #[] T S2=some v)∧S2=S.set d (.row [dskV r vs.length f lit off (w + 1) q] 135) ++ [.row [.ref d 0 0] 60,b,.row [.d (.int .i64 0)] 47]):=by
 conv=>arg 2; whnf
 rw [zO]
 have hd:=fun l=>h.rd (l:=l)
 have hp:=fun l y=>h.pd (l:=l) (y:=y)
 have h3:IntKind.i64.wrap (w + 1)=w + 1:=wrap64 (by omega)
 simp (maxSteps:=1000000) (disch:=first|assumption|omega|rfl) only [↓gp,gc,Nat.reduceAdd,zz6,rA0 hS,rA1 hS,rA2 hS,hd,hp,zig,lr26,lk4,sk4,h3,zP]
 try exact ⟨.inl trivial,trivial,⟨_,rfl⟩,trivial⟩
theorem zvm (S l:zA) (a:Nat) (e:Int) (he:e ≠ 0) (hS:S.length=a) (b c:Ob) :
  Wp cfg (Tryz.f112.body.getD .skip) ((.ref (a + 2) 0 0)::(.ref a 0 0)::(.tup [])::(.tup [])::(.tup [])::(.tup [])::(.tup [])::(.tup [])::(.tup [])::(.tup [])::(.tup [])::[]) (S ++ [c,b,.row [.d (.int .i64 e)] 47]) [] (fun x T S2 F=>(x = .norm ∨ x = .ret)∧F=[]∧(∃ v,qI cfg.P #[] T S2=some v)∧S2=S ++ [c,b,.row [.d (.int .i64 e)] 47]):=by
 conv=>arg 2; whnf
 rw [zO]
 have hde : ∀ i:Decidable (e=0),@decide (e=0) i=false:=fun i=>decide_eq_false he
 simp (maxSteps:=1000000) (disch:=first|assumption|omega|rfl) only [↓gp,gc,Nat.reduceAdd,rA2 hS,zig,hde]
 try exact ⟨.inl trivial,trivial,⟨_,rfl⟩,trivial⟩
theorem zwa {T:List V} {S:zA} {t x:Nat} {e:Int} (h1:T.getD t (.tup []) = .ref x 0 0) (h2:rowE S x 0=some (.d (.int .i64 e))):qI Tryz.prog #[.cell t 47] T S=some (.d (.int .i64 e)):=by
 have hl:kM Tryz.prog S 47 (.ref x 0 0)=some (.d (.int .i64 e)):=(zJ h2).trans zig
 simp only [qI,allO,jW,h1,hl]
theorem z54 (S:zA) (d r:Nat) (vs:List V) (w q:Int) (no:Nat) (u:V) (b:List UInt8) (h:DskAt S d r vs 0 true false w q) (hn:no < vs.length) (hu:IsB u b) (hb:b.length=256) :
  EvS cfg 71 [.ref d 0 0,.d (.int .i64 (no:Int)),u] S (fun o S'=>S'=S.set d (.row [dskV r vs.length 0 true true w q] 135) ++ [.row [.ref d 0 0] 60,.row [u] 42,.row [.d (.int .i64 12)] 47]∧o = .ret (.d (.int .i64 12))):=by
 refine zbw rfl zrh ?_
 show Wp cfg (Tryz.f71.body.getD .skip) ((.ref d 0 0)::(.d (.int .i64 (no:Int)))::u::uZ (uZ (uZ (uZ ((.tup [])::(.tup [])::(.tup [])::[]))))) S [] _
 unfold uZ
 conv=>arg 2; whnf
 rw [zO]
 have hf:=bt42.fits hu hb
 have hu1:=hu.one
 generalize ha:S.length=a
 have hd:=fun l=>h.rd (l:=l)
 have hp:=fun l y=>h.pd (l:=l) (y:=y)
 have hdl:=h.dl
 have hl : ∀ o,(S.set d o).length=a:=fun o=>lset.trans ha
 have hm:=fun {ops dst k T F Q} l=>zD (ops:=ops) (dst:=dst) (l:=k) (T:=T) (F:=F) (Q:=Q) rfl (zk2 (S ++ l) d r vs 0 w q true no h.app hn)
 simp (maxSteps:=1000000) (disch:=first|assumption|omega|rfl) only [↓gp,gc,Nat.reduceAdd,ft26,hf,z29,hu1,List.append_assoc,List.length_append,List.length_cons,List.length_nil,ha,rA0 ha,rA1 ha,rA2 ha,pA2 ha,rA0 (hl _),rA1 (hl _),rA2 (hl _),pA2 (hl _),lr26,zig,zly,hm,zis,hd,hp,zja,zn2,zaw,lk1,lk2,sk3,jS,mf94,z7l,df94,zh0,zP]
 exact ⟨.inr rfl,_,_,⟨_,_,zei,zvm (S.set d _) [] a 12 (by decide) (hl _) _ _,rfl⟩,zwa rfl (rA2 (hl _)),rfl,rfl⟩
theorem z5c (S:zA) (d r:Nat) (vs:List V) (f w q:Int) (lit:Bool) (no:Nat) (u v:V) (b b0:List UInt8) (h:DskAt S d r vs f lit false w q) (hn:no < vs.length) (hu:IsB u b) (hb:b.length=256) (hv:vs[no]=v) (hb0:IsB v b0) (hl0:b0.length=256) (hw:0 ≤ w∧w ≤ 1000000) (hf0:0 ≤ f∧InB f) (hlf:lit=true→f ≠ 0) :
  EvS cfg 71 [.ref d 0 0,.d (.int .i64 (no:Int)),u] S (fun o S'=>S'=(S.set d (.row [dskV r vs.length (if lit then f - 1 else f) lit false (w + 1) q] 135)).set r (.row (vs.set no u) 42) ++ [.row [.ref d 0 0] 60,.row [u] 42,.row [.d (.int .i64 0)] 47]∧o = .ret (.d (.int .i64 0))):=by
 refine zbw rfl zrh ?_
 show Wp cfg (Tryz.f71.body.getD .skip) ((.ref d 0 0)::(.d (.int .i64 (no:Int)))::u::uZ (uZ (uZ (uZ ((.tup [])::(.tup [])::(.tup [])::[]))))) S [] _
 unfold uZ
 conv=>arg 2; whnf
 rw [zO]
 have hf:=bt42.fits hu hb
 have hu1:=hu.one
 generalize ha:S.length=a
 have hd:=fun l=>h.rd (l:=l)
 have hp:=fun l y=>h.pd (l:=l) (y:=y)
 have hdl:=h.dl
 have hl : ∀ o,(S.set d o).length=a:=fun o=>lset.trans ha
 have hm:=fun {ops dst k T F Q} l=>zD (ops:=ops) (dst:=dst) (l:=k) (T:=T) (F:=F) (Q:=Q) rfl (zk2 (S ++ l) d r vs f w q lit no h.app hn)
 have hld:=bt42.load hu hb
 have hst:=bt42.store hu hb (hv ▸ hb0) hl0
 have hl0 : ∀ i o,(S.set i o).length=a:=fun i o=>lset.trans ha
 have hl2 : ∀ i o j p,((S.set i o).set j p).length=a:=fun i o j p=>lset.trans (lset.trans ha)
 have hcm : ∀ o p,(S.set r o).set d p=(S.set d p).set r o:=fun o p=>List.set_comm _ _ h.ne
 cases lit with
 | false =>
  have hix:=fun l=>h.ix (l:=l) hn
  have hrr:=fun l=>h.rr (l:=l) hn
  have hpr:=fun l y=>h.pr (l:=l) (i:=no) (y:=y)
  simp (maxSteps:=1000000) (disch:=first|assumption|omega|rfl) only [↓gp,gc,Nat.reduceAdd,ft26,hf,z29,hu1,List.append_assoc,List.length_append,List.length_cons,List.length_nil,ha,rA0 ha,rA1 ha,rA2 ha,pA2 ha,rA0 (hl0 _ _),rA1 (hl0 _ _),rA2 (hl0 _ _),pA2 (hl0 _ _),lr26,zig,zly,hm,zis,hd,hp,zja,zn2,zaw,lk1,lk2,sk3,jS,mf94,z7l,df94,zh0,zP]
  refine vC (is:=[0,1,2,3,4,5,6,7]) (h:=0) (by kernel_rfl) (by kernel_rfl) ?_
  simp (maxSteps:=1000000) (disch:=first|assumption|omega|rfl) only [List.replicate_zero,eq_self,gd,ga,Nat.reduceAdd,↓gq,vso,rA0 ha,rA1 ha,rA2 ha,lr26,hd,qV,kK,z8x,lk0,hix,hld,hrr,hst,hpr,List.append_nil]
  refine ⟨fun _=>by kernel_rfl,?_⟩
  refine ⟨by kernel_rfl,?_⟩
  simp (maxSteps:=1000000) (disch:=first|assumption|omega|rfl) only [↓gp,gc,Nat.reduceAdd,pA2 (hl0 _ _),rA2 (hl0 _ _),zly]
  refine ⟨.inr rfl,_,_,⟨_,_,zei,zla _ a d r _ _ w q _ _ h.setr (hl0 _ _) hw _,rfl⟩,zwa rfl (rA2 (hl2 _ _ _ _)),?_,rfl⟩
  rw [hcm,List.length_set]
  rfl
 | true =>
  have hf1 : ¬ f=0:=hlf rfl
  have h3:IntKind.i64.wrap (f - 1)=f - 1:=wrap64 (by obtain ⟨_,_,_⟩:=hf0; omega)
  have h' : ∀ f',DskAt (S.set d (.row [dskV r vs.length f' true false w q] 135)) d r vs f' true false w q:=fun f'=>h.setd
  have hde : ∀ i:Decidable (f=0),@decide (f=0) i=false:=fun i=>decide_eq_false hf1
  have hd1:=fun f' l=>(h' f').rd (l:=l)
  have hix:=fun f' l=>(h' f').ix (l:=l) hn
  have hrr:=fun f' l=>(h' f').rr (l:=l) hn
  have hpr:=fun f' l y=>(h' f').pr (l:=l) (i:=no) (y:=y)
  simp (maxSteps:=1000000) (disch:=first|assumption|omega|rfl) only [↓gp,gc,Nat.reduceAdd,ft26,hf,z29,hu1,List.append_assoc,List.length_append,List.length_cons,List.length_nil,ha,rA0 ha,rA1 ha,rA2 ha,pA2 ha,rA0 (hl0 _ _),rA1 (hl0 _ _),rA2 (hl0 _ _),pA2 (hl0 _ _),lr26,zig,zly,hm,zis,hd,hp,zja,zn2,zaw,lk1,lk2,sk1,sk3,jS,mf94,z7l,df94,zh0,zP,hde,h3,hd1]
  refine vC (is:=[0,1,2,3,4,5,6,7]) (h:=0) (by kernel_rfl) (by kernel_rfl) ?_
  simp (maxSteps:=1000000) (disch:=first|assumption|omega|rfl) only [List.replicate_zero,eq_self,gd,ga,Nat.reduceAdd,↓gq,vso,rA0 (hl0 _ _),rA1 (hl0 _ _),rA2 (hl0 _ _),lr26,hd1,qV,kK,z8x,lk0,hix,hld,hrr,hst,hpr,List.append_nil]
  refine ⟨fun _=>by kernel_rfl,?_⟩
  refine ⟨by kernel_rfl,?_⟩
  simp (maxSteps:=1000000) (disch:=first|assumption|omega|rfl) only [↓gp,gc,Nat.reduceAdd,pA2 (hl2 _ _ _ _),rA2 (hl2 _ _ _ _),zly]
  refine ⟨.inr rfl,_,_,⟨_,_,zei,zla _ a d r _ _ w q _ _ (h' _).setr (hl2 _ _ _ _) hw _,rfl⟩,zwa rfl (rA2 (lset.trans (hl2 _ _ _ _))),?_,rfl⟩
  rw [List.set_comm _ _ h.ne,List.set_set,List.length_set]
  try rfl
theorem q2p (S:zA) (a d r:Nat) (vs:List V) (f w q:Int) (lit off:Bool) (h:DskAt S d r vs f lit off w q) (hS:S.length=a) (hq:0 ≤ q∧q ≤ 1000000) (b:Ob) :
  Wp cfg (Tryz.f117.body.getD .skip) ((.ref a 0 0)::(.tup [])::(.tup [])::(.tup [])::(.tup [])::(.tup [])::(.tup [])::(.tup [])::[]) (S ++ [.row [.ref d 0 0] 60,b]) [] (fun x T S2 F=>(x = .norm ∨ x = .ret)∧F=[]∧(∃ v,qI cfg.P #[] T S2=some v)∧S2=S.set d (.row [dskV r vs.length f lit off w (q + 1)] 135) ++ [.row [.ref d 0 0] 60,b]):=by
 conv=>arg 2; whnf
 rw [zO]
 have hd:=fun l=>h.rd (l:=l)
 have hp:=fun l y=>h.pd (l:=l) (y:=y)
 have h3:IntKind.i64.wrap (q + 1)=q + 1:=wrap64 (by omega)
 simp (maxSteps:=1000000) (disch:=first|assumption|omega|rfl) only [↓gp,gc,Nat.reduceAdd,q1h,rA0 hS,hd,hp,lr26,lk5,sk5,h3]
 try exact ⟨.inl trivial,trivial,⟨_,rfl⟩,trivial⟩
theorem zkp (S:zA) (d r:Nat) (vs:List V) (f w q:Int) (lit:Bool) (no:Nat) (v:V) (b:List UInt8) (h:DskAt S d r vs f lit false w q) (hn:no < vs.length) (hv:vs[no]=v) (hb:IsB v b) (hl:b.length=256) (hq:0 ≤ q∧q ≤ 1000000) :
  EvS cfg 78 [.ref d 0 0,.d (.int .i64 (no:Int))] S (fun o S'=>S'=S.set d (.row [dskV r vs.length f lit false w (q + 1)] 135) ++ [.row [.ref d 0 0] 60,.row [v] 42]∧o = .ret (.tup [v,.d (.int .i64 0)])):=by
 refine zbw rfl zqz ?_
 show Wp cfg (Tryz.f78.body.getD .skip) ((.ref d 0 0)::(.d (.int .i64 (no:Int)))::uZ ((.tup [])::(.tup [])::(.tup [])::(.tup [])::(.tup [])::(.tup [])::(.tup [])::(.tup [])::(.tup [])::[])) S [] _
 unfold uZ
 conv=>arg 2; whnf
 rw [zO]
 generalize ha:S.length=a
 have hm:=fun {ops dst k T F Q} l=>zD (ops:=ops) (dst:=dst) (l:=k) (T:=T) (F:=F) (Q:=Q) rfl (zk2 (S ++ l) d r vs f w q lit no h.app hn)
 have hd:=fun l=>h.rd (l:=l)
 have hix:=fun l=>h.ix (l:=l) hn
 have hrr:=fun l=>h.rr (l:=l) hn
 rw [hv] at hrr
 have hld:=bt42.load hb hl
 have hst:=bt42.store hb hl (w:=blkV (zT 256)) isB_v z256
 have hl0 : ∀ i o,(S.set i o).length=a:=fun i o=>lset.trans ha
 simp (maxSteps:=1000000) (disch:=first|assumption|omega|rfl) only [↓gp,gc,Nat.reduceAdd,ft26,z42,zf42,List.append_assoc,List.length_append,List.length_cons,List.length_nil,ha,rA0 ha,rA1 ha,pA1 ha,lr26,hm,zis,hd,z8x,lk0,hix,hrr,hld,hst,jS,mf96,z7l,df96,zh0]
 have hres : ∀ T:List V,T.getD 4 (.tup []) = .ref (a + 1) 0 0→T.getD 5 (.tup []) = .d (.int .i64 0)→qI Tryz.prog #[.cell 4 42,.tmp 5] T (S.set d (.row [dskV r vs.length f lit false w (q + 1)] 135) ++ [.row [.ref d 0 0] 60,.row [v] 42])=some (.tup [v,.d (.int .i64 0)]):=fun T h1 h2=>by
  have hl1:kM Tryz.prog (S.set d (.row [dskV r vs.length f lit false w (q + 1)] 135) ++ [.row [.ref d 0 0] 60,.row [v] 42]) 42 (.ref (a + 1) 0 0)=some v:=(zJ (rA1 (hl0 _ _))).trans hld
  have h3:V.one (.d (.int .i64 0))=true:=rfl
  simp only [qI,allO,jW,h1,h2,hl1,List.all_cons,List.all_nil,hb.one,h3,Bool.and_self,if_true]
 exact ⟨.inr rfl,_,_,⟨_,_,zu9,q2p _ a d r _ _ w q _ _ h ha hq _,rfl⟩,hres _ rfl rfl,rfl,rfl⟩
theorem zzt {m:Nat} (h:m ≤ 1000000):room Tryz.prog 42 m=true:=z5z rfl (by decide +kernel) h
theorem mk37 {S:zA} {n:Nat} (h:n ≤ 1000000):jO Tryz.prog S 63 (.d (.int .i64 (n:Int))) (.d (.int .i64 (n:Int)))=some (.rs S.length 0 n,S ++ [.row (List.replicate n (blkV (zT 256))) 42]):=by
 have hr:=zzt h
 simp only [jO,u37,z42,Int.toNat_natCast,hr,zf42,Bool.and_self,if_true]
 rw [if_pos ⟨by omega,Int.le_refl _,by omega⟩]
theorem bd89 {r n:Nat}:wK Tryz.prog 135 [(0,.rs r 0 n)]=some (dskV r n 0 false false 0 0):=by kernel_rfl
theorem ft89 {r n:Nat} {f w q:Int} {lit off:Bool}:qE Tryz.prog 135 (dskV r n f lit off w q)=true:=by kernel_rfl
theorem zyq (S:zA) (n:Nat) (h1:16 ≤ n) (h2:n ≤ 512):EvS cfg 100 [.d (.int .i64 (n:Int))] S (fun o S'=>S'=S ++ [.row (List.replicate n (blkV (zT 256))) 42,.row [dskV S.length n 0 false false 0 0] 135]∧o = .ret (.ref (S.length + 1) 0 0)):=by
 refine qF rfl zuw ?_
 show Wp cfg (Tryz.f100.body.getD .skip) ((.d (.int .i64 (n:Int)))::(.tup [])::(.tup [])::(.tup [])::(.tup [])::(.tup [])::(.tup [])::(.tup [])::(.tup [])::(.tup [])::[]) S [] _
 conv=>arg 2; whnf
 rw [zO]
 have hmin:=fun S=>min_le (S:=S) (a:=(n:Int)) (b:=512) (by omega)
 have hmax:=fun S=>max_le (S:=S) (a:=16) (b:=(n:Int)) (by omega)
 have hmk:=fun S=>mk37 (S:=S) (n:=n) (by omega)
 have h1:(dskV S.length n 0 false false 0 0).one=true:=rfl
 simp (maxSteps:=1000000) (disch:=first|assumption|omega|rfl) only [↓gp,gc,Nat.reduceAdd,hmin,hmax,hmk,bd89,ft89,h1,List.append_assoc,List.length_append,List.length_cons,List.length_nil]
 exact ⟨rfl,_,rfl,rfl,rfl⟩
end Go.Proofs.YtobgdmgldagjkaaGreat
end
