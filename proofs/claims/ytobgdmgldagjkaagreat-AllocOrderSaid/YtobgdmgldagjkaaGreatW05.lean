/- The value machine: operations, one by one, as rules of rewriting. -/
import Derived.IntWalk
import Derived.Test.YtobgdmgldagjkaaGreatW04
set_option linter.unusedVariables false
set_option linter.unusedSimpArgs false
set_option maxRecDepth 100000
set_option maxHeartbeats 4000000
set_option linter.defProp false
section
namespace Go.Vm
section
variable {C:Cfg}
def WpR (C:Cfg) (ops:Array Oper) (dst:Option Tmp) (l:List Oper) (T:List V) (S:zA) (F:Dfs) (Q:Post):Option Rs→Prop
 | some (.val v S' _)=>WpL C ops l (putT T dst v) S' F Q
 | some (.skip S' _)=>WpL C ops l (putT T dst (.tup [])) S' F Q
 | some (.enter f args)=>∃ n o S' c,jO C (run C n) f args S=some (o,S',c)∧match o with | .ret v=>WpL C ops l (putT T dst v) S' F Q | .pan v=>Q (.pan v) T S' F
 | some (.dfr f args)=>WpL C ops l (putT T dst (.tup [])) S ((f,args)::F) Q
 | some (.pan v)=>Q (.pan v) T S F
 | none=>False
theorem zbg {n m:Nat} (h:n ≤ m) {f:FuncId} {args:List V} {S:zA} {r:Out × zA × Nat} (hc:jO C (run C n) f args S=some r):jO C (run C m) f args S=some r:=z3c (z7h C h) hc
theorem z7z {ops:Array Oper} {dst:Option Tmp} {op:Op} {ty:TypeId} {pos:String} {after:Array Edge} {l:List Oper} {T:List V} {S:zA} {F:Dfs} {Q:Post} (hp:wB C.P T ⟨dst,op,ty,pos,after,none⟩ l=none) :
  WpL C ops (⟨dst,op,ty,pos,after,none⟩::l) T S F Q=WpR C ops dst l T S F Q (opV C.P S T ⟨dst,op,ty,pos,after,none⟩):=by
 apply propext
 constructor
 ·rintro ⟨n,x,T',S',F',h1,h2⟩
  simp only [seqV,hp,zW] at h1
  cases ho:opV C.P S T ⟨dst,op,ty,pos,after,none⟩ with
  | none=>simp [ho] at h1
  | some r =>
   simp only [ho] at h1
   cases r with
   | val v S2 c=>exact ⟨n,x,T',S',F',h1,h2⟩
   | skip S2 c=>exact ⟨n,x,T',S',F',h1,h2⟩
   | dfr f args=>exact ⟨n,x,T',S',F',h1,h2⟩
   | pan v =>
    simp only [Option.some.injEq,Prod.mk.injEq] at h1
    obtain ⟨rfl,rfl,rfl,rfl⟩:=h1
    exact h2
   | enter f args =>
    simp only at h1
    cases hc:jO C (run C n) f args S with
    | none=>simp [hc] at h1
    | some q =>
     obtain ⟨o,S2,c⟩:=q
     refine ⟨n,o,S2,c,hc,?_⟩
     simp only [hc] at h1
     cases o with
     | ret v=>exact ⟨n,x,T',S',F',h1,h2⟩
     | pan v =>
      simp only [Option.some.injEq,Prod.mk.injEq] at h1
      obtain ⟨rfl,rfl,rfl,rfl⟩:=h1
      exact h2
 ·intro h
  cases ho:opV C.P S T ⟨dst,op,ty,pos,after,none⟩ with
  | none=>simp [ho,WpR] at h
  | some r =>
   simp only [ho] at h
   cases r with
   | val v S2 c =>
    obtain ⟨n,x,T',S',F',h1,h2⟩:=h
    exact ⟨n,x,T',S',F',by simp only [seqV,hp,zW,ho]; exact h1,h2⟩
   | skip S2 c =>
    obtain ⟨n,x,T',S',F',h1,h2⟩:=h
    exact ⟨n,x,T',S',F',by simp only [seqV,hp,zW,ho]; exact h1,h2⟩
   | dfr f args =>
    obtain ⟨n,x,T',S',F',h1,h2⟩:=h
    exact ⟨n,x,T',S',F',by simp only [seqV,hp,zW,ho]; exact h1,h2⟩
   | pan v=>exact ⟨0,.pan v,T,S,F,by simp only [seqV,hp,zW,ho],h⟩
   | enter f args =>
    obtain ⟨n,o,S2,c,hc,h⟩:=h
    cases o with
    | ret v =>
     obtain ⟨m,x,T',S',F',h1,h2⟩:=h
     refine ⟨max n m,x,T',S',F',?_,h2⟩
     simp only [seqV,hp,zW,ho,zbg (Nat.le_max_left n m) hc]
     exact z03 (z7h C (Nat.le_max_right n m)) h1
    | pan v=>exact ⟨n,.pan v,T,S2,F,by simp only [seqV,hp,zW,ho,hc],h⟩
theorem vM {ops:Array Oper} {dst:Option Tmp} {op:Op} {ty:TypeId} {pos:String} {after:Array Edge} {l:List Oper} {T:List V} {S:zA} {F:Dfs} {Q:Post} (hn:zch ⟨dst,op,ty,pos,after,none⟩=true) :
  WpL C ops (⟨dst,op,ty,pos,after,none⟩::l) T S F Q=WpR C ops dst l T S F Q (opV C.P S T ⟨dst,op,ty,pos,after,none⟩):=z7z (z2n hn)
theorem zv2 {ops:Array Oper} {T:List V} {S:zA} {F:Dfs} {Q:Post}:WpL C ops [] T S F Q=Q .norm T S F:=by
 apply propext
 constructor
 ·rintro ⟨n,x,T',S',F',h1,h2⟩
  simp only [seqV,Option.some.injEq,Prod.mk.injEq] at h1
  obtain ⟨rfl,rfl,rfl,rfl⟩:=h1
  exact h2
 ·exact zye
section
variable {ops:Array Oper} {dst:Option Tmp} {l:List Oper} {T:List V} {S S':zA} {F:Dfs} {Q:Post} {v:V} {c:Nat}
theorem zxn:WpR C ops dst l T S F Q (some (.val v S' c))=WpL C ops l (putT T dst v) S' F Q:=rfl
theorem zrm:WpR C ops dst l T S F Q (some (.skip S' c))=WpL C ops l (putT T dst (.tup [])) S' F Q:=rfl
theorem zpe {d:Tmp}:putT T (some d) v=T.set d v:=rfl
theorem zo3:putT T none v=T:=rfl
theorem zwe {t:Tmp}:zC T (.tmp t)=T.getD t .junk:=rfl
theorem zme {a x:V} {r:List V}:(a::r).getD 0 x=a:=rfl
theorem zlk {a x:V} {r:List V} {n:Nat}:(a::r).getD (n + 1) x=r.getD n x:=rfl
theorem zj9 {a x:V} {r:List V}:(a::r).set 0 x=x::r:=rfl
theorem zm2 {a x:V} {r:List V} {n:Nat}:(a::r).set (n + 1) x=a::r.set n x:=rfl
end
section
variable {ops:Array Oper} {dst:Option Tmp} {ty:TypeId} {pos:String} {after:Array Edge} {l:List Oper} {T:List V} {S:zA} {F:Dfs} {Q:Post}
theorem ztw {x:Operand}:WpL C ops (⟨dst,.move x,ty,pos,after,none⟩::l) T S F Q=WpL C ops l (putT T dst (zC T x)) S F Q:=vM rfl
theorem zkj {x:Operand}:WpL C ops (⟨dst,.assign x,ty,pos,after,none⟩::l) T S F Q=WpL C ops l (putT T dst (zC T x)) S F Q:=vM rfl
theorem zzu {op:BinOp} {t u:TypeId} {x y:Operand}:WpL C ops (⟨dst,.binOp op t x y u,ty,pos,after,none⟩::l) T S F Q=WpR C ops dst l T S F Q ((binV C.P op t (zC T x) (zC T y)).map fun v=>.val v S 0):=vM rfl
theorem q09 {op:UnOp} {t:TypeId} {x:Operand}:WpL C ops (⟨dst,.unOp op t x,ty,pos,after,none⟩::l) T S F Q=WpR C ops dst l T S F Q ((unV op (zC T x)).map fun v=>.val v S 0):=vM rfl
theorem zoe {t:TypeId} {x y:Operand}:WpL C ops (⟨dst,.indexAddr t x y,ty,pos,after,none⟩::l) T S F Q=WpR C ops dst l T S F Q ((zM C.P S t (zC T x) (zC T y)).map fun v=>.val v S 1):=vM rfl
theorem zzn {t:TypeId} {x y:Operand}:WpL C ops (⟨dst,.index t x y,ty,pos,after,none⟩::l) T S F Q=WpR C ops dst l T S F Q ((z4z C.P t (zC T x) (zC T y)).map fun v=>.val v S 0):=vM rfl
theorem zc7 {t:TypeId} {x:Operand} {f:Nat}:WpL C ops (⟨dst,.fieldAddr t x f,ty,pos,after,none⟩::l) T S F Q=WpR C ops dst l T S F Q ((zX C.P t f (zC T x)).map fun v=>.val v S 0):=vM rfl
theorem zpc {t:TypeId} {x:Operand} {f:Nat}:WpL C ops (⟨dst,.field t x f,ty,pos,after,none⟩::l) T S F Q=WpR C ops dst l T S F Q ((z8m C.P t f (zC T x)).map fun v=>.val v S 0):=vM rfl
theorem zrb {t:TypeId} {x:Operand}:WpL C ops (⟨dst,.load t x,ty,pos,after,none⟩::l) T S F Q=WpR C ops dst l T S F Q ((kN C.P S t (zC T x)).map fun v=>.val v S 1):=vM rfl
theorem zpt {t:TypeId} {x y:Operand}:WpL C ops (⟨dst,.store t x y,ty,pos,after,none⟩::l) T S F Q=WpR C ops dst l T S F Q ((z0e C.P S t (zC T x) (zC T y)).map fun S'=>.skip S' 3):=vM rfl
theorem zho {t u:TypeId} {x:Operand}:WpL C ops (⟨dst,.convert t u x,ty,pos,after,none⟩::l) T S F Q=WpR C ops dst l T S F Q ((qF C.P S t u (zC T x)).map fun r=>.val r.1 S r.2):=vM rfl
theorem zcm {t:TypeId} {x y:Operand}:WpL C ops (⟨dst,.makeSlice t x y,ty,pos,after,none⟩::l) T S F Q=WpR C ops dst l T S F Q ((jL C.P S t (zC T x) (zC T y)).map fun r=>.val r.1 r.2 2):=vM rfl
theorem zp2 {t:TypeId} {x:Operand} {lo hi:Option Operand}:WpL C ops (⟨dst,.slice t x lo hi none,ty,pos,after,none⟩::l) T S F Q=WpR C ops dst l T S F Q ((vF C.P S t (zC T x) (lo.map (zC T)) (hi.map (zC T))).map fun v=>.val v S 1):=vM rfl
theorem ziz {t:TypeId} {x k:Operand} {ok:Bool}:WpL C ops (⟨dst,.lookup t x k ok,ty,pos,after,none⟩::l) T S F Q=WpR C ops dst l T S F Q ((wF C.P S t (zC T x) (zC T k) ok).map fun v=>.val v S 1):=vM rfl
theorem zcx {t:TypeId} {x k v:Operand}:WpL C ops (⟨dst,.mapUpdate t x k v,ty,pos,after,none⟩::l) T S F Q=WpR C ops dst l T S F Q ((jS C.P S t (zC T x) (zC T k) (zC T v)).map fun S'=>.skip S' 3):=vM rfl
theorem zh1 {b:Builtin} {args:Array Operand} {ts:Array TypeId}:WpL C ops (⟨dst,.call { callee:= .builtin b,args:=args,argTypes:=ts },ty,pos,after,none⟩::l) T S F Q=WpR C ops dst l T S F Q (zI C.P S b ts.toList (args.toList.map (zC T))):=vM rfl
theorem zoy {t:TypeId} {ps:Array (Nat × Operand)}:WpL C ops (⟨dst,.build t ps,ty,pos,after,none⟩::l) T S F Q=WpR C ops dst l T S F Q ((wX C.P t (ps.toList.map fun p=>(p.1,zC T p.2))).map fun v=>.val v S 0):=vM rfl
theorem zhh {x:Operand} {i:Nat}:WpL C ops (⟨dst,.extract x i,ty,pos,after,none⟩::l) T S F Q=WpR C ops dst l T S F Q (match zC T x with | .tup vs=>(match vs[i]? with | some v=>some (.val v S 0) | none=>none) | _=>none):=vM rfl
end
end
inductive Fr where
 | seq (b:Code)
 | block (id:Nat)
 | loop (b:Code)
section
variable {C:Cfg}
def post (C:Cfg):List Fr→Post→Post
 | [],Q=>Q
 | .seq b::k,Q=>andThen (fun T S F=>Wp C b T S F (post C k Q)) (post C k Q)
 | .block id::k,Q=>inBlock id (post C k Q)
 | .loop b::k,Q=>andThen (fun T S F=>Wp C (.loop b) T S F (post C k Q)) (post C k Q)
theorem wN {n m:Nat} {f:FuncId} {args:List V} {S:zA} {r r':Out × zA × Nat} (h:jO C (run C n) f args S=some r) (h':jO C (run C m) f args S=some r'):r=r':=by
 have h1:=zbg (Nat.le_max_left n m) h
 have h2:=zbg (Nat.le_max_right n m) h'
 rw [h1] at h2; exact Option.some.inj h2
section
variable {T:List V} {S:zA} {F:Dfs} {k:List Fr} {Q:Post}
theorem zO {c:Code}:Wp C c T S F Q=Wp C c T S F (post C [] Q):=rfl
theorem zyj {a b:Code}:Wp C (.seq a b) T S F (post C k Q)=Wp C a T S F (post C (.seq b::k) Q):=by
 apply propext
 constructor
 ·rintro ⟨n,x,T',S',F',h1,h2⟩
  cases n with
  | zero=>simp [exec] at h1
  | succ n =>
   simp only [exec] at h1
   cases ha:exec C n a T S F with
   | none=>simp [ha] at h1
   | some r =>
    obtain ⟨y,T2,S2,F2⟩:=r
    simp only [ha] at h1
    cases y with
    | norm=>exact ⟨n,.norm,T2,S2,F2,ha,n,x,T',S',F',h1,h2⟩
    | _ =>
     simp only [Option.some.injEq,Prod.mk.injEq] at h1
     obtain ⟨rfl,rfl,rfl,rfl⟩:=h1
     exact ⟨n,_,_,_,_,ha,h2⟩
 ·exact Vm.wp_seq
theorem zif {id:Nat} {ops:Array Oper}:Wp C (.region id ops false) T S F Q=WpL C ops ops.toList T S F Q:=by
 apply propext
 constructor
 ·rintro ⟨n,x,T',S',F',h1,h2⟩
  cases n with
  | zero=>simp [exec] at h1
  | succ n=>exact ⟨n,x,T',S',F',by simpa [exec] using h1,h2⟩
 ·exact Vm.wp_region
theorem zt4 {ops:Array Oper} {Q:Post}:WpL C ops [] T S F Q=Q .norm T S F:=zv2
theorem zzj {b:Code}:post C (.seq b::k) Q .norm T S F=Wp C b T S F (post C k Q):=rfl
theorem zst {b:Code}:post C (.loop b::k) Q .norm T S F=Wp C (.loop b) T S F (post C k Q):=rfl
theorem zo7 {id:Nat}:post C (.block id::k) Q .norm T S F=post C k Q .norm T S F:=rfl
theorem zey {b:Code} {i:Nat}:post C (.seq b::k) Q (.exit i) T S F=post C k Q (.exit i) T S F:=rfl
theorem zbz {b:Code} {i:Nat}:post C (.loop b::k) Q (.exit i) T S F=post C k Q (.exit i) T S F:=rfl
theorem z1u {id i:Nat}:post C (.block id::k) Q (.exit i) T S F=if i=id then post C k Q .norm T S F else post C k Q (.exit i) T S F:=rfl
theorem zic {b:Code}:post C (.seq b::k) Q .ret T S F=post C k Q .ret T S F:=rfl
theorem zex {b:Code}:post C (.loop b::k) Q .ret T S F=post C k Q .ret T S F:=rfl
theorem zct {id:Nat}:post C (.block id::k) Q .ret T S F=post C k Q .ret T S F:=rfl
theorem zgy {b:Code} {v:V}:post C (.seq b::k) Q (.pan v) T S F=post C k Q (.pan v) T S F:=rfl
theorem zep {b:Code} {v:V}:post C (.loop b::k) Q (.pan v) T S F=post C k Q (.pan v) T S F:=rfl
theorem zcw {id:Nat} {v:V}:post C (.block id::k) Q (.pan v) T S F=post C k Q (.pan v) T S F:=rfl
theorem zzd {x:Ex}:post C [] Q x T S F=Q x T S F:=rfl
theorem zap {c:Code} {x:Ex} (h : ∀ n T S F,exec C (n + 1) c T S F=some (x,T,S,F)):Wp C c T S F Q=Q x T S F:=by
 apply propext
 constructor
 ·rintro ⟨n,y,T',S',F',h1,h2⟩
  cases n with
  | zero=>simp [exec] at h1
  | succ n =>
   rw [h,Option.some.injEq] at h1
   simp only [Prod.mk.injEq] at h1
   obtain ⟨rfl,rfl,rfl,rfl⟩:=h1
   exact h2
 ·exact fun hq=>⟨1,_,_,_,_,h 0 T S F,hq⟩
theorem zss:Wp C .skip T S F Q=Q .norm T S F:=zap fun _ _ _ _=>by simp [exec]
theorem zyb:Wp C .ret T S F Q=Q .ret T S F:=zap fun _ _ _ _=>by simp [exec]
theorem zsm {id:Nat}:Wp C (.exit id) T S F Q=Q (.exit id) T S F:=zap fun _ _ _ _=>by simp [exec]
theorem zof {l:Nat}:Wp C (.label l) T S F Q=Q .norm T S F:=zap fun _ _ _ _=>by simp [exec]
theorem zoh {id:Nat} {b:Code}:Wp C (.block id b) T S F (post C k Q)=Wp C b T S F (post C (.block id::k) Q):=by
 apply propext
 constructor
 ·rintro ⟨n,x,T',S',F',h1,h2⟩
  cases n with
  | zero=>simp [exec] at h1
  | succ n =>
   simp only [exec] at h1
   cases ha:exec C n b T S F with
   | none=>simp [ha] at h1
   | some r =>
    obtain ⟨y,T2,S2,F2⟩:=r
    simp only [ha] at h1
    refine ⟨n,y,T2,S2,F2,ha,?_⟩
    cases y with
    | exit i =>
     simp only at h1
     rw [z1u]
     split at h1 <;> (rename_i hi; simp only [Option.some.injEq,Prod.mk.injEq] at h1; obtain ⟨rfl,rfl,rfl,rfl⟩:=h1)
     ·rw [if_pos hi]; exact h2
     ·rw [if_neg hi]; exact h2
    | _ =>
     simp only [Option.some.injEq,Prod.mk.injEq] at h1
     obtain ⟨rfl,rfl,rfl,rfl⟩:=h1
     exact h2
 ·exact Vm.wp_block
theorem zmz {b:Code}:Wp C (.scope b) T S F Q=Wp C b T S F Q:=by
 apply propext
 constructor
 ·rintro ⟨n,x,T',S',F',h1,h2⟩
  cases n with
  | zero=>simp [exec] at h1
  | succ n=>exact ⟨n,x,T',S',F',by simpa [exec] using h1,h2⟩
 ·exact Vm.wp_scope
theorem zN {b:Code} (h:Wp C b T S F (post C (.loop b::k) Q)):Wp C (.loop b) T S F (post C k Q):=Vm.wp_loop h
def WpB (C:Cfg) (v:V) (a b:Code) (T:List V) (S:zA) (F:Dfs) (Q:Post):Prop :=
 match v with
 | .d (.bool x)=>(x=true→Wp C a T S F Q)∧(x=false→Wp C b T S F Q)
 | _=>False
theorem ztb {c:Operand} {a b:Code}:Wp C (.cond c a b) T S F Q=WpB C (zC T c) a b T S F Q:=by
 apply propext
 constructor
 ·rintro ⟨n,x,T',S',F',h1,h2⟩
  cases n with
  | zero=>simp [exec] at h1
  | succ n =>
   simp only [exec] at h1
   unfold WpB
   split at h1
   ·rename_i hv; rw [hv]; exact ⟨fun _=>⟨n,x,T',S',F',h1,h2⟩,(fun h=>by cases h)⟩
   ·rename_i hv; rw [hv]; exact ⟨(fun h=>by cases h),fun _=>⟨n,x,T',S',F',h1,h2⟩⟩
   ·cases h1
 ·intro h
  unfold WpB at h
  split at h
  ·rename_i x hv; exact Vm.wp_cond hv h.1 h.2
  ·exact h.elim
theorem zv8 {a b:Code}:WpB C (.d (.bool true)) a b T S F Q=Wp C a T S F Q:=by simp [WpB]
theorem znc {a b:Code}:WpB C (.d (.bool false)) a b T S F Q=Wp C b T S F Q:=by simp [WpB]
theorem zt0 {x:D}:frz S zG (.d x)=some x:=rfl
theorem zaq {x:D}:frzIds S zG (.d x)=[]:=rfl
theorem qI {ops:Array Oper} {dst:Option Tmp} {l:List Oper} {f:FuncId} {ds:List D} {v:V} (hs:C.shared f=false) (he:Ev C f ds (.ret v)):WpR C ops dst l T S F Q (some (.enter f (ds.map .d)))=WpL C ops l (putT T dst v) S F Q:=by
 obtain ⟨n,hn⟩:=he
 have hfz : ∀ ds:List D,allO (frz S zG) (ds.map V.d)=some ds:=by
  intro ds
  induction ds with
  | nil=>rfl
  | cons x r ih=>simp only [List.map_cons,allO,ih,zt0]
 have hid : ∀ ds:List D,((ds.map V.d).flatMap (frzIds S zG)).isEmpty=true:=by
  intro ds
  induction ds with
  | nil=>rfl
  | cons x r ih=>simp only [List.map_cons,List.flatMap_cons,zaq,List.nil_append]; exact ih
 have hc:jO C (run C n) f (ds.map .d) S=some (.ret v,S,1):=by
  have hn':answer C (run C n) f ds=some (.ret v):=hn
  unfold jO
  simp only [hs,Bool.false_eq_true,if_false,hfz,hn',hid,if_true]
 apply propext
 constructor
 ·rintro ⟨m,o,S',c,h1,h2⟩
  have:=wN h1 hc
  simp only [Prod.mk.injEq] at this
  obtain ⟨rfl,rfl,rfl⟩:=this
  exact h2
 ·exact fun h=>⟨n,_,_,_,hc,h⟩
end
end
section
variable {C:Cfg} {P:Program} {T:List V} {S:zA} {F:Dfs} {Q:Post}
def OwnS (S:zA) (v:V) (e:TypeId) (xs:List V):Prop :=
 (v = .ts []∧xs=[]) ∨ ∃ id,v = .rs id 0 xs.length∧S[id]? = some (.row xs e)
theorem OwnS.nil {e:TypeId}:OwnS S (.ts []) e []:= .inl ⟨rfl,rfl⟩
def NotAt (v:V) (j:Nat):Prop:= ∀ off l,v ≠ .rs j off l
theorem NotAt.ts {xs:List D} {j:Nat}:NotAt (.ts xs) j:=fun _ _ h=>by cases h
theorem zL {S:zA} {i:Nat} {o:Ob} (h:S[i]? = some o):i < S.length:=by
 rcases Nat.lt_or_ge i S.length with h' | h'
 ·exact h'
 ·simp [List.getElem?_eq_none h'] at h
theorem zgu {t e:TypeId} {v:V} {xs:List V} {d:D} (hu:P.underlying t=some (.slice e)) (hz:zOk P e=true) (hs:(sz P e).isSome=true) (ho:OwnS S v e xs) (hf:z14 P e d=true) (hr:room P e (xs.length + 1)=true) :
  ∃ v' S' c,qJ P S t t v (.ts [d])=some (v',S',c)∧OwnS S' v' e (xs ++ [.d d])∧(∀ j o,S[j]? = some o→NotAt v j→S'[j]? = some o∧NotAt v' j)∧S.length ≤ S'.length:=by
 have hft:qA P e (.d d)=true:=by
  unfold z14 at hf; unfold qA
  simp only [Bool.and_eq_true] at hf ⊢
  refine ⟨⟨rfl,hf.1⟩,?_⟩
  simpa [V.cells] using hf.2
 have hsrc:srcV P S e t (.ts [d])=some [.d d]:=by
  simp [srcV,hu,jV,hft,hs]
 rcases ho with ⟨rfl,rfl⟩ | ⟨id,rfl,h1⟩
 ·refine ⟨.rs S.length 0 1,S ++ [.row [.d d] e],2,?_,.inr ⟨S.length,rfl,by simp⟩,fun j o hj _=>⟨?_,?_⟩,by simp⟩
  ·simp only [qJ,hu,hsrc,hz,if_true]
   have hr1:room P e 1=true:=by simpa using hr
   simp [hr1]
  ·rw [List.getElem?_append_left (zL hj)]; exact hj
  ·intro off l h
   have:=zL hj
   cases h; omega
 ·refine ⟨.rs S.length 0 (xs.length + 1),S.set id .dead ++ [.row (xs ++ [.d d]) e],3,?_,.inr ⟨S.length,by simp,by simp⟩,fun j o hj hn=>⟨?_,?_⟩,by simp⟩
  ·simp only [qJ,hu,hsrc,hz,if_true,h1]
   simp [hr]
  ·have hj':=zL hj
   rw [List.getElem?_append_left (by simpa using hj'),List.getElem?_set_ne]
   ·exact hj
   ·rintro rfl; exact hn 0 _ rfl
  ·intro off l h
   have:=zL hj
   cases h; omega
theorem zg9 {n:Nat} : ∀ l:List D,allO (frz S (n + 1)) (l.map V.d)=some l
 | []=>rfl
 | x::r=>by simp only [List.map_cons,allO,zg9 r]; rfl
theorem zk5 {e:TypeId} {v:V} {ds:List D} (ho:OwnS S v e (ds.map .d)):frz S zG v=some (.sl ds):=by
 rcases ho with ⟨rfl,h⟩ | ⟨id,rfl,h1⟩
 ·have:ds=[]:=by simpa using h
  subst this; rfl
 ·simp only [List.length_map]
  show (match S[id]? with
   | some (.row xs e)=>if 0 + ds.length ≤ xs.length && (allO (frz S 11) xs).isSome then (allO (frz S 11) ((xs.drop 0).take ds.length)).map D.sl else none
   | some (.fz xs e)=>if 0 + ds.length ≤ xs.length then some (D.sl ((xs.drop 0).take ds.length)) else none
   | _=>none)=_
  have h2:((ds.map V.d).drop 0).take ds.length=ds.map V.d:=by rw [List.drop_zero,List.take_of_length_le (by simp)]
  simp only [h1,h2,zg9,List.length_map,Option.isSome_some,Bool.and_true,Option.map_some]
  simp
end
section
variable {P:Program} {S:zA}
theorem zl6 {t tx:TypeId} {s x:V}:zI P S .append [t,tx] [s,x]=(qJ P S t tx s x).map fun r=>.val r.1 r.2.1 r.2.2:=rfl
theorem zuv {t tx:TypeId} {s x:V}:zI P S .copy [t,tx] [s,x]=(copyV P S t tx s x).map fun r=>.val r.1 r.2 3:=rfl
theorem zq4 {t e:TypeId} {xs:List D} (hu:P.underlying t=some (.slice e)):zI P S .len [t] [.d (.sl xs)]=some (.val (.d (.int .i64 xs.length)) S 0):=by simp [zI,hu]
theorem zj6 {t e:TypeId} {xs:List D} (hu:P.underlying t=some (.slice e)):zI P S .len [t] [.ts xs]=some (.val (.d (.int .i64 xs.length)) S 0):=by simp [zI,hu]
theorem zkl {t e:TypeId} {i o n:Nat} (hu:P.underlying t=some (.slice e)):zI P S .len [t] [.rs i o n]=some (.val (.d (.int .i64 n)) S 0):=by simp [zI,hu]
theorem zrf {t:TypeId} {s:List UInt8} (hu:P.underlying t=some .string):zI P S .len [t] [.d (.str s)]=some (.val (.d (.int .i64 s.length)) S 0):=by simp [zI,hu]
theorem kE {t e e':TypeId} {v:V} {xs:List V} (hu:P.underlying t=some (.slice e)) (ho:OwnS S v e' xs):zI P S .len [t] [v]=some (.val (.d (.int .i64 xs.length)) S 0):=by
 rcases ho with ⟨rfl,rfl⟩ | ⟨id,rfl,h1⟩
 ·exact zj6 hu
 ·exact zkl hu
theorem zy2 {t e:TypeId} {xs:List D} {i:Nat} {y:D} (hu:P.underlying t=some (.slice e)) (hy:xs[i]? = some y) (hf:z14 P e y=true):zM P S t (.d (.sl xs)) (.d (.int .i64 i))=some (.d (.ptr y)):=by
 have h1:i < xs.length:=by
  rcases Nat.lt_or_ge i xs.length with h' | h'
  ·exact h'
  ·simp [List.getElem?_eq_none h'] at hy
 have h0:(0:Int) ≤ i:=by omega
 have h2:(i:Int) < xs.length:=by omega
 simp only [zM,intOf?,hu,h0,h2,and_self,if_true,Int.toNat_natCast,hy,hf]
theorem binI {op:BinOp} {t:TypeId} {k k':IntKind} {a b:Int}:binV P op t (.d (.int k a)) (.d (.int k' b))=(qO op k a k' b).map .d:=rfl
theorem binS {op:BinOp} {t:TypeId} {a b:List UInt8}:binV P op t (.d (.str a)) (.d (.str b))=(z59 op a b).map .d:=rfl
theorem zvx {k:IntKind} {a b:Int}:qO .add k a k b=some (.int k (k.wrap (a + b))):=by simp [qO]
theorem zyx {k:IntKind} {a b:Int}:qO .sub k a k b=some (.int k (k.wrap (a - b))):=by simp [qO]
theorem zxh {k:IntKind} {a b:Int}:qO .mul k a k b=some (.int k (k.wrap (a * b))):=by simp [qO]
theorem zxc {k:IntKind} {a b:Int}:qO .lss k a k b=some (.bool (decide (a < b))):=by simp [qO]
theorem zwg {k:IntKind} {a b:Int}:qO .leq k a k b=some (.bool (decide (a ≤ b))):=by simp [qO]
theorem zws {k:IntKind} {a b:Int}:qO .gtr k a k b=some (.bool (decide (a > b))):=by simp [qO]
theorem zzr {k:IntKind} {a b:Int}:qO .geq k a k b=some (.bool (decide (a ≥ b))):=by simp [qO]
theorem wrap64 {a:Int} (h : -9223372036854775808 ≤ a∧a ≤ 9223372036854775807):IntKind.i64.wrap a=a:=IntWalk.i64_in _ (by omega)
end
section
variable {C:Cfg} {ops:Array Oper} {dst:Option Tmp} {ty:TypeId} {pos:String} {after:Array Edge} {l:List Oper} {T:List V} {S:zA} {F:Dfs} {Q:Post}
theorem z4d {t:TypeId} {n:Nat} {ps:Array (Nat × Operand)} {d2:Option Tmp} {c:Call} {ty2:TypeId} {pos2:String} {after2:Array Edge} {g2:Option (Nat × Bool)} :
  WpL C ops (⟨dst,.buildSlice t n ps,ty,pos,after,none⟩::⟨d2,.call c,ty2,pos2,after2,g2⟩::l) T S F Q=WpR C ops dst (⟨d2,.call c,ty2,pos2,after2,g2⟩::l) T S F Q (opV C.P S T ⟨dst,.buildSlice t n ps,ty,pos,after,none⟩):=z7z rfl
end
section
variable (C:Cfg) (ops:Array Oper) (base:Nat)
def z3n (rd:List Nat) (i c:Nat):Prop:=2 < c→(rd.all fun r=>((befs ops).getD i 0).testBit r)=true
def WpE (F:Dfs) (Q:Post) (K:List Nat→List (Nat × Nat)→List V→zA→Prop) (rd:List Nat) (cs:List (Nat × Nat)) (i:Nat) (dst:Option Tmp) (T:List V) (S:zA):Option Rs→Prop
 | some (.val v S' c)=>z3n ops rd i (num2 c)∧K (if num2 c=1 then i::rd else rd) (cs ++ [(i,num2 c)]) (putT T dst v) S'
 | some (.skip S' _)=>z3n ops rd i 3∧K rd (cs ++ [(i,3)]) (putT T dst (.tup [])) S'
 | some (.enter f args)=>∃ n v S' c,jO C (run C n) f args S=some (.ret v,S',c)∧z3n ops rd i (num2 c)∧K (if num2 c=1 then i::rd else rd) (cs ++ [(i,num2 c)]) (putT T dst v) S'
 | _=>False
def WpA (K:List (Nat × Nat)→List V→zA→Prop) (cs:List (Nat × Nat)) (i:Nat) (dst:Option Tmp) (T:List V) (S:zA):Option (Ob × (Nat→V))→Prop
 | some (ob,f)=>S[base + i]? = some .hole∧K (cs ++ [(i,2)]) (putT T dst (f (base + i))) (S.set (base + i) ob)
 | none=>False
def WpD (F:Dfs) (Q:Post):List Nat→List (Nat × Nat)→List Nat→List V→zA→Prop
 | rd,cs,[],T,S=>z2j ops cs=true∧Q .norm T S F
 | rd,cs,i::is,T,S=>match ops[i]? with
  | none=>False
  | some o=>match zW ops T o with
   | none=>False
   | some false=>WpD F Q rd (cs ++ [(i,0)]) is (putT T o.dst (.tup [])) S
   | some true=>if jP o=true then WpA base (fun cs T S=>WpD F Q rd cs is T S) cs i o.dst T S (addO C.P T o)
    else WpE C ops F Q (fun rd cs T S=>WpD F Q rd cs is T S) rd cs i o.dst T S (opV C.P S T o)
end
section
variable {C:Cfg} {ops:Array Oper} {base:Nat} {F:Dfs} {Q:Post}
theorem zn9 {call:jX} {b:List Nat} {i:Nat} {S:zA} {rd:List Nat} {ws:List (Nat × List V × V)} (hw:ws.map (·.1)=rd) (h:(rd.all fun r=>(b.getD i 0).testBit r)=true):ws.all (jN C call ops b base i S)=true:=by
 subst hw
 rw [List.all_eq_true] at h ⊢
 intro w hw
 have:=h w.1 (List.mem_map.2 ⟨w,hw,rfl⟩)
 unfold jN
 rw [this]; rfl
theorem zyo : ∀ {is:List Nat} {rd:List Nat} {cs:List (Nat × Nat)} {T:List V} {S:zA},WpD C ops base F Q rd cs is T S → ∀ ws:List (Nat × List V × V),ws.map (·.1)=rd → ∃ n T' S' cs',seqC C (run C n) ops (befs ops) base ws is T S=some (T',S',cs')∧z2j ops (cs ++ cs')=true∧Q .norm T' S' F
 | [],rd,cs,T,S,h,ws,hw=>⟨0,T,S,[],rfl,by simpa [WpD] using h.1,h.2⟩
 | i::is,rd,cs,T,S,h,ws,hw=>by
  have go : ∀ (n:Nat) (o:Oper) (v:V) (S':zA) (c:Nat),ops[i]? = some o→effC C (run C n) ops (base + i) o T S=some (v,S',c)→z3n ops rd i c→WpD C ops base F Q (if c=1 then i::rd else rd) (cs ++ [(i,c)]) is (putT T o.dst v) S' →
    ∃ n T' S' cs',seqC C (run C n) ops (befs ops) base ws (i::is) T S=some (T',S',cs')∧z2j ops (cs ++ cs')=true∧Q .norm T' S' F:=by
   intro n o v S' c ho he hb hd
   obtain ⟨m,T2,S2,cs2,h1,h2,h3⟩:=zyo hd (if c=1 then (i,T,v)::ws else ws) (by split <;> simp [hw])
   refine ⟨max n m,T2,S2,(i,c)::cs2,?_,by simpa using h2,h3⟩
   have he':=vY (z7h C (Nat.le_max_left n m)) he
   have h1':=z4s (z7h C (Nat.le_max_right n m)) h1
   simp only [seqC,ho,he']
   rw [if_neg,h1']
   rintro ⟨hc,hall⟩
   rw [zn9 hw (hb hc)] at hall
   cases hall
  simp only [WpD] at h
  cases ho:ops[i]? with
  | none=>simp [ho] at h
  | some o =>
   simp only [ho] at h
   cases hwt:zW ops T o with
   | none=>simp [hwt] at h
   | some b =>
    simp only [hwt] at h
    cases b with
    | false=>exact go 0 o (.tup []) S 0 ho (by simp [effC,hwt]) (fun hc=>by omega) h
    | true =>
     cases hk:jP o with
     | true =>
      simp only [hk,if_true] at h
      cases hadd:addO C.P T o with
      | none=>simp [hadd,WpA] at h
      | some q =>
       obtain ⟨ob,f⟩:=q
       simp only [hadd,WpA] at h
       exact go 0 o (f (base + i)) (S.set (base + i) ob) 2 ho (by simp [effC,hwt,hk,hadd,h.1]) (fun hc=>by omega) h.2
     | false =>
      simp only [hk,Bool.false_eq_true,if_false] at h
      cases hop:opV C.P S T o with
      | none=>simp [hop,WpE] at h
      | some r =>
       simp only [hop] at h
       cases r with
       | val v S' c=>exact go 0 o v S' (num2 c) ho (by simp [effC,hwt,hk,hop]) h.1 h.2
       | skip S' c=>exact go 0 o (.tup []) S' 3 ho (by simp [effC,hwt,hk,hop]) h.1 h.2
       | enter f args =>
        obtain ⟨n,v,S',c,h1,h2,h3⟩:=h
        exact go n o v S' (num2 c) ho (by simp [effC,hwt,hk,hop,h1]) h2 h3
       | dfr f args=>exact h.elim
       | pan v=>exact h.elim
theorem vB {id:Nat} {T:List V} {S:zA} {is:List Nat} {h:Nat} (ho:z2h C.shared ops=is) (hh:vH ops=h) (hd:WpD C ops S.length F Q [] [] is T (S ++ List.replicate h .hole)):Wp C (.region id ops true) T S F Q:=by
 subst ho; subst hh
 obtain ⟨n,T',S',cs',h1,h2,h3⟩:=zyo hd [] rfl
 exact ⟨n + 1,.norm,T',S',F,by simp only [exec,h1]; rw [if_pos (by simpa using h2)],h3⟩
def WpW (K:Prop) (K':Prop):Option Bool→Prop
 | some true=>K
 | some false=>K'
 | none=>False
theorem zub {rd:List Nat} {cs:List (Nat × Nat)} {i:Nat} {is:List Nat} {T:List V} {S:zA}:WpD C ops base F Q rd cs (i::is) T S=match ops[i]? with
  | none=>False
  | some o=>match zW ops T o with
   | none=>False
   | some false=>WpD C ops base F Q rd (cs ++ [(i,0)]) is (putT T o.dst (.tup [])) S
   | some true=>if jP o=true then WpA base (fun cs T S=>WpD C ops base F Q rd cs is T S) cs i o.dst T S (addO C.P T o)
    else WpE C ops F Q (fun rd cs T S=>WpD C ops base F Q rd cs is T S) rd cs i o.dst T S (opV C.P S T o):=rfl
end
section
variable {C:Cfg} {ops:Array Oper} {dst:Option Tmp} {op:Op} {ty:TypeId} {pos:String} {after:Array Edge} {l:List Oper} {T:List V} {S:zA} {F:Dfs} {Q:Post}
theorem zom {g:Nat × Bool} (hn:zch ⟨dst,op,ty,pos,after,none⟩=true):WpL C ops (⟨dst,op,ty,pos,after,some g⟩::l) T S F Q=WpW (WpL C ops (⟨dst,op,ty,pos,after,none⟩::l) T S F Q) (WpL C ops l (putT T dst (.tup [])) S F Q) ((qL ops T g.1).map (· == some g.2)):=by
 obtain ⟨j,w⟩:=g
 have hp:wB C.P T ⟨dst,op,ty,pos,after,some (j,w)⟩ l=none:=z2n hn
 have hp':wB C.P T ⟨dst,op,ty,pos,after,none⟩ l=none:=z2n hn
 have hopv:opV C.P S T ⟨dst,op,ty,pos,after,some (j,w)⟩=opV C.P S T ⟨dst,op,ty,pos,after,none⟩:=by cases op <;> rfl
 apply propext
 cases hy:(qL ops T j).map (· == some w) with
 | none =>
  simp only [WpW,iff_false]
  rintro ⟨n,x,T',S',F',h1,h2⟩
  simp [seqV,hp,zW,hy] at h1
 | some b =>
  cases b with
  | false =>
   simp only [WpW]
   constructor
   ·rintro ⟨n,x,T',S',F',h1,h2⟩
    simp only [seqV,hp,zW,hy] at h1
    exact ⟨n,x,T',S',F',h1,h2⟩
   ·rintro ⟨n,x,T',S',F',h1,h2⟩
    exact ⟨n,x,T',S',F',by simp only [seqV,hp,zW,hy]; exact h1,h2⟩
  | true =>
   simp only [WpW]
   constructor
   ·rintro ⟨n,x,T',S',F',h1,h2⟩
    simp only [seqV,hp,zW,hy,hopv] at h1
    exact ⟨n,x,T',S',F',by simp only [seqV,hp',zW]; exact h1,h2⟩
   ·rintro ⟨n,x,T',S',F',h1,h2⟩
    simp only [seqV,hp',zW] at h1
    exact ⟨n,x,T',S',F',by simp only [seqV,hp,zW,hy,hopv]; exact h1,h2⟩
def WpG (C:Cfg) (ops:Array Oper) (dst:Option Tmp) (op:Op) (ty:TypeId) (pos:String) (after:Array Edge) (l:List Oper) (T:List V) (S:zA) (F:Dfs) (Q:Post):Option Bool→Prop
 | some true=>WpL C ops (⟨dst,op,ty,pos,after,none⟩::l) T S F Q
 | some false=>WpL C ops l (putT T dst (.tup [])) S F Q
 | none=>False
theorem jF {g:Nat × Bool} (hn:zch ⟨dst,op,ty,pos,after,none⟩=true):WpL C ops (⟨dst,op,ty,pos,after,some g⟩::l) T S F Q=WpG C ops dst op ty pos after l T S F Q ((qL ops T g.1).map (· == some g.2)):=by
 rw [zom hn]
 cases (qL ops T g.1).map (· == some g.2) with
 | none=>rfl
 | some b=>cases b <;> rfl
end
section
variable {C:Cfg} {ops:Array Oper} {dst:Option Tmp} {ty:TypeId} {pos:String} {after:Array Edge} {l:List Oper} {T:List V} {S S':zA} {F:Dfs} {Q:Post} {k:List Fr}
theorem zp9 {g:FuncId} {args:Array Operand} {ts:Array TypeId}:WpL C ops (⟨dst,.call { callee:= .value (.func g),args:=args,argTypes:=ts },ty,pos,after,none⟩::l) T S F Q=WpR C ops dst l T S F Q (if (args.toList.map (zC T)).all V.one && (zB C.P g).isSome then some (.enter g ([] ++ args.toList.map (zC T) ++ [])) else none):=vM rfl
theorem zth {c a b:Operand}:WpL C ops (⟨dst,.pick c a b,ty,pos,after,none⟩::l) T S F Q=WpR C ops dst l T S F Q (match zC T c with | .d (.bool true)=>some (.val (zC T a) S 0) | .d (.bool false)=>some (.val (zC T b) S 0) | _=>none):=vM rfl
theorem zfa {x:Operand}:WpL C ops (⟨dst,.nilCheck x,ty,pos,after,none⟩::l) T S F Q=WpR C ops dst l T S F Q (match zC T x with | .ref i ix off=>some (.val (.ref i ix off) S 0) | .d (.ptr x)=>some (.val (.d (.ptr x)) S 0) | .fn (.func g) a b=>some (.val (.fn (.func g) a b) S 0) | _=>none):=vM rfl
theorem zpn {x:Operand} {g:Nat × Bool}:WpL C ops (⟨dst,.move x,ty,pos,after,some g⟩::l) T S F Q=WpG C ops dst (.move x) ty pos after l T S F Q ((qL ops T g.1).map (· == some g.2)):=jF rfl
theorem zgv {x:Operand} {g:Nat × Bool}:WpL C ops (⟨dst,.assign x,ty,pos,after,some g⟩::l) T S F Q=WpG C ops dst (.assign x) ty pos after l T S F Q ((qL ops T g.1).map (· == some g.2)):=jF rfl
theorem zru {op:BinOp} {t u:TypeId} {x y:Operand} {g:Nat × Bool}:WpL C ops (⟨dst,.binOp op t x y u,ty,pos,after,some g⟩::l) T S F Q=WpG C ops dst (.binOp op t x y u) ty pos after l T S F Q ((qL ops T g.1).map (· == some g.2)):=jF rfl
theorem zvk {op:UnOp} {t:TypeId} {x:Operand} {g:Nat × Bool}:WpL C ops (⟨dst,.unOp op t x,ty,pos,after,some g⟩::l) T S F Q=WpG C ops dst (.unOp op t x) ty pos after l T S F Q ((qL ops T g.1).map (· == some g.2)):=jF rfl
theorem zjg {t:TypeId} {x y:Operand} {g:Nat × Bool}:WpL C ops (⟨dst,.indexAddr t x y,ty,pos,after,some g⟩::l) T S F Q=WpG C ops dst (.indexAddr t x y) ty pos after l T S F Q ((qL ops T g.1).map (· == some g.2)):=jF rfl
theorem zs1 {t:TypeId} {x y:Operand} {g:Nat × Bool}:WpL C ops (⟨dst,.index t x y,ty,pos,after,some g⟩::l) T S F Q=WpG C ops dst (.index t x y) ty pos after l T S F Q ((qL ops T g.1).map (· == some g.2)):=jF rfl
theorem zb7 {t:TypeId} {x:Operand} {f:Nat} {g:Nat × Bool}:WpL C ops (⟨dst,.fieldAddr t x f,ty,pos,after,some g⟩::l) T S F Q=WpG C ops dst (.fieldAddr t x f) ty pos after l T S F Q ((qL ops T g.1).map (· == some g.2)):=jF rfl
theorem zlv {t:TypeId} {x:Operand} {f:Nat} {g:Nat × Bool}:WpL C ops (⟨dst,.field t x f,ty,pos,after,some g⟩::l) T S F Q=WpG C ops dst (.field t x f) ty pos after l T S F Q ((qL ops T g.1).map (· == some g.2)):=jF rfl
theorem zoa {t:TypeId} {x:Operand} {g:Nat × Bool}:WpL C ops (⟨dst,.load t x,ty,pos,after,some g⟩::l) T S F Q=WpG C ops dst (.load t x) ty pos after l T S F Q ((qL ops T g.1).map (· == some g.2)):=jF rfl
theorem zel {t u:TypeId} {x:Operand} {g:Nat × Bool}:WpL C ops (⟨dst,.convert t u x,ty,pos,after,some g⟩::l) T S F Q=WpG C ops dst (.convert t u x) ty pos after l T S F Q ((qL ops T g.1).map (· == some g.2)):=jF rfl
theorem zix {t:TypeId} {x:Operand} {lo hi:Option Operand} {g:Nat × Bool}:WpL C ops (⟨dst,.slice t x lo hi none,ty,pos,after,some g⟩::l) T S F Q=WpG C ops dst (.slice t x lo hi none) ty pos after l T S F Q ((qL ops T g.1).map (· == some g.2)):=jF rfl
theorem zhp {t:TypeId} {x k:Operand} {ok:Bool} {g:Nat × Bool}:WpL C ops (⟨dst,.lookup t x k ok,ty,pos,after,some g⟩::l) T S F Q=WpG C ops dst (.lookup t x k ok) ty pos after l T S F Q ((qL ops T g.1).map (· == some g.2)):=jF rfl
theorem zno {c:Call} {g:Nat × Bool}:WpL C ops (⟨dst,.call c,ty,pos,after,some g⟩::l) T S F Q=WpG C ops dst (.call c) ty pos after l T S F Q ((qL ops T g.1).map (· == some g.2)):=jF rfl
theorem zeo {x:Operand} {i:Nat} {g:Nat × Bool}:WpL C ops (⟨dst,.extract x i,ty,pos,after,some g⟩::l) T S F Q=WpG C ops dst (.extract x i) ty pos after l T S F Q ((qL ops T g.1).map (· == some g.2)):=jF rfl
theorem zmy {c a b:Operand} {g:Nat × Bool}:WpL C ops (⟨dst,.pick c a b,ty,pos,after,some g⟩::l) T S F Q=WpG C ops dst (.pick c a b) ty pos after l T S F Q ((qL ops T g.1).map (· == some g.2)):=jF rfl
theorem zky {t:TypeId} {ps:Array (Nat × Operand)} {g:Nat × Bool}:WpL C ops (⟨dst,.build t ps,ty,pos,after,some g⟩::l) T S F Q=WpG C ops dst (.build t ps) ty pos after l T S F Q ((qL ops T g.1).map (· == some g.2)):=jF rfl
theorem zd2 {x:Operand} {g:Nat × Bool}:WpL C ops (⟨dst,.nilCheck x,ty,pos,after,some g⟩::l) T S F Q=WpG C ops dst (.nilCheck x) ty pos after l T S F Q ((qL ops T g.1).map (· == some g.2)):=jF rfl
theorem z57 {id:Nat}:post C (.block id::k) Q (.exit id) T S F=post C k Q .norm T S F:=by rw [z1u,if_pos rfl]
theorem z6x {id i:Nat} (h:i ≠ id):post C (.block id::k) Q (.exit i) T S F=post C k Q (.exit i) T S F:=by rw [z1u,if_neg h]
theorem zve {op:Op}:WpG C ops dst op ty pos after l T S F Q (some true)=WpL C ops (⟨dst,op,ty,pos,after,none⟩::l) T S F Q:=rfl
theorem zol {op:Op}:WpG C ops dst op ty pos after l T S F Q (some false)=WpL C ops l (putT T dst (.tup [])) S F Q:=rfl
end
theorem zu8 {T:List V} {k:IntKind} {n:Int}:zC T (.const (.int k n)) = .d (.int k n):=rfl
theorem znw {T:List V} {b:Bool}:zC T (.const (.bool b)) = .d (.bool b):=rfl
theorem ztp {T:List V} {s:ByteArray}:zC T (.const (.string s)) = .d (.str (zkv s)):=rfl
theorem z7f {T:List V}:zC T (.const (.slice none 0 0)) = .ts []:=rfl
theorem zor {T:List V}:zC T (.const (.map none)) = .d .nilm:=rfl
theorem znq {T:List V}:zC T (.const (.pointer none)) = .d .nilp:=rfl
theorem zt5 {k:IntKind} {a b:Int}:qO .eql k a k b=some (.bool (decide (a=b))):=by simp [qO]; rfl
theorem zu0 {k:IntKind} {a b:Int}:qO .neq k a k b=some (.bool (decide (a ≠ b))):=by simp [qO]; rfl
def bs1 (P:Program) (S:zA) (t:TypeId) (v:V):Option Rs :=
 match P.underlying t with
 | some (.slice e)=>match zeroV P e,sz P e with
  | some z,some k=>if qA P e z=true∧qA P e v=true∧k ≤ 16777216∧k ≠ 0 then
    match asD v with
    | some d=>some (.val (.ts [d]) S 0)
    | none=>some (.val (.rs S.length 0 1) (S ++ [.row [v] e]) 2)
   else none
  | _,_=>none
 | _=>none
theorem zz4 {P:Program} {S:zA} {T:List V} {t:TypeId} {x:Operand} {dst:Option Tmp} {ty:TypeId} {pos:String} {after:Array Edge} {g:Option (Nat × Bool)}:opV P S T ⟨dst,.buildSlice t 1 #[(0,x)],ty,pos,after,g⟩=bs1 P S t (zC T x):=by
 simp only [opV,bs1]
 cases P.underlying t with
 | none=>rfl
 | some td =>
  cases td <;> try rfl
  rename_i e
  cases hz:zeroV P e with
  | none=>simp only [hz]
  | some z =>
   cases hk:sz P e with
   | none=>simp only [hz,hk]
   | some k =>
    simp only [hz,hk,litV,List.map_cons,List.map_nil,List.foldl_cons,List.foldl_nil,List.replicate_succ,List.replicate_zero,List.set_cons_zero,allO,List.all_cons,List.all_nil,Bool.and_true,Nat.one_mul]
    by_cases h:qA P e z=true∧qA P e (zC T x)=true∧k ≤ 16777216∧k ≠ 0
    ·rw [if_pos h,if_pos (by simp [h])]
     cases asD (zC T x) <;> rfl
    ·rw [if_neg h,if_neg]
     simpa [and_assoc] using h
theorem q0q {f:V→Bool} {a:V} {l:List V}:(a::l).all f=(f a && l.all f):=rfl
theorem q0t {f:V→Bool}:([]:List V).all f=true:=rfl
theorem wH {b:Bool}:unV .not (.d (.bool b))=some (.d (.bool (!b))):=rfl
theorem q04 {x:D}:V.one (.d x)=true:=rfl
theorem zx4 {xs:List D}:V.one (.ts xs)=true:=rfl
theorem zzf {i o n:Nat}:V.one (.rs i o n)=true:=rfl
theorem zrn {xs:List V}:V.one (.agg xs)=true:=rfl
theorem zuu {i o n:Nat}:V.one (.ref i o n)=true:=rfl
theorem zvz {i:Nat}:V.one (.mr i)=true:=rfl
theorem z8k {f:Fn} {a b:List V}:V.one (.fn f a b)=true:=rfl
theorem zrl {p:Prop} [Decidable p] (h:p):decide p=true:=decide_eq_true h
theorem zt2 {p:Prop} [Decidable p] (h : ¬ p):decide p=false:=decide_eq_false h
section
variable {C:Cfg}
theorem vmp :
 (∀ {T:List V} {S:zA} {F:Dfs} {k:List Fr} {Q:Post} {a b:Code},Wp C (.seq a b) T S F (post C k Q)=Wp C a T S F (post C (.seq b::k) Q)) ∧
 (∀ {T:List V} {S:zA} {F:Dfs} {Q:Post} {id:Nat} {ops:Array Oper},Wp C (.region id ops false) T S F Q=WpL C ops ops.toList T S F Q) ∧
 (∀ {T:List V} {S:zA} {F:Dfs} {ops:Array Oper} {Q:Post},WpL C ops [] T S F Q=Q .norm T S F) ∧
 (∀ {T:List V} {S:zA} {F:Dfs} {k:List Fr} {Q:Post} {b:Code},post C (.seq b::k) Q .norm T S F=Wp C b T S F (post C k Q)) ∧
 (∀ {T:List V} {S:zA} {F:Dfs} {k:List Fr} {Q:Post} {b:Code} {i:Nat},post C (.seq b::k) Q (.exit i) T S F=post C k Q (.exit i) T S F) ∧
 (∀ {T:List V} {S:zA} {F:Dfs} {k:List Fr} {Q:Post} {b:Code},post C (.seq b::k) Q .ret T S F=post C k Q .ret T S F) ∧
 (∀ {T:List V} {S:zA} {F:Dfs} {k:List Fr} {Q:Post} {b:Code} {v:V},post C (.seq b::k) Q (.pan v) T S F=post C k Q (.pan v) T S F) ∧
 (∀ {T:List V} {S:zA} {F:Dfs} {k:List Fr} {Q:Post} {b:Code},post C (.loop b::k) Q .norm T S F=Wp C (.loop b) T S F (post C k Q)) ∧
 (∀ {T:List V} {S:zA} {F:Dfs} {k:List Fr} {Q:Post} {b:Code} {i:Nat},post C (.loop b::k) Q (.exit i) T S F=post C k Q (.exit i) T S F) ∧
 (∀ {T:List V} {S:zA} {F:Dfs} {k:List Fr} {Q:Post} {b:Code},post C (.loop b::k) Q .ret T S F=post C k Q .ret T S F) ∧
 (∀ {T:List V} {S:zA} {F:Dfs} {k:List Fr} {Q:Post} {b:Code} {v:V},post C (.loop b::k) Q (.pan v) T S F=post C k Q (.pan v) T S F) ∧
 (∀ {T:List V} {S:zA} {F:Dfs} {k:List Fr} {Q:Post} {id:Nat},post C (.block id::k) Q .norm T S F=post C k Q .norm T S F) ∧
 (∀ {T:List V} {S:zA} {F:Dfs} {k:List Fr} {Q:Post} {id:Nat},post C (.block id::k) Q .ret T S F=post C k Q .ret T S F) ∧
 (∀ {T:List V} {S:zA} {F:Dfs} {k:List Fr} {Q:Post} {id:Nat} {v:V},post C (.block id::k) Q (.pan v) T S F=post C k Q (.pan v) T S F) ∧
 (∀ {T:List V} {S:zA} {F:Dfs} {k:List Fr} {Q:Post} {id:Nat},post C (.block id::k) Q (.exit id) T S F=post C k Q .norm T S F) ∧
 (∀ {T:List V} {S:zA} {F:Dfs} {k:List Fr} {Q:Post} {id i:Nat} (h:i ≠ id),post C (.block id::k) Q (.exit i) T S F=post C k Q (.exit i) T S F) ∧
 (∀ {T:List V} {S:zA} {F:Dfs} {Q:Post} {x:Ex},post C [] Q x T S F=Q x T S F) ∧
 (∀ {T:List V} {S:zA} {F:Dfs} {Q:Post},Wp C .skip T S F Q=Q .norm T S F) ∧
 (∀ {T:List V} {S:zA} {F:Dfs} {Q:Post},Wp C .ret T S F Q=Q .ret T S F) ∧
 (∀ {T:List V} {S:zA} {F:Dfs} {Q:Post} {id:Nat},Wp C (.exit id) T S F Q=Q (.exit id) T S F) ∧
 (∀ {T:List V} {S:zA} {F:Dfs} {Q:Post} {l:Nat},Wp C (.label l) T S F Q=Q .norm T S F) ∧
 (∀ {T:List V} {S:zA} {F:Dfs} {k:List Fr} {Q:Post} {id:Nat} {b:Code},Wp C (.block id b) T S F (post C k Q)=Wp C b T S F (post C (.block id::k) Q)) ∧
 (∀ {T:List V} {S:zA} {F:Dfs} {Q:Post} {b:Code},Wp C (.scope b) T S F Q=Wp C b T S F Q) ∧
 (∀ {T:List V} {S:zA} {F:Dfs} {Q:Post} {c:Operand} {a b:Code},Wp C (.cond c a b) T S F Q=WpB C (zC T c) a b T S F Q) ∧
 (∀ {ops:Array Oper} {dst:Option Tmp} {ty:TypeId} {pos:String} {after:Array Edge} {l:List Oper} {T:List V} {S:zA} {F:Dfs} {Q:Post} {x:Operand},WpL C ops (⟨dst,.move x,ty,pos,after,none⟩::l) T S F Q=WpL C ops l (putT T dst (zC T x)) S F Q) ∧
 (∀ {ops:Array Oper} {dst:Option Tmp} {ty:TypeId} {pos:String} {after:Array Edge} {l:List Oper} {T:List V} {S:zA} {F:Dfs} {Q:Post} {x:Operand},WpL C ops (⟨dst,.assign x,ty,pos,after,none⟩::l) T S F Q=WpL C ops l (putT T dst (zC T x)) S F Q) ∧
 (∀ {ops:Array Oper} {dst:Option Tmp} {ty:TypeId} {pos:String} {after:Array Edge} {l:List Oper} {T:List V} {S:zA} {F:Dfs} {Q:Post} {op:BinOp} {t u:TypeId} {x y:Operand},WpL C ops (⟨dst,.binOp op t x y u,ty,pos,after,none⟩::l) T S F Q=WpR C ops dst l T S F Q ((binV C.P op t (zC T x) (zC T y)).map fun v=>.val v S 0)) ∧
 (∀ {ops:Array Oper} {dst:Option Tmp} {ty:TypeId} {pos:String} {after:Array Edge} {l:List Oper} {T:List V} {S:zA} {F:Dfs} {Q:Post} {op:UnOp} {t:TypeId} {x:Operand},WpL C ops (⟨dst,.unOp op t x,ty,pos,after,none⟩::l) T S F Q=WpR C ops dst l T S F Q ((unV op (zC T x)).map fun v=>.val v S 0)) ∧
 (∀ {ops:Array Oper} {dst:Option Tmp} {ty:TypeId} {pos:String} {after:Array Edge} {l:List Oper} {T:List V} {S:zA} {F:Dfs} {Q:Post} {t:TypeId} {x y:Operand},WpL C ops (⟨dst,.indexAddr t x y,ty,pos,after,none⟩::l) T S F Q=WpR C ops dst l T S F Q ((zM C.P S t (zC T x) (zC T y)).map fun v=>.val v S 1)) ∧
 (∀ {ops:Array Oper} {dst:Option Tmp} {ty:TypeId} {pos:String} {after:Array Edge} {l:List Oper} {T:List V} {S:zA} {F:Dfs} {Q:Post} {t:TypeId} {x y:Operand},WpL C ops (⟨dst,.index t x y,ty,pos,after,none⟩::l) T S F Q=WpR C ops dst l T S F Q ((z4z C.P t (zC T x) (zC T y)).map fun v=>.val v S 0)) ∧
 (∀ {ops:Array Oper} {dst:Option Tmp} {ty:TypeId} {pos:String} {after:Array Edge} {l:List Oper} {T:List V} {S:zA} {F:Dfs} {Q:Post} {t:TypeId} {x:Operand} {f:Nat},WpL C ops (⟨dst,.fieldAddr t x f,ty,pos,after,none⟩::l) T S F Q=WpR C ops dst l T S F Q ((zX C.P t f (zC T x)).map fun v=>.val v S 0)) ∧
 (∀ {ops:Array Oper} {dst:Option Tmp} {ty:TypeId} {pos:String} {after:Array Edge} {l:List Oper} {T:List V} {S:zA} {F:Dfs} {Q:Post} {t:TypeId} {x:Operand} {f:Nat},WpL C ops (⟨dst,.field t x f,ty,pos,after,none⟩::l) T S F Q=WpR C ops dst l T S F Q ((z8m C.P t f (zC T x)).map fun v=>.val v S 0)) ∧
 (∀ {ops:Array Oper} {dst:Option Tmp} {ty:TypeId} {pos:String} {after:Array Edge} {l:List Oper} {T:List V} {S:zA} {F:Dfs} {Q:Post} {t:TypeId} {x:Operand},WpL C ops (⟨dst,.load t x,ty,pos,after,none⟩::l) T S F Q=WpR C ops dst l T S F Q ((kN C.P S t (zC T x)).map fun v=>.val v S 1)) ∧
 (∀ {ops:Array Oper} {dst:Option Tmp} {ty:TypeId} {pos:String} {after:Array Edge} {l:List Oper} {T:List V} {S:zA} {F:Dfs} {Q:Post} {t:TypeId} {x y:Operand},WpL C ops (⟨dst,.store t x y,ty,pos,after,none⟩::l) T S F Q=WpR C ops dst l T S F Q ((z0e C.P S t (zC T x) (zC T y)).map fun S'=>.skip S' 3)) ∧
 (∀ {ops:Array Oper} {dst:Option Tmp} {ty:TypeId} {pos:String} {after:Array Edge} {l:List Oper} {T:List V} {S:zA} {F:Dfs} {Q:Post} {t u:TypeId} {x:Operand},WpL C ops (⟨dst,.convert t u x,ty,pos,after,none⟩::l) T S F Q=WpR C ops dst l T S F Q ((qF C.P S t u (zC T x)).map fun r=>.val r.1 S r.2)) ∧
 (∀ {ops:Array Oper} {dst:Option Tmp} {ty:TypeId} {pos:String} {after:Array Edge} {l:List Oper} {T:List V} {S:zA} {F:Dfs} {Q:Post} {t:TypeId} {x y:Operand},WpL C ops (⟨dst,.makeSlice t x y,ty,pos,after,none⟩::l) T S F Q=WpR C ops dst l T S F Q ((jL C.P S t (zC T x) (zC T y)).map fun r=>.val r.1 r.2 2)) ∧
 (∀ {ops:Array Oper} {dst:Option Tmp} {ty:TypeId} {pos:String} {after:Array Edge} {l:List Oper} {T:List V} {S:zA} {F:Dfs} {Q:Post} {t:TypeId} {x:Operand} {lo hi:Option Operand},WpL C ops (⟨dst,.slice t x lo hi none,ty,pos,after,none⟩::l) T S F Q=WpR C ops dst l T S F Q ((vF C.P S t (zC T x) (lo.map (zC T)) (hi.map (zC T))).map fun v=>.val v S 1)) ∧
 (∀ {ops:Array Oper} {dst:Option Tmp} {ty:TypeId} {pos:String} {after:Array Edge} {l:List Oper} {T:List V} {S:zA} {F:Dfs} {Q:Post} {t:TypeId} {x k:Operand} {ok:Bool},WpL C ops (⟨dst,.lookup t x k ok,ty,pos,after,none⟩::l) T S F Q=WpR C ops dst l T S F Q ((wF C.P S t (zC T x) (zC T k) ok).map fun v=>.val v S 1)) ∧
 (∀ {ops:Array Oper} {dst:Option Tmp} {ty:TypeId} {pos:String} {after:Array Edge} {l:List Oper} {T:List V} {S:zA} {F:Dfs} {Q:Post} {t:TypeId} {x k v:Operand},WpL C ops (⟨dst,.mapUpdate t x k v,ty,pos,after,none⟩::l) T S F Q=WpR C ops dst l T S F Q ((jS C.P S t (zC T x) (zC T k) (zC T v)).map fun S'=>.skip S' 3)) ∧
 (∀ {ops:Array Oper} {dst:Option Tmp} {ty:TypeId} {pos:String} {after:Array Edge} {l:List Oper} {T:List V} {S:zA} {F:Dfs} {Q:Post} {b:Builtin} {args:Array Operand} {ts:Array TypeId},WpL C ops (⟨dst,.call { callee:= .builtin b,args:=args,argTypes:=ts },ty,pos,after,none⟩::l) T S F Q=WpR C ops dst l T S F Q (zI C.P S b ts.toList (args.toList.map (zC T)))) ∧
 (∀ {ops:Array Oper} {dst:Option Tmp} {ty:TypeId} {pos:String} {after:Array Edge} {l:List Oper} {T:List V} {S:zA} {F:Dfs} {Q:Post} {t:TypeId} {ps:Array (Nat × Operand)},WpL C ops (⟨dst,.build t ps,ty,pos,after,none⟩::l) T S F Q=WpR C ops dst l T S F Q ((wX C.P t (ps.toList.map fun p=>(p.1,zC T p.2))).map fun v=>.val v S 0)) ∧
 (∀ {ops:Array Oper} {dst:Option Tmp} {ty:TypeId} {pos:String} {after:Array Edge} {l:List Oper} {T:List V} {S:zA} {F:Dfs} {Q:Post} {x:Operand} {i:Nat},WpL C ops (⟨dst,.extract x i,ty,pos,after,none⟩::l) T S F Q=WpR C ops dst l T S F Q (match zC T x with | .tup vs=>(match vs[i]? with | some v=>some (.val v S 0) | none=>none) | _=>none)) ∧
 (∀ {ops:Array Oper} {dst:Option Tmp} {ty:TypeId} {pos:String} {after:Array Edge} {l:List Oper} {T:List V} {S:zA} {F:Dfs} {Q:Post} {g:FuncId} {args:Array Operand} {ts:Array TypeId},WpL C ops (⟨dst,.call { callee:= .value (.func g),args:=args,argTypes:=ts },ty,pos,after,none⟩::l) T S F Q=WpR C ops dst l T S F Q (if (args.toList.map (zC T)).all V.one && (zB C.P g).isSome then some (.enter g ([] ++ args.toList.map (zC T) ++ [])) else none)) ∧
 (∀ {ops:Array Oper} {dst:Option Tmp} {ty:TypeId} {pos:String} {after:Array Edge} {l:List Oper} {T:List V} {S:zA} {F:Dfs} {Q:Post} {c a b:Operand},WpL C ops (⟨dst,.pick c a b,ty,pos,after,none⟩::l) T S F Q=WpR C ops dst l T S F Q (match zC T c with | .d (.bool true)=>some (.val (zC T a) S 0) | .d (.bool false)=>some (.val (zC T b) S 0) | _=>none)) ∧
 (∀ {ops:Array Oper} {dst:Option Tmp} {ty:TypeId} {pos:String} {after:Array Edge} {l:List Oper} {T:List V} {S:zA} {F:Dfs} {Q:Post} {x:Operand},WpL C ops (⟨dst,.nilCheck x,ty,pos,after,none⟩::l) T S F Q=WpR C ops dst l T S F Q (match zC T x with | .ref i ix off=>some (.val (.ref i ix off) S 0) | .d (.ptr x)=>some (.val (.d (.ptr x)) S 0) | .fn (.func g) a b=>some (.val (.fn (.func g) a b) S 0) | _=>none)) ∧
 (∀ {ops:Array Oper} {dst:Option Tmp} {ty:TypeId} {pos:String} {after:Array Edge} {l:List Oper} {T:List V} {S:zA} {F:Dfs} {Q:Post} {t:TypeId} {n:Nat} {ps:Array (Nat × Operand)} {d2:Option Tmp} {c:Call} {ty2:TypeId} {pos2:String} {after2:Array Edge} {g2:Option (Nat × Bool)},WpL C ops (⟨dst,.buildSlice t n ps,ty,pos,after,none⟩::⟨d2,.call c,ty2,pos2,after2,g2⟩::l) T S F Q=WpR C ops dst (⟨d2,.call c,ty2,pos2,after2,g2⟩::l) T S F Q (opV C.P S T ⟨dst,.buildSlice t n ps,ty,pos,after,none⟩)) ∧
 (∀ {ops:Array Oper} {dst:Option Tmp} {ty:TypeId} {pos:String} {after:Array Edge} {l:List Oper} {T:List V} {S:zA} {F:Dfs} {Q:Post} {x:Operand} {g:Nat × Bool},WpL C ops (⟨dst,.move x,ty,pos,after,some g⟩::l) T S F Q=WpG C ops dst (.move x) ty pos after l T S F Q ((qL ops T g.1).map (· == some g.2))) ∧
 (∀ {ops:Array Oper} {dst:Option Tmp} {ty:TypeId} {pos:String} {after:Array Edge} {l:List Oper} {T:List V} {S:zA} {F:Dfs} {Q:Post} {x:Operand} {g:Nat × Bool},WpL C ops (⟨dst,.assign x,ty,pos,after,some g⟩::l) T S F Q=WpG C ops dst (.assign x) ty pos after l T S F Q ((qL ops T g.1).map (· == some g.2))) ∧
 (∀ {ops:Array Oper} {dst:Option Tmp} {ty:TypeId} {pos:String} {after:Array Edge} {l:List Oper} {T:List V} {S:zA} {F:Dfs} {Q:Post} {op:BinOp} {t u:TypeId} {x y:Operand} {g:Nat × Bool},WpL C ops (⟨dst,.binOp op t x y u,ty,pos,after,some g⟩::l) T S F Q=WpG C ops dst (.binOp op t x y u) ty pos after l T S F Q ((qL ops T g.1).map (· == some g.2))) ∧
 (∀ {ops:Array Oper} {dst:Option Tmp} {ty:TypeId} {pos:String} {after:Array Edge} {l:List Oper} {T:List V} {S:zA} {F:Dfs} {Q:Post} {op:UnOp} {t:TypeId} {x:Operand} {g:Nat × Bool},WpL C ops (⟨dst,.unOp op t x,ty,pos,after,some g⟩::l) T S F Q=WpG C ops dst (.unOp op t x) ty pos after l T S F Q ((qL ops T g.1).map (· == some g.2))) ∧
 (∀ {ops:Array Oper} {dst:Option Tmp} {ty:TypeId} {pos:String} {after:Array Edge} {l:List Oper} {T:List V} {S:zA} {F:Dfs} {Q:Post} {t:TypeId} {x y:Operand} {g:Nat × Bool},WpL C ops (⟨dst,.indexAddr t x y,ty,pos,after,some g⟩::l) T S F Q=WpG C ops dst (.indexAddr t x y) ty pos after l T S F Q ((qL ops T g.1).map (· == some g.2))) ∧
 (∀ {ops:Array Oper} {dst:Option Tmp} {ty:TypeId} {pos:String} {after:Array Edge} {l:List Oper} {T:List V} {S:zA} {F:Dfs} {Q:Post} {t:TypeId} {x y:Operand} {g:Nat × Bool},WpL C ops (⟨dst,.index t x y,ty,pos,after,some g⟩::l) T S F Q=WpG C ops dst (.index t x y) ty pos after l T S F Q ((qL ops T g.1).map (· == some g.2))) ∧
 (∀ {ops:Array Oper} {dst:Option Tmp} {ty:TypeId} {pos:String} {after:Array Edge} {l:List Oper} {T:List V} {S:zA} {F:Dfs} {Q:Post} {t:TypeId} {x:Operand} {f:Nat} {g:Nat × Bool},WpL C ops (⟨dst,.fieldAddr t x f,ty,pos,after,some g⟩::l) T S F Q=WpG C ops dst (.fieldAddr t x f) ty pos after l T S F Q ((qL ops T g.1).map (· == some g.2))) ∧
 (∀ {ops:Array Oper} {dst:Option Tmp} {ty:TypeId} {pos:String} {after:Array Edge} {l:List Oper} {T:List V} {S:zA} {F:Dfs} {Q:Post} {t:TypeId} {x:Operand} {f:Nat} {g:Nat × Bool},WpL C ops (⟨dst,.field t x f,ty,pos,after,some g⟩::l) T S F Q=WpG C ops dst (.field t x f) ty pos after l T S F Q ((qL ops T g.1).map (· == some g.2))) ∧
 (∀ {ops:Array Oper} {dst:Option Tmp} {ty:TypeId} {pos:String} {after:Array Edge} {l:List Oper} {T:List V} {S:zA} {F:Dfs} {Q:Post} {t:TypeId} {x:Operand} {g:Nat × Bool},WpL C ops (⟨dst,.load t x,ty,pos,after,some g⟩::l) T S F Q=WpG C ops dst (.load t x) ty pos after l T S F Q ((qL ops T g.1).map (· == some g.2))) ∧
 (∀ {ops:Array Oper} {dst:Option Tmp} {ty:TypeId} {pos:String} {after:Array Edge} {l:List Oper} {T:List V} {S:zA} {F:Dfs} {Q:Post} {t u:TypeId} {x:Operand} {g:Nat × Bool},WpL C ops (⟨dst,.convert t u x,ty,pos,after,some g⟩::l) T S F Q=WpG C ops dst (.convert t u x) ty pos after l T S F Q ((qL ops T g.1).map (· == some g.2))) ∧
 (∀ {ops:Array Oper} {dst:Option Tmp} {ty:TypeId} {pos:String} {after:Array Edge} {l:List Oper} {T:List V} {S:zA} {F:Dfs} {Q:Post} {t:TypeId} {x:Operand} {lo hi:Option Operand} {g:Nat × Bool},WpL C ops (⟨dst,.slice t x lo hi none,ty,pos,after,some g⟩::l) T S F Q=WpG C ops dst (.slice t x lo hi none) ty pos after l T S F Q ((qL ops T g.1).map (· == some g.2))) ∧
 (∀ {ops:Array Oper} {dst:Option Tmp} {ty:TypeId} {pos:String} {after:Array Edge} {l:List Oper} {T:List V} {S:zA} {F:Dfs} {Q:Post} {t:TypeId} {x k:Operand} {ok:Bool} {g:Nat × Bool},WpL C ops (⟨dst,.lookup t x k ok,ty,pos,after,some g⟩::l) T S F Q=WpG C ops dst (.lookup t x k ok) ty pos after l T S F Q ((qL ops T g.1).map (· == some g.2))) ∧
 (∀ {ops:Array Oper} {dst:Option Tmp} {ty:TypeId} {pos:String} {after:Array Edge} {l:List Oper} {T:List V} {S:zA} {F:Dfs} {Q:Post} {c:Call} {g:Nat × Bool},WpL C ops (⟨dst,.call c,ty,pos,after,some g⟩::l) T S F Q=WpG C ops dst (.call c) ty pos after l T S F Q ((qL ops T g.1).map (· == some g.2))) ∧
 (∀ {ops:Array Oper} {dst:Option Tmp} {ty:TypeId} {pos:String} {after:Array Edge} {l:List Oper} {T:List V} {S:zA} {F:Dfs} {Q:Post} {x:Operand} {i:Nat} {g:Nat × Bool},WpL C ops (⟨dst,.extract x i,ty,pos,after,some g⟩::l) T S F Q=WpG C ops dst (.extract x i) ty pos after l T S F Q ((qL ops T g.1).map (· == some g.2))) ∧
 (∀ {ops:Array Oper} {dst:Option Tmp} {ty:TypeId} {pos:String} {after:Array Edge} {l:List Oper} {T:List V} {S:zA} {F:Dfs} {Q:Post} {c a b:Operand} {g:Nat × Bool},WpL C ops (⟨dst,.pick c a b,ty,pos,after,some g⟩::l) T S F Q=WpG C ops dst (.pick c a b) ty pos after l T S F Q ((qL ops T g.1).map (· == some g.2))) ∧
 (∀ {ops:Array Oper} {dst:Option Tmp} {ty:TypeId} {pos:String} {after:Array Edge} {l:List Oper} {T:List V} {S:zA} {F:Dfs} {Q:Post} {t:TypeId} {ps:Array (Nat × Operand)} {g:Nat × Bool},WpL C ops (⟨dst,.build t ps,ty,pos,after,some g⟩::l) T S F Q=WpG C ops dst (.build t ps) ty pos after l T S F Q ((qL ops T g.1).map (· == some g.2))) ∧
 (∀ {ops:Array Oper} {dst:Option Tmp} {ty:TypeId} {pos:String} {after:Array Edge} {l:List Oper} {T:List V} {S:zA} {F:Dfs} {Q:Post} {x:Operand} {g:Nat × Bool},WpL C ops (⟨dst,.nilCheck x,ty,pos,after,some g⟩::l) T S F Q=WpG C ops dst (.nilCheck x) ty pos after l T S F Q ((qL ops T g.1).map (· == some g.2))) :=
 ⟨zyj,zif,zt4,zzj,zey,zic,zgy,zst,zbz,zex,zep,zo7,zct,zcw,z57,z6x,zzd,zss,zyb,zsm,zof,zoh,zmz,ztb,ztw,zkj,zzu,q09,zoe,zzn,zc7,zpc,zrb,zpt,zho,zcm,zp2,ziz,zcx,zh1,zoy,zhh,zp9,zth,zfa,z4d,zpn,zgv,zru,zvk,zjg,zs1,zb7,zlv,zoa,zel,zix,zhp,zno,zeo,zmy,zky,zd2⟩
end
theorem vme :
 (∀ {C:Cfg} {ops:Array Oper} {dst:Option Tmp} {l:List Oper} {T:List V} {S S':zA} {F:Dfs} {Q:Post} {v:V} {c:Nat},WpR C ops dst l T S F Q (some (.val v S' c))=WpL C ops l (putT T dst v) S' F Q) ∧
 (∀ {C:Cfg} {ops:Array Oper} {dst:Option Tmp} {l:List Oper} {T:List V} {S S':zA} {F:Dfs} {Q:Post} {c:Nat},WpR C ops dst l T S F Q (some (.skip S' c))=WpL C ops l (putT T dst (.tup [])) S' F Q) ∧
 (∀ {T:List V} {v:V} {d:Tmp},putT T (some d) v=T.set d v) ∧
 (∀ {T:List V} {v:V},putT T none v=T) ∧
 (∀ {T:List V} {t:Tmp},zC T (.tmp t)=T.getD t .junk) ∧
 (∀ {T:List V} {k:IntKind} {n:Int},zC T (.const (.int k n)) = .d (.int k n)) ∧
 (∀ {T:List V} {b:Bool},zC T (.const (.bool b)) = .d (.bool b)) ∧
 (∀ {T:List V} {s:ByteArray},zC T (.const (.string s)) = .d (.str (zkv s))) ∧
 (∀ {T:List V},zC T (.const (.slice none 0 0)) = .ts []) ∧
 (∀ {T:List V},zC T (.const (.map none)) = .d .nilm) ∧
 (∀ {T:List V},zC T (.const (.pointer none)) = .d .nilp) ∧
 (∀ {a x:V} {r:List V},(a::r).getD 0 x=a) ∧
 (∀ {a x:V} {r:List V} {n:Nat},(a::r).getD (n + 1) x=r.getD n x) ∧
 (∀ {a x:V} {r:List V},(a::r).set 0 x=x::r) ∧
 (∀ {a x:V} {r:List V} {n:Nat},(a::r).set (n + 1) x=a::r.set n x) ∧
 (∀ {P:Program} {op:BinOp} {t:TypeId} {k k':IntKind} {a b:Int},binV P op t (.d (.int k a)) (.d (.int k' b))=(qO op k a k' b).map .d) ∧
 (∀ {P:Program} {op:BinOp} {t:TypeId} {a b:List UInt8},binV P op t (.d (.str a)) (.d (.str b))=(z59 op a b).map .d) ∧
 (∀ {k:IntKind} {a b:Int},qO .add k a k b=some (.int k (k.wrap (a + b)))) ∧
 (∀ {k:IntKind} {a b:Int},qO .sub k a k b=some (.int k (k.wrap (a - b)))) ∧
 (∀ {k:IntKind} {a b:Int},qO .mul k a k b=some (.int k (k.wrap (a * b)))) ∧
 (∀ {k:IntKind} {a b:Int},qO .eql k a k b=some (.bool (decide (a=b)))) ∧
 (∀ {k:IntKind} {a b:Int},qO .neq k a k b=some (.bool (decide (a ≠ b)))) ∧
 (∀ {k:IntKind} {a b:Int},qO .lss k a k b=some (.bool (decide (a < b)))) ∧
 (∀ {k:IntKind} {a b:Int},qO .leq k a k b=some (.bool (decide (a ≤ b)))) ∧
 (∀ {k:IntKind} {a b:Int},qO .gtr k a k b=some (.bool (decide (a > b)))) ∧
 (∀ {k:IntKind} {a b:Int},qO .geq k a k b=some (.bool (decide (a ≥ b)))) ∧
 (∀ {b:Bool},unV .not (.d (.bool b))=some (.d (.bool (!b)))) ∧
 (∀ {x:D},V.one (.d x)=true) ∧
 (∀ {xs:List D},V.one (.ts xs)=true) ∧
 (∀ {i o n:Nat},V.one (.rs i o n)=true) ∧
 (∀ {xs:List V},V.one (.agg xs)=true) ∧
 (∀ {i o n:Nat},V.one (.ref i o n)=true) ∧
 (∀ {i:Nat},V.one (.mr i)=true) ∧
 (∀ {f:Fn} {a b:List V},V.one (.fn f a b)=true) ∧
 (∀ {C:Cfg} {ops:Array Oper} {dst:Option Tmp} {op:Op} {ty:TypeId} {pos:String} {after:Array Edge} {l:List Oper} {T:List V} {S:zA} {F:Dfs} {Q:Post},WpG C ops dst op ty pos after l T S F Q (some true)=WpL C ops (⟨dst,op,ty,pos,after,none⟩::l) T S F Q) ∧
 (∀ {C:Cfg} {ops:Array Oper} {dst:Option Tmp} {op:Op} {ty:TypeId} {pos:String} {after:Array Edge} {l:List Oper} {T:List V} {S:zA} {F:Dfs} {Q:Post},WpG C ops dst op ty pos after l T S F Q (some false)=WpL C ops l (putT T dst (.tup [])) S F Q) ∧
 (∀ {C:Cfg} {T:List V} {S:zA} {F:Dfs} {Q:Post} {a b:Code},WpB C (.d (.bool true)) a b T S F Q=Wp C a T S F Q) ∧
 (∀ {C:Cfg} {T:List V} {S:zA} {F:Dfs} {Q:Post} {a b:Code},WpB C (.d (.bool false)) a b T S F Q=Wp C b T S F Q) ∧
 (∀ {P:Program} {S:zA} {t tx:TypeId} {s x:V},zI P S .append [t,tx] [s,x]=(qJ P S t tx s x).map fun r=>.val r.1 r.2.1 r.2.2) ∧
 (∀ {P:Program} {S:zA} {t tx:TypeId} {s x:V},zI P S .copy [t,tx] [s,x]=(copyV P S t tx s x).map fun r=>.val r.1 r.2 3) ∧
 (∀ {P:Program} {S:zA} {T:List V} {t:TypeId} {x:Operand} {dst:Option Tmp} {ty:TypeId} {pos:String} {after:Array Edge} {g:Option (Nat × Bool)},opV P S T ⟨dst,.buildSlice t 1 #[(0,x)],ty,pos,after,g⟩=bs1 P S t (zC T x)) ∧
 (∀ {α β:Type} {a:α} {f:α→β},(some a).map f=some (f a)) ∧
 (∀ {α β:Type} {f:α→β} {a:α} {l:List α},(a::l).map f=f a::l.map f) ∧
 (∀ {α β:Type} {f:α→β},([]:List α).map f=[]) ∧
 (∀ {f:V→Bool} {a:V} {l:List V},(a::l).all f=(f a && l.all f)) ∧
 (∀ {b:Bool},(b && true)=b) ∧
 (∀ {b:Bool},(true && b)=b) ∧
 (∀ {α:Type} {a b:α},(if True then a else b)=a) ∧
 (∀ {α:Type} {a b:α},(if true=true then a else b)=a) ∧
 (∀ {α:Type} {l:List α},[] ++ l=l) ∧
 (∀ {α:Type} {l:List α},l ++ []=l) ∧
 ((!true)=false) ∧
 ((!false)=true) ∧
 (∀ {f:V→Bool},([]:List V).all f=true) :=
 ⟨zxn,zrm,zpe,zo3,zwe,zu8,znw,ztp,z7f,zor,znq,zme,zlk,zj9,zm2,binI,binS,zvx,zyx,zxh,zt5,zu0,zxc,zwg,zws,zzr,wH,q04,zx4,zzf,zrn,zuu,zvz,z8k,zve,zol,zv8,znc,zl6,zuv,zz4,rfl,rfl,rfl,q0q,(by simp),rfl,(by simp),(by simp),rfl,(by simp),rfl,rfl,q0t⟩
section
variable {C:Cfg} {P:Program} {T:List V} {S:zA} {F:Dfs} {o:Out}
def RetQ (P:Program) (rs:Array ResultVar) (o:Out):Post:=fun x T S F=>(x = .norm ∨ x = .ret)∧F=[] ∧ ∃ v,qD P rs T S=some v∧z8o S (.ret v)=some o
theorem kW {f:FuncId} {c:Code} {n:Nat} {rs:Array ResultVar} {ds:List D} (hx:C.ext f=none) (hc:C.catch_ f=none) (hb:zB C.P f=some ⟨c,n,rs⟩)
  (h:Wp C c (vS n (ds.map .d)) [] [] (post C [] (RetQ C.P rs o))):Ev C f ds o:=zmr hx hc hb h
theorem zS {t:Tmp} {v:V} {d:D} (hv:T.getD t (.tup [])=v) (h1:v.one=true) (h:frz S zG v=some d):RetQ P #[.tmp t] (.ret (.d d)) .ret T S []:=by
 refine ⟨.inr rfl,rfl,v,?_,?_⟩
 ·show jT P T S (.tmp t)=some v
  simp only [jT,hv]
 ·cases v <;> first | (simp [V.one] at h1; done) | (simp only [z8o,h,Option.map_some])
theorem wL {a t:Nat} {v u:V} {d:D} (ha:T.getD a (.tup [])=u) (hv:kN P S t u=some v) (h1:v.one=true) (h:frz S zG v=some d):RetQ P #[.cell a t] (.ret (.d d)) .ret T S []:=by
 refine ⟨.inr rfl,rfl,v,?_,?_⟩
 ·show jT P T S (.cell a t)=some v
  simp only [jT,ha,hv]
 ·cases v <;> first | (simp [V.one] at h1; done) | (simp only [z8o,h,Option.map_some])
theorem z4t {r1 r2:ResultVar} {l:List ResultVar} {vs:List V} {ds:List D} (hv:allO (jT P T S) (r1::r2::l)=some vs) (h1:vs.all V.one=true) (h:allO (frz S zG) vs=some ds):RetQ P (r1::r2::l).toArray (.ret (.tup (ds.map .d))) .ret T S []:=by
 refine ⟨.inr rfl,rfl,.tup vs,?_,?_⟩
 ·simp only [qD,hv,h1,if_true]
 ·simp only [z8o,h,Option.map_some]
theorem zaz {t u:Tmp} {v w:V} {d e:D} (hv:T.getD t (.tup [])=v) (hw:T.getD u (.tup [])=w) (h1:v.one=true) (h2:w.one=true) (h3:frz S zG v=some d) (h4:frz S zG w=some e):RetQ P #[.tmp t,.tmp u] (.ret (.tup [.d d,.d e])) .ret T S [] :=
 z4t (r1:= .tmp t) (r2:= .tmp u) (l:=[]) (vs:=[v,w]) (ds:=[d,e]) (by simp only [allO,jT,hv,hw]) (by simp [h1,h2]) (by simp only [allO,h3,h4])
theorem z5p {t u x:Tmp} {v w y:V} {d e z:D} (hv:T.getD t (.tup [])=v) (hw:T.getD u (.tup [])=w) (hy:T.getD x (.tup [])=y) (h1:v.one=true) (h2:w.one=true) (h0:y.one=true) (h3:frz S zG v=some d) (h4:frz S zG w=some e) (h5:frz S zG y=some z):RetQ P #[.tmp t,.tmp u,.tmp x] (.ret (.tup [.d d,.d e,.d z])) .ret T S [] :=
 z4t (r1:= .tmp t) (r2:= .tmp u) (l:=[.tmp x]) (vs:=[v,w,y]) (ds:=[d,e,z]) (by simp only [allO,jT,hv,hw,hy]) (by simp [h1,h2,h0]) (by simp only [allO,h3,h4,h5])
theorem qG {e:TypeId} {v:V} {xs:List V} (h:OwnS S v e xs):v.one=true:=by
 rcases h with ⟨rfl,_⟩ | ⟨id,rfl,_⟩ <;> rfl
theorem zp4 {α:Type} {enc:α→D} {e:TypeId} {v:V} {xs:List α} (h:OwnS S v e (xs.map fun x=>.d (enc x))):frz S zG v=some (.sl (xs.map enc)):=zk5 (by simpa [List.map_map,Function.comp_def] using h)
def lpOf:Code→Nat→Code
 | .block i (.loop b),id=>if i=id then b else lpOf b id
 | .block _ b,id=>lpOf b id
 | .seq a b,id=>match lpOf a id with | .skip=>lpOf b id | c=>c
 | .cond _ a b,id=>match lpOf a id with | .skip=>lpOf b id | c=>c
 | .loop b,id=>lpOf b id
 | .scope b,id=>lpOf b id
 | _,_=>.skip
theorem zb5 {e:TypeId} {k n:Nat} (hb:bytesOf P e=k) (hk:k ≤ 100000000) (h:n ≤ 1000000):room P e n=true:=by
 unfold room
 have:n * k ≤ 1000000 * 100000000:=Nat.mul_le_mul h hk
 rw [hb]; simp; omega
theorem zab {α:Type} {enc:α→D} {t e:TypeId} {v:V} {xs:List α} (a:α) (hu:P.underlying t=some (.slice e)) (hz:zOk P e=true) (hs:(sz P e).isSome=true) (hf:z14 P e (enc a)=true) (ho:OwnS S v e (xs.map fun x=>.d (enc x))) (hr:room P e (xs.length + 1)=true) :
  ∃ v' S' c,qJ P S t t v (.ts [enc a])=some (v',S',c)∧OwnS S' v' e ((xs ++ [a]).map fun x=>.d (enc x))∧(∀ j o,S[j]? = some o→NotAt v j→S'[j]? = some o∧NotAt v' j)∧S.length ≤ S'.length:=by
 obtain ⟨v',S',c,h1,h2,h3,h4⟩:=zgu hu hz hs ho hf (by simpa using hr)
 exact ⟨v',S',c,h1,by simpa using h2,h3,h4⟩
theorem zq2 {α:Type} {enc:α→D} {t e:TypeId} {l:List α} {i:Nat} (hu:P.underlying t=some (.slice e)) (hf : ∀ a,z14 P e (enc a)=true) (h:i < l.length):zM P S t (.d (.sl (l.map enc))) (.d (.int .i64 i))=some (.d (.ptr (enc l[i]))):=zy2 hu (by simp [h]) (hf _)
end
def rowE (S:zA) (id ix:Nat):Option V:=match S[id]? with | some (.row xs _)=>xs[ix]? | _=>none
def qZ (P:Program) (t:TypeId) (off:Nat):Option V→Option V
 | some x=>if off=0 && qA P t x then some x else z7j P t x.cells off
 | none=>none
def qW (P:Program) (t:TypeId) (off:Nat) (v x:V):Option V :=
 if qA P t v then
  if off=0 && (x.cells.length == v.cells.length) && (x.isAgg == v.isAgg) then some v
  else if off + v.cells.length ≤ x.cells.length && x.isAgg then some (.agg (x.cells.take off ++ v.cells ++ x.cells.drop (off + v.cells.length)))
  else none
 else none
def jJ (S:zA) (id ix:Nat) (y:V):Option zA:=match S[id]? with | some (.row xs e)=>some (S.set id (.row (xs.set ix y) e)) | _=>none
def z6j (S:zA) (id ix:Nat):Option V→Option zA | some y=>jJ S id ix y | none=>none
section
variable {C:Cfg} {P:Program} {S:zA} {id ix off:Nat}
theorem zJ {t:TypeId} {x:V} (h:rowE S id ix=some x):kN P S t (.ref id ix off)=qZ P t off (some x):=by
 unfold rowE at h
 split at h
 ·rename_i xs e ho
  simp only [kN,ho,h,qZ]
 ·cases h
theorem z6a {t:TypeId} {v x:V} (h:rowE S id ix=some x):z0e P S t (.ref id ix off) v=z6j S id ix (qW P t off v x):=by
 unfold rowE at h
 split at h
 ·rename_i xs e ho
  simp only [z0e,ho,h,qW]
  split
  ·split
   ·simp only [z6j,jJ,ho]
   ·split
    ·simp only [z6j,jJ,ho]
    ·rfl
  ·rfl
 ·cases h
theorem zk4 {o:Ob} {S:zA} {i:Nat}:rowE (o::S) (i + 1) ix=rowE S i ix:=by
 unfold rowE
 rw [List.getElem?_cons_succ]
theorem zf9 {o:Ob} {S:zA} {i:Nat} {y:V}:jJ (o::S) (i + 1) ix y=(jJ S i ix y).map fun S'=>o::S':=by
 unfold jJ
 rw [List.getElem?_cons_succ]
 cases S[i]? with
 | none=>rfl
 | some o=>cases o <;> rfl
theorem zD {x:V} {e:TypeId} (h:S[id]? = some (.row [x] e)):rowE S id 0=some x:=by
 unfold rowE; rw [h]; rfl
end
section
variable {C:Cfg} {ops:Array Oper} {dst:Option Tmp} {ty:TypeId} {pos:String} {after:Array Edge} {l:List Oper} {T:List V} {S:zA} {F:Dfs} {Q:Post}
theorem ziu {e:TypeId}:WpL C ops (⟨dst,.alloc e,ty,pos,after,none⟩::l) T S F Q=match zeroV C.P e with | some z=>(if qA C.P e z=true then WpL C ops l (putT T dst (.ref S.length 0 0)) (S ++ [.row [z] e]) F Q else False) | none=>False:=by
 rw [vM rfl]
 simp only [opV]
 cases zeroV C.P e with
 | none=>rfl
 | some z =>
  simp only
  split <;> rfl
theorem zu9 {e:TypeId} {x:Operand}:WpL C ops (⟨dst,.box e x,ty,pos,after,none⟩::l) T S F Q=if qA C.P e (zC T x)=true then WpL C ops l (putT T dst (.ref S.length 0 0)) (S ++ [.row [zC T x] e]) F Q else False:=by
 rw [vM rfl]
 simp only [opV]
 split <;> rfl
end
def ztx (P:Program) (S:zA) (t:TypeId) (id ix off:Nat):Option V→Option V | some x=>qZ P t off (some x) | none=>kN P S t (.ref id ix off)
def ziv (P:Program) (S:zA) (t:TypeId) (id ix off:Nat) (v:V):Option V→Option zA | some x=>z6j S id ix (qW P t off v x) | none=>z0e P S t (.ref id ix off) v
theorem zn3 {P:Program} {S:zA} {t:TypeId} {id ix off:Nat}:kN P S t (.ref id ix off)=ztx P S t id ix off (rowE S id ix):=by
 cases h:rowE S id ix with
 | none=>rfl
 | some x=>exact zJ h
theorem zk1 {P:Program} {S:zA} {t:TypeId} {id ix off:Nat} {v:V}:z0e P S t (.ref id ix off) v=ziv P S t id ix off v (rowE S id ix):=by
 cases h:rowE S id ix with
 | none=>rfl
 | some x=>exact z6a h
theorem vmb :
 (∀ {x:V} {r:List V} {e:TypeId} {S:zA},rowE (.row (x::r) e::S) 0 0=some x) ∧
 (∀ {o:Ob} {S:zA} {i ix:Nat},rowE (o::S) (i + 1) ix=rowE S i ix) ∧
 (∀ {x y:V} {r:List V} {e:TypeId} {S:zA},jJ (.row (x::r) e::S) 0 0 y=some (.row (y::r) e::S)) ∧
 (∀ {o:Ob} {S:zA} {i ix:Nat} {y:V},jJ (o::S) (i + 1) ix y=(jJ S i ix y).map fun S'=>o::S') ∧
 (∀ {S:zA} {id ix:Nat} {y:V},z6j S id ix (some y)=jJ S id ix y) ∧
 (∀ {C:Cfg} {ops:Array Oper} {dst:Option Tmp} {ty:TypeId} {pos:String} {after:Array Edge} {l:List Oper} {T:List V} {S:zA} {F:Dfs} {Q:Post} {e:TypeId},WpL C ops (⟨dst,.alloc e,ty,pos,after,none⟩::l) T S F Q=match zeroV C.P e with | some z=>(if qA C.P e z=true then WpL C ops l (putT T dst (.ref S.length 0 0)) (S ++ [.row [z] e]) F Q else False) | none=>False) ∧
 (∀ {C:Cfg} {ops:Array Oper} {dst:Option Tmp} {ty:TypeId} {pos:String} {after:Array Edge} {l:List Oper} {T:List V} {S:zA} {F:Dfs} {Q:Post} {e:TypeId} {x:Operand},WpL C ops (⟨dst,.box e x,ty,pos,after,none⟩::l) T S F Q=if qA C.P e (zC T x)=true then WpL C ops l (putT T dst (.ref S.length 0 0)) (S ++ [.row [zC T x] e]) F Q else False) ∧
 (∀ {P:Program} {S:zA} {t:TypeId} {id ix off:Nat},kN P S t (.ref id ix off)=ztx P S t id ix off (rowE S id ix)) ∧
 (∀ {P:Program} {S:zA} {t:TypeId} {id ix off:Nat} {v:V},z0e P S t (.ref id ix off) v=ziv P S t id ix off v (rowE S id ix)) ∧
 (∀ {P:Program} {S:zA} {t:TypeId} {id ix off:Nat} {x:V},ztx P S t id ix off (some x)=qZ P t off (some x)) ∧
 (∀ {P:Program} {S:zA} {t:TypeId} {id ix off:Nat} {v x:V},ziv P S t id ix off v (some x)=z6j S id ix (qW P t off v x)) ∧
 (∀ {α:Type},([]:List α).length=0) ∧
 (∀ {α:Type} {a:α} {l:List α},(a::l).length=l.length + 1) :=
 ⟨rfl,zk4,rfl,zf9,rfl,ziu,zu9,zn3,zk1,rfl,rfl,rfl,rfl⟩
theorem zko {a b:List UInt8}:z59 .eql a b=some (.bool (decide (a=b))):=by
 have:(a == b)=decide (a=b):=by rw [Bool.eq_iff_iff]; simp
 simp only [z59,this]
theorem zkr {a b:List UInt8}:z59 .neq a b=some (.bool (decide (a ≠ b))):=by
 have:(!(a == b))=decide (a ≠ b):=by rw [Bool.eq_iff_iff]; simp
 simp only [z59,this]
theorem vmo :
 (∀ {P:Program} {S:zA} {T:List V} {dst:Option Tmp} {ty:TypeId} {pos:String} {after:Array Edge} {g:Option (Nat × Bool)} {x:Operand},opV P S T ⟨dst,.move x,ty,pos,after,g⟩=some (.val (zC T x) S 0)) ∧
 (∀ {P:Program} {S:zA} {T:List V} {dst:Option Tmp} {ty:TypeId} {pos:String} {after:Array Edge} {g:Option (Nat × Bool)} {x:Operand},opV P S T ⟨dst,.assign x,ty,pos,after,g⟩=some (.val (zC T x) S 0)) ∧
 (∀ {P:Program} {S:zA} {T:List V} {dst:Option Tmp} {ty:TypeId} {pos:String} {after:Array Edge} {g:Option (Nat × Bool)} {op:BinOp} {t u:TypeId} {x y:Operand},opV P S T ⟨dst,.binOp op t x y u,ty,pos,after,g⟩=(binV P op t (zC T x) (zC T y)).map fun v=>.val v S 0) ∧
 (∀ {P:Program} {S:zA} {T:List V} {dst:Option Tmp} {ty:TypeId} {pos:String} {after:Array Edge} {g:Option (Nat × Bool)} {op:UnOp} {t:TypeId} {x:Operand},opV P S T ⟨dst,.unOp op t x,ty,pos,after,g⟩=(unV op (zC T x)).map fun v=>.val v S 0) ∧
 (∀ {P:Program} {S:zA} {T:List V} {dst:Option Tmp} {ty:TypeId} {pos:String} {after:Array Edge} {g:Option (Nat × Bool)} {t:TypeId} {x y:Operand},opV P S T ⟨dst,.indexAddr t x y,ty,pos,after,g⟩=(zM P S t (zC T x) (zC T y)).map fun v=>.val v S 1) ∧
 (∀ {P:Program} {S:zA} {T:List V} {dst:Option Tmp} {ty:TypeId} {pos:String} {after:Array Edge} {g:Option (Nat × Bool)} {t:TypeId} {x y:Operand},opV P S T ⟨dst,.index t x y,ty,pos,after,g⟩=(z4z P t (zC T x) (zC T y)).map fun v=>.val v S 0) ∧
 (∀ {P:Program} {S:zA} {T:List V} {dst:Option Tmp} {ty:TypeId} {pos:String} {after:Array Edge} {g:Option (Nat × Bool)} {t:TypeId} {x:Operand} {f:Nat},opV P S T ⟨dst,.fieldAddr t x f,ty,pos,after,g⟩=(zX P t f (zC T x)).map fun v=>.val v S 0) ∧
 (∀ {P:Program} {S:zA} {T:List V} {dst:Option Tmp} {ty:TypeId} {pos:String} {after:Array Edge} {g:Option (Nat × Bool)} {t:TypeId} {x:Operand} {f:Nat},opV P S T ⟨dst,.field t x f,ty,pos,after,g⟩=(z8m P t f (zC T x)).map fun v=>.val v S 0) ∧
 (∀ {P:Program} {S:zA} {T:List V} {dst:Option Tmp} {ty:TypeId} {pos:String} {after:Array Edge} {g:Option (Nat × Bool)} {t:TypeId} {x:Operand},opV P S T ⟨dst,.load t x,ty,pos,after,g⟩=(kN P S t (zC T x)).map fun v=>.val v S 1) ∧
 (∀ {P:Program} {S:zA} {T:List V} {dst:Option Tmp} {ty:TypeId} {pos:String} {after:Array Edge} {g:Option (Nat × Bool)} {t:TypeId} {x y:Operand},opV P S T ⟨dst,.store t x y,ty,pos,after,g⟩=(z0e P S t (zC T x) (zC T y)).map fun S'=>.skip S' 3) ∧
 (∀ {P:Program} {S:zA} {T:List V} {dst:Option Tmp} {ty:TypeId} {pos:String} {after:Array Edge} {g:Option (Nat × Bool)} {t u:TypeId} {x:Operand},opV P S T ⟨dst,.convert t u x,ty,pos,after,g⟩=(qF P S t u (zC T x)).map fun r=>.val r.1 S r.2) ∧
 (∀ {P:Program} {S:zA} {T:List V} {dst:Option Tmp} {ty:TypeId} {pos:String} {after:Array Edge} {g:Option (Nat × Bool)} {t:TypeId} {x:Operand} {lo hi:Option Operand},opV P S T ⟨dst,.slice t x lo hi none,ty,pos,after,g⟩=(vF P S t (zC T x) (lo.map (zC T)) (hi.map (zC T))).map fun v=>.val v S 1) ∧
 (∀ {P:Program} {S:zA} {T:List V} {dst:Option Tmp} {ty:TypeId} {pos:String} {after:Array Edge} {g:Option (Nat × Bool)} {t:TypeId} {x k:Operand} {ok:Bool},opV P S T ⟨dst,.lookup t x k ok,ty,pos,after,g⟩=(wF P S t (zC T x) (zC T k) ok).map fun v=>.val v S 1) ∧
 (∀ {P:Program} {S:zA} {T:List V} {dst:Option Tmp} {ty:TypeId} {pos:String} {after:Array Edge} {g:Option (Nat × Bool)} {b:Builtin} {args:Array Operand} {ts:Array TypeId},opV P S T ⟨dst,.call { callee:= .builtin b,args:=args,argTypes:=ts },ty,pos,after,g⟩=zI P S b ts.toList (args.toList.map (zC T))) ∧
 (∀ {P:Program} {S:zA} {T:List V} {dst:Option Tmp} {ty:TypeId} {pos:String} {after:Array Edge} {g:Option (Nat × Bool)} {t:TypeId} {ps:Array (Nat × Operand)},opV P S T ⟨dst,.build t ps,ty,pos,after,g⟩=(wX P t (ps.toList.map fun p=>(p.1,zC T p.2))).map fun v=>.val v S 0) ∧
 (∀ {P:Program} {S:zA} {T:List V} {dst:Option Tmp} {ty:TypeId} {pos:String} {after:Array Edge} {g:Option (Nat × Bool)} {x:Operand} {i:Nat},opV P S T ⟨dst,.extract x i,ty,pos,after,g⟩=match zC T x with | .tup vs=>(match vs[i]? with | some v=>some (.val v S 0) | none=>none) | _=>none) ∧
 (∀ {P:Program} {S:zA} {T:List V} {dst:Option Tmp} {ty:TypeId} {pos:String} {after:Array Edge} {g:Option (Nat × Bool)} {c a b:Operand},opV P S T ⟨dst,.pick c a b,ty,pos,after,g⟩=match zC T c with | .d (.bool true)=>some (.val (zC T a) S 0) | .d (.bool false)=>some (.val (zC T b) S 0) | _=>none) ∧
 (∀ {P:Program} {S:zA} {T:List V} {dst:Option Tmp} {ty:TypeId} {pos:String} {after:Array Edge} {g:Option (Nat × Bool)} {h:FuncId} {args:Array Operand} {ts:Array TypeId},opV P S T ⟨dst,.call { callee:= .value (.func h),args:=args,argTypes:=ts },ty,pos,after,g⟩=if (args.toList.map (zC T)).all V.one && (zB P h).isSome then some (.enter h ([] ++ args.toList.map (zC T) ++ [])) else none) :=
 ⟨rfl,rfl,rfl,rfl,rfl,rfl,rfl,rfl,rfl,rfl,rfl,rfl,rfl,rfl,rfl,rfl,rfl,rfl⟩
def zue (ops:Array Oper) (T:List V):Option (Nat × Bool)→Option Bool
 | none=>some true
 | some (j,want)=>(qL ops T j).map (· == some want)
def zpw (T:List V):Option Tmp→Option (Option Bool)
 | none=>some none
 | some d=>match T[d]? with
  | none=>some none
  | some (.d (.bool b))=>some (some b)
  | some (.tup _)=>some none
  | some _=>none
theorem vmg :
 (∀ {ops:Array Oper} {T:List V} {dst:Option Tmp} {op:Op} {ty:TypeId} {pos:String} {after:Array Edge} {g:Option (Nat × Bool)},zW ops T ⟨dst,op,ty,pos,after,g⟩=zue ops T g) ∧
 (∀ {ops:Array Oper} {T:List V},zue ops T none=some true) ∧
 (∀ {ops:Array Oper} {T:List V} {j:Nat} {b:Bool},zue ops T (some (j,b))=(qL ops T j).map (· == some b)) ∧
 (∀ {ops:Array Oper} {T:List V} {j:Nat},qL ops T j=zpw T ((ops[j]?).bind (·.dst))) ∧
 (∀ {T:List V} {d:Tmp},zpw T (some d)=match T[d]? with | none=>some none | some (.d (.bool b))=>some (some b) | some (.tup _)=>some none | some _=>none) ∧
 (∀ {a:V} {l:List V},(a::l)[0]? = some a) ∧
 (∀ {a:V} {l:List V} {n:Nat},(a::l)[n + 1]? = l[n]?) ∧
 (∀ {a:Oper} {l:List Oper},((a::l).toArray)[0]? = some a) ∧
 (∀ {a:Oper} {l:List Oper} {n:Nat},((a::l).toArray)[n + 1]? = (l.toArray)[n]?) ∧
 (∀ {α β:Type} {a:α} {f:α→Option β},(some a).bind f=f a) ∧
 (∀ {b:Bool},(some b == some true)=b) ∧
 (∀ {b:Bool},(some b == some false) = !b) ∧
 (((none:Option Bool) == some true)=false) ∧
 (((none:Option Bool) == some false)=false) :=
 ⟨rfl,rfl,rfl,rfl,rfl,rfl,rfl,by simp,by simp,rfl,by intro b; cases b <;> rfl,by intro b; cases b <;> rfl,rfl,rfl⟩
theorem vmk :
 (∀ {dst:Option Tmp} {ty:TypeId} {pos:String} {after:Array Edge} {g:Option (Nat × Bool)} {x:Operand},jP ⟨dst,.move x,ty,pos,after,g⟩=false) ∧
 (∀ {dst:Option Tmp} {ty:TypeId} {pos:String} {after:Array Edge} {g:Option (Nat × Bool)} {x:Operand},jP ⟨dst,.assign x,ty,pos,after,g⟩=false) ∧
 (∀ {dst:Option Tmp} {ty:TypeId} {pos:String} {after:Array Edge} {g:Option (Nat × Bool)} {op:BinOp} {t u:TypeId} {x y:Operand},jP ⟨dst,.binOp op t x y u,ty,pos,after,g⟩=false) ∧
 (∀ {dst:Option Tmp} {ty:TypeId} {pos:String} {after:Array Edge} {g:Option (Nat × Bool)} {op:UnOp} {t:TypeId} {x:Operand},jP ⟨dst,.unOp op t x,ty,pos,after,g⟩=false) ∧
 (∀ {dst:Option Tmp} {ty:TypeId} {pos:String} {after:Array Edge} {g:Option (Nat × Bool)} {t:TypeId} {x y:Operand},jP ⟨dst,.indexAddr t x y,ty,pos,after,g⟩=false) ∧
 (∀ {dst:Option Tmp} {ty:TypeId} {pos:String} {after:Array Edge} {g:Option (Nat × Bool)} {t:TypeId} {x y:Operand},jP ⟨dst,.index t x y,ty,pos,after,g⟩=false) ∧
 (∀ {dst:Option Tmp} {ty:TypeId} {pos:String} {after:Array Edge} {g:Option (Nat × Bool)} {t:TypeId} {x:Operand} {f:Nat},jP ⟨dst,.fieldAddr t x f,ty,pos,after,g⟩=false) ∧
 (∀ {dst:Option Tmp} {ty:TypeId} {pos:String} {after:Array Edge} {g:Option (Nat × Bool)} {t:TypeId} {x:Operand} {f:Nat},jP ⟨dst,.field t x f,ty,pos,after,g⟩=false) ∧
 (∀ {dst:Option Tmp} {ty:TypeId} {pos:String} {after:Array Edge} {g:Option (Nat × Bool)} {t:TypeId} {x:Operand},jP ⟨dst,.load t x,ty,pos,after,g⟩=false) ∧
 (∀ {dst:Option Tmp} {ty:TypeId} {pos:String} {after:Array Edge} {g:Option (Nat × Bool)} {t:TypeId} {x y:Operand},jP ⟨dst,.store t x y,ty,pos,after,g⟩=false) ∧
 (∀ {dst:Option Tmp} {ty:TypeId} {pos:String} {after:Array Edge} {g:Option (Nat × Bool)} {t u:TypeId} {x:Operand},jP ⟨dst,.convert t u x,ty,pos,after,g⟩=false) ∧
 (∀ {dst:Option Tmp} {ty:TypeId} {pos:String} {after:Array Edge} {g:Option (Nat × Bool)} {t:TypeId} {x:Operand} {lo hi m:Option Operand},jP ⟨dst,.slice t x lo hi m,ty,pos,after,g⟩=false) ∧
 (∀ {dst:Option Tmp} {ty:TypeId} {pos:String} {after:Array Edge} {g:Option (Nat × Bool)} {t:TypeId} {x k:Operand} {ok:Bool},jP ⟨dst,.lookup t x k ok,ty,pos,after,g⟩=false) ∧
 (∀ {dst:Option Tmp} {ty:TypeId} {pos:String} {after:Array Edge} {g:Option (Nat × Bool)} {c:Call},jP ⟨dst,.call c,ty,pos,after,g⟩=false) ∧
 (∀ {dst:Option Tmp} {ty:TypeId} {pos:String} {after:Array Edge} {g:Option (Nat × Bool)} {t:TypeId} {ps:Array (Nat × Operand)},jP ⟨dst,.build t ps,ty,pos,after,g⟩=false) ∧
 (∀ {dst:Option Tmp} {ty:TypeId} {pos:String} {after:Array Edge} {g:Option (Nat × Bool)} {t:TypeId} {n:Nat} {ps:Array (Nat × Operand)},jP ⟨dst,.buildSlice t n ps,ty,pos,after,g⟩=false) ∧
 (∀ {dst:Option Tmp} {ty:TypeId} {pos:String} {after:Array Edge} {g:Option (Nat × Bool)} {x:Operand} {i:Nat},jP ⟨dst,.extract x i,ty,pos,after,g⟩=false) ∧
 (∀ {dst:Option Tmp} {ty:TypeId} {pos:String} {after:Array Edge} {g:Option (Nat × Bool)} {c a b:Operand},jP ⟨dst,.pick c a b,ty,pos,after,g⟩=false) ∧
 (∀ {dst:Option Tmp} {ty:TypeId} {pos:String} {after:Array Edge} {g:Option (Nat × Bool)} {x:Operand},jP ⟨dst,.nilCheck x,ty,pos,after,g⟩=false) ∧
 (∀ {dst:Option Tmp} {ty:TypeId} {pos:String} {after:Array Edge} {g:Option (Nat × Bool)} {t:TypeId} {m k v:Operand},jP ⟨dst,.mapUpdate t m k v,ty,pos,after,g⟩=false) ∧
 (∀ {dst:Option Tmp} {ty:TypeId} {pos:String} {after:Array Edge} {g:Option (Nat × Bool)} {e:TypeId},jP ⟨dst,.alloc e,ty,pos,after,g⟩=true) ∧
 (∀ {dst:Option Tmp} {ty:TypeId} {pos:String} {after:Array Edge} {g:Option (Nat × Bool)} {e:TypeId} {x:Operand},jP ⟨dst,.box e x,ty,pos,after,g⟩=true) :=
 ⟨rfl,rfl,rfl,rfl,rfl,rfl,rfl,rfl,rfl,rfl,rfl,rfl,rfl,rfl,rfl,rfl,rfl,rfl,rfl,rfl,rfl,rfl⟩
section
variable {C:Cfg} {ops:Array Oper} {base:Nat} {F:Dfs} {Q:Post}
def WpX (C:Cfg) (ops:Array Oper) (base:Nat) (F:Dfs) (Q:Post) (rd:List Nat) (cs:List (Nat × Nat)) (i:Nat) (is:List Nat) (T:List V) (S:zA) (o:Oper):Bool→Prop
 | true=>WpA base (fun cs T S=>WpD C ops base F Q rd cs is T S) cs i o.dst T S (addO C.P T o)
 | false=>WpE C ops F Q (fun rd cs T S=>WpD C ops base F Q rd cs is T S) rd cs i o.dst T S (opV C.P S T o)
def WpO (C:Cfg) (ops:Array Oper) (base:Nat) (F:Dfs) (Q:Post) (rd:List Nat) (cs:List (Nat × Nat)) (i:Nat) (is:List Nat) (T:List V) (S:zA) (o:Oper):Option Bool→Prop
 | none=>False
 | some false=>WpD C ops base F Q rd (cs ++ [(i,0)]) is (putT T o.dst (.tup [])) S
 | some true=>WpX C ops base F Q rd cs i is T S o (jP o)
def WpI (C:Cfg) (ops:Array Oper) (base:Nat) (F:Dfs) (Q:Post) (rd:List Nat) (cs:List (Nat × Nat)) (i:Nat) (is:List Nat) (T:List V) (S:zA):Option Oper→Prop
 | none=>False
 | some o=>WpO C ops base F Q rd cs i is T S o (zW ops T o)
theorem zzg {rd:List Nat} {cs:List (Nat × Nat)} {i:Nat} {is:List Nat} {T:List V} {S:zA}:WpD C ops base F Q rd cs (i::is) T S=WpI C ops base F Q rd cs i is T S (ops[i]?):=by
 rw [zub]
 unfold WpI WpO
 cases ops[i]? with
 | none=>rfl
 | some o =>
  simp only
  cases zW ops T o with
  | none=>rfl
  | some b =>
   cases b with
   | false=>rfl
   | true=>cases jP o <;> rfl
theorem vmd :
 (∀ {C:Cfg} {ops:Array Oper} {base:Nat} {F:Dfs} {Q:Post} {rd:List Nat} {cs:List (Nat × Nat)} {T:List V} {S:zA},WpD C ops base F Q rd cs [] T S=(z2j ops cs=true∧Q .norm T S F)) ∧
 (∀ {C:Cfg} {ops:Array Oper} {base:Nat} {F:Dfs} {Q:Post} {rd:List Nat} {cs:List (Nat × Nat)} {i:Nat} {is:List Nat} {T:List V} {S:zA},WpD C ops base F Q rd cs (i::is) T S=WpI C ops base F Q rd cs i is T S (ops[i]?)) ∧
 (∀ {C:Cfg} {ops:Array Oper} {base:Nat} {F:Dfs} {Q:Post} {rd:List Nat} {cs:List (Nat × Nat)} {i:Nat} {is:List Nat} {T:List V} {S:zA} {o:Oper},WpI C ops base F Q rd cs i is T S (some o)=WpO C ops base F Q rd cs i is T S o (zW ops T o)) ∧
 (∀ {C:Cfg} {ops:Array Oper} {base:Nat} {F:Dfs} {Q:Post} {rd:List Nat} {cs:List (Nat × Nat)} {i:Nat} {is:List Nat} {T:List V} {S:zA} {o:Oper},WpO C ops base F Q rd cs i is T S o (some false)=WpD C ops base F Q rd (cs ++ [(i,0)]) is (putT T o.dst (.tup [])) S) ∧
 (∀ {C:Cfg} {ops:Array Oper} {base:Nat} {F:Dfs} {Q:Post} {rd:List Nat} {cs:List (Nat × Nat)} {i:Nat} {is:List Nat} {T:List V} {S:zA} {o:Oper},WpO C ops base F Q rd cs i is T S o (some true)=WpX C ops base F Q rd cs i is T S o (jP o)) ∧
 (∀ {C:Cfg} {ops:Array Oper} {base:Nat} {F:Dfs} {Q:Post} {rd:List Nat} {cs:List (Nat × Nat)} {i:Nat} {is:List Nat} {T:List V} {S:zA} {o:Oper},WpX C ops base F Q rd cs i is T S o false=WpE C ops F Q (fun rd cs T S=>WpD C ops base F Q rd cs is T S) rd cs i o.dst T S (opV C.P S T o)) ∧
 (∀ {C:Cfg} {ops:Array Oper} {base:Nat} {F:Dfs} {Q:Post} {rd:List Nat} {cs:List (Nat × Nat)} {i:Nat} {is:List Nat} {T:List V} {S:zA} {o:Oper},WpX C ops base F Q rd cs i is T S o true=WpA base (fun cs T S=>WpD C ops base F Q rd cs is T S) cs i o.dst T S (addO C.P T o)) ∧
 (∀ {C:Cfg} {ops:Array Oper} {F:Dfs} {Q:Post} {K:List Nat→List (Nat × Nat)→List V→zA→Prop} {rd:List Nat} {cs:List (Nat × Nat)} {i:Nat} {dst:Option Tmp} {T:List V} {S S':zA} {v:V},WpE C ops F Q K rd cs i dst T S (some (.val v S' 0))=K rd (cs ++ [(i,0)]) (putT T dst v) S') ∧
 (∀ {C:Cfg} {ops:Array Oper} {F:Dfs} {Q:Post} {K:List Nat→List (Nat × Nat)→List V→zA→Prop} {rd:List Nat} {cs:List (Nat × Nat)} {i:Nat} {dst:Option Tmp} {T:List V} {S S':zA} {v:V},WpE C ops F Q K rd cs i dst T S (some (.val v S' 1))=K (i::rd) (cs ++ [(i,1)]) (putT T dst v) S') ∧
 (∀ {C:Cfg} {ops:Array Oper} {F:Dfs} {Q:Post} {K:List Nat→List (Nat × Nat)→List V→zA→Prop} {rd:List Nat} {cs:List (Nat × Nat)} {i:Nat} {dst:Option Tmp} {T:List V} {S S':zA} {c:Nat},WpE C ops F Q K rd cs i dst T S (some (.skip S' c))=(z3n ops rd i 3∧K rd (cs ++ [(i,3)]) (putT T dst (.tup [])) S')) ∧
 (num2 0=0)∧(num2 1=1)∧(num2 2=3)∧(num2 3=3) ∧
 (∀ {α:Type} {l l':List α} {a:α},(a::l) ++ l'=a::(l ++ l')) :=
 ⟨rfl,zzg,rfl,rfl,rfl,rfl,rfl,by intros; simp [WpE,z3n,num2],by intros; simp [WpE,z3n,num2],rfl,rfl,rfl,rfl,rfl,rfl⟩
end
section
variable {C:Cfg} {S:zA}
theorem zfm {n:Nat} : ∀ l:List D,(l.map V.d).flatMap (frzIds S n)=[]
 | []=>rfl
 | x::r=>by
  rw [List.map_cons,List.flatMap_cons,zfm r]
  cases n <;> rfl
def RowD (S:zA) (i:Nat):Prop:= ∃ (xs:List D) (e:TypeId),S[i]? = some (.row (xs.map .d) e)
theorem q18 {e:TypeId} {v:V} {ds:List D} {n:Nat} (h:OwnS S v e (ds.map .d)) : ∀ i ∈ frzIds S (n + 1) v,RowD S i:=by
 rcases h with ⟨rfl,_⟩ | ⟨id,rfl,h1⟩
 ·intro i hi
  simp [frzIds] at hi
 ·intro i hi
  have e1:frzIds S (n + 1) (.rs id 0 (ds.map V.d).length)=(match S[id]? with | some (.row xs e)=>id::xs.flatMap (frzIds S n) | _=>[]):=rfl
  rw [e1,h1] at hi
  simp only [zfm,List.mem_singleton] at hi
  subst hi
  exact ⟨ds,e,h1⟩
theorem zb2 {e:TypeId} {v:V} {ds:List D} {n:Nat} (ho:OwnS S v e (ds.map .d)):frz S (n + 2) v=some (.sl ds):=by
 rcases ho with ⟨rfl,h⟩ | ⟨id,rfl,h1⟩
 ·have:ds=[]:=by simpa using h
  subst this; rfl
 ·simp only [List.length_map]
  show (match S[id]? with
   | some (.row xs e)=>if 0 + ds.length ≤ xs.length && (allO (frz S (n + 1)) xs).isSome then (allO (frz S (n + 1)) ((xs.drop 0).take ds.length)).map D.sl else none
   | some (.fz xs e)=>if 0 + ds.length ≤ xs.length then some (D.sl ((xs.drop 0).take ds.length)) else none
   | _=>none)=_
  have h2:((ds.map V.d).drop 0).take ds.length=ds.map V.d:=by rw [List.drop_zero,List.take_of_length_le (by simp)]
  simp only [h1,h2,zg9,List.length_map,Option.isSome_some,Bool.and_true,Option.map_some]
  simp
theorem kT {ops:Array Oper} {dst:Option Tmp} {l:List Oper} {T:List V} {F:Dfs} {Q:Post} {f:FuncId} {args:List V} {ds:List D} {v:V} (hs:C.shared f=false) (hf:allO (frz S zG) args=some ds) (hi:(args.flatMap (frzIds S zG)).isEmpty=true) (he:Ev C f ds (.ret v)) :
  WpR C ops dst l T S F Q (some (.enter f args))=WpL C ops l (putT T dst v) S F Q:=by
 obtain ⟨n,hn⟩:=he
 have hn':answer C (run C n) f ds=some (.ret v):=hn
 have hc:jO C (run C n) f args S=some (.ret v,S,1):=by
  unfold jO
  simp only [hs,Bool.false_eq_true,if_false,hf,hn',hi,if_true]
 apply propext
 constructor
 ·rintro ⟨m,o,S',c,h1,h2⟩
  have:=wN h1 hc
  simp only [Prod.mk.injEq] at this
  obtain ⟨rfl,rfl,rfl⟩:=this
  exact h2
 ·exact fun h=>⟨n,_,_,_,hc,h⟩
end
theorem qH {S:zA} {id:Nat} {x y:V} {e:TypeId} (h:S[id]? = some (.row [x] e)):jJ S id 0 y=some (S.set id (.row [y] e)):=by
 unfold jJ; rw [h]; rfl
theorem zm7 {S:zA} {id:Nat} {o o':Ob} (h:S[id]? = some o):(S.set id o')[id]? = some o':=by
 have:=zL h
 simp [this]
theorem zv7 {P:Program} {t:TypeId} {s:List UInt8} {i:Nat} (hu:P.underlying t=some .string) (h:i < s.length):z4z P t (.d (.str s)) (.d (.int .i64 i))=some (.d (.int .u8 s[i].toNat)):=by
 have h0:(0:Int) ≤ i:=by omega
 simp only [z4z,intOf?,hu,h0,if_true,Int.toNat_natCast,List.getElem?_eq_getElem h]
end Go.Vm
end
section
namespace Go.Vm
open Go
theorem zo0 {n d:Nat} {i:Int} (h0:0 ≤ i) (h1:i.toNat ≤ n):kF n (some (.d (.int .i64 i))) d=some i.toNat:=by
 have h2:i ≤ n:=by omega
 simp only [kF,intOf?,h0,h2,if_true,and_self]
theorem zbq {n d:Nat}:kF n none d=some d:=rfl
theorem zay {l:List UInt8}:zkv ⟨l.toArray⟩=l:=rfl
section
variable {C:Cfg} {S:zA} {T:List V} {dst:Option Tmp} {ops:Array Oper} {F:Dfs} {Q:Post} {K:List Nat→List (Nat × Nat)→List V→zA→Prop} {rd:List Nat} {cs:List (Nat × Nat)} {i:Nat}
theorem zbu {f:FuncId} {args:List V} {ds:List D} {v:V} (hs:C.shared f=false) (hf:allO (frz S zG) args=some ds) (hi:(args.flatMap (frzIds S zG)).isEmpty=true) (he:Ev C f ds (.ret v)) :
  WpE C ops F Q K rd cs i dst T S (some (.enter f args))=K (i::rd) (cs ++ [(i,1)]) (putT T dst v) S:=by
 obtain ⟨n,hn⟩:=he
 have hn':answer C (run C n) f ds=some (.ret v):=hn
 have hc:jO C (run C n) f args S=some (.ret v,S,1):=by
  unfold jO
  simp only [hs,Bool.false_eq_true,if_false,hf,hn',hi,if_true]
 apply propext
 constructor
 ·rintro ⟨m,v',S',c,h1,h2,h3⟩
  have:=wN h1 hc
  simp only [Prod.mk.injEq] at this
  obtain ⟨h4,rfl,rfl⟩:=this
  cases h4
  exact h3
 ·exact fun h=>⟨n,_,_,_,hc,fun h=>absurd h (by decide),h⟩
theorem z54 {f:FuncId} {ds:List D} {v:V} (hs:C.shared f=false) (he:Ev C f ds (.ret v)) :
  WpE C ops F Q K rd cs i dst T S (some (.enter f (ds.map .d)))=K (i::rd) (cs ++ [(i,1)]) (putT T dst v) S:=by
 have hfz : ∀ ds:List D,allO (frz S zG) (ds.map V.d)=some ds:=by
  intro ds
  induction ds with
  | nil=>rfl
  | cons x r ih=>simp only [List.map_cons,allO,ih,zt0]
 have hid : ∀ ds:List D,((ds.map V.d).flatMap (frzIds S zG)).isEmpty=true:=by
  intro ds
  induction ds with
  | nil=>rfl
  | cons x r ih=>simp only [List.map_cons,List.flatMap_cons,zaq,List.nil_append]; exact ih
 exact zbu hs (hfz ds) (hid ds) he
end
end Go.Vm
end
section
namespace Go.Vm
theorem vgd :
 (∀ {a x:V} {r:List V},(a::r).getD 0 x=a) ∧
 (∀ {a b x:V} {r:List V},(a::b::r).getD 1 x=b) ∧
 (∀ {a b c x:V} {r:List V},(a::b::c::r).getD 2 x=c) ∧
 (∀ {a b c d x:V} {r:List V},(a::b::c::d::r).getD 3 x=d) ∧
 (∀ {a b c d e x:V} {r:List V},(a::b::c::d::e::r).getD 4 x=e) ∧
 (∀ {a b c d e f x:V} {r:List V},(a::b::c::d::e::f::r).getD 5 x=f) ∧
 (∀ {a b c d e f g x:V} {r:List V},(a::b::c::d::e::f::g::r).getD 6 x=g) ∧
 (∀ {a b c d e f g h x:V} {r:List V},(a::b::c::d::e::f::g::h::r).getD 7 x=h) ∧
 (∀ {a b c d e f g h x:V} {r:List V} {n:Nat},(a::b::c::d::e::f::g::h::r).getD (n + 8) x=r.getD n x) ∧
 (∀ {a b c d e f g h a1 b1 c1 d1 e1 f1 g1 h1 x:V} {r:List V} {n:Nat},(a::b::c::d::e::f::g::h::a1::b1::c1::d1::e1::f1::g1::h1::r).getD (n + 16) x=r.getD n x) ∧
 (∀ {a b c d e f g h a1 b1 c1 d1 e1 f1 g1 h1 a2 b2 c2 d2 e2 f2 g2 h2 a3 b3 c3 d3 e3 f3 g3 h3 x:V} {r:List V} {n:Nat},(a::b::c::d::e::f::g::h::a1::b1::c1::d1::e1::f1::g1::h1::a2::b2::c2::d2::e2::f2::g2::h2::a3::b3::c3::d3::e3::f3::g3::h3::r).getD (n + 32) x=r.getD n x) ∧
 (∀ {a b c d e f g h a1 b1 c1 d1 e1 f1 g1 h1 a2 b2 c2 d2 e2 f2 g2 h2 a3 b3 c3 d3 e3 f3 g3 h3 a4 b4 c4 d4 e4 f4 g4 h4 a5 b5 c5 d5 e5 f5 g5 h5 a6 b6 c6 d6 e6 f6 g6 h6 a7 b7 c7 d7 e7 f7 g7 h7 x:V} {r:List V} {n:Nat},(a::b::c::d::e::f::g::h::a1::b1::c1::d1::e1::f1::g1::h1::a2::b2::c2::d2::e2::f2::g2::h2::a3::b3::c3::d3::e3::f3::g3::h3::a4::b4::c4::d4::e4::f4::g4::h4::a5::b5::c5::d5::e5::f5::g5::h5::a6::b6::c6::d6::e6::f6::g6::h6::a7::b7::c7::d7::e7::f7::g7::h7::r).getD (n + 64) x=r.getD n x) :=
 ⟨rfl,rfl,rfl,rfl,rfl,rfl,rfl,rfl,rfl,rfl,rfl,rfl⟩
theorem vst :
 (∀ {a x:V} {r:List V},(a::r).set 0 x=x::r) ∧
 (∀ {a b x:V} {r:List V},(a::b::r).set 1 x=a::x::r) ∧
 (∀ {a b c x:V} {r:List V},(a::b::c::r).set 2 x=a::b::x::r) ∧
 (∀ {a b c d x:V} {r:List V},(a::b::c::d::r).set 3 x=a::b::c::x::r) ∧
 (∀ {a b c d e x:V} {r:List V},(a::b::c::d::e::r).set 4 x=a::b::c::d::x::r) ∧
 (∀ {a b c d e f x:V} {r:List V},(a::b::c::d::e::f::r).set 5 x=a::b::c::d::e::x::r) ∧
 (∀ {a b c d e f g x:V} {r:List V},(a::b::c::d::e::f::g::r).set 6 x=a::b::c::d::e::f::x::r) ∧
 (∀ {a b c d e f g h x:V} {r:List V},(a::b::c::d::e::f::g::h::r).set 7 x=a::b::c::d::e::f::g::x::r) ∧
 (∀ {a b c d e f g h x:V} {r:List V} {n:Nat},(a::b::c::d::e::f::g::h::r).set (n + 8) x=a::b::c::d::e::f::g::h::r.set n x) ∧
 (∀ {a b c d e f g h a1 b1 c1 d1 e1 f1 g1 h1 x:V} {r:List V} {n:Nat},(a::b::c::d::e::f::g::h::a1::b1::c1::d1::e1::f1::g1::h1::r).set (n + 16) x=a::b::c::d::e::f::g::h::a1::b1::c1::d1::e1::f1::g1::h1::r.set n x) ∧
 (∀ {a b c d e f g h a1 b1 c1 d1 e1 f1 g1 h1 a2 b2 c2 d2 e2 f2 g2 h2 a3 b3 c3 d3 e3 f3 g3 h3 x:V} {r:List V} {n:Nat},(a::b::c::d::e::f::g::h::a1::b1::c1::d1::e1::f1::g1::h1::a2::b2::c2::d2::e2::f2::g2::h2::a3::b3::c3::d3::e3::f3::g3::h3::r).set (n + 32) x=a::b::c::d::e::f::g::h::a1::b1::c1::d1::e1::f1::g1::h1::a2::b2::c2::d2::e2::f2::g2::h2::a3::b3::c3::d3::e3::f3::g3::h3::r.set n x) ∧
 (∀ {a b c d e f g h a1 b1 c1 d1 e1 f1 g1 h1 a2 b2 c2 d2 e2 f2 g2 h2 a3 b3 c3 d3 e3 f3 g3 h3 a4 b4 c4 d4 e4 f4 g4 h4 a5 b5 c5 d5 e5 f5 g5 h5 a6 b6 c6 d6 e6 f6 g6 h6 a7 b7 c7 d7 e7 f7 g7 h7 x:V} {r:List V} {n:Nat},(a::b::c::d::e::f::g::h::a1::b1::c1::d1::e1::f1::g1::h1::a2::b2::c2::d2::e2::f2::g2::h2::a3::b3::c3::d3::e3::f3::g3::h3::a4::b4::c4::d4::e4::f4::g4::h4::a5::b5::c5::d5::e5::f5::g5::h5::a6::b6::c6::d6::e6::f6::g6::h6::a7::b7::c7::d7::e7::f7::g7::h7::r).set (n + 64) x=a::b::c::d::e::f::g::h::a1::b1::c1::d1::e1::f1::g1::h1::a2::b2::c2::d2::e2::f2::g2::h2::a3::b3::c3::d3::e3::f3::g3::h3::a4::b4::c4::d4::e4::f4::g4::h4::a5::b5::c5::d5::e5::f5::g5::h5::a6::b6::c6::d6::e6::f6::g6::h6::a7::b7::c7::d7::e7::f7::g7::h7::r.set n x) :=
 ⟨rfl,rfl,rfl,rfl,rfl,rfl,rfl,rfl,rfl,rfl,rfl,rfl⟩
theorem vix :
 (∀ {a:V} {r:List V},(a::r)[0]? = some a) ∧
 (∀ {a b:V} {r:List V},(a::b::r)[1]? = some b) ∧
 (∀ {a b c:V} {r:List V},(a::b::c::r)[2]? = some c) ∧
 (∀ {a b c d:V} {r:List V},(a::b::c::d::r)[3]? = some d) ∧
 (∀ {a b c d e:V} {r:List V},(a::b::c::d::e::r)[4]? = some e) ∧
 (∀ {a b c d e f:V} {r:List V},(a::b::c::d::e::f::r)[5]? = some f) ∧
 (∀ {a b c d e f g:V} {r:List V},(a::b::c::d::e::f::g::r)[6]? = some g) ∧
 (∀ {a b c d e f g h:V} {r:List V},(a::b::c::d::e::f::g::h::r)[7]? = some h) ∧
 (∀ {a b c d e f g h:V} {r:List V} {n:Nat},(a::b::c::d::e::f::g::h::r)[n + 8]? = r[n]?) ∧
 (∀ {a b c d e f g h a1 b1 c1 d1 e1 f1 g1 h1:V} {r:List V} {n:Nat},(a::b::c::d::e::f::g::h::a1::b1::c1::d1::e1::f1::g1::h1::r)[n + 16]? = r[n]?) ∧
 (∀ {a b c d e f g h a1 b1 c1 d1 e1 f1 g1 h1 a2 b2 c2 d2 e2 f2 g2 h2 a3 b3 c3 d3 e3 f3 g3 h3:V} {r:List V} {n:Nat},(a::b::c::d::e::f::g::h::a1::b1::c1::d1::e1::f1::g1::h1::a2::b2::c2::d2::e2::f2::g2::h2::a3::b3::c3::d3::e3::f3::g3::h3::r)[n + 32]? = r[n]?) ∧
 (∀ {a b c d e f g h a1 b1 c1 d1 e1 f1 g1 h1 a2 b2 c2 d2 e2 f2 g2 h2 a3 b3 c3 d3 e3 f3 g3 h3 a4 b4 c4 d4 e4 f4 g4 h4 a5 b5 c5 d5 e5 f5 g5 h5 a6 b6 c6 d6 e6 f6 g6 h6 a7 b7 c7 d7 e7 f7 g7 h7:V} {r:List V} {n:Nat},(a::b::c::d::e::f::g::h::a1::b1::c1::d1::e1::f1::g1::h1::a2::b2::c2::d2::e2::f2::g2::h2::a3::b3::c3::d3::e3::f3::g3::h3::a4::b4::c4::d4::e4::f4::g4::h4::a5::b5::c5::d5::e5::f5::g5::h5::a6::b6::c6::d6::e6::f6::g6::h6::a7::b7::c7::d7::e7::f7::g7::h7::r)[n + 64]? = r[n]?) :=
 ⟨rfl,rfl,rfl,rfl,rfl,rfl,rfl,rfl,rfl,rfl,rfl,rfl⟩
end Go.Vm
end
section
namespace Go.Vm
open Go
theorem vso :
 (∀ {a:Ob} {l:zA},(a::l)[0]? = some a) ∧
 (∀ {a:Ob} {l:zA} {n:Nat},(a::l)[n + 1]? = l[n]?) ∧
 (∀ {a b:Ob} {l:zA},(a::l).set 0 b=b::l) ∧
 (∀ {a b:Ob} {l:zA} {n:Nat},(a::l).set (n + 1) b=a::l.set n b) ∧
 (∀ {n:Nat},List.replicate (n + 1) Ob.hole = .hole::List.replicate n .hole) ∧
 (List.replicate 0 Ob.hole=[]) :=
 ⟨rfl,rfl,rfl,rfl,rfl,rfl⟩
def mkO (P:Program) (e:TypeId) (z:V):V→V→Option (Ob × (Nat→V))
 | .d (.int .i64 l),.d (.int .i64 c)=>if 0 ≤ l∧l ≤ c∧c ≤ 9223372036854775807 then if room P e c.toNat && qA P e z then
     some (.row (List.replicate c.toNat z) e,fun id=>.rs id 0 l.toNat) else none else none
 | _,_=>none
theorem q0f {P:Program} {e:TypeId} {z:V} {n:Int} (hr:room P e n.toNat=true) (hf:qA P e z=true) (h0:0 ≤ n) (h1:n ≤ 1000000):mkO P e z (.d (.int .i64 n)) (.d (.int .i64 n))=some (.row (List.replicate n.toNat z) e,fun id=>.rs id 0 n.toNat):=by
 simp only [mkO]
 rw [if_pos ⟨h0,Int.le_refl _,by omega⟩,if_pos (by rw [hr,hf]; rfl)]
section
variable {C:Cfg} {S:zA} {T:List V} {dst:Option Tmp} {ops:Array Oper} {F:Dfs} {Q:Post} {K:List Nat→List (Nat × Nat)→List V→zA→Prop} {rd:List Nat} {cs:List (Nat × Nat)} {i:Nat}
theorem z80 {base:Nat} {K:List (Nat × Nat)→List V→zA→Prop} {ob:Ob} {f:Nat→V}:WpA base K cs i dst T S (some (ob,f))=(S[base + i]? = some .hole∧K (cs ++ [(i,2)]) (putT T dst (f (base + i))) (S.set (base + i) ob)):=rfl
theorem zqu {ty:TypeId} {pos:String} {after:Array Edge} {g:Option (Nat × Bool)} {t:TypeId} {l c:Operand}:jP ⟨dst,.makeSlice t l c,ty,pos,after,g⟩=true:=rfl
theorem zs6 {P:Program} {ty:TypeId} {pos:String} {after:Array Edge} {g:Option (Nat × Bool)} {t e:TypeId} {l c:Operand} {z:V} (hu:P.underlying t=some (.slice e)) (hz:zeroV P e=some z):addO P T ⟨dst,.makeSlice t l c,ty,pos,after,g⟩=mkO P e z (zC T l) (zC T c):=by
 simp only [addO,hu,hz]
 unfold mkO
 split
 ·rename_i heq; simp only [Option.some.injEq] at heq; obtain ⟨h1,h2,h3⟩:=And.intro ‹_› (And.intro ‹_› heq); subst h3; simp_all
 ·rename_i h; split
  ·exfalso; simp_all
  ·rfl
theorem zp0 {id:Nat} {xs:List D} {e:TypeId} (hr:S[id]? = some (.row (xs.map .d) e)):mark S [id] S [id]=some (S.set id (.fz xs e)):=by
 have h3:allO (frz S zG) (xs.map V.d)=some xs:=zg9 (n:=11) xs
 have h4:(xs.map V.d).flatMap (frzIds S zG)=[]:=zfm xs
 simp only [mark,hr,z3e,h3,Option.map_some,z9d,h4,List.all_nil,if_true]
theorem zpm {n:Nat} {f:FuncId} {args:List V} {ds:List D} {v:V} {id:Nat} {xs:List D} {e:TypeId} (hs:C.shared f=false) (hf:allO (frz S zG) args=some ds) (hi:args.flatMap (frzIds S zG)=[id]) (hr:S[id]? = some (.row (xs.map .d) e)) (hp:z0w (.ret v)=false) (hn:answer C (run C n) f ds=some (.ret v)):jO C (run C n) f args S=some (.ret v,S.set id (.fz xs e),3):=by
 unfold jO
 simp only [hs,Bool.false_eq_true,if_false,hf,hn,hi,List.isEmpty_cons,hp,zp0 hr]
theorem ze1 {f:FuncId} {args:List V} {ds:List D} {v:V} {id:Nat} {xs:List D} {e:TypeId} (hs:C.shared f=false) (hf:allO (frz S zG) args=some ds) (hi:args.flatMap (frzIds S zG)=[id]) (hr:S[id]? = some (.row (xs.map .d) e)) (hp:z0w (.ret v)=false) (he:Ev C f ds (.ret v)) :
  WpE C ops F Q K rd cs i dst T S (some (.enter f args))=(z3n ops rd i 3∧K rd (cs ++ [(i,3)]) (putT T dst v) (S.set id (.fz xs e))):=by
 obtain ⟨n,hn⟩:=he
 have hc:jO C (run C n) f args S=some (.ret v,S.set id (.fz xs e),3):=zpm hs hf hi hr hp hn
 apply propext
 constructor
 ·rintro ⟨m,v',S',c,h1,h2,h3⟩
  have:=wN h1 hc
  simp only [Prod.mk.injEq] at this
  obtain ⟨h4,rfl,rfl⟩:=this
  cases h4
  exact ⟨h2,h3⟩
 ·exact fun h=>⟨n,_,_,_,hc,h.1,h.2⟩
end
section
variable {C:Cfg} {ops:Array Oper} {dst:Option Tmp} {ty:TypeId} {pos:String} {after:Array Edge} {l:List Oper} {T:List V} {S:zA} {F:Dfs} {Q:Post} {t:TypeId} {n:Nat} {ps:Array (Nat × Operand)} {d2:Option Tmp} {ty2:TypeId} {pos2:String} {after2:Array Edge} {g2:Option (Nat × Bool)}
theorem zcr {x:Operand}:WpL C ops (⟨dst,.buildSlice t n ps,ty,pos,after,none⟩::⟨d2,.assign x,ty2,pos2,after2,g2⟩::l) T S F Q=WpR C ops dst (⟨d2,.assign x,ty2,pos2,after2,g2⟩::l) T S F Q (opV C.P S T ⟨dst,.buildSlice t n ps,ty,pos,after,none⟩):=z7z rfl
theorem zhz {x:Operand}:WpL C ops (⟨dst,.buildSlice t n ps,ty,pos,after,none⟩::⟨d2,.move x,ty2,pos2,after2,g2⟩::l) T S F Q=WpR C ops dst (⟨d2,.move x,ty2,pos2,after2,g2⟩::l) T S F Q (opV C.P S T ⟨dst,.buildSlice t n ps,ty,pos,after,none⟩):=z7z rfl
theorem z90 {s:TypeId} {x:Operand} {f:Nat}:WpL C ops (⟨dst,.buildSlice t n ps,ty,pos,after,none⟩::⟨d2,.fieldAddr s x f,ty2,pos2,after2,g2⟩::l) T S F Q=WpR C ops dst (⟨d2,.fieldAddr s x f,ty2,pos2,after2,g2⟩::l) T S F Q (opV C.P S T ⟨dst,.buildSlice t n ps,ty,pos,after,none⟩):=z7z rfl
theorem zeu {s:TypeId} {qs:Array (Nat × Operand)}:WpL C ops (⟨dst,.buildSlice t n ps,ty,pos,after,none⟩::⟨d2,.build s qs,ty2,pos2,after2,g2⟩::l) T S F Q=WpR C ops dst (⟨d2,.build s qs,ty2,pos2,after2,g2⟩::l) T S F Q (opV C.P S T ⟨dst,.buildSlice t n ps,ty,pos,after,none⟩):=z7z rfl
theorem zp6 {s:TypeId} {m:Nat} {qs:Array (Nat × Operand)}:WpL C ops (⟨dst,.buildSlice t n ps,ty,pos,after,none⟩::⟨d2,.buildSlice s m qs,ty2,pos2,after2,g2⟩::l) T S F Q=WpR C ops dst (⟨d2,.buildSlice s m qs,ty2,pos2,after2,g2⟩::l) T S F Q (opV C.P S T ⟨dst,.buildSlice t n ps,ty,pos,after,none⟩):=z7z rfl
theorem vbs :
 (∀ {C:Cfg} {ops:Array Oper} {dst:Option Tmp} {ty:TypeId} {pos:String} {after:Array Edge} {l:List Oper} {T:List V} {S:zA} {F:Dfs} {Q:Post} {t:TypeId} {n:Nat} {ps:Array (Nat × Operand)} {d2:Option Tmp} {ty2:TypeId} {pos2:String} {after2:Array Edge} {g2:Option (Nat × Bool)} {x:Operand},WpL C ops (⟨dst,.buildSlice t n ps,ty,pos,after,none⟩::⟨d2,.assign x,ty2,pos2,after2,g2⟩::l) T S F Q=WpR C ops dst (⟨d2,.assign x,ty2,pos2,after2,g2⟩::l) T S F Q (opV C.P S T ⟨dst,.buildSlice t n ps,ty,pos,after,none⟩)) ∧
 (∀ {C:Cfg} {ops:Array Oper} {dst:Option Tmp} {ty:TypeId} {pos:String} {after:Array Edge} {l:List Oper} {T:List V} {S:zA} {F:Dfs} {Q:Post} {t:TypeId} {n:Nat} {ps:Array (Nat × Operand)} {d2:Option Tmp} {ty2:TypeId} {pos2:String} {after2:Array Edge} {g2:Option (Nat × Bool)} {x:Operand},WpL C ops (⟨dst,.buildSlice t n ps,ty,pos,after,none⟩::⟨d2,.move x,ty2,pos2,after2,g2⟩::l) T S F Q=WpR C ops dst (⟨d2,.move x,ty2,pos2,after2,g2⟩::l) T S F Q (opV C.P S T ⟨dst,.buildSlice t n ps,ty,pos,after,none⟩)) ∧
 (∀ {C:Cfg} {ops:Array Oper} {dst:Option Tmp} {ty:TypeId} {pos:String} {after:Array Edge} {l:List Oper} {T:List V} {S:zA} {F:Dfs} {Q:Post} {t:TypeId} {n:Nat} {ps:Array (Nat × Operand)} {d2:Option Tmp} {ty2:TypeId} {pos2:String} {after2:Array Edge} {g2:Option (Nat × Bool)} {s:TypeId} {x:Operand} {f:Nat},WpL C ops (⟨dst,.buildSlice t n ps,ty,pos,after,none⟩::⟨d2,.fieldAddr s x f,ty2,pos2,after2,g2⟩::l) T S F Q=WpR C ops dst (⟨d2,.fieldAddr s x f,ty2,pos2,after2,g2⟩::l) T S F Q (opV C.P S T ⟨dst,.buildSlice t n ps,ty,pos,after,none⟩)) ∧
 (∀ {C:Cfg} {ops:Array Oper} {dst:Option Tmp} {ty:TypeId} {pos:String} {after:Array Edge} {l:List Oper} {T:List V} {S:zA} {F:Dfs} {Q:Post} {t:TypeId} {n:Nat} {ps:Array (Nat × Operand)} {d2:Option Tmp} {ty2:TypeId} {pos2:String} {after2:Array Edge} {g2:Option (Nat × Bool)} {s:TypeId} {qs:Array (Nat × Operand)},WpL C ops (⟨dst,.buildSlice t n ps,ty,pos,after,none⟩::⟨d2,.build s qs,ty2,pos2,after2,g2⟩::l) T S F Q=WpR C ops dst (⟨d2,.build s qs,ty2,pos2,after2,g2⟩::l) T S F Q (opV C.P S T ⟨dst,.buildSlice t n ps,ty,pos,after,none⟩)) ∧
 (∀ {C:Cfg} {ops:Array Oper} {dst:Option Tmp} {ty:TypeId} {pos:String} {after:Array Edge} {l:List Oper} {T:List V} {S:zA} {F:Dfs} {Q:Post} {t:TypeId} {n:Nat} {ps:Array (Nat × Operand)} {d2:Option Tmp} {ty2:TypeId} {pos2:String} {after2:Array Edge} {g2:Option (Nat × Bool)} {s:TypeId} {m:Nat} {qs:Array (Nat × Operand)},WpL C ops (⟨dst,.buildSlice t n ps,ty,pos,after,none⟩::⟨d2,.buildSlice s m qs,ty2,pos2,after2,g2⟩::l) T S F Q=WpR C ops dst (⟨d2,.buildSlice s m qs,ty2,pos2,after2,g2⟩::l) T S F Q (opV C.P S T ⟨dst,.buildSlice t n ps,ty,pos,after,none⟩)) :=
 ⟨zcr,zhz,z90,zeu,zp6⟩
end
theorem z77 {S:zA} {x:V} {e:TypeId}:rowE (S ++ [.row [x] e]) S.length 0=some x:=zD (e:=e) (by simp)
theorem z30 {S:zA} {x y:V} {e:TypeId}:jJ (S ++ [.row [x] e]) S.length 0 y=some (S ++ [.row [y] e]):=by
 rw [qH (x:=x) (e:=e) (by simp)]
 simp
section
variable {C:Cfg} {ops:Array Oper} {base:Nat} {F:Dfs} {Q:Post}
def RQ (P:Program) (rs:Array ResultVar) (R:Out→zA→Prop):Post:=fun x T S F=>F=[]∧match x with | .norm=>∃ v,qD P rs T S=some v∧R (.ret v) S | .ret=>∃ v,qD P rs T S=some v∧R (.ret v) S | .pan v=>R (.pan v) S | .exit _=>False
theorem qE {f:FuncId} {c:Code} {n:Nat} {rs:Array ResultVar} {args:List V} {S:zA} {R:Out→zA→Prop} (hc:C.catch_ f=none) (hb:zB C.P f=some ⟨c,n,rs⟩) (h:Wp C c (vS n args) S [] (RQ C.P rs R)):EvS C f args S R:=zih hc hb h
def mfS (fn:Fn) (S:zA) (xs ys:List V):Option Rs:=if xs.all V.one && ys.all V.one then some (.val (.fn fn xs ys) S 0) else none
theorem jM {dst:Option Tmp} {ty:TypeId} {pos:String} {after:Array Edge} {l:List Oper} {T:List V} {S:zA} {fn:Fn} {first caps:Array Operand}:WpL C ops (⟨dst,.makeFunc fn first caps,ty,pos,after,none⟩::l) T S F Q=WpR C ops dst l T S F Q (mfS fn S (first.toList.map (zC T)) (caps.toList.map (zC T))):=by
 rw [vM rfl]; rfl
theorem z15 {fn:Fn} {S:zA} {xs ys:List V} (h:(xs.all V.one && ys.all V.one)=true):mfS fn S xs ys=some (.val (.fn fn xs ys) S 0):=if_pos h
end
theorem zbf {P:Program} {T:List V} {dst:Option Tmp} {ty:TypeId} {pos:String} {after:Array Edge} {g:Option (Nat × Bool)} {e:TypeId} {z:V} (hz:zeroV P e=some z) (hf:qA P e z=true):addO P T ⟨dst,.alloc e,ty,pos,after,g⟩=some (.row [z] e,fun id=>.ref id 0 0):=by
 simp only [addO,hz,hf,if_true]
section
variable (C:Cfg) (ops:Array Oper) (base:Nat)
abbrev Ws:=List (Nat × List V × V)
def WOne (i:Nat) (S':zA) (w:Nat × List V × V):Prop:=((befs ops).getD i 0).testBit w.1=true ∨ ∃ o n v S2,ops[w.1]? = some o∧effC C (run C n) ops (base + w.1) o w.2.1 S'=some (v,S2,1)∧wU w.2.2 v=true
def WAll (ws:Ws) (i:Nat) (S':zA):Prop:= ∀ w ∈ ws,WOne C ops base i S' w
def WpEw (K:Ws→List (Nat × Nat)→List V→zA→Prop) (ws:Ws) (cs:List (Nat × Nat)) (i:Nat) (dst:Option Tmp) (T:List V) (S:zA):Option Rs→Prop
 | some (.val v S' c)=>(2 < num2 c→WAll C ops base ws i S')∧K (if num2 c=1 then (i,T,v)::ws else ws) (cs ++ [(i,num2 c)]) (putT T dst v) S'
 | some (.skip S' _)=>WAll C ops base ws i S'∧K ws (cs ++ [(i,3)]) (putT T dst (.tup [])) S'
 | some (.enter f args)=>∃ n v S' c,jO C (run C n) f args S=some (.ret v,S',c)∧(2 < num2 c→WAll C ops base ws i S')∧K (if num2 c=1 then (i,T,v)::ws else ws) (cs ++ [(i,num2 c)]) (putT T dst v) S'
 | _=>False
def WpDw (F:Dfs) (Q:Post):Ws→List (Nat × Nat)→List Nat→List V→zA→Prop
 | ws,cs,[],T,S=>z2j ops cs=true∧Q .norm T S F
 | ws,cs,i::is,T,S=>match ops[i]? with
  | none=>False
  | some o=>match zW ops T o with
   | none=>False
   | some false=>WpDw F Q ws (cs ++ [(i,0)]) is (putT T o.dst (.tup [])) S
   | some true=>if jP o=true then WpA base (fun cs T S=>WpDw F Q ws cs is T S) cs i o.dst T S (addO C.P T o)
    else WpEw C ops base (fun ws cs T S=>WpDw F Q ws cs is T S) ws cs i o.dst T S (opV C.P S T o)
end
section
variable {C:Cfg} {ops:Array Oper} {base:Nat} {F:Dfs} {Q:Post}
theorem zmp {i:Nat} {S':zA} : ∀ {ws:Ws},WAll C ops base ws i S' → ∃ n,∀ m,n ≤ m→ws.all (jN C (run C m) ops (befs ops) base i S')=true
 | [],_=>⟨0,fun _ _=>rfl⟩
 | w::ws,h=>by
  obtain ⟨n,hn⟩:=zmp (ws:=ws) fun x hx=>h x (List.mem_cons_of_mem _ hx)
  rcases h w List.mem_cons_self with h1 | ⟨o,k,v,S2,h1,h2,h3⟩
  ·refine ⟨n,fun m hm=>?_⟩
   simp only [List.all_cons,hn m hm,Bool.and_true,jN,h1,Bool.true_or]
  ·refine ⟨max n k,fun m hm=>?_⟩
   have he:=vY (z7h C (show k ≤ m by omega)) h2
   simp only [List.all_cons,hn m (by omega),Bool.and_true,jN,h1,he,h3,Bool.or_true]
theorem zqg : ∀ {is:List Nat} {ws:Ws} {cs:List (Nat × Nat)} {T:List V} {S:zA},WpDw C ops base F Q ws cs is T S → ∃ n T' S' cs',seqC C (run C n) ops (befs ops) base ws is T S=some (T',S',cs')∧z2j ops (cs ++ cs')=true∧Q .norm T' S' F
 | [],ws,cs,T,S,h=>⟨0,T,S,[],rfl,by simpa [WpDw] using h.1,h.2⟩
 | i::is,ws,cs,T,S,h=>by
  have go : ∀ (n:Nat) (o:Oper) (v:V) (S':zA) (c:Nat),ops[i]? = some o→effC C (run C n) ops (base + i) o T S=some (v,S',c)→(2 < c→WAll C ops base ws i S')→WpDw C ops base F Q (if c=1 then (i,T,v)::ws else ws) (cs ++ [(i,c)]) is (putT T o.dst v) S' →
    ∃ n T' S' cs',seqC C (run C n) ops (befs ops) base ws (i::is) T S=some (T',S',cs')∧z2j ops (cs ++ cs')=true∧Q .norm T' S' F:=by
   intro n o v S' c ho he hb hd
   obtain ⟨m,T2,S2,cs2,h1,h2,h3⟩:=zqg hd
   have hw : ∃ k,2 < c → ∀ m,k ≤ m→ws.all (jN C (run C m) ops (befs ops) base i S')=true:=by
    by_cases hc:2 < c
    ·obtain ⟨k,hk⟩:=zmp (hb hc)
     exact ⟨k,fun _=>hk⟩
    ·exact ⟨0,fun h=>absurd h hc⟩
   obtain ⟨k,hk⟩:=hw
   refine ⟨max (max n m) k,T2,S2,(i,c)::cs2,?_,by simpa using h2,h3⟩
   have he':=vY (z7h C (show n ≤ max (max n m) k by omega)) he
   have h1':=z4s (z7h C (show m ≤ max (max n m) k by omega)) h1
   simp only [seqC,ho,he']
   rw [if_neg,h1']
   rintro ⟨hc,hall⟩
   rw [hk hc _ (by omega)] at hall
   cases hall
  simp only [WpDw] at h
  cases ho:ops[i]? with
  | none=>simp [ho] at h
  | some o =>
   simp only [ho] at h
   cases hwt:zW ops T o with
   | none=>simp [hwt] at h
   | some b =>
    simp only [hwt] at h
    cases b with
    | false=>exact go 0 o (.tup []) S 0 ho (by simp [effC,hwt]) (fun hc=>by omega) h
    | true =>
     cases hk:jP o with
     | true =>
      simp only [hk,if_true] at h
      cases hadd:addO C.P T o with
      | none=>simp [hadd,WpA] at h
      | some q =>
       obtain ⟨ob,f⟩:=q
       simp only [hadd,WpA] at h
       exact go 0 o (f (base + i)) (S.set (base + i) ob) 2 ho (by simp [effC,hwt,hk,hadd,h.1]) (fun hc=>by omega) h.2
     | false =>
      simp only [hk,Bool.false_eq_true,if_false] at h
      cases hop:opV C.P S T o with
      | none=>simp [hop,WpEw] at h
      | some r =>
       simp only [hop] at h
       cases r with
       | val v S' c=>exact go 0 o v S' (num2 c) ho (by simp [effC,hwt,hk,hop]) h.1 h.2
       | skip S' c=>exact go 0 o (.tup []) S' 3 ho (by simp [effC,hwt,hk,hop]) (fun _=>h.1) h.2
       | enter f args =>
        obtain ⟨n,v,S',c,h1,h2,h3⟩:=h
        exact go n o v S' (num2 c) ho (by simp [effC,hwt,hk,hop,h1]) h2 h3
       | dfr f args=>exact h.elim
       | pan v=>exact h.elim
theorem qT {id:Nat} {T:List V} {S:zA} {is:List Nat} {h:Nat} (ho:z2h C.shared ops=is) (hh:vH ops=h) (hd:WpDw C ops S.length F Q [] [] is T (S ++ List.replicate h .hole)):Wp C (.region id ops true) T S F Q:=by
 subst ho; subst hh
 obtain ⟨n,T',S',cs',h1,h2,h3⟩:=zqg hd
 exact ⟨n + 1,.norm,T',S',F,by simp only [exec,h1]; rw [if_pos (by simpa using h2)],h3⟩
theorem qB {i:Nat} {S':zA}:WAll C ops base [] i S':=fun w hw=>by cases hw
theorem zP {i:Nat} {S':zA} {w:Nat × List V × V} {ws:Ws} (h:((befs ops).getD i 0).testBit w.1=true) (hw:WAll C ops base ws i S'):WAll C ops base (w::ws) i S':=fun x hx=>by
 rcases List.mem_cons.1 hx with rfl | hx
 ·exact .inl h
 ·exact hw x hx
theorem qK {i j:Nat} {S':zA} {T:List V} {v:V} {ws:Ws} {o:Oper} (ho:ops[j]? = some o) (hwt:zW ops T o=some true) (ha:jP o=false) (hop:opV C.P S' T o=some (.val v S' 1)) (hs:wU v v=true) (hw:WAll C ops base ws i S'):WAll C ops base ((j,T,v)::ws) i S':=fun x hx=>by
 rcases List.mem_cons.1 hx with rfl | hx
 ·exact .inr ⟨o,0,v,S',ho,by simp [effC,hwt,ha,hop,num2],hs⟩
 ·exact hw x hx
def WpXw (C:Cfg) (ops:Array Oper) (base:Nat) (F:Dfs) (Q:Post) (ws:Ws) (cs:List (Nat × Nat)) (i:Nat) (is:List Nat) (T:List V) (S:zA) (o:Oper):Bool→Prop
 | true=>WpA base (fun cs T S=>WpDw C ops base F Q ws cs is T S) cs i o.dst T S (addO C.P T o)
 | false=>WpEw C ops base (fun ws cs T S=>WpDw C ops base F Q ws cs is T S) ws cs i o.dst T S (opV C.P S T o)
def WpOw (C:Cfg) (ops:Array Oper) (base:Nat) (F:Dfs) (Q:Post) (ws:Ws) (cs:List (Nat × Nat)) (i:Nat) (is:List Nat) (T:List V) (S:zA) (o:Oper):Option Bool→Prop
 | none=>False
 | some false=>WpDw C ops base F Q ws (cs ++ [(i,0)]) is (putT T o.dst (.tup [])) S
 | some true=>WpXw C ops base F Q ws cs i is T S o (jP o)
def WpIw (C:Cfg) (ops:Array Oper) (base:Nat) (F:Dfs) (Q:Post) (ws:Ws) (cs:List (Nat × Nat)) (i:Nat) (is:List Nat) (T:List V) (S:zA):Option Oper→Prop
 | none=>False
 | some o=>WpOw C ops base F Q ws cs i is T S o (zW ops T o)
section
variable {ws:Ws} {cs:List (Nat × Nat)} {i:Nat} {is:List Nat} {T:List V} {S S':zA} {o:Oper} {K:Ws→List (Nat × Nat)→List V→zA→Prop} {dst:Option Tmp} {v:V} {c:Nat}
theorem dw1:WpDw C ops base F Q ws cs [] T S=(z2j ops cs=true∧Q .norm T S F):=rfl
theorem dw2:WpDw C ops base F Q ws cs (i::is) T S=WpIw C ops base F Q ws cs i is T S (ops[i]?):=by
 show (match ops[i]? with
  | none=>False
  | some o=>match zW ops T o with
   | none=>False
   | some false=>WpDw C ops base F Q ws (cs ++ [(i,0)]) is (putT T o.dst (.tup [])) S
   | some true=>if jP o=true then WpA base (fun cs T S=>WpDw C ops base F Q ws cs is T S) cs i o.dst T S (addO C.P T o)
    else WpEw C ops base (fun ws cs T S=>WpDw C ops base F Q ws cs is T S) ws cs i o.dst T S (opV C.P S T o))=_
 unfold WpIw WpOw
 cases ops[i]? with
 | none=>rfl
 | some o =>
  simp only
  cases zW ops T o with
  | none=>rfl
  | some b =>
   cases b with
   | false=>rfl
   | true=>cases jP o <;> rfl
theorem dw3:WpIw C ops base F Q ws cs i is T S (some o)=WpOw C ops base F Q ws cs i is T S o (zW ops T o):=rfl
theorem dw4:WpOw C ops base F Q ws cs i is T S o (some false)=WpDw C ops base F Q ws (cs ++ [(i,0)]) is (putT T o.dst (.tup [])) S:=rfl
theorem dw5:WpOw C ops base F Q ws cs i is T S o (some true)=WpXw C ops base F Q ws cs i is T S o (jP o):=rfl
theorem dw6:WpXw C ops base F Q ws cs i is T S o false=WpEw C ops base (fun ws cs T S=>WpDw C ops base F Q ws cs is T S) ws cs i o.dst T S (opV C.P S T o):=rfl
theorem dw7:WpXw C ops base F Q ws cs i is T S o true=WpA base (fun cs T S=>WpDw C ops base F Q ws cs is T S) cs i o.dst T S (addO C.P T o):=rfl
theorem dw8:WpEw C ops base K ws cs i dst T S (some (.val v S' 0))=K ws (cs ++ [(i,0)]) (putT T dst v) S':=by simp [WpEw,num2]
theorem dw9:WpEw C ops base K ws cs i dst T S (some (.val v S' 1))=K ((i,T,v)::ws) (cs ++ [(i,1)]) (putT T dst v) S':=by simp [WpEw,num2]
theorem dw10:WpEw C ops base K ws cs i dst T S (some (.skip S' c))=(WAll C ops base ws i S'∧K ws (cs ++ [(i,3)]) (putT T dst (.tup [])) S'):=rfl
theorem dw11:WpEw C ops base K ws cs i dst T S (some (.val v S' 2))=(WAll C ops base ws i S'∧K ws (cs ++ [(i,3)]) (putT T dst v) S'):=by simp [WpEw,num2]
theorem dw12:WpEw C ops base K ws cs i dst T S (some (.val v S' 3))=(WAll C ops base ws i S'∧K ws (cs ++ [(i,3)]) (putT T dst v) S'):=by simp [WpEw,num2]
end
end
section
variable {C:Cfg} {ops:Array Oper} {base:Nat} {F:Dfs} {Q:Post}
section
variable {K:List (Nat × Nat)→Nat→List Nat→V→zA→Prop} {ws:Ws} {cs:List (Nat × Nat)} {i:Nat} {is:List Nat} {T:List V} {S S':zA} {o:Oper} {v:V} {c:Nat}
end
end
def cvV (P:Program) (args:List V):V→Option Rs
 | .fn (.func g) first caps=>if args.all V.one && (zB P g).isSome then some (.enter g (first ++ args ++ caps)) else none
 | .d (.fn (.func g) first caps)=>if args.all V.one && (zB P g).isSome then some (.enter g (first.map .d ++ args ++ caps.map .d)) else none
 | _=>none
theorem zoj {P:Program} {S:zA} {T:List V} {dst:Option Tmp} {ty:TypeId} {pos:String} {after:Array Edge} {g:Option (Nat × Bool)} {t:Nat} {args:Array Operand} {ts:Array TypeId}:opV P S T ⟨dst,.call { callee:= .value (.tmp t),args:=args,argTypes:=ts },ty,pos,after,g⟩=cvV P (args.toList.map (zC T)) (zC T (.tmp t)):=by
 simp only [opV,cvV]
 rfl
theorem zhl {P:Program} {args first caps:List V} {g:FuncId} (h1:args.all V.one=true) (h2:(zB P g).isSome=true):cvV P args (.fn (.func g) first caps)=some (.enter g (first ++ args ++ caps)):=by
 simp only [cvV,h1,h2,Bool.and_self,if_true]
section
variable {C:Cfg} {ops:Array Oper} {dst:Option Tmp} {op:Op} {ty:TypeId} {pos:String} {after:Array Edge} {l:List Oper} {T:List V} {S:zA} {F:Dfs} {Q:Post}
theorem ziy {g:Nat × Bool} (hp0:wB C.P T ⟨dst,op,ty,pos,after,some g⟩ l=none) (hp1:wB C.P T ⟨dst,op,ty,pos,after,none⟩ l=none):WpL C ops (⟨dst,op,ty,pos,after,some g⟩::l) T S F Q=WpW (WpL C ops (⟨dst,op,ty,pos,after,none⟩::l) T S F Q) (WpL C ops l (putT T dst (.tup [])) S F Q) ((qL ops T g.1).map (· == some g.2)):=by
 obtain ⟨j,w⟩:=g
 have hp:wB C.P T ⟨dst,op,ty,pos,after,some (j,w)⟩ l=none:=hp0
 have hp':wB C.P T ⟨dst,op,ty,pos,after,none⟩ l=none:=hp1
 have hopv:opV C.P S T ⟨dst,op,ty,pos,after,some (j,w)⟩=opV C.P S T ⟨dst,op,ty,pos,after,none⟩:=by cases op <;> rfl
 apply propext
 cases hy:(qL ops T j).map (· == some w) with
 | none =>
  simp only [WpW,iff_false]
  rintro ⟨n,x,T',S',F',h1,h2⟩
  simp [seqV,hp,zW,hy] at h1
 | some b =>
  cases b with
  | false =>
   simp only [WpW]
   constructor
   ·rintro ⟨n,x,T',S',F',h1,h2⟩
    simp only [seqV,hp,zW,hy] at h1
    exact ⟨n,x,T',S',F',h1,h2⟩
   ·rintro ⟨n,x,T',S',F',h1,h2⟩
    exact ⟨n,x,T',S',F',by simp only [seqV,hp,zW,hy]; exact h1,h2⟩
  | true =>
   simp only [WpW]
   constructor
   ·rintro ⟨n,x,T',S',F',h1,h2⟩
    simp only [seqV,hp,zW,hy,hopv] at h1
    exact ⟨n,x,T',S',F',by simp only [seqV,hp',zW]; exact h1,h2⟩
   ·rintro ⟨n,x,T',S',F',h1,h2⟩
    simp only [seqV,hp',zW] at h1
    exact ⟨n,x,T',S',F',by simp only [seqV,hp,zW,hy,hopv]; exact h1,h2⟩
theorem zhj {g:Nat × Bool} (hp0:wB C.P T ⟨dst,op,ty,pos,after,some g⟩ l=none) (hp1:wB C.P T ⟨dst,op,ty,pos,after,none⟩ l=none):WpL C ops (⟨dst,op,ty,pos,after,some g⟩::l) T S F Q=WpG C ops dst op ty pos after l T S F Q ((qL ops T g.1).map (· == some g.2)):=by
 rw [ziy hp0 hp1]
 cases (qL ops T g.1).map (· == some g.2) with
 | none=>rfl
 | some b=>cases b <;> rfl
theorem zdz {t:TypeId} {n:Nat} {ps:Array (Nat × Operand)} {c:Call} {d2:Option Tmp} {ty2:TypeId} {pos2:String} {after2:Array Edge} {g2:Option (Nat × Bool)} {g:Nat × Bool}:WpL C ops (⟨dst,.buildSlice t n ps,ty,pos,after,some g⟩::⟨d2,.call c,ty2,pos2,after2,g2⟩::l) T S F Q=WpG C ops dst (.buildSlice t n ps) ty pos after (⟨d2,.call c,ty2,pos2,after2,g2⟩::l) T S F Q ((qL ops T g.1).map (· == some g.2)):=zhj rfl rfl
end
end Go.Vm
end
section
namespace Go.Vm
def byD (x:UInt8):D:= .int .u8 x.toNat
def blkD (b:List UInt8):D:= .agg (b.map byD)
def blkV (b:List UInt8):V:= .agg (b.map fun x=>.d (byD x))
def IsB (v:V) (b:List UInt8):Prop:=v = .d (blkD b) ∨ v=blkV b
structure BT (P:Program) (t e:TypeId) (n:Nat):Prop where
 u:P.underlying t=some (.array n e)
 sz:sz P t=some n
 agg:aggT P t=true
 se:Go.Vm.sz P e=some 1
 ae:aggT P e=false
 two:2 ≤ n
theorem IsB.cells {v:V} {b:List UInt8} (h:IsB v b):v.cells=b.map fun x=>.d (byD x):=by
 rcases h with rfl | rfl
 ·simp [blkD,V.cells,D.cells,Function.comp_def]
 ·rfl
theorem IsB.isAgg {v:V} {b:List UInt8} (h:IsB v b):v.isAgg=true:=by rcases h with rfl | rfl <;> rfl
theorem IsB.one {v:V} {b:List UInt8} (h:IsB v b):v.one=true:=by rcases h with rfl | rfl <;> rfl
theorem wA {b:List UInt8}:IsB (.d (blkD b)) b:= .inl rfl
theorem isB_v {b:List UInt8}:IsB (blkV b) b:= .inr rfl
theorem zf7 {S:zA} {n:Nat} : ∀ b:List UInt8,allO (frz S (n + 1)) (b.map fun x=>.d (byD x))=some (b.map byD)
 | []=>rfl
 | x::r=>by
  have h:frz S (n + 1) (.d (byD x))=some (byD x):=rfl
  rw [List.map_cons]
  simp only [allO,zf7 r,h,List.map_cons]
theorem IsB.frz {v:V} {b:List UInt8} (h:IsB v b) {S:zA} {n:Nat}:Go.Vm.frz S (n + 2) v=some (blkD b):=by
 rcases h with rfl | rfl
 ·rfl
 ·show (match allO (Go.Vm.frz S (n + 1)) (b.map fun x=>.d (byD x)) with | some ds=>if ds.any D.isAgg then none else some (D.agg ds) | none=>none)=_
  rw [zf7]
  have:(b.map byD).any D.isAgg=false:=by
   rw [List.any_eq_false]
   intro x hx
   obtain ⟨y,_,rfl⟩:=List.mem_map.1 hx
   simp [byD,D.isAgg]
  simp only [this]
  rfl
theorem IsB.frzIds {v:V} {b:List UInt8} (h:IsB v b) {S:zA} {n:Nat}:Go.Vm.frzIds S n v=[]:=by
 rcases h with rfl | rfl
 ·cases n <;> rfl
 ·cases n with
  | zero=>rfl
  | succ n =>
   show (b.map fun x=>V.d (byD x)).flatMap (Go.Vm.frzIds S n)=[]
   rw [List.flatMap_eq_nil_iff]
   intro x hx
   obtain ⟨y,_,rfl⟩:=List.mem_map.1 hx
   cases n <;> rfl
section
variable {P:Program} {t e:TypeId} {n:Nat} {v w:V} {b b':List UInt8}
theorem BT.fits (h:BT P t e n) (hv:IsB v b) (hb:b.length=n):qA P t v=true:=by
 unfold qA
 rw [hv.one,hv.isAgg,h.agg,h.sz,hv.cells,List.length_map,hb]
 simp
theorem BT.fitsE (h:BT P t e n) {k:Int}:qA P e (.d (.int .u8 k))=true:=by
 unfold qA
 rw [h.ae,h.se]
 rfl
theorem BT.load (h:BT P t e n) (hv:IsB v b) (hb:b.length=n):qZ P t 0 (some v)=some v:=by
 show (if decide (0=0) && qA P t v then some v else z7j P t v.cells 0)=_
 rw [h.fits hv hb]
 rfl
theorem BT.store (h:BT P t e n) (hv:IsB v b) (hb:b.length=n) (hw:IsB w b') (hb':b'.length=n):qW P t 0 v w=some v:=by
 unfold qW
 rw [h.fits hv hb,hv.cells,hw.cells,hv.isAgg,hw.isAgg,List.length_map,List.length_map,hb,hb']
 simp
theorem BT.get (h:BT P t e n) (hv:IsB v b) (hb:b.length=n) {i:Nat} (hi:i < b.length):qZ P e i (some v)=some (.d (.int .u8 (b[i].toNat:Int))):=by
 have h2:=h.two
 show (if decide (i=0) && qA P e v then some v else z7j P e v.cells i)=_
 have hf:qA P e v=false:=by
  unfold qA
  rw [hv.isAgg,h.ae]
  simp
 rw [hf,Bool.and_false,if_neg (by decide)]
 unfold z7j
 rw [h.se,hv.cells,h.ae]
 simp only [List.length_map]
 rw [if_pos (by omega)]
 simp only [Bool.false_eq_true,if_false,if_true,List.getElem?_map,List.getElem?_eq_getElem hi,Option.map_some]
 rfl
theorem BT.put (h:BT P t e n) (hv:IsB v b) (hb:b.length=n) {i:Nat} (hi:i < b.length) {x:UInt8}:qW P e i (.d (.int .u8 (x.toNat:Int))) v=some (blkV (b.set i x)):=by
 have h2:=h.two
 unfold qW
 rw [h.fitsE,hv.cells,hv.isAgg]
 have h1:(V.d (D.int .u8 (x.toNat:Int))).cells=[V.d (byD x)]:=rfl
 rw [h1]
 simp only [List.length_map,List.length_cons,List.length_nil,if_true]
 have hne:(b.length == 0 + 1)=false:=by rw [beq_eq_false_iff_ne]; omega
 rw [hne,Bool.and_false,Bool.false_and,if_neg (by decide)]
 rw [if_pos (by simp; omega)]
 unfold blkV
 rw [List.set_eq_take_append_cons_drop,if_pos hi]
 simp [List.map_take,List.map_drop]
theorem BT.ia (h:BT P t e n) {S:zA} {j x o:Nat} {i:Nat} (hi:i < n):zM P S t (.ref j x o) (.d (.int .i64 (i:Int)))=some (.ref j x (o + i)):=by
 simp only [zM,intOf?,h.u,h.se]
 rw [if_pos ⟨by omega,by omega⟩]
 simp
end
def Dfr (C:Cfg):Dfs→zA→zA→Prop
  | [],S,S'=>S'=S
  | (f,args)::r,S,S'=>∃ b S1,zB C.P f=some b∧Wp C b.code (vS b.ntmps args) S [] (fun x T S2 F=>(x = .norm ∨ x = .ret)∧F=[]∧(∃ v,qD C.P b.results T S2=some v)∧S2=S1)∧Dfr C r S1 S'
theorem zc5 {C:Cfg} {n m:Nat} (h:n ≤ m) {f:FuncId} {args:List V} {S S':zA} (hp:vV C.P (exec C n) f args S=some S'):vV C.P (exec C m) f args S=some S':=by
 unfold vV at hp ⊢
 cases hb:zB C.P f with
 | none=>rw [hb] at hp; cases hp
 | some b =>
  rw [hb] at hp
  simp only at hp ⊢
  cases he:exec C n b.code (vS b.ntmps args) S [] with
  | none=>rw [he] at hp; cases hp
  | some r=>rw [he] at hp; rw [z64 C h _ _ _ _ _ he]; exact hp
theorem zdy {C:Cfg} {n m:Nat} (h:n ≤ m) : ∀ {F:Dfs} {S S':zA},dfrV C.P (exec C n) F S=some S'→dfrV C.P (exec C m) F S=some S'
  | [],S,S',hd=>hd
  | (f,args)::r,S,S',hd=>by
    unfold dfrV at hd ⊢
    split at hd
    · rename_i S1 h1
      rw [zc5 h h1]
      exact zdy h hd
    · cases hd
theorem zmn {C:Cfg} : ∀ {F:Dfs} {S S':zA},Dfr C F S S' → ∃ n,dfrV C.P (exec C n) F S=some S'
  | [],S,S',h=>⟨0,by cases h; rfl⟩
  | (f,args)::r,S,S',h=>by
    obtain ⟨b,S1,hb,⟨n,x,T,S2,F,h1,h2,rfl,⟨v,h3⟩,rfl⟩,h4⟩:=h
    obtain ⟨m,hm⟩:=zmn h4
    refine ⟨max n m,?_⟩
    have hp:vV C.P (exec C n) f args S=some S2:=by
      unfold vV
      rw [hb]
      simp only [h1]
      rcases h2 with rfl | rfl <;> simp only [h3,Option.map_some]
    unfold dfrV
    rw [zc5 (Nat.le_max_left n m) hp]
    exact zdy (Nat.le_max_right n m) hm
def RD (C:Cfg) (rs:Array ResultVar) (R:Out→zA→Prop):Post:=fun x T S F=>(x = .norm ∨ x = .ret) ∧ ∃ S' v,Dfr C F S S'∧qD C.P rs T S'=some v∧R (.ret v) S'
theorem zbh {C:Cfg} {f:FuncId} {c:Code} {n:Nat} {rs:Array ResultVar} {args:List V} {S:zA} {R:Out→zA→Prop} (hc:C.catch_ f=none) (hb:zB C.P f=some ⟨c,n,rs⟩) (h:Wp C c (vS n args) S [] (RD C rs R)):EvS C f args S R:=by
 obtain ⟨k,x,T,S',F,h1,h2,S2,v,h3,h4,h5⟩:=h
 obtain ⟨m,hm⟩:=zmn h3
 have he:=z64 C (Nat.le_max_left k m) _ _ _ _ _ h1
 have hd:=zdy (Nat.le_max_right k m) hm
 refine ⟨max k m + 1,.ret v,S2,?_,h5⟩
 rcases h2 with rfl | rfl <;> simp only [run,hc,hb,he,endV,hd,h4]
end Go.Vm
end
section
namespace Go.Proofs.YtobgdmgldagjkaaGreat
open Go.Vm
def layB (b:List UInt8) (k:Nat) (data:List UInt8):List UInt8:=b.take k ++ data ++ b.drop (k + data.length)
theorem kM {b data:List UInt8} {k:Nat} (h:k + data.length ≤ b.length):(layB b k data).length=b.length:=by unfold layB; simp; omega
theorem z7a {b:List UInt8} {k:Nat}:layB b k []=b:=by unfold layB; simp
theorem z4p {b data:List UInt8} {k:Nat} {x:UInt8} (h:k + data.length < b.length):layB b k (data ++ [x])=(layB b k data).set (k + data.length) x:=by
 unfold layB
 have h1:(b.take k ++ data).length=k + data.length:=by simp; omega
 rw [List.set_append_right _ _ (by omega),h1,Nat.sub_self,List.length_append,List.length_singleton]
 have:b.drop (k + data.length)=b[k + data.length]::b.drop (k + data.length + 1):=List.drop_eq_getElem_cons h
 rw [this,List.set_cons_zero]
 simp [Nat.add_assoc]
def leB (n v:Nat):List UInt8:=(List.range n).map fun i=>UInt8.ofNat (v / 256 ^ i % 256)
theorem jH (n v:Nat):(leB n v).length=n:=by simp [leB]
theorem zg1 (n v:Nat):leB (n + 1) v=leB n v ++ [UInt8.ofNat (v / 256 ^ n % 256)]:=by unfold leB; rw [List.range_succ,List.map_append]; rfl
def zK (n:Nat):List UInt8:=List.replicate n 0
theorem z2v (n:Nat):(zK n).length=n:=by simp [zK]
def mixS (h:Nat) (x:UInt8):Nat:=(h ^^^ x.toNat) * 16777619 % 4294967296
def mixL (h:Nat) (s:List UInt8):Nat:=s.foldl mixS h
def zbv (s:List UInt8):Nat:=mixL 2166136261 s
theorem ztu (h:Nat) (x:UInt8):mixS h x < 4294967296:=Nat.mod_lt _ (by decide)
theorem zf0 : ∀ (s:List UInt8) (h:Nat),h < 4294967296→mixL h s < 4294967296
 | [],h,hh=>hh
 | x::r,h,_=>zf0 r (mixS h x) (ztu h x)
theorem zoq (s:List UInt8):zbv s < 4294967296:=zf0 s _ (by decide)
theorem z31 {a d:List UInt8} {n:Nat} (h:d.length ≤ n):layB (a ++ zK n) a.length d=(a ++ d) ++ zK (n - d.length):=by
 unfold layB zK
 rw [List.take_left,List.drop_append,List.drop_eq_nil_of_le (by omega),List.nil_append,List.drop_replicate]
 congr 2
 omega
def magicB:List UInt8:=[101,115,99,104,101,97,116,49]
def supL (B I M:Nat):List UInt8:=magicB ++ leB 2 B ++ leB 2 I ++ leB 8 M
theorem z3b (B I M:Nat):(supL B I M).length=20:=by simp [supL,magicB,jH]
def supB (B I M:Nat):List UInt8:=supL B I M ++ leB 4 (zbv (supL B I M)) ++ zK 232
theorem z5a (B I M:Nat):(supB B I M).length=256:=by simp [supB,z3b,jH,z2v]
theorem zkw (B I M:Nat):layB (zK 256) 0 magicB=magicB ++ zK 248∧layB (magicB ++ zK 248) 8 (leB 2 B)=(magicB ++ leB 2 B) ++ zK 246∧layB ((magicB ++ leB 2 B) ++ zK 246) 10 (leB 2 I)=(magicB ++ leB 2 B ++ leB 2 I) ++ zK 244∧layB ((magicB ++ leB 2 B ++ leB 2 I) ++ zK 244) 12 (leB 8 M)=supL B I M ++ zK 236∧((supL B I M ++ zK 236).drop 0).take 20=supL B I M∧layB (supL B I M ++ zK 236) 20 (leB 4 (zbv (supL B I M)))=supB B I M:=by
 refine ⟨?_,?_,?_,?_,?_,?_⟩
 ·exact z31 (a:=[]) (n:=256) (d:=magicB) (by decide)
 ·exact z31 (a:=magicB) (n:=248) (by rw [jH]; omega)
 ·have:=z31 (a:=magicB ++ leB 2 B) (d:=leB 2 I) (n:=246) (by rw [jH]; omega)
  simpa [magicB,jH] using this
 ·have:=z31 (a:=magicB ++ leB 2 B ++ leB 2 I) (d:=leB 8 M) (n:=244) (by rw [jH]; omega)
  simpa [magicB,jH,supL] using this
 ·rw [List.drop_zero,List.take_append_of_le_length (by rw [z3b]; omega),List.take_of_length_le (by rw [z3b]; omega)]
 ·have:=z31 (a:=supL B I M) (d:=leB 4 (zbv (supL B I M))) (n:=236) (by rw [jH]; omega)
  rw [z3b,jH] at this
  exact this
def leN:List UInt8→Nat
 | []=>0
 | x::r=>x.toNat + 256 * leN r
theorem zbk : ∀ (n v:Nat),leN (leB n v)=v % 256 ^ n
 | 0,v=>by simp [leB,leN,Nat.mod_one]
 | n + 1,v=>by
  have h:leB (n + 1) v=UInt8.ofNat (v % 256)::leB n (v / 256):=by
   unfold leB
   rw [List.range_succ_eq_map,List.map_cons,List.map_map]
   congr 1
   ·simp
   ·apply List.map_congr_left
    intro i _
    simp only [Function.comp_apply]
    rw [Nat.pow_succ,Nat.mul_comm,← Nat.div_div_eq_div_mul]
  have e:(UInt8.ofNat (v % 256)).toNat=v % 256:=by rw [UInt8.toNat_ofNat']; omega
  have e2:(256:Nat) ^ (n + 1)=256 * 256 ^ n:=by rw [Nat.pow_succ,Nat.mul_comm]
  rw [h,leN,zbk n (v / 256),e,e2,Nat.mod_mul]
theorem zfr : ∀ (l:List UInt8) (x:UInt8),leN (l ++ [x])=leN l + 256 ^ l.length * x.toNat
 | [],x=>by simp [leN]
 | y::r,x=>by
  rw [List.cons_append,leN,leN,zfr r x,List.length_cons,Nat.pow_succ]
  rw [Nat.mul_add,Nat.mul_comm (256 ^ r.length) 256,Nat.mul_assoc]
  omega
theorem zqk : ∀ l:List UInt8,leN l < 256 ^ l.length
 | []=>by simp [leN]
 | x::r=>by
  have h1:=zqk r
  have h2:x.toNat < 256:=x.toNat_lt
  rw [leN,List.length_cons,Nat.pow_succ]
  omega
def zdh (b:List UInt8) (i:Nat):List UInt8:=b.set (i / 8) (b.getD (i / 8) 0 ||| UInt8.ofNat (2 ^ (i % 8)))
def mapB (k:Nat):List UInt8:=(List.range k).foldl zdh (zK 256)
theorem z7n : ∀ (l:List Nat) (b:List UInt8),(l.foldl zdh b).length=b.length
 | [],b=>rfl
 | i::r,b=>by rw [List.foldl_cons,z7n r,zdh,List.length_set]
theorem z10 (k:Nat):(mapB k).length=256:=by unfold mapB; rw [z7n,z2v]
theorem zk2 (k:Nat):mapB (k + 1)=zdh (mapB k) k:=by unfold mapB; rw [List.range_succ,List.foldl_append]; rfl
end Go.Proofs.YtobgdmgldagjkaaGreat
end
