/- cache.Put: a change is made. -/
import Derived.Test.YtobgdmgldagjkaaGreatW07
set_option linter.unusedVariables false
set_option linter.unusedSimpArgs false
set_option maxRecDepth 100000
set_option maxHeartbeats 4000000
set_option linter.defProp false
section
namespace Go.Proofs.YtobgdmgldagjkaaGreat
open Go.Vm
def PatV (S:zA) (p dv:V) (a:Int) (b:List UInt8):Prop:=(p = .agg [.d (.int .i64 a),dv]∧(OwnS S dv 5 (bysV b) ∨ dv = .d (encB b) ∨ dv = .ts (b.map byD))) ∨ (p = .d (patD a b)∧dv = .d (encB b))
section
variable {S S':zA} {p dv:V} {a:Int} {b:List UInt8}
theorem PatV.frm {ts ms:List Nat} {r:Nat} (h:PatV S p dv a b) (hk:Frm ts ms 42 r S S') (h5:(!ts.contains 5)=true):PatV S' p dv a b:=by
 rcases h with ⟨h1,h2 | h2⟩ | h
 ·exact .inl ⟨h1,.inl (hk.own h2 (by rw [h5]; rfl))⟩
 ·exact .inl ⟨h1,.inr h2⟩
 ·exact .inr h
theorem PatV.one (h:PatV S p dv a b):p.one=true:=by
 rcases h with ⟨rfl,_⟩ | ⟨rfl,rfl⟩ <;> rfl
theorem PatV.ft (h:PatV S p dv a b):qA Tryz.prog 78 p=true:=by
 rcases h with ⟨rfl,_⟩ | ⟨rfl,rfl⟩ <;> kernel_rfl
theorem PatV.l0 (h:PatV S p dv a b):qZ Tryz.prog 78 0 (some p)=some p:=by
 rcases h with ⟨rfl,_⟩ | ⟨rfl,rfl⟩ <;> kernel_rfl
theorem PatV.l1 (h:PatV S p dv a b):qZ Tryz.prog 76 1 (some p)=some dv:=by
 rcases h with ⟨rfl,_⟩ | ⟨rfl,rfl⟩ <;> kernel_rfl
theorem PatV.s1 (h:PatV S p dv a b) {id n:Nat}:qW Tryz.prog 76 1 (.rs id 0 n) p=some (.agg [.d (.int .i64 a),.rs id 0 n]):=by
 rcases h with ⟨rfl,_⟩ | ⟨rfl,rfl⟩ <;> kernel_rfl
theorem PatV.fz (h:PatV S p dv a b):Go.Vm.frz S zG p=some (patD a b):=by
 rcases h with ⟨rfl,h2⟩ | ⟨rfl,rfl⟩
 ·have h0:Go.Vm.frz S 11 (.d (.int .i64 a))=some (.int .i64 a):=rfl
  have hf:Go.Vm.frz S 11 dv=some (encB b):=by
   rcases h2 with h2 | rfl | rfl
   ·have hd':OwnS S dv 5 ((b.map byD).map .d):=by rw [List.map_map]; exact h2
    exact zb2 (n:=9) hd'
   ·rfl
   ·rfl
  show (match allO (Go.Vm.frz S 11) [.d (.int .i64 a),dv] with | some ds=>if ds.any D.isAgg then none else some (D.agg ds) | none=>none)=_
  simp only [allO,h0,hf]
  rfl
 ·rfl
theorem zv4 {dv:V} (hel:jV S dv=some (bysV b)) (hs : ∀ s,dv ≠ .d (.str s)) (h0:b ≠ []) (hl:b.length ≤ 100000):qJ Tryz.prog S 76 76 (.ts []) dv=some (.rs S.length 0 b.length,S ++ [rowY b],2):=by
 have hall:(bysV b).all (qA Tryz.prog 5)=true:=by
  rw [List.all_eq_true]
  intro y hy
  obtain ⟨z,hz,rfl⟩:=List.mem_map.1 hy
  exact zqj _
 have h5:(sz Tryz.prog 5).isSome=true:=by kernel_rfl
 have src:srcV Tryz.prog S 5 76 dv=some (bysV b):=by
  cases dv with
  | d x=>cases x with
   | str s=>exact absurd rfl (hs s)
   | _=>simp only [srcV,Tryz.underlying76,hel,hall,h5,Bool.and_self,if_true]
  | _=>simp only [srcV,Tryz.underlying76,hel,hall,h5,Bool.and_self,if_true]
 cases b with
 | nil=>exact absurd rfl h0
 | cons x r =>
  have hr:room Tryz.prog 5 (r.length + 1)=true:=zjy (by simp at hl; omega)
  unfold bysV at src
  rw [List.map_cons] at src
  simp only [qJ,Tryz.underlying76,src,zw5,if_true,List.all_nil,List.length_nil,List.length_map,Nat.zero_add,hr,Bool.and_self,List.map_nil,List.nil_append]
  rfl
theorem PatV.app (h:PatV S p dv a b) (h0:b ≠ []) (hl:b.length ≤ 100000):qJ Tryz.prog S 76 76 (.ts []) dv=some (.rs S.length 0 b.length,S ++ [rowY b],2):=by
 have he:jV S dv=some (bysV b) ∧ ∀ s,dv ≠ .d (.str s):=by
  rcases h with ⟨_,(⟨rfl,h2⟩ | ⟨id,rfl,h2⟩) | rfl | rfl⟩ | ⟨_,rfl⟩
  ·have:b=[]:=by simpa [bysV] using h2
   exact absurd this h0
  ·refine ⟨?_,fun s hh=>by cases hh⟩
   simp only [jV,h2,Nat.zero_add,Nat.le_refl,if_true,List.drop_zero,List.take_length]
  ·refine ⟨?_,fun s hh=>by cases hh⟩
   show some ((b.map fun x=>D.int .u8 x.toNat).map V.d)=_
   rw [List.map_map]
   rfl
  ·refine ⟨?_,fun s hh=>by cases hh⟩
   show some ((b.map byD).map V.d)=_
   rw [List.map_map]
   rfl
  ·refine ⟨?_,fun s hh=>by cases hh⟩
   show some ((b.map fun x=>D.int .u8 x.toNat).map V.d)=_
   rw [List.map_map]
   rfl
 exact zv4 he.1 he.2 h0 hl
end
theorem z0p {ops:Array Oper} {dst:Option Tmp} {k:List Oper} {T:List V} {S:zA} {F:Dfs} {Q:Post} {p dv:V} {a:Int} {b:List UInt8} (h:PatV S p dv a b) (ha:InB a):WpR cfg ops dst k T S F Q (some (.enter 134 [p]))=WpL cfg ops k (putT T dst (.d (.int .i64 (if kG a b then 0 else 2)))) S F Q :=
 zl0 (ds:=[patD a b]) rfl (by simp only [allO,h.fz]) rfl (zfo a b ha)
def CS.put (C:CS) (no a:Int) (b:List UInt8) (needs:List Int):CS:=⟨C.img,C.list ++ [⟨C.last + 1,no,a,b,needs⟩],C.last + 1⟩
theorem CS.Ok.put {C:CS} (h:C.Ok) {no:Nat} {a:Int} {b:List UInt8} {needs:List Int} (hn:no < C.img.length) (hp:kG a b) (hl:C.last < 100000) (h1:needs.Pairwise (· < ·)) (h2 : ∀ x ∈ needs,1 ≤ x∧x ≤ C.last):(C.put no a b needs).Ok:=by
 refine ⟨h.n,h.len,?_,?_,hl⟩
 ·intro ch hch
  rcases List.mem_append.1 hch with hch | hch
  ·obtain ⟨g1,g2,g3,g4,g5,g6⟩:=h.chs ch hch
   refine ⟨g1,g2,g3,g4,?_,g6⟩
   show ch.id ≤ ((C.last + 1:Nat):Int)
   omega
  ·simp only [List.mem_singleton] at hch
   subst hch
   refine ⟨hp,by show (0:Int) ≤ (no:Int); omega,by show (no:Int) < (C.img.length:Int); omega,by show (1:Int) ≤ (C.last:Int) + 1; omega,by show (C.last:Int) + 1 ≤ ((C.last + 1:Nat):Int); omega,h1,fun x hx=>?_⟩
   have:=h2 x hx
   exact ⟨this.1,by show x < (C.last:Int) + 1; omega⟩
 ·show (C.list ++ [_]).Pairwise _
  rw [List.pairwise_append]
  refine ⟨h.ids,List.pairwise_singleton _ _,?_⟩
  intro x hx y hy
  simp only [List.mem_singleton] at hy
  subst hy
  have:=(h.chs x hx).2.2.2.2.1
  show x.id < (C.last:Int) + 1
  omega
def NdR (c r m:Nat) (C:CS) (needs:List Int) (S:zA) (o:Out) (S':zA):Prop:=FrC m r S S'∧CacheAt S' c r m C ∧ ∃ nv,o = .ret (.tup [nv,.d (.bool true)])∧OwnS S' nv 3 (zU needs)
theorem zqf {a:Int} {id n:Nat}:qZ Tryz.prog 78 0 (some (.agg [.d (.int .i64 a),.rs id 0 n]))=some (.agg [.d (.int .i64 a),.rs id 0 n]):=by kernel_rfl
theorem zyn {n:Nat} (h:n ≤ 17592186044416):room Tryz.prog 3 n=true:=by
 have hb:bytesOf Tryz.prog 3=8:=by kernel_rfl
 unfold room
 rw [hb]
 simp
 omega
theorem apI {S:zA} {v:V} {xs:List Int} (a:Int) (ho:OwnS S v 3 (xs.map fun x=>.d (D.int .i64 x))) (hl:xs.length < 17592186044416) : ∃ v' S' c,qJ Tryz.prog S 22 22 v (.ts [D.int .i64 a])=some (v',S',c)∧OwnS S' v' 3 ((xs ++ [a]).map fun x=>.d (D.int .i64 x))∧(∀ j o,S[j]? = some o→NotAt v j→S'[j]? = some o∧NotAt v' j)∧S.length ≤ S'.length:=zab a Tryz.underlying22 zns zw8 (zms a) ho (zyn (by omega))
theorem zla {m:Nat} (h:m ≤ 1000000):room Tryz.prog 80 m=true:=zb5 rfl (by decide +kernel) h
theorem zqn:zOk Tryz.prog 80=true:=by kernel_rfl
section
variable {d m x y n id:Nat} {L dv nv:V} {last last' a b c e:Int}
theorem sc3:qW Tryz.prog 3 3 (.d (.int .i64 last')) (cacV d m L last)=some (cacV d m L last'):=by kernel_rfl
theorem sc2:qW Tryz.prog 74 2 (.rs id 0 n) (cacV d m L last)=some (cacV d m (.rs id 0 n) last):=by kernel_rfl
theorem zxx (hn:nv = .ts [] ∨ ∃ i k,nv = .rs i 0 k):wX Tryz.prog 80 [(0,.d (.int .i64 a)),(1,.d (.int .i64 b)),(2,.agg [.d (.int .i64 c),.rs id 0 n]),(3,nv)]=some (.agg [.d (.int .i64 a),.d (.int .i64 b),.d (.int .i64 c),.rs id 0 n,nv]):=by
 rcases hn with rfl | ⟨i,k,rfl⟩ <;> kernel_rfl
theorem zvo {S:zA} (hn:nv = .ts [] ∨ ∃ i k,nv = .rs i 0 k):bs1 Tryz.prog S 74 (.agg [.d (.int .i64 a),.d (.int .i64 b),.d (.int .i64 c),.rs id 0 n,nv])=some (.val (.rs S.length 0 1) (S ++ [.row [.agg [.d (.int .i64 a),.d (.int .i64 b),.d (.int .i64 c),.rs id 0 n,nv]] 80]) 2):=by
 have hk:sz Tryz.prog 80=some 5:=by kernel_rfl
 have hf:qA Tryz.prog 80 (.agg [.d (.int .i64 a),.d (.int .i64 b),.d (.int .i64 c),.rs id 0 n,nv])=true:=by kernel_rfl
 simp only [bs1,u119,z122,hk,z25,hf]
 rcases hn with rfl | ⟨i,k,rfl⟩ <;> rfl
theorem f122:qA Tryz.prog 80 (.agg [.d (.int .i64 a),.d (.int .i64 b),.d (.int .i64 c),.rs id 0 n,nv])=true:=by kernel_rfl
end
theorem z1z {S:zA} {v:V} {e:TypeId} {xs:List V} (h:OwnS S v e xs):v = .ts [] ∨ ∃ i k,v = .rs i 0 k:=by
 rcases h with ⟨rfl,_⟩ | ⟨id,rfl,_⟩
 ·exact .inl rfl
 ·exact .inr ⟨_,_,rfl⟩
theorem CacheP.put {S S6:zA} {c d r m al no:Nat} {L L' dv nv p:V} {es vs:List V} {f:Int→Option V} {z:Int} {w q:Nat} {C:CS} {a:Int} {b:List UInt8} {needs:List Int} (h:CacheP S c d r m L es vs f z w q C) (hfn:(f (no:Int)).isSome=true) (ha:S[al]? = some (.row [p] 78)) (hK : ∀ j o,S[j]? = some o→j ≠ c→j ≠ al→(∀ xs,o ≠ .row xs 80)→S6[j]? = some o) (hc:S6[c]? = some (.row [cacV d m L' ((C.last:Int) + 1)] 126)) (hL:OwnS S6 L' 80 (es ++ [.agg [.d (.int .i64 ((C.last:Int) + 1)),.d (.int .i64 (no:Int)),.d (.int .i64 a),dv,nv]])) (hdv:OwnS S6 dv 5 (bysV b)) (hnv:OwnS S6 nv 3 (zU needs)) (hok:(C.put no a b needs).Ok) :
  CacheP S6 c d r m L' (es ++ [.agg [.d (.int .i64 ((C.last:Int) + 1)),.d (.int .i64 (no:Int)),.d (.int .i64 a),dv,nv]]) vs f z w q (C.put no a b needs):=by
 obtain ⟨l,k,h1,h2⟩:=h.hm
 have kp : ∀ {j:Nat} {o:Ob},S[j]? = some o→(∀ xs,o ≠ .row xs 126)→(∀ xs,o ≠ .row xs 78)→(∀ xs,o ≠ .row xs 80)→S6[j]? = some o:=fun hj n1 n2 n3=>hK _ _ hj (by rintro rfl; exact n1 _ (getE hj h.hc)) (by rintro rfl; exact n2 _ (getE hj ha)) n3
 have own : ∀ {u:V} {t:TypeId} {ys:List V},t ≠ 126→t ≠ 78→t ≠ 80→OwnS S u t ys→OwnS S6 u t ys:=fun n1 n2 n3 ho=>by
  rcases ho with ho | ⟨id,x,y⟩
  ·exact .inl ho
  ·exact .inr ⟨id,x,kp y (fun _ hh=>by cases hh; exact n1 rfl) (fun _ hh=>by cases hh; exact n2 rfl) (fun _ hh=>by cases hh; exact n3 rfl)⟩
 have hcast:((C.last + 1:Nat):Int)=(C.last:Int) + 1:=by omega
 refine ⟨?_,⟨l,k,kp h1 (fun _ hh=>by cases hh) (fun _ hh=>by cases hh) (fun _ hh=>by cases hh),h2⟩,⟨kp h.dk.hd (fun _ hh=>by cases hh) (fun _ hh=>by cases hh) (fun _ hh=>by cases hh),kp h.dk.hr (fun _ hh=>by cases hh) (fun _ hh=>by cases hh) (fun _ hh=>by cases hh),h.dk.ne⟩,h.zb,h.il,h.im,h.kn,hL,⟨?_,?_⟩,?_,hok,fun ch hch=>(by
  rcases List.mem_append.1 (show ch ∈ C.list ++ [_] from hch) with hch | hch
  ·exact h.kl ch hch
  ·simp only [List.mem_singleton] at hch
   subst hch
   exact hfn),h.dr⟩
 ·show S6[c]? = some (.row [cacV d m L' ((C.last + 1:Nat):Int)] 126)
  rw [hcast]; exact hc
 ·show (es ++ [_]).length=(C.list ++ [_]).length
  rw [List.length_append,List.length_append,h.lc.1]; rfl
 ·intro i e ch he hch
  have hch:(C.list ++ [_])[i]? = some ch:=hch
  rcases Nat.lt_or_ge i es.length with hi | hi
  ·rw [List.getElem?_append_left hi] at he
   rw [List.getElem?_append_left (by rw [← h.lc.1]; exact hi)] at hch
   exact (h.lc.2 i e ch he hch).mono (fun _ _=>own (by decide) (by decide) (by decide)) (fun _ _=>own (by decide) (by decide) (by decide))
  ·rw [List.getElem?_append_right hi] at he
   rw [List.getElem?_append_right (by rw [← h.lc.1]; exact hi),← h.lc.1] at hch
   have hz:i - es.length=0:=by
    have:=(List.getElem?_eq_some_iff.1 he).1
    simp at this
    omega
   rw [hz] at he hch
   cases he
   cases hch
   exact ⟨dv,nv,rfl,hdv,hnv⟩
 ·show w + (C.list ++ [_]).length ≤ C.last + 1 + 100
  have:=h.wq
  rw [List.length_append,List.length_singleton]
  omega
theorem zuq (S:zA) (c r m:Nat) (C:CS) (h0:CacheAt S c r m C) (no:Nat) (hn:no < C.img.length) (p dv:V) (a:Int) (b:List UInt8) (hp:PatV S p dv a b) (hpk:kG a b) (ha:InB a) (nd:V) (needs:List Int) (hneed : ∀ S1,CacheAt S1 c r m C→Keep S S1→EvS cfg 135 [.ref c 0 0,nd] S1 (NdR c r m C needs S1)) (hd1:nd.one=true) (h1:needs.Pairwise (· < ·)) (h2 : ∀ x ∈ needs,1 ≤ x∧x ≤ C.last) (hl:C.last < 100000) :
  EvS cfg 97 [.ref c 0 0,.d (.int .i64 (no:Int)),p,nd] S (fun o S'=>FrC m r S S'∧CacheAt S' c r m (C.put no a b needs)∧o = .ret (.tup [.d (.int .i64 ((C.last:Int) + 1)),.d (.int .i64 0)])):=by
 refine qE rfl zqh ?_
 show Wp cfg (Tryz.f97.body.getD .skip) ((.ref c 0 0)::(.d (.int .i64 (no:Int)))::p::nd::uZ (uZ (uZ (uZ (uZ (uZ ((.tup [])::(.tup [])::(.tup [])::[]))))))) S [] _
 unfold uZ
 conv=>arg 2; whnf
 rw [zO]
 generalize hal:S.length=al
 have hft:=hp.ft
 have hl0:=hp.l0
 have hk0:Keep S (S ++ [.row [p] 78]):=Keep.refl.app
 have hp0:PatV (S ++ [.row [p] 78]) p dv a b:=hp.frm (ts:=[]) (ms:=[]) (r:=0) (Frm.keep hk0) rfl
 have hck:=fun {ops dst k T F Q}=>z0p (ops:=ops) (dst:=dst) (k:=k) (T:=T) (F:=F) (Q:=Q) hp0 ha
 rw [if_pos hpk] at hck
 obtain ⟨o,S1,⟨hF1,hC1,nv,rfl,hnv⟩,hnd⟩:=vZ rfl (hneed _ (h0.keep hk0) hk0)
 have hnd:=fun {ops dst k T F Q}=>hnd _ rfl (ops:=ops) (dst:=dst) (k:=k) (T:=T) (F:=F) (Q:=Q)
 obtain ⟨o,S2,⟨rfl,hF2,d,L,es,vs,f,z,w,q,h,hq,hfs⟩,hkn⟩:=vZ rfl (zpb S1 c r m C hC1 no hn)
 have hkn:=fun {ops dst k T F Q}=>hkn _ rfl (ops:=ops) (dst:=dst) (k:=k) (T:=T) (F:=F) (Q:=Q)
 have hF02:=hF1.trans hF2
 have hc2:=zD (e:=126) h.hc
 have hpc2:=fun y=>qH (y:=y) (e:=126) h.hc
 have ha2:S2[al]? = some (.row [p] 78):=hF02.row (by subst hal; simp) rfl
 have hp2:PatV S2 p dv a b:=hp0.frm hF02 rfl
 have hnv2:=hF2.own hnv rfl
 have hw:IntKind.i64.wrap ((C.last:Int) + 1)=(C.last:Int) + 1:=wrap64 (by omega)
 have hb0:b ≠ []:=by rintro rfl; have:=hpk.1; simp at this
 have hbl:b.length ≤ 100000:=by have:=hpk.2.1; omega
 have hnv1:=qG hnv
 have hca:al ≠ c:=by rintro rfl; cases getE ha2 h.hc
 generalize hS3:S2.set c (.row [cacV d m L ((C.last:Int) + 1)] 126)=S3
 have hF3:FrC m r S2 S3:=hS3 ▸ Frm.refl.set (fun q hq=>by cases getE h.hc hq; rfl)
 have hp3:=hp2.frm hF3 rfl
 have hap:=hp3.app hb0 hbl
 have ha3:S3[al]? = some (.row [p] 78):=hF3.row ha2 rfl
 have hc3:S3[c]? = some (.row [cacV d m L ((C.last:Int) + 1)] 126):=by rw [← hS3]; exact List.getElem?_set_self (zL h.hc)
 have hp1:=hp.one
 have hl1:=hp.l1
 have hs1:=fun id n=>hp.s1 (id:=id) (n:=n)
 have hra3:=zD (e:=78) ha3
 have hra4:=zD (e:=78) (id:=al) (S:=S3 ++ [rowY b]) (x:=p) (by rw [List.getElem?_append_left (zL ha3)]; exact ha3)
 generalize hal3:S3.length=al3
 have hpa4 : ∀ y,jJ (S3 ++ [rowY b]) al 0 y=some (S3.set al (.row [y] 78) ++ [rowY b]):=fun y=>by
  rw [qH (x:=p) (e:=78) (by rw [List.getElem?_append_left (zL ha3)]; exact ha3),List.set_append_left _ _ (zL ha3)]
 simp (maxSteps:=1000000) (disch:=first|assumption|omega|rfl) only [↓gp,gc,Nat.reduceAdd,↓vbs,hft,hal,rA0 hal,hl0,hp1,hck,z96,z45,hnd,zn4,hd1,hnv1,wH,Bool.not_true,hkn,zni,vI,hc2,lc3,hw,sc3,hpc2,hS3,zQ,zfi,z21,hra3,hl1,hap,hal3,hra4,hs1,hpa4]
 have h2K : ∀ j o,S2[j]? = some o→j ≠ c→j ≠ al→(S3.set al (.row [.agg [.d (.int .i64 a),.rs al3 0 b.length]] 78) ++ [rowY b])[j]? = some o:=fun j o hj n1 n2=>by
  have hl:j < S3.length:=by rw [← hS3,List.length_set]; exact zL hj
  rw [List.getElem?_append_left (by rw [List.length_set]; exact hl),List.getElem?_set_ne (Ne.symm n2),← hS3,List.getElem?_set_ne (Ne.symm n1)]
  exact hj
 have h4c:(S3.set al (.row [.agg [.d (.int .i64 a),.rs al3 0 b.length]] 78) ++ [rowY b])[c]? = some (.row [cacV d m L ((C.last:Int) + 1)] 126):=by
  rw [List.getElem?_append_left (by rw [List.length_set]; exact zL hc3),List.getElem?_set_ne hca]
  exact hc3
 have h4a:(S3.set al (.row [.agg [.d (.int .i64 a),.rs al3 0 b.length]] 78) ++ [rowY b])[al]? = some (.row [.agg [.d (.int .i64 a),.rs al3 0 b.length]] 78):=by
  rw [List.getElem?_append_left (by rw [List.length_set]; exact zL ha3),List.getElem?_set_self (zL ha3)]
 have h4y:(S3.set al (.row [.agg [.d (.int .i64 a),.rs al3 0 b.length]] 78) ++ [rowY b])[al3]? = some (rowY b):=by
  rw [List.getElem?_append_right (by rw [List.length_set]; omega),List.length_set,hal3,Nat.sub_self]; rfl
 have hF4:FrC m r S (S3.set al (.row [.agg [.d (.int .i64 a),.rs al3 0 b.length]] 78) ++ [rowY b]):=((((Frm.refl.app).trans hF02).trans hF3).setn (by omega)).app
 have hca4:=Ne.symm hca
 generalize hS4:S3.set al (.row [.agg [.d (.int .i64 a),.rs al3 0 b.length]] 78) ++ [rowY b]=S4 at *
 have r4c:=zD (e:=126) h4c
 have r4a:=zD (e:=78) h4a
 have hform:=z1z hnv
 have hok:=h.ok.put (no:=no) hn hpk hl h1 h2
 have hes:es.length ≤ 200000:=by have:=h.wq; have:=h.ok.last; rw [h.lc.1]; omega
 generalize hchg:V.agg [.d (.int .i64 ((C.last:Int) + 1)),.d (.int .i64 (no:Int)),.d (.int .i64 a),.rs al3 0 b.length,nv]=chg at *
 have hbs : ∀ S:zA,bs1 Tryz.prog S 74 chg=some (.val (.rs S.length 0 1) (S ++ [.row [chg] 80]) 2):=fun S=>by rw [← hchg]; exact zvo hform
 have hf:qA Tryz.prog 80 chg=true:=by rw [← hchg]; exact f122
 have hr5' : ∀ l,rowE (S4 ++ l) c 0=some (cacV d m L ((C.last:Int) + 1)):=fun l=>zD (e:=126) (by rw [List.getElem?_append_left (zL h4c)]; exact h4c)
 generalize ha4:S4.length=a4
 have hlo4:OwnS (S4 ++ [.row [chg] 80]) L 80 es:=by
  rcases h.lo with ho | ⟨id,x,y⟩
  ·exact .inl ho
  ·refine .inr ⟨id,x,?_⟩
   have:=h2K id _ y (by rintro rfl; cases getE y h.hc) (by rintro rfl; cases getE y ha2)
   rw [List.getElem?_append_left (zL this)]; exact this
 have y4 : ∀ {id:Nat} {xs:List V} {e:TypeId},S2[id]? = some (.row xs e)→e ≠ 126→e ≠ 78→S4[id]? = some (.row xs e):=fun y n1 n2=>h2K _ _ y (by rintro rfl; cases getE y h.hc; exact n1 rfl) (by rintro rfl; cases getE y ha2; exact n2 rfl)
 have fin : ∀ (S6:zA) (L':V),(∀ j o,S4[j]? = some o→j ≠ c→(∀ xs,o ≠ .row xs 80)→S6[j]? = some o)→S6[c]? = some (.row [cacV d m L' ((C.last:Int) + 1)] 126)→OwnS S6 L' 80 (es ++ [chg])→S4.length ≤ S6.length→FrC m r S S6∧CacheAt S6 c r m (C.put no a b needs):=by
  intro S6 L' k6 c6 o6 l6
  refine ⟨⟨by have:=hF4.1; omega,fun j o hj hc=>?_⟩,d,L',_,vs,f,z,w,q,h.put hfs ha2 (S6:=S6) ?_ c6 (dv:= .rs al3 0 b.length) (nv:=nv) (by rw [hchg]; exact o6) (.inr ⟨al3,by unfold bysV; rw [List.length_map],?_⟩) ?_ hok,hq⟩
  ·refine k6 j o (hF4.2 j o hj hc) ?_ ?_
   ·rintro rfl
    obtain ⟨d',L',es',vs',f',z',w',q',h',_⟩:=h0
    cases getE h'.hc hj
    cases hc
   ·rintro xs rfl
    cases hc
  ·exact fun j o hj n1 n2 n3=>k6 j o (h2K j o hj n1 n2) n1 n3
  ·exact k6 _ _ h4y (by rintro rfl; have:=getE h4c h4y; simp [rowY] at this) (fun xs hh=>by simp [rowY] at hh)
  ·rcases hnv2 with ho | ⟨id,x,y⟩
   ·exact .inl ho
   ·exact .inr ⟨id,x,k6 _ _ (y4 y (by decide) (by decide)) (by rintro rfl; have:=getE y h.hc; simp at this) (fun xs hh=>by simp at hh)⟩
 rcases zgo u119 zqn s122 hlo4 (x:=a4) (y:=chg) (by rw [← ha4]; simp) hf (zla (by omega)) with ⟨rfl,rfl,hap5⟩ | ⟨id,rfl,hid,hap5⟩
 ·have hr5:rowE (S4 ++ [Ob.row [chg] 80,.row [chg] 80]) c 0=some (cacV d m (.ts []) ((C.last:Int) + 1)):=zD (e:=126) (by rw [List.getElem?_append_left (zL h4c)]; exact h4c)
  have hp5 : ∀ y,jJ (S4 ++ [Ob.row [chg] 80,.row [chg] 80]) c 0 y=some (S4.set c (.row [y] 126) ++ [Ob.row [chg] 80,.row [chg] 80]):=fun y=>by
   rw [qH (e:=126) (by rw [List.getElem?_append_left (zL h4c)]; exact h4c),List.set_append_left _ _ (zL h4c)]
  have hr6 : ∀ y,rowE (S4.set c (.row [y] 126) ++ [Ob.row [chg] 80,.row [chg] 80]) c 0=some y:=fun y=>rS0 (zL h4c)
  simp only [List.append_assoc,List.length_append,List.length_cons,List.length_nil,ha4] at hap5
  refine qT (is:=[0,1,2,3,4,5,6,7,8,9,10,11,12,13,14,15,16,17]) (h:=0) (by kernel_rfl) (by kernel_rfl) ?_
  simp (maxSteps:=1000000) (disch:=first|assumption|omega|rfl) only [List.replicate_zero,eq_self,gw,ga,Nat.reduceAdd,↓gq,vso,List.append_nil,List.append_assoc,r4c,r4a,qQ,kD,z13,vI,lc2,lc3,zqf,zxx hform,hchg,hbs,ha4,hap5,hr5,hp5,sc2]
  refine ⟨zP (by kernel_rfl) (zP (by kernel_rfl) (qK rfl (by kernel_rfl) rfl (z02 ((zJ (hr5' _)).trans lc2)) (by simp [wU,qR,qP,z1j,jE,wP]) qB)),zP (by kernel_rfl) (zP (by kernel_rfl) (zP (by kernel_rfl) qB)),zP (by kernel_rfl) (zP (by kernel_rfl) (zP (by kernel_rfl) qB)),by kernel_rfl,?_⟩
  simp (maxSteps:=1000000) (disch:=first|assumption|omega|rfl) only [↓gp,gc,Nat.reduceAdd,vI,hr6,lc3]
  have hl4:=zL h4c
  obtain ⟨g1,g2⟩:=fin (S4.set c (.row [cacV d m (.rs (a4 + 1) 0 1) ((C.last:Int) + 1)] 126) ++ [.row [chg] 80,.row [chg] 80]) (.rs (a4 + 1) 0 1) (fun j o hj n1 n2=>by
   rw [List.getElem?_append_left (by rw [List.length_set]; exact zL hj),List.getElem?_set_ne (Ne.symm n1)]
   exact hj) (by rw [List.getElem?_append_left (by rw [List.length_set]; exact hl4),List.getElem?_set_self hl4]) (.inr ⟨a4 + 1,rfl,by
   rw [List.getElem?_append_right (by rw [List.length_set]; omega),List.length_set,ha4,Nat.add_sub_cancel_left]; rfl⟩) (by simp)
  exact ⟨rfl,_,z0z rfl rfl rfl rfl,g1,g2,rfl⟩
 ·have hid4:S4[id]? = some (.row es 80):=by
   have:=zL hid
   rcases h.lo with ⟨e,_⟩ | ⟨id',e,y⟩
   ·cases e
   ·cases e; exact y4 y (by decide) (by decide)
  have hcid:c ≠ id:=by rintro rfl; have:=getE h4c hid4; simp at this
  have hil:=zL hid4
  have hl4:=zL h4c
  have hset:(S4 ++ [Ob.row [chg] 80]).set id .dead=S4.set id .dead ++ [Ob.row [chg] 80]:=List.set_append_left _ _ hil
  simp only [hset,List.append_assoc,List.length_append,List.length_cons,List.length_nil,ha4] at hap5
  have h5c:(S4.set id .dead)[c]? = some (.row [cacV d m (.rs id 0 es.length) ((C.last:Int) + 1)] 126):=by rw [List.getElem?_set_ne (Ne.symm hcid)]; exact h4c
  have hl5:=zL h5c
  have hr5 : ∀ l,rowE (S4.set id .dead ++ l) c 0=some (cacV d m (.rs id 0 es.length) ((C.last:Int) + 1)):=fun l=>zD (e:=126) (by rw [List.getElem?_append_left hl5]; exact h5c)
  have hp5 : ∀ l y,jJ (S4.set id .dead ++ l) c 0 y=some ((S4.set id .dead).set c (.row [y] 126) ++ l):=fun l y=>by
   rw [qH (e:=126) (by rw [List.getElem?_append_left hl5]; exact h5c),List.set_append_left _ _ hl5]
  have hr6 : ∀ y l,rowE ((S4.set id .dead).set c (.row [y] 126) ++ l) c 0=some y:=fun y l=>rS0 hl5
  refine qT (is:=[0,1,2,3,4,5,6,7,8,9,10,11,12,13,14,15,16,17]) (h:=0) (by kernel_rfl) (by kernel_rfl) ?_
  simp (maxSteps:=1000000) (disch:=first|assumption|omega|rfl) only [List.replicate_zero,eq_self,gw,ga,Nat.reduceAdd,↓gq,vso,List.append_nil,List.append_assoc,r4c,r4a,qQ,kD,z13,vI,lc2,lc3,zqf,zxx hform,hchg,hbs,ha4,hap5,hr5,hp5,sc2]
  refine ⟨zP (by kernel_rfl) (zP (by kernel_rfl) (qK rfl (by kernel_rfl) rfl (z02 ((zJ (hr5' _)).trans lc2)) (by simp [wU,qR,qP,z1j,jE,wP]) qB)),zP (by kernel_rfl) (zP (by kernel_rfl) (zP (by kernel_rfl) qB)),zP (by kernel_rfl) (zP (by kernel_rfl) (zP (by kernel_rfl) qB)),by kernel_rfl,?_⟩
  simp (maxSteps:=1000000) (disch:=first|assumption|omega|rfl) only [↓gp,gc,Nat.reduceAdd,vI,hr6,lc3]
  obtain ⟨g1,g2⟩:=fin ((S4.set id .dead).set c (.row [cacV d m (.rs (a4 + 1) 0 (es.length + 1)) ((C.last:Int) + 1)] 126) ++ ([.row [chg] 80] ++ [.row (es ++ [chg]) 80])) (.rs (a4 + 1) 0 (es.length + 1)) (fun j o hj n1 n2=>by
   rw [List.getElem?_append_left (by rw [List.length_set,List.length_set]; exact zL hj),List.getElem?_set_ne (Ne.symm n1),List.getElem?_set_ne (by rintro rfl; exact n2 _ (getE hj hid4))]
   exact hj) (by rw [List.getElem?_append_left (by rw [List.length_set]; exact hl5),List.getElem?_set_self hl5]) (.inr ⟨a4 + 1,by rw [List.length_append]; rfl,by
   rw [List.getElem?_append_right (by rw [List.length_set,List.length_set]; omega),List.length_set,List.length_set,ha4,Nat.add_sub_cancel_left]; rfl⟩) (by simp)
  exact ⟨rfl,_,z0z rfl rfl rfl rfl,g1,g2,rfl⟩
def noZ (l:List Int):List Int:=l.filter (fun n=>decide (n ≠ 0))
def IntsV (S:zA) (v:V) (l:List Int):Prop:=v = .d (encI l) ∨ v = .ts (l.map (.int .i64)) ∨ OwnS S v 3 (zU l)
section
variable {S S':zA} {v:V} {l:List Int}
theorem IntsV.keep (h:IntsV S v l) (hk:Keep S S'):IntsV S' v l:=by
 rcases h with h | h | h
 ·exact .inl h
 ·exact .inr (.inl h)
 ·exact .inr (.inr (hk.own h))
theorem IntsV.one (h:IntsV S v l):v.one=true:=by
 rcases h with rfl | rfl | h
 ·rfl
 ·rfl
 ·exact qG h
theorem IntsV.len (h:IntsV S v l):zI Tryz.prog S .len [22] [v]=some (.val (.d (.int .i64 (l.length:Int))) S 0):=by
 rcases h with rfl | rfl | h
 ·rw [encI,zwm,List.length_map]
 ·rw [zj6 Tryz.underlying22,List.length_map]
 ·rw [kE Tryz.underlying22 h]; unfold zU; rw [List.length_map]
theorem IntsV.ix (h:IntsV S v l) {i:Nat} (hi:i < l.length) : ∃ q,zM Tryz.prog S 22 v (.d (.int .i64 (i:Int)))=some q∧kN Tryz.prog S 3 q=some (.d (.int .i64 l[i])):=by
 rcases h with rfl | rfl | h
 ·exact ⟨_,ix22 hi,by kernel_rfl⟩
 ·refine ⟨.d (.ptr (.int .i64 l[i])),?_,by kernel_rfl⟩
  have hl:i < (l.map (D.int .i64)).length:=by simpa using hi
  have hf:=zms l[i]
  simp only [zM,intOf?,Tryz.underlying22,Int.toNat_natCast,List.getElem?_map,List.getElem?_eq_getElem hi,Option.map_some,hf,if_true]
  rw [if_pos ⟨by omega,by omega⟩]
 ·obtain ⟨id,h1,h2,_⟩:=kJ Tryz.underlying22 (by kernel_rfl) h (i:=i) (by unfold zU; simpa using hi)
  refine ⟨_,h1,(zJ h2).trans ?_⟩
  simp only [zU,List.getElem_map]
  kernel_rfl
end
theorem zxg (l:List Int) (hl:l.length ≤ 17592186044416) (S0:zA) (nd:V) (hnd:IntsV S0 nd l) (R:Post) : ∀ (k i:Nat) (S:zA) (v3 g0 g1 g2 g4 g5 g9 gK gF gD gB gC gA gE gL gM gG:V),l.length - i=k→i ≤ l.length→Keep S0 S→(∀ j,j < S0.length→NotAt v3 j)→OwnS S v3 3 (zU (noZ (l.take i))) →
 (∀ S v3 i' g0 g1 g2 g4 g5 g9 gK gF gD gB gC gA gE gL gM gG,Keep S0 S→OwnS S v3 3 (zU (noZ l))→R (.exit 0) (g0::g1::g2::v3::g4::g5::nd::(.d (.int .i64 (l.length:Int)))::i'::g9::gK::gF::gD::gB::gC::gA::gE::gL::gM::gG::[]) S []) →
 Wp cfg (.loop (lpOf (Tryz.f98.body.getD .skip) 0)) (g0::g1::g2::v3::g4::g5::nd::(.d (.int .i64 (l.length:Int)))::(.d (.int .i64 (i:Int)))::g9::gK::gF::gD::gB::gC::gA::gE::gL::gM::gG::[]) S [] R:=by
 intro k
 induction k with
 | zero =>
  intro i S v3 g0 g1 g2 g4 g5 g9 gK gF gD gB gC gA gE gL gM gG hk hi hK hN ho hR
  have hie:i=l.length:=by omega
  subst hie
  rw [List.take_length] at ho
  rw [zO]
  refine zN ?_
  conv=>arg 2; whnf
  simp (maxSteps:=1000000) (disch:=first|assumption|omega|rfl) only [↓gp,gc,Nat.reduceAdd]
  exact hR _ _ _ _ _ _ _ _ _ _ _ _ _ _ _ _ _ _ _ hK ho
 | succ k ih =>
  intro i S v3 g0 g1 g2 g4 g5 g9 gK gF gD gB gC gA gE gL gM gG hk hi hK hN ho hR
  have hlt:i < l.length:=by omega
  have h3:IntKind.i64.wrap ((i:Int) + 1)=((i + 1:Nat):Int):=by rw [wrap64 (by omega)]; omega
  obtain ⟨q,hix,hld⟩:=(hnd.keep hK).ix hlt
  have htk:noZ (l.take (i + 1))=noZ (l.take i) ++ (if l[i] ≠ 0 then [l[i]] else []):=by
   rw [List.take_add_one,List.getElem?_eq_getElem hlt]
   unfold noZ
   rw [List.filter_append]
   by_cases h:l[i]=0
   ·simp [h]
   ·simp [h]
  have hfl:(noZ (l.take i)).length ≤ i:=Nat.le_trans (List.length_filter_le ..) (by rw [List.length_take]; omega)
  rw [zO]
  refine zN ?_
  conv=>arg 2; whnf
  by_cases h:l[i]=0
  ·have hde : ∀ i':Decidable (l[i] ≠ 0),@decide (l[i] ≠ 0) i'=false:=fun i'=>decide_eq_false (fun hh=>hh h)
   simp (maxSteps:=1000000) (disch:=first|assumption|omega|rfl) only [↓gp,gc,Nat.reduceAdd,hix,hld,hde,h3]
   rw [if_neg (fun hh=>hh h),List.append_nil] at htk
   exact ih (i + 1) S v3 _ _ _ _ _ _ _ _ _ _ _ _ _ _ _ _ (by omega) (by omega) hK hN (by rw [htk]; exact ho) hR
  ·have hde : ∀ i':Decidable (l[i] ≠ 0),@decide (l[i] ≠ 0) i'=true:=fun i'=>decide_eq_true h
   obtain ⟨v',S',c,ha,ho',hfr,hlen⟩:=apI l[i] ho (by omega)
   simp (maxSteps:=1000000) (disch:=first|assumption|omega|rfl) only [↓gp,gc,Nat.reduceAdd,hix,hld,hde,h3,ha]
   rw [if_pos h] at htk
   exact ih (i + 1) S' v' _ _ _ _ _ _ _ _ _ _ _ _ _ _ _ _ (by omega) (by omega) (fun j o hj=>(hfr j o (hK j o hj) (hN j (zL hj))).1) (fun j hj=>(hfr j _ (List.getElem?_eq_getElem (Nat.lt_of_lt_of_le hj hK.len)) (hN j hj)).2) (by rw [htk]; exact ho') hR
theorem zl8 (S:zA) (nd:V) (l:List Int) (hnd:IntsV S nd l) (hl:l.length ≤ 17592186044416):EvS cfg 98 [nd] S (fun o S'=>Keep S S' ∧ ∃ v,o = .ret v∧OwnS S' v 3 (zU (noZ l))):=by
 refine qE rfl zz3 ?_
 show Wp cfg (Tryz.f98.body.getD .skip) (nd::uZ ((.tup [])::(.tup [])::(.tup [])::(.tup [])::(.tup [])::(.tup [])::(.tup [])::(.tup [])::(.tup [])::[])) S [] _
 unfold uZ
 conv=>arg 2; whnf
 rw [zO]
 have hln:=hnd.len
 simp (maxSteps:=1000000) (disch:=first|assumption|omega|rfl) only [↓gp,gc,Nat.reduceAdd,hln]
 refine zxg l hl S nd hnd _ l.length 0 S (.ts []) _ _ _ _ _ _ _ _ _ _ _ _ _ _ _ _ rfl (Nat.zero_le _) Keep.refl (fun j _=>NotAt.ts) (.inl ⟨rfl,by rw [List.take_zero]; rfl⟩) ?_
 intro S2 v3 i' g0 g1 g2 g4 g5 g9 gK gF gD gB gC gA gE gL gM gG hK ho
 simp (maxSteps:=1000000) (disch:=first|assumption|omega|rfl) only [↓gp,gc,Nat.reduceAdd]
 exact ⟨rfl,_,rfl,hK,_,rfl,ho⟩
theorem qC {f:FuncId} {args:List V} {S:zA} {R:Out→zA→Prop} (he:EvS cfg f args S R) : ∃ o S2,R o S2∧EvS cfg f args S (fun o' S'=>S'=S2∧o'=o):=by
 obtain ⟨n,o,S',hn,hR⟩:=he
 exact ⟨o,S',hR,n,o,S',hn,rfl,rfl⟩
theorem CacheP.set1 {S:zA} {c d r m a:Nat} {L:V} {es vs:List V} {f:Int→Option V} {z:Int} {w q:Nat} {C:CS} (h:CacheP S c d r m L es vs f z w q C) {xs:List V} {e:TypeId} (ha:S[a]? = some (.row xs e)) (he:(e != 135 && e != 126 && e != 80 && e != 5 && e != 3)=true) (hr:a ≠ r) {o:Ob}:CacheP (S.set a o) c d r m L es vs f z w q C:=by
 simp only [Bool.and_eq_true,bne_iff_ne,ne_eq] at he
 obtain ⟨⟨⟨⟨e1,e2⟩,e3⟩,e4⟩,e5⟩:=he
 have at_ : ∀ {j:Nat} {p:Ob},S[j]? = some p→j ≠ a→(S.set a o)[j]? = some p:=fun hj hn=>by rw [List.getElem?_set_ne (Ne.symm hn)]; exact hj
 have own : ∀ {u:V} {t:TypeId} {ys:List V},t ≠ e→OwnS S u t ys→OwnS (S.set a o) u t ys:=fun hn ho=>by
  rcases ho with ho | ⟨id,p,q⟩
  ·exact .inl ho
  ·exact .inr ⟨id,p,at_ q (fun hh=>by subst hh; cases getE ha q; exact hn rfl)⟩
 obtain ⟨l,k,h1,h2⟩:=h.hm
 exact ⟨at_ h.hc (fun hh=>by subst hh; cases getE ha h.hc; exact e2 rfl),⟨l,k,at_ h1 (fun hh=>by subst hh; cases getE ha h1),h2⟩,⟨at_ h.dk.hd (fun hh=>by subst hh; cases getE ha h.dk.hd; exact e1 rfl),at_ h.dk.hr (Ne.symm hr),h.dk.ne⟩,h.zb,h.il,h.im,h.kn,own (Ne.symm e3) h.lo,h.lc.mono (fun _ _=>own (Ne.symm e4)) (fun _ _=>own (Ne.symm e5)),h.wq,h.ok,h.kl,h.dr⟩
theorem CacheAt.set1 {S:zA} {c r m a:Nat} {C:CS} (h:CacheAt S c r m C) {xs:List V} {e:TypeId} (ha:S[a]? = some (.row xs e)) (he:(e != 135 && e != 126 && e != 80 && e != 5 && e != 3)=true) (hr:a ≠ r) {o:Ob}:CacheAt (S.set a o) c r m C:=by
 obtain ⟨d,L,es,vs,f,z,w,q,h,hq⟩:=h
 exact ⟨d,L,es,vs,f,z,w,q,h.set1 ha he hr,hq⟩
structure StoreP (S:zA) (x c r m mk:Nat) (l:Lay) (e:Int) (C:CS) (mf:Int→Option V):Prop where
 hx:S[x]? = some (.row [stoV c mk l.blocks l.inodes l.merge e] 122)
 ca:CacheAt S c r m C
 mp:MpI S mk mf
 ne:mk ≠ m
 hB:l.blocks=C.img.length
abbrev stT:List Nat:=[122,135,126,80]
abbrev FrS (m r:Nat):zA→zA→Prop:=Frm stT [m] 42 r
theorem FrC.toS {m r:Nat} {S S':zA} (h:FrC m r S S'):FrS m r S S':=h.mono (fun e he=>by simp only [List.contains_cons,List.contains_nil,Bool.or_eq_true] at he ⊢; exact .inr he) (fun _ h=>h)
section
variable {S S':zA} {x c r m mk:Nat} {l:Lay} {e:Int} {C:CS} {mf:Int→Option V}
theorem StoreP.keep (h:StoreP S x c r m mk l e C mf) (hk:Keep S S'):StoreP S' x c r m mk l e C mf:=⟨hk _ _ h.hx,h.ca.keep hk,hk.map h.mp,h.ne,h.hB⟩
theorem StoreP.step (h:StoreP S x c r m mk l e C mf) (hF:FrC m r S S') {C':CS} (hc:CacheAt S' c r m C') (hi:C'.img.length=C.img.length):StoreP S' x c r m mk l e C' mf:=⟨hF.row h.hx rfl,hc,hF.map h.mp (by have:=h.ne; simpa using this),h.ne,by rw [hi]; exact h.hB⟩
theorem StoreP.err (h:StoreP S x c r m mk l e C mf) (e':Int):StoreP (S.set x (.row [stoV c mk l.blocks l.inodes l.merge e'] 122)) x c r m mk l e' C mf:=by
 refine ⟨List.getElem?_set_self (zL h.hx),h.ca.set1 h.hx rfl ?_,?_,h.ne,h.hB⟩
 ·rintro rfl
  obtain ⟨d,L,es,vs,f,z,w,q,h2,_⟩:=h.ca
  cases getE h.hx h2.dk.hr
 ·obtain ⟨L,k,h1,h2⟩:=h.mp
  exact ⟨L,k,by rw [List.getElem?_set_ne (by rintro rfl; cases getE h.hx h1)]; exact h1,h2⟩
theorem zlx {B I M e':Int}:qW Tryz.prog 47 4 (.d (.int .i64 e')) (stoV c mk B I M e)=some (stoV c mk B I M e'):=by kernel_rfl
end
theorem z4u {k:IntKind} {n:Int}:jE (.int k n) (.int k n)=true:=by simp [jE]
theorem zgj : ∀ b:List UInt8,wP (b.map byD) (b.map byD)=true
 | []=>rfl
 | x::r=>by
  have h:jE (byD x) (byD x)=true:=z4u
  simp only [List.map_cons,wP,h,zgj r,Bool.and_self]
theorem z5c {n:Nat} : ∀ b:List UInt8,all2 (z1j (n + 1)) (b.map byD) (b.map byD)=true
 | []=>rfl
 | x::r=>by
  have h:z1j (n + 1) (byD x) (byD x)=true:=z4u
  simp only [List.map_cons,all2,h,z5c r,Bool.and_self]
theorem PatV.same {S:zA} {p dv:V} {a:Int} {b:List UInt8} (h:PatV S p dv a b):wU p p=true:=by
 have e1:z1j 6 (encB b) (encB b)=true:=z5c (n:=4) b
 have e2:z1j 5 (encB b) (encB b)=true:=z5c (n:=3) b
 have e0:qR (.d (.int .i64 a)) (.d (.int .i64 a))=true:=by simp [qR,qP,z1j,jE]
 rcases h with ⟨rfl,(⟨rfl,_⟩ | ⟨id,rfl,_⟩) | rfl | rfl⟩ | ⟨rfl,rfl⟩
 ·simp only [wU,kX,e0]; rfl
 ·simp only [wU,kX,e0]; simp [qR,qP]
 ·simp only [wU,kX,e0]; simp [qR,qP,e1]
 ·simp only [wU,kX,e0]; simp [qR,qP,zgj]
 ·show z1j 6 (patD a b) (patD a b)=true
  show all2 (z1j 5) [.int .i64 a,encB b] [.int .i64 a,encB b]=true
  have e3:z1j 5 (.int .i64 a) (.int .i64 a)=true:=z4u
  simp only [all2,e3,e2,Bool.and_self]
theorem zuy (S:zA) (x c r m mk:Nat) (l:Lay) (C:CS) (mf:Int→Option V) (h0:StoreP S x c r m mk l 0 C mf) (no:Nat) (hn:no < C.img.length) (p dv:V) (a:Int) (b:List UInt8) (hp:PatV S p dv a b) (hpk:kG a b) (ha:InB a) (nd:V) (ids needs:List Int) (hnd:IntsV S nd ids) (hids:ids.length ≤ 17592186044416) (hneed : ∀ S1 v,CacheAt S1 c r m C→OwnS S1 v 3 (zU (noZ ids))→EvS cfg 135 [.ref c 0 0,v] S1 (NdR c r m C needs S1)) (h1:needs.Pairwise (· < ·)) (h2 : ∀ y ∈ needs,1 ≤ y∧y ≤ C.last) (hl:C.last < 100000) :
  EvS cfg 50 [.ref x 0 0,.d (.int .i64 (no:Int)),p,nd] S (fun o S'=>FrS m r S S'∧StoreP S' x c r m mk l 0 (C.put no a b needs) mf∧o = .ret (.d (.int .i64 ((C.last:Int) + 1)))):=by
 refine qE rfl zld ?_
 show Wp cfg (Tryz.f50.body.getD .skip) ((.ref x 0 0)::(.d (.int .i64 (no:Int)))::p::nd::uZ (uZ ((.tup [])::(.tup [])::(.tup [])::(.tup [])::(.tup [])::(.tup [])::(.tup [])::[]))) S [] _
 unfold uZ
 conv=>arg 2; whnf
 rw [zO]
 generalize hal:S.length=al
 have hft:=hp.ft
 have hl0:=hp.l0
 have hd1:=hnd.one
 have hk0:Keep S (S ++ [.row [p] 78]):=Keep.refl.app
 have h3:=h0.keep hk0
 have he:=fun {ops dst k T F Q}=>zF (ops:=ops) (dst:=dst) (l:=k) (T:=T) (F:=F) (Q:=Q) rfl (z7x _ x c mk l.blocks l.inodes l.merge 0 h3.hx)
 obtain ⟨o,S1,⟨hK1,v,rfl,hv⟩,hsE⟩:=qC (zl8 _ nd ids (hnd.keep hk0) hids)
 have hs:=fun {ops base K ws cs i dst T}=>jQ (ops:=ops) (base:=base) (K:=K) (ws:=ws) (cs:=cs) (i:=i) (dst:=dst) (T:=T) rfl hsE
 have h3b:=h3.keep hK1
 have hk1:=hk0.trans hK1
 have hp1:PatV S1 p dv a b:=hp.frm (ts:=[]) (ms:=[]) (r:=0) (Frm.keep hk1) rfl
 obtain ⟨o,S2,⟨hF,hC,rfl⟩,hE⟩:=qC (zuq _ c r m C h3b.ca no hn p dv a b hp1 hpk ha v needs (fun S1 h hk=>hneed S1 v h (hk.own hv)) (qG hv) h1 h2 hl)
 have hcp:=fun {ops base K ws cs i dst T}=>jQ (ops:=ops) (base:=base) (K:=K) (ws:=ws) (cs:=cs) (i:=i) (dst:=dst) (T:=T) rfl hE
 have hrx:=zD (e:=122) h3.hx
 have hrx1:=zD (e:=122) h3b.hx
 have hal1:=hK1 al (.row [p] 78) (by rw [List.getElem?_append_right (by omega),hal,Nat.sub_self]; rfl)
 have hral1:=zD (e:=78) hal1
 have h4:StoreP S2 x c r m mk l 0 (C.put no a b needs) mf:=h3b.step hF hC rfl
 have hrx2:=zD (e:=122) h4.hx
 have hpx2:=fun y=>qH (y:=y) (e:=122) h4.hx
 have hp1':=hp.one
 have hv1:=qG hv
 simp (maxSteps:=1000000) (disch:=first|assumption|omega|rfl) only [↓gp,gc,Nat.reduceAdd,hft,hal,he,bo45]
 refine qT (is:=[0,1,2,3,4,5,6,7,8,9,10,11,12,13]) (h:=0) (by kernel_rfl) (by kernel_rfl) ?_
 simp (maxSteps:=1000000) (disch:=first|assumption|omega|rfl) only [List.replicate_zero,eq_self,gw,ga,Nat.reduceAdd,↓gq,vso,List.append_nil,hrx,qQ,kD,zez,z8n,rA0 hal,hl0,hs,bo98,hcp,bo97,hp1',hd1,hv1]
 have hsm:=hp.same
 refine ⟨qK rfl (by kernel_rfl) rfl (z02 ((zJ hral1).trans hl0)) hsm (qK rfl (by kernel_rfl) rfl (z02 ((zJ hrx1).trans z8n)) (by simp [wU,qR,qP]) qB),zP (by kernel_rfl) (zP (by kernel_rfl) qB),by kernel_rfl,?_⟩
 simp (maxSteps:=1000000) (disch:=first|assumption|omega|rfl) only [↓gp,gc,Nat.reduceAdd,zf3,hrx2,zlx,hpx2]
 refine ⟨rfl,_,rfl,?_,h4.err 0,rfl⟩
 exact ((Frm.keep hk1).trans hF.toS).set (fun q hq=>by cases getE h0.hx hq; rfl)
def inoV (i:Ino):V:= .agg [.d (.int .i64 i.kind),.d (.int .i64 i.links),.d (.int .i64 i.size),.d (.int .i64 i.parent),.d (.int .i64 i.d0),.d (.int .i64 i.d1),.d (.int .i64 i.d2),.d (.int .i64 i.d3),.d (.int .i64 i.d4),.d (.int .i64 i.d5),.d (.int .i64 i.ind)]
def IsI (v:V) (i:Ino):Prop:=v = .d (wE i) ∨ v=inoV i
section
variable {v:V} {i:Ino} {S:zA}
theorem IsI.ft (h:IsI v i):qA Tryz.prog 70 v=true:=by rcases h with rfl | rfl <;> kernel_rfl
theorem IsI.l0 (h:IsI v i):qZ Tryz.prog 70 0 (some v)=some v:=by rcases h with rfl | rfl <;> kernel_rfl
theorem IsI.one (h:IsI v i):v.one=true:=by rcases h with rfl | rfl <;> rfl
theorem IsI.fz (h:IsI v i):Go.Vm.frz S zG v=some (wE i):=by rcases h with rfl | rfl <;> rfl
end
section
variable {n:Int} {x:UInt8}
theorem q1r:wX Tryz.prog 78 [(0,.d (.int .i64 n)),(1,.ts [.int .u8 (x.toNat:Int)])]=some (.agg [.d (.int .i64 n),.ts [.int .u8 (x.toNat:Int)]]):=by kernel_rfl
theorem q1o:qW Tryz.prog 78 0 (.agg [.d (.int .i64 n),.ts [.int .u8 (x.toNat:Int)]]) (.agg [.d (.int .i64 0),.ts []])=some (.agg [.d (.int .i64 n),.ts [.int .u8 (x.toNat:Int)]]):=by kernel_rfl
theorem q0l:qZ Tryz.prog 78 0 (some (.agg [.d (.int .i64 n),.ts [.int .u8 (x.toNat:Int)]]))=some (.agg [.d (.int .i64 n),.ts [.int .u8 (x.toNat:Int)]]):=by kernel_rfl
end
theorem znd (b:List UInt8) (hb:b.length=256) (n:Nat) (hn:n < 2048) (on:Bool):Ev cfg 106 [blkD b,.int .i64 (n:Int),.bool on] (.ret (.d (patD ((n / 8:Nat):Int) [setB b n on]))):=by
 refine kW rfl rfl zt7 ?_
 show Wp cfg (Tryz.f106.body.getD .skip) ((.d (blkD b))::(.d (.int .i64 (n:Int)))::(.d (.bool on))::uZ (uZ ((.tup [])::(.tup [])::(.tup [])::(.tup [])::(.tup [])::(.tup [])::[]))) [] [] _
 unfold uZ
 conv=>arg 2; whnf
 have hf:=fd42 hb
 have hlb:=z3s hb
 have hl:(vW b n on).length=256:=by rw [z8d]; exact hb
 have hc:=fun {ops dst k T S F Q}=>z3z (ops:=ops) (dst:=dst) (k:=k) (T:=T) (S:=S) (F:=F) (Q:=Q) hn
 have hw : ∀ {ops dst k T S F Q},WpR cfg ops dst k T S F Q (some (.enter 140 [.d (blkD b),.d (.int .i64 (n:Int)),.d (.bool on)]))=WpL cfg ops k (putT T dst (.d (blkD (vW b n on)))) S F Q:=fun {ops dst k T S F Q}=>qI (ds:=[blkD b,.int .i64 (n:Int),.bool on]) rfl (zsv b hb n hn on)
 have hs:=zr3 (b':=b) hl hb
 have hia:=fun S j x=>ia42 (S:=S) (j:=j) (x:=x) (i:=n / 8) (by omega)
 have hg:=bt42.get wA hl (i:=n / 8) (by omega)
 have he:(vW b n on)[n / 8]'(by omega)=setB b n on:=by unfold vW; rw [List.getElem_set_self]
 rw [he] at hg
 simp (maxSteps:=1000000) (disch:=first|assumption|omega|rfl) only [↓gp,gc,Nat.reduceAdd,↓vbs,hf,z56,zf56,hlb,hc,zgw,wH,Bool.not_true,hw,zvd,hs,hia,hg,q1r,q1o]
 exact wL (v:= .agg [.d (.int .i64 ((n / 8:Nat):Int)),.ts [.int .u8 ((setB b n on).toNat:Int)]]) rfl ((zJ rfl).trans q0l) rfl rfl
section
variable {ops:Array Oper} {base:Nat} {K:Ws→List (Nat × Nat)→List V→zA→Prop} {ws:Ws} {cs:List (Nat × Nat)} {i:Nat} {dst:Option Tmp} {T:List V} {S:zA}
theorem z2d {f:FuncId} {args:List V} {ds:List D} {v:V} (hs:cfg.shared f=false) (hf:allO (frz S zG) args=some ds) (hi:(args.flatMap (frzIds S zG)).isEmpty=true) (he:Ev cfg f ds (.ret v)) :
  WpEw cfg ops base K ws cs i dst T S (some (.enter f args))=K ((i,T,v)::ws) (cs ++ [(i,1)]) (putT T dst v) S:=by
 obtain ⟨n,hn⟩:=he
 have hn':answer cfg (run cfg n) f ds=some (.ret v):=hn
 have hc:jO cfg (run cfg n) f args S=some (.ret v,S,1):=by
  unfold jO
  simp only [hs,Bool.false_eq_true,if_false,hf,hn',hi,if_true]
 apply propext
 constructor
 ·rintro ⟨m,v',S',c,h1,h2,h3⟩
  have:=wN h1 hc
  simp only [Prod.mk.injEq] at this
  obtain ⟨h4,rfl,rfl⟩:=this
  cases h4
  exact h3
 ·exact fun h=>⟨n,_,_,_,hc,fun h=>absurd h (by decide),h⟩
theorem zmm:WpEw cfg ops base K ws cs i dst T S (some (.enter 77 []))=K ((i,T,.d (.int .i64 1))::ws) (cs ++ [(i,1)]) (putT T dst (.d (.int .i64 1))) S:=z2d (ds:=[]) rfl rfl rfl zfw
theorem zwr {u:V} {b:List UInt8} {n:Int} (hu:IsB u b) (hb:b.length=256):WpEw cfg ops base K ws cs i dst T S (some (.enter 76 [u,.d (.int .i64 n)]))=K ((i,T,.d (.bool (hasI b n)))::ws) (cs ++ [(i,1)]) (putT T dst (.d (.bool (hasI b n)))) S :=
 z2d (ds:=[blkD b,.int .i64 n]) rfl (by simp only [allO,hu.frz (n:=10),zG]; rfl) (by rw [List.flatMap_cons,hu.frzIds]; rfl) (zqe b hb n)
theorem zot {u:V} {b:List UInt8} {n:Nat} {on:Bool} (hu:IsB u b) (hb:b.length=256) (hn:n < 2048):WpEw cfg ops base K ws cs i dst T S (some (.enter 106 [u,.d (.int .i64 (n:Int)),.d (.bool on)]))=K ((i,T,.d (patD ((n / 8:Nat):Int) [setB b n on]))::ws) (cs ++ [(i,1)]) (putT T dst (.d (patD ((n / 8:Nat):Int) [setB b n on]))) S :=
 z2d (ds:=[blkD b,.int .i64 (n:Int),.bool on]) rfl (by simp only [allO,hu.frz (n:=10),zG]; rfl) (by rw [List.flatMap_cons,hu.frzIds]; rfl) (znd b hb n hn on)
theorem znn {l:Lay} (hb:InB l.blocks) (hi:InB l.inodes) (hm:MayL l):WpEw cfg ops base K ws cs i dst T S (some (.enter 75 [.agg [.d (.int .i64 l.blocks),.d (.int .i64 l.inodes),.d (.int .u64 l.merge)]]))=K ((i,T,.d (.int .i64 0))::ws) (cs ++ [(i,1)]) (putT T dst (.d (.int .i64 0))) S :=
 z2d (ds:=[encLay l]) rfl rfl rfl (by have:=zfs l hb hi; rwa [if_pos hm] at this)
end
def z98 (l:Lay) (C:CS) (no:Int):Bool:=decide (0 ≤ no∧no < l.blocks) && hasI (C.see 1) no
theorem zs2 (S:zA) (v:V) (B c r m:Nat) (l:Lay) (C:CS) (h0:CacheIn S B c r m C) (hv:ViewAt S v c l.blocks l.inodes l.merge) (hB:l.blocks=C.img.length) (hb:InB l.blocks) (hi:InB l.inodes) (hm:MayL l) (no:Int) :
  EvS cfg 28 [v,.d (.int .i64 no)] S (SeeR B c r m C S fun w=>w = .d (.bool (z98 l C no))):=by
 have hv0:=hv
 obtain ⟨g,rfl,hg⟩:=hv
 refine qE rfl zxp ?_
 show Wp cfg (Tryz.f28.body.getD .skip) ((kL l.blocks l.inodes l.merge g)::(.d (.int .i64 no))::uZ (uZ ((.tup [])::(.tup [])::(.tup [])::(.tup [])::(.tup [])::[]))) S [] _
 unfold uZ
 conv=>arg 2; whnf
 rw [zO]
 generalize ha:S.length=a
 have hck:=fun {ops base K ws cs i dst T S}=>znn (ops:=ops) (base:=base) (K:=K) (ws:=ws) (cs:=cs) (i:=i) (dst:=dst) (T:=T) (S:=S) hb hi hm
 by_cases c1:no ≥ 0
 case neg =>
  have hu:z98 l C no=false:=by unfold z98; rw [decide_eq_false (by omega),Bool.false_and]
  rw [hu]
  simp (maxSteps:=1000000) (disch:=first|assumption|omega|rfl) only [↓gp,gc,Nat.reduceAdd,ft52,ha,rA0 ha]
  refine qT (is:=[0,1,2,3,4,5,6,7,8,9,10,11,12,13,14,15,16,19,17,18,20,21,22]) (h:=0) (by kernel_rfl) (by kernel_rfl) ?_
  simp (maxSteps:=1000000) (disch:=first|assumption|omega|rfl) only [List.replicate_zero,eq_self,gw,ga,Nat.reduceAdd,↓gq,vso,List.append_nil,rA0 ha,z1c,z9r,hck,bo75,zQ]
  refine ⟨by kernel_rfl,?_⟩
  simp (maxSteps:=1000000) (disch:=first|assumption|omega|rfl) only [↓gp,gc,Nat.reduceAdd]
  exact ⟨rfl,_,rfl,Frm.refl.app,h0.app,_,rfl,rfl⟩
 by_cases c2:no < l.blocks
 case neg =>
  have hu:z98 l C no=false:=by unfold z98; rw [decide_eq_false (by omega),Bool.false_and]
  rw [hu]
  simp (maxSteps:=1000000) (disch:=first|assumption|omega|rfl) only [↓gp,gc,Nat.reduceAdd,ft52,ha,rA0 ha]
  refine qT (is:=[0,1,2,3,4,5,6,7,8,9,10,11,12,13,14,15,16,19,17,18,20,21,22]) (h:=0) (by kernel_rfl) (by kernel_rfl) ?_
  simp (maxSteps:=1000000) (disch:=first|assumption|omega|rfl) only [List.replicate_zero,eq_self,gw,ga,Nat.reduceAdd,↓gq,vso,List.append_nil,rA0 ha,z1c,z0y,z9r,z9q,hck,bo75,zQ]
  refine ⟨by kernel_rfl,?_⟩
  simp (maxSteps:=1000000) (disch:=first|assumption|omega|rfl) only [↓gp,gc,Nat.reduceAdd]
  exact ⟨rfl,_,rfl,Frm.refl.app,h0.app,_,rfl,rfl⟩
 have hu:z98 l C no=hasI (C.see 1) no:=by unfold z98; rw [decide_eq_true ⟨by omega,by omega⟩,Bool.true_and]
 rw [hu]
 have hno:1 < C.img.length:=by have:=hm.1; omega
 obtain ⟨o,S1,⟨hF,hC,u,rfl,hub⟩,hE⟩:=qC (z6z (S ++ [.row [kL l.blocks l.inodes l.merge g] 55]) _ B c r m _ _ _ C h0.app (hv0.keep Keep.refl.app) hB 1 hno)
 have hbk:=fun {ops base K ws cs i dst T}=>jQ (ops:=ops) (base:=base) (K:=K) (ws:=ws) (cs:=cs) (i:=i) (dst:=dst) (T:=T) rfl hE
 simp only [nl1] at hbk
 have hsl:=hC.at.ok.see_len hno
 have hh:=fun {ops base K ws cs i dst T S}=>zwr (ops:=ops) (base:=base) (K:=K) (ws:=ws) (cs:=cs) (i:=i) (dst:=dst) (T:=T) (S:=S) (n:=no) hub hsl
 have hu1:=hub.one
 simp (maxSteps:=1000000) (disch:=first|assumption|omega|rfl) only [↓gp,gc,Nat.reduceAdd,ft52,ha,rA0 ha]
 refine qT (is:=[0,1,2,3,4,5,6,7,8,9,10,11,12,13,14,15,16,19,17,18,20,21,22]) (h:=0) (by kernel_rfl) (by kernel_rfl) ?_
 simp (maxSteps:=1000000) (disch:=first|assumption|omega|rfl) only [List.replicate_zero,eq_self,gw,ga,Nat.reduceAdd,↓gq,vso,List.append_nil,rA0 ha,z1c,z0y,z9r,z9q,lr52,zb8,hck,bo75,zQ,zmm,bo77,hbk,bo49,hu1,hh,bo76]
 refine ⟨?_,by kernel_rfl,?_⟩
 ·repeat first | exact qB | refine zP (by kernel_rfl) ?_
 simp (maxSteps:=1000000) (disch:=first|assumption|omega|rfl) only [↓gp,gc,Nat.reduceAdd]
 exact ⟨rfl,_,rfl,(Frm.refl.app).trans hF,hC,_,rfl,rfl⟩
def allV (x gm:Nat):V:= .agg [.ref x 0 0,.mr gm]
section
variable {x gm d y z:Nat}
theorem q12:wX Tryz.prog 116 [(0,.ref x 0 0),(1,.mr gm)]=some (allV x gm):=by kernel_rfl
theorem q16:qA Tryz.prog 116 (allV x gm)=true:=by kernel_rfl
theorem z0c:zX Tryz.prog 116 0 (.ref d y z)=some (.ref d y (z + 0)):=by kernel_rfl
theorem z5m:zX Tryz.prog 116 1 (.ref d y z)=some (.ref d y (z + 1)):=by kernel_rfl
theorem kP:qZ Tryz.prog 49 0 (some (allV x gm))=some (.ref x 0 0):=by kernel_rfl
theorem z2r:qZ Tryz.prog 114 1 (some (allV x gm))=some (.mr gm):=by kernel_rfl
theorem zej:binV Tryz.prog .eql 35 (.ref d y z) (.d .nilp)=some (.d (.bool false)):=by kernel_rfl
end
theorem zji (S:zA) (x:Nat):EvS cfg 32 [.ref x 0 0] S (fun o S'=>S'=S ++ [.mp [] 0,.row [allV x S.length] 116]∧o = .ret (.ref (S.length + 1) 0 0)):=by
 refine qE rfl zyl ?_
 show Wp cfg (Tryz.f32.body.getD .skip) ((.ref x 0 0)::(.tup [])::(.tup [])::(.tup [])::(.tup [])::(.tup [])::(.tup [])::(.tup [])::(.tup [])::[]) S [] _
 conv=>arg 2; whnf
 rw [zO]
 simp (maxSteps:=1000000) (disch:=first|assumption|omega|rfl) only [↓gp,gc,Nat.reduceAdd,↓z1k,zmw,q12,q16,List.append_assoc,List.length_append,List.length_cons,List.length_nil]
 exact ⟨rfl,_,rfl,rfl,rfl⟩
structure AskF (m r:Nat) (g:FuncId) (caps:List V) (A:Nat) (J:List Nat→zA→Prop) (more:Bool):Prop where
 call : ∀ (S:zA) (l:List Nat) (n:Nat),J l S→EvS cfg g (.d (.int .i64 (n:Int))::caps) S (fun o S'=>o = .ret (.d (.bool more))∧J (l ++ [n]) S'∧S.length ≤ S'.length ∧ ∀ (j:Nat) (o:Ob),S[j]? = some o→(j < A ∨ ∀ (xs:List V) (e:TypeId),o=Ob.row xs e→e ≠ 3∧e ≠ 4)→S'[j]? = some o)
 keep : ∀ (S S':zA) (l:List Nat),J l S→FrC m r S S'→J l S'
 bo:(zB Tryz.prog g).isSome=true
 sh:cfg.shared g=true
def FrA (m r A:Nat) (S S':zA):Prop:=S.length ≤ S'.length ∧ ∀ (j:Nat) (o:Ob),j < A→S[j]? = some o→calm caT [m] 42 r j o=true→S'[j]? = some o
theorem FrA.of {m r A:Nat} {S S':zA} (h:FrC m r S S'):FrA m r A S S':=⟨h.1,fun j o _ hj hc=>h.2 j o hj hc⟩
theorem FrA.trans {m r A:Nat} {S S' S'':zA} (h:FrA m r A S S') (h':FrA m r A S' S''):FrA m r A S S'':=⟨Nat.le_trans h.1 h'.1,fun j o hA hj hc=>h'.2 j o hA (h.2 j o hA hj hc) hc⟩
def frN (f:Nat→Ino) (i:Nat):List Nat:=(List.range i).filter fun n=>decide (2 ≤ n∧(f n).kind=0)
theorem z74 {f:Nat→Ino} {i:Nat} (hi:2 ≤ i):frN f (i + 1)=frN f i ++ if (f i).kind=0 then [i] else []:=by
 unfold frN
 rw [List.range_succ,List.filter_append]
 by_cases h:(f i).kind=0
 ·simp [h,hi]
 ·simp [h]
theorem zm4 {f:Nat→Ino}:frN f 2=[]:=by
 unfold frN
 rw [List.filter_eq_nil_iff]
 intro n hn
 have:=List.mem_range.1 hn
 simp only [decide_eq_true_eq]
 omega
theorem zk6 {f:Nat→Ino} : ∀ {k i:Nat},2 ≤ i → ∃ t,frN f (i + k)=frN f i ++ t
 | 0,i,_=>⟨[],by simp⟩
 | k + 1,i,h=>by
  obtain ⟨t,ht⟩:=zk6 (k:=k) h
  exact ⟨t ++ _,by rw [← Nat.add_assoc,z74 (by omega),ht,List.append_assoc]⟩
theorem cvF {g:FuncId} {caps:List V} {n:Int} (h:(zB Tryz.prog g).isSome=true):cvV Tryz.prog [.d (.int .i64 n)] (.fn (.func g) [] caps)=some (.enter g (.d (.int .i64 n)::caps)):=zhl rfl h
theorem zp8 (B c r m y a1 A:Nat) (l:Lay) (C:CS) (vv:V) (g:FuncId) (caps:List V) (J:List Nat→zA→Prop) (more:Bool) (ha:AskF m r g caps A J more) (hBA:B ≤ A) (haA:A ≤ a1) (hB:l.blocks=C.img.length) (hb:InB l.blocks) (hi:InB l.inodes) (hm:MayL l) (f:Nat→Ino) (hcl : ∀ ino:Nat,2 ≤ ino→(ino:Int) ≤ l.inodes → ∃ bb,Ev cfg 123 [blkD (wJ (C.see (2 + (ino - 1) / 8)) ((ino - 1) % 8))] (.ret (.tup [.d (wE (f ino)),.d (.bool bb)]))) (N:Nat) (hN:l.inodes=N) (R:Post) (S0:zA) :
 ∀ (k i:Nat) (S:zA) (g2 g3 g6 g7 g8 g9 gK gF gD gB gC gA gE gL gM gG gJ gN gI gH gO gP gT gQ gU gR gS:V),N + 1 - i=k→2 ≤ i→i ≤ N + 1→CacheIn S B c r m C→ViewAt S vv c l.blocks l.inodes l.merge→S[a1]? = some (.row [vv] 55)→J (frN f i) S→(more=false→frN f i=[])→FrA m r A S0 S →
 (∀ S' i' g2 g3 g6 g7 g8 g9 gK gF gD gB gC gA gE gL gM gG gJ gN gI gH gO gP gT gQ gU gR gS,CacheIn S' B c r m C→FrA m r A S0 S'→J (if more then frN f (N + 1) else (frN f (N + 1)).take 1) S'→R (.exit 0) ((.ref y 0 0)::(.fn (.func g) [] caps)::g2::g3::(.ref a1 0 0)::i'::g6::g7::g8::g9::gK::gF::gD::gB::gC::gA::gE::gL::gM::gG::gJ::gN::gI::gH::gO::gP::gT::gQ::gU::gR::gS::[]) S' []) →
 (∀ S' i' g2 g3 g6 g7 g8 g9 gK gF gD gB gC gA gE gL gM gG gJ gN gI gH gO gP gT gQ gU gR gS,CacheIn S' B c r m C→FrA m r A S0 S'→J (if more then frN f (N + 1) else (frN f (N + 1)).take 1) S'→R .ret ((.ref y 0 0)::(.fn (.func g) [] caps)::g2::g3::(.ref a1 0 0)::i'::g6::g7::g8::g9::gK::gF::gD::gB::gC::gA::gE::gL::gM::gG::gJ::gN::gI::gH::gO::gP::gT::gQ::gU::gR::gS::[]) S' []) →
 Wp cfg (.loop (lpOf (Tryz.f104.body.getD .skip) 0)) ((.ref y 0 0)::(.fn (.func g) [] caps)::g2::g3::(.ref a1 0 0)::(.d (.int .i64 (i:Int)))::g6::g7::g8::g9::gK::gF::gD::gB::gC::gA::gE::gL::gM::gG::gJ::gN::gI::gH::gO::gP::gT::gQ::gU::gR::gS::[]) S [] R:=by
 intro k
 have hN1:N ≤ 128:=by have:=hm.2.2.2.1; omega
 induction k with
 | zero =>
  intro i S g2 g3 g6 g7 g8 g9 gK gF gD gB gC gA gE gL gM gG gJ gN gI gH gO gP gT gQ gU gR gS hk hi2 hiN hC hV h52 hJ hmo hFA hR hR2
  have hie:i=N + 1:=by omega
  subst hie
  obtain ⟨gg,rfl,hg⟩:=hV
  have hr52:=zD (e:=55) h52
  have hle : ¬ (((N + 1:Nat):Int)) ≤ l.inodes:=by omega
  rw [zO]
  refine zN ?_
  conv=>arg 2; whnf
  simp (maxSteps:=1000000) (disch:=first|assumption|omega|rfl) only [↓gp,gc,Nat.reduceAdd,z1c,zgm,hr52,zly]
  refine hR _ _ _ _ _ _ _ _ _ _ _ _ _ _ _ _ _ _ _ _ _ _ _ _ _ _ _ _ _ hC hFA ?_
  cases more with
  | true=>exact hJ
  | false=>rw [hmo rfl] at hJ ⊢; exact hJ
 | succ k ih =>
  intro i S g2 g3 g6 g7 g8 g9 gK gF gD gB gC gA gE gL gM gG gJ gN gI gH gO gP gT gQ gU gR gS hk hi2 hiN hC hV h52 hJ hmo hFA hR hR2
  have hV0:=hV
  obtain ⟨gg,rfl,hg⟩:=hV
  have hr52:=zD (e:=55) h52
  have hle:(i:Int) ≤ l.inodes:=by omega
  obtain ⟨bb,hcl1⟩:=hcl i hi2 hle
  obtain ⟨o,S1,⟨hF,hC1,w,rfl,rfl⟩,hin⟩:=vZ rfl (zk9 S _ B c r m l C hC hV0 hB hb hi hm i (by omega) hle (f i) bb hcl1)
  have hin:=fun {ops dst k T F Q}=>hin _ rfl (ops:=ops) (dst:=dst) (k:=k) (T:=T) (F:=F) (Q:=Q)
  have hw:IntKind.i64.wrap ((i:Int) + 1)=((i + 1:Nat):Int):=by rw [wrap64 (by omega)]; omega
  have hJ1:=ha.keep _ _ _ hJ hF
  have h52b:=hF.row h52 rfl
  have hVb:=hV0.frm hF rfl
  have hFA1:=hFA.trans (FrA.of (A:=A) hF)
  rw [zO]
  refine zN ?_
  conv=>arg 2; whnf
  by_cases h0:(f i).kind=0
  ·have hde : ∀ i':Decidable ((f i).kind=0),@decide ((f i).kind=0) i'=true:=fun i'=>decide_eq_true h0
   obtain ⟨o,S2,⟨rfl,hJ2,hl2,hk2⟩,hcall⟩:=qC (ha.call S1 _ i hJ1)
   have hcall:=fun {ops dst k T F Q}=>zF (ops:=ops) (dst:=dst) (l:=k) (T:=T) (F:=F) (Q:=Q) ha.sh hcall
   have hcv:=cvF (g:=g) (caps:=caps) (n:=(i:Int)) ha.bo
   simp (maxSteps:=1000000) (disch:=first|assumption|omega|rfl) only [↓gp,gc,Nat.reduceAdd,↓wZ,z1c,zgm,hr52,zly,lr52,zb8,hin,bo33,fdI,hde,hcv,hcall,hw]
   have hC2:CacheIn S2 B c r m C:=⟨Nat.le_trans hC1.1 hl2,hC1.2.keep (fun j p hj=>z8v (hk2 j p (z00 _ _ hj) (.inl (Nat.lt_of_lt_of_le (z16 hj) hBA))) (z16 hj))⟩
   have h52c:=hk2 _ _ h52b (.inr fun xs e he=>by cases he; exact ⟨by decide,by decide⟩)
   have hVc:ViewAt S2 (kL l.blocks l.inodes l.merge gg) c l.blocks l.inodes l.merge:=by
    obtain ⟨g',e1,e2⟩:=hVb
    exact ⟨g',e1,hk2 _ _ e2 (.inr fun xs e he=>by cases he; exact ⟨by decide,by decide⟩)⟩
   have hFA2:FrA m r A S0 S2:=hFA1.trans ⟨hl2,fun j p hj hp _=>hk2 j p hp (.inl hj)⟩
   have hsu:=z74 (f:=f) hi2
   rw [if_pos h0] at hsu
   cases more with
   | true =>
    simp (maxSteps:=1000000) (disch:=first|assumption|omega|rfl) only [↓gp,gc,Nat.reduceAdd,Bool.not_true,hw]
    exact ih (i + 1) S2 _ _ _ _ _ _ _ _ _ _ _ _ _ _ _ _ _ _ _ _ _ _ _ _ _ _ _ (by omega) (by omega) (by omega) hC2 hVc h52c (by rw [hsu]; exact hJ2) (fun hh=>by cases hh) hFA2 hR hR2
   | false =>
    simp (maxSteps:=1000000) (disch:=first|assumption|omega|rfl) only [↓gp,gc,Nat.reduceAdd,Bool.not_false]
    refine hR2 _ _ _ _ _ _ _ _ _ _ _ _ _ _ _ _ _ _ _ _ _ _ _ _ _ _ _ _ _ hC2 hFA2 ?_
    rw [if_neg (by decide)]
    rw [hmo rfl,List.nil_append] at hsu hJ2
    obtain ⟨t,ht⟩:=zk6 (f:=f) (k:=k) (i:=i + 1) (by omega)
    have hNk:N + 1=i + 1 + k:=by omega
    rw [hNk,ht,hsu]
    exact hJ2
  ·have hde : ∀ i':Decidable ((f i).kind=0),@decide ((f i).kind=0) i'=false:=fun i'=>decide_eq_false h0
   simp (maxSteps:=1000000) (disch:=first|assumption|omega|rfl) only [↓gp,gc,Nat.reduceAdd,z1c,zgm,hr52,zly,lr52,zb8,hin,bo33,fdI,hde,hw]
   refine ih (i + 1) S1 _ _ _ _ _ _ _ _ _ _ _ _ _ _ _ _ _ _ _ _ _ _ _ _ _ _ _ (by omega) (by omega) (by omega) hC1 hVb h52b ?_ ?_ hFA1 hR hR2
   ·rw [z74 hi2,if_neg h0,List.append_nil]; exact hJ1
   ·rw [z74 hi2,if_neg h0,List.append_nil]; exact hmo
structure SeenAt (S:zA) (B y x c r m mk gm:Nat) (l:Lay) (e:Int) (C:CS):Prop where
 hy:S[y]? = some (.row [allV x gm] 116)
 hx:S[x]? = some (.row [stoV c mk l.blocks l.inodes l.merge e] 122)
 ca:CacheIn S B c r m C
theorem SeenAt.keep {S S':zA} {B y x c r m mk gm:Nat} {l:Lay} {e:Int} {C:CS} (h:SeenAt S B y x c r m mk gm l e C) (hk:Keep S S'):SeenAt S' B y x c r m mk gm l e C:=⟨hk _ _ h.hy,hk _ _ h.hx,h.ca.keep hk⟩
theorem zri:zB Tryz.prog 104=some ⟨(Tryz.f104.body.getD .skip),31, #[]⟩:=by
 unfold zB
 rw [Tryz.func104]
 rfl
theorem zlo (S:zA) (B y x c r m mk gm A:Nat) (l:Lay) (e:Int) (C:CS) (h:SeenAt S B y x c r m mk gm l e C) (g:FuncId) (caps:List V) (J:List Nat→zA→Prop) (more:Bool) (ha:AskF m r g caps A J more) (hBA:B ≤ A) (haA:A ≤ S.length) (hB:l.blocks=C.img.length) (hb:InB l.blocks) (hi:InB l.inodes) (hm:MayL l) (f:Nat→Ino) (hcl : ∀ ino:Nat,2 ≤ ino→(ino:Int) ≤ l.inodes → ∃ bb,Ev cfg 123 [blkD (wJ (C.see (2 + (ino - 1) / 8)) ((ino - 1) % 8))] (.ret (.tup [.d (wE (f ino)),.d (.bool bb)]))) (N:Nat) (hN:l.inodes=N) (hJ:J [] S) :
  EvS cfg 104 [.ref y 0 0,.fn (.func g) [] caps] S (fun o S'=>o = .ret (.tup [])∧CacheIn S' B c r m C∧FrA m r A S S'∧J (if more then frN f (N + 1) else (frN f (N + 1)).take 1) S'):=by
 refine qE rfl zri ?_
 show Wp cfg (Tryz.f104.body.getD .skip) ((.ref y 0 0)::(.fn (.func g) [] caps)::uZ (uZ ((.tup [])::(.tup [])::(.tup [])::(.tup [])::(.tup [])::(.tup [])::(.tup [])::(.tup [])::(.tup [])::[]))) S [] _
 unfold uZ
 conv=>arg 2; whnf
 rw [zO]
 have hry:=zD (e:=116) h.hy
 obtain ⟨o,S1,⟨hK,v,rfl,hv⟩,hview⟩:=qC (zbr S x c mk l.blocks l.inodes l.merge e h.hx)
 have hview:=fun {ops dst k T F Q}=>zF (ops:=ops) (dst:=dst) (l:=k) (T:=T) (F:=F) (Q:=Q) rfl hview
 obtain ⟨gg,rfl,hg⟩:=hv
 generalize ha1:S1.length=a1
 have hN2:8 ≤ N:=by have:=hm.2.2.1; omega
 have hKa:Keep S (S1 ++ [.row [kL l.blocks l.inodes l.merge gg] 55]):=hK.app
 have h52:(S1 ++ [.row [kL l.blocks l.inodes l.merge gg] 55])[a1]? = some (.row [kL l.blocks l.inodes l.merge gg] 55):=by rw [← ha1]; simp
 simp (maxSteps:=1000000) (disch:=first|assumption|omega|rfl) only [↓gp,gc,Nat.reduceAdd,zej,z0c,hry,kP,hview,bo27,z52,zf52,zb8,ha1,rA0 ha1,pA0 ha1,sr52]
 refine zp8 B c r m y a1 A l C (kL l.blocks l.inodes l.merge gg) g caps J more ha hBA (by have:=hK.len; omega) hB hb hi hm f hcl N hN _ S (N + 1 - 2) 2 _ _ _ _ _ _ _ _ _ _ _ _ _ _ _ _ _ _ _ _ _ _ _ _ _ _ _ _ rfl (Nat.le_refl _) (by omega) (h.ca.keep hKa) ⟨gg,rfl,by rw [List.getElem?_append_left (zL hg)]; exact hg⟩ h52 (by rw [zm4]; exact ha.keep _ _ _ hJ (Frm.keep hKa)) (fun _=>zm4) (FrA.of (Frm.keep hKa)) ?_ ?_
 ·intro S' i' g2 g3 g6 g7 g8 g9 gK gF gD gB gC gA gE gL gM gG gJ gN gI gH gO gP gT gQ gU gR gS hC' hF' hJ'
  simp (maxSteps:=1000000) (disch:=first|assumption|omega|rfl) only [↓gp,gc,Nat.reduceAdd]
  exact ⟨rfl,_,rfl,rfl,hC',hF',hJ'⟩
 ·intro S' i' g2 g3 g6 g7 g8 g9 gK gF gD gB gC gA gE gL gM gG gJ gN gI gH gO gP gT gQ gU gR gS hC' hF' hJ'
  simp (maxSteps:=1000000) (disch:=first|assumption|omega|rfl) only [↓gp,gc,Nat.reduceAdd]
  exact ⟨rfl,_,rfl,rfl,hC',hF',hJ'⟩
def cntJ (n0:Nat) (l:List Nat) (S:zA):Prop:= ∃ v:Int,S[n0]? = some (.row [.d (.int .i64 v)] 3)∧(l.length ≤ 1000000→v=l.length)
theorem ziw (m r A n0:Nat) (hA:A ≤ n0):AskF m r 105 [.ref n0 0 0] A (cntJ n0) true:=by
 refine ⟨?_,?_,q1p,rfl⟩
 ·rintro S l n ⟨v,hv,hl⟩
  refine qE rfl zrk ?_
  show Wp cfg (Tryz.f105.body.getD .skip) ((.d (.int .i64 (n:Int)))::(.ref n0 0 0)::(.tup [])::(.tup [])::(.tup [])::(.tup [])::[]) S [] _
  conv=>arg 2; whnf
  rw [zO]
  have hr:=zD (e:=3) hv
  have hp:=fun y=>qH (y:=y) (e:=3) hv
  simp (maxSteps:=1000000) (disch:=first|assumption|omega|rfl) only [↓vmp,vme,vmb,ty,hP,zrl,zt2,List.length_map,Int.toNat_natCast,Nat.reduceAdd,List.cons_append,List.nil_append,Option.map_some,Option.map_none,zay,zko,zkr,vmg,↓vgd,↓vst,↓vix,hr,hp,ld3r,st3]
  refine ⟨rfl,_,rfl,rfl,⟨_,List.getElem?_set_self (zL hv),fun hh=>?_⟩,by rw [List.length_set]; exact Nat.le_refl _,?_⟩
  ·rw [List.length_append,List.length_singleton] at hh
   rw [hl (by omega),wrap64 (by omega),List.length_append,List.length_singleton]
   omega
  ·intro j o hj hc
   rw [List.getElem?_set_ne]
   ·exact hj
   ·rintro rfl
    rcases hc with hc | hc
    ·omega
    ·exact absurd rfl (hc _ _ (getE hj hv)).1
 ·rintro S S' l ⟨v,hv,hl⟩ hF
  exact ⟨v,hF.row hv rfl,hl⟩
def fstJ (p q:Nat) (l:List Nat) (S:zA):Prop:= ∃ (v:Int) (b:Bool),S[p]? = some (.row [.d (.int .i64 v)] 3)∧S[q]? = some (.row [.d (.bool b)] 4)∧(l=[]→v=0∧b=false) ∧ ∀ n,l.getLast? = some n→v=n∧b=true
theorem zjs (m r A p q:Nat) (hp:A ≤ p) (hq:A ≤ q) (hpq:p ≠ q):AskF m r 130 [.ref p 0 0,.ref q 0 0] A (fstJ p q) false:=by
 refine ⟨?_,?_,q07,rfl⟩
 ·rintro S l n ⟨v,b,hv,hb,hl⟩
  refine qE rfl ztq ?_
  show Wp cfg (Tryz.f130.body.getD .skip) ((.d (.int .i64 (n:Int)))::(.ref p 0 0)::(.ref q 0 0)::(.tup [])::(.tup [])::(.tup [])::[]) S [] _
  conv=>arg 2; whnf
  rw [zO]
  have hr:=zD (e:=3) hv
  have hpp:=fun y=>qH (y:=y) (e:=3) hv
  have hb2 : ∀ o,(S.set p o)[q]? = some (.row [.d (.bool b)] 4):=fun o=>by rw [List.getElem?_set_ne hpq]; exact hb
  have hr2:=fun o=>zD (e:=4) (hb2 o)
  have hp2:=fun o y=>qH (y:=y) (e:=4) (hb2 o)
  simp (maxSteps:=1000000) (disch:=first|assumption|omega|rfl) only [↓gp,gc,Nat.reduceAdd,hr,hpp,st3,hr2,hp2,st4b]
  refine ⟨rfl,_,rfl,rfl,⟨n,true,?_,List.getElem?_set_self (by rw [List.length_set]; exact zL hb),fun hh=>by simp at hh,fun k hk=>?_⟩,by rw [List.length_set,List.length_set]; exact Nat.le_refl _,?_⟩
  ·rw [List.getElem?_set_ne (Ne.symm hpq),List.getElem?_set_self (zL hv)]
  ·have:(l ++ [n]).getLast? = some n:=by simp
   rw [this] at hk
   cases hk
   exact ⟨rfl,rfl⟩
  ·intro j o hj hc
   rw [List.getElem?_set_ne,List.getElem?_set_ne]
   ·exact hj
   ·rintro rfl
    rcases hc with hc | hc
    ·omega
    ·exact absurd rfl (hc _ _ (getE hj hv)).1
   ·rintro rfl
    rcases hc with hc | hc
    ·omega
    ·exact absurd rfl (hc _ _ (getE hj hb)).2
 ·rintro S S' l ⟨v,b,hv,hb,hl⟩ hF
  exact ⟨v,b,hF.row hv rfl,hF.row hb rfl,hl⟩
theorem q17 {S:zA} {a:Nat}:mfS (.func 105) S [] [.ref a 0 0]=some (.val (.fn (.func 105) [] [.ref a 0 0]) S 0):=z15 rfl
theorem q0i {S:zA} {a b:Nat}:mfS (.func 130) S [] [.ref a 0 0,.ref b 0 0]=some (.val (.fn (.func 130) [] [.ref a 0 0,.ref b 0 0]) S 0):=z15 rfl
theorem z8k {f:Fn} {a b:List V}:(V.fn f a b).one=true:=rfl
theorem zt9 {f:Nat→Ino} {i:Nat}:(frN f i).length ≤ i:=Nat.le_trans (List.length_filter_le ..) (by simp)
section
variable (S:zA) (B y x c r m mk gm:Nat) (l:Lay) (e:Int) (C:CS) (h:SeenAt S B y x c r m mk gm l e C) (hB:l.blocks=C.img.length) (hb:InB l.blocks) (hi:InB l.inodes) (hm:MayL l) (f:Nat→Ino) (hcl : ∀ ino:Nat,2 ≤ ino→(ino:Int) ≤ l.inodes → ∃ bb,Ev cfg 123 [blkD (wJ (C.see (2 + (ino - 1) / 8)) ((ino - 1) % 8))] (.ret (.tup [.d (wE (f ino)),.d (.bool bb)]))) (N:Nat) (hN:l.inodes=N)
include h hB hb hi hm hcl hN
theorem zid:EvS cfg 64 [.ref y 0 0] S (fun o S'=>o = .ret (.d (.int .i64 ((frN f (N + 1)).length:Int)))∧CacheIn S' B c r m C∧FrC m r S S'):=by
 refine qE rfl zyy ?_
 show Wp cfg (Tryz.f64.body.getD .skip) ((.ref y 0 0)::(.tup [])::(.tup [])::(.tup [])::(.tup [])::(.tup [])::(.tup [])::(.tup [])::[]) S [] _
 conv=>arg 2; whnf
 rw [zO]
 generalize ha:S.length=a
 have hN1:N ≤ 128:=by have:=hm.2.2.2.1; omega
 have hBS:=h.ca.1
 obtain ⟨o,S2,⟨rfl,hC,hF,v,hv,hvl⟩,hE⟩:=qC (zlo (S ++ [.row [.d (.int .i64 0)] 3]) B y x c r m mk gm a l e C (h.keep Keep.refl.app) _ _ _ _ (ziw m r a a (Nat.le_refl _)) (by omega) (by simp; omega) hB hb hi hm f hcl N hN ⟨0,by rw [← ha]; simp,fun _=>rfl⟩)
 have hE:=fun {ops dst k T F Q}=>zF (ops:=ops) (dst:=dst) (l:=k) (T:=T) (F:=F) (Q:=Q) rfl hE
 have hr:=zD (e:=3) hv
 simp (maxSteps:=1000000) (disch:=first|assumption|omega|rfl) only [↓gp,gc,Nat.reduceAdd,z3,ha,rA0 ha,pA0 ha,st3,jM,q17,z8k,hE,zym,hr,ld3r]
 have hl:=zt9 (f:=f) (i:=N + 1)
 rw [if_pos rfl] at hvl
 refine ⟨rfl,.d (.int .i64 v),rfl,by rw [hvl (by omega)],hC,by have:=hF.1; simp at this; omega,fun j p hj hc=>?_⟩
 have hjl:=zL hj
 exact hF.2 j p (by omega) (by rw [List.getElem?_append_left hjl]; exact hj) hc
end
def C0 (B I M K:Nat):CS:=⟨(List.range B).map (finB B I M K),[],0⟩
theorem zpz {B I M K i:Nat} (h:i < B):(C0 B I M K).img[i]? = some (finB B I M K i):=by
 unfold C0
 simp [h]
theorem z8u {B I M K:Nat}:(C0 B I M K).img.length=B:=by unfold C0; simp
theorem zwx (B I M K i:Nat):(finB B I M K i).length=256:=by
 unfold finB
 split
 ·exact z5a ..
 ·split
  ·exact z10 ..
  ·exact zkk _
theorem q0h {B I M K:Nat} (h:B ≤ 512):(C0 B I M K).Ok:=by
 refine ⟨by rw [z8u]; exact h,?_,by simp [C0],by simp [C0],by simp [C0]⟩
 intro b hb
 obtain ⟨i,_,rfl⟩:=List.mem_map.1 hb
 exact zwx ..
theorem zgh (S:zA) (l:Lay) (B I M K:Nat) (hl:l=⟨(B:Int),(I:Int),(M:Int)⟩) (hB:B ≤ 512) (hI:I ≤ 128) (hM:M < 18446744073709551616) (hm:MayL l) (hK:2 + l.inodes.tdiv 8=((2 + K:Nat):Int)) (hK16:K ≤ 16) (hKB:2 + K < B) :
  EvS cfg 53 [.d (encLay l)] S (fun o S'=>Keep S S' ∧ ∃ d x c r m mk,o = .ret (.tup [.ref d 0 0,.ref x 0 0])∧StoreP S' x c r m mk l 0 (C0 B I M K) (fun _=>none)∧d=r + 1):=by
 have hB16:16 ≤ B:=by have:=hm.1; rw [hl] at this; simp only at this; omega
 refine qE rfl zwn ?_
 show Wp cfg (Tryz.f53.body.getD .skip) ((.d (encLay l))::uZ (uZ ((.tup [])::[]))) S [] _
 unfold uZ
 conv=>arg 2; whnf
 rw [zO]
 generalize ha:S.length=a
 have hlb:l.blocks=(B:Int):=by rw [hl]
 obtain ⟨o1,S1,hR1,hn⟩:=qC (zxl (S ++ [.row [.d (encLay l)] 32]) B hB16 (by omega))
 obtain ⟨hS1,rfl⟩:=hR1
 have hn:=fun {ops dst k T F Q}=>zF (ops:=ops) (dst:=dst) (l:=k) (T:=T) (F:=F) (Q:=Q) rfl hn
 simp only [List.append_assoc,List.length_append,List.length_cons,List.length_nil,ha,List.cons_append,List.nil_append] at hS1 hn
 have hD1:DskAt S1 (a + 2) (a + 1) (List.replicate B (blkV (zK 256))) 0 false false 0 0:=by
  rw [hS1]
  refine ⟨?_,?_,by omega⟩
  ·rw [List.getElem?_append_right (by omega),ha,Nat.add_sub_cancel_left,List.length_replicate]; rfl
  ·rw [List.getElem?_append_right (by omega),ha,Nat.add_sub_cancel_left]; rfl
 have hKS1:Keep S S1:=hS1 ▸ Keep.refl.app
 have hlay1:S1[a]? = some (.row [.d (encLay l)] 32):=by rw [hS1,List.getElem?_append_right (by omega),ha,Nat.sub_self]; rfl
 obtain ⟨o,S2,hR2,hf⟩:=qC (zx7 l B I M K hl hB hI hM hm hK hK16 hKB S1 (a + 2) (a + 1) 0 ⟨by omega,by unfold InB; omega⟩ false hD1)
 have hR2:o = .ret (.d (.int .i64 0)) ∧ ∃ vs f w,K2 (a + 2) (a + 1) S1 S2∧DskAt S2 (a + 2) (a + 1) vs f false false w 0∧vs.length=B∧(∀ (i:Nat) (v:V),vs[i]? = some v→IsB v (finB B I M K i))∧(false=false→0 ≤ f∧InB f∧0 ≤ w∧w ≤ 100):=by
  rcases hR2 with ⟨_,h2,h3⟩ | ⟨⟨h1,_⟩,_⟩
  ·exact ⟨h2,h3⟩
  ·cases h1
 obtain ⟨rfl,vs,f,w,hK2,hD2,hvl,hV,hfw⟩:=hR2
 obtain ⟨f1,f2,w1,w2⟩:=hfw rfl
 have hf:=fun {ops dst k T F Q}=>zF (ops:=ops) (dst:=dst) (l:=k) (T:=T) (F:=F) (Q:=Q) rfl hf
 have hv0:=hV 0 (vs[0]'(by omega)) (List.getElem?_eq_getElem (by omega))
 have hfin0:finB B I M K 0=supB B I M:=if_pos rfl
 rw [hfin0] at hv0
 obtain ⟨o,S3,⟨hK3,hD3,x,c,mk,m,rfl,hx,hc,hm0,hmk,hne⟩,hmt⟩:=qC (zi1 S2 (a + 2) (a + 1) vs f w false B I M hB hI hM (by rw [← hl]; exact hm) hD2 _ (List.getElem?_eq_getElem (by omega)) hv0 hvl)
 have hmt:=fun {ops dst k T F Q}=>zF (ops:=ops) (dst:=dst) (l:=k) (T:=T) (F:=F) (Q:=Q) rfl hmt
 have hrl:=zD (e:=32) hlay1
 simp (maxSteps:=1000000) (disch:=first|assumption|omega|rfl) only [↓gp,gc,Nat.reduceAdd,ha,rA0 ha,z0y,z3m,hlb,hn,zvm,hrl,lr32,hf,zvl,hmt,bo31]
 refine ⟨rfl,_,z0z rfl rfl rfl rfl,fun j o hj=>?_,a + 1 + 1,x,c,a + 1,m,mk,rfl,⟨(by rw [hl]; exact hx),⟨a + 2,.ts [],[],vs,fun _=>none,f,w.toNat,1,⟨hc,MpI.nil hm0,?_,⟨f1,f2⟩,?_,?_,?_,.inl ⟨rfl,rfl⟩,⟨rfl,?_⟩,?_,q0h hB,fun ch hch=>(by cases hch),rfl⟩,by omega⟩,MpI.nil hmk,hne,?_⟩,rfl⟩
 ·have:=zL hj
  exact hK3 j o (by omega) (by omega) (hK2 j o (by omega) (by omega) (hKS1 j o hj))
 ·have hw:((w.toNat:Nat):Int)=w:=by omega
  rw [hw]
  exact hD3
 ·rw [hvl,z8u]
 ·intro i v b hv hb
  have hi:i < B:=by have:=(List.getElem?_eq_some_iff.1 hv).1; omega
  rw [zpz hi] at hb
  cases hb
  exact hV i v hv
 ·intro no v hh
  cases hh
 ·intro i e ch he
  cases he
 ·show w.toNat + 0 ≤ 0 + 100
  omega
 ·rw [hlb,z8u]
theorem zzo:zB Tryz.prog 67=some ⟨(Tryz.f67.body.getD .skip),37, #[]⟩:=by
 unfold zB
 rw [Tryz.func67]
 rfl
theorem q0y {S:zA} {a:Nat}:mfS (.func 68) S [] [.ref a 0 0]=some (.val (.fn (.func 68) [] [.ref a 0 0]) S 0):=z15 rfl
theorem zkp (S:zA) (l:Lay) (B I M K:Nat) (hl:l=⟨(B:Int),(I:Int),(M:Int)⟩) (hB:B ≤ 512) (hI:I ≤ 128) (hM:M < 18446744073709551616) (hm:MayL l) (hK:2 + l.inodes.tdiv 8=((2 + K:Nat):Int)) (hK16:K ≤ 16) (hKB:2 + K < B) :
  EvS cfg 18 [.d (encLay l)] S (fun o S'=>Keep S S' ∧ ∃ y x c r m mk gm,o = .ret (.ref y 0 0)∧S'[y]? = some (.row [allV x gm] 116)∧S'[gm]? = some (.mp [] 0)∧gm ≠ m∧gm ≠ mk∧StoreP S' x c r m mk l 0 (C0 B I M K) (fun _=>none)):=by
 refine qE rfl zw4 ?_
 show Wp cfg (Tryz.f18.body.getD .skip) ((.d (encLay l))::uZ ((.tup [])::[])) S [] _
 unfold uZ
 conv=>arg 2; whnf
 rw [zO]
 generalize ha:S.length=a
 obtain ⟨o,S2,⟨hK2,d,x,c,r,m,mk,rfl,hS,_⟩,hE⟩:=qC (zgh (S ++ [.row [.d (encLay l)] 32]) l B I M K hl hB hI hM hm hK hK16 hKB)
 have hE:=fun {ops dst k T F Q}=>zF (ops:=ops) (dst:=dst) (l:=k) (T:=T) (F:=F) (Q:=Q) rfl hE
 have hN:=fun {ops dst k T F Q}=>zF (ops:=ops) (dst:=dst) (l:=k) (T:=T) (F:=F) (Q:=Q) rfl (zji S2 x)
 simp (maxSteps:=1000000) (disch:=first|assumption|omega|rfl) only [↓gp,gc,Nat.reduceAdd,ha,rA0 ha,lr32,hE,bo53,hN,bo32]
 have h1:(S2 ++ [Ob.mp [] 0,.row [allV x S2.length] 116])[S2.length]? = some (.mp [] 0):=by rw [List.getElem?_append_right (by omega),Nat.sub_self]; rfl
 have h2:(S2 ++ [Ob.mp [] 0,.row [allV x S2.length] 116])[S2.length + 1]? = some (.row [allV x S2.length] 116):=by rw [List.getElem?_append_right (by omega),Nat.add_sub_cancel_left]; rfl
 have hm1:m < S2.length:=by
  obtain ⟨_,_,_,_,_,_,_,_,h,_⟩:=hS.ca
  exact h.hm.lt
 have hm2:=hS.mp.lt
 exact ⟨rfl,_,rfl,(Keep.refl.app.trans hK2).app,_,x,c,r,m,mk,S2.length,rfl,h2,h1,by omega,by omega,hS.keep Keep.refl.app⟩
end Go.Proofs.YtobgdmgldagjkaaGreat
end
section
namespace Go.Vm
theorem zj3 {y d k:Nat} (h:k ≤ y):kF y (some (.d (.int .i64 (k:Int)))) d=some k:=by
 have:=zo0 (n:=y) (d:=d) (i:=(k:Int)) (by omega) (by omega)
 rw [this,Int.toNat_natCast]
theorem zls {P:Program} {S:zA} {t e:TypeId} {v z:V} {l:List V} {k:Nat} (hu:P.underlying t=some (.slice e)) (hz:(sz P e).isSome=true) (hf : ∀ x ∈ l ++ [z],qA P e x=true) (h:OwnS S v e (l ++ [z])) (hk:k ≤ l.length) (hi:intT P t=false) : ∃ id,v = .rs id 0 (l.length + 1)∧S[id]? = some (.row (l ++ [z]) e) ∧
  vF P S t v (some (.d (.int .i64 ((k + 1:Nat):Int)))) none=some (.rs id (k + 1) (l.length - k)) ∧
  vF P S t v (some (.d (.int .i64 (k:Int)))) none=some (.rs id k (l.length + 1 - k)) ∧
  copyV P S t t (.rs id (k + 1) (l.length - k)) (.rs id k (l.length + 1 - k))=some (.d (.int .i64 ((l.length - k:Nat):Int)),S.set id (.row ((l ++ [z]).take (k + 1) ++ l.drop k) e)):=by
 rcases h with ⟨rfl,hh⟩ | ⟨id,hv,h1⟩
 ·simp at hh
 have hlen:(l ++ [z]).length=l.length + 1:=by simp
 rw [hlen] at hv
 subst hv
 have h3:rowT S id e=true:=by simp only [rowT,h1,beq_self_eq_true]
 refine ⟨id,rfl,h1,?_,?_,?_⟩
 ·have hb:=zj3 (y:=l.length + 1) (d:=0) (k:=k + 1) (by omega)
  have e:l.length + 1 - (k + 1)=l.length - k:=by omega
  simp only [vF,hu,zbq,hb,h3,hz,Bool.and_self,if_true,Nat.zero_add,e]
 ·have hb:=zj3 (y:=l.length + 1) (d:=0) (k:=k) (by omega)
  simp only [vF,hu,zbq,hb,h3,hz,Bool.and_self,if_true,Nat.zero_add]
 ·have hle:k + (l.length + 1 - k) ≤ l.length + 1:=by omega
  have hle2:k + 1 + (l.length - k) ≤ l.length + 1:=by omega
  have hsrc:((l ++ [z]).drop k).take (l.length + 1 - k)=(l ++ [z]).drop k:=List.take_of_length_le (by rw [List.length_drop,hlen]; omega)
  have hfit:((l ++ [z]).drop k).all (qA P e)=true:=by
   rw [List.all_eq_true]
   intro x hx
   exact hf x (List.mem_of_mem_drop hx)
  have hmin:min ((l ++ [z]).drop k).length (l.length - k)=l.length - k:=by
   rw [List.length_drop,hlen]; omega
  have e2:((l ++ [z]).drop k).take (l.length - k)=l.drop k:=by
   rw [List.drop_append_of_le_length hk,List.take_append_of_le_length (by simp),List.take_of_length_le (by simp)]
  have e3:(l ++ [z]).drop (k + 1 + (l.length - k))=[]:=List.drop_eq_nil_of_le (by rw [hlen]; omega)
  simp only [copyV,srcV,jV,hu,hi,h1,hlen,hle,hle2,if_true,hsrc,hfit,hz,Bool.and_self,hmin,decide_true,e2,e3,List.append_nil,Bool.false_eq_true,if_false]
theorem zmq {α:Type} {l:List α} {k:Nat} {s z:α} (hk:k ≤ l.length):((l ++ [z]).take (k + 1) ++ l.drop k).set k s=l.take k ++ s::l.drop k:=by
 have h1:(l ++ [z]).take (k + 1)=l.take k ++ [(l ++ [z])[k]'(by simp; omega)]:=by
  rw [List.take_add_one,List.getElem?_eq_getElem (by simp; omega),List.take_append_of_le_length hk]
  rfl
 rw [h1,List.append_assoc,List.set_append_right _ _ (by rw [List.length_take]; omega)]
 have h2:k - (l.take k).length=0:=by rw [List.length_take]; omega
 rw [h2]
 simp
theorem zlt : ∀ {l m:List Int},l.Pairwise (· < ·)→m.Pairwise (· < ·)→(∀ x,x ∈ l ↔ x ∈ m)→l=m
 | [],[],_,_,_=>rfl
 | [],b::m,_,_,h=>by have:=(h b).2 List.mem_cons_self; cases this
 | a::l,[],_,_,h=>by have:=(h a).1 List.mem_cons_self; cases this
 | a::l,b::m,hl,hm,h=>by
  rw [List.pairwise_cons] at hl hm
  have hab:a=b:=by
   rcases List.mem_cons.1 ((h a).1 List.mem_cons_self) with e | e
   ·exact e
   ·rcases List.mem_cons.1 ((h b).2 List.mem_cons_self) with e' | e'
    ·exact e'.symm
    ·have h1:=hm.1 a e
     have h2:=hl.1 b e'
     omega
  subst hab
  rw [zlt hl.2 hm.2 fun x=>?_]
  constructor
  ·intro hx
   have hn:=hl.1 x hx
   rcases List.mem_cons.1 ((h x).1 (List.mem_cons_of_mem _ hx)) with e | e
   ·omega
   ·exact e
  ·intro hx
   have hn:=hm.1 x hx
   rcases List.mem_cons.1 ((h x).2 (List.mem_cons_of_mem _ hx)) with e | e
   ·omega
   ·exact e
theorem zny {l:List Int} {k:Nat} {n:Int} (hl:l.Pairwise (· < ·)) (hk:k ≤ l.length) (h1 : ∀ x ∈ l.take k,x < n) (h2 : ∀ x ∈ l.drop k,n < x):(l.take k ++ n::l.drop k).Pairwise (· < ·):=by
 rw [List.pairwise_append,List.pairwise_cons]
 refine ⟨hl.sublist (List.take_sublist ..),⟨h2,hl.sublist (List.drop_sublist ..)⟩,?_⟩
 intro x hx y hy
 rcases List.mem_cons.1 hy with rfl | hy
 ·exact h1 x hx
 ·have:=h1 x hx
  have:=h2 y hy
  omega
theorem zjw {l:List Int} {k:Nat} {n x:Int}:x ∈ l.take k ++ n::l.drop k ↔ x ∈ l ∨ x=n:=by
 rw [List.mem_append,List.mem_cons]
 constructor
 ·rintro (h | rfl | h)
  ·exact .inl (List.mem_of_mem_take h)
  ·exact .inr rfl
  ·exact .inl (List.mem_of_mem_drop h)
 ·rintro (h | rfl)
  ·rw [← List.take_append_drop k l] at h
   rcases List.mem_append.1 h with h | h
   ·exact .inl h
   ·exact .inr (.inr h)
  ·exact .inr (.inl rfl)
end Go.Vm
end
section
namespace Go.Proofs.YtobgdmgldagjkaaGreat
open Go.Vm
def z8h (C:CS) (n:Int):Prop:=1 ≤ n∧n ≤ C.last ∧ ∀ ch ∈ C.list,ch.id ≠ n
instance {C:CS} {n:Int}:Decidable (z8h C n):=by unfold z8h; infer_instance
theorem zx3 (c:Nat) (id:Int) (S0:zA) (L:V) (es:List V) (l:List Chg) (hL:OwnS S0 L 80 es) (hl:ChgsV S0 es l) (hes:es.length ≤ 1000000) (R:Post) :
 ∀ (k i:Nat) (S:zA) (g0 g2 g3 g4 g5 g6 g7 g8 g9 gK gF gD gB gC gA gE gL gM gG gJ gN gI gH gQ gU gR gS gV gW gX gY:V),l.length - i=k→i ≤ l.length→Keep S0 S→(∀ ch ∈ l.take i,ch.id ≠ id) →
 (∀ S' i' g0 g2 g3 g4 g5 g6 g7 g8 g9 gK gF gD gB gC gA gE gL gM gG gJ gN gI gH gQ gU gR gS gV gW gX gY,Keep S0 S'→(∀ ch ∈ l,ch.id ≠ id)→R (.exit 0) (g0::(.d (.int .i64 id))::g2::g3::g4::g5::g6::g7::g8::g9::gK::gF::gD::gB::gC::gA::gE::gL::gM::gG::gJ::gN::gI::gH::L::(.d (.int .i64 (l.length:Int)))::i'::gQ::gU::gR::gS::gV::gW::gX::gY::[]) S' []) →
 (∀ S' T',Keep S0 S' → ¬ (∀ ch ∈ l,ch.id ≠ id)→T'.getD 4 (.tup []) = .d (.bool false)→R .ret T' S' []) →
 Wp cfg (.loop (lpOf (Tryz.f155.body.getD .skip) 0)) (g0::(.d (.int .i64 id))::g2::g3::g4::g5::g6::g7::g8::g9::gK::gF::gD::gB::gC::gA::gE::gL::gM::gG::gJ::gN::gI::gH::L::(.d (.int .i64 (l.length:Int)))::(.d (.int .i64 (i:Int)))::gQ::gU::gR::gS::gV::gW::gX::gY::[]) S [] R:=by
 intro k
 have hll:=hl.1
 induction k with
 | zero =>
  intro i S g0 g2 g3 g4 g5 g6 g7 g8 g9 gK gF gD gB gC gA gE gL gM gG gJ gN gI gH gQ gU gR gS gV gW gX gY hk hi hK hA hR hR2
  have hie:i=l.length:=by omega
  subst hie
  rw [List.take_length] at hA
  rw [zO]
  refine zN ?_
  conv=>arg 2; whnf
  simp (maxSteps:=1000000) (disch:=first|assumption|omega|rfl) only [↓gp,gc,Nat.reduceAdd]
  exact hR _ _ _ _ _ _ _ _ _ _ _ _ _ _ _ _ _ _ _ _ _ _ _ _ _ _ _ _ _ _ _ _ _ hK hA
 | succ k ih =>
  intro i S g0 g2 g3 g4 g5 g6 g7 g8 g9 gK gF gD gB gC gA gE gL gM gG gJ gN gI gH gQ gU gR gS gV gW gX gY hk hi hK hA hR hR2
  have hlt:i < l.length:=by omega
  have hlt2:i < es.length:=by omega
  obtain ⟨id',hix,hre,_⟩:=kJ u119 s122 (hK.own hL) hlt2
  obtain ⟨dv,nv,he,hd5,hn3⟩:=hl.2 i es[i] l[i] (List.getElem?_eq_getElem hlt2) (List.getElem?_eq_getElem hlt)
  rw [he] at hre
  have h3:IntKind.i64.wrap ((i:Int) + 1)=((i + 1:Nat):Int):=by rw [wrap64 (by omega)]; omega
  generalize ha:S.length=a
  rw [zO]
  refine zN ?_
  conv=>arg 2; whnf
  by_cases hno:l[i].id=id
  ·have hde : ∀ i':Decidable (l[i].id=id),@decide (l[i].id=id) i'=true:=fun i'=>decide_eq_true hno
   simp (maxSteps:=1000000) (disch:=first|assumption|omega|rfl) only [↓gp,gc,Nat.reduceAdd,hix,hre,z24,z122,z25,z3g,ha,rA0 ha,pA0 ha,z0d,z08,hde,h3]
   exact hR2 _ _ (Keep.app hK) (fun hh=>hh l[i] (List.getElem_mem hlt) hno) rfl
  ·have hde : ∀ i':Decidable (l[i].id=id),@decide (l[i].id=id) i'=false:=fun i'=>decide_eq_false hno
   simp (maxSteps:=1000000) (disch:=first|assumption|omega|rfl) only [↓gp,gc,Nat.reduceAdd,hix,hre,z24,z122,z25,z3g,ha,rA0 ha,pA0 ha,z0d,z08,hde,h3]
   refine ih (i + 1) _ _ _ _ _ _ _ _ _ _ _ _ _ _ _ _ _ _ _ _ _ _ _ _ _ _ _ _ _ _ _ _ (by omega) (by omega) (Keep.app hK) ?_ hR hR2
   intro ch hch
   rw [List.take_add_one,List.getElem?_eq_getElem hlt] at hch
   rcases List.mem_append.1 hch with hch | hch
   ·exact hA ch hch
   ·simp only [Option.toList_some,List.mem_singleton] at hch
    subst hch
    exact hno
theorem zvi (S:zA) (c r m:Nat) (C:CS) (h0:CacheAt S c r m C) (id:Int):EvS cfg 155 [.ref c 0 0,.d (.int .i64 id)] S (fun o S'=>Keep S S'∧o = .ret (.d (.bool (decide (z8h C id))))):=by
 obtain ⟨d,L,es,vs,f,z,w,q,h,hq⟩:=h0
 refine qE rfl ztn ?_
 show Wp cfg (Tryz.f155.body.getD .skip) ((.ref c 0 0)::(.d (.int .i64 id))::uZ (uZ (uZ ((.tup [])::(.tup [])::(.tup [])::[])))) S [] _
 unfold uZ
 conv=>arg 2; whnf
 rw [zO]
 have hc0:rowE S c 0=some (cacV d m L C.last):=zD (e:=126) h.hc
 have hln:zI Tryz.prog S .len [74] [L]=some (.val (.d (.int .i64 (C.list.length:Int))) S 0):=by rw [kE u119 h.lo,h.lc.1]
 by_cases h1:id < 1
 ·have e:decide (z8h C id)=false:=decide_eq_false (fun hh=>by have:=hh.1; omega)
  rw [e]
  simp (maxSteps:=1000000) (disch:=first|assumption|omega|rfl) only [↓gp,gc,Nat.reduceAdd,z45,vI,hc0,lc3,zQ]
  exact ⟨rfl,_,rfl,Keep.refl,rfl⟩
 ·by_cases h2:id > (C.last:Int)
  ·have e:decide (z8h C id)=false:=decide_eq_false (fun hh=>by have:=hh.2.1; omega)
   rw [e]
   simp (maxSteps:=1000000) (disch:=first|assumption|omega|rfl) only [↓gp,gc,Nat.reduceAdd,z45,vI,hc0,lc3,zQ]
   exact ⟨rfl,_,rfl,Keep.refl,rfl⟩
  ·simp (maxSteps:=1000000) (disch:=first|assumption|omega|rfl) only [↓gp,gc,Nat.reduceAdd,z45,z13,vI,hc0,lc2,lc3,hln,zQ]
   refine zx3 c id S L es C.list h.lo h.lc (by have h1:=h.wq; have h2:=h.ok.last; have h3:=h.lc.1; omega) _ C.list.length 0 S _ _ _ _ _ _ _ _ _ _ _ _ _ _ _ _ _ _ _ _ _ _ _ _ _ _ _ _ _ _ _ rfl (Nat.zero_le _) Keep.refl (by simp) ?_ ?_
   ·intro S' i' g0 g2 g3 g4 g5 g6 g7 g8 g9 gK gF gD gB gC gA gE gL gM gG gJ gN gI gH gQ gU gR gS gV gW gX gY hK hA
    have e:decide (z8h C id)=true:=decide_eq_true ⟨by omega,by omega,hA⟩
    rw [e]
    simp (maxSteps:=1000000) (disch:=first|assumption|omega|rfl) only [↓gp,gc,Nat.reduceAdd]
    exact ⟨rfl,_,rfl,hK,rfl⟩
   ·intro S' T' hK hA hT
    have e:decide (z8h C id)=false:=decide_eq_false (fun hh=>hA hh.2.2)
    rw [e]
    exact ⟨rfl,_,hT ▸ rfl,hK,rfl⟩
theorem zY {l:List Int}:(zU l).length=l.length:=by unfold zU; simp
theorem zry (c:Nat) (n:Int) (S:zA) (v nd x11 x12:V) (out:List Int) (ho:OwnS S v 3 (zU out)) (hlen:out.length ≤ 17592186044416) (R:Post) :
 ∀ (p:Nat) (g1 g2 g3 g4 g5 g7 gB gC gA gE gL gM gG gJ gN gI gH gO gP gT gQ gU gR gS gV gW gX gY gZ gh gj gk gn gr gz hH hU hY hZ xA xB xC xD xE xF xG xH xI xJ xK xL xM xN xO xP xQ xR xS xT xU xV xW xX xY xZ:V),p ≤ out.length→(∀ x ∈ out.drop p,n < x) →
 (∀ (p':Nat) (hp:p' ≤ out.length) g1 g2 g3 g4 g5 g7 gB gC gA gE gL gM gG gJ gN gI gH gO gP gT gQ gU gR gS gV gW gX gY gZ gh gj gk gn gr gz hH hU hY hZ xA xB xC xD xE xF xG xH xI xJ xK xL xM xN xO xP xQ xR xS xT xU xV xW xX xY xZ,(∀ x ∈ out.drop p',n < x)→(∀ h:0 < p',out[p' - 1]'(by omega) ≤ n)→R (.exit 2) ((.ref c 0 0)::g1::g2::g3::g4::g5::v::g7::(.d (.int .i64 n))::(.d (.int .i64 (p':Int)))::nd::x11::x12::gB::gC::gA::gE::gL::gM::gG::gJ::gN::gI::gH::gO::gP::gT::gQ::gU::gR::gS::gV::gW::gX::gY::gZ::gh::gj::gk::gn::gr::gz::hH::hU::hY::hZ::xA::xB::xC::xD::xE::xF::xG::xH::xI::xJ::xK::xL::xM::xN::xO::xP::xQ::xR::xS::xT::xU::xV::xW::xX::xY::xZ::[]) S []) →
 Wp cfg (.loop (lpOf (Tryz.f135.body.getD .skip) 2)) ((.ref c 0 0)::g1::g2::g3::g4::g5::v::g7::(.d (.int .i64 n))::(.d (.int .i64 (p:Int)))::nd::x11::x12::gB::gC::gA::gE::gL::gM::gG::gJ::gN::gI::gH::gO::gP::gT::gQ::gU::gR::gS::gV::gW::gX::gY::gZ::gh::gj::gk::gn::gr::gz::hH::hU::hY::hZ::xA::xB::xC::xD::xE::xF::xG::xH::xI::xJ::xK::xL::xM::xN::xO::xP::xQ::xR::xS::xT::xU::xV::xW::xX::xY::xZ::[]) S [] R:=by
 intro p
 induction p with
 | zero =>
  intro g1 g2 g3 g4 g5 g7 gB gC gA gE gL gM gG gJ gN gI gH gO gP gT gQ gU gR gS gV gW gX gY gZ gh gj gk gn gr gz hH hU hY hZ xA xB xC xD xE xF xG xH xI xJ xK xL xM xN xO xP xQ xR xS xT xU xV xW xX xY xZ hp hd hR
  rw [zO]
  refine zN ?_
  conv=>arg 2; whnf
  simp only [nl0]
  simp (maxSteps:=1000000) (disch:=first|assumption|omega|rfl) only [↓gp,gc,Nat.reduceAdd]
  exact hR 0 hp _ _ _ _ _ _ _ _ _ _ _ _ _ _ _ _ _ _ _ _ _ _ _ _ _ _ _ _ _ _ _ _ _ _ _ _ _ _ _ _ _ _ _ _ _ _ _ _ _ _ _ _ _ _ _ _ _ _ _ _ _ _ _ _ _ hd (fun h=>absurd h (by omega))
 | succ p ih =>
  intro g1 g2 g3 g4 g5 g7 gB gC gA gE gL gM gG gJ gN gI gH gO gP gT gQ gU gR gS gV gW gX gY gZ gh gj gk gn gr gz hH hU hY hZ xA xB xC xD xE xF xG xH xI xJ xK xL xM xN xO xP xQ xR xS xT xU xV xW xX xY xZ hp hd hR
  have hlt:p < out.length:=by omega
  obtain ⟨id,hix,hre,_⟩:=kJ Tryz.underlying22 (by kernel_rfl) ho (i:=p) (by rw [zY]; exact hlt)
  have hre:rowE S id p=some (.d (.int .i64 out[p])):=by rw [hre]; simp [zU]
  have hs:IntKind.i64.wrap (((p + 1:Nat):Int) - 1)=(p:Int):=by rw [wrap64 (by omega)]; omega
  have hpos:((p + 1:Nat):Int) > 0:=by omega
  rw [zO]
  refine zN ?_
  conv=>arg 2; whnf
  by_cases hgt:out[p] > n
  ·have hde : ∀ i':Decidable (out[p] > n),@decide (out[p] > n) i'=true:=fun i'=>decide_eq_true hgt
   simp (maxSteps:=1000000) (disch:=first|assumption|omega|rfl) only [↓gp,gc,Nat.reduceAdd,hs,hix,hre,ld3r,hde]
   refine ih _ _ _ _ _ _ _ _ _ _ _ _ _ _ _ _ _ _ _ _ _ _ _ _ _ _ _ _ _ _ _ _ _ _ _ _ _ _ _ _ _ _ _ _ _ _ _ _ _ _ _ _ _ _ _ _ _ _ _ _ _ _ _ _ _ (by omega) ?_ hR
   intro x hx
   rw [List.drop_eq_getElem_cons hlt] at hx
   rcases List.mem_cons.1 hx with rfl | hx
   ·exact hgt
   ·exact hd x hx
  ·have hde : ∀ i':Decidable (out[p] > n),@decide (out[p] > n) i'=false:=fun i'=>decide_eq_false hgt
   simp (maxSteps:=1000000) (disch:=first|assumption|omega|rfl) only [↓gp,gc,Nat.reduceAdd,hs,hix,hre,ld3r,hde]
   exact hR (p + 1) hp _ _ _ _ _ _ _ _ _ _ _ _ _ _ _ _ _ _ _ _ _ _ _ _ _ _ _ _ _ _ _ _ _ _ _ _ _ _ _ _ _ _ _ _ _ _ _ _ _ _ _ _ _ _ _ _ _ _ _ _ _ _ _ _ _ hd (fun h=>by
    have e:out[p + 1 - 1]'(by omega)=out[p]:=by simp
    rw [e]; omega)
def NdOk (C:CS) (l out:List Int):Prop:=out.Pairwise (· < ·) ∧ ∀ x,x ∈ out ↔ x ∈ l ∧ ¬ z8h C x
theorem i46:intT Tryz.prog 22=false:=by kernel_rfl
theorem s3z:(sz Tryz.prog 3).isSome=true:=by kernel_rfl
theorem zmu {S:zA}:bs1 Tryz.prog S 22 (.d (.int .i64 0))=some (.val (.ts [.int .i64 0]) S 0):=by kernel_rfl
theorem jY {α:Type} {l:List α} {i:Nat} (h:i < l.length):l.take (i + 1)=l.take i ++ [l[i]]:=by rw [List.take_add_one,List.getElem?_eq_getElem h]; rfl
theorem NdOk.skip {C:CS} {l out:List Int} {n:Int} (h:NdOk C l out) (hn:z8h C n ∨ n ∈ out):NdOk C (l ++ [n]) out:=by
 refine ⟨h.1,fun x=>?_⟩
 rw [h.2 x,List.mem_append,List.mem_singleton]
 constructor
 ·exact fun ⟨a,b⟩=>⟨.inl a,b⟩
 ·rintro ⟨a | rfl,b⟩
  ·exact ⟨a,b⟩
  ·rcases hn with hn | hn
   ·exact absurd hn b
   ·exact (h.2 x).1 hn
theorem NdOk.ins {C:CS} {l out:List Int} {n:Int} {p:Nat} (h:NdOk C l out) (hp:p ≤ out.length) (hn : ¬ z8h C n) (h1 : ∀ x ∈ out.take p,x < n) (h2 : ∀ x ∈ out.drop p,n < x):NdOk C (l ++ [n]) (out.take p ++ n::out.drop p):=by
 refine ⟨zny h.1 hp h1 h2,fun x=>?_⟩
 rw [zjw,h.2 x,List.mem_append,List.mem_singleton]
 constructor
 ·rintro (⟨a,b⟩ | rfl)
  ·exact ⟨.inl a,b⟩
  ·exact ⟨.inr rfl,hn⟩
 ·rintro ⟨a | rfl,b⟩
  ·exact .inl ⟨a,b⟩
  ·exact .inr rfl
theorem zy1 (c r m:Nat) (C:CS) (S0:zA) (hC0:CacheAt S0 c r m C) (nd:V) (l:List Int) (hnd:OwnS S0 nd 3 (zU l)) (hl:l.length ≤ 17592186044416) (R:Post) :
 ∀ (k i:Nat) (S:zA) (v6:V) (out:List Int) (g1 g2 g3 g4 g5 g7 g8 g9 gB gC gA gE gL gM gG gJ gN gI gH gO gP gT gQ gU gR gS gV gW gX gY gZ gh gj gk gn gr gz hH hU hY hZ xA xB xC xD xE xF xG xH xI xJ xK xL xM xN xO xP xQ xR xS xT xU xV xW xX xY xZ:V),l.length - i=k→i ≤ l.length→Keep S0 S→(∀ j,j < S0.length→NotAt v6 j)→OwnS S v6 3 (zU out)→out.length ≤ i→NdOk C (l.take i) out→(∀ x ∈ l.take i,1 ≤ x∧x ≤ C.last) →
 (∀ S v6 out i' g1 g2 g3 g4 g5 g7 g8 g9 gB gC gA gE gL gM gG gJ gN gI gH gO gP gT gQ gU gR gS gV gW gX gY gZ gh gj gk gn gr gz hH hU hY hZ xA xB xC xD xE xF xG xH xI xJ xK xL xM xN xO xP xQ xR xS xT xU xV xW xX xY xZ,Keep S0 S→OwnS S v6 3 (zU out)→NdOk C l out→(∀ x ∈ l,1 ≤ x∧x ≤ C.last)→R (.exit 0) ((.ref c 0 0)::g1::g2::g3::g4::g5::v6::g7::g8::g9::nd::(.d (.int .i64 (l.length:Int)))::i'::gB::gC::gA::gE::gL::gM::gG::gJ::gN::gI::gH::gO::gP::gT::gQ::gU::gR::gS::gV::gW::gX::gY::gZ::gh::gj::gk::gn::gr::gz::hH::hU::hY::hZ::xA::xB::xC::xD::xE::xF::xG::xH::xI::xJ::xK::xL::xM::xN::xO::xP::xQ::xR::xS::xT::xU::xV::xW::xX::xY::xZ::[]) S []) →
 (∀ S T,Keep S0 S → ¬ (∀ x ∈ l,1 ≤ x∧x ≤ C.last)→T.getD 4 (.tup []) = .ts []→T.getD 5 (.tup []) = .d (.bool false)→R .ret T S []) →
 Wp cfg (.loop (lpOf (Tryz.f135.body.getD .skip) 0)) ((.ref c 0 0)::g1::g2::g3::g4::g5::v6::g7::g8::g9::nd::(.d (.int .i64 (l.length:Int)))::(.d (.int .i64 (i:Int)))::gB::gC::gA::gE::gL::gM::gG::gJ::gN::gI::gH::gO::gP::gT::gQ::gU::gR::gS::gV::gW::gX::gY::gZ::gh::gj::gk::gn::gr::gz::hH::hU::hY::hZ::xA::xB::xC::xD::xE::xF::xG::xH::xI::xJ::xK::xL::xM::xN::xO::xP::xQ::xR::xS::xT::xU::xV::xW::xX::xY::xZ::[]) S [] R:=by
 intro k
 induction k with
 | zero =>
  intro i S v6 out g1 g2 g3 g4 g5 g7 g8 g9 gB gC gA gE gL gM gG gJ gN gI gH gO gP gT gQ gU gR gS gV gW gX gY gZ gh gj gk gn gr gz hH hU hY hZ xA xB xC xD xE xF xG xH xI xJ xK xL xM xN xO xP xQ xR xS xT xU xV xW xX xY xZ hk hi hK hN ho hol hok hrg hR hR2
  have hie:i=l.length:=by omega
  subst hie
  rw [List.take_length] at hok hrg
  rw [zO]
  refine zN ?_
  conv=>arg 2; whnf
  simp (maxSteps:=1000000) (disch:=first|assumption|omega|rfl) only [↓gp,gc,Nat.reduceAdd]
  exact hR _ _ _ _ _ _ _ _ _ _ _ _ _ _ _ _ _ _ _ _ _ _ _ _ _ _ _ _ _ _ _ _ _ _ _ _ _ _ _ _ _ _ _ _ _ _ _ _ _ _ _ _ _ _ _ _ _ _ _ _ _ _ _ _ _ _ _ _ _ _ _ hK ho hok hrg
 | succ k ih =>
  intro i S v6 out g1 g2 g3 g4 g5 g7 g8 g9 gB gC gA gE gL gM gG gJ gN gI gH gO gP gT gQ gU gR gS gV gW gX gY gZ gh gj gk gn gr gz hH hU hY hZ xA xB xC xD xE xF xG xH xI xJ xK xL xM xN xO xP xQ xR xS xT xU xV xW xX xY xZ hk hi hK hN ho hol hok hrg hR hR2
  have hlt:i < l.length:=by omega
  have h3:IntKind.i64.wrap ((i:Int) + 1)=((i + 1:Nat):Int):=by rw [wrap64 (by omega)]; omega
  obtain ⟨id,hix,hre,_⟩:=kJ Tryz.underlying22 s3z (hK.own hnd) (i:=i) (by rw [zY]; exact hlt)
  have hre:rowE S id i=some (.d (.int .i64 l[i])):=by rw [hre]; simp [zU]
  have hC:=hC0.keep hK
  obtain ⟨d,L,es,vs,f,z,w,q,hp,_⟩:=hC
  have hc0:rowE S c 0=some (cacV d m L C.last):=zD (e:=126) hp.hc
  have hmem:l[i] ∈ l:=List.getElem_mem hlt
  rw [zO]
  refine zN ?_
  conv=>arg 2; whnf
  by_cases h1:l[i] < 1
  ·simp (maxSteps:=1000000) (disch:=first|assumption|omega|rfl) only [↓gp,gc,Nat.reduceAdd,hix,hre,ld3r,vI,hc0,lc3,zQ]
   exact hR2 _ _ hK (fun hh=>by have:=(hh _ hmem).1; omega) rfl rfl
  ·by_cases h2:l[i] > (C.last:Int)
   ·simp (maxSteps:=1000000) (disch:=first|assumption|omega|rfl) only [↓gp,gc,Nat.reduceAdd,hix,hre,ld3r,vI,hc0,lc3,zQ]
    exact hR2 _ _ hK (fun hh=>by have:=(hh _ hmem).2; omega) rfl rfl
   ·obtain ⟨o,S2,⟨hK2,rfl⟩,hE⟩:=qC (zvi S c r m C (hC0.keep hK) l[i])
    have hE:=fun {ops dst k T F Q}=>zF (ops:=ops) (dst:=dst) (l:=k) (T:=T) (F:=F) (Q:=Q) rfl hE
    have hK02:=hK.trans hK2
    have ho2:=hK2.own ho
    have hrg2 : ∀ x ∈ l.take (i + 1),1 ≤ x∧x ≤ C.last:=by
     intro x hx
     rw [jY hlt] at hx
     rcases List.mem_append.1 hx with hx | hx
     ·exact hrg x hx
     ·simp only [List.mem_singleton] at hx; subst hx; exact ⟨by omega,by omega⟩
    by_cases hd:z8h C l[i]
    ·rw [decide_eq_true hd] at hE
     simp (maxSteps:=1000000) (disch:=first|assumption|omega|rfl) only [↓gp,gc,Nat.reduceAdd,hix,hre,ld3r,vI,hc0,lc3,zQ,hE,ztz,h3]
     exact ih (i + 1) S2 v6 out _ _ _ _ _ _ _ _ _ _ _ _ _ _ _ _ _ _ _ _ _ _ _ _ _ _ _ _ _ _ _ _ _ _ _ _ _ _ _ _ _ _ _ _ _ _ _ _ _ _ _ _ _ _ _ _ _ _ _ _ _ _ _ _ _ _ _ (by omega) (by omega) hK02 hN ho2 (by omega) (by rw [jY hlt]; exact hok.skip (.inl hd)) hrg2 hR hR2
    ·rw [decide_eq_false hd] at hE
     have hln:zI Tryz.prog S2 .len [22] [v6]=some (.val (.d (.int .i64 (out.length:Int))) S2 0):=by rw [kE Tryz.underlying22 ho2,zY]
     simp (maxSteps:=1000000) (disch:=first|assumption|omega|rfl) only [↓gp,gc,Nat.reduceAdd,hix,hre,ld3r,vI,hc0,lc3,zQ,hE,ztz,hln]
     refine zry c l[i] S2 v6 nd _ _ out ho2 (by omega) _ out.length _ _ _ _ _ _ _ _ _ _ _ _ _ _ _ _ _ _ _ _ _ _ _ _ _ _ _ _ _ _ _ _ _ _ _ _ _ _ _ _ _ _ _ _ _ _ _ _ _ _ _ _ _ _ _ _ _ _ _ _ _ _ _ _ _ (Nat.le_refl _) (by simp) ?_
     intro p hp g1 g2 g3 g4 g5 g7 gB gC gA gE gL gM gG gJ gN gI gH gO gP gT gQ gU gR gS gV gW gX gY gZ gh gj gk gn gr gz hH hU hY hZ xA xB xC xD xE xF xG xH xI xJ xK xL xM xN xO xP xQ xR xS xT xU xV xW xX xY xZ hd1 hle
     by_cases heq : ∃ h:0 < p,out[p - 1]'(by omega)=l[i]
     ·obtain ⟨hp0,heq⟩:=heq
      obtain ⟨id2,hix2,hre2,_⟩:=kJ Tryz.underlying22 s3z ho2 (i:=p - 1) (by rw [zY]; omega)
      have hre2:rowE S2 id2 (p - 1)=some (.d (.int .i64 l[i])):=by rw [hre2]; simp [zU,heq]
      have hs:IntKind.i64.wrap ((p:Int) - 1)=((p - 1:Nat):Int):=by rw [wrap64 (by omega)]; omega
      have hpos:(p:Int) > 0:=by omega
      simp (maxSteps:=1000000) (disch:=first|assumption|omega|rfl) only [↓gp,gc,Nat.reduceAdd,hs,hix2,hre2,ld3r,zQ,h3]
      refine ih (i + 1) S2 v6 out _ _ _ _ _ _ _ _ _ _ _ _ _ _ _ _ _ _ _ _ _ _ _ _ _ _ _ _ _ _ _ _ _ _ _ _ _ _ _ _ _ _ _ _ _ _ _ _ _ _ _ _ _ _ _ _ _ _ _ _ _ _ _ _ _ _ _ (by omega) (by omega) hK02 hN ho2 (by omega) ?_ hrg2 hR hR2
      rw [jY hlt]
      exact hok.skip (.inr (heq ▸ List.getElem_mem _))
     ·obtain ⟨v',S3,cst,hap,ho3,hfr,hlen3⟩:=apI 0 ho2 (by omega)
      have hos:OwnS S3 v' 3 (zU out ++ [.d (.int .i64 0)]):=by
       have:(out ++ [0]).map (fun x=>V.d (D.int .i64 x))=zU out ++ [.d (.int .i64 0)]:=by unfold zU; simp
       rw [← this]; exact ho3
      have hfit : ∀ x ∈ zU out ++ [.d (.int .i64 0)],qA Tryz.prog 3 x=true:=by
       intro x hx
       rcases List.mem_append.1 hx with hx | hx
       ·obtain ⟨y,_,rfl⟩:=List.mem_map.1 hx
        exact z7k y
       ·simp only [List.mem_singleton] at hx
        subst hx
        exact z7k 0
      obtain ⟨id3,hv',hrow,hs1,hs2,hcp⟩:=zls (k:=p) Tryz.underlying22 s3z hfit hos (by rw [zY]; exact hp) i46
      rw [zY] at hs1 hs2 hcp hv'
      subst hv'
      have hw1:IntKind.i64.wrap ((p:Int) + 1)=((p + 1:Nat):Int):=by rw [wrap64 (by omega)]; omega
      have hN3 : ∀ j,j < S0.length→NotAt (.rs id3 0 (out.length + 1)) j:=fun j hj=>by
       exact (hfr j _ (List.getElem?_eq_getElem (Nat.lt_of_lt_of_le hj hK02.len)) (hN j hj)).2
      have hK03:Keep S0 S3:=fun j o hj=>(hfr j o (hK02 j o hj) (hN j (zL hj))).1
      have hid3:S0.length ≤ id3:=by
       rcases Nat.lt_or_ge id3 S0.length with hh | hh
       ·exact absurd rfl (hN3 id3 hh 0 (out.length + 1))
       ·exact hh
      have hil:=zL hrow
      generalize hX:(zU out ++ [V.d (D.int .i64 0)]).take (p + 1) ++ (zU out).drop p=X at hcp
      have hXl:X.length=out.length + 1:=by rw [← hX]; simp [zU]; omega
      have hXe : ∀ y ∈ X,∃ a:Int,y = .d (.int .i64 a):=by
       intro y hy
       rw [← hX] at hy
       rcases List.mem_append.1 hy with hy | hy
       ·rcases List.mem_append.1 (List.mem_of_mem_take hy) with hy | hy
        ·obtain ⟨a,_,rfl⟩:=List.mem_map.1 hy; exact ⟨a,rfl⟩
        ·simp only [List.mem_singleton] at hy; exact ⟨0,hy⟩
       ·obtain ⟨a,_,rfl⟩:=List.mem_map.1 (List.mem_of_mem_drop hy); exact ⟨a,rfl⟩
      have hXs:X.set p (.d (.int .i64 l[i]))=zU (out.take p ++ l[i]::out.drop p):=by
       rw [← hX,zmq (by rw [zY]; exact hp)]
       unfold zU
       simp [List.map_take,List.map_drop]
      have hrow4:(S3.set id3 (.row X 3))[id3]? = some (.row X 3):=List.getElem?_set_self hil
      obtain ⟨id4,hix4,hre4,_⟩:=kJ (i:=p) Tryz.underlying22 s3z (show OwnS (S3.set id3 (.row X 3)) (.rs id3 0 (out.length + 1)) 3 X from .inr ⟨id3,by rw [hXl],hrow4⟩) (by omega)
      have hid4:id4=id3:=by
       have h5:rowT (S3.set id3 (.row X 3)) id3 3=true:=by simp only [rowT,hrow4,beq_self_eq_true]
       have h6:(sz Tryz.prog 3).isSome=true:=s3z
       simp only [zM,intOf?,Tryz.underlying22,h5,h6] at hix4
       rw [if_pos ⟨⟨by omega,by omega⟩,trivial,trivial⟩] at hix4
       simp only [Option.some.injEq,V.ref.injEq] at hix4
       exact hix4.1.symm
      subst hid4
      obtain ⟨a4,ha4⟩:=hXe X[p] (List.getElem_mem _)
      rw [ha4] at hre4
      have hst4 : ∀ b:Int,z0e Tryz.prog (S3.set id4 (.row X 3)) 3 (.ref id4 p 0) (.d (.int .i64 b))=z6j (S3.set id4 (.row X 3)) id4 p (some (.d (.int .i64 b))):=fun b=>by rw [z6a hre4,st3]
      have hp4 : ∀ y,jJ (S3.set id4 (.row X 3)) id4 p y=some (S3.set id4 (.row (X.set p y) 3)):=fun y=>by
       simp only [jJ,hrow4,List.set_set]
      have fin : ∀ g1 g2 g3 g4 g5 g7 g8 g9 gB gC gA gE gL gM gG gJ gN gI gH gO gP gT gQ gU gR gS gV gW gX gY gZ gh gj gk gn gr gz hH hU hY hZ xA xB xC xD xE xF xG xH xI xJ xK xL xM xN xO xP xQ xR xS xT xU xV xW xX xY xZ,Wp cfg (.loop (lpOf (Tryz.f135.body.getD .skip) 0)) ((.ref c 0 0)::g1::g2::g3::g4::g5::(.rs id4 0 (out.length + 1))::g7::g8::g9::nd::(.d (.int .i64 (l.length:Int)))::(.d (.int .i64 ((i + 1:Nat):Int)))::gB::gC::gA::gE::gL::gM::gG::gJ::gN::gI::gH::gO::gP::gT::gQ::gU::gR::gS::gV::gW::gX::gY::gZ::gh::gj::gk::gn::gr::gz::hH::hU::hY::hZ::xA::xB::xC::xD::xE::xF::xG::xH::xI::xJ::xK::xL::xM::xN::xO::xP::xQ::xR::xS::xT::xU::xV::xW::xX::xY::xZ::[]) (S3.set id4 (.row (X.set p (.d (.int .i64 l[i]))) 3)) [] R:=by
       intro g1 g2 g3 g4 g5 g7 g8 g9 gB gC gA gE gL gM gG gJ gN gI gH gO gP gT gQ gU gR gS gV gW gX gY gZ gh gj gk gn gr gz hH hU hY hZ xA xB xC xD xE xF xG xH xI xJ xK xL xM xN xO xP xQ xR xS xT xU xV xW xX xY xZ
       refine ih (i + 1) _ _ (out.take p ++ l[i]::out.drop p) _ _ _ _ _ _ _ _ _ _ _ _ _ _ _ _ _ _ _ _ _ _ _ _ _ _ _ _ _ _ _ _ _ _ _ _ _ _ _ _ _ _ _ _ _ _ _ _ _ _ _ _ _ _ _ _ _ _ _ _ _ _ _ _ _ _ _ (by omega) (by omega) (hK03.set hid3) hN3 ?_ ?_ ?_ hrg2 hR hR2
       ·rw [hXs]
        exact .inr ⟨id4,by rw [zY]; simp; omega,List.getElem?_set_self hil⟩
       ·simp; omega
       ·rw [jY hlt]
        refine hok.ins hp hd ?_ hd1
        intro x hx
        obtain ⟨j,hj,rfl⟩:=List.mem_iff_getElem.1 hx
        rw [List.length_take] at hj
        rw [List.getElem_take]
        have hp0:0 < p:=by omega
        have hle:=hle hp0
        have hne:out[p - 1]'(by omega) ≠ l[i]:=fun hh=>heq ⟨hp0,hh⟩
        rcases Nat.lt_or_ge j (p - 1) with hjp | hjp
        ·have:=List.pairwise_iff_getElem.1 hok.1 j (p - 1) (by omega) (by omega) hjp
         omega
        ·have:j=p - 1:=by omega
         subst this
         omega
      by_cases hp0:0 < p
      ·obtain ⟨id2,hix2,hre2,_⟩:=kJ Tryz.underlying22 s3z ho2 (i:=p - 1) (by rw [zY]; omega)
       have hre2:rowE S2 id2 (p - 1)=some (.d (.int .i64 (out[p - 1]'(by omega)))):=by rw [hre2]; simp [zU]
       have hs:IntKind.i64.wrap ((p:Int) - 1)=((p - 1:Nat):Int):=by rw [wrap64 (by omega)]; omega
       have hpos:(p:Int) > 0:=by omega
       have hne : ∀ i':Decidable (out[p - 1]'(by omega)=l[i]),@decide (out[p - 1]'(by omega)=l[i]) i'=false:=fun i'=>decide_eq_false (fun hh=>heq ⟨hp0,hh⟩)
       simp (maxSteps:=1000000) (disch:=first|assumption|omega|rfl) only [↓gp,gc,Nat.reduceAdd,hs,hix2,hre2,ld3r,hne,zmu,hap]
       refine vB (is:=[0,1,2,3,4,5,6,7]) (h:=0) (by kernel_rfl) (by kernel_rfl) ?_
       simp (maxSteps:=1000000) (disch:=first|assumption|omega|rfl) only [List.replicate_zero,eq_self,gd,ga,Nat.reduceAdd,↓gq,vso,List.append_nil,Option.map_none,hw1,hs1,hs2,hcp]
       refine ⟨fun _=>by kernel_rfl,by kernel_rfl,?_⟩
       simp (maxSteps:=1000000) (disch:=first|assumption|omega|rfl) only [↓gp,gc,Nat.reduceAdd,hix4,hst4,hp4,h3]
       exact fin _ _ _ _ _ _ _ _ _ _ _ _ _ _ _ _ _ _ _ _ _ _ _ _ _ _ _ _ _ _ _ _ _ _ _ _ _ _ _ _ _ _ _ _ _ _ _ _ _ _ _ _ _ _ _ _ _ _ _ _ _ _ _ _ _ _ _
      ·have hpos : ¬ (p:Int) > 0:=by omega
       simp (maxSteps:=1000000) (disch:=first|assumption|omega|rfl) only [↓gp,gc,Nat.reduceAdd,zmu,hap]
       refine vB (is:=[0,1,2,3,4,5,6,7]) (h:=0) (by kernel_rfl) (by kernel_rfl) ?_
       simp (maxSteps:=1000000) (disch:=first|assumption|omega|rfl) only [List.replicate_zero,eq_self,gd,ga,Nat.reduceAdd,↓gq,vso,List.append_nil,Option.map_none,hw1,hs1,hs2,hcp]
       refine ⟨fun _=>by kernel_rfl,by kernel_rfl,?_⟩
       simp (maxSteps:=1000000) (disch:=first|assumption|omega|rfl) only [↓gp,gc,Nat.reduceAdd,hix4,hst4,hp4,h3]
       exact fin _ _ _ _ _ _ _ _ _ _ _ _ _ _ _ _ _ _ _ _ _ _ _ _ _ _ _ _ _ _ _ _ _ _ _ _ _ _ _ _ _ _ _ _ _ _ _ _ _ _ _ _ _ _ _ _ _ _ _ _ _ _ _ _ _ _ _
theorem ztf:IK Tryz.prog 186 3 3 (.d (.int .i64 0)):=⟨by kernel_rfl,fun _ _=>rfl,fun _=>by kernel_rfl,z3⟩
def MG (S:zA) (m:Nat) (g:Int→Int):Prop:= ∃ f,MpI S m f ∧ ∀ n,(f n).getD (.d (.int .i64 0)) = .d (.int .i64 (g n))
def updG (g:Int→Int) (k v:Int):Int→Int:=fun x=>if x=k then v else g x
section
variable {S S':zA} {m:Nat} {g:Int→Int}
theorem MG.keep (h:MG S m g) (hk:Keep S S'):MG S' m g:=by
 obtain ⟨f,h1,h2⟩:=h
 exact ⟨f,hk.map h1,h2⟩
theorem MG.nil {c:Nat} (h:S[m]? = some (.mp [] c)):MG S m (fun _=>0):=⟨_,MpI.nil h,fun _=>rfl⟩
theorem MG.look (h:MG S m g) (x:Int):wF Tryz.prog S 186 (.mr m) (.d (.int .i64 x)) false=some (.d (.int .i64 (g x))):=by
 obtain ⟨f,h1,h2⟩:=h
 rw [(h1.look ztf x).2,h2 x]
theorem MG.put (h:MG S m g) (x k:Int) : ∃ o,jS Tryz.prog S 186 (.mr m) (.d (.int .i64 x)) (.d (.int .i64 k))=some (S.set m o)∧MG (S.set m o) m (updG g x k)∧(∃ es c,o = .mp es c):=by
 obtain ⟨f,h1,h2⟩:=h
 obtain ⟨o,a,b,c⟩:=h1.put ztf x (v:= .d (.int .i64 k)) rfl
 refine ⟨o,a,⟨_,b,fun n=>?_⟩,c⟩
 unfold updI updG
 by_cases e:n=x
 ·rw [if_pos e,if_pos e]; rfl
 ·rw [if_neg e,if_neg e]; exact h2 n
theorem MG.del (h:MG S m g) (x:Int) : ∃ o,z07 Tryz.prog S 186 (.mr m) (.d (.int .i64 x))=some (S.set m o)∧MG (S.set m o) m (updG g x 0)∧(∃ es c,o = .mp es c):=by
 obtain ⟨f,h1,h2⟩:=h
 obtain ⟨o,a,b,c⟩:=h1.del ztf x
 refine ⟨o,a,⟨_,b,fun n=>?_⟩,c⟩
 unfold updI updG
 by_cases e:n=x
 ·rw [if_pos e,if_pos e]; rfl
 ·rw [if_neg e,if_neg e]; exact h2 n
end
theorem zvh (S0:zA) (L:V) (es:List V) (l:List Chg) (hL:OwnS S0 L 80 es) (hl:ChgsV S0 es l) (hes:es.length ≤ 1000000) (mm:Nat) (hmm:S0.length ≤ mm) (R:Post) :
 ∀ (k i:Nat) (S:zA) (g:Int→Int) (g0 g1 g2 g4 g5 g6 gK gF gD gB gC gA gE gL gM gG gJ:V),l.length - i=k→i ≤ l.length→Keep S0 S→MG S mm g→(∀ n,g n ≠ 0 ↔ ∃ ch ∈ l.take i,ch.id=n) →
 (∀ S' g' i' g0 g1 g2 g4 g5 g6 gK gF gD gB gC gA gE gL gM gG gJ,Keep S0 S'→MG S' mm g'→(∀ n,g' n ≠ 0 ↔ ∃ ch ∈ l,ch.id=n)→R (.exit 0) (g0::g1::g2::(.mr mm)::g4::g5::g6::L::(.d (.int .i64 (l.length:Int)))::i'::gK::gF::gD::gB::gC::gA::gE::gL::gM::gG::gJ::[]) S' []) →
 Wp cfg (.loop (lpOf (Tryz.f159.body.getD .skip) 0)) (g0::g1::g2::(.mr mm)::g4::g5::g6::L::(.d (.int .i64 (l.length:Int)))::(.d (.int .i64 (i:Int)))::gK::gF::gD::gB::gC::gA::gE::gL::gM::gG::gJ::[]) S [] R:=by
 intro k
 have hll:=hl.1
 induction k with
 | zero =>
  intro i S g g0 g1 g2 g4 g5 g6 gK gF gD gB gC gA gE gL gM gG gJ hk hi hK hm hg hR
  have hie:i=l.length:=by omega
  subst hie
  rw [List.take_length] at hg
  rw [zO]
  refine zN ?_
  conv=>arg 2; whnf
  simp (maxSteps:=1000000) (disch:=first|assumption|omega|rfl) only [↓gp,gc,Nat.reduceAdd]
  exact hR _ _ _ _ _ _ _ _ _ _ _ _ _ _ _ _ _ _ _ _ hK hm hg
 | succ k ih =>
  intro i S g g0 g1 g2 g4 g5 g6 gK gF gD gB gC gA gE gL gM gG gJ hk hi hK hm hg hR
  have hlt:i < l.length:=by omega
  have hlt2:i < es.length:=by omega
  obtain ⟨id',hix,hre,_⟩:=kJ u119 s122 (hK.own hL) hlt2
  obtain ⟨dv,nv,he,hd5,hn3⟩:=hl.2 i es[i] l[i] (List.getElem?_eq_getElem hlt2) (List.getElem?_eq_getElem hlt)
  rw [he] at hre
  have h3:IntKind.i64.wrap ((i:Int) + 1)=((i + 1:Nat):Int):=by rw [wrap64 (by omega)]; omega
  have hm1:MG (S ++ [.row [.agg [.d (.int .i64 l[i].id),.d (.int .i64 l[i].no),.d (.int .i64 l[i].at_),dv,nv]] 80]) mm g:=hm.keep Keep.refl.app
  obtain ⟨o,ho,hm2,_⟩:=hm1.put l[i].id ((i + 1:Nat):Int)
  generalize ha:S.length=a
  rw [zO]
  refine zN ?_
  conv=>arg 2; whnf
  simp (maxSteps:=1000000) (disch:=first|assumption|omega|rfl) only [↓gp,gc,Nat.reduceAdd,hix,hre,z24,z122,z25,z3g,ha,rA0 ha,pA0 ha,z0d,z08,h3,ho]
  refine ih (i + 1) _ _ _ _ _ _ _ _ _ _ _ _ _ _ _ _ _ _ _ (by omega) (by omega) ((Keep.app hK).set hmm) hm2 ?_ hR
  intro n
  rw [jY hlt]
  unfold updG
  by_cases e:n=l[i].id
  ·rw [if_pos e]
   exact ⟨fun _=>⟨l[i],List.mem_append_right _ (List.mem_singleton.2 rfl),e.symm⟩,fun _=>by omega⟩
  ·rw [if_neg e,hg n]
   constructor
   ·exact fun ⟨ch,h1,h2⟩=>⟨ch,List.mem_append_left _ h1,h2⟩
   ·rintro ⟨ch,h1,h2⟩
    rcases List.mem_append.1 h1 with h1 | h1
    ·exact ⟨ch,h1,h2⟩
    ·simp only [List.mem_singleton] at h1
     subst h1
     exact absurd h2.symm e
theorem zg4 (S:zA) (L:V) (es:List V) (l:List Chg) (hL:OwnS S L 80 es) (hl:ChgsV S es l) (hes:es.length ≤ 1000000):EvS cfg 159 [L] S (fun o S'=>Keep S S' ∧ ∃ m g,o = .ret (.mr m)∧S.length ≤ m∧MG S' m g ∧ ∀ n,g n ≠ 0 ↔ ∃ ch ∈ l,ch.id=n):=by
 refine qE rfl zvc ?_
 show Wp cfg (Tryz.f159.body.getD .skip) (L::uZ (uZ [])) S [] _
 unfold uZ
 conv=>arg 2; whnf
 rw [zO]
 have hln : ∀ s,zI Tryz.prog (S ++ s) .len [74] [L]=some (.val (.d (.int .i64 (l.length:Int))) (S ++ s) 0):=fun s=>by rw [kE u119 ((Keep.refl.app (l:=s)).own hL),hl.1]
 simp (maxSteps:=1000000) (disch:=first|assumption|omega|rfl) only [↓gp,gc,Nat.reduceAdd,↓z1k,hln]
 refine zvh S L es l hL hl hes S.length (Nat.le_refl _) _ l.length 0 _ (fun _=>0) _ _ _ _ _ _ _ _ _ _ _ _ _ _ _ _ _ rfl (Nat.zero_le _) Keep.refl.app (MG.nil (c:=0) (by rw [List.getElem?_append_right (Nat.le_refl _),Nat.sub_self]; rfl)) (fun n=>by simp) ?_
 intro S' g' i' g0 g1 g2 g4 g5 g6 gK gF gD gB gC gA gE gL gM gG gJ hK hm hg
 simp (maxSteps:=1000000) (disch:=first|assumption|omega|rfl) only [↓gp,gc,Nat.reduceAdd]
 exact ⟨rfl,_,rfl,hK,_,_,rfl,Nat.le_refl _,hm,hg⟩
theorem zww (n:Int) (S:zA) (v:V) (out:List Int) (ho:OwnS S v 3 (zU out)) (hlen:out.length ≤ 300000) (R:Post) :
 ∀ (p:Nat) (g2 g3 g4 g6 g7 g8 g9 gK gF gD gB gC gA gE gL gM gG gJ gN gI gH gO gP gT gQ gU gR gS gV gW gX gY gZ gh gj gk gn gr gz hH hU hY hZ xA xB xC xD:V),p ≤ out.length→(∀ x ∈ out.drop p,n ≤ x) →
 (∀ (p':Nat) (hp:p' ≤ out.length) g2 g3 g4 g6 g7 g8 g9 gK gF gD gB gC gA gE gL gM gG gJ gN gI gH gO gP gT gQ gU gR gS gV gW gX gY gZ gh gj gk gn gr gz hH hU hY hZ xA xB xC xD,R (.exit 0) (v::(.d (.int .i64 n))::g2::g3::g4::(.d (.int .i64 (p':Int)))::g6::g7::g8::g9::gK::gF::gD::gB::gC::gA::gE::gL::gM::gG::gJ::gN::gI::gH::gO::gP::gT::gQ::gU::gR::gS::gV::gW::gX::gY::gZ::gh::gj::gk::gn::gr::gz::hH::hU::hY::hZ::xA::xB::xC::xD::[]) S []) →
 Wp cfg (.loop (lpOf (Tryz.f167.body.getD .skip) 0)) (v::(.d (.int .i64 n))::g2::g3::g4::(.d (.int .i64 (p:Int)))::g6::g7::g8::g9::gK::gF::gD::gB::gC::gA::gE::gL::gM::gG::gJ::gN::gI::gH::gO::gP::gT::gQ::gU::gR::gS::gV::gW::gX::gY::gZ::gh::gj::gk::gn::gr::gz::hH::hU::hY::hZ::xA::xB::xC::xD::[]) S [] R:=by
 intro p
 induction p with
 | zero =>
  intro g2 g3 g4 g6 g7 g8 g9 gK gF gD gB gC gA gE gL gM gG gJ gN gI gH gO gP gT gQ gU gR gS gV gW gX gY gZ gh gj gk gn gr gz hH hU hY hZ xA xB xC xD hp hd hR
  rw [zO]
  refine zN ?_
  conv=>arg 2; whnf
  simp only [nl0]
  simp (maxSteps:=1000000) (disch:=first|assumption|omega|rfl) only [↓gp,gc,Nat.reduceAdd]
  exact hR 0 hp _ _ _ _ _ _ _ _ _ _ _ _ _ _ _ _ _ _ _ _ _ _ _ _ _ _ _ _ _ _ _ _ _ _ _ _ _ _ _ _ _ _ _ _ _ _ _
 | succ p ih =>
  intro g2 g3 g4 g6 g7 g8 g9 gK gF gD gB gC gA gE gL gM gG gJ gN gI gH gO gP gT gQ gU gR gS gV gW gX gY gZ gh gj gk gn gr gz hH hU hY hZ xA xB xC xD hp hd hR
  have hlt:p < out.length:=by omega
  obtain ⟨id,hix,hre,_⟩:=kJ Tryz.underlying22 s3z ho (i:=p) (by rw [zY]; exact hlt)
  have hre:rowE S id p=some (.d (.int .i64 out[p])):=by rw [hre]; simp [zU]
  have hs:IntKind.i64.wrap (((p + 1:Nat):Int) - 1)=(p:Int):=by rw [wrap64 (by omega)]; omega
  have hpos:((p + 1:Nat):Int) > 0:=by omega
  rw [zO]
  refine zN ?_
  conv=>arg 2; whnf
  by_cases hgt:out[p] ≥ n
  ·have hde : ∀ i':Decidable (out[p] ≥ n),@decide (out[p] ≥ n) i'=true:=fun i'=>decide_eq_true hgt
   simp (maxSteps:=1000000) (disch:=first|assumption|omega|rfl) only [↓gp,gc,Nat.reduceAdd,hs,hix,hre,ld3r,hde]
   refine ih _ _ _ _ _ _ _ _ _ _ _ _ _ _ _ _ _ _ _ _ _ _ _ _ _ _ _ _ _ _ _ _ _ _ _ _ _ _ _ _ _ _ _ _ _ _ _ (by omega) ?_ hR
   intro x hx
   rw [List.drop_eq_getElem_cons hlt] at hx
   rcases List.mem_cons.1 hx with rfl | hx
   ·exact hgt
   ·exact hd x hx
  ·have hde : ∀ i':Decidable (out[p] ≥ n),@decide (out[p] ≥ n) i'=false:=fun i'=>decide_eq_false hgt
   simp (maxSteps:=1000000) (disch:=first|assumption|omega|rfl) only [↓gp,gc,Nat.reduceAdd,hs,hix,hre,ld3r,hde]
   exact hR (p + 1) hp _ _ _ _ _ _ _ _ _ _ _ _ _ _ _ _ _ _ _ _ _ _ _ _ _ _ _ _ _ _ _ _ _ _ _ _ _ _ _ _ _ _ _ _ _ _ _
theorem zgc (S:zA) (v:V) (out:List Int) (n:Int) (ho2:OwnS S v 3 (zU out)) (hlen:out.length ≤ 300000):EvS cfg 167 [v,.d (.int .i64 n)] S (fun o S'=>S.length ≤ S'.length∧(∀ j q,S[j]? = some q→NotAt v j→S'[j]? = some q) ∧ ∃ v' out',o = .ret v'∧OwnS S' v' 3 (zU out')∧(∀ j,j < S.length→NotAt v j→NotAt v' j)∧(∀ x,x ∈ out' ↔ x ∈ out ∨ x=n)∧out'.length ≤ out.length + 1):=by
 refine qE rfl zt1 ?_
 show Wp cfg (Tryz.f167.body.getD .skip) (v::(.d (.int .i64 n))::uZ (uZ (uZ (uZ ((.tup [])::(.tup [])::(.tup [])::(.tup [])::(.tup [])::(.tup [])::(.tup [])::(.tup [])::[]))))) S [] _
 unfold uZ
 conv=>arg 2; whnf
 rw [zO]
 have hln:zI Tryz.prog S .len [22] [v]=some (.val (.d (.int .i64 (out.length:Int))) S 0):=by rw [kE Tryz.underlying22 ho2,zY]
 simp (maxSteps:=1000000) (disch:=first|assumption|omega|rfl) only [↓gp,gc,Nat.reduceAdd,hln]
 refine zww n S v out ho2 hlen _ out.length _ _ _ _ _ _ _ _ _ _ _ _ _ _ _ _ _ _ _ _ _ _ _ _ _ _ _ _ _ _ _ _ _ _ _ _ _ _ _ _ _ _ _ _ _ _ _ (Nat.le_refl _) (by simp) ?_
 intro p hp g2 g3 g4 g6 g7 g8 g9 gK gF gD gB gC gA gE gL gM gG gJ gN gI gH gO gP gT gQ gU gR gS gV gW gX gY gZ gh gj gk gn gr gz hH hU hY hZ xA xB xC xD
 have hv1:=qG ho2
 by_cases heq : ∃ h:p < out.length,out[p]=n
 ·obtain ⟨hp0,heq⟩:=heq
  obtain ⟨id2,hix2,hre2,_⟩:=kJ Tryz.underlying22 s3z ho2 (i:=p) (by rw [zY]; omega)
  have hre2:rowE S id2 p=some (.d (.int .i64 n)):=by rw [hre2]; simp [zU,heq]
  have hpl:(p:Int) < (out.length:Int):=by omega
  simp (maxSteps:=1000000) (disch:=first|assumption|omega|rfl) only [↓gp,gc,Nat.reduceAdd,hln,hix2,hre2,ld3r,zQ]
  exact ⟨rfl,_,rfl,Nat.le_refl _,fun j q h _=>h,v,out,rfl,ho2,fun j _ h=>h,fun x=>⟨.inl,fun h=>h.elim id (fun e=>e ▸ heq ▸ List.getElem_mem _)⟩,by omega⟩
 ·obtain ⟨v',S3,cst,hap,ho3,hfr,hlen3⟩:=ap22 0 ho2 (by omega)
  have hos:OwnS S3 v' 3 (zU out ++ [.d (.int .i64 0)]):=by
   have:(out ++ [0]).map (fun x=>V.d (D.int .i64 x))=zU out ++ [.d (.int .i64 0)]:=by unfold zU; simp
   rw [← this]; exact ho3
  have hfit : ∀ x ∈ zU out ++ [.d (.int .i64 0)],qA Tryz.prog 3 x=true:=by
   intro x hx
   rcases List.mem_append.1 hx with hx | hx
   ·obtain ⟨y,_,rfl⟩:=List.mem_map.1 hx
    exact z7k y
   ·simp only [List.mem_singleton] at hx
    subst hx
    exact z7k 0
  obtain ⟨id3,hv',hrow,hs1,hs2,hcp⟩:=zls (k:=p) Tryz.underlying22 s3z hfit hos (by rw [zY]; exact hp) i46
  rw [zY] at hs1 hs2 hcp hv'
  subst hv'
  have hw1:IntKind.i64.wrap ((p:Int) + 1)=((p + 1:Nat):Int):=by rw [wrap64 (by omega)]; omega
  have hil:=zL hrow
  generalize hX:(zU out ++ [V.d (D.int .i64 0)]).take (p + 1) ++ (zU out).drop p=X at hcp
  have hXl:X.length=out.length + 1:=by rw [← hX]; simp [zU]; omega
  have hXe : ∀ y ∈ X,∃ a:Int,y = .d (.int .i64 a):=by
   intro y hy
   rw [← hX] at hy
   rcases List.mem_append.1 hy with hy | hy
   ·rcases List.mem_append.1 (List.mem_of_mem_take hy) with hy | hy
    ·obtain ⟨a,_,rfl⟩:=List.mem_map.1 hy; exact ⟨a,rfl⟩
    ·simp only [List.mem_singleton] at hy; exact ⟨0,hy⟩
   ·obtain ⟨a,_,rfl⟩:=List.mem_map.1 (List.mem_of_mem_drop hy); exact ⟨a,rfl⟩
  have hXs:X.set p (.d (.int .i64 n))=zU (out.take p ++ n::out.drop p):=by
   rw [← hX,zmq (by rw [zY]; exact hp)]
   unfold zU
   simp [List.map_take,List.map_drop]
  have hrow4:(S3.set id3 (.row X 3))[id3]? = some (.row X 3):=List.getElem?_set_self hil
  obtain ⟨id4,hix4,hre4,_⟩:=kJ (i:=p) Tryz.underlying22 s3z (show OwnS (S3.set id3 (.row X 3)) (.rs id3 0 (out.length + 1)) 3 X from .inr ⟨id3,by rw [hXl],hrow4⟩) (by omega)
  have hid4:id4=id3:=by
   have h5:rowT (S3.set id3 (.row X 3)) id3 3=true:=by simp only [rowT,hrow4,beq_self_eq_true]
   have h6:(sz Tryz.prog 3).isSome=true:=s3z
   simp only [zM,intOf?,Tryz.underlying22,h5,h6] at hix4
   rw [if_pos ⟨⟨by omega,by omega⟩,trivial,trivial⟩] at hix4
   simp only [Option.some.injEq,V.ref.injEq] at hix4
   exact hix4.1.symm
  subst hid4
  obtain ⟨a4,ha4⟩:=hXe X[p] (List.getElem_mem _)
  rw [ha4] at hre4
  have hst4 : ∀ b:Int,z0e Tryz.prog (S3.set id4 (.row X 3)) 3 (.ref id4 p 0) (.d (.int .i64 b))=z6j (S3.set id4 (.row X 3)) id4 p (some (.d (.int .i64 b))):=fun b=>by rw [z6a hre4,st3]
  have hp4 : ∀ y,jJ (S3.set id4 (.row X 3)) id4 p y=some (S3.set id4 (.row (X.set p y) 3)):=fun y=>by
   simp only [jJ,hrow4,List.set_set]
  have fin : ∀ (o:Out),o = .ret (.rs id4 0 (out.length + 1))→S.length ≤ (S3.set id4 (.row (X.set p (.d (.int .i64 n))) 3)).length∧(∀ j q,S[j]? = some q→NotAt v j→(S3.set id4 (.row (X.set p (.d (.int .i64 n))) 3))[j]? = some q) ∧ ∃ v' out',o = .ret v'∧OwnS (S3.set id4 (.row (X.set p (.d (.int .i64 n))) 3)) v' 3 (zU out')∧(∀ j,j < S.length→NotAt v j→NotAt v' j)∧(∀ x,x ∈ out' ↔ x ∈ out ∨ x=n)∧out'.length ≤ out.length + 1:=by
   intro o ho
   refine ⟨by rw [List.length_set]; exact hlen3,fun j q hj hn=>?_,_,out.take p ++ n::out.drop p,ho,?_,fun j hj hn=>?_,fun x=>zjw,?_⟩
   ·obtain ⟨h1,h2⟩:=hfr j q hj hn
    rw [List.getElem?_set_ne (by rintro rfl; exact h2 _ _ rfl)]
    exact h1
   ·rw [hXs]
    exact .inr ⟨id4,by rw [zY]; simp; omega,List.getElem?_set_self hil⟩
   ·exact (hfr j _ (List.getElem?_eq_getElem hj) hn).2
   ·simp; omega
  by_cases hp0:p < out.length
  ·obtain ⟨id2,hix2,hre2,_⟩:=kJ Tryz.underlying22 s3z ho2 (i:=p) (by rw [zY]; omega)
   have hre2:rowE S id2 p=some (.d (.int .i64 out[p])):=by rw [hre2]; simp [zU]
   have hpl:(p:Int) < (out.length:Int):=by omega
   have hne : ∀ i':Decidable (out[p]=n),@decide (out[p]=n) i'=false:=fun i'=>decide_eq_false (fun hh=>heq ⟨hp0,hh⟩)
   simp (maxSteps:=1000000) (disch:=first|assumption|omega|rfl) only [↓gp,gc,Nat.reduceAdd,hln,hix2,hre2,ld3r,hne,zQ,zmu,hap]
   refine vB (is:=[0,1,2,3,4,5,6,7]) (h:=0) (by kernel_rfl) (by kernel_rfl) ?_
   simp (maxSteps:=1000000) (disch:=first|assumption|omega|rfl) only [List.replicate_zero,eq_self,gd,ga,Nat.reduceAdd,↓gq,vso,List.append_nil,Option.map_none,hw1,hs1,hs2,hcp]
   refine ⟨fun _=>by kernel_rfl,by kernel_rfl,?_⟩
   simp (maxSteps:=1000000) (disch:=first|assumption|omega|rfl) only [↓gp,gc,Nat.reduceAdd,hix4,hst4,hp4]
   exact ⟨rfl,_,rfl,fin _ rfl⟩
  ·have hpl : ¬ (p:Int) < (out.length:Int):=by omega
   simp (maxSteps:=1000000) (disch:=first|assumption|omega|rfl) only [↓gp,gc,Nat.reduceAdd,hln,zQ,zmu,hap]
   refine vB (is:=[0,1,2,3,4,5,6,7]) (h:=0) (by kernel_rfl) (by kernel_rfl) ?_
   simp (maxSteps:=1000000) (disch:=first|assumption|omega|rfl) only [List.replicate_zero,eq_self,gd,ga,Nat.reduceAdd,↓gq,vso,List.append_nil,Option.map_none,hw1,hs1,hs2,hcp]
   refine ⟨fun _=>by kernel_rfl,by kernel_rfl,?_⟩
   simp (maxSteps:=1000000) (disch:=first|assumption|omega|rfl) only [↓gp,gc,Nat.reduceAdd,hix4,hst4,hp4]
   exact ⟨rfl,_,rfl,fin _ rfl⟩
theorem zyk (en:Int) (l:List Int) (hl:l.length ≤ 100000) (R:Post) : ∀ (k i:Nat) (was:Int) (S:zA) (g0 g2 g3 g4 g6 g7 gF gD gB gC gA gE gL gM gG gJ gN gI gH:V),l.length - i=k→i ≤ l.length→(l.drop i).Pairwise (· < ·)→(∀ x ∈ l.drop i,was < x∧x < en) →
 (∀ was' i' g0 g2 g3 g4 g6 g7 gF gD gB gC gA gE gL gM gG gJ gN gI gH,R (.exit 0) (g0::(.d (.int .i64 en))::g2::g3::g4::was'::g6::g7::(.d (encI l))::(.d (.int .i64 (l.length:Int)))::i'::gF::gD::gB::gC::gA::gE::gL::gM::gG::gJ::gN::gI::gH::[]) S []) →
 Wp cfg (.loop (lpOf (Tryz.f166.body.getD .skip) 0)) (g0::(.d (.int .i64 en))::g2::g3::g4::(.d (.int .i64 was))::g6::g7::(.d (encI l))::(.d (.int .i64 (l.length:Int)))::(.d (.int .i64 (i:Int)))::gF::gD::gB::gC::gA::gE::gL::gM::gG::gJ::gN::gI::gH::[]) S [] R:=by
 intro k
 induction k with
 | zero =>
  intro i was S g0 g2 g3 g4 g6 g7 gF gD gB gC gA gE gL gM gG gJ gN gI gH hk hi hp hr hR
  have hie:i=l.length:=by omega
  subst hie
  rw [zO]
  refine zN ?_
  conv=>arg 2; whnf
  simp (maxSteps:=1000000) (disch:=first|assumption|omega|rfl) only [↓gp,gc,Nat.reduceAdd]
  exact hR _ _ _ _ _ _ _ _ _ _ _ _ _ _ _ _ _ _ _ _ _
 | succ k ih =>
  intro i was S g0 g2 g3 g4 g6 g7 gF gD gB gC gA gE gL gM gG gJ gN gI gH hk hi hp hr hR
  have hlt:i < l.length:=by omega
  have h3:IntKind.i64.wrap ((i:Int) + 1)=((i + 1:Nat):Int):=by rw [wrap64 (by omega)]; omega
  obtain ⟨q,hix,hld⟩:=IntsV.ix (S:=S) (v:= .d (encI l)) (.inl rfl) hlt
  rw [List.drop_eq_getElem_cons hlt] at hp hr
  rw [List.pairwise_cons] at hp
  obtain ⟨h1,h2⟩:=hr l[i] List.mem_cons_self
  have n1 : ¬ l[i] ≤ was:=by omega
  have n2 : ¬ l[i] ≥ en:=by omega
  rw [zO]
  refine zN ?_
  conv=>arg 2; whnf
  simp (maxSteps:=1000000) (disch:=first|assumption|omega|rfl) only [↓gp,gc,Nat.reduceAdd,hix,hld,zQ,h3]
  exact ih (i + 1) l[i] S _ _ _ _ _ _ _ _ _ _ _ _ _ _ _ _ _ _ _ (by omega) (by omega) hp.2 (fun x hx=>⟨hp.1 x hx,(hr x (List.mem_cons_of_mem _ hx)).2⟩) hR
theorem zrg (en:Int) (l:List Int) (hl:l.length ≤ 100000) (hp:l.Pairwise (· < ·)) (hr : ∀ x ∈ l,1 ≤ x∧x < en):Ev cfg 166 [encI l,.int .i64 en] (.ret (.d (.bool true))):=by
 refine kW rfl rfl zvj ?_
 show Wp cfg (Tryz.f166.body.getD .skip) ((.d (encI l))::(.d (.int .i64 en))::uZ (uZ ((.tup [])::(.tup [])::[]))) [] [] _
 unfold uZ
 conv=>arg 2; whnf
 have hln:zI Tryz.prog [] .len [22] [.d (encI l)]=some (.val (.d (.int .i64 (l.length:Int))) [] 0):=IntsV.len (.inl rfl)
 simp (maxSteps:=1000000) (disch:=first|assumption|omega|rfl) only [↓gp,gc,Nat.reduceAdd,hln]
 refine zyk en l hl _ l.length 0 0 [] _ _ _ _ _ _ _ _ _ _ _ _ _ _ _ _ _ _ _ rfl (Nat.zero_le _) hp (fun x hx=>⟨by have:=(hr x hx).1; omega,(hr x hx).2⟩) ?_
 intro was' i' g0 g2 g3 g4 g6 g7 gF gD gB gC gA gE gL gM gG gJ gN gI gH
 simp (maxSteps:=1000000) (disch:=first|assumption|omega|rfl) only [↓gp,gc,Nat.reduceAdd]
 exact zS rfl rfl rfl
section
variable {a b c:Int} {dv nv:V}
theorem zb1:qZ Tryz.prog 22 4 (some (.agg [.d (.int .i64 a),.d (.int .i64 b),.d (.int .i64 c),dv,nv]))=some nv:=by kernel_rfl
theorem zbn {d x y:Nat}:zX Tryz.prog 80 3 (.ref d x y)=some (.ref d x (y + 4)):=by kernel_rfl
end
theorem zjx {ops:Array Oper} {dst:Option Tmp} {k:List Oper} {T:List V} {S:zA} {F:Dfs} {Q:Post} {nv:V} {l:List Int} {en:Int} (hn:OwnS S nv 3 (zU l)) (hl:l.length ≤ 100000) (hp:l.Pairwise (· < ·)) (hr : ∀ x ∈ l,1 ≤ x∧x < en):WpR cfg ops dst k T S F Q (some (.enter 166 [nv,.d (.int .i64 en)]))=WpL cfg ops k (putT T dst (.d (.bool true))) S F Q :=
 zl0 (ds:=[encI l,.int .i64 en]) rfl (by
  have h1:Go.Vm.frz S zG nv=some (encI l):=zk5 (by rw [List.map_map]; exact hn)
  simp only [allO,h1]; rfl) rfl (zrg en l hl hp hr)
theorem z70 : ∀ {l:List Int} {a:Int},l.Pairwise (· < ·)→(∀ x ∈ l,a ≤ x) → ∀ {b:Int},(∀ x ∈ l,x < b)→a ≤ b→(l.length:Int) ≤ b - a
 | [],_,_,_,_,_,h=>by simp; omega
 | x::r,a,hp,h1,b,h2,hab=>by
  rw [List.pairwise_cons] at hp
  have hx:=h1 x List.mem_cons_self
  have hx2:=h2 x List.mem_cons_self
  have:=z70 (a:=x + 1) hp.2 (fun y hy=>by have:=hp.1 y hy; omega) (b:=b) (fun y hy=>h2 y (List.mem_cons_of_mem _ hy)) (by omega)
  rw [List.length_cons]
  omega
theorem zos (n last:Nat) (hlast:last ≤ 100000) (S0:zA) (L:V) (es:List V) (l:List Chg) (hL:OwnS S0 L 80 es) (hl:ChgsV S0 es l) (hes:es.length ≤ 1000000) (hok : ∀ ch ∈ l,z69 n last ch) (hids:l.Pairwise (fun a b=>a.id < b.id)) (R:Post) :
 ∀ (k i:Nat) (was:Int) (S:zA) (g0 g1 g4 g5 g9 gK gF gD gB gC gA gE gL gM gG gJ gN gI gH gO gP gT gQ gU gR gS gV gW gX gY gZ gh gj:V),l.length - i=k→i ≤ l.length→Keep S0 S→(∀ ch ∈ l.drop i,was < ch.id) →
 (∀ S' was' i' g0 g1 g4 g5 g9 gK gF gD gB gC gA gE gL gM gG gJ gN gI gH gO gP gT gQ gU gR gS gV gW gX gY gZ gh gj,Keep S0 S'→R (.exit 0) (g0::g1::(.d (.int .i64 0))::was'::g4::g5::L::(.d (.int .i64 (l.length:Int)))::i'::g9::gK::gF::gD::gB::gC::gA::gE::gL::gM::gG::gJ::gN::gI::gH::gO::gP::gT::gQ::gU::gR::gS::gV::gW::gX::gY::gZ::gh::gj::[]) S' []) →
 Wp cfg (.loop (lpOf (Tryz.f158.body.getD .skip) 0)) (g0::g1::(.d (.int .i64 0))::(.d (.int .i64 was))::g4::g5::L::(.d (.int .i64 (l.length:Int)))::(.d (.int .i64 (i:Int)))::g9::gK::gF::gD::gB::gC::gA::gE::gL::gM::gG::gJ::gN::gI::gH::gO::gP::gT::gQ::gU::gR::gS::gV::gW::gX::gY::gZ::gh::gj::[]) S [] R:=by
 intro k
 have hll:=hl.1
 induction k with
 | zero =>
  intro i was S g0 g1 g4 g5 g9 gK gF gD gB gC gA gE gL gM gG gJ gN gI gH gO gP gT gQ gU gR gS gV gW gX gY gZ gh gj hk hi hK hw hR
  have hie:i=l.length:=by omega
  subst hie
  rw [zO]
  refine zN ?_
  conv=>arg 2; whnf
  simp (maxSteps:=1000000) (disch:=first|assumption|omega|rfl) only [↓gp,gc,Nat.reduceAdd]
  exact hR _ _ _ _ _ _ _ _ _ _ _ _ _ _ _ _ _ _ _ _ _ _ _ _ _ _ _ _ _ _ _ _ _ _ _ _ hK
 | succ k ih =>
  intro i was S g0 g1 g4 g5 g9 gK gF gD gB gC gA gE gL gM gG gJ gN gI gH gO gP gT gQ gU gR gS gV gW gX gY gZ gh gj hk hi hK hw hR
  have hlt:i < l.length:=by omega
  have hlt2:i < es.length:=by omega
  obtain ⟨id',hix,hre,_⟩:=kJ u119 s122 (hK.own hL) hlt2
  obtain ⟨dv,nv,he,hd5,hn3⟩:=hl.2 i es[i] l[i] (List.getElem?_eq_getElem hlt2) (List.getElem?_eq_getElem hlt)
  rw [he] at hre
  have h3:IntKind.i64.wrap ((i:Int) + 1)=((i + 1:Nat):Int):=by rw [wrap64 (by omega)]; omega
  obtain ⟨g1,g2,g3,g4,g5,g6,g7⟩:=hok l[i] (List.getElem_mem hlt)
  rw [List.drop_eq_getElem_cons hlt] at hw
  have hw1:=hw l[i] List.mem_cons_self
  have n1 : ¬ l[i].id ≤ was:=by omega
  have n2 : ¬ l[i].no < 0:=by omega
  have hkx:Keep S0 (S ++ [.row [.agg [.d (.int .i64 l[i].id),.d (.int .i64 l[i].no),.d (.int .i64 l[i].at_),dv,nv]] 80]):=hK.app
  have hpc:=fun {ops dst k T F Q}=>z0p (ops:=ops) (dst:=dst) (k:=k) (T:=T) (F:=F) (Q:=Q) (S:=S ++ [.row [.agg [.d (.int .i64 l[i].id),.d (.int .i64 l[i].no),.d (.int .i64 l[i].at_),dv,nv]] 80]) (p:= .agg [.d (.int .i64 l[i].at_),dv]) (dv:=dv) (a:=l[i].at_) (b:=l[i].data) (.inl ⟨rfl,.inl (hkx.own hd5)⟩) (by obtain ⟨_,_,q3,q4⟩:=g1; unfold InB; omega)
  rw [if_pos g1] at hpc
  have hri:=fun {ops dst k T F Q}=>zjx (ops:=ops) (dst:=dst) (k:=k) (T:=T) (F:=F) (Q:=Q) (hkx.own hn3) (en:=l[i].id) (by have:=z70 g6 (fun x hx=>(g7 x hx).1) (fun x hx=>(g7 x hx).2) (by omega); omega) g6 g7
  have hn1:=qG hn3
  have hd1:=qG hd5
  generalize ha:S.length=a
  rw [zO]
  refine zN ?_
  conv=>arg 2; whnf
  simp (maxSteps:=1000000) (disch:=first|assumption|omega|rfl) only [↓gp,gc,Nat.reduceAdd,hix,hre,z24,z122,z25,z3g,ha,rA0 ha,pA0 ha,z0d,z0b,z0o,zbn,z08,z0a,z1o,zb1,zQ,hpc,z96,hri,zxz,hn1,hd1,wH,Bool.not_true,h3]
  refine ih (i + 1) l[i].id _ _ _ _ _ _ _ _ _ _ _ _ _ _ _ _ _ _ _ _ _ _ _ _ _ _ _ _ _ _ _ _ _ _ (by omega) (by omega) hkx ?_ hR
  intro ch hch
  have:=List.pairwise_iff_getElem.1 hids
  obtain ⟨j,hj,rfl⟩:=List.mem_iff_getElem.1 hch
  rw [List.getElem_drop]
  exact this i (i + 1 + j) hlt (by rw [List.length_drop] at hj; omega) (by omega)
theorem zjq (n last:Nat) (hlast:last ≤ 100000) (S:zA) (L:V) (es:List V) (l:List Chg) (hL:OwnS S L 80 es) (hl:ChgsV S es l) (hes:es.length ≤ 1000000) (hok : ∀ ch ∈ l,z69 n last ch) (hids:l.Pairwise (fun a b=>a.id < b.id)):EvS cfg 158 [L] S (fun o S'=>Keep S S'∧o = .ret (.d (.int .i64 0))):=by
 refine qE rfl zsw ?_
 show Wp cfg (Tryz.f158.body.getD .skip) (L::uZ (uZ (uZ ((.tup [])::(.tup [])::(.tup [])::(.tup [])::(.tup [])::(.tup [])::(.tup [])::[])))) S [] _
 unfold uZ
 conv=>arg 2; whnf
 rw [zO]
 have hln:zI Tryz.prog S .len [74] [L]=some (.val (.d (.int .i64 (l.length:Int))) S 0):=by rw [kE u119 hL,hl.1]
 simp (maxSteps:=1000000) (disch:=first|assumption|omega|rfl) only [↓gp,gc,Nat.reduceAdd,hln]
 refine zos n last hlast S L es l hL hl hes hok hids _ l.length 0 0 S _ _ _ _ _ _ _ _ _ _ _ _ _ _ _ _ _ _ _ _ _ _ _ _ _ _ _ _ _ _ _ _ _ rfl (Nat.zero_le _) Keep.refl (fun ch hch=>by have:=(hok ch (by simpa using hch)).2.2.2.1; omega) ?_
 intro S' was' i' g0 g1 g4 g5 g9 gK gF gD gB gC gA gE gL gM gG gJ gN gI gH gO gP gT gQ gU gR gS gV gW gX gY gZ gh gj hK
 simp (maxSteps:=1000000) (disch:=first|assumption|omega|rfl) only [↓gp,gc,Nat.reduceAdd]
 exact ⟨rfl,_,rfl,hK,rfl⟩
def z3f (a:Int) (x:List UInt8) (b:Int) (y:List UInt8):Prop:=a < b + y.length∧b < a + x.length
instance {a:Int} {x:List UInt8} {b:Int} {y:List UInt8}:Decidable (z3f a x b y):=by unfold z3f; infer_instance
theorem zv9 (a:Int) (x:List UInt8) (b:Int) (y:List UInt8) (hx:kG a x) (hy:kG b y):Ev cfg 168 [patD a x,patD b y] (.ret (.d (.bool (decide (z3f a x b y))))):=by
 refine kW rfl rfl zr6 ?_
 show Wp cfg (Tryz.f168.body.getD .skip) ((.d (patD a x))::(.d (patD b y))::uZ (uZ (uZ ((.tup [])::[])))) [] [] _
 unfold uZ
 conv=>arg 2; whnf
 have x1:=hx.1
 have x2:=hx.2.1
 have x3:=hx.2.2.1
 have x4:=hx.2.2.2
 have y1:=hy.1
 have y2:=hy.2.1
 have y3:=hy.2.2.1
 have y4:=hy.2.2.2
 have c1:=fun {ops dst k T S F Q}=>z0p (ops:=ops) (dst:=dst) (k:=k) (T:=T) (F:=F) (Q:=Q) (S:=S) (p:= .d (patD a x)) (dv:= .d (encB x)) (a:=a) (b:=x) (.inr ⟨rfl,rfl⟩) (by unfold InB; omega)
 have c2:=fun {ops dst k T S F Q}=>z0p (ops:=ops) (dst:=dst) (k:=k) (T:=T) (F:=F) (Q:=Q) (S:=S) (p:= .d (patD b y)) (dv:= .d (encB y)) (a:=b) (b:=y) (.inr ⟨rfl,rfl⟩) (by unfold InB; omega)
 rw [if_pos hx] at c1
 rw [if_pos hy] at c2
 have w1:IntKind.i64.wrap (b + (y.length:Int))=b + y.length:=wrap64 (by omega)
 have w2:IntKind.i64.wrap (a + (x.length:Int))=a + x.length:=wrap64 (by omega)
 by_cases h1:a < b + (y.length:Int)
 ·by_cases h2:b < a + (x.length:Int)
  ·have e:decide (z3f a x b y)=true:=decide_eq_true ⟨h1,h2⟩
   rw [e]
   simp (maxSteps:=1000000) (disch:=first|assumption|omega|rfl) only [↓gp,gc,Nat.reduceAdd,fd56,z51,z21,z4y,z5f,zox,z5i,zQ,c1,c2,z96,w1,w2]
   exact zS rfl rfl rfl
  ·have e:decide (z3f a x b y)=false:=decide_eq_false (fun h=>h2 h.2)
   rw [e]
   simp (maxSteps:=1000000) (disch:=first|assumption|omega|rfl) only [↓gp,gc,Nat.reduceAdd,fd56,z51,z21,z4y,z5f,zox,z5i,zQ,c1,c2,z96,w1,w2]
   exact zS rfl rfl rfl
 ·have e:decide (z3f a x b y)=false:=decide_eq_false (fun h=>h1 h.1)
  rw [e]
  simp (maxSteps:=1000000) (disch:=first|assumption|omega|rfl) only [↓gp,gc,Nat.reduceAdd,fd56,z51,z21,z4y,z5f,zox,z5i,zQ,c1,c2,z96,w1,w2]
  exact zS rfl rfl rfl
end Go.Proofs.YtobgdmgldagjkaaGreat
end
