/- store.Put, Fill, whatever they are told. -/
import Derived.Test.YtobgdmgldagjkaaGreatW09
set_option linter.unusedVariables false
set_option linter.unusedSimpArgs false
set_option maxRecDepth 100000
set_option maxHeartbeats 4000000
set_option linter.defProp false
section
namespace Go.Proofs.YtobgdmgldagjkaaGreat
open Go.Vm
def spE (e:Int) (C:CS) (no a:Int) (b:List UInt8) (ids:List Int):Int:=if e ≠ 0 then e else putE C no a b (noZ ids)
def spC (e:Int) (C:CS) (no a:Int) (b:List UInt8) (ids:List Int):CS:=if e ≠ 0 then C else if putE C no a b (noZ ids) ≠ 0 then C else C.put no a b (vA C (noZ ids))
def spI (e:Int) (C:CS) (no a:Int) (b:List UInt8) (ids:List Int):Int:=if e ≠ 0 then 0 else if putE C no a b (noZ ids) ≠ 0 then 0 else (C.last:Int) + 1
theorem zmt (S:zA) (x c r m mk:Nat) (l:Lay) (e:Int) (C:CS) (mf:Int→Option V) (h0:StoreP S x c r m mk l e C mf) (he0:e ≠ 0) (u p nd:V) (hft:qA Tryz.prog 78 p=true):EvS cfg 50 [.ref x 0 0,u,p,nd] S (fun o S'=>Keep S S'∧o = .ret (.d (.int .i64 0))):=by
 refine qE rfl zld ?_
 show Wp cfg (Tryz.f50.body.getD .skip) ((.ref x 0 0)::u::p::nd::uZ (uZ ((.tup [])::(.tup [])::(.tup [])::(.tup [])::(.tup [])::(.tup [])::(.tup [])::[]))) S [] _
 unfold uZ
 conv=>arg 2; whnf
 rw [zO]
 have hk0:Keep S (S ++ [.row [p] 78]):=Keep.refl.app
 have he:=fun {ops dst k T F Q}=>zF (ops:=ops) (dst:=dst) (l:=k) (T:=T) (F:=F) (Q:=Q) rfl (z7x _ x c mk l.blocks l.inodes l.merge e (h0.keep hk0).hx)
 have hde : ∀ i:Decidable (e ≠ 0),@decide (e ≠ 0) i=true:=fun i=>decide_eq_true he0
 simp (maxSteps:=1000000) (disch:=first|assumption|omega|rfl) only [↓gp,gc,Nat.reduceAdd,hft,he,bo45,hde]
 exact ⟨rfl,_,rfl,hk0,rfl⟩
theorem zo8 (S:zA) (x c r m mk:Nat) (l:Lay) (C:CS) (mf:Int→Option V) (h0:StoreP S x c r m mk l 0 C mf) (no:Int) (p dv:V) (a:Int) (b:List UInt8) (hp:PatV S p dv a b) (ha:InB a) (nd:V) (ids:List Int) (hnd:IntsV S nd ids) (hids:ids.length ≤ 17592186044416) (hpe:putE C no a b (noZ ids) ≠ 0) :
  EvS cfg 50 [.ref x 0 0,.d (.int .i64 no),p,nd] S (fun o S'=>FrS m r S S'∧StoreP S' x c r m mk l (putE C no a b (noZ ids)) C mf∧o = .ret (.d (.int .i64 0))):=by
 refine qE rfl zld ?_
 show Wp cfg (Tryz.f50.body.getD .skip) ((.ref x 0 0)::(.d (.int .i64 no))::p::nd::uZ (uZ ((.tup [])::(.tup [])::(.tup [])::(.tup [])::(.tup [])::(.tup [])::(.tup [])::[]))) S [] _
 unfold uZ
 conv=>arg 2; whnf
 rw [zO]
 generalize hal:S.length=al
 have hft:=hp.ft
 have hl0:=hp.l0
 have hd1:=hnd.one
 have hk0:Keep S (S ++ [.row [p] 78]):=Keep.refl.app
 have h3:=h0.keep hk0
 have he:=fun {ops dst k T F Q}=>zF (ops:=ops) (dst:=dst) (l:=k) (T:=T) (F:=F) (Q:=Q) rfl (z7x _ x c mk l.blocks l.inodes l.merge 0 h3.hx)
 obtain ⟨o,S1,⟨hK1,v,rfl,hv⟩,hsE⟩:=qC (zl8 _ nd ids (hnd.keep hk0) (by omega))
 have hs:=fun {ops base K ws cs i dst T}=>jQ (ops:=ops) (base:=base) (K:=K) (ws:=ws) (cs:=cs) (i:=i) (dst:=dst) (T:=T) rfl hsE
 have h3b:=h3.keep hK1
 have hk1:=hk0.trans hK1
 have hp1:PatV S1 p dv a b:=hp.frm (ts:=[]) (ms:=[]) (r:=0) (Frm.keep hk1) rfl
 have hnl:(noZ ids).length ≤ 17592186044416:=Nat.le_trans (List.length_filter_le ..) hids
 obtain ⟨o,S2,⟨hK2,rfl⟩,hE⟩:=qC (zoz _ c r m C h3b.ca no p dv a b hp1 ha v (noZ ids) hv hnl hpe)
 have hcp:=fun {ops base K ws cs i dst T}=>jQ (ops:=ops) (base:=base) (K:=K) (ws:=ws) (cs:=cs) (i:=i) (dst:=dst) (T:=T) rfl hE
 have hrx:=zD (e:=122) h3.hx
 have hrx1:=zD (e:=122) h3b.hx
 have hal1:=hK1 al (.row [p] 78) (by rw [List.getElem?_append_right (by omega),hal,Nat.sub_self]; rfl)
 have hral1:=zD (e:=78) hal1
 have h4:=h3b.keep hK2
 have hrx2:=zD (e:=122) h4.hx
 have hpx2:=fun y=>qH (y:=y) (e:=122) h4.hx
 have hp1':=hp.one
 have hv1:=qG hv
 simp (maxSteps:=1000000) (disch:=first|assumption|omega|rfl) only [↓gp,gc,Nat.reduceAdd,hft,hal,he,bo45]
 refine qT (is:=[0,1,2,3,4,5,6,7,8,9,10,11,12,13]) (h:=0) (by kernel_rfl) (by kernel_rfl) ?_
 simp (maxSteps:=1000000) (disch:=first|assumption|omega|rfl) only [List.replicate_zero,eq_self,gw,ga,Nat.reduceAdd,↓gq,vso,List.append_nil,hrx,qQ,kD,zez,z8n,rA0 hal,hl0,hs,bo98,hcp,bo97,hp1',hd1,hv1]
 have hsm:=hp.same
 refine ⟨qK rfl (by kernel_rfl) rfl (z02 ((zJ hral1).trans hl0)) hsm (qK rfl (by kernel_rfl) rfl (z02 ((zJ hrx1).trans z8n)) (by simp [wU,qR,qP]) qB),zP (by kernel_rfl) (zP (by kernel_rfl) qB),by kernel_rfl,?_⟩
 simp (maxSteps:=1000000) (disch:=first|assumption|omega|rfl) only [↓gp,gc,Nat.reduceAdd,zf3,hrx2,zlx,hpx2]
 refine ⟨rfl,_,rfl,?_,h4.err _,rfl⟩
 exact ((Frm.keep (hk1.trans hK2))).set (fun q hq=>by cases getE h0.hx hq; rfl)
theorem zb6 (S:zA) (x c r m mk:Nat) (l:Lay) (e:Int) (C:CS) (mf:Int→Option V) (h0:StoreP S x c r m mk l e C mf) (no:Int) (p dv:V) (a:Int) (b:List UInt8) (hp:PatV S p dv a b) (ha:InB a) (nd:V) (ids:List Int) (hnd:IntsV S nd ids) (hids:ids.length ≤ 17592186044416) (hl:C.last < 100000) :
  EvS cfg 50 [.ref x 0 0,.d (.int .i64 no),p,nd] S (fun o S'=>FrS m r S S'∧StoreP S' x c r m mk l (spE e C no a b ids) (spC e C no a b ids) mf∧o = .ret (.d (.int .i64 (spI e C no a b ids)))):=by
 by_cases he:e=0
 ·subst he
  by_cases hpe:putE C no a b (noZ ids) ≠ 0
  ·refine z4w (zo8 S x c r m mk l C mf h0 no p dv a b hp ha nd ids hnd hids hpe) fun o S' h=>?_
   unfold spE spC spI
   have hz : ¬ ((0:Int) ≠ 0):=fun h=>h rfl
   rw [if_neg hz,if_neg hz,if_neg hz,if_pos hpe,if_pos hpe]
   exact h
  ·have hpe':putE C no a b (noZ ids)=0:=by omega
   have hpk:kG a b:=by
    by_cases h:kG a b
    ·exact h
    ·unfold putE at hpe'; rw [if_pos h] at hpe'; cases hpe'
   have hrg : ∀ y ∈ noZ ids,1 ≤ y∧y ≤ (C.last:Int):=by
    by_cases h : ∀ y ∈ noZ ids,1 ≤ y∧y ≤ (C.last:Int)
    ·exact h
    ·unfold putE at hpe'; rw [if_neg (fun hh=>hh hpk),if_pos h] at hpe'; cases hpe'
   have hno : ¬ (no < 0 ∨ no ≥ C.img.length):=by
    intro h
    unfold putE at hpe'
    rw [if_neg (fun hh=>hh hpk),if_neg (fun hh=>hh hrg),if_pos h] at hpe'
    cases hpe'
   obtain ⟨k,rfl⟩ : ∃ k:Nat,no=k:=⟨no.toNat,by omega⟩
   have hnl:(noZ ids).length ≤ 17592186044416:=Nat.le_trans (List.length_filter_le ..) hids
   have hnd2:=zgb h0.ca.ok (l:=noZ ids)
   refine z4w (zuy S x c r m mk l C mf h0 k (by omega) p dv a b hp hpk ha nd ids (vA C (noZ ids)) hnd (by omega) (fun S1 v h1 h2=>zk8 S1 c r m C h1 v (noZ ids) h2 hnl hrg) hnd2.1 hnd2.2 hl) fun o S' h=>?_
   unfold spE spC spI
   have hz : ¬ ((0:Int) ≠ 0):=fun h=>h rfl
   rw [if_neg hz,if_neg hz,if_neg hz,if_neg hpe,if_neg hpe,hpe']
   exact h
 ·refine z4w (zmt S x c r m mk l e C mf h0 he (.d (.int .i64 no)) p nd hp.ft) fun o S' ⟨h1,h2⟩=>?_
  unfold spE spC spI
  rw [if_pos he,if_pos he,if_pos he]
  exact ⟨Frm.keep h1,h0.keep h1,h2⟩
theorem q15 {n:Int} {b:List UInt8}:wX Tryz.prog 78 [(0,.d (.int .i64 n)),(1,.d (encB b))]=some (.agg [.d (.int .i64 n),.d (encB b)]):=by kernel_rfl
theorem zpi {ops:Array Oper} {dst:Option Tmp} {k:List Oper} {T:List V} {S:zA} {F:Dfs} {Q:Post} {u:V} {b:List UInt8} (hu:IsB u b) (hb:b.length=256):WpR cfg ops dst k T S F Q (some (.enter 107 [u,.d (.int .i64 0),.d (.int .i64 256)]))=WpL cfg ops k (putT T dst (.d (encB b))) S F Q :=
 kT (ds:=[blkD b,.int .i64 0,.int .i64 256]) rfl (by simp only [allO,hu.frz (n:=10),zG]; rfl) (by rw [List.flatMap_cons,hu.frzIds]; rfl) (by
  have:=zqr b hb 0 256 (by omega) (by omega)
  rw [List.drop_zero,List.take_of_length_le (by omega)] at this
  exact this)
theorem zow (S:zA) (x c r m mk:Nat) (l:Lay) (e:Int) (C:CS) (mf:Int→Option V) (h0:StoreP S x c r m mk l e C mf) (no:Int) (u:V) (b:List UInt8) (hu:IsB u b) (hb:b.length=256) (nd:V) (ids:List Int) (hnd:IntsV S nd ids) (hids:ids.length ≤ 17592186044416) (hl:C.last < 100000) :
  EvS cfg 66 [.ref x 0 0,.d (.int .i64 no),u,nd] S (fun o S'=>FrS m r S S'∧StoreP S' x c r m mk l (spE e C no 0 b ids) (spC e C no 0 b ids) mf∧o = .ret (.d (.int .i64 (spI e C no 0 b ids)))):=by
 refine qE rfl zvr ?_
 show Wp cfg (Tryz.f66.body.getD .skip) ((.ref x 0 0)::(.d (.int .i64 no))::u::nd::uZ ((.tup [])::(.tup [])::[])) S [] _
 unfold uZ
 conv=>arg 2; whnf
 rw [zO]
 generalize hal:S.length=al
 have hf:=bt42.fits hu hb
 have hld:=bt42.load hu hb
 have hu1:=hu.one
 have hd1:=hnd.one
 have hk0:Keep S (S ++ [.row [u] 42]):=Keep.refl.app
 have hc:=fun {ops dst k T S F Q}=>zpi (ops:=ops) (dst:=dst) (k:=k) (T:=T) (S:=S) (F:=F) (Q:=Q) hu hb
 have hpt:PatV (S ++ [.row [u] 42]) (.agg [.d (.int .i64 0),.d (encB b)]) (.d (encB b)) 0 b:= .inl ⟨rfl,.inr (.inl rfl)⟩
 have hp1:=hpt.one
 obtain ⟨o,S2,⟨hF,hS,rfl⟩,hE⟩:=qC (zb6 _ x c r m mk l e C mf (h0.keep hk0) no _ _ 0 b hpt (by unfold InB; omega) nd ids (hnd.keep hk0) hids hl)
 have hE:=fun {ops dst k T F Q}=>zF (ops:=ops) (dst:=dst) (l:=k) (T:=T) (F:=F) (Q:=Q) rfl hE
 simp (maxSteps:=1000000) (disch:=first|assumption|omega|rfl) only [↓gp,gc,Nat.reduceAdd,hf,hal,rA0 hal,hld,hu1,hc,zpv,q15,hd1,hp1,hE,bo50]
 exact ⟨rfl,_,rfl,(Frm.keep hk0).trans hF,hS,rfl⟩
def zxm (l:Lay) (ino:Int):Prop:=1 ≤ ino∧ino ≤ l.inodes
instance {l:Lay} {ino:Int}:Decidable (zxm l ino):=by unfold zxm; infer_instance
def fulL (x:UInt8):List UInt8:=List.replicate 256 x
theorem vR {x:UInt8}:(fulL x).length=256:=by unfold fulL; rw [List.length_replicate]
theorem zz0 (x:UInt8) (R:Post) : ∀ (k j:Nat) (v:V) (g1 g5 g6 g7 g8 g9 gK gF gD:V),256 - j=k→j ≤ 256→IsB v (vG (fulL x) j) →
 (∀ v j' g1 g5 g6 g7 g8 g9 gK gF gD,IsB v (fulL x)→R (.exit 0) ((.d (byD x))::g1::(.ref 0 0 0)::(.ref 1 0 0)::j'::g5::g6::g7::g8::g9::gK::gF::gD::[]) [.row [blkV (zK 256)] 42,.row [v] 42] []) →
 Wp cfg (.loop (lpOf (Tryz.f20.body.getD .skip) 0)) ((.d (byD x))::g1::(.ref 0 0 0)::(.ref 1 0 0)::(.d (.int .i64 (j:Int)))::g5::g6::g7::g8::g9::gK::gF::gD::[]) [.row [blkV (zK 256)] 42,.row [v] 42] [] R:=by
 intro k
 have htl:(fulL x).length=256:=vR
 induction k with
 | zero =>
  intro j v g1 g5 g6 g7 g8 g9 gK gF gD hk hj hv hR
  have hje:j=256:=by omega
  subst hje
  have e:vG (fulL x) 256=fulL x:=by
   have:vG (fulL x) (fulL x).length=fulL x:=by unfold vG zK; rw [List.take_length,Nat.sub_self]; simp
   rw [htl] at this; exact this
  rw [e] at hv
  have h7 : ¬ ((256:Nat):Int) < 256:=by omega
  rw [zO]
  refine zN ?_
  conv=>arg 2; whnf
  simp (maxSteps:=1000000) (disch:=first|assumption|omega|rfl) only [↓gp,gc,Nat.reduceAdd]
  exact hR _ _ _ _ _ _ _ _ _ _ _ hv
 | succ k ih =>
  intro j v g1 g5 g6 g7 g8 g9 gK gF gD hk hj hv hR
  have hlt:j < 256:=by omega
  have hlt7:(j:Int) < 256:=by omega
  have hfl:=z8g (t:=fulL x) (i:=j) (by omega)
  have h3:IntKind.i64.wrap ((j:Int) + 1)=((j + 1:Nat):Int):=by rw [wrap64 (by omega)]; omega
  have hia:=fun S j' y=>ia42 (S:=S) (j:=j') (x:=y) (i:=j) (by omega)
  have he:(fulL x)[j]'(by omega)=x:=by unfold fulL; rw [List.getElem_replicate]
  have hpt:=bt42.put hv (hfl.trans htl) (i:=j) (by omega) (x:=(fulL x)[j]'(by omega))
  rw [z8b (by omega)] at hpt
  have hpt:qW Tryz.prog 5 j (.d (byD x)) v=some (blkV (vG (fulL x) (j + 1))):=by
   rw [← hpt,he]; rfl
  rw [zO]
  refine zN ?_
  conv=>arg 2; whnf
  simp (maxSteps:=1000000) (disch:=first|assumption|omega|rfl) only [↓gp,gc,Nat.reduceAdd,h3,hia,hpt]
  exact ih (j + 1) _ _ _ _ _ _ _ _ _ _ (by omega) (by omega) isB_v hR
theorem zmf (x:UInt8):Ev cfg 20 [byD x] (.ret (.d (blkD (fulL x)))):=by
 refine kW rfl rfl zw7 ?_
 show Wp cfg (Tryz.f20.body.getD .skip) ((.d (byD x))::uZ ((.tup [])::(.tup [])::[])) [] [] _
 unfold uZ
 conv=>arg 2; whnf
 simp (maxSteps:=1000000) (disch:=first|assumption|omega|rfl) only [↓gp,gc,Nat.reduceAdd,z42,zf42]
 refine zz0 x _ 256 0 _ _ _ _ _ _ _ _ _ _ rfl (Nat.zero_le _) (by
  have:vG (fulL x) 0=zK 256:=by unfold vG; rw [List.take_zero,vR]; rfl
  rw [this]; exact isB_v) ?_
 intro v j' g1 g5 g6 g7 g8 g9 gK gF gD hv
 have l0:=z256
 have hld:=bt42.load hv vR
 have hv1:=hv.one
 have hst:=bt42.store hv vR (w:=blkV (zK 256)) isB_v z256
 simp (maxSteps:=1000000) (disch:=first|assumption|omega|rfl) only [↓gp,gc,Nat.reduceAdd,hld,hv1,hst]
 exact wL (u:= .ref 0 0 0) (v:=v) rfl ((zJ rfl).trans hld) hv1 (hv.frz (n:=10))
theorem s42z:(sz Tryz.prog 42).isSome=true:=by kernel_rfl
theorem zrc:IK Tryz.prog 114 3 22 (.ts []):=⟨by kernel_rfl,fun _ _=>rfl,fun _=>by kernel_rfl,by kernel_rfl⟩
def MkV (S:zA) (mf:Int→Option V) (b:Nat):Prop:= ∀ n v,mf n=some v → ∃ ms,OwnS S v 3 (zU ms)∧ms.length ≤ b
theorem MkV.own {S S':zA} {mf:Int→Option V} {b:Nat} (h:MkV S mf b) (hk : ∀ v xs,OwnS S v 3 xs→OwnS S' v 3 xs):MkV S' mf b:=fun n v hv=>by
 obtain ⟨ms,h1,h2⟩:=h n v hv
 exact ⟨ms,hk _ _ h1,h2⟩
theorem q1c {S:zA} {w:V} {ys:List Int} (h:OwnS S w 3 (zU ys)):srcV Tryz.prog S 3 22 w=some (zU ys):=by
 have he:jV S w=some (zU ys):=by
  rcases h with ⟨rfl,h2⟩ | ⟨id,rfl,h2⟩
  ·rw [h2]; rfl
  ·simp only [jV,h2,Nat.zero_add,Nat.le_refl,if_true,List.drop_zero,List.take_length]
 have hs : ∀ s,w ≠ .d (.str s):=by
  intro s hh
  rcases z1z h with h | ⟨_,_,h⟩ <;> (rw [h] at hh; cases hh)
 have hf:(zU ys).all (qA Tryz.prog 3)=true:=by
  rw [List.all_eq_true]
  intro x hx
  obtain ⟨y,_,rfl⟩:=List.mem_map.1 hx
  exact z7k y
 have h6:(sz Tryz.prog 3).isSome=true:=s3z
 unfold srcV
 split
 ·rename_i s; exact absurd rfl (hs s)
 ·simp only [Tryz.underlying22,he,hf,h6,Bool.and_self,if_true]
abbrev FrM (m mk r:Nat):zA→zA→Prop:=Frm stT [m,mk] 42 r
theorem FrS.toM {m mk r:Nat} {S S':zA} (h:FrS m r S S'):FrM m mk r S S':=h.mono (fun _ h=>h) (fun e he=>by simp only [List.contains_cons,List.contains_nil,Bool.or_false,beq_iff_eq] at he ⊢; simp [he])
theorem CacheP.setmp {S:zA} {c d r m k:Nat} {L:V} {es vs:List V} {f:Int→Option V} {z:Int} {w q:Nat} {C:CS} (h:CacheP S c d r m L es vs f z w q C) {xs:List (D × V × Nat)} {e:Nat} (hk:S[k]? = some (.mp xs e)) (hkm:k ≠ m) {o:Ob}:CacheP (S.set k o) c d r m L es vs f z w q C:=by
 have at_ : ∀ {j:Nat} {ys:List V} {t:TypeId},S[j]? = some (.row ys t)→(S.set k o)[j]? = some (.row ys t):=fun hj=>by rw [List.getElem?_set_ne (by rintro rfl; cases getE hk hj)]; exact hj
 have own : ∀ {u:V} {t:TypeId} {ys:List V},OwnS S u t ys→OwnS (S.set k o) u t ys:=fun ho=>by
  rcases ho with ho | ⟨id,p,q⟩
  ·exact .inl ho
  ·exact .inr ⟨id,p,at_ q⟩
 obtain ⟨l,kk,h1,h2⟩:=h.hm
 exact ⟨at_ h.hc,⟨l,kk,by rw [List.getElem?_set_ne hkm]; exact h1,h2⟩,⟨at_ h.dk.hd,at_ h.dk.hr,h.dk.ne⟩,h.zb,h.il,h.im,h.kn,own h.lo,h.lc.mono (fun _ _=>own) (fun _ _=>own),h.wq,h.ok,h.kl,h.dr⟩
theorem CacheAt.setmp {S:zA} {c r m k:Nat} {C:CS} (h:CacheAt S c r m C) {xs:List (D × V × Nat)} {e:Nat} (hk:S[k]? = some (.mp xs e)) (hkm:k ≠ m) {o:Ob}:CacheAt (S.set k o) c r m C:=by
 obtain ⟨d,L,es,vs,f,z,w,q,h,hq⟩:=h
 exact ⟨d,L,es,vs,f,z,w,q,h.setmp hk hkm,hq⟩
theorem zsy (S:zA) (c r m:Nat) (C:CS) (h0:CacheAt S c r m C):EvS cfg 37 [.ref c 0 0] S (fun o S'=>Keep S S' ∧ ∃ v fs,o = .ret v∧OwnS S' v 80 fs∧ChgsV S' fs C.list):=by
 obtain ⟨d,L,es,vs,f,z,w,q,h,hq⟩:=h0
 refine qE rfl zxu ?_
 show Wp cfg (Tryz.f37.body.getD .skip) ((.ref c 0 0)::(.tup [])::(.tup [])::(.tup [])::(.tup [])::(.tup [])::(.tup [])::(.tup [])::(.tup [])::(.tup [])::[]) S [] _
 conv=>arg 2; whnf
 rw [zO]
 have hc0:rowE S c 0=some (cacV d m L C.last):=zD (e:=126) h.hc
 have hl1:=qG h.lo
 obtain ⟨o,S1,⟨hK,v,fs,rfl,ho,hc⟩,hE⟩:=qC (z9s S L es C.list h.lo h.lc (by have h1:=h.wq; have h2:=h.ok.last; have h3:=h.lc.1; omega) C.img.length C.last h.ok.last h.ok.chs (.ts []) [] (.inl ⟨rfl,rfl⟩) (Nat.zero_le _))
 have hE:=fun {ops dst k T F Q}=>zF (ops:=ops) (dst:=dst) (l:=k) (T:=T) (F:=F) (Q:=Q) rfl hE
 simp (maxSteps:=1000000) (disch:=first|assumption|omega|rfl) only [↓gp,gc,Nat.reduceAdd,z45,z13,hc0,lc2,hl1,hE,bo89]
 refine ⟨rfl,_,rfl,hK,v,fs,rfl,ho,?_⟩
 have e:(C.list.filter fun ch=>decide (ch.id ∉ ([]:List Int)))=C.list:=by simp
 rw [← e]; exact hc
structure AllP (S:zA) (y x c r m mk gm:Nat) (l:Lay) (e:Int) (C:CS) (mf gf:Int→Option V) (gl:Int→List Int) (b:Nat):Prop where
 hy:S[y]? = some (.row [allV x gm] 116)
 sp:StoreP S x c r m mk l e C mf
 gp:MpI S gm gf
 gv : ∀ n,OwnS S ((gf n).getD (.ts [])) 3 (zU (gl n))
 gb : ∀ n,(gl n).length ≤ b
 n1:gm ≠ m
 n2:gm ≠ mk
section
variable {S S':zA} {y x c r m mk gm:Nat} {l:Lay} {e:Int} {C:CS} {mf gf:Int→Option V} {gl:Int→List Int} {b:Nat}
theorem AllP.keep (h:AllP S y x c r m mk gm l e C mf gf gl b) (hk:Keep S S'):AllP S' y x c r m mk gm l e C mf gf gl b:=⟨hk _ _ h.hy,h.sp.keep hk,hk.map h.gp,fun n=>hk.own (h.gv n),h.gb,h.n1,h.n2⟩
theorem AllP.seen (h:AllP S y x c r m mk gm l e C mf gf gl b):SeenAt S S.length y x c r m mk gm l e C:=⟨h.hy,h.sp.hx,CacheIn.of h.sp.ca⟩
theorem AllP.frC (h:AllP S y x c r m mk gm l e C mf gf gl b) (hF:FrC m r S S') {C':CS} (hc:CacheAt S' c r m C') (hi:C'.img.length=C.img.length):AllP S' y x c r m mk gm l e C' mf gf gl b :=
 ⟨hF.row h.hy rfl,h.sp.step hF hc hi,hF.map h.gp (by have:=h.n1; simpa using this),fun n=>hF.own (h.gv n) rfl,h.gb,h.n1,h.n2⟩
theorem AllP.frS (h:AllP S y x c r m mk gm l e C mf gf gl b) (hF:FrS m r S S') {e':Int} {C':CS} (hs:StoreP S' x c r m mk l e' C' mf):AllP S' y x c r m mk gm l e' C' mf gf gl b :=
 ⟨hF.row h.hy rfl,hs,hF.map h.gp (by have:=h.n1; simpa using this),fun n=>hF.own (h.gv n) rfl,h.gb,h.n1,h.n2⟩
end
def wT (l:List Chg) (gs:List Int):List Int:=(l.filter fun ch=>decide (ch.id ∈ gs)).map (·.id)
theorem z9u {l:List Chg} {ch:Chg} {gs:List Int}:wT (l ++ [ch]) gs=wT l gs ++ if ch.id ∈ gs then [ch.id] else []:=by
 unfold wT
 rw [List.filter_append,List.map_append]
 congr 1
 by_cases h:ch.id ∈ gs <;> simp [h]
theorem zde {l:List Chg} {gs:List Int}:(wT l gs).length ≤ l.length:=by
 unfold wT
 rw [List.length_map]
 exact List.length_filter_le ..
theorem zto (y gm a7 n:Nat) (x:Nat) (no id:Int) (c1 c2:Int) (dv nv:V) (S0:zA) (v17 v18 v19 v28:V) (gs:List Int) (hg:OwnS S0 v28 3 (zU gs)) (hgl:gs.length ≤ 17592186044416) (out:List Int) (hol:out.length ≤ 200000) (R:Post) (B0:Nat) (hB0:B0 ≤ S0.length) (S:zA) (hK:Keep S0 S)
  (h7:S[a7]? = some (.row [.agg [.d (.int .i64 id),.d (.int .i64 c1),.d (.int .i64 c2),dv,nv]] 80)) (v5:V) (hN : ∀ j,j < B0→NotAt v5 j) (ho:OwnS S v5 3 (zU out)) :
 ∀ (k i:Nat) (g2 g3 g4 g6 g8 g9 gK gF gD gB gC gA gE gJ gN gI gH gO gP gT gQ gV gW gX gY gZ gh gj gk gn gr gz hH hU hY:V),gs.length - i=k→i ≤ gs.length→id ∉ gs.take i →
 (∀ S' v5' i' g2 g3 g4 g6 g8 g9 gK gF gD gB gC gA gE gJ gN gI gH gO gP gT gQ gV gW gX gY gZ gh gj gk gn gr gz hH hU hY,(∀ j o,j < B0→S[j]? = some o→S'[j]? = some o)→S.length ≤ S'.length→(∀ j,j < B0→NotAt v5' j)→OwnS S' v5' 3 (zU (out ++ if id ∈ gs then [id] else []))→R (.exit 2) ((.ref y 0 0)::(.d (.int .i64 no))::g2::g3::g4::v5'::g6::(.ref a7 0 0)::g8::g9::gK::gF::gD::gB::gC::gA::gE::v17::v18::v19::gJ::gN::gI::gH::gO::gP::gT::gQ::v28::(.d (.int .i64 (gs.length:Int)))::i'::gV::gW::gX::gY::gZ::gh::gj::gk::gn::gr::gz::hH::hU::hY::[]) S' []) →
 Wp cfg (.loop (lpOf (Tryz.f44.body.getD .skip) 2)) ((.ref y 0 0)::(.d (.int .i64 no))::g2::g3::g4::v5::g6::(.ref a7 0 0)::g8::g9::gK::gF::gD::gB::gC::gA::gE::v17::v18::v19::gJ::gN::gI::gH::gO::gP::gT::gQ::v28::(.d (.int .i64 (gs.length:Int)))::(.d (.int .i64 (i:Int)))::gV::gW::gX::gY::gZ::gh::gj::gk::gn::gr::gz::hH::hU::hY::[]) S [] R:=by
 intro k
 induction k with
 | zero =>
  intro i g2 g3 g4 g6 g8 g9 gK gF gD gB gC gA gE gJ gN gI gH gO gP gT gQ gV gW gX gY gZ gh gj gk gn gr gz hH hU hY hk hi hn hR
  have hie:i=gs.length:=by omega
  subst hie
  rw [List.take_length] at hn
  rw [zO]
  refine zN ?_
  conv=>arg 2; whnf
  simp (maxSteps:=1000000) (disch:=first|assumption|omega|rfl) only [↓gp,gc,Nat.reduceAdd]
  exact hR _ _ _ _ _ _ _ _ _ _ _ _ _ _ _ _ _ _ _ _ _ _ _ _ _ _ _ _ _ _ _ _ _ _ _ _ _ _ (fun _ _ _ h=>h) (Nat.le_refl _) hN (by rw [if_neg hn,List.append_nil]; exact ho)
 | succ k ih =>
  intro i g2 g3 g4 g6 g8 g9 gK gF gD gB gC gA gE gJ gN gI gH gO gP gT gQ gV gW gX gY gZ gh gj gk gn gr gz hH hU hY hk hi hn hR
  have hlt:i < gs.length:=by omega
  have h3:IntKind.i64.wrap ((i:Int) + 1)=((i + 1:Nat):Int):=by rw [wrap64 (by omega)]; omega
  obtain ⟨q,hix,hre,_⟩:=kJ Tryz.underlying22 s3z (hK.own hg) (i:=i) (by rw [zY]; exact hlt)
  have hre:rowE S q i=some (.d (.int .i64 gs[i])):=by rw [hre]; simp [zU]
  have hr7:=zD (e:=80) h7
  rw [zO]
  refine zN ?_
  conv=>arg 2; whnf
  by_cases h:gs[i]=id
  ·have hde : ∀ i':Decidable (gs[i]=id),@decide (gs[i]=id) i'=true:=fun i'=>decide_eq_true h
   have hmem:id ∈ gs:=by rw [← h]; exact List.getElem_mem hlt
   obtain ⟨v',S',c,hap,ho',hfr,hlen⟩:=ap22 gs[i] ho (by omega)
   simp (maxSteps:=1000000) (disch:=first|assumption|omega|rfl) only [↓gp,gc,Nat.reduceAdd,hix,hre,ld3r,z0d,hr7,z08,hde,hap]
   refine hR S' v' _ _ _ _ _ _ _ _ _ _ _ _ _ _ _ _ _ _ _ _ _ _ _ _ _ _ _ _ _ _ _ _ _ _ _ _ (fun j o hj hjo=>(hfr j o hjo (hN j hj)).1) hlen (fun j hj=>(hfr j _ (List.getElem?_eq_getElem (Nat.lt_of_lt_of_le hj (Nat.le_trans hB0 hK.len))) (hN j hj)).2) ?_
   rw [if_pos hmem,← h]; exact ho'
  ·have hde : ∀ i':Decidable (gs[i]=id),@decide (gs[i]=id) i'=false:=fun i'=>decide_eq_false h
   simp (maxSteps:=1000000) (disch:=first|assumption|omega|rfl) only [↓gp,gc,Nat.reduceAdd,hix,hre,ld3r,z0d,hr7,z08,hde,h3]
   refine ih (i + 1) _ _ _ _ _ _ _ _ _ _ _ _ _ _ _ _ _ _ _ _ _ _ _ _ _ _ _ _ _ _ _ _ _ _ _ (by omega) (by omega) ?_ hR
   rw [jY hlt]
   intro hh
   rcases List.mem_append.1 hh with hh | hh
   ·exact hn hh
   ·rw [List.mem_singleton] at hh
    exact h hh.symm
theorem zuj (y x c r m mk gm:Nat) (l:Lay) (e:Int) (C:CS) (mf gf:Int→Option V) (gl:Int→List Int) (b:Nat) (S0:zA) (h:AllP S0 y x c r m mk gm l e C mf gf gl b) (hb:b ≤ 17592186044416) (hll:C.list.length ≤ 150000) (no:Int) (v17:V) (fs:List V) (hv17:OwnS S0 v17 80 fs) (hfs:ChgsV S0 fs C.list) (R:Post) :
 ∀ (k i:Nat) (S:zA) (v5 g2 g3 g4 g6 g7 g8 g9 gK gF gD gB gC gA gE gJ gN gI gH gO gP gT gQ gU gR gS gV gW gX gY gZ gh gj gk gn gr gz hH hU hY:V),C.list.length - i=k→i ≤ C.list.length→Keep S0 S→(∀ j,j < S0.length→NotAt v5 j)→OwnS S v5 3 (zU (wT (C.list.take i) (gl no))) →
 (∀ S v5 i' g2 g3 g4 g6 g7 g8 g9 gK gF gD gB gC gA gE gJ gN gI gH gO gP gT gQ gU gR gS gV gW gX gY gZ gh gj gk gn gr gz hH hU hY,Keep S0 S→(∀ j,j < S0.length→NotAt v5 j)→OwnS S v5 3 (zU (wT C.list (gl no)))→R (.exit 0) ((.ref y 0 0)::(.d (.int .i64 no))::g2::g3::g4::v5::g6::g7::g8::g9::gK::gF::gD::gB::gC::gA::gE::v17::(.d (.int .i64 (C.list.length:Int)))::i'::gJ::gN::gI::gH::gO::gP::gT::gQ::gU::gR::gS::gV::gW::gX::gY::gZ::gh::gj::gk::gn::gr::gz::hH::hU::hY::[]) S []) →
 Wp cfg (.loop (lpOf (Tryz.f44.body.getD .skip) 0)) ((.ref y 0 0)::(.d (.int .i64 no))::g2::g3::g4::v5::g6::g7::g8::g9::gK::gF::gD::gB::gC::gA::gE::v17::(.d (.int .i64 (C.list.length:Int)))::(.d (.int .i64 (i:Int)))::gJ::gN::gI::gH::gO::gP::gT::gQ::gU::gR::gS::gV::gW::gX::gY::gZ::gh::gj::gk::gn::gr::gz::hH::hU::hY::[]) S [] R:=by
 intro k
 have hle:=hfs.1
 induction k with
 | zero =>
  intro i S v5 g2 g3 g4 g6 g7 g8 g9 gK gF gD gB gC gA gE gJ gN gI gH gO gP gT gQ gU gR gS gV gW gX gY gZ gh gj gk gn gr gz hH hU hY hk hi hK hN ho hR
  have hie:i=C.list.length:=by omega
  subst hie
  rw [List.take_length] at ho
  rw [zO]
  refine zN ?_
  conv=>arg 2; whnf
  simp (maxSteps:=1000000) (disch:=first|assumption|omega|rfl) only [↓gp,gc,Nat.reduceAdd]
  exact hR _ _ _ _ _ _ _ _ _ _ _ _ _ _ _ _ _ _ _ _ _ _ _ _ _ _ _ _ _ _ _ _ _ _ _ _ _ _ _ _ _ _ hK hN ho
 | succ k ih =>
  intro i S v5 g2 g3 g4 g6 g7 g8 g9 gK gF gD gB gC gA gE gJ gN gI gH gO gP gT gQ gU gR gS gV gW gX gY gZ gh gj gk gn gr gz hH hU hY hk hi hK hN ho hR
  have hlt:i < C.list.length:=by omega
  have hlt2:i < fs.length:=by omega
  obtain ⟨id',hix,hre,_⟩:=kJ u119 s122 (hK.own hv17) hlt2
  obtain ⟨dv,nv,he,hd5,hn3⟩:=hfs.2 i fs[i] C.list[i] (List.getElem?_eq_getElem hlt2) (List.getElem?_eq_getElem hlt)
  rw [he] at hre
  have h3:IntKind.i64.wrap ((i:Int) + 1)=((i + 1:Nat):Int):=by rw [wrap64 (by omega)]; omega
  have hS:=h.keep hK
  have hry:=fun l=>zD (e:=116) ((Keep.refl.app (S:=S) (S':=S) (l:=l)) _ _ hS.hy)
  have hlk:=fun l=>(((Keep.refl.app (S:=S) (S':=S) (l:=l)).map hS.gp).look zrc no).2
  have hgv:=hS.gv no
  have hgb:=hS.gb no
  have hgv0:=h.gv no
  generalize (gf no).getD (.ts [])=v28 at *
  have hv28:=qG hgv
  have hln:=fun l=>(kE (S:=S ++ l) Tryz.underlying22 ((Keep.refl.app (S:=S) (S':=S) (l:=l)).own hgv))
  simp only [zY] at hln
  have htk:C.list.take (i + 1)=C.list.take i ++ [C.list[i]]:=jY hlt
  have hgl:(wT (C.list.take i) (gl no)).length ≤ 150000:=Nat.le_trans zde (by rw [List.length_take]; omega)
  generalize ha:S.length=a
  rw [zO]
  refine zN ?_
  conv=>arg 2; whnf
  simp (maxSteps:=1000000) (disch:=first|assumption|omega|rfl) only [↓gp,gc,Nat.reduceAdd,hix,hre,z24,z122,z25,z3g,ha,rA0 ha,pA0 ha,z5m,hry,z2r,hlk,hv28,hln]
  refine zto y gm a 0 x no C.list[i].id C.list[i].no C.list[i].at_ dv nv S0 _ _ _ v28 (gl no) hgv0 (by omega) _ (by omega) _ S0.length (Nat.le_refl _) _ hK.app (by rw [List.getElem?_append_right (by omega),ha,Nat.sub_self]; rfl) v5 hN ((Keep.refl.app (S:=S) (S':=S)).own ho) (gl no).length 0 _ _ _ _ _ _ _ _ _ _ _ _ _ _ _ _ _ _ _ _ _ _ _ _ _ _ _ _ _ _ _ _ _ _ _ rfl (Nat.zero_le _) (by simp) ?_
  intro S' v5' i' g2 g3 g4 g6 g8 g9 gK gF gD gB gC gA gE gJ gN gI gH gO gP gT gQ gV gW gX gY gZ gh gj gk gn gr gz hH hU hY hK2 hl2 hN2 ho2
  simp (maxSteps:=1000000) (disch:=first|assumption|omega|rfl) only [↓gp,gc,Nat.reduceAdd,h3]
  refine ih (i + 1) S' v5' _ _ _ _ _ _ _ _ _ _ _ _ _ _ _ _ _ _ _ _ _ _ _ _ _ _ _ _ _ _ _ _ _ _ _ _ _ _ _ (by omega) (by omega) (fun j o hj=>hK2 j o (zL hj) (hK.app _ _ hj)) hN2 ?_ hR
  rw [htk,z9u]
  exact ho2
theorem ztt (S:zA) (y x c r m mk gm:Nat) (l:Lay) (e:Int) (C:CS) (mf gf:Int→Option V) (gl:Int→List Int) (b:Nat) (h:AllP S y x c r m mk gm l e C mf gf gl b) (hb:b ≤ 17592186044416) (no:Int) :
  EvS cfg 44 [.ref y 0 0,.d (.int .i64 no)] S (fun o S'=>Keep S S' ∧ ∃ v,o = .ret v∧(∀ j,j < S.length→NotAt v j)∧OwnS S' v 3 (zU (wT C.list (gl no)))):=by
 refine qE rfl zvw ?_
 show Wp cfg (Tryz.f44.body.getD .skip) ((.ref y 0 0)::(.d (.int .i64 no))::uZ (uZ (uZ (uZ ((.tup [])::(.tup [])::(.tup [])::[]))))) S [] _
 unfold uZ
 conv=>arg 2; whnf
 rw [zO]
 have hry:=zD (e:=116) h.hy
 have hch:=fun {ops dst k T F Q}=>zF (ops:=ops) (dst:=dst) (l:=k) (T:=T) (F:=F) (Q:=Q) rfl (z73 S x c mk l.blocks l.inodes l.merge e h.sp.hx)
 obtain ⟨o,S1,⟨hK,v,fs,rfl,ho,hc⟩,hE⟩:=qC (zsy S c r m C h.sp.ca)
 have hE:=fun {ops dst k T F Q}=>zF (ops:=ops) (dst:=dst) (l:=k) (T:=T) (F:=F) (Q:=Q) rfl hE
 have hln:zI Tryz.prog S1 .len [74] [v]=some (.val (.d (.int .i64 (C.list.length:Int))) S1 0):=by rw [kE u119 ho,hc.1]
 have hll:C.list.length ≤ 150000:=by
  obtain ⟨_,_,_,_,_,_,_,_,g,_⟩:=h.sp.ca
  have h1:=g.wq
  have h2:=g.ok.last
  omega
 simp (maxSteps:=1000000) (disch:=first|assumption|omega|rfl) only [↓gp,gc,Nat.reduceAdd,zej,z0c,hry,kP,hch,bo25,hE,bo37,hln]
 refine zuj y x c r m mk gm l e C mf gf gl b S1 (h.keep hK) hb hll no v fs ho hc _ C.list.length 0 S1 (.ts []) _ _ _ _ _ _ _ _ _ _ _ _ _ _ _ _ _ _ _ _ _ _ _ _ _ _ _ _ _ _ _ _ _ _ _ _ _ _ _ rfl (Nat.zero_le _) Keep.refl (fun j _=>NotAt.ts) (.inl ⟨rfl,rfl⟩) ?_
 intro S2 v5 i' g2 g3 g4 g6 g7 g8 g9 gK gF gD gB gC gA gE gJ gN gI gH gO gP gT gQ gU gR gS gV gW gX gY gZ gh gj gk gn gr gz hH hU hY hK2 hN2 ho2
 have h51:=qG ho2
 simp (maxSteps:=1000000) (disch:=first|assumption|omega|rfl) only [↓gp,gc,Nat.reduceAdd,h51]
 exact ⟨rfl,_,rfl,hK.trans hK2,v5,rfl,fun j hj=>hN2 j (Nat.lt_of_lt_of_le hj hK.len),ho2⟩
def bitP (C:CS) (no:Nat) (on:Bool):List UInt8:=[setB (C.see 1) no on]
theorem zq0 (S:zA) (y x c r m mk gm:Nat) (l:Lay) (e:Int) (C:CS) (mf gf:Int→Option V) (gl:Int→List Int) (b:Nat) (h:AllP S y x c r m mk gm l e C mf gf gl b) (hb:InB l.blocks) (hi:InB l.inodes) (hm:MayL l) (no:Nat) (hno:no < 2048) (on:Bool) (nd:V) (ids:List Int) (hnd:IntsV S nd ids) (hids:ids.length ≤ 17592186044416) (hl:C.last < 100000) :
  EvS cfg 65 [.ref y 0 0,.d (.int .i64 (no:Int)),.d (.bool on),nd] S (fun o S'=>FrS m r S S'∧StoreP S' x c r m mk l (spE e C 1 ((no / 8:Nat):Int) (bitP C no on) ids) (spC e C 1 ((no / 8:Nat):Int) (bitP C no on) ids) mf∧o = .ret (.d (.int .i64 (spI e C 1 ((no / 8:Nat):Int) (bitP C no on) ids)))):=by
 refine qE rfl zxj ?_
 show Wp cfg (Tryz.f65.body.getD .skip) ((.ref y 0 0)::(.d (.int .i64 (no:Int)))::(.d (.bool on))::nd::uZ (uZ ((.tup [])::(.tup [])::[]))) S [] _
 unfold uZ
 conv=>arg 2; whnf
 rw [zO]
 have hry:=zD (e:=116) h.hy
 have h1B:1 < C.img.length:=by have:=hm.1; have:=h.sp.hB; omega
 obtain ⟨o,S1,⟨hK,v,rfl,hv⟩,hE1⟩:=qC (zbr S x c mk l.blocks l.inodes l.merge e h.sp.hx)
 have hview:=fun {ops base K ws cs i dst T}=>jQ (ops:=ops) (base:=base) (K:=K) (ws:=ws) (cs:=cs) (i:=i) (dst:=dst) (T:=T) rfl hE1
 have hv1:v.one=true:=by obtain ⟨g,rfl,_⟩:=hv; rfl
 obtain ⟨o,S2,⟨hF,hC,u,rfl,hu⟩,hE2⟩:=qC (z6z S1 v S.length c r m l.blocks l.inodes l.merge C ((CacheIn.of h.sp.ca).keep hK) hv h.sp.hB 1 h1B)
 simp only [nl1] at hE2
 have hbk:=fun {ops base K ws cs i dst T}=>jQ (ops:=ops) (base:=base) (K:=K) (ws:=ws) (cs:=cs) (i:=i) (dst:=dst) (T:=T) rfl hE2
 have hsl:=hC.at.ok.see_len h1B
 have hu1:=hu.one
 have hF2:FrC m r S S2:=(Frm.keep hK).trans hF
 have h2:StoreP S2 x c r m mk l e C mf:=h.sp.step hF2 hC.at rfl
 have hpt:=fun {ops base K ws cs i dst T S}=>zot (ops:=ops) (base:=base) (K:=K) (ws:=ws) (cs:=cs) (i:=i) (dst:=dst) (T:=T) (S:=S) (on:=on) hu hsl hno
 have hnd2:IntsV S2 nd ids:=by
  rcases hnd with h | h | h
  ·exact .inl h
  ·exact .inr (.inl h)
  ·exact .inr (.inr (hF2.own h rfl))
 obtain ⟨o,S3,⟨hF3,h3,rfl⟩,hE3⟩:=qC (zb6 S2 x c r m mk l e C mf h2 1 (.d (patD ((no / 8:Nat):Int) (bitP C no on))) (.d (encB (bitP C no on))) ((no / 8:Nat):Int) (bitP C no on) (.inr ⟨rfl,rfl⟩) (by unfold InB; omega) nd ids hnd2 hids hl)
 have hput:=fun {ops base K ws cs i dst T}=>jQ (ops:=ops) (base:=base) (K:=K) (ws:=ws) (cs:=cs) (i:=i) (dst:=dst) (T:=T) rfl hE3
 unfold bitP at *
 have hd1:=hnd.one
 have hry1:=zD (e:=116) (hK _ _ h.hy)
 have hry2:=zD (e:=116) (hF2.row h.hy rfl)
 simp (maxSteps:=1000000) (disch:=first|assumption|omega|rfl) only [↓gp,gc,Nat.reduceAdd]
 refine qT (is:=[0,1,2,3,5,6,7,8,12,13,15,4,9,10,11,14,16,17]) (h:=0) (by kernel_rfl) (by kernel_rfl) ?_
 simp (maxSteps:=1000000) (disch:=first|assumption|omega|rfl) only [List.replicate_zero,eq_self,gw,ga,Nat.reduceAdd,↓gq,vso,List.append_nil,hry,qQ,kD,z0c,kP,zmm,bo77,hview,bo27,hv1,hbk,bo49,hu1,hpt,zzm,hd1,hput,bo50]
 refine ⟨?_,?_,?_,by kernel_rfl,?_⟩
 ·exact zP (by kernel_rfl) (zP (by kernel_rfl) (qK rfl (by kernel_rfl) rfl (z02 ((zJ hry1).trans kP)) (by simp [wU,qR,qP]) qB))
 ·exact zP (by kernel_rfl) (zP (by kernel_rfl) (zP (by kernel_rfl) (qK rfl (by kernel_rfl) rfl (z02 ((zJ hry2).trans kP)) (by simp [wU,qR,qP]) qB)))
 ·repeat first | exact qB | refine zP (by kernel_rfl) ?_
 simp (maxSteps:=1000000) (disch:=first|assumption|omega|rfl) only [↓gp,gc,Nat.reduceAdd]
 exact ⟨rfl,_,rfl,hF2.toS.trans hF3,h3,rfl⟩
theorem dlM {S S':zA} {m:Nat} {x:Int} (h:z07 Tryz.prog S 114 (.mr m) (.d (.int .i64 x))=some S'):zI Tryz.prog S .delete [114,3] [.mr m,.d (.int .i64 x)]=some (.val (.tup []) S' 3):=by
 simp only [zI,h,Option.map_some]
noncomputable def bs2 (S : zA) (v w : V) : Option Rs := opV Tryz.prog S [v, w] ⟨none, .buildSlice 22 2 #[(0, .tmp 0), (1, .tmp 1)], 0, "", #[], none⟩
theorem zq6 {S:zA} {T:List V} {x y:Operand} {dst:Option Tmp} {ty:TypeId} {pos:String} {after:Array Edge} {g:Option (Nat × Bool)}:opV Tryz.prog S T ⟨dst,.buildSlice 22 2 #[(0,x),(1,y)],ty,pos,after,g⟩=bs2 S (zC T x) (zC T y):=rfl
theorem zwt {S:zA} {a b:Int}:bs2 S (.d (.int .i64 a)) (.d (.int .i64 b))=some (.val (.ts [.int .i64 a,.int .i64 b]) S 0):=by kernel_rfl
theorem srcI {S:zA} {w:V} {ys:List Int} (h:IntsV S w ys):srcV Tryz.prog S 3 22 w=some (zU ys):=by
 have hf:((ys.map (D.int .i64)).map V.d).all (qA Tryz.prog 3)=true:=by
  rw [List.all_eq_true]
  intro x hx
  obtain ⟨y,hy,rfl⟩:=List.mem_map.1 hx
  obtain ⟨z,_,rfl⟩:=List.mem_map.1 hy
  exact z7k z
 have h6:(sz Tryz.prog 3).isSome=true:=s3z
 have e:(ys.map (D.int .i64)).map V.d=zU ys:=by unfold zU; rw [List.map_map]; rfl
 rw [e] at hf
 rcases h with rfl | rfl | h
 ·show srcV Tryz.prog S 3 22 (.d (.sl (ys.map (D.int .i64))))=_
  simp only [srcV,Tryz.underlying22,jV,hf,h6,Bool.and_self,if_true,e]
 ·simp only [srcV,Tryz.underlying22,jV,hf,h6,Bool.and_self,if_true,e]
 ·exact q1c h
theorem appI {S:zA} {v w:V} {xs ys:List Int} (ho:OwnS S v 3 (zU xs)) (hw:IntsV S w ys) (hl:xs.length + ys.length ≤ 17592186044416) :
  ∃ v' S' k,qJ Tryz.prog S 22 22 v w=some (v',S',k)∧((k=1∧S'=S) ∨ k=2 ∨ k=3)∧OwnS S' v' 3 (zU (xs ++ ys)) ∧ ∀ j o,S[j]? = some o→NotAt v j→S'[j]? = some o∧NotAt v' j:=by
 have src:=srcI hw
 cases ys with
 | nil =>
  rw [List.append_nil]
  refine ⟨v,S,1,?_,.inl ⟨rfl,rfl⟩,ho,fun j o hj hn=>⟨hj,hn⟩⟩
  have e:zU []=[]:=rfl
  rw [e] at src
  rcases z1z ho with rfl | ⟨i,k,rfl⟩ <;> simp only [qJ,Tryz.underlying22,src]
 | cons y r =>
  have hz:zOk Tryz.prog 3=true:=zns
  have e:zU (y::r) = .d (.int .i64 y)::zU r:=rfl
  rw [e] at src
  have hr:room Tryz.prog 3 (xs.length + ((zU r).length + 1))=true:=zyn (by rw [zY]; simp at hl; omega)
  have hcat:zU (xs ++ y::r)=zU xs ++ (.d (.int .i64 y)::zU r):=by unfold zU; simp
  have hlen:(zU (xs ++ y::r)).length=xs.length + ((zU r).length + 1):=by rw [zY,zY]; simp
  rcases ho with ⟨rfl,h0⟩ | ⟨id,rfl,h1⟩
  ·have hx0:xs=[]:=by
    have:=congrArg List.length h0
    rw [zY] at this
    exact List.length_eq_zero_iff.1 this
   subst hx0
   refine ⟨.rs S.length 0 ((zU r).length + 1),S ++ [.row (.d (.int .i64 y)::zU r) 3],2,?_,.inr (.inl rfl),?_,fun j o hj hn=>⟨by rw [List.getElem?_append_left (zL hj)]; exact hj,fun off k hh=>by have:=zL hj; cases hh; omega⟩⟩
   ·have hr':room Tryz.prog 3 ((zU r).length + 1)=true:=by simpa using hr
    simp only [qJ,Tryz.underlying22,src,hz,if_true,List.all_nil,List.length_nil,Nat.zero_add,hr',Bool.and_self,List.map_nil,List.nil_append]
   ·refine .inr ⟨S.length,?_,?_⟩
    ·rw [hlen]; simp
    ·rw [List.getElem?_append_right (Nat.le_refl _),Nat.sub_self]; rfl
  ·refine ⟨.rs S.length 0 (xs.length + ((zU r).length + 1)),S.set id .dead ++ [.row (zU xs ++ .d (.int .i64 y)::zU r) 3],3,?_,.inr (.inr rfl),?_,fun j o hj hn=>⟨?_,fun off k hh=>by have:=zL hj; cases hh; omega⟩⟩
   ·have hxl:(zU xs).length=xs.length:=zY
    simp only [qJ,Tryz.underlying22,src,hz,if_true,h1,hxl,Nat.le_refl,hr,decide_true,Bool.and_self]
    rw [← hxl,List.take_length]
   ·refine .inr ⟨S.length,?_,?_⟩
    ·rw [hlen]
    ·rw [List.getElem?_append_right (by rw [List.length_set]; exact Nat.le_refl _),List.length_set,Nat.sub_self,hcat]; rfl
   ·have hjl:=zL hj
    rw [List.getElem?_append_left (by rw [List.length_set]; exact hjl),List.getElem?_set_ne (by rintro rfl; exact hn _ _ rfl)]
    exact hj
theorem AllP.setgm {S:zA} {y x c r m mk gm:Nat} {l:Lay} {e:Int} {C:CS} {mf gf gf':Int→Option V} {gl gl':Int→List Int} {b b':Nat} (h:AllP S y x c r m mk gm l e C mf gf gl b) {o:Ob} (hm:MpI (S.set gm o) gm gf') (gv : ∀ n,OwnS S ((gf' n).getD (.ts [])) 3 (zU (gl' n))) (gb : ∀ n,(gl' n).length ≤ b'):AllP (S.set gm o) y x c r m mk gm l e C mf gf' gl' b':=by
 obtain ⟨L,cc,h1,_⟩:=h.gp
 have at_ : ∀ {j:Nat} {ys:List V} {t:TypeId},S[j]? = some (.row ys t)→(S.set gm o)[j]? = some (.row ys t):=fun hj=>by rw [List.getElem?_set_ne (by rintro rfl; cases getE h1 hj)]; exact hj
 refine ⟨at_ h.hy,⟨at_ h.sp.hx,h.sp.ca.setmp h1 h.n1,?_,h.sp.ne,h.sp.hB⟩,hm,fun n=>?_,gb,h.n1,h.n2⟩
 ·exact h.sp.mp.keep (List.getElem?_set_ne h.n2)
 ·rcases gv n with ho | ⟨id,p,q⟩
  ·exact .inl ho
  ·exact .inr ⟨id,p,at_ q⟩
theorem AllP.frgm {S S':zA} {y x c r m mk gm:Nat} {l:Lay} {e:Int} {C:CS} {mf gf:Int→Option V} {gl:Int→List Int} {b:Nat} (h:AllP S' y x c r m mk gm l e C mf gf gl b) (hF:FrM m gm r S S') (h0 : ∃ L cc,S[gm]? = some (.mp L cc)) {o:Ob}:FrM m gm r S (S'.set gm o):=by
 refine hF.set fun q hq=>?_
 obtain ⟨L,cc,h1⟩:=h0
 cases getE hq h1
 simp [calm]
def bitC (C:CS) (no:Nat) (on:Bool) (ids:List Int):CS:=C.put 1 ((no / 8:Nat):Int) (bitP C no on) (vA C (noZ ids))
theorem zfp {C:CS} {no:Nat} {on:Bool} {ids:List Int} (h1:1 < C.img.length) (hno:no < 2048) (hid : ∀ x ∈ noZ ids,1 ≤ x∧x ≤ (C.last:Int)):putE C 1 ((no / 8:Nat):Int) (bitP C no on) (noZ ids)=0:=by
 unfold putE
 have hp:kG ((no / 8:Nat):Int) (bitP C no on):=by
  unfold kG bitP
  refine ⟨?_,?_,?_,?_⟩ <;> simp <;> omega
 rw [if_neg (fun hh=>hh hp),if_neg (fun hh=>hh hid),if_neg (by omega)]
def takE (C:CS) (no:Nat) (bb:List UInt8) (gs ids:List Int):Int:=spE 0 (bitC C no true []) (no:Int) 0 bb (wT (bitC C no true []).list gs ++ ids)
def takC (C:CS) (no:Nat) (bb:List UInt8) (gs ids:List Int):CS:=spC 0 (bitC C no true []) (no:Int) 0 bb (wT (bitC C no true []).list gs ++ ids)
theorem zlf (S:zA) (y x c r m mk gm:Nat) (l:Lay) (C:CS) (mf gf:Int→Option V) (gl:Int→List Int) (b:Nat) (h:AllP S y x c r m mk gm l 0 C mf gf gl b) (hbb:b ≤ 17592186044416) (hb:InB l.blocks) (hi:InB l.inodes) (hm:MayL l) (D:Nat) (hD:2 + l.inodes.tdiv 8=(D:Int)) (N:Nat) (hN:l.blocks=N) (u:V) (bb:List UInt8) (hu:IsB u bb) (hul:bb.length=256) (nd:V) (ids:List Int) (hnd:IntsV S nd ids) (hids:ids.length ≤ 17592186000000) (hl:C.last < 20000) (no:Nat) (t:List Nat) (hfr:frB (C.see 1) D N=no::t) :
  EvS cfg 19 [.ref y 0 0,u,nd] S (fun o S'=>FrM m gm r S S'∧(∃ gf',AllP S' y x c r m mk gm l (takE C no bb (gl no) ids) (takC C no bb (gl no) ids) mf gf' (fun n=>if n=(no:Int) then [] else gl n) b) ∧
   o = .ret (if takE C no bb (gl no) ids ≠ 0 then .tup [.d (.int .i64 0),.ts []] else .tup [.d (.int .i64 (no:Int)),.ts [.int .i64 ((C.last:Int) + 1),.int .i64 ((C.last:Int) + 2)]])):=by
 refine qE rfl zq3 ?_
 show Wp cfg (Tryz.f19.body.getD .skip) ((.ref y 0 0)::u::nd::uZ (uZ (uZ (uZ (uZ ((.tup [])::(.tup [])::(.tup [])::(.tup [])::[])))))) S [] _
 unfold uZ
 conv=>arg 2; whnf
 rw [zO]
 generalize ha:S.length=a
 have hf:=bt42.fits hu hul
 have hld:=bt42.load hu hul
 have hu1:=hu.one
 have hd1:=hnd.one
 have h1B:1 < C.img.length:=by have:=hm.1; have:=h.sp.hB; omega
 have hk0:Keep S (S ++ [.row [u] 42]):=Keep.refl.app
 have h0:=h.keep hk0
 obtain ⟨o,S1,⟨rfl,hC1,hF1⟩,hE⟩:=qC (zmd _ _ y x c r m mk gm l 0 C h0.seen h0.sp.hB hb hi hm D hD N hN)
 have hnx:=fun {ops dst k T F Q}=>zF (ops:=ops) (dst:=dst) (l:=k) (T:=T) (F:=F) (Q:=Q) rfl hE
 rw [hfr] at hnx
 have hde : ∀ i:Decidable (no::t ≠ []),@decide (no::t ≠ []) i=true:=fun i=>decide_eq_true (by simp)
 simp only [List.headD_cons,hde] at hnx
 have h1:=h0.frC hF1 hC1.at rfl
 have her:=fun {ops dst k T F Q}=>zF (ops:=ops) (dst:=dst) (l:=k) (T:=T) (F:=F) (Q:=Q) rfl (z7x S1 x c mk _ _ _ 0 h1.sp.hx)
 have hmem:no ∈ frB (C.see 1) D N:=by rw [hfr]; simp
 have hnoN:no < N:=by
  unfold frB at hmem
  exact List.mem_range.1 (List.mem_filter.1 hmem).1
 have hN512:N ≤ 512:=by have:=hm.2.1; omega
 have hpe:putE C 1 ((no / 8:Nat):Int) (bitP C no true) (noZ [])=0:=zfp h1B (by omega) (by intro x hx; cases hx)
 obtain ⟨o,S2,⟨hF2,h2s,rfl⟩,hE2⟩:=qC (zq0 S1 y x c r m mk gm l 0 C mf gf gl b h1 hb hi hm no (by omega) true (.ts []) [] (.inr (.inl rfl)) (Nat.zero_le _) (by omega))
 have e1:spE 0 C 1 ((no / 8:Nat):Int) (bitP C no true) []=0:=by unfold spE; rw [if_neg (fun h=>h rfl),hpe]
 have e2:spC 0 C 1 ((no / 8:Nat):Int) (bitP C no true) []=bitC C no true []:=by unfold spC bitC; rw [if_neg (fun h=>h rfl),if_neg (fun hh=>hh hpe)]
 have e3:spI 0 C 1 ((no / 8:Nat):Int) (bitP C no true) []=(C.last:Int) + 1:=by unfold spI; rw [if_neg (fun h=>h rfl),if_neg (fun hh=>hh hpe)]
 rw [e1,e2] at h2s
 rw [e3] at hE2
 have hbit:=fun {ops dst k T F Q}=>zF (ops:=ops) (dst:=dst) (l:=k) (T:=T) (F:=F) (Q:=Q) rfl hE2
 have h2:=h1.frS hF2 h2s
 have hC1l:(bitC C no true []).last=C.last + 1:=rfl
 have hC1n:(bitC C no true []).img=C.img:=rfl
 unfold takE takC
 generalize hCC:bitC C no true []=C1 at *
 obtain ⟨o,S3,⟨hK3,v38,rfl,hN3,ho3⟩,hE3⟩:=qC (ztt S2 y x c r m mk gm l 0 C1 mf gf gl b h2 hbb no)
 have hgone:=fun {ops base K ws cs i dst T}=>jQ (ops:=ops) (base:=base) (K:=K) (ws:=ws) (cs:=cs) (i:=i) (dst:=dst) (T:=T) rfl hE3
 have hv38:=qG ho3
 have hF02:FrM m gm r (S ++ [.row [u] 42]) S2:=FrS.toM (mk:=gm) (Frm.trans hF1.toS hF2)
 have h3:=h2.keep hK3
 have hnd3:IntsV S3 nd ids:=by
  rcases hnd with h | h | h
  ·exact .inl h
  ·exact .inr (.inl h)
  ·exact .inr (.inr (hK3.own (hF02.own (hk0.own h) rfl)))
 have hgl:(wT C1.list (gl (no:Int))).length ≤ 20102:=by
  refine Nat.le_trans zde ?_
  obtain ⟨_,_,_,_,_,_,_,_,g,_⟩:=h3.sp.ca
  have:=g.wq
  omega
 obtain ⟨v40,S4,kk,hap,hkk,ho4,hfr4⟩:=appI ho3 hnd3 (by omega)
 have hK4:Keep S2 S4:=fun j p hj=>(hfr4 j p (hK3 j p hj) (hN3 j (zL hj))).1
 have h4:=h2.keep hK4
 have hv40:=qG ho4
 obtain ⟨o,S5,⟨hF5,h5s,rfl⟩,hE5⟩:=qC (zow S4 x c r m mk l 0 C1 mf h4.sp (no:Int) u bb hu hul v40 (wT C1.list (gl (no:Int)) ++ ids) (.inr (.inr ho4)) (by simp; omega) (by omega))
 have hfill:=fun {ops base K ws cs i dst T}=>jQ (ops:=ops) (base:=base) (K:=K) (ws:=ws) (cs:=cs) (i:=i) (dst:=dst) (T:=T) rfl hE5
 have h5:=h4.frS hF5 h5s
 generalize hce:spE 0 C1 (no:Int) 0 bb (wT C1.list (gl (no:Int)) ++ ids)=ee at *
 generalize hcc:spC 0 C1 (no:Int) 0 bb (wT C1.list (gl (no:Int)) ++ ids)=C2 at *
 have hryk:=fun {S':zA} (hh:AllP S' y x c r m mk gm l 0 C1 mf gf gl b)=>zD (e:=116) hh.hy
 have hry1:=zD (e:=116) h1.hy
 have hry2:=hryk h2
 have hry3:=hryk h3
 have hry4:=hryk h4
 have hry5:=zD (e:=116) h5.hy
 have hu0:(S ++ [Ob.row [u] 42])[a]? = some (.row [u] 42):=by rw [List.getElem?_append_right (by omega),ha,Nat.sub_self]; rfl
 have har:a ≠ r:=by
  have:=h.sp.ca.rn
  omega
 have hu2:S2[a]? = some (.row [u] 42):=hF02.row hu0 (by simp [har])
 have hru2:=zD (e:=42) hu2
 have hru3:=zD (e:=42) (hK3 _ _ hu2)
 have hru4:=zD (e:=42) (hK4 _ _ hu2)
 have hus:=zbe hu
 have hw1 : ∀ {i:Nat} {ws:Ws},True:=fun {_ _}=>trivial
 have hde0 : ∀ i:Decidable ((0:Int) ≠ 0),@decide ((0:Int) ≠ 0) i=false:=fun i=>decide_eq_false (fun h=>h rfl)
 simp (maxSteps:=1000000) (disch:=first|assumption|omega|rfl) only [↓gp,gc,Nat.reduceAdd,hf,ha,hnx,bo43,wH,Bool.not_true,hry1,z0c,kP,her,bo45,hde0,z7f,hbit,bo65]
 refine Wp.mono (Q:=fun x T' S' F'=>x = .norm∧F'=[]∧S'=S5 ∧ ∃ w11 g1 g2 g3 g4 g5 g9 gD gB gC gA gE gL gM gG gJ gN gI gH gO gP gT gQ gU gR gS gV gW gX gY gZ gh gj gk gn gr gz hH hU hY hZ xA xB xC xD xE xF xG xH xI xJ xK,w11=V.d (.int .i64 (spI 0 C1 (no:Int) 0 bb (wT C1.list (gl (no:Int)) ++ ids)))∧T'=((.ref y 0 0)::g1::g2::g3::g4::g5::(.d (.int .i64 0))::(.ts [])::(.d (.int .i64 (no:Int)))::g9::(.d (.int .i64 ((C.last:Int) + 1)))::w11::gD::gB::gC::gA::gE::gL::gM::gG::gJ::gN::gI::gH::gO::gP::gT::gQ::gU::gR::gS::gV::gW::gX::gY::gZ::gh::gj::gk::gn::gr::gz::hH::hU::hY::hZ::xA::xB::xC::xD::xE::xF::xG::xH::xI::xJ::xK::[])) ?_ ?_
 ·rcases hkk with ⟨rfl,rfl⟩ | rfl | rfl
  ·refine qT (is:=[0,1,2,3,4,5,6,7,9,8,10,11,12]) (h:=0) (by kernel_rfl) (by kernel_rfl) ?_
   simp (maxSteps:=1000000) (disch:=first|assumption|omega|rfl) only [List.replicate_zero,eq_self,gw,ga,Nat.reduceAdd,↓gq,vso,List.append_nil,hry2,qQ,kD,z0c,kP,hru2,hld,hu1,hgone,bo44,hv38,hd1,hap,hv40,hfill,bo66]
   refine ⟨qK rfl (by kernel_rfl) rfl (z02 ((zJ hru3).trans hld)) hus (qK rfl (by kernel_rfl) rfl (z02 ((zJ hry3).trans kP)) (by simp [wU,qR,qP]) qB),zP (by kernel_rfl) (zP (by kernel_rfl) (zP (by kernel_rfl) qB)),by kernel_rfl,?_⟩
   exact ⟨trivial,trivial,trivial,_,_,_,_,_,_,_,_,_,_,_,_,_,_,_,_,_,_,_,_,_,_,_,_,_,_,_,_,_,_,_,_,_,_,_,_,_,_,_,_,_,_,_,_,_,_,_,_,_,_,_,_,rfl,rfl⟩
  ·refine qT (is:=[0,1,2,3,4,5,6,7,9,8,10,11,12]) (h:=0) (by kernel_rfl) (by kernel_rfl) ?_
   simp (maxSteps:=1000000) (disch:=first|assumption|omega|rfl) only [List.replicate_zero,eq_self,gw,ga,Nat.reduceAdd,↓gq,vso,List.append_nil,hry2,qQ,kD,z0c,kP,hru2,hld,hu1,hgone,bo44,hv38,hd1,hap,hv40,hfill,bo66]
   refine ⟨qK rfl (by kernel_rfl) rfl (z02 ((zJ hru3).trans hld)) hus (qK rfl (by kernel_rfl) rfl (z02 ((zJ hry3).trans kP)) (by simp [wU,qR,qP]) qB),qK rfl (by kernel_rfl) rfl (z02 ((zJ hru4).trans hld)) hus (qK rfl (by kernel_rfl) rfl (z02 ((zJ hry4).trans kP)) (by simp [wU,qR,qP]) qB),zP (by kernel_rfl) (zP (by kernel_rfl) qB),by kernel_rfl,?_⟩
   exact ⟨trivial,trivial,trivial,_,_,_,_,_,_,_,_,_,_,_,_,_,_,_,_,_,_,_,_,_,_,_,_,_,_,_,_,_,_,_,_,_,_,_,_,_,_,_,_,_,_,_,_,_,_,_,_,_,_,_,_,rfl,rfl⟩
  ·refine qT (is:=[0,1,2,3,4,5,6,7,9,8,10,11,12]) (h:=0) (by kernel_rfl) (by kernel_rfl) ?_
   simp (maxSteps:=1000000) (disch:=first|assumption|omega|rfl) only [List.replicate_zero,eq_self,gw,ga,Nat.reduceAdd,↓gq,vso,List.append_nil,hry2,qQ,kD,z0c,kP,hru2,hld,hu1,hgone,bo44,hv38,hd1,hap,hv40,hfill,bo66]
   refine ⟨qK rfl (by kernel_rfl) rfl (z02 ((zJ hru3).trans hld)) hus (qK rfl (by kernel_rfl) rfl (z02 ((zJ hry3).trans kP)) (by simp [wU,qR,qP]) qB),qK rfl (by kernel_rfl) rfl (z02 ((zJ hru4).trans hld)) hus (qK rfl (by kernel_rfl) rfl (z02 ((zJ hry4).trans kP)) (by simp [wU,qR,qP]) qB),zP (by kernel_rfl) (zP (by kernel_rfl) qB),by kernel_rfl,?_⟩
   exact ⟨trivial,trivial,trivial,_,_,_,_,_,_,_,_,_,_,_,_,_,_,_,_,_,_,_,_,_,_,_,_,_,_,_,_,_,_,_,_,_,_,_,_,_,_,_,_,_,_,_,_,_,_,_,_,_,_,_,_,rfl,rfl⟩
 ·rintro _ _ S5 _ ⟨rfl,rfl,rfl,w11,g1,g2,g3,g4,g5,g9,gD,gB,gC,gA,gE,gL,gM,gG,gJ,gN,gI,gH,gO,gP,gT,gQ,gU,gR,gS,gV,gW,gX,gY,gZ,gh,gj,gk,gn,gr,gz,hH,hU,hY,hZ,xA,xB,xC,xD,xE,xF,xG,xH,xI,xJ,xK,rfl,rfl⟩
  obtain ⟨om,hdl,hm6,es6,cc6,rfl⟩:=h5.gp.del zrc (no:Int)
  have hdl:=dlM hdl
  have h6:=h5.setgm (gl':=fun n=>if n=(no:Int) then [] else gl n) (b':=b) hm6 (fun n=>by
   unfold updI
   by_cases hn:n=(no:Int)
   ·rw [if_pos hn]; simp only [hn,if_true]; exact .inl ⟨rfl,rfl⟩
   ·rw [if_neg hn]; simp only [hn,if_false]; exact h5.gv n) (fun n=>by
   by_cases hn:n=(no:Int)
   ·simp only [hn,if_true]; exact Nat.zero_le _
   ·simp only [hn,if_false]; exact h5.gb n)
  have hry6:=zD (e:=116) h6.hy
  have hF06:FrM m gm r S (S5.set gm (.mp es6 cc6)):=by
   refine h5.frgm ?_ (by obtain ⟨L,cc,e,_⟩:=h.gp; exact ⟨_,cc,e⟩)
   exact (Frm.keep hk0).trans (hF02.trans ((FrS.toM (mk:=gm) ((FrC.toS (Frm.keep hK4)).trans hF5))))
  generalize S5.set gm (Ob.mp es6 cc6)=S6 at *
  have her6:=fun {ops dst k T F Q}=>zF (ops:=ops) (dst:=dst) (l:=k) (T:=T) (F:=F) (Q:=Q) rfl (z7x S6 x c mk _ _ _ ee h6.sp.hx)
  by_cases hee:ee=0
  ·have hde6 : ∀ i:Decidable (ee ≠ 0),@decide (ee ≠ 0) i=false:=fun i=>decide_eq_false (fun h=>h hee)
   have hsp:spI 0 C1 (no:Int) 0 bb (wT C1.list (gl (no:Int)) ++ ids)=(C.last:Int) + 2:=by
    unfold spE at hce
    rw [if_neg (fun h=>h rfl)] at hce
    unfold spI
    rw [if_neg (fun h=>h rfl),if_neg (fun hh=>hh (by rw [hce]; exact hee)),hC1l]
    omega
   rw [hsp]
   simp (maxSteps:=1000000) (disch:=first|assumption|omega|rfl) only [↓gp,gc,Nat.reduceAdd,↓vbs,hry5,z5m,z2r,hdl,hry6,z0c,kP,her6,bo45,hde6,zq6,zwt]
   refine ⟨rfl,_,z0z rfl rfl rfl rfl,hF06,⟨_,h6⟩,?_⟩
   rw [if_neg (fun h=>h hee)]
   rfl
  ·have hde6 : ∀ i:Decidable (ee ≠ 0),@decide (ee ≠ 0) i=true:=fun i=>decide_eq_true hee
   simp (maxSteps:=1000000) (disch:=first|assumption|omega|rfl) only [↓gp,gc,Nat.reduceAdd,↓vbs,hry5,z5m,z2r,hdl,hry6,z0c,kP,her6,bo45,hde6]
   refine ⟨rfl,_,z0z rfl rfl rfl rfl,hF06,⟨_,h6⟩,?_⟩
   rw [if_pos hee]
   rfl
theorem zjb (S:zA) (y x c r m mk gm:Nat) (l:Lay) (e:Int) (C:CS) (mf gf:Int→Option V) (gl:Int→List Int) (b:Nat) (h:AllP S y x c r m mk gm l e C mf gf gl b) (hb:InB l.blocks) (hi:InB l.inodes) (hm:MayL l) (D:Nat) (hD:2 + l.inodes.tdiv 8=(D:Int)) (N:Nat) (hN:l.blocks=N) (u:V) (bb:List UInt8) (hu:IsB u bb) (hul:bb.length=256) (nd:V) (hor:frB (C.see 1) D N=[] ∨ e ≠ 0) :
  EvS cfg 19 [.ref y 0 0,u,nd] S (fun o S'=>FrC m r S S'∧AllP S' y x c r m mk gm l e C mf gf gl b∧o = .ret (.tup [.d (.int .i64 0),.ts []])):=by
 refine qE rfl zq3 ?_
 show Wp cfg (Tryz.f19.body.getD .skip) ((.ref y 0 0)::u::nd::uZ (uZ (uZ (uZ (uZ ((.tup [])::(.tup [])::(.tup [])::(.tup [])::[])))))) S [] _
 unfold uZ
 conv=>arg 2; whnf
 rw [zO]
 generalize ha:S.length=a
 have hf:=bt42.fits hu hul
 have hk0:Keep S (S ++ [.row [u] 42]):=Keep.refl.app
 have h0:=h.keep hk0
 obtain ⟨o,S1,⟨rfl,hC1,hF1⟩,hE⟩:=qC (zmd _ _ y x c r m mk gm l e C h0.seen h0.sp.hB hb hi hm D hD N hN)
 have hnx:=fun {ops dst k T F Q}=>zF (ops:=ops) (dst:=dst) (l:=k) (T:=T) (F:=F) (Q:=Q) rfl hE
 have h1:=h0.frC hF1 hC1.at rfl
 have her:=fun {ops dst k T F Q}=>zF (ops:=ops) (dst:=dst) (l:=k) (T:=T) (F:=F) (Q:=Q) rfl (z7x S1 x c mk _ _ _ e h1.sp.hx)
 have hry1:=zD (e:=116) h1.hy
 cases hfr:frB (C.see 1) D N with
 | nil =>
  rw [hfr] at hnx
  have hde : ∀ i:Decidable (([]:List Nat) ≠ []),@decide (([]:List Nat) ≠ []) i=false:=fun i=>decide_eq_false (fun h=>h rfl)
  simp only [hde] at hnx
  simp (maxSteps:=1000000) (disch:=first|assumption|omega|rfl) only [↓gp,gc,Nat.reduceAdd,hf,ha,hnx,bo43,wH,Bool.not_false,z7f]
  exact ⟨rfl,_,z0z rfl rfl rfl rfl,(Frm.keep hk0).trans hF1,h1,rfl⟩
 | cons no t =>
  rw [hfr] at hnx hor
  have he:e ≠ 0:=by
   rcases hor with hor | hor
   ·cases hor
   ·exact hor
  have hde : ∀ i:Decidable (no::t ≠ []),@decide (no::t ≠ []) i=true:=fun i=>decide_eq_true (by simp)
  simp only [hde] at hnx
  have hde2 : ∀ i:Decidable (e ≠ 0),@decide (e ≠ 0) i=true:=fun i=>decide_eq_true he
  simp (maxSteps:=1000000) (disch:=first|assumption|omega|rfl) only [↓gp,gc,Nat.reduceAdd,hf,ha,hnx,bo43,wH,Bool.not_true,hry1,z0c,kP,her,bo45,hde2,z7f]
  exact ⟨rfl,_,z0z rfl rfl rfl rfl,(Frm.keep hk0).trans hF1,h1,rfl⟩
theorem zjd (l:Lay) (hb:InB l.blocks) (hi:InB l.inodes) (hm:MayL l) (no:Int):Ev cfg 69 [encLay l,.int .i64 no] (.ret (.d (.bool (decide (2 + l.inodes.tdiv 8 ≤ no∧no < l.blocks))))):=by
 refine kW rfl rfl zx9 ?_
 show Wp cfg (Tryz.f69.body.getD .skip) ((.d (encLay l))::(.d (.int .i64 no))::uZ ((.tup [])::(.tup [])::(.tup [])::(.tup [])::(.tup [])::(.tup [])::(.tup [])::[])) [] [] _
 unfold uZ
 conv=>arg 2; whnf
 have hok : ∀ {ops dst k T S F Q},WpR cfg ops dst k T S F Q (some (.enter 109 [.d (encLay l)]))=WpL cfg ops k (putT T dst (.d (.bool true))) S F Q:=fun {ops dst k T S F Q}=>qI (ds:=[encLay l]) rfl (zrh l hb hi hm)
 have hdt : ∀ {ops dst k T S F Q},WpR cfg ops dst k T S F Q (some (.enter 108 [.d (encLay l)]))=WpL cfg ops k (putT T dst (.d (.int .i64 (2 + l.inodes.tdiv 8)))) S F Q:=fun {ops dst k T S F Q}=>qI (ds:=[encLay l]) rfl (zav l hb hi hm)
 by_cases h1:no ≥ 2 + l.inodes.tdiv 8
 ·have e:decide (2 + l.inodes.tdiv 8 ≤ no∧no < l.blocks)=decide (no < l.blocks):=by
   by_cases h2:no < l.blocks
   ·rw [decide_eq_true h2,decide_eq_true ⟨h1,h2⟩]
   ·rw [decide_eq_false h2,decide_eq_false (fun h=>h2 h.2)]
  rw [e]
  simp (maxSteps:=1000000) (disch:=first|assumption|omega|rfl) only [↓gp,gc,Nat.reduceAdd,lr32,z0y,z3m,hok,zjn,hdt,z93,zQ]
  exact zS rfl rfl rfl
 ·rw [decide_eq_false (fun h=>h1 h.1)]
  simp (maxSteps:=1000000) (disch:=first|assumption|omega|rfl) only [↓gp,gc,Nat.reduceAdd,lr32,z0y,z3m,hok,zjn,hdt,z93,zQ]
  exact zS rfl rfl rfl
theorem zev {ops:Array Oper} {dst:Option Tmp} {k:List Oper} {T:List V} {S:zA} {F:Dfs} {Q:Post} {l:Lay} (hb:InB l.blocks) (hi:InB l.inodes) (hm:MayL l) {no:Int}:WpR cfg ops dst k T S F Q (some (.enter 69 [.agg [.d (.int .i64 l.blocks),.d (.int .i64 l.inodes),.d (.int .u64 l.merge)],.d (.int .i64 no)]))=WpL cfg ops k (putT T dst (.d (.bool (decide (2 + l.inodes.tdiv 8 ≤ no∧no < l.blocks))))) S F Q :=
 kT (ds:=[encLay l,.int .i64 no]) rfl rfl rfl (zjd l hb hi hm no)
theorem zul (S:zA) (y x c r m mk gm:Nat) (l:Lay) (C:CS) (mf gf:Int→Option V) (gl:Int→List Int) (b:Nat) (h:AllP S y x c r m mk gm l 0 C mf gf gl b) (hb:InB l.blocks) (hi:InB l.inodes) (hm:MayL l) (no:Nat) (nd:V) (ids:List Int) (hnd:IntsV S nd ids) (hids:ids.length ≤ 17592186000000) (hl:C.last < 100000) (c1:2 + l.inodes.tdiv 8 ≤ (no:Int)∧(no:Int) < l.blocks) (hu:z98 l C no=true) :
  EvS cfg 23 [.ref y 0 0,.d (.int .i64 (no:Int)),nd] S (fun o S'=>FrM m gm r S S'∧(∃ gf',AllP S' y x c r m mk gm l (spE 0 C 1 ((no / 8:Nat):Int) (bitP C no false) ids) (spC 0 C 1 ((no / 8:Nat):Int) (bitP C no false) ids) mf gf' (fun n=>if n=(no:Int) then ids else gl n) (max b ids.length))∧o = .ret (.d (.int .i64 (spI 0 C 1 ((no / 8:Nat):Int) (bitP C no false) ids)))):=by
 refine qE rfl zxv ?_
 show Wp cfg (Tryz.f23.body.getD .skip) ((.ref y 0 0)::(.d (.int .i64 (no:Int)))::nd::uZ (uZ (uZ (uZ ((.tup [])::(.tup [])::(.tup [])::(.tup [])::(.tup [])::[]))))) S [] _
 unfold uZ
 conv=>arg 2; whnf
 rw [zO]
 have hry:=zD (e:=116) h.hy
 obtain ⟨o,S1,⟨hK,v,rfl,hv⟩,hE1⟩:=qC (zbr S x c mk l.blocks l.inodes l.merge 0 h.sp.hx)
 have hview:=fun {ops dst k T F Q}=>zF (ops:=ops) (dst:=dst) (l:=k) (T:=T) (F:=F) (Q:=Q) rfl hE1
 have hv0:=hv
 obtain ⟨gg,rfl,hg⟩:=hv
 generalize ha1:S1.length=a1
 have hKa:Keep S (S1 ++ [.row [kL l.blocks l.inodes l.merge gg] 55]):=hK.app
 have hid:=fun {ops dst k T S F Q}=>zev (ops:=ops) (dst:=dst) (k:=k) (T:=T) (S:=S) (F:=F) (Q:=Q) (no:=(no:Int)) hb hi hm
 have hde : ∀ i:Decidable (2 + l.inodes.tdiv 8 ≤ (no:Int)∧(no:Int) < l.blocks),@decide (2 + l.inodes.tdiv 8 ≤ (no:Int)∧(no:Int) < l.blocks) i=true:=fun i=>decide_eq_true c1
 simp only [hde] at hid
 have h2:=h.keep hKa
 obtain ⟨o,S3,⟨hF3,hC3,w,rfl,rfl⟩,hE3⟩:=qC (zs2 (S1 ++ [.row [kL l.blocks l.inodes l.merge gg] 55]) _ _ c r m l C (CacheIn.of h2.sp.ca) (hv0.keep Keep.refl.app) h.sp.hB hb hi hm (no:Int))
 have hus:=fun {ops dst k T F Q}=>zF (ops:=ops) (dst:=dst) (l:=k) (T:=T) (F:=F) (Q:=Q) rfl hE3
 rw [hu] at hus
 have h3:=h2.frC hF3 hC3.at rfl
 have hF03:FrC m r S S3:=(Frm.keep hKa).trans hF3
 have hry3:=zD (e:=116) h3.hy
 have her:=fun {ops dst k T F Q}=>zF (ops:=ops) (dst:=dst) (l:=k) (T:=T) (F:=F) (Q:=Q) rfl (z7x S3 x c mk _ _ _ 0 h3.sp.hx)
 have hde0 : ∀ i:Decidable ((0:Int) ≠ 0),@decide ((0:Int) ≠ 0) i=false:=fun i=>decide_eq_false (fun h=>h rfl)
 have hfI : ∀ {S':zA},FrC m r S S'→IntsV S' nd ids:=fun {S'} hF=>by
  rcases hnd with h | h | h
  ·exact .inl h
  ·exact .inr (.inl h)
  ·exact .inr (.inr (hF.own h rfl))
 have h512:=hm.2.1
 obtain ⟨o,S4,⟨hF4,h4s,rfl⟩,hE4⟩:=qC (zq0 S3 y x c r m mk gm l 0 C mf gf gl b h3 hb hi hm no (by omega) false nd ids (hfI hF03) (by omega) hl)
 have hbit:=fun {ops dst k T F Q}=>zF (ops:=ops) (dst:=dst) (l:=k) (T:=T) (F:=F) (Q:=Q) rfl hE4
 have h4:=h3.frS hF4 h4s
 have hd1:=hnd.one
 have hnd4:IntsV S4 nd ids:=by
  rcases hfI hF03 with h | h | h
  ·exact .inl h
  ·exact .inr (.inl h)
  ·exact .inr (.inr (hF4.own h rfl))
 generalize spE 0 C 1 ((no / 8:Nat):Int) (bitP C no false) ids=e' at *
 generalize spC 0 C 1 ((no / 8:Nat):Int) (bitP C no false) ids=C' at *
 generalize spI 0 C 1 ((no / 8:Nat):Int) (bitP C no false) ids=id' at *
 have hry4:=zD (e:=116) h4.hy
 obtain ⟨v46,S5,kk,hap,hkk,ho5,hfr5⟩:=appI (S:=S4) (v:= .ts []) (xs:=[]) (.inl ⟨rfl,rfl⟩) hnd4 (by simp; omega)
 have hK5:Keep S4 S5:=fun j p hj=>(hfr5 j p hj NotAt.ts).1
 have h5:=h4.keep hK5
 have hry5:=zD (e:=116) h5.hy
 have hv46:=qG ho5
 rw [List.nil_append] at ho5
 obtain ⟨om,hup,hm6,es6,cc6,rfl⟩:=h5.gp.put zrc (no:Int) (v:=v46) hv46
 have h6:=h5.setgm (gl':=fun n=>if n=(no:Int) then ids else gl n) (b':=max b ids.length) hm6 (fun n=>by
  unfold updI
  by_cases hn:n=(no:Int)
  ·rw [if_pos hn]; simp only [hn,if_true]; exact ho5
  ·rw [if_neg hn]; simp only [hn,if_false]; exact h5.gv n) (fun n=>by
  by_cases hn:n=(no:Int)
  ·simp only [hn,if_true]; omega
  ·simp only [hn,if_false]; have:=h5.gb n; omega)
 have hF06:FrM m gm r S (S5.set gm (.mp es6 cc6)):=by
  refine h5.frgm ?_ (by obtain ⟨L,cc,e,_⟩:=h.gp; exact ⟨_,cc,e⟩)
  exact (FrS.toM (mk:=gm) hF03.toS).trans (FrS.toM (mk:=gm) (hF4.trans (FrC.toS (Frm.keep hK5))))
 simp (maxSteps:=1000000) (disch:=first|assumption|omega|rfl) only [↓gp,gc,Nat.reduceAdd,zej,z0c,hry,kP,hview,bo27,z52,zf52,zb8,ha1,rA0 ha1,pA0 ha1,sr52,z1c,z9r,lr52,hid,bo69,wH,Bool.not_true,Bool.not_false,hus,bo28,hry3,her,bo45,hde0,hd1,hbit,bo65]
 refine Wp.mono (Q:=fun x T' S' F'=>x = .norm∧F'=[]∧S'=S5.set gm (.mp es6 cc6) ∧ ∃ g1 g2 g3 g4 g5 g7 g9 gK gF gD gB gC gA gE gL gM gG gJ gN gI gH gO gP gT gQ gU gR gS gV gW gX gY gZ gh gj gk gn gr gz hH hU hY hZ xA xB,T'=((.ref y 0 0)::g1::g2::g3::g4::g5::(.d (.int .i64 0))::g7::(.d (.int .i64 id'))::g9::gK::gF::gD::gB::gC::gA::gE::gL::gM::gG::gJ::gN::gI::gH::gO::gP::gT::gQ::gU::gR::gS::gV::gW::gX::gY::gZ::gh::gj::gk::gn::gr::gz::hH::hU::hY::hZ::xA::xB::[])) ?_ ?_
 ·rcases hkk with ⟨rfl,rfl⟩ | rfl | rfl
  ·refine qT (is:=[0,1,2,3,4,5,6,7,8]) (h:=0) (by kernel_rfl) (by kernel_rfl) ?_
   simp (maxSteps:=1000000) (disch:=first|assumption|omega|rfl) only [List.replicate_zero,eq_self,gw,ga,Nat.reduceAdd,↓gq,vso,List.append_nil,hry4,qQ,kD,z5m,z2r,zci,hd1,hap,hv46,z79,hup]
   exact ⟨zP (by kernel_rfl) (zP (by kernel_rfl) qB),by kernel_rfl,trivial,trivial,trivial,_,_,_,_,_,_,_,_,_,_,_,_,_,_,_,_,_,_,_,_,_,_,_,_,_,_,_,_,_,_,_,_,_,_,_,_,_,_,_,_,_,_,_,_,_,rfl⟩
  ·refine qT (is:=[0,1,2,3,4,5,6,7,8]) (h:=0) (by kernel_rfl) (by kernel_rfl) ?_
   simp (maxSteps:=1000000) (disch:=first|assumption|omega|rfl) only [List.replicate_zero,eq_self,gw,ga,Nat.reduceAdd,↓gq,vso,List.append_nil,hry4,qQ,kD,z5m,z2r,zci,hd1,hap,hv46,z79,hup]
   exact ⟨qK rfl (by kernel_rfl) rfl (z02 ((zJ hry5).trans z2r)) (by simp [wU,qR,qP]) qB,zP (by kernel_rfl) qB,by kernel_rfl,trivial,trivial,trivial,_,_,_,_,_,_,_,_,_,_,_,_,_,_,_,_,_,_,_,_,_,_,_,_,_,_,_,_,_,_,_,_,_,_,_,_,_,_,_,_,_,_,_,_,_,rfl⟩
  ·refine qT (is:=[0,1,2,3,4,5,6,7,8]) (h:=0) (by kernel_rfl) (by kernel_rfl) ?_
   simp (maxSteps:=1000000) (disch:=first|assumption|omega|rfl) only [List.replicate_zero,eq_self,gw,ga,Nat.reduceAdd,↓gq,vso,List.append_nil,hry4,qQ,kD,z5m,z2r,zci,hd1,hap,hv46,z79,hup]
   exact ⟨qK rfl (by kernel_rfl) rfl (z02 ((zJ hry5).trans z2r)) (by simp [wU,qR,qP]) qB,zP (by kernel_rfl) qB,by kernel_rfl,trivial,trivial,trivial,_,_,_,_,_,_,_,_,_,_,_,_,_,_,_,_,_,_,_,_,_,_,_,_,_,_,_,_,_,_,_,_,_,_,_,_,_,_,_,_,_,_,_,_,_,rfl⟩
 ·rintro _ _ S6 _ ⟨rfl,rfl,hS6,g1,g2,g3,g4,g5,g7,g9,gK,gF,gD,gB,gC,gA,gE,gL,gM,gG,gJ,gN,gI,gH,gO,gP,gT,gQ,gU,gR,gS,gV,gW,gX,gY,gZ,gh,gj,gk,gn,gr,gz,hH,hU,hY,hZ,xA,xB,rfl⟩
  rw [← hS6] at h6 hF06
  simp (maxSteps:=1000000) (disch:=first|assumption|omega|rfl) only [↓gp,gc,Nat.reduceAdd]
  exact ⟨rfl,_,rfl,hF06,⟨_,h6⟩,rfl⟩

theorem zxy (l:Lay) (hb:InB l.blocks) (hi:InB l.inodes):Ev cfg 63 [encLay l] (.ret (.d (.bool (decide (MayL l))))):=by
 refine kW rfl rfl zx5 ?_
 show Wp cfg (Tryz.f63.body.getD .skip) ((.d (encLay l))::uZ (uZ (uZ ((.tup [])::(.tup [])::(.tup [])::(.tup [])::(.tup [])::[])))) [] [] _
 unfold uZ
 conv=>arg 2; whnf
 generalize hp:decide (MayL l)=p
 have hq:=quo8 hi
 have hr:=rem8 (a:=l.inodes)
 by_cases c1:l.blocks ≥ 16
 case neg =>
  rw [decide_eq_false (fun h=>by have:=h.1; omega)] at hp; subst hp
  simp (maxSteps:=1000000) (disch:=first|assumption|omega|rfl) only [↓gp,gc,Nat.reduceAdd]
  exact zS rfl rfl rfl
 by_cases c2:l.blocks ≤ 512
 case neg =>
  rw [decide_eq_false (fun h=>by have:=h.2.1; omega)] at hp; subst hp
  simp (maxSteps:=1000000) (disch:=first|assumption|omega|rfl) only [↓gp,gc,Nat.reduceAdd]
  exact zS rfl rfl rfl
 by_cases c3:l.inodes ≥ 8
 case neg =>
  rw [decide_eq_false (fun h=>by have:=h.2.2.1; omega)] at hp; subst hp
  simp (maxSteps:=1000000) (disch:=first|assumption|omega|rfl) only [↓gp,gc,Nat.reduceAdd]
  exact zS rfl rfl rfl
 by_cases c4:l.inodes ≤ 128
 case neg =>
  rw [decide_eq_false (fun h=>by have:=h.2.2.2.1; omega)] at hp; subst hp
  simp (maxSteps:=1000000) (disch:=first|assumption|omega|rfl) only [↓gp,gc,Nat.reduceAdd]
  exact zS rfl rfl rfl
 by_cases c5:l.inodes.tmod 8=0
 case neg =>
  rw [decide_eq_false (fun h=>c5 h.2.2.2.2.1)] at hp; subst hp
  simp (maxSteps:=1000000) (disch:=first|assumption|omega|rfl) only [↓gp,gc,Nat.reduceAdd,hr]
  exact zS rfl rfl rfl
 have hd:0 ≤ l.inodes.tdiv 8∧l.inodes.tdiv 8 ≤ 16:=by
  rw [Int.tdiv_eq_ediv_of_nonneg (by omega)]; omega
 have hw:IntKind.i64.wrap (2 + l.inodes.tdiv 8)=2 + l.inodes.tdiv 8:=wrap64 (by omega)
 by_cases c6:2 + l.inodes.tdiv 8 < l.blocks
 case neg =>
  rw [decide_eq_false (fun h=>c6 h.2.2.2.2.2)] at hp; subst hp
  simp (maxSteps:=1000000) (disch:=first|assumption|omega|rfl) only [↓gp,gc,Nat.reduceAdd,hr,hq,hw,c5,zQ]
  exact zS rfl rfl rfl
 rw [decide_eq_true ⟨by omega,by omega,by omega,by omega,c5,by omega⟩] at hp; subst hp
 simp (maxSteps:=1000000) (disch:=first|assumption|omega|rfl) only [↓gp,gc,Nat.reduceAdd,hr,hq,hw,c5,zQ]
 exact zS rfl rfl rfl
section
variable {ops:Array Oper} {dst:Option Tmp} {k:List Oper} {T:List V} {S:zA} {F:Dfs} {Q:Post}
theorem zh6 {l:Lay} (hb:InB l.blocks) (hi:InB l.inodes):WpR cfg ops dst k T S F Q (some (.enter 63 [.d (encLay l)]))=WpL cfg ops k (putT T dst (.d (.bool (decide (MayL l))))) S F Q:=qI (ds:=[encLay l]) rfl (zxy l hb hi)
end
theorem zkc (l:Lay) (hb:InB l.blocks) (hi:InB l.inodes):Ev cfg 16 [encLay l] (.ret (.d (.bool (decide (MayL l∧l.blocks ≤ 60))))):=by
 refine kW rfl rfl zyg ?_
 show Wp cfg (Tryz.f16.body.getD .skip) ((.d (encLay l))::(.tup [])::(.tup [])::(.tup [])::(.tup [])::(.tup [])::(.tup [])::(.tup [])::(.tup [])::(.tup [])::[]) [] [] _
 conv=>arg 2; whnf
 have hc:=fun {ops dst k T S F Q}=>zh6 (ops:=ops) (dst:=dst) (k:=k) (T:=T) (S:=S) (F:=F) (Q:=Q) hb hi
 by_cases h1:MayL l
 ·rw [decide_eq_true h1] at hc
  have e:decide (MayL l∧l.blocks ≤ 60)=decide (l.blocks ≤ 60):=by simp [h1]
  rw [e]
  simp (maxSteps:=1000000) (disch:=first|assumption|omega|rfl) only [↓gp,gc,Nat.reduceAdd,lr32,z0y,z3m,hc,bo63]
  exact zS rfl rfl rfl
 ·rw [decide_eq_false h1] at hc
  have e:decide (MayL l∧l.blocks ≤ 60)=false:=decide_eq_false (fun h=>h1 h.1)
  rw [e]
  simp (maxSteps:=1000000) (disch:=first|assumption|omega|rfl) only [↓gp,gc,Nat.reduceAdd,lr32,z0y,z3m,hc,bo63]
  exact zS rfl rfl rfl
theorem ze4 {ops:Array Oper} {dst:Option Tmp} {k:List Oper} {T:List V} {S:zA} {F:Dfs} {Q:Post} {l:Lay} (hb:InB l.blocks) (hi:InB l.inodes):WpR cfg ops dst k T S F Q (some (.enter 16 [.d (encLay l)]))=WpL cfg ops k (putT T dst (.d (.bool (decide (MayL l∧l.blocks ≤ 60))))) S F Q:=qI (ds:=[encLay l]) rfl (zkc l hb hi)
theorem znp {b:List UInt8} {i:Nat} {x:UInt8} (h:i < b.length):layB b i [x]=b.set i x:=by
 unfold layB
 rw [List.set_eq_take_append_cons_drop,if_pos h]
 simp
theorem zfe {C:CS} (hC:C.Ok) (h1:1 < C.img.length) {no:Nat} (hno:no < 2048) {on:Bool} {ids:List Int} {k:Nat}:(bitC C no on ids).see k=if k=1 then vW (C.see 1) no on else C.see k:=by
 have hl:=hC.see_len h1
 unfold bitC
 have:=zb0 (C:=C) (no:=1) (a:=((no / 8:Nat):Int)) (b:=bitP C no on) (needs:=vA C (noZ ids)) (k:=k)
 rw [show ((1:Nat):Int)=1 from rfl] at this
 rw [this]
 by_cases h:k=1
 ·subst h
  rw [if_pos rfl,if_pos rfl,Int.toNat_natCast]
  unfold bitP vW
  exact znp (by omega)
 ·rw [if_neg (Ne.symm h),if_neg h]
theorem zje {b d:List UInt8} (h:d.length=b.length):layB b 0 d=d:=by
 unfold layB
 simp [h]
theorem z8r {l:List Chg}:wT l []=[]:=by unfold wT; simp
theorem zml {C:CS} {no:Nat} {bb:List UInt8} {ids:List Int} (h1:no < C.img.length) (hb:bb.length=256) (hid : ∀ x ∈ noZ ids,1 ≤ x∧x ≤ (C.last:Int)):putE C (no:Int) 0 bb (noZ ids)=0:=by
 unfold putE
 have hp:kG 0 bb:=by unfold kG; omega
 rw [if_neg (fun hh=>hh hp),if_neg (fun hh=>hh hid),if_neg (by omega)]
theorem z83 {C:CS} {no:Nat} {bb:List UInt8} {gs ids:List Int} (h1:no < C.img.length) (hb:bb.length=256) (hid : ∀ x ∈ noZ (wT (bitC C no true []).list gs ++ ids),1 ≤ x∧x ≤ (C.last:Int) + 1):takE C no bb gs ids=0∧takC C no bb gs ids=(bitC C no true []).put (no:Int) 0 bb (vA (bitC C no true []) (noZ (wT (bitC C no true []).list gs ++ ids))):=by
 have hpe:putE (bitC C no true []) (no:Int) 0 bb (noZ (wT (bitC C no true []).list gs ++ ids))=0:=zml h1 hb (fun x hx=>by have:=hid x hx; exact ⟨this.1,by show x ≤ ((C.last + 1:Nat):Int); omega⟩)
 unfold takE takC spE spC
 rw [if_neg (fun h=>h rfl),if_neg (fun h=>h rfl),if_neg (fun hh=>hh hpe)]
 exact ⟨hpe,rfl⟩
theorem zgi {C:CS} (hC:C.Ok) {no:Nat} {bb:List UInt8} {gs ids:List Int} (h1:no < C.img.length) (h11:1 < C.img.length) (hno:no < 2048) (hb:bb.length=256) (hid : ∀ x ∈ noZ (wT (bitC C no true []).list gs ++ ids),1 ≤ x∧x ≤ (C.last:Int) + 1) (hn1:no ≠ 1) (k:Nat):(takC C no bb gs ids).see k=if k=no then bb else if k=1 then vW (C.see 1) no true else C.see k:=by
 rw [(z83 h1 hb hid).2,zb0,zfe hC h11 hno]
 by_cases h:k=no
 ·subst h
  rw [if_pos rfl,if_pos rfl,if_neg hn1]
  exact zje (by rw [hb,hC.see_len h1])
 ·rw [if_neg (Ne.symm h),if_neg h]
theorem ldI3 {S:zA} {a:Int}:kN Tryz.prog S 3 (.d (.ptr (.int .i64 a)))=some (.d (.int .i64 a)):=by kernel_rfl
theorem ixI {S:zA} {l:List Int} {i:Nat} (h:i < l.length):zM Tryz.prog S 22 (.d (encI l)) (.d (.int .i64 (i:Int)))=some (.d (.ptr (.int .i64 l[i]))):=ix22 h
theorem lnI {S:zA} {l:List Int}:zI Tryz.prog S .len [22] [.d (encI l)]=some (.val (.d (.int .i64 (l.length:Int))) S 0):=IntsV.len (.inl rfl)
theorem zwb (a b:List Int) (hl:a.length ≤ 1000000) (he:a.length=b.length) (R:Post) : ∀ (k i:Nat) (g2 g3 g4 g6 g7 g8 g9 gK gF gD gB gC gA gE gL gM gG gJ gN gI gH gO gP:V),a.length - i=k→i ≤ a.length→a.take i=b.take i →
 (∀ i' g2 g3 g4 g6 g7 g8 g9 gK gF gD gB gC gA gE gL gM gG gJ gN gI gH gO gP,a=b→R (.exit 0) ((.d (encI a))::(.d (encI b))::g2::g3::g4::i'::g6::g7::g8::g9::gK::gF::gD::gB::gC::gA::gE::gL::gM::gG::gJ::gN::gI::gH::gO::gP::[]) [] []) →
 (∀ T,a ≠ b→T.getD 4 (.tup []) = .d (.bool false)→R .ret T [] []) →
 Wp cfg (.loop (lpOf (Tryz.f39.body.getD .skip) 0)) ((.d (encI a))::(.d (encI b))::g2::g3::g4::(.d (.int .i64 (i:Int)))::g6::g7::g8::g9::gK::gF::gD::gB::gC::gA::gE::gL::gM::gG::gJ::gN::gI::gH::gO::gP::[]) [] [] R:=by
 intro k
 induction k with
 | zero =>
  intro i g2 g3 g4 g6 g7 g8 g9 gK gF gD gB gC gA gE gL gM gG gJ gN gI gH gO gP hk hi ht hR hR2
  have hie:i=a.length:=by omega
  subst hie
  rw [List.take_length,he,List.take_length] at ht
  have hln:=fun S=>lnI (S:=S) (l:=a)
  rw [zO]
  refine zN ?_
  conv=>arg 2; whnf
  simp (maxSteps:=1000000) (disch:=first|assumption|omega|rfl) only [↓gp,gc,Nat.reduceAdd,hln]
  exact hR _ _ _ _ _ _ _ _ _ _ _ _ _ _ _ _ _ _ _ _ _ _ _ _ ht
 | succ k ih =>
  intro i g2 g3 g4 g6 g7 g8 g9 gK gF gD gB gC gA gE gL gM gG gJ gN gI gH gO gP hk hi ht hR hR2
  have hlt:i < a.length:=by omega
  have hlt2:i < b.length:=by omega
  have h3:IntKind.i64.wrap ((i:Int) + 1)=((i + 1:Nat):Int):=by rw [wrap64 (by omega)]; omega
  have hln:=fun S=>lnI (S:=S) (l:=a)
  have hxa:=fun S=>ixI (S:=S) hlt
  have hxb:=fun S=>ixI (S:=S) hlt2
  rw [zO]
  refine zN ?_
  conv=>arg 2; whnf
  simp (maxSteps:=1000000) (disch:=first|assumption|omega|rfl) only [↓gp,gc,Nat.reduceAdd,hln]
  refine qT (is:=[0,1,2,3,4,5,6,7,8]) (h:=0) (by kernel_rfl) (by kernel_rfl) ?_
  simp (maxSteps:=1000000) (disch:=first|assumption|omega|rfl) only [List.replicate_zero,eq_self,gw,ga,Nat.reduceAdd,↓gq,vso,List.append_nil,hxa,hxb,ldI3]
  refine ⟨by kernel_rfl,?_⟩
  by_cases h:a[i]=b[i]
  ·have hde : ∀ i':Decidable (a[i] ≠ b[i]),@decide (a[i] ≠ b[i]) i'=false:=fun i'=>decide_eq_false (fun hh=>hh h)
   simp (maxSteps:=1000000) (disch:=first|assumption|omega|rfl) only [↓gp,gc,Nat.reduceAdd,hde,h3]
   refine ih (i + 1) _ _ _ _ _ _ _ _ _ _ _ _ _ _ _ _ _ _ _ _ _ _ _ (by omega) (by omega) ?_ hR hR2
   rw [jY hlt,jY hlt2,ht,h]
  ·have hde : ∀ i':Decidable (a[i] ≠ b[i]),@decide (a[i] ≠ b[i]) i'=true:=fun i'=>decide_eq_true h
   simp (maxSteps:=1000000) (disch:=first|assumption|omega|rfl) only [↓gp,gc,Nat.reduceAdd,hde]
   exact hR2 _ (fun hh=>h (by subst hh; rfl)) rfl
theorem ztr (a b:List Int) (hl:a.length ≤ 1000000):Ev cfg 39 [encI a,encI b] (.ret (.d (.bool (decide (a=b))))):=by
 refine kW rfl rfl zy8 ?_
 show Wp cfg (Tryz.f39.body.getD .skip) ((.d (encI a))::(.d (encI b))::uZ (uZ ((.tup [])::(.tup [])::(.tup [])::(.tup [])::[]))) [] [] _
 unfold uZ
 conv=>arg 2; whnf
 have hln:=fun S=>lnI (S:=S) (l:=a)
 have hlb:=fun S=>lnI (S:=S) (l:=b)
 by_cases he:(a.length:Int)=(b.length:Int)
 ·have hde : ∀ i':Decidable ((a.length:Int) ≠ (b.length:Int)),@decide ((a.length:Int) ≠ (b.length:Int)) i'=false:=fun i'=>decide_eq_false (fun hh=>hh he)
  simp (maxSteps:=1000000) (disch:=first|assumption|omega|rfl) only [↓gp,gc,Nat.reduceAdd,hln,hlb,hde]
  refine zwb a b hl (by omega) _ a.length 0 _ _ _ _ _ _ _ _ _ _ _ _ _ _ _ _ _ _ _ _ _ _ _ rfl (Nat.zero_le _) (by simp) ?_ ?_
  ·intro i' g2 g3 g4 g6 g7 g8 g9 gK gF gD gB gC gA gE gL gM gG gJ gN gI gH gO gP hab
   rw [decide_eq_true hab]
   simp (maxSteps:=1000000) (disch:=first|assumption|omega|rfl) only [↓gp,gc,Nat.reduceAdd]
   exact zS rfl rfl rfl
  ·intro T hab hT
   rw [decide_eq_false hab]
   exact zS hT rfl rfl
 ·have hde : ∀ i':Decidable ((a.length:Int) ≠ (b.length:Int)),@decide ((a.length:Int) ≠ (b.length:Int)) i'=true:=fun i'=>decide_eq_true he
  rw [decide_eq_false (fun hh=>he (by rw [hh]))]
  simp (maxSteps:=1000000) (disch:=first|assumption|omega|rfl) only [↓gp,gc,Nat.reduceAdd,hln,hlb,hde]
  exact zS rfl rfl rfl
theorem zsc {C:CS} {no:Int} {a:Int} {b:List UInt8} {needs:List Int} {k:Nat}:(C.put no a b needs).see k=if no=k then layB (C.see k) a.toNat b else C.see k:=z1a
theorem zps {b d:List UInt8} {k k':Nat} (hb:b.length=256) (hd:d.length=32) (hk:k < 8) (hk':k' < 8):wJ (layB b (k' * 32) d) k=if k=k' then d else wJ b k:=by
 have e0:(b.take (k' * 32)).length=k' * 32:=by rw [List.length_take]; omega
 unfold wJ layB
 apply List.ext_getElem?
 intro i
 rw [List.getElem?_take]
 by_cases hi:i < 32
 ·rw [if_pos hi,List.getElem?_drop]
  rcases Nat.lt_trichotomy k k' with h | h | h
  ·rw [if_neg (by omega),List.append_assoc,List.getElem?_append_left (by omega),List.getElem?_take,if_pos (by omega),List.getElem?_take,if_pos hi,List.getElem?_drop]
  ·subst h
   rw [if_pos rfl,List.append_assoc,List.getElem?_append_right (by omega),e0,List.getElem?_append_left (by omega)]
   congr 1
   omega
  ·rw [if_neg (by omega),List.getElem?_append_right (by rw [List.length_append]; omega),List.length_append,e0,List.getElem?_drop,List.getElem?_take,if_pos hi,List.getElem?_drop]
   congr 1
   omega
 ·rw [if_neg hi]
  split
  ·rw [List.getElem?_eq_none (by omega)]
  ·rw [List.getElem?_take,if_neg hi]
structure LaidC (B I M K:Nat) (us:List Nat) (C:CS):Prop where
 img:C.img=(C0 B I M K).img
 last:C.last=us.length
 see : ∀ no k,2 ≤ no→no < B→k < 8→wJ (C.see no) k=if (no - 2) * 8 + k + 1 ∈ us then zw6 else wJ (finB B I M K no) k
theorem zfu {B I M K no:Nat} (h:no < B):(C0 B I M K).see no=finB B I M K no:=by
 show ((C0 B I M K).img.getD no [])=_
 rw [List.getD_eq_getElem?_getD,zpz h]
 rfl
theorem LaidC.zero {B I M K:Nat}:LaidC B I M K [] (C0 B I M K):=⟨rfl,rfl,fun no k h1 h2 h3=>by rw [zfu h2]; simp⟩
theorem LaidC.next {B I M K:Nat} {us:List Nat} {C:CS} (h:LaidC B I M K us C) (hC:C.Ok) {u:Nat} (hu:1 ≤ u) (hB:2 + (u - 1) / 8 < B):LaidC B I M K (us ++ [u]) (C.put ((2 + (u - 1) / 8:Nat):Int) (((u - 1) % 8 * 32:Nat):Int) zw6 []):=by
 refine ⟨h.img,by rw [List.length_append]; show C.last + 1=_; rw [h.last]; rfl,fun no k h1 h2 h3=>?_⟩
 have hl:(C.see no).length=256:=hC.see_len (by rw [h.img,z8u]; exact h2)
 have hk:(u - 1) % 8 < 8:=Nat.mod_lt _ (by decide)
 have ih:=h.see no k h1 h2 h3
 rw [zsc,Int.toNat_natCast]
 by_cases e:((2 + (u - 1) / 8:Nat):Int)=(no:Int)
 ·rw [if_pos e,zps hl rfl h3 hk]
  have e':2 + (u - 1) / 8=no:=by omega
  by_cases e2:k=(u - 1) % 8
  ·have e3:(no - 2) * 8 + k + 1=u:=by omega
   rw [if_pos e2,if_pos (by rw [e3]; simp)]
  ·have e3:(no - 2) * 8 + k + 1 ≠ u:=by omega
   rw [if_neg e2,ih]
   simp [e3]
 ·rw [if_neg e,ih]
  have e3:(no - 2) * 8 + k + 1 ≠ u:=by omega
  simp [e3]
theorem zad {S:zA} {y x c r m mk gm:Nat} {l:Lay} {C:CS} (h1:S[y]? = some (.row [allV x gm] 116)) (h2:S[gm]? = some (.mp [] 0)) (n1:gm ≠ m) (n2:gm ≠ mk) (h3:StoreP S x c r m mk l 0 C (fun _=>none)):AllP S y x c r m mk gm l 0 C (fun _=>none) (fun _=>none) (fun _=>[]) 0 :=
 ⟨h1,h3,MpI.nil h2,fun _=>.inl ⟨rfl,rfl⟩,fun _=>Nat.le_refl _,n1,n2⟩
theorem zun : ∀ k:Fin 7,wJ rootB (k.val + 1)=zK 32:=by decide +kernel
def zkm:Ino:=⟨0,0,0,0,0,0,0,0,0,0,0⟩
theorem zs8 (ino:Nat) (h2:2 ≤ ino) (hi:(ino:Int) ≤ 8) : ∃ bb,Ev cfg 123 [blkD (wJ ((C0 16 8 0 1).see (2 + (ino - 1) / 8)) ((ino - 1) % 8))] (.ret (.tup [.d (wE zkm),.d (.bool bb)])):=by
 have e1:(ino - 1) / 8=0:=by omega
 have e2:(ino - 1) % 8=(ino - 2) + 1:=by omega
 have e3:(C0 16 8 0 1).see 2=rootB:=zfu (by decide)
 rw [e1,e2,e3,zun ⟨ino - 2,by omega⟩]
 exact ⟨true,zhs⟩
def l16:Lay:=⟨16,8,0⟩
theorem zwf:Ev cfg 62 [] (.ret (.d (encLay l16))):=⟨100,by kernel_rfl⟩
theorem zvp:wX Tryz.prog 42 [(0,.d (.int .u8 7))]=some (blkV (7::zK 255)):=by kernel_rfl
theorem zq5:frB (mapB 3) 3 16=[3,4,5,6,7,8,9,10,11,12,13,14,15]:=by decide +kernel
theorem zug:(frB (vW (mapB 3) 3 true) 3 16).length=12:=by decide +kernel
theorem zo5:(frN (fun _=>zkm) 9).length=7:=by decide +kernel
theorem zk0 {ops:Array Oper} {dst:Option Tmp} {k:List Oper} {T:List V} {S:zA} {F:Dfs} {Q:Post} {a b:List Int} (hl:a.length ≤ 1000000):WpR cfg ops dst k T S F Q (some (.enter 39 [.ts (a.map (.int .i64)),.ts (b.map (.int .i64))]))=WpL cfg ops k (putT T dst (.d (.bool (decide (a=b))))) S F Q :=
 kT (ds:=[encI a,encI b]) rfl rfl rfl (ztr a b hl)
theorem zef:Ev cfg 17 [] (.ret (.d (.bool true))):=by
 refine kW rfl rfl zy9 ?_
 show Wp cfg (Tryz.f17.body.getD .skip) (uZ (uZ (uZ (uZ [])))) [] [] _
 unfold uZ
 conv=>arg 2; whnf
 have hm:MayL l16:=by decide
 have hb:InB l16.blocks:=by decide
 have hi:InB l16.inodes:=by decide
 have hlay : ∀ {ops dst k T S F Q},WpR cfg ops dst k T S F Q (some (.enter 62 []))=WpL cfg ops k (putT T dst (.d (encLay l16))) S F Q:=fun {ops dst k T S F Q}=>qI (ds:=[]) rfl zwf
 obtain ⟨o,S1,⟨_,y,x,c,r,m,mk,gm,rfl,h1,h2,h3,h4,h5⟩,hE⟩:=qC (zkp [] l16 16 8 0 1 rfl (by decide) (by decide) (by decide) hm (by decide) (by decide) (by decide))
 have hbeg:=fun {ops dst k T F Q}=>zF (ops:=ops) (dst:=dst) (l:=k) (T:=T) (F:=F) (Q:=Q) rfl hE
 have hA1:=zad h1 h2 h3 h4 h5
 have hD:2 + l16.inodes.tdiv 8=((3:Nat):Int):=by decide
 have hN:l16.blocks=((16:Nat):Int):=by decide
 obtain ⟨o,S2,⟨rfl,hC2,hF2⟩,hE2⟩:=qC (zjz S1 _ y x c r m mk gm l16 0 _ hA1.seen hA1.sp.hB hb hi hm 3 hD 16 hN)
 have hfree:=fun {ops dst k T F Q}=>zF (ops:=ops) (dst:=dst) (l:=k) (T:=T) (F:=F) (Q:=Q) rfl hE2
 have hA2:=hA1.frC hF2 hC2.at rfl
 obtain ⟨o,S3,⟨rfl,hC3,hF3⟩,hE3⟩:=qC (zid S2 _ y x c r m mk gm l16 0 _ hA2.seen hA2.sp.hB hb hi hm (fun _=>zkm) (fun ino g1 g2=>zs8 ino g1 g2) 8 rfl)
 have hinos:=fun {ops dst k T F Q}=>zF (ops:=ops) (dst:=dst) (l:=k) (T:=T) (F:=F) (Q:=Q) rfl hE3
 have hA3:=hA2.frC hF3 hC3.at rfl
 have hs1:(C0 16 8 0 1).see 1=mapB 3:=zfu (by decide)
 have hok:=hA3.sp.ca.ok
 have hfr:frB ((C0 16 8 0 1).see 1) 3 16=3::[4,5,6,7,8,9,10,11,12,13,14,15]:=by rw [hs1]; exact zq5
 have hul:((7:UInt8)::zK 255).length=256:=rfl
 obtain ⟨o,S4,⟨hF4,⟨gf4,hA4⟩,rfl⟩,hE4⟩:=qC (zlf S3 y x c r m mk gm l16 _ _ _ _ 0 hA3 (by decide) hb hi hm 3 hD 16 hN (blkV (7::zK 255)) _ isB_v hul (.ts []) [] (.inr (.inl rfl)) (by decide) (by decide) 3 _ hfr)
 have hlen:3 < (C0 16 8 0 1).img.length:=by rw [z8u]; decide
 have hz:=z83 (C:=C0 16 8 0 1) (no:=3) (bb:=7::zK 255) (gs:=[]) (ids:=[]) hlen hul (by rw [z8r]; intro x hx; cases hx)
 have hsee:=zgi (bb:=7::zK 255) (gs:=[]) (ids:=[]) hok (no:=3) hlen (by rw [z8u]; decide) (by decide) hul (by rw [z8r]; intro x hx; cases hx) (by decide) 1
 rw [if_neg (by decide),if_pos rfl,hs1] at hsee
 rw [hz.1] at hA4
 rw [if_neg (fun h=>h hz.1)] at hE4
 have e1:(((C0 16 8 0 1).last:Nat):Int) + 1=1:=rfl
 have e2:(((C0 16 8 0 1).last:Nat):Int) + 2=2:=rfl
 have e3:((3:Nat):Int)=3:=rfl
 rw [e1,e2,e3] at hE4
 have htake:=fun {ops dst k T F Q}=>zF (ops:=ops) (dst:=dst) (l:=k) (T:=T) (F:=F) (Q:=Q) rfl hE4
 obtain ⟨o,S5,⟨rfl,hC5,hF5⟩,hE5⟩:=qC (zjz S4 _ y x c r m mk gm l16 0 _ hA4.seen hA4.sp.hB hb hi hm 3 hD 16 hN)
 rw [hsee,zug] at hE5
 have hfree2:=fun {ops dst k T F Q}=>zF (ops:=ops) (dst:=dst) (l:=k) (T:=T) (F:=F) (Q:=Q) rfl hE5
 rw [hs1,zq5] at hfree
 rw [zo5] at hinos
 have hints:=fun {ops dst k T S F Q}=>zk0 (ops:=ops) (dst:=dst) (k:=k) (T:=T) (S:=S) (F:=F) (Q:=Q) (a:=[1,2]) (b:=[1,2]) (by decide)
 simp only [List.map_cons,List.map_nil] at hints
 have hl13:(([3,4,5,6,7,8,9,10,11,12,13,14,15]:List Nat).length:Int)=13:=rfl
 have hl7:((7:Nat):Int)=7:=rfl
 have hl12:((12:Nat):Int)=12:=rfl
 rw [hl13] at hfree
 rw [hl7] at hinos
 rw [hl12] at hfree2
 simp (maxSteps:=1000000) (disch:=first|assumption|omega|rfl) only [↓gp,gc,Nat.reduceAdd,↓vbs,↓zdz,hlay,bo62,hbeg,bo18,zej,hfree,bo21,hinos,bo64,zvp,zkb,z7f,htake,bo19,zq6,zwt,hints,bo39,hfree2,zQ]
 exact zS rfl rfl rfl
def zxi (t:List Bool):V:= .agg (t.map fun b=>.d (.bool b))
theorem q1a {T:List V} {S:zA} {dst:Option Tmp} {t:TypeId} {x y:Nat} {ty:TypeId} {pos:String} {after:Array Edge} {g:Option (Nat × Bool)} {v:V} (h:zM Tryz.prog S t (T.getD x .junk) (T.getD y .junk)=some v):opV Tryz.prog S T ⟨dst,.indexAddr t (.tmp x) (.tmp y),ty,pos,after,g⟩=some (.val v S 1):=by
 show (zM Tryz.prog S t (T.getD x .junk) (T.getD y .junk)).map (fun v=>Rs.val v S 1)=_
 rw [h]
 rfl
structure OnceP (S:zA) (y x c r m mk gm ah:Nat) (l:Lay) (C:CS) (mf gf:Int→Option V) (held:List Bool) (D N n:Nat):Prop where
 al:AllP S y x c r m mk gm l 0 C mf gf (fun _=>[]) 0
 h0:S[0]? = some (.row [.d (encLay l)] 32)
 hh:S[ah]? = some (.row [zxi held] 37)
 hl:held.length=60
 las:C.last ≤ 2 * n
 eq : ∀ no (h:no < held.length),held[no]=(decide (D ≤ no∧no < N) && hasB (C.see 1) no)
theorem OnceP.frC {S S':zA} {y x c r m mk gm ah:Nat} {l:Lay} {C:CS} {mf gf:Int→Option V} {held:List Bool} {D N n:Nat} (h:OnceP S y x c r m mk gm ah l C mf gf held D N n) (hF:FrC m r S S') (hc:CacheAt S' c r m C):OnceP S' y x c r m mk gm ah l C mf gf held D N n :=
 ⟨h.al.frC hF hc rfl,hF.row h.h0 rfl,hF.row h.hh rfl,h.hl,h.las,h.eq⟩
theorem OnceP.keep {S S':zA} {y x c r m mk gm ah:Nat} {l:Lay} {C:CS} {mf gf:Int→Option V} {held:List Bool} {D N n:Nat} (h:OnceP S y x c r m mk gm ah l C mf gf held D N n) (hK:Keep S S'):OnceP S' y x c r m mk gm ah l C mf gf held D N n :=
 ⟨h.al.keep hK,hK _ _ h.h0,hK _ _ h.hh,h.hl,h.las,h.eq⟩
theorem z6b {ops:Array Oper} {dst:Option Tmp} {k:List Oper} {T:List V} {S:zA} {F:Dfs} {Q:Post} {x:UInt8}:WpR cfg ops dst k T S F Q (some (.enter 20 [.d (byD x)]))=WpL cfg ops k (putT T dst (.d (blkD (fulL x)))) S F Q:=qI (ds:=[byD x]) rfl (zmf x)
theorem AllP.set1 {S:zA} {y x c r m mk gm:Nat} {l:Lay} {e:Int} {C:CS} {mf gf:Int→Option V} {gl:Int→List Int} {b:Nat} (h:AllP S y x c r m mk gm l e C mf gf gl b) {a:Nat} {xs:List V} {t:TypeId} (ha:S[a]? = some (.row xs t)) (ht:(t != 135 && t != 126 && t != 80 && t != 5 && t != 3)=true) (h1:t ≠ 116) (h2:t ≠ 122) (h3:t ≠ 3) (hr:a ≠ r) {o:Ob}:AllP (S.set a o) y x c r m mk gm l e C mf gf gl b:=by
 have at_ : ∀ {j:Nat} {ys:List V} {u:TypeId},u ≠ t→S[j]? = some (.row ys u)→(S.set a o)[j]? = some (.row ys u):=fun hn hj=>by
  rw [List.getElem?_set_ne (by rintro rfl; have:=getE ha hj; simp at this; exact hn this.2.symm)]; exact hj
 have mp_ : ∀ {k:Nat} {f:Int→Option V},MpI S k f→MpI (S.set a o) k f:=fun hm=>by
  obtain ⟨L,q,e1,e2⟩:=hm
  exact ⟨L,q,by rw [List.getElem?_set_ne (by rintro rfl; cases getE ha e1)]; exact e1,e2⟩
 refine ⟨at_ (Ne.symm h1) h.hy,⟨at_ (Ne.symm h2) h.sp.hx,h.sp.ca.set1 ha ht hr,mp_ h.sp.mp,h.sp.ne,h.sp.hB⟩,mp_ h.gp,fun n=>?_,h.gb,h.n1,h.n2⟩
 rcases h.gv n with ho | ⟨id,p,q⟩
 ·exact .inl ho
 ·exact .inr ⟨id,p,at_ (Ne.symm h3) q⟩
theorem znl {bm:List UInt8} {D N no:Nat} {t:List Nat} (h:frB bm D N=no::t):D ≤ no∧no < N∧hasB bm no=false:=by
 have hmem:no ∈ frB bm D N:=by rw [h]; simp
 unfold frB at hmem
 obtain ⟨h1,h2⟩:=List.mem_filter.1 hmem
 simp only [Bool.and_eq_true,decide_eq_true_eq,Bool.not_eq_true'] at h2
 exact ⟨h2.1,List.mem_range.1 h1,h2.2⟩
theorem zs5 {S:zA} {a b:Int}:zI Tryz.prog S .len [22] [.ts [.int .i64 a,.int .i64 b]]=some (.val (.d (.int .i64 2)) S 0):=by kernel_rfl
theorem zn1 {ops:Array Oper} {base:Nat} {K:Ws→List (Nat × Nat)→List V→zA→Prop} {ws:Ws} {cs:List (Nat × Nat)} {i:Nat} {dst:Option Tmp} {T:List V} {S:zA} {x:UInt8}:WpEw cfg ops base K ws cs i dst T S (some (.enter 20 [.d (byD x)]))=K ((i,T,.d (blkD (fulL x)))::ws) (cs ++ [(i,1)]) (putT T dst (.d (blkD (fulL x)))) S:=z2d (ds:=[byD x]) rfl rfl rfl (zmf x)




theorem zti {bm:List UInt8} {D i:Nat}:frB bm D (i + 1)=frB bm D i ++ if decide (D ≤ i) && !hasB bm i then [i] else []:=by
 unfold frB
 rw [List.range_succ,List.filter_append]
 congr 1
 cases h:(decide (D ≤ i) && !hasB bm i) <;> simp [h]
theorem zl5 {i:Nat}:hasB (zK 256) i=false:=by
 unfold hasB
 have h:(zK 256).getD (i / 8) 0=0:=by
  unfold zK
  rw [List.getD_eq_getElem?_getD,List.getElem?_replicate]
  split <;> rfl
 rw [h]
 simp
theorem zfn {i:Nat} : ∀ {k:Nat},k ≤ 2048→hasB (mapB k) i=decide (i < k)
 | 0,_=>by
  have:mapB 0=zK 256:=rfl
  rw [this,zl5]; simp
 | k + 1,h=>by
  have e:zdh (mapB k) k=vW (mapB k) k true:=rfl
  rw [zk2,e,z7d (z10 k) (by omega),zfn (k:=k) (by omega)]
  by_cases hi:i=k
  ·rw [if_pos hi]; simp; omega
  ·rw [if_neg hi]
   by_cases h2:i < k
   ·rw [decide_eq_true h2,decide_eq_true (by omega)]
   ·rw [decide_eq_false h2,decide_eq_false (by omega)]
theorem z0g {ops:Array Oper} {dst:Option Tmp} {k:List Oper} {T:List V} {S:zA} {F:Dfs} {Q:Post}:WpR cfg ops dst k T S F Q (some (.enter 17 []))=WpL cfg ops k (putT T dst (.d (.bool true))) S F Q:=qI (ds:=[]) rfl zef
theorem zv6 {l:Lay} (hm:MayL l) (h60:l.blocks ≤ 60) (hM:0 ≤ l.merge∧l.merge < 18446744073709551616) : ∃ B I M K:Nat,l=⟨(B:Int),(I:Int),(M:Int)⟩∧2 + l.inodes.tdiv 8=((2 + K:Nat):Int)∧B ≤ 60∧I ≤ 128∧8 ≤ I∧M < 18446744073709551616∧K ≤ 16∧2 + K < B∧2 + I / 8 ≤ B:=by
 obtain ⟨m1,m2,m3,m4,m5,m6⟩:=hm
 have htd:l.inodes.tdiv 8=l.inodes / 8:=Int.tdiv_eq_ediv_of_nonneg (by omega)
 have htm:l.inodes.tmod 8=l.inodes % 8:=Int.tmod_eq_emod_of_nonneg (by omega)
 rw [htd] at m6
 rw [htm] at m5
 refine ⟨l.blocks.toNat,l.inodes.toNat,l.merge.toNat,(l.inodes / 8).toNat,?_,by rw [htd]; omega,by omega,by omega,by omega,by omega,by omega,by omega,by omega⟩
 cases l
 simp only [Lay.mk.injEq]
 simp only at m1 m3 hM
 omega
theorem extZ_ok:z5o cfg:=by
 intro f g h ds o ho
 cases h
theorem catchZ_ok:zbc cfg:=fun f post h=>by cases h
section
variable {C:CS} {no:Nat} {bb:List UInt8} {gs ids:List Int}
theorem zjl:(bitC C no true []).list=C.list ++ [⟨(C.last:Int) + 1,1,((no / 8:Nat):Int),bitP C no true,vA C []⟩]:=rfl
theorem zcj:vA C []=[]:=by unfold vA; simp
theorem zk3 (h : ∀ x ∈ gs,x ≤ (C.last:Int)):wT (bitC C no true []).list gs=wT C.list gs:=by
 rw [zjl,z9u,if_neg,List.append_nil]
 intro hh
 have:=h _ hh
 simp only at this
 omega
end
theorem zgz {ops:Array Oper} {dst:Option Tmp} {k:List Oper} {T:List V} {S:zA} {F:Dfs} {Q:Post}:WpR cfg ops dst k T S F Q (some (.enter 20 [.d (.int .u8 9)]))=WpL cfg ops k (putT T dst (.d (blkD (fulL 9)))) S F Q:=z6b (x:=9)
def zli (C C':CS):Prop:=C'.list=[]∧C'.last=C.last∧C'.img.length=C.img.length ∧ ∀ k < C.img.length,C'.see k=C.see k
theorem zc4 {C C':CS} {ch:Chg} (h:C.list[0]? = some ch) (hf:zb4 C C' ch.no):C'.list.length < C.list.length:=by
 rcases hf with ⟨_,h2⟩ | ⟨k,ids,hk,hkl,hrd,rfl⟩
 ·exact absurd rfl (h2 ch h)
 ·have hm:=List.mem_of_getElem? h
  have hin:=hrd.2.2.2 (List.length_pos_of_mem hm) ch h hk
  show (C.list.filter fun ch=>decide (ch.id ∉ ids)).length < C.list.length
  rcases Nat.lt_or_ge (C.list.filter fun ch=>decide (ch.id ∉ ids)).length C.list.length with hh | hh
  ·exact hh
  ·have hall:=List.filter_eq_self.1 (List.filter_sublist.eq_of_length (Nat.le_antisymm (List.length_filter_le ..) hh)) ch hm
   simp only [decide_eq_true_eq] at hall
   exact absurd hin hall
theorem zvq (c r m:Nat) (id:Int) (R:Post) : ∀ (k:Nat) (S:zA) (C:CS) (g2 g3 g5 g6 g7 g8 g9 gK gF gD gB gC gA gE gL gM gG gJ gN gI gH gO gP gT gQ gU gR gS gV gW gX gY gZ gh:V),C.list.length ≤ k→CacheAt S c r m C→(C.last:Int) ≤ id →
 (∀ S' C' g2 g3 g5 g6 g7 g8 g9 gK gF gD gB gC gA gE gL gM gG gJ gN gI gH gO gP gT gQ gU gR gS gV gW gX gY gZ gh,FrC m r S S'→CacheAt S' c r m C'→zli C C'→R (.exit 0) ((.ref c 0 0)::(.d (.int .i64 id))::g2::g3::(.d (.int .i64 0))::g5::g6::g7::g8::g9::gK::gF::gD::gB::gC::gA::gE::gL::gM::gG::gJ::gN::gI::gH::gO::gP::gT::gQ::gU::gR::gS::gV::gW::gX::gY::gZ::gh::[]) S' []) →
 Wp cfg (.loop (lpOf (Tryz.f99.body.getD .skip) 0)) ((.ref c 0 0)::(.d (.int .i64 id))::g2::g3::(.d (.int .i64 0))::g5::g6::g7::g8::g9::gK::gF::gD::gB::gC::gA::gE::gL::gM::gG::gJ::gN::gI::gH::gO::gP::gT::gQ::gU::gR::gS::gV::gW::gX::gY::gZ::gh::[]) S [] R:=by
 intro k
 induction k with
 | zero =>
  intro S C g2 g3 g5 g6 g7 g8 g9 gK gF gD gB gC gA gE gL gM gG gJ gN gI gH gO gP gT gQ gU gR gS gV gW gX gY gZ gh hk h0 hid hR
  have h00:=h0
  obtain ⟨d,L,es,vs,f,z,w,q,h,hq⟩:=h0
  have hc0:rowE S c 0=some (cacV d m L C.last):=zD (e:=126) h.hc
  have hln:zI Tryz.prog S .len [74] [L]=some (.val (.d (.int .i64 0)) S 0):=by
   rw [kE u119 h.lo,h.lc.1,Nat.le_zero.1 hk]; rfl
  have hL1:=qG h.lo
  rw [zO]
  refine zN ?_
  conv=>arg 2; whnf
  simp (maxSteps:=1000000) (disch:=first|assumption|omega|rfl) only [↓gp,gc,Nat.reduceAdd,z13,hc0,lc2,hln,hL1]
  exact hR _ _ _ _ _ _ _ _ _ _ _ _ _ _ _ _ _ _ _ _ _ _ _ _ _ _ _ _ _ _ _ _ _ _ _ _ Frm.refl h00 ⟨List.length_eq_zero_iff.1 (Nat.le_zero.1 hk),rfl,rfl,fun _ _=>rfl⟩
 | succ k ih =>
  intro S C g2 g3 g5 g6 g7 g8 g9 gK gF gD gB gC gA gE gL gM gG gJ gN gI gH gO gP gT gQ gU gR gS gV gW gX gY gZ gh hk h0 hid hR
  have h00:=h0
  obtain ⟨d,L,es,vs,f,z,w,q,h,hq⟩:=h0
  have hc0:rowE S c 0=some (cacV d m L C.last):=zD (e:=126) h.hc
  have hL1:=qG h.lo
  have hln:zI Tryz.prog S .len [74] [L]=some (.val (.d (.int .i64 (C.list.length:Int))) S 0):=by rw [kE u119 h.lo,h.lc.1]
  rw [zO]
  refine zN ?_
  conv=>arg 2; whnf
  by_cases hz:C.list.length=0
  ·have hgt : ∀ i':Decidable ((C.list.length:Int) > 0),@decide ((C.list.length:Int) > 0) i'=false:=fun i'=>decide_eq_false (by omega)
   simp (maxSteps:=1000000) (disch:=first|assumption|omega|rfl) only [↓gp,gc,Nat.reduceAdd,z13,hc0,lc2,hln,hL1,hgt]
   exact hR _ _ _ _ _ _ _ _ _ _ _ _ _ _ _ _ _ _ _ _ _ _ _ _ _ _ _ _ _ _ _ _ _ _ _ _ Frm.refl h00 ⟨List.length_eq_zero_iff.1 hz,rfl,rfl,fun _ _=>rfl⟩
  ·have hgt : ∀ i':Decidable ((C.list.length:Int) > 0),@decide ((C.list.length:Int) > 0) i'=true:=fun i'=>decide_eq_true (by omega)
   have hl0:0 < C.list.length:=by omega
   have hes:=h.lc.1
   obtain ⟨id',hix,hre,_⟩:=kJ u119 s122 h.lo (i:=0) (by omega)
   have e0:((0:Nat):Int)=0:=rfl
   rw [e0] at hix
   have hch:=List.getElem?_eq_getElem hl0
   obtain ⟨dv,nv,he,hd5,hn3⟩:=h.lc.2 0 (es[0]'(by omega)) C.list[0] (List.getElem?_eq_getElem (by omega)) hch
   rw [he] at hre
   have hle : ∀ i':Decidable (C.list[0].id ≤ id),@decide (C.list[0].id ≤ id) i'=true:=fun i'=>decide_eq_true (by
    have:=(h.ok.chs _ (List.getElem_mem hl0)).2.2.2.2.1
    omega)
   obtain ⟨o,S2,⟨hF2,rfl,C2,hC2,hfl⟩,hE⟩:=qC (zg7 S c r m C h00 C.list[0].no)
   have hE:=fun {ops dst k T F Q}=>zF (ops:=ops) (dst:=dst) (l:=k) (T:=T) (F:=F) (Q:=Q) rfl hE
   have hlt:=zc4 hch hfl
   obtain ⟨s1,s2,s3⟩:=z8f h.ok hfl
   simp (maxSteps:=1000000) (disch:=first|assumption|omega|rfl) only [↓gp,gc,Nat.reduceAdd,z13,hc0,lc2,hln,hL1,hgt,hix,z0d,z0b,hre,z08,z0a,hle,hE,bo26]
   refine ih S2 C2 _ _ _ _ _ _ _ _ _ _ _ _ _ _ _ _ _ _ _ _ _ _ _ _ _ _ _ _ _ _ _ _ _ _ (by omega) hC2 (by rw [s2]; exact hid) ?_
   intro S' C' g2 g3 g5 g6 g7 g8 g9 gK gF gD gB gC gA gE gL gM gG gJ gN gI gH gO gP gT gQ gU gR gS gV gW gX gY gZ gh hF hC hsy
   exact hR _ _ _ _ _ _ _ _ _ _ _ _ _ _ _ _ _ _ _ _ _ _ _ _ _ _ _ _ _ _ _ _ _ _ _ _ (hF2.trans hF) hC ⟨hsy.1,hsy.2.1.trans s2,hsy.2.2.1.trans s1,fun j hj=>(hsy.2.2.2 j (by omega)).trans (s3 j hj)⟩
theorem zsb (S:zA) (c r m:Nat) (C:CS) (h0:CacheAt S c r m C):EvS cfg 52 [.ref c 0 0] S (fun o S'=>FrC m r S S'∧o = .ret (.d (.int .i64 0)) ∧ ∃ C',CacheAt S' c r m C'∧zli C C'):=by
 have hup:EvS cfg 99 [.ref c 0 0,.d (.int .i64 (C.last:Int))] S (fun o S'=>FrC m r S S'∧o = .ret (.d (.int .i64 0)) ∧ ∃ C',CacheAt S' c r m C'∧zli C C'):=by
  refine qE rfl zxf ?_
  show Wp cfg (Tryz.f99.body.getD .skip) ((.ref c 0 0)::(.d (.int .i64 (C.last:Int)))::uZ (uZ (uZ ((.tup [])::(.tup [])::(.tup [])::(.tup [])::(.tup [])::[])))) S [] _
  unfold uZ
  conv=>arg 2; whnf
  rw [zO]
  simp (maxSteps:=1000000) (disch:=first|assumption|omega|rfl) only [↓gp,gc,Nat.reduceAdd,z45]
  refine zvq c r m (C.last:Int) _ C.list.length S C _ _ _ _ _ _ _ _ _ _ _ _ _ _ _ _ _ _ _ _ _ _ _ _ _ _ _ _ _ _ _ _ _ _ (Nat.le_refl _) h0 (Int.le_refl _) ?_
  intro S' C' g2 g3 g5 g6 g7 g8 g9 gK gF gD gB gC gA gE gL gM gG gJ gN gI gH gO gP gT gQ gU gR gS gV gW gX gY gZ gh hF hC hsy
  simp (maxSteps:=1000000) (disch:=first|assumption|omega|rfl) only [↓gp,gc,Nat.reduceAdd]
  exact ⟨rfl,_,rfl,hF,rfl,C',hC,hsy⟩
 have hla:EvS cfg 35 [.ref c 0 0] S (fun o S'=>S'=S∧o = .ret (.d (.int .i64 (C.last:Int)))):=by
  obtain ⟨d,L,es,vs,f,z,w,q,h,hq⟩:=h0
  refine qE rfl zze ?_
  show Wp cfg (Tryz.f35.body.getD .skip) ((.ref c 0 0)::(.tup [])::(.tup [])::(.tup [])::(.tup [])::(.tup [])::(.tup [])::(.tup [])::(.tup [])::[]) S [] _
  conv=>arg 2; whnf
  rw [zO]
  have hc0:rowE S c 0=some (cacV d m L C.last):=zD (e:=126) h.hc
  simp (maxSteps:=1000000) (disch:=first|assumption|omega|rfl) only [↓gp,gc,Nat.reduceAdd,z45,vI,hc0,lc3]
  exact ⟨rfl,_,rfl,rfl,rfl⟩
 obtain ⟨o1,S1,⟨rfl,rfl⟩,hE1⟩:=qC hla
 have hE1:=fun {ops dst k T F Q}=>zF (ops:=ops) (dst:=dst) (l:=k) (T:=T) (F:=F) (Q:=Q) rfl hE1
 obtain ⟨o,S2,⟨hF2,rfl,C2,hC2,hsy⟩,hE⟩:=qC hup
 have hE:=fun {ops dst k T F Q}=>zF (ops:=ops) (dst:=dst) (l:=k) (T:=T) (F:=F) (Q:=Q) rfl hE
 refine qE rfl zzx ?_
 show Wp cfg (Tryz.f52.body.getD .skip) ((.ref c 0 0)::(.tup [])::(.tup [])::(.tup [])::(.tup [])::(.tup [])::(.tup [])::[]) S1 [] _
 conv=>arg 2; whnf
 rw [zO]
 simp (maxSteps:=1000000) (disch:=first|assumption|omega|rfl) only [↓gp,gc,Nat.reduceAdd,hE1,bo35,hE,bo99]
 exact ⟨rfl,_,rfl,hF2,rfl,C2,hC2,hsy⟩
theorem bsI1 {S:zA} {a:Int}:bs1 Tryz.prog S 22 (.d (.int .i64 a))=some (.val (.ts [.int .i64 a]) S 0):=by kernel_rfl
theorem bsG {S:zA}:bs1 Tryz.prog S 76 (.d (.int .u8 1))=some (.val (.ts [.int .u8 1]) S 0):=by kernel_rfl
theorem zjf {C:CS} {no a:Int} {b:List UInt8} {ids:List Int} (h:putE C no a b (noZ ids)=0):spE 0 C no a b ids=0∧spC 0 C no a b ids=C.put no a b (vA C (noZ ids))∧spI 0 C no a b ids=(C.last:Int) + 1:=by
 unfold spE spC spI
 simp [h]
theorem z81 {b:List UInt8} {no:Int} : ∀ {l:List Chg},(∀ ch ∈ l,ch.no ≠ no)→seeL b l no=b
 | [],_=>rfl
 | ch::r,h=>by
  rw [z0r,if_neg (h ch List.mem_cons_self)]
  exact z81 fun c hc=>h c (List.mem_cons_of_mem _ hc)
def fCh (n6 n3:Int) (no:Nat):Chg:=⟨n6,(no:Int),0,fulL 9,[n3]⟩
def gCh (n3:Int) (p:Nat):Chg:=⟨n3,(p:Int),0,[1],[]⟩
def eCh (n2:Int) (p:Nat):Chg:=⟨n2,(p:Int),0,fulL 8,[]⟩
structure OrdP (B no p:Nat) (n2 n3 n6:Int) (C:CS):Prop where
 len:C.img.length=B
 fo : ∀ ch ∈ C.list,ch.no=(no:Int)→ch=fCh n6 n3 no
 po : ∀ ch ∈ C.list,ch.no=(p:Int)→ch=eCh n2 p ∨ ch=gCh n3 p
 g1:(fCh n6 n3 no ∈ C.list∧C.img[no]? = some (fulL 7)) ∨ gCh n3 p ∉ C.list
 g2:gCh n3 p ∈ C.list ∨ ((∀ ch ∈ C.list,ch.no ≠ (p:Int)) ∧ ∃ b,C.img[p]? = some b∧b[0]? = some 1)
section
variable {B no p:Nat} {n2 n3 n6:Int} {C C':CS}
theorem OrdP.law (h:OrdP B no p n2 n3 n6 C) (h9:C.img[no]? = some (fulL 9)) : ∃ b,C.img[p]? = some b∧b[0]? = some 1:=by
 rcases h.g1 with ⟨_,h1⟩ | h1
 ·rw [h9] at h1
  exact absurd h1 (by decide)
 ·rcases h.g2 with h2 | h2
  ·exact absurd h2 h1
  ·exact h2.2
theorem OrdP.flush (h:OrdP B no p n2 n3 n6 C) (hC:C.Ok) (hno:no < B) (hp:p < B) (hne:no ≠ p) (hlt:n2 < n3) {x:Int} (hf:zb4 C C' x):OrdP B no p n2 n3 n6 C':=by
 rcases hf with ⟨rfl,_⟩ | ⟨k,ids,rfl,hkl,hrd,rfl⟩
 ·exact h
 have own : ∀ ch ∈ C.list,ch.id ∈ ids→ch.no=(k:Int):=fun ch hch hid=>by
  obtain ⟨c2,h1,h2,h3⟩:=hrd.1 _ hid
  obtain ⟨i,hi⟩:=List.mem_iff_getElem?.1 hch
  obtain ⟨j,hj⟩:=List.mem_iff_getElem?.1 (List.mem_of_mem_take h1)
  have:=zbm hC.ids hi hj h2.symm
  subst this
  rw [hi] at hj
  cases hj
  exact h3
 have mem' : ∀ ch,ch ∈ (C.flush k ids).list ↔ ch ∈ C.list∧ch.id ∉ ids:=fun ch=>by
  show ch ∈ C.list.filter (fun ch=>decide (ch.id ∉ ids)) ↔ _
  rw [List.mem_filter,decide_eq_true_eq]
 have img' : ∀ j,j ≠ k→(C.flush k ids).img[j]? = C.img[j]? := fun j hj=>List.getElem?_set_ne (Ne.symm hj)
 have imgk:(C.flush k ids).img[k]? = some (rolL (C.img.getD k []) C.list (k:Int) ids):=List.getElem?_set_self hkl
 have none' : ∀ {b:List UInt8},C.img[k]? = some b→(∀ ch ∈ C.list,ch.no=(k:Int)→ch.id ∉ ids)→(C.flush k ids).img[k]? = some b:=fun {b} hb hn=>by
  rw [imgk]
  have e:C.img.getD k []=b:=by rw [List.getD_eq_getElem?_getD,hb]; rfl
  rw [e]
  unfold rolL
  rw [z81]
  intro ch hch e2
  obtain ⟨h1,h2⟩:=List.mem_filter.1 hch
  simp only [decide_eq_true_eq] at h2
  exact hn ch h1 e2 h2
 refine ⟨?_,fun ch hch=>h.fo ch ((mem' ch).1 hch).1,fun ch hch=>h.po ch ((mem' ch).1 hch).1,?_,?_⟩
 ·show (C.img.set _ _).length=_
  rw [List.length_set]
  exact h.len
 ·rcases h.g1 with ⟨hf1,hf2⟩ | hg
  ·by_cases hin:n6 ∈ ids
   ·refine .inr fun hg'=>?_
    obtain ⟨hg,hgn⟩:=(mem' _).1 hg'
    obtain ⟨j,hj⟩:=List.mem_iff_getElem?.1 hf1
    exact hgn (hrd.2.2.1 j _ hj hin n3 (List.mem_singleton.2 rfl) ⟨_,hg,rfl⟩)
   ·refine .inl ⟨(mem' _).2 ⟨hf1,hin⟩,?_⟩
    by_cases hk:no=k
    ·subst hk
     refine none' hf2 fun ch hch e=>?_
     rw [h.fo ch hch e]
     exact hin
    ·rw [img' no hk]
     exact hf2
  ·exact .inr fun hg'=>hg ((mem' _).1 hg').1
 ·rcases h.g2 with hg | ⟨hnp,b,hb1,hb2⟩
  ·by_cases hin:n3 ∈ ids
   ·have hk:(p:Int)=(k:Int):=own _ hg hin
    have hk:p=k:=by omega
    subst hk
    obtain ⟨j,hj⟩:=List.mem_iff_getElem?.1 hg
    obtain ⟨j1,j2⟩:=List.getElem?_eq_some_iff.1 hj
    have hpw:=List.pairwise_iff_getElem.1 hC.ids
    refine .inr ⟨fun ch hch hcp=>?_,rolL (C.img.getD p []) C.list (p:Int) ids,imgk,?_⟩
    ·obtain ⟨h1,h2⟩:=(mem' ch).1 hch
     rcases h.po ch h1 hcp with rfl | rfl
     ·obtain ⟨i,hi⟩:=List.mem_iff_getElem?.1 h1
      obtain ⟨i1,i2⟩:=List.getElem?_eq_some_iff.1 hi
      have hij:i < j:=by
       rcases Nat.lt_trichotomy i j with hh | hh | hh
       ·exact hh
       ·subst hh
        rw [i2] at j2
        have:n2=n3:=congrArg Chg.id j2
        omega
       ·have:=hpw j i j1 i1 hh
        rw [i2,j2] at this
        have:n3 < n2:=this
        omega
      refine h2 (hrd.2.1 j _ hj hin _ ?_ rfl ?_)
      ·rw [List.mem_iff_getElem?]
       exact ⟨i,by rw [List.getElem?_take_of_lt hij]; exact hi⟩
      ·unfold z3f
       constructor
       ·show (0:Int) < 0 + (([1]:List UInt8).length:Nat)
        decide
       ·show (0:Int) < 0 + ((fulL 8).length:Nat)
        rw [vR]
        decide
     ·exact h2 hin
    ·have hsplit:C.list=C.list.take j ++ gCh n3 p::C.list.drop (j + 1):=by
      rw [← j2,← List.drop_eq_getElem_cons j1,List.take_append_drop]
     have hlater : ∀ ch ∈ C.list.drop (j + 1),ch.no ≠ (p:Int):=fun ch hch e=>by
      obtain ⟨i,hi⟩:=List.mem_iff_getElem?.1 hch
      rw [List.getElem?_drop] at hi
      obtain ⟨i1,i2⟩:=List.getElem?_eq_some_iff.1 hi
      have:=hpw j (j + 1 + i) j1 i1 (by omega)
      rw [i2,j2] at this
      have h3:n3 < ch.id:=this
      rcases h.po ch (List.mem_of_mem_drop hch) e with rfl | rfl
      ·have h4:n3 < n2:=h3
       omega
      ·have h4:n3 < n3:=h3
       omega
     have hbl:(C.img.getD p []).length=256:=hC.img_len hkl
     have hl1:=z0u (no:=(p:Int)) (ids:=ids) hbl (l:=C.list.take j) fun ch hch=>(hC.chs ch (List.mem_of_mem_take hch)).1
     have e:rolL (C.img.getD p []) C.list (p:Int) ids=layB (rolL (C.img.getD p []) (C.list.take j) (p:Int) ids) 0 [1]:=by
      conv=>lhs; rw [hsplit]
      unfold rolL
      rw [List.filter_append,zov,List.filter_cons]
      have hg1:decide ((gCh n3 p).id ∈ ids)=true:=decide_eq_true hin
      rw [hg1,if_pos rfl,z0r,z81 fun ch hch=>hlater ch (List.mem_filter.1 hch).1]
      exact if_pos rfl
     rw [e,z8x (by rw [hl1]; decide)]
     rfl
   ·exact .inl ((mem' _).2 ⟨hg,hin⟩)
  ·refine .inr ⟨fun ch hch=>hnp ch ((mem' ch).1 hch).1,b,?_,hb2⟩
   by_cases hk:p=k
   ·subst hk
    exact none' hb1 fun ch hch e=>absurd e (hnp ch hch)
   ·rw [img' p hk]
    exact hb1
end
theorem za8 {ops:Array Oper} {dst:Option Tmp} {k:List Oper} {T:List V} {S:zA} {F:Dfs} {Q:Post}:WpR cfg ops dst k T S F Q (some (.enter 20 [.d (.int .u8 7)]))=WpL cfg ops k (putT T dst (.d (blkD (fulL 7)))) S F Q:=z6b (x:=7)
theorem z9p {ops:Array Oper} {dst:Option Tmp} {k:List Oper} {T:List V} {S:zA} {F:Dfs} {Q:Post}:WpR cfg ops dst k T S F Q (some (.enter 20 [.d (.int .u8 8)]))=WpL cfg ops k (putT T dst (.d (blkD (fulL 8)))) S F Q:=z6b (x:=8)
theorem zsf {n:Int}:wU (.d (.ptr (.int .i64 n))) (.d (.ptr (.int .i64 n)))=true:=by simp [wU,qR,qP,z1j,jE]
theorem zsh (picks:List Int) (hpl:picks.length ≤ 16) (x c r m mk:Nat) (l:Lay) (B no p:Nat) (n2 n3 n6:Int) (hBl:l.blocks=B) (hno:no < B) (hp:p < B) (hne:no ≠ p) (hlt23:n2 < n3) (hB5:B ≤ 512) (mf:Int→Option V) (R:Post) :
 ∀ (k i:Nat) (S:zA) (C:CS) (g0 g3 g4 g7 g9 gF gD gB gC gE gL gM gG gJ gN gI gH gO gP gT gQ gU gR gS gV gW gX gY gZ gh gj gk gn gr gz hH hU hY hZ xA xB xC xD xE xF xG xH xI xJ xK xL xM xN xO xP xQ xR xS xT xU xV xW xX xY xZ g72 g73 g74 g75 g76 g77 g78 g79 g80 g81 g82 g83 g84 g85 g86 g87 g88 g89 g90 g91 g92 g93 g94 g95 g96 g97 g98 g99 g100 g101 g102 g103 g104 g105 g106 g107 g108 g109 g110 g111 g112 g113 g114 g115:V),picks.length - i=k→i ≤ picks.length→StoreP S x c r m mk l 0 C mf→S[0]? = some (.row [.d (encLay l)] 32)→OrdP B no p n2 n3 n6 C →
 (∀ S i' g0 g3 g4 g7 g9 gF gD gB gC gE gL gM gG gJ gN gI gH gO gP gT gQ gU gR gS gV gW gX gY gZ gh gj gk gn gr gz hH hU hY hZ xA xB xC xD xE xF xG xH xI xJ xK xL xM xN xO xP xQ xR xS xT xU xV xW xX xY xZ g72 g73 g74 g75 g76 g77 g78 g79 g80 g81 g82 g83 g84 g85 g86 g87 g88 g89 g90 g91 g92 g93 g94 g95 g96 g97 g98 g99 g100 g101 g102 g103 g104 g105 g106 g107 g108 g109 g110 g111 g112 g113 g114 g115,R (.exit 0) (g0::(.d (encI picks))::(.ref 0 0 0)::g3::g4::(.ref (r + 1) 0 0)::(.ref x 0 0)::g7::(.d (.int .i64 (no:Int)))::g9::(.d (.int .i64 (p:Int)))::gF::gD::gB::gC::i'::gE::gL::gM::gG::gJ::gN::gI::gH::gO::gP::gT::gQ::gU::gR::gS::gV::gW::gX::gY::gZ::gh::gj::gk::gn::gr::gz::hH::hU::hY::hZ::xA::xB::xC::xD::xE::xF::xG::xH::xI::xJ::xK::xL::xM::xN::xO::xP::xQ::xR::xS::xT::xU::xV::xW::xX::xY::xZ::g72::g73::g74::g75::g76::g77::g78::g79::g80::g81::g82::g83::g84::g85::g86::g87::g88::g89::g90::g91::g92::g93::g94::g95::g96::g97::g98::g99::g100::g101::g102::g103::g104::g105::g106::g107::g108::g109::g110::g111::g112::g113::g114::g115::[]) S []) →
 Wp cfg (.loop (lpOf (Tryz.f8.body.getD .skip) 0)) (g0::(.d (encI picks))::(.ref 0 0 0)::g3::g4::(.ref (r + 1) 0 0)::(.ref x 0 0)::g7::(.d (.int .i64 (no:Int)))::g9::(.d (.int .i64 (p:Int)))::gF::gD::gB::gC::(.d (.int .i64 (i:Int)))::gE::gL::gM::gG::gJ::gN::gI::gH::gO::gP::gT::gQ::gU::gR::gS::gV::gW::gX::gY::gZ::gh::gj::gk::gn::gr::gz::hH::hU::hY::hZ::xA::xB::xC::xD::xE::xF::xG::xH::xI::xJ::xK::xL::xM::xN::xO::xP::xQ::xR::xS::xT::xU::xV::xW::xX::xY::xZ::g72::g73::g74::g75::g76::g77::g78::g79::g80::g81::g82::g83::g84::g85::g86::g87::g88::g89::g90::g91::g92::g93::g94::g95::g96::g97::g98::g99::g100::g101::g102::g103::g104::g105::g106::g107::g108::g109::g110::g111::g112::g113::g114::g115::[]) S [] R:=by
 intro k
 have hln:=fun S=>lnI (S:=S) (l:=picks)
 induction k with
 | zero =>
  intro i S C g0 g3 g4 g7 g9 gF gD gB gC gE gL gM gG gJ gN gI gH gO gP gT gQ gU gR gS gV gW gX gY gZ gh gj gk gn gr gz hH hU hY hZ xA xB xC xD xE xF xG xH xI xJ xK xL xM xN xO xP xQ xR xS xT xU xV xW xX xY xZ g72 g73 g74 g75 g76 g77 g78 g79 g80 g81 g82 g83 g84 g85 g86 g87 g88 g89 g90 g91 g92 g93 g94 g95 g96 g97 g98 g99 g100 g101 g102 g103 g104 g105 g106 g107 g108 g109 g110 g111 g112 g113 g114 g115 hk hi h h0 ho hR
  have hie:i=picks.length:=by omega
  subst hie
  rw [zO]
  refine zN ?_
  conv=>arg 2; whnf
  simp (maxSteps:=1000000) (disch:=first|assumption|omega|rfl) only [↓gp,gc,Nat.reduceAdd,hln]
  exact hR _ _ _ _ _ _ _ _ _ _ _ _ _ _ _ _ _ _ _ _ _ _ _ _ _ _ _ _ _ _ _ _ _ _ _ _ _ _ _ _ _ _ _ _ _ _ _ _ _ _ _ _ _ _ _ _ _ _ _ _ _ _ _ _ _ _ _ _ _ _ _ _ _ _ _ _ _ _ _ _ _ _ _ _ _ _ _ _ _ _ _ _ _ _ _ _ _ _ _ _ _ _ _ _ _ _ _ _ _ _ _
 | succ k ih =>
  intro i S C g0 g3 g4 g7 g9 gF gD gB gC gE gL gM gG gJ gN gI gH gO gP gT gQ gU gR gS gV gW gX gY gZ gh gj gk gn gr gz hH hU hY hZ xA xB xC xD xE xF xG xH xI xJ xK xL xM xN xO xP xQ xR xS xT xU xV xW xX xY xZ g72 g73 g74 g75 g76 g77 g78 g79 g80 g81 g82 g83 g84 g85 g86 g87 g88 g89 g90 g91 g92 g93 g94 g95 g96 g97 g98 g99 g100 g101 g102 g103 g104 g105 g106 g107 g108 g109 g110 g111 g112 g113 g114 g115 hk hi h h0 ho hR
  have hlt:i < picks.length:=by omega
  have h3:IntKind.i64.wrap ((i:Int) + 1)=((i + 1:Nat):Int):=by rw [wrap64 (by omega)]; omega
  have hix:=fun S=>ixI (S:=S) hlt
  have hlp:kN Tryz.prog S 3 (.d (.ptr (.int .i64 picks[i])))=some (.d (.int .i64 picks[i])):=ldI3
  have hch:=fun {ops base K ws cs i dst T}=>jQ (ops:=ops) (base:=base) (K:=K) (ws:=ws) (cs:=cs) (i:=i) (dst:=dst) (T:=T) rfl (z73 S x c mk l.blocks l.inodes l.merge 0 h.hx)
  obtain ⟨o,S2,⟨hF2,rfl,C',hC',hfs⟩,hE2⟩:=qC (zg7 S c r m C h.ca picks[i])
  have hfl:=fun {ops base K ws cs i dst T}=>jQ (ops:=ops) (base:=base) (K:=K) (ws:=ws) (cs:=cs) (i:=i) (dst:=dst) (T:=T) rfl hE2
  obtain ⟨f1,f2,f3⟩:=z8f h.ca.ok hfs
  have h2:=h.step hF2 hC' f1
  have ho2:=ho.flush h.ca.ok hno hp hne hlt23 hfs
  have h02:S2[0]? = some (.row [.d (encLay l)] 32):=hF2.row h0 rfl
  obtain ⟨d,L,es,vs,f,z,w,q,hcp,hq⟩:=hC'
  have hdr:=hcp.dr
  subst hdr
  have hil:vs.length=B:=by rw [hcp.il]; exact ho2.len
  have hbs : ∀ j,(hj:j < B) → ∃ (v:V) (b:List UInt8) (hv:j < vs.length),vs[j]=v∧C'.img[j]? = some b∧IsB v b∧b.length=256:=fun j hj=>hcp.imv (by rw [ho2.len]; exact hj)
  have hfit : ∀ v ∈ vs,qA Tryz.prog 42 v=true:=fun v hv=>by
   obtain ⟨j,hj,rfl⟩:=List.mem_iff_getElem.1 hv
   obtain ⟨v,b,hv,e,_,hb,hl⟩:=hbs j (by omega)
   subst e
   exact bt42.fits hb hl
  obtain ⟨o,S3,⟨hS3,rfl⟩,hE3⟩:=qC (zn6 S2 (r + 1) r vs z w q false false hcp.dk (fun e=>by rw [e] at hil; simp at hil; omega) (by omega) hfit)
  have him:=fun {ops dst k T F Q}=>zF (ops:=ops) (dst:=dst) (l:=k) (T:=T) (F:=F) (Q:=Q) rfl hE3
  have hK3:Keep S2 S3:=hS3 ▸ Keep.refl.app
  have hrow:S3[S2.length]? = some (.row vs 42):=by rw [hS3,List.getElem?_append_right (Nat.le_refl _),Nat.sub_self]; rfl
  have hown:OwnS S3 (.rs S2.length 0 vs.length) 42 vs:= .inr ⟨_,rfl,hrow⟩
  have hlnI:zI Tryz.prog S3 .len [63] [.rs S2.length 0 vs.length]=some (.val (.d (.int .i64 l.blocks)) S3 0):=by
   rw [kE Tryz.underlying63 hown,hil,hBl]
  obtain ⟨v1,b1,hv1,e1,hb1,hvb1,hl1⟩:=hbs no hno
  obtain ⟨v2,b2,hv2,e2,hb2,hvb2,hl2⟩:=hbs p hp
  obtain ⟨ia,hia,hra,_⟩:=kJ Tryz.underlying63 s42z hown (i:=no) hv1
  obtain ⟨ib,hib,hrb,_⟩:=kJ Tryz.underlying63 s42z hown (i:=p) hv2
  rw [e1] at hra
  rw [e2] at hrb
  have hld1:=bt42.load hvb1 hl1
  have hqe:=(neB 42 256 bt42 (by kernel_rfl) (by kernel_rfl) (by kernel_rfl) (by kernel_rfl) hvb1 (wA (b:=fulL 9)) hl1 vR).2
  have h03:=hK3 _ _ h02
  have hr03:=zD (e:=32) h03
  have hfull : ∀ {ops base K ws cs i dst T S},WpEw cfg ops base K ws cs i dst T S (some (.enter 20 [.d (.int .u8 9)]))=K ((i,T,.d (blkD (fulL 9)))::ws) (cs ++ [(i,1)]) (putT T dst (.d (blkD (fulL 9)))) S:=fun {ops base K ws cs i dst T S}=>zn1 (ops:=ops) (base:=base) (K:=K) (ws:=ws) (cs:=cs) (i:=i) (dst:=dst) (T:=T) (S:=S) (x:=9)
  have hv11:=hvb1.one
  rw [zO]
  refine zN ?_
  conv=>arg 2; whnf
  simp (maxSteps:=1000000) (disch:=first|assumption|omega|rfl) only [↓gp,gc,Nat.reduceAdd,hln]
  refine qT (is:=[0,2,3,4,5,1,6]) (h:=0) (by kernel_rfl) (by kernel_rfl) ?_
  simp (maxSteps:=1000000) (disch:=first|assumption|omega|rfl) only [List.replicate_zero,eq_self,gw,ga,Nat.reduceAdd,↓gq,vso,List.append_nil,hix,hlp,hch,bo25,hfl,bo26]
  refine ⟨qK rfl (by kernel_rfl) rfl (z02 hlp) z5y (qK rfl (by kernel_rfl) rfl (q1a (hix S)) zsf qB),zP (by kernel_rfl) (zP (by kernel_rfl) qB),by kernel_rfl,?_⟩
  have hi0 : ∀ S,zM Tryz.prog S 42 (.ref ib p 0) (.d (.int .i64 0))=some (.ref ib p 0):=fun S=>ia42 (i:=0) (by decide)
  have hc0 : ∃ b':Bool,binV Tryz.prog .eql 42 v1 (.d (blkD (fulL 9)))=some (.d (.bool b'))∧(b'=true→qZ Tryz.prog 5 0 (some v2)=some (.d (.int .u8 1))):=by
   refine ⟨_,hqe,fun hb9=>?_⟩
   have hb9:=of_decide_eq_true hb9
   subst hb9
   obtain ⟨b,hb,hb0⟩:=ho2.law hb1
   rw [hb2] at hb
   cases hb
   obtain ⟨h5,h6⟩:=List.getElem?_eq_some_iff.1 hb0
   have hg0:=bt42.get hvb2 hl2 h5
   rw [h6] at hg0
   exact hg0
  obtain ⟨b',hq1,hq2⟩:=hc0
  simp (maxSteps:=1000000) (disch:=first|assumption|omega|rfl) only [↓gp,gc,Nat.reduceAdd,him,bo54]
  refine qT (is:=[0,1,2,3,4,5,6,7,8,9,10,11,12,13,14,15,16,17,18,19,20]) (h:=0) (by kernel_rfl) (by kernel_rfl) ?_
  cases b' with
  | false =>
   simp (maxSteps:=1000000) (disch:=first|assumption|omega|rfl) only [List.replicate_zero,eq_self,gw,ga,Nat.reduceAdd,↓gq,vso,List.append_nil,hlnI,z0y,hr03,z3m,zQ,hia,hra,hld1,hv11,hfull,bo20,hq1]
   refine ⟨by kernel_rfl,?_⟩
   simp (maxSteps:=1000000) (disch:=first|assumption|omega|rfl) only [↓gp,gc,Nat.reduceAdd,h3]
   exact ih (i + 1) S3 C' _ _ _ _ _ _ _ _ _ _ _ _ _ _ _ _ _ _ _ _ _ _ _ _ _ _ _ _ _ _ _ _ _ _ _ _ _ _ _ _ _ _ _ _ _ _ _ _ _ _ _ _ _ _ _ _ _ _ _ _ _ _ _ _ _ _ _ _ _ _ _ _ _ _ _ _ _ _ _ _ _ _ _ _ _ _ _ _ _ _ _ _ _ _ _ _ _ _ _ _ _ _ _ _ _ _ _ _ _ (by omega) (by omega) (h2.keep hK3) h03 ho2 hR
  | true =>
   have hg0:=hq2 rfl
   simp (maxSteps:=1000000) (disch:=first|assumption|omega|rfl) only [List.replicate_zero,eq_self,gw,ga,Nat.reduceAdd,↓gq,vso,List.append_nil,hlnI,z0y,hr03,z3m,zQ,hia,hra,hld1,hv11,hfull,bo20,hq1,hib,hi0,hrb,hg0]
   refine ⟨by kernel_rfl,?_⟩
   simp (maxSteps:=1000000) (disch:=first|assumption|omega|rfl) only [↓gp,gc,Nat.reduceAdd,h3]
   exact ih (i + 1) S3 C' _ _ _ _ _ _ _ _ _ _ _ _ _ _ _ _ _ _ _ _ _ _ _ _ _ _ _ _ _ _ _ _ _ _ _ _ _ _ _ _ _ _ _ _ _ _ _ _ _ _ _ _ _ _ _ _ _ _ _ _ _ _ _ _ _ _ _ _ _ _ _ _ _ _ _ _ _ _ _ _ _ _ _ _ _ _ _ _ _ _ _ _ _ _ _ _ _ _ _ _ _ _ _ _ _ _ _ _ _ (by omega) (by omega) (h2.keep hK3) h03 ho2 hR
theorem zbt {bm:List UInt8} {D N:Nat} (hD:D < N) (h:hasB bm D=false) : ∃ t,frB bm D N=D::t:=by
 obtain ⟨t,ht⟩:=zf2 (bm:=bm) (D:=D) (k:=N - (D + 1)) (i:=D + 1) (by omega)
 rw [show D + 1 + (N - (D + 1))=N by omega,zti,zu2,h,decide_eq_true (Nat.le_refl _)] at ht
 exact ⟨t,ht⟩
theorem z5n {n:Int} : ∀ {l:List Int},l.Pairwise (· < ·)→n ∈ l→(l.filter fun x=>decide (x ∈ [n]))=[n]
 | x::r,hp,hm=>by
  obtain ⟨h1,h2⟩:=List.pairwise_cons.1 hp
  rw [List.filter_cons]
  by_cases e:x=n
  ·subst e
   rw [if_pos (by simp)]
   congr 1
   rw [List.filter_eq_nil_iff]
   intro y hy
   have:=h1 y hy
   simp only [List.mem_singleton,decide_eq_true_eq]
   omega
  ·rw [if_neg (by simpa using e)]
   rcases List.mem_cons.1 hm with h | h
   ·exact absurd h.symm e
   ·exact z5n h2 h
theorem zi9 {C:CS} (hC:C.Ok) {n:Int} (h:n ∈ C.list.map Chg.id):vA C [n]=[n]:=z5n (List.pairwise_map.2 hC.ids) h
theorem zhn {C:CS} (hC:C.Ok) {n:Int} (h:n ∈ C.list.map Chg.id):wT C.list [n]=[n]:=by
 have:=zi9 hC h
 unfold vA at this
 rw [List.filter_map] at this
 exact this
theorem zi4 {C:CS} (hC:C.Ok) {n:Int} {no:Nat} {on:Bool} (h:n ∈ C.list.map Chg.id):vA (bitC C no on []) [n]=[n]:=by
 show ((C.list ++ [Chg.mk ((C.last:Int) + 1) 1 ((no / 8:Nat):Int) (bitP C no on) (vA C (noZ []))]).map Chg.id).filter (fun x=>decide (x ∈ [n]))=_
 have hle:n ≤ C.last:=by
  obtain ⟨ch,hch,rfl⟩:=List.mem_map.1 h
  exact (hC.chs ch hch).2.2.2.2.1
 have hn : ¬ (C.last:Int) + 1 ∈ [n]:=by
  simp only [List.mem_singleton]
  omega
 rw [List.map_append,List.filter_append,z5n (List.pairwise_map.2 hC.ids) h]
 show [n] ++ List.filter (fun x=>decide (x ∈ [n])) [(C.last:Int) + 1]=[n]
 rw [List.filter_cons,if_neg (by rw [decide_eq_false hn]; exact Bool.false_ne_true)]
 rfl
theorem bdG0:wX Tryz.prog 78 [(0,.d (.int .i64 0)),(1,.ts [.int .u8 1])]=some (.agg [.d (.int .i64 0),.ts [.int .u8 1]]):=by kernel_rfl
theorem z82 {S:zA} {y x c r m mk gm:Nat} {l:Lay} {C:CS} {mf gf:Int→Option V} {gl:Int→List Int} {b:Nat} (h:AllP S y x c r m mk gm l 0 C mf gf gl b) (hbb:b ≤ 17592186044416) (hb:InB l.blocks) (hi:InB l.inodes) (hm:MayL l) (D:Nat) (hD:2 + l.inodes.tdiv 8=(D:Int)) (N:Nat) (hN:l.blocks=N) (bb:List UInt8) (hbl:bb.length=256) (hl:C.last < 10000) (no:Nat) (t:List Nat) (hfr:frB (C.see 1) D N=no::t) (h1:no < C.img.length) (h11:1 < C.img.length) (hn1:no ≠ 1) (hno:no < 2048)
  (hid : ∀ z ∈ noZ (wT (bitC C no true []).list (gl (no:Int)) ++ []),1 ≤ z∧z ≤ (C.last:Int) + 1) : ∃ S' gf' C',
  EvS cfg 19 [.ref y 0 0,.d (blkD bb),.ts []] S (fun o'' S''=>S''=S'∧o'' = .ret (.tup [.d (.int .i64 (no:Int)),.ts [.int .i64 ((C.last:Int) + 1),.int .i64 ((C.last:Int) + 2)]]))∧FrM m gm r S S'∧AllP S' y x c r m mk gm l 0 C' mf gf' (fun n=>if n=(no:Int) then [] else gl n) b ∧
  C'=(bitC C no true []).put (no:Int) 0 bb (vA (bitC C no true []) (noZ (wT (bitC C no true []).list (gl (no:Int)) ++ []))) ∧ ∀ k,C'.see k=if k=no then bb else if k=1 then vW (C.see 1) no true else C.see k:=by
 obtain ⟨z1,z2⟩:=z83 (bb:=bb) (gs:=gl (no:Int)) (ids:=[]) h1 hbl hid
 have hsee:=zgi (bb:=bb) (gs:=gl (no:Int)) (ids:=[]) h.sp.ca.ok h1 h11 hno hbl hid hn1
 obtain ⟨o,S9,⟨hF9,⟨gf9,hA9⟩,rfl⟩,hE9⟩:=qC (zlf S y x c r m mk gm l C mf gf gl b h hbb hb hi hm D hD N hN (.d (blkD bb)) bb wA hbl (.ts []) [] (.inr (.inl rfl)) (by simp) (by omega) no t hfr)
 rw [z1] at hA9
 rw [if_neg (fun h=>h z1)] at hE9
 exact ⟨S9,gf9,_,hE9,hF9,hA9,z2,hsee⟩
theorem order_ok (l:Lay) (hb:InB l.blocks) (hi:InB l.inodes) (hM:0 ≤ l.merge∧l.merge < 18446744073709551616) (picks:List Int):Ev cfg 8 [encLay l,encI picks] (.ret (.d (.bool true))):=by
 have hc:=fun {ops dst k T S F Q}=>ze4 (ops:=ops) (dst:=dst) (k:=k) (T:=T) (S:=S) (F:=F) (Q:=Q) hb hi
 have hln:=fun S=>lnI (S:=S) (l:=picks)
 refine kW rfl rfl q06 ?_
 show Wp cfg (Tryz.f8.body.getD .skip) ((.d (encLay l))::(.d (encI picks))::uZ (uZ (uZ (uZ (uZ (uZ (uZ (uZ (uZ (uZ (uZ ((.tup [])::(.tup [])::(.tup [])::(.tup [])::[])))))))))))) [] [] _
 unfold uZ
 conv=>arg 2; whnf
 by_cases hs:MayL l∧l.blocks ≤ 60
 case neg =>
  rw [decide_eq_false hs] at hc
  simp (maxSteps:=1000000) (disch:=first|assumption|omega|rfl) only [↓gp,gc,Nat.reduceAdd,lr32,hc,bo16,wH,Bool.not_false,z0g,bo17]
  exact zS rfl rfl rfl
 rw [decide_eq_true hs] at hc
 by_cases h16:(picks.length:Int) > 16
 ·simp (maxSteps:=1000000) (disch:=first|assumption|omega|rfl) only [↓gp,gc,Nat.reduceAdd,lr32,hc,bo16,wH,Bool.not_true,hln,z0g,bo17,zQ]
  exact zS rfl rfl rfl
 obtain ⟨hm,h60⟩:=hs
 obtain ⟨B,I,M,K,hl,hK,hB,hI,hI8,hMM,hK16,hKB,hIB⟩:=zv6 hm h60 hM
 have hBl:l.blocks=(B:Int):=by rw [hl]
 obtain ⟨o,S1,⟨hK1,d,x,c,r,m,mk,rfl,hS1,rfl⟩,hE1⟩:=qC (zgh [.row [.d (encLay l)] 32] l B I M K hl (by omega) hI hMM hm hK hK16 hKB)
 have hbeg:=fun {ops dst k T F Q}=>zF (ops:=ops) (dst:=dst) (l:=k) (T:=T) (F:=F) (Q:=Q) rfl hE1
 have hnew:=fun {ops dst k T F Q}=>zF (ops:=ops) (dst:=dst) (l:=k) (T:=T) (F:=F) (Q:=Q) rfl (zji S1 x)
 have q1:(S1 ++ [Ob.mp [] 0,.row [allV x S1.length] 116])[S1.length]? = some (.mp [] 0):=by rw [List.getElem?_append_right (by omega),Nat.sub_self]; rfl
 have q2:(S1 ++ [Ob.mp [] 0,.row [allV x S1.length] 116])[S1.length + 1]? = some (.row [allV x S1.length] 116):=by rw [List.getElem?_append_right (by omega),Nat.add_sub_cancel_left]; rfl
 have hm1:m < S1.length:=by
  obtain ⟨_,_,_,_,_,_,_,_,h,_⟩:=hS1.ca
  exact h.hm.lt
 have hm2:=hS1.mp.lt
 obtain ⟨gl,hgl,hA2⟩ : ∃ g:Int→List Int,(∀ n,g n=[])∧AllP (S1 ++ [Ob.mp [] 0,.row [allV x S1.length] 116]) (S1.length + 1) x c r m mk S1.length l 0 (C0 B I M K) (fun _=>none) (fun _=>none) g 0:=⟨_,fun _=>rfl,zad q2 q1 (by omega) (by omega) (hS1.keep Keep.refl.app)⟩
 have h02:(S1 ++ [Ob.mp [] 0,.row [allV x S1.length] 116])[0]? = some (.row [.d (encLay l)] 32):=(Keep.refl.app (S':=S1)) _ _ (hK1 _ _ rfl)
 generalize S1 ++ [Ob.mp [] 0,.row [allV x S1.length] 116]=S2 at *
 generalize S1.length + 1=y at *
 generalize S1.length=gm at *
 have hs0:(C0 B I M K).see 1=mapB (2 + K):=(zfu (by omega)).trans rfl
 have hh0:hasB ((C0 B I M K).see 1) (2 + K)=false:=by rw [hs0,zfn (by omega)]; exact decide_eq_false (by omega)
 have hi0:(C0 B I M K).img.length=B:=z8u
 have hl0:(C0 B I M K).last=0:=rfl
 generalize C0 B I M K=Ca at *
 have hoka:=hA2.sp.ca.ok
 have hbma:=hoka.see_len (no:=1) (by omega)
 obtain ⟨t1,hfr1⟩:=zbt (N:=B) (by omega) hh0
 have hnil : ∀ {C:CS} {n:Nat} {g:Int→List Int},(∀ n,g n=[])→noZ (wT (bitC C n true []).list (g (n:Int)) ++ [])=[]:=fun {C n g} h=>by rw [h,z8r]; rfl
 obtain ⟨S3,gf3,C1,hE3,hF3,hA3,hC1,hs1⟩:=z82 hA2 (by omega) hb hi hm (2 + K) hK B hBl (fulL 7) vR (by omega) (2 + K) t1 hfr1 (by omega) (by omega) (by omega) (by omega) (by rw [hnil hgl]; intro z hz; cases hz)
 have htk1:=fun {ops dst k T F Q}=>zF (ops:=ops) (dst:=dst) (l:=k) (T:=T) (F:=F) (Q:=Q) rfl hE3
 obtain ⟨gl3,hgl3,hA3⟩ : ∃ g:Int→List Int,(∀ n,g n=[])∧AllP S3 y x c r m mk gm l 0 C1 (fun _=>none) gf3 g 0:=⟨_,fun n=>by
  by_cases e:n=((2 + K:Nat):Int)
  ·exact if_pos e
  ·exact (if_neg e).trans (hgl n),hA3⟩
 have hi1:C1.img.length=B:=by rw [hC1]; exact hi0
 have hl1:C1.last=2:=by rw [hC1]; show Ca.last + 1 + 1=2; omega
 have hd1:C1.see (2 + K)=fulL 7:=by rw [hs1,if_pos rfl]
 have hm1':C1.see 1=vW (Ca.see 1) (2 + K) true:=by rw [hs1,if_neg (by omega),if_pos rfl]
 clear hC1 hs1
 have h03:S3[0]? = some (.row [.d (encLay l)] 32):=hF3.row h02 rfl
 have hch3:=fun {ops dst k T F Q}=>zF (ops:=ops) (dst:=dst) (l:=k) (T:=T) (F:=F) (Q:=Q) rfl (z73 S3 x c mk l.blocks l.inodes l.merge 0 hA3.sp.hx)
 obtain ⟨o,S4,⟨hF4,rfl,C2,hC2,hsy⟩,hE4⟩:=qC (zsb S3 c r m C1 hA3.sp.ca)
 have hsync:=fun {ops dst k T F Q}=>zF (ops:=ops) (dst:=dst) (l:=k) (T:=T) (F:=F) (Q:=Q) rfl hE4
 have hA4:=hA3.frC hF4 hC2 hsy.2.2.1
 obtain ⟨hl2,hla2,him2,hse2⟩:=hsy
 have h04:S4[0]? = some (.row [.d (encLay l)] 32):=hF4.row h03 rfl
 have hi2:C2.img.length=B:=him2.trans hi1
 have hmap2:C2.see 1=vW (Ca.see 1) (2 + K) true:=(hse2 1 (by omega)).trans hm1'
 have hno2:C2.img[2 + K]? = some (fulL 7):=by
  have h:=(hse2 (2 + K) (by omega)).trans hd1
  unfold CS.see at h
  rw [hl2] at h
  have h:C2.img.getD (2 + K) []=fulL 7:=h
  rw [List.getD_eq_getElem?_getD,List.getElem?_eq_getElem (by omega)] at h
  rw [List.getElem?_eq_getElem (by omega)]
  exact congrArg some h
 have hhD:hasB (C2.see 1) (2 + K)=true:=by rw [hmap2,z7d hbma (by omega),if_pos rfl]
 have hok2:=hA4.sp.ca.ok
 have hbm2:=hok2.see_len (no:=1) (by omega)
 have hno0 : ∀ i:Decidable (((2 + K:Nat):Int)=0),@decide (((2 + K:Nat):Int)=0) i=false:=fun i=>decide_eq_false (by omega)
 cases hfr2:frB (C2.see 1) (2 + K) B with
 | nil =>
  obtain ⟨o,S5,⟨hF5,hA5,rfl⟩,hE5⟩:=qC (zjb S4 y x c r m mk gm l 0 C2 (fun _=>none) gf3 gl3 0 hA4 hb hi hm (2 + K) hK B hBl (.d (blkD (fulL 8))) _ wA vR (.ts []) (.inl hfr2))
  have htk2:=fun {ops dst k T F Q}=>zF (ops:=ops) (dst:=dst) (l:=k) (T:=T) (F:=F) (Q:=Q) rfl hE5
  simp (maxSteps:=1000000) (disch:=first|assumption|omega|rfl) only [↓gp,gc,Nat.reduceAdd,lr32,hc,bo16,wH,Bool.not_true,hln,hbeg,bo53,hnew,bo32,zej,za8,bo20,htk1,bo19,hch3,bo25,hsync,bo52,z9p,htk2,hno0,zQ,z0g,bo17]
  exact zS rfl rfl rfl
 | cons p t2 =>
  obtain ⟨p1,p2,p3⟩:=znl hfr2
  have hne:2 + K ≠ p:=by
   rintro rfl
   rw [hhD] at p3
   cases p3
  have hp0 : ∀ i:Decidable ((p:Int)=0),@decide ((p:Int)=0) i=false:=fun i=>decide_eq_false (by omega)
  obtain ⟨S5,gf5,C3,hE5,hF5,hA5,hC3,hs3⟩:=z82 hA4 (by omega) hb hi hm (2 + K) hK B hBl (fulL 8) vR (by omega) p t2 hfr2 (by omega) (by omega) (by omega) (by omega) (by rw [hnil hgl3]; intro z hz; cases hz)
  have htk2:=fun {ops dst k T F Q}=>zF (ops:=ops) (dst:=dst) (l:=k) (T:=T) (F:=F) (Q:=Q) rfl hE5
  obtain ⟨gl5,hgl5,hA5⟩ : ∃ g:Int→List Int,(∀ n,g n=[])∧AllP S5 y x c r m mk gm l 0 C3 (fun _=>none) gf5 g 0:=⟨_,fun n=>by
   by_cases e:n=(p:Int)
   ·exact if_pos e
   ·exact (if_neg e).trans (hgl3 n),hA5⟩
  rw [hnil hgl3,zcj] at hC3
  have hi3:C3.img=C2.img:=by rw [hC3]; rfl
  have hl3:C3.last=4:=by rw [hC3]; show C2.last + 1 + 1=4; omega
  have hc3l : ∃ u:Chg,u.no=1∧C3.list=[u] ++ [eCh 4 p]:=by
   refine ⟨⟨(C2.last:Int) + 1,1,((p / 8:Nat):Int),bitP C2 p true,vA C2 (noZ [])⟩,rfl,?_⟩
   rw [hC3]
   show (C2.list ++ [_]) ++ [Chg.mk (((C2.last + 1:Nat):Int) + 1) (p:Int) 0 (fulL 8) []]=_
   rw [hl2]
   have e:((C2.last + 1:Nat):Int) + 1=4:=by omega
   rw [e]
   rfl
  have hm3:C3.see 1=vW (C2.see 1) p true:=by rw [hs3,if_neg (by omega),if_pos rfl]
  clear hC3 hs3
  have h05:S5[0]? = some (.row [.d (encLay l)] 32):=hF5.row h04 rfl
  have hnz:noZ []=[]:=rfl
  have hpt:PatV S5 (.agg [.d (.int .i64 0),.ts [.int .u8 1]]) (.ts [.int .u8 1]) 0 [1]:= .inl ⟨rfl,.inr (.inr rfl)⟩
  have hpe:putE C3 (p:Int) 0 [1] (noZ [])=0:=by
   have h1:kG 0 [1]:=by unfold kG; simp
   unfold putE
   rw [hnz,if_neg (fun h=>h h1),if_neg (fun h=>h (fun x hx=>by cases hx)),if_neg (by rw [hi3]; omega)]
  obtain ⟨z1,z2,z3⟩:=zjf hpe
  rw [hnz,zcj] at z2
  obtain ⟨o,S6,⟨hF6,hS6,rfl⟩,hE6⟩:=qC (zb6 S5 x c r m mk l 0 C3 (fun _=>none) hA5.sp (p:Int) (.agg [.d (.int .i64 0),.ts [.int .u8 1]]) (.ts [.int .u8 1]) 0 [1] hpt (by unfold InB; omega) (.ts []) [] (.inr (.inl rfl)) (Nat.zero_le _) (by omega))
  rw [z1,z2] at hS6
  have e5:(C3.last:Int) + 1=5:=by omega
  rw [z3,e5] at hE6
  have hput:=fun {ops dst k T F Q}=>zF (ops:=ops) (dst:=dst) (l:=k) (T:=T) (F:=F) (Q:=Q) rfl hE6
  have hA6:=hA5.frS hF6 hS6
  have h06:S6[0]? = some (.row [.d (encLay l)] 32):=hF6.row h05 rfl
  have hm4:(C3.put (p:Int) 0 [1] []).see 1=vW (C2.see 1) p true:=by
   rw [zb0,if_neg (by omega)]
   exact hm3
  have hi4:(C3.put (p:Int) 0 [1] []).img=C2.img:=hi3
  have hl4:(C3.put (p:Int) 0 [1] []).last=5:=by show C3.last + 1=5; omega
  have hc4l:(C3.put (p:Int) 0 [1] []).list=C3.list ++ [gCh 5 p]:=by
   show C3.list ++ [Chg.mk ((C3.last:Int) + 1) (p:Int) 0 [1] []]=_
   rw [e5]
   rfl
  generalize C3.put (p:Int) 0 [1] []=C4 at *
  have hok4:=hA6.sp.ca.ok
  have hd:2 + l.inodes.tdiv 8 ≤ ((2 + K:Nat):Int)∧((2 + K:Nat):Int) < l.blocks:=by omega
  have hus:z98 l C4 ((2 + K:Nat):Int)=true:=by
   unfold z98
   rw [zgd (by omega),hm4,z7d hbm2 (by omega),if_neg hne,hhD,Bool.and_true,decide_eq_true ⟨by omega,hd.2⟩]
  have hid5 : ∀ z ∈ noZ [(5:Int)],1 ≤ z∧z ≤ (C4.last:Int):=fun z hz=>by
   unfold noZ at hz
   have:=List.mem_singleton.1 (List.mem_filter.1 hz).1
   omega
  obtain ⟨y1,y2,y3⟩:=zjf (zfp (C:=C4) (no:=2 + K) (on:=false) (by rw [hi4]; omega) (by omega) hid5)
  obtain ⟨o,S7,⟨hF7,⟨gf7,hA7⟩,rfl⟩,hE7⟩:=qC (zul S6 y x c r m mk gm l C4 (fun _=>none) gf5 gl5 0 hA6 hb hi hm (2 + K) (.ts [.int .i64 5]) [5] (.inr (.inl rfl)) (by simp) (by omega) hd hus)
  rw [y1,y2] at hA7
  have hgv:=fun {ops dst k T F Q}=>zF (ops:=ops) (dst:=dst) (l:=k) (T:=T) (F:=F) (Q:=Q) rfl hE7
  obtain ⟨gl7,hgl7,hA7⟩ : ∃ g:Int→List Int,g ((2 + K:Nat):Int)=[5]∧AllP S7 y x c r m mk gm l 0 (C4.put 1 (((2 + K) / 8:Nat):Int) (bitP C4 (2 + K) false) (vA C4 (noZ [5]))) (fun _=>none) gf7 g (max 0 ([(5:Int)].length)):=⟨_,if_pos rfl,hA7⟩
  have hm5:(C4.put 1 (((2 + K) / 8:Nat):Int) (bitP C4 (2 + K) false) (vA C4 (noZ [5]))).see 1=vW (C4.see 1) (2 + K) false:=by
   have h:=zfe (no:=2 + K) (on:=false) (ids:=[5]) (k:=1) hok4 (by rw [hi4]; omega) (by omega)
   rw [if_pos rfl] at h
   exact h
  have hi5:(C4.put 1 (((2 + K) / 8:Nat):Int) (bitP C4 (2 + K) false) (vA C4 (noZ [5]))).img=C2.img:=hi4
  have hl5:(C4.put 1 (((2 + K) / 8:Nat):Int) (bitP C4 (2 + K) false) (vA C4 (noZ [5]))).last=6:=by show C4.last + 1=6; omega
  have hc5l : ∃ u:Chg,u.no=1∧(C4.put 1 (((2 + K) / 8:Nat):Int) (bitP C4 (2 + K) false) (vA C4 (noZ [5]))).list=C4.list ++ [u]:=⟨_,rfl,rfl⟩
  generalize C4.put 1 (((2 + K) / 8:Nat):Int) (bitP C4 (2 + K) false) (vA C4 (noZ [5]))=C5 at *
  have h07:S7[0]? = some (.row [.d (encLay l)] 32):=hF7.row h06 rfl
  have hok5:=hA7.sp.ca.ok
  have hbm4:=hok4.see_len (no:=1) (by rw [hi4]; omega)
  have hh5:hasB (C5.see 1) (2 + K)=false:=by rw [hm5,z7d hbm4 (by omega),if_pos rfl]
  obtain ⟨t3,hfr3⟩:=zbt (N:=B) (by omega) hh5
  obtain ⟨u3,hu3,hc3l⟩:=hc3l
  obtain ⟨u5,hu5,hc5l⟩:=hc5l
  have h5in:(5:Int) ∈ C5.list.map Chg.id:=by
   rw [hc5l,hc4l,hc3l]
   simp [gCh]
  have hg6:wT (bitC C5 (2 + K) true []).list (gl7 ((2 + K:Nat):Int)) ++ []=[5]:=by
   rw [hgl7,List.append_nil,zk3 (fun z hz=>by
    have:=List.mem_singleton.1 hz
    omega)]
   exact zhn hok5 h5in
  have hz5:noZ [(5:Int)]=[5]:=rfl
  obtain ⟨S8,gf8,C6,hE8,hF8,hA8,hC6,hs6⟩:=z82 hA7 (by simp) hb hi hm (2 + K) hK B hBl (fulL 9) vR (by omega) (2 + K) t3 hfr3 (by rw [hi5]; omega) (by rw [hi5]; omega) (by omega) (by omega) (by
   rw [hg6,hz5]
   intro z hz
   have:=List.mem_singleton.1 hz
   omega)
  rw [hg6,hz5,zi4 hok5 h5in] at hC6
  have htk3:=fun {ops dst k T F Q}=>zF (ops:=ops) (dst:=dst) (l:=k) (T:=T) (F:=F) (Q:=Q) rfl hE8
  have h08:S8[0]? = some (.row [.d (encLay l)] 32):=hF8.row h07 rfl
  have hi6:C6.img=C2.img:=by rw [hC6]; exact hi5
  obtain ⟨u6,hu6,hc6l⟩ : ∃ u:Chg,u.no=1∧C6.list=C5.list ++ [u] ++ [fCh 8 5 (2 + K)]:=by
   refine ⟨⟨(C5.last:Int) + 1,1,(((2 + K) / 8:Nat):Int),bitP C5 (2 + K) true,vA C5 (noZ [])⟩,rfl,?_⟩
   rw [hC6]
   show (C5.list ++ [_]) ++ [Chg.mk (((C5.last + 1:Nat):Int) + 1) ((2 + K:Nat):Int) 0 (fulL 9) [5]]=_
   have e:((C5.last + 1:Nat):Int) + 1=8:=by omega
   rw [e]
   rfl
  have hmem : ∀ ch,ch ∈ C6.list ↔ ch=u3 ∨ ch=eCh 4 p ∨ ch=gCh 5 p ∨ ch=u5 ∨ ch=u6 ∨ ch=fCh 8 5 (2 + K):=fun ch=>by
   rw [hc6l,hc5l,hc4l,hc3l]
   simp only [List.mem_append,List.mem_singleton]
   constructor
   ·rintro ((((((h | h) | h) | h) | h) | h)) <;> simp [h]
   ·rintro (h | h | h | h | h | h) <;> simp [h]
  have hord:OrdP B (2 + K) p 4 5 8 C6:=by
   refine ⟨by rw [hi6]; exact hi2,fun ch hch e=>?_,fun ch hch e=>?_,.inl ⟨(hmem _).2 (by simp),by rw [hi6]; exact hno2⟩,.inl ((hmem _).2 (by simp))⟩
   ·rcases (hmem ch).1 hch with rfl | rfl | rfl | rfl | rfl | rfl
    ·omega
    ·have e:(p:Int)=((2 + K:Nat):Int):=e
     omega
    ·have e:(p:Int)=((2 + K:Nat):Int):=e
     omega
    ·omega
    ·omega
    ·rfl
   ·rcases (hmem ch).1 hch with rfl | rfl | rfl | rfl | rfl | rfl
    ·omega
    ·exact .inl rfl
    ·exact .inr rfl
    ·omega
    ·omega
    ·have e:((2 + K:Nat):Int)=(p:Int):=e
     omega
  simp (maxSteps:=1000000) (disch:=first|assumption|omega|rfl) only [↓gp,gc,Nat.reduceAdd,↓vbs,lr32,hc,bo16,wH,Bool.not_true,hln,hbeg,bo53,hnew,bo32,zej,za8,bo20,htk1,bo19,hch3,bo25,hsync,bo52,z9p,htk2,hno0,hp0,bsG,bdG0,hput,bo50,bsI1,hgv,bo23,zgz,htk3,zs5,zQ]
  refine zsh picks (by omega) x c r m mk l B (2 + K) p 4 5 8 hBl (by omega) p2 hne (by decide) (by omega) (fun _=>none) _ picks.length 0 S8 C6 _ _ _ _ _ _ _ _ _ _ _ _ _ _ _ _ _ _ _ _ _ _ _ _ _ _ _ _ _ _ _ _ _ _ _ _ _ _ _ _ _ _ _ _ _ _ _ _ _ _ _ _ _ _ _ _ _ _ _ _ _ _ _ _ _ _ _ _ _ _ _ _ _ _ _ _ _ _ _ _ _ _ _ _ _ _ _ _ _ _ _ _ _ _ _ _ _ _ _ _ _ _ _ _ _ _ _ _ _ rfl (Nat.zero_le _) hA8.sp h08 hord ?_
  intro S9 i' g0 g3 g4 g7 g9 gF gD gB gC gE gL gM gG gJ gN gI gH gO gP gT gQ gU gR gS gV gW gX gY gZ gh gj gk gn gr gz hH hU hY hZ xA xB xC xD xE xF xG xH xI xJ xK xL xM xN xO xP xQ xR xS xT xU xV xW xX xY xZ g72 g73 g74 g75 g76 g77 g78 g79 g80 g81 g82 g83 g84 g85 g86 g87 g88 g89 g90 g91 g92 g93 g94 g95 g96 g97 g98 g99 g100 g101 g102 g103 g104 g105 g106 g107 g108 g109 g110 g111 g112 g113 g114 g115
  simp (maxSteps:=1000000) (disch:=first|assumption|omega|rfl) only [↓gp,gc,Nat.reduceAdd,z0g,bo17]
  exact zS rfl rfl rfl
end Go.Proofs.YtobgdmgldagjkaaGreat
end
