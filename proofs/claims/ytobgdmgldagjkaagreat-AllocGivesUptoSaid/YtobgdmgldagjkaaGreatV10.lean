/- store.Put, Fill, whatever they are told. -/
import Derived.Test.YtobgdmgldagjkaaGreatV09
set_option linter.unusedVariables false
set_option linter.unusedSimpArgs false
set_option maxRecDepth 100000
set_option maxHeartbeats 4000000
set_option linter.defProp false
section
namespace Go.Proofs.YtobgdmgldagjkaaGreat
open Go.Vm
def spE (e:Int) (C:CS) (no a:Int) (b:List UInt8) (ids:List Int):Int:=if e ≠ 0 then e else putE C no a b (noZ ids)
def spC (e:Int) (C:CS) (no a:Int) (b:List UInt8) (ids:List Int):CS:=if e ≠ 0 then C else if putE C no a b (noZ ids) ≠ 0 then C else C.put no a b (z2a C (noZ ids))
def spI (e:Int) (C:CS) (no a:Int) (b:List UInt8) (ids:List Int):Int:=if e ≠ 0 then 0 else if putE C no a b (noZ ids) ≠ 0 then 0 else (C.last:Int) + 1
theorem zns (S:zA) (x c r m mk:Nat) (l:Lay) (e:Int) (C:CS) (mf:Int→Option V) (h0:StoreP S x c r m mk l e C mf) (he0:e ≠ 0) (u p nd:V) (hft:qE Tryz.prog 78 p=true):EvS cfg 50 [.ref x 0 0,u,p,nd] S (fun o S'=>Keep S S'∧o = .ret (.d (.int .i64 0))):=by
 refine qF rfl zkk ?_
 show Wp cfg (Tryz.f50.body.getD .skip) ((.ref x 0 0)::u::p::nd::uZ (uZ ((.tup [])::(.tup [])::(.tup [])::(.tup [])::(.tup [])::(.tup [])::(.tup [])::[]))) S [] _
 unfold uZ
 conv=>arg 2; whnf
 rw [zO]
 have hk0:Keep S (S ++ [.row [p] 78]):=Keep.refl.app
 have he:=fun {ops dst k T F Q}=>zD (ops:=ops) (dst:=dst) (l:=k) (T:=T) (F:=F) (Q:=Q) rfl (z4l _ x c mk l.blocks l.inodes l.merge e (h0.keep hk0).hx)
 have hde : ∀ i:Decidable (e ≠ 0),@decide (e ≠ 0) i=true:=fun i=>decide_eq_true he0
 simp (maxSteps:=1000000) (disch:=first|assumption|omega|rfl) only [↓gp,gc,Nat.reduceAdd,hft,he,bo45,hde]
 exact ⟨rfl,_,rfl,hk0,rfl⟩
theorem zoe (S:zA) (x c r m mk:Nat) (l:Lay) (C:CS) (mf:Int→Option V) (h0:StoreP S x c r m mk l 0 C mf) (no:Int) (p dv:V) (a:Int) (b:List UInt8) (hp:PatV S p dv a b) (ha:InB a) (nd:V) (ids:List Int) (hnd:IntsV S nd ids) (hids:ids.length ≤ 17592186044416) (hpe:putE C no a b (noZ ids) ≠ 0) :
  EvS cfg 50 [.ref x 0 0,.d (.int .i64 no),p,nd] S (fun o S'=>FrS m r S S'∧StoreP S' x c r m mk l (putE C no a b (noZ ids)) C mf∧o = .ret (.d (.int .i64 0))):=by
 refine qF rfl zkk ?_
 show Wp cfg (Tryz.f50.body.getD .skip) ((.ref x 0 0)::(.d (.int .i64 no))::p::nd::uZ (uZ ((.tup [])::(.tup [])::(.tup [])::(.tup [])::(.tup [])::(.tup [])::(.tup [])::[]))) S [] _
 unfold uZ
 conv=>arg 2; whnf
 rw [zO]
 generalize hal:S.length=al
 have hft:=hp.ft
 have hl0:=hp.l0
 have hd1:=hnd.one
 have hk0:Keep S (S ++ [.row [p] 78]):=Keep.refl.app
 have h3:=h0.keep hk0
 have he:=fun {ops dst k T F Q}=>zD (ops:=ops) (dst:=dst) (l:=k) (T:=T) (F:=F) (Q:=Q) rfl (z4l _ x c mk l.blocks l.inodes l.merge 0 h3.hx)
 obtain ⟨o,S1,⟨hK1,v,rfl,hv⟩,hsE⟩:=zY (zke _ nd ids (hnd.keep hk0) (by omega))
 have hs:=fun {ops base K ws cs i dst T}=>qW (ops:=ops) (base:=base) (K:=K) (ws:=ws) (cs:=cs) (i:=i) (dst:=dst) (T:=T) rfl hsE
 have h3b:=h3.keep hK1
 have hk1:=hk0.trans hK1
 have hp1:PatV S1 p dv a b:=hp.frm (ts:=[]) (ms:=[]) (r:=0) (Frm.keep hk1) rfl
 have hnl:(noZ ids).length ≤ 17592186044416:=Nat.le_trans (List.length_filter_le ..) hids
 obtain ⟨o,S2,⟨hK2,rfl⟩,hE⟩:=zY (zp2 _ c r m C h3b.ca no p dv a b hp1 ha v (noZ ids) hv hnl hpe)
 have hcp:=fun {ops base K ws cs i dst T}=>qW (ops:=ops) (base:=base) (K:=K) (ws:=ws) (cs:=cs) (i:=i) (dst:=dst) (T:=T) rfl hE
 have hrx:=zE (e:=122) h3.hx
 have hrx1:=zE (e:=122) h3b.hx
 have hal1:=hK1 al (.row [p] 78) (by rw [List.getElem?_append_right (by omega),hal,Nat.sub_self]; rfl)
 have hral1:=zE (e:=78) hal1
 have h4:=h3b.keep hK2
 have hrx2:=zE (e:=122) h4.hx
 have hpx2:=fun y=>qL (y:=y) (e:=122) h4.hx
 have hp1':=hp.one
 have hv1:=qH hv
 simp (maxSteps:=1000000) (disch:=first|assumption|omega|rfl) only [↓gp,gc,Nat.reduceAdd,hft,hal,he,bo45]
 refine qP (is:=[0,1,2,3,4,5,6,7,8,9,10,11,12,13]) (h:=0) (by kernel_rfl) (by kernel_rfl) ?_
 simp (maxSteps:=1000000) (disch:=first|assumption|omega|rfl) only [List.replicate_zero,eq_self,gw,ga,Nat.reduceAdd,↓gq,vso,List.append_nil,hrx,qV,kK,zet,z7v,rA0 hal,hl0,hs,bo98,hcp,bo97,hp1',hd1,hv1]
 have hsm:=hp.same
 refine ⟨zX rfl (by kernel_rfl) rfl (wG ((zJ hral1).trans hl0)) hsm (zX rfl (by kernel_rfl) rfl (wG ((zJ hrx1).trans z7v)) (by simp [wR,qU,qN]) zW),zF (by kernel_rfl) (zF (by kernel_rfl) zW),by kernel_rfl,?_⟩
 simp (maxSteps:=1000000) (disch:=first|assumption|omega|rfl) only [↓gp,gc,Nat.reduceAdd,zed,hrx2,zj4,hpx2]
 refine ⟨rfl,_,rfl,?_,h4.err _,rfl⟩
 exact ((Frm.keep (hk1.trans hK2))).set (fun q hq=>by cases getE h0.hx hq; rfl)
theorem z7j (S:zA) (x c r m mk:Nat) (l:Lay) (e:Int) (C:CS) (mf:Int→Option V) (h0:StoreP S x c r m mk l e C mf) (no:Int) (p dv:V) (a:Int) (b:List UInt8) (hp:PatV S p dv a b) (ha:InB a) (nd:V) (ids:List Int) (hnd:IntsV S nd ids) (hids:ids.length ≤ 17592186044416) (hl:C.last < 100000) :
  EvS cfg 50 [.ref x 0 0,.d (.int .i64 no),p,nd] S (fun o S'=>FrS m r S S'∧StoreP S' x c r m mk l (spE e C no a b ids) (spC e C no a b ids) mf∧o = .ret (.d (.int .i64 (spI e C no a b ids)))):=by
 by_cases he:e=0
 ·subst he
  by_cases hpe:putE C no a b (noZ ids) ≠ 0
  ·refine z5u (zoe S x c r m mk l C mf h0 no p dv a b hp ha nd ids hnd hids hpe) fun o S' h=>?_
   unfold spE spC spI
   have hz : ¬ ((0:Int) ≠ 0):=fun h=>h rfl
   rw [if_neg hz,if_neg hz,if_neg hz,if_pos hpe,if_pos hpe]
   exact h
  ·have hpe':putE C no a b (noZ ids)=0:=by omega
   have hpk:kL a b:=by
    by_cases h:kL a b
    ·exact h
    ·unfold putE at hpe'; rw [if_pos h] at hpe'; cases hpe'
   have hrg : ∀ y ∈ noZ ids,1 ≤ y∧y ≤ (C.last:Int):=by
    by_cases h : ∀ y ∈ noZ ids,1 ≤ y∧y ≤ (C.last:Int)
    ·exact h
    ·unfold putE at hpe'; rw [if_neg (fun hh=>hh hpk),if_pos h] at hpe'; cases hpe'
   have hno : ¬ (no < 0 ∨ no ≥ C.img.length):=by
    intro h
    unfold putE at hpe'
    rw [if_neg (fun hh=>hh hpk),if_neg (fun hh=>hh hrg),if_pos h] at hpe'
    cases hpe'
   obtain ⟨k,rfl⟩ : ∃ k:Nat,no=k:=⟨no.toNat,by omega⟩
   have hnl:(noZ ids).length ≤ 17592186044416:=Nat.le_trans (List.length_filter_le ..) hids
   have hnd2:=zgj h0.ca.ok (l:=noZ ids)
   refine z5u (zsf S x c r m mk l C mf h0 k (by omega) p dv a b hp hpk ha nd ids (z2a C (noZ ids)) hnd (by omega) (fun S1 v h1 h2=>ziy S1 c r m C h1 v (noZ ids) h2 hnl hrg) hnd2.1 hnd2.2 hl) fun o S' h=>?_
   unfold spE spC spI
   have hz : ¬ ((0:Int) ≠ 0):=fun h=>h rfl
   rw [if_neg hz,if_neg hz,if_neg hz,if_neg hpe,if_neg hpe,hpe']
   exact h
 ·refine z5u (zns S x c r m mk l e C mf h0 he (.d (.int .i64 no)) p nd hp.ft) fun o S' ⟨h1,h2⟩=>?_
  unfold spE spC spI
  rw [if_pos he,if_pos he,if_pos he]
  exact ⟨Frm.keep h1,h0.keep h1,h2⟩
theorem q41 {n:Int} {b:List UInt8}:wK Tryz.prog 78 [(0,.d (.int .i64 n)),(1,.d (encB b))]=some (.agg [.d (.int .i64 n),.d (encB b)]):=by kernel_rfl
theorem zos {ops:Array Oper} {dst:Option Tmp} {k:List Oper} {T:List V} {S:zA} {F:Dfs} {Q:Post} {u:V} {b:List UInt8} (hu:IsB u b) (hb:b.length=256):WpR cfg ops dst k T S F Q (some (.enter 107 [u,.d (.int .i64 0),.d (.int .i64 256)]))=WpL cfg ops k (putT T dst (.d (encB b))) S F Q :=
 wA (ds:=[blkD b,.int .i64 0,.int .i64 256]) rfl (by simp only [allO,hu.frz (n:=10),zI]; rfl) (by rw [List.flatMap_cons,hu.frzIds]; rfl) (by
  have:=zrb b hb 0 256 (by omega) (by omega)
  rw [List.drop_zero,List.take_of_length_le (by omega)] at this
  exact this)
theorem zo6 (S:zA) (x c r m mk:Nat) (l:Lay) (e:Int) (C:CS) (mf:Int→Option V) (h0:StoreP S x c r m mk l e C mf) (no:Int) (u:V) (b:List UInt8) (hu:IsB u b) (hb:b.length=256) (nd:V) (ids:List Int) (hnd:IntsV S nd ids) (hids:ids.length ≤ 17592186044416) (hl:C.last < 100000) :
  EvS cfg 66 [.ref x 0 0,.d (.int .i64 no),u,nd] S (fun o S'=>FrS m r S S'∧StoreP S' x c r m mk l (spE e C no 0 b ids) (spC e C no 0 b ids) mf∧o = .ret (.d (.int .i64 (spI e C no 0 b ids)))):=by
 refine qF rfl zxk ?_
 show Wp cfg (Tryz.f66.body.getD .skip) ((.ref x 0 0)::(.d (.int .i64 no))::u::nd::uZ ((.tup [])::(.tup [])::[])) S [] _
 unfold uZ
 conv=>arg 2; whnf
 rw [zO]
 generalize hal:S.length=al
 have hf:=bt42.fits hu hb
 have hld:=bt42.load hu hb
 have hu1:=hu.one
 have hd1:=hnd.one
 have hk0:Keep S (S ++ [.row [u] 42]):=Keep.refl.app
 have hc:=fun {ops dst k T S F Q}=>zos (ops:=ops) (dst:=dst) (k:=k) (T:=T) (S:=S) (F:=F) (Q:=Q) hu hb
 have hpt:PatV (S ++ [.row [u] 42]) (.agg [.d (.int .i64 0),.d (encB b)]) (.d (encB b)) 0 b:= .inl ⟨rfl,.inr (.inl rfl)⟩
 have hp1:=hpt.one
 obtain ⟨o,S2,⟨hF,hS,rfl⟩,hE⟩:=zY (z7j _ x c r m mk l e C mf (h0.keep hk0) no _ _ 0 b hpt (by unfold InB; omega) nd ids (hnd.keep hk0) hids hl)
 have hE:=fun {ops dst k T F Q}=>zD (ops:=ops) (dst:=dst) (l:=k) (T:=T) (F:=F) (Q:=Q) rfl hE
 simp (maxSteps:=1000000) (disch:=first|assumption|omega|rfl) only [↓gp,gc,Nat.reduceAdd,hf,hal,rA0 hal,hld,hu1,hc,zps,q41,hd1,hp1,hE,bo50]
 exact ⟨rfl,_,rfl,(Frm.keep hk0).trans hF,hS,rfl⟩
def q09 (l:Lay) (ino:Int):Prop:=1 ≤ ino∧ino ≤ l.inodes
instance {l:Lay} {ino:Int}:Decidable (q09 l ino):=by unfold q09; infer_instance
def fulL (x:UInt8):List UInt8:=List.replicate 256 x
theorem z59 {x:UInt8}:(fulL x).length=256:=by unfold fulL; rw [List.length_replicate]
theorem zyy (x:UInt8) (R:Post) : ∀ (k j:Nat) (v:V) (g1 g5 g6 g7 g8 g9 gI gF gD:V),256 - j=k→j ≤ 256→IsB v (vR (fulL x) j) →
 (∀ v j' g1 g5 g6 g7 g8 g9 gI gF gD,IsB v (fulL x)→R (.exit 0) ((.d (byD x))::g1::(.ref 0 0 0)::(.ref 1 0 0)::j'::g5::g6::g7::g8::g9::gI::gF::gD::[]) [.row [blkV (zT 256)] 42,.row [v] 42] []) →
 Wp cfg (.loop (lpOf (Tryz.f20.body.getD .skip) 0)) ((.d (byD x))::g1::(.ref 0 0 0)::(.ref 1 0 0)::(.d (.int .i64 (j:Int)))::g5::g6::g7::g8::g9::gI::gF::gD::[]) [.row [blkV (zT 256)] 42,.row [v] 42] [] R:=by
 intro k
 have htl:(fulL x).length=256:=z59
 induction k with
 | zero =>
  intro j v g1 g5 g6 g7 g8 g9 gI gF gD hk hj hv hR
  have hje:j=256:=by omega
  subst hje
  have e:vR (fulL x) 256=fulL x:=by
   have:vR (fulL x) (fulL x).length=fulL x:=by unfold vR zT; rw [List.take_length,Nat.sub_self]; simp
   rw [htl] at this; exact this
  rw [e] at hv
  have h7 : ¬ ((256:Nat):Int) < 256:=by omega
  rw [zO]
  refine zM ?_
  conv=>arg 2; whnf
  simp (maxSteps:=1000000) (disch:=first|assumption|omega|rfl) only [↓gp,gc,Nat.reduceAdd]
  exact hR _ _ _ _ _ _ _ _ _ _ _ hv
 | succ k ih =>
  intro j v g1 g5 g6 g7 g8 g9 gI gF gD hk hj hv hR
  have hlt:j < 256:=by omega
  have hlt7:(j:Int) < 256:=by omega
  have hfl:=z92 (t:=fulL x) (i:=j) (by omega)
  have h3:IntKind.i64.wrap ((j:Int) + 1)=((j + 1:Nat):Int):=by rw [wrap64 (by omega)]; omega
  have hia:=fun S j' y=>ia42 (S:=S) (j:=j') (x:=y) (i:=j) (by omega)
  have he:(fulL x)[j]'(by omega)=x:=by unfold fulL; rw [List.getElem_replicate]
  have hpt:=bt42.put hv (hfl.trans htl) (i:=j) (by omega) (x:=(fulL x)[j]'(by omega))
  rw [z83 (by omega)] at hpt
  have hpt:qY Tryz.prog 5 j (.d (byD x)) v=some (blkV (vR (fulL x) (j + 1))):=by
   rw [← hpt,he]; rfl
  rw [zO]
  refine zM ?_
  conv=>arg 2; whnf
  simp (maxSteps:=1000000) (disch:=first|assumption|omega|rfl) only [↓gp,gc,Nat.reduceAdd,h3,hia,hpt]
  exact ih (j + 1) _ _ _ _ _ _ _ _ _ _ (by omega) (by omega) isB_v hR
theorem zte (x:UInt8):Ev cfg 20 [byD x] (.ret (.d (blkD (fulL x)))):=by
 refine kB rfl rfl zy0 ?_
 show Wp cfg (Tryz.f20.body.getD .skip) ((.d (byD x))::uZ ((.tup [])::(.tup [])::[])) [] [] _
 unfold uZ
 conv=>arg 2; whnf
 simp (maxSteps:=1000000) (disch:=first|assumption|omega|rfl) only [↓gp,gc,Nat.reduceAdd,z42,zf42]
 refine zyy x _ 256 0 _ _ _ _ _ _ _ _ _ _ rfl (Nat.zero_le _) (by
  have:vR (fulL x) 0=zT 256:=by unfold vR; rw [List.take_zero,z59]; rfl
  rw [this]; exact isB_v) ?_
 intro v j' g1 g5 g6 g7 g8 g9 gI gF gD hv
 have l0:=z256
 have hld:=bt42.load hv z59
 have hv1:=hv.one
 have hst:=bt42.store hv z59 (w:=blkV (zT 256)) isB_v z256
 simp (maxSteps:=1000000) (disch:=first|assumption|omega|rfl) only [↓gp,gc,Nat.reduceAdd,hld,hv1,hst]
 exact wP (u:= .ref 0 0 0) (v:=v) rfl ((zJ rfl).trans hld) hv1 (hv.frz (n:=10))
theorem fd81 {a:Int} {b:List UInt8}:qE Tryz.prog 94 (.d (patD a b))=true:=by kernel_rfl
theorem q0y {d x y:Nat}:zS Tryz.prog 94 0 (.ref d x y)=some (.ref d x (y + 0)):=by kernel_rfl
theorem zzv {d x y:Nat}:zS Tryz.prog 94 1 (.ref d x y)=some (.ref d x (y + 1)):=by kernel_rfl

theorem zsy:IK Tryz.prog 114 3 22 (.ts []):=⟨by kernel_rfl,fun _ _=>rfl,fun _=>by kernel_rfl,by kernel_rfl⟩
section
variable {d x y c mk:Nat} {B I M e:Int}
end
def MkV (S:zA) (mf:Int→Option V) (b:Nat):Prop:= ∀ n v,mf n=some v → ∃ ms,OwnS S v 3 (qA ms)∧ms.length ≤ b
theorem MkV.own {S S':zA} {mf:Int→Option V} {b:Nat} (h:MkV S mf b) (hk : ∀ v xs,OwnS S v 3 xs→OwnS S' v 3 xs):MkV S' mf b:=fun n v hv=>by
 obtain ⟨ms,h1,h2⟩:=h n v hv
 exact ⟨ms,hk _ _ h1,h2⟩
theorem q48 {S:zA} {w:V} {ys:List Int} (h:OwnS S w 3 (qA ys)):srcV Tryz.prog S 3 22 w=some (qA ys):=by
 have he:kI S w=some (qA ys):=by
  rcases h with ⟨rfl,h2⟩ | ⟨id,rfl,h2⟩
  ·rw [h2]; rfl
  ·simp only [kI,h2,Nat.zero_add,Nat.le_refl,if_true,List.drop_zero,List.take_length]
 have hs : ∀ s,w ≠ .d (.str s):=by
  intro s hh
  rcases z0z h with h | ⟨_,_,h⟩ <;> (rw [h] at hh; cases hh)
 have hf:(qA ys).all (qE Tryz.prog 3)=true:=by
  rw [List.all_eq_true]
  intro x hx
  obtain ⟨y,_,rfl⟩:=List.mem_map.1 hx
  exact z8h y
 have h6:(sz Tryz.prog 3).isSome=true:=s3z
 unfold srcV
 split
 ·rename_i s; exact absurd rfl (hs s)
 ·simp only [Tryz.underlying22,he,hf,h6,Bool.and_self,if_true]
abbrev FrM (m mk r:Nat):zA→zA→Prop:=Frm stT [m,mk] 42 r
theorem FrS.toM {m mk r:Nat} {S S':zA} (h:FrS m r S S'):FrM m mk r S S':=h.mono (fun _ h=>h) (fun e he=>by simp only [List.contains_cons,List.contains_nil,Bool.or_false,beq_iff_eq] at he ⊢; simp [he])
theorem CacheP.setmp {S:zA} {c d r m k:Nat} {L:V} {es vs:List V} {f:Int→Option V} {z:Int} {w q:Nat} {C:CS} (h:CacheP S c d r m L es vs f z w q C) {xs:List (D × V × Nat)} {e:Nat} (hk:S[k]? = some (.mp xs e)) (hkm:k ≠ m) {o:Ob}:CacheP (S.set k o) c d r m L es vs f z w q C:=by
 have at_ : ∀ {j:Nat} {ys:List V} {t:TypeId},S[j]? = some (.row ys t)→(S.set k o)[j]? = some (.row ys t):=fun hj=>by rw [List.getElem?_set_ne (by rintro rfl; cases getE hk hj)]; exact hj
 have own : ∀ {u:V} {t:TypeId} {ys:List V},OwnS S u t ys→OwnS (S.set k o) u t ys:=fun ho=>by
  rcases ho with ho | ⟨id,p,q⟩
  ·exact .inl ho
  ·exact .inr ⟨id,p,at_ q⟩
 obtain ⟨l,kk,h1,h2⟩:=h.hm
 exact ⟨at_ h.hc,⟨l,kk,by rw [List.getElem?_set_ne hkm]; exact h1,h2⟩,⟨at_ h.dk.hd,at_ h.dk.hr,h.dk.ne⟩,h.zb,h.il,h.im,h.kn,own h.lo,h.lc.mono (fun _ _=>own) (fun _ _=>own),h.wq,h.ok,h.kl,h.dr⟩
theorem CacheAt.setmp {S:zA} {c r m k:Nat} {C:CS} (h:CacheAt S c r m C) {xs:List (D × V × Nat)} {e:Nat} (hk:S[k]? = some (.mp xs e)) (hkm:k ≠ m) {o:Ob}:CacheAt (S.set k o) c r m C:=by
 obtain ⟨d,L,es,vs,f,z,w,q,h,hq⟩:=h
 exact ⟨d,L,es,vs,f,z,w,q,h.setmp hk hkm,hq⟩
theorem zk1 (S:zA) (c r m:Nat) (C:CS) (h0:CacheAt S c r m C):EvS cfg 37 [.ref c 0 0] S (fun o S'=>Keep S S' ∧ ∃ v fs,o = .ret v∧OwnS S' v 80 fs∧ChgsV S' fs C.list):=by
 obtain ⟨d,L,es,vs,f,z,w,q,h,hq⟩:=h0
 refine qF rfl zxq ?_
 show Wp cfg (Tryz.f37.body.getD .skip) ((.ref c 0 0)::(.tup [])::(.tup [])::(.tup [])::(.tup [])::(.tup [])::(.tup [])::(.tup [])::(.tup [])::(.tup [])::[]) S [] _
 conv=>arg 2; whnf
 rw [zO]
 have hc0:rowE S c 0=some (cacV d m L C.last):=zE (e:=126) h.hc
 have hl1:=qH h.lo
 obtain ⟨o,S1,⟨hK,v,fs,rfl,ho,hc⟩,hE⟩:=zY (za7 S L es C.list h.lo h.lc (by have h1:=h.wq; have h2:=h.ok.last; have h3:=h.lc.1; omega) C.img.length C.last h.ok.last h.ok.chs (.ts []) [] (.inl ⟨rfl,rfl⟩) (Nat.zero_le _))
 have hE:=fun {ops dst k T F Q}=>zD (ops:=ops) (dst:=dst) (l:=k) (T:=T) (F:=F) (Q:=Q) rfl hE
 simp (maxSteps:=1000000) (disch:=first|assumption|omega|rfl) only [↓gp,gc,Nat.reduceAdd,z3o,z15,hc0,lc2,hl1,hE,bo89]
 refine ⟨rfl,_,rfl,hK,v,fs,rfl,ho,?_⟩
 have e:(C.list.filter fun ch=>decide (ch.id ∉ ([]:List Int)))=C.list:=by simp
 rw [← e]; exact hc
structure AllP (S:zA) (y x c r m mk gm:Nat) (l:Lay) (e:Int) (C:CS) (mf gf:Int→Option V) (gl:Int→List Int) (b:Nat):Prop where
 hy:S[y]? = some (.row [allV x gm] 116)
 sp:StoreP S x c r m mk l e C mf
 gp:MpI S gm gf
 gv : ∀ n,OwnS S ((gf n).getD (.ts [])) 3 (qA (gl n))
 gb : ∀ n,(gl n).length ≤ b
 n1:gm ≠ m
 n2:gm ≠ mk
section
variable {S S':zA} {y x c r m mk gm:Nat} {l:Lay} {e:Int} {C:CS} {mf gf:Int→Option V} {gl:Int→List Int} {b:Nat}
theorem AllP.keep (h:AllP S y x c r m mk gm l e C mf gf gl b) (hk:Keep S S'):AllP S' y x c r m mk gm l e C mf gf gl b:=⟨hk _ _ h.hy,h.sp.keep hk,hk.map h.gp,fun n=>hk.own (h.gv n),h.gb,h.n1,h.n2⟩
theorem AllP.seen (h:AllP S y x c r m mk gm l e C mf gf gl b):SeenAt S S.length y x c r m mk gm l e C:=⟨h.hy,h.sp.hx,CacheIn.of h.sp.ca⟩
theorem AllP.frC (h:AllP S y x c r m mk gm l e C mf gf gl b) (hF:FrC m r S S') {C':CS} (hc:CacheAt S' c r m C') (hi:C'.img.length=C.img.length):AllP S' y x c r m mk gm l e C' mf gf gl b :=
 ⟨hF.row h.hy rfl,h.sp.step hF hc hi,hF.map h.gp (by have:=h.n1; simpa using this),fun n=>hF.own (h.gv n) rfl,h.gb,h.n1,h.n2⟩
theorem AllP.frS (h:AllP S y x c r m mk gm l e C mf gf gl b) (hF:FrS m r S S') {e':Int} {C':CS} (hs:StoreP S' x c r m mk l e' C' mf):AllP S' y x c r m mk gm l e' C' mf gf gl b :=
 ⟨hF.row h.hy rfl,hs,hF.map h.gp (by have:=h.n1; simpa using this),fun n=>hF.own (h.gv n) rfl,h.gb,h.n1,h.n2⟩
end
def vP (l:List Chg) (gs:List Int):List Int:=(l.filter fun ch=>decide (ch.id ∈ gs)).map (·.id)
theorem z6m {l:List Chg} {ch:Chg} {gs:List Int}:vP (l ++ [ch]) gs=vP l gs ++ if ch.id ∈ gs then [ch.id] else []:=by
 unfold vP
 rw [List.filter_append,List.map_append]
 congr 1
 by_cases h:ch.id ∈ gs <;> simp [h]
theorem zcx {l:List Chg} {gs:List Int}:(vP l gs).length ≤ l.length:=by
 unfold vP
 rw [List.length_map]
 exact List.length_filter_le ..
theorem ztu (y gm a7 n:Nat) (x:Nat) (no id:Int) (c1 c2:Int) (dv nv:V) (S0:zA) (v17 v18 v19 v28:V) (gs:List Int) (hg:OwnS S0 v28 3 (qA gs)) (hgl:gs.length ≤ 17592186044416) (out:List Int) (hol:out.length ≤ 200000) (R:Post) (B0:Nat) (hB0:B0 ≤ S0.length) (S:zA) (hK:Keep S0 S)
  (h7:S[a7]? = some (.row [.agg [.d (.int .i64 id),.d (.int .i64 c1),.d (.int .i64 c2),dv,nv]] 80)) (v5:V) (hN : ∀ j,j < B0→NotAt v5 j) (ho:OwnS S v5 3 (qA out)) :
 ∀ (k i:Nat) (g2 g3 g4 g6 g8 g9 gI gF gD gB gC gA gE gK gN gJ gH gO gP gT gQ gV gW gX gY gZ gh gj gk gn gr gz hH hU hY:V),gs.length - i=k→i ≤ gs.length→id ∉ gs.take i →
 (∀ S' v5' i' g2 g3 g4 g6 g8 g9 gI gF gD gB gC gA gE gK gN gJ gH gO gP gT gQ gV gW gX gY gZ gh gj gk gn gr gz hH hU hY,(∀ j o,j < B0→S[j]? = some o→S'[j]? = some o)→S.length ≤ S'.length→(∀ j,j < B0→NotAt v5' j)→OwnS S' v5' 3 (qA (out ++ if id ∈ gs then [id] else []))→R (.exit 2) ((.ref y 0 0)::(.d (.int .i64 no))::g2::g3::g4::v5'::g6::(.ref a7 0 0)::g8::g9::gI::gF::gD::gB::gC::gA::gE::v17::v18::v19::gK::gN::gJ::gH::gO::gP::gT::gQ::v28::(.d (.int .i64 (gs.length:Int)))::i'::gV::gW::gX::gY::gZ::gh::gj::gk::gn::gr::gz::hH::hU::hY::[]) S' []) →
 Wp cfg (.loop (lpOf (Tryz.f44.body.getD .skip) 2)) ((.ref y 0 0)::(.d (.int .i64 no))::g2::g3::g4::v5::g6::(.ref a7 0 0)::g8::g9::gI::gF::gD::gB::gC::gA::gE::v17::v18::v19::gK::gN::gJ::gH::gO::gP::gT::gQ::v28::(.d (.int .i64 (gs.length:Int)))::(.d (.int .i64 (i:Int)))::gV::gW::gX::gY::gZ::gh::gj::gk::gn::gr::gz::hH::hU::hY::[]) S [] R:=by
 intro k
 induction k with
 | zero =>
  intro i g2 g3 g4 g6 g8 g9 gI gF gD gB gC gA gE gK gN gJ gH gO gP gT gQ gV gW gX gY gZ gh gj gk gn gr gz hH hU hY hk hi hn hR
  have hie:i=gs.length:=by omega
  subst hie
  rw [List.take_length] at hn
  rw [zO]
  refine zM ?_
  conv=>arg 2; whnf
  simp (maxSteps:=1000000) (disch:=first|assumption|omega|rfl) only [↓gp,gc,Nat.reduceAdd]
  exact hR _ _ _ _ _ _ _ _ _ _ _ _ _ _ _ _ _ _ _ _ _ _ _ _ _ _ _ _ _ _ _ _ _ _ _ _ _ _ (fun _ _ _ h=>h) (Nat.le_refl _) hN (by rw [if_neg hn,List.append_nil]; exact ho)
 | succ k ih =>
  intro i g2 g3 g4 g6 g8 g9 gI gF gD gB gC gA gE gK gN gJ gH gO gP gT gQ gV gW gX gY gZ gh gj gk gn gr gz hH hU hY hk hi hn hR
  have hlt:i < gs.length:=by omega
  have h3:IntKind.i64.wrap ((i:Int) + 1)=((i + 1:Nat):Int):=by rw [wrap64 (by omega)]; omega
  obtain ⟨q,hix,hre,_⟩:=kT Tryz.underlying22 s3z (hK.own hg) (i:=i) (by rw [qD]; exact hlt)
  have hre:rowE S q i=some (.d (.int .i64 gs[i])):=by rw [hre]; simp [qA]
  have hr7:=zE (e:=80) h7
  rw [zO]
  refine zM ?_
  conv=>arg 2; whnf
  by_cases h:gs[i]=id
  ·have hde : ∀ i':Decidable (gs[i]=id),@decide (gs[i]=id) i'=true:=fun i'=>decide_eq_true h
   have hmem:id ∈ gs:=by rw [← h]; exact List.getElem_mem hlt
   obtain ⟨v',S',c,hap,ho',hfr,hlen⟩:=ap22 gs[i] ho (by omega)
   simp (maxSteps:=1000000) (disch:=first|assumption|omega|rfl) only [↓gp,gc,Nat.reduceAdd,hix,hre,ld3r,vO,hr7,vB,hde,hap]
   refine hR S' v' _ _ _ _ _ _ _ _ _ _ _ _ _ _ _ _ _ _ _ _ _ _ _ _ _ _ _ _ _ _ _ _ _ _ _ _ (fun j o hj hjo=>(hfr j o hjo (hN j hj)).1) hlen (fun j hj=>(hfr j _ (List.getElem?_eq_getElem (Nat.lt_of_lt_of_le hj (Nat.le_trans hB0 hK.len))) (hN j hj)).2) ?_
   rw [if_pos hmem,← h]; exact ho'
  ·have hde : ∀ i':Decidable (gs[i]=id),@decide (gs[i]=id) i'=false:=fun i'=>decide_eq_false h
   simp (maxSteps:=1000000) (disch:=first|assumption|omega|rfl) only [↓gp,gc,Nat.reduceAdd,hix,hre,ld3r,vO,hr7,vB,hde,h3]
   refine ih (i + 1) _ _ _ _ _ _ _ _ _ _ _ _ _ _ _ _ _ _ _ _ _ _ _ _ _ _ _ _ _ _ _ _ _ _ _ (by omega) (by omega) ?_ hR
   rw [jZ hlt]
   intro hh
   rcases List.mem_append.1 hh with hh | hh
   ·exact hn hh
   ·rw [List.mem_singleton] at hh
    exact h hh.symm
theorem ztb (y x c r m mk gm:Nat) (l:Lay) (e:Int) (C:CS) (mf gf:Int→Option V) (gl:Int→List Int) (b:Nat) (S0:zA) (h:AllP S0 y x c r m mk gm l e C mf gf gl b) (hb:b ≤ 17592186044416) (hll:C.list.length ≤ 150000) (no:Int) (v17:V) (fs:List V) (hv17:OwnS S0 v17 80 fs) (hfs:ChgsV S0 fs C.list) (R:Post) :
 ∀ (k i:Nat) (S:zA) (v5 g2 g3 g4 g6 g7 g8 g9 gI gF gD gB gC gA gE gK gN gJ gH gO gP gT gQ gU gR gS gV gW gX gY gZ gh gj gk gn gr gz hH hU hY:V),C.list.length - i=k→i ≤ C.list.length→Keep S0 S→(∀ j,j < S0.length→NotAt v5 j)→OwnS S v5 3 (qA (vP (C.list.take i) (gl no))) →
 (∀ S v5 i' g2 g3 g4 g6 g7 g8 g9 gI gF gD gB gC gA gE gK gN gJ gH gO gP gT gQ gU gR gS gV gW gX gY gZ gh gj gk gn gr gz hH hU hY,Keep S0 S→(∀ j,j < S0.length→NotAt v5 j)→OwnS S v5 3 (qA (vP C.list (gl no)))→R (.exit 0) ((.ref y 0 0)::(.d (.int .i64 no))::g2::g3::g4::v5::g6::g7::g8::g9::gI::gF::gD::gB::gC::gA::gE::v17::(.d (.int .i64 (C.list.length:Int)))::i'::gK::gN::gJ::gH::gO::gP::gT::gQ::gU::gR::gS::gV::gW::gX::gY::gZ::gh::gj::gk::gn::gr::gz::hH::hU::hY::[]) S []) →
 Wp cfg (.loop (lpOf (Tryz.f44.body.getD .skip) 0)) ((.ref y 0 0)::(.d (.int .i64 no))::g2::g3::g4::v5::g6::g7::g8::g9::gI::gF::gD::gB::gC::gA::gE::v17::(.d (.int .i64 (C.list.length:Int)))::(.d (.int .i64 (i:Int)))::gK::gN::gJ::gH::gO::gP::gT::gQ::gU::gR::gS::gV::gW::gX::gY::gZ::gh::gj::gk::gn::gr::gz::hH::hU::hY::[]) S [] R:=by
 intro k
 have hle:=hfs.1
 induction k with
 | zero =>
  intro i S v5 g2 g3 g4 g6 g7 g8 g9 gI gF gD gB gC gA gE gK gN gJ gH gO gP gT gQ gU gR gS gV gW gX gY gZ gh gj gk gn gr gz hH hU hY hk hi hK hN ho hR
  have hie:i=C.list.length:=by omega
  subst hie
  rw [List.take_length] at ho
  rw [zO]
  refine zM ?_
  conv=>arg 2; whnf
  simp (maxSteps:=1000000) (disch:=first|assumption|omega|rfl) only [↓gp,gc,Nat.reduceAdd]
  exact hR _ _ _ _ _ _ _ _ _ _ _ _ _ _ _ _ _ _ _ _ _ _ _ _ _ _ _ _ _ _ _ _ _ _ _ _ _ _ _ _ _ _ hK hN ho
 | succ k ih =>
  intro i S v5 g2 g3 g4 g6 g7 g8 g9 gI gF gD gB gC gA gE gK gN gJ gH gO gP gT gQ gU gR gS gV gW gX gY gZ gh gj gk gn gr gz hH hU hY hk hi hK hN ho hR
  have hlt:i < C.list.length:=by omega
  have hlt2:i < fs.length:=by omega
  obtain ⟨id',hix,hre,_⟩:=kT u119 s122 (hK.own hv17) hlt2
  obtain ⟨dv,nv,he,hd5,hn3⟩:=hfs.2 i fs[i] C.list[i] (List.getElem?_eq_getElem hlt2) (List.getElem?_eq_getElem hlt)
  rw [he] at hre
  have h3:IntKind.i64.wrap ((i:Int) + 1)=((i + 1:Nat):Int):=by rw [wrap64 (by omega)]; omega
  have hS:=h.keep hK
  have hry:=fun l=>zE (e:=116) ((Keep.refl.app (S:=S) (S':=S) (l:=l)) _ _ hS.hy)
  have hlk:=fun l=>(((Keep.refl.app (S:=S) (S':=S) (l:=l)).map hS.gp).look zsy no).2
  have hgv:=hS.gv no
  have hgb:=hS.gb no
  have hgv0:=h.gv no
  generalize (gf no).getD (.ts [])=v28 at *
  have hv28:=qH hgv
  have hln:=fun l=>(kE (S:=S ++ l) Tryz.underlying22 ((Keep.refl.app (S:=S) (S':=S) (l:=l)).own hgv))
  simp only [qD] at hln
  have htk:C.list.take (i + 1)=C.list.take i ++ [C.list[i]]:=jZ hlt
  have hgl:(vP (C.list.take i) (gl no)).length ≤ 150000:=Nat.le_trans zcx (by rw [List.length_take]; omega)
  generalize ha:S.length=a
  rw [zO]
  refine zM ?_
  conv=>arg 2; whnf
  simp (maxSteps:=1000000) (disch:=first|assumption|omega|rfl) only [↓gp,gc,Nat.reduceAdd,hix,hre,z28,z122,z27,z3n,ha,rA0 ha,pA0 ha,z6b,hry,z2c,hlk,hv28,hln]
  refine ztu y gm a 0 x no C.list[i].id C.list[i].no C.list[i].at_ dv nv S0 _ _ _ v28 (gl no) hgv0 (by omega) _ (by omega) _ S0.length (Nat.le_refl _) _ hK.app (by rw [List.getElem?_append_right (by omega),ha,Nat.sub_self]; rfl) v5 hN ((Keep.refl.app (S:=S) (S':=S)).own ho) (gl no).length 0 _ _ _ _ _ _ _ _ _ _ _ _ _ _ _ _ _ _ _ _ _ _ _ _ _ _ _ _ _ _ _ _ _ _ _ rfl (Nat.zero_le _) (by simp) ?_
  intro S' v5' i' g2 g3 g4 g6 g8 g9 gI gF gD gB gC gA gE gK gN gJ gH gO gP gT gQ gV gW gX gY gZ gh gj gk gn gr gz hH hU hY hK2 hl2 hN2 ho2
  simp (maxSteps:=1000000) (disch:=first|assumption|omega|rfl) only [↓gp,gc,Nat.reduceAdd,h3]
  refine ih (i + 1) S' v5' _ _ _ _ _ _ _ _ _ _ _ _ _ _ _ _ _ _ _ _ _ _ _ _ _ _ _ _ _ _ _ _ _ _ _ _ _ _ _ (by omega) (by omega) (fun j o hj=>hK2 j o (zQ hj) (hK.app _ _ hj)) hN2 ?_ hR
  rw [htk,z6m]
  exact ho2
theorem zfs (S:zA) (y x c r m mk gm:Nat) (l:Lay) (e:Int) (C:CS) (mf gf:Int→Option V) (gl:Int→List Int) (b:Nat) (h:AllP S y x c r m mk gm l e C mf gf gl b) (hb:b ≤ 17592186044416) (no:Int) :
  EvS cfg 44 [.ref y 0 0,.d (.int .i64 no)] S (fun o S'=>Keep S S' ∧ ∃ v,o = .ret v∧(∀ j,j < S.length→NotAt v j)∧OwnS S' v 3 (qA (vP C.list (gl no)))):=by
 refine qF rfl q05 ?_
 show Wp cfg (Tryz.f44.body.getD .skip) ((.ref y 0 0)::(.d (.int .i64 no))::uZ (uZ (uZ (uZ ((.tup [])::(.tup [])::(.tup [])::[]))))) S [] _
 unfold uZ
 conv=>arg 2; whnf
 rw [zO]
 have hry:=zE (e:=116) h.hy
 have hch:=fun {ops dst k T F Q}=>zD (ops:=ops) (dst:=dst) (l:=k) (T:=T) (F:=F) (Q:=Q) rfl (z3k S x c mk l.blocks l.inodes l.merge e h.sp.hx)
 obtain ⟨o,S1,⟨hK,v,fs,rfl,ho,hc⟩,hE⟩:=zY (zk1 S c r m C h.sp.ca)
 have hE:=fun {ops dst k T F Q}=>zD (ops:=ops) (dst:=dst) (l:=k) (T:=T) (F:=F) (Q:=Q) rfl hE
 have hln:zL Tryz.prog S1 .len [74] [v]=some (.val (.d (.int .i64 (C.list.length:Int))) S1 0):=by rw [kE u119 ho,hc.1]
 have hll:C.list.length ≤ 150000:=by
  obtain ⟨_,_,_,_,_,_,_,_,g,_⟩:=h.sp.ca
  have h1:=g.wq
  have h2:=g.ok.last
  omega
 simp (maxSteps:=1000000) (disch:=first|assumption|omega|rfl) only [↓gp,gc,Nat.reduceAdd,z9o,wV,hry,jY,hch,bo25,hE,bo37,hln]
 refine ztb y x c r m mk gm l e C mf gf gl b S1 (h.keep hK) hb hll no v fs ho hc _ C.list.length 0 S1 (.ts []) _ _ _ _ _ _ _ _ _ _ _ _ _ _ _ _ _ _ _ _ _ _ _ _ _ _ _ _ _ _ _ _ _ _ _ _ _ _ _ rfl (Nat.zero_le _) Keep.refl (fun j _=>NotAt.ts) (.inl ⟨rfl,rfl⟩) ?_
 intro S2 v5 i' g2 g3 g4 g6 g7 g8 g9 gI gF gD gB gC gA gE gK gN gJ gH gO gP gT gQ gU gR gS gV gW gX gY gZ gh gj gk gn gr gz hH hU hY hK2 hN2 ho2
 have h51:=qH ho2
 simp (maxSteps:=1000000) (disch:=first|assumption|omega|rfl) only [↓gp,gc,Nat.reduceAdd,h51]
 exact ⟨rfl,_,rfl,hK.trans hK2,v5,rfl,fun j hj=>hN2 j (Nat.lt_of_lt_of_le hj hK.len),ho2⟩
def bitP (C:CS) (no:Nat) (on:Bool):List UInt8:=[setB (C.see 1) no on]
theorem zrg (S:zA) (y x c r m mk gm:Nat) (l:Lay) (e:Int) (C:CS) (mf gf:Int→Option V) (gl:Int→List Int) (b:Nat) (h:AllP S y x c r m mk gm l e C mf gf gl b) (hb:InB l.blocks) (hi:InB l.inodes) (hm:MayL l) (no:Nat) (hno:no < 2048) (on:Bool) (nd:V) (ids:List Int) (hnd:IntsV S nd ids) (hids:ids.length ≤ 17592186044416) (hl:C.last < 100000) :
  EvS cfg 65 [.ref y 0 0,.d (.int .i64 (no:Int)),.d (.bool on),nd] S (fun o S'=>FrS m r S S'∧StoreP S' x c r m mk l (spE e C 1 ((no / 8:Nat):Int) (bitP C no on) ids) (spC e C 1 ((no / 8:Nat):Int) (bitP C no on) ids) mf∧o = .ret (.d (.int .i64 (spI e C 1 ((no / 8:Nat):Int) (bitP C no on) ids)))):=by
 refine qF rfl q0u ?_
 show Wp cfg (Tryz.f65.body.getD .skip) ((.ref y 0 0)::(.d (.int .i64 (no:Int)))::(.d (.bool on))::nd::uZ (uZ ((.tup [])::(.tup [])::[]))) S [] _
 unfold uZ
 conv=>arg 2; whnf
 rw [zO]
 have hry:=zE (e:=116) h.hy
 have h1B:1 < C.img.length:=by have:=hm.1; have:=h.sp.hB; omega
 obtain ⟨o,S1,⟨hK,v,rfl,hv⟩,hE1⟩:=zY (z5w S x c mk l.blocks l.inodes l.merge e h.sp.hx)
 have hview:=fun {ops base K ws cs i dst T}=>qW (ops:=ops) (base:=base) (K:=K) (ws:=ws) (cs:=cs) (i:=i) (dst:=dst) (T:=T) rfl hE1
 have hv1:v.one=true:=by obtain ⟨g,rfl,_⟩:=hv; rfl
 obtain ⟨o,S2,⟨hF,hC,u,rfl,hu⟩,hE2⟩:=zY (z50 S1 v S.length c r m l.blocks l.inodes l.merge C ((CacheIn.of h.sp.ca).keep hK) hv h.sp.hB 1 h1B)
 simp only [nl1] at hE2
 have hbk:=fun {ops base K ws cs i dst T}=>qW (ops:=ops) (base:=base) (K:=K) (ws:=ws) (cs:=cs) (i:=i) (dst:=dst) (T:=T) rfl hE2
 have hsl:=hC.at.ok.see_len h1B
 have hu1:=hu.one
 have hF2:FrC m r S S2:=(Frm.keep hK).trans hF
 have h2:StoreP S2 x c r m mk l e C mf:=h.sp.step hF2 hC.at rfl
 have hpt:=fun {ops base K ws cs i dst T S}=>zqo (ops:=ops) (base:=base) (K:=K) (ws:=ws) (cs:=cs) (i:=i) (dst:=dst) (T:=T) (S:=S) (on:=on) hu hsl hno
 have hnd2:IntsV S2 nd ids:=by
  rcases hnd with h | h | h
  ·exact .inl h
  ·exact .inr (.inl h)
  ·exact .inr (.inr (hF2.own h rfl))
 obtain ⟨o,S3,⟨hF3,h3,rfl⟩,hE3⟩:=zY (z7j S2 x c r m mk l e C mf h2 1 (.d (patD ((no / 8:Nat):Int) (bitP C no on))) (.d (encB (bitP C no on))) ((no / 8:Nat):Int) (bitP C no on) (.inr ⟨rfl,rfl⟩) (by unfold InB; omega) nd ids hnd2 hids hl)
 have hput:=fun {ops base K ws cs i dst T}=>qW (ops:=ops) (base:=base) (K:=K) (ws:=ws) (cs:=cs) (i:=i) (dst:=dst) (T:=T) rfl hE3
 unfold bitP at *
 have hd1:=hnd.one
 have hry1:=zE (e:=116) (hK _ _ h.hy)
 have hry2:=zE (e:=116) (hF2.row h.hy rfl)
 simp (maxSteps:=1000000) (disch:=first|assumption|omega|rfl) only [↓gp,gc,Nat.reduceAdd]
 refine qP (is:=[0,1,2,3,5,6,7,8,12,13,15,4,9,10,11,14,16,17]) (h:=0) (by kernel_rfl) (by kernel_rfl) ?_
 simp (maxSteps:=1000000) (disch:=first|assumption|omega|rfl) only [List.replicate_zero,eq_self,gw,ga,Nat.reduceAdd,↓gq,vso,List.append_nil,hry,qV,kK,wV,jY,zm8,bo77,hview,bo27,hv1,hbk,bo49,hu1,hpt,zzk,hd1,hput,bo50]
 refine ⟨?_,?_,?_,by kernel_rfl,?_⟩
 ·exact zF (by kernel_rfl) (zF (by kernel_rfl) (zX rfl (by kernel_rfl) rfl (wG ((zJ hry1).trans jY)) (by simp [wR,qU,qN]) zW))
 ·exact zF (by kernel_rfl) (zF (by kernel_rfl) (zF (by kernel_rfl) (zX rfl (by kernel_rfl) rfl (wG ((zJ hry2).trans jY)) (by simp [wR,qU,qN]) zW)))
 ·repeat first | exact zW | refine zF (by kernel_rfl) ?_
 simp (maxSteps:=1000000) (disch:=first|assumption|omega|rfl) only [↓gp,gc,Nat.reduceAdd]
 exact ⟨rfl,_,rfl,hF2.toS.trans hF3,h3,rfl⟩
theorem dlM {S S':zA} {m:Nat} {x:Int} (h:z0i Tryz.prog S 114 (.mr m) (.d (.int .i64 x))=some S'):zL Tryz.prog S .delete [114,3] [.mr m,.d (.int .i64 x)]=some (.val (.tup []) S' 3):=by
 simp only [zL,h,Option.map_some]
noncomputable def bs2 (S : zA) (v w : V) : Option Rs := opV Tryz.prog S [v, w] ⟨none, .buildSlice 22 2 #[(0, .tmp 0), (1, .tmp 1)], 0, "", #[], none⟩
theorem zre {S:zA} {T:List V} {x y:Operand} {dst:Option Tmp} {ty:TypeId} {pos:String} {after:Array Edge} {g:Option (Nat × Bool)}:opV Tryz.prog S T ⟨dst,.buildSlice 22 2 #[(0,x),(1,y)],ty,pos,after,g⟩=bs2 S (zG T x) (zG T y):=rfl
theorem q03 {S:zA} {a b:Int}:bs2 S (.d (.int .i64 a)) (.d (.int .i64 b))=some (.val (.ts [.int .i64 a,.int .i64 b]) S 0):=by kernel_rfl
theorem srcI {S:zA} {w:V} {ys:List Int} (h:IntsV S w ys):srcV Tryz.prog S 3 22 w=some (qA ys):=by
 have hf:((ys.map (D.int .i64)).map V.d).all (qE Tryz.prog 3)=true:=by
  rw [List.all_eq_true]
  intro x hx
  obtain ⟨y,hy,rfl⟩:=List.mem_map.1 hx
  obtain ⟨z,_,rfl⟩:=List.mem_map.1 hy
  exact z8h z
 have h6:(sz Tryz.prog 3).isSome=true:=s3z
 have e:(ys.map (D.int .i64)).map V.d=qA ys:=by unfold qA; rw [List.map_map]; rfl
 rw [e] at hf
 rcases h with rfl | rfl | h
 ·show srcV Tryz.prog S 3 22 (.d (.sl (ys.map (D.int .i64))))=_
  simp only [srcV,Tryz.underlying22,kI,hf,h6,Bool.and_self,if_true,e]
 ·simp only [srcV,Tryz.underlying22,kI,hf,h6,Bool.and_self,if_true,e]
 ·exact q48 h
theorem appI {S:zA} {v w:V} {xs ys:List Int} (ho:OwnS S v 3 (qA xs)) (hw:IntsV S w ys) (hl:xs.length + ys.length ≤ 17592186044416) :
  ∃ v' S' k,qM Tryz.prog S 22 22 v w=some (v',S',k)∧((k=1∧S'=S) ∨ k=2 ∨ k=3)∧OwnS S' v' 3 (qA (xs ++ ys)) ∧ ∀ j o,S[j]? = some o→NotAt v j→S'[j]? = some o∧NotAt v' j:=by
 have src:=srcI hw
 cases ys with
 | nil =>
  rw [List.append_nil]
  refine ⟨v,S,1,?_,.inl ⟨rfl,rfl⟩,ho,fun j o hj hn=>⟨hj,hn⟩⟩
  have e:qA []=[]:=rfl
  rw [e] at src
  rcases z0z ho with rfl | ⟨i,k,rfl⟩ <;> simp only [qM,Tryz.underlying22,src]
 | cons y r =>
  have hz:zOk Tryz.prog 3=true:=zpg
  have e:qA (y::r) = .d (.int .i64 y)::qA r:=rfl
  rw [e] at src
  have hr:room Tryz.prog 3 (xs.length + ((qA r).length + 1))=true:=zyw (by rw [qD]; simp at hl; omega)
  have hcat:qA (xs ++ y::r)=qA xs ++ (.d (.int .i64 y)::qA r):=by unfold qA; simp
  have hlen:(qA (xs ++ y::r)).length=xs.length + ((qA r).length + 1):=by rw [qD,qD]; simp
  rcases ho with ⟨rfl,h0⟩ | ⟨id,rfl,h1⟩
  ·have hx0:xs=[]:=by
    have:=congrArg List.length h0
    rw [qD] at this
    exact List.length_eq_zero_iff.1 this
   subst hx0
   refine ⟨.rs S.length 0 ((qA r).length + 1),S ++ [.row (.d (.int .i64 y)::qA r) 3],2,?_,.inr (.inl rfl),?_,fun j o hj hn=>⟨by rw [List.getElem?_append_left (zQ hj)]; exact hj,fun off k hh=>by have:=zQ hj; cases hh; omega⟩⟩
   ·have hr':room Tryz.prog 3 ((qA r).length + 1)=true:=by simpa using hr
    simp only [qM,Tryz.underlying22,src,hz,if_true,List.all_nil,List.length_nil,Nat.zero_add,hr',Bool.and_self,List.map_nil,List.nil_append]
   ·refine .inr ⟨S.length,?_,?_⟩
    ·rw [hlen]; simp
    ·rw [List.getElem?_append_right (Nat.le_refl _),Nat.sub_self]; rfl
  ·refine ⟨.rs S.length 0 (xs.length + ((qA r).length + 1)),S.set id .dead ++ [.row (qA xs ++ .d (.int .i64 y)::qA r) 3],3,?_,.inr (.inr rfl),?_,fun j o hj hn=>⟨?_,fun off k hh=>by have:=zQ hj; cases hh; omega⟩⟩
   ·have hxl:(qA xs).length=xs.length:=qD
    simp only [qM,Tryz.underlying22,src,hz,if_true,h1,hxl,Nat.le_refl,hr,decide_true,Bool.and_self]
    rw [← hxl,List.take_length]
   ·refine .inr ⟨S.length,?_,?_⟩
    ·rw [hlen]
    ·rw [List.getElem?_append_right (by rw [List.length_set]; exact Nat.le_refl _),List.length_set,Nat.sub_self,hcat]; rfl
   ·have hjl:=zQ hj
    rw [List.getElem?_append_left (by rw [List.length_set]; exact hjl),List.getElem?_set_ne (by rintro rfl; exact hn _ _ rfl)]
    exact hj
theorem AllP.setgm {S:zA} {y x c r m mk gm:Nat} {l:Lay} {e:Int} {C:CS} {mf gf gf':Int→Option V} {gl gl':Int→List Int} {b b':Nat} (h:AllP S y x c r m mk gm l e C mf gf gl b) {o:Ob} (hm:MpI (S.set gm o) gm gf') (gv : ∀ n,OwnS S ((gf' n).getD (.ts [])) 3 (qA (gl' n))) (gb : ∀ n,(gl' n).length ≤ b'):AllP (S.set gm o) y x c r m mk gm l e C mf gf' gl' b':=by
 obtain ⟨L,cc,h1,_⟩:=h.gp
 have at_ : ∀ {j:Nat} {ys:List V} {t:TypeId},S[j]? = some (.row ys t)→(S.set gm o)[j]? = some (.row ys t):=fun hj=>by rw [List.getElem?_set_ne (by rintro rfl; cases getE h1 hj)]; exact hj
 refine ⟨at_ h.hy,⟨at_ h.sp.hx,h.sp.ca.setmp h1 h.n1,?_,h.sp.ne,h.sp.hB⟩,hm,fun n=>?_,gb,h.n1,h.n2⟩
 ·exact h.sp.mp.keep (List.getElem?_set_ne h.n2)
 ·rcases gv n with ho | ⟨id,p,q⟩
  ·exact .inl ho
  ·exact .inr ⟨id,p,at_ q⟩
theorem AllP.frgm {S S':zA} {y x c r m mk gm:Nat} {l:Lay} {e:Int} {C:CS} {mf gf:Int→Option V} {gl:Int→List Int} {b:Nat} (h:AllP S' y x c r m mk gm l e C mf gf gl b) (hF:FrM m gm r S S') (h0 : ∃ L cc,S[gm]? = some (.mp L cc)) {o:Ob}:FrM m gm r S (S'.set gm o):=by
 refine hF.set fun q hq=>?_
 obtain ⟨L,cc,h1⟩:=h0
 cases getE hq h1
 simp [calm]
def bitC (C:CS) (no:Nat) (on:Bool) (ids:List Int):CS:=C.put 1 ((no / 8:Nat):Int) (bitP C no on) (z2a C (noZ ids))
theorem zh6 {C:CS} {no:Nat} {on:Bool} {ids:List Int} (h1:1 < C.img.length) (hno:no < 2048) (hid : ∀ x ∈ noZ ids,1 ≤ x∧x ≤ (C.last:Int)):putE C 1 ((no / 8:Nat):Int) (bitP C no on) (noZ ids)=0:=by
 unfold putE
 have hp:kL ((no / 8:Nat):Int) (bitP C no on):=by
  unfold kL bitP
  refine ⟨?_,?_,?_,?_⟩ <;> simp <;> omega
 rw [if_neg (fun hh=>hh hp),if_neg (fun hh=>hh hid),if_neg (by omega)]
def takE (C:CS) (no:Nat) (bb:List UInt8) (gs ids:List Int):Int:=spE 0 (bitC C no true []) (no:Int) 0 bb (vP (bitC C no true []).list gs ++ ids)
def takC (C:CS) (no:Nat) (bb:List UInt8) (gs ids:List Int):CS:=spC 0 (bitC C no true []) (no:Int) 0 bb (vP (bitC C no true []).list gs ++ ids)
theorem zlz (S:zA) (y x c r m mk gm:Nat) (l:Lay) (C:CS) (mf gf:Int→Option V) (gl:Int→List Int) (b:Nat) (h:AllP S y x c r m mk gm l 0 C mf gf gl b) (hbb:b ≤ 17592186044416) (hb:InB l.blocks) (hi:InB l.inodes) (hm:MayL l) (D:Nat) (hD:2 + l.inodes.tdiv 8=(D:Int)) (N:Nat) (hN:l.blocks=N) (u:V) (bb:List UInt8) (hu:IsB u bb) (hul:bb.length=256) (nd:V) (ids:List Int) (hnd:IntsV S nd ids) (hids:ids.length ≤ 17592186000000) (hl:C.last < 20000) (no:Nat) (t:List Nat) (hfr:frB (C.see 1) D N=no::t) :
  EvS cfg 19 [.ref y 0 0,u,nd] S (fun o S'=>FrM m gm r S S'∧(∃ gf',AllP S' y x c r m mk gm l (takE C no bb (gl no) ids) (takC C no bb (gl no) ids) mf gf' (fun n=>if n=(no:Int) then [] else gl n) b) ∧
   o = .ret (if takE C no bb (gl no) ids ≠ 0 then .tup [.d (.int .i64 0),.ts []] else .tup [.d (.int .i64 (no:Int)),.ts [.int .i64 ((C.last:Int) + 1),.int .i64 ((C.last:Int) + 2)]])):=by
 refine qF rfl zrc ?_
 show Wp cfg (Tryz.f19.body.getD .skip) ((.ref y 0 0)::u::nd::uZ (uZ (uZ (uZ (uZ ((.tup [])::(.tup [])::(.tup [])::(.tup [])::[])))))) S [] _
 unfold uZ
 conv=>arg 2; whnf
 rw [zO]
 generalize ha:S.length=a
 have hf:=bt42.fits hu hul
 have hld:=bt42.load hu hul
 have hu1:=hu.one
 have hd1:=hnd.one
 have h1B:1 < C.img.length:=by have:=hm.1; have:=h.sp.hB; omega
 have hk0:Keep S (S ++ [.row [u] 42]):=Keep.refl.app
 have h0:=h.keep hk0
 obtain ⟨o,S1,⟨rfl,hC1,hF1⟩,hE⟩:=zY (zmc _ _ y x c r m mk gm l 0 C h0.seen h0.sp.hB hb hi hm D hD N hN)
 have hnx:=fun {ops dst k T F Q}=>zD (ops:=ops) (dst:=dst) (l:=k) (T:=T) (F:=F) (Q:=Q) rfl hE
 rw [hfr] at hnx
 have hde : ∀ i:Decidable (no::t ≠ []),@decide (no::t ≠ []) i=true:=fun i=>decide_eq_true (by simp)
 simp only [List.headD_cons,hde] at hnx
 have h1:=h0.frC hF1 hC1.at rfl
 have her:=fun {ops dst k T F Q}=>zD (ops:=ops) (dst:=dst) (l:=k) (T:=T) (F:=F) (Q:=Q) rfl (z4l S1 x c mk _ _ _ 0 h1.sp.hx)
 have hmem:no ∈ frB (C.see 1) D N:=by rw [hfr]; simp
 have hnoN:no < N:=by
  unfold frB at hmem
  exact List.mem_range.1 (List.mem_filter.1 hmem).1
 have hN512:N ≤ 512:=by have:=hm.2.1; omega
 have hpe:putE C 1 ((no / 8:Nat):Int) (bitP C no true) (noZ [])=0:=zh6 h1B (by omega) (by intro x hx; cases hx)
 obtain ⟨o,S2,⟨hF2,h2s,rfl⟩,hE2⟩:=zY (zrg S1 y x c r m mk gm l 0 C mf gf gl b h1 hb hi hm no (by omega) true (.ts []) [] (.inr (.inl rfl)) (Nat.zero_le _) (by omega))
 have e1:spE 0 C 1 ((no / 8:Nat):Int) (bitP C no true) []=0:=by unfold spE; rw [if_neg (fun h=>h rfl),hpe]
 have e2:spC 0 C 1 ((no / 8:Nat):Int) (bitP C no true) []=bitC C no true []:=by unfold spC bitC; rw [if_neg (fun h=>h rfl),if_neg (fun hh=>hh hpe)]
 have e3:spI 0 C 1 ((no / 8:Nat):Int) (bitP C no true) []=(C.last:Int) + 1:=by unfold spI; rw [if_neg (fun h=>h rfl),if_neg (fun hh=>hh hpe)]
 rw [e1,e2] at h2s
 rw [e3] at hE2
 have hbit:=fun {ops dst k T F Q}=>zD (ops:=ops) (dst:=dst) (l:=k) (T:=T) (F:=F) (Q:=Q) rfl hE2
 have h2:=h1.frS hF2 h2s
 have hC1l:(bitC C no true []).last=C.last + 1:=rfl
 have hC1n:(bitC C no true []).img=C.img:=rfl
 unfold takE takC
 generalize hCC:bitC C no true []=C1 at *
 obtain ⟨o,S3,⟨hK3,v38,rfl,hN3,ho3⟩,hE3⟩:=zY (zfs S2 y x c r m mk gm l 0 C1 mf gf gl b h2 hbb no)
 have hgone:=fun {ops base K ws cs i dst T}=>qW (ops:=ops) (base:=base) (K:=K) (ws:=ws) (cs:=cs) (i:=i) (dst:=dst) (T:=T) rfl hE3
 have hv38:=qH ho3
 have hF02:FrM m gm r (S ++ [.row [u] 42]) S2:=FrS.toM (mk:=gm) (Frm.trans hF1.toS hF2)
 have h3:=h2.keep hK3
 have hnd3:IntsV S3 nd ids:=by
  rcases hnd with h | h | h
  ·exact .inl h
  ·exact .inr (.inl h)
  ·exact .inr (.inr (hK3.own (hF02.own (hk0.own h) rfl)))
 have hgl:(vP C1.list (gl (no:Int))).length ≤ 20102:=by
  refine Nat.le_trans zcx ?_
  obtain ⟨_,_,_,_,_,_,_,_,g,_⟩:=h3.sp.ca
  have:=g.wq
  omega
 obtain ⟨v40,S4,kk,hap,hkk,ho4,hfr4⟩:=appI ho3 hnd3 (by omega)
 have hK4:Keep S2 S4:=fun j p hj=>(hfr4 j p (hK3 j p hj) (hN3 j (zQ hj))).1
 have h4:=h2.keep hK4
 have hv40:=qH ho4
 obtain ⟨o,S5,⟨hF5,h5s,rfl⟩,hE5⟩:=zY (zo6 S4 x c r m mk l 0 C1 mf h4.sp (no:Int) u bb hu hul v40 (vP C1.list (gl (no:Int)) ++ ids) (.inr (.inr ho4)) (by simp; omega) (by omega))
 have hfill:=fun {ops base K ws cs i dst T}=>qW (ops:=ops) (base:=base) (K:=K) (ws:=ws) (cs:=cs) (i:=i) (dst:=dst) (T:=T) rfl hE5
 have h5:=h4.frS hF5 h5s
 generalize hce:spE 0 C1 (no:Int) 0 bb (vP C1.list (gl (no:Int)) ++ ids)=ee at *
 generalize hcc:spC 0 C1 (no:Int) 0 bb (vP C1.list (gl (no:Int)) ++ ids)=C2 at *
 have hryk:=fun {S':zA} (hh:AllP S' y x c r m mk gm l 0 C1 mf gf gl b)=>zE (e:=116) hh.hy
 have hry1:=zE (e:=116) h1.hy
 have hry2:=hryk h2
 have hry3:=hryk h3
 have hry4:=hryk h4
 have hry5:=zE (e:=116) h5.hy
 have hu0:(S ++ [Ob.row [u] 42])[a]? = some (.row [u] 42):=by rw [List.getElem?_append_right (by omega),ha,Nat.sub_self]; rfl
 have har:a ≠ r:=by
  have:=h.sp.ca.rn
  omega
 have hu2:S2[a]? = some (.row [u] 42):=hF02.row hu0 (by simp [har])
 have hru2:=zE (e:=42) hu2
 have hru3:=zE (e:=42) (hK3 _ _ hu2)
 have hru4:=zE (e:=42) (hK4 _ _ hu2)
 have hus:=zbb hu
 have hw1 : ∀ {i:Nat} {ws:Ws},True:=fun {_ _}=>trivial
 have hde0 : ∀ i:Decidable ((0:Int) ≠ 0),@decide ((0:Int) ≠ 0) i=false:=fun i=>decide_eq_false (fun h=>h rfl)
 simp (maxSteps:=1000000) (disch:=first|assumption|omega|rfl) only [↓gp,gc,Nat.reduceAdd,hf,ha,hnx,bo43,jQ,Bool.not_true,hry1,wV,jY,her,bo45,hde0,z93,hbit,bo65]
 refine Wp.mono (Q:=fun x T' S' F'=>x = .norm∧F'=[]∧S'=S5 ∧ ∃ w11 g1 g2 g3 g4 g5 g9 gD gB gC gA gE gL gM gG gK gN gJ gH gO gP gT gQ gU gR gS gV gW gX gY gZ gh gj gk gn gr gz hH hU hY hZ xA xB xC xD xE xF xG xH xI xJ xK,w11=V.d (.int .i64 (spI 0 C1 (no:Int) 0 bb (vP C1.list (gl (no:Int)) ++ ids)))∧T'=((.ref y 0 0)::g1::g2::g3::g4::g5::(.d (.int .i64 0))::(.ts [])::(.d (.int .i64 (no:Int)))::g9::(.d (.int .i64 ((C.last:Int) + 1)))::w11::gD::gB::gC::gA::gE::gL::gM::gG::gK::gN::gJ::gH::gO::gP::gT::gQ::gU::gR::gS::gV::gW::gX::gY::gZ::gh::gj::gk::gn::gr::gz::hH::hU::hY::hZ::xA::xB::xC::xD::xE::xF::xG::xH::xI::xJ::xK::[])) ?_ ?_
 ·rcases hkk with ⟨rfl,rfl⟩ | rfl | rfl
  ·refine qP (is:=[0,1,2,3,4,5,6,7,9,8,10,11,12]) (h:=0) (by kernel_rfl) (by kernel_rfl) ?_
   simp (maxSteps:=1000000) (disch:=first|assumption|omega|rfl) only [List.replicate_zero,eq_self,gw,ga,Nat.reduceAdd,↓gq,vso,List.append_nil,hry2,qV,kK,wV,jY,hru2,hld,hu1,hgone,bo44,hv38,hd1,hap,hv40,hfill,bo66]
   refine ⟨zX rfl (by kernel_rfl) rfl (wG ((zJ hru3).trans hld)) hus (zX rfl (by kernel_rfl) rfl (wG ((zJ hry3).trans jY)) (by simp [wR,qU,qN]) zW),zF (by kernel_rfl) (zF (by kernel_rfl) (zF (by kernel_rfl) zW)),by kernel_rfl,?_⟩
   exact ⟨trivial,trivial,trivial,_,_,_,_,_,_,_,_,_,_,_,_,_,_,_,_,_,_,_,_,_,_,_,_,_,_,_,_,_,_,_,_,_,_,_,_,_,_,_,_,_,_,_,_,_,_,_,_,_,_,_,_,rfl,rfl⟩
  ·refine qP (is:=[0,1,2,3,4,5,6,7,9,8,10,11,12]) (h:=0) (by kernel_rfl) (by kernel_rfl) ?_
   simp (maxSteps:=1000000) (disch:=first|assumption|omega|rfl) only [List.replicate_zero,eq_self,gw,ga,Nat.reduceAdd,↓gq,vso,List.append_nil,hry2,qV,kK,wV,jY,hru2,hld,hu1,hgone,bo44,hv38,hd1,hap,hv40,hfill,bo66]
   refine ⟨zX rfl (by kernel_rfl) rfl (wG ((zJ hru3).trans hld)) hus (zX rfl (by kernel_rfl) rfl (wG ((zJ hry3).trans jY)) (by simp [wR,qU,qN]) zW),zX rfl (by kernel_rfl) rfl (wG ((zJ hru4).trans hld)) hus (zX rfl (by kernel_rfl) rfl (wG ((zJ hry4).trans jY)) (by simp [wR,qU,qN]) zW),zF (by kernel_rfl) (zF (by kernel_rfl) zW),by kernel_rfl,?_⟩
   exact ⟨trivial,trivial,trivial,_,_,_,_,_,_,_,_,_,_,_,_,_,_,_,_,_,_,_,_,_,_,_,_,_,_,_,_,_,_,_,_,_,_,_,_,_,_,_,_,_,_,_,_,_,_,_,_,_,_,_,_,rfl,rfl⟩
  ·refine qP (is:=[0,1,2,3,4,5,6,7,9,8,10,11,12]) (h:=0) (by kernel_rfl) (by kernel_rfl) ?_
   simp (maxSteps:=1000000) (disch:=first|assumption|omega|rfl) only [List.replicate_zero,eq_self,gw,ga,Nat.reduceAdd,↓gq,vso,List.append_nil,hry2,qV,kK,wV,jY,hru2,hld,hu1,hgone,bo44,hv38,hd1,hap,hv40,hfill,bo66]
   refine ⟨zX rfl (by kernel_rfl) rfl (wG ((zJ hru3).trans hld)) hus (zX rfl (by kernel_rfl) rfl (wG ((zJ hry3).trans jY)) (by simp [wR,qU,qN]) zW),zX rfl (by kernel_rfl) rfl (wG ((zJ hru4).trans hld)) hus (zX rfl (by kernel_rfl) rfl (wG ((zJ hry4).trans jY)) (by simp [wR,qU,qN]) zW),zF (by kernel_rfl) (zF (by kernel_rfl) zW),by kernel_rfl,?_⟩
   exact ⟨trivial,trivial,trivial,_,_,_,_,_,_,_,_,_,_,_,_,_,_,_,_,_,_,_,_,_,_,_,_,_,_,_,_,_,_,_,_,_,_,_,_,_,_,_,_,_,_,_,_,_,_,_,_,_,_,_,_,rfl,rfl⟩
 ·rintro _ _ S5 _ ⟨rfl,rfl,rfl,w11,g1,g2,g3,g4,g5,g9,gD,gB,gC,gA,gE,gL,gM,gG,gK,gN,gJ,gH,gO,gP,gT,gQ,gU,gR,gS,gV,gW,gX,gY,gZ,gh,gj,gk,gn,gr,gz,hH,hU,hY,hZ,xA,xB,xC,xD,xE,xF,xG,xH,xI,xJ,xK,rfl,rfl⟩
  obtain ⟨om,hdl,hm6,es6,cc6,rfl⟩:=h5.gp.del zsy (no:Int)
  have hdl:=dlM hdl
  have h6:=h5.setgm (gl':=fun n=>if n=(no:Int) then [] else gl n) (b':=b) hm6 (fun n=>by
   unfold updI
   by_cases hn:n=(no:Int)
   ·rw [if_pos hn]; simp only [hn,if_true]; exact .inl ⟨rfl,rfl⟩
   ·rw [if_neg hn]; simp only [hn,if_false]; exact h5.gv n) (fun n=>by
   by_cases hn:n=(no:Int)
   ·simp only [hn,if_true]; exact Nat.zero_le _
   ·simp only [hn,if_false]; exact h5.gb n)
  have hry6:=zE (e:=116) h6.hy
  have hF06:FrM m gm r S (S5.set gm (.mp es6 cc6)):=by
   refine h5.frgm ?_ (by obtain ⟨L,cc,e,_⟩:=h.gp; exact ⟨_,cc,e⟩)
   exact (Frm.keep hk0).trans (hF02.trans ((FrS.toM (mk:=gm) ((FrC.toS (Frm.keep hK4)).trans hF5))))
  generalize S5.set gm (Ob.mp es6 cc6)=S6 at *
  have her6:=fun {ops dst k T F Q}=>zD (ops:=ops) (dst:=dst) (l:=k) (T:=T) (F:=F) (Q:=Q) rfl (z4l S6 x c mk _ _ _ ee h6.sp.hx)
  by_cases hee:ee=0
  ·have hde6 : ∀ i:Decidable (ee ≠ 0),@decide (ee ≠ 0) i=false:=fun i=>decide_eq_false (fun h=>h hee)
   have hsp:spI 0 C1 (no:Int) 0 bb (vP C1.list (gl (no:Int)) ++ ids)=(C.last:Int) + 2:=by
    unfold spE at hce
    rw [if_neg (fun h=>h rfl)] at hce
    unfold spI
    rw [if_neg (fun h=>h rfl),if_neg (fun hh=>hh (by rw [hce]; exact hee)),hC1l]
    omega
   rw [hsp]
   simp (maxSteps:=1000000) (disch:=first|assumption|omega|rfl) only [↓gp,gc,Nat.reduceAdd,↓vbs,hry5,z6b,z2c,hdl,hry6,wV,jY,her6,bo45,hde6,zre,q03]
   refine ⟨rfl,_,z11 rfl rfl rfl rfl,hF06,⟨_,h6⟩,?_⟩
   rw [if_neg (fun h=>h hee)]
   rfl
  ·have hde6 : ∀ i:Decidable (ee ≠ 0),@decide (ee ≠ 0) i=true:=fun i=>decide_eq_true hee
   simp (maxSteps:=1000000) (disch:=first|assumption|omega|rfl) only [↓gp,gc,Nat.reduceAdd,↓vbs,hry5,z6b,z2c,hdl,hry6,wV,jY,her6,bo45,hde6]
   refine ⟨rfl,_,z11 rfl rfl rfl rfl,hF06,⟨_,h6⟩,?_⟩
   rw [if_pos hee]
   rfl
theorem zje (S:zA) (y x c r m mk gm:Nat) (l:Lay) (e:Int) (C:CS) (mf gf:Int→Option V) (gl:Int→List Int) (b:Nat) (h:AllP S y x c r m mk gm l e C mf gf gl b) (hb:InB l.blocks) (hi:InB l.inodes) (hm:MayL l) (D:Nat) (hD:2 + l.inodes.tdiv 8=(D:Int)) (N:Nat) (hN:l.blocks=N) (u:V) (bb:List UInt8) (hu:IsB u bb) (hul:bb.length=256) (nd:V) (hor:frB (C.see 1) D N=[] ∨ e ≠ 0) :
  EvS cfg 19 [.ref y 0 0,u,nd] S (fun o S'=>FrC m r S S'∧AllP S' y x c r m mk gm l e C mf gf gl b∧o = .ret (.tup [.d (.int .i64 0),.ts []])):=by
 refine qF rfl zrc ?_
 show Wp cfg (Tryz.f19.body.getD .skip) ((.ref y 0 0)::u::nd::uZ (uZ (uZ (uZ (uZ ((.tup [])::(.tup [])::(.tup [])::(.tup [])::[])))))) S [] _
 unfold uZ
 conv=>arg 2; whnf
 rw [zO]
 generalize ha:S.length=a
 have hf:=bt42.fits hu hul
 have hk0:Keep S (S ++ [.row [u] 42]):=Keep.refl.app
 have h0:=h.keep hk0
 obtain ⟨o,S1,⟨rfl,hC1,hF1⟩,hE⟩:=zY (zmc _ _ y x c r m mk gm l e C h0.seen h0.sp.hB hb hi hm D hD N hN)
 have hnx:=fun {ops dst k T F Q}=>zD (ops:=ops) (dst:=dst) (l:=k) (T:=T) (F:=F) (Q:=Q) rfl hE
 have h1:=h0.frC hF1 hC1.at rfl
 have her:=fun {ops dst k T F Q}=>zD (ops:=ops) (dst:=dst) (l:=k) (T:=T) (F:=F) (Q:=Q) rfl (z4l S1 x c mk _ _ _ e h1.sp.hx)
 have hry1:=zE (e:=116) h1.hy
 cases hfr:frB (C.see 1) D N with
 | nil =>
  rw [hfr] at hnx
  have hde : ∀ i:Decidable (([]:List Nat) ≠ []),@decide (([]:List Nat) ≠ []) i=false:=fun i=>decide_eq_false (fun h=>h rfl)
  simp only [hde] at hnx
  simp (maxSteps:=1000000) (disch:=first|assumption|omega|rfl) only [↓gp,gc,Nat.reduceAdd,hf,ha,hnx,bo43,jQ,Bool.not_false,z93]
  exact ⟨rfl,_,z11 rfl rfl rfl rfl,(Frm.keep hk0).trans hF1,h1,rfl⟩
 | cons no t =>
  rw [hfr] at hnx hor
  have he:e ≠ 0:=by
   rcases hor with hor | hor
   ·cases hor
   ·exact hor
  have hde : ∀ i:Decidable (no::t ≠ []),@decide (no::t ≠ []) i=true:=fun i=>decide_eq_true (by simp)
  simp only [hde] at hnx
  have hde2 : ∀ i:Decidable (e ≠ 0),@decide (e ≠ 0) i=true:=fun i=>decide_eq_true he
  simp (maxSteps:=1000000) (disch:=first|assumption|omega|rfl) only [↓gp,gc,Nat.reduceAdd,hf,ha,hnx,bo43,jQ,Bool.not_true,hry1,wV,jY,her,bo45,hde2,z93]
  exact ⟨rfl,_,z11 rfl rfl rfl rfl,(Frm.keep hk0).trans hF1,h1,rfl⟩
theorem zmh (l:Lay) (hb:InB l.blocks) (hi:InB l.inodes) (hm:MayL l) (no:Int):Ev cfg 69 [encLay l,.int .i64 no] (.ret (.d (.bool (decide (2 + l.inodes.tdiv 8 ≤ no∧no < l.blocks))))):=by
 refine kB rfl rfl q1u ?_
 show Wp cfg (Tryz.f69.body.getD .skip) ((.d (encLay l))::(.d (.int .i64 no))::uZ ((.tup [])::(.tup [])::(.tup [])::(.tup [])::(.tup [])::(.tup [])::(.tup [])::[])) [] [] _
 unfold uZ
 conv=>arg 2; whnf
 have hok : ∀ {ops dst k T S F Q},WpR cfg ops dst k T S F Q (some (.enter 109 [.d (encLay l)]))=WpL cfg ops k (putT T dst (.d (.bool true))) S F Q:=fun {ops dst k T S F Q}=>qJ (ds:=[encLay l]) rfl (ztv l hb hi hm)
 have hdt : ∀ {ops dst k T S F Q},WpR cfg ops dst k T S F Q (some (.enter 108 [.d (encLay l)]))=WpL cfg ops k (putT T dst (.d (.int .i64 (2 + l.inodes.tdiv 8)))) S F Q:=fun {ops dst k T S F Q}=>qJ (ds:=[encLay l]) rfl (zbg l hb hi hm)
 by_cases h1:no ≥ 2 + l.inodes.tdiv 8
 ·have e:decide (2 + l.inodes.tdiv 8 ≤ no∧no < l.blocks)=decide (no < l.blocks):=by
   by_cases h2:no < l.blocks
   ·rw [decide_eq_true h2,decide_eq_true ⟨h1,h2⟩]
   ·rw [decide_eq_false h2,decide_eq_false (fun h=>h2 h.2)]
  rw [e]
  simp (maxSteps:=1000000) (disch:=first|assumption|omega|rfl) only [↓gp,gc,Nat.reduceAdd,lr32,z04,z10,hok,zjp,hdt,z9r,zP]
  exact zU rfl rfl rfl
 ·rw [decide_eq_false (fun h=>h1 h.1)]
  simp (maxSteps:=1000000) (disch:=first|assumption|omega|rfl) only [↓gp,gc,Nat.reduceAdd,lr32,z04,z10,hok,zjp,hdt,z9r,zP]
  exact zU rfl rfl rfl
theorem z8a {ops:Array Oper} {dst:Option Tmp} {k:List Oper} {T:List V} {S:zA} {F:Dfs} {Q:Post} {l:Lay} (hb:InB l.blocks) (hi:InB l.inodes) (hm:MayL l) {no:Int}:WpR cfg ops dst k T S F Q (some (.enter 69 [.agg [.d (.int .i64 l.blocks),.d (.int .i64 l.inodes),.d (.int .u64 l.merge)],.d (.int .i64 no)]))=WpL cfg ops k (putT T dst (.d (.bool (decide (2 + l.inodes.tdiv 8 ≤ no∧no < l.blocks))))) S F Q :=
 wA (ds:=[encLay l,.int .i64 no]) rfl rfl rfl (zmh l hb hi hm no)
theorem zeg (S:zA) (y x c r m mk gm:Nat) (l:Lay) (e:Int) (C:CS) (mf gf:Int→Option V) (gl:Int→List Int) (b:Nat) (h:AllP S y x c r m mk gm l e C mf gf gl b) (hb:InB l.blocks) (hi:InB l.inodes) (hm:MayL l) (no:Int) (nd:V) (hor : ¬ (2 + l.inodes.tdiv 8 ≤ no∧no < l.blocks) ∨ z3m l C no=false ∨ e ≠ 0) :
  EvS cfg 23 [.ref y 0 0,.d (.int .i64 no),nd] S (fun o S'=>FrC m r S S'∧AllP S' y x c r m mk gm l e C mf gf gl b∧o = .ret (.d (.int .i64 0))):=by
 refine qF rfl zrm ?_
 show Wp cfg (Tryz.f23.body.getD .skip) ((.ref y 0 0)::(.d (.int .i64 no))::nd::uZ (uZ (uZ (uZ ((.tup [])::(.tup [])::(.tup [])::(.tup [])::(.tup [])::[]))))) S [] _
 unfold uZ
 conv=>arg 2; whnf
 rw [zO]
 have hry:=zE (e:=116) h.hy
 obtain ⟨o,S1,⟨hK,v,rfl,hv⟩,hE1⟩:=zY (z5w S x c mk l.blocks l.inodes l.merge e h.sp.hx)
 have hview:=fun {ops dst k T F Q}=>zD (ops:=ops) (dst:=dst) (l:=k) (T:=T) (F:=F) (Q:=Q) rfl hE1
 have hv0:=hv
 obtain ⟨gg,rfl,hg⟩:=hv
 generalize ha1:S1.length=a1
 have hKa:Keep S (S1 ++ [.row [kO l.blocks l.inodes l.merge gg] 55]):=hK.app
 have hid:=fun {ops dst k T S F Q}=>z8a (ops:=ops) (dst:=dst) (k:=k) (T:=T) (S:=S) (F:=F) (Q:=Q) (no:=no) hb hi hm
 by_cases c1:2 + l.inodes.tdiv 8 ≤ no∧no < l.blocks
 case neg =>
  have hde : ∀ i:Decidable (2 + l.inodes.tdiv 8 ≤ no∧no < l.blocks),@decide (2 + l.inodes.tdiv 8 ≤ no∧no < l.blocks) i=false:=fun i=>decide_eq_false c1
  simp only [hde] at hid
  simp (maxSteps:=1000000) (disch:=first|assumption|omega|rfl) only [↓gp,gc,Nat.reduceAdd,z9o,wV,hry,jY,hview,bo27,z52,zf52,z7a,ha1,rA0 ha1,pA0 ha1,sr52,z0l,z5j,lr52,hid,bo69,jQ,Bool.not_false]
  exact ⟨rfl,_,rfl,Frm.keep hKa,h.keep hKa,rfl⟩
 have hde : ∀ i:Decidable (2 + l.inodes.tdiv 8 ≤ no∧no < l.blocks),@decide (2 + l.inodes.tdiv 8 ≤ no∧no < l.blocks) i=true:=fun i=>decide_eq_true c1
 simp only [hde] at hid
 have h2:=h.keep hKa
 obtain ⟨o,S3,⟨hF3,hC3,w,rfl,rfl⟩,hE3⟩:=zY (zlh (S1 ++ [.row [kO l.blocks l.inodes l.merge gg] 55]) _ _ c r m l C (CacheIn.of h2.sp.ca) (hv0.keep Keep.refl.app) h.sp.hB hb hi hm no)
 have hus:=fun {ops dst k T F Q}=>zD (ops:=ops) (dst:=dst) (l:=k) (T:=T) (F:=F) (Q:=Q) rfl hE3
 have h3:=h2.frC hF3 hC3.at rfl
 have hF03:FrC m r S S3:=(Frm.keep hKa).trans hF3
 have hry3:=zE (e:=116) h3.hy
 have her:=fun {ops dst k T F Q}=>zD (ops:=ops) (dst:=dst) (l:=k) (T:=T) (F:=F) (Q:=Q) rfl (z4l S3 x c mk _ _ _ e h3.sp.hx)
 cases hu:z3m l C no with
 | false =>
  rw [hu] at hus
  simp (maxSteps:=1000000) (disch:=first|assumption|omega|rfl) only [↓gp,gc,Nat.reduceAdd,z9o,wV,hry,jY,hview,bo27,z52,zf52,z7a,ha1,rA0 ha1,pA0 ha1,sr52,z0l,z5j,lr52,hid,bo69,jQ,Bool.not_true,Bool.not_false,hus,bo28]
  exact ⟨rfl,_,rfl,hF03,h3,rfl⟩
 | true =>
  rw [hu] at hus hor
  have he:e ≠ 0:=by
   rcases hor with hor | hor | hor
   ·exact absurd c1 hor
   ·cases hor
   ·exact hor
  have hde2 : ∀ i:Decidable (e ≠ 0),@decide (e ≠ 0) i=true:=fun i=>decide_eq_true he
  simp (maxSteps:=1000000) (disch:=first|assumption|omega|rfl) only [↓gp,gc,Nat.reduceAdd,z9o,wV,hry,jY,hview,bo27,z52,zf52,z7a,ha1,rA0 ha1,pA0 ha1,sr52,z0l,z5j,lr52,hid,bo69,jQ,Bool.not_true,Bool.not_false,hus,bo28,hry3,her,bo45,hde2]
  exact ⟨rfl,_,rfl,hF03,h3,rfl⟩
theorem zji (S:zA) (y x c r m mk gm:Nat) (l:Lay) (C:CS) (mf gf:Int→Option V) (gl:Int→List Int) (b:Nat) (h:AllP S y x c r m mk gm l 0 C mf gf gl b) (hb:InB l.blocks) (hi:InB l.inodes) (hm:MayL l) (no:Nat) (nd:V) (ids:List Int) (hnd:IntsV S nd ids) (hids:ids.length ≤ 17592186000000) (hl:C.last < 100000) (c1:2 + l.inodes.tdiv 8 ≤ (no:Int)∧(no:Int) < l.blocks) (hu:z3m l C no=true) :
  EvS cfg 23 [.ref y 0 0,.d (.int .i64 (no:Int)),nd] S (fun o S'=>FrM m gm r S S'∧(∃ gf',AllP S' y x c r m mk gm l (spE 0 C 1 ((no / 8:Nat):Int) (bitP C no false) ids) (spC 0 C 1 ((no / 8:Nat):Int) (bitP C no false) ids) mf gf' (fun n=>if n=(no:Int) then ids else gl n) (max b ids.length))∧o = .ret (.d (.int .i64 (spI 0 C 1 ((no / 8:Nat):Int) (bitP C no false) ids)))):=by
 refine qF rfl zrm ?_
 show Wp cfg (Tryz.f23.body.getD .skip) ((.ref y 0 0)::(.d (.int .i64 (no:Int)))::nd::uZ (uZ (uZ (uZ ((.tup [])::(.tup [])::(.tup [])::(.tup [])::(.tup [])::[]))))) S [] _
 unfold uZ
 conv=>arg 2; whnf
 rw [zO]
 have hry:=zE (e:=116) h.hy
 obtain ⟨o,S1,⟨hK,v,rfl,hv⟩,hE1⟩:=zY (z5w S x c mk l.blocks l.inodes l.merge 0 h.sp.hx)
 have hview:=fun {ops dst k T F Q}=>zD (ops:=ops) (dst:=dst) (l:=k) (T:=T) (F:=F) (Q:=Q) rfl hE1
 have hv0:=hv
 obtain ⟨gg,rfl,hg⟩:=hv
 generalize ha1:S1.length=a1
 have hKa:Keep S (S1 ++ [.row [kO l.blocks l.inodes l.merge gg] 55]):=hK.app
 have hid:=fun {ops dst k T S F Q}=>z8a (ops:=ops) (dst:=dst) (k:=k) (T:=T) (S:=S) (F:=F) (Q:=Q) (no:=(no:Int)) hb hi hm
 have hde : ∀ i:Decidable (2 + l.inodes.tdiv 8 ≤ (no:Int)∧(no:Int) < l.blocks),@decide (2 + l.inodes.tdiv 8 ≤ (no:Int)∧(no:Int) < l.blocks) i=true:=fun i=>decide_eq_true c1
 simp only [hde] at hid
 have h2:=h.keep hKa
 obtain ⟨o,S3,⟨hF3,hC3,w,rfl,rfl⟩,hE3⟩:=zY (zlh (S1 ++ [.row [kO l.blocks l.inodes l.merge gg] 55]) _ _ c r m l C (CacheIn.of h2.sp.ca) (hv0.keep Keep.refl.app) h.sp.hB hb hi hm (no:Int))
 have hus:=fun {ops dst k T F Q}=>zD (ops:=ops) (dst:=dst) (l:=k) (T:=T) (F:=F) (Q:=Q) rfl hE3
 rw [hu] at hus
 have h3:=h2.frC hF3 hC3.at rfl
 have hF03:FrC m r S S3:=(Frm.keep hKa).trans hF3
 have hry3:=zE (e:=116) h3.hy
 have her:=fun {ops dst k T F Q}=>zD (ops:=ops) (dst:=dst) (l:=k) (T:=T) (F:=F) (Q:=Q) rfl (z4l S3 x c mk _ _ _ 0 h3.sp.hx)
 have hde0 : ∀ i:Decidable ((0:Int) ≠ 0),@decide ((0:Int) ≠ 0) i=false:=fun i=>decide_eq_false (fun h=>h rfl)
 have hfI : ∀ {S':zA},FrC m r S S'→IntsV S' nd ids:=fun {S'} hF=>by
  rcases hnd with h | h | h
  ·exact .inl h
  ·exact .inr (.inl h)
  ·exact .inr (.inr (hF.own h rfl))
 have h512:=hm.2.1
 obtain ⟨o,S4,⟨hF4,h4s,rfl⟩,hE4⟩:=zY (zrg S3 y x c r m mk gm l 0 C mf gf gl b h3 hb hi hm no (by omega) false nd ids (hfI hF03) (by omega) hl)
 have hbit:=fun {ops dst k T F Q}=>zD (ops:=ops) (dst:=dst) (l:=k) (T:=T) (F:=F) (Q:=Q) rfl hE4
 have h4:=h3.frS hF4 h4s
 have hd1:=hnd.one
 have hnd4:IntsV S4 nd ids:=by
  rcases hfI hF03 with h | h | h
  ·exact .inl h
  ·exact .inr (.inl h)
  ·exact .inr (.inr (hF4.own h rfl))
 generalize spE 0 C 1 ((no / 8:Nat):Int) (bitP C no false) ids=e' at *
 generalize spC 0 C 1 ((no / 8:Nat):Int) (bitP C no false) ids=C' at *
 generalize spI 0 C 1 ((no / 8:Nat):Int) (bitP C no false) ids=id' at *
 have hry4:=zE (e:=116) h4.hy
 obtain ⟨v46,S5,kk,hap,hkk,ho5,hfr5⟩:=appI (S:=S4) (v:= .ts []) (xs:=[]) (.inl ⟨rfl,rfl⟩) hnd4 (by simp; omega)
 have hK5:Keep S4 S5:=fun j p hj=>(hfr5 j p hj NotAt.ts).1
 have h5:=h4.keep hK5
 have hry5:=zE (e:=116) h5.hy
 have hv46:=qH ho5
 rw [List.nil_append] at ho5
 obtain ⟨om,hup,hm6,es6,cc6,rfl⟩:=h5.gp.put zsy (no:Int) (v:=v46) hv46
 have h6:=h5.setgm (gl':=fun n=>if n=(no:Int) then ids else gl n) (b':=max b ids.length) hm6 (fun n=>by
  unfold updI
  by_cases hn:n=(no:Int)
  ·rw [if_pos hn]; simp only [hn,if_true]; exact ho5
  ·rw [if_neg hn]; simp only [hn,if_false]; exact h5.gv n) (fun n=>by
  by_cases hn:n=(no:Int)
  ·simp only [hn,if_true]; omega
  ·simp only [hn,if_false]; have:=h5.gb n; omega)
 have hF06:FrM m gm r S (S5.set gm (.mp es6 cc6)):=by
  refine h5.frgm ?_ (by obtain ⟨L,cc,e,_⟩:=h.gp; exact ⟨_,cc,e⟩)
  exact (FrS.toM (mk:=gm) hF03.toS).trans (FrS.toM (mk:=gm) (hF4.trans (FrC.toS (Frm.keep hK5))))
 simp (maxSteps:=1000000) (disch:=first|assumption|omega|rfl) only [↓gp,gc,Nat.reduceAdd,z9o,wV,hry,jY,hview,bo27,z52,zf52,z7a,ha1,rA0 ha1,pA0 ha1,sr52,z0l,z5j,lr52,hid,bo69,jQ,Bool.not_true,Bool.not_false,hus,bo28,hry3,her,bo45,hde0,hd1,hbit,bo65]
 refine Wp.mono (Q:=fun x T' S' F'=>x = .norm∧F'=[]∧S'=S5.set gm (.mp es6 cc6) ∧ ∃ g1 g2 g3 g4 g5 g7 g9 gI gF gD gB gC gA gE gL gM gG gK gN gJ gH gO gP gT gQ gU gR gS gV gW gX gY gZ gh gj gk gn gr gz hH hU hY hZ xA xB,T'=((.ref y 0 0)::g1::g2::g3::g4::g5::(.d (.int .i64 0))::g7::(.d (.int .i64 id'))::g9::gI::gF::gD::gB::gC::gA::gE::gL::gM::gG::gK::gN::gJ::gH::gO::gP::gT::gQ::gU::gR::gS::gV::gW::gX::gY::gZ::gh::gj::gk::gn::gr::gz::hH::hU::hY::hZ::xA::xB::[])) ?_ ?_
 ·rcases hkk with ⟨rfl,rfl⟩ | rfl | rfl
  ·refine qP (is:=[0,1,2,3,4,5,6,7,8]) (h:=0) (by kernel_rfl) (by kernel_rfl) ?_
   simp (maxSteps:=1000000) (disch:=first|assumption|omega|rfl) only [List.replicate_zero,eq_self,gw,ga,Nat.reduceAdd,↓gq,vso,List.append_nil,hry4,qV,kK,z6b,z2c,zca,hd1,hap,hv46,z7n,hup]
   exact ⟨zF (by kernel_rfl) (zF (by kernel_rfl) zW),by kernel_rfl,trivial,trivial,trivial,_,_,_,_,_,_,_,_,_,_,_,_,_,_,_,_,_,_,_,_,_,_,_,_,_,_,_,_,_,_,_,_,_,_,_,_,_,_,_,_,_,_,_,_,_,rfl⟩
  ·refine qP (is:=[0,1,2,3,4,5,6,7,8]) (h:=0) (by kernel_rfl) (by kernel_rfl) ?_
   simp (maxSteps:=1000000) (disch:=first|assumption|omega|rfl) only [List.replicate_zero,eq_self,gw,ga,Nat.reduceAdd,↓gq,vso,List.append_nil,hry4,qV,kK,z6b,z2c,zca,hd1,hap,hv46,z7n,hup]
   exact ⟨zX rfl (by kernel_rfl) rfl (wG ((zJ hry5).trans z2c)) (by simp [wR,qU,qN]) zW,zF (by kernel_rfl) zW,by kernel_rfl,trivial,trivial,trivial,_,_,_,_,_,_,_,_,_,_,_,_,_,_,_,_,_,_,_,_,_,_,_,_,_,_,_,_,_,_,_,_,_,_,_,_,_,_,_,_,_,_,_,_,_,rfl⟩
  ·refine qP (is:=[0,1,2,3,4,5,6,7,8]) (h:=0) (by kernel_rfl) (by kernel_rfl) ?_
   simp (maxSteps:=1000000) (disch:=first|assumption|omega|rfl) only [List.replicate_zero,eq_self,gw,ga,Nat.reduceAdd,↓gq,vso,List.append_nil,hry4,qV,kK,z6b,z2c,zca,hd1,hap,hv46,z7n,hup]
   exact ⟨zX rfl (by kernel_rfl) rfl (wG ((zJ hry5).trans z2c)) (by simp [wR,qU,qN]) zW,zF (by kernel_rfl) zW,by kernel_rfl,trivial,trivial,trivial,_,_,_,_,_,_,_,_,_,_,_,_,_,_,_,_,_,_,_,_,_,_,_,_,_,_,_,_,_,_,_,_,_,_,_,_,_,_,_,_,_,_,_,_,_,rfl⟩
 ·rintro _ _ S6 _ ⟨rfl,rfl,hS6,g1,g2,g3,g4,g5,g7,g9,gI,gF,gD,gB,gC,gA,gE,gL,gM,gG,gK,gN,gJ,gH,gO,gP,gT,gQ,gU,gR,gS,gV,gW,gX,gY,gZ,gh,gj,gk,gn,gr,gz,hH,hU,hY,hZ,xA,xB,rfl⟩
  rw [← hS6] at h6 hF06
  simp (maxSteps:=1000000) (disch:=first|assumption|omega|rfl) only [↓gp,gc,Nat.reduceAdd]
  exact ⟨rfl,_,rfl,hF06,⟨_,h6⟩,rfl⟩

theorem zy7 (l:Lay) (hb:InB l.blocks) (hi:InB l.inodes):Ev cfg 63 [encLay l] (.ret (.d (.bool (decide (MayL l))))):=by
 refine kB rfl rfl zx8 ?_
 show Wp cfg (Tryz.f63.body.getD .skip) ((.d (encLay l))::uZ (uZ (uZ ((.tup [])::(.tup [])::(.tup [])::(.tup [])::(.tup [])::[])))) [] [] _
 unfold uZ
 conv=>arg 2; whnf
 generalize hp:decide (MayL l)=p
 have hq:=quo8 hi
 have hr:=rem8 (a:=l.inodes)
 by_cases c1:l.blocks ≥ 16
 case neg =>
  rw [decide_eq_false (fun h=>by have:=h.1; omega)] at hp; subst hp
  simp (maxSteps:=1000000) (disch:=first|assumption|omega|rfl) only [↓gp,gc,Nat.reduceAdd]
  exact zU rfl rfl rfl
 by_cases c2:l.blocks ≤ 512
 case neg =>
  rw [decide_eq_false (fun h=>by have:=h.2.1; omega)] at hp; subst hp
  simp (maxSteps:=1000000) (disch:=first|assumption|omega|rfl) only [↓gp,gc,Nat.reduceAdd]
  exact zU rfl rfl rfl
 by_cases c3:l.inodes ≥ 8
 case neg =>
  rw [decide_eq_false (fun h=>by have:=h.2.2.1; omega)] at hp; subst hp
  simp (maxSteps:=1000000) (disch:=first|assumption|omega|rfl) only [↓gp,gc,Nat.reduceAdd]
  exact zU rfl rfl rfl
 by_cases c4:l.inodes ≤ 128
 case neg =>
  rw [decide_eq_false (fun h=>by have:=h.2.2.2.1; omega)] at hp; subst hp
  simp (maxSteps:=1000000) (disch:=first|assumption|omega|rfl) only [↓gp,gc,Nat.reduceAdd]
  exact zU rfl rfl rfl
 by_cases c5:l.inodes.tmod 8=0
 case neg =>
  rw [decide_eq_false (fun h=>c5 h.2.2.2.2.1)] at hp; subst hp
  simp (maxSteps:=1000000) (disch:=first|assumption|omega|rfl) only [↓gp,gc,Nat.reduceAdd,hr]
  exact zU rfl rfl rfl
 have hd:0 ≤ l.inodes.tdiv 8∧l.inodes.tdiv 8 ≤ 16:=by
  rw [Int.tdiv_eq_ediv_of_nonneg (by omega)]; omega
 have hw:IntKind.i64.wrap (2 + l.inodes.tdiv 8)=2 + l.inodes.tdiv 8:=wrap64 (by omega)
 by_cases c6:2 + l.inodes.tdiv 8 < l.blocks
 case neg =>
  rw [decide_eq_false (fun h=>c6 h.2.2.2.2.2)] at hp; subst hp
  simp (maxSteps:=1000000) (disch:=first|assumption|omega|rfl) only [↓gp,gc,Nat.reduceAdd,hr,hq,hw,c5,zP]
  exact zU rfl rfl rfl
 rw [decide_eq_true ⟨by omega,by omega,by omega,by omega,c5,by omega⟩] at hp; subst hp
 simp (maxSteps:=1000000) (disch:=first|assumption|omega|rfl) only [↓gp,gc,Nat.reduceAdd,hr,hq,hw,c5,zP]
 exact zU rfl rfl rfl
section
variable {ops:Array Oper} {dst:Option Tmp} {k:List Oper} {T:List V} {S:zA} {F:Dfs} {Q:Post}
theorem za2 {l:Lay} (hb:InB l.blocks) (hi:InB l.inodes):WpR cfg ops dst k T S F Q (some (.enter 63 [.d (encLay l)]))=WpL cfg ops k (putT T dst (.d (.bool (decide (MayL l))))) S F Q:=qJ (ds:=[encLay l]) rfl (zy7 l hb hi)
end
theorem zmo (l:Lay) (hb:InB l.blocks) (hi:InB l.inodes):Ev cfg 16 [encLay l] (.ret (.d (.bool (decide (MayL l∧l.blocks ≤ 60))))):=by
 refine kB rfl rfl q1w ?_
 show Wp cfg (Tryz.f16.body.getD .skip) ((.d (encLay l))::(.tup [])::(.tup [])::(.tup [])::(.tup [])::(.tup [])::(.tup [])::(.tup [])::(.tup [])::(.tup [])::[]) [] [] _
 conv=>arg 2; whnf
 have hc:=fun {ops dst k T S F Q}=>za2 (ops:=ops) (dst:=dst) (k:=k) (T:=T) (S:=S) (F:=F) (Q:=Q) hb hi
 by_cases h1:MayL l
 ·rw [decide_eq_true h1] at hc
  have e:decide (MayL l∧l.blocks ≤ 60)=decide (l.blocks ≤ 60):=by simp [h1]
  rw [e]
  simp (maxSteps:=1000000) (disch:=first|assumption|omega|rfl) only [↓gp,gc,Nat.reduceAdd,lr32,z04,z10,hc,bo63]
  exact zU rfl rfl rfl
 ·rw [decide_eq_false h1] at hc
  have e:decide (MayL l∧l.blocks ≤ 60)=false:=decide_eq_false (fun h=>h1 h.1)
  rw [e]
  simp (maxSteps:=1000000) (disch:=first|assumption|omega|rfl) only [↓gp,gc,Nat.reduceAdd,lr32,z04,z10,hc,bo63]
  exact zU rfl rfl rfl
theorem zem {ops:Array Oper} {dst:Option Tmp} {k:List Oper} {T:List V} {S:zA} {F:Dfs} {Q:Post} {l:Lay} (hb:InB l.blocks) (hi:InB l.inodes):WpR cfg ops dst k T S F Q (some (.enter 16 [.d (encLay l)]))=WpL cfg ops k (putT T dst (.d (.bool (decide (MayL l∧l.blocks ≤ 60))))) S F Q:=qJ (ds:=[encLay l]) rfl (zmo l hb hi)
def z68 (l:Lay) (no:Int):Int:=if no < 0 ∨ no ≥ l.blocks then 0 else if no < 2 then no + 1 else if no < 2 + l.inodes.tdiv 8 then 3 else 4
theorem zkl {l:Lay} (hm:MayL l) {no:Int}:z68 l no=4 ↔ (2 + l.inodes.tdiv 8 ≤ no∧no < l.blocks):=by
 have h3:=hm.2.2.1
 have h4:l.inodes.tdiv 8=l.inodes / 8:=Int.tdiv_eq_ediv_of_nonneg (by omega)
 unfold z68
 split
 ·constructor <;> intro h <;> omega
 ·split
  ·constructor <;> intro h <;> omega
  ·split
   ·constructor <;> intro h <;> omega
   ·constructor <;> intro h <;> omega
theorem zsv (l:Lay) (hb:InB l.blocks) (hi:InB l.inodes) (hm:MayL l) (no:Int):Ev cfg 22 [encLay l,.int .i64 no] (.ret (.d (.int .i64 (z68 l no)))):=by
 refine kB rfl rfl zys ?_
 show Wp cfg (Tryz.f22.body.getD .skip) ((.d (encLay l))::(.d (.int .i64 no))::uZ (uZ ((.tup [])::(.tup [])::(.tup [])::(.tup [])::(.tup [])::(.tup [])::[]))) [] [] _
 unfold uZ
 conv=>arg 2; whnf
 have hc:=fun {ops dst k T S F Q}=>za2 (ops:=ops) (dst:=dst) (k:=k) (T:=T) (S:=S) (F:=F) (Q:=Q) hb hi
 rw [decide_eq_true hm] at hc
 generalize ha:z68 l no=v
 have h3:=hm.2.2.1
 have h4:l.inodes.tdiv 8=l.inodes / 8:=Int.tdiv_eq_ediv_of_nonneg (by omega)
 have h5:=hm.2.2.2.2.1
 have h6:l.inodes.tmod 8=l.inodes % 8:=Int.tmod_eq_emod_of_nonneg (by omega)
 have h7:=hm.2.1
 unfold z68 at ha
 by_cases c1:no < 0
 ·rw [if_pos (.inl c1)] at ha
  subst ha
  simp (maxSteps:=1000000) (disch:=first|assumption|omega|rfl) only [↓gp,gc,Nat.reduceAdd,lr32,hc,bo63,jQ,Bool.not_true,zP]
  exact zU rfl rfl rfl
 by_cases c2:no ≥ l.blocks
 ·rw [if_pos (.inr c2)] at ha
  subst ha
  simp (maxSteps:=1000000) (disch:=first|assumption|omega|rfl) only [↓gp,gc,Nat.reduceAdd,lr32,z04,z10,hc,bo63,jQ,Bool.not_true,zP]
  exact zU rfl rfl rfl
 rw [if_neg (by omega)] at ha
 by_cases c3:no < 2
 ·rw [if_pos c3] at ha
  subst ha
  have hw:IntKind.i64.wrap (no + 1)=no + 1:=wrap64 (by omega)
  simp (maxSteps:=1000000) (disch:=first|assumption|omega|rfl) only [↓gp,gc,Nat.reduceAdd,lr32,z04,z10,hc,bo63,jQ,Bool.not_true,zP,hw]
  exact zU rfl rfl rfl
 rw [if_neg c3] at ha
 have hw1:IntKind.i64.wrap (no - 2)=no - 2:=wrap64 (by omega)
 have hw2:IntKind.i64.wrap ((no - 2) * 8)=(no - 2) * 8:=wrap64 (by omega)
 by_cases c4:(no - 2) * 8 < l.inodes
 ·rw [if_pos (by omega)] at ha
  subst ha
  simp (maxSteps:=1000000) (disch:=first|assumption|omega|rfl) only [↓gp,gc,Nat.reduceAdd,lr32,z04,za1,z10,zjk,hc,bo63,jQ,Bool.not_true,zP,hw1,hw2]
  exact zU rfl rfl rfl
 ·rw [if_neg (by omega)] at ha
  subst ha
  simp (maxSteps:=1000000) (disch:=first|assumption|omega|rfl) only [↓gp,gc,Nat.reduceAdd,lr32,z04,za1,z10,zjk,hc,bo63,jQ,Bool.not_true,zP,hw1,hw2]
  exact zU rfl rfl rfl
theorem zoa {b:List UInt8} {i:Nat} {x:UInt8} (h:i < b.length):layB b i [x]=b.set i x:=by
 unfold layB
 rw [List.set_eq_take_append_cons_drop,if_pos h]
 simp
theorem zgb {C:CS} (hC:C.Ok) (h1:1 < C.img.length) {no:Nat} (hno:no < 2048) {on:Bool} {ids:List Int} {k:Nat}:(bitC C no on ids).see k=if k=1 then wW (C.see 1) no on else C.see k:=by
 have hl:=hC.see_len h1
 unfold bitC
 have:=zbo (C:=C) (no:=1) (a:=((no / 8:Nat):Int)) (b:=bitP C no on) (needs:=z2a C (noZ ids)) (k:=k)
 rw [show ((1:Nat):Int)=1 from rfl] at this
 rw [this]
 by_cases h:k=1
 ·subst h
  rw [if_pos rfl,if_pos rfl,Int.toNat_natCast]
  unfold bitP wW
  exact zoa (by omega)
 ·rw [if_neg (Ne.symm h),if_neg h]
theorem zjf {b d:List UInt8} (h:d.length=b.length):layB b 0 d=d:=by
 unfold layB
 simp [h]
theorem zd9 {l:List Chg}:vP l []=[]:=by unfold vP; simp
theorem zmm {C:CS} {no:Nat} {bb:List UInt8} {ids:List Int} (h1:no < C.img.length) (hb:bb.length=256) (hid : ∀ x ∈ noZ ids,1 ≤ x∧x ≤ (C.last:Int)):putE C (no:Int) 0 bb (noZ ids)=0:=by
 unfold putE
 have hp:kL 0 bb:=by unfold kL; omega
 rw [if_neg (fun hh=>hh hp),if_neg (fun hh=>hh hid),if_neg (by omega)]
theorem ze7 {C:CS} {no:Nat} {bb:List UInt8} {gs ids:List Int} (h1:no < C.img.length) (hb:bb.length=256) (hid : ∀ x ∈ noZ (vP (bitC C no true []).list gs ++ ids),1 ≤ x∧x ≤ (C.last:Int) + 1):takE C no bb gs ids=0∧takC C no bb gs ids=(bitC C no true []).put (no:Int) 0 bb (z2a (bitC C no true []) (noZ (vP (bitC C no true []).list gs ++ ids))):=by
 have hpe:putE (bitC C no true []) (no:Int) 0 bb (noZ (vP (bitC C no true []).list gs ++ ids))=0:=zmm h1 hb (fun x hx=>by have:=hid x hx; exact ⟨this.1,by show x ≤ ((C.last + 1:Nat):Int); omega⟩)
 unfold takE takC spE spC
 rw [if_neg (fun h=>h rfl),if_neg (fun h=>h rfl),if_neg (fun hh=>hh hpe)]
 exact ⟨hpe,rfl⟩
theorem zpw {C:CS} (hC:C.Ok) {no:Nat} {bb:List UInt8} {gs ids:List Int} (h1:no < C.img.length) (h11:1 < C.img.length) (hno:no < 2048) (hb:bb.length=256) (hid : ∀ x ∈ noZ (vP (bitC C no true []).list gs ++ ids),1 ≤ x∧x ≤ (C.last:Int) + 1) (hn1:no ≠ 1) (k:Nat):(takC C no bb gs ids).see k=if k=no then bb else if k=1 then wW (C.see 1) no true else C.see k:=by
 rw [(ze7 h1 hb hid).2,zbo,zgb hC h11 hno]
 by_cases h:k=no
 ·subst h
  rw [if_pos rfl,if_pos rfl,if_neg hn1]
  exact zjf (by rw [hb,hC.see_len h1])
 ·rw [if_neg (Ne.symm h),if_neg h]
theorem ldI3 {S:zA} {a:Int}:kM Tryz.prog S 3 (.d (.ptr (.int .i64 a)))=some (.d (.int .i64 a)):=by kernel_rfl
theorem ixI {S:zA} {l:List Int} {i:Nat} (h:i < l.length):zK Tryz.prog S 22 (.d (encI l)) (.d (.int .i64 (i:Int)))=some (.d (.ptr (.int .i64 l[i]))):=ix22 h
theorem lnI {S:zA} {l:List Int}:zL Tryz.prog S .len [22] [.d (encI l)]=some (.val (.d (.int .i64 (l.length:Int))) S 0):=IntsV.len (.inl rfl)
theorem zy1 (a b:List Int) (hl:a.length ≤ 1000000) (he:a.length=b.length) (R:Post) : ∀ (k i:Nat) (g2 g3 g4 g6 g7 g8 g9 gI gF gD gB gC gA gE gL gM gG gK gN gJ gH gO gP:V),a.length - i=k→i ≤ a.length→a.take i=b.take i →
 (∀ i' g2 g3 g4 g6 g7 g8 g9 gI gF gD gB gC gA gE gL gM gG gK gN gJ gH gO gP,a=b→R (.exit 0) ((.d (encI a))::(.d (encI b))::g2::g3::g4::i'::g6::g7::g8::g9::gI::gF::gD::gB::gC::gA::gE::gL::gM::gG::gK::gN::gJ::gH::gO::gP::[]) [] []) →
 (∀ T,a ≠ b→T.getD 4 (.tup []) = .d (.bool false)→R .ret T [] []) →
 Wp cfg (.loop (lpOf (Tryz.f39.body.getD .skip) 0)) ((.d (encI a))::(.d (encI b))::g2::g3::g4::(.d (.int .i64 (i:Int)))::g6::g7::g8::g9::gI::gF::gD::gB::gC::gA::gE::gL::gM::gG::gK::gN::gJ::gH::gO::gP::[]) [] [] R:=by
 intro k
 induction k with
 | zero =>
  intro i g2 g3 g4 g6 g7 g8 g9 gI gF gD gB gC gA gE gL gM gG gK gN gJ gH gO gP hk hi ht hR hR2
  have hie:i=a.length:=by omega
  subst hie
  rw [List.take_length,he,List.take_length] at ht
  have hln:=fun S=>lnI (S:=S) (l:=a)
  rw [zO]
  refine zM ?_
  conv=>arg 2; whnf
  simp (maxSteps:=1000000) (disch:=first|assumption|omega|rfl) only [↓gp,gc,Nat.reduceAdd,hln]
  exact hR _ _ _ _ _ _ _ _ _ _ _ _ _ _ _ _ _ _ _ _ _ _ _ _ ht
 | succ k ih =>
  intro i g2 g3 g4 g6 g7 g8 g9 gI gF gD gB gC gA gE gL gM gG gK gN gJ gH gO gP hk hi ht hR hR2
  have hlt:i < a.length:=by omega
  have hlt2:i < b.length:=by omega
  have h3:IntKind.i64.wrap ((i:Int) + 1)=((i + 1:Nat):Int):=by rw [wrap64 (by omega)]; omega
  have hln:=fun S=>lnI (S:=S) (l:=a)
  have hxa:=fun S=>ixI (S:=S) hlt
  have hxb:=fun S=>ixI (S:=S) hlt2
  rw [zO]
  refine zM ?_
  conv=>arg 2; whnf
  simp (maxSteps:=1000000) (disch:=first|assumption|omega|rfl) only [↓gp,gc,Nat.reduceAdd,hln]
  refine qP (is:=[0,1,2,3,4,5,6,7,8]) (h:=0) (by kernel_rfl) (by kernel_rfl) ?_
  simp (maxSteps:=1000000) (disch:=first|assumption|omega|rfl) only [List.replicate_zero,eq_self,gw,ga,Nat.reduceAdd,↓gq,vso,List.append_nil,hxa,hxb,ldI3]
  refine ⟨by kernel_rfl,?_⟩
  by_cases h:a[i]=b[i]
  ·have hde : ∀ i':Decidable (a[i] ≠ b[i]),@decide (a[i] ≠ b[i]) i'=false:=fun i'=>decide_eq_false (fun hh=>hh h)
   simp (maxSteps:=1000000) (disch:=first|assumption|omega|rfl) only [↓gp,gc,Nat.reduceAdd,hde,h3]
   refine ih (i + 1) _ _ _ _ _ _ _ _ _ _ _ _ _ _ _ _ _ _ _ _ _ _ _ (by omega) (by omega) ?_ hR hR2
   rw [jZ hlt,jZ hlt2,ht,h]
  ·have hde : ∀ i':Decidable (a[i] ≠ b[i]),@decide (a[i] ≠ b[i]) i'=true:=fun i'=>decide_eq_true h
   simp (maxSteps:=1000000) (disch:=first|assumption|omega|rfl) only [↓gp,gc,Nat.reduceAdd,hde]
   exact hR2 _ (fun hh=>h (by subst hh; rfl)) rfl
theorem zkf (a b:List Int) (hl:a.length ≤ 1000000):Ev cfg 39 [encI a,encI b] (.ret (.d (.bool (decide (a=b))))):=by
 refine kB rfl rfl zxs ?_
 show Wp cfg (Tryz.f39.body.getD .skip) ((.d (encI a))::(.d (encI b))::uZ (uZ ((.tup [])::(.tup [])::(.tup [])::(.tup [])::[]))) [] [] _
 unfold uZ
 conv=>arg 2; whnf
 have hln:=fun S=>lnI (S:=S) (l:=a)
 have hlb:=fun S=>lnI (S:=S) (l:=b)
 by_cases he:(a.length:Int)=(b.length:Int)
 ·have hde : ∀ i':Decidable ((a.length:Int) ≠ (b.length:Int)),@decide ((a.length:Int) ≠ (b.length:Int)) i'=false:=fun i'=>decide_eq_false (fun hh=>hh he)
  simp (maxSteps:=1000000) (disch:=first|assumption|omega|rfl) only [↓gp,gc,Nat.reduceAdd,hln,hlb,hde]
  refine zy1 a b hl (by omega) _ a.length 0 _ _ _ _ _ _ _ _ _ _ _ _ _ _ _ _ _ _ _ _ _ _ _ rfl (Nat.zero_le _) (by simp) ?_ ?_
  ·intro i' g2 g3 g4 g6 g7 g8 g9 gI gF gD gB gC gA gE gL gM gG gK gN gJ gH gO gP hab
   rw [decide_eq_true hab]
   simp (maxSteps:=1000000) (disch:=first|assumption|omega|rfl) only [↓gp,gc,Nat.reduceAdd]
   exact zU rfl rfl rfl
  ·intro T hab hT
   rw [decide_eq_false hab]
   exact zU hT rfl rfl
 ·have hde : ∀ i':Decidable ((a.length:Int) ≠ (b.length:Int)),@decide ((a.length:Int) ≠ (b.length:Int)) i'=true:=fun i'=>decide_eq_true he
  rw [decide_eq_false (fun hh=>he (by rw [hh]))]
  simp (maxSteps:=1000000) (disch:=first|assumption|omega|rfl) only [↓gp,gc,Nat.reduceAdd,hln,hlb,hde]
  exact zU rfl rfl rfl
theorem ztz {C:CS} {no:Int} {a:Int} {b:List UInt8} {needs:List Int} {k:Nat}:(C.put no a b needs).see k=if no=k then layB (C.see k) a.toNat b else C.see k:=z1b
theorem zqv {b d:List UInt8} {k k':Nat} (hb:b.length=256) (hd:d.length=32) (hk:k < 8) (hk':k' < 8):wX (layB b (k' * 32) d) k=if k=k' then d else wX b k:=by
 have e0:(b.take (k' * 32)).length=k' * 32:=by rw [List.length_take]; omega
 unfold wX layB
 apply List.ext_getElem?
 intro i
 rw [List.getElem?_take]
 by_cases hi:i < 32
 ·rw [if_pos hi,List.getElem?_drop]
  rcases Nat.lt_trichotomy k k' with h | h | h
  ·rw [if_neg (by omega),List.append_assoc,List.getElem?_append_left (by omega),List.getElem?_take,if_pos (by omega),List.getElem?_take,if_pos hi,List.getElem?_drop]
  ·subst h
   rw [if_pos rfl,List.append_assoc,List.getElem?_append_right (by omega),e0,List.getElem?_append_left (by omega)]
   congr 1
   omega
  ·rw [if_neg (by omega),List.getElem?_append_right (by rw [List.length_append]; omega),List.length_append,e0,List.getElem?_drop,List.getElem?_take,if_pos hi,List.getElem?_drop]
   congr 1
   omega
 ·rw [if_neg hi]
  split
  ·rw [List.getElem?_eq_none (by omega)]
  ·rw [List.getElem?_take,if_neg hi]
structure LaidC (B I M K:Nat) (us:List Nat) (C:CS):Prop where
 img:C.img=(C0 B I M K).img
 last:C.last=us.length
 see : ∀ no k,2 ≤ no→no < B→k < 8→wX (C.see no) k=if (no - 2) * 8 + k + 1 ∈ us then q0b else wX (finB B I M K no) k
theorem zlf {B I M K no:Nat} (h:no < B):(C0 B I M K).see no=finB B I M K no:=by
 show ((C0 B I M K).img.getD no [])=_
 rw [List.getD_eq_getElem?_getD,zqy h]
 rfl
theorem LaidC.zero {B I M K:Nat}:LaidC B I M K [] (C0 B I M K):=⟨rfl,rfl,fun no k h1 h2 h3=>by rw [zlf h2]; simp⟩
theorem LaidC.next {B I M K:Nat} {us:List Nat} {C:CS} (h:LaidC B I M K us C) (hC:C.Ok) {u:Nat} (hu:1 ≤ u) (hB:2 + (u - 1) / 8 < B):LaidC B I M K (us ++ [u]) (C.put ((2 + (u - 1) / 8:Nat):Int) (((u - 1) % 8 * 32:Nat):Int) q0b []):=by
 refine ⟨h.img,by rw [List.length_append]; show C.last + 1=_; rw [h.last]; rfl,fun no k h1 h2 h3=>?_⟩
 have hl:(C.see no).length=256:=hC.see_len (by rw [h.img,z86]; exact h2)
 have hk:(u - 1) % 8 < 8:=Nat.mod_lt _ (by decide)
 have ih:=h.see no k h1 h2 h3
 rw [ztz,Int.toNat_natCast]
 by_cases e:((2 + (u - 1) / 8:Nat):Int)=(no:Int)
 ·rw [if_pos e,zqv hl rfl h3 hk]
  have e':2 + (u - 1) / 8=no:=by omega
  by_cases e2:k=(u - 1) % 8
  ·have e3:(no - 2) * 8 + k + 1=u:=by omega
   rw [if_pos e2,if_pos (by rw [e3]; simp)]
  ·have e3:(no - 2) * 8 + k + 1 ≠ u:=by omega
   rw [if_neg e2,ih]
   simp [e3]
 ·rw [if_neg e,ih]
  have e3:(no - 2) * 8 + k + 1 ≠ u:=by omega
  simp [e3]
theorem za9 {S:zA} {y x c r m mk gm:Nat} {l:Lay} {C:CS} (h1:S[y]? = some (.row [allV x gm] 116)) (h2:S[gm]? = some (.mp [] 0)) (n1:gm ≠ m) (n2:gm ≠ mk) (h3:StoreP S x c r m mk l 0 C (fun _=>none)):AllP S y x c r m mk gm l 0 C (fun _=>none) (fun _=>none) (fun _=>[]) 0 :=
 ⟨h1,h3,MpI.nil h2,fun _=>.inl ⟨rfl,rfl⟩,fun _=>Nat.le_refl _,n1,n2⟩
theorem zsj : ∀ k:Fin 7,wX rootB (k.val + 1)=zT 32:=by decide +kernel
def zl4:Ino:=⟨0,0,0,0,0,0,0,0,0,0,0⟩
theorem zvy (ino:Nat) (h2:2 ≤ ino) (hi:(ino:Int) ≤ 8) : ∃ bb,Ev cfg 123 [blkD (wX ((C0 16 8 0 1).see (2 + (ino - 1) / 8)) ((ino - 1) % 8))] (.ret (.tup [.d (wM zl4),.d (.bool bb)])):=by
 have e1:(ino - 1) / 8=0:=by omega
 have e2:(ino - 1) % 8=(ino - 2) + 1:=by omega
 have e3:(C0 16 8 0 1).see 2=rootB:=zlf (by decide)
 rw [e1,e2,e3,zsj ⟨ino - 2,by omega⟩]
 exact ⟨true,zih⟩
def l16:Lay:=⟨16,8,0⟩
theorem q1j:Ev cfg 62 [] (.ret (.d (encLay l16))):=⟨100,by kernel_rfl⟩
theorem zzp:wK Tryz.prog 42 [(0,.d (.int .u8 7))]=some (blkV (7::zT 255)):=by kernel_rfl
theorem zqx:frB (mapB 3) 3 16=[3,4,5,6,7,8,9,10,11,12,13,14,15]:=by decide +kernel
theorem zrw:(frB (wW (mapB 3) 3 true) 3 16).length=12:=by decide +kernel
theorem znq:(frN (fun _=>zl4) 9).length=7:=by decide +kernel
theorem zmn {ops:Array Oper} {dst:Option Tmp} {k:List Oper} {T:List V} {S:zA} {F:Dfs} {Q:Post} {a b:List Int} (hl:a.length ≤ 1000000):WpR cfg ops dst k T S F Q (some (.enter 39 [.ts (a.map (.int .i64)),.ts (b.map (.int .i64))]))=WpL cfg ops k (putT T dst (.d (.bool (decide (a=b))))) S F Q :=
 wA (ds:=[encI a,encI b]) rfl rfl rfl (zkf a b hl)
theorem zf8:Ev cfg 17 [] (.ret (.d (.bool true))):=by
 refine kB rfl rfl zz3 ?_
 show Wp cfg (Tryz.f17.body.getD .skip) (uZ (uZ (uZ (uZ [])))) [] [] _
 unfold uZ
 conv=>arg 2; whnf
 have hm:MayL l16:=by decide
 have hb:InB l16.blocks:=by decide
 have hi:InB l16.inodes:=by decide
 have hlay : ∀ {ops dst k T S F Q},WpR cfg ops dst k T S F Q (some (.enter 62 []))=WpL cfg ops k (putT T dst (.d (encLay l16))) S F Q:=fun {ops dst k T S F Q}=>qJ (ds:=[]) rfl q1j
 obtain ⟨o,S1,⟨_,y,x,c,r,m,mk,gm,rfl,h1,h2,h3,h4,h5⟩,hE⟩:=zY (zds [] l16 16 8 0 1 rfl (by decide) (by decide) (by decide) hm (by decide) (by decide) (by decide))
 have hbeg:=fun {ops dst k T F Q}=>zD (ops:=ops) (dst:=dst) (l:=k) (T:=T) (F:=F) (Q:=Q) rfl hE
 have hA1:=za9 h1 h2 h3 h4 h5
 have hD:2 + l16.inodes.tdiv 8=((3:Nat):Int):=by decide
 have hN:l16.blocks=((16:Nat):Int):=by decide
 obtain ⟨o,S2,⟨rfl,hC2,hF2⟩,hE2⟩:=zY (z8f S1 _ y x c r m mk gm l16 0 _ hA1.seen hA1.sp.hB hb hi hm 3 hD 16 hN)
 have hfree:=fun {ops dst k T F Q}=>zD (ops:=ops) (dst:=dst) (l:=k) (T:=T) (F:=F) (Q:=Q) rfl hE2
 have hA2:=hA1.frC hF2 hC2.at rfl
 obtain ⟨o,S3,⟨rfl,hC3,hF3⟩,hE3⟩:=zY (zmv S2 _ y x c r m mk gm l16 0 _ hA2.seen hA2.sp.hB hb hi hm (fun _=>zl4) (fun ino g1 g2=>zvy ino g1 g2) 8 rfl)
 have hinos:=fun {ops dst k T F Q}=>zD (ops:=ops) (dst:=dst) (l:=k) (T:=T) (F:=F) (Q:=Q) rfl hE3
 have hA3:=hA2.frC hF3 hC3.at rfl
 have hs1:(C0 16 8 0 1).see 1=mapB 3:=zlf (by decide)
 have hok:=hA3.sp.ca.ok
 have hfr:frB ((C0 16 8 0 1).see 1) 3 16=3::[4,5,6,7,8,9,10,11,12,13,14,15]:=by rw [hs1]; exact zqx
 have hul:((7:UInt8)::zT 255).length=256:=rfl
 obtain ⟨o,S4,⟨hF4,⟨gf4,hA4⟩,rfl⟩,hE4⟩:=zY (zlz S3 y x c r m mk gm l16 _ _ _ _ 0 hA3 (by decide) hb hi hm 3 hD 16 hN (blkV (7::zT 255)) _ isB_v hul (.ts []) [] (.inr (.inl rfl)) (by decide) (by decide) 3 _ hfr)
 have hlen:3 < (C0 16 8 0 1).img.length:=by rw [z86]; decide
 have hz:=ze7 (C:=C0 16 8 0 1) (no:=3) (bb:=7::zT 255) (gs:=[]) (ids:=[]) hlen hul (by rw [zd9]; intro x hx; cases hx)
 have hsee:=zpw (bb:=7::zT 255) (gs:=[]) (ids:=[]) hok (no:=3) hlen (by rw [z86]; decide) (by decide) hul (by rw [zd9]; intro x hx; cases hx) (by decide) 1
 rw [if_neg (by decide),if_pos rfl,hs1] at hsee
 rw [hz.1] at hA4
 rw [if_neg (fun h=>h hz.1)] at hE4
 have e1:(((C0 16 8 0 1).last:Nat):Int) + 1=1:=rfl
 have e2:(((C0 16 8 0 1).last:Nat):Int) + 2=2:=rfl
 have e3:((3:Nat):Int)=3:=rfl
 rw [e1,e2,e3] at hE4
 have htake:=fun {ops dst k T F Q}=>zD (ops:=ops) (dst:=dst) (l:=k) (T:=T) (F:=F) (Q:=Q) rfl hE4
 obtain ⟨o,S5,⟨rfl,hC5,hF5⟩,hE5⟩:=zY (z8f S4 _ y x c r m mk gm l16 0 _ hA4.seen hA4.sp.hB hb hi hm 3 hD 16 hN)
 rw [hsee,zrw] at hE5
 have hfree2:=fun {ops dst k T F Q}=>zD (ops:=ops) (dst:=dst) (l:=k) (T:=T) (F:=F) (Q:=Q) rfl hE5
 rw [hs1,zqx] at hfree
 rw [znq] at hinos
 have hints:=fun {ops dst k T S F Q}=>zmn (ops:=ops) (dst:=dst) (k:=k) (T:=T) (S:=S) (F:=F) (Q:=Q) (a:=[1,2]) (b:=[1,2]) (by decide)
 simp only [List.map_cons,List.map_nil] at hints
 have hl13:(([3,4,5,6,7,8,9,10,11,12,13,14,15]:List Nat).length:Int)=13:=rfl
 have hl7:((7:Nat):Int)=7:=rfl
 have hl12:((12:Nat):Int)=12:=rfl
 rw [hl13] at hfree
 rw [hl7] at hinos
 rw [hl12] at hfree2
 simp (maxSteps:=1000000) (disch:=first|assumption|omega|rfl) only [↓gp,gc,Nat.reduceAdd,↓vbs,↓zer,hlay,bo62,hbeg,bo18,z9o,hfree,bo21,hinos,bo64,zzp,zlr,z93,htake,bo19,zre,q03,hints,bo39,hfree2,zP]
 exact zU rfl rfl rfl
def zzg (t:List Bool):V:= .agg (t.map fun b=>.d (.bool b))
theorem zhc {T:List V} {S:zA} {dst:Option Tmp} {t:TypeId} {x y:Nat} {ty:TypeId} {pos:String} {after:Array Edge} {g:Option (Nat × Bool)} {v:V} (h:zK Tryz.prog S t (T.getD x .junk) (T.getD y .junk)=some v):opV Tryz.prog S T ⟨dst,.indexAddr t (.tmp x) (.tmp y),ty,pos,after,g⟩=some (.val v S 1):=by
 show (zK Tryz.prog S t (T.getD x .junk) (T.getD y .junk)).map (fun v=>Rs.val v S 1)=_
 rw [h]
 rfl
theorem z8q {a b c:Nat}:wR (.ref a b c) (.ref a b c)=true:=by simp [wR,qU,qN]
structure OnceP (S:zA) (y x c r m mk gm ah:Nat) (l:Lay) (C:CS) (mf gf:Int→Option V) (held:List Bool) (D N n:Nat):Prop where
 al:AllP S y x c r m mk gm l 0 C mf gf (fun _=>[]) 0
 h0:S[0]? = some (.row [.d (encLay l)] 32)
 hh:S[ah]? = some (.row [zzg held] 37)
 hl:held.length=60
 las:C.last ≤ 2 * n
 eq : ∀ no (h:no < held.length),held[no]=(decide (D ≤ no∧no < N) && hasB (C.see 1) no)
theorem OnceP.frC {S S':zA} {y x c r m mk gm ah:Nat} {l:Lay} {C:CS} {mf gf:Int→Option V} {held:List Bool} {D N n:Nat} (h:OnceP S y x c r m mk gm ah l C mf gf held D N n) (hF:FrC m r S S') (hc:CacheAt S' c r m C):OnceP S' y x c r m mk gm ah l C mf gf held D N n :=
 ⟨h.al.frC hF hc rfl,hF.row h.h0 rfl,hF.row h.hh rfl,h.hl,h.las,h.eq⟩
theorem OnceP.keep {S S':zA} {y x c r m mk gm ah:Nat} {l:Lay} {C:CS} {mf gf:Int→Option V} {held:List Bool} {D N n:Nat} (h:OnceP S y x c r m mk gm ah l C mf gf held D N n) (hK:Keep S S'):OnceP S' y x c r m mk gm ah l C mf gf held D N n :=
 ⟨h.al.keep hK,hK _ _ h.h0,hK _ _ h.hh,h.hl,h.las,h.eq⟩
section
variable {n a b c:Int} {id m:Nat} {nv:V}
theorem bdR2:wK Tryz.prog 94 [(0,.d (.int .i64 n)),(1,.rs id 0 m)]=some (.agg [.d (.int .i64 n),.rs id 0 m]):=by kernel_rfl
theorem zR2:zeroV Tryz.prog 94=some (.agg [.d (.int .i64 0),.ts []]):=by kernel_rfl
theorem zfR2:qE Tryz.prog 94 (.agg [.d (.int .i64 0),.ts []])=true:=by kernel_rfl
theorem srR2:qY Tryz.prog 94 0 (.agg [.d (.int .i64 n),.rs id 0 m]) (.agg [.d (.int .i64 0),.ts []])=some (.agg [.d (.int .i64 n),.rs id 0 m]):=by kernel_rfl
theorem lrR2:qT Tryz.prog 94 0 (some (.agg [.d (.int .i64 n),.rs id 0 m]))=some (.agg [.d (.int .i64 n),.rs id 0 m]):=by kernel_rfl
theorem ftP2:qE Tryz.prog 78 (.agg [.d (.int .i64 n),.rs id 0 m])=true:=by kernel_rfl
theorem lrP0:qT Tryz.prog 3 0 (some (.agg [.d (.int .i64 n),.rs id 0 m]))=some (.d (.int .i64 n)):=by kernel_rfl
theorem lrP1:qT Tryz.prog 76 1 (some (.agg [.d (.int .i64 n),.rs id 0 m]))=some (.rs id 0 m):=by kernel_rfl
theorem frP1 {d x y:Nat}:zS Tryz.prog 78 1 (.ref d x y)=some (.ref d x (y + 1)):=by kernel_rfl
theorem frP0 {d x y:Nat}:zS Tryz.prog 78 0 (.ref d x y)=some (.ref d x (y + 0)):=by kernel_rfl
theorem zux (S:zA) (n:Int) (id m:Nat):EvS cfg 131 [.agg [.d (.int .i64 n),.rs id 0 m]] S (fun o S'=>Keep S S'∧o = .ret (.agg [.d (.int .i64 n),.rs id 0 m])):=by
 refine qF rfl zwp ?_
 show Wp cfg (Tryz.f131.body.getD .skip) ((.agg [.d (.int .i64 n),.rs id 0 m])::(.tup [])::(.tup [])::(.tup [])::(.tup [])::(.tup [])::(.tup [])::(.tup [])::[]) S [] _
 conv=>arg 2; whnf
 rw [zO]
 generalize ha:S.length=a
 simp (maxSteps:=1000000) (disch:=first|assumption|omega|rfl) only [↓gp,gc,Nat.reduceAdd,ftP2,zR2,zfR2,List.append_assoc,List.length_append,List.length_cons,List.length_nil,ha,rA0 ha,rA1 ha,pA1 ha,frP0,frP1,lrP0,lrP1,bdR2,srR2]
 refine ⟨rfl,_,z0n rfl ((zJ (rA1 ha)).trans lrR2),Keep.refl.app,rfl⟩
theorem uC:Tryz.prog.underlying 92=some (.slice 97):=by kernel_rfl
theorem sC:(sz Tryz.prog 97).isSome=true:=by kernel_rfl
theorem zOkC:zOk Tryz.prog 97=true:=by kernel_rfl
theorem q2d {m:Nat} (h:m ≤ 1000000):room Tryz.prog 97 m=true:=z5z rfl (by decide +kernel) h
theorem bdC (hn:nv = .ts [] ∨ ∃ i k,nv = .rs i 0 k):wK Tryz.prog 97 [(0,.d (.int .i64 a)),(1,.d (.int .i64 b)),(2,.agg [.d (.int .i64 c),.rs id 0 m]),(3,nv)]=some (.agg [.d (.int .i64 a),.d (.int .i64 b),.d (.int .i64 c),.rs id 0 m,nv]):=by
 rcases hn with rfl | ⟨i,k,rfl⟩ <;> kernel_rfl
theorem zC:zeroV Tryz.prog 97=some (.agg [.d (.int .i64 0),.d (.int .i64 0),.d (.int .i64 0),.ts [],.ts []]):=by kernel_rfl
theorem zfC:qE Tryz.prog 97 (.agg [.d (.int .i64 0),.d (.int .i64 0),.d (.int .i64 0),.ts [],.ts []])=true:=by kernel_rfl
theorem ftC:qE Tryz.prog 97 (.agg [.d (.int .i64 a),.d (.int .i64 b),.d (.int .i64 c),.rs id 0 m,nv])=true:=by kernel_rfl
theorem bsC {S:zA} (hn:nv = .ts [] ∨ ∃ i k,nv = .rs i 0 k):bs1 Tryz.prog S 92 (.agg [.d (.int .i64 a),.d (.int .i64 b),.d (.int .i64 c),.rs id 0 m,nv])=some (.val (.rs S.length 0 1) (S ++ [.row [.agg [.d (.int .i64 a),.d (.int .i64 b),.d (.int .i64 c),.rs id 0 m,nv]] 97]) 2):=by
 have hk:sz Tryz.prog 97=some 5:=by kernel_rfl
 have hf:qE Tryz.prog 97 (.agg [.d (.int .i64 a),.d (.int .i64 b),.d (.int .i64 c),.rs id 0 m,nv])=true:=ftC
 simp only [bs1,uC,zC,hk,zfC,hf]
 rcases hn with rfl | ⟨i,k,rfl⟩ <;> rfl
theorem zo0:qT Tryz.prog 22 4 (some (.agg [.d (.int .i64 a),.d (.int .i64 b),.d (.int .i64 c),.rs id 0 m,nv]))=some nv:=by kernel_rfl
theorem zg4 {d x y:Nat}:zS Tryz.prog 80 3 (.ref d x y)=some (.ref d x (y + 4)):=by kernel_rfl
theorem zy2:qT Tryz.prog 78 2 (some (.agg [.d (.int .i64 a),.d (.int .i64 b),.d (.int .i64 c),.rs id 0 m,nv]))=some (.agg [.d (.int .i64 c),.rs id 0 m]):=by kernel_rfl
end
theorem q0v {v:V} (hn:v = .ts [] ∨ ∃ i k,v = .rs i 0 k):wR v v=true:=by
 rcases hn with rfl | ⟨i,k,rfl⟩ <;> simp [wR,qU,qN,wU]
theorem of_l (L:V) (es:List V) (l:List Chg) (S0:zA) (hL:OwnS S0 L 80 es) (hl:ChgsV S0 es l) (hes:es.length ≤ 150000) (hp : ∀ ch ∈ l,1 ≤ ch.data.length) (R:Post) :
 ∀ (k i:Nat) (S:zA) (v3:V) (g1 g2 g5 g6 g7 g8 g9 gI gF gD gB gC gA gE gL gM gG gK gN gJ gH gO gP gT gQ gU gR gS gV gW gX gY gZ gh:V),es.length - i=k→i ≤ es.length→Keep S0 S→(∀ j,j < S0.length→NotAt v3 j)→OwnS S v3 97 (es.take i) →
 (∀ S v3 i' g1 g2 g5 g6 g7 g8 g9 gI gF gD gB gC gA gE gL gM gG gK gN gJ gH gO gP gT gQ gU gR gS gV gW gX gY gZ gh,Keep S0 S→(∀ j,j < S0.length→NotAt v3 j)→OwnS S v3 97 es→R (.exit 0) (L::g1::g2::v3::i'::g5::g6::g7::g8::g9::gI::gF::gD::gB::gC::gA::gE::gL::gM::gG::gK::gN::gJ::gH::gO::gP::gT::gQ::gU::gR::gS::gV::gW::gX::gY::gZ::gh::[]) S []) →
 Wp cfg (.loop (lpOf (Tryz.f92.body.getD .skip) 0)) (L::g1::g2::v3::(.d (.int .i64 (i:Int)))::g5::g6::g7::g8::g9::gI::gF::gD::gB::gC::gA::gE::gL::gM::gG::gK::gN::gJ::gH::gO::gP::gT::gQ::gU::gR::gS::gV::gW::gX::gY::gZ::gh::[]) S [] R:=by
 intro k
 have hln : ∀ {S:zA},Keep S0 S→zL Tryz.prog S .len [74] [L]=some (.val (.d (.int .i64 (es.length:Int))) S 0):=fun hK=>kE u119 (hK.own hL)
 induction k with
 | zero =>
  intro i S v3 g1 g2 g5 g6 g7 g8 g9 gI gF gD gB gC gA gE gL gM gG gK gN gJ gH gO gP gT gQ gU gR gS gV gW gX gY gZ gh hk hi hK hN ho hR
  have hie:i=es.length:=by omega
  subst hie
  rw [List.take_length] at ho
  have hlnS:=hln hK
  rw [zO]
  refine zM ?_
  conv=>arg 2; whnf
  simp (maxSteps:=1000000) (disch:=first|assumption|omega|rfl) only [↓gp,gc,Nat.reduceAdd,hlnS]
  exact hR _ _ _ _ _ _ _ _ _ _ _ _ _ _ _ _ _ _ _ _ _ _ _ _ _ _ _ _ _ _ _ _ _ _ _ _ _ hK hN ho
 | succ k ih =>
  intro i S v3 g1 g2 g5 g6 g7 g8 g9 gI gF gD gB gC gA gE gL gM gG gK gN gJ gH gO gP gT gQ gU gR gS gV gW gX gY gZ gh hk hi hK hN ho hR
  have hlt:i < es.length:=by omega
  have hll:=hl.1
  have hlnS:=hln hK
  have h3:IntKind.i64.wrap ((i:Int) + 1)=((i + 1:Nat):Int):=by rw [wrap64 (by omega)]; omega
  obtain ⟨q,hix,hre,hrow⟩:=kT u119 s122 (hK.own hL) hlt
  have hcv:=hl.2 i es[i] (l[i]'(by omega)) (List.getElem?_eq_getElem hlt) (List.getElem?_eq_getElem (by omega))
  obtain ⟨dv,nv,idd,hue,hd,hn,hdv⟩:=hcv.form (hp _ (List.getElem_mem _))
  rw [hdv] at hue
  have hnf:=z0z hn
  have hn1:nv.one=true:=qH hn
  rw [hue] at hre
  obtain ⟨o,S2,⟨hK2,rfl⟩,hE⟩:=zY (zux S (l[i]'(by omega)).at_ idd (l[i]'(by omega)).data.length)
  have hE:=fun {ops base K ws cs i dst T}=>qW (ops:=ops) (base:=base) (K:=K) (ws:=ws) (cs:=cs) (i:=i) (dst:=dst) (T:=T) rfl hE
  have hrow2:=hK2 _ _ hrow
  have hix2:zK Tryz.prog S2 74 L (.d (.int .i64 (i:Int)))=some (.ref q i 0):=by
   obtain ⟨q2,e1,e2,e3⟩:=kT u119 s122 ((hK.trans hK2).own hL) hlt
   rcases hL with ⟨_,h0⟩ | ⟨id,rfl,hL2⟩
   ·rw [h0] at hlt; simp at hlt
   ·rw [zdh ((hK.trans hK2) _ _ hL2) hlt]
    rw [zdh (hK _ _ hL2) hlt] at hix
    exact hix
  have hre2:rowE S2 q i=some (.agg [.d (.int .i64 (l[i]'(by omega)).id),.d (.int .i64 (l[i]'(by omega)).no),.d (.int .i64 (l[i]'(by omega)).at_),.rs idd 0 (l[i]'(by omega)).data.length,nv]):=by
   unfold rowE at hre ⊢
   rw [hrow] at hre
   rw [hrow2]
   exact hre
  have hbs:=bsC (S:=S2) (a:=(l[i]'(by omega)).id) (b:=(l[i]'(by omega)).no) (c:=(l[i]'(by omega)).at_) (id:=idd) (m:=(l[i]'(by omega)).data.length) hnf
  have hbd:=bdC (a:=(l[i]'(by omega)).id) (b:=(l[i]'(by omega)).no) (c:=(l[i]'(by omega)).at_) (id:=idd) (m:=(l[i]'(by omega)).data.length) hnf
  generalize hev:(.agg [.d (.int .i64 (l[i]'(by omega)).id),.d (.int .i64 (l[i]'(by omega)).no),.d (.int .i64 (l[i]'(by omega)).at_),.rs idd 0 (l[i]'(by omega)).data.length,nv]:V)=ev at hbs
  have hone:ev.one=true:=by rw [← hev]; rfl
  rw [hev] at hbd
  have hkx:Keep S2 (S2 ++ [.row [ev] 97]):=Keep.refl.app
  have hx:(S2 ++ [Ob.row [ev] 97])[S2.length]? = some (.row [ev] 97):=by simp
  have hev2:es[i]=ev:=by rw [hue,hev]
  have htk:es.take (i + 1)=es.take i ++ [ev]:=by rw [jZ hlt,hev2]
  have hfit:qE Tryz.prog 97 ev=true:=by rw [← hev]; exact ftC
  have hti:(es.take i).length=i:=by rw [List.length_take]; omega
  have hsn:=q0v hnf
  have l_id:=(zJ hre2).trans (vB (a:=(l[i]'(by omega)).id) (b:=(l[i]'(by omega)).no) (c:=(l[i]'(by omega)).at_) (dv:= .rs idd 0 (l[i]'(by omega)).data.length) (nv:=nv))
  have l_no:=(zJ hre2).trans (vD (a:=(l[i]'(by omega)).id) (b:=(l[i]'(by omega)).no) (c:=(l[i]'(by omega)).at_) (dv:= .rs idd 0 (l[i]'(by omega)).data.length) (nv:=nv))
  have l_nv:=(zJ hre2).trans (zo0 (a:=(l[i]'(by omega)).id) (b:=(l[i]'(by omega)).no) (c:=(l[i]'(by omega)).at_) (id:=idd) (m:=(l[i]'(by omega)).data.length) (nv:=nv))
  have hKS:Keep S0 S2:=hK.trans hK2
  rw [zO]
  refine zM ?_
  conv=>arg 2; whnf
  simp (maxSteps:=1000000) (disch:=first|assumption|omega|rfl) only [↓gp,gc,Nat.reduceAdd,hlnS]
  rcases zbr uC zOkC sC (hkx.own (hK2.own ho)) hx hfit (q2d (by omega)) with ⟨rfl,h0,hap⟩ | ⟨id,rfl,hi2,hap⟩
  ·refine qP (is:=[0,1,2,3,4,5,6,7,8,9,10,11,12,13,14,15,17,18,19,20,21,16,22,23,24,25]) (h:=0) (by kernel_rfl) (by kernel_rfl) ?_
   simp (maxSteps:=1000000) (disch:=first|assumption|omega|rfl) only [List.replicate_zero,eq_self,gw,ga,Nat.reduceAdd,↓gq,vso,List.append_nil,hix,hre,vO,vM,vW,zg4,vB,vD,zy2,zo0,hE,zv0,hn1,hbd,hone,hbs,hap]
   refine ⟨zX rfl (by kernel_rfl) rfl (wG l_nv) hsn (zX rfl (by kernel_rfl) rfl (zhc hix2) z8q (zF (by kernel_rfl) (zF (by kernel_rfl) (zX rfl (by kernel_rfl) rfl (wG l_no) kQ (zX rfl (by kernel_rfl) rfl (zhc hix2) z8q (zX rfl (by kernel_rfl) rfl (wG l_id) kQ (zX rfl (by kernel_rfl) rfl (zhc hix2) z8q (zW)))))))),zF (by kernel_rfl) (zF (by kernel_rfl) (zF (by kernel_rfl) (zF (by kernel_rfl) (zF (by kernel_rfl) (zF (by kernel_rfl) (zF (by kernel_rfl) (zF (by kernel_rfl) (zW)))))))),zF (by kernel_rfl) (zF (by kernel_rfl) (zF (by kernel_rfl) (zF (by kernel_rfl) (zF (by kernel_rfl) (zF (by kernel_rfl) (zF (by kernel_rfl) (zF (by kernel_rfl) (zW)))))))),by kernel_rfl,?_⟩
   simp (maxSteps:=1000000) (disch:=first|assumption|omega|rfl) only [↓gp,gc,Nat.reduceAdd,h3]
   refine ih (i + 1) _ _ _ _ _ _ _ _ _ _ _ _ _ _ _ _ _ _ _ _ _ _ _ _ _ _ _ _ _ _ _ _ _ _ _ _ (by omega) (by omega) ((hKS.trans hkx).app) (fun j hj=>?_) ?_ hR
   ·intro off kk hh
    have hl:=hKS.len
    cases hh
    simp at hj hl
    omega
   ·rw [htk,h0]
    refine .inr ⟨_,rfl,?_⟩
    rw [List.getElem?_append_right (Nat.le_refl _),Nat.sub_self]
    rfl
  ·refine qP (is:=[0,1,2,3,4,5,6,7,8,9,10,11,12,13,14,15,17,18,19,20,21,16,22,23,24,25]) (h:=0) (by kernel_rfl) (by kernel_rfl) ?_
   simp (maxSteps:=1000000) (disch:=first|assumption|omega|rfl) only [List.replicate_zero,eq_self,gw,ga,Nat.reduceAdd,↓gq,vso,List.append_nil,hix,hre,vO,vM,vW,zg4,vB,vD,zy2,zo0,hE,zv0,hn1,hbd,hone,hbs,hap]
   refine ⟨zX rfl (by kernel_rfl) rfl (wG l_nv) hsn (zX rfl (by kernel_rfl) rfl (zhc hix2) z8q (zF (by kernel_rfl) (zF (by kernel_rfl) (zX rfl (by kernel_rfl) rfl (wG l_no) kQ (zX rfl (by kernel_rfl) rfl (zhc hix2) z8q (zX rfl (by kernel_rfl) rfl (wG l_id) kQ (zX rfl (by kernel_rfl) rfl (zhc hix2) z8q (zW)))))))),zF (by kernel_rfl) (zF (by kernel_rfl) (zF (by kernel_rfl) (zF (by kernel_rfl) (zF (by kernel_rfl) (zF (by kernel_rfl) (zF (by kernel_rfl) (zF (by kernel_rfl) (zW)))))))),zF (by kernel_rfl) (zF (by kernel_rfl) (zF (by kernel_rfl) (zF (by kernel_rfl) (zF (by kernel_rfl) (zF (by kernel_rfl) (zF (by kernel_rfl) (zF (by kernel_rfl) (zW)))))))),by kernel_rfl,?_⟩
   simp (maxSteps:=1000000) (disch:=first|assumption|omega|rfl) only [↓gp,gc,Nat.reduceAdd,h3]
   have hid0:S0.length ≤ id:=by
    rcases Nat.lt_or_ge id S0.length with hh | hh
    ·exact absurd rfl (hN id hh 0 (es.take i).length)
    ·exact hh
   refine ih (i + 1) _ _ _ _ _ _ _ _ _ _ _ _ _ _ _ _ _ _ _ _ _ _ _ _ _ _ _ _ _ _ _ _ _ _ _ _ (by omega) (by omega) (((hKS.trans hkx).set hid0).app) (fun j hj=>?_) ?_ hR
   ·intro off kk hh
    have hl:=hKS.len
    cases hh
    simp at hj hl
    omega
   ·rw [htk]
    refine .inr ⟨S2.length + 1,by simp,?_⟩
    rw [List.getElem?_append_right (by simp),List.length_set,List.length_append,List.length_singleton,Nat.sub_self]
    rfl
theorem q2u (S:zA) (L:V) (es:List V) (l:List Chg) (hL:OwnS S L 80 es) (hl:ChgsV S es l) (hes:es.length ≤ 150000) (hp : ∀ ch ∈ l,1 ≤ ch.data.length) :
  EvS cfg 92 [L] S (fun o S'=>Keep S S' ∧ ∃ v,o = .ret v∧OwnS S' v 97 es):=by
 refine qF rfl q22 ?_
 show Wp cfg (Tryz.f92.body.getD .skip) (L::uZ (uZ (uZ ((.tup [])::(.tup [])::(.tup [])::(.tup [])::(.tup [])::(.tup [])::[])))) S [] _
 unfold uZ
 conv=>arg 2; whnf
 rw [zO]
 simp (maxSteps:=1000000) (disch:=first|assumption|omega|rfl) only [↓gp,gc,Nat.reduceAdd]
 refine of_l L es l S hL hl hes hp _ es.length 0 S (.ts []) _ _ _ _ _ _ _ _ _ _ _ _ _ _ _ _ _ _ _ _ _ _ _ _ _ _ _ _ _ _ _ _ _ _ rfl (Nat.zero_le _) Keep.refl (fun j _=>NotAt.ts) (.inl ⟨rfl,rfl⟩) ?_
 intro S2 v3 i' g1 g2 g5 g6 g7 g8 g9 gI gF gD gB gC gA gE gL gM gG gK gN gJ gH gO gP gT gQ gU gR gS gV gW gX gY gZ gh hK hN ho
 have h1:=qH ho
 simp (maxSteps:=1000000) (disch:=first|assumption|omega|rfl) only [↓gp,gc,Nat.reduceAdd,h1]
 exact ⟨rfl,_,rfl,hK,v3,rfl,ho⟩
structure StpA where
 do_:Int
 no:Int
 byte:UInt8
 needs:List Int
def encStpA (s:StpA):D:= .agg [.int .i64 s.do_,.int .i64 s.no,byD s.byte,encI s.needs]
section
variable {s:StpA} {d x y:Nat}
theorem ftA:qE Tryz.prog 39 (.d (encStpA s))=true:=by kernel_rfl
theorem pldA {S:zA}:kM Tryz.prog S 39 (.d (.ptr (encStpA s)))=some (.d (encStpA s)):=by kernel_rfl
theorem zo8:zS Tryz.prog 39 0 (.ref d x y)=some (.ref d x (y + 0)):=by kernel_rfl
theorem zuo:zS Tryz.prog 39 1 (.ref d x y)=some (.ref d x (y + 1)):=by kernel_rfl
theorem q1f:zS Tryz.prog 39 2 (.ref d x y)=some (.ref d x (y + 2)):=by kernel_rfl
theorem q06:zS Tryz.prog 39 3 (.ref d x y)=some (.ref d x (y + 3)):=by kernel_rfl
theorem znw:qT Tryz.prog 3 0 (some (.d (encStpA s)))=some (.d (.int .i64 s.do_)):=by kernel_rfl
theorem zl5:qT Tryz.prog 3 1 (some (.d (encStpA s)))=some (.d (.int .i64 s.no)):=by kernel_rfl
theorem zsn:qT Tryz.prog 5 2 (some (.d (encStpA s)))=some (.d (byD s.byte)):=by kernel_rfl
theorem zxd:qT Tryz.prog 22 3 (some (.d (encStpA s)))=some (.d (encI s.needs)):=by kernel_rfl
end
theorem uA:Tryz.prog.underlying 33=some (.slice 39):=by kernel_rfl
theorem ixA {S:zA} {l:List StpA} {i:Nat} (h:i < l.length):zK Tryz.prog S 33 (.d (.sl (l.map encStpA))) (.d (.int .i64 (i:Int)))=some (.d (.ptr (encStpA l[i]))):=zgm uA (fun a=>by kernel_rfl) h
theorem lnA {S:zA} {l:List StpA}:zL Tryz.prog S .len [33] [.d (.sl (l.map encStpA))]=some (.val (.d (.int .i64 (l.length:Int))) S 0):=by rw [zg2 uA,List.length_map]
theorem zim {ops:Array Oper} {dst:Option Tmp} {k:List Oper} {T:List V} {S:zA} {F:Dfs} {Q:Post} {l:Lay} (hb:InB l.blocks) (hi:InB l.inodes) (hm:MayL l) {no:Int}:WpR cfg ops dst k T S F Q (some (.enter 22 [.d (encLay l),.d (.int .i64 no)]))=WpL cfg ops k (putT T dst (.d (.int .i64 (z68 l no)))) S F Q:=qJ (ds:=[encLay l,.int .i64 no]) rfl (zsv l hb hi hm no)
theorem AllP.set1 {S:zA} {y x c r m mk gm:Nat} {l:Lay} {e:Int} {C:CS} {mf gf:Int→Option V} {gl:Int→List Int} {b:Nat} (h:AllP S y x c r m mk gm l e C mf gf gl b) {a:Nat} {xs:List V} {t:TypeId} (ha:S[a]? = some (.row xs t)) (ht:(t != 135 && t != 126 && t != 80 && t != 5 && t != 3)=true) (h1:t ≠ 116) (h2:t ≠ 122) (h3:t ≠ 3) (hr:a ≠ r) {o:Ob}:AllP (S.set a o) y x c r m mk gm l e C mf gf gl b:=by
 have at_ : ∀ {j:Nat} {ys:List V} {u:TypeId},u ≠ t→S[j]? = some (.row ys u)→(S.set a o)[j]? = some (.row ys u):=fun hn hj=>by
  rw [List.getElem?_set_ne (by rintro rfl; have:=getE ha hj; simp at this; exact hn this.2.symm)]; exact hj
 have mp_ : ∀ {k:Nat} {f:Int→Option V},MpI S k f→MpI (S.set a o) k f:=fun hm=>by
  obtain ⟨L,q,e1,e2⟩:=hm
  exact ⟨L,q,by rw [List.getElem?_set_ne (by rintro rfl; cases getE ha e1)]; exact e1,e2⟩
 refine ⟨at_ (Ne.symm h1) h.hy,⟨at_ (Ne.symm h2) h.sp.hx,h.sp.ca.set1 ha ht hr,mp_ h.sp.mp,h.sp.ne,h.sp.hB⟩,mp_ h.gp,fun n=>?_,h.gb,h.n1,h.n2⟩
 rcases h.gv n with ho | ⟨id,p,q⟩
 ·exact .inl ho
 ·exact .inr ⟨id,p,at_ (Ne.symm h3) q⟩
theorem zsm {p:Prop} (h : ¬ p) : ∀ i:Decidable p,@decide p i=false:=fun i=>decide_eq_false h
theorem zw2 {p:Prop} (h:p) : ∀ i:Decidable p,@decide p i=true:=fun i=>decide_eq_true h
theorem sl42 {S:zA} {a i:Nat} {vs:List V} (ha:S[a]? = some (.row vs 42)):wN Tryz.prog S 42 (.ref a i 0) Option.none Option.none=some (.cs a i 0 256):=by
 have h0:Tryz.prog.underlying 42=some (.array 256 5):=by kernel_rfl
 have h1:(sz Tryz.prog 5 == some 1)=true:=by kernel_rfl
 have h2:aggT Tryz.prog 5=false:=by kernel_rfl
 have h3:sz Tryz.prog 42=some 256:=by kernel_rfl
 have hb1:kC 256 Option.none 256=some 256:=by kernel_rfl
 have hb2:kC 256 Option.none 0=some 0:=by kernel_rfl
 simp only [wN,h0,wJ,h1,h2,hb1,hb2,ha,h3,Bool.not_false,Bool.and_self,if_true,Nat.zero_add,Nat.le_refl,Nat.sub_zero]
section
variable {S:zA} {y x c r m mk gm:Nat} {l:Lay} {e:Int} {C:CS} {mf gf:Int→Option V} {gl:Int→List Int} {b:Nat}
theorem zqn (h:AllP S y x c r m mk gm l e C mf gf gl b) (hm:MayL l):EvS cfg 42 [.ref y 0 0] S (fun o S'=>FrC m r S S'∧CacheAt S' c r m C ∧ ∃ a u,o = .ret (.cs a 0 0 256)∧S.length ≤ a∧S'[a]? = some (.row [u] 42)∧IsB u (C.see 1)):=by
 refine qF rfl zze ?_
 show Wp cfg (Tryz.f42.body.getD .skip) ((.ref y 0 0)::(.tup [])::(.tup [])::(.tup [])::(.tup [])::(.tup [])::(.tup [])::(.tup [])::(.tup [])::[]) S [] _
 conv=>arg 2; whnf
 rw [zO]
 have h1B:1 < C.img.length:=by have:=hm.1; have:=h.sp.hB; omega
 have hst:=fun {ops dst k T F Q}=>zD (ops:=ops) (dst:=dst) (l:=k) (T:=T) (F:=F) (Q:=Q) rfl (z05 S y x gm h.hy)
 obtain ⟨o,S1,⟨hK,v,rfl,hv⟩,hE1⟩:=zY (z5w S x c mk l.blocks l.inodes l.merge e h.sp.hx)
 have hview:=fun {ops dst k T F Q}=>zD (ops:=ops) (dst:=dst) (l:=k) (T:=T) (F:=F) (Q:=Q) rfl hE1
 have hv1:v.one=true:=by obtain ⟨g,rfl,_⟩:=hv; rfl
 obtain ⟨o,S2,⟨hF,hC,u,rfl,hu⟩,hE2⟩:=zY (z50 S1 v S.length c r m l.blocks l.inodes l.merge C ((CacheIn.of h.sp.ca).keep hK) hv h.sp.hB 1 h1B)
 simp only [nl1] at hE2
 have hbk:=fun {ops dst k T F Q}=>zD (ops:=ops) (dst:=dst) (l:=k) (T:=T) (F:=F) (Q:=Q) rfl hE2
 have hsl:=hC.at.ok.see_len h1B
 have hu1:=hu.one
 have hsu:=bt42.store hu hsl (w:=blkV (zT 256)) isB_v z256
 generalize ha:S2.length=a
 have ha2:(S2 ++ [Ob.row [u] 42])[a]? = some (.row [u] 42):=by rw [List.getElem?_append_right (by omega),ha,Nat.sub_self]; rfl
 have hsc:=sl42 (i:=0) ha2
 simp (maxSteps:=1000000) (disch:=first|assumption|omega|rfl) only [↓gp,gc,Nat.reduceAdd,hst,bo24,hview,bo27,hv1,hbk,bo49,hu1,z42,zf42,ha,rA0 ha,pA0 ha,hsu,z7o,Option.map_none,hsc]
 refine ⟨rfl,_,rfl,((Frm.keep hK).trans hF).app,hC.at.keep Keep.refl.app,a,u,rfl,?_,ha2,hu⟩
 have:=hK.len
 have:=hF.1
 omega
theorem zta (h:AllP S y x c r m mk gm l e C mf gf gl b):EvS cfg 35 [.ref c 0 0] S (fun o S'=>S'=S∧o = .ret (.d (.int .i64 (C.last:Int)))):=by
 obtain ⟨d,L,es,vs,f,z,w,q,h,hq⟩:=h.sp.ca
 refine qF rfl zra ?_
 show Wp cfg (Tryz.f35.body.getD .skip) ((.ref c 0 0)::(.tup [])::(.tup [])::(.tup [])::(.tup [])::(.tup [])::(.tup [])::(.tup [])::(.tup [])::[]) S [] _
 conv=>arg 2; whnf
 rw [zO]
 have hc0:rowE S c 0=some (cacV d m L C.last):=zE (e:=126) h.hc
 simp (maxSteps:=1000000) (disch:=first|assumption|omega|rfl) only [↓gp,gc,Nat.reduceAdd,z3o,vI,hc0,lc3]
 exact ⟨rfl,_,rfl,rfl,rfl⟩
theorem zu6 (h:AllP S y x c r m mk gm l e C mf gf gl b) (n:Nat) (hn:n ≤ C.list.length) (hn1:1 ≤ n):EvS cfg 46 [.ref y 0 0,.d (.int .i64 (n:Int))] S (fun o S'=>Keep S S' ∧ ∃ id es,o = .ret (.rs id (C.list.length - n) n)∧S'[id]? = some (.row es 97)∧ChgsV S' es C.list):=by
 refine qF rfl q0e ?_
 show Wp cfg (Tryz.f46.body.getD .skip) ((.ref y 0 0)::(.d (.int .i64 (n:Int)))::uZ ((.tup [])::(.tup [])::(.tup [])::(.tup [])::(.tup [])::(.tup [])::(.tup [])::(.tup [])::(.tup [])::[])) S [] _
 unfold uZ
 conv=>arg 2; whnf
 rw [zO]
 have hst:=fun {ops dst k T F Q}=>zD (ops:=ops) (dst:=dst) (l:=k) (T:=T) (F:=F) (Q:=Q) rfl (z05 S y x gm h.hy)
 have hch:=fun {ops dst k T F Q}=>zD (ops:=ops) (dst:=dst) (l:=k) (T:=T) (F:=F) (Q:=Q) rfl (z3k S x c mk l.blocks l.inodes l.merge e h.sp.hx)
 obtain ⟨o,S1,⟨hK1,v1,fs,rfl,ho1,hc1⟩,hE1⟩:=zY (zk1 S c r m C h.sp.ca)
 have hleft:=fun {ops dst k T F Q}=>zD (ops:=ops) (dst:=dst) (l:=k) (T:=T) (F:=F) (Q:=Q) rfl hE1
 have hll:C.list.length ≤ 150000:=by
  obtain ⟨_,_,_,_,_,_,_,_,g,_⟩:=h.sp.ca
  have h1:=g.wq
  have h2:=g.ok.last
  omega
 have hle:=hc1.1
 obtain ⟨o,S2,⟨hK2,v2,rfl,ho2⟩,hE2⟩:=zY (q2u S1 v1 fs C.list ho1 hc1 (by omega) (fun ch hch=>(h.sp.ca.ok.chs ch hch).1.1))
 have hof:=fun {ops dst k T F Q}=>zD (ops:=ops) (dst:=dst) (l:=k) (T:=T) (F:=F) (Q:=Q) rfl hE2
 have h11:=qH ho1
 rcases ho2 with ⟨rfl,h0⟩ | ⟨id,rfl,hrow⟩
 ·rw [h0] at hle; simp at hle; omega
 have hln:zL Tryz.prog S2 .len [92] [.rs id 0 fs.length]=some (.val (.d (.int .i64 (fs.length:Int))) S2 0):=z9z uC
 have n1 : ¬ (fs.length:Int) < (n:Int):=by omega
 have hw:IntKind.i64.wrap ((fs.length:Int) - (n:Int))=((fs.length - n:Nat):Int):=by rw [wrap64 (by omega)]; omega
 have hsc:wN Tryz.prog S2 92 (.rs id 0 fs.length) (some (.d (.int .i64 ((fs.length - n:Nat):Int)))) none=some (.rs id (C.list.length - n) n):=by
  have h3:rowT S2 id 97=true:=by simp only [rowT,hrow,beq_self_eq_true]
  have hb:=zgp (y:=fs.length) (d:=0) (k:=fs.length - n) (by omega)
  have h4:(sz Tryz.prog 97).isSome=true:=sC
  simp only [wN,uC,hb,z7p,h3,h4,Bool.and_self,if_true,Nat.zero_add]
  have e:fs.length - (fs.length - n)=n:=by omega
  rw [e,hle]
 simp (maxSteps:=1000000) (disch:=first|assumption|omega|rfl) only [↓gp,gc,Nat.reduceAdd,hst,bo24,hch,bo25,hleft,bo37,h11,hof,bo92,hln,hw,z7o,Option.map_none,Option.map_some,hsc]
 exact ⟨rfl,_,rfl,hK1.trans hK2,id,fs,rfl,hrow,hc1.keep hK2⟩
end
def InvA (e:Int) (C:CS) (gl:Int→List Int):Prop:=e=0 → ∀ no,∀ x ∈ gl no,x ≤ C.last
theorem zb2 {e:Int} {C:CS} {no a:Int} {b:List UInt8} {ids:List Int}:C.last ≤ (spC e C no a b ids).last∧(spC e C no a b ids).last ≤ C.last + 1∧(spC e C no a b ids).img=C.img:=by
 unfold spC
 split
 ·exact ⟨Nat.le_refl _,Nat.le_succ _,rfl⟩
 ·split
  ·exact ⟨Nat.le_refl _,Nat.le_succ _,rfl⟩
  ·exact ⟨Nat.le_succ _,Nat.le_refl _,rfl⟩
theorem zjv {e:Int} {C:CS} {no a:Int} {b:List UInt8} {ids:List Int} (h:spE e C no a b ids=0):e=0∧putE C no a b (noZ ids)=0 ∧ ∀ x ∈ ids,x ≤ (C.last:Int):=by
 unfold spE at h
 by_cases he:e=0
 ·rw [if_neg (fun hh=>hh he)] at h
  refine ⟨he,h,fun x hx=>?_⟩
  by_cases h0:x=0
  ·omega
  ·have hn:x ∈ noZ ids:=List.mem_filter.2 ⟨hx,by simpa using h0⟩
   unfold putE at h
   by_cases hp:kL a b
   ·rw [if_neg (fun hh=>hh hp)] at h
    by_cases hr : ∀ x ∈ noZ ids,1 ≤ x∧x ≤ (C.last:Int)
    ·exact (hr x hn).2
    ·rw [if_pos hr] at h; cases h
   ·rw [if_pos hp] at h; cases h
 ·rw [if_pos he] at h; exact absurd h he
theorem zk5 {C:CS} {no:Nat} {bb:List UInt8} {gs ids:List Int}:C.last ≤ (takC C no bb gs ids).last∧(takC C no bb gs ids).last ≤ C.last + 2∧(takC C no bb gs ids).img=C.img:=by
 unfold takC
 have h:=zb2 (e:=0) (C:=bitC C no true []) (no:=(no:Int)) (a:=0) (b:=bb) (ids:=vP (bitC C no true []).list gs ++ ids)
 have e1:(bitC C no true []).last=C.last + 1:=rfl
 have e2:(bitC C no true []).img=C.img:=rfl
 rw [e1,e2] at h
 exact ⟨by omega,by omega,h.2.2⟩
theorem zpy {ops:Array Oper} {base:Nat} {K:Ws→List (Nat × Nat)→List V→zA→Prop} {ws:Ws} {cs:List (Nat × Nat)} {i:Nat} {dst:Option Tmp} {T:List V} {S:zA} {x:UInt8}:WpEw cfg ops base K ws cs i dst T S (some (.enter 20 [.d (byD x)]))=K ((i,T,.d (blkD (fulL x)))::ws) (cs ++ [(i,1)]) (putT T dst (.d (blkD (fulL x)))) S:=z33 (ds:=[byD x]) rfl rfl rfl (zte x)
theorem bs5 {S:zA} {x:UInt8}:bs1 Tryz.prog S 76 (.d (byD x))=some (.val (.ts [byD x]) S 0):=by kernel_rfl
theorem q2l {x:UInt8}:wK Tryz.prog 78 [(0,.d (.int .i64 0)),(1,.ts [byD x])]=some (.agg [.d (.int .i64 0),.ts [byD x]]):=by kernel_rfl
theorem zyo:zB Tryz.prog 40=some ⟨(Tryz.f40.body.getD .skip),41, #[]⟩:=by
 unfold zB
 rw [Tryz.func40]
 rfl
def Go1R (S:zA) (y x c r m mk gm:Nat) (l:Lay) (C:CS) (mf:Int→Option V) (b:Nat) (o:Out) (S':zA):Prop :=
 o = .ret (.tup [])∧FrM m gm r S S' ∧ ∃ e' C' gf' gl',AllP S' y x c r m mk gm l e' C' mf gf' gl' b∧InvA e' C' gl'∧C.last ≤ C'.last∧C'.last ≤ C.last + 2∧C'.img.length=C.img.length
theorem zyt (S:zA) (y x c r m mk gm:Nat) (l:Lay) (e:Int) (C:CS) (mf gf:Int→Option V) (gl:Int→List Int) (b:Nat) (h:AllP S y x c r m mk gm l e C mf gf gl b) (hbb:b ≤ 17592186000000) (hb:InB l.blocks) (hi:InB l.inodes) (hm:MayL l) (D:Nat) (hD:2 + l.inodes.tdiv 8=(D:Int)) (N:Nat) (hN:l.blocks=N) (s:StpA) (hsn:s.needs.length ≤ b) (hinv:InvA e C gl) (hlast:C.last ≤ 1000) :
  EvS cfg 40 [.ref y 0 0,.d (encStpA s)] S (Go1R S y x c r m mk gm l C mf b):=by
 refine qF rfl zyo ?_
 show Wp cfg (Tryz.f40.body.getD .skip) ((.ref y 0 0)::(.d (encStpA s))::uZ (uZ (uZ ((.tup [])::(.tup [])::(.tup [])::(.tup [])::(.tup [])::(.tup [])::(.tup [])::(.tup [])::(.tup [])::[])))) S [] _
 unfold uZ
 conv=>arg 2; whnf
 rw [zO]
 generalize ha:S.length=a
 have hk0:Keep S (S ++ [.row [.d (encStpA s)] 39]):=Keep.refl.app
 have h0:=h.keep hk0
 have hra : ∀ l,rowE (S ++ [.row [.d (encStpA s)] 39] ++ l) a 0=some (.d (encStpA s)):=fun l=>zE (e:=39) (by rw [List.append_assoc,List.getElem?_append_right (by omega),ha,Nat.sub_self]; rfl)
 have hra0:=hra []
 rw [List.append_nil] at hra0
 have hft:=ftA (s:=s)
 have hnd:IntsV (S ++ [.row [.d (encStpA s)] 39]) (.d (encI s.needs)) s.needs:= .inl rfl
 have toM : ∀ {S':zA},FrC m r (S ++ [.row [.d (encStpA s)] 39]) S'→FrM m gm r S S':=fun hF=>(Frm.keep hk0).trans (FrS.toM (mk:=gm) hF.toS)
 have h512:=hm.2.1
 have hn1:1 < C.img.length:=by have:=hm.1; have:=h.sp.hB; omega
 by_cases d0:s.do_=0
 ·have hd0:=zw2 d0
  have hf1:=z59 (x:=s.byte)
  have hfull:=fun {ops base K ws cs i dst T S}=>zpy (ops:=ops) (base:=base) (K:=K) (ws:=ws) (cs:=cs) (i:=i) (dst:=dst) (T:=T) (S:=S) (x:=s.byte)
  have key : ∃ S2 v,EvS cfg 19 [.ref y 0 0,.d (blkD (fulL s.byte)),.d (encI s.needs)] (S ++ [.row [.d (encStpA s)] 39]) (fun o' S'=>S'=S2∧o' = .ret v)∧Go1R S y x c r m mk gm l C mf b (.ret (.tup [])) S2:=by
   by_cases hor:frB (C.see 1) D N=[] ∨ e ≠ 0
   ·obtain ⟨o,S2,⟨hF2,hA2,rfl⟩,hE2⟩:=zY (zje _ y x c r m mk gm l e C mf gf gl b h0 hb hi hm D hD N hN (.d (blkD (fulL s.byte))) _ wI hf1 (.d (encI s.needs)) hor)
    exact ⟨S2,_,hE2,rfl,toM hF2,e,C,gf,gl,hA2,hinv,Nat.le_refl _,by omega,rfl⟩
   ·cases hfr:frB (C.see 1) D N with
    | nil=>exact absurd (.inl hfr) hor
    | cons no t =>
     have he:e=0:=by
      by_cases he:e=0
      ·exact he
      ·exact absurd (.inr he) hor
     subst he
     obtain ⟨o,S2,⟨hF2,⟨gf2,hA2⟩,rfl⟩,hE2⟩:=zY (zlz _ y x c r m mk gm l C mf gf gl b h0 (by omega) hb hi hm D hD N hN (.d (blkD (fulL s.byte))) _ wI hf1 (.d (encI s.needs)) s.needs hnd (by omega) (by omega) no t hfr)
     obtain ⟨q1,q2,q3⟩:=zk5 (C:=C) (no:=no) (bb:=fulL s.byte) (gs:=gl no) (ids:=s.needs)
     refine ⟨S2,_,hE2,rfl,(Frm.keep hk0).trans hF2,_,_,gf2,_,hA2,?_,q1,q2,by rw [q3]⟩
     intro hz n xx hx
     by_cases hn:n=(no:Int)
     ·simp only [hn,if_true] at hx; cases hx
     ·simp only [hn,if_false] at hx
      have:=hinv rfl n xx hx
      omega
  obtain ⟨S2,v,hE2,hG⟩:=key
  have htk:=fun {ops base K ws cs i dst T}=>qW (ops:=ops) (base:=base) (K:=K) (ws:=ws) (cs:=cs) (i:=i) (dst:=dst) (T:=T) rfl hE2
  simp (maxSteps:=1000000) (disch:=first|assumption|omega|rfl) only [↓gp,gc,Nat.reduceAdd,hft,ha,zo8,hra0,znw,hd0]
  refine qP (is:=[0,1,2,4,5,3,6]) (h:=0) (by kernel_rfl) (by kernel_rfl) ?_
  simp (maxSteps:=1000000) (disch:=first|assumption|omega|rfl) only [List.replicate_zero,eq_self,gw,ga,Nat.reduceAdd,↓gq,vso,List.append_nil,q1f,q06,hra0,zsn,zxd,hfull,bo20,htk,bo19]
  refine ⟨?_,by kernel_rfl,?_⟩
  ·repeat first | exact zW | refine zF (by kernel_rfl) ?_
  simp (maxSteps:=1000000) (disch:=first|assumption|omega|rfl) only [↓gp,gc,Nat.reduceAdd]
  exact ⟨rfl,_,rfl,hG⟩
 have hd0:=zsm d0
 by_cases d1:s.do_=1
 ·have hd1:=zw2 d1
  have key : ∃ S2 v,EvS cfg 23 [.ref y 0 0,.d (.int .i64 s.no),.d (encI s.needs)] (S ++ [.row [.d (encStpA s)] 39]) (fun o' S'=>S'=S2∧o' = .ret v)∧Go1R S y x c r m mk gm l C mf b (.ret (.tup [])) S2:=by
   by_cases hor : ¬ (2 + l.inodes.tdiv 8 ≤ s.no∧s.no < l.blocks) ∨ z3m l C s.no=false ∨ e ≠ 0
   ·obtain ⟨o,S2,⟨hF2,hA2,rfl⟩,hE2⟩:=zY (zeg _ y x c r m mk gm l e C mf gf gl b h0 hb hi hm s.no (.d (encI s.needs)) hor)
    exact ⟨S2,_,hE2,rfl,toM hF2,e,C,gf,gl,hA2,hinv,Nat.le_refl _,by omega,rfl⟩
   ·have he:e=0:=by
     by_cases he:e=0
     ·exact he
     ·exact absurd (.inr (.inr he)) hor
    have hg:2 + l.inodes.tdiv 8 ≤ s.no∧s.no < l.blocks:=by
     by_cases hg:2 + l.inodes.tdiv 8 ≤ s.no∧s.no < l.blocks
     ·exact hg
     ·exact absurd (.inl hg) hor
    have hu:z3m l C s.no=true:=by
     cases hu:z3m l C s.no with
     | true=>rfl
     | false=>exact absurd (.inr (.inl hu)) hor
    subst he
    obtain ⟨no,hno⟩ : ∃ no:Nat,s.no=no:=⟨s.no.toNat,by omega⟩
    rw [hno] at hg hu ⊢
    obtain ⟨o,S2,⟨hF2,⟨gf2,hA2⟩,rfl⟩,hE2⟩:=zY (zji _ y x c r m mk gm l C mf gf gl b h0 hb hi hm no (.d (encI s.needs)) s.needs hnd (by omega) (by omega) hg hu)
    obtain ⟨q1,q2,q3⟩:=zb2 (e:=0) (C:=C) (no:=1) (a:=((no / 8:Nat):Int)) (b:=bitP C no false) (ids:=s.needs)
    have hmx:max b s.needs.length=b:=by omega
    rw [hmx] at hA2
    refine ⟨S2,_,hE2,rfl,(Frm.keep hk0).trans hF2,_,_,gf2,_,hA2,?_,q1,by omega,by rw [q3]⟩
    intro hz n xx hx
    obtain ⟨_,_,hids⟩:=zjv hz
    by_cases hn:n=(no:Int)
    ·simp only [hn,if_true] at hx
     have:=hids xx hx
     omega
    ·simp only [hn,if_false] at hx
     have:=hinv rfl n xx hx
     omega
  obtain ⟨S2,v,hE2,hG⟩:=key
  have hgv:=fun {ops dst k T F Q}=>zD (ops:=ops) (dst:=dst) (l:=k) (T:=T) (F:=F) (Q:=Q) rfl hE2
  simp (maxSteps:=1000000) (disch:=first|assumption|omega|rfl) only [↓gp,gc,Nat.reduceAdd,hft,ha,zo8,zuo,q06,hra0,znw,zl5,zxd,hd0,hd1,hgv,bo23]
  exact ⟨rfl,_,rfl,hG⟩
 have hd1:=zsm d1
 by_cases d2:s.do_=2
 ·have hd2:=zw2 d2
  have hst:=fun {ops base K ws cs i dst T}=>qW (ops:=ops) (base:=base) (K:=K) (ws:=ws) (cs:=cs) (i:=i) (dst:=dst) (T:=T) rfl (z05 _ y x gm h0.hy)
  have hch:=fun {ops base K ws cs i dst T}=>qW (ops:=ops) (base:=base) (K:=K) (ws:=ws) (cs:=cs) (i:=i) (dst:=dst) (T:=T) rfl (z3k _ x c mk l.blocks l.inodes l.merge e h0.sp.hx)
  obtain ⟨o,S2,⟨hF2,rfl,C',hC',hfs⟩,hE2⟩:=zY (zh4 _ c r m C h0.sp.ca s.no)
  have hfl:=fun {ops base K ws cs i dst T}=>qW (ops:=ops) (base:=base) (K:=K) (ws:=ws) (cs:=cs) (i:=i) (dst:=dst) (T:=T) rfl hE2
  obtain ⟨f1,f2,f3⟩:=z8i h.sp.ca.ok hfs
  have hl1:=(zJ hra0).trans (zl5 (s:=s))
  simp (maxSteps:=1000000) (disch:=first|assumption|omega|rfl) only [↓gp,gc,Nat.reduceAdd,hft,ha,zo8,hra0,znw,hd0,hd1,hd2]
  refine qP (is:=[0,3,4,1,2,5]) (h:=0) (by kernel_rfl) (by kernel_rfl) ?_
  simp (maxSteps:=1000000) (disch:=first|assumption|omega|rfl) only [List.replicate_zero,eq_self,gw,ga,Nat.reduceAdd,↓gq,vso,List.append_nil,zuo,hra0,zl5,hst,bo24,hch,bo25,hfl,bo26]
  refine ⟨zX rfl (by kernel_rfl) rfl (wG hl1) kQ zW,zX rfl (by kernel_rfl) rfl (wG hl1) kQ zW,zF (by kernel_rfl) zW,by kernel_rfl,?_⟩
  simp (maxSteps:=1000000) (disch:=first|assumption|omega|rfl) only [↓gp,gc,Nat.reduceAdd]
  exact ⟨rfl,_,rfl,rfl,toM hF2,e,C',gf,gl,h0.frC hF2 hC' f1,fun hz n xx hx=>by rw [f2]; exact hinv hz n xx hx,by omega,by omega,f1⟩
 have hd2:=zsm d2
 have hst:=fun {ops base K ws cs i dst T}=>qW (ops:=ops) (base:=base) (K:=K) (ws:=ws) (cs:=cs) (i:=i) (dst:=dst) (T:=T) rfl (z05 _ y x gm h0.hy)
 have hpt:PatV (S ++ [.row [.d (encStpA s)] 39]) (.agg [.d (.int .i64 0),.ts [byD s.byte]]) (.ts [byD s.byte]) 0 [s.byte]:= .inl ⟨rfl,.inr (.inr rfl)⟩
 obtain ⟨o,S2,⟨hF2,hS2,rfl⟩,hE2⟩:=zY (z7j _ x c r m mk l e C mf h0.sp s.no (.agg [.d (.int .i64 0),.ts [byD s.byte]]) (.ts [byD s.byte]) 0 [s.byte] hpt (by unfold InB; omega) (.ts []) [] (.inr (.inl rfl)) (Nat.zero_le _) (by omega))
 have hput:=fun {ops base K ws cs i dst T}=>qW (ops:=ops) (base:=base) (K:=K) (ws:=ws) (cs:=cs) (i:=i) (dst:=dst) (T:=T) rfl hE2
 obtain ⟨q1,q2,q3⟩:=zb2 (e:=e) (C:=C) (no:=s.no) (a:=0) (b:=[s.byte]) (ids:=[])
 have hl1:=(zJ hra0).trans (zl5 (s:=s))
 have hl2:=(zJ hra0).trans (zsn (s:=s))
 simp (maxSteps:=1000000) (disch:=first|assumption|omega|rfl) only [↓gp,gc,Nat.reduceAdd,hft,ha,zo8,hra0,znw,hd0,hd1,hd2]
 refine qP (is:=[0,2,3,4,5,6,7,1,8]) (h:=0) (by kernel_rfl) (by kernel_rfl) ?_
 simp (maxSteps:=1000000) (disch:=first|assumption|omega|rfl) only [List.replicate_zero,eq_self,gw,ga,Nat.reduceAdd,↓gq,vso,List.append_nil,zuo,q1f,hra0,zl5,zsn,bs5,q2l,hst,bo24,hput,bo50]
 refine ⟨zX rfl (by kernel_rfl) rfl (wG hl2) kQ (zX rfl (by kernel_rfl) rfl (wG hl1) kQ zW),zF (by kernel_rfl) (zF (by kernel_rfl) zW),by kernel_rfl,?_⟩
 simp (maxSteps:=1000000) (disch:=first|assumption|omega|rfl) only [↓gp,gc,Nat.reduceAdd]
 refine ⟨rfl,_,rfl,rfl,(Frm.keep hk0).trans (FrS.toM (mk:=gm) hF2),_,_,gf,gl,h0.frS hF2 hS2,fun hz n xx hx=>?_,q1,by omega,by rw [q3]⟩
 obtain ⟨he,_,_⟩:=zjv hz
 have:=hinv he n xx hx
 omega
theorem ixBz {S:zA} {l:List UInt8} {i:Nat} (h:i < l.length):zK Tryz.prog S 76 (.d (encB l)) (.d (.int .i64 (i:Int)))=some (.d (.ptr (.int .u8 (l[i].toNat:Int)))):=ix76 h
theorem lnBz {S:zA} {l:List UInt8}:zL Tryz.prog S .len [76] [.d (encB l)]=some (.val (.d (.int .i64 (l.length:Int))) S 0):=by
 have:=znc (S:=S) (xs:=l.map fun b=>D.int .u8 b.toNat)
 rw [List.length_map] at this
 exact this
theorem ldU5 {S:zA} {a:Int}:kM Tryz.prog S 5 (.d (.ptr (.int .u8 a)))=some (.d (.int .u8 a)):=by kernel_rfl
theorem quo2 {v:Nat} (h:v < 1000000):binV Tryz.prog .quo 3 (.d (.int .i64 (v:Int))) (.d (.int .i64 2))=some (.d (.int .i64 ((v / 2:Nat):Int))):=by
 have hb : ¬ (2:Int)=0:=by decide
 have e:((v:Int)).tdiv 2=((v / 2:Nat):Int):=rfl
 have h2:IntKind.i64.wrap ((v / 2:Nat):Int)=((v / 2:Nat):Int):=wrap64 (by omega)
 simp only [binV,qR,hb,if_false,Option.map_some,e,h2]
 rfl
theorem rem2 {v:Nat}:binV Tryz.prog .rem 3 (.d (.int .i64 (v:Int))) (.d (.int .i64 2))=some (.d (.int .i64 ((v % 2:Nat):Int))):=zrt (by decide) rfl
theorem zj2 : ∀ (x:Fin 256) (k:Fin 8),((UInt8.ofNat x.val &&& bitU k.val) != 0)=decide (x.val / 2 ^ k.val % 2=1):=by decide +kernel
theorem zyp (b:List UInt8) (n:Nat) (hn:n < 2048) (R:Post) : ∀ (k i v:Nat) (g0 g2 g3 g4 g7 g8 g9 gI gF gD gB gC gA gE gL gM gG gK gN gJ gH gO gP gT gQ gU gR gS gV gW:V),n % 8 - i=k→i ≤ n % 8→v < 256 →
 (∀ i' g0 g2 g3 g4 g7 g8 g9 gI gF gD gB gC gA gE gL gM gG gK gN gJ gH gO gP gT gQ gU gR gS gV gW,R (.exit 0) (g0::(.d (.int .i64 (n:Int)))::g2::g3::g4::(.d (.int .i64 ((v / 2 ^ (n % 8 - i):Nat):Int)))::i'::g7::g8::g9::gI::gF::gD::gB::gC::gA::gE::gL::gM::gG::gK::gN::gJ::gH::gO::gP::gT::gQ::gU::gR::gS::gV::gW::[]) [] []) →
 Wp cfg (.loop (lpOf (Tryz.f51.body.getD .skip) 0)) (g0::(.d (.int .i64 (n:Int)))::g2::g3::g4::(.d (.int .i64 (v:Int)))::(.d (.int .i64 (i:Int)))::g7::g8::g9::gI::gF::gD::gB::gC::gA::gE::gL::gM::gG::gK::gN::gJ::gH::gO::gP::gT::gQ::gU::gR::gS::gV::gW::[]) [] [] R:=by
 intro k
 have hr:=rem8 (a:=(n:Int))
 have e2:((n:Int)).tmod 8=((n % 8:Nat):Int):=rfl
 rw [e2] at hr
 induction k with
 | zero =>
  intro i v g0 g2 g3 g4 g7 g8 g9 gI gF gD gB gC gA gE gL gM gG gK gN gJ gH gO gP gT gQ gU gR gS gV gW hk hi hv hR
  have hie:i=n % 8:=by omega
  have hle : ¬ (i:Int) < ((n % 8:Nat):Int):=by omega
  have e0:n % 8 - i=0:=by omega
  rw [e0,Nat.pow_zero,Nat.div_one] at hR
  rw [zO]
  refine zM ?_
  conv=>arg 2; whnf
  simp (maxSteps:=1000000) (disch:=first|assumption|omega|rfl) only [↓gp,gc,Nat.reduceAdd,hr]
  exact hR _ _ _ _ _ _ _ _ _ _ _ _ _ _ _ _ _ _ _ _ _ _ _ _ _ _ _ _ _ _ _
 | succ k ih =>
  intro i v g0 g2 g3 g4 g7 g8 g9 gI gF gD gB gC gA gE gL gM gG gK gN gJ gH gO gP gT gQ gU gR gS gV gW hk hi hv hR
  have hle:(i:Int) < ((n % 8:Nat):Int):=by omega
  have h3:IntKind.i64.wrap ((i:Int) + 1)=((i + 1:Nat):Int):=by rw [wrap64 (by omega)]; omega
  have hq:=quo2 (v:=v) (by omega)
  rw [zO]
  refine zM ?_
  conv=>arg 2; whnf
  simp (maxSteps:=1000000) (disch:=first|assumption|omega|rfl) only [↓gp,gc,Nat.reduceAdd,hr,hq,h3]
  refine ih (i + 1) (v / 2) _ _ _ _ _ _ _ _ _ _ _ _ _ _ _ _ _ _ _ _ _ _ _ _ _ _ _ _ _ _ (by omega) (by omega) (by omega) ?_
  have e:v / 2 / 2 ^ (n % 8 - (i + 1))=v / 2 ^ (n % 8 - i):=by
   rw [Nat.div_div_eq_div_mul,← Nat.pow_succ']
   congr 2
   omega
  rw [e]
  exact hR
theorem zjo (b:List UInt8) (hb:b.length=256) (n:Nat) (hn:n < 2048):Ev cfg 51 [encB b,.int .i64 (n:Int)] (.ret (.d (.bool (hasB b n)))):=by
 refine kB rfl rfl zx1 ?_
 show Wp cfg (Tryz.f51.body.getD .skip) ((.d (encB b))::(.d (.int .i64 (n:Int)))::uZ (uZ (uZ ((.tup [])::[])))) [] [] _
 unfold uZ
 conv=>arg 2; whnf
 have hln:=fun S=>lnBz (S:=S) (l:=b)
 have hix:=fun S=>ixBz (S:=S) (l:=b) (i:=n / 8) (by omega)
 have hq:=quo8 (a:=(n:Int)) (by unfold InB; omega)
 have e1:((n:Int)).tdiv 8=((n / 8:Nat):Int):=rfl
 rw [e1] at hq
 have hcv:=fun S=>cv53 (S:=S) (x:=b[n / 8]'(by omega))
 have hw:IntKind.i64.wrap (8 * (b.length:Int))=8 * (b.length:Int):=wrap64 (by omega)
 have n0 : ¬ (n:Int) < 0:=by omega
 have n1 : ¬ (n:Int) ≥ 8 * (b.length:Int):=by omega
 have hlt:=UInt8.toNat_lt (b[n / 8]'(by omega))
 simp (maxSteps:=1000000) (disch:=first|assumption|omega|rfl) only [↓gp,gc,Nat.reduceAdd,hln,hw,hq,hix,ldU5,hcv]
 refine zyp b n hn _ (n % 8) 0 _ _ _ _ _ _ _ _ _ _ _ _ _ _ _ _ _ _ _ _ _ _ _ _ _ _ _ _ _ _ _ rfl (Nat.zero_le _) hlt ?_
 intro i' g0 g2 g3 g4 g7 g8 g9 gI gF gD gB gC gA gE gL gM gG gK gN gJ gH gO gP gT gQ gU gR gS gV gW
 have hr2:=rem2 (v:=(b[n / 8]'(by omega)).toNat / 2 ^ (n % 8 - 0))
 have hres:hasB b n=decide ((((b[n / 8]'(by omega)).toNat / 2 ^ (n % 8 - 0) % 2:Nat):Int)=1):=by
  unfold hasB
  have h:=zj2 ⟨(b[n / 8]'(by omega)).toNat,hlt⟩ ⟨n % 8,by omega⟩
  simp only [UInt8.ofNat_toNat] at h
  rw [List.getD_eq_getElem?_getD,List.getElem?_eq_getElem (by omega),Option.getD_some,h,Nat.sub_zero]
  congr 1
  apply propext
  omega
 rw [hres]
 simp (maxSteps:=1000000) (disch:=first|assumption|omega|rfl) only [↓gp,gc,Nat.reduceAdd,hr2]
 exact zU rfl rfl rfl
section
variable {ops:Array Oper} {dst:Option Tmp} {k:List Oper} {T:List V} {S:zA} {F:Dfs} {Q:Post}
theorem ztn {S2:zA} {c:Nat} {f:FuncId} {args:List V} {v:V} (h : ∃ n,jG cfg (run cfg n) f args S=some (.ret v,S2,c)):WpR cfg ops dst k T S F Q (some (.enter f args))=WpL cfg ops k (putT T dst v) S2 F Q:=by
 obtain ⟨n,hc⟩:=h
 apply propext
 constructor
 ·rintro ⟨m,o,S3,c',h1,h2⟩
  have:=kS h1 hc
  simp only [Prod.mk.injEq] at this
  obtain ⟨rfl,rfl,rfl⟩:=this
  exact h2
 ·exact fun h=>⟨n,_,_,_,hc,h⟩
end
def encZ (l:List Bool):D:= .sl (l.map D.bool)
theorem remn {i:Nat}:binV Tryz.prog .rem 3 (.d (.int .i64 (i:Int))) (.d (.int .i64 8))=some (.d (.int .i64 ((i % 8:Nat):Int))):=by
 rw [rem8,Int.tmod_eq_emod_of_nonneg (by omega)]; rfl
theorem quon {i:Nat} (h:i ≤ 1000000):binV Tryz.prog .quo 3 (.d (.int .i64 (i:Int))) (.d (.int .i64 8))=some (.d (.int .i64 ((i / 8:Nat):Int))):=by
 rw [quo8 (by unfold InB; omega),Int.tdiv_eq_ediv_of_nonneg (by omega)]; rfl
theorem ixZ {S:zA} {l:List Bool} {i:Nat} (h:i < l.length):zK Tryz.prog S 190 (.d (encZ l)) (.d (.int .i64 (i:Int)))=some (.d (.ptr (.bool l[i]))):=q2q h
theorem q1k (s:Nat) : ∀ (R:Post) (S:zA) (x0 x3:V) (i:Nat) (hs:i % 8=s),∀ (k j:Nat) (g1 g2 g7 g8 g9 gI gF gD gB gC gA gE gL gM gG gK gN gJ gH gO gP gT gQ gU gR gS gV gW gX gY gZ gh gj gk gn gr gz:V),s - j=k→j ≤ s →
 (∀ j' g1 g2 g7 g8 g9 gI gF gD gB gC gA gE gL gM gG gK gN gJ gH gO gP gT gQ gU gR gS gV gW gX gY gZ gh gj gk gn gr gz,R (.exit 2) (x0::g1::g2::x3::(.d (.int .i64 (i:Int)))::(.d (.int .i64 ((2 ^ s:Nat):Int)))::j'::g7::g8::g9::gI::gF::gD::gB::gC::gA::gE::gL::gM::gG::gK::gN::gJ::gH::gO::gP::gT::gQ::gU::gR::gS::gV::gW::gX::gY::gZ::gh::gj::gk::gn::gr::gz::[]) S []) →
 Wp cfg (.loop (lpOf (Tryz.f133.body.getD .skip) 2)) (x0::g1::g2::x3::(.d (.int .i64 (i:Int)))::(.d (.int .i64 ((2 ^ j:Nat):Int)))::(.d (.int .i64 (j:Int)))::g7::g8::g9::gI::gF::gD::gB::gC::gA::gE::gL::gM::gG::gK::gN::gJ::gH::gO::gP::gT::gQ::gU::gR::gS::gV::gW::gX::gY::gZ::gh::gj::gk::gn::gr::gz::[]) S [] R:=by
 intro R S x0 x3 i hs k
 have hrem:=remn (i:=i)
 rw [hs] at hrem
 induction k with
 | zero =>
  intro j g1 g2 g7 g8 g9 gI gF gD gB gC gA gE gL gM gG gK gN gJ gH gO gP gT gQ gU gR gS gV gW gX gY gZ gh gj gk gn gr gz hk hj hR
  have hje:j=s:=by omega
  subst hje
  rw [zO]
  refine zM ?_
  conv=>arg 2; whnf
  simp (maxSteps:=1000000) (disch:=first|assumption|omega|rfl) only [↓gp,gc,Nat.reduceAdd,hrem]
  exact hR _ _ _ _ _ _ _ _ _ _ _ _ _ _ _ _ _ _ _ _ _ _ _ _ _ _ _ _ _ _ _ _ _ _ _ _ _ _
 | succ k ih =>
  intro j g1 g2 g7 g8 g9 gI gF gD gB gC gA gE gL gM gG gK gN gJ gH gO gP gT gQ gU gR gS gV gW gX gY gZ gh gj gk gn gr gz hk hj hR
  have hlt:j < s:=by omega
  have h3:IntKind.i64.wrap ((j:Int) + 1)=((j + 1:Nat):Int):=by rw [wrap64 (by omega)]; omega
  have hp:2 ^ j ≤ 2 ^ 8:=Nat.pow_le_pow_right (by decide) (by omega)
  have h4:IntKind.i64.wrap (((2 ^ j:Nat):Int) * 2)=((2 ^ (j + 1):Nat):Int):=by
   rw [Nat.pow_succ]
   generalize 2 ^ j=m at hp ⊢
   rw [wrap64 (by omega)]; omega
  rw [zO]
  refine zM ?_
  conv=>arg 2; whnf
  simp (maxSteps:=1000000) (disch:=first|assumption|omega|rfl) only [↓gp,gc,Nat.reduceAdd,hrem,h3,h4]
  exact ih (j + 1) _ _ _ _ _ _ _ _ _ _ _ _ _ _ _ _ _ _ _ _ _ _ _ _ _ _ _ _ _ _ _ _ _ _ _ _ _ (by omega) (by omega) hR
theorem q2v {x y:UInt8}:IntKind.u8.wrap ((x.toNat:Int) + (y.toNat:Int))=((x + y).toNat:Int):=by
 rw [zne,UInt8.toNat_add]
 omega
def rowZ (d:List Bool):Ob:= .row (d.map fun x=>V.d (.bool x)) 4
section
variable {S:zA} {id n i:Nat} {d:List Bool}
theorem ixRZ (hS:S[id]? = some (rowZ d)) (hi:i < n):zK Tryz.prog S 190 (.rs id 0 n) (.d (.int .i64 (i:Int)))=some (.ref id i 0):=by
 have h1:rowT S id 4=true:=by unfold rowT; rw [hS]; rfl
 have h2:(sz Tryz.prog 4).isSome=true:=by kernel_rfl
 simp only [zK,intOf?,Tryz.underlying190]
 rw [if_pos ⟨⟨by omega,by omega⟩,h1,h2⟩]
 simp
theorem zy9 (hS:S[id]? = some (rowZ d)) (hi:i < d.length):rowE S id i=some (.d (.bool d[i])):=by
 unfold rowE
 rw [hS]
 simp only [rowZ,List.getElem?_map,List.getElem?_eq_getElem hi,Option.map_some]
theorem q2n (hS:S[id]? = some (rowZ d)) {x:Bool}:jE S id i (.d (.bool x))=some (S.set id (rowZ (d.set i x))):=by
 unfold jE
 rw [hS]
 simp only [rowZ,List.map_set]
theorem q33 (hS:S[id]? = some (rowZ d)) (hn:n=d.length):Go.Vm.frz S zI (.rs id 0 n)=some (encZ d):=by
 subst hn
 have h3:allO (Go.Vm.frz S 11) ((d.map D.bool).map V.d)=some (d.map D.bool):=zcu (n:=10) (d.map D.bool)
 have h4:(d.map D.bool).map V.d=d.map fun x=>V.d (.bool x):=by simp [Function.comp_def]
 rw [h4] at h3
 show (match S[id]? with
  | some (.row xs e)=>if 0 + d.length ≤ xs.length && (allO (Go.Vm.frz S 11) xs).isSome then (allO (Go.Vm.frz S 11) ((xs.drop 0).take d.length)).map D.sl else none
  | some (.fz xs e)=>if 0 + d.length ≤ xs.length then some (D.sl ((xs.drop 0).take d.length)) else none
  | _=>none)=_
 rw [hS]
 have h2:((d.map fun x=>V.d (.bool x)).drop 0).take d.length=d.map fun x=>V.d (.bool x):=by rw [List.drop_zero,List.take_of_length_le (by simp)]
 simp only [rowZ,h3,h2,List.length_map,Nat.zero_add,Nat.le_refl,decide_true,Option.isSome_some,Bool.and_self,if_true,Option.map_some]
 rfl
theorem q4h (hS:S[id]? = some (rowZ d)):frzIds S zI (.rs id 0 n)=[id]:=by
 have h2:S[id]? = some (.row ((d.map D.bool).map .d) 4):=by rw [hS]; simp [rowZ,Function.comp_def]
 show (match S[id]? with | some (.row xs e)=>id::xs.flatMap (frzIds S 11) | _=>[])=_
 rw [h2]
 simp only [ze6]
end
theorem st4 {a b:Bool}:qY Tryz.prog 4 0 (.d (.bool a)) (.d (.bool b))=some (.d (.bool a)):=by kernel_rfl
theorem zc6 : ∀ x:Fin 256,x.val=(if (UInt8.ofNat x.val &&& bitU 0) != 0 then 1 else 0) + (if (UInt8.ofNat x.val &&& bitU 1) != 0 then 2 else 0) + (if (UInt8.ofNat x.val &&& bitU 2) != 0 then 4 else 0) + (if (UInt8.ofNat x.val &&& bitU 3) != 0 then 8 else 0) + (if (UInt8.ofNat x.val &&& bitU 4) != 0 then 16 else 0) + (if (UInt8.ofNat x.val &&& bitU 5) != 0 then 32 else 0) + (if (UInt8.ofNat x.val &&& bitU 6) != 0 then 64 else 0) + (if (UInt8.ofNat x.val &&& bitU 7) != 0 then 128 else 0):=by decide +kernel
theorem zpd {x y:UInt8} (h : ∀ k,k < 8→((x &&& bitU k) != 0)=((y &&& bitU k) != 0)):x=y:=by
 have hx:=zc6 ⟨x.toNat,UInt8.toNat_lt _⟩
 have hy:=zc6 ⟨y.toNat,UInt8.toNat_lt _⟩
 simp only [UInt8.ofNat_toNat] at hx hy
 rw [h 0 (by omega),h 1 (by omega),h 2 (by omega),h 3 (by omega),h 4 (by omega),h 5 (by omega),h 6 (by omega),h 7 (by omega),← hy] at hx
 exact UInt8.toNat_inj.1 hx
theorem zoo {a b:List UInt8} (ha:a.length=256) (hb:b.length=256) (h : ∀ j,j < 2048→hasB a j=hasB b j):a=b:=by
 apply List.ext_getElem (by omega)
 intro i h1 h2
 apply zpd
 intro k hk
 have:=h (8 * i + k) (by omega)
 unfold hasB at this
 have e1:(8 * i + k) / 8=i:=by omega
 have e2:(8 * i + k) % 8=k:=by omega
 rw [e1,e2,List.getD_eq_getElem?_getD,List.getElem?_eq_getElem h1,List.getD_eq_getElem?_getD,List.getElem?_eq_getElem h2] at this
 exact this
theorem zts : ∀ (x:Fin 256) (k:Fin 8),((UInt8.ofNat x.val &&& bitU k.val) != 0)=false→UInt8.ofNat x.val + bitU k.val=UInt8.ofNat x.val ||| bitU k.val:=by decide +kernel
def addL (d:List Bool):Nat→List UInt8
 | 0=>zT 256
 | i + 1=>if d.getD i false then wW (addL d i) i true else addL d i
theorem z36 {d:List Bool} : ∀ {i:Nat},(addL d i).length=256
 | 0=>rfl
 | i + 1=>by
  unfold addL
  split
  ·rw [z1k,z36]
  ·exact z36
theorem zbs {d:List Bool} {j:Nat} : ∀ {i:Nat},i ≤ 2048→hasB (addL d i) j=(decide (j < i) && d.getD j false)
 | 0,_=>by
  unfold addL hasB
  have h:(zT 256).getD (j / 8) 0=0:=by
   unfold zT
   rw [List.getD_eq_getElem?_getD,List.getElem?_replicate]
   split <;> rfl
  rw [h]
  simp
 | i + 1,h=>by
  unfold addL
  have ih:=zbs (d:=d) (j:=j) (i:=i) (by omega)
  by_cases hd:d.getD i false=true
  ·rw [if_pos hd,zb9 z36 (by omega),ih]
   by_cases hj:j=i
   ·subst hj; rw [if_pos rfl,hd]; simp
   ·rw [if_neg hj]
    congr 1
    exact decide_eq_decide.2 (by omega)
  ·rw [if_neg hd,ih]
   by_cases hj:j=i
   ·subst hj
    have hd2:d.getD j false=false:=by simpa using hd
    rw [hd2,Bool.and_false,Bool.and_false]
   ·congr 1
    exact decide_eq_decide.2 (by omega)
def zfc (b:List UInt8):List Bool:=(List.range 2048).map (hasB b)
theorem z5n {b:List UInt8}:(zfc b).length=2048:=by unfold zfc; simp
theorem zna {b:List UInt8} (hb:b.length=256) {n:Nat} (hn:n < 2048) (on:Bool):addL ((zfc b).set n on) 2048=wW b n on:=by
 apply zoo z36 (by rw [z1k]; exact hb)
 intro j hj
 rw [zbs (Nat.le_refl _),zb9 hb hn,decide_eq_true hj,Bool.true_and,List.getD_eq_getElem?_getD,List.getElem?_set]
 by_cases h:n=j
 ·subst h
  rw [if_pos rfl,if_pos (by rw [z5n]; omega),if_pos rfl,Option.getD_some]
 ·rw [if_neg h,if_neg (Ne.symm h),List.getElem?_eq_getElem (by rw [z5n]; omega),Option.getD_some]
  simp [zfc]
theorem q0r (d:List Bool) (hd:d.length=2048) (R:Post) : ∀ (k i:Nat) (g1 g2 g5 g6 g7 g8 g9 gI gF gD gB gC gA gE gL gM gG gK gN gJ gH gO gP gT gQ gU gR gS gV gW gX gY gZ gh gj gk gn gr gz:V),2048 - i=k→i ≤ 2048 →
 (∀ i' g1 g2 g5 g6 g7 g8 g9 gI gF gD gB gC gA gE gL gM gG gK gN gJ gH gO gP gT gQ gU gR gS gV gW gX gY gZ gh gj gk gn gr gz,R (.exit 0) ((.d (encZ d))::g1::g2::(.rs 0 0 256)::i'::g5::g6::g7::g8::g9::gI::gF::gD::gB::gC::gA::gE::gL::gM::gG::gK::gN::gJ::gH::gO::gP::gT::gQ::gU::gR::gS::gV::gW::gX::gY::gZ::gh::gj::gk::gn::gr::gz::[]) [rowY (addL d 2048)] []) →
 Wp cfg (.loop (lpOf (Tryz.f133.body.getD .skip) 0)) ((.d (encZ d))::g1::g2::(.rs 0 0 256)::(.d (.int .i64 (i:Int)))::g5::g6::g7::g8::g9::gI::gF::gD::gB::gC::gA::gE::gL::gM::gG::gK::gN::gJ::gH::gO::gP::gT::gQ::gU::gR::gS::gV::gW::gX::gY::gZ::gh::gj::gk::gn::gr::gz::[]) [rowY (addL d i)] [] R:=by
 intro k
 have hln : ∀ S:zA,zL Tryz.prog S .len [190] [.d (encZ d)]=some (.val (.d (.int .i64 2048)) S 0):=fun S=>by rw [encZ,zr4,List.length_map,hd]; rfl
 induction k with
 | zero =>
  intro i g1 g2 g5 g6 g7 g8 g9 gI gF gD gB gC gA gE gL gM gG gK gN gJ gH gO gP gT gQ gU gR gS gV gW gX gY gZ gh gj gk gn gr gz hk hi hR
  have hie:i=2048:=by omega
  subst hie
  rw [zO]
  refine zM ?_
  conv=>arg 2; whnf
  simp (maxSteps:=1000000) (disch:=first|assumption|omega|rfl) only [↓gp,gc,Nat.reduceAdd,hln]
  exact hR _ _ _ _ _ _ _ _ _ _ _ _ _ _ _ _ _ _ _ _ _ _ _ _ _ _ _ _ _ _ _ _ _ _ _ _ _ _ _ _
 | succ k ih =>
  intro i g1 g2 g5 g6 g7 g8 g9 gI gF gD gB gC gA gE gL gM gG gK gN gJ gH gO gP gT gQ gU gR gS gV gW gX gY gZ gh gj gk gn gr gz hk hi hR
  have hlt:i < 2048:=by omega
  have h3:IntKind.i64.wrap ((i:Int) + 1)=((i + 1:Nat):Int):=by rw [wrap64 (by omega)]; omega
  have hix:=fun S=>ixZ (S:=S) (l:=d) (i:=i) (by omega)
  have hgd:d.getD i false=d[i]'(by omega):=by rw [List.getD_eq_getElem?_getD,List.getElem?_eq_getElem (by omega),Option.getD_some]
  have hsu:addL d (i + 1)=if d[i]'(by omega) then wW (addL d i) i true else addL d i:=by rw [← hgd]; rfl
  rw [zO]
  refine zM ?_
  conv=>arg 2; whnf
  cases hin:d[i]'(by omega) with
  | true =>
   rw [hin] at hix hsu
   rw [if_pos rfl] at hsu
   simp (maxSteps:=1000000) (disch:=first|assumption|omega|rfl) only [↓gp,gc,Nat.reduceAdd,hln,hix]
   refine q1k (i % 8) _ _ _ _ i rfl _ 0 _ _ _ _ _ _ _ _ _ _ _ _ _ _ _ _ _ _ _ _ _ _ _ _ _ _ _ _ _ _ _ _ _ _ _ _ _ rfl (Nat.zero_le _) ?_
   intro j' g1 g2 g7 g8 g9 gI gF gD gB gC gA gE gL gM gG gK gN gJ gH gO gP gT gQ gU gR gS gV gW gX gY gZ gh gj gk gn gr gz
   have hll:=z36 (d:=d) (i:=i)
   have hq:=quon (i:=i) (by omega)
   have hS:([rowY (addL d i)]:zA)[0]? = some (rowY (addL d i)):=rfl
   have hiy:=ixY (n:=256) (i:=i / 8) hS (by omega)
   have hrw:=zmf (i:=i / 8) hS (by rw [hll]; omega)
   have hc5:=fun S=>cv35 (S:=S) (n:=2 ^ (i % 8))
   have hpt:=ztp (i:=i / 8) hS (x:=(addL d i)[i / 8]'(by rw [hll]; omega) + UInt8.ofNat (2 ^ (i % 8) % 256))
   have hset:(addL d i).set (i / 8) ((addL d i)[i / 8]'(by rw [hll]; omega) + UInt8.ofNat (2 ^ (i % 8) % 256))=addL d (i + 1):=by
    rw [hsu]
    have hp:2 ^ (i % 8) < 256:=Nat.pow_lt_pow_right (m:=i % 8) (n:=8) (by decide) (by omega)
    have h0:=zbs (d:=d) (j:=i) (i:=i) (by omega)
    rw [decide_eq_false (Nat.lt_irrefl _),Bool.false_and] at h0
    have hg:(addL d i).getD (i / 8) 0=(addL d i)[i / 8]'(by rw [hll]; omega):=by rw [List.getD_eq_getElem?_getD,List.getElem?_eq_getElem (by rw [hll]; omega),Option.getD_some]
    unfold hasB at h0
    rw [hg] at h0
    have hb:=zts ⟨((addL d i)[i / 8]'(by rw [hll]; omega)).toNat,UInt8.toNat_lt _⟩ ⟨i % 8,by omega⟩
    simp only [UInt8.ofNat_toNat] at hb
    unfold wW setB
    rw [hg,if_pos rfl,Nat.mod_eq_of_lt hp]
    congr 1
    exact hb h0
   rw [hset] at hpt
   have hpt:jE [rowY (addL d i)] 0 (i / 8) (.d (.int .u8 (((addL d i)[i / 8]'(by rw [hll]; omega) + UInt8.ofNat (2 ^ (i % 8) % 256)).toNat:Int)))=some [rowY (addL d (i + 1))]:=hpt
   have hadd:=q2v (x:=(addL d i)[i / 8]'(by rw [hll]; omega)) (y:=UInt8.ofNat (2 ^ (i % 8) % 256))
   simp (maxSteps:=1000000) (disch:=first|assumption|omega|rfl) only [↓gp,gc,Nat.reduceAdd,hq,hiy,hrw,hc5,hadd,st5,ldr5,hpt,h3]
   exact ih (i + 1) _ _ _ _ _ _ _ _ _ _ _ _ _ _ _ _ _ _ _ _ _ _ _ _ _ _ _ _ _ _ _ _ _ _ _ _ _ _ _ (by omega) (by omega) hR
  | false =>
   rw [hin] at hix hsu
   rw [if_neg Bool.false_ne_true] at hsu
   simp (maxSteps:=1000000) (disch:=first|assumption|omega|rfl) only [↓gp,gc,Nat.reduceAdd,hln,hix,h3]
   rw [← hsu]
   exact ih (i + 1) _ _ _ _ _ _ _ _ _ _ _ _ _ _ _ _ _ _ _ _ _ _ _ _ _ _ _ _ _ _ _ _ _ _ _ _ _ _ _ (by omega) (by omega) hR
theorem zvl (d:List Bool) (hd:d.length=2048):Ev cfg 133 [encZ d] (.ret (.d (encB (addL d 2048)))):=by
 refine kB rfl rfl zt6 ?_
 show Wp cfg (Tryz.f133.body.getD .skip) ((.d (encZ d))::uZ (uZ (uZ (uZ ((.tup [])::[]))))) [] [] _
 unfold uZ
 conv=>arg 2; whnf
 have hln : ∀ S:zA,zL Tryz.prog S .len [190] [.d (encZ d)]=some (.val (.d (.int .i64 2048)) S 0):=fun S=>by rw [encZ,zr4,List.length_map,hd]; rfl
 have hq:=quon (i:=2048) (by omega)
 simp only [zr7,show 2048 / 8=256 from rfl,zd0] at hq
 have hmk:=fun S=>mk40 (S:=S) (n:=256) (by omega)
 simp only [zd0] at hmk
 simp (maxSteps:=1000000) (disch:=first|assumption|omega|rfl) only [↓gp,gc,Nat.reduceAdd,hln,hq,hmk]
 refine q0r d hd _ 2048 0 _ _ _ _ _ _ _ _ _ _ _ _ _ _ _ _ _ _ _ _ _ _ _ _ _ _ _ _ _ _ _ _ _ _ _ _ _ _ _ rfl (Nat.zero_le _) ?_
 intro i' g1 g2 g5 g6 g7 g8 g9 gI gF gD gB gC gA gE gL gM gG gK gN gJ gH gO gP gT gQ gU gR gS gV gW gX gY gZ gh gj gk gn gr gz
 simp (maxSteps:=1000000) (disch:=first|assumption|omega|rfl) only [↓gp,gc,Nat.reduceAdd]
 exact zU rfl rfl (zpq rfl (z36 (d:=d) (i:=2048)).symm)
end Go.Proofs.YtobgdmgldagjkaaGreat
end
