/- The document's With, Set, Free; patches that are the same. -/
import Derived.ProofKit
import Derived.Deep.Slices
import Derived.OpenShut
import Derived.Test.YtobgdmgldagjkaaGreatV10
set_option linter.unusedVariables false
set_option linter.unusedSimpArgs false
set_option maxRecDepth 100000
set_option maxHeartbeats 4000000
set_option linter.defProp false
section
namespace Go.Proofs.YtobgdmgldagjkaaGreat
open Go.Vm
theorem zv7 (a:List UInt8) (hl:a.length ≤ 1000) (R:Post) : ∀ (k i:Nat) (g2 g3 g4 g6 g7 g8 g9 gI gF gD gB gC gA gE gL gM gG gK gN gJ gH gO gP:V),a.length - i=k→i ≤ a.length →
 (∀ i' g2 g3 g4 g6 g7 g8 g9 gI gF gD gB gC gA gE gL gM gG gK gN gJ gH gO gP,R (.exit 0) ((.d (encB a))::(.d (encB a))::g2::g3::g4::i'::g6::g7::g8::g9::gI::gF::gD::gB::gC::gA::gE::gL::gM::gG::gK::gN::gJ::gH::gO::gP::[]) [] []) →
 Wp cfg (.loop (lpOf (Tryz.f95.body.getD .skip) 0)) ((.d (encB a))::(.d (encB a))::g2::g3::g4::(.d (.int .i64 (i:Int)))::g6::g7::g8::g9::gI::gF::gD::gB::gC::gA::gE::gL::gM::gG::gK::gN::gJ::gH::gO::gP::[]) [] [] R:=by
 intro k
 have hln:=fun S=>lnBz (S:=S) (l:=a)
 induction k with
 | zero =>
  intro i g2 g3 g4 g6 g7 g8 g9 gI gF gD gB gC gA gE gL gM gG gK gN gJ gH gO gP hk hi hR
  have hie:i=a.length:=by omega
  subst hie
  rw [zO]
  refine zM ?_
  conv=>arg 2; whnf
  simp (maxSteps:=1000000) (disch:=first|assumption|omega|rfl) only [↓gp,gc,Nat.reduceAdd,hln]
  exact hR _ _ _ _ _ _ _ _ _ _ _ _ _ _ _ _ _ _ _ _ _ _ _ _
 | succ k ih =>
  intro i g2 g3 g4 g6 g7 g8 g9 gI gF gD gB gC gA gE gL gM gG gK gN gJ gH gO gP hk hi hR
  have hlt:i < a.length:=by omega
  have h3:IntKind.i64.wrap ((i:Int) + 1)=((i + 1:Nat):Int):=by rw [wrap64 (by omega)]; omega
  have hix:=fun S=>ixBz (S:=S) hlt
  have hnq : ∀ i':Decidable (((a[i].toNat:Nat):Int) ≠ ((a[i].toNat:Nat):Int)),@decide _ i'=false:=fun i'=>decide_eq_false (fun h=>h rfl)
  rw [zO]
  refine zM ?_
  conv=>arg 2; whnf
  simp (maxSteps:=1000000) (disch:=first|assumption|omega|rfl) only [↓gp,gc,Nat.reduceAdd,hln]
  refine vC (is:=[0,1,2,3,4,5,6,7,8]) (h:=0) (by kernel_rfl) (by kernel_rfl) ?_
  simp (maxSteps:=1000000) (disch:=first|assumption|omega|rfl) only [List.replicate_zero,eq_self,gd,ga,Nat.reduceAdd,↓gq,vso,hix,ldU5]
  refine ⟨by kernel_rfl,?_⟩
  simp (maxSteps:=1000000) (disch:=first|assumption|omega|rfl) only [↓gp,gc,Nat.reduceAdd,hnq,h3]
  exact ih (i + 1) _ _ _ _ _ _ _ _ _ _ _ _ _ _ _ _ _ _ _ _ _ _ _ (by omega) (by omega) hR
theorem zvr (a:List UInt8) (hl:a.length ≤ 1000):Ev cfg 95 [encB a,encB a] (.ret (.d (.bool true))):=by
 refine kB rfl rfl zyc ?_
 show Wp cfg (Tryz.f95.body.getD .skip) ((.d (encB a))::(.d (encB a))::uZ (uZ ((.tup [])::(.tup [])::(.tup [])::(.tup [])::[]))) [] [] _
 unfold uZ
 conv=>arg 2; whnf
 have hln:=fun S=>lnBz (S:=S) (l:=a)
 have hnq : ∀ i':Decidable (((a.length:Nat):Int) ≠ ((a.length:Nat):Int)),@decide _ i'=false:=fun i'=>decide_eq_false (fun h=>h rfl)
 simp (maxSteps:=1000000) (disch:=first|assumption|omega|rfl) only [↓gp,gc,Nat.reduceAdd,hln,hnq]
 refine zv7 a hl _ a.length 0 _ _ _ _ _ _ _ _ _ _ _ _ _ _ _ _ _ _ _ _ _ _ _ rfl (Nat.zero_le _) ?_
 intro i' g2 g3 g4 g6 g7 g8 g9 gI gF gD gB gC gA gE gL gM gG gK gN gJ gH gO gP
 simp (maxSteps:=1000000) (disch:=first|assumption|omega|rfl) only [↓gp,gc,Nat.reduceAdd]
 exact zU rfl rfl rfl
def z9l (b:List UInt8) (n:Nat):List Bool:=(List.range n).map (hasB b)
theorem zij {b:List UInt8} {n:Nat}:z9l b (n + 1)=z9l b n ++ [hasB b n]:=by unfold z9l; rw [List.range_succ,List.map_append]; rfl
theorem z9b {b:List UInt8} {n:Nat}:(z9l b n).length=n:=by unfold z9l; simp
theorem zws (b:List UInt8) (hb:b.length=256) (i0:Nat) (hi0:i0 < 256) (S0:zA) (x0:V) (R:Post) : ∀ (k i:Nat) (S:zA) (v3:V) (g1 g2 g7 g8 g9 gI gF gD gB gC gA gE gL gM gG gK gN gJ gH gO gP gT gQ gU gR gS:V),8 - i=k→i ≤ 8→Keep S0 S→(∀ j,j < S0.length→NotAt v3 j)→OwnS S v3 4 ((z9l b (8 * i0 + i)).map fun x=>.d (D.bool x)) →
 (∀ S v3 x' i' g1 g2 g7 g8 g9 gI gF gD gB gC gA gE gL gM gG gK gN gJ gH gO gP gT gQ gU gR gS,Keep S0 S→(∀ j,j < S0.length→NotAt v3 j)→OwnS S v3 4 ((z9l b (8 * (i0 + 1))).map fun x=>.d (D.bool x))→R (.exit 2) (x0::g1::g2::v3::(.d (.int .i64 (i0:Int)))::x'::i'::g7::g8::g9::gI::gF::gD::gB::gC::gA::gE::gL::gM::gG::gK::gN::gJ::gH::gO::gP::gT::gQ::gU::gR::gS::[]) S []) →
 Wp cfg (.loop (lpOf (Tryz.f132.body.getD .skip) 2)) (x0::g1::g2::v3::(.d (.int .i64 (i0:Int)))::(.d (.int .i64 (((b[i0]'(by omega)).toNat / 2 ^ i:Nat):Int)))::(.d (.int .i64 (i:Int)))::g7::g8::g9::gI::gF::gD::gB::gC::gA::gE::gL::gM::gG::gK::gN::gJ::gH::gO::gP::gT::gQ::gU::gR::gS::[]) S [] R:=by
 intro k
 have hv:=UInt8.toNat_lt (b[i0]'(by omega))
 induction k with
 | zero =>
  intro i S v3 g1 g2 g7 g8 g9 gI gF gD gB gC gA gE gL gM gG gK gN gJ gH gO gP gT gQ gU gR gS hk hi hK hN ho hR
  have hie:i=8:=by omega
  subst hie
  have e:8 * (i0 + 1)=8 * i0 + 8:=by omega
  rw [e] at hR
  rw [zO]
  refine zM ?_
  conv=>arg 2; whnf
  have h8 : ¬ (((8:Nat):Int)) < 8:=by omega
  simp (maxSteps:=1000000) (disch:=first|assumption|omega|rfl) only [↓gp,gc,Nat.reduceAdd]
  exact hR _ _ _ _ _ _ _ _ _ _ _ _ _ _ _ _ _ _ _ _ _ _ _ _ _ _ _ _ _ _ hK hN ho
 | succ k ih =>
  intro i S v3 g1 g2 g7 g8 g9 gI gF gD gB gC gA gE gL gM gG gK gN gJ gH gO gP gT gQ gU gR gS hk hi hK hN ho hR
  have hlt:(i:Int) < 8:=by omega
  have h3:IntKind.i64.wrap ((i:Int) + 1)=((i + 1:Nat):Int):=by rw [wrap64 (by omega)]; omega
  have hdl:(b[i0]'(by omega)).toNat / 2 ^ i < 256:=Nat.lt_of_le_of_lt (Nat.div_le_self ..) hv
  have hq:=quo2 (v:=(b[i0]'(by omega)).toNat / 2 ^ i) (by omega)
  have hr:=rem2 (v:=(b[i0]'(by omega)).toNat / 2 ^ i)
  have hp2:(b[i0]'(by omega)).toNat / 2 ^ i / 2=(b[i0]'(by omega)).toNat / 2 ^ (i + 1):=by rw [Nat.div_div_eq_div_mul,← Nat.pow_succ]
  rw [hp2] at hq
  have hbit:hasB b (8 * i0 + i)=decide (((((b[i0]'(by omega)).toNat / 2 ^ i) % 2:Nat):Int)=1):=by
   unfold hasB
   have e1:(8 * i0 + i) / 8=i0:=by omega
   have e2:(8 * i0 + i) % 8=i:=by omega
   have h:=zj2 ⟨(b[i0]'(by omega)).toNat,hv⟩ ⟨i,by omega⟩
   simp only [UInt8.ofNat_toNat] at h
   rw [e1,e2,List.getD_eq_getElem?_getD,List.getElem?_eq_getElem (by omega),Option.getD_some,h]
   congr 1
   apply propext
   omega
  have hde : ∀ i':Decidable (((((b[i0]'(by omega)).toNat / 2 ^ i) % 2:Nat):Int)=1),@decide _ i'=hasB b (8 * i0 + i):=fun i'=>by rw [hbit]; exact decide_eq_decide.2 Iff.rfl
  obtain ⟨v',S',c,hap,ho',hfr,hlen⟩:=q34 (hasB b (8 * i0 + i)) ho (by rw [z9b]; omega)
  rw [zO]
  refine zM ?_
  conv=>arg 2; whnf
  simp (maxSteps:=1000000) (disch:=first|assumption|omega|rfl) only [↓gp,gc,Nat.reduceAdd,hr,hde,hap,hq,h3]
  refine ih (i + 1) S' v' _ _ _ _ _ _ _ _ _ _ _ _ _ _ _ _ _ _ _ _ _ _ _ _ _ _ (by omega) (by omega) (fun j o hj=>(hfr j o (hK j o hj) (hN j (zQ hj))).1) (fun j hj=>(hfr j _ (List.getElem?_eq_getElem (Nat.lt_of_lt_of_le hj hK.len)) (hN j hj)).2) ?_ hR
  rw [← Nat.add_assoc,zij]; exact ho'
theorem q0w (b:List UInt8) (hb:b.length=256) (S0:zA) (R:Post) : ∀ (k i:Nat) (S:zA) (v3:V) (g1 g2 g5 g6 g7 g8 g9 gI gF gD gB gC gA gE gL gM gG gK gN gJ gH gO gP gT gQ gU gR gS:V),256 - i=k→i ≤ 256→Keep S0 S→(∀ j,j < S0.length→NotAt v3 j)→OwnS S v3 4 ((z9l b (8 * i)).map fun x=>.d (D.bool x)) →
 (∀ S v3 i' g1 g2 g5 g6 g7 g8 g9 gI gF gD gB gC gA gE gL gM gG gK gN gJ gH gO gP gT gQ gU gR gS,Keep S0 S→(∀ j,j < S0.length→NotAt v3 j)→OwnS S v3 4 ((z9l b 2048).map fun x=>.d (D.bool x))→R (.exit 0) ((.d (encB b))::g1::g2::v3::i'::g5::g6::g7::g8::g9::gI::gF::gD::gB::gC::gA::gE::gL::gM::gG::gK::gN::gJ::gH::gO::gP::gT::gQ::gU::gR::gS::[]) S []) →
 Wp cfg (.loop (lpOf (Tryz.f132.body.getD .skip) 0)) ((.d (encB b))::g1::g2::v3::(.d (.int .i64 (i:Int)))::g5::g6::g7::g8::g9::gI::gF::gD::gB::gC::gA::gE::gL::gM::gG::gK::gN::gJ::gH::gO::gP::gT::gQ::gU::gR::gS::[]) S [] R:=by
 intro k
 have hln:=fun S=>lnBz (S:=S) (l:=b)
 rw [hb] at hln
 induction k with
 | zero =>
  intro i S v3 g1 g2 g5 g6 g7 g8 g9 gI gF gD gB gC gA gE gL gM gG gK gN gJ gH gO gP gT gQ gU gR gS hk hi hK hN ho hR
  have hie:i=256:=by omega
  subst hie
  rw [zO]
  refine zM ?_
  conv=>arg 2; whnf
  simp (maxSteps:=1000000) (disch:=first|assumption|omega|rfl) only [↓gp,gc,Nat.reduceAdd,hln]
  exact hR _ _ _ _ _ _ _ _ _ _ _ _ _ _ _ _ _ _ _ _ _ _ _ _ _ _ _ _ _ _ _ hK hN ho
 | succ k ih =>
  intro i S v3 g1 g2 g5 g6 g7 g8 g9 gI gF gD gB gC gA gE gL gM gG gK gN gJ gH gO gP gT gQ gU gR gS hk hi hK hN ho hR
  have hlt:i < 256:=by omega
  have hlt2:(i:Int) < ((256:Nat):Int):=by omega
  have h3:IntKind.i64.wrap ((i:Int) + 1)=((i + 1:Nat):Int):=by rw [wrap64 (by omega)]; omega
  have hix:=fun S=>ixBz (S:=S) (l:=b) (i:=i) (by omega)
  have hcv:=fun S=>cv53 (S:=S) (x:=b[i]'(by omega))
  rw [zO]
  refine zM ?_
  conv=>arg 2; whnf
  simp (maxSteps:=1000000) (disch:=first|assumption|omega|rfl) only [↓gp,gc,Nat.reduceAdd,hln,hix,ldU5,hcv]
  have e0:((b[i]'(by omega)).toNat:Int)=(((b[i]'(by omega)).toNat / 2 ^ 0:Nat):Int):=by rw [Nat.pow_zero,Nat.div_one]
  rw [e0]
  refine zws b hb i hlt S0 _ _ 8 0 S v3 _ _ _ _ _ _ _ _ _ _ _ _ _ _ _ _ _ _ _ _ _ _ _ _ _ _ rfl (Nat.zero_le _) hK hN ho ?_
  intro S2 v3' x' i' g1 g2 g7 g8 g9 gI gF gD gB gC gA gE gL gM gG gK gN gJ gH gO gP gT gQ gU gR gS hK2 hN2 ho2
  simp (maxSteps:=1000000) (disch:=first|assumption|omega|rfl) only [↓gp,gc,Nat.reduceAdd,h3]
  exact ih (i + 1) S2 v3' _ _ _ _ _ _ _ _ _ _ _ _ _ _ _ _ _ _ _ _ _ _ _ _ _ _ _ _ (by omega) (by omega) hK2 hN2 ho2 hR
theorem zsw (b:List UInt8) (hb:b.length=256) (S:zA):EvS cfg 132 [.d (encB b)] S (fun o S'=>Keep S S' ∧ ∃ id,o = .ret (.rs id 0 2048)∧S.length ≤ id∧S'[id]? = some (rowZ (zfc b))):=by
 refine qF rfl zt1 ?_
 show Wp cfg (Tryz.f132.body.getD .skip) ((.d (encB b))::uZ (uZ (uZ []))) S [] _
 unfold uZ
 conv=>arg 2; whnf
 rw [zO]
 simp (maxSteps:=1000000) (disch:=first|assumption|omega|rfl) only [↓gp,gc,Nat.reduceAdd]
 refine q0w b hb S _ 256 0 S (.ts []) _ _ _ _ _ _ _ _ _ _ _ _ _ _ _ _ _ _ _ _ _ _ _ _ _ _ _ _ rfl (Nat.zero_le _) Keep.refl (fun j _=>NotAt.ts) (.inl ⟨rfl,rfl⟩) ?_
 intro S2 v3 i' g1 g2 g5 g6 g7 g8 g9 gI gF gD gB gC gA gE gL gM gG gK gN gJ gH gO gP gT gQ gU gR gS hK hN ho
 rcases ho with ⟨rfl,h0⟩ | ⟨id,rfl,h1⟩
 ·have:=congrArg List.length h0
  rw [List.length_map,z9b] at this
  cases this
 ·have hl:((z9l b 2048).map fun x=>V.d (D.bool x)).length=2048:=by rw [List.length_map,z9b]
  rw [hl] at hN ⊢
  simp (maxSteps:=1000000) (disch:=first|assumption|omega|rfl) only [↓gp,gc,Nat.reduceAdd]
  refine ⟨rfl,_,rfl,hK,id,rfl,?_,h1⟩
  rcases Nat.lt_or_ge id S.length with hh | hh
  ·exact absurd rfl (hN id hh 0 2048)
  ·exact hh
theorem zlw {ops:Array Oper} {dst:Option Tmp} {k:List Oper} {T:List V} {S:zA} {F:Dfs} {Q:Post} {id:Nat} {d:List Bool} (hr:S[id]? = some (rowZ d)) (hd:d.length=2048):WpR cfg ops dst k T S F Q (some (.enter 133 [.rs id 0 2048]))=WpL cfg ops k (putT T dst (.d (encB (addL d 2048)))) (S.set id (.fz (d.map D.bool) 4)) F Q:=by
 obtain ⟨m,hm⟩:=zvl d hd
 have hr':S[id]? = some (.row ((d.map D.bool).map .d) 4):=by rw [hr]; simp [rowZ,Function.comp_def]
 refine ztn (c:=3) ⟨m,zg3 (ds:=[encZ d]) rfl ?_ ?_ hr' rfl hm⟩
 ·have:=q33 (n:=2048) hr hd.symm
  simp only [allO,this]
 ·simp only [List.flatMap_cons,q4h hr,List.flatMap_nil]
  rfl
theorem zqi (b:List UInt8) (hb:b.length=256) (n:Nat) (hn:n < 2048) (on:Bool):Ev cfg 94 [encB b,.int .i64 (n:Int),.bool on] (.ret (.d (encB (wW b n on)))):=by
 refine kB rfl rfl q04 ?_
 show Wp cfg (Tryz.f94.body.getD .skip) ((.d (encB b))::(.d (.int .i64 (n:Int)))::(.d (.bool on))::uZ (uZ ((.tup [])::[]))) [] [] _
 unfold uZ
 conv=>arg 2; whnf
 obtain ⟨o,S1,⟨_,id,rfl,_,hS⟩,hE⟩:=zY (zsw b hb [])
 have hE:=fun {ops dst k T F Q}=>zD (ops:=ops) (dst:=dst) (l:=k) (T:=T) (F:=F) (Q:=Q) rfl hE
 have hiz:=ixRZ (n:=2048) (i:=n) hS (by omega)
 have hrw:=zy9 (i:=n) hS (by rw [z5n]; omega)
 have hpt:=q2n (i:=n) hS (x:=on)
 have hS2:(S1.set id (rowZ ((zfc b).set n on)))[id]? = some (rowZ ((zfc b).set n on)):=List.getElem?_set_self (zQ hS)
 have hbk:=fun {ops dst k T F Q}=>zlw (ops:=ops) (dst:=dst) (k:=k) (T:=T) (F:=F) (Q:=Q) hS2 (by rw [List.length_set,z5n])
 rw [zna hb hn] at hbk
 have n0:(n:Int) ≥ 0:=by omega
 have n1:(n:Int) < 2048:=by omega
 simp (maxSteps:=1000000) (disch:=first|assumption|omega|rfl) only [↓gp,gc,Nat.reduceAdd,hE,q0t,zr7,hiz,hrw,st4,hpt,hbk,q20]
 exact zU rfl rfl rfl
theorem zp5 (b:List UInt8) (hb:b.length ≤ 1000) (j:Nat) (hj:j < b.length):Ev cfg 93 [encB b,.int .i64 (j:Int),.int .i64 1] (.ret (.d (encB [b[j]]))):=by
 refine kB rfl rfl zzn ?_
 show Wp cfg (Tryz.f93.body.getD .skip) ((.d (encB b))::(.d (.int .i64 (j:Int)))::(.d (.int .i64 1))::uZ (uZ (uZ ((.tup [])::(.tup [])::[])))) [] [] _
 unfold uZ
 conv=>arg 2; whnf
 have hln:=fun S=>lnBz (S:=S) (l:=b)
 have hix:=fun S=>ixBz (S:=S) (l:=b) hj
 have j0:(j:Int) ≥ 0:=by omega
 have j1:(j:Int) < (b.length:Int):=by omega
 have w0:IntKind.i64.wrap ((j:Int) - (j:Int))=0:=by rw [wrap64 (by omega)]; omega
 have w1:IntKind.i64.wrap ((j:Int) + 1)=(j:Int) + 1:=wrap64 (by omega)
 have w2:IntKind.i64.wrap ((j:Int) + 1 - (j:Int))=1:=by rw [wrap64 (by omega)]; omega
 obtain ⟨v',S',c,hap,ho',hfr,hlen⟩:=ap76 (S:=[]) (v:= .ts []) (xs:=[]) b[j] (.inl ⟨rfl,rfl⟩) (by simp)
 simp (maxSteps:=1000000) (disch:=first|assumption|omega|rfl) only [↓gp,gc,Nat.reduceAdd]
 rw [zO]
 refine zM ?_
 conv=>arg 2; whnf
 simp (maxSteps:=1000000) (disch:=first|assumption|omega|rfl) only [↓gp,gc,Nat.reduceAdd,hln,hix,ldU5,w0,w1,hap,zP]
 rw [zO]
 refine zM ?_
 conv=>arg 2; whnf
 have hv1:=qH ho'
 have hfz:=zh2 (enc:=fun b:UInt8=>D.int .u8 b.toNat) ho'
 have j2:(j:Int) + 1 ≥ 0:=by omega
 by_cases hlast:(j:Int) + 1 < (b.length:Int)
 ·simp (maxSteps:=1000000) (disch:=first|assumption|omega|rfl) only [↓gp,gc,Nat.reduceAdd,hln,w2,zP]
  exact zU rfl hv1 hfz
 ·simp (maxSteps:=1000000) (disch:=first|assumption|omega|rfl) only [↓gp,gc,Nat.reduceAdd,hln,w2,zP]
  exact zU rfl hv1 hfz
section
variable {n:Int} {b:List UInt8}
theorem bdR:wK Tryz.prog 94 [(0,.d (.int .i64 n)),(1,.d (encB b))]=some (.agg [.d (.int .i64 n),.d (encB b)]):=by kernel_rfl
theorem zR:zeroV Tryz.prog 94=some (.agg [.d (.int .i64 0),.ts []]):=by kernel_rfl
theorem zfR:qE Tryz.prog 94 (.agg [.d (.int .i64 0),.ts []])=true:=by kernel_rfl
theorem srR:qY Tryz.prog 94 0 (.agg [.d (.int .i64 n),.d (encB b)]) (.agg [.d (.int .i64 0),.ts []])=some (.agg [.d (.int .i64 n),.d (encB b)]):=by kernel_rfl
theorem lrR:qT Tryz.prog 94 0 (some (.agg [.d (.int .i64 n),.d (encB b)]))=some (.agg [.d (.int .i64 n),.d (encB b)]):=by kernel_rfl
theorem q2c:qT Tryz.prog 3 0 (some (.d (patD n b)))=some (.d (.int .i64 n)):=by kernel_rfl
theorem q2g:qT Tryz.prog 76 1 (some (.d (patD n b)))=some (.d (encB b)):=by kernel_rfl
end
theorem zye (b:List UInt8) (hb:b.length=256) (n:Nat) (hn:n < 2048) (on:Bool):Ev cfg 47 [encB b,.int .i64 (n:Int),.bool on] (.ret (.d (patD ((n / 8:Nat):Int) [setB b n on]))):=by
 refine kB rfl rfl zx9 ?_
 show Wp cfg (Tryz.f47.body.getD .skip) ((.d (encB b))::(.d (.int .i64 (n:Int)))::(.d (.bool on))::uZ ((.tup [])::(.tup [])::(.tup [])::(.tup [])::[])) [] [] _
 unfold uZ
 conv=>arg 2; whnf
 have hq:=quon (i:=n) (by omega)
 have hl:(wW b n on).length=256:=by rw [z1k]; exact hb
 have hw : ∀ {ops dst k T S F Q},WpR cfg ops dst k T S F Q (some (.enter 94 [.d (encB b),.d (.int .i64 (n:Int)),.d (.bool on)]))=WpL cfg ops k (putT T dst (.d (encB (wW b n on)))) S F Q:=fun {ops dst k T S F Q}=>qJ (ds:=[encB b,.int .i64 (n:Int),.bool on]) rfl (zqi b hb n hn on)
 have he:(wW b n on)[n / 8]'(by omega)=setB b n on:=by unfold wW; rw [List.getElem_set_self]
 have hc : ∀ {ops dst k T S F Q},WpR cfg ops dst k T S F Q (some (.enter 93 [.d (encB (wW b n on)),.d (.int .i64 ((n / 8:Nat):Int)),.d (.int .i64 1)]))=WpL cfg ops k (putT T dst (.d (encB [setB b n on]))) S F Q:=fun {ops dst k T S F Q}=>qJ (ds:=[encB (wW b n on),.int .i64 ((n / 8:Nat):Int),.int .i64 1]) rfl (by
  have:=zp5 (wW b n on) (by omega) (n / 8) (by omega)
  rw [he] at this
  exact this)
 simp (maxSteps:=1000000) (disch:=first|assumption|omega|rfl) only [↓gp,gc,Nat.reduceAdd,zR,zfR,hq,hw,bo94,hc,bo93,bdR,srR]
 exact wP (v:= .agg [.d (.int .i64 ((n / 8:Nat):Int)),.d (encB [setB b n on])]) rfl ((zJ rfl).trans lrR) rfl rfl
theorem zpt (n:Int) (b:List UInt8) (hb:b.length ≤ 1000):Ev cfg 48 [patD n b,patD n b] (.ret (.d (.bool true))):=by
 refine kB rfl rfl q0c ?_
 show Wp cfg (Tryz.f48.body.getD .skip) ((.d (patD n b))::(.d (patD n b))::uZ ((.tup [])::(.tup [])::(.tup [])::(.tup [])::(.tup [])::[])) [] [] _
 unfold uZ
 conv=>arg 2; whnf
 have hs : ∀ {ops dst k T S F Q},WpR cfg ops dst k T S F Q (some (.enter 95 [.d (encB b),.d (encB b)]))=WpL cfg ops k (putT T dst (.d (.bool true))) S F Q:=fun {ops dst k T S F Q}=>qJ (ds:=[encB b,encB b]) rfl (zvr b hb)
 simp (maxSteps:=1000000) (disch:=first|assumption|omega|rfl) only [↓gp,gc,Nat.reduceAdd,fd81,q0y,zzv,q2c,q2g,zP,hs,bo95]
 exact zU rfl rfl rfl
theorem zl9 {bm:List UInt8} {D i:Nat}:frB bm D (i + 1)=frB bm D i ++ if decide (D ≤ i) && !hasB bm i then [i] else []:=by
 unfold frB
 rw [List.range_succ,List.filter_append]
 congr 1
 cases h:(decide (D ≤ i) && !hasB bm i) <;> simp [h]
section
variable {S:zA} {a:Nat} {u:V} {b:List UInt8}
theorem zb6 (ha:S[a]? = some (.row [u] 42)) (hu:IsB u b) (hl:b.length=256):Go.Vm.frz S zI (.cs a 0 0 256)=some (encB b):=by
 show (match S[a]? with
  | some (.row xs e)=>match xs[0]? with
   | some x=>if x.isAgg && 0 + 256 ≤ x.cells.length && (allO (Go.Vm.frz S 11) xs).isSome then (allO z45 ((x.cells.drop 0).take 256)).map D.sl else none
   | none=>none
  | some (.fz xs e)=>match xs[0]? with
   | some x=>if x.isAgg && 0 + 256 ≤ x.cells.length then some (D.sl ((x.cells.drop 0).take 256)) else none
   | none=>none
  | _=>none)=_
 have ht:((b.map fun x=>V.d (byD x)).drop 0).take 256=b.map fun x=>V.d (byD x):=by rw [List.drop_zero,List.take_of_length_le (by simp; omega)]
 have h1:allO (Go.Vm.frz S 11) [u]=some [blkD b]:=by simp only [allO,hu.frz (n:=9)]
 have h2:allO z45 (b.map fun x=>V.d (byD x))=some (b.map byD):=by
  clear ht h1 hu hl
  induction b with
  | nil=>rfl
  | cons x r ih =>
   have h:z45 (.d (byD x))=some (byD x):=rfl
   simp only [List.map_cons,allO,h,ih]
 simp only [ha,List.getElem?_cons_zero,hu.isAgg,hu.cells,List.length_map,hl,Nat.zero_add,Nat.le_refl,decide_true,h1,Option.isSome_some,Bool.and_self,if_true,ht,h2,Option.map_some]
 rfl
theorem zqk (ha:S[a]? = some (.row [u] 42)) (hu:IsB u b):frzIds S zI (.cs a 0 0 256)=[a]:=by
 show (match S[a]? with | some (.row xs e)=>a::xs.flatMap (frzIds S 11) | _=>[])=_
 simp only [ha,List.flatMap_cons,hu.frzIds,List.flatMap_nil,List.append_nil]
theorem zpl (ha:S[a]? = some (.row [u] 42)) (hu:IsB u b):Go.Vm.mark S [a] S [a]=some (S.set a (.fz [blkD b] 42)):=by
 have h1:allO (Go.Vm.frz S zI) [u]=some [blkD b]:=by simp only [allO,hu.frz (n:=10),zI]
 have h4:[u].flatMap (frzIds S zI)=[]:=by rw [List.flatMap_cons,hu.frzIds]; rfl
 simp only [Go.Vm.mark,ha,z2q,h1,Option.map_some,z8n,h4,List.all_nil,if_true]
theorem zot {f:FuncId} {args:List V} {ds:List D} {v:V} (ha:S[a]? = some (.row [u] 42)) (hu:IsB u b) (hs:cfg.shared f=false) (hf:allO (Go.Vm.frz S zI) args=some ds) (hi:args.flatMap (frzIds S zI)=[a]) (hp:z02 (.ret v)=false) (he:Ev cfg f ds (.ret v)) : ∃ n,jG cfg (run cfg n) f args S=some (.ret v,S.set a (.fz [blkD b] 42),3):=by
 obtain ⟨n,hn⟩:=he
 have hn':answer cfg (run cfg n) f ds=some (.ret v):=hn
 refine ⟨n,?_⟩
 unfold jG
 simp only [hs,Bool.false_eq_true,if_false,hf,hn',hi,List.isEmpty_cons,hp,zpl ha hu]
end
section
variable {ops:Array Oper} {base:Nat} {K:Ws→List (Nat × Nat)→List V→zA→Prop} {ws:Ws} {cs:List (Nat × Nat)} {i:Nat} {dst:Option Tmp} {T:List V} {S S2:zA}
theorem q42 {f:FuncId} {args:List V} {v:V} (hc : ∃ n,jG cfg (run cfg n) f args S=some (.ret v,S2,3)) :
  WpEw cfg ops base K ws cs i dst T S (some (.enter f args))=(WAll cfg ops base ws i S2∧K ws (cs ++ [(i,3)]) (putT T dst v) S2):=by
 obtain ⟨n,hc⟩:=hc
 apply propext
 constructor
 ·rintro ⟨m,v',S',c,h1,h2,h3⟩
  have:=kS h1 hc
  simp only [Prod.mk.injEq] at this
  obtain ⟨h4,rfl,rfl⟩:=this
  cases h4
  exact ⟨h2 (by decide),h3⟩
 ·exact fun h=>⟨n,_,_,_,hc,fun _=>h.1,h.2⟩
theorem zwz {f:FuncId} {args:List V} {ds:List D} {v:V} (hs:cfg.shared f=false) (hf:allO (Go.Vm.frz S zI) args=some ds) (hp:z02 (.ret v)=true) (he:Ev cfg f ds (.ret v)) :
  WpEw cfg ops base K ws cs i dst T S (some (.enter f args))=K ((i,T,v)::ws) (cs ++ [(i,1)]) (putT T dst v) S:=by
 obtain ⟨n,hc⟩:=zbx hs hf hp he
 apply propext
 constructor
 ·rintro ⟨m,v',S',c,h1,h2,h3⟩
  have:=kS h1 hc
  simp only [Prod.mk.injEq] at this
  obtain ⟨h4,rfl,rfl⟩:=this
  cases h4
  exact h3
 ·exact fun h=>⟨n,_,_,_,hc,fun hh=>absurd hh (by decide),h⟩
end
structure TakP (S:zA) (y x c r m mk gm:Nat) (l:Lay) (e:Int) (C:CS) (mf gf:Int→Option V) (gl:Int→List Int) (b B n:Nat):Prop where
 al:AllP S y x c r m mk gm l e C mf gf gl b
 h0:S[0]? = some (.row [.d (encLay l)] 32)
 inv:InvA e C gl
 las:C.last ≤ 2 * n
 img:C.img.length=B
theorem wS {ops:Array Oper} {dst:Option Tmp} {k:List Oper} {T:List V} {S:zA} {F:Dfs} {Q:Post}:WpR cfg ops dst k T S F Q (some (.enter 17 []))=WpL cfg ops k (putT T dst (.d (.bool true))) S F Q:=qJ (ds:=[]) rfl zf8
theorem zu8 {l:Lay} (hm:MayL l) (h60:l.blocks ≤ 60) (hM:0 ≤ l.merge∧l.merge < 18446744073709551616) : ∃ B I M K:Nat,l=⟨(B:Int),(I:Int),(M:Int)⟩∧2 + l.inodes.tdiv 8=((2 + K:Nat):Int)∧B ≤ 60∧I ≤ 128∧8 ≤ I∧M < 18446744073709551616∧K ≤ 16∧2 + K < B∧2 + I / 8 ≤ B:=by
 obtain ⟨m1,m2,m3,m4,m5,m6⟩:=hm
 have htd:l.inodes.tdiv 8=l.inodes / 8:=Int.tdiv_eq_ediv_of_nonneg (by omega)
 have htm:l.inodes.tmod 8=l.inodes % 8:=Int.tmod_eq_emod_of_nonneg (by omega)
 rw [htd] at m6
 rw [htm] at m5
 refine ⟨l.blocks.toNat,l.inodes.toNat,l.merge.toNat,(l.inodes / 8).toNat,?_,by rw [htd]; omega,by omega,by omega,by omega,by omega,by omega,by omega,by omega⟩
 cases l
 simp only [Lay.mk.injEq]
 simp only at m1 m3 hM
 omega
theorem extZ_ok:z6h cfg:=by
 intro f g h ds o ho
 cases h
theorem catchZ_ok:zbi cfg:=fun f post h=>by cases h
section
variable {C:CS} {no:Nat} {bb:List UInt8} {gs ids:List Int}
theorem zmt:z2a C []=[]:=by unfold z2a; simp
end
section
variable {n a b c:Int} {id m d x y:Nat} {nv dv:V} {bs:List UInt8}
theorem q2j:zS Tryz.prog 97 1 (.ref d x y)=some (.ref d x (y + 1)):=by kernel_rfl
theorem q36:zS Tryz.prog 97 2 (.ref d x y)=some (.ref d x (y + 2)):=by kernel_rfl
theorem q32:zS Tryz.prog 97 3 (.ref d x y)=some (.ref d x (y + 4)):=by kernel_rfl
theorem q3l:zS Tryz.prog 97 0 (.ref d x y)=some (.ref d x (y + 0)):=by kernel_rfl
theorem q0o:qT Tryz.prog 94 2 (some (.agg [.d (.int .i64 a),.d (.int .i64 b),.d (.int .i64 c),.rs id 0 m,nv]))=some (.agg [.d (.int .i64 c),.rs id 0 m]):=by kernel_rfl
theorem q40:qT Tryz.prog 3 1 (some (.agg [.d (.int .i64 a),.d (.int .i64 b),.d (.int .i64 c),.rs id 0 m,nv]))=some (.d (.int .i64 b)):=by kernel_rfl
theorem q35:qT Tryz.prog 3 0 (some (.agg [.d (.int .i64 a),.d (.int .i64 b),.d (.int .i64 c),.rs id 0 m,nv]))=some (.d (.int .i64 a)):=by kernel_rfl
theorem ixC {S:zA} {es:List V} {k i q:Nat} (h1:S[id]? = some (.row es 97)) (hi:i < q):zK Tryz.prog S 92 (.rs id k q) (.d (.int .i64 (i:Int)))=some (.ref id (k + i) 0):=by
 have h3:rowT S id 97=true:=by simp only [rowT,h1,beq_self_eq_true]
 have h4:(sz Tryz.prog 97).isSome=true:=sC
 simp only [zK,intOf?,uC,h3,h4]
 rw [if_pos ⟨⟨by omega,by omega⟩,trivial,trivial⟩,Int.toNat_natCast]
end
section
variable {S:zA} {id k0:Nat} {es:List V} {x:V} {a b c:Int} {idd md:Nat} {nv v13:V} {nd gs:List Int}
theorem ixC0 (h1:S[id]? = some (.row es 97)) {q:Nat} (hq:0 < q):zK Tryz.prog S 92 (.rs id k0 q) (.d (.int .i64 0))=some (.ref id k0 0):=ixC (i:=0) h1 hq
end
theorem zfz {S:zA} {v:V} {e t:TypeId} {xs ys:List V} {i:Nat} {o:Ob} (h:OwnS S v e xs) (hi:S[i]? = some (.row ys t)) (he:e ≠ t):OwnS (S.set i o) v e xs:=by
 rcases h with h | ⟨id,rfl,h2⟩
 ·exact .inl h
 ·refine .inr ⟨id,rfl,?_⟩
  rw [List.getElem?_set_ne (by rintro rfl; cases getE hi h2; exact he rfl)]
  exact h2
theorem AllP.wk {S:zA} {y x c r m mk gm:Nat} {l:Lay} {e:Int} {C:CS} {mf gf:Int→Option V} {gl:Int→List Int} {b b':Nat} (h:AllP S y x c r m mk gm l e C mf gf gl b) (hb:b ≤ b'):AllP S y x c r m mk gm l e C mf gf gl b':=⟨h.hy,h.sp,h.gp,h.gv,fun n=>Nat.le_trans (h.gb n) hb,h.n1,h.n2⟩
def zn4 (C C':CS):Prop:=C'.list=[]∧C'.last=C.last∧C'.img.length=C.img.length ∧ ∀ k < C.img.length,C'.see k=C.see k
theorem zck {C C':CS} {ch:Chg} (h:C.list[0]? = some ch) (hf:zf6 C C' ch.no):C'.list.length < C.list.length:=by
 rcases hf with ⟨_,h2⟩ | ⟨k,ids,hk,hkl,hrd,rfl⟩
 ·exact absurd rfl (h2 ch h)
 ·have hm:=List.mem_of_getElem? h
  have hin:=hrd.2.2.2 (List.length_pos_of_mem hm) ch h hk
  show (C.list.filter fun ch=>decide (ch.id ∉ ids)).length < C.list.length
  rcases Nat.lt_or_ge (C.list.filter fun ch=>decide (ch.id ∉ ids)).length C.list.length with hh | hh
  ·exact hh
  ·have hall:=List.filter_eq_self.1 (List.filter_sublist.eq_of_length (Nat.le_antisymm (List.length_filter_le ..) hh)) ch hm
   simp only [decide_eq_true_eq] at hall
   exact absurd hin hall
theorem zy6 (c r m:Nat) (id:Int) (R:Post) : ∀ (k:Nat) (S:zA) (C:CS) (g2 g3 g5 g6 g7 g8 g9 gI gF gD gB gC gA gE gL gM gG gK gN gJ gH gO gP gT gQ gU gR gS gV gW gX gY gZ gh:V),C.list.length ≤ k→CacheAt S c r m C→(C.last:Int) ≤ id →
 (∀ S' C' g2 g3 g5 g6 g7 g8 g9 gI gF gD gB gC gA gE gL gM gG gK gN gJ gH gO gP gT gQ gU gR gS gV gW gX gY gZ gh,FrC m r S S'→CacheAt S' c r m C'→zn4 C C'→R (.exit 0) ((.ref c 0 0)::(.d (.int .i64 id))::g2::g3::(.d (.int .i64 0))::g5::g6::g7::g8::g9::gI::gF::gD::gB::gC::gA::gE::gL::gM::gG::gK::gN::gJ::gH::gO::gP::gT::gQ::gU::gR::gS::gV::gW::gX::gY::gZ::gh::[]) S' []) →
 Wp cfg (.loop (lpOf (Tryz.f99.body.getD .skip) 0)) ((.ref c 0 0)::(.d (.int .i64 id))::g2::g3::(.d (.int .i64 0))::g5::g6::g7::g8::g9::gI::gF::gD::gB::gC::gA::gE::gL::gM::gG::gK::gN::gJ::gH::gO::gP::gT::gQ::gU::gR::gS::gV::gW::gX::gY::gZ::gh::[]) S [] R:=by
 intro k
 induction k with
 | zero =>
  intro S C g2 g3 g5 g6 g7 g8 g9 gI gF gD gB gC gA gE gL gM gG gK gN gJ gH gO gP gT gQ gU gR gS gV gW gX gY gZ gh hk h0 hid hR
  have h00:=h0
  obtain ⟨d,L,es,vs,f,z,w,q,h,hq⟩:=h0
  have hc0:rowE S c 0=some (cacV d m L C.last):=zE (e:=126) h.hc
  have hln:zL Tryz.prog S .len [74] [L]=some (.val (.d (.int .i64 0)) S 0):=by
   rw [kE u119 h.lo,h.lc.1,Nat.le_zero.1 hk]; rfl
  have hL1:=qH h.lo
  rw [zO]
  refine zM ?_
  conv=>arg 2; whnf
  simp (maxSteps:=1000000) (disch:=first|assumption|omega|rfl) only [↓gp,gc,Nat.reduceAdd,z15,hc0,lc2,hln,hL1]
  exact hR _ _ _ _ _ _ _ _ _ _ _ _ _ _ _ _ _ _ _ _ _ _ _ _ _ _ _ _ _ _ _ _ _ _ _ _ Frm.refl h00 ⟨List.length_eq_zero_iff.1 (Nat.le_zero.1 hk),rfl,rfl,fun _ _=>rfl⟩
 | succ k ih =>
  intro S C g2 g3 g5 g6 g7 g8 g9 gI gF gD gB gC gA gE gL gM gG gK gN gJ gH gO gP gT gQ gU gR gS gV gW gX gY gZ gh hk h0 hid hR
  have h00:=h0
  obtain ⟨d,L,es,vs,f,z,w,q,h,hq⟩:=h0
  have hc0:rowE S c 0=some (cacV d m L C.last):=zE (e:=126) h.hc
  have hL1:=qH h.lo
  have hln:zL Tryz.prog S .len [74] [L]=some (.val (.d (.int .i64 (C.list.length:Int))) S 0):=by rw [kE u119 h.lo,h.lc.1]
  rw [zO]
  refine zM ?_
  conv=>arg 2; whnf
  by_cases hz:C.list.length=0
  ·have hgt : ∀ i':Decidable ((C.list.length:Int) > 0),@decide ((C.list.length:Int) > 0) i'=false:=fun i'=>decide_eq_false (by omega)
   simp (maxSteps:=1000000) (disch:=first|assumption|omega|rfl) only [↓gp,gc,Nat.reduceAdd,z15,hc0,lc2,hln,hL1,hgt]
   exact hR _ _ _ _ _ _ _ _ _ _ _ _ _ _ _ _ _ _ _ _ _ _ _ _ _ _ _ _ _ _ _ _ _ _ _ _ Frm.refl h00 ⟨List.length_eq_zero_iff.1 hz,rfl,rfl,fun _ _=>rfl⟩
  ·have hgt : ∀ i':Decidable ((C.list.length:Int) > 0),@decide ((C.list.length:Int) > 0) i'=true:=fun i'=>decide_eq_true (by omega)
   have hl0:0 < C.list.length:=by omega
   have hes:=h.lc.1
   obtain ⟨id',hix,hre,_⟩:=kT u119 s122 h.lo (i:=0) (by omega)
   have e0:((0:Nat):Int)=0:=rfl
   rw [e0] at hix
   have hch:=List.getElem?_eq_getElem hl0
   obtain ⟨dv,nv,he,hd5,hn3⟩:=h.lc.2 0 (es[0]'(by omega)) C.list[0] (List.getElem?_eq_getElem (by omega)) hch
   rw [he] at hre
   have hle : ∀ i':Decidable (C.list[0].id ≤ id),@decide (C.list[0].id ≤ id) i'=true:=fun i'=>decide_eq_true (by
    have:=(h.ok.chs _ (List.getElem_mem hl0)).2.2.2.2.1
    omega)
   obtain ⟨o,S2,⟨hF2,rfl,C2,hC2,hfl⟩,hE⟩:=zY (zh4 S c r m C h00 C.list[0].no)
   have hE:=fun {ops dst k T F Q}=>zD (ops:=ops) (dst:=dst) (l:=k) (T:=T) (F:=F) (Q:=Q) rfl hE
   have hlt:=zck hch hfl
   obtain ⟨s1,s2,s3⟩:=z8i h.ok hfl
   simp (maxSteps:=1000000) (disch:=first|assumption|omega|rfl) only [↓gp,gc,Nat.reduceAdd,z15,hc0,lc2,hln,hL1,hgt,hix,vO,vM,hre,vB,vD,hle,hE,bo26]
   refine ih S2 C2 _ _ _ _ _ _ _ _ _ _ _ _ _ _ _ _ _ _ _ _ _ _ _ _ _ _ _ _ _ _ _ _ _ _ (by omega) hC2 (by rw [s2]; exact hid) ?_
   intro S' C' g2 g3 g5 g6 g7 g8 g9 gI gF gD gB gC gA gE gL gM gG gK gN gJ gH gO gP gT gQ gU gR gS gV gW gX gY gZ gh hF hC hsy
   exact hR _ _ _ _ _ _ _ _ _ _ _ _ _ _ _ _ _ _ _ _ _ _ _ _ _ _ _ _ _ _ _ _ _ _ _ _ (hF2.trans hF) hC ⟨hsy.1,hsy.2.1.trans s2,hsy.2.2.1.trans s1,fun j hj=>(hsy.2.2.2 j (by omega)).trans (s3 j hj)⟩
theorem zw9 (S:zA) (c r m:Nat) (C:CS) (h0:CacheAt S c r m C):EvS cfg 52 [.ref c 0 0] S (fun o S'=>FrC m r S S'∧o = .ret (.d (.int .i64 0)) ∧ ∃ C',CacheAt S' c r m C'∧zn4 C C'):=by
 have hup:EvS cfg 99 [.ref c 0 0,.d (.int .i64 (C.last:Int))] S (fun o S'=>FrC m r S S'∧o = .ret (.d (.int .i64 0)) ∧ ∃ C',CacheAt S' c r m C'∧zn4 C C'):=by
  refine qF rfl zym ?_
  show Wp cfg (Tryz.f99.body.getD .skip) ((.ref c 0 0)::(.d (.int .i64 (C.last:Int)))::uZ (uZ (uZ ((.tup [])::(.tup [])::(.tup [])::(.tup [])::(.tup [])::[])))) S [] _
  unfold uZ
  conv=>arg 2; whnf
  rw [zO]
  simp (maxSteps:=1000000) (disch:=first|assumption|omega|rfl) only [↓gp,gc,Nat.reduceAdd,z3o]
  refine zy6 c r m (C.last:Int) _ C.list.length S C _ _ _ _ _ _ _ _ _ _ _ _ _ _ _ _ _ _ _ _ _ _ _ _ _ _ _ _ _ _ _ _ _ _ (Nat.le_refl _) h0 (Int.le_refl _) ?_
  intro S' C' g2 g3 g5 g6 g7 g8 g9 gI gF gD gB gC gA gE gL gM gG gK gN gJ gH gO gP gT gQ gU gR gS gV gW gX gY gZ gh hF hC hsy
  simp (maxSteps:=1000000) (disch:=first|assumption|omega|rfl) only [↓gp,gc,Nat.reduceAdd]
  exact ⟨rfl,_,rfl,hF,rfl,C',hC,hsy⟩
 have hla:EvS cfg 35 [.ref c 0 0] S (fun o S'=>S'=S∧o = .ret (.d (.int .i64 (C.last:Int)))):=by
  obtain ⟨d,L,es,vs,f,z,w,q,h,hq⟩:=h0
  refine qF rfl zra ?_
  show Wp cfg (Tryz.f35.body.getD .skip) ((.ref c 0 0)::(.tup [])::(.tup [])::(.tup [])::(.tup [])::(.tup [])::(.tup [])::(.tup [])::(.tup [])::[]) S [] _
  conv=>arg 2; whnf
  rw [zO]
  have hc0:rowE S c 0=some (cacV d m L C.last):=zE (e:=126) h.hc
  simp (maxSteps:=1000000) (disch:=first|assumption|omega|rfl) only [↓gp,gc,Nat.reduceAdd,z3o,vI,hc0,lc3]
  exact ⟨rfl,_,rfl,rfl,rfl⟩
 obtain ⟨o1,S1,⟨rfl,rfl⟩,hE1⟩:=zY hla
 have hE1:=fun {ops dst k T F Q}=>zD (ops:=ops) (dst:=dst) (l:=k) (T:=T) (F:=F) (Q:=Q) rfl hE1
 obtain ⟨o,S2,⟨hF2,rfl,C2,hC2,hsy⟩,hE⟩:=zY hup
 have hE:=fun {ops dst k T F Q}=>zD (ops:=ops) (dst:=dst) (l:=k) (T:=T) (F:=F) (Q:=Q) rfl hE
 refine qF rfl zy3 ?_
 show Wp cfg (Tryz.f52.body.getD .skip) ((.ref c 0 0)::(.tup [])::(.tup [])::(.tup [])::(.tup [])::(.tup [])::(.tup [])::[]) S1 [] _
 conv=>arg 2; whnf
 rw [zO]
 simp (maxSteps:=1000000) (disch:=first|assumption|omega|rfl) only [↓gp,gc,Nat.reduceAdd,hE1,bo35,hE,bo99]
 exact ⟨rfl,_,rfl,hF2,rfl,C2,hC2,hsy⟩
noncomputable def bs3 (S : zA) (u v w : V) : Option Rs := opV Tryz.prog S [u, v, w] ⟨none, .buildSlice 22 3 #[(0, .tmp 0), (1, .tmp 1), (2, .tmp 2)], 0, "", #[], none⟩
theorem zkd {S:zA} {T:List V} {x y z:Operand} {dst:Option Tmp} {ty:TypeId} {pos:String} {after:Array Edge} {g:Option (Nat × Bool)}:opV Tryz.prog S T ⟨dst,.buildSlice 22 3 #[(0,x),(1,y),(2,z)],ty,pos,after,g⟩=bs3 S (zG T x) (zG T y) (zG T z):=rfl
theorem q45 {S:zA} {a b c:Int}:bs3 S (.d (.int .i64 a)) (.d (.int .i64 b)) (.d (.int .i64 c))=some (.val (.ts [.int .i64 a,.int .i64 b,.int .i64 c]) S 0):=by kernel_rfl
theorem bsI1 {S:zA} {a:Int}:bs1 Tryz.prog S 22 (.d (.int .i64 a))=some (.val (.ts [.int .i64 a]) S 0):=by kernel_rfl
theorem bsG {S:zA}:bs1 Tryz.prog S 76 (.d (.int .u8 1))=some (.val (.ts [.int .u8 1]) S 0):=by kernel_rfl
theorem bdG:wK Tryz.prog 78 [(0,.d (.int .i64 9)),(1,.ts [.int .u8 1])]=some (.agg [.d (.int .i64 9),.ts [.int .u8 1]]):=by kernel_rfl
theorem zdu {bm:List UInt8} {D no:Nat} (hb:bm.length=256) (hn:no < 2048) (hD:D ≤ no) (hs:hasB bm no=true) : ∀ i,(frB (wW bm no false) D i).length=(frB bm D i).length + if no < i then 1 else 0
 | 0=>rfl
 | i + 1=>by
  have ih:=zdu hb hn hD hs i
  rw [zl9,zl9,List.length_append,List.length_append,ih,zb9 hb hn]
  by_cases e:i=no
  ·subst e
   have h1 : ¬ i < i:=by omega
   have h2:i < i + 1:=by omega
   simp only [if_true,h1,h2,if_false,hs,decide_eq_true hD]
   rfl
  ·rw [if_neg e]
   by_cases hl:no < i
   ·have h1:no < i + 1:=by omega
    simp only [hl,h1,if_true]
    omega
   ·have h1 : ¬ no < i + 1:=by omega
    simp only [hl,h1,if_false]
    omega
theorem zjs {C:CS} {no a:Int} {b:List UInt8} {ids:List Int} (h:putE C no a b (noZ ids)=0):spE 0 C no a b ids=0∧spC 0 C no a b ids=C.put no a b (z2a C (noZ ids))∧spI 0 C no a b ids=(C.last:Int) + 1:=by
 unfold spE spC spI
 simp [h]
theorem z96 {l:List Int} {x:Int} (h : ∀ y ∈ l,y < x):(l.filter fun n=>decide (n ∈ [x,x]))=[]:=by
 rw [List.filter_eq_nil_iff]
 intro y hy
 have:=h y hy
 simp only [List.mem_cons,List.not_mem_nil,or_false,or_self,decide_eq_true_eq]
 omega
theorem ziu {C:CS} (hC:C.Ok) {no a:Int} {b:List UInt8}:z2a (C.put no a b []) (noZ [(C.last:Int) + 1,(C.last:Int) + 1,0])=[(C.last:Int) + 1]:=by
 have e:noZ [(C.last:Int) + 1,(C.last:Int) + 1,0]=[(C.last:Int) + 1,(C.last:Int) + 1]:=by
  unfold noZ
  have h:(C.last:Int) + 1 ≠ 0:=by omega
  simp [h]
 rw [e]
 unfold z2a
 show ((C.list ++ [Chg.mk ((C.last:Int) + 1) no a b []]).map Chg.id).filter (fun n=>decide (n ∈ [(C.last:Int) + 1,(C.last:Int) + 1]))=_
 rw [List.map_append,List.filter_append,z96 (fun y hy=>by
  obtain ⟨ch,hch,rfl⟩:=List.mem_map.1 hy
  have:=(hC.chs ch hch).2.2.2.2.1
  omega)]
 simp
theorem znh {C:CS} (hC:C.Ok) {no a no2 a2:Int} {b b2:List UInt8} {nd:List Int}:vP ((C.put no a b []).put no2 a2 b2 nd).list [(C.last:Int) + 1,(C.last:Int) + 1,0]=[(C.last:Int) + 1]:=by
 show vP ((C.list ++ [Chg.mk ((C.last:Int) + 1) no a b []]) ++ [Chg.mk (((C.last + 1:Nat):Int) + 1) no2 a2 b2 nd]) _=_
 rw [z6m,z6m]
 have h0:vP C.list [(C.last:Int) + 1,(C.last:Int) + 1,0]=[]:=by
  unfold vP
  rw [List.map_eq_nil_iff,List.filter_eq_nil_iff]
  intro ch hch
  have h1:=(hC.chs ch hch).2.2.2.1
  have h2:=(hC.chs ch hch).2.2.2.2.1
  simp only [List.mem_cons,List.not_mem_nil,or_false,decide_eq_true_eq]
  omega
 have h2 : ¬ ((C.last + 1:Nat):Int) + 1 ∈ [(C.last:Int) + 1,(C.last:Int) + 1,0]:=by
  simp only [List.mem_cons,List.not_mem_nil,or_false]
  omega
 rw [h0,if_pos (by simp),if_neg h2]
 rfl
theorem zve (v2:V) (steps:List StpA) (hst:steps.length ≤ 16) (b:Nat) (hbb:b ≤ 17592186000000) (hsn : ∀ s ∈ steps,s.needs.length ≤ b) (y x c r m mk gm:Nat) (l:Lay) (D N:Nat) (hb:InB l.blocks) (hi:InB l.inodes) (hm:MayL l) (hD:2 + l.inodes.tdiv 8=(D:Int)) (hN:l.blocks=N) (mf:Int→Option V) (R:Post) :
 ∀ (k i:Nat) (S:zA) (e:Int) (C:CS) (gf:Int→Option V) (gl:Int→List Int) (g0 g4 g5 g6 g9 gI gF gD gB gC gA gE gL gM gG gK gN gJ gH gO gP gT gQ gU gR gS gV gW gX gY gZ gh gj gk gn gr gz hH hU hY hZ xA xB xC xD xE xF xG xH xI xJ xK xL xM xN xO xP xQ xR xS xT xU xV xW xX xY xZ g72 g73 g74 g75 g76 g77 g78 g79 g80 g81 g82 g83 g84 g85 g86 g87 g88 g89 g90 g91 g92 g93 g94 g95 g96 g97 g98 g99 g100 g101 g102 g103 g104 g105 g106 g107 g108 g109 g110 g111 g112 g113 g114 g115 g116 g117 g118 g119 g120 g121 g122 g123 g124 g125 g126 g127 g128 g129 g130 g131 g132 g133 g134 g135 g136 g137 g138 g139 g140 g141 g142 g143 g144 g145 g146 g147 g148 g149 g150 g151 g152 g153 g154 g155 g156 g157 g158 g159 g160 g161 g162 g163 g164 g165 g166:V),steps.length - i=k→i ≤ steps.length→TakP S y x c r m mk gm l e C mf gf gl b N i →
 (∀ S e C gf gl i' g0 g4 g5 g6 g9 gI gF gD gB gC gA gE gL gM gG gK gN gJ gH gO gP gT gQ gU gR gS gV gW gX gY gZ gh gj gk gn gr gz hH hU hY hZ xA xB xC xD xE xF xG xH xI xJ xK xL xM xN xO xP xQ xR xS xT xU xV xW xX xY xZ g72 g73 g74 g75 g76 g77 g78 g79 g80 g81 g82 g83 g84 g85 g86 g87 g88 g89 g90 g91 g92 g93 g94 g95 g96 g97 g98 g99 g100 g101 g102 g103 g104 g105 g106 g107 g108 g109 g110 g111 g112 g113 g114 g115 g116 g117 g118 g119 g120 g121 g122 g123 g124 g125 g126 g127 g128 g129 g130 g131 g132 g133 g134 g135 g136 g137 g138 g139 g140 g141 g142 g143 g144 g145 g146 g147 g148 g149 g150 g151 g152 g153 g154 g155 g156 g157 g158 g159 g160 g161 g162 g163 g164 g165 g166,TakP S y x c r m mk gm l e C mf gf gl b N 16→R (.exit 0) (g0::(.d (.sl (steps.map encStpA)))::v2::(.ref 0 0 0)::g4::g5::g6::(.ref y 0 0)::i'::g9::gI::gF::gD::gB::gC::gA::gE::gL::gM::gG::gK::gN::gJ::gH::gO::gP::gT::gQ::gU::gR::gS::gV::gW::gX::gY::gZ::gh::gj::gk::gn::gr::gz::hH::hU::hY::hZ::xA::xB::xC::xD::xE::xF::xG::xH::xI::xJ::xK::xL::xM::xN::xO::xP::xQ::xR::xS::xT::xU::xV::xW::xX::xY::xZ::g72::g73::g74::g75::g76::g77::g78::g79::g80::g81::g82::g83::g84::g85::g86::g87::g88::g89::g90::g91::g92::g93::g94::g95::g96::g97::g98::g99::g100::g101::g102::g103::g104::g105::g106::g107::g108::g109::g110::g111::g112::g113::g114::g115::g116::g117::g118::g119::g120::g121::g122::g123::g124::g125::g126::g127::g128::g129::g130::g131::g132::g133::g134::g135::g136::g137::g138::g139::g140::g141::g142::g143::g144::g145::g146::g147::g148::g149::g150::g151::g152::g153::g154::g155::g156::g157::g158::g159::g160::g161::g162::g163::g164::g165::g166::[]) S []) →
 Wp cfg (.loop (lpOf (Tryz.f7.body.getD .skip) 0)) (g0::(.d (.sl (steps.map encStpA)))::v2::(.ref 0 0 0)::g4::g5::g6::(.ref y 0 0)::(.d (.int .i64 (i:Int)))::g9::gI::gF::gD::gB::gC::gA::gE::gL::gM::gG::gK::gN::gJ::gH::gO::gP::gT::gQ::gU::gR::gS::gV::gW::gX::gY::gZ::gh::gj::gk::gn::gr::gz::hH::hU::hY::hZ::xA::xB::xC::xD::xE::xF::xG::xH::xI::xJ::xK::xL::xM::xN::xO::xP::xQ::xR::xS::xT::xU::xV::xW::xX::xY::xZ::g72::g73::g74::g75::g76::g77::g78::g79::g80::g81::g82::g83::g84::g85::g86::g87::g88::g89::g90::g91::g92::g93::g94::g95::g96::g97::g98::g99::g100::g101::g102::g103::g104::g105::g106::g107::g108::g109::g110::g111::g112::g113::g114::g115::g116::g117::g118::g119::g120::g121::g122::g123::g124::g125::g126::g127::g128::g129::g130::g131::g132::g133::g134::g135::g136::g137::g138::g139::g140::g141::g142::g143::g144::g145::g146::g147::g148::g149::g150::g151::g152::g153::g154::g155::g156::g157::g158::g159::g160::g161::g162::g163::g164::g165::g166::[]) S [] R:=by
 intro k
 have hln:=fun S=>lnA (S:=S) (l:=steps)
 induction k with
 | zero =>
  intro i S e C gf gl g0 g4 g5 g6 g9 gI gF gD gB gC gA gE gL gM gG gK gN gJ gH gO gP gT gQ gU gR gS gV gW gX gY gZ gh gj gk gn gr gz hH hU hY hZ xA xB xC xD xE xF xG xH xI xJ xK xL xM xN xO xP xQ xR xS xT xU xV xW xX xY xZ g72 g73 g74 g75 g76 g77 g78 g79 g80 g81 g82 g83 g84 g85 g86 g87 g88 g89 g90 g91 g92 g93 g94 g95 g96 g97 g98 g99 g100 g101 g102 g103 g104 g105 g106 g107 g108 g109 g110 g111 g112 g113 g114 g115 g116 g117 g118 g119 g120 g121 g122 g123 g124 g125 g126 g127 g128 g129 g130 g131 g132 g133 g134 g135 g136 g137 g138 g139 g140 g141 g142 g143 g144 g145 g146 g147 g148 g149 g150 g151 g152 g153 g154 g155 g156 g157 g158 g159 g160 g161 g162 g163 g164 g165 g166 hk hi2 hT hR
  have hie:i=steps.length:=by omega
  subst hie
  rw [zO]
  refine zM ?_
  conv=>arg 2; whnf
  simp (maxSteps:=1000000) (disch:=first|assumption|omega|rfl) only [↓gp,gc,Nat.reduceAdd,hln]
  exact hR _ e C gf gl _ _ _ _ _ _ _ _ _ _ _ _ _ _ _ _ _ _ _ _ _ _ _ _ _ _ _ _ _ _ _ _ _ _ _ _ _ _ _ _ _ _ _ _ _ _ _ _ _ _ _ _ _ _ _ _ _ _ _ _ _ _ _ _ _ _ _ _ _ _ _ _ _ _ _ _ _ _ _ _ _ _ _ _ _ _ _ _ _ _ _ _ _ _ _ _ _ _ _ _ _ _ _ _ _ _ _ _ _ _ _ _ _ _ _ _ _ _ _ _ _ _ _ _ _ _ _ _ _ _ _ _ _ _ _ _ _ _ _ _ _ _ _ _ _ _ _ _ _ _ _ _ _ _ _ _ _ _ _ _ _ _ _ ⟨hT.al,hT.h0,hT.inv,by have:=hT.las; omega,hT.img⟩
 | succ k ih =>
  intro i S e C gf gl g0 g4 g5 g6 g9 gI gF gD gB gC gA gE gL gM gG gK gN gJ gH gO gP gT gQ gU gR gS gV gW gX gY gZ gh gj gk gn gr gz hH hU hY hZ xA xB xC xD xE xF xG xH xI xJ xK xL xM xN xO xP xQ xR xS xT xU xV xW xX xY xZ g72 g73 g74 g75 g76 g77 g78 g79 g80 g81 g82 g83 g84 g85 g86 g87 g88 g89 g90 g91 g92 g93 g94 g95 g96 g97 g98 g99 g100 g101 g102 g103 g104 g105 g106 g107 g108 g109 g110 g111 g112 g113 g114 g115 g116 g117 g118 g119 g120 g121 g122 g123 g124 g125 g126 g127 g128 g129 g130 g131 g132 g133 g134 g135 g136 g137 g138 g139 g140 g141 g142 g143 g144 g145 g146 g147 g148 g149 g150 g151 g152 g153 g154 g155 g156 g157 g158 g159 g160 g161 g162 g163 g164 g165 g166 hk hi2 hT hR
  have hlt:i < steps.length:=by omega
  have h3:IntKind.i64.wrap ((i:Int) + 1)=((i + 1:Nat):Int):=by rw [wrap64 (by omega)]; omega
  have hix:=fun S=>ixA (S:=S) hlt
  have hlas:=hT.las
  obtain ⟨o,S2,⟨rfl,hF2,e',C',gf',gl',hA2,hinv2,q1,q2,q3⟩,hE2⟩:=zY (zyt S y x c r m mk gm l e C mf gf gl b hT.al hbb hb hi hm D hD N hN steps[i] (hsn _ (List.getElem_mem hlt)) hT.inv (by omega))
  have hgo:=fun {ops dst k T F Q}=>zD (ops:=ops) (dst:=dst) (l:=k) (T:=T) (F:=F) (Q:=Q) rfl hE2
  rw [zO]
  refine zM ?_
  conv=>arg 2; whnf
  simp (maxSteps:=1000000) (disch:=first|assumption|omega|rfl) only [↓gp,gc,Nat.reduceAdd,hln,hix,pldA,hgo,bo40,h3]
  exact ih (i + 1) S2 e' C' gf' gl' _ _ _ _ _ _ _ _ _ _ _ _ _ _ _ _ _ _ _ _ _ _ _ _ _ _ _ _ _ _ _ _ _ _ _ _ _ _ _ _ _ _ _ _ _ _ _ _ _ _ _ _ _ _ _ _ _ _ _ _ _ _ _ _ _ _ _ _ _ _ _ _ _ _ _ _ _ _ _ _ _ _ _ _ _ _ _ _ _ _ _ _ _ _ _ _ _ _ _ _ _ _ _ _ _ _ _ _ _ _ _ _ _ _ _ _ _ _ _ _ _ _ _ _ _ _ _ _ _ _ _ _ _ _ _ _ _ _ _ _ _ _ _ _ _ _ _ _ _ _ _ _ _ _ _ _ _ _ _ _ _ _ (by omega) (by omega) ⟨hA2,hF2.row hT.h0 rfl,hinv2,by omega,by rw [q3]; exact hT.img⟩ hR
theorem zog {a:Int} {i k:Nat}:wR (.agg [.d (.int .i64 a),.rs i 0 k]) (.agg [.d (.int .i64 a),.rs i 0 k])=true:=by simp [wR,kR,qU,qN,z1e,jJ]
theorem zn7 {S:zA} {v:V} {xs:List Int} (h:OwnS S v 3 (qA xs)):Go.Vm.frz S zI v=some (encI xs):=by
 have h':OwnS S v 3 ((xs.map (.int .i64)).map .d):=by rw [List.map_map]; exact h
 exact z7f (n:=10) h'
theorem zxa {T:List V} {S:zA} {dst:Option Tmp} {t:TypeId} {x:Nat} {ty:TypeId} {pos:String} {after:Array Edge} {g:Option (Nat × Bool)} {v:V} (h:zK Tryz.prog S t (T.getD x .junk) (.d (.int .i64 0))=some v):opV Tryz.prog S T ⟨dst,.indexAddr t (.tmp x) (.const (.int .i64 0)),ty,pos,after,g⟩=some (.val v S 1):=by
 show (zK Tryz.prog S t (T.getD x .junk) (.d (.int .i64 0))).map (fun v=>Rs.val v S 1)=_
 rw [h]
 rfl
theorem gives_ok (l:Lay) (hb:InB l.blocks) (hi:InB l.inodes) (hM:0 ≤ l.merge∧l.merge < 18446744073709551616) (steps:List StpA) (no:Int) (B0:Nat) (hB0:B0 ≤ 17592186000000) (hsn : ∀ s ∈ steps,s.needs.length ≤ B0):Ev cfg 7 [encLay l,.sl (steps.map encStpA),.int .i64 no] (.ret (.d (.bool true))):=by
 have hc:=fun {ops dst k T S F Q}=>zem (ops:=ops) (dst:=dst) (k:=k) (T:=T) (S:=S) (F:=F) (Q:=Q) hb hi
 have hln:=fun S=>lnA (S:=S) (l:=steps)
 refine kB rfl rfl q2i ?_
 show Wp cfg (Tryz.f7.body.getD .skip) ((.d (encLay l))::(.d (.sl (steps.map encStpA)))::(.d (.int .i64 no))::uZ (uZ (uZ (uZ (uZ (uZ (uZ (uZ (uZ (uZ (uZ (uZ (uZ (uZ (uZ (uZ ((.tup [])::(.tup [])::(.tup [])::(.tup [])::[]))))))))))))))))) [] [] _
 unfold uZ
 conv=>arg 2; whnf
 by_cases hs:MayL l∧l.blocks ≤ 60
 case neg =>
  rw [decide_eq_false hs] at hc
  simp (maxSteps:=1000000) (disch:=first|assumption|omega|rfl) only [↓gp,gc,Nat.reduceAdd,lr32,hc,bo16,jQ,Bool.not_false,wS,bo17]
  exact zU rfl rfl rfl
 rw [decide_eq_true hs] at hc
 by_cases h16:(steps.length:Int) > 16
 ·simp (maxSteps:=1000000) (disch:=first|assumption|omega|rfl) only [↓gp,gc,Nat.reduceAdd,lr32,hc,bo16,jQ,Bool.not_true,hln,wS,bo17,zP]
  exact zU rfl rfl rfl
 obtain ⟨hm,h60⟩:=hs
 obtain ⟨B,I,M,K,hl,hK,hB,hI,hI8,hMM,hK16,hKB,hIB⟩:=zu8 hm h60 hM
 obtain ⟨o,S1,⟨hK1,y,x,c,r,m,mk,gm,rfl,h1,h2,h3,h4,h5⟩,hE⟩:=zY (zds [.row [.d (encLay l)] 32] l B I M K hl (by omega) hI hMM hm hK hK16 hKB)
 have hE:=fun {ops dst k T F Q}=>zD (ops:=ops) (dst:=dst) (l:=k) (T:=T) (F:=F) (Q:=Q) rfl hE
 have hA1:=(za9 h1 h2 h3 h4 h5).wk (Nat.zero_le B0)
 have hBl:l.blocks=(B:Int):=by rw [hl]
 simp (maxSteps:=1000000) (disch:=first|assumption|omega|rfl) only [↓gp,gc,Nat.reduceAdd,lr32,hc,bo16,jQ,Bool.not_true,hln,hE,bo18,z9o]
 refine zve (.d (.int .i64 no)) steps (by omega) B0 hB0 hsn y x c r m mk gm l (2 + K) B hb hi hm hK hBl (fun _=>none) _ steps.length 0 S1 0 (C0 B I M K) (fun _=>none) (fun _=>[]) _ _ _ _ _ _ _ _ _ _ _ _ _ _ _ _ _ _ _ _ _ _ _ _ _ _ _ _ _ _ _ _ _ _ _ _ _ _ _ _ _ _ _ _ _ _ _ _ _ _ _ _ _ _ _ _ _ _ _ _ _ _ _ _ _ _ _ _ _ _ _ _ _ _ _ _ _ _ _ _ _ _ _ _ _ _ _ _ _ _ _ _ _ _ _ _ _ _ _ _ _ _ _ _ _ _ _ _ _ _ _ _ _ _ _ _ _ _ _ _ _ _ _ _ _ _ _ _ _ _ _ _ _ _ _ _ _ _ _ _ _ _ _ _ _ _ _ _ _ _ _ _ _ _ _ _ _ _ _ _ _ _ rfl (Nat.zero_le _) ⟨hA1,hK1 _ _ rfl,(fun _ _ x hx=>by cases hx),Nat.zero_le _,z86⟩ ?_
 intro S2 e C gf gl i' g0 g4 g5 g6 g9 gI gF gD gB gC gA gE gL gM gG gK gN gJ gH gO gP gT gQ gU gR gS gV gW gX gY gZ gh gj gk gn gr gz hH hU hY hZ xA xB xC xD xE xF xG xH xI xJ xK xL xM xN xO xP xQ xR xS xT xU xV xW xX xY xZ g72 g73 g74 g75 g76 g77 g78 g79 g80 g81 g82 g83 g84 g85 g86 g87 g88 g89 g90 g91 g92 g93 g94 g95 g96 g97 g98 g99 g100 g101 g102 g103 g104 g105 g106 g107 g108 g109 g110 g111 g112 g113 g114 g115 g116 g117 g118 g119 g120 g121 g122 g123 g124 g125 g126 g127 g128 g129 g130 g131 g132 g133 g134 g135 g136 g137 g138 g139 g140 g141 g142 g143 g144 g145 g146 g147 g148 g149 g150 g151 g152 g153 g154 g155 g156 g157 g158 g159 g160 g161 g162 g163 g164 g165 g166 hT
 have hal:=hT.al
 have hok:=hal.sp.ca.ok
 have hlas:=hT.las
 have himg:=hT.img
 have h1B:1 < C.img.length:=by omega
 have hbm:=hok.see_len h1B
 have hst:=fun {ops dst k T F Q}=>zD (ops:=ops) (dst:=dst) (l:=k) (T:=T) (F:=F) (Q:=Q) rfl (z05 S2 y x gm hal.hy)
 have her:=fun {ops dst k T F Q}=>zD (ops:=ops) (dst:=dst) (l:=k) (T:=T) (F:=F) (Q:=Q) rfl (z4l S2 x c mk _ _ _ e hal.sp.hx)
 by_cases he:e=0
 case neg =>
  obtain ⟨o,S3,⟨hF3,hA3,rfl⟩,hE3⟩:=zY (zeg S2 y x c r m mk gm l e C (fun _=>none) gf gl B0 hal hb hi hm no (.ts []) (.inr (.inr he)))
  have hgv:=fun {ops dst k T F Q}=>zD (ops:=ops) (dst:=dst) (l:=k) (T:=T) (F:=F) (Q:=Q) rfl hE3
  have hde : ∀ i:Decidable (e ≠ 0),@decide (e ≠ 0) i=true:=fun i=>decide_eq_true he
  simp (maxSteps:=1000000) (disch:=first|assumption|omega|rfl) only [↓gp,gc,Nat.reduceAdd,hst,bo24,her,bo45,hde,hgv,bo23,zP,wS,bo17]
  exact zU rfl rfl rfl
 subst he
 obtain ⟨o,S3,⟨hF3,hC3,a1,u1,rfl,hla1,hrow1,hu1⟩,hE3⟩:=zY (zqn hal hm)
 have hmap:=fun {ops dst k T F Q}=>zD (ops:=ops) (dst:=dst) (l:=k) (T:=T) (F:=F) (Q:=Q) rfl hE3
 have hal3:=hal.frC hF3 hC3 rfl
 have h03:S3[0]? = some (.row [.d (encLay l)] 32):=hF3.row hT.h0 rfl
 have har1:a1 ≠ r:=by
  have:=hal.sp.ca.rn
  omega
 have hcs1 : ∀ a,(V.cs a 0 0 256).one=true:=fun _=>rfl
 have hst3:=fun {ops dst k T F Q}=>zD (ops:=ops) (dst:=dst) (l:=k) (T:=T) (F:=F) (Q:=Q) rfl (z05 S3 y x gm hal3.hy)
 have hch3:=fun {ops dst k T F Q}=>zD (ops:=ops) (dst:=dst) (l:=k) (T:=T) (F:=F) (Q:=Q) rfl (z3k S3 x c mk l.blocks l.inodes l.merge 0 hal3.sp.hx)
 have hla3:=fun {ops dst k T F Q}=>zD (ops:=ops) (dst:=dst) (l:=k) (T:=T) (F:=F) (Q:=Q) rfl (zta hal3)
 obtain ⟨o,S4,⟨rfl,hC4,hF4⟩,hE4⟩:=zY (z8f S3 _ y x c r m mk gm l 0 C hal3.seen hal3.sp.hB hb hi hm (2 + K) hK B hBl)
 have hfree:=fun {ops dst k T F Q}=>zD (ops:=ops) (dst:=dst) (l:=k) (T:=T) (F:=F) (Q:=Q) rfl hE4
 have hal4:=hal3.frC hF4 hC4.at rfl
 have h04:S4[0]? = some (.row [.d (encLay l)] 32):=hF4.row h03 rfl
 have hra4:S4[a1]? = some (.row [u1] 42):=hF4.row hrow1 (by simp [har1])
 have hr04:=zE (e:=32) h04
 have hpt:PatV S4 (.agg [.d (.int .i64 9),.ts [.int .u8 1]]) (.ts [.int .u8 1]) 9 [1]:= .inl ⟨rfl,.inr (.inr rfl)⟩
 have hwB:IntKind.i64.wrap (l.blocks - 1)=((B - 1:Nat):Int):=by rw [wrap64 (by omega)]; omega
 have hnz:noZ []=[]:=rfl
 have hpe:putE C ((B - 1:Nat):Int) 9 [1] (noZ [])=0:=by
  have h1:kL 9 [1]:=by unfold kL; simp
  unfold putE
  rw [hnz,if_neg (fun h=>h h1),if_neg (fun h=>h (fun x hx=>by cases hx)),if_neg (by omega)]
 obtain ⟨z1,z2,z3⟩:=zjs hpe
 rw [hnz,zmt] at z2
 obtain ⟨o,S5,⟨hF5,hS5,rfl⟩,hE5⟩:=zY (z7j S4 x c r m mk l 0 C (fun _=>none) hal4.sp ((B - 1:Nat):Int) (.agg [.d (.int .i64 9),.ts [.int .u8 1]]) (.ts [.int .u8 1]) 9 [1] hpt (by unfold InB; omega) (.ts []) [] (.inr (.inl rfl)) (Nat.zero_le _) (by omega))
 rw [z1,z2] at hS5
 rw [z3] at hE5
 have hput:=fun {ops base K' ws cs i dst T}=>qW (ops:=ops) (base:=base) (K:=K') (ws:=ws) (cs:=cs) (i:=i) (dst:=dst) (T:=T) rfl hE5
 have hst4:=fun {ops base K' ws cs i dst T}=>qW (ops:=ops) (base:=base) (K:=K') (ws:=ws) (cs:=cs) (i:=i) (dst:=dst) (T:=T) rfl (z05 S4 y x gm hal4.hy)
 have hl0:kM Tryz.prog S4 3 (.ref 0 0 0)=some (.d (.int .i64 l.blocks)):=(zJ hr04).trans z10
 simp (maxSteps:=1000000) (disch:=first|assumption|omega|rfl) only [↓gp,gc,Nat.reduceAdd,hst,bo24,her,bo45,zP,hmap,bo42,hst3,hch3,bo25,hla3,bo35,hfree,bo21]
 refine qP (is:=[0,2,3,4,5,6,1,7,8]) (h:=0) (by kernel_rfl) (by kernel_rfl) ?_
 simp (maxSteps:=1000000) (disch:=first|assumption|omega|rfl) only [List.replicate_zero,eq_self,gw,ga,Nat.reduceAdd,↓gq,vso,List.append_nil,z04,hr04,z10,hwB,bsG,bdG,hst4,bo24,hput,bo50]
 refine ⟨zX rfl (by kernel_rfl) rfl (wG hl0) kQ zW,zF (by kernel_rfl) zW,by kernel_rfl,?_⟩
 have hal5:=hal4.frS hF5 hS5
 have h05:S5[0]? = some (.row [.d (encLay l)] 32):=hF5.row h04 rfl
 have hra5:S5[a1]? = some (.row [u1] 42):=hF5.row hra4 (by simp [har1])
 have hsee1:(C.put ((B - 1:Nat):Int) 9 [1] []).see 1=C.see 1:=by
  rw [zbo,if_neg (by omega)]
 have hlast1:(C.put ((B - 1:Nat):Int) 9 [1] []).last=C.last + 1:=rfl
 have hne1:z2a (C.put ((B - 1:Nat):Int) 9 [1] []) (noZ [(C.last:Int) + 1,(C.last:Int) + 1,0])=[(C.last:Int) + 1]:=ziu hok
 have hgo1 : ∀ {no2 a2:Int} {b2:List UInt8} {nd:List Int},vP ((C.put ((B - 1:Nat):Int) 9 [1] []).put no2 a2 b2 nd).list [(C.last:Int) + 1,(C.last:Int) + 1,0]=[(C.last:Int) + 1]:=znh hok
 have himg1:(C.put ((B - 1:Nat):Int) 9 [1] []).img.length=B:=himg
 generalize C.put ((B - 1:Nat):Int) 9 [1] []=C1 at *
 have hok1:=hal5.sp.ca.ok
 have h2048:B ≤ 2048:=by omega
 have hfrI:IntsV S5 (.ts [.int .i64 ((C.last:Int) + 1),.int .i64 ((C.last:Int) + 1),.int .i64 0]) [(C.last:Int) + 1,(C.last:Int) + 1,0]:= .inr (.inl rfl)
 have hbs3:=fun S=>q45 (S:=S) (a:=(C.last:Int) + 1) (b:=(C.last:Int) + 1) (c:=0)
 have hda:=zkl hm (no:=no)
 have hare:=fun {ops dst k T S F Q}=>zim (ops:=ops) (dst:=dst) (k:=k) (T:=T) (S:=S) (F:=F) (Q:=Q) (no:=no) hb hi hm
 by_cases hcase:(2 + l.inodes.tdiv 8 ≤ no∧no < l.blocks)∧hasI (C.see 1) no=true
 case neg =>
  obtain ⟨o,S6,⟨hF6,hA6,rfl⟩,hE6⟩:=zY (zeg S5 y x c r m mk gm l 0 C1 (fun _=>none) gf gl B0 hal5 hb hi hm no (.ts [.int .i64 ((C.last:Int) + 1),.int .i64 ((C.last:Int) + 1),.int .i64 0]) (by
   by_cases h1:(2 + l.inodes.tdiv 8 ≤ no∧no < l.blocks)
   ·refine .inr (.inl ?_)
    unfold z3m
    rw [hsee1]
    cases hh:hasI (C.see 1) no with
    | true=>exact absurd ⟨h1,hh⟩ hcase
    | false=>rw [Bool.and_false]
   ·exact .inl h1))
  have hgv:=fun {ops dst k T F Q}=>zD (ops:=ops) (dst:=dst) (l:=k) (T:=T) (F:=F) (Q:=Q) rfl hE6
  have h06:S6[0]? = some (.row [.d (encLay l)] 32):=hF6.row h05 rfl
  have hr06:=zE (e:=32) h06
  have hra6:S6[a1]? = some (.row [u1] 42):=hF6.row hra5 (by simp [har1])
  obtain ⟨o,S7,⟨rfl,hC7,hF7⟩,hE7⟩:=zY (z8f S6 _ y x c r m mk gm l 0 C1 hA6.seen hA6.sp.hB hb hi hm (2 + K) hK B hBl)
  have hfree6:=fun {ops dst k T F Q}=>zD (ops:=ops) (dst:=dst) (l:=k) (T:=T) (F:=F) (Q:=Q) rfl hE7
  rw [hsee1] at hfree6
  by_cases h4:z68 l no=4
  ·have hd:=hda.1 h4
   obtain ⟨n,rfl⟩ : ∃ n:Nat,no=n:=⟨no.toNat,by omega⟩
   have hn:n < 2048:=by omega
   have hhas:hasB (C.see 1) n=false:=by
    cases hh:hasB (C.see 1) n with
    | false=>rfl
    | true=>exact absurd ⟨hd,by rw [zbe hn]; exact hh⟩ hcase
   have hdf : ∀ i:Decidable (z68 l (n:Int) ≠ 4),@decide (z68 l (n:Int) ≠ 4) i=false:=fun i=>decide_eq_false (fun h=>h h4)
   have hHas:=fun {ops dst k T F Q}=>zdj (C:=cfg) (S:=S6) (dst:=dst) (l:=k) (ops:=ops) (T:=T) (F:=F) (Q:=Q) (f:=51) (args:=[.cs a1 0 0 256,.d (.int .i64 (n:Int))]) (ds:=[encB (C.see 1),.int .i64 (n:Int)]) rfl (by
    simp only [allO,zb6 hra6 hu1 hbm]
    rfl) rfl (zjo (C.see 1) hbm n hn)
   simp only [hhas] at hHas
   simp (maxSteps:=1000000) (disch:=first|assumption|omega|rfl) only [↓gp,gc,Nat.reduceAdd,zkd,hbs3,hgv,bo23,hr06,lr32,hare,bo22,hdf,hcs1,hHas,bo51,jQ,Bool.not_false,zP,hfree6,bo21,wS,bo17]
   exact zU rfl rfl rfl
  ·have hdt : ∀ i:Decidable (z68 l no ≠ 4),@decide (z68 l no ≠ 4) i=true:=fun i=>decide_eq_true h4
   simp (maxSteps:=1000000) (disch:=first|assumption|omega|rfl) only [↓gp,gc,Nat.reduceAdd,zkd,hbs3,hgv,bo23,hr06,lr32,hare,bo22,hdt,zP,hfree6,bo21,wS,bo17]
   exact zU rfl rfl rfl
 obtain ⟨hd,hhi⟩:=hcase
 have h4:=hda.2 hd
 obtain ⟨n,rfl⟩ : ∃ n:Nat,no=n:=⟨no.toNat,by omega⟩
 have hn:n < 2048:=by omega
 have hhas:hasB (C.see 1) n=true:=by rw [← zbe hn]; exact hhi
 have hdf : ∀ i:Decidable (z68 l (n:Int) ≠ 4),@decide (z68 l (n:Int) ≠ 4) i=false:=fun i=>decide_eq_false (fun h=>h h4)
 have hid1 : ∀ x ∈ noZ [(C.last:Int) + 1,(C.last:Int) + 1,0],1 ≤ x∧x ≤ (C1.last:Int):=fun x hx=>by
  unfold noZ at hx
  obtain ⟨h1,h2⟩:=List.mem_filter.1 hx
  simp only [List.mem_cons,List.not_mem_nil,or_false,decide_eq_true_eq] at h1 h2
  omega
 obtain ⟨y1,y2,y3⟩:=zjs (zh6 (C:=C1) (no:=n) (on:=false) (by omega) hn hid1)
 rw [hne1] at y2
 have hus:z3m l C1 (n:Int)=true:=by
  unfold z3m
  rw [hsee1,hhi,Bool.and_true,decide_eq_true ⟨by omega,hd.2⟩]
 obtain ⟨o,S6,⟨hF6,⟨gf6,hA6⟩,rfl⟩,hE6⟩:=zY (zji S5 y x c r m mk gm l C1 (fun _=>none) gf gl B0 hal5 hb hi hm n (.ts [.int .i64 ((C.last:Int) + 1),.int .i64 ((C.last:Int) + 1),.int .i64 0]) [(C.last:Int) + 1,(C.last:Int) + 1,0] hfrI (by simp) (by omega) hd hus)
 rw [y1,y2] at hA6
 rw [y3] at hE6
 have hgv:=fun {ops dst k T F Q}=>zD (ops:=ops) (dst:=dst) (l:=k) (T:=T) (F:=F) (Q:=Q) rfl hE6
 have hbp:bitP C1 n false=[setB (C.see 1) n false]:=by unfold bitP; rw [hsee1]
 have hgone2:=hgo1 (no2:=1) (a2:=((n / 8:Nat):Int)) (b2:=bitP C1 n false) (nd:=[(C.last:Int) + 1])
 have hsee2:(C1.put 1 ((n / 8:Nat):Int) (bitP C1 n false) [(C.last:Int) + 1]).see 1=wW (C.see 1) n false:=by
  have h:=zgb (no:=n) (on:=false) (ids:=[(C.last:Int) + 1,(C.last:Int) + 1,0]) (k:=1) hok1 (by omega) hn
  unfold bitC at h
  rw [hne1,if_pos rfl,hsee1] at h
  exact h
 have hlist2:(C1.put 1 ((n / 8:Nat):Int) (bitP C1 n false) [(C.last:Int) + 1]).list=C1.list ++ [⟨(C1.last:Int) + 1,1,((n / 8:Nat):Int),bitP C1 n false,[(C.last:Int) + 1]⟩]:=rfl
 have himg2:(C1.put 1 ((n / 8:Nat):Int) (bitP C1 n false) [(C.last:Int) + 1]).img.length=C1.img.length:=rfl
 generalize C1.put 1 ((n / 8:Nat):Int) (bitP C1 n false) [(C.last:Int) + 1]=C2 at *
 have hlen2:C2.list.length=C1.list.length + 1:=by rw [hlist2]; simp
 have h06:S6[0]? = some (.row [.d (encLay l)] 32):=hF6.row h05 rfl
 have hr06:=zE (e:=32) h06
 have hra6:S6[a1]? = some (.row [u1] 42):=hF6.row hra5 (by simp [har1])
 have hHas:=fun {ops dst k T F Q}=>zdj (C:=cfg) (S:=S6) (dst:=dst) (l:=k) (ops:=ops) (T:=T) (F:=F) (Q:=Q) (f:=51) (args:=[.cs a1 0 0 256,.d (.int .i64 (n:Int))]) (ds:=[encB (C.see 1),.int .i64 (n:Int)]) rfl (by
  simp only [allO,zb6 hra6 hu1 hbm]
  rfl) rfl (zjo (C.see 1) hbm n hn)
 simp only [hhas] at hHas
 obtain ⟨o,S7,⟨hK7,idr,es,rfl,hrow7,hc7⟩,hE7⟩:=zY (zu6 hA6 1 (by omega) (by omega))
 have hlast:=fun {ops dst k T F Q}=>zD (ops:=ops) (dst:=dst) (l:=k) (T:=T) (F:=F) (Q:=Q) rfl hE7
 have e1:((1:Nat):Int)=1:=rfl
 simp only [e1] at hlast
 have hk:C2.list.length - 1=C1.list.length:=by omega
 rw [hk] at hlast
 have hesl:=hc7.1
 have hcl1:C2.list[C1.list.length]? = some ⟨(C1.last:Int) + 1,1,((n / 8:Nat):Int),bitP C1 n false,[(C.last:Int) + 1]⟩:=by rw [hlist2,List.getElem?_append_right (Nat.le_refl _),Nat.sub_self]; rfl
 have hcv1:=hc7.2 C1.list.length (es[C1.list.length]'(by omega)) _ (List.getElem?_eq_getElem (by omega)) hcl1
 obtain ⟨dv1,nv1,id1,hue1,hd1,hn1',hdv1⟩:=hcv1.form (by rw [hbp]; simp)
 simp only at hue1 hd1 hn1' hdv1
 rw [hdv1] at hue1 hd1
 rw [hbp] at hue1 hd1
 have hdl1:([setB (C.see 1) n false]:List UInt8).length=1:=rfl
 rw [hdl1] at hue1 hd1
 have hra7:=hK7 _ _ hra6
 have h07:=hK7 _ _ h06
 have hA7:=hA6.keep hK7
 have hA8:=hA7.set1 (o:= .fz [blkD (C.see 1)] 42) hra7 rfl (by decide) (by decide) (by decide) har1
 have hfz7:allO (Go.Vm.frz S7 zI) [.cs a1 0 0 256,.d (.int .i64 (n:Int)),.d (.bool false)]=some [encB (C.see 1),.int .i64 (n:Int),.bool false]:=by
  simp only [allO,zb6 hra7 hu1 hbm]
  rfl
 have hid7:([.cs a1 0 0 256,.d (.int .i64 (n:Int)),.d (.bool false)]:List V).flatMap (frzIds S7 zI)=[a1]:=by
  rw [List.flatMap_cons,zqk hra7 hu1]
  rfl
 have hset:=fun {ops base K' ws cs i dst T}=>q42 (ops:=ops) (base:=base) (K:=K') (ws:=ws) (cs:=cs) (i:=i) (dst:=dst) (T:=T) (zot hra7 hu1 rfl hfz7 hid7 rfl (zye (C.see 1) hbm n hn false))
 have hrow8:(S7.set a1 (.fz [blkD (C.see 1)] 42))[idr]? = some (.row es 97):=by rw [List.getElem?_set_ne (by rintro rfl; have:=getE hra7 hrow7; simp at this)]; exact hrow7
 have hd1b:=zfz (o:= .fz [blkD (C.see 1)] 42) hd1 hra7 (by decide)
 have hn1b:=zfz (o:= .fz [blkD (C.see 1)] 42) hn1' hra7 (by decide)
 have hn11:=qH hn1b
 have hr7:rowE S7 idr C1.list.length=some (.agg [.d (.int .i64 ((C1.last:Int) + 1)),.d (.int .i64 1),.d (.int .i64 ((n / 8:Nat):Int)),.rs id1 0 1,nv1]):=by
  unfold rowE; rw [hrow7,← hue1]; exact List.getElem?_eq_getElem (by omega)
 have hr8:rowE (S7.set a1 (.fz [blkD (C.see 1)] 42)) idr C1.list.length=some (.agg [.d (.int .i64 ((C1.last:Int) + 1)),.d (.int .i64 1),.d (.int .i64 ((n / 8:Nat):Int)),.rs id1 0 1,nv1]):=by
  unfold rowE; rw [hrow8,← hue1]; exact List.getElem?_eq_getElem (by omega)
 have hi7:=ixC0 (k0:=C1.list.length) (q:=1) hrow7 (by omega)
 have hi8:=ixC0 (k0:=C1.list.length) (q:=1) hrow8 (by omega)
 have hlP:=(zJ hr8).trans (q0o (a:=(C1.last:Int) + 1) (b:=1) (c:=((n / 8:Nat):Int)) (id:=id1) (m:=1) (nv:=nv1))
 have hw2:IntKind.i64.wrap ((C.last:Int) + 2)=(C1.last:Int) + 1:=by rw [wrap64 (by omega)]; omega
 have hln1 : ∀ S,zL Tryz.prog S .len [92] [.rs idr C1.list.length 1]=some (.val (.d (.int .i64 1)) S 0):=fun S=>z9z uC
 generalize hS8:S7.set a1 (.fz [blkD (C.see 1)] 42)=S8 at *
 have hsameD:=fun {ops base K' ws cs i dst T}=>zwz (ops:=ops) (base:=base) (K:=K') (ws:=ws) (cs:=cs) (i:=i) (dst:=dst) (T:=T) (S:=S8) (f:=48) (args:=[.agg [.d (.int .i64 ((n / 8:Nat):Int)),.rs id1 0 1],.d (patD ((n / 8:Nat):Int) [setB (C.see 1) n false])]) (ds:=[patD ((n / 8:Nat):Int) [setB (C.see 1) n false],patD ((n / 8:Nat):Int) [setB (C.see 1) n false]]) rfl (by
  simp only [allO,zn3 hd1b]
  rfl) rfl (zpt ((n / 8:Nat):Int) [setB (C.see 1) n false] (by simp))
 have hI1:Ev cfg 39 [encI [(C.last:Int) + 1],encI [(C.last:Int) + 1]] (.ret (.d (.bool true))):=by
  have:=zkf [(C.last:Int) + 1] [(C.last:Int) + 1] (by simp)
  rw [decide_eq_true rfl] at this
  exact this
 have hintsD:=fun {ops base K' ws cs i dst T}=>zwz (ops:=ops) (base:=base) (K:=K') (ws:=ws) (cs:=cs) (i:=i) (dst:=dst) (T:=T) (S:=S8) (f:=39) (args:=[nv1,.ts [.int .i64 ((C.last:Int) + 1)]]) (ds:=[encI [(C.last:Int) + 1],encI [(C.last:Int) + 1]]) rfl (by
  simp only [allO,zn7 hn1b]
  rfl) rfl hI1
 simp (maxSteps:=1000000) (disch:=first|assumption|omega|rfl) only [↓gp,gc,Nat.reduceAdd,zkd,hbs3,hgv,bo23,hr06,lr32,hare,bo22,hdf,hcs1,hHas,bo51,jQ,Bool.not_true,hlast,bo46]
 refine qP (is:=[0,1,2,3,4,5,6,7,8,9,10,11,12,13,14,15,16,17,18,19,20,21,22,23,24,25,26,27,28,29,30,31,32,33,34,35,36,37,38,39,40,41,42,43,44]) (h:=0) (by kernel_rfl) (by kernel_rfl) ?_
 simp (maxSteps:=1000000) (disch:=first|assumption|omega|rfl) only [List.replicate_zero,eq_self,gw,ga,Nat.reduceAdd,↓gq,vso,List.append_nil,hw2,hln1,hi7,hi8,q3l,q2j,q36,q32,hr7,hr8,q35,q40,q0o,zo0,hcs1,hset,bo47,hS8,hsameD,bo48,hn11,bsI1,hintsD,bo39,jQ,Bool.not_true,zP]
 refine ⟨zX rfl (by kernel_rfl) rfl (wG hlP) zog (zX rfl (by kernel_rfl) rfl (zxa hi8) z8q (zF (by kernel_rfl) (zF (by kernel_rfl) (zF (by kernel_rfl) (zF (by kernel_rfl) zW))))),by kernel_rfl,?_⟩
 obtain ⟨o,S9,⟨hK9,v9,rfl,hN9,ho9⟩,hE9⟩:=zY (zfs S8 y x c r m mk gm l 0 C2 (fun _=>none) gf6 _ _ hA8 (Nat.max_le.2 ⟨by omega,by simp⟩) (n:Int))
 rw [if_pos rfl,hgone2] at ho9
 have hgone:=fun {ops dst k T F Q}=>zD (ops:=ops) (dst:=dst) (l:=k) (T:=T) (F:=F) (Q:=Q) rfl hE9
 have hA9:=hA8.keep hK9
 have hv91:=qH ho9
 have hintsR:=fun {ops dst k T F Q}=>zdj (C:=cfg) (S:=S9) (dst:=dst) (l:=k) (ops:=ops) (T:=T) (F:=F) (Q:=Q) (f:=39) (args:=[v9,.ts [.int .i64 ((C.last:Int) + 1)]]) (ds:=[encI [(C.last:Int) + 1],encI [(C.last:Int) + 1]]) rfl (by
  simp only [allO,zn7 ho9]
  rfl) rfl hI1
 obtain ⟨o,S10,⟨rfl,hC10,hF10⟩,hE10⟩:=zY (z8f S9 _ y x c r m mk gm l 0 C2 hA9.seen hA9.sp.hB hb hi hm (2 + K) hK B hBl)
 have hfr2:(((frB (C2.see 1) (2 + K) B).length:Nat):Int)=((frB (C.see 1) (2 + K) B).length:Int) + 1:=by
  rw [hsee2,zdu hbm hn (by omega) hhas B,if_pos (by omega)]
  omega
 rw [hfr2] at hE10
 have hfree9:=fun {ops dst k T F Q}=>zD (ops:=ops) (dst:=dst) (l:=k) (T:=T) (F:=F) (Q:=Q) rfl hE10
 have hflen:=zls (bm:=C.see 1) (D:=2 + K) (i:=B)
 have hwf:IntKind.i64.wrap (((frB (C.see 1) (2 + K) B).length:Int) + 1)=((frB (C.see 1) (2 + K) B).length:Int) + 1:=wrap64 (by omega)
 have hA10:=hA9.frC hF10 hC10.at rfl
 have hst10:=fun {ops dst k T F Q}=>zD (ops:=ops) (dst:=dst) (l:=k) (T:=T) (F:=F) (Q:=Q) rfl (z05 S10 y x gm hA10.hy)
 have hch10:=fun {ops dst k T F Q}=>zD (ops:=ops) (dst:=dst) (l:=k) (T:=T) (F:=F) (Q:=Q) rfl (z3k S10 x c mk l.blocks l.inodes l.merge 0 hA10.sp.hx)
 obtain ⟨o,S11,⟨hF11,rfl,C3,hC11,hsy⟩,hE11⟩:=zY (zw9 S10 c r m C2 hA10.sp.ca)
 have hsync:=fun {ops dst k T F Q}=>zD (ops:=ops) (dst:=dst) (l:=k) (T:=T) (F:=F) (Q:=Q) rfl hE11
 have hA11:=hA10.frC hF11 hC11 hsy.2.2.1
 obtain ⟨o,S12,⟨hK12,v12,rfl,hN12,ho12⟩,hE12⟩:=zY (zfs S11 y x c r m mk gm l 0 C3 (fun _=>none) gf6 _ _ hA11 (Nat.max_le.2 ⟨by omega,by simp⟩) (n:Int))
 rw [hsy.1] at ho12
 have hgone12:=fun {ops dst k T F Q}=>zD (ops:=ops) (dst:=dst) (l:=k) (T:=T) (F:=F) (Q:=Q) rfl hE12
 have hv121:=qH ho12
 have hln12:zL Tryz.prog S12 .len [22] [v12]=some (.val (.d (.int .i64 0)) S12 0):=kE Tryz.underlying22 ho12
 simp (maxSteps:=1000000) (disch:=first|assumption|omega|rfl) only [↓gp,gc,Nat.reduceAdd,hgone,bo44,hv91,bsI1,hintsR,bo39,jQ,Bool.not_true,hfree9,bo21,hwf,zP,hst10,bo24,hch10,bo25,hsync,bo52,hgone12,hv121,hln12,wS,bo17]
 exact zU rfl rfl rfl
end Go.Proofs.YtobgdmgldagjkaaGreat
end
section
namespace Go.Vm
open Go.ChangeShapes Go.RowKit
inductive Ty where
 | bool
 | int (k:IntKind)
 | str
 | sl (e:Ty)
 | agg (fs:List Ty)
 deriving Inhabited
def Ty.isAgg:Ty→Bool | .agg _=>true | _=>false
def Ty.cells:Ty→List Ty | .agg fs=>fs | .bool=>[.bool] | .int k=>[.int k] | .str=>[.str] | .sl e=>[.sl e]
def z0y (P:Program) (g:TypeId→Option Ty):List Field→Nat→Option (List Ty)
 | [],_=>some []
 | f::r,off=>match g f.type with
  | some x=>if f.offset=off∧P.cellsOf f.type=x.cells.length then match z0y P g r (off + x.cells.length) with
   | some l=>some (x.cells ++ l)
   | none=>none
   else none
  | none=>none
def ofType (P:Program):Nat→TypeId→Option Ty
 | 0,_=>none
 | n + 1,t=>match P.underlying t with
  | some .bool=>some .bool
  | some (.int k)=>some (.int k)
  | some .string=>some .str
  | some (.slice e)=>match ofType P n e with
   | some x=>if P.cellsOf e=x.cells.length∧x.cells.length ≠ 0 then some (.sl x) else none
   | none=>none
  | some (.struct fs)=>match z0y P (ofType P n) fs.toList 0 with
   | some l=>if P.cellsOf t=l.length then some (.agg l) else none
   | none=>none
  | some (.array m e)=>match ofType P n e with
   | some x=>if P.cellsOf e=x.cells.length∧P.cellsOf t=m * x.cells.length then some (.agg (List.replicate m x.cells).flatten) else none
   | none=>none
  | _=>none
mutual
def HasTy:Ty→D→Prop
 | .bool,x=>∃ b,x = .bool b
 | .int k,x=>∃ n,x = .int k n∧k.min ≤ n∧n ≤ k.max
 | .str,x=>∃ s,x = .str s∧s.length ≤ maxLen
 | .sl e,x=>∃ xs,x = .sl xs∧xs.length ≤ maxLen ∧ ∀ y ∈ xs,HasTy e y
 | .agg fs,x=>∃ xs,x = .agg xs∧HasL fs xs
def HasL:List Ty→List D→Prop
 | [],xs=>xs=[]
 | t::ts,xs=>∃ y r,xs=y::r∧HasTy t y∧HasL ts r
end
theorem zdd {t:Ty} {x:D} (h:HasTy t x):x.isAgg=t.isAgg:=by
 cases t <;> simp only [HasTy] at h <;> obtain ⟨_,rfl,_⟩:=h <;> rfl
theorem z41 : ∀ {ts us:List Ty} {xs ys:List D},HasL ts xs→HasL us ys→HasL (ts ++ us) (xs ++ ys)
 | [],us,xs,ys,h,h'=>by simp only [HasL] at h; subst h; exact h'
 | t::ts,us,xs,ys,h,h'=>by
  simp only [HasL] at h
  obtain ⟨y,r,rfl,h1,h2⟩:=h
  simp only [List.cons_append,HasL]
  exact ⟨y,r ++ ys,rfl,h1,z41 h2 h'⟩
theorem z8e {t:Ty} {x:D} (h:HasTy t x):HasL t.cells x.cells:=by
 cases t with
 | agg fs=>simp only [HasTy] at h; obtain ⟨xs,rfl,h⟩:=h; exact h
 | _ =>
  have h':=h
  simp only [HasTy] at h
  obtain ⟨_,rfl,_⟩:=h
  simp only [Ty.cells,D.cells,HasL]
  exact ⟨_,[],rfl,h',rfl⟩
section
variable {P:Program} {H:Type} {enc:TypeId × Value→H} {w:World}
theorem z9x {α β:Type} {f:α→Option β} {x:α} {r:List α} {ys:List β} (h:(x::r).mapM f=some ys) : ∃ y zs,f x=some y∧r.mapM f=some zs∧ys=y::zs:=by
 rw [List.mapM_cons] at h
 cases h1:f x with
 | none=>simp [h1] at h
 | some y =>
  cases h2:r.mapM f with
  | none=>simp [h1,h2] at h
  | some zs=>simp [h1,h2] at h; exact ⟨y,zs,rfl,rfl,h.symm⟩
theorem zb7 {α β:Type} {f:α→Option β} {ys:List β} (h:([]:List α).mapM f=some ys):ys=[]:=by simpa using h.symm
theorem cells?_spec {base:Nat} {a:Addr} {n:Nat} {us:List Value} (h:w.cells? base a n=some us):us.length=n ∧ ∀ j v,us[j]? = some v→w.cell? (a.add j)=some v:=by
 unfold World.cells? at h
 split at h
 ·have key : ∀ (m s:Nat) (us:List Value),(List.range' s m).mapM (fun i=>w.cell? (a.add i))=some us→us.length=m ∧ ∀ j v,us[j]? = some v→w.cell? (a.add (s + j))=some v:=by
   intro m
   induction m with
   | zero=>intro s us h; have:=zb7 h; subst this; exact ⟨rfl,fun j v h=>by simp at h⟩
   | succ m ih =>
    intro s us h
    rw [List.range'_succ] at h
    obtain ⟨y,zs,h1,h2,rfl⟩:=z9x h
    obtain ⟨g1,g2⟩:=ih (s + 1) zs h2
    refine ⟨by simp [g1],fun j v hj=>?_⟩
    cases j with
    | zero=>simp at hj; subst hj; exact h1
    | succ j=>simp at hj; have:=g2 j v hj; rw [show s + (j + 1)=s + 1 + j by omega]; exact this
  rw [List.range_eq_range'] at h
  obtain ⟨g1,g2⟩:=key n 0 us h
  exact ⟨g1,fun j v hj=>by simpa using g2 j v hj⟩
 ·cases h
theorem zi5 {a:Addr} {us:List Value} (hne:us ≠ []) (h : ∀ j v,us[j]? = some v→w.cell? (a.add j)=some v):a.spot=none∧a.block < w.heap.size∧CellsAt w a.block a.off us:=by
 have h0 : ∃ v,us[0]? = some v:=by cases us with | nil=>exact absurd rfl hne | cons x r=>exact ⟨x,rfl⟩
 obtain ⟨v,hv⟩:=h0
 have:=h 0 v hv
 rw [Addr.add_zero'] at this
 unfold World.cell? at this
 cases hb:w.heap[a.block]? with
 | none=>simp [hb] at this
 | some o =>
  cases o with
  | cells c e f =>
   simp only [hb] at this
   split at this
   ·cases this
   ·rename_i hs
    refine ⟨by simpa using hs,kF hb,c,e,f,hb,fun j v hj=>?_⟩
    have:=h j v hj
    unfold World.cell? at this
    have hbl:(a.add j).block=a.block:=by unfold Addr.add; split <;> rfl
    have hoff:(a.add j).off=a.off + j:=by unfold Addr.add; split <;> simp_all
    simp only [hbl,hb] at this
    split at this
    ·cases this
    ·rw [hoff] at this; exact this
  | _=>simp [hb] at this
theorem addr_add_add (a:Addr) (m n:Nat):(a.add m).add n=a.add (m + n):=by
 unfold Addr.add
 by_cases h:m=0 <;> by_cases h':n=0 <;> simp [h,h',Nat.add_assoc]
abbrev Old (w:World) (b:Nat):Prop:=b < w.heap.size
theorem z2b {A:Nat→Prop} : ∀ {xs ys:List D} {us vs:List Value},RepL A w xs us→RepL A w ys vs→RepL A w (xs ++ ys) (us ++ vs)
 | [],ys,us,vs,h,h'=>by simp only [RepL] at h; subst h; exact h'
 | x::r,ys,us,vs,h,h'=>by
  simp only [RepL] at h
  obtain ⟨v,us',rfl,h1,h2,h3⟩:=h
  simp only [List.cons_append,RepL]
  exact ⟨v,us' ++ vs,rfl,h1,h2,z2b h3 h'⟩
theorem zaq {base:Nat} {spare:Nat→Bool} {held:Bool} {g:TypeId→Option Ty} {cs:List Value} {fu:Nat} (ih : ∀ {t:TypeId} {cs:List Value} {z:DataW H × List MemPlace} {T:Ty},DataW.trod enc P w base spare held fu t cs=some z→g t=some T → ∃ x,HasTy T x∧RepC (Old w) w x cs) :
  ∀ {l:List Field} {off:Nat} {ts:List Ty},z0y P g l off=some ts→(∀ f ∈ l,∃ z,DataW.trod enc P w base spare held fu f.type ((cs.drop f.offset).take (P.cellsOf f.type))=some z) → ∃ xs,HasL ts xs∧RepL (Old w) w xs ((cs.drop off).take ts.length)
 | [],off,ts,h,_=>by
  simp only [z0y,Option.some.injEq] at h; subst h
  exact ⟨[],rfl,by simp [RepL]⟩
 | f::r,off,ts,h,hz=>by
  simp only [z0y] at h
  cases hg:g f.type with
  | none=>simp [hg] at h
  | some T =>
   simp only [hg] at h
   split at h
   ·rename_i hc
    obtain ⟨rfl,hc2⟩:=hc
    cases hr:z0y P g r (f.offset + T.cells.length) with
    | none=>simp [hr] at h
    | some l =>
     simp only [hr,Option.some.injEq] at h; subst h
     obtain ⟨z,hz1⟩:=hz f (by simp)
     obtain ⟨x,hx,hrx⟩:=ih hz1 hg
     obtain ⟨xs,h1,h2⟩:=zaq ih hr (fun f' hf'=>hz f' (by simp [hf']))
     refine ⟨x.cells ++ xs,z41 (z8e hx) h1,?_⟩
     have e:(cs.drop f.offset).take (T.cells ++ l).length=(cs.drop f.offset).take (P.cellsOf f.type) ++ (cs.drop (f.offset + T.cells.length)).take l.length:=by
      rw [List.length_append,List.take_add,hc2,List.drop_drop]
     rw [e]
     exact z2b (wT hrx) h2
   ·cases h
theorem zqe {base:Nat} {spare:Nat→Bool} {held:Bool} : ∀ (n:Nat) (fuel:Nat) {t:TypeId} {cs:List Value} {z:DataW H × List MemPlace} {T:Ty},DataW.trod enc P w base spare held fuel t cs=some z→ofType P n t=some T → ∃ x,HasTy T x∧RepC (Old w) w x cs:=by
 intro n
 induction n with
 | zero=>intro fuel t cs z T h hT; simp [ofType] at hT
 | succ n ih =>
  intro fuel t cs z T h hT
  simp only [ofType] at hT
  cases hu:P.underlying t with
  | none=>simp [hu] at hT
  | some td =>
   simp only [hu] at hT
   cases td with
   | bool =>
    simp only [Option.some.injEq] at hT; subst hT
    obtain ⟨b,rfl,_⟩:=DataW.trod_bool hu h
    exact ⟨.bool b,⟨b,rfl⟩,by simp [RepC]⟩
   | int k =>
    simp only [Option.some.injEq] at hT; subst hT
    obtain ⟨m,rfl,_,hwf⟩:=DataW.trod_int hu h
    exact ⟨.int k m,⟨m,rfl,by simpa [Lit.wf] using hwf⟩,by simp [RepC]⟩
   | string =>
    simp only [Option.some.injEq] at hT; subst hT
    obtain ⟨s,rfl,_,hl⟩:=DataW.trod_string hu h
    exact ⟨.str s.data.toList,⟨_,rfl,hl⟩,by simp [RepC]⟩
   | slice e =>
    simp only at hT
    cases he:ofType P n e with
    | none=>simp [he] at hT
    | some E =>
     simp only [he] at hT
     split at hT
     ·rename_i hc
      obtain ⟨hc,hne⟩:=hc
      simp only [Option.some.injEq] at hT; subst hT
      rcases Go.Deep.open_slice hu h with ⟨rfl,_⟩ | ⟨a,len,cap,m,fu,D0,Pl,rfl,_,hle,hcap,hm,_,hel⟩
      ·refine ⟨.sl [],⟨[],rfl,by simp,by simp⟩,?_⟩
       simp only [RepC]
       exact ⟨none,0,rfl,Nat.le_refl _,.inl trivial⟩
      ·have hlm:len ≤ m:=by rw [hm]; split <;> omega
       rw [hc] at hel
       have key : ∀ (l s:Nat),s + l ≤ m → ∃ xs us,xs.length=l∧us.length=l * E.cells.length∧(∀ y ∈ xs,HasTy E y)∧RepE (Old w) w E.cells.length xs us ∧ ∀ j v,us[j]? = some v→w.cell? (a.add (s * E.cells.length + j))=some v:=by
        intro l
        induction l with
        | zero=>intro s _; exact ⟨[],[],rfl,by simp,by simp,by simp [RepE],fun j v h=>by simp at h⟩
        | succ l ihl =>
         intro s hs
         obtain ⟨cs',g1,g2⟩:=hel s (by omega)
         obtain ⟨x,hx,hr⟩:=ih fu g2 he
         obtain ⟨k1,k2⟩:=cells?_spec g1
         obtain ⟨xs,us,f1,f2,f3,f4,f5⟩:=ihl (s + 1) (by omega)
         refine ⟨x::xs,cs' ++ us,by simp [f1],by simp [k1,f2,Nat.succ_mul]; omega,fun y hy=>?_,?_,fun j v hj=>?_⟩
         ·rcases List.mem_cons.1 hy with rfl | hy
          ·exact hx
          ·exact f3 y hy
         ·simp only [RepE]
          exact ⟨cs',us,rfl,k1,hr,f4⟩
         ·rw [List.getElem?_append] at hj
          split at hj
          ·have:=k2 j v hj
           rwa [addr_add_add] at this
          ·rename_i hlt
           have:=f5 _ v hj
           rw [show s * E.cells.length + j=(s + 1) * E.cells.length + (j - cs'.length) by rw [Nat.succ_mul]; omega]
           exact this
       obtain ⟨xs,us,f1,f2,f3,f4,f5⟩:=key len 0 (by omega)
       refine ⟨.sl xs,⟨xs,rfl,by omega,f3⟩,?_⟩
       simp only [RepC]
       refine ⟨some a,cap,by rw [f1],by omega,?_⟩
       by_cases h0:xs=[]
       ·exact .inl h0
       ·right
        have hne':us ≠ []:=by
         intro hn
         rw [hn] at f2
         simp only [List.length_nil] at f2
         have:len ≠ 0:=by
          intro h00; rw [h00] at f1; exact h0 (List.length_eq_zero_iff.1 f1)
         have:=Nat.mul_ne_zero this hne
         omega
        obtain ⟨c1,c2,c3⟩:=zi5 hne' (fun j v hj=>by simpa using f5 j v hj)
        exact ⟨a,_,us,rfl,c1,c2,c3,f4⟩
     ·cases hT
   | struct fs =>
    simp only at hT
    cases hf:z0y P (ofType P n) fs.toList 0 with
    | none=>simp [hf] at hT
    | some l =>
     simp only [hf] at hT
     split at hT
     ·rename_i hc
      simp only [Option.some.injEq] at hT; subst hT
      obtain ⟨xs,fu,_,_,hl,hxl,hel⟩:=DataW.trod_struct hu h
      obtain ⟨ys,h1,h2⟩:=zaq (fun a b=>ih fu a b) hf (fun f hf'=>by
       obtain ⟨i,hi⟩:=List.getElem?_of_mem hf'
       have hi':fs[i]? = some f:=by simpa using hi
       have:=hel i f hi'
       have hlt:i < xs.length:=by
        rw [hxl]
        rcases Nat.lt_or_ge i fs.size with h' | h'
        ·exact h'
        ·simp [h'] at hi'
       exact ⟨xs[i],by rw [this]; simp [hlt]⟩)
      refine ⟨.agg ys,⟨ys,rfl,h1⟩,?_⟩
      simp only [RepC]
      rw [List.drop_zero,List.take_of_length_le (by omega)] at h2
      exact h2
     ·cases hT
   | array m e =>
    simp only at hT
    cases he:ofType P n e with
    | none=>simp [he] at hT
    | some E =>
     simp only [he] at hT
     split at hT
     ·rename_i hc
      obtain ⟨hc,hc2⟩:=hc
      simp only [Option.some.injEq] at hT; subst hT
      obtain ⟨xs,fu,_,_,hl,hxl,hel⟩:=DataW.trod_array hu h
      rw [hc] at hel
      have key : ∀ (l s:Nat),s + l ≤ m → ∃ ys,HasL (List.replicate l E.cells).flatten ys∧RepL (Old w) w ys ((cs.drop (s * E.cells.length)).take (l * E.cells.length)):=by
       intro l
       induction l with
       | zero=>intro s _; exact ⟨[],by simp [HasL],by simp [RepL]⟩
       | succ l ihl =>
        intro s hs
        have hlt:s < xs.length:=by omega
        have h0:=hel s (by omega)
        rw [List.getElem?_eq_getElem hlt] at h0
        obtain ⟨x,hx,hr⟩:=ih fu h0 he
        obtain ⟨ys,f1,f2⟩:=ihl (s + 1) (by omega)
        refine ⟨x.cells ++ ys,by rw [List.replicate_succ,List.flatten_cons]; exact z41 (z8e hx) f1,?_⟩
        have e:(cs.drop (s * E.cells.length)).take ((l + 1) * E.cells.length)=(cs.drop (s * E.cells.length)).take E.cells.length ++ (cs.drop ((s + 1) * E.cells.length)).take (l * E.cells.length):=by
         rw [Nat.succ_mul,Nat.add_comm (l * _),List.take_add,List.drop_drop,Nat.succ_mul]
        rw [e]
        exact z2b (wT hr) f2
      obtain ⟨ys,f1,f2⟩:=key m 0 (by omega)
      refine ⟨.agg ys,⟨ys,rfl,f1⟩,?_⟩
      simp only [RepC]
      rw [Nat.zero_mul,List.drop_zero,List.take_of_length_le (by omega)] at f2
      exact f2
     ·cases hT
   | _=>simp at hT
def zlx (P:Program) (n:Nat):List TypeId→Option (List Ty):=allO (ofType P n)
theorem zht {r:Reach} {base:Nat} {t:TypeId} {v:Value} {n:Nat} {T:Ty} (hT:ofType P n t=some T) (hok:Value.okWide P w r base t v):(T.isAgg=true ∧ ∃ us,v = .agg us) ∨ (T.isAgg=false∧v.cells = #[v]):=by
 cases n with
 | zero=>simp [ofType] at hT
 | succ n =>
  simp only [ofType] at hT
  unfold Value.okWide at hok
  cases hu:P.underlying t with
  | none=>simp [hu] at hT
  | some td =>
   simp only [hu] at hT hok
   cases td with
   | bool =>
    simp only [Option.some.injEq] at hT; subst hT
    refine .inr ⟨rfl,?_⟩
    simp only [Cell.okWide,hu] at hok
    cases v <;> simp_all [Cell.ok,Value.cells]
   | int k =>
    simp only [Option.some.injEq] at hT; subst hT
    refine .inr ⟨rfl,?_⟩
    simp only [Cell.okWide,hu] at hok
    cases v <;> simp_all [Cell.ok,Value.cells]
   | string =>
    simp only [Option.some.injEq] at hT; subst hT
    refine .inr ⟨rfl,?_⟩
    simp only [Cell.okWide,hu] at hok
    cases v <;> simp_all [Cell.ok,Value.cells]
   | slice e =>
    simp only at hT
    cases he:ofType P n e with
    | none=>simp [he] at hT
    | some E =>
     simp only [he] at hT
     split at hT
     ·simp only [Option.some.injEq] at hT; subst hT
      refine .inr ⟨rfl,?_⟩
      simp only [Cell.okWide,hu] at hok
      cases v <;> simp_all [Cell.ok,Value.cells]
     ·cases hT
   | struct fs =>
    simp only at hT
    cases hf:z0y P (ofType P n) fs.toList 0 with
    | none=>simp [hf] at hT
    | some l =>
     simp only [hf] at hT
     split at hT
     ·simp only [Option.some.injEq] at hT; subst hT
      obtain ⟨cs,h,_⟩:=hok
      exact .inl ⟨rfl,cs,h⟩
     ·cases hT
   | array m e =>
    simp only at hT
    cases he:ofType P n e with
    | none=>simp [he] at hT
    | some E =>
     simp only [he] at hT
     split at hT
     ·simp only [Option.some.injEq] at hT; subst hT
      obtain ⟨cs,h,_⟩:=hok
      exact .inl ⟨rfl,cs,h⟩
     ·cases hT
   | _=>simp at hT
theorem open_all {base:Nat} {spare:Nat→Bool} {held:Bool} {r:Reach} {b0:Nat} {n:Nat} : ∀ {ts:List TypeId} {vs:List Value} {ds:List (DataW H)} {ps:List MemPlace} {Ts:List Ty},DataW.TrodAll enc P w base spare held ts vs ds ps→zlx P n ts=some Ts →
  (∀ (j:Nat) t v,ts[j]? = some t→vs[j]? = some v→Value.okWide P w r b0 t v) → ∃ xs,HasL Ts xs∧RepS (Old w) w xs vs
 | [],vs,ds,ps,Ts,h,hT,_=>by
  simp only [zlx,allO,Option.some.injEq] at hT; subst hT
  cases vs with
  | nil=>exact ⟨[],rfl,by simp [RepS]⟩
  | cons v vs=>cases ds <;> simp [DataW.TrodAll] at h
 | t::ts,vs,ds,ps,Ts,h,hT,hok=>by
  obtain ⟨T,Ts',h1,h2,rfl⟩:=wY hT
  cases vs with
  | nil=>simp [DataW.TrodAll] at h
  | cons v vs =>
   cases ds with
   | nil=>simp [DataW.TrodAll] at h
   | cons d ds =>
    obtain ⟨p,q,⟨fu,hd⟩,hr,rfl⟩:=h
    obtain ⟨x,hx,hrx⟩:=zqe n fu hd h1
    obtain ⟨xs,g1,g2⟩:=open_all hr h2 (fun j t v hj hv=>hok (j + 1) t v (by simpa using hj) (by simpa using hv))
    refine ⟨x::xs,by simp only [HasL]; exact ⟨x,xs,rfl,hx,g1⟩,?_⟩
    simp only [RepS]
    refine ⟨v,vs,rfl,?_,g2⟩
    rcases zht h1 (hok 0 t v (by simp) (by simp)) with ⟨e1,us,rfl⟩ | ⟨e1,e2⟩
    ·exact .inl ⟨by rw [zdd hx,e1],us,rfl,by simpa [Value.cells] using hrx⟩
    ·exact .inr ⟨by rw [zdd hx,e1],by rw [e2] at hrx; simpa using hrx⟩
theorem trodAll_len {base:Nat} {spare:Nat→Bool} {held:Bool} : ∀ {ts:List TypeId} {vs:List Value} {ds:List (DataW H)} {ps:List MemPlace},DataW.TrodAll enc P w base spare held ts vs ds ps→ds.length=ts.length
 | [],vs,ds,ps,h=>by
  cases vs <;> cases ds <;> simp_all [DataW.TrodAll]
 | t::ts,vs,ds,ps,h=>by
  cases vs with
  | nil=>simp [DataW.TrodAll] at h
  | cons v vs =>
   cases ds with
   | nil=>simp [DataW.TrodAll] at h
   | cons d ds =>
    obtain ⟨p,q,_,hr,rfl⟩:=h
    simp [trodAll_len hr]
theorem trodVars_nil {T:List String} {gs:List (DataW H)} {q:List MemPlace} {own:Nat→Bool} (hT:T=[]) (h:DataW.TrodVars enc P w own T gs q):gs=[]:=by
 subst hT
 cases gs with
 | nil=>rfl
 | cons g gs=>simp [DataW.TrodVars] at h
theorem ze5 {W W':World} (hl:laidOutB P=true) (hb:Below W.heap.size W W') : ∀ {ts:List TypeId} {vs:List Value} {ds:List (DataW H)} {ps:List MemPlace},(ts.all fun t=>P.readableRec t && decide (t < P.types.size))=true→DataW.TrodAll enc P W 0 (fun _=>true) true ts vs ds ps→(∀ x ∈ ps,x.block < W.heap.size)→DataW.TrodAll enc P W' 0 (fun b=>decide (b < W.heap.size)) true ts vs ds ps
 | [],vs,ds,ps,_,h,_=>by
  cases vs <;> cases ds <;> simp_all [DataW.TrodAll]
 | t::ts,vs,ds,ps,hr,h,hlt=>by
  simp only [List.all_cons,Bool.and_eq_true,decide_eq_true_eq] at hr
  cases vs with
  | nil=>simp [DataW.TrodAll] at h
  | cons v vs =>
   cases ds with
   | nil=>simp [DataW.TrodAll] at h
   | cons d ds =>
    obtain ⟨p,q,hd,hrest,rfl⟩:=h
    exact ⟨p,q,Below.trod hl hr.1.1 hr.1.2 hd hb (fun x hx=>hlt x (by simp [hx])),ze5 hl hb (by simpa using hr.2) hrest (fun x hx=>hlt x (by simp [hx])),rfl⟩
theorem law_post {f:Func} {s:ChangeSpec} {apart:Bool} {W W':World} {args:Array Value} {ds gs:List (DataW H)} {before:List MemPlace} {t:TypeId} (hl:laidOutB P=true) (hread:(f.params.toList.all fun t=>P.readableRec t && decide (t < P.types.size))=true)
  (hW:DataW.Whole enc P f.params.toList s.vars apart W args.toList ds gs before) (hv:s.vars=[]) (hres:f.resultTypes = #[t]) (hu:P.underlying t=some .bool)
  (hfn:s.fn H (ds ++ gs)={ results:=[.lit (.bool true)],args:=ds }) (hb:Below W.heap.size W W'):s.post enc P f apart true false false W args (.bool true) W':=by
 have hlt : ∀ x ∈ before,x.block < W.heap.size:=fun x hx=>by simpa using hW.lt x hx
 have hW0:=hW
 obtain ⟨p,q,hA,hV,rfl,hz,hn⟩:=hW
 refine ⟨ds,gs,p ++ q,[],p,q,hW0,?_,?_,?_,hb.frame _,fun h=>by cases h⟩
 ·rw [hfn,hres]
  exact trodAll_mk1 (shut_bool hu true)
 ·rw [hfn]
  exact ze5 hl hb hread hA (fun x hx=>hlt x (by simp [hx]))
 ·rw [hfn]
  rw [hv] at hV ⊢
  cases gs with
  | nil=>exact hV
  | cons g gs=>simp [DataW.TrodVars] at hV
theorem law_calls {C:Cfg} (hext:z6h C) (hcatch:zbi C) {n:Nat} {f:FuncId} {xs:List D} {args:Array Value} {W:World} (hrun:runD C n f xs=some (.ret (.d (.bool true)))) (hr:RepS (Old W) W xs args.toList) (hgl:GlobOk C.P (Old W) W) :
  Calls C.P f args W fun e W'=>e = .returned (.bool true)∧Below W.heap.size W W':=by
 obtain ⟨o',ho,hcalls⟩:=zwc hext hcatch n f xs _ hrun
 have ho':o' = .ret (.bool true):=by
  cases o' with
  | ret x=>simp only [OutD.out,Out.ret.injEq,V.d.injEq] at ho; rw [ho]
  | tup xs=>simp [OutD.out] at ho
  | pan x=>simp [OutD.out] at ho
 subst ho'
 refine (hcalls (Old W) W args (fun b hb=>hb) hgl hr).mono fun e W' he=>?_
 cases e with
 | returned v =>
  obtain ⟨A',h1,h2⟩:=he
  have h2:=(zH rfl).1 h2
  simp only [RepC,List.cons.injEq,and_true] at h2
  exact ⟨by rw [h2],h1.os,h1.tape,h1.output,h1.size,h1.old⟩
 | panicked c=>obtain ⟨x,v,h,_⟩:=he; cases h
 | outgrown=>exact he.elim
end
end Go.Vm
end
