/- The document's With: bits of any block, one of them turned. -/
import Derived.ProofKit
import Derived.Deep.Slices
import Derived.OpenShut
import Derived.Test.YtobgdmgldagjkaaGreatT10
set_option linter.unusedVariables false
set_option linter.unusedSimpArgs false
set_option maxRecDepth 100000
set_option maxHeartbeats 4000000
set_option linter.defProp false
section
namespace Go.Proofs.YtobgdmgldagjkaaGreat
open Go.Vm
theorem zdc : ∀ x:Fin 256,x.val=(if (UInt8.ofNat x.val &&& bitU 0) != 0 then 1 else 0) + (if (UInt8.ofNat x.val &&& bitU 1) != 0 then 2 else 0) + (if (UInt8.ofNat x.val &&& bitU 2) != 0 then 4 else 0) + (if (UInt8.ofNat x.val &&& bitU 3) != 0 then 8 else 0) + (if (UInt8.ofNat x.val &&& bitU 4) != 0 then 16 else 0) + (if (UInt8.ofNat x.val &&& bitU 5) != 0 then 32 else 0) + (if (UInt8.ofNat x.val &&& bitU 6) != 0 then 64 else 0) + (if (UInt8.ofNat x.val &&& bitU 7) != 0 then 128 else 0):=by decide +kernel
theorem zpq {x y:UInt8} (h : ∀ k,k < 8→((x &&& bitU k) != 0)=((y &&& bitU k) != 0)):x=y:=by
 have hx:=zdc ⟨x.toNat,UInt8.toNat_lt _⟩
 have hy:=zdc ⟨y.toNat,UInt8.toNat_lt _⟩
 simp only [UInt8.ofNat_toNat] at hx hy
 rw [h 0 (by omega),h 1 (by omega),h 2 (by omega),h 3 (by omega),h 4 (by omega),h 5 (by omega),h 6 (by omega),h 7 (by omega),← hy] at hx
 exact UInt8.toNat_inj.1 hx
theorem zo8 {a b:List UInt8} (ha:a.length=256) (hb:b.length=256) (h : ∀ j,j < 2048→hasB a j=hasB b j):a=b:=by
 apply List.ext_getElem (by omega)
 intro i h1 h2
 apply zpq
 intro k hk
 have:=h (8 * i + k) (by omega)
 unfold hasB at this
 have e1:(8 * i + k) / 8=i:=by omega
 have e2:(8 * i + k) % 8=k:=by omega
 rw [e1,e2,List.getD_eq_getElem?_getD,List.getElem?_eq_getElem h1,List.getD_eq_getElem?_getD,List.getElem?_eq_getElem h2] at this
 exact this
theorem zsk : ∀ (x:Fin 256) (k:Fin 8),((UInt8.ofNat x.val &&& bitU k.val) != 0)=false→UInt8.ofNat x.val + bitU k.val=UInt8.ofNat x.val ||| bitU k.val:=by decide +kernel
def addL (d:List Bool):Nat→List UInt8
 | 0=>zT 256
 | i + 1=>if d.getD i false then vB (addL d i) i true else addL d i
theorem z3o {d:List Bool} : ∀ {i:Nat},(addL d i).length=256
 | 0=>rfl
 | i + 1=>by
  unfold addL
  split
  ·rw [z1m,z3o]
  ·exact z3o
theorem zbf {d:List Bool} {j:Nat} : ∀ {i:Nat},i ≤ 2048→hasB (addL d i) j=(decide (j < i) && d.getD j false)
 | 0,_=>by
  unfold addL hasB
  have h:(zT 256).getD (j / 8) 0=0:=by
   unfold zT
   rw [List.getD_eq_getElem?_getD,List.getElem?_replicate]
   split <;> rfl
  rw [h]
  simp
 | i + 1,h=>by
  unfold addL
  have ih:=zbf (d:=d) (j:=j) (i:=i) (by omega)
  by_cases hd:d.getD i false=true
  ·rw [if_pos hd,zgv z3o (by omega),ih]
   by_cases hj:j=i
   ·subst hj; rw [if_pos rfl,hd]; simp
   ·rw [if_neg hj]
    congr 1
    exact decide_eq_decide.2 (by omega)
  ·rw [if_neg hd,ih]
   by_cases hj:j=i
   ·subst hj
    have hd2:d.getD j false=false:=by simpa using hd
    rw [hd2,Bool.and_false,Bool.and_false]
   ·congr 1
    exact decide_eq_decide.2 (by omega)
def zex (b:List UInt8):List Bool:=(List.range 2048).map (hasB b)
theorem z4q {b:List UInt8}:(zex b).length=2048:=by unfold zex; simp
theorem zjp {b:List UInt8} (hb:b.length=256) {n:Nat} (hn:n < 2048) (on:Bool):addL ((zex b).set n on) 2048=vB b n on:=by
 apply zo8 z3o (by rw [z1m]; exact hb)
 intro j hj
 rw [zbf (Nat.le_refl _),zgv hb hn,decide_eq_true hj,Bool.true_and,List.getD_eq_getElem?_getD,List.getElem?_set]
 by_cases h:n=j
 ·subst h
  rw [if_pos rfl,if_pos (by rw [z4q]; omega),if_pos rfl,Option.getD_some]
 ·rw [if_neg h,if_neg (Ne.symm h),List.getElem?_eq_getElem (by rw [z4q]; omega),Option.getD_some]
  simp [zex]
theorem q1b (d:List Bool) (hd:d.length=2048) (R:Post) : ∀ (k i:Nat) (g1 g2 g5 g6 g7 g8 g9 gM gE gC gF gB gA gD gH gK gI gJ gN gL gG gO gP gR gQ gU gS gT gV gW gX gY gZ gh gj gk gn gr gz:V),2048 - i=k→i ≤ 2048 →
 (∀ i' g1 g2 g5 g6 g7 g8 g9 gM gE gC gF gB gA gD gH gK gI gJ gN gL gG gO gP gR gQ gU gS gT gV gW gX gY gZ gh gj gk gn gr gz,R (.exit 0) ((.d (encZ d))::g1::g2::(.rs 0 0 256)::i'::g5::g6::g7::g8::g9::gM::gE::gC::gF::gB::gA::gD::gH::gK::gI::gJ::gN::gL::gG::gO::gP::gR::gQ::gU::gS::gT::gV::gW::gX::gY::gZ::gh::gj::gk::gn::gr::gz::[]) [rowY (addL d 2048)] []) →
 Wp cfg (.loop (lpOf (Tryz.f133.body.getD .skip) 0)) ((.d (encZ d))::g1::g2::(.rs 0 0 256)::(.d (.int .i64 (i:Int)))::g5::g6::g7::g8::g9::gM::gE::gC::gF::gB::gA::gD::gH::gK::gI::gJ::gN::gL::gG::gO::gP::gR::gQ::gU::gS::gT::gV::gW::gX::gY::gZ::gh::gj::gk::gn::gr::gz::[]) [rowY (addL d i)] [] R:=by
 intro k
 have hln : ∀ S:zA,zJ Tryz.prog S .len [190] [.d (encZ d)]=some (.val (.d (.int .i64 2048)) S 0):=fun S=>by rw [encZ,zr7,List.length_map,hd]; rfl
 induction k with
 | zero =>
  intro i g1 g2 g5 g6 g7 g8 g9 gM gE gC gF gB gA gD gH gK gI gJ gN gL gG gO gP gR gQ gU gS gT gV gW gX gY gZ gh gj gk gn gr gz hk hi hR
  have hie:i=2048:=by omega
  subst hie
  rw [zO]
  refine zK ?_
  conv=>arg 2; whnf
  simp (maxSteps:=1000000) (disch:=first|assumption|omega|rfl) only [↓gp,gc,Nat.reduceAdd,hln]
  exact hR _ _ _ _ _ _ _ _ _ _ _ _ _ _ _ _ _ _ _ _ _ _ _ _ _ _ _ _ _ _ _ _ _ _ _ _ _ _ _ _
 | succ k ih =>
  intro i g1 g2 g5 g6 g7 g8 g9 gM gE gC gF gB gA gD gH gK gI gJ gN gL gG gO gP gR gQ gU gS gT gV gW gX gY gZ gh gj gk gn gr gz hk hi hR
  have hlt:i < 2048:=by omega
  have h3:IntKind.i64.wrap ((i:Int) + 1)=((i + 1:Nat):Int):=by rw [wrap64 (by omega)]; omega
  have hix:=fun S=>ixZ (S:=S) (l:=d) (i:=i) (by omega)
  have hgd:d.getD i false=d[i]'(by omega):=by rw [List.getD_eq_getElem?_getD,List.getElem?_eq_getElem (by omega),Option.getD_some]
  have hsu:addL d (i + 1)=if d[i]'(by omega) then vB (addL d i) i true else addL d i:=by rw [← hgd]; rfl
  rw [zO]
  refine zK ?_
  conv=>arg 2; whnf
  cases hin:d[i]'(by omega) with
  | true =>
   rw [hin] at hix hsu
   rw [if_pos rfl] at hsu
   simp (maxSteps:=1000000) (disch:=first|assumption|omega|rfl) only [↓gp,gc,Nat.reduceAdd,hln,hix]
   refine zx7 (i % 8) _ _ _ _ i rfl _ 0 _ _ _ _ _ _ _ _ _ _ _ _ _ _ _ _ _ _ _ _ _ _ _ _ _ _ _ _ _ _ _ _ _ _ _ _ _ rfl (Nat.zero_le _) ?_
   intro j' g1 g2 g7 g8 g9 gM gE gC gF gB gA gD gH gK gI gJ gN gL gG gO gP gR gQ gU gS gT gV gW gX gY gZ gh gj gk gn gr gz
   have hll:=z3o (d:=d) (i:=i)
   have hq:=quon (i:=i) (by omega)
   have hS:([rowY (addL d i)]:zA)[0]? = some (rowY (addL d i)):=rfl
   have hiy:=ixY (n:=256) (i:=i / 8) hS (by omega)
   have hrw:=zjo (i:=i / 8) hS (by rw [hll]; omega)
   have hc5:=fun S=>cv35 (S:=S) (n:=2 ^ (i % 8))
   have hpt:=zuy (i:=i / 8) hS (x:=(addL d i)[i / 8]'(by rw [hll]; omega) + UInt8.ofNat (2 ^ (i % 8) % 256))
   have hset:(addL d i).set (i / 8) ((addL d i)[i / 8]'(by rw [hll]; omega) + UInt8.ofNat (2 ^ (i % 8) % 256))=addL d (i + 1):=by
    rw [hsu]
    have hp:2 ^ (i % 8) < 256:=Nat.pow_lt_pow_right (m:=i % 8) (n:=8) (by decide) (by omega)
    have h0:=zbf (d:=d) (j:=i) (i:=i) (by omega)
    rw [decide_eq_false (Nat.lt_irrefl _),Bool.false_and] at h0
    have hg:(addL d i).getD (i / 8) 0=(addL d i)[i / 8]'(by rw [hll]; omega):=by rw [List.getD_eq_getElem?_getD,List.getElem?_eq_getElem (by rw [hll]; omega),Option.getD_some]
    unfold hasB at h0
    rw [hg] at h0
    have hb:=zsk ⟨((addL d i)[i / 8]'(by rw [hll]; omega)).toNat,UInt8.toNat_lt _⟩ ⟨i % 8,by omega⟩
    simp only [UInt8.ofNat_toNat] at hb
    unfold vB setB
    rw [hg,if_pos rfl,Nat.mod_eq_of_lt hp]
    congr 1
    exact hb h0
   rw [hset] at hpt
   have hpt:jF [rowY (addL d i)] 0 (i / 8) (.d (.int .u8 (((addL d i)[i / 8]'(by rw [hll]; omega) + UInt8.ofNat (2 ^ (i % 8) % 256)).toNat:Int)))=some [rowY (addL d (i + 1))]:=hpt
   have hadd:=q4k (x:=(addL d i)[i / 8]'(by rw [hll]; omega)) (y:=UInt8.ofNat (2 ^ (i % 8) % 256))
   simp (maxSteps:=1000000) (disch:=first|assumption|omega|rfl) only [↓gp,gc,Nat.reduceAdd,hq,hiy,hrw,hc5,hadd,st5,ldr5,hpt,h3]
   exact ih (i + 1) _ _ _ _ _ _ _ _ _ _ _ _ _ _ _ _ _ _ _ _ _ _ _ _ _ _ _ _ _ _ _ _ _ _ _ _ _ _ _ (by omega) (by omega) hR
  | false =>
   rw [hin] at hix hsu
   rw [if_neg Bool.false_ne_true] at hsu
   simp (maxSteps:=1000000) (disch:=first|assumption|omega|rfl) only [↓gp,gc,Nat.reduceAdd,hln,hix,h3]
   rw [← hsu]
   exact ih (i + 1) _ _ _ _ _ _ _ _ _ _ _ _ _ _ _ _ _ _ _ _ _ _ _ _ _ _ _ _ _ _ _ _ _ _ _ _ _ _ _ (by omega) (by omega) hR
theorem zsi (d:List Bool) (hd:d.length=2048):Ev cfg 133 [encZ d] (.ret (.d (encB (addL d 2048)))):=by
 refine jW rfl rfl zwi ?_
 show Wp cfg (Tryz.f133.body.getD .skip) ((.d (encZ d))::uZ (uZ (uZ (uZ ((.tup [])::[]))))) [] [] _
 unfold uZ
 conv=>arg 2; whnf
 have hln : ∀ S:zA,zJ Tryz.prog S .len [190] [.d (encZ d)]=some (.val (.d (.int .i64 2048)) S 0):=fun S=>by rw [encZ,zr7,List.length_map,hd]; rfl
 have hq:=quon (i:=2048) (by omega)
 simp only [zrg,show 2048 / 8=256 from rfl,zct] at hq
 have hmk:=fun S=>mk40 (S:=S) (n:=256) (by omega)
 simp only [zct] at hmk
 simp (maxSteps:=1000000) (disch:=first|assumption|omega|rfl) only [↓gp,gc,Nat.reduceAdd,hln,hq,hmk]
 refine q1b d hd _ 2048 0 _ _ _ _ _ _ _ _ _ _ _ _ _ _ _ _ _ _ _ _ _ _ _ _ _ _ _ _ _ _ _ _ _ _ _ _ _ _ _ rfl (Nat.zero_le _) ?_
 intro i' g1 g2 g5 g6 g7 g8 g9 gM gE gC gF gB gA gD gH gK gI gJ gN gL gG gO gP gR gQ gU gS gT gV gW gX gY gZ gh gj gk gn gr gz
 simp (maxSteps:=1000000) (disch:=first|assumption|omega|rfl) only [↓gp,gc,Nat.reduceAdd]
 exact zQ rfl rfl (zpm rfl (z3o (d:=d) (i:=2048)).symm)
theorem zsc (a:List UInt8) (hl:a.length ≤ 1000) (R:Post) : ∀ (k i:Nat) (g2 g3 g4 g6 g7 g8 g9 gM gE gC gF gB gA gD gH gK gI gJ gN gL gG gO gP:V),a.length - i=k→i ≤ a.length →
 (∀ i' g2 g3 g4 g6 g7 g8 g9 gM gE gC gF gB gA gD gH gK gI gJ gN gL gG gO gP,R (.exit 0) ((.d (encB a))::(.d (encB a))::g2::g3::g4::i'::g6::g7::g8::g9::gM::gE::gC::gF::gB::gA::gD::gH::gK::gI::gJ::gN::gL::gG::gO::gP::[]) [] []) →
 Wp cfg (.loop (lpOf (Tryz.f95.body.getD .skip) 0)) ((.d (encB a))::(.d (encB a))::g2::g3::g4::(.d (.int .i64 (i:Int)))::g6::g7::g8::g9::gM::gE::gC::gF::gB::gA::gD::gH::gK::gI::gJ::gN::gL::gG::gO::gP::[]) [] [] R:=by
 intro k
 have hln:=fun S=>lnBz (S:=S) (l:=a)
 induction k with
 | zero =>
  intro i g2 g3 g4 g6 g7 g8 g9 gM gE gC gF gB gA gD gH gK gI gJ gN gL gG gO gP hk hi hR
  have hie:i=a.length:=by omega
  subst hie
  rw [zO]
  refine zK ?_
  conv=>arg 2; whnf
  simp (maxSteps:=1000000) (disch:=first|assumption|omega|rfl) only [↓gp,gc,Nat.reduceAdd,hln]
  exact hR _ _ _ _ _ _ _ _ _ _ _ _ _ _ _ _ _ _ _ _ _ _ _ _
 | succ k ih =>
  intro i g2 g3 g4 g6 g7 g8 g9 gM gE gC gF gB gA gD gH gK gI gJ gN gL gG gO gP hk hi hR
  have hlt:i < a.length:=by omega
  have h3:IntKind.i64.wrap ((i:Int) + 1)=((i + 1:Nat):Int):=by rw [wrap64 (by omega)]; omega
  have hix:=fun S=>ixBz (S:=S) hlt
  have hnq : ∀ i':Decidable (((a[i].toNat:Nat):Int) ≠ ((a[i].toNat:Nat):Int)),@decide _ i'=false:=fun i'=>decide_eq_false (fun h=>h rfl)
  rw [zO]
  refine zK ?_
  conv=>arg 2; whnf
  simp (maxSteps:=1000000) (disch:=first|assumption|omega|rfl) only [↓gp,gc,Nat.reduceAdd,hln]
  refine vC (is:=[0,1,2,3,4,5,6,7,8]) (h:=0) (by kernel_rfl) (by kernel_rfl) ?_
  simp (maxSteps:=1000000) (disch:=first|assumption|omega|rfl) only [List.replicate_zero,eq_self,gd,ga,Nat.reduceAdd,↓gq,vso,hix,ldU5]
  refine ⟨by kernel_rfl,?_⟩
  simp (maxSteps:=1000000) (disch:=first|assumption|omega|rfl) only [↓gp,gc,Nat.reduceAdd,hnq,h3]
  exact ih (i + 1) _ _ _ _ _ _ _ _ _ _ _ _ _ _ _ _ _ _ _ _ _ _ _ (by omega) (by omega) hR
theorem zty (a:List UInt8) (hl:a.length ≤ 1000):Ev cfg 95 [encB a,encB a] (.ret (.d (.bool true))):=by
 refine jW rfl rfl zxp ?_
 show Wp cfg (Tryz.f95.body.getD .skip) ((.d (encB a))::(.d (encB a))::uZ (uZ ((.tup [])::(.tup [])::(.tup [])::(.tup [])::[]))) [] [] _
 unfold uZ
 conv=>arg 2; whnf
 have hln:=fun S=>lnBz (S:=S) (l:=a)
 have hnq : ∀ i':Decidable (((a.length:Nat):Int) ≠ ((a.length:Nat):Int)),@decide _ i'=false:=fun i'=>decide_eq_false (fun h=>h rfl)
 simp (maxSteps:=1000000) (disch:=first|assumption|omega|rfl) only [↓gp,gc,Nat.reduceAdd,hln,hnq]
 refine zsc a hl _ a.length 0 _ _ _ _ _ _ _ _ _ _ _ _ _ _ _ _ _ _ _ _ _ _ _ rfl (Nat.zero_le _) ?_
 intro i' g2 g3 g4 g6 g7 g8 g9 gM gE gC gF gB gA gD gH gK gI gJ gN gL gG gO gP
 simp (maxSteps:=1000000) (disch:=first|assumption|omega|rfl) only [↓gp,gc,Nat.reduceAdd]
 exact zQ rfl rfl rfl
def z9s (b:List UInt8) (n:Nat):List Bool:=(List.range n).map (hasB b)
theorem zis {b:List UInt8} {n:Nat}:z9s b (n + 1)=z9s b n ++ [hasB b n]:=by unfold z9s; rw [List.range_succ,List.map_append]; rfl
theorem z82 {b:List UInt8} {n:Nat}:(z9s b n).length=n:=by unfold z9s; simp
theorem ztk (b:List UInt8) (hb:b.length=256) (i0:Nat) (hi0:i0 < 256) (S0:zA) (x0:V) (R:Post) : ∀ (k i:Nat) (S:zA) (v3:V) (g1 g2 g7 g8 g9 gM gE gC gF gB gA gD gH gK gI gJ gN gL gG gO gP gR gQ gU gS gT:V),8 - i=k→i ≤ 8→Keep S0 S→(∀ j,j < S0.length→NotAt v3 j)→OwnS S v3 4 ((z9s b (8 * i0 + i)).map fun x=>.d (D.bool x)) →
 (∀ S v3 x' i' g1 g2 g7 g8 g9 gM gE gC gF gB gA gD gH gK gI gJ gN gL gG gO gP gR gQ gU gS gT,Keep S0 S→(∀ j,j < S0.length→NotAt v3 j)→OwnS S v3 4 ((z9s b (8 * (i0 + 1))).map fun x=>.d (D.bool x))→R (.exit 2) (x0::g1::g2::v3::(.d (.int .i64 (i0:Int)))::x'::i'::g7::g8::g9::gM::gE::gC::gF::gB::gA::gD::gH::gK::gI::gJ::gN::gL::gG::gO::gP::gR::gQ::gU::gS::gT::[]) S []) →
 Wp cfg (.loop (lpOf (Tryz.f132.body.getD .skip) 2)) (x0::g1::g2::v3::(.d (.int .i64 (i0:Int)))::(.d (.int .i64 (((b[i0]'(by omega)).toNat / 2 ^ i:Nat):Int)))::(.d (.int .i64 (i:Int)))::g7::g8::g9::gM::gE::gC::gF::gB::gA::gD::gH::gK::gI::gJ::gN::gL::gG::gO::gP::gR::gQ::gU::gS::gT::[]) S [] R:=by
 intro k
 have hv:=UInt8.toNat_lt (b[i0]'(by omega))
 induction k with
 | zero =>
  intro i S v3 g1 g2 g7 g8 g9 gM gE gC gF gB gA gD gH gK gI gJ gN gL gG gO gP gR gQ gU gS gT hk hi hK hN ho hR
  have hie:i=8:=by omega
  subst hie
  have e:8 * (i0 + 1)=8 * i0 + 8:=by omega
  rw [e] at hR
  rw [zO]
  refine zK ?_
  conv=>arg 2; whnf
  have h8 : ¬ (((8:Nat):Int)) < 8:=by omega
  simp (maxSteps:=1000000) (disch:=first|assumption|omega|rfl) only [↓gp,gc,Nat.reduceAdd]
  exact hR _ _ _ _ _ _ _ _ _ _ _ _ _ _ _ _ _ _ _ _ _ _ _ _ _ _ _ _ _ _ hK hN ho
 | succ k ih =>
  intro i S v3 g1 g2 g7 g8 g9 gM gE gC gF gB gA gD gH gK gI gJ gN gL gG gO gP gR gQ gU gS gT hk hi hK hN ho hR
  have hlt:(i:Int) < 8:=by omega
  have h3:IntKind.i64.wrap ((i:Int) + 1)=((i + 1:Nat):Int):=by rw [wrap64 (by omega)]; omega
  have hdl:(b[i0]'(by omega)).toNat / 2 ^ i < 256:=Nat.lt_of_le_of_lt (Nat.div_le_self ..) hv
  have hq:=quo2 (v:=(b[i0]'(by omega)).toNat / 2 ^ i) (by omega)
  have hr:=rem2 (v:=(b[i0]'(by omega)).toNat / 2 ^ i)
  have hp2:(b[i0]'(by omega)).toNat / 2 ^ i / 2=(b[i0]'(by omega)).toNat / 2 ^ (i + 1):=by rw [Nat.div_div_eq_div_mul,← Nat.pow_succ]
  rw [hp2] at hq
  have hbit:hasB b (8 * i0 + i)=decide (((((b[i0]'(by omega)).toNat / 2 ^ i) % 2:Nat):Int)=1):=by
   unfold hasB
   have e1:(8 * i0 + i) / 8=i0:=by omega
   have e2:(8 * i0 + i) % 8=i:=by omega
   have h:=zjv ⟨(b[i0]'(by omega)).toNat,hv⟩ ⟨i,by omega⟩
   simp only [UInt8.ofNat_toNat] at h
   rw [e1,e2,List.getD_eq_getElem?_getD,List.getElem?_eq_getElem (by omega),Option.getD_some,h]
   congr 1
   apply propext
   omega
  have hde : ∀ i':Decidable (((((b[i0]'(by omega)).toNat / 2 ^ i) % 2:Nat):Int)=1),@decide _ i'=hasB b (8 * i0 + i):=fun i'=>by rw [hbit]; exact decide_eq_decide.2 Iff.rfl
  obtain ⟨v',S',c,hap,ho',hfr,hlen⟩:=q3r (hasB b (8 * i0 + i)) ho (by rw [z82]; omega)
  rw [zO]
  refine zK ?_
  conv=>arg 2; whnf
  simp (maxSteps:=1000000) (disch:=first|assumption|omega|rfl) only [↓gp,gc,Nat.reduceAdd,hr,hde,hap,hq,h3]
  refine ih (i + 1) S' v' _ _ _ _ _ _ _ _ _ _ _ _ _ _ _ _ _ _ _ _ _ _ _ _ _ _ (by omega) (by omega) (fun j o hj=>(hfr j o (hK j o hj) (hN j (zS hj))).1) (fun j hj=>(hfr j _ (List.getElem?_eq_getElem (Nat.lt_of_lt_of_le hj hK.len)) (hN j hj)).2) ?_ hR
  rw [← Nat.add_assoc,zis]; exact ho'
theorem zxj (b:List UInt8) (hb:b.length=256) (S0:zA) (R:Post) : ∀ (k i:Nat) (S:zA) (v3:V) (g1 g2 g5 g6 g7 g8 g9 gM gE gC gF gB gA gD gH gK gI gJ gN gL gG gO gP gR gQ gU gS gT:V),256 - i=k→i ≤ 256→Keep S0 S→(∀ j,j < S0.length→NotAt v3 j)→OwnS S v3 4 ((z9s b (8 * i)).map fun x=>.d (D.bool x)) →
 (∀ S v3 i' g1 g2 g5 g6 g7 g8 g9 gM gE gC gF gB gA gD gH gK gI gJ gN gL gG gO gP gR gQ gU gS gT,Keep S0 S→(∀ j,j < S0.length→NotAt v3 j)→OwnS S v3 4 ((z9s b 2048).map fun x=>.d (D.bool x))→R (.exit 0) ((.d (encB b))::g1::g2::v3::i'::g5::g6::g7::g8::g9::gM::gE::gC::gF::gB::gA::gD::gH::gK::gI::gJ::gN::gL::gG::gO::gP::gR::gQ::gU::gS::gT::[]) S []) →
 Wp cfg (.loop (lpOf (Tryz.f132.body.getD .skip) 0)) ((.d (encB b))::g1::g2::v3::(.d (.int .i64 (i:Int)))::g5::g6::g7::g8::g9::gM::gE::gC::gF::gB::gA::gD::gH::gK::gI::gJ::gN::gL::gG::gO::gP::gR::gQ::gU::gS::gT::[]) S [] R:=by
 intro k
 have hln:=fun S=>lnBz (S:=S) (l:=b)
 rw [hb] at hln
 induction k with
 | zero =>
  intro i S v3 g1 g2 g5 g6 g7 g8 g9 gM gE gC gF gB gA gD gH gK gI gJ gN gL gG gO gP gR gQ gU gS gT hk hi hK hN ho hR
  have hie:i=256:=by omega
  subst hie
  rw [zO]
  refine zK ?_
  conv=>arg 2; whnf
  simp (maxSteps:=1000000) (disch:=first|assumption|omega|rfl) only [↓gp,gc,Nat.reduceAdd,hln]
  exact hR _ _ _ _ _ _ _ _ _ _ _ _ _ _ _ _ _ _ _ _ _ _ _ _ _ _ _ _ _ _ _ hK hN ho
 | succ k ih =>
  intro i S v3 g1 g2 g5 g6 g7 g8 g9 gM gE gC gF gB gA gD gH gK gI gJ gN gL gG gO gP gR gQ gU gS gT hk hi hK hN ho hR
  have hlt:i < 256:=by omega
  have hlt2:(i:Int) < ((256:Nat):Int):=by omega
  have h3:IntKind.i64.wrap ((i:Int) + 1)=((i + 1:Nat):Int):=by rw [wrap64 (by omega)]; omega
  have hix:=fun S=>ixBz (S:=S) (l:=b) (i:=i) (by omega)
  have hcv:=fun S=>cv53 (S:=S) (x:=b[i]'(by omega))
  rw [zO]
  refine zK ?_
  conv=>arg 2; whnf
  simp (maxSteps:=1000000) (disch:=first|assumption|omega|rfl) only [↓gp,gc,Nat.reduceAdd,hln,hix,ldU5,hcv]
  have e0:((b[i]'(by omega)).toNat:Int)=(((b[i]'(by omega)).toNat / 2 ^ 0:Nat):Int):=by rw [Nat.pow_zero,Nat.div_one]
  rw [e0]
  refine ztk b hb i hlt S0 _ _ 8 0 S v3 _ _ _ _ _ _ _ _ _ _ _ _ _ _ _ _ _ _ _ _ _ _ _ _ _ _ rfl (Nat.zero_le _) hK hN ho ?_
  intro S2 v3' x' i' g1 g2 g7 g8 g9 gM gE gC gF gB gA gD gH gK gI gJ gN gL gG gO gP gR gQ gU gS gT hK2 hN2 ho2
  simp (maxSteps:=1000000) (disch:=first|assumption|omega|rfl) only [↓gp,gc,Nat.reduceAdd,h3]
  exact ih (i + 1) S2 v3' _ _ _ _ _ _ _ _ _ _ _ _ _ _ _ _ _ _ _ _ _ _ _ _ _ _ _ _ (by omega) (by omega) hK2 hN2 ho2 hR
theorem zv0 (b:List UInt8) (hb:b.length=256) (S:zA):EvS cfg 132 [.d (encB b)] S (fun o S'=>Keep S S' ∧ ∃ id,o = .ret (.rs id 0 2048)∧S.length ≤ id∧S'[id]? = some (rowZ (zex b))):=by
 refine qH rfl zug ?_
 show Wp cfg (Tryz.f132.body.getD .skip) ((.d (encB b))::uZ (uZ (uZ []))) S [] _
 unfold uZ
 conv=>arg 2; whnf
 rw [zO]
 simp (maxSteps:=1000000) (disch:=first|assumption|omega|rfl) only [↓gp,gc,Nat.reduceAdd]
 refine zxj b hb S _ 256 0 S (.ts []) _ _ _ _ _ _ _ _ _ _ _ _ _ _ _ _ _ _ _ _ _ _ _ _ _ _ _ _ rfl (Nat.zero_le _) Keep.refl (fun j _=>NotAt.ts) (.inl ⟨rfl,rfl⟩) ?_
 intro S2 v3 i' g1 g2 g5 g6 g7 g8 g9 gM gE gC gF gB gA gD gH gK gI gJ gN gL gG gO gP gR gQ gU gS gT hK hN ho
 rcases ho with ⟨rfl,h0⟩ | ⟨id,rfl,h1⟩
 ·have:=congrArg List.length h0
  rw [List.length_map,z82] at this
  cases this
 ·have hl:((z9s b 2048).map fun x=>V.d (D.bool x)).length=2048:=by rw [List.length_map,z82]
  rw [hl] at hN ⊢
  simp (maxSteps:=1000000) (disch:=first|assumption|omega|rfl) only [↓gp,gc,Nat.reduceAdd]
  refine ⟨rfl,_,rfl,hK,id,rfl,?_,h1⟩
  rcases Nat.lt_or_ge id S.length with hh | hh
  ·exact absurd rfl (hN id hh 0 2048)
  ·exact hh
theorem zme {ops:Array Oper} {dst:Option Tmp} {k:List Oper} {T:List V} {S:zA} {F:Dfs} {Q:Post} {id:Nat} {d:List Bool} (hr:S[id]? = some (rowZ d)) (hd:d.length=2048):WpR cfg ops dst k T S F Q (some (.enter 133 [.rs id 0 2048]))=WpL cfg ops k (putT T dst (.d (encB (addL d 2048)))) (S.set id (.fz (d.map D.bool) 4)) F Q:=by
 obtain ⟨m,hm⟩:=zsi d hd
 have hr':S[id]? = some (.row ((d.map D.bool).map .d) 4):=by rw [hr]; simp [rowZ,Function.comp_def]
 refine zlw (c:=3) ⟨m,zh5 (ds:=[encZ d]) rfl ?_ ?_ hr' rfl hm⟩
 ·have:=q2r (n:=2048) hr hd.symm
  simp only [allO,this]
 ·simp only [List.flatMap_cons,q39 hr,List.flatMap_nil]
  rfl
theorem zox (b:List UInt8) (hb:b.length=256) (n:Nat) (hn:n < 2048) (on:Bool):Ev cfg 94 [encB b,.int .i64 (n:Int),.bool on] (.ret (.d (encB (vB b n on)))):=by
 refine jW rfl rfl q1y ?_
 show Wp cfg (Tryz.f94.body.getD .skip) ((.d (encB b))::(.d (.int .i64 (n:Int)))::(.d (.bool on))::uZ (uZ ((.tup [])::[]))) [] [] _
 unfold uZ
 conv=>arg 2; whnf
 obtain ⟨o,S1,⟨_,id,rfl,_,hS⟩,hE⟩:=zZ (zv0 b hb [])
 have hE:=fun {ops dst k T F Q}=>zD (ops:=ops) (dst:=dst) (l:=k) (T:=T) (F:=F) (Q:=Q) rfl hE
 have hiz:=ixRZ (n:=2048) (i:=n) hS (by omega)
 have hrw:=q23 (i:=n) hS (by rw [z4q]; omega)
 have hpt:=q3s (i:=n) hS (x:=on)
 have hS2:(S1.set id (rowZ ((zex b).set n on)))[id]? = some (rowZ ((zex b).set n on)):=List.getElem?_set_self (zS hS)
 have hbk:=fun {ops dst k T F Q}=>zme (ops:=ops) (dst:=dst) (k:=k) (T:=T) (F:=F) (Q:=Q) hS2 (by rw [List.length_set,z4q])
 rw [zjp hb hn] at hbk
 have n0:(n:Int) ≥ 0:=by omega
 have n1:(n:Int) < 2048:=by omega
 simp (maxSteps:=1000000) (disch:=first|assumption|omega|rfl) only [↓gp,gc,Nat.reduceAdd,hE,q1r,zrg,hiz,hrw,st4,hpt,hbk,zxe]
 exact zQ rfl rfl rfl
theorem zpf (b:List UInt8) (hb:b.length ≤ 1000) (j:Nat) (hj:j < b.length):Ev cfg 93 [encB b,.int .i64 (j:Int),.int .i64 1] (.ret (.d (encB [b[j]]))):=by
 refine jW rfl rfl q0h ?_
 show Wp cfg (Tryz.f93.body.getD .skip) ((.d (encB b))::(.d (.int .i64 (j:Int)))::(.d (.int .i64 1))::uZ (uZ (uZ ((.tup [])::(.tup [])::[])))) [] [] _
 unfold uZ
 conv=>arg 2; whnf
 have hln:=fun S=>lnBz (S:=S) (l:=b)
 have hix:=fun S=>ixBz (S:=S) (l:=b) hj
 have j0:(j:Int) ≥ 0:=by omega
 have j1:(j:Int) < (b.length:Int):=by omega
 have w0:IntKind.i64.wrap ((j:Int) - (j:Int))=0:=by rw [wrap64 (by omega)]; omega
 have w1:IntKind.i64.wrap ((j:Int) + 1)=(j:Int) + 1:=wrap64 (by omega)
 have w2:IntKind.i64.wrap ((j:Int) + 1 - (j:Int))=1:=by rw [wrap64 (by omega)]; omega
 obtain ⟨v',S',c,hap,ho',hfr,hlen⟩:=ap76 (S:=[]) (v:= .ts []) (xs:=[]) b[j] (.inl ⟨rfl,rfl⟩) (by simp)
 simp (maxSteps:=1000000) (disch:=first|assumption|omega|rfl) only [↓gp,gc,Nat.reduceAdd]
 rw [zO]
 refine zK ?_
 conv=>arg 2; whnf
 simp (maxSteps:=1000000) (disch:=first|assumption|omega|rfl) only [↓gp,gc,Nat.reduceAdd,hln,hix,ldU5,w0,w1,hap,zN]
 rw [zO]
 refine zK ?_
 conv=>arg 2; whnf
 have hv1:=qF ho'
 have hfz:=zbk (enc:=fun b:UInt8=>D.int .u8 b.toNat) ho'
 have j2:(j:Int) + 1 ≥ 0:=by omega
 by_cases hlast:(j:Int) + 1 < (b.length:Int)
 ·simp (maxSteps:=1000000) (disch:=first|assumption|omega|rfl) only [↓gp,gc,Nat.reduceAdd,hln,w2,zN]
  exact zQ rfl hv1 hfz
 ·simp (maxSteps:=1000000) (disch:=first|assumption|omega|rfl) only [↓gp,gc,Nat.reduceAdd,hln,w2,zN]
  exact zQ rfl hv1 hfz
section
variable {n:Int} {b:List UInt8}
theorem bdR:wT Tryz.prog 94 [(0,.d (.int .i64 n)),(1,.d (encB b))]=some (.agg [.d (.int .i64 n),.d (encB b)]):=by kernel_rfl
theorem zR:zeroV Tryz.prog 94=some (.agg [.d (.int .i64 0),.ts []]):=by kernel_rfl
theorem zfR:qE Tryz.prog 94 (.agg [.d (.int .i64 0),.ts []])=true:=by kernel_rfl
theorem srR:qW Tryz.prog 94 0 (.agg [.d (.int .i64 n),.d (encB b)]) (.agg [.d (.int .i64 0),.ts []])=some (.agg [.d (.int .i64 n),.d (encB b)]):=by kernel_rfl
theorem lrR:qT Tryz.prog 94 0 (some (.agg [.d (.int .i64 n),.d (encB b)]))=some (.agg [.d (.int .i64 n),.d (encB b)]):=by kernel_rfl
theorem q4m:qT Tryz.prog 3 0 (some (.d (patD n b)))=some (.d (.int .i64 n)):=by kernel_rfl
theorem q40:qT Tryz.prog 76 1 (some (.d (patD n b)))=some (.d (encB b)):=by kernel_rfl
end
theorem q1j (b:List UInt8) (hb:b.length=256) (n:Nat) (hn:n < 2048) (on:Bool):Ev cfg 47 [encB b,.int .i64 (n:Int),.bool on] (.ret (.d (patD ((n / 8:Nat):Int) [setB b n on]))):=by
 refine jW rfl rfl q0i ?_
 show Wp cfg (Tryz.f47.body.getD .skip) ((.d (encB b))::(.d (.int .i64 (n:Int)))::(.d (.bool on))::uZ ((.tup [])::(.tup [])::(.tup [])::(.tup [])::[])) [] [] _
 unfold uZ
 conv=>arg 2; whnf
 have hq:=quon (i:=n) (by omega)
 have hl:(vB b n on).length=256:=by rw [z1m]; exact hb
 have hw : ∀ {ops dst k T S F Q},WpR cfg ops dst k T S F Q (some (.enter 94 [.d (encB b),.d (.int .i64 (n:Int)),.d (.bool on)]))=WpL cfg ops k (putT T dst (.d (encB (vB b n on)))) S F Q:=fun {ops dst k T S F Q}=>qI (ds:=[encB b,.int .i64 (n:Int),.bool on]) rfl (zox b hb n hn on)
 have he:(vB b n on)[n / 8]'(by omega)=setB b n on:=by unfold vB; rw [List.getElem_set_self]
 have hc : ∀ {ops dst k T S F Q},WpR cfg ops dst k T S F Q (some (.enter 93 [.d (encB (vB b n on)),.d (.int .i64 ((n / 8:Nat):Int)),.d (.int .i64 1)]))=WpL cfg ops k (putT T dst (.d (encB [setB b n on]))) S F Q:=fun {ops dst k T S F Q}=>qI (ds:=[encB (vB b n on),.int .i64 ((n / 8:Nat):Int),.int .i64 1]) rfl (by
  have:=zpf (vB b n on) (by omega) (n / 8) (by omega)
  rw [he] at this
  exact this)
 simp (maxSteps:=1000000) (disch:=first|assumption|omega|rfl) only [↓gp,gc,Nat.reduceAdd,zR,zfR,hq,hw,bo94,hc,bo93,bdR,srR]
 exact wQ (v:= .agg [.d (.int .i64 ((n / 8:Nat):Int)),.d (encB [setB b n on])]) rfl ((zM rfl).trans lrR) rfl rfl
theorem zod (n:Int) (b:List UInt8) (hb:b.length ≤ 1000):Ev cfg 48 [patD n b,patD n b] (.ret (.d (.bool true))):=by
 refine jW rfl rfl zyk ?_
 show Wp cfg (Tryz.f48.body.getD .skip) ((.d (patD n b))::(.d (patD n b))::uZ ((.tup [])::(.tup [])::(.tup [])::(.tup [])::(.tup [])::[])) [] [] _
 unfold uZ
 conv=>arg 2; whnf
 have hs : ∀ {ops dst k T S F Q},WpR cfg ops dst k T S F Q (some (.enter 95 [.d (encB b),.d (encB b)]))=WpL cfg ops k (putT T dst (.d (.bool true))) S F Q:=fun {ops dst k T S F Q}=>qI (ds:=[encB b,encB b]) rfl (zty b hb)
 simp (maxSteps:=1000000) (disch:=first|assumption|omega|rfl) only [↓gp,gc,Nat.reduceAdd,fd81,q26,q1e,q4m,q40,zN,hs,bo95]
 exact zQ rfl rfl rfl
theorem zw3 {bm:List UInt8} {D i:Nat}:frB bm D (i + 1)=frB bm D i ++ if decide (D ≤ i) && !hasB bm i then [i] else []:=by
 unfold frB
 rw [List.range_succ,List.filter_append]
 congr 1
 cases h:(decide (D ≤ i) && !hasB bm i) <;> simp [h]
def frI (bm:List UInt8) (D i:Nat):List Int:=(frB bm D i).map fun n:Nat=>(n:Int)
theorem zsy {bm:List UInt8} {D i:Nat}:(frI bm D i).length ≤ i:=by
 unfold frI frB
 rw [List.length_map]
 exact Nat.le_trans (List.length_filter_le ..) (by simp)
theorem ztq (l:Lay) (hb:InB l.blocks) (hi:InB l.inodes) (hm:MayL l) (D N:Nat) (hD:2 + l.inodes.tdiv 8=(D:Int)) (hN:l.blocks=N) (b:List UInt8) (hbl:b.length=256) (R:Post) :
 ∀ (k i:Nat) (S:zA) (v5:V) (g0 g3 g4 g7 g8 g9 gM gE gC gF gB gA gD gH gK gI gJ gN gL gG gO gP gR gQ:V),N - i=k→i ≤ N→Keep [.row [.d (encLay l)] 32] S→(∀ j,j < 1→NotAt v5 j)→OwnS S v5 3 (zY (frI b D i)) →
 (∀ S v5 i' g0 g3 g4 g7 g8 g9 gM gE gC gF gB gA gD gH gK gI gJ gN gL gG gO gP gR gQ,OwnS S v5 3 (zY (frI b D N))→R (.exit 0) (g0::(.d (encB b))::(.ref 0 0 0)::g3::g4::v5::i'::g7::g8::g9::gM::gE::gC::gF::gB::gA::gD::gH::gK::gI::gJ::gN::gL::gG::gO::gP::gR::gQ::[]) S []) →
 Wp cfg (.loop (lpOf (Tryz.f41.body.getD .skip) 0)) (g0::(.d (encB b))::(.ref 0 0 0)::g3::g4::v5::(.d (.int .i64 (i:Int)))::g7::g8::g9::gM::gE::gC::gF::gB::gA::gD::gH::gK::gI::gJ::gN::gL::gG::gO::gP::gR::gQ::[]) S [] R:=by
 intro k
 have hda:=fun {no:Int}=>zm1 hm (no:=no)
 have h512:=hm.2.1
 induction k with
 | zero =>
  intro i S v5 g0 g3 g4 g7 g8 g9 gM gE gC gF gB gA gD gH gK gI gJ gN gL gG gO gP gR gQ hk hi2 hK hN5 ho hR
  have hie:i=N:=by omega
  subst hie
  have hr0:=zE (e:=32) (hK 0 _ rfl)
  have hle : ¬ (i:Int) < l.blocks:=by omega
  rw [zO]
  refine zK ?_
  conv=>arg 2; whnf
  simp (maxSteps:=1000000) (disch:=first|assumption|omega|rfl) only [↓gp,gc,Nat.reduceAdd,vF,hr0,z0l]
  exact hR _ _ _ _ _ _ _ _ _ _ _ _ _ _ _ _ _ _ _ _ _ _ _ _ _ _ _ ho
 | succ k ih =>
  intro i S v5 g0 g3 g4 g7 g8 g9 gM gE gC gF gB gA gD gH gK gI gJ gN gL gG gO gP gR gQ hk hi2 hK hN5 ho hR
  have hr0:=zE (e:=32) (hK 0 _ rfl)
  have hle:(i:Int) < l.blocks:=by omega
  have h3:IntKind.i64.wrap ((i:Int) + 1)=((i + 1:Nat):Int):=by rw [wrap64 (by omega)]; omega
  have har:=fun {ops dst k T S F Q}=>qI (C:=cfg) (ops:=ops) (dst:=dst) (l:=k) (T:=T) (S:=S) (F:=F) (Q:=Q) (ds:=[encLay l,.int .i64 (i:Int)]) rfl (zwq l hb hi hm (i:Int))
  simp only [List.map_cons,List.map_nil] at har
  have hdi:=hda (no:=(i:Int))
  rw [hD,hN] at hdi
  have hsu:=zw3 (bm:=b) (D:=D) (i:=i)
  have hfl:=zsy (bm:=b) (D:=D) (i:=i)
  rw [zO]
  refine zK ?_
  conv=>arg 2; whnf
  by_cases hd:D ≤ i
  ·have hde : ∀ i':Decidable (zbe l (i:Int)=4),@decide (zbe l (i:Int)=4) i'=true:=fun i'=>decide_eq_true (hdi.2 ⟨by omega,by omega⟩)
   have hhs : ∀ {ops dst k T S F Q},WpR cfg ops dst k T S F Q (some (.enter 51 [.d (encB b),.d (.int .i64 (i:Int))]))=WpL cfg ops k (putT T dst (.d (.bool (hasB b i)))) S F Q:=fun {ops dst k T S F Q}=>qI (ds:=[encB b,.int .i64 (i:Int)]) rfl (ztd b hbl i (by omega))
   rw [decide_eq_true hd,Bool.true_and] at hsu
   cases hh:hasB b i with
   | true =>
    rw [hh] at hhs
    rw [hh,Bool.not_true,if_neg Bool.false_ne_true,List.append_nil] at hsu
    simp (maxSteps:=1000000) (disch:=first|assumption|omega|rfl) only [↓gp,gc,Nat.reduceAdd,vF,hr0,z0l,lr32,har,bo22,hde,hhs,bo51,qZ,Bool.not_true,h3]
    exact ih (i + 1) S v5 _ _ _ _ _ _ _ _ _ _ _ _ _ _ _ _ _ _ _ _ _ _ _ _ (by omega) (by omega) hK hN5 (by unfold frI at ho ⊢; rw [hsu]; exact ho) hR
   | false =>
    rw [hh] at hhs
    rw [hh,Bool.not_false,if_pos rfl] at hsu
    obtain ⟨v',S',c,hap,ho',hfr,hlen⟩:=apI (i:Int) ho (by omega)
    simp (maxSteps:=1000000) (disch:=first|assumption|omega|rfl) only [↓gp,gc,Nat.reduceAdd,vF,hr0,z0l,lr32,har,bo22,hde,hhs,bo51,qZ,Bool.not_false,hap,h3]
    have hl1:=hK.len
    refine ih (i + 1) S' v' _ _ _ _ _ _ _ _ _ _ _ _ _ _ _ _ _ _ _ _ _ _ _ _ (by omega) (by omega) (fun j o hj=>(hfr j o (hK j o hj) (hN5 j (zS hj))).1) (fun j hj=>(hfr j _ (List.getElem?_eq_getElem (Nat.lt_of_lt_of_le hj hl1)) (hN5 j hj)).2) ?_ hR
    have e:frI b D (i + 1)=frI b D i ++ [(i:Int)]:=by unfold frI; rw [hsu,List.map_append]; rfl
    rw [e]; exact ho'
  ·have hde : ∀ i':Decidable (zbe l (i:Int)=4),@decide (zbe l (i:Int)=4) i'=false:=fun i'=>decide_eq_false (fun h=>hd (by have:=(hdi.1 h).1; omega))
   rw [decide_eq_false hd,Bool.false_and,if_neg Bool.false_ne_true,List.append_nil] at hsu
   simp (maxSteps:=1000000) (disch:=first|assumption|omega|rfl) only [↓gp,gc,Nat.reduceAdd,vF,hr0,z0l,lr32,har,bo22,hde,h3]
   exact ih (i + 1) S v5 _ _ _ _ _ _ _ _ _ _ _ _ _ _ _ _ _ _ _ _ _ _ _ _ (by omega) (by omega) hK hN5 (by unfold frI at ho ⊢; rw [hsu]; exact ho) hR
theorem zob (l:Lay) (hb:InB l.blocks) (hi:InB l.inodes) (hm:MayL l) (D N:Nat) (hD:2 + l.inodes.tdiv 8=(D:Int)) (hN:l.blocks=N) (b:List UInt8) (hbl:b.length=256):Ev cfg 41 [encLay l,encB b] (.ret (.d (encI (frI b D N)))):=by
 refine jW rfl rfl zze ?_
 show Wp cfg (Tryz.f41.body.getD .skip) ((.d (encLay l))::(.d (encB b))::uZ (uZ ((.tup [])::(.tup [])::(.tup [])::(.tup [])::(.tup [])::(.tup [])::[]))) [] [] _
 unfold uZ
 conv=>arg 2; whnf
 simp (maxSteps:=1000000) (disch:=first|assumption|omega|rfl) only [↓gp,gc,Nat.reduceAdd]
 refine ztq l hb hi hm D N hD hN b hbl _ N 0 _ (.ts []) _ _ _ _ _ _ _ _ _ _ _ _ _ _ _ _ _ _ _ _ _ _ _ _ rfl (Nat.zero_le _) Keep.refl (fun j _=>NotAt.ts) (.inl ⟨rfl,rfl⟩) ?_
 intro S v5 i' g0 g3 g4 g7 g8 g9 gM gE gC gF gB gA gD gH gK gI gJ gN gL gG gO gP gR gQ ho
 simp (maxSteps:=1000000) (disch:=first|assumption|omega|rfl) only [↓gp,gc,Nat.reduceAdd]
 exact zQ rfl (qF ho) (zbk (enc:=Go.Vm.D.int .i64) ho)
section
variable {S:zA} {a:Nat} {u:V} {b:List UInt8}
theorem zh3 (ha:S[a]? = some (.row [u] 42)) (hu:IsB u b) (hl:b.length=256):Go.Vm.frz S zH (.cs a 0 0 256)=some (encB b):=by
 show (match S[a]? with
  | some (.row xs e)=>match xs[0]? with
   | some x=>if x.isAgg && 0 + 256 ≤ x.cells.length && (allO (Go.Vm.frz S 11) xs).isSome then (allO z2b ((x.cells.drop 0).take 256)).map D.sl else none
   | none=>none
  | some (.fz xs e)=>match xs[0]? with
   | some x=>if x.isAgg && 0 + 256 ≤ x.cells.length then some (D.sl ((x.cells.drop 0).take 256)) else none
   | none=>none
  | _=>none)=_
 have ht:((b.map fun x=>V.d (byD x)).drop 0).take 256=b.map fun x=>V.d (byD x):=by rw [List.drop_zero,List.take_of_length_le (by simp; omega)]
 have h1:allO (Go.Vm.frz S 11) [u]=some [blkD b]:=by simp only [allO,hu.frz (n:=9)]
 have h2:allO z2b (b.map fun x=>V.d (byD x))=some (b.map byD):=by
  clear ht h1 hu hl
  induction b with
  | nil=>rfl
  | cons x r ih =>
   have h:z2b (.d (byD x))=some (byD x):=rfl
   simp only [List.map_cons,allO,h,ih]
 simp only [ha,List.getElem?_cons_zero,hu.isAgg,hu.cells,List.length_map,hl,Nat.zero_add,Nat.le_refl,decide_true,h1,Option.isSome_some,Bool.and_self,if_true,ht,h2,Option.map_some]
 rfl
theorem zh6 (ha:S[a]? = some (.row [u] 42)) (hu:IsB u b):frzIds S zH (.cs a 0 0 256)=[a]:=by
 show (match S[a]? with | some (.row xs e)=>a::xs.flatMap (frzIds S 11) | _=>[])=_
 simp only [ha,List.flatMap_cons,hu.frzIds,List.flatMap_nil,List.append_nil]
theorem zpj (ha:S[a]? = some (.row [u] 42)) (hu:IsB u b):Go.Vm.mark S [a] S [a]=some (S.set a (.fz [blkD b] 42)):=by
 have h1:allO (Go.Vm.frz S zH) [u]=some [blkD b]:=by simp only [allO,hu.frz (n:=10),zH]
 have h4:[u].flatMap (frzIds S zH)=[]:=by rw [List.flatMap_cons,hu.frzIds]; rfl
 simp only [Go.Vm.mark,ha,z2d,h1,Option.map_some,z9g,h4,List.all_nil,if_true]
theorem zgi {f:FuncId} {args:List V} {ds:List D} {v:V} (ha:S[a]? = some (.row [u] 42)) (hu:IsB u b) (hs:cfg.shared f=false) (hf:allO (Go.Vm.frz S zH) args=some ds) (hi:args.flatMap (frzIds S zH)=[a]) (hp:z02 (.ret v)=false) (he:Ev cfg f ds (.ret v)) : ∃ n,jI cfg (run cfg n) f args S=some (.ret v,S.set a (.fz [blkD b] 42),3):=by
 obtain ⟨n,hn⟩:=he
 have hn':answer cfg (run cfg n) f ds=some (.ret v):=hn
 refine ⟨n,?_⟩
 unfold jI
 simp only [hs,Bool.false_eq_true,if_false,hf,hn',hi,List.isEmpty_cons,hp,zpj ha hu]
end
section
variable {ops:Array Oper} {base:Nat} {K:Ws→List (Nat × Nat)→List V→zA→Prop} {ws:Ws} {cs:List (Nat × Nat)} {i:Nat} {dst:Option Tmp} {T:List V} {S S2:zA}
theorem q2x {f:FuncId} {args:List V} {v:V} (hc : ∃ n,jI cfg (run cfg n) f args S=some (.ret v,S2,3)) :
  WpEw cfg ops base K ws cs i dst T S (some (.enter f args))=(WAll cfg ops base ws i S2∧K ws (cs ++ [(i,3)]) (putT T dst v) S2):=by
 obtain ⟨n,hc⟩:=hc
 apply propext
 constructor
 ·rintro ⟨m,v',S',c,h1,h2,h3⟩
  have:=kO h1 hc
  simp only [Prod.mk.injEq] at this
  obtain ⟨h4,rfl,rfl⟩:=this
  cases h4
  exact ⟨h2 (by decide),h3⟩
 ·exact fun h=>⟨n,_,_,_,hc,fun _=>h.1,h.2⟩
theorem q1i {f:FuncId} {args:List V} {ds:List D} {v:V} (hs:cfg.shared f=false) (hf:allO (Go.Vm.frz S zH) args=some ds) (hp:z02 (.ret v)=true) (he:Ev cfg f ds (.ret v)) :
  WpEw cfg ops base K ws cs i dst T S (some (.enter f args))=K ((i,T,v)::ws) (cs ++ [(i,1)]) (putT T dst v) S:=by
 obtain ⟨n,hc⟩:=zc5 hs hf hp he
 apply propext
 constructor
 ·rintro ⟨m,v',S',c,h1,h2,h3⟩
  have:=kO h1 hc
  simp only [Prod.mk.injEq] at this
  obtain ⟨h4,rfl,rfl⟩:=this
  cases h4
  exact h3
 ·exact fun h=>⟨n,_,_,_,hc,fun hh=>absurd hh (by decide),h⟩
end
theorem zmu {l:Lay}:wU (.d (encLay l)) (.d (encLay l))=true:=by
 show all2 (z18 5) _ _=true
 have h1 : ∀ (k:IntKind) (x:Int),z18 5 (.int k x) (.int k x)=true:=fun k x=>z2n
 simp only [encLay,all2,h1,Bool.and_self]
structure TakP (S:zA) (y x c r m mk gm:Nat) (l:Lay) (e:Int) (C:CS) (mf gf:Int→Option V) (gl:Int→List Int) (b B n:Nat):Prop where
 al:AllP S y x c r m mk gm l e C mf gf gl b
 h0:S[0]? = some (.row [.d (encLay l)] 32)
 inv:InvA e C gl
 las:C.last ≤ 2 * n
 img:C.img.length=B
theorem zuz (v2:V) (steps:List StpA) (hst:steps.length ≤ 16) (b:Nat) (hbb:b ≤ 17592186000000) (hsn : ∀ s ∈ steps,s.needs.length ≤ b) (y x c r m mk gm:Nat) (l:Lay) (D N:Nat) (hb:InB l.blocks) (hi:InB l.inodes) (hm:MayL l) (hD:2 + l.inodes.tdiv 8=(D:Int)) (hN:l.blocks=N) (mf:Int→Option V) (R:Post) :
 ∀ (k i:Nat) (S:zA) (e:Int) (C:CS) (gf:Int→Option V) (gl:Int→List Int) (g0 g4 g5 g6 g9 gM gE gC gF gB gA gD gH gK gI gJ gN gL gG gO gP gR gQ gU gS gT gV gW gX gY gZ gh gj gk gn gr gz hH hU hY hZ xA xB xC xD xE xF xG xH xI xJ xK xL xM xN xO xP xQ xR xS xT xU xV xW xX xY xZ g72 g73 g74 g75 g76 g77 g78 g79 g80 g81 g82 g83 g84 g85 g86 g87 g88 g89 g90 g91 g92 g93 g94 g95 g96 g97 g98 g99 g100 g101 g102 g103 g104 g105 g106 g107 g108 g109 g110 g111 g112 g113 g114 g115 g116 g117 g118 g119 g120 g121 g122 g123 g124 g125 g126 g127 g128 g129 g130 g131 g132 g133 g134 g135 g136 g137 g138 g139 g140 g141 g142 g143 g144 g145 g146 g147 g148 g149 g150 g151 g152 g153 g154 g155 g156 g157 g158 g159 g160 g161 g162 g163 g164 g165 g166 g167 g168 g169 g170 g171 g172 g173 g174 g175 g176 g177 g178 g179 g180 g181 g182 g183 g184 g185 g186 g187 g188 g189 g190 g191 g192 g193 g194 g195 g196 g197 g198 g199 g200 g201 g202 g203 g204 g205 g206 g207 g208 g209 g210 g211 g212 g213 g214 g215 g216 g217 g218 g219 g220 g221 g222 g223 g224 g225 g226 g227 g228 g229 g230 g231 g232 g233 g234 g235 g236 g237 g238 g239 g240 g241 g242 g243 g244 g245 g246 g247 g248 g249 g250 g251 g252 g253 g254 g255 g256 g257 g258 g259 g260 g261 g262:V),steps.length - i=k→i ≤ steps.length→TakP S y x c r m mk gm l e C mf gf gl b N i →
 (∀ S e C gf gl i' g0 g4 g5 g6 g9 gM gE gC gF gB gA gD gH gK gI gJ gN gL gG gO gP gR gQ gU gS gT gV gW gX gY gZ gh gj gk gn gr gz hH hU hY hZ xA xB xC xD xE xF xG xH xI xJ xK xL xM xN xO xP xQ xR xS xT xU xV xW xX xY xZ g72 g73 g74 g75 g76 g77 g78 g79 g80 g81 g82 g83 g84 g85 g86 g87 g88 g89 g90 g91 g92 g93 g94 g95 g96 g97 g98 g99 g100 g101 g102 g103 g104 g105 g106 g107 g108 g109 g110 g111 g112 g113 g114 g115 g116 g117 g118 g119 g120 g121 g122 g123 g124 g125 g126 g127 g128 g129 g130 g131 g132 g133 g134 g135 g136 g137 g138 g139 g140 g141 g142 g143 g144 g145 g146 g147 g148 g149 g150 g151 g152 g153 g154 g155 g156 g157 g158 g159 g160 g161 g162 g163 g164 g165 g166 g167 g168 g169 g170 g171 g172 g173 g174 g175 g176 g177 g178 g179 g180 g181 g182 g183 g184 g185 g186 g187 g188 g189 g190 g191 g192 g193 g194 g195 g196 g197 g198 g199 g200 g201 g202 g203 g204 g205 g206 g207 g208 g209 g210 g211 g212 g213 g214 g215 g216 g217 g218 g219 g220 g221 g222 g223 g224 g225 g226 g227 g228 g229 g230 g231 g232 g233 g234 g235 g236 g237 g238 g239 g240 g241 g242 g243 g244 g245 g246 g247 g248 g249 g250 g251 g252 g253 g254 g255 g256 g257 g258 g259 g260 g261 g262,TakP S y x c r m mk gm l e C mf gf gl b N 16→R (.exit 0) (g0::(.d (.sl (steps.map encStpA)))::v2::(.ref 0 0 0)::g4::g5::g6::(.ref y 0 0)::i'::g9::gM::gE::gC::gF::gB::gA::gD::gH::gK::gI::gJ::gN::gL::gG::gO::gP::gR::gQ::gU::gS::gT::gV::gW::gX::gY::gZ::gh::gj::gk::gn::gr::gz::hH::hU::hY::hZ::xA::xB::xC::xD::xE::xF::xG::xH::xI::xJ::xK::xL::xM::xN::xO::xP::xQ::xR::xS::xT::xU::xV::xW::xX::xY::xZ::g72::g73::g74::g75::g76::g77::g78::g79::g80::g81::g82::g83::g84::g85::g86::g87::g88::g89::g90::g91::g92::g93::g94::g95::g96::g97::g98::g99::g100::g101::g102::g103::g104::g105::g106::g107::g108::g109::g110::g111::g112::g113::g114::g115::g116::g117::g118::g119::g120::g121::g122::g123::g124::g125::g126::g127::g128::g129::g130::g131::g132::g133::g134::g135::g136::g137::g138::g139::g140::g141::g142::g143::g144::g145::g146::g147::g148::g149::g150::g151::g152::g153::g154::g155::g156::g157::g158::g159::g160::g161::g162::g163::g164::g165::g166::g167::g168::g169::g170::g171::g172::g173::g174::g175::g176::g177::g178::g179::g180::g181::g182::g183::g184::g185::g186::g187::g188::g189::g190::g191::g192::g193::g194::g195::g196::g197::g198::g199::g200::g201::g202::g203::g204::g205::g206::g207::g208::g209::g210::g211::g212::g213::g214::g215::g216::g217::g218::g219::g220::g221::g222::g223::g224::g225::g226::g227::g228::g229::g230::g231::g232::g233::g234::g235::g236::g237::g238::g239::g240::g241::g242::g243::g244::g245::g246::g247::g248::g249::g250::g251::g252::g253::g254::g255::g256::g257::g258::g259::g260::g261::g262::[]) S []) →
 Wp cfg (.loop (lpOf (Tryz.f6.body.getD .skip) 0)) (g0::(.d (.sl (steps.map encStpA)))::v2::(.ref 0 0 0)::g4::g5::g6::(.ref y 0 0)::(.d (.int .i64 (i:Int)))::g9::gM::gE::gC::gF::gB::gA::gD::gH::gK::gI::gJ::gN::gL::gG::gO::gP::gR::gQ::gU::gS::gT::gV::gW::gX::gY::gZ::gh::gj::gk::gn::gr::gz::hH::hU::hY::hZ::xA::xB::xC::xD::xE::xF::xG::xH::xI::xJ::xK::xL::xM::xN::xO::xP::xQ::xR::xS::xT::xU::xV::xW::xX::xY::xZ::g72::g73::g74::g75::g76::g77::g78::g79::g80::g81::g82::g83::g84::g85::g86::g87::g88::g89::g90::g91::g92::g93::g94::g95::g96::g97::g98::g99::g100::g101::g102::g103::g104::g105::g106::g107::g108::g109::g110::g111::g112::g113::g114::g115::g116::g117::g118::g119::g120::g121::g122::g123::g124::g125::g126::g127::g128::g129::g130::g131::g132::g133::g134::g135::g136::g137::g138::g139::g140::g141::g142::g143::g144::g145::g146::g147::g148::g149::g150::g151::g152::g153::g154::g155::g156::g157::g158::g159::g160::g161::g162::g163::g164::g165::g166::g167::g168::g169::g170::g171::g172::g173::g174::g175::g176::g177::g178::g179::g180::g181::g182::g183::g184::g185::g186::g187::g188::g189::g190::g191::g192::g193::g194::g195::g196::g197::g198::g199::g200::g201::g202::g203::g204::g205::g206::g207::g208::g209::g210::g211::g212::g213::g214::g215::g216::g217::g218::g219::g220::g221::g222::g223::g224::g225::g226::g227::g228::g229::g230::g231::g232::g233::g234::g235::g236::g237::g238::g239::g240::g241::g242::g243::g244::g245::g246::g247::g248::g249::g250::g251::g252::g253::g254::g255::g256::g257::g258::g259::g260::g261::g262::[]) S [] R:=by
 intro k
 have hln:=fun S=>lnA (S:=S) (l:=steps)
 induction k with
 | zero =>
  intro i S e C gf gl g0 g4 g5 g6 g9 gM gE gC gF gB gA gD gH gK gI gJ gN gL gG gO gP gR gQ gU gS gT gV gW gX gY gZ gh gj gk gn gr gz hH hU hY hZ xA xB xC xD xE xF xG xH xI xJ xK xL xM xN xO xP xQ xR xS xT xU xV xW xX xY xZ g72 g73 g74 g75 g76 g77 g78 g79 g80 g81 g82 g83 g84 g85 g86 g87 g88 g89 g90 g91 g92 g93 g94 g95 g96 g97 g98 g99 g100 g101 g102 g103 g104 g105 g106 g107 g108 g109 g110 g111 g112 g113 g114 g115 g116 g117 g118 g119 g120 g121 g122 g123 g124 g125 g126 g127 g128 g129 g130 g131 g132 g133 g134 g135 g136 g137 g138 g139 g140 g141 g142 g143 g144 g145 g146 g147 g148 g149 g150 g151 g152 g153 g154 g155 g156 g157 g158 g159 g160 g161 g162 g163 g164 g165 g166 g167 g168 g169 g170 g171 g172 g173 g174 g175 g176 g177 g178 g179 g180 g181 g182 g183 g184 g185 g186 g187 g188 g189 g190 g191 g192 g193 g194 g195 g196 g197 g198 g199 g200 g201 g202 g203 g204 g205 g206 g207 g208 g209 g210 g211 g212 g213 g214 g215 g216 g217 g218 g219 g220 g221 g222 g223 g224 g225 g226 g227 g228 g229 g230 g231 g232 g233 g234 g235 g236 g237 g238 g239 g240 g241 g242 g243 g244 g245 g246 g247 g248 g249 g250 g251 g252 g253 g254 g255 g256 g257 g258 g259 g260 g261 g262 hk hi2 hT hR
  have hie:i=steps.length:=by omega
  subst hie
  rw [zO]
  refine zK ?_
  conv=>arg 2; whnf
  simp (maxSteps:=1000000) (disch:=first|assumption|omega|rfl) only [↓gp,gc,Nat.reduceAdd,hln]
  exact hR _ e C gf gl _ _ _ _ _ _ _ _ _ _ _ _ _ _ _ _ _ _ _ _ _ _ _ _ _ _ _ _ _ _ _ _ _ _ _ _ _ _ _ _ _ _ _ _ _ _ _ _ _ _ _ _ _ _ _ _ _ _ _ _ _ _ _ _ _ _ _ _ _ _ _ _ _ _ _ _ _ _ _ _ _ _ _ _ _ _ _ _ _ _ _ _ _ _ _ _ _ _ _ _ _ _ _ _ _ _ _ _ _ _ _ _ _ _ _ _ _ _ _ _ _ _ _ _ _ _ _ _ _ _ _ _ _ _ _ _ _ _ _ _ _ _ _ _ _ _ _ _ _ _ _ _ _ _ _ _ _ _ _ _ _ _ _ _ _ _ _ _ _ _ _ _ _ _ _ _ _ _ _ _ _ _ _ _ _ _ _ _ _ _ _ _ _ _ _ _ _ _ _ _ _ _ _ _ _ _ _ _ _ _ _ _ _ _ _ _ _ _ _ _ _ _ _ _ _ _ _ _ _ _ _ _ _ _ _ _ _ _ _ _ _ _ _ _ _ _ _ _ _ _ _ _ _ _ _ _ _ _ _ ⟨hT.al,hT.h0,hT.inv,by have:=hT.las; omega,hT.img⟩
 | succ k ih =>
  intro i S e C gf gl g0 g4 g5 g6 g9 gM gE gC gF gB gA gD gH gK gI gJ gN gL gG gO gP gR gQ gU gS gT gV gW gX gY gZ gh gj gk gn gr gz hH hU hY hZ xA xB xC xD xE xF xG xH xI xJ xK xL xM xN xO xP xQ xR xS xT xU xV xW xX xY xZ g72 g73 g74 g75 g76 g77 g78 g79 g80 g81 g82 g83 g84 g85 g86 g87 g88 g89 g90 g91 g92 g93 g94 g95 g96 g97 g98 g99 g100 g101 g102 g103 g104 g105 g106 g107 g108 g109 g110 g111 g112 g113 g114 g115 g116 g117 g118 g119 g120 g121 g122 g123 g124 g125 g126 g127 g128 g129 g130 g131 g132 g133 g134 g135 g136 g137 g138 g139 g140 g141 g142 g143 g144 g145 g146 g147 g148 g149 g150 g151 g152 g153 g154 g155 g156 g157 g158 g159 g160 g161 g162 g163 g164 g165 g166 g167 g168 g169 g170 g171 g172 g173 g174 g175 g176 g177 g178 g179 g180 g181 g182 g183 g184 g185 g186 g187 g188 g189 g190 g191 g192 g193 g194 g195 g196 g197 g198 g199 g200 g201 g202 g203 g204 g205 g206 g207 g208 g209 g210 g211 g212 g213 g214 g215 g216 g217 g218 g219 g220 g221 g222 g223 g224 g225 g226 g227 g228 g229 g230 g231 g232 g233 g234 g235 g236 g237 g238 g239 g240 g241 g242 g243 g244 g245 g246 g247 g248 g249 g250 g251 g252 g253 g254 g255 g256 g257 g258 g259 g260 g261 g262 hk hi2 hT hR
  have hlt:i < steps.length:=by omega
  have h3:IntKind.i64.wrap ((i:Int) + 1)=((i + 1:Nat):Int):=by rw [wrap64 (by omega)]; omega
  have hix:=fun S=>ixA (S:=S) hlt
  have hlas:=hT.las
  obtain ⟨o,S2,⟨rfl,hF2,e',C',gf',gl',hA2,hinv2,q1,q2,q3⟩,hE2⟩:=zZ (zy6 S y x c r m mk gm l e C mf gf gl b hT.al hbb hb hi hm D hD N hN steps[i] (hsn _ (List.getElem_mem hlt)) hT.inv (by omega))
  have hgo:=fun {ops dst k T F Q}=>zD (ops:=ops) (dst:=dst) (l:=k) (T:=T) (F:=F) (Q:=Q) rfl hE2
  rw [zO]
  refine zK ?_
  conv=>arg 2; whnf
  simp (maxSteps:=1000000) (disch:=first|assumption|omega|rfl) only [↓gp,gc,Nat.reduceAdd,hln,hix,pldA,hgo,bo40,h3]
  exact ih (i + 1) S2 e' C' gf' gl' _ _ _ _ _ _ _ _ _ _ _ _ _ _ _ _ _ _ _ _ _ _ _ _ _ _ _ _ _ _ _ _ _ _ _ _ _ _ _ _ _ _ _ _ _ _ _ _ _ _ _ _ _ _ _ _ _ _ _ _ _ _ _ _ _ _ _ _ _ _ _ _ _ _ _ _ _ _ _ _ _ _ _ _ _ _ _ _ _ _ _ _ _ _ _ _ _ _ _ _ _ _ _ _ _ _ _ _ _ _ _ _ _ _ _ _ _ _ _ _ _ _ _ _ _ _ _ _ _ _ _ _ _ _ _ _ _ _ _ _ _ _ _ _ _ _ _ _ _ _ _ _ _ _ _ _ _ _ _ _ _ _ _ _ _ _ _ _ _ _ _ _ _ _ _ _ _ _ _ _ _ _ _ _ _ _ _ _ _ _ _ _ _ _ _ _ _ _ _ _ _ _ _ _ _ _ _ _ _ _ _ _ _ _ _ _ _ _ _ _ _ _ _ _ _ _ _ _ _ _ _ _ _ _ _ _ _ _ _ _ _ _ _ _ _ _ _ _ _ _ _ _ _ _ _ _ _ _ (by omega) (by omega) ⟨hA2,hF2.row hT.h0 rfl,hinv2,by omega,by rw [q3]; exact hT.img⟩ hR
def badN (n:Int) (l:List Int):Bool:=l.any fun x=>decide (x < 0 ∨ x > n + 1)
theorem zmd {n x:Int} {l:List Int}:badN n (l ++ [x])=(badN n l || decide (x < 0 ∨ x > n + 1)):=by unfold badN; rw [List.any_append]; simp
theorem q1a (needs:List Int) (hnl:needs.length ≤ 10) (n:Int) (hn:0 ≤ n∧n ≤ 100000) (bad0:Bool) (S:zA) (x1 x3 x7 x10 x11 x12 x13:V) (R:Post) :
 ∀ (k i:Nat) (g0 g4 g5 g6 g8 g9 gH gK gI gJ gN gL gG gO gP gR gQ gU gS gT gV gW gX gY gZ gh gj gk gn gr gz hH hU hY hZ xA xB xC xD xE xF xG xH xI xJ xK xL xM xN xO xP xQ xR xS xT xU xV xW xX xY xZ g72 g73 g74 g75 g76 g77 g78 g79 g80 g81 g82 g83 g84 g85 g86 g87 g88 g89 g90 g91 g92 g93 g94 g95 g96 g97 g98 g99 g100 g101 g102 g103 g104 g105 g106 g107 g108 g109 g110 g111 g112 g113 g114 g115 g116 g117 g118 g119 g120 g121 g122 g123 g124 g125 g126 g127 g128 g129 g130 g131 g132 g133 g134 g135 g136 g137 g138 g139 g140 g141 g142 g143 g144 g145 g146 g147 g148 g149 g150 g151 g152 g153 g154 g155 g156 g157 g158 g159 g160 g161 g162 g163 g164 g165 g166 g167 g168 g169 g170 g171 g172 g173 g174 g175 g176 g177 g178 g179 g180 g181 g182 g183 g184 g185 g186 g187 g188 g189 g190 g191 g192 g193 g194 g195 g196 g197 g198 g199 g200 g201 g202 g203 g204 g205 g206 g207 g208 g209 g210 g211 g212 g213 g214 g215 g216 g217 g218 g219 g220 g221 g222 g223 g224 g225 g226 g227 g228 g229 g230 g231 g232 g233 g234 g235 g236 g237 g238 g239 g240 g241 g242 g243 g244 g245 g246 g247 g248 g249 g250 g251 g252 g253 g254 g255 g256 g257 g258 g259 g260 g261 g262:V),needs.length - i=k→i ≤ needs.length →
 (∀ i' g0 g4 g5 g6 g8 g9 gH gK gI gJ gN gL gG gO gP gR gQ gU gS gT gV gW gX gY gZ gh gj gk gn gr gz hH hU hY hZ xA xB xC xD xE xF xG xH xI xJ xK xL xM xN xO xP xQ xR xS xT xU xV xW xX xY xZ g72 g73 g74 g75 g76 g77 g78 g79 g80 g81 g82 g83 g84 g85 g86 g87 g88 g89 g90 g91 g92 g93 g94 g95 g96 g97 g98 g99 g100 g101 g102 g103 g104 g105 g106 g107 g108 g109 g110 g111 g112 g113 g114 g115 g116 g117 g118 g119 g120 g121 g122 g123 g124 g125 g126 g127 g128 g129 g130 g131 g132 g133 g134 g135 g136 g137 g138 g139 g140 g141 g142 g143 g144 g145 g146 g147 g148 g149 g150 g151 g152 g153 g154 g155 g156 g157 g158 g159 g160 g161 g162 g163 g164 g165 g166 g167 g168 g169 g170 g171 g172 g173 g174 g175 g176 g177 g178 g179 g180 g181 g182 g183 g184 g185 g186 g187 g188 g189 g190 g191 g192 g193 g194 g195 g196 g197 g198 g199 g200 g201 g202 g203 g204 g205 g206 g207 g208 g209 g210 g211 g212 g213 g214 g215 g216 g217 g218 g219 g220 g221 g222 g223 g224 g225 g226 g227 g228 g229 g230 g231 g232 g233 g234 g235 g236 g237 g238 g239 g240 g241 g242 g243 g244 g245 g246 g247 g248 g249 g250 g251 g252 g253 g254 g255 g256 g257 g258 g259 g260 g261 g262,R (.exit 2) (g0::x1::(.d (encI needs))::x3::g4::g5::g6::x7::g8::g9::x10::x11::x12::x13::(.d (.int .i64 n))::(.d (.bool (bad0 || badN n needs)))::i'::gH::gK::gI::gJ::gN::gL::gG::gO::gP::gR::gQ::gU::gS::gT::gV::gW::gX::gY::gZ::gh::gj::gk::gn::gr::gz::hH::hU::hY::hZ::xA::xB::xC::xD::xE::xF::xG::xH::xI::xJ::xK::xL::xM::xN::xO::xP::xQ::xR::xS::xT::xU::xV::xW::xX::xY::xZ::g72::g73::g74::g75::g76::g77::g78::g79::g80::g81::g82::g83::g84::g85::g86::g87::g88::g89::g90::g91::g92::g93::g94::g95::g96::g97::g98::g99::g100::g101::g102::g103::g104::g105::g106::g107::g108::g109::g110::g111::g112::g113::g114::g115::g116::g117::g118::g119::g120::g121::g122::g123::g124::g125::g126::g127::g128::g129::g130::g131::g132::g133::g134::g135::g136::g137::g138::g139::g140::g141::g142::g143::g144::g145::g146::g147::g148::g149::g150::g151::g152::g153::g154::g155::g156::g157::g158::g159::g160::g161::g162::g163::g164::g165::g166::g167::g168::g169::g170::g171::g172::g173::g174::g175::g176::g177::g178::g179::g180::g181::g182::g183::g184::g185::g186::g187::g188::g189::g190::g191::g192::g193::g194::g195::g196::g197::g198::g199::g200::g201::g202::g203::g204::g205::g206::g207::g208::g209::g210::g211::g212::g213::g214::g215::g216::g217::g218::g219::g220::g221::g222::g223::g224::g225::g226::g227::g228::g229::g230::g231::g232::g233::g234::g235::g236::g237::g238::g239::g240::g241::g242::g243::g244::g245::g246::g247::g248::g249::g250::g251::g252::g253::g254::g255::g256::g257::g258::g259::g260::g261::g262::[]) S []) →
 Wp cfg (.loop (lpOf (Tryz.f6.body.getD .skip) 2)) (g0::x1::(.d (encI needs))::x3::g4::g5::g6::x7::g8::g9::x10::x11::x12::x13::(.d (.int .i64 n))::(.d (.bool (bad0 || badN n (needs.take i))))::(.d (.int .i64 (i:Int)))::gH::gK::gI::gJ::gN::gL::gG::gO::gP::gR::gQ::gU::gS::gT::gV::gW::gX::gY::gZ::gh::gj::gk::gn::gr::gz::hH::hU::hY::hZ::xA::xB::xC::xD::xE::xF::xG::xH::xI::xJ::xK::xL::xM::xN::xO::xP::xQ::xR::xS::xT::xU::xV::xW::xX::xY::xZ::g72::g73::g74::g75::g76::g77::g78::g79::g80::g81::g82::g83::g84::g85::g86::g87::g88::g89::g90::g91::g92::g93::g94::g95::g96::g97::g98::g99::g100::g101::g102::g103::g104::g105::g106::g107::g108::g109::g110::g111::g112::g113::g114::g115::g116::g117::g118::g119::g120::g121::g122::g123::g124::g125::g126::g127::g128::g129::g130::g131::g132::g133::g134::g135::g136::g137::g138::g139::g140::g141::g142::g143::g144::g145::g146::g147::g148::g149::g150::g151::g152::g153::g154::g155::g156::g157::g158::g159::g160::g161::g162::g163::g164::g165::g166::g167::g168::g169::g170::g171::g172::g173::g174::g175::g176::g177::g178::g179::g180::g181::g182::g183::g184::g185::g186::g187::g188::g189::g190::g191::g192::g193::g194::g195::g196::g197::g198::g199::g200::g201::g202::g203::g204::g205::g206::g207::g208::g209::g210::g211::g212::g213::g214::g215::g216::g217::g218::g219::g220::g221::g222::g223::g224::g225::g226::g227::g228::g229::g230::g231::g232::g233::g234::g235::g236::g237::g238::g239::g240::g241::g242::g243::g244::g245::g246::g247::g248::g249::g250::g251::g252::g253::g254::g255::g256::g257::g258::g259::g260::g261::g262::[]) S [] R:=by
 intro k
 have hln:=lnI (S:=S) (l:=needs)
 induction k with
 | zero =>
  intro i g0 g4 g5 g6 g8 g9 gH gK gI gJ gN gL gG gO gP gR gQ gU gS gT gV gW gX gY gZ gh gj gk gn gr gz hH hU hY hZ xA xB xC xD xE xF xG xH xI xJ xK xL xM xN xO xP xQ xR xS xT xU xV xW xX xY xZ g72 g73 g74 g75 g76 g77 g78 g79 g80 g81 g82 g83 g84 g85 g86 g87 g88 g89 g90 g91 g92 g93 g94 g95 g96 g97 g98 g99 g100 g101 g102 g103 g104 g105 g106 g107 g108 g109 g110 g111 g112 g113 g114 g115 g116 g117 g118 g119 g120 g121 g122 g123 g124 g125 g126 g127 g128 g129 g130 g131 g132 g133 g134 g135 g136 g137 g138 g139 g140 g141 g142 g143 g144 g145 g146 g147 g148 g149 g150 g151 g152 g153 g154 g155 g156 g157 g158 g159 g160 g161 g162 g163 g164 g165 g166 g167 g168 g169 g170 g171 g172 g173 g174 g175 g176 g177 g178 g179 g180 g181 g182 g183 g184 g185 g186 g187 g188 g189 g190 g191 g192 g193 g194 g195 g196 g197 g198 g199 g200 g201 g202 g203 g204 g205 g206 g207 g208 g209 g210 g211 g212 g213 g214 g215 g216 g217 g218 g219 g220 g221 g222 g223 g224 g225 g226 g227 g228 g229 g230 g231 g232 g233 g234 g235 g236 g237 g238 g239 g240 g241 g242 g243 g244 g245 g246 g247 g248 g249 g250 g251 g252 g253 g254 g255 g256 g257 g258 g259 g260 g261 g262 hk hi2 hR
  have hie:i=needs.length:=by omega
  subst hie
  rw [List.take_length]
  rw [zO]
  refine zK ?_
  conv=>arg 2; whnf
  simp (maxSteps:=1000000) (disch:=first|assumption|omega|rfl) only [↓gp,gc,Nat.reduceAdd,hln]
  exact hR _ _ _ _ _ _ _ _ _ _ _ _ _ _ _ _ _ _ _ _ _ _ _ _ _ _ _ _ _ _ _ _ _ _ _ _ _ _ _ _ _ _ _ _ _ _ _ _ _ _ _ _ _ _ _ _ _ _ _ _ _ _ _ _ _ _ _ _ _ _ _ _ _ _ _ _ _ _ _ _ _ _ _ _ _ _ _ _ _ _ _ _ _ _ _ _ _ _ _ _ _ _ _ _ _ _ _ _ _ _ _ _ _ _ _ _ _ _ _ _ _ _ _ _ _ _ _ _ _ _ _ _ _ _ _ _ _ _ _ _ _ _ _ _ _ _ _ _ _ _ _ _ _ _ _ _ _ _ _ _ _ _ _ _ _ _ _ _ _ _ _ _ _ _ _ _ _ _ _ _ _ _ _ _ _ _ _ _ _ _ _ _ _ _ _ _ _ _ _ _ _ _ _ _ _ _ _ _ _ _ _ _ _ _ _ _ _ _ _ _ _ _ _ _ _ _ _ _ _ _ _ _ _ _ _ _ _ _ _ _ _ _ _ _ _ _ _ _ _ _ _ _ _
 | succ k ih =>
  intro i g0 g4 g5 g6 g8 g9 gH gK gI gJ gN gL gG gO gP gR gQ gU gS gT gV gW gX gY gZ gh gj gk gn gr gz hH hU hY hZ xA xB xC xD xE xF xG xH xI xJ xK xL xM xN xO xP xQ xR xS xT xU xV xW xX xY xZ g72 g73 g74 g75 g76 g77 g78 g79 g80 g81 g82 g83 g84 g85 g86 g87 g88 g89 g90 g91 g92 g93 g94 g95 g96 g97 g98 g99 g100 g101 g102 g103 g104 g105 g106 g107 g108 g109 g110 g111 g112 g113 g114 g115 g116 g117 g118 g119 g120 g121 g122 g123 g124 g125 g126 g127 g128 g129 g130 g131 g132 g133 g134 g135 g136 g137 g138 g139 g140 g141 g142 g143 g144 g145 g146 g147 g148 g149 g150 g151 g152 g153 g154 g155 g156 g157 g158 g159 g160 g161 g162 g163 g164 g165 g166 g167 g168 g169 g170 g171 g172 g173 g174 g175 g176 g177 g178 g179 g180 g181 g182 g183 g184 g185 g186 g187 g188 g189 g190 g191 g192 g193 g194 g195 g196 g197 g198 g199 g200 g201 g202 g203 g204 g205 g206 g207 g208 g209 g210 g211 g212 g213 g214 g215 g216 g217 g218 g219 g220 g221 g222 g223 g224 g225 g226 g227 g228 g229 g230 g231 g232 g233 g234 g235 g236 g237 g238 g239 g240 g241 g242 g243 g244 g245 g246 g247 g248 g249 g250 g251 g252 g253 g254 g255 g256 g257 g258 g259 g260 g261 g262 hk hi2 hR
  have hlt:i < needs.length:=by omega
  have h3:IntKind.i64.wrap ((i:Int) + 1)=((i + 1:Nat):Int):=by rw [wrap64 (by omega)]; omega
  have hix:=ixI (S:=S) hlt
  have hw:IntKind.i64.wrap (n + 1)=n + 1:=wrap64 (by omega)
  have hsn:badN n (needs.take (i + 1))=(badN n (needs.take i) || decide (needs[i] < 0 ∨ needs[i] > n + 1)):=by rw [kD hlt,zmd]
  have hI:=ih (i + 1)
  rw [hsn,← Bool.or_assoc] at hI
  rw [zO]
  refine zK ?_
  conv=>arg 2; whnf
  cases hb:(bad0 || badN n (needs.take i)) with
  | true =>
   rw [hb,Bool.true_or] at hI
   simp (maxSteps:=1000000) (disch:=first|assumption|omega|rfl) only [↓gp,gc,Nat.reduceAdd,hln,hix,ldI3,hw,h3]
   exact hI _ _ _ _ _ _ _ _ _ _ _ _ _ _ _ _ _ _ _ _ _ _ _ _ _ _ _ _ _ _ _ _ _ _ _ _ _ _ _ _ _ _ _ _ _ _ _ _ _ _ _ _ _ _ _ _ _ _ _ _ _ _ _ _ _ _ _ _ _ _ _ _ _ _ _ _ _ _ _ _ _ _ _ _ _ _ _ _ _ _ _ _ _ _ _ _ _ _ _ _ _ _ _ _ _ _ _ _ _ _ _ _ _ _ _ _ _ _ _ _ _ _ _ _ _ _ _ _ _ _ _ _ _ _ _ _ _ _ _ _ _ _ _ _ _ _ _ _ _ _ _ _ _ _ _ _ _ _ _ _ _ _ _ _ _ _ _ _ _ _ _ _ _ _ _ _ _ _ _ _ _ _ _ _ _ _ _ _ _ _ _ _ _ _ _ _ _ _ _ _ _ _ _ _ _ _ _ _ _ _ _ _ _ _ _ _ _ _ _ _ _ _ _ _ _ _ _ _ _ _ _ _ _ _ _ _ _ _ _ _ _ _ _ _ _ _ _ _ _ _ _ _ (by omega) (by omega) hR
  | false =>
   rw [hb,Bool.false_or] at hI
   by_cases c1:needs[i] < 0
   ·rw [decide_eq_true (Or.inl c1)] at hI
    simp (maxSteps:=1000000) (disch:=first|assumption|omega|rfl) only [↓gp,gc,Nat.reduceAdd,hln,hix,ldI3,hw,h3,zN]
    exact hI _ _ _ _ _ _ _ _ _ _ _ _ _ _ _ _ _ _ _ _ _ _ _ _ _ _ _ _ _ _ _ _ _ _ _ _ _ _ _ _ _ _ _ _ _ _ _ _ _ _ _ _ _ _ _ _ _ _ _ _ _ _ _ _ _ _ _ _ _ _ _ _ _ _ _ _ _ _ _ _ _ _ _ _ _ _ _ _ _ _ _ _ _ _ _ _ _ _ _ _ _ _ _ _ _ _ _ _ _ _ _ _ _ _ _ _ _ _ _ _ _ _ _ _ _ _ _ _ _ _ _ _ _ _ _ _ _ _ _ _ _ _ _ _ _ _ _ _ _ _ _ _ _ _ _ _ _ _ _ _ _ _ _ _ _ _ _ _ _ _ _ _ _ _ _ _ _ _ _ _ _ _ _ _ _ _ _ _ _ _ _ _ _ _ _ _ _ _ _ _ _ _ _ _ _ _ _ _ _ _ _ _ _ _ _ _ _ _ _ _ _ _ _ _ _ _ _ _ _ _ _ _ _ _ _ _ _ _ _ _ _ _ _ _ _ _ _ _ _ _ _ _ (by omega) (by omega) hR
   ·by_cases c2:needs[i] > n + 1
    ·rw [decide_eq_true (Or.inr c2)] at hI
     simp (maxSteps:=1000000) (disch:=first|assumption|omega|rfl) only [↓gp,gc,Nat.reduceAdd,hln,hix,ldI3,hw,h3,zN]
     exact hI _ _ _ _ _ _ _ _ _ _ _ _ _ _ _ _ _ _ _ _ _ _ _ _ _ _ _ _ _ _ _ _ _ _ _ _ _ _ _ _ _ _ _ _ _ _ _ _ _ _ _ _ _ _ _ _ _ _ _ _ _ _ _ _ _ _ _ _ _ _ _ _ _ _ _ _ _ _ _ _ _ _ _ _ _ _ _ _ _ _ _ _ _ _ _ _ _ _ _ _ _ _ _ _ _ _ _ _ _ _ _ _ _ _ _ _ _ _ _ _ _ _ _ _ _ _ _ _ _ _ _ _ _ _ _ _ _ _ _ _ _ _ _ _ _ _ _ _ _ _ _ _ _ _ _ _ _ _ _ _ _ _ _ _ _ _ _ _ _ _ _ _ _ _ _ _ _ _ _ _ _ _ _ _ _ _ _ _ _ _ _ _ _ _ _ _ _ _ _ _ _ _ _ _ _ _ _ _ _ _ _ _ _ _ _ _ _ _ _ _ _ _ _ _ _ _ _ _ _ _ _ _ _ _ _ _ _ _ _ _ _ _ _ _ _ _ _ _ _ _ _ _ (by omega) (by omega) hR
    ·rw [decide_eq_false (by omega)] at hI
     simp (maxSteps:=1000000) (disch:=first|assumption|omega|rfl) only [↓gp,gc,Nat.reduceAdd,hln,hix,ldI3,hw,h3,zN]
     exact hI _ _ _ _ _ _ _ _ _ _ _ _ _ _ _ _ _ _ _ _ _ _ _ _ _ _ _ _ _ _ _ _ _ _ _ _ _ _ _ _ _ _ _ _ _ _ _ _ _ _ _ _ _ _ _ _ _ _ _ _ _ _ _ _ _ _ _ _ _ _ _ _ _ _ _ _ _ _ _ _ _ _ _ _ _ _ _ _ _ _ _ _ _ _ _ _ _ _ _ _ _ _ _ _ _ _ _ _ _ _ _ _ _ _ _ _ _ _ _ _ _ _ _ _ _ _ _ _ _ _ _ _ _ _ _ _ _ _ _ _ _ _ _ _ _ _ _ _ _ _ _ _ _ _ _ _ _ _ _ _ _ _ _ _ _ _ _ _ _ _ _ _ _ _ _ _ _ _ _ _ _ _ _ _ _ _ _ _ _ _ _ _ _ _ _ _ _ _ _ _ _ _ _ _ _ _ _ _ _ _ _ _ _ _ _ _ _ _ _ _ _ _ _ _ _ _ _ _ _ _ _ _ _ _ _ _ _ _ _ _ _ _ _ _ _ _ _ _ _ _ _ _ (by omega) (by omega) hR
theorem kX {ops:Array Oper} {dst:Option Tmp} {k:List Oper} {T:List V} {S:zA} {F:Dfs} {Q:Post}:WpR cfg ops dst k T S F Q (some (.enter 17 []))=WpL cfg ops k (putT T dst (.d (.bool true))) S F Q:=qI (ds:=[]) rfl zfm
theorem zv2 {l:Lay} (hm:MayL l) (h60:l.blocks ≤ 60) (hM:0 ≤ l.merge∧l.merge < 18446744073709551616) : ∃ B I M K:Nat,l=⟨(B:Int),(I:Int),(M:Int)⟩∧2 + l.inodes.tdiv 8=((2 + K:Nat):Int)∧B ≤ 60∧I ≤ 128∧8 ≤ I∧M < 18446744073709551616∧K ≤ 16∧2 + K < B∧2 + I / 8 ≤ B:=by
 obtain ⟨m1,m2,m3,m4,m5,m6⟩:=hm
 have htd:l.inodes.tdiv 8=l.inodes / 8:=Int.tdiv_eq_ediv_of_nonneg (by omega)
 have htm:l.inodes.tmod 8=l.inodes % 8:=Int.tmod_eq_emod_of_nonneg (by omega)
 rw [htd] at m6
 rw [htm] at m5
 refine ⟨l.blocks.toNat,l.inodes.toNat,l.merge.toNat,(l.inodes / 8).toNat,?_,by rw [htd]; omega,by omega,by omega,by omega,by omega,by omega,by omega,by omega⟩
 cases l
 simp only [Lay.mk.injEq]
 simp only at m1 m3 hM
 omega
theorem extZ_ok:z6i cfg:=by
 intro f g h ds o ho
 cases h
theorem catchZ_ok:zbu cfg:=fun f post h=>by cases h
section
variable {C:CS} {no:Nat} {bb:List UInt8} {gs ids:List Int}
theorem zos (hb:badN (C.last:Int) ids=true):takE C no bb gs ids ≠ 0:=by
 unfold badN at hb
 rw [List.any_eq_true] at hb
 obtain ⟨x,hx,hb⟩:=hb
 rw [decide_eq_true_eq] at hb
 intro h
 have:=(zfr h).2.1
 unfold putE at this
 have hn:x ∈ noZ (wK (bitC C no true []).list gs ++ ids):=List.mem_filter.2 ⟨List.mem_append_right _ hx,by simp; omega⟩
 by_cases hp:kM 0 bb
 ·rw [if_neg (fun hh=>hh hp)] at this
  by_cases hr : ∀ x ∈ noZ (wK (bitC C no true []).list gs ++ ids),1 ≤ x∧x ≤ (((bitC C no true []).last:Nat):Int)
  ·have h1:=hr x hn
   have e:(bitC C no true []).last=C.last + 1:=rfl
   rw [e] at h1
   omega
  ·rw [if_pos hr] at this; cases this
 ·rw [if_pos hp] at this; cases this
theorem zgm {l:List Chg} {x:Int}:x ∈ wK l gs ↔ (∃ ch ∈ l,ch.id=x)∧x ∈ gs:=by
 unfold wK
 rw [List.mem_map]
 constructor
 ·rintro ⟨ch,h,rfl⟩
  obtain ⟨h1,h2⟩:=List.mem_filter.1 h
  exact ⟨⟨ch,h1,rfl⟩,by simpa using h2⟩
 ·rintro ⟨⟨ch,h1,rfl⟩,h2⟩
  exact ⟨ch,List.mem_filter.2 ⟨h1,by simpa using h2⟩,rfl⟩
theorem z4t:(bitC C no true []).list=C.list ++ [⟨(C.last:Int) + 1,1,((no / 8:Nat):Int),bitP C no true,z28 C []⟩]:=rfl
theorem zly:z28 C []=[]:=by unfold z28; simp
theorem zcq (h : ∀ x ∈ gs,x ≤ (C.last:Int)):wK (bitC C no true []).list gs=wK C.list gs:=by
 rw [z4t,z9z,if_neg,List.append_nil]
 intro hh
 have:=h _ hh
 simp only at this
 omega
theorem zpv (hC:C.Ok) (hb:badN (C.last:Int) ids=false) (h : ∀ x ∈ gs,x ≤ (C.last:Int)) : ∀ x ∈ noZ (wK (bitC C no true []).list gs ++ ids),1 ≤ x∧x ≤ (C.last:Int) + 1:=by
 intro x hx
 rw [zcq h] at hx
 obtain ⟨h1,h2⟩:=List.mem_filter.1 hx
 have h2:x ≠ 0:=by simpa using h2
 rcases List.mem_append.1 h1 with h1 | h1
 ·obtain ⟨⟨ch,hch,rfl⟩,_⟩:=zgm.1 h1
  obtain ⟨_,_,_,g4,g5,_⟩:=hC.chs ch hch
  exact ⟨g4,by omega⟩
 ·unfold badN at hb
  rw [List.any_eq_false] at hb
  have:=hb x h1
  rw [decide_eq_true_eq] at this
  omega
def nd2 (C:CS) (no:Nat) (gs ids:List Int):List Int:=z28 (bitC C no true []) (noZ (wK (bitC C no true []).list gs ++ ids))
theorem zsx (hC:C.Ok) (h : ∀ x ∈ gs,x ≤ (C.last:Int)):(∀ x ∈ wK C.list gs,x ∈ nd2 C no gs ids) ∧ ∀ x ∈ nd2 C no gs ids,x ∈ wK C.list gs ∨ x ∈ ids:=by
 unfold nd2 z28
 rw [zcq h]
 constructor
 ·intro x hx
  obtain ⟨⟨ch,hch,rfl⟩,_⟩:=zgm.1 hx
  obtain ⟨_,_,_,g4,g5,_⟩:=hC.chs ch hch
  refine List.mem_filter.2 ⟨List.mem_map.2 ⟨ch,?_,rfl⟩,?_⟩
  ·rw [z4t]; exact List.mem_append_left _ hch
  ·rw [decide_eq_true_eq]
   exact List.mem_filter.2 ⟨List.mem_append_left _ hx,by simp; omega⟩
 ·intro x hx
  have:=(List.mem_filter.1 hx).2
  rw [decide_eq_true_eq] at this
  exact List.mem_append.1 (List.mem_filter.1 this).1
end
section
variable {n a b c:Int} {id m d x y:Nat} {nv dv:V} {bs:List UInt8}
theorem srRd:qW Tryz.prog 94 0 (.d (patD n bs)) (.agg [.d (.int .i64 0),.ts []])=some (.d (patD n bs)):=by kernel_rfl
theorem lrRd:qT Tryz.prog 94 0 (some (.d (patD n bs)))=some (.d (patD n bs)):=by kernel_rfl
theorem q3m:zU Tryz.prog 97 1 (.ref d x y)=some (.ref d x (y + 1)):=by kernel_rfl
theorem q2p:zU Tryz.prog 97 2 (.ref d x y)=some (.ref d x (y + 2)):=by kernel_rfl
theorem zl0:zU Tryz.prog 97 3 (.ref d x y)=some (.ref d x (y + 4)):=by kernel_rfl
theorem q2g:zU Tryz.prog 94 1 (.ref d x y)=some (.ref d x (y + 1)):=by kernel_rfl
theorem q4f:qT Tryz.prog 94 2 (some (.agg [.d (.int .i64 a),.d (.int .i64 b),.d (.int .i64 c),.rs id 0 m,nv]))=some (.agg [.d (.int .i64 c),.rs id 0 m]):=by kernel_rfl
theorem q4p:qT Tryz.prog 3 1 (some (.agg [.d (.int .i64 a),.d (.int .i64 b),.d (.int .i64 c),.rs id 0 m,nv]))=some (.d (.int .i64 b)):=by kernel_rfl
theorem q33:qT Tryz.prog 76 3 (some (.agg [.d (.int .i64 a),.d (.int .i64 b),.d (.int .i64 c),.rs id 0 m,nv]))=some (.rs id 0 m):=by kernel_rfl
theorem ixC {S:zA} {es:List V} {k i q:Nat} (h1:S[id]? = some (.row es 97)) (hi:i < q):zL Tryz.prog S 92 (.rs id k q) (.d (.int .i64 (i:Int)))=some (.ref id (k + i) 0):=by
 have h3:rowT S id 97=true:=by simp only [rowT,h1,beq_self_eq_true]
 have h4:(sz Tryz.prog 97).isSome=true:=sC
 simp only [zL,intOf?,uC,h3,h4]
 rw [if_pos ⟨⟨by omega,by omega⟩,trivial,trivial⟩,Int.toNat_natCast]
end
theorem ix0I {S:zA} {n:Int} {t:List Int}:zL Tryz.prog S 22 (.d (encI (n::t))) (.d (.int .i64 0))=some (.d (.ptr (.int .i64 n))):=ixI (S:=S) (l:=n::t) (i:=0) (by simp)
theorem zx4 {S:zA} {v:V} {l:List Int} {n:Int} (hv:OwnS S v 3 (zY l)):allO (Go.Vm.frz S zH) [v,.d (.int .i64 n)]=some [encI l,.int .i64 n]:=by
 have hv':OwnS S v 3 ((l.map (D.int .i64)).map .d):=by rw [List.map_map]; exact hv
 have hf:=z7l (n:=10) hv'
 simp only [allO,zH,hf]
 rfl
section
variable {S:zA} {id k0:Nat} {es:List V} {x:V} {a b c:Int} {idd md:Nat} {nv v13:V} {nd gs:List Int}
theorem ixC1 (h1:S[id]? = some (.row es 97)):zL Tryz.prog S 92 (.rs id k0 2) (.d (.int .i64 1))=some (.ref id (k0 + 1) 0):=ixC (i:=1) h1 (by omega)
theorem ixC0 (h1:S[id]? = some (.row es 97)) {q:Nat} (hq:0 < q):zL Tryz.prog S 92 (.rs id k0 q) (.d (.int .i64 0))=some (.ref id k0 0):=ixC (i:=0) h1 hq
theorem q3k (h1:S[id]? = some (.row es 97)) (h2:rowE S id (k0 + 1)=some (.agg [.d (.int .i64 a),.d (.int .i64 b),.d (.int .i64 c),.rs idd 0 md,nv])) (hn:OwnS S nv 3 (zY nd)) (hg:OwnS S v13 3 (zY gs)) (hgl:gs.length ≤ 1000000) (hnl:nd.length ≤ 1000000) (hsub : ∀ x ∈ gs,x ∈ nd) (x2 x3 x7 x10:V) (R:Post) :
 ∀ (k i:Nat) (g0 g1 g4 g5 g6 g8 g9 gE gC gB gA gD gH gK gJ gL gG gO gP gR gQ gU gS gT gV gW gX gY gZ gh gj gk gn gr gz hH hU hY hZ xA xB xC xD xE xF xG xH xI xJ xK xL xM xN xO xP xQ xR xS xT xU xV xW xX xY xZ g72 g73 g74 g75 g76 g77 g78 g79 g80 g81 g82 g83 g84 g85 g86 g87 g88 g89 g90 g91 g92 g93 g94 g95 g96 g97 g98 g99 g100 g101 g102 g103 g104 g105 g106 g107 g108 g109 g110 g111 g112 g113 g114 g115 g116 g117 g118 g119 g120 g121 g122 g123 g124 g125 g126 g127 g128 g129 g130 g131 g132 g133 g134 g135 g136 g137 g138 g139 g140 g141 g142 g143 g144 g145 g146 g147 g148 g149 g150 g151 g152 g153 g154 g155 g156 g157 g158 g159 g160 g161 g162 g163 g164 g165 g166 g167 g168 g169 g170 g171 g172 g173 g174 g175 g176 g177 g178 g179 g180 g181 g182 g183 g184 g185 g186 g187 g188 g189 g190 g191 g192 g193 g194 g195 g196 g197 g198 g199 g200 g201 g202 g203 g204 g205 g206 g207 g208 g209 g210 g211 g212 g213 g214 g215 g216 g217 g218 g219 g220 g221 g222 g223 g224 g225 g226 g227 g228 g229 g230 g231 g232 g233 g234 g235 g236 g237 g238 g239 g240 g241 g242 g243 g244 g245 g246 g247 g248 g249 g250 g251 g252 g253 g254 g255 g256 g257 g258 g259 g260 g261 g262:V),gs.length - i=k→i ≤ gs.length →
 (∀ i' g0 g1 g4 g5 g6 g8 g9 gE gC gB gA gD gH gK gJ gL gG gO gP gR gQ gU gS gT gV gW gX gY gZ gh gj gk gn gr gz hH hU hY hZ xA xB xC xD xE xF xG xH xI xJ xK xL xM xN xO xP xQ xR xS xT xU xV xW xX xY xZ g72 g73 g74 g75 g76 g77 g78 g79 g80 g81 g82 g83 g84 g85 g86 g87 g88 g89 g90 g91 g92 g93 g94 g95 g96 g97 g98 g99 g100 g101 g102 g103 g104 g105 g106 g107 g108 g109 g110 g111 g112 g113 g114 g115 g116 g117 g118 g119 g120 g121 g122 g123 g124 g125 g126 g127 g128 g129 g130 g131 g132 g133 g134 g135 g136 g137 g138 g139 g140 g141 g142 g143 g144 g145 g146 g147 g148 g149 g150 g151 g152 g153 g154 g155 g156 g157 g158 g159 g160 g161 g162 g163 g164 g165 g166 g167 g168 g169 g170 g171 g172 g173 g174 g175 g176 g177 g178 g179 g180 g181 g182 g183 g184 g185 g186 g187 g188 g189 g190 g191 g192 g193 g194 g195 g196 g197 g198 g199 g200 g201 g202 g203 g204 g205 g206 g207 g208 g209 g210 g211 g212 g213 g214 g215 g216 g217 g218 g219 g220 g221 g222 g223 g224 g225 g226 g227 g228 g229 g230 g231 g232 g233 g234 g235 g236 g237 g238 g239 g240 g241 g242 g243 g244 g245 g246 g247 g248 g249 g250 g251 g252 g253 g254 g255 g256 g257 g258 g259 g260 g261 g262,R (.exit 4) (g0::g1::x2::x3::g4::g5::g6::x7::g8::g9::x10::gE::gC::v13::gB::gA::gD::gH::gK::(.rs id k0 2)::gJ::i'::gL::gG::gO::gP::gR::gQ::gU::gS::gT::gV::gW::gX::gY::gZ::gh::gj::gk::gn::gr::gz::hH::hU::hY::hZ::xA::xB::xC::xD::xE::xF::xG::xH::xI::xJ::xK::xL::xM::xN::xO::xP::xQ::xR::xS::xT::xU::xV::xW::xX::xY::xZ::g72::g73::g74::g75::g76::g77::g78::g79::g80::g81::g82::g83::g84::g85::g86::g87::g88::g89::g90::g91::g92::g93::g94::g95::g96::g97::g98::g99::g100::g101::g102::g103::g104::g105::g106::g107::g108::g109::g110::g111::g112::g113::g114::g115::g116::g117::g118::g119::g120::g121::g122::g123::g124::g125::g126::g127::g128::g129::g130::g131::g132::g133::g134::g135::g136::g137::g138::g139::g140::g141::g142::g143::g144::g145::g146::g147::g148::g149::g150::g151::g152::g153::g154::g155::g156::g157::g158::g159::g160::g161::g162::g163::g164::g165::g166::g167::g168::g169::g170::g171::g172::g173::g174::g175::g176::g177::g178::g179::g180::g181::g182::g183::g184::g185::g186::g187::g188::g189::g190::g191::g192::g193::g194::g195::g196::g197::g198::g199::g200::g201::g202::g203::g204::g205::g206::g207::g208::g209::g210::g211::g212::g213::g214::g215::g216::g217::g218::g219::g220::g221::g222::g223::g224::g225::g226::g227::g228::g229::g230::g231::g232::g233::g234::g235::g236::g237::g238::g239::g240::g241::g242::g243::g244::g245::g246::g247::g248::g249::g250::g251::g252::g253::g254::g255::g256::g257::g258::g259::g260::g261::g262::[]) S []) →
 Wp cfg (.loop (lpOf (Tryz.f6.body.getD .skip) 4)) (g0::g1::x2::x3::g4::g5::g6::x7::g8::g9::x10::gE::gC::v13::gB::gA::gD::gH::gK::(.rs id k0 2)::gJ::(.d (.int .i64 (i:Int)))::gL::gG::gO::gP::gR::gQ::gU::gS::gT::gV::gW::gX::gY::gZ::gh::gj::gk::gn::gr::gz::hH::hU::hY::hZ::xA::xB::xC::xD::xE::xF::xG::xH::xI::xJ::xK::xL::xM::xN::xO::xP::xQ::xR::xS::xT::xU::xV::xW::xX::xY::xZ::g72::g73::g74::g75::g76::g77::g78::g79::g80::g81::g82::g83::g84::g85::g86::g87::g88::g89::g90::g91::g92::g93::g94::g95::g96::g97::g98::g99::g100::g101::g102::g103::g104::g105::g106::g107::g108::g109::g110::g111::g112::g113::g114::g115::g116::g117::g118::g119::g120::g121::g122::g123::g124::g125::g126::g127::g128::g129::g130::g131::g132::g133::g134::g135::g136::g137::g138::g139::g140::g141::g142::g143::g144::g145::g146::g147::g148::g149::g150::g151::g152::g153::g154::g155::g156::g157::g158::g159::g160::g161::g162::g163::g164::g165::g166::g167::g168::g169::g170::g171::g172::g173::g174::g175::g176::g177::g178::g179::g180::g181::g182::g183::g184::g185::g186::g187::g188::g189::g190::g191::g192::g193::g194::g195::g196::g197::g198::g199::g200::g201::g202::g203::g204::g205::g206::g207::g208::g209::g210::g211::g212::g213::g214::g215::g216::g217::g218::g219::g220::g221::g222::g223::g224::g225::g226::g227::g228::g229::g230::g231::g232::g233::g234::g235::g236::g237::g238::g239::g240::g241::g242::g243::g244::g245::g246::g247::g248::g249::g250::g251::g252::g253::g254::g255::g256::g257::g258::g259::g260::g261::g262::[]) S [] R:=by
 intro k
 have hln:zJ Tryz.prog S .len [22] [v13]=some (.val (.d (.int .i64 (gs.length:Int))) S 0):=by rw [kE Tryz.underlying22 hg,qA]
 induction k with
 | zero =>
  intro i g0 g1 g4 g5 g6 g8 g9 gE gC gB gA gD gH gK gJ gL gG gO gP gR gQ gU gS gT gV gW gX gY gZ gh gj gk gn gr gz hH hU hY hZ xA xB xC xD xE xF xG xH xI xJ xK xL xM xN xO xP xQ xR xS xT xU xV xW xX xY xZ g72 g73 g74 g75 g76 g77 g78 g79 g80 g81 g82 g83 g84 g85 g86 g87 g88 g89 g90 g91 g92 g93 g94 g95 g96 g97 g98 g99 g100 g101 g102 g103 g104 g105 g106 g107 g108 g109 g110 g111 g112 g113 g114 g115 g116 g117 g118 g119 g120 g121 g122 g123 g124 g125 g126 g127 g128 g129 g130 g131 g132 g133 g134 g135 g136 g137 g138 g139 g140 g141 g142 g143 g144 g145 g146 g147 g148 g149 g150 g151 g152 g153 g154 g155 g156 g157 g158 g159 g160 g161 g162 g163 g164 g165 g166 g167 g168 g169 g170 g171 g172 g173 g174 g175 g176 g177 g178 g179 g180 g181 g182 g183 g184 g185 g186 g187 g188 g189 g190 g191 g192 g193 g194 g195 g196 g197 g198 g199 g200 g201 g202 g203 g204 g205 g206 g207 g208 g209 g210 g211 g212 g213 g214 g215 g216 g217 g218 g219 g220 g221 g222 g223 g224 g225 g226 g227 g228 g229 g230 g231 g232 g233 g234 g235 g236 g237 g238 g239 g240 g241 g242 g243 g244 g245 g246 g247 g248 g249 g250 g251 g252 g253 g254 g255 g256 g257 g258 g259 g260 g261 g262 hk hi2 hR
  have hie:i=gs.length:=by omega
  subst hie
  rw [zO]
  refine zK ?_
  conv=>arg 2; whnf
  simp (maxSteps:=1000000) (disch:=first|assumption|omega|rfl) only [↓gp,gc,Nat.reduceAdd,hln]
  exact hR _ _ _ _ _ _ _ _ _ _ _ _ _ _ _ _ _ _ _ _ _ _ _ _ _ _ _ _ _ _ _ _ _ _ _ _ _ _ _ _ _ _ _ _ _ _ _ _ _ _ _ _ _ _ _ _ _ _ _ _ _ _ _ _ _ _ _ _ _ _ _ _ _ _ _ _ _ _ _ _ _ _ _ _ _ _ _ _ _ _ _ _ _ _ _ _ _ _ _ _ _ _ _ _ _ _ _ _ _ _ _ _ _ _ _ _ _ _ _ _ _ _ _ _ _ _ _ _ _ _ _ _ _ _ _ _ _ _ _ _ _ _ _ _ _ _ _ _ _ _ _ _ _ _ _ _ _ _ _ _ _ _ _ _ _ _ _ _ _ _ _ _ _ _ _ _ _ _ _ _ _ _ _ _ _ _ _ _ _ _ _ _ _ _ _ _ _ _ _ _ _ _ _ _ _ _ _ _ _ _ _ _ _ _ _ _ _ _ _ _ _ _ _ _ _ _ _ _ _ _ _ _ _ _ _ _ _ _ _ _ _ _ _ _ _ _ _ _ _ _ _ _ _ _ _ _ _
 | succ k ih =>
  intro i g0 g1 g4 g5 g6 g8 g9 gE gC gB gA gD gH gK gJ gL gG gO gP gR gQ gU gS gT gV gW gX gY gZ gh gj gk gn gr gz hH hU hY hZ xA xB xC xD xE xF xG xH xI xJ xK xL xM xN xO xP xQ xR xS xT xU xV xW xX xY xZ g72 g73 g74 g75 g76 g77 g78 g79 g80 g81 g82 g83 g84 g85 g86 g87 g88 g89 g90 g91 g92 g93 g94 g95 g96 g97 g98 g99 g100 g101 g102 g103 g104 g105 g106 g107 g108 g109 g110 g111 g112 g113 g114 g115 g116 g117 g118 g119 g120 g121 g122 g123 g124 g125 g126 g127 g128 g129 g130 g131 g132 g133 g134 g135 g136 g137 g138 g139 g140 g141 g142 g143 g144 g145 g146 g147 g148 g149 g150 g151 g152 g153 g154 g155 g156 g157 g158 g159 g160 g161 g162 g163 g164 g165 g166 g167 g168 g169 g170 g171 g172 g173 g174 g175 g176 g177 g178 g179 g180 g181 g182 g183 g184 g185 g186 g187 g188 g189 g190 g191 g192 g193 g194 g195 g196 g197 g198 g199 g200 g201 g202 g203 g204 g205 g206 g207 g208 g209 g210 g211 g212 g213 g214 g215 g216 g217 g218 g219 g220 g221 g222 g223 g224 g225 g226 g227 g228 g229 g230 g231 g232 g233 g234 g235 g236 g237 g238 g239 g240 g241 g242 g243 g244 g245 g246 g247 g248 g249 g250 g251 g252 g253 g254 g255 g256 g257 g258 g259 g260 g261 g262 hk hi2 hR
  have hlt:i < gs.length:=by omega
  have h3:IntKind.i64.wrap ((i:Int) + 1)=((i + 1:Nat):Int):=by rw [wrap64 (by omega)]; omega
  obtain ⟨q,hix,hre,_⟩:=kS Tryz.underlying22 s3z hg (i:=i) (by rw [qA]; exact hlt)
  have hre:rowE S q i=some (.d (.int .i64 gs[i])):=by rw [hre]; simp [zY]
  have hx1:=ixC1 (k0:=k0) h1
  have hin:=fun {ops base K ws cs i' dst T}=>q1i (ops:=ops) (base:=base) (K:=K) (ws:=ws) (cs:=cs) (i:=i') (dst:=dst) (T:=T) rfl (zx4 (n:=gs[i]) hn) rfl (zx3 nd gs[i] (by omega))
  have hmem : ∀ i':Decidable (gs[i] ∈ nd),@decide (gs[i] ∈ nd) i'=true:=fun i'=>decide_eq_true (hsub _ (List.getElem_mem hlt))
  simp only [hmem] at hin
  have hn1:=qF hn
  have hv1:=qF hg
  rw [zO]
  refine zK ?_
  conv=>arg 2; whnf
  simp (maxSteps:=1000000) (disch:=first|assumption|omega|rfl) only [↓gp,gc,Nat.reduceAdd,hln]
  refine qN (is:=[0,1,2,3,4,5,6,7,8,9]) (h:=0) (by kernel_rfl) (by kernel_rfl) ?_
  simp (maxSteps:=1000000) (disch:=first|assumption|omega|rfl) only [List.replicate_zero,eq_self,gw,ga,Nat.reduceAdd,↓gq,vso,List.append_nil,hx1,zl0,h2,zcp,hn1,hix,hre,ld3r,hin,bo36,qZ,Bool.not_true]
  refine ⟨by kernel_rfl,?_⟩
  simp (maxSteps:=1000000) (disch:=first|assumption|omega|rfl) only [↓gp,gc,Nat.reduceAdd,h3]
  exact ih (i + 1) _ _ _ _ _ _ _ _ _ _ _ _ _ _ _ _ _ _ _ _ _ _ _ _ _ _ _ _ _ _ _ _ _ _ _ _ _ _ _ _ _ _ _ _ _ _ _ _ _ _ _ _ _ _ _ _ _ _ _ _ _ _ _ _ _ _ _ _ _ _ _ _ _ _ _ _ _ _ _ _ _ _ _ _ _ _ _ _ _ _ _ _ _ _ _ _ _ _ _ _ _ _ _ _ _ _ _ _ _ _ _ _ _ _ _ _ _ _ _ _ _ _ _ _ _ _ _ _ _ _ _ _ _ _ _ _ _ _ _ _ _ _ _ _ _ _ _ _ _ _ _ _ _ _ _ _ _ _ _ _ _ _ _ _ _ _ _ _ _ _ _ _ _ _ _ _ _ _ _ _ _ _ _ _ _ _ _ _ _ _ _ _ _ _ _ _ _ _ _ _ _ _ _ _ _ _ _ _ _ _ _ _ _ _ _ _ _ _ _ _ _ _ _ _ _ _ _ _ _ _ _ _ _ _ _ _ _ _ _ _ _ _ _ _ _ _ _ _ _ _ _ _ _ _ _ _ (by omega) (by omega) hR
theorem q4t (needs:List Int) (hnn:needs.length ≤ 1000000) (h1:S[id]? = some (.row es 97)) (h2:rowE S id (k0 + 1)=some (.agg [.d (.int .i64 a),.d (.int .i64 b),.d (.int .i64 c),.rs idd 0 md,nv])) (hn:OwnS S nv 3 (zY nd)) (hg:OwnS S v13 3 (zY gs)) (hgl:gs.length ≤ 1000000) (hnl:nd.length ≤ 1000000) (hsub : ∀ x ∈ nd,x ∈ gs ∨ x ∈ needs) (x3 x7 x10:V) (R:Post) :
 ∀ (k i:Nat) (g0 g1 g4 g5 g6 g8 g9 gE gC gB gA gD gH gK gJ gN gG gO gP gR gQ gU gS gT gV gW gX gY gZ gh gj gk gn gr gz hH hU hY hZ xA xB xC xD xE xF xG xH xI xJ xK xL xM xN xO xP xQ xR xS xT xU xV xW xX xY xZ g72 g73 g74 g75 g76 g77 g78 g79 g80 g81 g82 g83 g84 g85 g86 g87 g88 g89 g90 g91 g92 g93 g94 g95 g96 g97 g98 g99 g100 g101 g102 g103 g104 g105 g106 g107 g108 g109 g110 g111 g112 g113 g114 g115 g116 g117 g118 g119 g120 g121 g122 g123 g124 g125 g126 g127 g128 g129 g130 g131 g132 g133 g134 g135 g136 g137 g138 g139 g140 g141 g142 g143 g144 g145 g146 g147 g148 g149 g150 g151 g152 g153 g154 g155 g156 g157 g158 g159 g160 g161 g162 g163 g164 g165 g166 g167 g168 g169 g170 g171 g172 g173 g174 g175 g176 g177 g178 g179 g180 g181 g182 g183 g184 g185 g186 g187 g188 g189 g190 g191 g192 g193 g194 g195 g196 g197 g198 g199 g200 g201 g202 g203 g204 g205 g206 g207 g208 g209 g210 g211 g212 g213 g214 g215 g216 g217 g218 g219 g220 g221 g222 g223 g224 g225 g226 g227 g228 g229 g230 g231 g232 g233 g234 g235 g236 g237 g238 g239 g240 g241 g242 g243 g244 g245 g246 g247 g248 g249 g250 g251 g252 g253 g254 g255 g256 g257 g258 g259 g260 g261 g262:V),nd.length - i=k→i ≤ nd.length →
 (∀ i' g0 g1 g4 g5 g6 g8 g9 gE gC gB gA gD gH gK gJ gN gG gO gP gR gQ gU gS gT gV gW gX gY gZ gh gj gk gn gr gz hH hU hY hZ xA xB xC xD xE xF xG xH xI xJ xK xL xM xN xO xP xQ xR xS xT xU xV xW xX xY xZ g72 g73 g74 g75 g76 g77 g78 g79 g80 g81 g82 g83 g84 g85 g86 g87 g88 g89 g90 g91 g92 g93 g94 g95 g96 g97 g98 g99 g100 g101 g102 g103 g104 g105 g106 g107 g108 g109 g110 g111 g112 g113 g114 g115 g116 g117 g118 g119 g120 g121 g122 g123 g124 g125 g126 g127 g128 g129 g130 g131 g132 g133 g134 g135 g136 g137 g138 g139 g140 g141 g142 g143 g144 g145 g146 g147 g148 g149 g150 g151 g152 g153 g154 g155 g156 g157 g158 g159 g160 g161 g162 g163 g164 g165 g166 g167 g168 g169 g170 g171 g172 g173 g174 g175 g176 g177 g178 g179 g180 g181 g182 g183 g184 g185 g186 g187 g188 g189 g190 g191 g192 g193 g194 g195 g196 g197 g198 g199 g200 g201 g202 g203 g204 g205 g206 g207 g208 g209 g210 g211 g212 g213 g214 g215 g216 g217 g218 g219 g220 g221 g222 g223 g224 g225 g226 g227 g228 g229 g230 g231 g232 g233 g234 g235 g236 g237 g238 g239 g240 g241 g242 g243 g244 g245 g246 g247 g248 g249 g250 g251 g252 g253 g254 g255 g256 g257 g258 g259 g260 g261 g262,R (.exit 6) (g0::g1::(.d (encI needs))::x3::g4::g5::g6::x7::g8::g9::x10::gE::gC::v13::gB::gA::gD::gH::gK::(.rs id k0 2)::gJ::gN::i'::gG::gO::gP::gR::gQ::gU::gS::gT::gV::gW::gX::gY::gZ::gh::gj::gk::gn::gr::gz::hH::hU::hY::hZ::xA::xB::xC::xD::xE::xF::xG::xH::xI::xJ::xK::xL::xM::xN::xO::xP::xQ::xR::xS::xT::xU::xV::xW::xX::xY::xZ::g72::g73::g74::g75::g76::g77::g78::g79::g80::g81::g82::g83::g84::g85::g86::g87::g88::g89::g90::g91::g92::g93::g94::g95::g96::g97::g98::g99::g100::g101::g102::g103::g104::g105::g106::g107::g108::g109::g110::g111::g112::g113::g114::g115::g116::g117::g118::g119::g120::g121::g122::g123::g124::g125::g126::g127::g128::g129::g130::g131::g132::g133::g134::g135::g136::g137::g138::g139::g140::g141::g142::g143::g144::g145::g146::g147::g148::g149::g150::g151::g152::g153::g154::g155::g156::g157::g158::g159::g160::g161::g162::g163::g164::g165::g166::g167::g168::g169::g170::g171::g172::g173::g174::g175::g176::g177::g178::g179::g180::g181::g182::g183::g184::g185::g186::g187::g188::g189::g190::g191::g192::g193::g194::g195::g196::g197::g198::g199::g200::g201::g202::g203::g204::g205::g206::g207::g208::g209::g210::g211::g212::g213::g214::g215::g216::g217::g218::g219::g220::g221::g222::g223::g224::g225::g226::g227::g228::g229::g230::g231::g232::g233::g234::g235::g236::g237::g238::g239::g240::g241::g242::g243::g244::g245::g246::g247::g248::g249::g250::g251::g252::g253::g254::g255::g256::g257::g258::g259::g260::g261::g262::[]) S []) →
 Wp cfg (.loop (lpOf (Tryz.f6.body.getD .skip) 6)) (g0::g1::(.d (encI needs))::x3::g4::g5::g6::x7::g8::g9::x10::gE::gC::v13::gB::gA::gD::gH::gK::(.rs id k0 2)::gJ::gN::(.d (.int .i64 (i:Int)))::gG::gO::gP::gR::gQ::gU::gS::gT::gV::gW::gX::gY::gZ::gh::gj::gk::gn::gr::gz::hH::hU::hY::hZ::xA::xB::xC::xD::xE::xF::xG::xH::xI::xJ::xK::xL::xM::xN::xO::xP::xQ::xR::xS::xT::xU::xV::xW::xX::xY::xZ::g72::g73::g74::g75::g76::g77::g78::g79::g80::g81::g82::g83::g84::g85::g86::g87::g88::g89::g90::g91::g92::g93::g94::g95::g96::g97::g98::g99::g100::g101::g102::g103::g104::g105::g106::g107::g108::g109::g110::g111::g112::g113::g114::g115::g116::g117::g118::g119::g120::g121::g122::g123::g124::g125::g126::g127::g128::g129::g130::g131::g132::g133::g134::g135::g136::g137::g138::g139::g140::g141::g142::g143::g144::g145::g146::g147::g148::g149::g150::g151::g152::g153::g154::g155::g156::g157::g158::g159::g160::g161::g162::g163::g164::g165::g166::g167::g168::g169::g170::g171::g172::g173::g174::g175::g176::g177::g178::g179::g180::g181::g182::g183::g184::g185::g186::g187::g188::g189::g190::g191::g192::g193::g194::g195::g196::g197::g198::g199::g200::g201::g202::g203::g204::g205::g206::g207::g208::g209::g210::g211::g212::g213::g214::g215::g216::g217::g218::g219::g220::g221::g222::g223::g224::g225::g226::g227::g228::g229::g230::g231::g232::g233::g234::g235::g236::g237::g238::g239::g240::g241::g242::g243::g244::g245::g246::g247::g248::g249::g250::g251::g252::g253::g254::g255::g256::g257::g258::g259::g260::g261::g262::[]) S [] R:=by
 intro k
 have hln:zJ Tryz.prog S .len [22] [nv]=some (.val (.d (.int .i64 (nd.length:Int))) S 0):=by rw [kE Tryz.underlying22 hn,qA]
 have hx1:=ixC1 (k0:=k0) h1
 have hn1:=qF hn
 have hv1:=qF hg
 induction k with
 | zero =>
  intro i g0 g1 g4 g5 g6 g8 g9 gE gC gB gA gD gH gK gJ gN gG gO gP gR gQ gU gS gT gV gW gX gY gZ gh gj gk gn gr gz hH hU hY hZ xA xB xC xD xE xF xG xH xI xJ xK xL xM xN xO xP xQ xR xS xT xU xV xW xX xY xZ g72 g73 g74 g75 g76 g77 g78 g79 g80 g81 g82 g83 g84 g85 g86 g87 g88 g89 g90 g91 g92 g93 g94 g95 g96 g97 g98 g99 g100 g101 g102 g103 g104 g105 g106 g107 g108 g109 g110 g111 g112 g113 g114 g115 g116 g117 g118 g119 g120 g121 g122 g123 g124 g125 g126 g127 g128 g129 g130 g131 g132 g133 g134 g135 g136 g137 g138 g139 g140 g141 g142 g143 g144 g145 g146 g147 g148 g149 g150 g151 g152 g153 g154 g155 g156 g157 g158 g159 g160 g161 g162 g163 g164 g165 g166 g167 g168 g169 g170 g171 g172 g173 g174 g175 g176 g177 g178 g179 g180 g181 g182 g183 g184 g185 g186 g187 g188 g189 g190 g191 g192 g193 g194 g195 g196 g197 g198 g199 g200 g201 g202 g203 g204 g205 g206 g207 g208 g209 g210 g211 g212 g213 g214 g215 g216 g217 g218 g219 g220 g221 g222 g223 g224 g225 g226 g227 g228 g229 g230 g231 g232 g233 g234 g235 g236 g237 g238 g239 g240 g241 g242 g243 g244 g245 g246 g247 g248 g249 g250 g251 g252 g253 g254 g255 g256 g257 g258 g259 g260 g261 g262 hk hi2 hR
  have hie:i=nd.length:=by omega
  subst hie
  rw [zO]
  refine zK ?_
  conv=>arg 2; whnf
  simp (maxSteps:=1000000) (disch:=first|assumption|omega|rfl) only [↓gp,gc,Nat.reduceAdd,hx1,zl0,h2,zcp,hn1,hln]
  exact hR _ _ _ _ _ _ _ _ _ _ _ _ _ _ _ _ _ _ _ _ _ _ _ _ _ _ _ _ _ _ _ _ _ _ _ _ _ _ _ _ _ _ _ _ _ _ _ _ _ _ _ _ _ _ _ _ _ _ _ _ _ _ _ _ _ _ _ _ _ _ _ _ _ _ _ _ _ _ _ _ _ _ _ _ _ _ _ _ _ _ _ _ _ _ _ _ _ _ _ _ _ _ _ _ _ _ _ _ _ _ _ _ _ _ _ _ _ _ _ _ _ _ _ _ _ _ _ _ _ _ _ _ _ _ _ _ _ _ _ _ _ _ _ _ _ _ _ _ _ _ _ _ _ _ _ _ _ _ _ _ _ _ _ _ _ _ _ _ _ _ _ _ _ _ _ _ _ _ _ _ _ _ _ _ _ _ _ _ _ _ _ _ _ _ _ _ _ _ _ _ _ _ _ _ _ _ _ _ _ _ _ _ _ _ _ _ _ _ _ _ _ _ _ _ _ _ _ _ _ _ _ _ _ _ _ _ _ _ _ _ _ _ _ _ _ _ _ _ _ _ _ _ _ _ _ _ _
 | succ k ih =>
  intro i g0 g1 g4 g5 g6 g8 g9 gE gC gB gA gD gH gK gJ gN gG gO gP gR gQ gU gS gT gV gW gX gY gZ gh gj gk gn gr gz hH hU hY hZ xA xB xC xD xE xF xG xH xI xJ xK xL xM xN xO xP xQ xR xS xT xU xV xW xX xY xZ g72 g73 g74 g75 g76 g77 g78 g79 g80 g81 g82 g83 g84 g85 g86 g87 g88 g89 g90 g91 g92 g93 g94 g95 g96 g97 g98 g99 g100 g101 g102 g103 g104 g105 g106 g107 g108 g109 g110 g111 g112 g113 g114 g115 g116 g117 g118 g119 g120 g121 g122 g123 g124 g125 g126 g127 g128 g129 g130 g131 g132 g133 g134 g135 g136 g137 g138 g139 g140 g141 g142 g143 g144 g145 g146 g147 g148 g149 g150 g151 g152 g153 g154 g155 g156 g157 g158 g159 g160 g161 g162 g163 g164 g165 g166 g167 g168 g169 g170 g171 g172 g173 g174 g175 g176 g177 g178 g179 g180 g181 g182 g183 g184 g185 g186 g187 g188 g189 g190 g191 g192 g193 g194 g195 g196 g197 g198 g199 g200 g201 g202 g203 g204 g205 g206 g207 g208 g209 g210 g211 g212 g213 g214 g215 g216 g217 g218 g219 g220 g221 g222 g223 g224 g225 g226 g227 g228 g229 g230 g231 g232 g233 g234 g235 g236 g237 g238 g239 g240 g241 g242 g243 g244 g245 g246 g247 g248 g249 g250 g251 g252 g253 g254 g255 g256 g257 g258 g259 g260 g261 g262 hk hi2 hR
  have hlt:i < nd.length:=by omega
  have h3:IntKind.i64.wrap ((i:Int) + 1)=((i + 1:Nat):Int):=by rw [wrap64 (by omega)]; omega
  obtain ⟨q,hix,hre,_⟩:=kS Tryz.underlying22 s3z hn (i:=i) (by rw [qA]; exact hlt)
  have hre:rowE S q i=some (.d (.int .i64 nd[i])):=by rw [hre]; simp [zY]
  have hin:=fun {ops dst k T F Q}=>zhm (C:=cfg) (ops:=ops) (dst:=dst) (l:=k) (T:=T) (F:=F) (Q:=Q) rfl (zx4 (n:=nd[i]) hg) rfl (zx3 gs nd[i] (by omega))
  have hin2 : ∀ {ops dst k T S F Q},WpR cfg ops dst k T S F Q (some (.enter 36 [.d (encI needs),.d (.int .i64 nd[i])]))=WpL cfg ops k (putT T dst (.d (.bool (decide (nd[i] ∈ needs))))) S F Q:=fun {ops dst k T S F Q}=>qI (ds:=[encI needs,.int .i64 nd[i]]) rfl (zx3 needs nd[i] (by omega))
  rw [zO]
  refine zK ?_
  conv=>arg 2; whnf
  by_cases hm1:nd[i] ∈ gs
  ·rw [decide_eq_true hm1] at hin
   simp (maxSteps:=1000000) (disch:=first|assumption|omega|rfl) only [↓gp,gc,Nat.reduceAdd,hx1,zl0,h2,zcp,hn1,hv1,hln,hix,hre,ld3r,hin,bo36,qZ,Bool.not_true,h3]
   exact ih (i + 1) _ _ _ _ _ _ _ _ _ _ _ _ _ _ _ _ _ _ _ _ _ _ _ _ _ _ _ _ _ _ _ _ _ _ _ _ _ _ _ _ _ _ _ _ _ _ _ _ _ _ _ _ _ _ _ _ _ _ _ _ _ _ _ _ _ _ _ _ _ _ _ _ _ _ _ _ _ _ _ _ _ _ _ _ _ _ _ _ _ _ _ _ _ _ _ _ _ _ _ _ _ _ _ _ _ _ _ _ _ _ _ _ _ _ _ _ _ _ _ _ _ _ _ _ _ _ _ _ _ _ _ _ _ _ _ _ _ _ _ _ _ _ _ _ _ _ _ _ _ _ _ _ _ _ _ _ _ _ _ _ _ _ _ _ _ _ _ _ _ _ _ _ _ _ _ _ _ _ _ _ _ _ _ _ _ _ _ _ _ _ _ _ _ _ _ _ _ _ _ _ _ _ _ _ _ _ _ _ _ _ _ _ _ _ _ _ _ _ _ _ _ _ _ _ _ _ _ _ _ _ _ _ _ _ _ _ _ _ _ _ _ _ _ _ _ _ _ _ _ _ _ _ _ _ _ _ (by omega) (by omega) hR
  ·rw [decide_eq_false hm1] at hin
   have hm2:nd[i] ∈ needs:=by
    rcases hsub _ (List.getElem_mem hlt) with h | h
    ·exact absurd h hm1
    ·exact h
   rw [decide_eq_true hm2] at hin2
   simp (maxSteps:=1000000) (disch:=first|assumption|omega|rfl) only [↓gp,gc,Nat.reduceAdd,hx1,zl0,h2,zcp,hn1,hv1,hln,hix,hre,ld3r,hin,hin2,bo36,qZ,Bool.not_true,Bool.not_false,h3]
   exact ih (i + 1) _ _ _ _ _ _ _ _ _ _ _ _ _ _ _ _ _ _ _ _ _ _ _ _ _ _ _ _ _ _ _ _ _ _ _ _ _ _ _ _ _ _ _ _ _ _ _ _ _ _ _ _ _ _ _ _ _ _ _ _ _ _ _ _ _ _ _ _ _ _ _ _ _ _ _ _ _ _ _ _ _ _ _ _ _ _ _ _ _ _ _ _ _ _ _ _ _ _ _ _ _ _ _ _ _ _ _ _ _ _ _ _ _ _ _ _ _ _ _ _ _ _ _ _ _ _ _ _ _ _ _ _ _ _ _ _ _ _ _ _ _ _ _ _ _ _ _ _ _ _ _ _ _ _ _ _ _ _ _ _ _ _ _ _ _ _ _ _ _ _ _ _ _ _ _ _ _ _ _ _ _ _ _ _ _ _ _ _ _ _ _ _ _ _ _ _ _ _ _ _ _ _ _ _ _ _ _ _ _ _ _ _ _ _ _ _ _ _ _ _ _ _ _ _ _ _ _ _ _ _ _ _ _ _ _ _ _ _ _ _ _ _ _ _ _ _ _ _ _ _ _ _ _ _ _ _ (by omega) (by omega) hR
end
theorem z4v {S:zA} {v:V} {e t:TypeId} {xs ys:List V} {i:Nat} {o:Ob} (h:OwnS S v e xs) (hi:S[i]? = some (.row ys t)) (he:e ≠ t):OwnS (S.set i o) v e xs:=by
 rcases h with h | ⟨id,rfl,h2⟩
 ·exact .inl h
 ·refine .inr ⟨id,rfl,?_⟩
  rw [List.getElem?_set_ne (by rintro rfl; cases getE hi h2; exact he rfl)]
  exact h2
theorem AllP.wk {S:zA} {y x c r m mk gm:Nat} {l:Lay} {e:Int} {C:CS} {mf gf:Int→Option V} {gl:Int→List Int} {b b':Nat} (h:AllP S y x c r m mk gm l e C mf gf gl b) (hb:b ≤ b'):AllP S y x c r m mk gm l e C mf gf gl b':=⟨h.hy,h.sp,h.gp,h.gv,fun n=>Nat.le_trans (h.gb n) hb,h.n1,h.n2⟩
theorem q3b {u v:V} {a:List UInt8} (hu:IsB u a) (hv:IsB v a) (ha:a.length=256):binV Tryz.prog .eql 42 u v=some (.d (.bool true)):=by
 rw [(neB 42 256 bt42 (by kernel_rfl) (by kernel_rfl) (by kernel_rfl) (by kernel_rfl) hu hv ha ha).2,decide_eq_true rfl]
theorem z1j {ops:Array Oper} {dst:Option Tmp} {k:List Oper} {T:List V} {S:zA} {F:Dfs} {Q:Post}:WpR cfg ops dst k T S F Q (some (.enter 20 [.d (.int .u8 9)]))=WpL cfg ops k (putT T dst (.d (blkD (fulL 9)))) S F Q:=zhn (x:=9)
theorem takes_ok (l:Lay) (hb:InB l.blocks) (hi:InB l.inodes) (hM:0 ≤ l.merge∧l.merge < 18446744073709551616) (steps:List StpA) (needs:List Int) (B0:Nat) (hB0:B0 ≤ 17592186000000) (hsn : ∀ s ∈ steps,s.needs.length ≤ B0):Ev cfg 6 [encLay l,.sl (steps.map encStpA),encI needs] (.ret (.d (.bool true))):=by
 have hc:=fun {ops dst k T S F Q}=>zf8 (ops:=ops) (dst:=dst) (k:=k) (T:=T) (S:=S) (F:=F) (Q:=Q) hb hi
 have hln:=fun S=>lnA (S:=S) (l:=steps)
 have hlnn:=fun S=>lnI (S:=S) (l:=needs)
 refine jW rfl rfl q3j ?_
 show Wp cfg (Tryz.f6.body.getD .skip) ((.d (encLay l))::(.d (.sl (steps.map encStpA)))::(.d (encI needs))::uZ (uZ (uZ (uZ (uZ (uZ (uZ (uZ (uZ (uZ (uZ (uZ (uZ (uZ (uZ (uZ (uZ (uZ (uZ (uZ (uZ (uZ (uZ (uZ (uZ (uZ [])))))))))))))))))))))))))) [] [] _
 unfold uZ
 conv=>arg 2; whnf
 by_cases hs:MayL l∧l.blocks ≤ 60
 case neg =>
  rw [decide_eq_false hs] at hc
  simp (maxSteps:=1000000) (disch:=first|assumption|omega|rfl) only [↓gp,gc,Nat.reduceAdd,lr32,hc,bo16,qZ,Bool.not_false,kX,bo17]
  exact zQ rfl rfl rfl
 rw [decide_eq_true hs] at hc
 by_cases h16:(steps.length:Int) > 16
 ·simp (maxSteps:=1000000) (disch:=first|assumption|omega|rfl) only [↓gp,gc,Nat.reduceAdd,lr32,hc,bo16,qZ,Bool.not_true,hln,kX,bo17,zN]
  exact zQ rfl rfl rfl
 by_cases h10:(needs.length:Int) > 10
 ·simp (maxSteps:=1000000) (disch:=first|assumption|omega|rfl) only [↓gp,gc,Nat.reduceAdd,lr32,hc,bo16,qZ,Bool.not_true,hln,hlnn,kX,bo17,zN]
  exact zQ rfl rfl rfl
 obtain ⟨hm,h60⟩:=hs
 obtain ⟨B,I,M,K,hl,hK,hB,hI,hI8,hMM,hK16,hKB,hIB⟩:=zv2 hm h60 hM
 obtain ⟨o,S1,⟨hK1,y,x,c,r,m,mk,gm,rfl,h1,h2,h3,h4,h5⟩,hE⟩:=zZ (ze3 [.row [.d (encLay l)] 32] l B I M K hl (by omega) hI hMM hm hK hK16 hKB)
 have hE:=fun {ops dst k T F Q}=>zD (ops:=ops) (dst:=dst) (l:=k) (T:=T) (F:=F) (Q:=Q) rfl hE
 have hA1:=(zad h1 h2 h3 h4 h5).wk (Nat.zero_le B0)
 have hBl:l.blocks=(B:Int):=by rw [hl]
 simp (maxSteps:=1000000) (disch:=first|assumption|omega|rfl) only [↓gp,gc,Nat.reduceAdd,lr32,hc,bo16,qZ,Bool.not_true,hln,hlnn,hE,bo18,z9y]
 refine zuz (.d (encI needs)) steps (by omega) B0 hB0 hsn y x c r m mk gm l (2 + K) B hb hi hm hK hBl (fun _=>none) _ steps.length 0 S1 0 (C0 B I M K) (fun _=>none) (fun _=>[]) _ _ _ _ _ _ _ _ _ _ _ _ _ _ _ _ _ _ _ _ _ _ _ _ _ _ _ _ _ _ _ _ _ _ _ _ _ _ _ _ _ _ _ _ _ _ _ _ _ _ _ _ _ _ _ _ _ _ _ _ _ _ _ _ _ _ _ _ _ _ _ _ _ _ _ _ _ _ _ _ _ _ _ _ _ _ _ _ _ _ _ _ _ _ _ _ _ _ _ _ _ _ _ _ _ _ _ _ _ _ _ _ _ _ _ _ _ _ _ _ _ _ _ _ _ _ _ _ _ _ _ _ _ _ _ _ _ _ _ _ _ _ _ _ _ _ _ _ _ _ _ _ _ _ _ _ _ _ _ _ _ _ _ _ _ _ _ _ _ _ _ _ _ _ _ _ _ _ _ _ _ _ _ _ _ _ _ _ _ _ _ _ _ _ _ _ _ _ _ _ _ _ _ _ _ _ _ _ _ _ _ _ _ _ _ _ _ _ _ _ _ _ _ _ _ _ _ _ _ _ _ _ _ _ _ _ _ _ _ _ _ _ _ _ _ _ _ _ _ _ _ _ _ _ _ _ _ _ rfl (Nat.zero_le _) ⟨hA1,hK1 _ _ rfl,(fun _ _ x hx=>by cases hx),Nat.zero_le _,z8o⟩ ?_
 intro S2 e C gf gl i' g0 g4 g5 g6 g9 gM gE gC gF gB gA gD gH gK gI gJ gN gL gG gO gP gR gQ gU gS gT gV gW gX gY gZ gh gj gk gn gr gz hH hU hY hZ xA xB xC xD xE xF xG xH xI xJ xK xL xM xN xO xP xQ xR xS xT xU xV xW xX xY xZ g72 g73 g74 g75 g76 g77 g78 g79 g80 g81 g82 g83 g84 g85 g86 g87 g88 g89 g90 g91 g92 g93 g94 g95 g96 g97 g98 g99 g100 g101 g102 g103 g104 g105 g106 g107 g108 g109 g110 g111 g112 g113 g114 g115 g116 g117 g118 g119 g120 g121 g122 g123 g124 g125 g126 g127 g128 g129 g130 g131 g132 g133 g134 g135 g136 g137 g138 g139 g140 g141 g142 g143 g144 g145 g146 g147 g148 g149 g150 g151 g152 g153 g154 g155 g156 g157 g158 g159 g160 g161 g162 g163 g164 g165 g166 g167 g168 g169 g170 g171 g172 g173 g174 g175 g176 g177 g178 g179 g180 g181 g182 g183 g184 g185 g186 g187 g188 g189 g190 g191 g192 g193 g194 g195 g196 g197 g198 g199 g200 g201 g202 g203 g204 g205 g206 g207 g208 g209 g210 g211 g212 g213 g214 g215 g216 g217 g218 g219 g220 g221 g222 g223 g224 g225 g226 g227 g228 g229 g230 g231 g232 g233 g234 g235 g236 g237 g238 g239 g240 g241 g242 g243 g244 g245 g246 g247 g248 g249 g250 g251 g252 g253 g254 g255 g256 g257 g258 g259 g260 g261 g262 hT
 have hal:=hT.al
 have hok:=hal.sp.ca.ok
 have hlas:=hT.las
 have himg:=hT.img
 have h1B:1 < C.img.length:=by omega
 have hbm:=hok.see_len h1B
 have hr0:=zE (e:=32) hT.h0
 obtain ⟨o,S3,⟨hF3,hC3,a1,u1,rfl,hla1,hrow1,hu1⟩,hE3⟩:=zZ (zgo hal hm)
 have hmap:=fun {ops base K' ws cs i dst T}=>qY (ops:=ops) (base:=base) (K:=K') (ws:=ws) (cs:=cs) (i:=i) (dst:=dst) (T:=T) rfl hE3
 have hal3:=hal.frC hF3 hC3 rfl
 have h03:S3[0]? = some (.row [.d (encLay l)] 32):=hF3.row hT.h0 rfl
 have hr03:=zE (e:=32) h03
 have hfz1:allO (Go.Vm.frz S3 zH) [.d (encLay l),.cs a1 0 0 256]=some [encLay l,encB (C.see 1)]:=by
  simp only [allO,zh3 hrow1 hu1 hbm]
  rfl
 have hid1:([.d (encLay l),.cs a1 0 0 256]:List V).flatMap (frzIds S3 zH)=[a1]:=by
  rw [List.flatMap_cons,List.flatMap_cons,zh6 hrow1 hu1]
  rfl
 have hfreeD:=fun {ops base K' ws cs i dst T}=>q2x (ops:=ops) (base:=base) (K:=K') (ws:=ws) (cs:=cs) (i:=i) (dst:=dst) (T:=T) (zgi hrow1 hu1 rfl hfz1 hid1 rfl (zob l hb hi hm (2 + K) B hK hBl (C.see 1) hbm))
 have hcs1 : ∀ a,(V.cs a 0 0 256).one=true:=fun _=>rfl
 have hS20:0 < S2.length:=zS hT.h0
 have har1:a1 ≠ r:=by
  have:=hal.sp.ca.rn
  omega
 have hal4:=hal3.set1 (o:= .fz [blkD (C.see 1)] 42) hrow1 rfl (by decide) (by decide) (by decide) har1
 have h04:(S3.set a1 (.fz [blkD (C.see 1)] 42))[0]? = some (.row [.d (encLay l)] 32):=by rw [List.getElem?_set_ne (by omega)]; exact h03
 have hlay3:kL Tryz.prog S3 32 (.ref 0 0 0)=some (.d (encLay l)):=(zM hr03).trans lr32
 simp (maxSteps:=1000000) (disch:=first|assumption|omega|rfl) only [↓gp,gc,Nat.reduceAdd]
 refine qN (is:=[0,1,2,3,4]) (h:=0) (by kernel_rfl) (by kernel_rfl) ?_
 simp (maxSteps:=1000000) (disch:=first|assumption|omega|rfl) only [List.replicate_zero,eq_self,gw,ga,Nat.reduceAdd,↓gq,vso,List.append_nil,hr0,lr32,hmap,bo42,hcs1,hfreeD,bo41]
 refine ⟨zX rfl (by kernel_rfl) rfl (wJ hlay3) zmu zW,zG (by kernel_rfl) zW,by kernel_rfl,?_⟩
 generalize S3.set a1 (Ob.fz [blkD (C.see 1)] 42)=S4 at *
 obtain ⟨o,S5,⟨rfl,hC5,hF5⟩,hE5⟩:=zZ (zfg S4 _ y x c r m mk gm l e C hal4.seen hal4.sp.hB hb hi hm (2 + K) hK B hBl)
 have hal5:=hal4.frC hF5 hC5.at rfl
 obtain ⟨o,S6,⟨rfl,hC6,hF6⟩,hE6⟩:=zZ (zec S5 _ y x c r m mk gm l e C hal5.seen hal5.sp.hB hb hi hm (2 + K) hK B hBl)
 have hal6:=hal5.frC hF6 hC6.at rfl
 obtain ⟨o,S7,⟨hF7,hC7,a7,u7,rfl,hla7,hrow7,hu7⟩,hE7⟩:=zZ (zgo hal6 hm)
 have hmap7:=fun {ops dst k T F Q}=>zD (ops:=ops) (dst:=dst) (l:=k) (T:=T) (F:=F) (Q:=Q) rfl hE7
 have hal7:=hal6.frC hF7 hC7 rfl
 have har7:a7 ≠ r:=by
  have:=hal6.sp.ca.rn
  omega
 have hde_e : ∀ {p:Prop} (i:Decidable p),p→@decide p i=true:=fun i h=>decide_eq_true h
 obtain ⟨bad0,hb0⟩ : ∃ bad0:Bool,bad0=decide (e ≠ 0):=⟨_,rfl⟩
 have hbe : ∀ i:Decidable (e ≠ 0),@decide (e ≠ 0) i=bad0:=fun i=>by rw [hb0]; exact decide_eq_decide.2 Iff.rfl
 have eb:bad0=(bad0 || badN (C.last:Int) (needs.take 0)):=by simp [badN]
 have hf9:=z3n (x:=9)
 have hsu9:(fulL 9).length=256:=hf9
 cases hfr:frB (C.see 1) (2 + K) B with
 | nil =>
  rw [hfr] at hE5 hE6
  have hde : ∀ i:Decidable (([]:List Nat) ≠ []),@decide (([]:List Nat) ≠ []) i=false:=fun i=>decide_eq_false (fun h=>h rfl)
  have e0:((([]:List Nat).length:Nat):Int)=0:=rfl
  have e1:((([]:List Nat).headD 0:Nat):Int)=0:=rfl
  simp only [hde,e1] at hE5
  rw [e0] at hE6
  have hnx:=fun {ops dst k T F Q}=>zD (ops:=ops) (dst:=dst) (l:=k) (T:=T) (F:=F) (Q:=Q) rfl hE5
  have hfree:=fun {ops dst k T F Q}=>zD (ops:=ops) (dst:=dst) (l:=k) (T:=T) (F:=F) (Q:=Q) rfl hE6
  have hlnf : ∀ S,zJ Tryz.prog S .len [22] [.d (encI (frI (C.see 1) (2 + K) B))]=some (.val (.d (.int .i64 0)) S 0):=fun S=>by
   have:frI (C.see 1) (2 + K) B=[]:=by unfold frI; rw [hfr]; rfl
   rw [this]
   exact lnI
  have hgone0:=zf1 S7 y x c r m mk gm l e C (fun _=>none) gf gl B0 hal7 (by omega) 0
  obtain ⟨o,S8,⟨hK8,v8,rfl,hN8,ho8⟩,hE8⟩:=zZ hgone0
  have hgone:=fun {ops dst k T F Q}=>zD (ops:=ops) (dst:=dst) (l:=k) (T:=T) (F:=F) (Q:=Q) rfl hE8
  have hal8:=hal7.keep hK8
  have hv81:=qF ho8
  have hst8:=fun {ops dst k T F Q}=>zD (ops:=ops) (dst:=dst) (l:=k) (T:=T) (F:=F) (Q:=Q) rfl (z0s S8 y x gm hal8.hy)
  have hch8:=fun {ops dst k T F Q}=>zD (ops:=ops) (dst:=dst) (l:=k) (T:=T) (F:=F) (Q:=Q) rfl (z3f S8 x c mk l.blocks l.inodes l.merge e hal8.sp.hx)
  have hla8:=fun {ops dst k T F Q}=>zD (ops:=ops) (dst:=dst) (l:=k) (T:=T) (F:=F) (Q:=Q) rfl (zlq hal8)
  have her8:=fun {ops dst k T F Q}=>zD (ops:=ops) (dst:=dst) (l:=k) (T:=T) (F:=F) (Q:=Q) rfl (z3t S8 x c mk _ _ _ e hal8.sp.hx)
  simp (maxSteps:=1000000) (disch:=first|assumption|omega|rfl) only [↓gp,gc,Nat.reduceAdd,hnx,bo43,hlnf,↓nb4,hfree,bo21,zN,hmap7,bo42,hgone,bo44,hv81,hst8,bo24,hch8,bo25,hla8,bo35,her8,bo45,hbe]
  rw [eb]
  refine q1a needs (by omega) (C.last:Int) ⟨by omega,by omega⟩ bad0 S8 _ _ _ _ _ _ _ _ needs.length 0 _ _ _ _ _ _ _ _ _ _ _ _ _ _ _ _ _ _ _ _ _ _ _ _ _ _ _ _ _ _ _ _ _ _ _ _ _ _ _ _ _ _ _ _ _ _ _ _ _ _ _ _ _ _ _ _ _ _ _ _ _ _ _ _ _ _ _ _ _ _ _ _ _ _ _ _ _ _ _ _ _ _ _ _ _ _ _ _ _ _ _ _ _ _ _ _ _ _ _ _ _ _ _ _ _ _ _ _ _ _ _ _ _ _ _ _ _ _ _ _ _ _ _ _ _ _ _ _ _ _ _ _ _ _ _ _ _ _ _ _ _ _ _ _ _ _ _ _ _ _ _ _ _ _ _ _ _ _ _ _ _ _ _ _ _ _ _ _ _ _ _ _ _ _ _ _ _ _ _ _ _ _ _ _ _ _ _ _ _ _ _ _ _ _ _ _ _ _ _ _ _ _ _ _ _ _ _ _ _ _ _ _ _ _ _ _ _ _ _ _ _ _ _ _ _ _ _ _ _ _ _ _ _ _ _ _ _ _ _ _ _ _ _ _ _ _ _ _ _ _ _ _ rfl (Nat.zero_le _) ?_
  intro i2' g0 g4 g5 g6 g8 g9 gH gK gI gJ gN gL gG gO gP gR gQ gU gS gT gV gW gX gY gZ gh gj gk gn gr gz hH hU hY hZ xA xB xC xD xE xF xG xH xI xJ xK xL xM xN xO xP xQ xR xS xT xU xV xW xX xY xZ g72 g73 g74 g75 g76 g77 g78 g79 g80 g81 g82 g83 g84 g85 g86 g87 g88 g89 g90 g91 g92 g93 g94 g95 g96 g97 g98 g99 g100 g101 g102 g103 g104 g105 g106 g107 g108 g109 g110 g111 g112 g113 g114 g115 g116 g117 g118 g119 g120 g121 g122 g123 g124 g125 g126 g127 g128 g129 g130 g131 g132 g133 g134 g135 g136 g137 g138 g139 g140 g141 g142 g143 g144 g145 g146 g147 g148 g149 g150 g151 g152 g153 g154 g155 g156 g157 g158 g159 g160 g161 g162 g163 g164 g165 g166 g167 g168 g169 g170 g171 g172 g173 g174 g175 g176 g177 g178 g179 g180 g181 g182 g183 g184 g185 g186 g187 g188 g189 g190 g191 g192 g193 g194 g195 g196 g197 g198 g199 g200 g201 g202 g203 g204 g205 g206 g207 g208 g209 g210 g211 g212 g213 g214 g215 g216 g217 g218 g219 g220 g221 g222 g223 g224 g225 g226 g227 g228 g229 g230 g231 g232 g233 g234 g235 g236 g237 g238 g239 g240 g241 g242 g243 g244 g245 g246 g247 g248 g249 g250 g251 g252 g253 g254 g255 g256 g257 g258 g259 g260 g261 g262
  obtain ⟨o,S9,⟨hF9,hA9,rfl⟩,hE9⟩:=zZ (z9e S8 y x c r m mk gm l e C (fun _=>none) gf gl B0 hal8 hb hi hm (2 + K) hK B hBl (.d (blkD (fulL 9))) _ kQ hf9 (.d (encI needs)) (.inl hfr))
  have htake:=fun {ops dst k T F Q}=>zD (ops:=ops) (dst:=dst) (l:=k) (T:=T) (F:=F) (Q:=Q) rfl hE9
  cases hbd:(bad0 || badN (C.last:Int) needs) with
  | true =>
   simp (maxSteps:=1000000) (disch:=first|assumption|omega|rfl) only [↓gp,gc,Nat.reduceAdd,z1j,bo20,htake,bo19,qZ,Bool.not_false,Bool.not_true,zN,zfb,kX,bo17]
   exact zQ rfl rfl rfl
  | false =>
   simp (maxSteps:=1000000) (disch:=first|assumption|omega|rfl) only [↓gp,gc,Nat.reduceAdd,z1j,bo20,htake,bo19,qZ,Bool.not_false,Bool.not_true,zN,zfb,kX,bo17]
   exact zQ rfl rfl rfl
 | cons no t =>
  obtain ⟨n1,n2,n3⟩:=zq0 hfr
  rw [hfr] at hE5 hE6
  have hde : ∀ i:Decidable (no::t ≠ []),@decide (no::t ≠ []) i=true:=fun i=>decide_eq_true (by simp)
  simp only [hde,List.headD_cons] at hE5
  have hnx:=fun {ops dst k T F Q}=>zD (ops:=ops) (dst:=dst) (l:=k) (T:=T) (F:=F) (Q:=Q) rfl hE5
  have hfree:=fun {ops dst k T F Q}=>zD (ops:=ops) (dst:=dst) (l:=k) (T:=T) (F:=F) (Q:=Q) rfl hE6
  have hfI:frI (C.see 1) (2 + K) B=(no:Int)::t.map fun n:Nat=>(n:Int):=by unfold frI; rw [hfr]; rfl
  have hlnf : ∀ S,zJ Tryz.prog S .len [22] [.d (encI (frI (C.see 1) (2 + K) B))]=some (.val (.d (.int .i64 ((no::t).length:Int))) S 0):=fun S=>by
   rw [hfI,lnI]
   simp
  have hixf : ∀ S,zL Tryz.prog S 22 (.d (encI (frI (C.see 1) (2 + K) B))) (.d (.int .i64 0))=some (.d (.ptr (.int .i64 (no:Int)))):=fun S=>by rw [hfI]; exact ix0I
  have hpos:((no::t).length:Int) > 0:=by simp
  generalize ((no::t).length:Int)=lf at hlnf hfree hpos
  have hgone0:=zf1 S7 y x c r m mk gm l e C (fun _=>none) gf gl B0 hal7 (by omega) (no:Int)
  obtain ⟨o,S8,⟨hK8,v8,rfl,hN8,ho8⟩,hE8⟩:=zZ hgone0
  have hgone:=fun {ops dst k T F Q}=>zD (ops:=ops) (dst:=dst) (l:=k) (T:=T) (F:=F) (Q:=Q) rfl hE8
  have hal8:=hal7.keep hK8
  have hv81:=qF ho8
  have hst8:=fun {ops dst k T F Q}=>zD (ops:=ops) (dst:=dst) (l:=k) (T:=T) (F:=F) (Q:=Q) rfl (z0s S8 y x gm hal8.hy)
  have hch8:=fun {ops dst k T F Q}=>zD (ops:=ops) (dst:=dst) (l:=k) (T:=T) (F:=F) (Q:=Q) rfl (z3f S8 x c mk l.blocks l.inodes l.merge e hal8.sp.hx)
  have hla8:=fun {ops dst k T F Q}=>zD (ops:=ops) (dst:=dst) (l:=k) (T:=T) (F:=F) (Q:=Q) rfl (zlq hal8)
  have her8:=fun {ops dst k T F Q}=>zD (ops:=ops) (dst:=dst) (l:=k) (T:=T) (F:=F) (Q:=Q) rfl (z3t S8 x c mk _ _ _ e hal8.sp.hx)
  simp (maxSteps:=1000000) (disch:=first|assumption|omega|rfl) only [↓gp,gc,Nat.reduceAdd,hnx,bo43,hlnf,↓nb4,hixf,ldI3,hfree,bo21,zN,hmap7,bo42,hgone,bo44,hv81,hst8,bo24,hch8,bo25,hla8,bo35,her8,bo45,hbe]
  rw [eb]
  refine q1a needs (by omega) (C.last:Int) ⟨by omega,by omega⟩ bad0 S8 _ _ _ _ _ _ _ _ needs.length 0 _ _ _ _ _ _ _ _ _ _ _ _ _ _ _ _ _ _ _ _ _ _ _ _ _ _ _ _ _ _ _ _ _ _ _ _ _ _ _ _ _ _ _ _ _ _ _ _ _ _ _ _ _ _ _ _ _ _ _ _ _ _ _ _ _ _ _ _ _ _ _ _ _ _ _ _ _ _ _ _ _ _ _ _ _ _ _ _ _ _ _ _ _ _ _ _ _ _ _ _ _ _ _ _ _ _ _ _ _ _ _ _ _ _ _ _ _ _ _ _ _ _ _ _ _ _ _ _ _ _ _ _ _ _ _ _ _ _ _ _ _ _ _ _ _ _ _ _ _ _ _ _ _ _ _ _ _ _ _ _ _ _ _ _ _ _ _ _ _ _ _ _ _ _ _ _ _ _ _ _ _ _ _ _ _ _ _ _ _ _ _ _ _ _ _ _ _ _ _ _ _ _ _ _ _ _ _ _ _ _ _ _ _ _ _ _ _ _ _ _ _ _ _ _ _ _ _ _ _ _ _ _ _ _ _ _ _ _ _ _ _ _ _ _ _ _ _ _ _ _ _ _ rfl (Nat.zero_le _) ?_
  intro i2' g0 g4 g5 g6 g8 g9 gH gK gI gJ gN gL gG gO gP gR gQ gU gS gT gV gW gX gY gZ gh gj gk gn gr gz hH hU hY hZ xA xB xC xD xE xF xG xH xI xJ xK xL xM xN xO xP xQ xR xS xT xU xV xW xX xY xZ g72 g73 g74 g75 g76 g77 g78 g79 g80 g81 g82 g83 g84 g85 g86 g87 g88 g89 g90 g91 g92 g93 g94 g95 g96 g97 g98 g99 g100 g101 g102 g103 g104 g105 g106 g107 g108 g109 g110 g111 g112 g113 g114 g115 g116 g117 g118 g119 g120 g121 g122 g123 g124 g125 g126 g127 g128 g129 g130 g131 g132 g133 g134 g135 g136 g137 g138 g139 g140 g141 g142 g143 g144 g145 g146 g147 g148 g149 g150 g151 g152 g153 g154 g155 g156 g157 g158 g159 g160 g161 g162 g163 g164 g165 g166 g167 g168 g169 g170 g171 g172 g173 g174 g175 g176 g177 g178 g179 g180 g181 g182 g183 g184 g185 g186 g187 g188 g189 g190 g191 g192 g193 g194 g195 g196 g197 g198 g199 g200 g201 g202 g203 g204 g205 g206 g207 g208 g209 g210 g211 g212 g213 g214 g215 g216 g217 g218 g219 g220 g221 g222 g223 g224 g225 g226 g227 g228 g229 g230 g231 g232 g233 g234 g235 g236 g237 g238 g239 g240 g241 g242 g243 g244 g245 g246 g247 g248 g249 g250 g251 g252 g253 g254 g255 g256 g257 g258 g259 g260 g261 g262
  cases hbd:(bad0 || badN (C.last:Int) needs) with
  | true =>
   have hz:e ≠ 0 ∨ badN (C.last:Int) needs=true:=by
    cases hb1:bad0 with
    | true=>rw [hb1] at hb0; exact .inl (of_decide_eq_true hb0.symm)
    | false=>rw [hb1,Bool.false_or] at hbd; exact .inr hbd
   have key : ∃ S9,EvS cfg 19 [.ref y 0 0,.d (blkD (fulL 9)),.d (encI needs)] S8 (fun o' S'=>S'=S9∧o' = .ret (.tup [.d (.int .i64 0),.ts []])):=by
    by_cases he:e=0
    ·subst he
     have hbn:badN (C.last:Int) needs=true:=by
      rcases hz with h | h
      ·exact absurd rfl h
      ·exact h
     obtain ⟨o,S9,⟨hF9,hA9,rfl⟩,hE9⟩:=zZ (zbv S8 y x c r m mk gm l C (fun _=>none) gf gl B0 hal8 (by omega) hb hi hm (2 + K) hK B hBl (.d (blkD (fulL 9))) _ kQ hf9 (.d (encI needs)) needs (.inl rfl) (by omega) (by omega) no t hfr)
     rw [if_pos (zos hbn)] at hE9
     exact ⟨S9,hE9⟩
    ·obtain ⟨o,S9,⟨hF9,hA9,rfl⟩,hE9⟩:=zZ (z9e S8 y x c r m mk gm l e C (fun _=>none) gf gl B0 hal8 hb hi hm (2 + K) hK B hBl (.d (blkD (fulL 9))) _ kQ hf9 (.d (encI needs)) (.inr he))
     exact ⟨S9,hE9⟩
   obtain ⟨S9,hE9⟩:=key
   have htake:=fun {ops dst k T F Q}=>zD (ops:=ops) (dst:=dst) (l:=k) (T:=T) (F:=F) (Q:=Q) rfl hE9
   simp (maxSteps:=1000000) (disch:=first|assumption|omega|rfl) only [↓gp,gc,Nat.reduceAdd,z1j,bo20,htake,bo19,qZ,Bool.not_false,Bool.not_true,zN,zfb,kX,bo17]
   exact zQ rfl rfl rfl
  | false =>
   have hb1:bad0=false:=by cases hb1:bad0 with
    | false=>rfl
    | true=>rw [hb1,Bool.true_or] at hbd; cases hbd
   rw [hb1] at hb0
   have he:e=0:=by
    by_cases he:e=0
    ·exact he
    ·exact absurd (decide_eq_true he) (by rw [← hb0]; exact Bool.false_ne_true)
   rw [hb1,Bool.false_or] at hbd
   subst he
   have hin:=fun n=>hT.inv rfl n
   have hids:=zpv (gs:=gl (no:Int)) (no:=no) hok hbd (hin (no:Int))
   obtain ⟨z1,z2⟩:=z8u (bb:=fulL 9) (by omega:no < C.img.length) hf9 hids
   obtain ⟨o,S9,⟨hF9,⟨gf9,hA9⟩,rfl⟩,hE9⟩:=zZ (zbv S8 y x c r m mk gm l C (fun _=>none) gf gl B0 hal8 (by omega) hb hi hm (2 + K) hK B hBl (.d (blkD (fulL 9))) _ kQ hf9 (.d (encI needs)) needs (.inl rfl) (by omega) (by omega) no t hfr)
   rw [z1] at hA9
   rw [if_neg (fun h=>h z1)] at hE9
   have htake:=fun {ops dst k T F Q}=>zD (ops:=ops) (dst:=dst) (l:=k) (T:=T) (F:=F) (Q:=Q) rfl hE9
   have hlist:(takC C no (fulL 9) (gl (no:Int)) needs).list=C.list ++ [⟨(C.last:Int) + 1,1,((no / 8:Nat):Int),bitP C no true,[]⟩,⟨((bitC C no true []).last:Int) + 1,(no:Int),0,fulL 9,nd2 C no (gl (no:Int)) needs⟩]:=by
    have e1 : ∀ X,(bitC C no true []).list ++ [X]=C.list ++ [⟨(C.last:Int) + 1,1,((no / 8:Nat):Int),bitP C no true,[]⟩,X]:=fun X=>by
     rw [z4t,zly,List.append_assoc]
     rfl
    rw [z2]
    exact e1 _
   have hsee:=zh1 (bb:=fulL 9) (gs:=gl (no:Int)) (ids:=needs) hok (no:=no) (by omega) h1B (by omega) hf9 hids (by omega) no
   rw [if_pos rfl] at hsee
   have himg2:(takC C no (fulL 9) (gl (no:Int)) needs).img.length=C.img.length:=by rw [(zdl (C:=C)).2.2]
   have hlen2:(takC C no (fulL 9) (gl (no:Int)) needs).list.length=C.list.length + 2:=by rw [hlist]; simp
   obtain ⟨hnd_a,hnd_b⟩:=zsx (ids:=needs) (no:=no) hok (hin (no:Int))
   generalize hC2:takC C no (fulL 9) (gl (no:Int)) needs=C2 at *
   generalize hnd2:nd2 C no (gl (no:Int)) needs=nd at *
   obtain ⟨o,S10,⟨hK10,id,es,rfl,hrow10,hc10⟩,hE10⟩:=zZ (zuf hA9 2 (by omega) (by omega))
   have hlast:=fun {ops dst k T F Q}=>zD (ops:=ops) (dst:=dst) (l:=k) (T:=T) (F:=F) (Q:=Q) rfl hE10
   have e2:((2:Nat):Int)=2:=rfl
   simp only [e2] at hlast
   have hk:C2.list.length - 2=C.list.length:=by omega
   rw [hk] at hlast
   have hesl:=hc10.1
   have hcl1:C2.list[C.list.length]? = some ⟨(C.last:Int) + 1,1,((no / 8:Nat):Int),bitP C no true,[]⟩:=by rw [hlist,List.getElem?_append_right (Nat.le_refl _),Nat.sub_self]; rfl
   have hcl2:C2.list[C.list.length + 1]? = some ⟨((bitC C no true []).last:Int) + 1,(no:Int),0,fulL 9,nd⟩:=by rw [hlist,List.getElem?_append_right (by omega),Nat.add_sub_cancel_left]; rfl
   have hcv1:=hc10.2 C.list.length (es[C.list.length]'(by omega)) _ (List.getElem?_eq_getElem (by omega)) hcl1
   have hcv2:=hc10.2 (C.list.length + 1) (es[C.list.length + 1]'(by omega)) _ (List.getElem?_eq_getElem (by omega)) hcl2
   obtain ⟨dv1,nv1,id1,hue1,hd1,hn1',hdv1⟩:=hcv1.form (by unfold bitP; simp)
   obtain ⟨dv2,nv2,id2,hue2,hd2,hn2',hdv2⟩:=hcv2.form (by rw [hf9]; omega)
   simp only at hue1 hd1 hn1' hdv1 hue2 hd2 hn2' hdv2
   rw [hdv1] at hue1 hd1
   rw [hdv2] at hue2 hd2
   have hdl1:(bitP C no true).length=1:=rfl
   rw [hdl1] at hue1 hd1
   rw [hf9] at hue2 hd2
   have hrow7a:S9[a7]? = some (.row [u7] 42):=hF9.row (hK8 _ _ hrow7) (by simp [har7])
   have hrow7b:=hK10 _ _ hrow7a
   have hA10:=hA9.keep hK10
   have hA11:=hA10.set1 (o:= .fz [blkD (C.see 1)] 42) hrow7b rfl (by decide) (by decide) (by decide) har7
   have hfz7:allO (Go.Vm.frz S10 zH) [.cs a7 0 0 256,.d (.int .i64 (no:Int)),.d (.bool true)]=some [encB (C.see 1),.int .i64 (no:Int),.bool true]:=by
    simp only [allO,zh3 hrow7b hu7 hbm]
    rfl
   have hid7:([.cs a7 0 0 256,.d (.int .i64 (no:Int)),.d (.bool true)]:List V).flatMap (frzIds S10 zH)=[a7]:=by
    rw [List.flatMap_cons,zh6 hrow7b hu7]
    rfl
   have hset:=fun {ops dst k T F Q}=>zlw (ops:=ops) (dst:=dst) (k:=k) (T:=T) (F:=F) (Q:=Q) (zgi hrow7b hu7 rfl hfz7 hid7 rfl (q1j (C.see 1) hbm no (by omega) true))
   have hrow11:(S10.set a7 (.fz [blkD (C.see 1)] 42))[id]? = some (.row es 97):=by rw [List.getElem?_set_ne (by rintro rfl; have:=getE hrow7b hrow10; simp at this)]; exact hrow10
   have hd1b:=z4v (o:= .fz [blkD (C.see 1)] 42) hd1 hrow7b (by decide)
   have hd2b:=z4v (o:= .fz [blkD (C.see 1)] 42) hd2 hrow7b (by decide)
   have hn1b:=z4v (o:= .fz [blkD (C.see 1)] 42) hn1' hrow7b (by decide)
   have hn2b:=z4v (o:= .fz [blkD (C.see 1)] 42) hn2' hrow7b (by decide)
   have ho8b:=z4v (o:= .fz [blkD (C.see 1)] 42) (hK10.own (hF9.own ho8 rfl)) hrow7b (by decide)
   generalize S10.set a7 (Ob.fz [blkD (C.see 1)] 42)=S11 at *
   generalize ha12:S11.length=a12
   have hk12:Keep S11 (S11 ++ [.row [.d (patD ((no / 8:Nat):Int) [setB (C.see 1) no true])] 94]):=Keep.refl.app
   have hA12:=hA11.keep hk12
   have hrow12:=hk12 _ _ hrow11
   have hd1c:=hk12.own hd1b
   have hd2c:=hk12.own hd2b
   have hn1c:=hk12.own hn1b
   have hn2c:=hk12.own hn2b
   have ho8c:=hk12.own ho8b
   have hrw12:rowE (S11 ++ [.row [.d (patD ((no / 8:Nat):Int) [setB (C.see 1) no true])] 94]) a12 0=some (.d (patD ((no / 8:Nat):Int) [setB (C.see 1) no true])):=rA0 ha12
   simp (maxSteps:=1000000) (disch:=first|assumption|omega|rfl) only [↓gp,gc,Nat.reduceAdd,z1j,bo20,htake,bo19,qZ,Bool.not_false,Bool.not_true,hlast,bo46,hcs1,hset,bo47,zR,zfR,ha12,rA0 ha12,pA0 ha12,srRd]
   generalize S11 ++ [Ob.row [.d (patD ((no / 8:Nat):Int) [setB (C.see 1) no true])] 94]=S12 at *
   have hr1:rowE S12 id C.list.length=some (.agg [.d (.int .i64 ((C.last:Int) + 1)),.d (.int .i64 1),.d (.int .i64 ((no / 8:Nat):Int)),.rs id1 0 1,nv1]):=by
    unfold rowE; rw [hrow12,← hue1]; exact List.getElem?_eq_getElem (by omega)
   have hr2:rowE S12 id (C.list.length + 1)=some (.agg [.d (.int .i64 (((bitC C no true []).last:Int) + 1)),.d (.int .i64 (no:Int)),.d (.int .i64 0),.rs id2 0 256,nv2]):=by
    unfold rowE; rw [hrow12,← hue2]; exact List.getElem?_eq_getElem (by omega)
   have hi0:=ixC0 (k0:=C.list.length) (q:=2) hrow12 (by omega)
   have hi1:=ixC1 (k0:=C.list.length) hrow12
   have hw1:IntKind.i64.wrap ((C.last:Int) + 1)=(C.last:Int) + 1:=wrap64 (by omega)
   have hw2:IntKind.i64.wrap ((C.last:Int) + 2)=(C.last:Int) + 2:=wrap64 (by omega)
   have hintsD : ∀ {ops base K ws cs i dst T S},WpEw cfg ops base K ws cs i dst T S (some (.enter 39 [.ts [.int .i64 ((C.last:Int) + 1),.int .i64 ((C.last:Int) + 2)],.ts [.int .i64 ((C.last:Int) + 1),.int .i64 ((C.last:Int) + 2)]]))=K ((i,T,.d (.bool true))::ws) (cs ++ [(i,1)]) (putT T dst (.d (.bool true))) S:=fun {ops base K ws cs i dst T S}=>z1d (ds:=[encI [(C.last:Int) + 1,(C.last:Int) + 2],encI [(C.last:Int) + 1,(C.last:Int) + 2]]) rfl rfl rfl (by
    have:=zl3 [(C.last:Int) + 1,(C.last:Int) + 2] [(C.last:Int) + 1,(C.last:Int) + 2] (by simp)
    rw [decide_eq_true rfl] at this
    exact this)
   have hln2 : ∀ S,zJ Tryz.prog S .len [92] [.rs id C.list.length 2]=some (.val (.d (.int .i64 2)) S 0):=fun S=>z95 uC
   have hsameD:=fun {ops base K' ws cs i dst T}=>q1i (ops:=ops) (base:=base) (K:=K') (ws:=ws) (cs:=cs) (i:=i) (dst:=dst) (T:=T) (S:=S12) (f:=48) (args:=[.agg [.d (.int .i64 ((no / 8:Nat):Int)),.rs id1 0 1],.d (patD ((no / 8:Nat):Int) [setB (C.see 1) no true])]) (ds:=[patD ((no / 8:Nat):Int) (bitP C no true),patD ((no / 8:Nat):Int) [setB (C.see 1) no true]]) rfl (by
    simp only [allO,zkk hd1c]
    rfl) rfl (zod ((no / 8:Nat):Int) [setB (C.see 1) no true] (by simp))
   have hlnv1:zJ Tryz.prog S12 .len [22] [nv1]=some (.val (.d (.int .i64 0)) S12 0):=kE Tryz.underlying22 hn1c
   have hlnd2:zJ Tryz.prog S12 .len [76] [.rs id2 0 256]=some (.val (.d (.int .i64 256)) S12 0):=z95 Tryz.underlying76
   have hn11:=qF hn1c
   have hn21:=qF hn2c
   refine qN (is:=[0,1,2,3,4,5,6,7,8,9,10,11,12,13,14,15,16,17,18,19,20,21,22,23,24,25,26,27,28,29,30,31,32,33,34,35,36,37,38,39,40,41,42,43,44,45,46,47,48,49,50,51,52,53,54,55,56,57,58]) (h:=0) (by kernel_rfl) (by kernel_rfl) ?_
   simp (maxSteps:=1000000) (disch:=first|assumption|omega|rfl) only [List.replicate_zero,eq_self,gw,ga,Nat.reduceAdd,↓gq,vso,List.append_nil,hw1,hw2,zl9,zv3,hintsD,bo39,qZ,Bool.not_true,hln2,hi0,hi1,q3m,q2p,zl0,q2g,hr1,hr2,q4p,q4f,zcp,q33,hrw12,lrRd,hsameD,bo48,hlnv1,hlnd2,hn11,hn21,zN]
   refine ⟨by kernel_rfl,?_⟩
   simp (maxSteps:=1000000) (disch:=first|assumption|omega|rfl) only [↓gp,gc,Nat.reduceAdd]
   have hg0:(wK C.list (gl (no:Int))).length ≤ 1000000:=by
    refine Nat.le_trans z8i ?_
    obtain ⟨_,_,_,_,_,_,_,_,g,_⟩:=hal.sp.ca
    have:=g.wq
    omega
   have hndl:nd.length ≤ 1000000:=by
    rw [← hnd2]
    unfold nd2 z28
    refine Nat.le_trans (List.length_filter_le ..) ?_
    rw [List.length_map,z4t,List.length_append,List.length_singleton]
    obtain ⟨_,_,_,_,_,_,_,_,g,_⟩:=hal.sp.ca
    have:=g.wq
    omega
   refine q3k hrow12 hr2 hn2c ho8c hg0 hndl hnd_a _ _ _ _ _ (wK C.list (gl (no:Int))).length 0 _ _ _ _ _ _ _ _ _ _ _ _ _ _ _ _ _ _ _ _ _ _ _ _ _ _ _ _ _ _ _ _ _ _ _ _ _ _ _ _ _ _ _ _ _ _ _ _ _ _ _ _ _ _ _ _ _ _ _ _ _ _ _ _ _ _ _ _ _ _ _ _ _ _ _ _ _ _ _ _ _ _ _ _ _ _ _ _ _ _ _ _ _ _ _ _ _ _ _ _ _ _ _ _ _ _ _ _ _ _ _ _ _ _ _ _ _ _ _ _ _ _ _ _ _ _ _ _ _ _ _ _ _ _ _ _ _ _ _ _ _ _ _ _ _ _ _ _ _ _ _ _ _ _ _ _ _ _ _ _ _ _ _ _ _ _ _ _ _ _ _ _ _ _ _ _ _ _ _ _ _ _ _ _ _ _ _ _ _ _ _ _ _ _ _ _ _ _ _ _ _ _ _ _ _ _ _ _ _ _ _ _ _ _ _ _ _ _ _ _ _ _ _ _ _ _ _ _ _ _ _ _ _ _ _ _ _ _ _ _ _ _ _ _ _ _ _ _ _ _ _ _ _ _ _ _ rfl (Nat.zero_le _) ?_
   intro i4' g0 g1 g4 g5 g6 g8 g9 gE gC gB gA gD gH gK gJ gL gG gO gP gR gQ gU gS gT gV gW gX gY gZ gh gj gk gn gr gz hH hU hY hZ xA xB xC xD xE xF xG xH xI xJ xK xL xM xN xO xP xQ xR xS xT xU xV xW xX xY xZ g72 g73 g74 g75 g76 g77 g78 g79 g80 g81 g82 g83 g84 g85 g86 g87 g88 g89 g90 g91 g92 g93 g94 g95 g96 g97 g98 g99 g100 g101 g102 g103 g104 g105 g106 g107 g108 g109 g110 g111 g112 g113 g114 g115 g116 g117 g118 g119 g120 g121 g122 g123 g124 g125 g126 g127 g128 g129 g130 g131 g132 g133 g134 g135 g136 g137 g138 g139 g140 g141 g142 g143 g144 g145 g146 g147 g148 g149 g150 g151 g152 g153 g154 g155 g156 g157 g158 g159 g160 g161 g162 g163 g164 g165 g166 g167 g168 g169 g170 g171 g172 g173 g174 g175 g176 g177 g178 g179 g180 g181 g182 g183 g184 g185 g186 g187 g188 g189 g190 g191 g192 g193 g194 g195 g196 g197 g198 g199 g200 g201 g202 g203 g204 g205 g206 g207 g208 g209 g210 g211 g212 g213 g214 g215 g216 g217 g218 g219 g220 g221 g222 g223 g224 g225 g226 g227 g228 g229 g230 g231 g232 g233 g234 g235 g236 g237 g238 g239 g240 g241 g242 g243 g244 g245 g246 g247 g248 g249 g250 g251 g252 g253 g254 g255 g256 g257 g258 g259 g260 g261 g262
   simp (maxSteps:=1000000) (disch:=first|assumption|omega|rfl) only [↓gp,gc,Nat.reduceAdd]
   refine q4t needs (by omega) hrow12 hr2 hn2c ho8c hg0 hndl hnd_b _ _ _ _ nd.length 0 _ _ _ _ _ _ _ _ _ _ _ _ _ _ _ _ _ _ _ _ _ _ _ _ _ _ _ _ _ _ _ _ _ _ _ _ _ _ _ _ _ _ _ _ _ _ _ _ _ _ _ _ _ _ _ _ _ _ _ _ _ _ _ _ _ _ _ _ _ _ _ _ _ _ _ _ _ _ _ _ _ _ _ _ _ _ _ _ _ _ _ _ _ _ _ _ _ _ _ _ _ _ _ _ _ _ _ _ _ _ _ _ _ _ _ _ _ _ _ _ _ _ _ _ _ _ _ _ _ _ _ _ _ _ _ _ _ _ _ _ _ _ _ _ _ _ _ _ _ _ _ _ _ _ _ _ _ _ _ _ _ _ _ _ _ _ _ _ _ _ _ _ _ _ _ _ _ _ _ _ _ _ _ _ _ _ _ _ _ _ _ _ _ _ _ _ _ _ _ _ _ _ _ _ _ _ _ _ _ _ _ _ _ _ _ _ _ _ _ _ _ _ _ _ _ _ _ _ _ _ _ _ _ _ _ _ _ _ _ _ _ _ _ _ _ _ _ _ _ _ _ _ _ _ _ _ rfl (Nat.zero_le _) ?_
   intro i6' g0 g1 g4 g5 g6 g8 g9 gE gC gB gA gD gH gK gJ gN gG gO gP gR gQ gU gS gT gV gW gX gY gZ gh gj gk gn gr gz hH hU hY hZ xA xB xC xD xE xF xG xH xI xJ xK xL xM xN xO xP xQ xR xS xT xU xV xW xX xY xZ g72 g73 g74 g75 g76 g77 g78 g79 g80 g81 g82 g83 g84 g85 g86 g87 g88 g89 g90 g91 g92 g93 g94 g95 g96 g97 g98 g99 g100 g101 g102 g103 g104 g105 g106 g107 g108 g109 g110 g111 g112 g113 g114 g115 g116 g117 g118 g119 g120 g121 g122 g123 g124 g125 g126 g127 g128 g129 g130 g131 g132 g133 g134 g135 g136 g137 g138 g139 g140 g141 g142 g143 g144 g145 g146 g147 g148 g149 g150 g151 g152 g153 g154 g155 g156 g157 g158 g159 g160 g161 g162 g163 g164 g165 g166 g167 g168 g169 g170 g171 g172 g173 g174 g175 g176 g177 g178 g179 g180 g181 g182 g183 g184 g185 g186 g187 g188 g189 g190 g191 g192 g193 g194 g195 g196 g197 g198 g199 g200 g201 g202 g203 g204 g205 g206 g207 g208 g209 g210 g211 g212 g213 g214 g215 g216 g217 g218 g219 g220 g221 g222 g223 g224 g225 g226 g227 g228 g229 g230 g231 g232 g233 g234 g235 g236 g237 g238 g239 g240 g241 g242 g243 g244 g245 g246 g247 g248 g249 g250 g251 g252 g253 g254 g255 g256 g257 g258 g259 g260 g261 g262
   have hst12:=fun {ops dst k T F Q}=>zD (ops:=ops) (dst:=dst) (l:=k) (T:=T) (F:=F) (Q:=Q) rfl (z0s S12 y x gm hA12.hy)
   obtain ⟨o,S13,⟨hK13,v13,rfl,hv13⟩,hE13⟩:=zZ (z43 S12 x c mk l.blocks l.inodes l.merge 0 hA12.sp.hx)
   have hview:=fun {ops dst k T F Q}=>zD (ops:=ops) (dst:=dst) (l:=k) (T:=T) (F:=F) (Q:=Q) rfl hE13
   have hv1:v13.one=true:=by obtain ⟨g,rfl,_⟩:=hv13; rfl
   obtain ⟨o,S14,⟨hF14,hC14,u14,rfl,hu14⟩,hE14⟩:=zZ (z3h S13 v13 S12.length c r m l.blocks l.inodes l.merge C2 ((CacheIn.of hA12.sp.ca).keep hK13) hv13 hA12.sp.hB no (by omega))
   have hblk:=fun {ops dst k T F Q}=>zD (ops:=ops) (dst:=dst) (l:=k) (T:=T) (F:=F) (Q:=Q) rfl hE14
   rw [hsee] at hu14
   have hq:=q3b hu14 kQ hf9
   have hu1:=hu14.one
   simp (maxSteps:=1000000) (disch:=first|assumption|omega|rfl) only [↓gp,gc,Nat.reduceAdd,hst12,bo24,hview,bo27,hv1,hblk,bo49,hu1,z1j,bo20,hq,kX,bo17]
   exact zQ rfl rfl rfl
end Go.Proofs.YtobgdmgldagjkaaGreat
end
section
namespace Go.Vm
open Go.ChangeShapes Go.RowKit
inductive Ty where
 | bool
 | int (k:IntKind)
 | str
 | sl (e:Ty)
 | agg (fs:List Ty)
 deriving Inhabited
def Ty.isAgg:Ty→Bool | .agg _=>true | _=>false
def Ty.cells:Ty→List Ty | .agg fs=>fs | .bool=>[.bool] | .int k=>[.int k] | .str=>[.str] | .sl e=>[.sl e]
def z12 (P:Program) (g:TypeId→Option Ty):List Field→Nat→Option (List Ty)
 | [],_=>some []
 | f::r,off=>match g f.type with
  | some x=>if f.offset=off∧P.cellsOf f.type=x.cells.length then match z12 P g r (off + x.cells.length) with
   | some l=>some (x.cells ++ l)
   | none=>none
   else none
  | none=>none
def ofType (P:Program):Nat→TypeId→Option Ty
 | 0,_=>none
 | n + 1,t=>match P.underlying t with
  | some .bool=>some .bool
  | some (.int k)=>some (.int k)
  | some .string=>some .str
  | some (.slice e)=>match ofType P n e with
   | some x=>if P.cellsOf e=x.cells.length∧x.cells.length ≠ 0 then some (.sl x) else none
   | none=>none
  | some (.struct fs)=>match z12 P (ofType P n) fs.toList 0 with
   | some l=>if P.cellsOf t=l.length then some (.agg l) else none
   | none=>none
  | some (.array m e)=>match ofType P n e with
   | some x=>if P.cellsOf e=x.cells.length∧P.cellsOf t=m * x.cells.length then some (.agg (List.replicate m x.cells).flatten) else none
   | none=>none
  | _=>none
mutual
def HasTy:Ty→D→Prop
 | .bool,x=>∃ b,x = .bool b
 | .int k,x=>∃ n,x = .int k n∧k.min ≤ n∧n ≤ k.max
 | .str,x=>∃ s,x = .str s∧s.length ≤ maxLen
 | .sl e,x=>∃ xs,x = .sl xs∧xs.length ≤ maxLen ∧ ∀ y ∈ xs,HasTy e y
 | .agg fs,x=>∃ xs,x = .agg xs∧HasL fs xs
def HasL:List Ty→List D→Prop
 | [],xs=>xs=[]
 | t::ts,xs=>∃ y r,xs=y::r∧HasTy t y∧HasL ts r
end
theorem zdp {t:Ty} {x:D} (h:HasTy t x):x.isAgg=t.isAgg:=by
 cases t <;> simp only [HasTy] at h <;> obtain ⟨_,rfl,_⟩:=h <;> rfl
theorem z40 : ∀ {ts us:List Ty} {xs ys:List D},HasL ts xs→HasL us ys→HasL (ts ++ us) (xs ++ ys)
 | [],us,xs,ys,h,h'=>by simp only [HasL] at h; subst h; exact h'
 | t::ts,us,xs,ys,h,h'=>by
  simp only [HasL] at h
  obtain ⟨y,r,rfl,h1,h2⟩:=h
  simp only [List.cons_append,HasL]
  exact ⟨y,r ++ ys,rfl,h1,z40 h2 h'⟩
theorem z80 {t:Ty} {x:D} (h:HasTy t x):HasL t.cells x.cells:=by
 cases t with
 | agg fs=>simp only [HasTy] at h; obtain ⟨xs,rfl,h⟩:=h; exact h
 | _ =>
  have h':=h
  simp only [HasTy] at h
  obtain ⟨_,rfl,_⟩:=h
  simp only [Ty.cells,D.cells,HasL]
  exact ⟨_,[],rfl,h',rfl⟩
section
variable {P:Program} {H:Type} {enc:TypeId × Value→H} {w:World}
theorem z9j {α β:Type} {f:α→Option β} {x:α} {r:List α} {ys:List β} (h:(x::r).mapM f=some ys) : ∃ y zs,f x=some y∧r.mapM f=some zs∧ys=y::zs:=by
 rw [List.mapM_cons] at h
 cases h1:f x with
 | none=>simp [h1] at h
 | some y =>
  cases h2:r.mapM f with
  | none=>simp [h1,h2] at h
  | some zs=>simp [h1,h2] at h; exact ⟨y,zs,rfl,rfl,h.symm⟩
theorem zb9 {α β:Type} {f:α→Option β} {ys:List β} (h:([]:List α).mapM f=some ys):ys=[]:=by simpa using h.symm
theorem cells?_spec {base:Nat} {a:Addr} {n:Nat} {us:List Value} (h:w.cells? base a n=some us):us.length=n ∧ ∀ j v,us[j]? = some v→w.cell? (a.add j)=some v:=by
 unfold World.cells? at h
 split at h
 ·have key : ∀ (m s:Nat) (us:List Value),(List.range' s m).mapM (fun i=>w.cell? (a.add i))=some us→us.length=m ∧ ∀ j v,us[j]? = some v→w.cell? (a.add (s + j))=some v:=by
   intro m
   induction m with
   | zero=>intro s us h; have:=zb9 h; subst this; exact ⟨rfl,fun j v h=>by simp at h⟩
   | succ m ih =>
    intro s us h
    rw [List.range'_succ] at h
    obtain ⟨y,zs,h1,h2,rfl⟩:=z9j h
    obtain ⟨g1,g2⟩:=ih (s + 1) zs h2
    refine ⟨by simp [g1],fun j v hj=>?_⟩
    cases j with
    | zero=>simp at hj; subst hj; exact h1
    | succ j=>simp at hj; have:=g2 j v hj; rw [show s + (j + 1)=s + 1 + j by omega]; exact this
  rw [List.range_eq_range'] at h
  obtain ⟨g1,g2⟩:=key n 0 us h
  exact ⟨g1,fun j v hj=>by simpa using g2 j v hj⟩
 ·cases h
theorem ziq {a:Addr} {us:List Value} (hne:us ≠ []) (h : ∀ j v,us[j]? = some v→w.cell? (a.add j)=some v):a.spot=none∧a.block < w.heap.size∧CellsAt w a.block a.off us:=by
 have h0 : ∃ v,us[0]? = some v:=by cases us with | nil=>exact absurd rfl hne | cons x r=>exact ⟨x,rfl⟩
 obtain ⟨v,hv⟩:=h0
 have:=h 0 v hv
 rw [Addr.add_zero'] at this
 unfold World.cell? at this
 cases hb:w.heap[a.block]? with
 | none=>simp [hb] at this
 | some o =>
  cases o with
  | cells c e f =>
   simp only [hb] at this
   split at this
   ·cases this
   ·rename_i hs
    refine ⟨by simpa using hs,kG hb,c,e,f,hb,fun j v hj=>?_⟩
    have:=h j v hj
    unfold World.cell? at this
    have hbl:(a.add j).block=a.block:=by unfold Addr.add; split <;> rfl
    have hoff:(a.add j).off=a.off + j:=by unfold Addr.add; split <;> simp_all
    simp only [hbl,hb] at this
    split at this
    ·cases this
    ·rw [hoff] at this; exact this
  | _=>simp [hb] at this
theorem addr_add_add (a:Addr) (m n:Nat):(a.add m).add n=a.add (m + n):=by
 unfold Addr.add
 by_cases h:m=0 <;> by_cases h':n=0 <;> simp [h,h',Nat.add_assoc]
abbrev Old (w:World) (b:Nat):Prop:=b < w.heap.size
theorem z2r {A:Nat→Prop} : ∀ {xs ys:List D} {us vs:List Value},RepL A w xs us→RepL A w ys vs→RepL A w (xs ++ ys) (us ++ vs)
 | [],ys,us,vs,h,h'=>by simp only [RepL] at h; subst h; exact h'
 | x::r,ys,us,vs,h,h'=>by
  simp only [RepL] at h
  obtain ⟨v,us',rfl,h1,h2,h3⟩:=h
  simp only [List.cons_append,RepL]
  exact ⟨v,us' ++ vs,rfl,h1,h2,z2r h3 h'⟩
theorem zak {base:Nat} {spare:Nat→Bool} {held:Bool} {g:TypeId→Option Ty} {cs:List Value} {fu:Nat} (ih : ∀ {t:TypeId} {cs:List Value} {z:DataW H × List MemPlace} {T:Ty},DataW.trod enc P w base spare held fu t cs=some z→g t=some T → ∃ x,HasTy T x∧RepC (Old w) w x cs) :
  ∀ {l:List Field} {off:Nat} {ts:List Ty},z12 P g l off=some ts→(∀ f ∈ l,∃ z,DataW.trod enc P w base spare held fu f.type ((cs.drop f.offset).take (P.cellsOf f.type))=some z) → ∃ xs,HasL ts xs∧RepL (Old w) w xs ((cs.drop off).take ts.length)
 | [],off,ts,h,_=>by
  simp only [z12,Option.some.injEq] at h; subst h
  exact ⟨[],rfl,by simp [RepL]⟩
 | f::r,off,ts,h,hz=>by
  simp only [z12] at h
  cases hg:g f.type with
  | none=>simp [hg] at h
  | some T =>
   simp only [hg] at h
   split at h
   ·rename_i hc
    obtain ⟨rfl,hc2⟩:=hc
    cases hr:z12 P g r (f.offset + T.cells.length) with
    | none=>simp [hr] at h
    | some l =>
     simp only [hr,Option.some.injEq] at h; subst h
     obtain ⟨z,hz1⟩:=hz f (by simp)
     obtain ⟨x,hx,hrx⟩:=ih hz1 hg
     obtain ⟨xs,h1,h2⟩:=zak ih hr (fun f' hf'=>hz f' (by simp [hf']))
     refine ⟨x.cells ++ xs,z40 (z80 hx) h1,?_⟩
     have e:(cs.drop f.offset).take (T.cells ++ l).length=(cs.drop f.offset).take (P.cellsOf f.type) ++ (cs.drop (f.offset + T.cells.length)).take l.length:=by
      rw [List.length_append,List.take_add,hc2,List.drop_drop]
     rw [e]
     exact z2r (wS hrx) h2
   ·cases h
theorem zo6 {base:Nat} {spare:Nat→Bool} {held:Bool} : ∀ (n:Nat) (fuel:Nat) {t:TypeId} {cs:List Value} {z:DataW H × List MemPlace} {T:Ty},DataW.trod enc P w base spare held fuel t cs=some z→ofType P n t=some T → ∃ x,HasTy T x∧RepC (Old w) w x cs:=by
 intro n
 induction n with
 | zero=>intro fuel t cs z T h hT; simp [ofType] at hT
 | succ n ih =>
  intro fuel t cs z T h hT
  simp only [ofType] at hT
  cases hu:P.underlying t with
  | none=>simp [hu] at hT
  | some td =>
   simp only [hu] at hT
   cases td with
   | bool =>
    simp only [Option.some.injEq] at hT; subst hT
    obtain ⟨b,rfl,_⟩:=DataW.trod_bool hu h
    exact ⟨.bool b,⟨b,rfl⟩,by simp [RepC]⟩
   | int k =>
    simp only [Option.some.injEq] at hT; subst hT
    obtain ⟨m,rfl,_,hwf⟩:=DataW.trod_int hu h
    exact ⟨.int k m,⟨m,rfl,by simpa [Lit.wf] using hwf⟩,by simp [RepC]⟩
   | string =>
    simp only [Option.some.injEq] at hT; subst hT
    obtain ⟨s,rfl,_,hl⟩:=DataW.trod_string hu h
    exact ⟨.str s.data.toList,⟨_,rfl,hl⟩,by simp [RepC]⟩
   | slice e =>
    simp only at hT
    cases he:ofType P n e with
    | none=>simp [he] at hT
    | some E =>
     simp only [he] at hT
     split at hT
     ·rename_i hc
      obtain ⟨hc,hne⟩:=hc
      simp only [Option.some.injEq] at hT; subst hT
      rcases Go.Deep.open_slice hu h with ⟨rfl,_⟩ | ⟨a,len,cap,m,fu,D0,Pl,rfl,_,hle,hcap,hm,_,hel⟩
      ·refine ⟨.sl [],⟨[],rfl,by simp,by simp⟩,?_⟩
       simp only [RepC]
       exact ⟨none,0,rfl,Nat.le_refl _,.inl trivial⟩
      ·have hlm:len ≤ m:=by rw [hm]; split <;> omega
       rw [hc] at hel
       have key : ∀ (l s:Nat),s + l ≤ m → ∃ xs us,xs.length=l∧us.length=l * E.cells.length∧(∀ y ∈ xs,HasTy E y)∧RepE (Old w) w E.cells.length xs us ∧ ∀ j v,us[j]? = some v→w.cell? (a.add (s * E.cells.length + j))=some v:=by
        intro l
        induction l with
        | zero=>intro s _; exact ⟨[],[],rfl,by simp,by simp,by simp [RepE],fun j v h=>by simp at h⟩
        | succ l ihl =>
         intro s hs
         obtain ⟨cs',g1,g2⟩:=hel s (by omega)
         obtain ⟨x,hx,hr⟩:=ih fu g2 he
         obtain ⟨k1,k2⟩:=cells?_spec g1
         obtain ⟨xs,us,f1,f2,f3,f4,f5⟩:=ihl (s + 1) (by omega)
         refine ⟨x::xs,cs' ++ us,by simp [f1],by simp [k1,f2,Nat.succ_mul]; omega,fun y hy=>?_,?_,fun j v hj=>?_⟩
         ·rcases List.mem_cons.1 hy with rfl | hy
          ·exact hx
          ·exact f3 y hy
         ·simp only [RepE]
          exact ⟨cs',us,rfl,k1,hr,f4⟩
         ·rw [List.getElem?_append] at hj
          split at hj
          ·have:=k2 j v hj
           rwa [addr_add_add] at this
          ·rename_i hlt
           have:=f5 _ v hj
           rw [show s * E.cells.length + j=(s + 1) * E.cells.length + (j - cs'.length) by rw [Nat.succ_mul]; omega]
           exact this
       obtain ⟨xs,us,f1,f2,f3,f4,f5⟩:=key len 0 (by omega)
       refine ⟨.sl xs,⟨xs,rfl,by omega,f3⟩,?_⟩
       simp only [RepC]
       refine ⟨some a,cap,by rw [f1],by omega,?_⟩
       by_cases h0:xs=[]
       ·exact .inl h0
       ·right
        have hne':us ≠ []:=by
         intro hn
         rw [hn] at f2
         simp only [List.length_nil] at f2
         have:len ≠ 0:=by
          intro h00; rw [h00] at f1; exact h0 (List.length_eq_zero_iff.1 f1)
         have:=Nat.mul_ne_zero this hne
         omega
        obtain ⟨c1,c2,c3⟩:=ziq hne' (fun j v hj=>by simpa using f5 j v hj)
        exact ⟨a,_,us,rfl,c1,c2,c3,f4⟩
     ·cases hT
   | struct fs =>
    simp only at hT
    cases hf:z12 P (ofType P n) fs.toList 0 with
    | none=>simp [hf] at hT
    | some l =>
     simp only [hf] at hT
     split at hT
     ·rename_i hc
      simp only [Option.some.injEq] at hT; subst hT
      obtain ⟨xs,fu,_,_,hl,hxl,hel⟩:=DataW.trod_struct hu h
      obtain ⟨ys,h1,h2⟩:=zak (fun a b=>ih fu a b) hf (fun f hf'=>by
       obtain ⟨i,hi⟩:=List.getElem?_of_mem hf'
       have hi':fs[i]? = some f:=by simpa using hi
       have:=hel i f hi'
       have hlt:i < xs.length:=by
        rw [hxl]
        rcases Nat.lt_or_ge i fs.size with h' | h'
        ·exact h'
        ·simp [h'] at hi'
       exact ⟨xs[i],by rw [this]; simp [hlt]⟩)
      refine ⟨.agg ys,⟨ys,rfl,h1⟩,?_⟩
      simp only [RepC]
      rw [List.drop_zero,List.take_of_length_le (by omega)] at h2
      exact h2
     ·cases hT
   | array m e =>
    simp only at hT
    cases he:ofType P n e with
    | none=>simp [he] at hT
    | some E =>
     simp only [he] at hT
     split at hT
     ·rename_i hc
      obtain ⟨hc,hc2⟩:=hc
      simp only [Option.some.injEq] at hT; subst hT
      obtain ⟨xs,fu,_,_,hl,hxl,hel⟩:=DataW.trod_array hu h
      rw [hc] at hel
      have key : ∀ (l s:Nat),s + l ≤ m → ∃ ys,HasL (List.replicate l E.cells).flatten ys∧RepL (Old w) w ys ((cs.drop (s * E.cells.length)).take (l * E.cells.length)):=by
       intro l
       induction l with
       | zero=>intro s _; exact ⟨[],by simp [HasL],by simp [RepL]⟩
       | succ l ihl =>
        intro s hs
        have hlt:s < xs.length:=by omega
        have h0:=hel s (by omega)
        rw [List.getElem?_eq_getElem hlt] at h0
        obtain ⟨x,hx,hr⟩:=ih fu h0 he
        obtain ⟨ys,f1,f2⟩:=ihl (s + 1) (by omega)
        refine ⟨x.cells ++ ys,by rw [List.replicate_succ,List.flatten_cons]; exact z40 (z80 hx) f1,?_⟩
        have e:(cs.drop (s * E.cells.length)).take ((l + 1) * E.cells.length)=(cs.drop (s * E.cells.length)).take E.cells.length ++ (cs.drop ((s + 1) * E.cells.length)).take (l * E.cells.length):=by
         rw [Nat.succ_mul,Nat.add_comm (l * _),List.take_add,List.drop_drop,Nat.succ_mul]
        rw [e]
        exact z2r (wS hr) f2
      obtain ⟨ys,f1,f2⟩:=key m 0 (by omega)
      refine ⟨.agg ys,⟨ys,rfl,f1⟩,?_⟩
      simp only [RepC]
      rw [Nat.zero_mul,List.drop_zero,List.take_of_length_le (by omega)] at f2
      exact f2
     ·cases hT
   | _=>simp at hT
def zma (P:Program) (n:Nat):List TypeId→Option (List Ty):=allO (ofType P n)
theorem zil {r:Reach} {base:Nat} {t:TypeId} {v:Value} {n:Nat} {T:Ty} (hT:ofType P n t=some T) (hok:Value.okWide P w r base t v):(T.isAgg=true ∧ ∃ us,v = .agg us) ∨ (T.isAgg=false∧v.cells = #[v]):=by
 cases n with
 | zero=>simp [ofType] at hT
 | succ n =>
  simp only [ofType] at hT
  unfold Value.okWide at hok
  cases hu:P.underlying t with
  | none=>simp [hu] at hT
  | some td =>
   simp only [hu] at hT hok
   cases td with
   | bool =>
    simp only [Option.some.injEq] at hT; subst hT
    refine .inr ⟨rfl,?_⟩
    simp only [Cell.okWide,hu] at hok
    cases v <;> simp_all [Cell.ok,Value.cells]
   | int k =>
    simp only [Option.some.injEq] at hT; subst hT
    refine .inr ⟨rfl,?_⟩
    simp only [Cell.okWide,hu] at hok
    cases v <;> simp_all [Cell.ok,Value.cells]
   | string =>
    simp only [Option.some.injEq] at hT; subst hT
    refine .inr ⟨rfl,?_⟩
    simp only [Cell.okWide,hu] at hok
    cases v <;> simp_all [Cell.ok,Value.cells]
   | slice e =>
    simp only at hT
    cases he:ofType P n e with
    | none=>simp [he] at hT
    | some E =>
     simp only [he] at hT
     split at hT
     ·simp only [Option.some.injEq] at hT; subst hT
      refine .inr ⟨rfl,?_⟩
      simp only [Cell.okWide,hu] at hok
      cases v <;> simp_all [Cell.ok,Value.cells]
     ·cases hT
   | struct fs =>
    simp only at hT
    cases hf:z12 P (ofType P n) fs.toList 0 with
    | none=>simp [hf] at hT
    | some l =>
     simp only [hf] at hT
     split at hT
     ·simp only [Option.some.injEq] at hT; subst hT
      obtain ⟨cs,h,_⟩:=hok
      exact .inl ⟨rfl,cs,h⟩
     ·cases hT
   | array m e =>
    simp only at hT
    cases he:ofType P n e with
    | none=>simp [he] at hT
    | some E =>
     simp only [he] at hT
     split at hT
     ·simp only [Option.some.injEq] at hT; subst hT
      obtain ⟨cs,h,_⟩:=hok
      exact .inl ⟨rfl,cs,h⟩
     ·cases hT
   | _=>simp at hT
theorem open_all {base:Nat} {spare:Nat→Bool} {held:Bool} {r:Reach} {b0:Nat} {n:Nat} : ∀ {ts:List TypeId} {vs:List Value} {ds:List (DataW H)} {ps:List MemPlace} {Ts:List Ty},DataW.TrodAll enc P w base spare held ts vs ds ps→zma P n ts=some Ts →
  (∀ (j:Nat) t v,ts[j]? = some t→vs[j]? = some v→Value.okWide P w r b0 t v) → ∃ xs,HasL Ts xs∧RepS (Old w) w xs vs
 | [],vs,ds,ps,Ts,h,hT,_=>by
  simp only [zma,allO,Option.some.injEq] at hT; subst hT
  cases vs with
  | nil=>exact ⟨[],rfl,by simp [RepS]⟩
  | cons v vs=>cases ds <;> simp [DataW.TrodAll] at h
 | t::ts,vs,ds,ps,Ts,h,hT,hok=>by
  obtain ⟨T,Ts',h1,h2,rfl⟩:=wX hT
  cases vs with
  | nil=>simp [DataW.TrodAll] at h
  | cons v vs =>
   cases ds with
   | nil=>simp [DataW.TrodAll] at h
   | cons d ds =>
    obtain ⟨p,q,⟨fu,hd⟩,hr,rfl⟩:=h
    obtain ⟨x,hx,hrx⟩:=zo6 n fu hd h1
    obtain ⟨xs,g1,g2⟩:=open_all hr h2 (fun j t v hj hv=>hok (j + 1) t v (by simpa using hj) (by simpa using hv))
    refine ⟨x::xs,by simp only [HasL]; exact ⟨x,xs,rfl,hx,g1⟩,?_⟩
    simp only [RepS]
    refine ⟨v,vs,rfl,?_,g2⟩
    rcases zil h1 (hok 0 t v (by simp) (by simp)) with ⟨e1,us,rfl⟩ | ⟨e1,e2⟩
    ·exact .inl ⟨by rw [zdp hx,e1],us,rfl,by simpa [Value.cells] using hrx⟩
    ·exact .inr ⟨by rw [zdp hx,e1],by rw [e2] at hrx; simpa using hrx⟩
theorem trodAll_len {base:Nat} {spare:Nat→Bool} {held:Bool} : ∀ {ts:List TypeId} {vs:List Value} {ds:List (DataW H)} {ps:List MemPlace},DataW.TrodAll enc P w base spare held ts vs ds ps→ds.length=ts.length
 | [],vs,ds,ps,h=>by
  cases vs <;> cases ds <;> simp_all [DataW.TrodAll]
 | t::ts,vs,ds,ps,h=>by
  cases vs with
  | nil=>simp [DataW.TrodAll] at h
  | cons v vs =>
   cases ds with
   | nil=>simp [DataW.TrodAll] at h
   | cons d ds =>
    obtain ⟨p,q,_,hr,rfl⟩:=h
    simp [trodAll_len hr]
theorem trodVars_nil {T:List String} {gs:List (DataW H)} {q:List MemPlace} {own:Nat→Bool} (hT:T=[]) (h:DataW.TrodVars enc P w own T gs q):gs=[]:=by
 subst hT
 cases gs with
 | nil=>rfl
 | cons g gs=>simp [DataW.TrodVars] at h
theorem zda {W W':World} (hl:laidOutB P=true) (hb:Below W.heap.size W W') : ∀ {ts:List TypeId} {vs:List Value} {ds:List (DataW H)} {ps:List MemPlace},(ts.all fun t=>P.readableRec t && decide (t < P.types.size))=true→DataW.TrodAll enc P W 0 (fun _=>true) true ts vs ds ps→(∀ x ∈ ps,x.block < W.heap.size)→DataW.TrodAll enc P W' 0 (fun b=>decide (b < W.heap.size)) true ts vs ds ps
 | [],vs,ds,ps,_,h,_=>by
  cases vs <;> cases ds <;> simp_all [DataW.TrodAll]
 | t::ts,vs,ds,ps,hr,h,hlt=>by
  simp only [List.all_cons,Bool.and_eq_true,decide_eq_true_eq] at hr
  cases vs with
  | nil=>simp [DataW.TrodAll] at h
  | cons v vs =>
   cases ds with
   | nil=>simp [DataW.TrodAll] at h
   | cons d ds =>
    obtain ⟨p,q,hd,hrest,rfl⟩:=h
    exact ⟨p,q,Below.trod hl hr.1.1 hr.1.2 hd hb (fun x hx=>hlt x (by simp [hx])),zda hl hb (by simpa using hr.2) hrest (fun x hx=>hlt x (by simp [hx])),rfl⟩
theorem law_post {f:Func} {s:ChangeSpec} {apart:Bool} {W W':World} {args:Array Value} {ds gs:List (DataW H)} {before:List MemPlace} {t:TypeId} (hl:laidOutB P=true) (hread:(f.params.toList.all fun t=>P.readableRec t && decide (t < P.types.size))=true)
  (hW:DataW.Whole enc P f.params.toList s.vars apart W args.toList ds gs before) (hv:s.vars=[]) (hres:f.resultTypes = #[t]) (hu:P.underlying t=some .bool)
  (hfn:s.fn H (ds ++ gs)={ results:=[.lit (.bool true)],args:=ds }) (hb:Below W.heap.size W W'):s.post enc P f apart true false false W args (.bool true) W':=by
 have hlt : ∀ x ∈ before,x.block < W.heap.size:=fun x hx=>by simpa using hW.lt x hx
 have hW0:=hW
 obtain ⟨p,q,hA,hV,rfl,hz,hn⟩:=hW
 refine ⟨ds,gs,p ++ q,[],p,q,hW0,?_,?_,?_,hb.frame _,fun h=>by cases h⟩
 ·rw [hfn,hres]
  exact trodAll_mk1 (shut_bool hu true)
 ·rw [hfn]
  exact zda hl hb hread hA (fun x hx=>hlt x (by simp [hx]))
 ·rw [hfn]
  rw [hv] at hV ⊢
  cases gs with
  | nil=>exact hV
  | cons g gs=>simp [DataW.TrodVars] at hV
theorem law_calls {C:Cfg} (hext:z6i C) (hcatch:zbu C) {n:Nat} {f:FuncId} {xs:List D} {args:Array Value} {W:World} (hrun:runD C n f xs=some (.ret (.d (.bool true)))) (hr:RepS (Old W) W xs args.toList) (hgl:GlobOk C.P (Old W) W) :
  Calls C.P f args W fun e W'=>e = .returned (.bool true)∧Below W.heap.size W W':=by
 obtain ⟨o',ho,hcalls⟩:=zvz hext hcatch n f xs _ hrun
 have ho':o' = .ret (.bool true):=by
  cases o' with
  | ret x=>simp only [OutD.out,Out.ret.injEq,V.d.injEq] at ho; rw [ho]
  | tup xs=>simp [OutD.out] at ho
  | pan x=>simp [OutD.out] at ho
 subst ho'
 refine (hcalls (Old W) W args (fun b hb=>hb) hgl hr).mono fun e W' he=>?_
 cases e with
 | returned v =>
  obtain ⟨A',h1,h2⟩:=he
  have h2:=(zI rfl).1 h2
  simp only [RepC,List.cons.injEq,and_true] at h2
  exact ⟨by rw [h2],h1.os,h1.tape,h1.output,h1.size,h1.old⟩
 | panicked c=>obtain ⟨x,v,h,_⟩:=he; cases h
 | outgrown=>exact he.elim
end
end Go.Vm
end
