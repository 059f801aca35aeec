/- ready.waits: what a change waits for. -/
import Derived.Test.YtobgdmgldagjkaaGreatW08
set_option linter.unusedVariables false
set_option linter.unusedSimpArgs false
set_option maxRecDepth 100000
set_option maxHeartbeats 4000000
set_option linter.defProp false
section
namespace Go.Proofs.YtobgdmgldagjkaaGreat
open Go.Vm
section
variable {C:Cfg} {S:zA} {T:List V} {dst:Option Tmp} {ops:Array Oper} {F:Dfs} {Q:Post} {K:List Nat→List (Nat × Nat)→List V→zA→Prop} {rd:List Nat} {cs:List (Nat × Nat)} {i:Nat}
theorem q1k {f:FuncId} {args:List V} {ds:List D} {v:V} (hs:C.shared f=false) (hf:allO (Go.Vm.frz S zG) args=some ds) (hp:z0w (.ret v)=true) (he:Ev C f ds (.ret v)) :
  WpE C ops F Q K rd cs i dst T S (some (.enter f args))=K (i::rd) (cs ++ [(i,1)]) (putT T dst v) S:=by
 obtain ⟨n,hc⟩:=zff hs hf hp he
 apply propext
 constructor
 ·rintro ⟨m,v',S',c,h1,h2,h3⟩
  have:=wN h1 hc
  simp only [Prod.mk.injEq] at this
  obtain ⟨h4,rfl,rfl⟩:=this
  cases h4
  exact h3
 ·exact fun h=>⟨n,_,_,_,hc,fun hh=>absurd hh (by decide),h⟩
end
theorem ziq {S:zA} {L:V} {es:List V} {k:Nat} (hL:OwnS S L 80 es) (h:k < es.length) : ∃ id,L = .rs id 0 es.length∧S[id]? = some (.row es 80)∧vF Tryz.prog S 74 L none (some (.d (.int .i64 (k:Int))))=some (.rs id 0 k):=by
 rcases hL with ⟨rfl,rfl⟩ | ⟨id,rfl,h1⟩
 ·simp at h
 ·refine ⟨id,rfl,h1,?_⟩
  have h3:rowT S id 80=true:=by simp only [rowT,h1,beq_self_eq_true]
  have hb:=zj3 (y:=es.length) (d:=es.length) (k:=k) (by omega)
  have h4:(sz Tryz.prog 80).isSome=true:=s122
  simp only [vF,u119,hb,zbq,h3,h4,Bool.and_self,if_true,Nat.add_zero,Nat.sub_zero]
theorem zma {S:zA} {es:List V} {id i k:Nat} (h1:S[id]? = some (.row es 80)) (hi:i < k):zM Tryz.prog S 74 (.rs id 0 k) (.d (.int .i64 (i:Int)))=some (.ref id i 0):=by
 have h3:rowT S id 80=true:=by simp only [rowT,h1,beq_self_eq_true]
 have h4:(sz Tryz.prog 80).isSome=true:=s122
 simp only [zM,intOf?,u119,h3,h4]
 rw [if_pos ⟨⟨by omega,by omega⟩,trivial,trivial⟩,Nat.zero_add,Int.toNat_natCast]
theorem zqi {S:zA} {a:Int} {dv:V} {b:List UInt8} (hd:OwnS S dv 5 (bysV b)):Go.Vm.frz S zG (.agg [.d (.int .i64 a),dv])=some (patD a b):=by
 have hd':OwnS S dv 5 ((b.map byD).map .d):=by rw [List.map_map]; exact hd
 have hf:=zb2 (n:=9) hd'
 have h0:Go.Vm.frz S 11 (.d (.int .i64 a))=some (.int .i64 a):=rfl
 show (match allO (Go.Vm.frz S 11) [.d (.int .i64 a),dv] with | some ds=>if ds.any D.isAgg then none else some (D.agg ds) | none=>none)=_
 simp only [allO,h0,hf]
 rfl
theorem zuk (S0:zA) (L:V) (at_ mm:Nat) (g:Int→Int) (hm:MG S0 mm g) (nv:V) (ns:List Int) (hn:OwnS S0 nv 3 (zU ns)) (hns:ns.length ≤ 100000) (R:Post) :
 ∀ (k i:Nat) (S:zA) (v7:V) (out:List Int) (g3 g4 g5 g6 g8 g9 gK gF gD gB gC gA gG gJ gN gI gH gO gP gT gQ gU gR gS gV gW gX gY gZ gh gj gk gn gr gz hH hU hY hZ xA xB xC xD xE xF xG xH xI xJ xK xL xM xN xO xP:V),ns.length - i=k→i ≤ ns.length→Keep S0 S→(∀ j,j < S0.length→NotAt v7 j)→OwnS S v7 3 (zU out)→out.length ≤ i→(∀ x,x ∈ out ↔ x ∈ ns.take i∧g x ≠ 0) →
 (∀ S v7 out i' g3 g4 g5 g6 g8 g9 gK gF gD gB gC gA gG gJ gN gI gH gO gP gT gQ gU gR gS gV gW gX gY gZ gh gj gk gn gr gz hH hU hY hZ xA xB xC xD xE xF xG xH xI xJ xK xL xM xN xO xP,Keep S0 S→(∀ j,j < S0.length→NotAt v7 j)→OwnS S v7 3 (zU out)→out.length ≤ ns.length→(∀ x,x ∈ out ↔ x ∈ ns∧g x ≠ 0)→R (.exit 0) (L::(.d (.int .i64 (at_:Int)))::(.mr mm)::g3::g4::g5::g6::v7::g8::g9::gK::gF::gD::gB::gC::gA::nv::(.d (.int .i64 (ns.length:Int)))::i'::gG::gJ::gN::gI::gH::gO::gP::gT::gQ::gU::gR::gS::gV::gW::gX::gY::gZ::gh::gj::gk::gn::gr::gz::hH::hU::hY::hZ::xA::xB::xC::xD::xE::xF::xG::xH::xI::xJ::xK::xL::xM::xN::xO::xP::[]) S []) →
 Wp cfg (.loop (lpOf (Tryz.f160.body.getD .skip) 0)) (L::(.d (.int .i64 (at_:Int)))::(.mr mm)::g3::g4::g5::g6::v7::g8::g9::gK::gF::gD::gB::gC::gA::nv::(.d (.int .i64 (ns.length:Int)))::(.d (.int .i64 (i:Int)))::gG::gJ::gN::gI::gH::gO::gP::gT::gQ::gU::gR::gS::gV::gW::gX::gY::gZ::gh::gj::gk::gn::gr::gz::hH::hU::hY::hZ::xA::xB::xC::xD::xE::xF::xG::xH::xI::xJ::xK::xL::xM::xN::xO::xP::[]) S [] R:=by
 intro k
 induction k with
 | zero =>
  intro i S v7 out g3 g4 g5 g6 g8 g9 gK gF gD gB gC gA gG gJ gN gI gH gO gP gT gQ gU gR gS gV gW gX gY gZ gh gj gk gn gr gz hH hU hY hZ xA xB xC xD xE xF xG xH xI xJ xK xL xM xN xO xP hk hi hK hN ho hol hx hR
  have hie:i=ns.length:=by omega
  subst hie
  rw [zO]
  refine zN ?_
  conv=>arg 2; whnf
  simp (maxSteps:=1000000) (disch:=first|assumption|omega|rfl) only [↓gp,gc,Nat.reduceAdd]
  exact hR _ _ _ _ _ _ _ _ _ _ _ _ _ _ _ _ _ _ _ _ _ _ _ _ _ _ _ _ _ _ _ _ _ _ _ _ _ _ _ _ _ _ _ _ _ _ _ _ _ _ _ _ _ _ _ _ _ _ _ hK hN ho hol (by rw [List.take_length] at hx; exact hx)
 | succ k ih =>
  intro i S v7 out g3 g4 g5 g6 g8 g9 gK gF gD gB gC gA gG gJ gN gI gH gO gP gT gQ gU gR gS gV gW gX gY gZ gh gj gk gn gr gz hH hU hY hZ xA xB xC xD xE xF xG xH xI xJ xK xL xM xN xO xP hk hi hK hN ho hol hx hR
  have hlt:i < ns.length:=by omega
  have h3:IntKind.i64.wrap ((i:Int) + 1)=((i + 1:Nat):Int):=by rw [wrap64 (by omega)]; omega
  obtain ⟨id,hix,hre,_⟩:=kJ Tryz.underlying22 s3z (hK.own hn) (i:=i) (by rw [zY]; exact hlt)
  have hre:rowE S id i=some (.d (.int .i64 ns[i])):=by rw [hre]; simp [zU]
  have hlk:=(hm.keep hK).look ns[i]
  have ho1:=qG ho
  rw [zO]
  refine zN ?_
  conv=>arg 2; whnf
  by_cases hg:g ns[i]=0
  ·simp (maxSteps:=1000000) (disch:=first|assumption|omega|rfl) only [↓gp,gc,Nat.reduceAdd,hix,hre,ld3r,hlk,hg,zQ,h3]
   exact ih (i + 1) S v7 out _ _ _ _ _ _ _ _ _ _ _ _ _ _ _ _ _ _ _ _ _ _ _ _ _ _ _ _ _ _ _ _ _ _ _ _ _ _ _ _ _ _ _ _ _ _ _ _ _ _ _ _ _ _ _ (by omega) (by omega) hK hN ho (by omega) (fun x=>by
    rw [hx x,jY hlt,List.mem_append,List.mem_singleton]
    refine ⟨fun h=>⟨.inl h.1,h.2⟩,fun h=>⟨h.1.resolve_right ?_,h.2⟩⟩
    rintro rfl
    exact h.2 hg) hR
  ·obtain ⟨o,S2,⟨hlen,hfr,v',out',rfl,ho',hna,hmem,hol'⟩,hE⟩:=qC (zgc S v7 out ns[i] ho (by omega))
   have hE:=fun {ops dst k T F Q}=>zF (ops:=ops) (dst:=dst) (l:=k) (T:=T) (F:=F) (Q:=Q) rfl hE
   have hde : ∀ i':Decidable (g ns[i] ≠ 0),@decide (g ns[i] ≠ 0) i'=true:=fun i'=>decide_eq_true hg
   simp (maxSteps:=1000000) (disch:=first|assumption|omega|rfl) only [↓gp,gc,Nat.reduceAdd,hix,hre,ld3r,hlk,hde,hE,zui,ho1,h3]
   exact ih (i + 1) S2 v' out' _ _ _ _ _ _ _ _ _ _ _ _ _ _ _ _ _ _ _ _ _ _ _ _ _ _ _ _ _ _ _ _ _ _ _ _ _ _ _ _ _ _ _ _ _ _ _ _ _ _ _ _ _ _ _ (by omega) (by omega) (fun j o hj=>hfr j o (hK j o hj) (hN j (zL hj))) (fun j hj=>hna j (Nat.lt_of_lt_of_le hj hK.len) (hN j hj)) ho' (by omega) (fun x=>by
    rw [hmem x,hx x,jY hlt,List.mem_append,List.mem_singleton]
    refine ⟨fun h=>?_,fun h=>?_⟩
    ·rcases h with h | rfl
     ·exact ⟨.inl h.1,h.2⟩
     ·exact ⟨.inr rfl,hg⟩
    ·rcases h.1 with h1 | h1
     ·exact .inl ⟨h1,h.2⟩
     ·exact .inr h1) hR
def WtOk (o1:List Int) (l:List Chg) (at_:Nat) (i:Nat) (out:List Int):Prop:=(∀ (c:Chg),l[at_]? = some c → ∀ ch ∈ l.take i,ch.no=c.no→z3f ch.at_ ch.data c.at_ c.data→ch.id ∈ out)∧(∀ x ∈ o1,x ∈ out) ∧ ∀ x ∈ out,x ∈ o1 ∨ ∃ ch ∈ l.take i,ch.id=x
theorem zu6 (S0:zA) (L:V) (es:List V) (l:List Chg) (hL:OwnS S0 L 80 es) (hl:ChgsV S0 es l) (hes:es.length ≤ 150000) (n last:Nat) (hok : ∀ ch ∈ l,z69 n last ch) (at_ mm id:Nat) (hat:at_ < l.length) (hid:L = .rs id 0 es.length) (hrw:S0[id]? = some (.row es 80)) (o0:Nat) (ho0:o0 ≤ 100000) (o1:List Int) (R:Post) :
 ∀ (k i:Nat) (S:zA) (v7:V) (out:List Int) (g2 g3 g4 g5 g6 g8 g9 gK gF gD gB gC gA gE gL gM gG gJ gN gI gH gO gP gT gQ gU gR gS gV gZ gh gj gk gn gr gz hH hU hY hZ xA xB xC xD xE xF xG xH xI xJ xK xL xM xN xO xP:V),at_ - i=k→i ≤ at_→Keep S0 S→(∀ j,j < S0.length→NotAt v7 j)→OwnS S v7 3 (zU out)→out.length ≤ o0 + i→WtOk o1 l at_ i out →
 (∀ S v7 out i' g2 g3 g4 g5 g6 g8 g9 gK gF gD gB gC gA gE gL gM gG gJ gN gI gH gO gP gT gQ gU gR gS gV gZ gh gj gk gn gr gz hH hU hY hZ xA xB xC xD xE xF xG xH xI xJ xK xL xM xN xO xP,Keep S0 S→OwnS S v7 3 (zU out)→out.length ≤ o0 + at_→WtOk o1 l at_ at_ out→R (.exit 2) (L::(.d (.int .i64 (at_:Int)))::g2::g3::g4::g5::g6::v7::g8::g9::gK::gF::gD::gB::gC::gA::gE::gL::gM::gG::gJ::gN::gI::gH::gO::gP::gT::gQ::gU::gR::gS::gV::(.rs id 0 at_)::(.d (.int .i64 (at_:Int)))::i'::gZ::gh::gj::gk::gn::gr::gz::hH::hU::hY::hZ::xA::xB::xC::xD::xE::xF::xG::xH::xI::xJ::xK::xL::xM::xN::xO::xP::[]) S []) →
 Wp cfg (.loop (lpOf (Tryz.f160.body.getD .skip) 2)) (L::(.d (.int .i64 (at_:Int)))::g2::g3::g4::g5::g6::v7::g8::g9::gK::gF::gD::gB::gC::gA::gE::gL::gM::gG::gJ::gN::gI::gH::gO::gP::gT::gQ::gU::gR::gS::gV::(.rs id 0 at_)::(.d (.int .i64 (at_:Int)))::(.d (.int .i64 (i:Int)))::gZ::gh::gj::gk::gn::gr::gz::hH::hU::hY::hZ::xA::xB::xC::xD::xE::xF::xG::xH::xI::xJ::xK::xL::xM::xN::xO::xP::[]) S [] R:=by
 intro k
 have hll:=hl.1
 induction k with
 | zero =>
  intro i S v7 out g2 g3 g4 g5 g6 g8 g9 gK gF gD gB gC gA gE gL gM gG gJ gN gI gH gO gP gT gQ gU gR gS gV gZ gh gj gk gn gr gz hH hU hY hZ xA xB xC xD xE xF xG xH xI xJ xK xL xM xN xO xP hk hi hK hN ho hol hw hR
  have hie:i=at_:=by omega
  subst hie
  rw [zO]
  refine zN ?_
  conv=>arg 2; whnf
  simp (maxSteps:=1000000) (disch:=first|assumption|omega|rfl) only [↓gp,gc,Nat.reduceAdd]
  exact hR _ _ _ _ _ _ _ _ _ _ _ _ _ _ _ _ _ _ _ _ _ _ _ _ _ _ _ _ _ _ _ _ _ _ _ _ _ _ _ _ _ _ _ _ _ _ _ _ _ _ _ _ _ _ _ _ _ _ _ _ hK ho hol hw
 | succ k ih =>
  intro i S v7 out g2 g3 g4 g5 g6 g8 g9 gK gF gD gB gC gA gE gL gM gG gJ gN gI gH gO gP gT gQ gU gR gS gV gZ gh gj gk gn gr gz hH hU hY hZ xA xB xC xD xE xF xG xH xI xJ xK xL xM xN xO xP hk hi hK hN ho hol hw hR
  have hlt:i < at_:=by omega
  have hil:i < l.length:=by omega
  have h3:IntKind.i64.wrap ((i:Int) + 1)=((i + 1:Nat):Int):=by rw [wrap64 (by omega)]; omega
  obtain ⟨dv,nv,he,hd5,hn3⟩:=hl.2 i es[i] l[i] (List.getElem?_eq_getElem (by omega)) (List.getElem?_eq_getElem (by omega))
  obtain ⟨dw,nw,hf,hd6,hn4⟩:=hl.2 at_ es[at_] l[at_] (List.getElem?_eq_getElem (by omega)) (List.getElem?_eq_getElem (by omega))
  have hrS:=hK _ _ hrw
  have hix1:zM Tryz.prog S 74 (.rs id 0 at_) (.d (.int .i64 (i:Int)))=some (.ref id i 0):=zma hrS hlt
  have hre1:rowE S id i=some (.agg [.d (.int .i64 l[i].id),.d (.int .i64 l[i].no),.d (.int .i64 l[i].at_),dv,nv]):=by
   unfold rowE; rw [hrS,← he]; exact List.getElem?_eq_getElem (by omega)
  have hkx:Keep S (S ++ [.row [.agg [.d (.int .i64 l[i].id),.d (.int .i64 l[i].no),.d (.int .i64 l[i].at_),dv,nv]] 80]):=Keep.refl.app
  have hk0:=hK.trans hkx
  have hix2 : ∀ s:zA,zM Tryz.prog (S ++ s) 74 (.rs id 0 es.length) (.d (.int .i64 (at_:Int)))=some (.ref id at_ 0):=fun s=>zma ((Keep.refl.app (l:=s)) _ _ hrS) (by omega)
  have hre2 : ∀ s:zA,rowE (S ++ s) id at_=some (.agg [.d (.int .i64 l[at_].id),.d (.int .i64 l[at_].no),.d (.int .i64 l[at_].at_),dw,nw]):=fun s=>by
   unfold rowE; rw [(Keep.refl.app (l:=s)) _ _ hrS,← hf]; exact List.getElem?_eq_getElem (by omega)
  have ho1:=qG ho
  have hd1:=qG hd5
  have hd2:=qG hd6
  have hg1:=(hok l[i] (List.getElem_mem _)).1
  have hg2:=(hok l[at_] (List.getElem_mem _)).1
  have hml : ∀ {ops F Q K rd cs i' dst T},WpE cfg ops F Q K rd cs i' dst T (S ++ [.row [.agg [.d (.int .i64 l[i].id),.d (.int .i64 l[i].no),.d (.int .i64 l[i].at_),dv,nv]] 80]) (some (.enter 168 [.agg [.d (.int .i64 l[i].at_),dv],.agg [.d (.int .i64 l[at_].at_),dw]]))=K (i'::rd) (cs ++ [(i',1)]) (putT T dst (.d (.bool (decide (z3f l[i].at_ l[i].data l[at_].at_ l[at_].data))))) (S ++ [.row [.agg [.d (.int .i64 l[i].id),.d (.int .i64 l[i].no),.d (.int .i64 l[i].at_),dv,nv]] 80]) :=
   fun {ops F Q K rd cs i' dst T}=>q1k (ds:=[patD l[i].at_ l[i].data,patD l[at_].at_ l[at_].data]) rfl (by
    simp only [allO,zqi (hk0.own hd5),zqi (hk0.own hd6)]) rfl (zv9 _ _ _ _ hg1 hg2)
  have skip : ∀ out',(l[i].no=l[at_].no→z3f l[i].at_ l[i].data l[at_].at_ l[at_].data→l[i].id ∈ out')→(∀ x ∈ out,x ∈ out')→(∀ x ∈ out',x ∈ out ∨ x=l[i].id)→WtOk o1 l at_ (i + 1) out':=by
   intro out' h1 h2 h3
   refine ⟨fun c hc ch hch e1 e2=>?_,fun x hx=>h2 x (hw.2.1 x hx),fun x hx=>?_⟩
   rotate_left
   ·rw [jY hil]
    rcases h3 x hx with h | h
    ·rcases hw.2.2 x h with h | ⟨ch,h4,h5⟩
     ·exact .inl h
     ·exact .inr ⟨ch,List.mem_append_left _ h4,h5⟩
    ·exact .inr ⟨_,List.mem_append_right _ (List.mem_singleton.2 rfl),h.symm⟩
   rw [jY hil] at hch
   rcases List.mem_append.1 hch with hch | hch
   ·exact h2 _ (hw.1 c hc ch hch e1 e2)
   ·simp only [List.mem_singleton] at hch
    subst hch
    rw [List.getElem?_eq_getElem hat] at hc
    cases hc
    exact h1 e1 e2
  generalize ha:S.length=a
  rw [zO]
  refine zN ?_
  conv=>arg 2; whnf
  subst hid
  simp (maxSteps:=1000000) (disch:=first|assumption|omega|rfl) only [↓gp,gc,Nat.reduceAdd,hix1,hre1,z24,z122,z25,z3g,ha,rA0 ha,pA0 ha]
  refine vB (is:=[0,1,2,3,4,5,6,7,8,9,10,11,12,13,14,15,16,17]) (h:=0) (by kernel_rfl) (by kernel_rfl) ?_
  by_cases hno:l[i].no=l[at_].no
  ·have hde : ∀ i':Decidable (l[i].no=l[at_].no),@decide (l[i].no=l[at_].no) i'=true:=fun i'=>decide_eq_true hno
   by_cases hmt:z3f l[i].at_ l[i].data l[at_].at_ l[at_].data
   ·rw [decide_eq_true hmt] at hml
    obtain ⟨o,S2,⟨hlen,hfr,v',out',rfl,ho',hna,hmem,hol'⟩,hE⟩:=qC (zgc _ v7 out l[i].id (hkx.own ho) (by omega))
    have hE:=fun {ops dst k T F Q}=>zF (ops:=ops) (dst:=dst) (l:=k) (T:=T) (F:=F) (Q:=Q) rfl hE
    simp (maxSteps:=1000000) (disch:=first|assumption|omega|rfl) only [List.replicate_zero,eq_self,gd,ga,Nat.reduceAdd,↓gq,vso,rA0 ha,z0b,z0o,z0a,z1o,hix2,hre2,hde,hml,zuw,hd1,hd2,List.append_nil]
    refine ⟨by kernel_rfl,?_⟩
    simp (maxSteps:=1000000) (disch:=first|assumption|omega|rfl) only [↓gp,gc,Nat.reduceAdd,rA0 ha,z0d,z08,hE,zui,ho1,h3]
    exact ih (i + 1) S2 v' out' _ _ _ _ _ _ _ _ _ _ _ _ _ _ _ _ _ _ _ _ _ _ _ _ _ _ _ _ _ _ _ _ _ _ _ _ _ _ _ _ _ _ _ _ _ _ _ _ _ _ _ _ _ _ _ _ (by omega) (by omega) (fun j o hj=>hfr j o (hk0 j o hj) (hN j (zL hj))) (fun j hj=>hna j (Nat.lt_of_lt_of_le hj hk0.len) (hN j hj)) ho' (by omega) (skip _ (fun _ _=>(hmem _).2 (.inr rfl)) (fun x hx=>(hmem x).2 (.inl hx)) (fun x hx=>(hmem x).1 hx)) hR
   ·rw [decide_eq_false hmt] at hml
    simp (maxSteps:=1000000) (disch:=first|assumption|omega|rfl) only [List.replicate_zero,eq_self,gd,ga,Nat.reduceAdd,↓gq,vso,rA0 ha,z0b,z0o,z0a,z1o,hix2,hre2,hde,hml,zuw,hd1,hd2,List.append_nil]
    refine ⟨by kernel_rfl,?_⟩
    simp (maxSteps:=1000000) (disch:=first|assumption|omega|rfl) only [↓gp,gc,Nat.reduceAdd,h3]
    exact ih (i + 1) _ v7 out _ _ _ _ _ _ _ _ _ _ _ _ _ _ _ _ _ _ _ _ _ _ _ _ _ _ _ _ _ _ _ _ _ _ _ _ _ _ _ _ _ _ _ _ _ _ _ _ _ _ _ _ _ _ _ _ (by omega) (by omega) hk0 hN (hkx.own ho) (by omega) (skip _ (fun _ h=>absurd h hmt) (fun x hx=>hx) (fun x hx=>.inl hx)) hR
  ·have hde : ∀ i':Decidable (l[i].no=l[at_].no),@decide (l[i].no=l[at_].no) i'=false:=fun i'=>decide_eq_false hno
   simp (maxSteps:=1000000) (disch:=first|assumption|omega|rfl) only [List.replicate_zero,eq_self,gd,ga,Nat.reduceAdd,↓gq,vso,rA0 ha,z0b,z0o,z0a,z1o,hix2,hre2,hde,List.append_nil]
   refine ⟨by kernel_rfl,?_⟩
   simp (maxSteps:=1000000) (disch:=first|assumption|omega|rfl) only [↓gp,gc,Nat.reduceAdd,h3]
   exact ih (i + 1) _ v7 out _ _ _ _ _ _ _ _ _ _ _ _ _ _ _ _ _ _ _ _ _ _ _ _ _ _ _ _ _ _ _ _ _ _ _ _ _ _ _ _ _ _ _ _ _ _ _ _ _ _ _ _ _ _ _ _ (by omega) (by omega) hk0 hN (hkx.own ho) (by omega) (skip _ (fun h _=>absurd h hno) (fun x hx=>hx) (fun x hx=>.inl hx)) hR
theorem zo1 (S:zA) (L:V) (es:List V) (l:List Chg) (hL:OwnS S L 80 es) (hl:ChgsV S es l) (hes:es.length ≤ 150000) (n last:Nat) (hlast:last ≤ 100000) (hok : ∀ ch ∈ l,z69 n last ch) (at_ mm:Nat) (hat:at_ < l.length) (g:Int→Int) (hm:MG S mm g) :
  EvS cfg 160 [L,.d (.int .i64 (at_:Int)),.mr mm] S (fun o S'=>Keep S S' ∧ ∃ v out o1,o = .ret v∧OwnS S' v 3 (zU out)∧out.length ≤ 300000∧WtOk o1 l at_ at_ out ∧ ∀ x,x ∈ o1 ↔ x ∈ l[at_].needs∧g x ≠ 0):=by
 refine qE rfl zrs ?_
 show Wp cfg (Tryz.f160.body.getD .skip) (L::(.d (.int .i64 (at_:Int)))::(.mr mm)::uZ (uZ (uZ (uZ (uZ ((.tup [])::(.tup [])::(.tup [])::(.tup [])::(.tup [])::(.tup [])::(.tup [])::(.tup [])::(.tup [])::[])))))) S [] _
 unfold uZ
 conv=>arg 2; whnf
 rw [zO]
 have hll:=hl.1
 have hae:at_ < es.length:=by omega
 obtain ⟨id,rfl,hrw,hsl⟩:=ziq hL hae
 obtain ⟨dw,nw,hf,hd6,hn4⟩:=hl.2 at_ es[at_] l[at_] (List.getElem?_eq_getElem (by omega)) (List.getElem?_eq_getElem (by omega))
 have hix2:zM Tryz.prog S 74 (.rs id 0 es.length) (.d (.int .i64 (at_:Int)))=some (.ref id at_ 0):=zma hrw (by omega)
 have hre2:rowE S id at_=some (.agg [.d (.int .i64 l[at_].id),.d (.int .i64 l[at_].no),.d (.int .i64 l[at_].at_),dw,nw]):=by
  unfold rowE; rw [hrw,← hf]; exact List.getElem?_eq_getElem (by omega)
 have hln:zI Tryz.prog S .len [22] [nw]=some (.val (.d (.int .i64 (l[at_].needs.length:Int))) S 0):=by rw [kE Tryz.underlying22 hn4,zY]
 obtain ⟨_,_,_,g4,g5,g6,g7⟩:=hok l[at_] (List.getElem_mem _)
 have hnl:l[at_].needs.length ≤ 100000:=by have:=z70 g6 (fun x hx=>(g7 x hx).1) (fun x hx=>(g7 x hx).2) (by omega); omega
 have hn1:=qG hn4
 simp (maxSteps:=1000000) (disch:=first|assumption|omega|rfl) only [↓gp,gc,Nat.reduceAdd,hix2,zbn,hre2,zb1,hln,hn1]
 refine zuk S (.rs id 0 es.length) at_ mm g hm nw l[at_].needs hn4 hnl _ l[at_].needs.length 0 S (.ts []) [] _ _ _ _ _ _ _ _ _ _ _ _ _ _ _ _ _ _ _ _ _ _ _ _ _ _ _ _ _ _ _ _ _ _ _ _ _ _ _ _ _ _ _ _ _ _ _ _ _ _ _ _ _ _ _ rfl (Nat.zero_le _) Keep.refl (fun j _=>NotAt.ts) (.inl ⟨rfl,rfl⟩) (by simp) (by simp) ?_
 intro S2 v7 o1 i' g3 g4 g5 g6 g8 g9 gK gF gD gB gC gA gG gJ gN gI gH gO gP gT gQ gU gR gS gV gW gX gY gZ gh gj gk gn gr gz hH hU hY hZ xA xB xC xD xE xF xG xH xI xJ xK xL xM xN xO xP hK hN ho hol hx
 have hsl2:vF Tryz.prog S2 74 (.rs id 0 es.length) none (some (.d (.int .i64 (at_:Int))))=some (.rs id 0 at_):=by
  obtain ⟨id',e1,_,e2⟩:=ziq (hK.own hL) hae
  cases e1
  exact e2
 have hln2:zI Tryz.prog S2 .len [74] [.rs id 0 at_]=some (.val (.d (.int .i64 (at_:Int))) S2 0):=zkl u119
 simp (maxSteps:=1000000) (disch:=first|assumption|omega|rfl) only [↓gp,gc,Nat.reduceAdd,Option.map_none,Option.map_some,hsl2,hln2]
 refine zu6 S _ es l hL hl hes n last hok at_ mm id hat rfl hrw l[at_].needs.length hnl o1 _ at_ 0 S2 v7 o1 _ _ _ _ _ _ _ _ _ _ _ _ _ _ _ _ _ _ _ _ _ _ _ _ _ _ _ _ _ _ _ _ _ _ _ _ _ _ _ _ _ _ _ _ _ _ _ _ _ _ _ _ _ _ _ _ rfl (Nat.zero_le _) hK hN ho (by omega) ⟨fun c _ ch hch=>(by simp at hch),fun x h=>h,fun x h=>.inl h⟩ ?_
 intro S3 v7 out i' g2 g3 g4 g5 g6 g8 g9 gK gF gD gB gC gA gE gL gM gG gJ gN gI gH gO gP gT gQ gU gR gS gV gZ gh gj gk gn gr gz hH hU hY hZ xA xB xC xD xE xF xG xH xI xJ xK xL xM xN xO xP hK ho hol hw
 have ho1:=qG ho
 simp (maxSteps:=1000000) (disch:=first|assumption|omega|rfl) only [↓gp,gc,Nat.reduceAdd]
 exact ⟨rfl,_,rfl,hK,v7,out,o1,rfl,ho,by omega,hw,hx⟩
theorem zdj {S:zA} {v:V} {e:TypeId} {xs:List V} {m:Nat} {g:Int→Int} (ho:OwnS S v e xs) (hm:MG S m g):NotAt v m:=by
 obtain ⟨f,⟨L,c,h1,_⟩,_⟩:=hm
 rcases ho with ⟨rfl,_⟩ | ⟨id,rfl,h2⟩
 ·exact NotAt.ts
 ·intro off k hh
  cases hh
  cases getE h1 h2
theorem zln {S:zA} {v:V} {e:TypeId} {xs:List V} {m:Nat} {g:Int→Int} {o:Ob} (ho:OwnS S v e xs) (hm:MG S m g):OwnS (S.set m o) v e xs:=by
 have hn:=zdj ho hm
 rcases ho with h | ⟨id,rfl,h2⟩
 ·exact .inl h
 ·exact .inr ⟨id,rfl,by rw [List.getElem?_set_ne (by rintro rfl; exact hn _ _ rfl)]; exact h2⟩
theorem MG.of {S S':zA} {m:Nat} {g:Int→Int} (h:MG S m g) (hk:S'[m]? = S[m]?):MG S' m g:=by
 obtain ⟨f,h1,h2⟩:=h
 exact ⟨f,h1.keep hk,h2⟩
theorem MG.lt {S:zA} {m:Nat} {g:Int→Int} (h:MG S m g):m < S.length:=by
 obtain ⟨f,h1,h2⟩:=h
 exact h1.lt
theorem q0e {S S':zA} {m:Nat} {x:Int} (h:z07 Tryz.prog S 186 (.mr m) (.d (.int .i64 x))=some S'):zI Tryz.prog S .delete [186,3] [.mr m,.d (.int .i64 x)]=some (.val (.tup []) S' 3):=by
 simp only [zI,h,Option.map_some]
theorem zo6 (S:zA) (ml:Nat) (gl:Int→Int) (hm:MG S ml gl) (v34:V) (w:List Int) (hw:OwnS S v34 3 (zU w)) (hwl:w.length ≤ 300000) (R:Post) :
 ∀ (k i:Nat) (b:Bool) (g0 g1 g2 g3 g4 g6 g7 g8 g9 gF gD gB gC gA gE gL gM gG gJ gN gI gH gO gP gT gQ gU gR gS gV gW gX gj gk gn gr gz hH hU hY hZ xA xB xC xD xE xF xG xH xI xJ xK xL xM:V),w.length - i=k→i ≤ w.length→(b=true ↔ ∀ x ∈ w.take i,gl x=0) →
 (∀ (b':Bool) i' (_12 _37 _38 _39 _40 _41 _42 _43 _44 _45 _46 _47:V),(b'=true ↔ ∀ x ∈ w,gl x=0)→R (.exit 2) (g0::g1::g2::g3::g4::(.mr ml)::g6::g7::g8::g9::(.d (.bool b'))::gF::_12::gB::gC::gA::gE::gL::gM::gG::gJ::gN::gI::gH::gO::gP::gT::gQ::gU::gR::gS::gV::gW::gX::v34::(.d (.int .i64 (w.length:Int)))::i'::_37::_38::_39::_40::_41::_42::_43::_44::_45::_46::_47::xC::xD::xE::xF::xG::xH::xI::xJ::xK::xL::xM::[]) S []) →
 Wp cfg (.loop (lpOf (Tryz.f141.body.getD .skip) 2)) (g0::g1::g2::g3::g4::(.mr ml)::g6::g7::g8::g9::(.d (.bool b))::gF::gD::gB::gC::gA::gE::gL::gM::gG::gJ::gN::gI::gH::gO::gP::gT::gQ::gU::gR::gS::gV::gW::gX::v34::(.d (.int .i64 (w.length:Int)))::(.d (.int .i64 (i:Int)))::gj::gk::gn::gr::gz::hH::hU::hY::hZ::xA::xB::xC::xD::xE::xF::xG::xH::xI::xJ::xK::xL::xM::[]) S [] R:=by
 intro k
 induction k with
 | zero =>
  intro i b g0 g1 g2 g3 g4 g6 g7 g8 g9 gF gD gB gC gA gE gL gM gG gJ gN gI gH gO gP gT gQ gU gR gS gV gW gX gj gk gn gr gz hH hU hY hZ xA xB xC xD xE xF xG xH xI xJ xK xL xM hk hi hb hR
  have hie:i=w.length:=by omega
  subst hie
  rw [List.take_length] at hb
  rw [zO]
  refine zN ?_
  conv=>arg 2; whnf
  simp (maxSteps:=1000000) (disch:=first|assumption|omega|rfl) only [↓gp,gc,Nat.reduceAdd]
  exact hR _ _ _ _ _ _ _ _ _ _ _ _ _ _ hb
 | succ k ih =>
  intro i b g0 g1 g2 g3 g4 g6 g7 g8 g9 gF gD gB gC gA gE gL gM gG gJ gN gI gH gO gP gT gQ gU gR gS gV gW gX gj gk gn gr gz hH hU hY hZ xA xB xC xD xE xF xG xH xI xJ xK xL xM hk hi hb hR
  have hlt:i < w.length:=by omega
  have h3:IntKind.i64.wrap ((i:Int) + 1)=((i + 1:Nat):Int):=by rw [wrap64 (by omega)]; omega
  obtain ⟨id,hix,hre,_⟩:=kJ Tryz.underlying22 s3z hw (i:=i) (by rw [zY]; exact hlt)
  have hre:rowE S id i=some (.d (.int .i64 w[i])):=by rw [hre]; simp [zU]
  have hlk:=hm.look w[i]
  rw [zO]
  refine zN ?_
  conv=>arg 2; whnf
  cases b with
  | false =>
   simp (maxSteps:=1000000) (disch:=first|assumption|omega|rfl) only [↓gp,gc,Nat.reduceAdd,hix,hre,ld3r,h3]
   refine ih (i + 1) false _ _ _ _ _ _ _ _ _ _ _ _ _ _ _ _ _ _ _ _ _ _ _ _ _ _ _ _ _ _ _ _ _ _ _ _ _ _ _ _ _ _ _ _ _ _ _ _ _ _ _ _ _ _ (by omega) (by omega) ⟨fun h=>(Bool.false_ne_true h).elim,fun h=>hb.2 fun x hx=>h x ?_⟩ hR
   rw [jY hlt]
   exact List.mem_append_left _ hx
  | true =>
   have hall:=hb.1 rfl
   by_cases hg:gl w[i]=0
   ·simp (maxSteps:=1000000) (disch:=first|assumption|omega|rfl) only [↓gp,gc,Nat.reduceAdd,hix,hre,ld3r,hlk,hg,zQ,h3]
    refine ih (i + 1) true _ _ _ _ _ _ _ _ _ _ _ _ _ _ _ _ _ _ _ _ _ _ _ _ _ _ _ _ _ _ _ _ _ _ _ _ _ _ _ _ _ _ _ _ _ _ _ _ _ _ _ _ _ _ (by omega) (by omega) ⟨fun _ x hx=>?_,fun _=>rfl⟩ hR
    rw [jY hlt] at hx
    rcases List.mem_append.1 hx with hx | hx
    ·exact hall x hx
    ·simp only [List.mem_singleton] at hx
     rw [hx]; exact hg
   ·have hde : ∀ i':Decidable (gl w[i]=0),@decide (gl w[i]=0) i'=false:=fun i'=>decide_eq_false hg
    simp (maxSteps:=1000000) (disch:=first|assumption|omega|rfl) only [↓gp,gc,Nat.reduceAdd,hix,hre,ld3r,hlk,hde,h3]
    refine ih (i + 1) false _ _ _ _ _ _ _ _ _ _ _ _ _ _ _ _ _ _ _ _ _ _ _ _ _ _ _ _ _ _ _ _ _ _ _ _ _ _ _ _ _ _ _ _ _ _ _ _ _ _ _ _ _ _ (by omega) (by omega) ⟨fun h=>(Bool.false_ne_true h).elim,fun h=>absurd (h w[i] ?_) hg⟩ hR
    rw [jY hlt]
    exact List.mem_append_right _ (List.mem_singleton.2 rfl)
def RdOk (l:List Chg) (no:Int) (i:Nat) (out:List Int):Prop :=
 (∀ x ∈ out,∃ ch ∈ l.take i,ch.id=x∧ch.no=no)∧(∀ (j:Nat) (c:Chg),l[j]? = some c→c.id ∈ out → ∀ ch ∈ l.take j,ch.no=no→z3f ch.at_ ch.data c.at_ c.data→ch.id ∈ out)∧(∀ (j:Nat) (c:Chg),l[j]? = some c→c.id ∈ out → ∀ x ∈ c.needs,(∃ ch ∈ l,ch.id=x)→x ∈ out)∧(0 < i → ∀ c,l[0]? = some c→c.no=no→c.id ∈ out)
theorem zbm {l:List Chg} (h:l.Pairwise (fun a b=>a.id < b.id)) {i j:Nat} {a b:Chg} (hi:l[i]? = some a) (hj:l[j]? = some b) (he:a.id=b.id):i=j:=by
 have hp:=List.pairwise_iff_getElem.1 h
 obtain ⟨i1,i2⟩:=List.getElem?_eq_some_iff.1 hi
 obtain ⟨j1,j2⟩:=List.getElem?_eq_some_iff.1 hj
 rcases Nat.lt_trichotomy i j with hl | hl | hl
 ·have:=hp i j i1 j1 hl; rw [i2,j2] at this; omega
 ·exact hl
 ·have:=hp j i j1 i1 hl; rw [i2,j2] at this; omega
theorem RdOk.skip {l:List Chg} {no:Int} {i:Nat} {out:List Int} (h:RdOk l no i out) (h0:i=0 → ∀ c,l[0]? = some c→c.no ≠ no):RdOk l no (i + 1) out :=
 ⟨fun x hx=>by
  obtain ⟨ch,h1,h2⟩:=h.1 x hx
  exact ⟨ch,(List.take_subset_take_left l (by omega)) h1,h2⟩,h.2.1,h.2.2.1,fun _ c hc hn=>by
  rcases Nat.eq_zero_or_pos i with e | e
  ·exact absurd hn (h0 e c hc)
  ·exact h.2.2.2 e c hc hn⟩
theorem RdOk.snoc {l:List Chg} {no:Int} {i:Nat} {out:List Int} (h:RdOk l no i out) (hp:l.Pairwise (fun a b=>a.id < b.id)) {c:Chg} (hc:l[i]? = some c) (hno:c.no=no) (hw : ∀ ch ∈ l.take i,ch.no=no→z3f ch.at_ ch.data c.at_ c.data→ch.id ∈ out) (hnd : ∀ x ∈ c.needs,(∃ ch ∈ l,ch.id=x)→x ∈ out):RdOk l no (i + 1) (out ++ [c.id]):=by
 obtain ⟨i1,i2⟩:=List.getElem?_eq_some_iff.1 hc
 refine ⟨fun x hx=>?_,fun j d hd hm ch hch e1 e2=>?_,fun j d hd hm x hx he=>?_,fun _ d hd hn=>?_⟩
 ·rcases List.mem_append.1 hx with hx | hx
  ·obtain ⟨ch,h1,h2⟩:=h.1 x hx
   exact ⟨ch,(List.take_subset_take_left l (by omega)) h1,h2⟩
  ·simp only [List.mem_singleton] at hx
   subst hx
   exact ⟨c,by rw [jY i1,← i2]; exact List.mem_append_right _ (List.mem_singleton.2 rfl),rfl,hno⟩
 ·rcases List.mem_append.1 hm with hm | hm
  ·exact List.mem_append_left _ (h.2.1 j d hd hm ch hch e1 e2)
  ·simp only [List.mem_singleton] at hm
   have:=zbm hp hd hc hm
   subst this
   rw [hd] at hc
   cases hc
   exact List.mem_append_left _ (hw ch hch e1 e2)
 ·rcases List.mem_append.1 hm with hm | hm
  ·exact List.mem_append_left _ (h.2.2.1 j d hd hm x hx he)
  ·simp only [List.mem_singleton] at hm
   have:=zbm hp hd hc hm
   subst this
   rw [hd] at hc
   cases hc
   exact List.mem_append_left _ (hnd x hx he)
 ·rcases Nat.eq_zero_or_pos i with e | e
  ·subst e
   rw [hd] at hc
   cases hc
   exact List.mem_append_right _ (List.mem_singleton.2 rfl)
  ·exact List.mem_append_left _ (h.2.2.2 e d hd hn)
theorem zse (no:Int) (S0:zA) (L:V) (es:List V) (l:List Chg) (hL:OwnS S0 L 80 es) (hl:ChgsV S0 es l) (hes:es.length ≤ 150000) (n last:Nat) (hlast:last ≤ 100000) (hok : ∀ ch ∈ l,z69 n last ch) (hids:l.Pairwise (fun a b=>a.id < b.id)) (ml mi:Nat) (hml:S0.length ≤ ml) (hmi:ml < mi) (gi:Int→Int) (hgi : ∀ n,gi n ≠ 0 ↔ ∃ ch ∈ l,ch.id=n) (R:Post) :
 ∀ (k i:Nat) (S:zA) (v7:V) (out:List Int) (gl:Int→Int) (g2 g3 g4 g8 g9 gK gF gD gB gC gA gE gL gM gG gH gO gP gT gQ gU gR gS gV gW gX gY gZ gh gj gk gn gr gz hH hU hY hZ xA xB xC xD xE xF xG xH xI xJ xK xL xM:V),l.length - i=k→i ≤ l.length→Keep S0 S→MG S ml gl→MG S mi gi→(∀ j,j < S0.length→NotAt v7 j)→OwnS S v7 3 (zU out)→out.length ≤ i→RdOk l no i out→(∀ n,gl n ≠ 0 ↔ (∃ ch ∈ l,ch.id=n)∧n ∉ out) →
 (∀ S v7 out i' g2 g3 g4 g8 g9 gK gF gD gB gC gA gE gL gM gG gH gO gP gT gQ gU gR gS gV gW gX gY gZ gh gj gk gn gr gz hH hU hY hZ xA xB xC xD xE xF xG xH xI xJ xK xL xM,Keep S0 S→OwnS S v7 3 (zU out)→out.length ≤ l.length→RdOk l no l.length out→R (.exit 0) (L::(.d (.int .i64 no))::g2::g3::g4::(.mr ml)::(.mr mi)::v7::g8::g9::gK::gF::gD::gB::gC::gA::gE::gL::gM::gG::L::(.d (.int .i64 (l.length:Int)))::i'::gH::gO::gP::gT::gQ::gU::gR::gS::gV::gW::gX::gY::gZ::gh::gj::gk::gn::gr::gz::hH::hU::hY::hZ::xA::xB::xC::xD::xE::xF::xG::xH::xI::xJ::xK::xL::xM::[]) S []) →
 Wp cfg (.loop (lpOf (Tryz.f141.body.getD .skip) 0)) (L::(.d (.int .i64 no))::g2::g3::g4::(.mr ml)::(.mr mi)::v7::g8::g9::gK::gF::gD::gB::gC::gA::gE::gL::gM::gG::L::(.d (.int .i64 (l.length:Int)))::(.d (.int .i64 (i:Int)))::gH::gO::gP::gT::gQ::gU::gR::gS::gV::gW::gX::gY::gZ::gh::gj::gk::gn::gr::gz::hH::hU::hY::hZ::xA::xB::xC::xD::xE::xF::xG::xH::xI::xJ::xK::xL::xM::[]) S [] R:=by
 intro k
 have hll:=hl.1
 induction k with
 | zero =>
  intro i S v7 out gl g2 g3 g4 g8 g9 gK gF gD gB gC gA gE gL gM gG gH gO gP gT gQ gU gR gS gV gW gX gY gZ gh gj gk gn gr gz hH hU hY hZ xA xB xC xD xE xF xG xH xI xJ xK xL xM hk hi hK hm1 hm2 hN ho hol hrd hgl hR
  have hie:i=l.length:=by omega
  subst hie
  rw [zO]
  refine zN ?_
  conv=>arg 2; whnf
  simp (maxSteps:=1000000) (disch:=first|assumption|omega|rfl) only [↓gp,gc,Nat.reduceAdd]
  exact hR _ _ _ _ _ _ _ _ _ _ _ _ _ _ _ _ _ _ _ _ _ _ _ _ _ _ _ _ _ _ _ _ _ _ _ _ _ _ _ _ _ _ _ _ _ _ _ _ _ _ _ _ _ _ _ hK ho hol hrd
 | succ k ih =>
  intro i S v7 out gl g2 g3 g4 g8 g9 gK gF gD gB gC gA gE gL gM gG gH gO gP gT gQ gU gR gS gV gW gX gY gZ gh gj gk gn gr gz hH hU hY hZ xA xB xC xD xE xF xG xH xI xJ xK xL xM hk hi hK hm1 hm2 hN ho hol hrd hgl hR
  have hlt:i < l.length:=by omega
  have hlt2:i < es.length:=by omega
  obtain ⟨id',hix,hre,_⟩:=kJ u119 s122 (hK.own hL) hlt2
  obtain ⟨dv,nv,he,hd5,hn3⟩:=hl.2 i es[i] l[i] (List.getElem?_eq_getElem hlt2) (List.getElem?_eq_getElem hlt)
  rw [he] at hre
  have h3:IntKind.i64.wrap ((i:Int) + 1)=((i + 1:Nat):Int):=by rw [wrap64 (by omega)]; omega
  have hkx:Keep S (S ++ [.row [.agg [.d (.int .i64 l[i].id),.d (.int .i64 l[i].no),.d (.int .i64 l[i].at_),dv,nv]] 80]):=Keep.refl.app
  have hk0:=hK.trans hkx
  generalize ha:S.length=a
  rw [zO]
  refine zN ?_
  conv=>arg 2; whnf
  by_cases hno:l[i].no=no
  ·have hde : ∀ i':Decidable (l[i].no ≠ no),@decide (l[i].no ≠ no) i'=false:=fun i'=>decide_eq_false (fun h=>h hno)
   obtain ⟨o,S2,⟨hK2,v34,w,o1,rfl,hw34,hwl,hwt,ho1x⟩,hE⟩:=qC (zo1 _ L es l (hk0.own hL) (hl.mono (fun _ _=>hk0.own) (fun _ _=>hk0.own)) hes n last hlast hok i mi hlt gi (hm2.keep hkx))
   have hE:=fun {ops dst k T F Q}=>zF (ops:=ops) (dst:=dst) (l:=k) (T:=T) (F:=F) (Q:=Q) rfl hE
   have hK02:=hk0.trans hK2
   have hm12:=hm1.keep (hkx.trans hK2)
   have hm22:=hm2.keep (hkx.trans hK2)
   have ho2:=(hkx.trans hK2).own ho
   have hln:zI Tryz.prog S2 .len [22] [v34]=some (.val (.d (.int .i64 (w.length:Int))) S2 0):=by rw [kE Tryz.underlying22 hw34,zY]
   have hL1:=qG hL
   simp (maxSteps:=1000000) (disch:=first|assumption|omega|rfl) only [↓gp,gc,Nat.reduceAdd,hix,hre,z24,z122,z25,z3g,ha,rA0 ha,pA0 ha,z0b,z0a,hde,hE,zx8,hln,hL1]
   have hrow:S2[a]? = some (.row [.agg [.d (.int .i64 l[i].id),.d (.int .i64 l[i].no),.d (.int .i64 l[i].at_),dv,nv]] 80):=hK2 _ _ (by subst ha; simp)
   have hra:=zD (e:=80) hrow
   refine zo6 S2 ml gl hm12 v34 w hw34 hwl _ w.length 0 true _ _ _ _ _ _ _ _ _ _ _ _ _ _ _ _ _ _ _ _ _ _ _ _ _ _ _ _ _ _ _ _ _ _ _ _ _ _ _ _ _ _ _ _ _ _ _ _ _ _ _ _ _ _ rfl (Nat.zero_le _) (by simp) ?_
   intro b' i' gD gj gk gn gr gz hH hU hY hZ xA xB hb
   cases b' with
   | false =>
    simp (maxSteps:=1000000) (disch:=first|assumption|omega|rfl) only [↓gp,gc,Nat.reduceAdd,h3]
    refine ih (i + 1) S2 v7 out gl _ _ _ _ _ _ _ _ _ _ _ _ _ _ _ _ _ _ _ _ _ _ _ _ _ _ _ _ _ _ _ _ _ _ _ _ _ _ _ _ _ _ _ _ _ _ _ _ _ _ _ (by omega) (by omega) hK02 hm12 hm22 hN ho2 (by omega) (hrd.skip fun e c hc _=>?_) hgl hR
    subst e
    refine Bool.false_ne_true (hb.2 fun x hx=>?_)
    rcases hwt.2.2 x hx with h | ⟨ch,h,_⟩
    ·obtain ⟨h1,h2⟩:=(ho1x x).1 h
     obtain ⟨ch,h3,h4⟩:=(hgi x).1 h2
     obtain ⟨_,_,_,_,_,_,g7⟩:=hok l[0] (List.getElem_mem _)
     have h5:=(g7 x h1).2
     obtain ⟨j,hj⟩:=List.mem_iff_getElem?.1 h3
     obtain ⟨j1,j2⟩:=List.getElem?_eq_some_iff.1 hj
     rcases Nat.eq_zero_or_pos j with e | e
     ·subst e; rw [j2] at h5; omega
     ·have:=List.pairwise_iff_getElem.1 hids 0 j hlt j1 e
      rw [j2] at this
      omega
    ·simp at h
   | true =>
    have hall:=hb.1 rfl
    obtain ⟨o,ho3,hm3,es',c',ho4⟩:=hm12.del l[i].id
    have hd:=q0e ho3
    have hmlt:=hm12.lt
    have hne:a ≠ ml:=by
     rintro rfl
     obtain ⟨f,⟨_,_,q1,_⟩,_⟩:=hm12
     cases getE hrow q1
    have hra3:rowE (S2.set ml o) a 0=some (.agg [.d (.int .i64 l[i].id),.d (.int .i64 l[i].no),.d (.int .i64 l[i].at_),dv,nv]):=zD (e:=80) (by rw [List.getElem?_set_ne (Ne.symm hne)]; exact hrow)
    have ho5:=zln (o:=o) ho2 hm12
    obtain ⟨v',S4,cst,hap,ho6,hfr,hlen⟩:=ap22 l[i].id ho5 (by omega)
    simp (maxSteps:=1000000) (disch:=first|assumption|omega|rfl) only [↓gp,gc,Nat.reduceAdd,hra,hra3,z0d,z08,hd,hap,h3]
    have hN2 : ∀ j,j < S0.length→NotAt v' j:=fun j hj=>(hfr j _ (by rw [List.getElem?_set_ne (by omega)]; exact hK02 j _ (List.getElem?_eq_getElem hj)) (hN j hj)).2
    have hmi2:((S2.set ml o))[mi]? = S2[mi]? := List.getElem?_set_ne (by omega)
    have hm23:MG (S2.set ml o) mi gi:=hm22.of hmi2
    have mv : ∀ {m:Nat} {g:Int→Int},MG (S2.set ml o) m g→MG S4 m g:=fun {m g} h=>h.of (by
     have hlt3:=h.lt
     rw [(hfr m _ (List.getElem?_eq_getElem hlt3) (zdj ho5 h)).1,List.getElem?_eq_getElem hlt3])
    refine ih (i + 1) S4 v' (out ++ [l[i].id]) _ _ _ _ _ _ _ _ _ _ _ _ _ _ _ _ _ _ _ _ _ _ _ _ _ _ _ _ _ _ _ _ _ _ _ _ _ _ _ _ _ _ _ _ _ _ _ _ _ _ _ _ (by omega) (by omega) (fun j q hj=>(hfr j q (by rw [List.getElem?_set_ne (by have:=zL hj; omega)]; exact hK02 j q hj) (hN j (zL hj))).1) (mv hm3) (mv hm23) hN2 ho6 (by simp; omega) ?_ ?_ hR
    ·have hin0 : ∀ x ∈ w,(∃ ch ∈ l,ch.id=x)→x ∈ out:=fun x hx hch=>by
      have h6:=hall _ hx
      by_cases hin:x ∈ out
      ·exact hin
      ·exact absurd h6 ((hgl x).2 ⟨hch,hin⟩)
     refine hrd.snoc hids (List.getElem?_eq_getElem hlt) hno (fun ch hch e1 e2=>?_) fun x hx hch=>hin0 x (hwt.2.1 x ((ho1x x).2 ⟨hx,(hgi x).2 hch⟩)) hch
     have h5:=hwt.1 l[i] (List.getElem?_eq_getElem hlt) ch hch (e1.trans hno.symm) e2
     have h6:=hall _ h5
     by_cases hin:ch.id ∈ out
     ·exact hin
     ·exact absurd h6 ((hgl ch.id).2 ⟨⟨ch,List.mem_of_mem_take hch,rfl⟩,hin⟩)
    ·intro x
     unfold updG
     by_cases e:x=l[i].id
     ·rw [if_pos e]
      refine ⟨fun h=>absurd rfl h,fun h=>absurd ?_ h.2⟩
      exact List.mem_append_right _ (List.mem_singleton.2 e)
     ·rw [if_neg e,hgl x,List.mem_append,List.mem_singleton]
      exact ⟨fun h=>⟨h.1,fun hh=>hh.elim h.2 e⟩,fun h=>⟨h.1,fun hh=>h.2 (.inl hh)⟩⟩
  ·have hde : ∀ i':Decidable (l[i].no ≠ no),@decide (l[i].no ≠ no) i'=true:=fun i'=>decide_eq_true hno
   simp (maxSteps:=1000000) (disch:=first|assumption|omega|rfl) only [↓gp,gc,Nat.reduceAdd,hix,hre,z24,z122,z25,z3g,ha,rA0 ha,pA0 ha,z0b,z0a,hde,h3]
   exact ih (i + 1) _ v7 out gl _ _ _ _ _ _ _ _ _ _ _ _ _ _ _ _ _ _ _ _ _ _ _ _ _ _ _ _ _ _ _ _ _ _ _ _ _ _ _ _ _ _ _ _ _ _ _ _ _ _ _ (by omega) (by omega) hk0 (hm1.keep hkx) (hm2.keep hkx) hN (hkx.own ho) (by omega) (hrd.skip fun e c hc=>by subst e; rw [List.getElem?_eq_getElem hlt] at hc; cases hc; exact hno) hgl hR
theorem zop (no:Int) (S:zA) (L:V) (es:List V) (l:List Chg) (hL:OwnS S L 80 es) (hl:ChgsV S es l) (hes:es.length ≤ 150000) (n last:Nat) (hlast:last ≤ 100000) (hok : ∀ ch ∈ l,z69 n last ch) (hids:l.Pairwise (fun a b=>a.id < b.id)) :
  EvS cfg 141 [L,.d (.int .i64 no)] S (fun o S'=>Keep S S' ∧ ∃ v out,o = .ret v∧OwnS S' v 3 (zU out)∧out.length ≤ l.length∧RdOk l no l.length out):=by
 refine qE rfl zr4 ?_
 show Wp cfg (Tryz.f141.body.getD .skip) (L::(.d (.int .i64 no))::uZ (uZ (uZ (uZ (uZ ((.tup [])::(.tup [])::(.tup [])::(.tup [])::(.tup [])::(.tup [])::(.tup [])::[])))))) S [] _
 unfold uZ
 conv=>arg 2; whnf
 rw [zO]
 have hL1:=qG hL
 obtain ⟨o,S1,⟨hK1,rfl⟩,hE1⟩:=qC (zjq n last hlast S L es l hL hl (by omega) hok hids)
 have hE1:=fun {ops dst k T F Q}=>zF (ops:=ops) (dst:=dst) (l:=k) (T:=T) (F:=F) (Q:=Q) rfl hE1
 obtain ⟨o,S2,⟨hK2,ml,gl,rfl,hml,hm1,hgl⟩,hE2⟩:=qC (zg4 S1 L es l (hK1.own hL) (hl.mono (fun _ _=>hK1.own) (fun _ _=>hK1.own)) (by omega))
 have hE2:=fun {ops dst k T F Q}=>zF (ops:=ops) (dst:=dst) (l:=k) (T:=T) (F:=F) (Q:=Q) rfl hE2
 have hK02:=hK1.trans hK2
 obtain ⟨o,S3,⟨hK3,mi,gi,rfl,hmi,hm2,hgi⟩,hE3⟩:=qC (zg4 S2 L es l (hK02.own hL) (hl.mono (fun _ _=>hK02.own) (fun _ _=>hK02.own)) (by omega))
 have hE3:=fun {ops dst k T F Q}=>zF (ops:=ops) (dst:=dst) (l:=k) (T:=T) (F:=F) (Q:=Q) rfl hE3
 have hK03:=hK02.trans hK3
 have hln:zI Tryz.prog S3 .len [74] [L]=some (.val (.d (.int .i64 (l.length:Int))) S3 0):=by rw [kE u119 (hK03.own hL),hl.1]
 have hlt:=hm1.lt
 have hl1:=hK1.len
 simp (maxSteps:=1000000) (disch:=first|assumption|omega|rfl) only [↓gp,gc,Nat.reduceAdd,hL1,hE1,zwi,hE2,zz8,hE3,hln]
 refine zse no S L es l hL hl hes n last hlast hok hids ml mi (by omega) (by omega) gi hgi _ l.length 0 S3 (.ts []) [] gl _ _ _ _ _ _ _ _ _ _ _ _ _ _ _ _ _ _ _ _ _ _ _ _ _ _ _ _ _ _ _ _ _ _ _ _ _ _ _ _ _ _ _ _ _ _ _ _ _ _ _ rfl (Nat.zero_le _) hK03 (hm1.keep hK3) hm2 (fun j _=>NotAt.ts) (.inl ⟨rfl,rfl⟩) (by simp) ⟨fun x hx=>(by simp at hx),fun j c _ hc=>(by simp at hc),fun j c _ hc=>(by simp at hc),fun h=>(by omega)⟩ (fun x=>by rw [hgl x]; simp) ?_
 intro S4 v7 out i' g2 g3 g4 g8 g9 gK gF gD gB gC gA gE gL gM gG gH gO gP gT gQ gU gR gS gV gW gX gY gZ gh gj gk gn gr gz hH hU hY hZ xA xB xC xD xE xF xG xH xI xJ xK xL xM hK ho hol hrd
 have ho1:=qG ho
 simp (maxSteps:=1000000) (disch:=first|assumption|omega|rfl) only [↓gp,gc,Nat.reduceAdd]
 exact ⟨rfl,_,rfl,hK,v7,out,rfl,ho,hol,hrd⟩
section
variable {a b c:Int} {dv nv:V} {id n:Nat}
theorem zmj:qZ Tryz.prog 76 3 (some (.agg [.d (.int .i64 a),.d (.int .i64 b),.d (.int .i64 c),dv,nv]))=some dv:=by kernel_rfl
theorem zit:qW Tryz.prog 76 3 (.rs id 0 n) (.agg [.d (.int .i64 a),.d (.int .i64 b),.d (.int .i64 c),dv,nv])=some (.agg [.d (.int .i64 a),.d (.int .i64 b),.d (.int .i64 c),.rs id 0 n,nv]):=by kernel_rfl
theorem ztl:qW Tryz.prog 22 4 (.rs id 0 n) (.agg [.d (.int .i64 a),.d (.int .i64 b),.d (.int .i64 c),dv,nv])=some (.agg [.d (.int .i64 a),.d (.int .i64 b),.d (.int .i64 c),dv,.rs id 0 n]):=by kernel_rfl
theorem zu3:qW Tryz.prog 22 4 (.ts []) (.agg [.d (.int .i64 a),.d (.int .i64 b),.d (.int .i64 c),dv,nv])=some (.agg [.d (.int .i64 a),.d (.int .i64 b),.d (.int .i64 c),dv,.ts []]):=by kernel_rfl
theorem znb:qA Tryz.prog 80 (.agg [.d (.int .i64 a),.d (.int .i64 b),.d (.int .i64 c),dv,nv])=true:=by kernel_rfl
end
theorem zci {S:zA} {T:List V} {dst:Option Tmp} {ty:TypeId} {pos:String} {after:Array Edge} {g:Option (Nat × Bool)}:opV Tryz.prog S T ⟨dst,.buildSlice 22 0 #[],ty,pos,after,g⟩=some (.val (.ts []) S 0):=by kernel_rfl
theorem zpg {m:Nat}:qZ Tryz.prog 186 0 (some (.mr m))=some (.mr m):=by kernel_rfl
theorem z178:zeroV Tryz.prog 186=some (.d .nilm):=by kernel_rfl
theorem zwl {m:Nat}:qW Tryz.prog 186 0 (.mr m) (.d .nilm)=some (.mr m):=by kernel_rfl
theorem zm5 {S:zA} {nv:V} {l:List Int} (h:OwnS S nv 3 (zU l)) (h0:l ≠ []) (hl:l.length ≤ 300000):qJ Tryz.prog S 22 22 (.ts []) nv=some (.rs S.length 0 l.length,S ++ [.row (zU l) 3],2):=by
 obtain ⟨y,r,hyr⟩ : ∃ y r,l=y::r:=by
  cases l with
  | nil=>exact absurd rfl h0
  | cons y r=>exact ⟨y,r,rfl⟩
 have he:jV S nv=some (zU l):=by
  rcases h with ⟨rfl,h2⟩ | ⟨id,rfl,h2⟩
  ·subst hyr; cases h2
  ·simp only [jV,h2,Nat.zero_add,Nat.le_refl,if_true,List.drop_zero,List.take_length]
 have hs : ∀ s,nv ≠ .d (.str s):=by
  intro s hh
  rcases z1z h with h | ⟨_,_,h⟩ <;> (rw [h] at hh; cases hh)
 have hf:(zU l).all (qA Tryz.prog 3)=true:=by
  rw [List.all_eq_true]
  intro x hx
  obtain ⟨y,_,rfl⟩:=List.mem_map.1 hx
  exact z7k y
 have src:srcV Tryz.prog S 3 22 nv=some (zU l):=by
  have h6:(sz Tryz.prog 3).isSome=true:=s3z
  unfold srcV
  split
  ·rename_i s; exact absurd rfl (hs s)
  ·simp only [Tryz.underlying22,he,hf,h6,Bool.and_self,if_true]
 subst hyr
 have hr:room Tryz.prog 3 (0 + ((zU r).length + 1))=true:=zqo (by rw [zY]; simp at hl; omega)
 have hz:zOk Tryz.prog 3=true:=zns
 have e:zU (y::r) = .d (.int .i64 y)::zU r:=rfl
 rw [e] at src
 simp only [qJ,Tryz.underlying22,src,hz,if_true,List.all_nil,List.length_nil,hr,Bool.and_self,List.map_nil,List.nil_append]
 rw [e]
 simp [zY]
theorem zju {S:zA} {nv:V} (h:OwnS S nv 3 (zU [])):qJ Tryz.prog S 22 22 (.ts []) nv=some (.ts [],S,1):=by
 have he:jV S nv=some []:=by
  rcases h with ⟨rfl,h2⟩ | ⟨id,rfl,h2⟩
  ·rfl
  ·simp only [jV,h2]; rfl
 have src:srcV Tryz.prog S 3 22 nv=some []:=by
  have h6:(sz Tryz.prog 3).isSome=true:=s3z
  rcases z1z h with h | ⟨_,_,h⟩
  ·subst h; simp only [srcV,Tryz.underlying22,he,h6]; rfl
  ·subst h; simp only [srcV,Tryz.underlying22,he,h6]; rfl
 simp only [qJ,Tryz.underlying22,src]
theorem ChgV.form {S:zA} {v:V} {ch:Chg} (h:ChgV S v ch) (h1:1 ≤ ch.data.length) : ∃ dv nv id,v = .agg [.d (.int .i64 ch.id),.d (.int .i64 ch.no),.d (.int .i64 ch.at_),dv,nv]∧OwnS S dv 5 (bysV ch.data)∧OwnS S nv 3 (zU ch.needs)∧dv = .rs id 0 ch.data.length:=by
 obtain ⟨dv,nv,h2,h3,h4⟩:=h
 rcases h3 with ⟨rfl,h5⟩ | ⟨id,rfl,h5⟩
 ·have:(bysV ch.data).length=0:=by rw [h5]; rfl
  unfold bysV at this
  rw [List.length_map] at this
  omega
 ·refine ⟨_,nv,id,h2,.inr ⟨id,rfl,h5⟩,h4,?_⟩
  unfold bysV; rw [List.length_map]
theorem zjk (S:zA) (v:V) (ch:Chg) (hv:ChgV S v ch) (hp:kG ch.at_ ch.data) (hn:ch.needs.length ≤ 300000):EvS cfg 90 [v] S (fun o S'=>Keep S S' ∧ ∃ u,o = .ret u∧ChgV S' u ch):=by
 obtain ⟨dv,nv,id,rfl,hd,hn3,hdv⟩:=hv.form hp.1
 refine qE rfl zzw ?_
 show Wp cfg (Tryz.f90.body.getD .skip) ((.agg [.d (.int .i64 ch.id),.d (.int .i64 ch.no),.d (.int .i64 ch.at_),dv,nv])::uZ ((.tup [])::(.tup [])::(.tup [])::(.tup [])::(.tup [])::[])) S [] _
 unfold uZ
 conv=>arg 2; whnf
 rw [zO]
 generalize ha:S.length=a
 have hb0:ch.data ≠ []:=by intro h; have:=hp.1; rw [h] at this; simp at this
 have hkx : ∀ s,Keep S (S ++ s):=fun s=>Keep.refl.app
 have hpv : ∀ s,PatV (S ++ s) (.agg [.d (.int .i64 ch.at_),dv]) dv ch.at_ ch.data:=fun s=>.inl ⟨rfl,.inl ((hkx s).own hd)⟩
 have hap:=fun s=>(hpv s).app hb0 (by have:=hp.2.1; omega)
 have hby:(rowY ch.data) = .row (bysV ch.data) 5:=rfl
 by_cases h0:ch.needs=[]
 ·have hap2 : ∀ s,qJ Tryz.prog (S ++ s) 22 22 (.ts []) nv=some (.ts [],S ++ s,1):=fun s=>zju ((hkx s).own (h0 ▸ hn3))
  have hd1:=qG hd
  have hn1:=qG hn3
  simp (maxSteps:=1000000) (disch:=first|assumption|omega|rfl) only [↓gp,gc,Nat.reduceAdd,↓vbs,znb,z122,z25,ha,rA0 ha,pA0 ha,rA1 ha,pA1 ha,zfi,zci,z0o,zbn,z21,zmj,zb1,hap,hap2,zit,zu3,z24,z3g,hd1,hn1,List.append_assoc,List.length_append,List.length_cons,List.length_nil]
  refine ⟨rfl,_,z0t (x:= .ref (a + 1) 0 0) rfl ((zJ (rA1 ha)).trans z24),Keep.refl.app,_,rfl,_,_,rfl,?_,?_⟩
  ·refine .inr ⟨a + 2,?_,?_⟩
   ·unfold bysV; rw [List.length_map]
   ·rw [List.getElem?_append_right (by omega),ha,Nat.add_sub_cancel_left]; rfl
  ·rw [h0]; exact .inl ⟨rfl,rfl⟩
 ·have hap2 : ∀ s,qJ Tryz.prog (S ++ s) 22 22 (.ts []) nv=some (.rs (S ++ s).length 0 ch.needs.length,(S ++ s) ++ [.row (zU ch.needs) 3],2):=fun s=>zm5 ((hkx s).own hn3) h0 hn
  have hd1:=qG hd
  have hn1:=qG hn3
  simp (maxSteps:=1000000) (disch:=first|assumption|omega|rfl) only [↓gp,gc,Nat.reduceAdd,↓vbs,znb,z122,z25,ha,rA0 ha,pA0 ha,rA1 ha,pA1 ha,zfi,zci,z0o,zbn,z21,zmj,zb1,hap,hap2,zit,ztl,z24,z3g,hd1,hn1,List.append_assoc,List.length_append,List.length_cons,List.length_nil]
  refine ⟨rfl,_,z0t (x:= .ref (a + 1) 0 0) rfl ((zJ (rA1 ha)).trans z24),Keep.refl.app,_,rfl,_,_,rfl,?_,?_⟩
  ·refine .inr ⟨a + 2,?_,?_⟩
   ·unfold bysV; rw [List.length_map]
   ·rw [List.getElem?_append_right (by omega),ha,Nat.add_sub_cancel_left]; rfl
  ·refine .inr ⟨a + 3,?_,?_⟩
   ·rw [zY]
   ·rw [List.getElem?_append_right (by omega),ha,Nat.add_sub_cancel_left]; rfl
theorem zyu (S:zA) (v:V) (ch:Chg) (hv:ChgV S v ch) (p m:Nat) (g:Int→Int) (hp:S[p]? = some (.row [.mr m] 186)) (hm:MG S m g):EvS cfg 129 [v,.ref p 0 0] S (fun o S'=>Keep S S'∧o = .ret (.d (.bool (decide (g ch.id=0))))):=by
 obtain ⟨dv,nv,rfl,hd,hn3⟩:=hv
 refine qE rfl zt8 ?_
 show Wp cfg (Tryz.f129.body.getD .skip) ((.agg [.d (.int .i64 ch.id),.d (.int .i64 ch.no),.d (.int .i64 ch.at_),dv,nv])::(.ref p 0 0)::(.tup [])::(.tup [])::(.tup [])::(.tup [])::(.tup [])::(.tup [])::(.tup [])::[]) S [] _
 conv=>arg 2; whnf
 rw [zO]
 have hk:Keep S (S ++ [.row [.agg [.d (.int .i64 ch.id),.d (.int .i64 ch.no),.d (.int .i64 ch.at_),dv,nv]] 80]):=Keep.refl.app
 have hr : ∀ s,rowE (S ++ s) p 0=some (.mr m):=fun s=>zD (e:=186) ((Keep.refl.app (l:=s)) _ _ hp)
 have hlk:=(hm.keep hk).look ch.id
 generalize ha:S.length=a
 simp (maxSteps:=1000000) (disch:=first|assumption|omega|rfl) only [↓gp,gc,Nat.reduceAdd,znb,ha,rA0 ha,hr,zpg,z0d,z08,hlk]
 exact ⟨rfl,_,rfl,hk,rfl⟩
theorem mfWi {S:zA} {a:Nat}:mfS (.func 129) S [] [.ref a 0 0]=some (.val (.fn (.func 129) [] [.ref a 0 0]) S 0):=z15 rfl
theorem zjc {f:Fn} {a b:List V}:(V.fn f a b).one=true:=rfl
theorem cvWi {v:V} {p:Nat} (h:v.one=true):cvV Tryz.prog [v] (.fn (.func 129) [] [.ref p 0 0])=some (.enter 129 [v,.ref p 0 0]):=zhl (by simp [h]) zqt
theorem ChgV.keep {S S':zA} {v:V} {ch:Chg} (h:ChgV S v ch) (hk:Keep S S'):ChgV S' v ch:=h.mono (fun _ _=>hk.own) (fun _ _=>hk.own)
theorem ChgsV.keep {S S':zA} {es:List V} {l:List Chg} (h:ChgsV S es l) (hk:Keep S S'):ChgsV S' es l:=h.mono (fun _ _=>hk.own) (fun _ _=>hk.own)
theorem z2y {S:zA} {v:V} {e:TypeId} {xs ys:List V} {i:Nat} {o:Ob} (h:OwnS S v e xs) (hi:S[i]? = some (.row ys 80)) (he:e ≠ 80):OwnS (S.set i o) v e xs:=by
 rcases h with h | ⟨id,rfl,h2⟩
 ·exact .inl h
 ·refine .inr ⟨id,rfl,?_⟩
  rw [List.getElem?_set_ne (by rintro rfl; cases getE hi h2; exact he rfl)]
  exact h2
theorem ChgsV.set122 {S:zA} {es:List V} {l:List Chg} {ys:List V} {i:Nat} {o:Ob} (h:ChgsV S es l) (hi:S[i]? = some (.row ys 80)):ChgsV (S.set i o) es l:=h.mono (fun _ _ hh=>z2y hh hi (by decide)) (fun _ _ hh=>z2y hh hi (by decide))
theorem ChgsV.snoc {S:zA} {es:List V} {l:List Chg} {e:V} {ch:Chg} (h:ChgsV S es l) (he:ChgV S e ch):ChgsV S (es ++ [e]) (l ++ [ch]):=by
 refine ⟨by rw [List.length_append,List.length_append,h.1]; rfl,fun i v c hv hc=>?_⟩
 rcases Nat.lt_or_ge i es.length with hi | hi
 ·rw [List.getElem?_append_left hi] at hv
  rw [List.getElem?_append_left (by rw [← h.1]; exact hi)] at hc
  exact h.2 i v c hv hc
 ·rw [List.getElem?_append_right hi] at hv
  rw [List.getElem?_append_right (by rw [← h.1]; exact hi),← h.1] at hc
  have hz:i - es.length=0:=by
   have:=(List.getElem?_eq_some_iff.1 hv).1
   simp at this
   omega
  rw [hz] at hv hc
  cases hv
  cases hc
  exact he
theorem zud {S:zA} {v u:V} {es:List V} {l:List Chg} {ch:Chg} (ho:OwnS S v 80 es) (hc:ChgsV S es l) (hu:ChgV S u ch) (h1:1 ≤ ch.data.length) (hl:es.length ≤ 200000) :
  ∃ v' S',(∃ k,bs1 Tryz.prog S 74 u=some (.val (.rs S.length 0 1) (S ++ [.row [u] 80]) k))∧(∃ k,qJ Tryz.prog (S ++ [.row [u] 80]) 74 74 v (.rs S.length 0 1)=some (v',S',k))∧OwnS S' v' 80 (es ++ [u])∧ChgsV S' (es ++ [u]) (l ++ [ch])∧(∀ j o,S[j]? = some o→NotAt v j→S'[j]? = some o∧NotAt v' j):=by
 obtain ⟨dv,nv,id,hue,hd,hn,hdv⟩:=hu.form h1
 have hu0:=hu
 have hk:Keep S (S ++ [.row [u] 80]):=Keep.refl.app
 have hf:qA Tryz.prog 80 u=true:=by rw [hue]; exact znb
 have hb:bs1 Tryz.prog S 74 u=some (.val (.rs S.length 0 1) (S ++ [.row [u] 80]) 2):=by rw [hue,hdv]; exact zvo (z1z hn)
 have hx:(S ++ [Ob.row [u] 80])[S.length]? = some (.row [u] 80):=by simp
 rcases zgo u119 zqn s122 (hk.own ho) hx hf (zla (by omega)) with ⟨rfl,rfl,hap⟩ | ⟨i,rfl,hi,hap⟩
 ·refine ⟨_,_,⟨2,hb⟩,⟨_,hap⟩,?_,?_,?_⟩
  ·refine .inr ⟨(S ++ [Ob.row [u] 80]).length,rfl,?_⟩
   rw [List.getElem?_append_right (Nat.le_refl _),Nat.sub_self]; rfl
  ·exact ((hc.keep hk).keep Keep.refl.app).snoc ((hu.keep hk).keep Keep.refl.app)
  ·intro j o hj _
   refine ⟨(hk.app) j o hj,?_⟩
   intro off k hh
   have:=zL hj
   cases hh
   simp at this
   omega
 ·have hl0:i < S.length:=by
   rcases ho with ⟨hh,_⟩ | ⟨id',hh,h2⟩
   ·cases hh
   ·cases hh; exact zL h2
  refine ⟨_,_,⟨2,hb⟩,⟨_,hap⟩,?_,?_,?_⟩
  ·refine .inr ⟨(S ++ [Ob.row [u] 80]).length,by rw [show (es ++ [u]).length=es.length + 1 from by simp],?_⟩
   rw [List.getElem?_append_right (by rw [List.length_set]; exact Nat.le_refl _),List.length_set,Nat.sub_self]; rfl
  ·exact (((hc.keep hk).set122 hi).keep Keep.refl.app).snoc ((((hu.keep hk)).mono (fun _ _ hh=>z2y hh hi (by decide)) (fun _ _ hh=>z2y hh hi (by decide))).keep Keep.refl.app)
  ·intro j o hj hn
   have hj2:=zL hj
   refine ⟨?_,?_⟩
   ·rw [List.getElem?_append_left (by rw [List.length_set,List.length_append]; omega),List.getElem?_set_ne (by rintro rfl; exact hn _ _ rfl)]
    exact hk j o hj
   ·intro off k hh
    cases hh
    simp at hj2
    omega
theorem zuo (p m:Nat) (g:Int→Int) (S0:zA) (hp:S0[p]? = some (.row [.mr m] 186)) (hm:MG S0 m g) (L:V) (es:List V) (l:List Chg) (hL:OwnS S0 L 80 es) (hl:ChgsV S0 es l) (hes:es.length ≤ 150000) (n last:Nat) (hlast:last ≤ 100000) (hok : ∀ ch ∈ l,z69 n last ch) (R:Post) :
 ∀ (k i:Nat) (S:zA) (v5:V) (fs:List V) (g0 g2 g3 g4 g6 g7 gF gD gB gC gA gE gL gM gG gJ gN gI gH:V),l.length - i=k→i ≤ l.length→Keep S0 S→(∀ j,j < S0.length→NotAt v5 j)→OwnS S v5 80 fs→ChgsV S fs ((l.take i).filter fun ch=>decide (g ch.id=0)) →
 (∀ S v5 fs i' g0 g2 g3 g4 g6 g7 gF gD gB gC gA gE gL gM gG gJ gN gI gH,Keep S0 S→(∀ j,j < S0.length→NotAt v5 j)→OwnS S v5 80 fs→ChgsV S fs (l.filter fun ch=>decide (g ch.id=0))→R (.exit 0) (g0::(.fn (.func 129) [] [.ref p 0 0])::g2::g3::g4::v5::g6::g7::L::(.d (.int .i64 (l.length:Int)))::i'::gF::gD::gB::gC::gA::gE::gL::gM::gG::gJ::gN::gI::gH::[]) S []) →
 Wp cfg (.loop (lpOf (Tryz.f128.body.getD .skip) 0)) (g0::(.fn (.func 129) [] [.ref p 0 0])::g2::g3::g4::v5::g6::g7::L::(.d (.int .i64 (l.length:Int)))::(.d (.int .i64 (i:Int)))::gF::gD::gB::gC::gA::gE::gL::gM::gG::gJ::gN::gI::gH::[]) S [] R:=by
 intro k
 have hll:=hl.1
 induction k with
 | zero =>
  intro i S v5 fs g0 g2 g3 g4 g6 g7 gF gD gB gC gA gE gL gM gG gJ gN gI gH hk hi hK hN ho hc hR
  have hie:i=l.length:=by omega
  subst hie
  rw [List.take_length] at hc
  rw [zO]
  refine zN ?_
  conv=>arg 2; whnf
  simp (maxSteps:=1000000) (disch:=first|assumption|omega|rfl) only [↓gp,gc,Nat.reduceAdd]
  exact hR _ _ _ _ _ _ _ _ _ _ _ _ _ _ _ _ _ _ _ _ _ _ _ hK hN ho hc
 | succ k ih =>
  intro i S v5 fs g0 g2 g3 g4 g6 g7 gF gD gB gC gA gE gL gM gG gJ gN gI gH hk hi hK hN ho hc hR
  have hlt:i < l.length:=by omega
  have hlt2:i < es.length:=by omega
  obtain ⟨id',hix,hre,_⟩:=kJ u119 s122 (hK.own hL) hlt2
  have hcv:=hl.2 i es[i] l[i] (List.getElem?_eq_getElem hlt2) (List.getElem?_eq_getElem hlt)
  have h3:IntKind.i64.wrap ((i:Int) + 1)=((i + 1:Nat):Int):=by rw [wrap64 (by omega)]; omega
  obtain ⟨g1,g2,g3,g4,g5,g6,g7⟩:=hok l[i] (List.getElem_mem hlt)
  have hnl:l[i].needs.length ≤ 300000:=by have:=z70 g6 (fun x hx=>(g7 x hx).1) (fun x hx=>(g7 x hx).2) (by omega); omega
  have hfl:fs.length ≤ 150000:=by
   rw [hc.1]
   have:=List.length_filter_le (fun ch:Chg=>decide (g ch.id=0)) (l.take i)
   rw [List.length_take] at this
   omega
  have hv1:(V.fn (.func 129) [] [.ref p 0 0]).one=true:=rfl
  have hsn:(l.take (i + 1)).filter (fun ch=>decide (g ch.id=0))=(l.take i).filter (fun ch=>decide (g ch.id=0)) ++ (if g l[i].id=0 then [l[i]] else []):=by
   rw [jY hlt,List.filter_append]
   by_cases h:g l[i].id=0 <;> simp [h]
  generalize hev:es[i]=ev at *
  obtain ⟨dv,nv,id,hue,hd,hn,hdv⟩:=hcv.form g1.1
  have hone:ev.one=true:=by rw [hue]; rfl
  have hl122:qZ Tryz.prog 80 0 (some ev)=some ev:=by rw [hue]; exact z24
  have hs122:qW Tryz.prog 80 0 ev (.agg [.d (.int .i64 0),.d (.int .i64 0),.d (.int .i64 0),.ts [],.ts []])=some ev:=by rw [hue]; exact z3g
  have hkx:Keep S (S ++ [.row [ev] 80]):=Keep.refl.app
  have hk0:=hK.trans hkx
  obtain ⟨o,S2,⟨hK2,rfl⟩,hE⟩:=qC (zyu (S ++ [.row [ev] 80]) ev l[i] (hcv.keep hk0) p m g (hk0 _ _ hp) (hm.keep hk0))
  have hE:=fun {ops dst k T F Q}=>zF (ops:=ops) (dst:=dst) (l:=k) (T:=T) (F:=F) (Q:=Q) rfl hE
  have hcvv:=cvWi (p:=p) hone
  have hK02:=hk0.trans hK2
  generalize ha:S.length=a
  have hrow:S2[a]? = some (.row [ev] 80):=hK2 _ _ (by subst ha; simp)
  have hra:=zD (e:=80) hrow
  rw [zO]
  refine zN ?_
  conv=>arg 2; whnf
  by_cases hg:g l[i].id=0
  ·rw [decide_eq_true hg] at hE
   rw [if_pos hg] at hsn
   obtain ⟨o,S3,⟨hK3,u,rfl,hu⟩,hE3⟩:=qC (zjk S2 ev l[i] (hcv.keep hK02) g1 hnl)
   have hE3:=fun {ops dst k T F Q}=>zF (ops:=ops) (dst:=dst) (l:=k) (T:=T) (F:=F) (Q:=Q) rfl hE3
   have hkt:=(hkx.trans hK2).trans hK3
   obtain ⟨v',S4,⟨kb,hb⟩,⟨ka,hap⟩,ho4,hc4,hfr⟩:=zud (hkt.own ho) (hc.keep hkt) hu g1.1 (by omega)
   have hu1:u.one=true:=by obtain ⟨_,_,hh,_⟩:=hu; rw [hh]; rfl
   simp (maxSteps:=1000000) (disch:=first|assumption|omega|rfl) only [↓gp,gc,Nat.reduceAdd,↓wZ,↓vbs,hix,hre,hl122,z122,z25,hs122,ha,rA0 ha,pA0 ha,hcvv,hone,hE,zqt,hra,hE3,bo90,hb,hap,hu1,h3]
   refine ih (i + 1) S4 v' _ _ _ _ _ _ _ _ _ _ _ _ _ _ _ _ _ _ _ _ (by omega) (by omega) (fun j q hj=>(hfr j q ((hK02.trans hK3) j q hj) (hN j (zL hj))).1) (fun j hj=>(hfr j _ ((hK02.trans hK3) j _ (List.getElem?_eq_getElem hj)) (hN j hj)).2) ho4 ?_ hR
   rw [hsn]; exact hc4
  ·rw [decide_eq_false hg] at hE
   rw [if_neg hg,List.append_nil] at hsn
   simp (maxSteps:=1000000) (disch:=first|assumption|omega|rfl) only [↓gp,gc,Nat.reduceAdd,↓wZ,hix,hre,hl122,z122,z25,hs122,ha,rA0 ha,pA0 ha,hcvv,hone,hE,zqt,h3]
   refine ih (i + 1) S2 v5 fs _ _ _ _ _ _ _ _ _ _ _ _ _ _ _ _ _ _ _ (by omega) (by omega) hK02 hN ((hkx.trans hK2).own ho) ?_ hR
   rw [hsn]; exact hc.keep (hkx.trans hK2)
theorem zo2 (S:zA) (p m:Nat) (g:Int→Int) (hp:S[p]? = some (.row [.mr m] 186)) (hm:MG S m g) (L:V) (es:List V) (l:List Chg) (hL:OwnS S L 80 es) (hl:ChgsV S es l) (hes:es.length ≤ 150000) (n last:Nat) (hlast:last ≤ 100000) (hok : ∀ ch ∈ l,z69 n last ch) :
  EvS cfg 128 [L,.fn (.func 129) [] [.ref p 0 0]] S (fun o S'=>Keep S S' ∧ ∃ v fs,o = .ret v∧OwnS S' v 80 fs∧ChgsV S' fs (l.filter fun ch=>decide (g ch.id=0))):=by
 refine qE rfl zrd ?_
 show Wp cfg (Tryz.f128.body.getD .skip) (L::(.fn (.func 129) [] [.ref p 0 0])::uZ (uZ ((.tup [])::(.tup [])::[]))) S [] _
 unfold uZ
 conv=>arg 2; whnf
 rw [zO]
 have hln:zI Tryz.prog S .len [74] [L]=some (.val (.d (.int .i64 (l.length:Int))) S 0):=by rw [kE u119 hL,hl.1]
 simp (maxSteps:=1000000) (disch:=first|assumption|omega|rfl) only [↓gp,gc,Nat.reduceAdd,hln]
 refine zuo p m g S hp hm L es l hL hl hes n last hlast hok _ l.length 0 S (.ts []) [] _ _ _ _ _ _ _ _ _ _ _ _ _ _ _ _ _ _ _ rfl (Nat.zero_le _) Keep.refl (fun j _=>NotAt.ts) (.inl ⟨rfl,rfl⟩) ⟨rfl,fun i e ch he=>by simp at he⟩ ?_
 intro S2 v5 fs i' g0 g2 g3 g4 g6 g7 gF gD gB gC gA gE gL gM gG gJ gN gI gH hK hN ho hc
 have ho1:=qG ho
 simp (maxSteps:=1000000) (disch:=first|assumption|omega|rfl) only [↓gp,gc,Nat.reduceAdd]
 exact ⟨rfl,_,rfl,hK,v5,fs,rfl,ho,hc⟩
def inG (l:List Int):Int→Int:=fun n=>if n ∈ l then 1 else 0
theorem zfy {l:List Int} {k:Int}:updG (inG l) k 1=inG (l ++ [k]):=by
 funext n
 unfold updG inG
 by_cases e:n=k
 ·rw [if_pos e,if_pos (by rw [e]; simp)]
 ·rw [if_neg e]
  by_cases h:n ∈ l
  ·rw [if_pos h,if_pos (List.mem_append_left _ h)]
  ·rw [if_neg h,if_neg (by simp [h,e])]
theorem zvs (S0:zA) (p m:Nat) (hp:S0.length ≤ p) (hmm:S0.length ≤ m) (hpm:p ≠ m) (v9:V) (ids:List Int) (hv:OwnS S0 v9 3 (zU ids)) (hl:ids.length ≤ 300000) (L:V) (R:Post) :
 ∀ (k i:Nat) (S:zA) (g1 g2 g3 g4 g6 g7 g8 gD gB gC gA gE gL gM gG gJ:V),ids.length - i=k→i ≤ ids.length→Keep S0 S→S[p]? = some (.row [.mr m] 186)→MG S m (inG (ids.take i)) →
 (∀ S i' g1 g2 g3 g4 g6 g7 g8 gD gB gC gA gE gL gM gG gJ,Keep S0 S→S[p]? = some (.row [.mr m] 186)→MG S m (inG ids)→R (.exit 0) (L::g1::g2::g3::g4::(.ref p 0 0)::g6::g7::g8::v9::(.d (.int .i64 (ids.length:Int)))::i'::gD::gB::gC::gA::gE::gL::gM::gG::gJ::[]) S []) →
 Wp cfg (.loop (lpOf (Tryz.f89.body.getD .skip) 0)) (L::g1::g2::g3::g4::(.ref p 0 0)::g6::g7::g8::v9::(.d (.int .i64 (ids.length:Int)))::(.d (.int .i64 (i:Int)))::gD::gB::gC::gA::gE::gL::gM::gG::gJ::[]) S [] R:=by
 intro k
 induction k with
 | zero =>
  intro i S g1 g2 g3 g4 g6 g7 g8 gD gB gC gA gE gL gM gG gJ hk hi hK hr hm hR
  have hie:i=ids.length:=by omega
  subst hie
  rw [List.take_length] at hm
  rw [zO]
  refine zN ?_
  conv=>arg 2; whnf
  simp (maxSteps:=1000000) (disch:=first|assumption|omega|rfl) only [↓gp,gc,Nat.reduceAdd]
  exact hR _ _ _ _ _ _ _ _ _ _ _ _ _ _ _ _ _ _ hK hr hm
 | succ k ih =>
  intro i S g1 g2 g3 g4 g6 g7 g8 gD gB gC gA gE gL gM gG gJ hk hi hK hr hm hR
  have hlt:i < ids.length:=by omega
  have h3:IntKind.i64.wrap ((i:Int) + 1)=((i + 1:Nat):Int):=by rw [wrap64 (by omega)]; omega
  obtain ⟨id,hix,hre,_⟩:=kJ Tryz.underlying22 s3z (hK.own hv) (i:=i) (by rw [zY]; exact hlt)
  have hre:rowE S id i=some (.d (.int .i64 ids[i])):=by rw [hre]; simp [zU]
  have hrp:=zD (e:=186) hr
  obtain ⟨o,ho,hm2,_⟩:=hm.put ids[i] 1
  rw [zO]
  refine zN ?_
  conv=>arg 2; whnf
  simp (maxSteps:=1000000) (disch:=first|assumption|omega|rfl) only [↓gp,gc,Nat.reduceAdd,hix,hre,ld3r,hrp,zpg,ho,h3]
  refine ih (i + 1) _ _ _ _ _ _ _ _ _ _ _ _ _ _ _ _ _ (by omega) (by omega) (hK.set hmm) (by rw [List.getElem?_set_ne (Ne.symm hpm)]; exact hr) ?_ hR
  rw [jY hlt,← zfy]
  exact hm2
theorem z9s (S:zA) (L:V) (es:List V) (l:List Chg) (hL:OwnS S L 80 es) (hl:ChgsV S es l) (hes:es.length ≤ 150000) (n last:Nat) (hlast:last ≤ 100000) (hok : ∀ ch ∈ l,z69 n last ch) (v9:V) (ids:List Int) (hv:OwnS S v9 3 (zU ids)) (hidl:ids.length ≤ 300000) :
  EvS cfg 89 [L,v9] S (fun o S'=>Keep S S' ∧ ∃ v fs,o = .ret v∧OwnS S' v 80 fs∧ChgsV S' fs (l.filter fun ch=>decide (ch.id ∉ ids))):=by
 refine qE rfl zzk ?_
 show Wp cfg (Tryz.f89.body.getD .skip) (L::v9::uZ ((.tup [])::(.tup [])::(.tup [])::(.tup [])::(.tup [])::(.tup [])::(.tup [])::(.tup [])::(.tup [])::[])) S [] _
 unfold uZ
 conv=>arg 2; whnf
 rw [zO]
 generalize ha:S.length=a
 have hln : ∀ s,zI Tryz.prog (S ++ s) .len [22] [v9]=some (.val (.d (.int .i64 (ids.length:Int))) (S ++ s) 0):=fun s=>by rw [kE Tryz.underlying22 ((Keep.refl.app (l:=s)).own hv),zY]
 have hL1:=qG hL
 simp (maxSteps:=1000000) (disch:=first|assumption|omega|rfl) only [↓gp,gc,Nat.reduceAdd,↓z1k,z178,zwl,List.append_assoc,List.length_append,List.length_cons,List.length_nil,ha,rA1 ha,pA1 ha,hln]
 have h0:MG (S ++ [Ob.mp [] 0,Ob.row [V.mr a] 186]) a (inG (ids.take 0)):=by
  have:=MG.nil (S:=S ++ [Ob.mp [] 0,Ob.row [V.mr a] 186]) (m:=a) (c:=0) (by rw [List.getElem?_append_right (by omega),ha,Nat.sub_self]; rfl)
  have e:inG (ids.take 0)=fun _=>0:=by funext n; simp [inG]
  rw [e]; exact this
 refine zvs S (a + 1) a (by omega) (by omega) (by omega) v9 ids hv hidl L _ ids.length 0 _ _ _ _ _ _ _ _ _ _ _ _ _ _ _ _ _ rfl (Nat.zero_le _) Keep.refl.app (by rw [List.getElem?_append_right (by omega),ha,Nat.add_sub_cancel_left]; rfl) h0 ?_
 intro S2 i' g1 g2 g3 g4 g6 g7 g8 gD gB gC gA gE gL gM gG gJ hK hr hm
 obtain ⟨o,S3,⟨hK3,v,fs,rfl,ho,hc⟩,hE⟩:=qC (zo2 S2 (a + 1) a _ hr hm L es l (hK.own hL) (hl.keep hK) hes n last hlast hok)
 have hE:=fun {ops dst k T F Q}=>zF (ops:=ops) (dst:=dst) (l:=k) (T:=T) (F:=F) (Q:=Q) rfl hE
 have ho1:=qG ho
 simp (maxSteps:=1000000) (disch:=first|assumption|omega|rfl) only [↓gp,gc,Nat.reduceAdd,jM,mfWi,zjc,hL1,hE,zxq]
 refine ⟨rfl,_,rfl,hK.trans hK3,v,fs,rfl,ho,?_⟩
 have e:(l.filter fun ch=>decide (inG ids ch.id=0))=l.filter fun ch=>decide (ch.id ∉ ids):=by
  congr 1
  funext ch
  unfold inG
  by_cases h:ch.id ∈ ids <;> simp [h]
 rw [← e]; exact hc
theorem mfIm {S:zA} {a:Nat}:mfS (.func 143) S [] [.ref a 0 0]=some (.val (.fn (.func 143) [] [.ref a 0 0]) S 0):=z15 rfl
theorem cvIm {n:Int} {p:Nat}:cvV Tryz.prog [.d (.int .i64 n)] (.fn (.func 143) [] [.ref p 0 0])=some (.enter 143 [.d (.int .i64 n),.ref p 0 0]):=zhl rfl zsz
theorem zx0 (S:zA) (n:Int) (p m:Nat) (g:Int→Int) (hp:S[p]? = some (.row [.mr m] 186)) (hm:MG S m g):EvS cfg 143 [.d (.int .i64 n),.ref p 0 0] S (fun o S'=>S'=S∧o = .ret (.d (.bool (decide (g n=1))))):=by
 refine qE rfl zu4 ?_
 show Wp cfg (Tryz.f143.body.getD .skip) ((.d (.int .i64 n))::(.ref p 0 0)::(.tup [])::(.tup [])::(.tup [])::(.tup [])::(.tup [])::(.tup [])::[]) S [] _
 conv=>arg 2; whnf
 rw [zO]
 have hr:=zD (e:=186) hp
 have hlk:=hm.look n
 simp (maxSteps:=1000000) (disch:=first|assumption|omega|rfl) only [↓gp,gc,Nat.reduceAdd,hr,zpg,hlk]
 exact ⟨rfl,_,rfl,rfl,rfl⟩
def rolL (b:List UInt8) (l:List Chg) (no:Int) (ids:List Int):List UInt8:=seeL b (l.filter fun ch=>decide (ch.id ∈ ids)) no
theorem z0u {b:List UInt8} {no:Int} {l:List Chg} {ids:List Int} (hb:b.length=256) (h : ∀ ch ∈ l,kG ch.at_ ch.data):(rolL b l no ids).length=256:=z76 hb fun ch hch=>h ch (List.mem_filter.1 hch).1
theorem zc6 {b:List UInt8} {l:List Chg} {ch:Chg} {no:Int} {ids:List Int}:rolL b (l ++ [ch]) no ids=if ch.no=no∧ch.id ∈ ids then layB (rolL b l no ids) ch.at_.toNat ch.data else rolL b l no ids:=by
 unfold rolL
 rw [List.filter_append]
 by_cases h:ch.id ∈ ids
 ·have:([ch].filter fun ch=>decide (ch.id ∈ ids))=[ch]:=by simp [h]
  rw [this,z1a]
  by_cases h2:ch.no=no
  ·rw [if_pos h2,if_pos ⟨h2,h⟩]
  ·rw [if_neg h2,if_neg (fun hh=>h2 hh.1)]
 ·have:([ch].filter fun ch=>decide (ch.id ∈ ids))=[]:=by simp [h]
  rw [this,List.append_nil,if_neg (fun hh=>h hh.2)]
theorem zxo (no:Int) (ids:List Int) (p m a4 a8:Nat) (S0:zA) (hp:S0[p]? = some (.row [.mr m] 186)) (hm:MG S0 m (inG ids)) (b:List UInt8) (hb:b.length=256) (L:V) (es:List V) (l:List Chg) (hL:OwnS S0 L 80 es) (hl:ChgsV S0 es l) (hok : ∀ ch ∈ l,kG ch.at_ ch.data) (hes:es.length ≤ 1000000) (h48:a4 ≠ a8) (R:Post) :
 ∀ (k i:Nat) (S:zA) (u:V) (g0 g1 g5 g6 g7 g9 gK gC gA gE gL gM gG gJ gN gI gH gO gP gT gQ gU gR gS gV gW:V),l.length - i=k→i ≤ l.length→Keep S0 S→S0.length ≤ a4→S[a4]? = some (.row [u] 42)→S[a8]? = some (.row [blkV (zK 256)] 42)→IsB u (rolL b (l.take i) no ids) →
 (∀ S' u' i' g0 g1 g5 g6 g7 g9 gK gC gA gE gL gM gG gJ gN gI gH gO gP gT gQ gU gR gS gV gW,Keep S0 S'→S'[a4]? = some (.row [u'] 42)→S'[a8]? = some (.row [blkV (zK 256)] 42)→IsB u' (rolL b l no ids)→R (.exit 0) (g0::g1::(.d (.int .i64 no))::(.fn (.func 143) [] [.ref p 0 0])::(.ref a4 0 0)::g5::g6::g7::(.ref a8 0 0)::g9::gK::L::(.d (.int .i64 (l.length:Int)))::i'::gC::gA::gE::gL::gM::gG::gJ::gN::gI::gH::gO::gP::gT::gQ::gU::gR::gS::gV::gW::[]) S' []) →
 Wp cfg (.loop (lpOf (Tryz.f142.body.getD .skip) 0)) (g0::g1::(.d (.int .i64 no))::(.fn (.func 143) [] [.ref p 0 0])::(.ref a4 0 0)::g5::g6::g7::(.ref a8 0 0)::g9::gK::L::(.d (.int .i64 (l.length:Int)))::(.d (.int .i64 (i:Int)))::gC::gA::gE::gL::gM::gG::gJ::gN::gI::gH::gO::gP::gT::gQ::gU::gR::gS::gV::gW::[]) S [] R:=by
 intro k
 have hll:=hl.1
 induction k with
 | zero =>
  intro i S u g0 g1 g5 g6 g7 g9 gK gC gA gE gL gM gG gJ gN gI gH gO gP gT gQ gU gR gS gV gW hk hi hK ha7 hS hS8 hu hR
  have hie:i=l.length:=by omega
  subst hie
  rw [List.take_length] at hu
  rw [zO]
  refine zN ?_
  conv=>arg 2; whnf
  simp (maxSteps:=1000000) (disch:=first|assumption|omega|rfl) only [↓gp,gc,Nat.reduceAdd]
  exact hR _ _ _ _ _ _ _ _ _ _ _ _ _ _ _ _ _ _ _ _ _ _ _ _ _ _ _ _ _ hK hS hS8 hu
 | succ k ih =>
  intro i S u g0 g1 g5 g6 g7 g9 gK gC gA gE gL gM gG gJ gN gI gH gO gP gT gQ gU gR gS gV gW hk hi hK ha7 hS hS8 hu hR
  have hlt:i < l.length:=by omega
  have hlt2:i < es.length:=by omega
  obtain ⟨id,hix,hre,_⟩:=kJ u119 s122 (hK.own hL) hlt2
  obtain ⟨dv,nv,he,hd5,hn3⟩:=hl.2 i es[i] l[i] (List.getElem?_eq_getElem hlt2) (List.getElem?_eq_getElem hlt)
  rw [he] at hre
  have hpk:=hok l[i] (List.getElem_mem hlt)
  have h3:IntKind.i64.wrap ((i:Int) + 1)=((i + 1:Nat):Int):=by rw [wrap64 (by omega)]; omega
  have hsl:=z0u (no:=no) (ids:=ids) hb (l:=l.take i) (fun ch hch=>hok ch (List.mem_of_mem_take hch))
  have hsn:rolL b (l.take (i + 1)) no ids=if l[i].no=no∧l[i].id ∈ ids then layB (rolL b (l.take i) no ids) l[i].at_.toNat l[i].data else rolL b (l.take i) no ids:=by
   rw [jY hlt]
   exact zc6
  have hkx:Keep S (S ++ [.row [.agg [.d (.int .i64 l[i].id),.d (.int .i64 l[i].no),.d (.int .i64 l[i].at_),dv,nv]] 80]):=Keep.refl.app
  have hk0:=hK.trans hkx
  obtain ⟨o,S2,⟨rfl,rfl⟩,hE⟩:=qC (zx0 _ l[i].id p m _ (hk0 _ _ hp) (hm.keep hk0))
  have hE:=fun {ops dst k T F Q}=>zF (ops:=ops) (dst:=dst) (l:=k) (T:=T) (F:=F) (Q:=Q) rfl hE
  have hcv:=cvIm (n:=l[i].id) (p:=p)
  generalize ha:S.length=a
  have hal:=zL hS
  have hr7 : ∀ o,rowE (S ++ [o]) a4 0=some u:=fun o=>zD (e:=42) (by rw [List.getElem?_append_left hal]; exact hS)
  have hp7 : ∀ o y,jJ (S ++ [o]) a4 0 y=some (S.set a4 (.row [y] 42) ++ [o]):=fun o y=>by
   rw [qH (x:=u) (e:=42) (by rw [List.getElem?_append_left hal]; exact hS),List.set_append_left _ _ hal]
  have hld:=bt42.load hu hsl
  have hu1:=hu.one
  have hcl:=fun {ops dst k T F Q}=>zdc (ops:=ops) (dst:=dst) (k:=k) (T:=T) (F:=F) (Q:=Q) (S:=S ++ [.row [.agg [.d (.int .i64 l[i].id),.d (.int .i64 l[i].no),.d (.int .i64 l[i].at_),dv,nv]] 80]) hu hsl ((Keep.app hK).own hd5) hpk
  have hst:=bt42.store (v:= .d (blkD (layB (rolL b (l.take i) no ids) l[i].at_.toNat l[i].data))) wA (by obtain ⟨_,_,p3,p4⟩:=hpk; rw [kM (by omega),hsl]) hu hsl
  rw [zO]
  refine zN ?_
  conv=>arg 2; whnf
  by_cases hno:l[i].no=no
  ·have hde : ∀ i':Decidable (l[i].no=no),@decide (l[i].no=no) i'=true:=fun i'=>decide_eq_true hno
   by_cases hin:l[i].id ∈ ids
   ·rw [if_pos ⟨hno,hin⟩] at hsn
    have hg:inG ids l[i].id=1:=if_pos hin
    rw [decide_eq_true hg] at hE
    simp (maxSteps:=1000000) (disch:=first|assumption|omega|rfl) only [↓gp,gc,Nat.reduceAdd,↓wZ,hix,hre,z24,z122,z25,z3g,ha,rA0 ha,pA0 ha,z0d,z0b,z0o,z08,z0a,z1o,hde,hcv,hE,zsz,hr7,hp7,hld,hcl,hst,hu1,zsu,h3]
    refine ih (i + 1) _ (.d (blkD (layB (rolL b (l.take i) no ids) l[i].at_.toNat l[i].data))) _ _ _ _ _ _ _ _ _ _ _ _ _ _ _ _ _ _ _ _ _ _ _ _ _ _ (by omega) (by omega) (Keep.app (hK.set ha7)) ha7 ?_ ?_ (by rw [hsn]; exact wA) hR
    ·rw [List.getElem?_append_left (by rw [List.length_set]; exact hal),List.getElem?_set_self hal]
    ·rw [List.getElem?_append_left (by rw [List.length_set]; exact zL hS8),List.getElem?_set_ne h48]; exact hS8
   ·rw [if_neg (fun hh=>hin hh.2)] at hsn
    have hg:inG ids l[i].id ≠ 1:=by unfold inG; rw [if_neg hin]; decide
    rw [decide_eq_false hg] at hE
    simp (maxSteps:=1000000) (disch:=first|assumption|omega|rfl) only [↓gp,gc,Nat.reduceAdd,↓wZ,hix,hre,z24,z122,z25,z3g,ha,rA0 ha,pA0 ha,z0d,z0b,z0o,z08,z0a,z1o,hde,hcv,hE,zsz,h3]
    exact ih (i + 1) _ u _ _ _ _ _ _ _ _ _ _ _ _ _ _ _ _ _ _ _ _ _ _ _ _ _ _ (by omega) (by omega) (Keep.app hK) ha7 (hkx _ _ hS) (hkx _ _ hS8) (by rw [hsn]; exact hu) hR
  ·rw [if_neg (fun hh=>hno hh.1)] at hsn
   have hde : ∀ i':Decidable (l[i].no=no),@decide (l[i].no=no) i'=false:=fun i'=>decide_eq_false hno
   simp (maxSteps:=1000000) (disch:=first|assumption|omega|rfl) only [↓gp,gc,Nat.reduceAdd,↓wZ,hix,hre,z24,z122,z25,z3g,ha,rA0 ha,pA0 ha,z0b,z0o,z0a,z1o,hde,h3]
   exact ih (i + 1) _ u _ _ _ _ _ _ _ _ _ _ _ _ _ _ _ _ _ _ _ _ _ _ _ _ _ _ (by omega) (by omega) (Keep.app hK) ha7 (hkx _ _ hS) (hkx _ _ hS8) (by rw [hsn]; exact hu) hR
theorem zs7 (S:zA) (no:Int) (ids:List Int) (p m:Nat) (hp:S[p]? = some (.row [.mr m] 186)) (hm:MG S m (inG ids)) (u:V) (b:List UInt8) (hu:IsB u b) (hb:b.length=256) (L:V) (es:List V) (l:List Chg) (hL:OwnS S L 80 es) (hl:ChgsV S es l) (hok : ∀ ch ∈ l,kG ch.at_ ch.data) (hes:es.length ≤ 1000000) :
  EvS cfg 142 [u,L,.d (.int .i64 no),.fn (.func 143) [] [.ref p 0 0]] S (fun o S'=>Keep S S' ∧ ∃ v,o = .ret v∧IsB v (rolL b l no ids)):=by
 refine qE rfl zu1 ?_
 show Wp cfg (Tryz.f142.body.getD .skip) (u::L::(.d (.int .i64 no))::(.fn (.func 143) [] [.ref p 0 0])::uZ (uZ ((.tup [])::(.tup [])::(.tup [])::(.tup [])::(.tup [])::(.tup [])::(.tup [])::(.tup [])::(.tup [])::[]))) S [] _
 unfold uZ
 conv=>arg 2; whnf
 rw [zO]
 generalize ha:S.length=a
 have hft:=bt42.fits hu hb
 have hu1:=hu.one
 have hln : ∀ s,zI Tryz.prog (S ++ s) .len [74] [L]=some (.val (.d (.int .i64 (l.length:Int))) (S ++ s) 0):=fun s=>by rw [kE u119 ((Keep.refl.app (l:=s)).own hL),hl.1]
 simp (maxSteps:=1000000) (disch:=first|assumption|omega|rfl) only [↓gp,gc,Nat.reduceAdd,hft,z42,zf42,List.append_assoc,List.length_append,List.length_cons,List.length_nil,ha,hln]
 refine zxo no ids p m a (a + 1) S hp hm b hb L es l hL hl hok hes (by omega) _ l.length 0 _ u _ _ _ _ _ _ _ _ _ _ _ _ _ _ _ _ _ _ _ _ _ _ _ _ _ _ rfl (Nat.zero_le _) Keep.refl.app (by omega) (by rw [List.getElem?_append_right (by omega),ha,Nat.sub_self]; rfl) (by rw [List.getElem?_append_right (by omega),ha,Nat.add_sub_cancel_left]; rfl) (by rw [List.take_zero]; exact hu) ?_
 intro S2 u2 i' g0 g1 g5 g6 g7 g9 gK gC gA gE gL gM gG gJ gN gI gH gO gP gT gQ gU gR gS gV gW hK h4 h8 hu2
 have hl2:=z0u (no:=no) (ids:=ids) hb hok
 have hr4:=zD (e:=42) h4
 have hr8:=zD (e:=42) h8
 have hp8:=fun y=>qH (y:=y) (e:=42) h8
 have hld:=bt42.load hu2 hl2
 have l0:=z256
 have hst2:=bt42.store hu2 hl2 (w:=blkV (zK 256)) isB_v z256
 have hu21:=hu2.one
 simp (maxSteps:=1000000) (disch:=first|assumption|omega|rfl) only [↓gp,gc,Nat.reduceAdd,hr4,hr8,hld,hst2,hp8]
 have hl1:kN Tryz.prog (S2.set (a + 1) (.row [u2] 42)) 42 (.ref (a + 1) 0 0)=some u2:=(zJ (zD (e:=42) (List.getElem?_set_self (zL h8)))).trans hld
 exact ⟨rfl,_,z0t rfl hl1,hK.set (by omega),u2,rfl,hu2⟩
theorem zzs (S0:zA) (p m:Nat) (hp:S0.length ≤ p) (hmm:S0.length ≤ m) (hpm:p ≠ m) (v9:V) (ids:List Int) (hv:OwnS S0 v9 3 (zU ids)) (hl:ids.length ≤ 300000) (R:Post) :
 ∀ (k i:Nat) (S:zA) (g0 g1 g2 g3 g4 g5 g6 g7 g8 gK gF gD gB gC gA gG gJ gN gI gH gO gP gT gQ gU gR gS:V),ids.length - i=k→i ≤ ids.length→Keep S0 S→S[p]? = some (.row [.mr m] 186)→MG S m (inG (ids.take i)) →
 (∀ S i' (_11 _19 _20 _21 _22 _23 _24:V),Keep S0 S→S[p]? = some (.row [.mr m] 186)→MG S m (inG ids)→R (.exit 0) (g0::g1::g2::g3::g4::g5::g6::g7::g8::(.ref p 0 0)::gK::_11::gD::gB::gC::gA::v9::(.d (.int .i64 (ids.length:Int)))::i'::_19::_20::_21::_22::_23::_24::gP::gT::gQ::gU::gR::gS::[]) S []) →
 Wp cfg (.loop (lpOf (Tryz.f110.body.getD .skip) 0)) (g0::g1::g2::g3::g4::g5::g6::g7::g8::(.ref p 0 0)::gK::gF::gD::gB::gC::gA::v9::(.d (.int .i64 (ids.length:Int)))::(.d (.int .i64 (i:Int)))::gG::gJ::gN::gI::gH::gO::gP::gT::gQ::gU::gR::gS::[]) S [] R:=by
 intro k
 induction k with
 | zero =>
  intro i S g0 g1 g2 g3 g4 g5 g6 g7 g8 gK gF gD gB gC gA gG gJ gN gI gH gO gP gT gQ gU gR gS hk hi hK hr hm hR
  have hie:i=ids.length:=by omega
  subst hie
  rw [List.take_length] at hm
  rw [zO]
  refine zN ?_
  conv=>arg 2; whnf
  simp (maxSteps:=1000000) (disch:=first|assumption|omega|rfl) only [↓gp,gc,Nat.reduceAdd]
  exact hR _ _ _ _ _ _ _ _ _ hK hr hm
 | succ k ih =>
  intro i S g0 g1 g2 g3 g4 g5 g6 g7 g8 gK gF gD gB gC gA gG gJ gN gI gH gO gP gT gQ gU gR gS hk hi hK hr hm hR
  have hlt:i < ids.length:=by omega
  have h3:IntKind.i64.wrap ((i:Int) + 1)=((i + 1:Nat):Int):=by rw [wrap64 (by omega)]; omega
  obtain ⟨id,hix,hre,_⟩:=kJ Tryz.underlying22 s3z (hK.own hv) (i:=i) (by rw [zY]; exact hlt)
  have hre:rowE S id i=some (.d (.int .i64 ids[i])):=by rw [hre]; simp [zU]
  have hrp:=zD (e:=186) hr
  obtain ⟨o,ho,hm2,_⟩:=hm.put ids[i] 1
  rw [zO]
  refine zN ?_
  conv=>arg 2; whnf
  simp (maxSteps:=1000000) (disch:=first|assumption|omega|rfl) only [↓gp,gc,Nat.reduceAdd,hix,hre,ld3r,hrp,zpg,ho,h3]
  refine ih (i + 1) _ _ _ _ _ _ _ _ _ _ _ _ _ _ _ _ _ _ _ _ _ _ _ _ _ _ _ _ (by omega) (by omega) (hK.set hmm) (by rw [List.getElem?_set_ne (Ne.symm hpm)]; exact hr) ?_ hR
  rw [jY hlt,← zfy]
  exact hm2
theorem z4r {S:zA} {v:V} {e f:TypeId} {xs ys:List V} {i:Nat} {o:Ob} (h:OwnS S v e xs) (hi:S[i]? = some (.row ys f)) (he:e ≠ f):OwnS (S.set i o) v e xs:=by
 rcases h with h | ⟨id,rfl,h2⟩
 ·exact .inl h
 ·refine .inr ⟨id,rfl,?_⟩
  rw [List.getElem?_set_ne (by rintro rfl; cases getE hi h2; exact he rfl)]
  exact h2
theorem zk7 (S:zA) (no:Int) (u:V) (b:List UInt8) (hu:IsB u b) (hb:b.length=256) (L:V) (es:List V) (l:List Chg) (hL:OwnS S L 80 es) (hl:ChgsV S es l) (hes:es.length ≤ 150000) (n last:Nat) (hlast:last ≤ 100000) (hok : ∀ ch ∈ l,z69 n last ch) (hids:l.Pairwise (fun a b=>a.id < b.id)) :
  EvS cfg 110 [u,L,.d (.int .i64 no)] S (fun o S'=>Keep S S' ∧ ∃ v w ids,o = .ret (.tup [v,w])∧IsB v (rolL b l no ids)∧OwnS S' w 3 (zU ids)∧ids.length ≤ l.length∧RdOk l no l.length ids):=by
 refine qE rfl zr8 ?_
 show Wp cfg (Tryz.f110.body.getD .skip) (u::L::(.d (.int .i64 no))::uZ (uZ ((.tup [])::(.tup [])::(.tup [])::(.tup [])::(.tup [])::(.tup [])::(.tup [])::(.tup [])::[]))) S [] _
 unfold uZ
 conv=>arg 2; whnf
 rw [zO]
 generalize ha:S.length=a
 have hft:=bt42.fits hu hb
 have hu1:=hu.one
 have hL1:=qG hL
 have hk0:Keep S (S ++ [.row [u] 42,.row [blkV (zK 256)] 42]):=Keep.refl.app
 obtain ⟨o,S2,⟨hK2,v8,ids,rfl,hv8,hidl,hrd⟩,hE⟩:=qC (zop no (S ++ [.row [u] 42,.row [blkV (zK 256)] 42]) L es l (hk0.own hL) (hl.keep hk0) hes n last hlast hok hids)
 have hE:=fun {ops dst k T F Q}=>zF (ops:=ops) (dst:=dst) (l:=k) (T:=T) (F:=F) (Q:=Q) rfl hE
 have hK02:=hk0.trans hK2
 have h8:=qG hv8
 have hln : ∀ s,zI Tryz.prog (S2 ++ s) .len [22] [v8]=some (.val (.d (.int .i64 (ids.length:Int))) (S2 ++ s) 0):=fun s=>by rw [kE Tryz.underlying22 ((Keep.refl.app (l:=s)).own hv8),zY]
 generalize ha2:S2.length=a2
 simp (maxSteps:=1000000) (disch:=first|assumption|omega|rfl) only [↓gp,gc,Nat.reduceAdd,↓z1k,hft,z42,zf42,z178,zwl,List.append_assoc,List.length_append,List.length_cons,List.length_nil,ha,hL1,hE,zyi,h8,ha2,rA1 ha2,pA1 ha2,hln]
 have h0:MG (S2 ++ [Ob.mp [] 0,Ob.row [V.mr a2] 186]) a2 (inG (ids.take 0)):=by
  have:=MG.nil (S:=S2 ++ [Ob.mp [] 0,Ob.row [V.mr a2] 186]) (m:=a2) (c:=0) (by rw [List.getElem?_append_right (by omega),ha2,Nat.sub_self]; rfl)
  have e:inG (ids.take 0)=fun _=>0:=by funext n; simp [inG]
  rw [e]; exact this
 have hll:=hl.1
 refine zzs S2 (a2 + 1) a2 (by omega) (by omega) (by omega) v8 ids hv8 (by omega) _ ids.length 0 _ _ _ _ _ _ _ _ _ _ _ _ _ _ _ _ _ _ _ _ _ _ _ _ _ _ _ _ rfl (Nat.zero_le _) Keep.refl.app (by rw [List.getElem?_append_right (by omega),ha2,Nat.add_sub_cancel_left]; rfl) h0 ?_
 intro S3 i' gF gG gJ gN gI gH gO hK3 hr hm
 have hK03:=hK02.trans hK3
 obtain ⟨o,S4,⟨hK4,v,rfl,hv⟩,hE4⟩:=qC (zs7 S3 no ids (a2 + 1) a2 hr hm u b hu hb L es l (hK03.own hL) (hl.keep hK03) (fun ch hch=>(hok ch hch).1) (by omega))
 have hE4:=fun {ops dst k T F Q}=>zF (ops:=ops) (dst:=dst) (l:=k) (T:=T) (F:=F) (Q:=Q) rfl hE4
 have hlv:=z0u (no:=no) (ids:=ids) hb (fun ch hch=>(hok ch hch).1)
 have hra:S3[a]? = some (.row [u] 42):=hK3 _ _ (hK2 _ _ (by rw [List.getElem?_append_right (by omega),ha,Nat.sub_self]; rfl))
 have hrb:S4[a + 1]? = some (.row [blkV (zK 256)] 42):=hK4 _ _ (hK3 _ _ (hK2 _ _ (by rw [List.getElem?_append_right (by omega),ha,Nat.add_sub_cancel_left]; rfl)))
 have hr4:=zD (e:=42) hra
 have hr8:=zD (e:=42) hrb
 have hp8:=fun y=>qH (y:=y) (e:=42) hrb
 have hld:=bt42.load hu hb
 have l0:=z256
 have hst2:=bt42.store hv hlv (w:=blkV (zK 256)) isB_v z256
 have hv1:=hv.one
 simp (maxSteps:=1000000) (disch:=first|assumption|omega|rfl) only [↓gp,gc,Nat.reduceAdd,hr4,hld,hL1,jM,mfIm,zjc,hE4,zxk,hv1,hu1,hr8,hst2,hp8]
 have hl1:kN Tryz.prog (S4.set (a + 1) (.row [v] 42)) 42 (.ref (a + 1) 0 0)=some v:=(zJ (zD (e:=42) (List.getElem?_set_self (zL hrb)))).trans (bt42.load hv hlv)
 exact ⟨rfl,_,zll rfl hl1 rfl hv1 h8,(hK03.trans hK4).set (by omega),v,v8,ids,rfl,hv,z4r ((hK3.trans hK4).own hv8) hrb (by decide),hidl,hrd⟩
theorem zak : ∀ b:List UInt8,kX (b.map fun x=>.d (byD x)) (b.map fun x=>.d (byD x))=true
 | []=>rfl
 | x::r=>by
  have h:qR (.d (byD x)) (.d (byD x))=true:=by
   show jE (byD x) (byD x)=true
   exact z4u
  simp only [List.map_cons,kX,h,zak r,Bool.and_self]
theorem zbe {v:V} {b:List UInt8} (h:IsB v b):wU v v=true:=by
 rcases h with rfl | rfl
 ·exact z5c (n:=4) b
 ·exact zak b
theorem zte {P:Program} {S:zA} {T:List V} {a u1 u2:Tmp} {t:TypeId} {x v w1 w2:V} (h:T.getD a (.tup [])=x) (hl:kN P S t x=some v) (h1:T.getD u1 (.tup [])=w1) (h2:T.getD u2 (.tup [])=w2) (o0:v.one=true) (o1:w1.one=true) (o2:w2.one=true):qD P #[.cell a t,.tmp u1,.tmp u2] T S=some (.tup [v,w1,w2]):=by
 simp only [qD,allO,jT,h,hl,h1,h2,List.all_cons,List.all_nil,o0,o1,o2,Bool.and_self,if_true]
theorem zii (S:zA) (no:Int) (u:V) (b:List UInt8) (hu:IsB u b) (hb:b.length=256) (L:V) (es:List V) (l:List Chg) (hL:OwnS S L 80 es) (hl:ChgsV S es l) (hes:es.length ≤ 150000) (n last:Nat) (hlast:last ≤ 100000) (hok : ∀ ch ∈ l,z69 n last ch) (hids:l.Pairwise (fun a b=>a.id < b.id)) :
  EvS cfg 70 [u,L,.d (.int .i64 no)] S (fun o S'=>Keep S S' ∧ ∃ v L' w fs ids,o = .ret (.tup [v,L',w])∧IsB v (rolL b l no ids)∧OwnS S' L' 80 fs∧ChgsV S' fs (l.filter fun ch=>decide (ch.id ∉ ids))∧OwnS S' w 3 (zU ids)∧ids.length ≤ l.length∧RdOk l no l.length ids):=by
 refine qE rfl zw3 ?_
 show Wp cfg (Tryz.f70.body.getD .skip) (u::L::(.d (.int .i64 no))::uZ (uZ [])) S [] _
 unfold uZ
 conv=>arg 2; whnf
 rw [zO]
 generalize ha:S.length=a
 have hft:=bt42.fits hu hb
 have hu1:=hu.one
 have hL1:=qG hL
 have hll:=hl.1
 have hldu:=bt42.load hu hb
 have hk0:Keep S (S ++ [.row [u] 42,.row [blkV (zK 256)] 42]):=Keep.refl.app
 obtain ⟨o,S1,⟨hK1,v,w,ids,rfl,hv,hw,hidl,hrd⟩,hE⟩:=qC (zk7 (S ++ [.row [u] 42,.row [blkV (zK 256)] 42]) no u b hu hb L es l (hk0.own hL) (hl.keep hk0) hes n last hlast hok hids)
 have hE:=fun {ops dst k T F Q}=>zF (ops:=ops) (dst:=dst) (l:=k) (T:=T) (F:=F) (Q:=Q) rfl hE
 have hK01:=hk0.trans hK1
 have hlv:=z0u (no:=no) (ids:=ids) hb (fun ch hch=>(hok ch hch).1)
 have hv1:=hv.one
 have hw1:=qG hw
 have l0:=z256
 have hst:=bt42.store hv hlv (w:=blkV (zK 256)) isB_v z256
 have hld:=bt42.load hv hlv
 have hk2:Keep S1 (S1 ++ [.row [v] 42]):=Keep.refl.app
 have hK02:=hK01.trans hk2
 obtain ⟨o,S3,⟨hK3,L',fs,rfl,hL',hc'⟩,hE3⟩:=qC (z9s (S1 ++ [.row [v] 42]) L es l (hK02.own hL) (hl.keep hK02) hes n last hlast hok w ids (hk2.own hw) (by omega))
 have hE3:=fun {ops base K ws cs i dst T}=>jQ (ops:=ops) (base:=base) (K:=K) (ws:=ws) (cs:=cs) (i:=i) (dst:=dst) (T:=T) rfl hE3
 have hL'1:=qG hL'
 generalize ha1:S1.length=a1
 simp (maxSteps:=1000000) (disch:=first|assumption|omega|rfl) only [↓gp,gc,Nat.reduceAdd,hft,z42,zf42,List.append_assoc,List.length_append,List.length_cons,List.length_nil,ha,rA0 ha,hldu,hu1,hL1,hE,zyt,hv1,hw1,ha1,rA0 ha1,pA0 ha1,hst,z256]
 have hr3:S3[a1]? = some (.row [v] 42):=hK3 _ _ (by rw [List.getElem?_append_right (by omega),ha1,Nat.sub_self]; rfl)
 have hrb:S3[a + 1]? = some (.row [blkV (zK 256)] 42):=hK3 _ _ (hk2 _ _ (hK1 _ _ (by rw [List.getElem?_append_right (by omega),ha,Nat.add_sub_cancel_left]; rfl)))
 have hr8:=zD (e:=42) hrb
 have hp8:=fun y=>qH (y:=y) (e:=42) hrb
 have hsm:=zbe hv
 refine qT (is:=[0,1,2,4,3,5,6,7]) (h:=0) (by kernel_rfl) (by kernel_rfl) ?_
 simp (maxSteps:=1000000) (disch:=first|assumption|omega|rfl) only [List.replicate_zero,eq_self,gw,ga,Nat.reduceAdd,↓gq,vso,List.append_nil,rA0 ha1,hld,hL1,hw1,hE3,bo89,hL'1,hr8,hp8,hst,hv1]
 refine ⟨qK rfl (by kernel_rfl) rfl (z02 ((zJ (zD (e:=42) hr3)).trans hld)) hsm qB,zP (by kernel_rfl) qB,by kernel_rfl,?_⟩
 simp (maxSteps:=1000000) (disch:=first|assumption|omega|rfl) only [↓gp,gc,Nat.reduceAdd]
 have hl1:kN Tryz.prog (S3.set (a + 1) (.row [v] 42)) 42 (.ref (a + 1) 0 0)=some v:=(zJ (zD (e:=42) (List.getElem?_set_self (zL hrb)))).trans hld
 exact ⟨rfl,_,zte rfl hl1 rfl rfl hv1 hL'1 hw1,(hK02.trans hK3).set (by omega),v,L',w,fs,ids,rfl,hv,z4r hL' hrb (by decide),hc'.mono (fun _ _ hh=>z4r hh hrb (by decide)) (fun _ _ hh=>z4r hh hrb (by decide)),z4r ((hk2.trans hK3).own hw) hrb (by decide),hidl,hrd⟩
def CS.flush (C:CS) (k:Nat) (ids:List Int):CS:=⟨C.img.set k (rolL (C.img.getD k []) C.list (k:Int) ids),C.list.filter (fun ch=>decide (ch.id ∉ ids)),C.last⟩
def zb4 (C C':CS) (no:Int):Prop:=(C'=C ∧ ∀ c,C.list[0]? = some c→c.no ≠ no) ∨ ∃ (k:Nat) (ids:List Int),no=k∧k < C.img.length∧RdOk C.list (k:Int) C.list.length ids∧C'=C.flush k ids
theorem CS.Ok.flush {C:CS} (h:C.Ok) {k:Nat} (hk:k < C.img.length) {ids:List Int}:(C.flush k ids).Ok:=by
 have hb:(C.img.getD k []).length=256:=by
  rw [List.getD_eq_getElem?_getD,List.getElem?_eq_getElem hk]
  exact h.len _ (List.getElem_mem hk)
 refine ⟨?_,?_,?_,?_,h.last⟩
 ·show (C.img.set _ _).length ≤ 512
  rw [List.length_set]; exact h.n
 ·intro b hm
  rcases List.mem_or_eq_of_mem_set hm with hm | rfl
  ·exact h.len b hm
  ·exact z0u hb fun ch hch=>(h.chs ch hch).1
 ·intro ch hch
  have:=h.chs ch (List.mem_filter.1 hch).1
  show z69 (C.img.set _ _).length _ _
  rw [List.length_set]; exact this
 ·exact h.ids.sublist List.filter_sublist
theorem za5 {f g:Int→Option V} (h : ∀ x,(f x).isSome=(g x).isSome) : ∀ n,cntI f n=cntI g n
 | 0=>rfl
 | n + 1=>by unfold cntI; rw [za5 h n,h]
theorem znm {S:zA} {v:V} {e:TypeId} {xs:List V} {i:Nat} {o:Ob} (h:OwnS S v e xs) (hi:S[i]? = some .hole):OwnS (S.set i o) v e xs:=by
 rcases h with h | ⟨id,rfl,h2⟩
 ·exact .inl h
 ·refine .inr ⟨id,rfl,?_⟩
  rw [List.getElem?_set_ne (by rintro rfl; cases getE hi h2)]
  exact h2
theorem lc2' {d m:Nat} {L:V} {last:Int} {id n:Nat}:qW Tryz.prog 74 2 (.rs id 0 n) (cacV d m L last)=some (cacV d m (.rs id 0 n) last):=by kernel_rfl
theorem lc2n {d m:Nat} {L:V} {last:Int}:qW Tryz.prog 74 2 (.ts []) (cacV d m L last)=some (cacV d m (.ts []) last):=by kernel_rfl
theorem sc2g {S:zA} {d m:Nat} {L v:V} {xs:List V} {e:TypeId} {last:Int} (h:OwnS S v e xs):qW Tryz.prog 74 2 v (cacV d m L last)=some (cacV d m v last):=by
 rcases z1z h with rfl | ⟨i,k,rfl⟩
 ·exact lc2n
 ·exact lc2'
theorem zph {P:Program} {S:zA} {T:List V} {dst:Option Tmp} {ty:TypeId} {pos:String} {after:Array Edge} {g:Option (Nat × Bool)} {t:TypeId} {m k:Operand}:opV P S T ⟨dst,.mapEntry t m k,ty,pos,after,g⟩=(vE P S t (zC T m) (zC T k)).map fun r=>.val r.1 r.2 3:=rfl
theorem zoo {P:Program} {S:zA} {T:List V} {dst:Option Tmp} {ty:TypeId} {pos:String} {after:Array Edge} {g:Option (Nat × Bool)} {t:TypeId} {m k x:Operand}:opV P S T ⟨dst,.entryStore t m k x,ty,pos,after,g⟩=(kQ S (zC T m) (zC T k) (zC T x)).map fun S'=>.skip S' 3:=rfl
theorem zod {ty:TypeId} {pos:String} {after:Array Edge} {dst:Option Tmp} {g:Option (Nat × Bool)} {t:TypeId} {r k:Operand}:jP ⟨dst,.mapEntry t r k,ty,pos,after,g⟩=false:=rfl
theorem zoc {ty:TypeId} {pos:String} {after:Array Edge} {dst:Option Tmp} {g:Option (Nat × Bool)} {t:TypeId} {r k x:Operand}:jP ⟨dst,.entryStore t r k x,ty,pos,after,g⟩=false:=rfl
theorem zg7 (S:zA) (c r m:Nat) (C:CS) (h0:CacheAt S c r m C) (no:Int):EvS cfg 26 [.ref c 0 0,.d (.int .i64 no)] S (fun o S'=>FrC m r S S'∧o = .ret (.d (.int .i64 0)) ∧ ∃ C',CacheAt S' c r m C'∧zb4 C C' no):=by
 obtain ⟨d,L,es,vs,f,z,w,q,h,hq⟩:=h0
 refine qE rfl zwq ?_
 show Wp cfg (Tryz.f26.body.getD .skip) ((.ref c 0 0)::(.d (.int .i64 no))::uZ (uZ (uZ (uZ (uZ ((.tup [])::(.tup [])::(.tup [])::(.tup [])::(.tup [])::(.tup [])::(.tup [])::(.tup [])::[])))))) S [] _
 unfold uZ
 conv=>arg 2; whnf
 rw [zO]
 have hc0:rowE S c 0=some (cacV d m L C.last):=zD (e:=126) h.hc
 have hlk:=(h.hm.look zgs no).1
 generalize ha:S.length=a
 cases hf:f no with
 | none =>
  rw [hf] at hlk
  simp only [Option.getD_none,Option.isSome_none] at hlk
  have l0:=z256
  have hst:=bt42.store (v:=blkV (zK 256)) isB_v z256 (w:=blkV (zK 256)) isB_v z256
  simp (maxSteps:=1000000) (disch:=first|assumption|omega|rfl) only [↓gp,gc,Nat.reduceAdd,z45,z28,hc0,lc1,hlk,z42,zf42,ha,rA0 ha,pA0 ha,hst,wH,Bool.not_false]
  exact ⟨rfl,_,rfl,Frm.refl.app,rfl,C,⟨d,L,es,vs,f,z,w,q,h.keep Keep.refl.app,hq⟩,.inl ⟨rfl,fun ch hch e=>(by
   have:=h.kl ch (List.mem_of_getElem? hch)
   rw [e,hf] at this
   cases this)⟩⟩
 | some v =>
  rw [hf] at hlk
  simp only [Option.getD_some,Option.isSome_some] at hlk
  obtain ⟨k,b,rfl,hb,hvb⟩:=h.kn _ _ hf
  have hkl:k < C.img.length:=(List.getElem?_eq_some_iff.1 hb).1
  have hbl:=h.ok.len b (List.mem_of_getElem? hb)
  have l0:=z256
  have hst:=bt42.store hvb hbl (w:=blkV (zK 256)) isB_v z256
  have hldv:=bt42.load hvb hbl
  have hv1:=hvb.one
  have hlast:=h.ok.last
  have hwq:=h.wq
  have hll:=h.lc.1
  have hk2:Keep S ((S ++ [.row [v] 42]) ++ [.hole,.hole,.hole,.hole,.hole,.hole,.hole,.hole,.hole,.hole,.hole,.hole,.hole,.hole,.hole]):=Keep.refl.app.app
  have h2:=h.keep hk2
  obtain ⟨o,S3,⟨hK3,v2,L',wv,fs,ids,rfl,hv2,hL',hc',hwv,hidl,hrd⟩,hE⟩:=qC (zii ((S ++ [.row [v] 42]) ++ [.hole,.hole,.hole,.hole,.hole,.hole,.hole,.hole,.hole,.hole,.hole,.hole,.hole,.hole,.hole]) (k:Int) v b hvb hbl L es C.list h2.lo h2.lc (by omega) C.img.length C.last hlast h.ok.chs h.ok.ids)
  have hE:=fun {ops base K ws cs i dst T}=>jQ (ops:=ops) (base:=base) (K:=K) (ws:=ws) (cs:=cs) (i:=i) (dst:=dst) (T:=T) rfl hE
  have hlv:=z0u (no:=(k:Int)) (ids:=ids) hbl (fun ch hch=>(h.ok.chs ch hch).1)
  have hL1:=qG h.lo
  have hL'1:=qG hL'
  have hw1:=qG hwv
  have hv21:=hv2.one
  have hst2:=bt42.store hv2 hlv (w:=blkV (zK 256)) isB_v z256
  have hK03:=hk2.trans hK3
  simp (maxSteps:=1000000) (disch:=first|assumption|omega|rfl) only [↓gp,gc,Nat.reduceAdd,z45,z28,hc0,lc1,hlk,z42,zf42,ha,rA0 ha,pA0 ha,hst,wH,Bool.not_true]
  have hc2 : ∀ l,rowE ((S ++ [.row [v] 42]) ++ l) c 0=some (cacV d m L C.last):=fun l=>zD (e:=126) ((Keep.refl.app.app (l:=l)) _ _ h.hc)
  have hr2 : ∀ l,rowE ((S ++ [.row [v] 42]) ++ l) a 0=some v:=fun l=>zD (e:=42) (by rw [List.append_assoc,List.getElem?_append_right (by omega),ha,Nat.sub_self]; rfl)
  have hk1:Keep S (S ++ [.row [v] 42]):=Keep.refl.app
  have hb1:(S ++ [Ob.row [v] 42]).length=a + 1:=by simp [ha]
  generalize S ++ [Ob.row [v] 42]=S1 at *
  have hh3:S3[a + 1 + 11]? = some .hole:=hK3 _ _ (by rw [← hb1,List.getElem?_append_right (by omega),Nat.add_sub_cancel_left]; rfl)
  have hh3l:=zL hh3
  have hra3:rowE (S3.set (a + 1 + 11) (.row [blkV (zK 256)] 42)) (a + 1 + 11) 0=some (blkV (zK 256)):=zD (e:=42) (List.getElem?_set_self hh3l)
  have hpa3 : ∀ y,jJ (S3.set (a + 1 + 11) (.row [blkV (zK 256)] 42)) (a + 1 + 11) 0 y=some (S3.set (a + 1 + 11) (.row [y] 42)):=fun y=>by
   rw [qH (e:=42) (List.getElem?_set_self hh3l),List.set_set]
  refine qT (is:=[0,1,2,3,4,5,6,7,8,9,10,11,12,13,14]) (h:=15) (by kernel_rfl) (by kernel_rfl) ?_
  simp (maxSteps:=1000000) (disch:=first|assumption|omega|rfl) only [List.replicate_zero,eq_self,gw,ga,Nat.reduceAdd,↓gq,vso,hc2,hr2,qQ,kD,z13,lc2,hldv,hL1,hv1,hE,bo70,hv21,hL'1,hw1,zbf z42 zf42,z80,hb1,hra3,hpa3,hst2]
  refine ⟨zP (by kernel_rfl) (zP (by kernel_rfl) qB),hh3,zP (by kernel_rfl) (zP (by kernel_rfl) qB),by kernel_rfl,?_⟩
  have hkA : ∀ {x:V} {e:TypeId} {xs:List V},OwnS S3 x e xs→OwnS (S3.set (a + 1 + 11) (.row [v2] 42)) x e xs:=fun ho=>znm ho hh3
  have hK04:Keep S (S3.set (a + 1 + 11) (.row [v2] 42)):=hK03.set (by omega)
  have hL'4:=hkA hL'
  have hc'4:=hc'.mono (fun _ _=>hkA) (fun _ _=>hkA)
  have hwv4:=hkA hwv
  have hr4:(S3.set (a + 1 + 11) (.row [v2] 42))[a + 1 + 11]? = some (.row [v2] 42):=List.getElem?_set_self hh3l
  generalize S3.set (a + 1 + 11) (.row [v2] 42)=S4 at *
  have hln:zI Tryz.prog S4 .len [22] [wv]=some (.val (.d (.int .i64 (ids.length:Int))) S4 0):=by rw [kE Tryz.underlying22 hwv4,zY]
  have h4:=h.keep hK04
  by_cases hz:ids.length=0
  ·have hde : ∀ i':Decidable ((ids.length:Int)=0),@decide ((ids.length:Int)=0) i'=true:=fun i'=>decide_eq_true (by omega)
   simp (maxSteps:=1000000) (disch:=first|assumption|omega|rfl) only [↓gp,gc,Nat.reduceAdd,hln,hde]
   exact ⟨rfl,_,rfl,Frm.keep hK04,rfl,C,⟨d,L,es,vs,f,z,w,q,h4,hq⟩,.inl ⟨rfl,fun ch hch e=>(by
    have:=hrd.2.2.2 (Nat.lt_of_le_of_lt (Nat.zero_le _) (List.getElem?_eq_some_iff.1 hch).1) ch hch e
    rw [List.length_eq_zero_iff.1 hz] at this
    cases this)⟩⟩
  ·have hde : ∀ i':Decidable ((ids.length:Int)=0),@decide ((ids.length:Int)=0) i'=false:=fun i'=>decide_eq_false (by omega)
   have hc4:=zD (e:=126) h4.hc
   have hra4:=zD (e:=42) hr4
   have hld2:=bt42.load hv2 hlv
   have hkv:k < vs.length:=by rw [h.il]; exact hkl
   obtain ⟨v0,b0,hv0l,hv0,hb0,hvb0,hbl0⟩:=h.imv hkl
   have hwr:=fun {ops base K ws cs i dst T}=>jQ (ops:=ops) (base:=base) (K:=K) (ws:=ws) (cs:=cs) (i:=i) (dst:=dst) (T:=T) rfl (z4j S4 d r vs z w q false k v2 v0 _ b0 h4.dk hkv hv2 hlv hv0 hvb0 hbl0 (by omega) h.zb (fun hh=>Bool.noConfusion hh))
   simp only [Bool.false_eq_true,if_false] at hwr
   simp (maxSteps:=1000000) (disch:=first|assumption|omega|rfl) only [↓gp,gc,Nat.reduceAdd,hln,hde]
   refine qT (is:=[0,1,2,3,4,5,6,7]) (h:=0) (by kernel_rfl) (by kernel_rfl) ?_
   simp (maxSteps:=1000000) (disch:=first|assumption|omega|rfl) only [List.replicate_zero,eq_self,gw,ga,Nat.reduceAdd,↓gq,vso,List.append_nil,hc4,hra4,qQ,kD,zeg,lc0,hld2,hv21,hwr,bo71]
   refine ⟨zP (by kernel_rfl) (zP (by kernel_rfl) qB),by kernel_rfl,?_⟩
   have hdr:d ≠ r:=fun e=>h4.dk.ne e.symm
   have hdl:=zL h4.dk.hd
   have hrl:=zL h4.dk.hr
   have hK5 : ∀ j o,S4[j]? = some o→j ≠ d→j ≠ r→(((S4.set d (.row [dskV r vs.length z false false ((w:Int) + 1) q] 135)).set r (.row (vs.set k v2) 42)) ++ [.row [.ref d 0 0] 60,.row [v2] 42,.row [.d (.int .i64 0)] 47])[j]? = some o:=fun j o hj n1 n2=>by
    rw [List.getElem?_append_left (by rw [List.length_set,List.length_set]; exact zL hj),List.getElem?_set_ne (Ne.symm n2),List.getElem?_set_ne (Ne.symm n1)]
    exact hj
   have hD5:DskAt (((S4.set d (.row [dskV r vs.length z false false ((w:Int) + 1) q] 135)).set r (.row (vs.set k v2) 42)) ++ [.row [.ref d 0 0] 60,.row [v2] 42,.row [.d (.int .i64 0)] 47]) d r (vs.set k v2) z false false ((w + 1:Nat):Int) q:=by
    refine ⟨?_,?_,h4.dk.ne⟩
    ·rw [List.getElem?_append_left (by rw [List.length_set,List.length_set]; exact hdl),List.getElem?_set_ne (Ne.symm hdr),List.getElem?_set_self hdl,List.length_set]
     have:((w + 1:Nat):Int)=(w:Int) + 1:=by omega
     rw [this]
    ·rw [List.getElem?_append_left (by rw [List.length_set,List.length_set]; exact hrl),List.getElem?_set_self (by rw [List.length_set]; exact hrl)]
   have hl5:S4.length ≤ (((S4.set d (Ob.row [dskV r vs.length z false false ((w:Int) + 1) q] 135)).set r (Ob.row (vs.set k v2) 42)) ++ [Ob.row [.ref d 0 0] 60,Ob.row [v2] 42,Ob.row [.d (.int .i64 0)] 47]).length:=by simp
   generalize ((S4.set d (Ob.row [dskV r vs.length z false false ((w:Int) + 1) q] 135)).set r (Ob.row (vs.set k v2) 42)) ++ [Ob.row [.ref d 0 0] 60,Ob.row [v2] 42,Ob.row [.d (.int .i64 0)] 47]=S5 at *
   have hra_d:a + 1 + 11 ≠ d:=by rintro rfl; have:=getE hr4 h4.dk.hd; simp at this
   have hra_r:a + 1 + 11 ≠ r:=by have:=zL h.dk.hr; omega
   have hc5':=hK5 _ _ h4.hc h4.cd h4.cr
   have hc5:=zD (e:=126) hc5'
   have hra5':=hK5 _ _ hr4 hra_d hra_r
   have hra5:=zD (e:=42) hra5'
   have hm5:MpI S5 m f:=by
    obtain ⟨l,kk,e1,e2⟩:=h4.hm
    exact ⟨l,kk,hK5 _ _ e1 h4.md h4.mr,e2⟩
   obtain ⟨n,hme,hes⟩:=hm5.entry zgs (k:Int) hf
   obtain ⟨oo,hes2,hm6,es',cc',hoo⟩:=hes S5 v2 rfl hv21
   have hc6':(S5.set m oo)[c]? = some (.row [cacV d m L C.last] 126):=by rw [List.getElem?_set_ne (Ne.symm h4.cm)]; exact hc5'
   have hc6:=zD (e:=126) hc6'
   have hpc6:=fun y=>qH (y:=y) (e:=126) hc6'
   have hscL:=sc2g (d:=d) (m:=m) (L:=L) (last:=(C.last:Int)) hL'4
   have hsm:=zbe hv2
   simp (maxSteps:=1000000) (disch:=first|assumption|omega|rfl) only [↓gp,gc,Nat.reduceAdd]
   refine qT (is:=[0,1,2,3,4,5,6,7,8,9,10,11,12,13]) (h:=0) (by kernel_rfl) (by kernel_rfl) ?_
   simp (maxSteps:=1000000) (disch:=first|assumption|omega|rfl) only [List.replicate_zero,eq_self,gw,ga,Nat.reduceAdd,↓gq,vso,List.append_nil,hc5,hra5,qQ,kD,z28,z13,lc1,hld2,hv21,zph,zoo,zod,zoc,hme,hes2,hc6,hpc6,hscL,hL'1]
   refine ⟨qK rfl (by kernel_rfl) rfl (z02 ((zJ hra5).trans hld2)) hsm (zP (by kernel_rfl) qB),zP (by kernel_rfl) (zP (by kernel_rfl) qB),zP (by kernel_rfl) (zP (by kernel_rfl) qB),by kernel_rfl,?_⟩
   simp (maxSteps:=1000000) (disch:=first|assumption|omega|rfl) only [↓gp,gc,Nat.reduceAdd]
   have hcl6:=zL hc6'
   have kp : ∀ j o,S4[j]? = some o→j ≠ d→j ≠ r→j ≠ m→j ≠ c→((S5.set m oo).set c (.row [cacV d m L' C.last] 126))[j]? = some o:=fun j o hj n1 n2 n3 n4=>by
    rw [List.getElem?_set_ne (Ne.symm n4),List.getElem?_set_ne (Ne.symm n3)]
    exact hK5 j o hj n1 n2
   have hc7:((S5.set m oo).set c (.row [cacV d m L' C.last] 126))[c]? = some (.row [cacV d m L' C.last] 126):=List.getElem?_set_self hcl6
   have hm7:MpI ((S5.set m oo).set c (.row [cacV d m L' C.last] 126)) m (updI f (k:Int) (some v2)):=hm6.keep (List.getElem?_set_ne h4.cm)
   have hd7:DskAt ((S5.set m oo).set c (.row [cacV d m L' C.last] 126)) d r (vs.set k v2) z false false ((w + 1:Nat):Int) q :=
    ⟨by rw [List.getElem?_set_ne h4.cd,List.getElem?_set_ne h4.md]; exact hD5.hd,by rw [List.getElem?_set_ne h4.cr,List.getElem?_set_ne h4.mr]; exact hD5.hr,hD5.ne⟩
   have hl7:S4.length ≤ ((S5.set m oo).set c (.row [cacV d m L' C.last] 126)).length:=by rw [List.length_set,List.length_set]; exact hl5
   generalize (S5.set m oo).set c (Ob.row [cacV d m L' C.last] 126)=S7 at *
   have own7 : ∀ {x:V} {e:TypeId} {xs:List V},(e ≠ 135∧e ≠ 42∧e ≠ 126)→OwnS S4 x e xs→OwnS S7 x e xs:=fun he ho=>by
    rcases ho with ho | ⟨id,e1,e2⟩
    ·exact .inl ho
    ·refine .inr ⟨id,e1,kp _ _ e2 ?_ ?_ ?_ ?_⟩
     ·rintro rfl; cases getE e2 h4.dk.hd; exact he.1 rfl
     ·rintro rfl; cases getE e2 h4.dk.hr; exact he.2.1 rfl
     ·rintro rfl; obtain ⟨_,_,e3,_⟩:=h4.hm; cases getE e2 e3
     ·rintro rfl; cases getE e2 h4.hc; exact he.2.2 rfl
   have hF:FrC m r S S7:=(Frm.keep hK04).trans ⟨hl7,fun j o hj hcm=>by
    refine kp j o hj ?_ ?_ ?_ ?_
    ·rintro rfl; have:=getE hj h4.dk.hd; subst this; cases hcm
    ·rintro rfl; have:=getE hj h4.dk.hr; subst this; simp [calm] at hcm
    ·rintro rfl; obtain ⟨_,_,e3,_⟩:=h4.hm; have:=getE hj e3; subst this; simp [calm] at hcm
    ·rintro rfl; have:=getE hj h4.hc; subst this; cases hcm⟩
   have hgd:C.img.getD k []=b:=by rw [List.getD_eq_getElem?_getD,hb]; rfl
   have hflt:(C.list.filter fun ch=>decide (ch.id ∉ ids)).length < C.list.length:=by
    obtain ⟨x,xs,hx⟩ : ∃ x xs,ids=x::xs:=by
     cases ids with
     | nil=>simp at hz
     | cons x xs=>exact ⟨x,xs,rfl⟩
    obtain ⟨ch,h1,h2,_⟩:=hrd.1 x (by rw [hx]; exact List.mem_cons_self)
    have h1:=List.mem_of_mem_take h1
    rcases Nat.lt_or_ge (C.list.filter fun ch=>decide (ch.id ∉ ids)).length C.list.length with hh | hh
    ·exact hh
    ·have hall:=List.filter_eq_self.1 (List.filter_sublist.eq_of_length (Nat.le_antisymm (List.length_filter_le ..) hh)) ch h1
     simp only [decide_eq_true_eq] at hall
     exact absurd (by rw [hx,← h2]; exact List.mem_cons_self) hall
   refine ⟨rfl,_,rfl,hF,rfl,C.flush k ids,⟨d,L',fs,vs.set k v2,updI f (k:Int) (some v2),z,w + 1,q,⟨hc7,hm7,hd7,h.zb,?_,?_,?_,own7 (by decide) hL'4,hc'4.mono (fun _ _=>own7 (by decide)) (fun _ _=>own7 (by decide)),?_,h.ok.flush hkl,fun ch hch=>(by
    unfold updI
    split
    ·rfl
    ·exact h.kl ch (List.mem_filter.1 hch).1),h.dr⟩,?_⟩,.inr ⟨k,ids,rfl,hkl,hrd,rfl⟩⟩
   ·show (vs.set k v2).length=(C.img.set k _).length
    rw [List.length_set,List.length_set]; exact h.il
   ·intro i x bb hx hbb
    have hbb:(C.img.set k (rolL (C.img.getD k []) C.list (k:Int) ids))[i]? = some bb:=hbb
    by_cases e:i=k
    ·subst e
     rw [List.getElem?_set_self (by rw [h.il]; exact hkl)] at hx
     rw [List.getElem?_set_self hkl] at hbb
     cases hx
     cases hbb
     rw [hgd]; exact hv2
    ·rw [List.getElem?_set_ne (Ne.symm e)] at hx hbb
     exact h.im i x bb hx hbb
   ·intro x u hx
    unfold updI at hx
    split at hx
    ·rename_i e
     cases hx
     refine ⟨k,_,e,List.getElem?_set_self hkl,?_⟩
     rw [hgd]; exact hv2
    ·rename_i e
     obtain ⟨k2,b2,e2,e3,e4⟩:=h.kn x u hx
     refine ⟨k2,b2,e2,?_,e4⟩
     show (C.img.set k _)[k2]? = some b2
     rw [List.getElem?_set_ne (by rintro rfl; exact e e2)]
     exact e3
   ·show w + 1 + (C.list.filter fun ch=>decide (ch.id ∉ ids)).length ≤ C.last + 100
    omega
   ·show q ≤ cntI (updI f (k:Int) (some v2)) (C.img.set k _).length + 1
    rw [List.length_set,za5 (g:=f) (fun x=>by
     unfold updI
     split
     ·rename_i e; rw [e,hf]; rfl
     ·rfl)]
    exact hq
theorem zpf {ops:Array Oper} {dst:Option Tmp} {k:List Oper} {T:List V} {S:zA} {F:Dfs} {Q:Post} {u:V} {b:List UInt8} {n:Int} (hu:IsB u b) (hb:b.length=256):WpR cfg ops dst k T S F Q (some (.enter 76 [u,.d (.int .i64 n)]))=WpL cfg ops k (putT T dst (.d (.bool (hasI b n)))) S F Q :=
 kT (ds:=[blkD b,.int .i64 n]) rfl (by simp only [allO,hu.frz (n:=10),zG]; rfl) (by rw [List.flatMap_cons,hu.frzIds]; rfl) (zqe b hb n)
theorem zgd {b:List UInt8} {n:Nat} (h:n < 2048):hasI b (n:Int)=hasB b n:=by
 unfold hasI
 rw [decide_eq_true ⟨by omega,by omega⟩,Bool.true_and,Int.toNat_natCast]
def frB (bm:List UInt8) (D i:Nat):List Nat:=(List.range i).filter fun n=>decide (D ≤ n) && !hasB bm n
theorem zga {bm:List UInt8} {D i:Nat} (hi:D ≤ i):frB bm D (i + 1)=frB bm D i ++ if hasB bm i then [] else [i]:=by
 unfold frB
 rw [List.range_succ,List.filter_append]
 congr 1
 cases h:hasB bm i <;> simp [h,hi]
theorem zu2 {bm:List UInt8} {D:Nat}:frB bm D D=[]:=by
 unfold frB
 rw [List.filter_eq_nil_iff]
 intro n hn
 have:=List.mem_range.1 hn
 simp; omega
theorem zf2 {bm:List UInt8} {D:Nat} : ∀ {k i:Nat},D ≤ i → ∃ t,frB bm D (i + k)=frB bm D i ++ t
 | 0,i,_=>⟨[],by simp⟩
 | k + 1,i,h=>by
  obtain ⟨t,ht⟩:=zf2 (k:=k) (i:=i) h
  exact ⟨t ++ _,by rw [← Nat.add_assoc,zga (by omega),ht,List.append_assoc]⟩
theorem zz2 (B c r m y a1 a2 A D:Nat) (l:Lay) (C:CS) (vv u:V) (bm:List UInt8) (hu:IsB u bm) (hbl:bm.length=256) (gg:Nat) (hvv:vv=kL l.blocks l.inodes l.merge gg) (g:FuncId) (caps:List V) (J:List Nat→zA→Prop) (more:Bool) (ha:AskF m r g caps A J more) (hBA:B ≤ A) (N:Nat) (hN:l.blocks=N) (hN2:N ≤ 512) (R:Post) (S0:zA) :
 ∀ (k i:Nat) (S:zA) (g2 g3 g7 g8 g9 gK gF gD gB gC gA gE gL gM gG gJ gN gI gH gO gP gT gQ gU gR gS gV gW gX gY gZ gh:V),N - i=k→D ≤ i→i ≤ N→CacheIn S B c r m C→S[a1]? = some (.row [vv] 55)→S[a2]? = some (.row [u] 42)→J (frB bm D i) S→(more=false→frB bm D i=[])→FrA m r A S0 S →
 (∀ S' i' g2 g3 g7 g8 g9 gK gF gD gB gC gA gE gL gM gG gJ gN gI gH gO gP gT gQ gU gR gS gV gW gX gY gZ gh,CacheIn S' B c r m C→FrA m r A S0 S'→J (if more then frB bm D N else (frB bm D N).take 1) S'→R (.exit 0) ((.ref y 0 0)::(.fn (.func g) [] caps)::g2::g3::(.ref a1 0 0)::(.ref a2 0 0)::i'::g7::g8::g9::gK::gF::gD::gB::gC::gA::gE::gL::gM::gG::gJ::gN::gI::gH::gO::gP::gT::gQ::gU::gR::gS::gV::gW::gX::gY::gZ::gh::[]) S' []) →
 (∀ S' i' g2 g3 g7 g8 g9 gK gF gD gB gC gA gE gL gM gG gJ gN gI gH gO gP gT gQ gU gR gS gV gW gX gY gZ gh,CacheIn S' B c r m C→FrA m r A S0 S'→J (if more then frB bm D N else (frB bm D N).take 1) S'→R .ret ((.ref y 0 0)::(.fn (.func g) [] caps)::g2::g3::(.ref a1 0 0)::(.ref a2 0 0)::i'::g7::g8::g9::gK::gF::gD::gB::gC::gA::gE::gL::gM::gG::gJ::gN::gI::gH::gO::gP::gT::gQ::gU::gR::gS::gV::gW::gX::gY::gZ::gh::[]) S' []) →
 Wp cfg (.loop (lpOf (Tryz.f67.body.getD .skip) 0)) ((.ref y 0 0)::(.fn (.func g) [] caps)::g2::g3::(.ref a1 0 0)::(.ref a2 0 0)::(.d (.int .i64 (i:Int)))::g7::g8::g9::gK::gF::gD::gB::gC::gA::gE::gL::gM::gG::gJ::gN::gI::gH::gO::gP::gT::gQ::gU::gR::gS::gV::gW::gX::gY::gZ::gh::[]) S [] R:=by
 subst hvv
 intro k
 induction k with
 | zero =>
  intro i S g2 g3 g7 g8 g9 gK gF gD gB gC gA gE gL gM gG gJ gN gI gH gO gP gT gQ gU gR gS gV gW gX gY gZ gh hk hi2 hiN hC h52 h42 hJ hmo hFA hR hR2
  have hie:i=N:=by omega
  subst hie
  have hr52:=zD (e:=55) h52
  have hle : ¬ ((i:Int)) < l.blocks:=by omega
  rw [zO]
  refine zN ?_
  conv=>arg 2; whnf
  simp (maxSteps:=1000000) (disch:=first|assumption|omega|rfl) only [↓gp,gc,Nat.reduceAdd,z1c,z0y,hr52,z9q]
  refine hR _ _ _ _ _ _ _ _ _ _ _ _ _ _ _ _ _ _ _ _ _ _ _ _ _ _ _ _ _ _ _ _ _ _ hC hFA ?_
  cases more with
  | true=>exact hJ
  | false=>rw [hmo rfl] at hJ ⊢; exact hJ
 | succ k ih =>
  intro i S g2 g3 g7 g8 g9 gK gF gD gB gC gA gE gL gM gG gJ gN gI gH gO gP gT gQ gU gR gS gV gW gX gY gZ gh hk hi2 hiN hC h52 h42 hJ hmo hFA hR hR2
  have hr52:=zD (e:=55) h52
  have hr42:=zD (e:=42) h42
  have hld:=bt42.load hu hbl
  have hu1:=hu.one
  have hle:(i:Int) < l.blocks:=by omega
  have hhas:=fun {ops dst k T S F Q}=>zpf (ops:=ops) (dst:=dst) (k:=k) (T:=T) (S:=S) (F:=F) (Q:=Q) (n:=(i:Int)) hu hbl
  rw [zgd (by omega)] at hhas
  have hw:IntKind.i64.wrap ((i:Int) + 1)=((i + 1:Nat):Int):=by rw [wrap64 (by omega)]; omega
  have hsu:=zga (bm:=bm) hi2
  rw [zO]
  refine zN ?_
  conv=>arg 2; whnf
  cases h0:hasB bm i with
  | false =>
   rw [h0] at hhas
   rw [h0,if_neg Bool.false_ne_true] at hsu
   obtain ⟨o,S2,⟨rfl,hJ2,hl2,hk2⟩,hcall⟩:=qC (ha.call S _ i hJ)
   have hcall:=fun {ops dst k T F Q}=>zF (ops:=ops) (dst:=dst) (l:=k) (T:=T) (F:=F) (Q:=Q) ha.sh hcall
   have hcv:=cvF (g:=g) (caps:=caps) (n:=(i:Int)) ha.bo
   simp (maxSteps:=1000000) (disch:=first|assumption|omega|rfl) only [↓gp,gc,Nat.reduceAdd,↓wZ,z1c,z0y,hr52,z9q,hr42,hld,hu1,hhas,bo76,hcv,hcall,wH,Bool.not_false,hw]
   have hC2:CacheIn S2 B c r m C:=⟨Nat.le_trans hC.1 hl2,hC.2.keep (fun j p hj=>z8v (hk2 j p (z00 _ _ hj) (.inl (Nat.lt_of_lt_of_le (z16 hj) hBA))) (z16 hj))⟩
   have h52c:=hk2 _ _ h52 (.inr fun xs e he=>by cases he; exact ⟨by decide,by decide⟩)
   have h42c:=hk2 _ _ h42 (.inr fun xs e he=>by cases he; exact ⟨by decide,by decide⟩)
   have hFA2:FrA m r A S0 S2:=hFA.trans ⟨hl2,fun j p hj hp _=>hk2 j p hp (.inl hj)⟩
   cases more with
   | true =>
    simp (maxSteps:=1000000) (disch:=first|assumption|omega|rfl) only [↓gp,gc,Nat.reduceAdd,wH,Bool.not_true,hw]
    exact ih (i + 1) S2 _ _ _ _ _ _ _ _ _ _ _ _ _ _ _ _ _ _ _ _ _ _ _ _ _ _ _ _ _ _ _ _ (by omega) (by omega) (by omega) hC2 h52c h42c (by rw [hsu]; exact hJ2) (fun hh=>by cases hh) hFA2 hR hR2
   | false =>
    simp (maxSteps:=1000000) (disch:=first|assumption|omega|rfl) only [↓gp,gc,Nat.reduceAdd,wH,Bool.not_false]
    refine hR2 _ _ _ _ _ _ _ _ _ _ _ _ _ _ _ _ _ _ _ _ _ _ _ _ _ _ _ _ _ _ _ _ _ _ hC2 hFA2 ?_
    have h1:frB bm D i=[]:=hmo rfl
    rw [h1,List.nil_append] at hJ2
    obtain ⟨t,ht⟩:=zf2 (bm:=bm) (D:=D) (k:=N - (i + 1)) (i:=i + 1) (by omega)
    have e:i + 1 + (N - (i + 1))=N:=by omega
    rw [e,hsu,h1,List.nil_append] at ht
    rw [if_neg Bool.false_ne_true,ht]
    exact hJ2
  | true =>
   rw [h0] at hhas
   rw [h0,if_pos rfl,List.append_nil] at hsu
   simp (maxSteps:=1000000) (disch:=first|assumption|omega|rfl) only [↓gp,gc,Nat.reduceAdd,↓wZ,z1c,z0y,hr52,z9q,hr42,hld,hu1,hhas,bo76,wH,Bool.not_true,hw]
   exact ih (i + 1) S _ _ _ _ _ _ _ _ _ _ _ _ _ _ _ _ _ _ _ _ _ _ _ _ _ _ _ _ _ _ _ _ (by omega) (by omega) (by omega) hC h52 h42 (by rw [hsu]; exact hJ) (fun hh=>by rw [hsu]; exact hmo hh) hFA hR hR2
section
variable (S:zA) (B y x c r m mk gm:Nat) (l:Lay) (e:Int) (C:CS) (h:SeenAt S B y x c r m mk gm l e C) (hB:l.blocks=C.img.length) (hb:InB l.blocks) (hi:InB l.inodes) (hm:MayL l) (D:Nat) (hD:2 + l.inodes.tdiv 8=(D:Int)) (N:Nat) (hN:l.blocks=N)
include h hB hb hi hm hD hN
theorem zjj (A:Nat) (g:FuncId) (caps:List V) (J:List Nat→zA→Prop) (more:Bool) (ha:AskF m r g caps A J more) (hBA:B ≤ A) (haA:A ≤ S.length) (hJ:J [] S) :
  EvS cfg 67 [.ref y 0 0,.fn (.func g) [] caps] S (fun o S'=>o = .ret (.tup [])∧CacheIn S' B c r m C∧FrA m r A S S'∧J (if more then frB (C.see 1) D N else (frB (C.see 1) D N).take 1) S'):=by
 refine qE rfl zzo ?_
 show Wp cfg (Tryz.f67.body.getD .skip) ((.ref y 0 0)::(.fn (.func g) [] caps)::uZ (uZ (uZ ((.tup [])::(.tup [])::(.tup [])::(.tup [])::(.tup [])::[])))) S [] _
 unfold uZ
 conv=>arg 2; whnf
 rw [zO]
 have hry:=zD (e:=116) h.hy
 obtain ⟨o,S1,⟨hK,v,rfl,hv⟩,hview⟩:=qC (zbr S x c mk l.blocks l.inodes l.merge e h.hx)
 have hview:=fun {ops dst k T F Q}=>zF (ops:=ops) (dst:=dst) (l:=k) (T:=T) (F:=F) (Q:=Q) rfl hview
 obtain ⟨gg,rfl,hg⟩:=hv
 generalize ha1:S1.length=a1
 have hSl:=hK.len
 have hno:1 < C.img.length:=by have:=hm.1; omega
 simp (maxSteps:=1000000) (disch:=first|assumption|omega|rfl) only [↓gp,gc,Nat.reduceAdd,zej,z0c,hry,kP,hview,bo27,z52,zf52,zb8,ha1,rA0 ha1,pA0 ha1,sr52]
 have hKa:Keep S (S1 ++ [.row [kL l.blocks l.inodes l.merge gg] 55]):=hK.app
 have hga:(S1 ++ [Ob.row [kL l.blocks l.inodes l.merge gg] 55])[gg]? = some (.row [getF c] 131):=by rw [List.getElem?_append_left (zL hg)]; exact hg
 have h52:(S1 ++ [.row [kL l.blocks l.inodes l.merge gg] 55])[a1]? = some (.row [kL l.blocks l.inodes l.merge gg] 55):=by rw [← ha1]; simp
 have hl2:(S1 ++ [Ob.row [kL l.blocks l.inodes l.merge gg] 55]).length=a1 + 1:=by simp [ha1]
 generalize S1 ++ [Ob.row [kL l.blocks l.inodes l.merge gg] 55]=S2 at *
 have hK5:Keep S2 (S2 ++ [.hole,.hole,.hole,.hole,.hole]):=Keep.refl.app
 obtain ⟨o,S3,⟨hF,hC,u,rfl,hu⟩,hE⟩:=qC (z6z (S2 ++ [.hole,.hole,.hole,.hole,.hole]) _ B c r m l.blocks l.inodes l.merge C (h.ca.keep (hKa.trans hK5)) ⟨gg,rfl,hK5 _ _ hga⟩ hB 1 hno)
 simp only [nl1] at hE
 have hbk:=fun {ops base K ws cs i dst T}=>jQ (ops:=ops) (base:=base) (K:=K) (ws:=ws) (cs:=cs) (i:=i) (dst:=dst) (T:=T) rfl hE
 have hsl:=hC.at.ok.see_len hno
 have hu1:=hu.one
 have hst:=bt42.store hu hsl (w:=blkV (zK 256)) isB_v z256
 have hr52:=zD (e:=55) (hK5 _ _ h52)
 have hh3:S3[a1 + 1 + 3]? = some .hole:=hF.hole (by rw [← hl2,List.getElem?_append_right (by omega),Nat.add_sub_cancel_left]; rfl)
 have hh3l:=zL hh3
 have hra3:rowE (S3.set (a1 + 1 + 3) (.row [blkV (zK 256)] 42)) (a1 + 1 + 3) 0=some (blkV (zK 256)):=zD (e:=42) (List.getElem?_set_self hh3l)
 have hpa3 : ∀ y,jJ (S3.set (a1 + 1 + 3) (.row [blkV (zK 256)] 42)) (a1 + 1 + 3) 0 y=some (S3.set (a1 + 1 + 3) (.row [y] 42)):=fun y=>by
  rw [qH (e:=42) (List.getElem?_set_self hh3l),List.set_set]
 have hB2:=h.ca.1
 refine qT (is:=[0,1,2,3,4]) (h:=5) (by kernel_rfl) (by kernel_rfl) ?_
 simp (maxSteps:=1000000) (disch:=first|assumption|omega|rfl) only [List.replicate_zero,eq_self,gw,ga,Nat.reduceAdd,↓gq,vso,hr52,lr52,zb8,zmm,bo77,hbk,bo49,hu1,zbf z42 zf42,z80,hl2,hra3,hpa3,hst]
 refine ⟨zP (by kernel_rfl) (zP (by kernel_rfl) qB),hh3,zP (by kernel_rfl) (zP (by kernel_rfl) qB),by kernel_rfl,?_⟩
 have h52b:(S3.set (a1 + 1 + 3) (.row [u] 42))[a1]? = some (.row [kL l.blocks l.inodes l.merge gg] 55):=by
  rw [List.getElem?_set_ne (by omega)]
  exact hF.row (hK5 _ _ h52) rfl
 have h42b:(S3.set (a1 + 1 + 3) (.row [u] 42))[a1 + 1 + 3]? = some (.row [u] 42):=List.getElem?_set_self hh3l
 have hF4:FrC m r S (S3.set (a1 + 1 + 3) (.row [u] 42)):=((Frm.keep (hKa.trans hK5)).trans hF).setn (by omega)
 have hC4:CacheIn (S3.set (a1 + 1 + 3) (.row [u] 42)) B c r m C:=hC.setn (by omega)
 generalize S3.set (a1 + 1 + 3) (Ob.row [u] 42)=S4 at *
 have hr52b:=zD (e:=55) h52b
 have hdt : ∀ {ops dst k T S F Q},WpR cfg ops dst k T S F Q (some (.enter 108 [.agg [.d (.int .i64 l.blocks),.d (.int .i64 l.inodes),.d (.int .u64 l.merge)]]))=WpL cfg ops k (putT T dst (.d (.int .i64 (2 + l.inodes.tdiv 8)))) S F Q:=fun {ops dst k T S F Q}=>kT (ds:=[encLay l]) rfl rfl rfl (zav l hb hi hm)
 rw [hD] at hdt
 have hDN:D ≤ N:=by have:=hm.2.2.2.2.2; omega
 simp (maxSteps:=1000000) (disch:=first|assumption|omega|rfl) only [↓gp,gc,Nat.reduceAdd,z1c,hr52b,z9r,hdt,z93]
 refine zz2 B c r m y a1 (a1 + 1 + 3) A D l C _ u (C.see 1) hu hsl gg rfl g caps J more ha hBA N hN (by have:=hm.2.1; omega) _ S (N - D) D _ _ _ _ _ _ _ _ _ _ _ _ _ _ _ _ _ _ _ _ _ _ _ _ _ _ _ _ _ _ _ _ _ rfl (Nat.le_refl _) hDN hC4 h52b h42b (by rw [zu2]; exact ha.keep _ _ _ hJ hF4) (fun _=>zu2) (FrA.of hF4) ?_ ?_
 ·intro S' i' g2 g3 g7 g8 g9 gK gF gD gB gC gA gE gL gM gG gJ gN gI gH gO gP gT gQ gU gR gS gV gW gX gY gZ gh hC' hF' hJ'
  simp (maxSteps:=1000000) (disch:=first|assumption|omega|rfl) only [↓gp,gc,Nat.reduceAdd]
  exact ⟨rfl,_,rfl,rfl,hC',hF',hJ'⟩
 ·intro S' i' g2 g3 g7 g8 g9 gK gF gD gB gC gA gE gL gM gG gJ gN gI gH gO gP gT gQ gU gR gS gV gW gX gY gZ gh hC' hF' hJ'
  simp (maxSteps:=1000000) (disch:=first|assumption|omega|rfl) only [↓gp,gc,Nat.reduceAdd]
  exact ⟨rfl,_,rfl,rfl,hC',hF',hJ'⟩
end
theorem q0a {S:zA} {a:Nat}:mfS (.func 67) S [.ref a 0 0] []=some (.val (.fn (.func 67) [.ref a 0 0] []) S 0):=z15 rfl
theorem zsq {bm:List UInt8} {D i:Nat}:(frB bm D i).length ≤ i:=Nat.le_trans (List.length_filter_le ..) (by simp)
theorem zou (m r A n0:Nat) (hA:A ≤ n0):AskF m r 68 [.ref n0 0 0] A (cntJ n0) true:=by
 refine ⟨?_,?_,bo68,rfl⟩
 ·rintro S l n ⟨v,hv,hl⟩
  refine qE rfl zy5 ?_
  show Wp cfg (Tryz.f68.body.getD .skip) ((.d (.int .i64 (n:Int)))::(.ref n0 0 0)::(.tup [])::(.tup [])::(.tup [])::(.tup [])::[]) S [] _
  conv=>arg 2; whnf
  rw [zO]
  have hr:=zD (e:=3) hv
  have hp:=fun y=>qH (y:=y) (e:=3) hv
  simp (maxSteps:=1000000) (disch:=first|assumption|omega|rfl) only [↓vmp,vme,vmb,ty,hP,zrl,zt2,List.length_map,Int.toNat_natCast,Nat.reduceAdd,List.cons_append,List.nil_append,Option.map_some,Option.map_none,zay,zko,zkr,vmg,↓vgd,↓vst,↓vix,hr,hp,ld3r,st3]
  refine ⟨rfl,_,rfl,rfl,⟨_,List.getElem?_set_self (zL hv),fun hh=>?_⟩,by rw [List.length_set]; exact Nat.le_refl _,?_⟩
  ·rw [List.length_append,List.length_singleton] at hh
   rw [hl (by omega),wrap64 (by omega),List.length_append,List.length_singleton]
   omega
  ·intro j o hj hc
   rw [List.getElem?_set_ne]
   ·exact hj
   ·rintro rfl
    rcases hc with hc | hc
    ·omega
    ·exact absurd rfl (hc _ _ (getE hj hv)).1
 ·rintro S S' l ⟨v,hv,hl⟩ hF
  exact ⟨v,hF.row hv rfl,hl⟩
section
variable (S:zA) (B y x c r m mk gm:Nat) (l:Lay) (e:Int) (C:CS) (h:SeenAt S B y x c r m mk gm l e C) (hB:l.blocks=C.img.length) (hb:InB l.blocks) (hi:InB l.inodes) (hm:MayL l) (D:Nat) (hD:2 + l.inodes.tdiv 8=(D:Int)) (N:Nat) (hN:l.blocks=N)
include h hB hb hi hm hD hN
theorem zjz:EvS cfg 21 [.ref y 0 0] S (fun o S'=>o = .ret (.d (.int .i64 ((frB (C.see 1) D N).length:Int)))∧CacheIn S' B c r m C∧FrC m r S S'):=by
 refine qE rfl zyv ?_
 show Wp cfg (Tryz.f21.body.getD .skip) ((.ref y 0 0)::(.tup [])::(.tup [])::(.tup [])::(.tup [])::(.tup [])::(.tup [])::(.tup [])::[]) S [] _
 conv=>arg 2; whnf
 rw [zO]
 generalize ha:S.length=a
 have hN1:N ≤ 512:=by have:=hm.2.1; omega
 have hBS:=h.ca.1
 obtain ⟨o,S2,⟨rfl,hC,hF,v,hv,hvl⟩,hE⟩:=qC (zjj (S ++ [.row [.d (.int .i64 0)] 3]) B y x c r m mk gm l e C (h.keep Keep.refl.app) hB hb hi hm D hD N hN a _ _ _ _ (zou m r a a (Nat.le_refl _)) (by omega) (by simp; omega) ⟨0,by rw [← ha]; simp,fun _=>rfl⟩)
 have hE:=fun {ops dst k T F Q}=>zF (ops:=ops) (dst:=dst) (l:=k) (T:=T) (F:=F) (Q:=Q) rfl hE
 have hr:=zD (e:=3) hv
 simp (maxSteps:=1000000) (disch:=first|assumption|omega|rfl) only [↓gp,gc,Nat.reduceAdd,z3,ha,rA0 ha,pA0 ha,st3,jM,q0y,z8k,hE,bo67,hr,ld3r]
 have hl:=zsq (bm:=C.see 1) (D:=D) (i:=N)
 rw [if_pos rfl] at hvl
 refine ⟨rfl,.d (.int .i64 v),rfl,by rw [hvl (by omega)],hC,by have:=hF.1; simp at this; omega,fun j p hj hc=>?_⟩
 have hjl:=zL hj
 exact hF.2 j p (by omega) (by rw [List.getElem?_append_left hjl]; exact hj) hc
theorem zmd:EvS cfg 43 [.ref y 0 0] S (fun o S'=>o = .ret (.tup [.d (.int .i64 (((frB (C.see 1) D N).headD 0:Nat):Int)),.d (.bool (decide (frB (C.see 1) D N ≠ [])))])∧CacheIn S' B c r m C∧FrC m r S S'):=by
 have hfst:EvS cfg 91 [.fn (.func 67) [.ref y 0 0] []] S (fun o S'=>o = .ret (.tup [.d (.int .i64 (((frB (C.see 1) D N).headD 0:Nat):Int)),.d (.bool (decide (frB (C.see 1) D N ≠ [])))])∧CacheIn S' B c r m C∧FrC m r S S'):=by
  refine qE rfl zx1 ?_
  show Wp cfg (Tryz.f91.body.getD .skip) ((.fn (.func 67) [.ref y 0 0] [])::uZ []) S [] _
  unfold uZ
  conv=>arg 2; whnf
  rw [zO]
  generalize ha:S.length=a
  have hBS:=h.ca.1
  have h0:(S ++ [.row [.d (.int .i64 0)] 3,.row [.d (.bool false)] 4])[a]? = some (.row [.d (.int .i64 0)] 3):=by rw [List.getElem?_append_right (by omega),ha,Nat.sub_self]; rfl
  have h1:(S ++ [.row [.d (.int .i64 0)] 3,.row [.d (.bool false)] 4])[a + 1]? = some (.row [.d (.bool false)] 4):=by rw [List.getElem?_append_right (by omega),ha,Nat.add_sub_cancel_left]; rfl
  obtain ⟨o,S2,⟨rfl,hC,hF,v,b,hv,hb',hv0,hvl⟩,hE⟩:=qC (zjj (S ++ [.row [.d (.int .i64 0)] 3,.row [.d (.bool false)] 4]) B y x c r m mk gm l e C (h.keep Keep.refl.app) hB hb hi hm D hD N hN a _ _ _ _ (zjs m r a a (a + 1) (Nat.le_refl _) (by omega) (by omega)) (by omega) (by simp; omega) ⟨0,false,h0,h1,fun _=>⟨rfl,rfl⟩,fun n hn=>by cases hn⟩)
  have hE:=fun {ops dst k T F Q}=>zF (ops:=ops) (dst:=dst) (l:=k) (T:=T) (F:=F) (Q:=Q) rfl hE
  have hr:=zD (e:=3) hv
  have hr2:=zD (e:=4) hb'
  have hcv : ∀ u:V,u.one=true→cvV Tryz.prog [u] (.fn (.func 67) [.ref y 0 0] [])=some (.enter 67 [.ref y 0 0,u]):=fun u hu=>zhl (by simp [hu]) bo67
  have hcv:=hcv _ (z8k (f:= .func 130) (a:=[]) (b:=[.ref a 0 0,.ref (a + 1) 0 0]))
  simp (maxSteps:=1000000) (disch:=first|assumption|omega|rfl) only [↓gp,gc,Nat.reduceAdd,↓wZ,z3,z4,List.append_assoc,List.length_append,List.length_cons,List.length_nil,ha,rA0 ha,pA0 ha,rA1 ha,pA1 ha,st3,st4b,jM,q0i,z8k,hcv,hE]
  refine vB (is:=[0,1,2,3]) (h:=0) (by kernel_rfl) (by kernel_rfl) ?_
  simp (maxSteps:=1000000) (disch:=first|assumption|omega|rfl) only [List.replicate_zero,eq_self,gd,ga,Nat.reduceAdd,↓gq,vso,List.append_nil,hr,hr2,ld3r,ld4r]
  refine ⟨by kernel_rfl,?_⟩
  simp (maxSteps:=1000000) (disch:=first|assumption|omega|rfl) only [↓gp,gc,Nat.reduceAdd]
  rw [if_neg (by decide)] at hv0 hvl
  have hres:v=(((frB (C.see 1) D N).headD 0:Nat):Int)∧b=decide (frB (C.see 1) D N ≠ []):=by
   cases hfr:frB (C.see 1) D N with
   | nil=>rw [hfr] at hv0; obtain ⟨e1,e2⟩:=hv0 rfl; exact ⟨by rw [e1]; rfl,by rw [e2]; rfl⟩
   | cons n t =>
    rw [hfr] at hvl
    obtain ⟨e1,e2⟩:=hvl n rfl
    exact ⟨by rw [e1]; rfl,by rw [e2]; exact (decide_eq_true (by simp)).symm⟩
  refine ⟨rfl,.tup [.d (.int .i64 v),.d (.bool b)],z0z rfl rfl rfl rfl,by rw [hres.1,hres.2],hC,by have:=hF.1; simp at this; omega,fun j p hj hc=>?_⟩
  have hjl:=zL hj
  exact hF.2 j p (by omega) (by rw [List.getElem?_append_left hjl]; exact hj) hc
 refine qE rfl zxs ?_
 show Wp cfg (Tryz.f43.body.getD .skip) ((.ref y 0 0)::(.tup [])::(.tup [])::(.tup [])::(.tup [])::(.tup [])::(.tup [])::(.tup [])::(.tup [])::[]) S [] _
 conv=>arg 2; whnf
 rw [zO]
 obtain ⟨o,S2,⟨rfl,hC,hF⟩,hE⟩:=qC hfst
 have hE:=fun {ops dst k T F Q}=>zF (ops:=ops) (dst:=dst) (l:=k) (T:=T) (F:=F) (Q:=Q) rfl hE
 simp (maxSteps:=1000000) (disch:=first|assumption|omega|rfl) only [↓gp,gc,Nat.reduceAdd,jM,q0a,z8k,hE,bo91]
 exact ⟨rfl,_,z0z rfl rfl rfl rfl,rfl,hC,hF⟩
end
theorem z8x {b d:List UInt8} {a:Nat} (h:a + d.length ≤ b.length) (i:Nat):(layB b a d)[i]? = if a ≤ i∧i < a + d.length then d[i - a]? else b[i]? := by
 unfold layB
 have e1:(b.take a).length=a:=by rw [List.length_take]; omega
 by_cases h1:i < a
 ·rw [if_neg (by omega),List.append_assoc,List.getElem?_append_left (by rw [e1]; exact h1),List.getElem?_take,if_pos h1]
 ·by_cases h2:i < a + d.length
  ·rw [if_pos ⟨by omega,h2⟩,List.append_assoc,List.getElem?_append_right (by rw [e1]; omega),e1,List.getElem?_append_left (by omega)]
  ·rw [if_neg (by omega),List.getElem?_append_right (by rw [List.length_append,e1]; omega),List.length_append,e1,List.getElem?_drop]
   congr 1
   omega
theorem zne {b d e:List UInt8} {x y:Nat} (h1:x + d.length ≤ b.length) (h2:y + e.length ≤ b.length) (hm:x + d.length ≤ y ∨ y + e.length ≤ x):layB (layB b x d) y e=layB (layB b y e) x d:=by
 apply List.ext_getElem?
 intro i
 rw [z8x (by rw [kM h1]; exact h2),z8x h1,z8x (by rw [kM h2]; exact h1),z8x h2]
 by_cases c1:x ≤ i∧i < x + d.length
 ·by_cases c2:y ≤ i∧i < y + e.length
  ·omega
  ·rw [if_neg c2,if_pos c1,if_pos c1]
 ·rw [if_neg c1,if_neg c1]
def layC (b:List UInt8) (ch:Chg):List UInt8:=layB b ch.at_.toNat ch.data
theorem zo9 {b:List UInt8} {ch:Chg} (hb:b.length=256) (h:kG ch.at_ ch.data):(layC b ch).length=256:=by
 obtain ⟨_,_,h3,h4⟩:=h
 unfold layC
 rw [kM (by omega),hb]
theorem zm6 {b:List UInt8} {c d:Chg} (hb:b.length=256) (hc:kG c.at_ c.data) (hd:kG d.at_ d.data) (hm : ¬ z3f c.at_ c.data d.at_ d.data):layC (layC b c) d=layC (layC b d) c:=by
 obtain ⟨_,_,c3,c4⟩:=hc
 obtain ⟨_,_,d3,d4⟩:=hd
 unfold z3f at hm
 exact zne (by omega) (by omega) (by omega)
theorem z0r {b:List UInt8} {l:List Chg} {ch:Chg} {no:Int}:seeL b (ch::l) no=seeL (if ch.no=no then layC b ch else b) l no:=rfl
theorem zd3 {no:Int} {c:Chg} (hc:kG c.at_ c.data) : ∀ {l:List Chg} {b:List UInt8},b.length=256→(∀ g ∈ l,kG g.at_ g.data)→(∀ g ∈ l,g.no=no → ¬ z3f g.at_ g.data c.at_ c.data)→seeL (layC b c) l no=layC (seeL b l no) c
 | [],b,_,_,_=>rfl
 | g::r,b,hb,hg,hm=>by
  rw [z0r,z0r]
  have hg1:=hg g List.mem_cons_self
  have ih:=fun {b:List UInt8} (hb:b.length=256)=>zd3 (b:=b) hc hb (fun x hx=>hg x (List.mem_cons_of_mem _ hx)) (fun x hx=>hm x (List.mem_cons_of_mem _ hx))
  by_cases e:g.no=no
  ·rw [if_pos e,if_pos e,← zm6 hb hg1 hc (hm g List.mem_cons_self e)]
   exact ih (zo9 hb hg1)
  ·rw [if_neg e,if_neg e]
   exact ih hb
theorem zov {b:List UInt8} {l m:List Chg} {no:Int}:seeL b (l ++ m) no=seeL (seeL b l no) m no:=by
 unfold seeL
 rw [List.foldl_append]
theorem zdo {l:List Chg} {no:Int} {ids:List Int} {b:List UInt8} (hb:b.length=256) (hok : ∀ ch ∈ l,kG ch.at_ ch.data) (hrd:RdOk l no l.length ids) : ∀ i,i ≤ l.length→seeL (rolL b (l.take i) no ids) ((l.take i).filter fun ch=>decide (ch.id ∉ ids)) no=seeL b (l.take i) no
 | 0,_=>rfl
 | i + 1,hi=>by
  have hlt:i < l.length:=by omega
  have ih:=zdo hb hok hrd i (by omega)
  have hpk:=hok l[i] (List.getElem_mem hlt)
  have hsub : ∀ ch ∈ l.take i,kG ch.at_ ch.data:=fun ch hch=>hok ch (List.mem_of_mem_take hch)
  have hlr:=z0u (no:=no) (ids:=ids) hb hsub
  rw [jY hlt,zc6,z1a,List.filter_append]
  by_cases hin:l[i].id ∈ ids
  ·have e:([l[i]].filter fun ch=>decide (ch.id ∉ ids))=[]:=by simp [hin]
   rw [e,List.append_nil]
   by_cases hno:l[i].no=no
   ·rw [if_pos ⟨hno,hin⟩,if_pos hno,← ih]
    show seeL (layC _ l[i]) _ no=layC _ l[i]
    refine zd3 hpk hlr (fun g hg=>hsub g (List.mem_filter.1 hg).1) fun g hg hgn hmt=>?_
    obtain ⟨g1,g2⟩:=List.mem_filter.1 hg
    simp only [decide_eq_true_eq] at g2
    exact g2 (hrd.2.1 i l[i] (List.getElem?_eq_getElem hlt) hin g g1 hgn hmt)
   ·rw [if_neg (fun h=>hno h.1),if_neg hno]
    exact ih
  ·have e:([l[i]].filter fun ch=>decide (ch.id ∉ ids))=[l[i]]:=by simp [hin]
   have hn2 : ¬ (l[i].no=no∧l[i].id ∈ ids):=fun h=>hin h.2
   rw [e,z1a,if_neg hn2,ih]
theorem zhy {b:List UInt8} {no:Int} {p:Chg→Bool} : ∀ {l:List Chg},(∀ ch ∈ l,p ch=false→ch.no ≠ no)→seeL b (l.filter p) no=seeL b l no:=by
 intro l
 induction l generalizing b with
 | nil=>intro _; rfl
 | cons ch r ih =>
  intro h
  have ih:=fun {b:List UInt8}=>ih (b:=b) fun c hc=>h c (List.mem_cons_of_mem _ hc)
  cases hp:p ch with
  | true =>
   rw [List.filter_cons_of_pos (by rw [hp]),z0r,z0r]
   exact ih
  | false =>
   rw [List.filter_cons_of_neg (by rw [hp]; decide),z0r,if_neg (h ch List.mem_cons_self hp)]
   exact ih
theorem CS.Ok.img_len {C:CS} (h:C.Ok) {no:Nat} (hn:no < C.img.length):(C.img.getD no []).length=256:=by
 rw [List.getD_eq_getElem?_getD,List.getElem?_eq_getElem hn]
 exact h.len _ (List.getElem_mem hn)
theorem zm0 {C:CS} (h:C.Ok) {k:Nat} {ids:List Int} (hk:k < C.img.length) (hrd:RdOk C.list (k:Int) C.list.length ids) {no:Nat} (hn:no < C.img.length):(C.flush k ids).see no=C.see no:=by
 have hpk : ∀ ch ∈ C.list,kG ch.at_ ch.data:=fun ch hch=>(h.chs ch hch).1
 unfold CS.see CS.flush
 by_cases e:no=k
 ·subst e
  have e1:(C.img.set no (rolL (C.img.getD no []) C.list (no:Int) ids)).getD no []=rolL (C.img.getD no []) C.list (no:Int) ids:=by
   rw [List.getD_eq_getElem?_getD,List.getElem?_set_self hk]; rfl
  rw [e1]
  have:=zdo (h.img_len hk) hpk hrd C.list.length (Nat.le_refl _)
  rw [List.take_length] at this
  exact this
 ·have e1:(C.img.set k (rolL (C.img.getD k []) C.list (k:Int) ids)).getD no []=C.img.getD no []:=by
   rw [List.getD_eq_getElem?_getD,List.getElem?_set_ne (Ne.symm e),← List.getD_eq_getElem?_getD]
  rw [e1]
  refine zhy fun ch hch hp=>?_
  simp only [decide_eq_false_iff_not,Decidable.not_not] at hp
  obtain ⟨c2,h1,h2,h3⟩:=hrd.1 _ hp
  obtain ⟨i,hi⟩:=List.mem_iff_getElem?.1 hch
  obtain ⟨j,hj⟩:=List.mem_iff_getElem?.1 (List.mem_of_mem_take h1)
  have:=zbm h.ids hi hj h2.symm
  subst this
  rw [hi] at hj
  cases hj
  omega
theorem z8f {C C':CS} (h:C.Ok) {no:Int} (hf:zb4 C C' no):C'.img.length=C.img.length∧C'.last=C.last ∧ ∀ k < C.img.length,C'.see k=C.see k:=by
 rcases hf with ⟨rfl,_⟩ | ⟨k,ids,rfl,hk,hrd,rfl⟩
 ·exact ⟨rfl,rfl,fun _ _=>rfl⟩
 ·refine ⟨?_,rfl,fun j hj=>zm0 h hk hrd hj⟩
  show (C.img.set _ _).length=_
  rw [List.length_set]
theorem zb0 {C:CS} {no:Nat} {a:Int} {b:List UInt8} {needs:List Int} {k:Nat}:(C.put no a b needs).see k=if no=k then layB (C.see k) a.toNat b else C.see k:=by
 unfold CS.see CS.put
 rw [z1a]
 by_cases e:no=k
 ·rw [if_pos e,if_pos (by subst e; rfl)]
 ·rw [if_neg e,if_neg (by show ¬ ((no:Int)=(k:Int)); omega)]
def small (n:Int):Prop:=0 ≤ n∧n ≤ 65535
instance {n:Int}:Decidable (small n):=by unfold small; infer_instance
def numI (i:Ino):List Int:=[i.d0,i.d1,i.d2,i.d3,i.d4,i.d5,i.ind]
def q1x:Ino:=⟨0,0,0,0,0,0,0,0,0,0,0⟩
def MayI (i:Ino):Prop:=(0 ≤ i.kind∧i.kind ≤ 2∧(i.kind=0→i=q1x))∧small i.links∧small i.parent∧0 ≤ i.size∧i.size ≤ 34304 ∧ ∀ n ∈ numI i,small n
instance {i:Ino}:Decidable (MayI i):=by unfold MayI; infer_instance
section
variable {ops:Array Oper} {dst:Option Tmp} {k:List Oper} {T:List V} {S:zA} {F:Dfs} {Q:Post}
end
theorem u3:Tryz.prog.underlying 3=some (.int .i64):=by kernel_rfl
section
variable {i:Ino} {d x y:Nat}
end


theorem zl3 (P:Program) {e:TypeId} (he:P.underlying e=some (.int .u8)) : ∀ (xs ys:List UInt8),xs.length=ys.length→eqLs P e xs.length (xs.map byD) (ys.map byD)=some (decide (xs=ys))
 | [],[],_=>rfl
 | x::xs,y::ys,h=>by
  have ih:=zl3 P he xs ys (by simpa using h)
  have hxy:((x.toNat:Int) == (y.toNat:Int))=(x == y):=by
   by_cases e:x=y
   ·subst e; simp
   ·have h1:(x == y)=false:=by simp [e]
    have h2 : ¬ (x.toNat:Int)=(y.toNat:Int):=fun hh=>e (UInt8.toNat_inj.1 (by omega))
    rw [h1]
    exact beq_eq_false_iff_ne.2 h2
  have h1:z0s P e (byD x) (byD y)=some (x == y):=by
   simp only [z0s,he,byD,if_true,hxy]
  simp only [List.length_cons,List.map_cons,eqLs,h1]
  by_cases hx:x=y
  ·subst hx
   simp only [beq_self_eq_true,ih]
   congr 1
   by_cases hq:xs=ys
   ·rw [decide_eq_true hq,decide_eq_true (by rw [hq])]
   ·rw [decide_eq_false hq,decide_eq_false (by simpa using hq)]
  ·have h2:(x == y)=false:=by simp [hx]
   rw [h2]
   simp [hx]
theorem zvy {u:V} {b:List UInt8} (h:IsB u b):asD u=some (blkD b):=by
 rcases h with rfl | rfl
 ·rfl
 ·have h2 : ∀ b:List UInt8,allO z49 (b.map fun x=>V.d (byD x))=some (b.map byD):=fun b=>by
   induction b with
   | nil=>rfl
   | cons x r ih =>
    have h:z49 (.d (byD x))=some (byD x):=rfl
    simp only [List.map_cons,allO,h,ih]
  show (allO z49 (b.map fun x=>V.d (byD x))).map D.agg=_
  rw [h2]
  rfl
theorem neB (t n:Nat) (ht:BT Tryz.prog t 5 n) (h1:ptrT Tryz.prog t=false) (h2:mapT Tryz.prog t=false) (h3:fnT Tryz.prog t=false) (h4:Tryz.prog.eqGuardType Tryz.prog.depth t=false) {u v:V} {a b:List UInt8} (hu:IsB u a) (hv:IsB v b) (ha:a.length=n) (hb:b.length=n):binV Tryz.prog .neq t u v=some (.d (.bool (decide (a ≠ b))))∧binV Tryz.prog .eql t u v=some (.d (.bool (decide (a=b)))):=by
 have h5:Tryz.prog.underlying 5=some (.int .u8):=by kernel_rfl
 have h6:=zl3 Tryz.prog h5 a b (by omega)
 have hs:=ht.se
 rw [ha] at h6
 have h7:eqD Tryz.prog 8 t (blkD a) (blkD b)=some (decide (a=b)):=by
  simp only [blkD,eqD,ht.u,hs]
  exact h6
 have h8:eqV Tryz.prog t u v=some (decide (a=b)):=by
  simp only [eqV,h1,h2,h3,zvy hu,zvy hv,Bool.false_eq_true,if_false]
  simp only [blkD,h4,Bool.false_eq_true,if_false] at h7 ⊢
  exact h7
 have hn:(!decide (a=b))=decide (a ≠ b):=by by_cases h:a=b <;> simp [h]
 constructor
 ·have:binV Tryz.prog .neq t u v=(eqV Tryz.prog t u v).map fun b=>.d (.bool (!b)):=by rcases hu with rfl | rfl <;> rfl
  rw [this,h8,Option.map_some,hn]
 ·have:binV Tryz.prog .eql t u v=(eqV Tryz.prog t u v).map fun b=>.d (.bool b):=by rcases hu with rfl | rfl <;> rfl
  rw [this,h8,Option.map_some]
def vA (C:CS) (l:List Int):List Int:=(C.list.map (·.id)).filter (fun n=>decide (n ∈ l))
theorem zgb {C:CS} (h:C.Ok) {l:List Int}:(vA C l).Pairwise (· < ·) ∧ ∀ y ∈ vA C l,1 ≤ y∧y ≤ C.last:=by
 refine ⟨List.Pairwise.sublist List.filter_sublist (List.pairwise_map.2 h.ids),?_⟩
 intro y hy
 obtain ⟨ch,hch,rfl⟩:=List.mem_map.1 (List.mem_filter.1 hy).1
 obtain ⟨_,_,_,h4,h5,_⟩:=h.chs ch hch
 exact ⟨h4,h5⟩
theorem zp7 {C:CS} (h:C.Ok) {l out:List Int} (ho:NdOk C l out) (hrg : ∀ x ∈ l,1 ≤ x∧x ≤ C.last):out=vA C l:=by
 refine zlt ho.1 (zgb h).1 fun x=>?_
 rw [ho.2 x]
 unfold vA
 rw [List.mem_filter,List.mem_map,decide_eq_true_eq]
 constructor
 ·rintro ⟨a,b⟩
  refine ⟨?_,a⟩
  by_cases hh : ∃ ch,ch ∈ C.list∧ch.id=x
  ·exact hh
  ·exact absurd ⟨(hrg x a).1,(hrg x a).2,fun ch hch e=>hh ⟨ch,hch,e⟩⟩ b
 ·rintro ⟨⟨ch,hch,rfl⟩,a⟩
  exact ⟨a,fun hd=>hd.2.2 ch hch rfl⟩
theorem zaa (S:zA) (c r m:Nat) (C:CS) (h0:CacheAt S c r m C) (v:V) (l:List Int) (hv:OwnS S v 3 (zU l)) (hl:l.length ≤ 17592186044416):EvS cfg 135 [.ref c 0 0,v] S (fun o S'=>Keep S S'∧(((∀ x ∈ l,1 ≤ x∧x ≤ C.last) ∧ ∃ nv,o = .ret (.tup [nv,.d (.bool true)])∧OwnS S' nv 3 (zU (vA C l))) ∨ (¬ (∀ x ∈ l,1 ≤ x∧x ≤ C.last)∧o = .ret (.tup [.ts [],.d (.bool false)])))):=by
 refine qE rfl zs0 ?_
 show Wp cfg (Tryz.f135.body.getD .skip) ((.ref c 0 0)::v::uZ (uZ (uZ (uZ (uZ (uZ (uZ []))))))) S [] _
 unfold uZ
 conv=>arg 2; whnf
 rw [zO]
 have hln:zI Tryz.prog S .len [22] [v]=some (.val (.d (.int .i64 (l.length:Int))) S 0):=by rw [kE Tryz.underlying22 hv,zY]
 simp (maxSteps:=1000000) (disch:=first|assumption|omega|rfl) only [↓gp,gc,Nat.reduceAdd,hln]
 refine zy1 c r m C S h0 v l hv hl _ l.length 0 S (.ts []) [] _ _ _ _ _ _ _ _ _ _ _ _ _ _ _ _ _ _ _ _ _ _ _ _ _ _ _ _ _ _ _ _ _ _ _ _ _ _ _ _ _ _ _ _ _ _ _ _ _ _ _ _ _ _ _ _ _ _ _ _ _ _ _ _ _ _ _ rfl (Nat.zero_le _) Keep.refl (fun j _=>NotAt.ts) (.inl ⟨rfl,rfl⟩) (by simp) ⟨List.Pairwise.nil,fun x=>by simp⟩ (fun x hx=>by simp at hx) ?_ ?_
 ·intro S2 v6 out i' g1 g2 g3 g4 g5 g7 g8 g9 gB gC gA gE gL gM gG gJ gN gI gH gO gP gT gQ gU gR gS gV gW gX gY gZ gh gj gk gn gr gz hH hU hY hZ xA xB xC xD xE xF xG xH xI xJ xK xL xM xN xO xP xQ xR xS xT xU xV xW xX xY xZ hK ho hok hrg
  have hv1:=qG ho
  simp (maxSteps:=1000000) (disch:=first|assumption|omega|rfl) only [↓gp,gc,Nat.reduceAdd]
  refine ⟨rfl,_,z0z rfl rfl hv1 rfl,hK,.inl ⟨hrg,v6,rfl,?_⟩⟩
  rw [← zp7 h0.ok hok hrg]
  exact ho
 ·intro S2 T hK hrg h4 h5
  exact ⟨rfl,_,z0z h4 h5 rfl rfl,hK,.inr ⟨hrg,rfl⟩⟩
theorem zk8 (S:zA) (c r m:Nat) (C:CS) (h0:CacheAt S c r m C) (v:V) (l:List Int) (hv:OwnS S v 3 (zU l)) (hl:l.length ≤ 17592186044416) (hrg : ∀ x ∈ l,1 ≤ x∧x ≤ C.last):EvS cfg 135 [.ref c 0 0,v] S (NdR c r m C (vA C l) S) :=
 z4w (zaa S c r m C h0 v l hv hl) fun o S' ⟨hK,h⟩=>by
  rcases h with ⟨_,nv,h1,h2⟩ | ⟨h1,_⟩
  ·exact ⟨Frm.keep hK,h0.keep hK,nv,h1,h2⟩
  ·exact absurd hrg h1
theorem zre (S:zA) (d r:Nat) (vs:List V) (f w q:Int) (lit:Bool) (no:Int) (h:DskAt S d r vs f lit false w q) (hn:no < 0 ∨ no ≥ vs.length):EvS cfg 111 [.ref d 0 0,.d (.int .i64 no)] S (fun o S'=>S'=S∧o = .ret (.d (.int .i64 2))):=by
 refine qE rfl zm3 ?_
 show Wp cfg (Tryz.f111.body.getD .skip) ((.ref d 0 0)::(.d (.int .i64 no))::uZ (uZ ((.tup [])::(.tup [])::(.tup [])::[]))) S [] _
 unfold uZ
 conv=>arg 2; whnf
 rw [zO]
 have hd:=h.rd'
 by_cases c1:no < 0
 ·simp (maxSteps:=1000000) (disch:=first|assumption|omega|rfl) only [↓gp,gc,Nat.reduceAdd,zcg,z6m,za7,hd,lk0,lk3,zp3,zQ]
  exact ⟨rfl,_,rfl,rfl,rfl⟩
 ·have c2:no ≥ (vs.length:Int):=by rcases hn with h | h <;> omega
  simp (maxSteps:=1000000) (disch:=first|assumption|omega|rfl) only [↓gp,gc,Nat.reduceAdd,zcg,z6m,za7,hd,lk0,lk3,zp3,zQ]
  exact ⟨rfl,_,rfl,rfl,rfl⟩
theorem znf (S:zA) (d r:Nat) (vs:List V) (f w q:Int) (lit:Bool) (no:Int) (h:DskAt S d r vs f lit false w q) (hn:no < 0 ∨ no ≥ vs.length):EvS cfg 78 [.ref d 0 0,.d (.int .i64 no)] S (fun o S'=>S'=S ++ [.row [.ref d 0 0] 60,.row [blkV (zK 256)] 42]∧o = .ret (.tup [blkV (zK 256),.d (.int .i64 2)])):=by
 refine zbh rfl zql ?_
 show Wp cfg (Tryz.f78.body.getD .skip) ((.ref d 0 0)::(.d (.int .i64 no))::uZ ((.tup [])::(.tup [])::(.tup [])::(.tup [])::(.tup [])::(.tup [])::(.tup [])::(.tup [])::(.tup [])::[])) S [] _
 unfold uZ
 conv=>arg 2; whnf
 rw [zO]
 generalize ha:S.length=a
 have l0:=z256
 have hm:=fun {ops dst k T F Q} l=>zF (ops:=ops) (dst:=dst) (l:=k) (T:=T) (F:=F) (Q:=Q) rfl (zre (S ++ l) d r vs f w q lit no h.app hn)
 simp (maxSteps:=1000000) (disch:=first|assumption|omega|rfl) only [↓gp,gc,Nat.reduceAdd,ft26,z42,zf42,List.append_assoc,List.length_append,List.length_cons,List.length_nil,ha,rA0 ha,rA1 ha,pA1 ha,lr26,hm,zi2,z9e,zl4,zQ]
 exact ⟨.inr rfl,_,_,rfl,zll rfl ((zJ (rA1 ha)).trans (z9e z256)) rfl rfl rfl,rfl,rfl⟩
theorem zkx (S:zA) (c r m:Nat) (C:CS) (h0:CacheAt S c r m C) (no:Int) (hn:no < 0 ∨ no ≥ C.img.length):EvS cfg 114 [.ref c 0 0,.d (.int .i64 no)] S (fun o S'=>Keep S S'∧o = .ret (.d (.int .i64 2))):=by
 obtain ⟨d,L,es,vs,f,z,w,q,h,hq⟩:=h0
 refine qE rfl zim ?_
 show Wp cfg (Tryz.f114.body.getD .skip) ((.ref c 0 0)::(.d (.int .i64 no))::uZ (uZ (uZ ((.tup [])::(.tup [])::(.tup [])::(.tup [])::(.tup [])::(.tup [])::(.tup [])::[])))) S [] _
 unfold uZ
 conv=>arg 2; whnf
 rw [zO]
 have hc : ∀ l,rowE (S ++ l) c 0=some (cacV d m L C.last):=fun l=>zD (e:=126) (by rw [List.getElem?_append_left (zL h.hc)]; exact h.hc)
 have hc0:=hc []
 rw [List.append_nil] at hc0
 have hlk:=(h.hm.look zgs no).1
 generalize ha:S.length=a
 cases hf:f no with
 | some v =>
  obtain ⟨k,b,hk,hb,hv⟩:=h.kn _ _ hf
  have:=(List.getElem?_eq_some_iff.1 hb).1
  omega
 | none =>
  rw [hf] at hlk
  simp only [Option.getD_none,Option.isSome_none] at hlk
  have l0:=z256
  have h1:=h.keep (S':=S ++ [.row [blkV (zK 256)] 42]) Keep.refl.app
  have hrd:=fun {ops dst k T F Q}=>zF (ops:=ops) (dst:=dst) (l:=k) (T:=T) (F:=F) (Q:=Q) rfl (znf _ d r vs z w q false no h1.dk (by rw [h.il]; exact hn))
  generalize hl3:(S ++ [Ob.row [blkV (zK 256)] 42] ++ [.row [.ref d 0 0] 60,.row [blkV (zK 256)] 42])=S3 at hrd
  have hK:Keep S S3:=hl3 ▸ Keep.refl.app.app
  generalize ha3:S3.length=a3
  simp (maxSteps:=1000000) (disch:=first|assumption|omega|rfl) only [↓gp,gc,Nat.reduceAdd,z45,z28,zeg,hc0,hc,lc0,lc1,hlk,z42,zf42,ha,rA0 ha,pA0 ha,zl4,hrd,bo78,ha3,rA0 ha3,pA0 ha3]
  exact ⟨rfl,_,rfl,hK.app,rfl⟩
def putE (C:CS) (no:Int) (a:Int) (b:List UInt8) (l:List Int):Int:=if ¬ kG a b then 1 else if ¬ (∀ x ∈ l,1 ≤ x∧x ≤ (C.last:Int)) then 1 else if no < 0 ∨ no ≥ C.img.length then 2 else 0
theorem zoz (S:zA) (c r m:Nat) (C:CS) (h0:CacheAt S c r m C) (no:Int) (p dv:V) (a:Int) (b:List UInt8) (hp:PatV S p dv a b) (ha:InB a) (nd:V) (l:List Int) (hnd:OwnS S nd 3 (zU l)) (hl:l.length ≤ 17592186044416) (he:putE C no a b l ≠ 0) :
  EvS cfg 97 [.ref c 0 0,.d (.int .i64 no),p,nd] S (fun o S'=>Keep S S'∧o = .ret (.tup [.d (.int .i64 0),.d (.int .i64 (putE C no a b l))])):=by
 refine qE rfl zqh ?_
 show Wp cfg (Tryz.f97.body.getD .skip) ((.ref c 0 0)::(.d (.int .i64 no))::p::nd::uZ (uZ (uZ (uZ (uZ (uZ ((.tup [])::(.tup [])::(.tup [])::[]))))))) S [] _
 unfold uZ
 conv=>arg 2; whnf
 rw [zO]
 generalize hal:S.length=al
 have hft:=hp.ft
 have hl0:=hp.l0
 have hp1:=hp.one
 have hk0:Keep S (S ++ [.row [p] 78]):=Keep.refl.app
 have hp0:PatV (S ++ [.row [p] 78]) p dv a b:=hp.frm (ts:=[]) (ms:=[]) (r:=0) (Frm.keep hk0) rfl
 have hck:=fun {ops dst k T F Q}=>z0p (ops:=ops) (dst:=dst) (k:=k) (T:=T) (F:=F) (Q:=Q) hp0 ha
 by_cases hpk:kG a b
 ·rw [if_pos hpk] at hck
  have hd1:=qG hnd
  obtain ⟨o,S1,⟨hK1,hor⟩,hE⟩:=qC (zaa _ c r m C (h0.keep hk0) nd l (hk0.own hnd) hl)
  by_cases hrg : ∀ x ∈ l,1 ≤ x∧x ≤ (C.last:Int)
  ·obtain ⟨nv,rfl,hnv⟩ : ∃ nv,o = .ret (.tup [nv,.d (.bool true)])∧OwnS S1 nv 3 (zU (vA C l)):=by
    rcases hor with ⟨_,h⟩ | ⟨h,_⟩
    ·exact h
    ·exact absurd hrg h
   have hE:=fun {ops dst k T F Q}=>zF (ops:=ops) (dst:=dst) (l:=k) (T:=T) (F:=F) (Q:=Q) rfl hE
   have hno:no < 0 ∨ no ≥ C.img.length:=by
    by_cases h:no < 0 ∨ no ≥ C.img.length
    ·exact h
    ·exact absurd (by unfold putE; rw [if_neg (fun hh=>hh hpk),if_neg (fun hh=>hh hrg),if_neg h]) he
   have hpe:putE C no a b l=2:=by unfold putE; rw [if_neg (fun hh=>hh hpk),if_neg (fun hh=>hh hrg),if_pos hno]
   obtain ⟨o2,S2,⟨hK2,rfl⟩,hE2⟩:=qC (zkx S1 c r m C ((h0.keep hk0).keep hK1) no hno)
   have hE2:=fun {ops dst k T F Q}=>zF (ops:=ops) (dst:=dst) (l:=k) (T:=T) (F:=F) (Q:=Q) rfl hE2
   have hnv1:=qG hnv
   rw [hpe]
   simp (maxSteps:=1000000) (disch:=first|assumption|omega|rfl) only [↓gp,gc,Nat.reduceAdd,hft,hal,rA0 hal,hl0,hp1,hck,z96,z45,hE,zn4,hd1,hnv1,wH,Bool.not_true,hE2,zni,zQ]
   exact ⟨rfl,_,z0z rfl rfl rfl rfl,(hk0.trans hK1).trans hK2,rfl⟩
  ·have hor:o = .ret (.tup [.ts [],.d (.bool false)]):=by
    rcases hor with ⟨h,_⟩ | ⟨_,h⟩
    ·exact absurd h hrg
    ·exact h
   subst hor
   have hE:=fun {ops dst k T F Q}=>zF (ops:=ops) (dst:=dst) (l:=k) (T:=T) (F:=F) (Q:=Q) rfl hE
   have hpe:putE C no a b l=1:=by unfold putE; rw [if_neg (fun hh=>hh hpk),if_pos hrg]
   rw [hpe]
   simp (maxSteps:=1000000) (disch:=first|assumption|omega|rfl) only [↓gp,gc,Nat.reduceAdd,hft,hal,rA0 hal,hl0,hp1,hck,z96,z45,hE,zn4,hd1,wH,Bool.not_false,zQ]
   exact ⟨rfl,_,z0z rfl rfl rfl rfl,hk0.trans hK1,rfl⟩
 ·rw [if_neg hpk] at hck
  have hpe:putE C no a b l=1:=by unfold putE; rw [if_pos hpk]
  rw [hpe]
  simp (maxSteps:=1000000) (disch:=first|assumption|omega|rfl) only [↓gp,gc,Nat.reduceAdd,hft,hal,rA0 hal,hl0,hp1,hck,z96,z45,zQ]
  exact ⟨rfl,_,z0z rfl rfl rfl rfl,hk0,rfl⟩
end Go.Proofs.YtobgdmgldagjkaaGreat
end
