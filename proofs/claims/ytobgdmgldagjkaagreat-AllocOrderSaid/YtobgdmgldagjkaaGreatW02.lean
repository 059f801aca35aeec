/- The value machine: rows and maps that are marked stay. -/
import Derived.Laws.Cells
import Derived.Laws.Strings
import Derived.Laws.StructEq
import Derived.ChangeKeysEq
import Derived.Laws.CopyRow
import Derived.Deep.AppendSrc
import Derived.Deep.Upon
import Derived.Laws.BytesString
import Derived.IntWalk
import Derived.Lib.ConvBytes
import Derived.Test.YtobgdmgldagjkaaGreatW01
set_option linter.unusedVariables false
set_option linter.unusedSimpArgs false
section
namespace Go.Vm
section
variable {P:Program} {S:zA} {ρ:Nat→Nat} {A:Nat→Prop} {w:World}
theorem zdr {S0:zA} {all:List Nat} : ∀ {ids:List Nat} {S1 S2:zA},mark S0 all S1 ids=some S2→S2.length=S1.length ∧
  (∀ i,i ∈ ids→i < S1.length → ∃ o o',S0[i]? = some o∧z3e S0 o=some o'∧(∀ j ∈ z9d S0 o,j ∈ all)∧S2[i]? = some o')∧(∀ i,i ∉ ids→S2[i]? = S1[i]?)
 | [],S1,S2,h=>by
  simp only [mark,Option.some.injEq] at h; subst h
  exact ⟨rfl,fun i hi=>by simp at hi,fun _ _=>rfl⟩
 | id::r,S1,S2,h=>by
  simp only [mark] at h
  cases ho:S0[id]? with
  | none=>simp [ho] at h
  | some o =>
   simp only [ho] at h
   cases hf:z3e S0 o with
   | none=>simp [hf] at h
   | some o' =>
    simp only [hf] at h
    split at h
    ·rename_i hall
     obtain ⟨h1,h2,h3⟩:=zdr h
     refine ⟨by simpa using h1,fun i hi hil=>?_,fun i hi=>?_⟩
     ·by_cases hir:i ∈ r
      ·exact h2 i hir (by simpa using hil)
      ·have hid:i=id:=by simpa [hir] using hi
       subst hid
       refine ⟨o,o',ho,hf,?_,?_⟩
       ·intro j hj
        simp only [List.all_eq_true,List.contains_iff_mem] at hall
        exact hall j hj
       ·rw [h3 i hir,List.getElem?_set_self hil]
     ·simp only [List.mem_cons,not_or] at hi
      rw [h3 i hi.2,List.getElem?_set_ne (fun h=>hi.1 h.symm)]
    ·cases h
def stay (S:zA) (ρ:Nat→Nat) (A:Nat→Prop) (ids:List Nat) (b:Nat):Prop :=
 A b ∨ ∃ id ∈ ids,∃ o,S[id]? = some o∧o.live=true∧(∀ s p,o ≠ .iter s p)∧ρ id=b
theorem z09 {ids:List Nat} : ∀ b,A b→stay S ρ A ids b:=fun _ h=>.inl h
theorem z4b {n:Nat} {v:V} {id:Nat} (h:id ∈ frzIds S n v) : ∃ o,S[id]? = some o∧o.live=true ∧ ∀ s p,o ≠ .iter s p:=by
 induction n generalizing v with
 | zero=>simp [frzIds] at h
 | succ n ih =>
  have many : ∀ {xs:List V},id ∈ xs.flatMap (frzIds S n) → ∃ o,S[id]? = some o∧o.live=true ∧ ∀ s p,o ≠ .iter s p:=fun {xs} h=>by
   obtain ⟨y,_,hy⟩:=List.mem_flatMap.1 h
   exact ih hy
  cases v <;> simp only [frzIds,List.not_mem_nil] at h
  ·split at h
   ·rename_i xs e ho
    rcases List.mem_cons.1 h with rfl | h
    ·exact ⟨_,ho,rfl,by simp⟩
    ·exact many h
   ·simp at h
  ·split at h
   ·rename_i xs e ho
    rcases List.mem_cons.1 h with rfl | h
    ·exact ⟨_,ho,rfl,by simp⟩
    ·exact many h
   ·simp at h
  ·split at h
   ·rename_i xs e ho
    rcases List.mem_cons.1 h with rfl | h
    ·exact ⟨_,ho,rfl,by simp⟩
    ·exact many h
   ·simp at h
  ·split at h
   ·rename_i es c ho
    rcases List.mem_cons.1 h with rfl | h
    ·exact ⟨_,ho,rfl,by simp⟩
    ·obtain ⟨e,_,he⟩:=List.mem_flatMap.1 h
     exact ih he
   ·simp at h
  ·exact many h
  ·exact ih h
  ·rcases List.mem_append.1 h with h | h <;> exact many h
theorem z0n {ids:List Nat} {n:Nat} {v:V} {id:Nat} (h:id ∈ frzIds S n v) (hin:id ∈ ids):stay S ρ A ids (ρ id):=by
 obtain ⟨o,h1,h2,h3⟩:=z4b h
 exact .inr ⟨id,hin,o,h1,h2,h3,rfl⟩
theorem zfx (hI:Inv P S ρ A w) {ids:List Nat} : ∀ {args:List V} {ds:List D} {us:List Value},allO (frz S zG) args=some ds→qS P S ρ A w args us→(∀ i ∈ args.flatMap (frzIds S zG),i ∈ ids)→qS P [] ρ (stay S ρ A ids) w (ds.map .d) us
 | [],ds,us,h,hr,_=>by simp only [allO,Option.some.injEq] at h; subst h; simpa [qS] using hr
 | v::r,ds,us,h,hr,hq=>by
  obtain ⟨y,zs,h1,h2,rfl⟩:=wK h
  simp only [qS] at hr
  obtain ⟨u,ws,rfl,h3,h5⟩:=hr
  have hqi : ∀ i ∈ frzIds S zG v,stay S ρ A ids (ρ i):=fun i hi=>z0n hi (hq i (by simp [hi]))
  simp only [List.map_cons,qS]
  refine ⟨u,ws,rfl,jR.2 ?_,zfx hI h2 h5 (fun i hi=>hq i (by simp only [List.flatMap_cons,List.mem_append]; exact .inr hi))⟩
  rcases h3 with ⟨g1,us',g2,g3⟩ | ⟨g1,g3⟩
  ·obtain ⟨e1,e2⟩:=z63 hI z09 zG v y _ h1 g3 hqi
   exact .inl ⟨e2.trans g1,us',g2,e1⟩
  ·obtain ⟨e1,e2⟩:=z63 hI z09 zG v y _ h1 g3 hqi
   exact .inr ⟨e2.trans g1,e1⟩
theorem Inv.mark (h:Inv P S ρ A w) {ids:List Nat} {S2:zA} (hm:mark S ids S ids=some S2) (hk : ∀ id ∈ ids,∃ o,S[id]? = some o∧o.live=true ∧ ∀ s p,o ≠ .iter s p) :
  Inv P S2 ρ (stay S ρ A ids) w∧Step S ρ A w S2 ρ (stay S ρ A ids) w:=by
 obtain ⟨hlen,hin,hout⟩:=zdr hm
 have lt_of : ∀ {id:Nat} {x:Ob},S[id]? = some x→id < S.length:=fun {id x} hx=>by
  rcases Nat.lt_or_ge id S.length with h' | h'
  ·exact h'
  ·simp [List.getElem?_eq_none h'] at hx
 have hQ : ∀ (o:Ob),(∀ j ∈ z9d S o,j ∈ ids) → ∀ {n:Nat} {v:V} {i:Nat},i ∈ frzIds S n v→i ∈ z9d S o→stay S ρ A ids (ρ i):=fun o ho n v i hi hio=>z0n hi (ho i hio)
 have now : ∀ id x,S2[id]? = some x→(id ∉ ids∧S[id]? = some x) ∨ (id ∈ ids ∧ ∃ o,S[id]? = some o∧o.live=true∧z3e S o=some x∧(∀ j ∈ z9d S o,j ∈ ids)):=by
  intro id x hx
  by_cases hi:id ∈ ids
  ·obtain ⟨o,h1,h2,_⟩:=hk id hi
   obtain ⟨o1,o',h3,h4,h5,h6⟩:=hin id hi (lt_of h1)
   rw [h1] at h3; cases h3
   rw [h6] at hx; cases hx
   exact .inr ⟨hi,o,h1,h2,h4,h5⟩
  ·exact .inl ⟨hi,by rw [← hout id hi]; exact hx⟩
 have dead_or : ∀ o x,z3e S o=some x→o.live=true→x.live=false:=by
  intro o x hf hl
  cases o <;> simp only [Ob.live,Bool.false_eq_true] at hl <;> simp only [z3e,reduceCtorEq] at hf
  ·obtain ⟨ds,_,rfl⟩:=Option.map_eq_some_iff.1 hf; rfl
  ·obtain ⟨ds,_,rfl⟩:=Option.map_eq_some_iff.1 hf; rfl
 have hs:SLe S ρ w S2 ρ w:=fun id x hx hnh=>by
  by_cases hi:id ∈ ids
  ·obtain ⟨o1,o',h3,h4,h5,h6⟩:=hin id hi (lt_of hx)
   rw [hx] at h3; cases h3
   refine ⟨o',h6,?_,.inr ⟨rfl,fun c e f hc=>⟨c,e,f,hc,rfl⟩⟩⟩
   cases x <;> simp only [z3e,reduceCtorEq,Option.some.injEq] at h4
   ·obtain ⟨ds,h1,rfl⟩:=Option.map_eq_some_iff.1 h4; exact ⟨(z1b h1).1,rfl⟩
   ·obtain ⟨ds,h1,rfl⟩:=Option.map_eq_some_iff.1 h4; trivial
   ·subst h4; exact Ob.le_refl _
   ·subst h4; exact Ob.le_refl _
   ·subst h4; exact Ob.le_refl _
   ·exact absurd rfl hnh
  ·exact ⟨x,by rw [hout id hi]; exact hx,x.le_refl,.inr ⟨rfl,fun c e f hc=>⟨c,e,f,hc,rfl⟩⟩⟩
 refine ⟨⟨fun id x hx=>?_,fun i j x y hx hy hxl hyl hij=>?_,fun i x hx hxl=>?_,fun b hb=>?_,h.gl.step z09 (fun _ _=>rfl)⟩,⟨rfl,rfl,rfl,Nat.le_refl _,fun _ _ _=>rfl,fun _ _=>rfl,z09,fun b hb=>?_,fun b hb=>?_,hs⟩⟩
 ·rcases now id x hx with ⟨_,hx'⟩ | ⟨hi,o,ho,hl,hf,hcl⟩
  ·exact (h.ok id x hx').mono z09 (fun _ _=>rfl) hs (fun _=>rfl)
  ·have hok:=h.ok id o ho
   have hst:stay S ρ A ids (ρ id):= .inr ⟨id,hi,o,ho,hl,by
    obtain ⟨o',h1,_,h3⟩:=hk id hi
    rw [ho] at h1; cases h1; exact h3,rfl⟩
   cases o <;> simp only [Ob.live,Bool.false_eq_true] at hl <;> simp only [z3e,reduceCtorEq] at hf
   ·rename_i xs e
    cases h1:allO (frz S zG) xs with
    | none=>simp [h1] at hf
    | some ds =>
     simp only [h1,Option.map_some,Option.some.injEq] at hf; subst hf
     simp only [ObOk] at hok ⊢
     obtain ⟨k,c,us,rest,g1,g2,g3,g4⟩:=hok
     exact ⟨k,c,_,us,rest,g1,hst,g2,g3,frzE (ids:=frzIds S zG) (z63 h z09 zG) k h1 g4 (fun i hi'=>by
      obtain ⟨y,_,hy⟩:=List.mem_flatMap.1 hi'
      exact z0n hy (hcl i hi'))⟩
   ·rename_i es clock
    cases h1:allO (fun (e:D × V × Nat)=>(frz S zG e.2.1).map fun x=>(e.1,x)) es with
    | none=>simp [h1] at hf
    | some ds =>
     simp only [h1,Option.map_some,Option.some.injEq] at hf; subst hf
     simp only [ObOk] at hok ⊢
     obtain ⟨en,g1,g2,_⟩:=hok
     exact ⟨en,clock,hst,g1,frzM (ids:=frzIds S zG) z09 (z63 h z09 zG) h1 g2 (fun i hi'=>by
      obtain ⟨y,_,hy⟩:=List.mem_flatMap.1 hi'
      exact z0n hy (hcl i hi'))⟩
 ·rcases now i x hx with ⟨_,hx'⟩ | ⟨_,o,ho,hl,hf,_⟩
  ·rcases now j y hy with ⟨_,hy'⟩ | ⟨_,o,ho,hl,hf,_⟩
   ·exact h.inj i j x y hx' hy' hxl hyl hij
   ·rw [dead_or o y hf hl] at hyl; cases hyl
  ·rw [dead_or o x hf hl] at hxl; cases hxl
 ·rcases now i x hx with ⟨hi,hx'⟩ | ⟨_,o,ho,hl,hf,_⟩
  ·intro hb
   rcases hb with hb | ⟨id,hid,o,ho,hl,_,he⟩
   ·exact h.own i x hx' hxl hb
   ·have:=h.inj id i o x ho hx' hl hxl he
    subst this; exact hi hid
  ·rw [dead_or o x hf hl] at hxl; cases hxl
 ·rcases hb with hb | ⟨id,_,o,ho,hl,_,rfl⟩
  ·exact h.lt b hb
  ·exact (h.ok id o ho).lt (by rintro rfl; cases hl) (by rintro rfl; cases hl)
 ·rcases hb with hb | ⟨id,_,o,ho,hl,_,rfl⟩
  ·exact .inl hb
  ·exact .inr (.inl ⟨id,o,ho,hl,rfl⟩)
 ·obtain ⟨id,x,hx,hxl,rfl⟩:=hb
  rcases now id x hx with ⟨_,hx'⟩ | ⟨_,o,ho,hl,hf,_⟩
  ·exact .inl ⟨id,x,hx',hxl,rfl⟩
  ·rw [dead_or o x hf hl] at hxl; cases hxl
theorem zce {A B:Nat→Prop} {x:D} (h:x.plain=true) {us:List Value} (hr:RepC A w x us):RepC B w x us:=by
 have leaf : ∀ (y:D) (vs:List Value),(match y with | .sl _ | .map _ | .iface .. | .agg _ | .ptr _ | .fn .. => false | _=>true)=true→RepC A w y vs→RepC B w y vs:=by
  intro y vs hy hr
  cases y <;> simp only [Bool.false_eq_true] at hy <;> simpa only [RepC] using hr
 cases x with
 | agg xs =>
  simp only [D.plain] at h
  simp only [RepC] at hr ⊢
  induction xs generalizing us with
  | nil=>simpa [RepL] using hr
  | cons y r ih =>
   simp only [List.all_cons,Bool.and_eq_true] at h
   simp only [RepL] at hr ⊢
   obtain ⟨v,ws,rfl,h2,h3,h4⟩:=hr
   exact ⟨v,ws,rfl,h2,leaf y _ h.1 h3,ih h.2 h4⟩
 | iface t y =>
  simp only [D.plain] at h
  simp only [RepC] at hr ⊢
  obtain ⟨v,rfl,h3⟩:=hr
  refine ⟨v,rfl,?_⟩
  cases y <;> simp only [Bool.false_eq_true] at h <;> simpa [D.isAgg,RepC] using h3
 | sl _=>simp [D.plain] at h
 | map _=>simp [D.plain] at h
 | ptr _=>simp [D.plain] at h
 | fn _ _ _=>simp [D.plain] at h
 | _=>simpa only [RepC] using hr
end
section
variable {P:Program} {S:zA} {ρ:Nat→Nat} {A:Nat→Prop} {w:World}
theorem z9o {α:Type} {l:List α} {i:Nat} {v:α} (h:l[i]? = some v):(l.drop i).take 1=[v]:=by
 induction l generalizing i with
 | nil=>simp at h
 | cons x r ih =>
  cases i with
  | zero=>simp at h; simp [h]
  | succ i=>simp at h; simpa using ih h
theorem z2i {t:TypeId} {k:Nat} (h:sz P t=some k) : ∃ i d,P.info? t=some i∧i.size=k∧P.underlying t=some d:=by
 unfold sz at h
 cases hu:P.underlying t with
 | none=>simp [hu] at h
 | some d =>
  simp only [hu] at h
  obtain ⟨i,hi,rfl⟩:=Option.map_eq_some_iff.1 h
  exact ⟨i,d,hi,rfl,rfl⟩
theorem run_sizeOf {t:TypeId} {k:Nat} (h:sz P t=some k) (w:World):(sizeOf t).run P w = .ok k w:=by
 obtain ⟨i,d,hi,rfl,_⟩:=z2i h
 simp [sizeOf,typeInfo,hi]
theorem vX {t:TypeId} {k:Nat} (h:sz P t=some k) (w:World):(isAgg t).run P w = .ok (aggT P t) w:=by
 obtain ⟨i,d,_,_,hu⟩:=z2i h
 simp only [isAgg,Sem.run_bind,run_underlying hu,Result.andThen_ok,aggT,hu]
 cases d <;> rfl
theorem CellsAt.cell {b off:Nat} {vs:List Value} (h:CellsAt w b off vs) {j:Nat} {v:Value} (hj:vs[j]? = some v):w.cell? ((⟨b,off,none⟩:Addr).add j)=some v:=by
 obtain ⟨c,e,f,h1,h2⟩:=h
 rw [Addr.add_lit]
 simp [World.cell?,h1,h2 j v hj]
theorem CellsAt.take {b off:Nat} {vs:List Value} (h:CellsAt w b off vs) (n m:Nat):CellsAt w b (off + n) ((vs.drop n).take m):=by
 obtain ⟨c,e,f,h1,h2⟩:=h
 refine ⟨c,e,f,h1,fun i v hv=>?_⟩
 rw [List.getElem?_take] at hv
 split at hv
 ·rw [List.getElem?_drop] at hv
  rw [Nat.add_assoc]; exact h2 _ v hv
 ·cases hv
theorem z87 {t:TypeId} {vs:List Value} (hsz:sz P t=some vs.length) (hg:aggT P t=true) {b off:Nat} (hc:CellsAt w b off vs):(loadVar t ⟨b,off,none⟩).run P w = .ok (.agg vs.toArray) w:=by
 have hl:=run_loadCells_list (P:=P) w ⟨b,off,none⟩ vs (fun j v hv=>hc.cell hv)
 simp [loadVar,vX hsz,hg,run_sizeOf hsz,hl]
theorem z6w {t:TypeId} {k:Nat} (hsz:sz P t=some k) (hg:aggT P t=false) {v:Value} {b off:Nat} (hc:CellsAt w b off [v]):(loadVar t ⟨b,off,none⟩).run P w = .ok v w:=by
 have h0:=hc.cell (j:=0) (v:=v) rfl
 rw [Addr.add_zero'] at h0
 simp [loadVar,vX hsz,hg,h0]
theorem wD {t:TypeId} {x:V} {us:List Value} (hsz:sz P t=some x.cells.length) (hg:x.isAgg=aggT P t) {b off:Nat} (hc:CellsAt w b off us) (hr:zR P S ρ A w x us) :
  ∃ v,(loadVar t ⟨b,off,none⟩).run P w = .ok v w∧RepW P S ρ A w x v:=by
 have hl:=qY hr
 cases hx:x.isAgg with
 | true =>
  exact ⟨_,z87 (by rw [hsz,hl]) (hg ▸ hx) hc,.inl ⟨hx,_,rfl,by simpa using hr⟩⟩
 | false =>
  rw [z20 hx] at hl
  obtain ⟨v,rfl⟩:=List.length_eq_one_iff.1 hl
  exact ⟨v,z6w hsz (hg ▸ hx) hc,.inr ⟨hx,hr⟩⟩
theorem zdt {t:TypeId} {cs:List V} {off:Nat} {y:V} {us:List Value} (h:z7j P t cs off=some y) (hr:jA P S ρ A w cs us) :
  ∃ n,sz P t=some n∧off + n ≤ us.length∧zR P S ρ A w y ((us.drop off).take n)∧y.isAgg=aggT P t∧y.cells.length=n:=by
 unfold z7j at h
 cases hs:sz P t with
 | none=>simp [hs] at h
 | some n =>
  simp only [hs] at h
  have hl:=z2a hr
  split at h
  ·rename_i hle
   split at h
   ·rename_i hg
    simp only [Option.some.injEq] at h; subst h
    refine ⟨n,rfl,by omega,?_,by simp [V.isAgg,hg],by simp [V.cells]; omega⟩
    simp only [zR]
    exact z0i n (z0h off hr)
   ·rename_i hg
    split at h
    ·rename_i hn
     subst hn
     obtain ⟨v,hv,h1,h2⟩:=zdp hr off y h
     refine ⟨1,rfl,by omega,?_,by simp [h1,hg],by simp [z20 h1]⟩
     rw [z9o hv]; exact h2
    ·cases h
  ·cases h
theorem z4n {t:TypeId} {cs:List D} {off:Nat} {y:D} {us:List Value} (h:z65 P t cs off=some y) (hr:RepL A w cs us) :
  ∃ n,sz P t=some n∧off + n ≤ us.length∧RepC A w y ((us.drop off).take n)∧y.isAgg=aggT P t∧y.cells.length=n:=by
 unfold z65 at h
 cases hs:sz P t with
 | none=>simp [hs] at h
 | some n =>
  simp only [hs] at h
  have hl:=z3p hr
  split at h
  ·rename_i hle
   split at h
   ·rename_i hg
    simp only [Option.some.injEq] at h; subst h
    refine ⟨n,rfl,by omega,?_,by simp [D.isAgg,hg],by simp [D.cells]; omega⟩
    simp only [RepC]
    exact z2g n (z2b off hr)
   ·rename_i hg
    split at h
    ·rename_i hn
     subst hn
     obtain ⟨v,hv,h1,h2⟩:=z78 hr off y h
     refine ⟨1,rfl,by omega,?_,by simp [h1,hg],by simp [z0v h1]⟩
     rw [z9o hv]; exact h2
    ·cases h
  ·cases h
theorem z9n {t:TypeId} {cs:List V} {off:Nat} {y:V} {us:Array Value} (h:z7j P t cs off=some y) (hr:jA P S ρ A w cs us.toList) :
  ∃ v,(part t us off).run P w = .ok v w∧RepW P S ρ A w y v:=by
 obtain ⟨n,hs,hle,hy,hg,hn⟩:=zdt h hr
 cases hx:y.isAgg with
 | true =>
  refine ⟨.agg (us.extract off (off + n)),by simp [part,vX hs,← hg,hx,run_sizeOf hs],.inl ⟨hx,_,rfl,?_⟩⟩
  simpa [List.extract_eq_take_drop] using hy
 | false =>
  have hl:=qY hy
  rw [z20 hx] at hl hn
  simp at hn
  subst hn
  obtain ⟨v,hv⟩:=List.length_eq_one_iff.1 hl
  rw [hv] at hy
  have hget:us[off]? = some v:=by
   have:((us.toList.drop off).take 1)[0]? = some v:=by rw [hv]; rfl
   simpa using this
  exact ⟨v,by simp [part,vX hs,← hg,hx,hget],.inr ⟨hx,hy⟩⟩
def zen (P:Program) (S:zA) (ρ:Nat→Nat) (A:Nat→Prop) (w:World) (r:Result Next):Rs→Prop
 | .val v S' _=>∃ u w' ρ' A',r = .ok (.value u) w'∧Inv P S' ρ' A' w'∧Step S ρ A w S' ρ' A' w'∧RepV P S' ρ' A' w' v u
 | .skip S' _=>∃ w' ρ' A',r = .ok .skip w'∧Inv P S' ρ' A' w'∧Step S ρ A w S' ρ' A' w'
 | .enter f args=>∃ us,r = .ok (.enter f us) w∧qS P S ρ A w args us.toList
 | .dfr f args=>∃ d fv cap us,r = .ok (.defer d) w∧d.target = .fn fv cap∧(∀ w2,(invoke d.target d.args).run P w2 = .ok (.enter f us) w2)∧qS P S ρ A w args us.toList
 | .pan v=>∃ u,r = .halt (.panic u) w∧RepW P S ρ A w v u
theorem jB (hI:Inv P S ρ A w) {r:Result Next} {u:Value} {v:V} {c:Nat} (h:r = .ok (.value u) w) (hv:RepV P S ρ A w v u):zen P S ρ A w r (.val v S c) :=
 ⟨u,w,ρ,A,h,hI,.refl,hv⟩
theorem zc8 (hI:Inv P S ρ A w) {t:TypeId} {x y:V} {u:Value} (h:kN P S t x=some y) (hx:RepV P S ρ A w x u) : ∃ v,(Instr.loadAt t u).run P w = .ok v w∧RepW P S ρ A w y v:=by
 unfold kN at h
 split at h
 ·rename_i id ix off
  have hx:=(zH rfl).1 ((zZ rfl).1 hx)
  simp only [zR,List.cons.injEq,and_true] at hx
  obtain ⟨a,rfl,hpl⟩:=hx
  cases ho:S[id]? with
  | none=>simp [ho] at h
  | some o =>
   have hok:=hI.ok id o ho
   simp only [RefPl,ho] at hpl
   simp only [ho] at h
   cases o with
   | row xs e =>
    simp only at h hpl
    cases hxi:xs[ix]? with
    | none=>simp [hxi] at h
    | some z =>
     simp only [hxi] at h
     obtain ⟨k,hk,rfl,hlt⟩:=hpl
     simp only [ObOk] at hok
     obtain ⟨k',c,us,rest,hk',hh,hcl,hre⟩:=hok
     rw [hk] at hk'; cases hk'
     obtain ⟨g1,g2⟩:=z1d hre ix z hxi
     have hcat:CellsAt w (ρ id) (ix * k) ((us.drop (ix * k)).take k):=qM hh hcl (ix * k) k
     simp only [Instr.loadAt,Instr.sureAddr,Sem.run_bind,Sem.run_pure,Result.andThen_ok]
     split at h
     ·rename_i hf
      simp only [Option.some.injEq] at h; subst h
      simp only [Bool.and_eq_true,decide_eq_true_eq,qA,beq_iff_eq] at hf
      obtain ⟨rfl,⟨_,hf1⟩,hf2⟩:=hf
      exact wD hf2 hf1 hcat g1
     ·obtain ⟨n,hs,hle,hy,hg,hn⟩:=zdt h (kO g1)
      have:=hcat.take off n
      exact wD (by rw [hs,hn]) hg this hy
   | fz xs e =>
    simp only at h hpl
    cases hxi:xs[ix]? with
    | none=>simp [hxi] at h
    | some z =>
     simp only [hxi] at h
     obtain ⟨k,hk,rfl,hlt⟩:=hpl
     simp only [ObOk] at hok
     obtain ⟨k',c,f,us,rest,hk',_,hh,hcl,hre⟩:=hok
     rw [hk] at hk'; cases hk'
     obtain ⟨g1,g2⟩:=z33 hre ix z hxi
     have hcat:CellsAt w (ρ id) (ix * k) ((us.drop (ix * k)).take k):=qM hh hcl (ix * k) k
     simp only [Instr.loadAt,Instr.sureAddr,Sem.run_bind,Sem.run_pure,Result.andThen_ok]
     split at h
     ·rename_i hf
      simp only [Option.some.injEq] at h; subst h
      simp only [Bool.and_eq_true,decide_eq_true_eq,z14,beq_iff_eq] at hf
      obtain ⟨rfl,hf1,hf2⟩:=hf
      exact wD (x:= .d z) (by simpa [V.cells] using hf2) (by simpa [V.isAgg] using hf1) hcat (by simpa [zR] using g1)
     ·obtain ⟨y',hy',rfl⟩:=Option.map_eq_some_iff.1 h
      obtain ⟨n,hs,hle,hy,hg,hn⟩:=z4n hy' (wI g1)
      have:=hcat.take off n
      exact wD (x:= .d y') (by rw [hs,← hn]; simp [V.cells]) (by simpa [V.isAgg] using hg) this (by simpa [zR] using hy)
   | _=>simp at h
 ·rename_i z
  split at h
  ·rename_i hf
   simp only [Option.some.injEq] at h; subst h
   have hx:=(zE rfl).1 (jK.1 hx)
   simp only [RepC,List.cons.injEq,and_true] at hx
   obtain ⟨⟨b,off,sp⟩,us,rfl,hsp,_,hc,hr⟩:=hx
   simp only at hsp; subst hsp
   simp only [z14,Bool.and_eq_true,beq_iff_eq] at hf
   simp only [Instr.loadAt,Instr.sureAddr,Sem.run_bind,Sem.run_pure,Result.andThen_ok]
   exact wD (x:= .d z) (by simpa [V.cells] using hf.2) (by simpa [V.isAgg] using hf.1) hc (by simpa [zR] using hr)
  ·cases h
 ·cases h
theorem zjh {x y:D} {t:TypeId} {o n:Nat} {b off:Nat} {us:List Value} (hs:sz P t=some n) (hp:z65 P t x.cells o=some y) (hA:A b) (hc:CellsAt w b off us) (hr:RepC A w x us) :
  RepX A w (.ptr y) (.pointer (some ⟨b,off + o,none⟩)):=by
 obtain ⟨n',hs',_,hy,_,_⟩:=z4n hp (wI hr)
 rw [hs] at hs'; cases hs'
 refine (zE rfl).2 ?_
 simp only [RepC]
 exact ⟨_,_,rfl,rfl,hA,hc.take o n,hy⟩
theorem z9f (hI:Inv P S ρ A w) {s:TypeId} {f:Nat} {x y:V} {u:Value} (h:zX P s f x=some y) (hx:RepV P S ρ A w x u) : ∃ v,(Instr.fieldAt s u f).run P w = .ok v w∧RepW P S ρ A w y v:=by
 unfold zX at h
 split at h
 ·rename_i id ix off
  have hx:=(zH rfl).1 ((zZ rfl).1 hx)
  simp only [zR,List.cons.injEq,and_true] at hx
  obtain ⟨a,rfl,hpl⟩:=hx
  split at h
  ·rename_i fs hu
   split at h
   ·rename_i fd hfd
    split at h
    ·rename_i n hs
     simp only [Option.some.injEq] at h; subst h
     have hrun:(Instr.fieldAt s (.pointer (some a)) f).run P w = .ok (.pointer (some (a.add fd.offset))) w:=by
      simp [Instr.fieldAt,run_underlying hu,hfd,Instr.sureAddr,fieldPlace,run_sizeOf hs]
     refine ⟨_,hrun,(zH rfl).2 ?_⟩
     simp only [zR]
     refine ⟨_,rfl,?_⟩
     unfold RefPl at hpl ⊢
     cases ho:S[id]? with
     | none=>simp [ho] at hpl
     | some o =>
      simp only [ho] at hpl ⊢
      cases o <;> first | exact hpl.elim | trivial | (obtain ⟨k,hk,rfl,hlt⟩:=hpl; exact ⟨k,hk,by rw [Addr.add_lit,Nat.add_assoc],hlt⟩)
    ·cases h
   ·cases h
  ·cases h
 ·rename_i z
  split at h
  ·rename_i fs hu
   split at h
   ·rename_i fd hfd
    split at h
    ·rename_i n hs
     split at h
     ·obtain ⟨y',hy',rfl⟩:=Option.map_eq_some_iff.1 h
      have hx:=(zE rfl).1 (jK.1 hx)
      simp only [RepC,List.cons.injEq,and_true] at hx
      obtain ⟨⟨b,off,sp⟩,us,rfl,hsp,hA,hc,hr⟩:=hx
      simp only at hsp; subst hsp
      refine ⟨.pointer (some ⟨b,off + fd.offset,none⟩),?_,jR.2 (zjh hs hy' hA hc hr)⟩
      simp [Instr.fieldAt,run_underlying hu,hfd,Instr.sureAddr,fieldPlace,run_sizeOf hs,Addr.add_lit]
     ·cases h
    ·cases h
   ·cases h
  ·cases h
 ·cases h
theorem z12 {v:V} {u:Value} (hg:v.isAgg=true) (h:RepW P S ρ A w v u) : ∃ us,u = .agg us∧jA P S ρ A w v.cells us.toList:=by
 rcases h with ⟨_,us,rfl,h⟩ | ⟨h,_⟩
 ·exact ⟨us,rfl,kO h⟩
 ·rw [hg] at h; cases h
theorem zhc {s:TypeId} {f:Nat} {x y:V} {u:Value} (h:z8m P s f x=some y) (hx:RepV P S ρ A w x u) : ∃ v,(Instr.field s u f).run P w = .ok v w∧RepW P S ρ A w y v:=by
 unfold z8m at h
 split at h
 ·rename_i hg
  have hx':RepW P S ρ A w x u:=(zZ (by cases x <;> simp_all [V.isAgg,V.one])).1 hx
  obtain ⟨us,rfl,hr⟩:=z12 hg hx'
  split at h
  ·rename_i fs hu
   split at h
   ·rename_i fd hfd
    have key : ∀ y,z7j P fd.type x.cells fd.offset=some y → ∃ v,(Instr.field s (.agg us) f).run P w = .ok v w∧RepW P S ρ A w y v:=fun y hy=>by
     obtain ⟨v,hv,hr'⟩:=z9n hy hr
     exact ⟨v,by simp [Instr.field,run_underlying hu,hfd,asAgg,hv],hr'⟩
    split at h
    ·rename_i z
     obtain ⟨y',hy',rfl⟩:=Option.map_eq_some_iff.1 h
     have hr2:RepL A w z.cells us.toList:=by
      rcases hx' with ⟨_,us',e,h1⟩ | ⟨h1,_⟩
      ·cases e; simp only [zR] at h1; exact wI h1
      ·rw [hg] at h1; cases h1
     obtain ⟨n,hs,hle,hy,hga,hn⟩:=z4n hy' hr2
     cases hya:y'.isAgg with
     | true =>
      refine ⟨.agg (us.extract fd.offset (fd.offset + n)),?_,jR.2 (.inl ⟨hya,_,rfl,by simpa [List.extract_eq_take_drop] using hy⟩)⟩
      simp [Instr.field,run_underlying hu,hfd,asAgg,part,vX hs,← hga,hya,run_sizeOf hs]
     | false =>
      have hl:=jU hy
      rw [z0v hya] at hl hn
      simp at hn
      subst hn
      obtain ⟨v,hv⟩:=List.length_eq_one_iff.1 hl
      rw [hv] at hy
      have hget:us[fd.offset]? = some v:=by
       have:((us.toList.drop fd.offset).take 1)[0]? = some v:=by rw [hv]; rfl
       simpa using this
      refine ⟨v,?_,jR.2 (.inr ⟨hya,hy⟩)⟩
      simp [Instr.field,run_underlying hu,hfd,asAgg,part,vX hs,← hga,hya,hget]
    ·exact key _ h
   ·cases h
  ·cases h
 ·cases h
end
section
variable {P:Program} {S:zA} {ρ:Nat→Nat} {A:Nat→Prop} {w:World}
theorem z8s {x:V} {i:Int} {u:Value} (h:intOf? x=some i) (hx:RepV P S ρ A w x u) : ∃ k,u = .int k i:=by
 unfold intOf? at h
 split at h
 ·rename_i k n
  simp only [Option.some.injEq] at h; subst h
  have:=(zE rfl).1 (jK.1 hx)
  simp only [RepC,List.cons.injEq,and_true] at this
  exact ⟨k,this⟩
 ·cases h
theorem z8p {xs:List D} {u:Value} (hx:RepX A w (.sl xs) u) : ∃ a cap,u = .slice a xs.length cap∧xs.length ≤ cap∧(xs=[] ∨ ∃ b off k us,a=some ⟨b,off,none⟩∧A b∧CellsAt w b off us∧RepE A w k xs us):=by
 have hx:=(zE rfl).1 hx
 simp only [RepC,List.cons.injEq,and_true] at hx
 obtain ⟨a,cap,rfl,h1,h2⟩:=hx
 refine ⟨a,cap,rfl,h1,h2.imp id ?_⟩
 rintro ⟨⟨b,off,sp⟩,k,us,rfl,hsp,h3,h4,h5⟩
 simp only at hsp; subst hsp
 exact ⟨b,off,k,us,rfl,h3,h4,h5⟩
theorem zd4 {xs:List D} {u:Value} (hx:RepV P S ρ A w (.ts xs) u) : ∃ a,u = .slice a xs.length xs.length∧RepX A w (.sl xs) u:=by
 have hx:=(zH rfl).1 ((zZ rfl).1 hx)
 simp only [zR,List.cons.injEq,and_true] at hx
 obtain ⟨a,rfl,h1⟩:=hx
 exact ⟨a,rfl,(zE rfl).2 h1⟩
theorem z5j {t:TypeId} {x:D} (h:z14 P t x=true):x.isAgg=aggT P t∧sz P t=some x.cells.length:=by
 simpa [z14] using h
theorem z1i {t:TypeId} {x:V} (h:qA P t x=true):x.one=true∧x.isAgg=aggT P t∧sz P t=some x.cells.length:=by
 simp only [qA,Bool.and_eq_true,beq_iff_eq] at h
 exact ⟨h.1.1,h.1.2,h.2⟩
theorem zoi {xs:List D} {i:Nat} {y:D} {k n:Nat} {b off:Nat} {us:List Value} (hy:xs[i]? = some y) (hn:y.cells.length=n) (hA:A b) (hc:CellsAt w b off us) (hr:RepE A w k xs us) :
  RepX A w (.ptr y) (.pointer (some ⟨b,off + i * n,none⟩)):=by
 obtain ⟨g1,g2⟩:=z33 hr i y hy
 have hk:k=n:=by
  have:=jU g1
  simp only [List.length_take,List.length_drop] at this
  omega
 subst hk
 refine (zE rfl).2 ?_
 simp only [RepC]
 exact ⟨_,_,rfl,rfl,hA,hc.take (i * k) k,g1⟩
theorem z97 (hI:Inv P S ρ A w) {t:TypeId} {x ix y:V} {u v:Value} (h:zM P S t x ix=some y) (hx:RepV P S ρ A w x u) (hi:RepV P S ρ A w ix v) : ∃ r,(Instr.indexAt t u v).run P w = .ok r w∧RepW P S ρ A w y r:=by
 unfold zM at h
 cases hin:intOf? ix with
 | none=>simp [hin] at h
 | some i =>
  obtain ⟨ik,rfl⟩:=z8s hin hi
  simp only [hin] at h
  split at h
  ·rename_i e hu
   have frozen : ∀ xs:List D,RepX A w (.sl xs) u→(if 0 ≤ i∧i < xs.length then match xs[i.toNat]? with | some y=>if z14 P e y then some (V.d (.ptr y)) else none | none=>none else none)=some y → ∃ r,(Instr.indexAt t u (.int ik i)).run P w = .ok r w∧RepW P S ρ A w y r:=by
    intro xs hx h
    obtain ⟨a,cap,rfl,_,h2⟩:=z8p hx
    split at h
    ·rename_i hb
     split at h
     ·rename_i z hz
      split at h
      ·rename_i hf
       simp only [Option.some.injEq] at h; subst h
       rcases h2 with h2 | ⟨b,off,k,us,rfl,hA,hc,hr⟩
       ·subst h2; simp at hz
       ·obtain ⟨hf1,hf2⟩:=z5j hf
        refine ⟨.pointer (some ⟨b,off + i.toNat * z.cells.length,none⟩),?_,jR.2 (zoi hz rfl hA hc hr)⟩
        simp [Instr.indexAt,run_underlying hu,asIntOf,hb,run_sizeOf hf2,Addr.add_lit]
      ·cases h
     ·cases h
    ·cases h
   split at h
   ·rename_i id off len
    split at h
    ·rename_i hb
     obtain ⟨hb,hrow,hsz⟩:=hb
     simp only [Option.some.injEq] at h; subst h
     have hx:=(zH rfl).1 ((zZ rfl).1 hx)
     simp only [zR,List.cons.injEq,and_true] at hx
     obtain ⟨a,cap,rfl,hpl⟩:=hx
     obtain ⟨k,hk⟩:=Option.isSome_iff_exists.1 hsz
     have fin : ∀ (n:Nat),(∃ k,sz P e=some k∧(a=some ⟨ρ id,off * k,none⟩ ∨ cap=0)∧off + len ≤ n∧len ≤ cap ∧ ∃ c e' f,w.heap[ρ id]? = some (.cells c e' f)∧(off + cap) * k ≤ c.size)→(Instr.indexAt t (.slice a len cap) (.int ik i)).run P w = .ok (.pointer (some ⟨ρ id,(off + i.toNat) * k + 0,none⟩)) w∧off + i.toNat < n:=by
      rintro n ⟨k',hk',ha,h3,h4,_⟩
      rw [hk] at hk'; cases hk'
      rcases ha with rfl | ha
      ·refine ⟨?_,by omega⟩
       simp [Instr.indexAt,run_underlying hu,asIntOf,hb,run_sizeOf hk,Addr.add_lit,Nat.add_mul]
      ·omega
     unfold RowPl at hpl
     unfold rowT at hrow
     cases ho:S[id]? with
     | none=>simp [ho] at hpl
     | some o =>
      simp only [ho] at hpl hrow
      cases o with
      | row xs e' =>
       simp only [beq_iff_eq] at hrow; subst hrow
       obtain ⟨h1,h2⟩:=fin _ hpl
       refine ⟨_,h1,(zH rfl).2 ?_⟩
       simp only [zR]
       exact ⟨_,rfl,by unfold RefPl; simp only [ho]; exact ⟨k,hk,rfl,h2⟩⟩
      | fz xs e' =>
       simp only [beq_iff_eq] at hrow; subst hrow
       obtain ⟨h1,h2⟩:=fin _ hpl
       refine ⟨_,h1,(zH rfl).2 ?_⟩
       simp only [zR]
       exact ⟨_,rfl,by unfold RefPl; simp only [ho]; exact ⟨k,hk,rfl,h2⟩⟩
      | _=>simp at hrow
    ·cases h
   ·rename_i id jx off len
    split at h
    ·rename_i hb
     obtain ⟨hb,hrow,hsz⟩:=hb
     simp only [Option.some.injEq] at h; subst h
     have hx:=(zH rfl).1 ((zZ rfl).1 hx)
     simp only [zR,List.cons.injEq,and_true] at hx
     obtain ⟨a,cap,rfl,hpl⟩:=hx
     have fin : ∀ (n:Nat) (e':TypeId),(∃ k,sz P e'=some k∧(a=some ⟨ρ id,jx * k + off,none⟩ ∨ cap=0)∧jx < n∧off + cap ≤ k∧len ≤ cap) → ∃ k,sz P e'=some k∧(Instr.indexAt t (.slice a len cap) (.int ik i)).run P w = .ok (.pointer (some ⟨ρ id,jx * k + (off + i.toNat),none⟩)) w∧jx < n:=by
      rintro n e' ⟨k',hk',ha,h3,h4,h5⟩
      rcases ha with rfl | ha
      ·refine ⟨k',hk',?_,h3⟩
       simp [Instr.indexAt,run_underlying hu,asIntOf,hb,run_sizeOf hsz,Addr.add_lit,Nat.add_assoc]
      ·omega
     unfold CellPl at hpl
     unfold rowB at hrow
     cases ho:S[id]? with
     | none=>simp [ho] at hpl
     | some o =>
      simp only [ho] at hpl hrow
      cases o with
      | row xs e' =>
       obtain ⟨k,hk,h1,h2⟩:=fin _ _ hpl
       refine ⟨_,h1,(zH rfl).2 ?_⟩
       simp only [zR]
       exact ⟨_,rfl,by unfold RefPl; simp only [ho]; exact ⟨k,hk,rfl,h2⟩⟩
      | fz xs e' =>
       obtain ⟨k,hk,h1,h2⟩:=fin _ _ hpl
       refine ⟨_,h1,(zH rfl).2 ?_⟩
       simp only [zR]
       exact ⟨_,rfl,by unfold RefPl; simp only [ho]; exact ⟨k,hk,rfl,h2⟩⟩
      | _=>simp at hrow
    ·cases h
   ·rename_i xs
    exact frozen xs (jK.1 hx) h
   ·rename_i xs
    obtain ⟨_,_,hx'⟩:=zd4 hx
    exact frozen xs hx' h
   ·cases h
  ·rename_i n e hu
   split at h
   ·rename_i k hk
    split at h
    ·rename_i hb
     split at h
     ·rename_i id jx off
      simp only [Option.some.injEq] at h; subst h
      have hx:=(zH rfl).1 ((zZ rfl).1 hx)
      simp only [zR,List.cons.injEq,and_true] at hx
      obtain ⟨a,rfl,hpl⟩:=hx
      refine ⟨.pointer (some (a.add (i.toNat * k))),by simp [Instr.indexAt,run_underlying hu,Instr.sureAddr,asIntOf,hb,run_sizeOf hk],(zH rfl).2 ?_⟩
      simp only [zR]
      refine ⟨_,rfl,?_⟩
      unfold RefPl at hpl ⊢
      cases ho:S[id]? with
      | none=>simp [ho] at hpl
      | some o =>
       simp only [ho] at hpl ⊢
       cases o <;> first | exact hpl.elim | trivial | (obtain ⟨k',hk',rfl,hlt⟩:=hpl; exact ⟨k',hk',by rw [Addr.add_lit,Nat.add_assoc],hlt⟩)
     ·rename_i z
      split at h
      ·obtain ⟨y',hy',rfl⟩:=Option.map_eq_some_iff.1 h
       have hx:=(zE rfl).1 (jK.1 hx)
       simp only [RepC,List.cons.injEq,and_true] at hx
       obtain ⟨⟨b,off,sp⟩,us,rfl,hsp,hA,hc,hr⟩:=hx
       simp only at hsp; subst hsp
       refine ⟨.pointer (some ⟨b,off + i.toNat * k,none⟩),?_,jR.2 (zjh hk hy' hA hc hr)⟩
       simp [Instr.indexAt,run_underlying hu,Instr.sureAddr,asIntOf,hb,run_sizeOf hk,Addr.add_lit]
      ·cases h
     ·cases h
    ·cases h
   ·cases h
  ·cases h
theorem z5z {t:TypeId} {cs:List D} {off:Nat} {y:D} {us:Array Value} (h:z65 P t cs off=some y) (hr:RepL A w cs us.toList) :
  ∃ v,(part t us off).run P w = .ok v w∧RepX A w y v:=by
 obtain ⟨n,hs,hle,hy,hga,hn⟩:=z4n h hr
 cases hya:y.isAgg with
 | true =>
  refine ⟨.agg (us.extract off (off + n)),?_,(.inl ⟨hya,_,rfl,by simpa [List.extract_eq_take_drop] using hy⟩)⟩
  simp [part,vX hs,← hga,hya,run_sizeOf hs]
 | false =>
  have hl:=jU hy
  rw [z0v hya] at hl hn
  simp at hn
  subst hn
  obtain ⟨v,hv⟩:=List.length_eq_one_iff.1 hl
  rw [hv] at hy
  have hget:us[off]? = some v:=by
   have:((us.toList.drop off).take 1)[0]? = some v:=by rw [hv]; rfl
   simpa using this
  refine ⟨v,?_,(.inr ⟨hya,hy⟩)⟩
  simp [part,vX hs,← hga,hya,hget]
theorem z9h {x:D} {u:Value} (hg:x.isAgg=true) (h:RepX A w x u) : ∃ us,u = .agg us∧RepL A w x.cells us.toList:=by
 rcases h with ⟨_,us,rfl,h⟩ | ⟨h,_⟩
 ·exact ⟨us,rfl,wI h⟩
 ·rw [hg] at h; cases h
theorem z2u {s:List UInt8} {u:Value} (h:RepV P S ρ A w (.d (.str s)) u):u = .string ⟨s.toArray⟩:=by
 have:=(zE rfl).1 (jK.1 h)
 simpa [RepC] using this
theorem vL {k:IntKind} {n:Int} {u:Value} (h:RepV P S ρ A w (.d (.int k n)) u):u = .int k n:=by
 have:=(zE rfl).1 (jK.1 h)
 simpa [RepC] using this
theorem z36 {b:Bool} {u:Value} (h:RepV P S ρ A w (.d (.bool b)) u):u = .bool b:=by
 have:=(zE rfl).1 (jK.1 h)
 simpa [RepC] using this
theorem z91 {k:IntKind} {n:Int}:RepW P S ρ A w (.d (.int k n)) (.int k n):=jR.2 ((zE rfl).2 (by simp [RepC]))
theorem zb9 {b:Bool}:RepW P S ρ A w (.d (.bool b)) (.bool b):=jR.2 ((zE rfl).2 (by simp [RepC]))
theorem zl9 {s:List UInt8}:RepW P S ρ A w (.d (.str s)) (.string ⟨s.toArray⟩):=jR.2 ((zE rfl).2 (by simp [RepC]))
theorem zhg {t:TypeId} {x ix y:V} {u v:Value} (h:z4z P t x ix=some y) (hx:RepV P S ρ A w x u) (hi:RepV P S ρ A w ix v) : ∃ r,(Instr.index t u v).run P w = .ok r w∧RepW P S ρ A w y r:=by
 unfold z4z at h
 cases hin:intOf? ix with
 | none=>simp [hin] at h
 | some i =>
  obtain ⟨ik,rfl⟩:=z8s hin hi
  simp only [hin] at h
  split at h
  ·rename_i hu
   split at h
   ·rename_i s
    split at h
    ·rename_i hb
     split at h
     ·rename_i b hbs
      simp only [Option.some.injEq] at h; subst h
      rw [z2u hx]
      refine ⟨_,?_,z91⟩
      have:(⟨s.toArray⟩:ByteArray)[i.toNat]? = some b:=by
       show (if _:_ then _ else _)=_
       have hlt:i.toNat < s.length:=by
        rcases Nat.lt_or_ge i.toNat s.length with h' | h'
        ·exact h'
        ·simp [List.getElem?_eq_none h'] at hbs
       have hg:s[i.toNat]=b:=by rw [List.getElem?_eq_getElem hlt] at hbs; simpa using hbs
       rw [dif_pos (by simpa [ByteArray.size] using hlt)]
       exact congrArg some hg
      simp [Instr.index,run_underlying hu,asIntOf,hb,this]
     ·cases h
    ·cases h
   ·cases h
  ·rename_i n e hu
   split at h
   ·rename_i k hk
    split at h
    ·rename_i hb
     split at h
     ·rename_i z
      split at h
      ·rename_i hg
       obtain ⟨y',hy',rfl⟩:=Option.map_eq_some_iff.1 h
       obtain ⟨us,rfl,hr⟩:=z9h hg (jK.1 hx)
       obtain ⟨r,hr1,hr2⟩:=z5z hy' hr
       exact ⟨r,by simp [Instr.index,run_underlying hu,asIntOf,hb,run_sizeOf hk,hr1],jR.2 hr2⟩
      ·cases h
     ·rename_i xs
      obtain ⟨us,rfl,hr⟩:=z12 rfl ((zZ rfl).1 hx)
      obtain ⟨r,hr1,hr2⟩:=z9n h hr
      exact ⟨r,by simp [Instr.index,run_underlying hu,asIntOf,hb,run_sizeOf hk,hr1],hr2⟩
     ·cases h
    ·cases h
   ·cases h
  ·cases h
end
section
variable {P:Program} {S:zA} {ρ:Nat→Nat} {A:Nat→Prop} {w:World}
theorem zgq {op:BinOp} {t:TypeId} {k k':IntKind} {a b:Int} {z:D} (h:qO op k a k' b=some z) : ∃ v,(binOp op t (.int k a) (.int k' b)).run P w = .ok v w∧RepX A w z v:=by
  have mi : ∀ n,RepX A w (.int k n) (.int k n):=fun n=>(zE rfl).2 (by simp [RepC])
  have mb : ∀ b,RepX A w (.bool b) (.bool b):=fun n=>(zE rfl).2 (by simp [RepC])
  cases op
  case shl =>
    simp only [qO] at h
    split at h
    · cases h
    · rename_i hb
      simp only [Option.some.injEq] at h; subst h
      exact ⟨_,by simp [binOp_shl,Op.shift,hb],mi _⟩
  case shr =>
    simp only [qO] at h
    split at h
    · cases h
    · rename_i hb
      simp only [Option.some.injEq] at h; subst h
      exact ⟨_,by simp [binOp_shr,Op.shift,hb],mi _⟩
  all_goals
    simp only [qO] at h
    by_cases hk:k=k'
    · subst hk
      simp only [if_true,reduceCtorEq] at h
      first
        | (simp only [Option.some.injEq] at h; subst h; first
            | exact ⟨_,by rw [binOp_add]; rfl,mi _⟩
            | exact ⟨_,by rw [binOp_sub]; rfl,mi _⟩
            | exact ⟨_,by rw [binOp_mul]; rfl,mi _⟩
            | exact ⟨_,by rw [binOp_and]; rfl,mi _⟩
            | exact ⟨_,by rw [binOp_or]; rfl,mi _⟩
            | exact ⟨_,by rw [binOp_xor]; rfl,mi _⟩
            | exact ⟨_,by rw [binOp_andNot]; rfl,mi _⟩
            | exact ⟨_,by rw [binOp_eql]; rfl,mb _⟩
            | exact ⟨_,by rw [binOp_neq]; rfl,mb _⟩
            | exact ⟨_,by rw [binOp_lss]; rfl,mb _⟩
            | exact ⟨_,by rw [binOp_leq]; rfl,mb _⟩
            | exact ⟨_,by rw [binOp_gtr]; rfl,mb _⟩
            | exact ⟨_,by rw [binOp_geq]; rfl,mb _⟩)
        | (by_cases hb:b=0
           · simp [hb] at h
           · simp only [hb,if_false,Option.some.injEq] at h
             subst h
             first
               | exact ⟨_,by rw [binOp_quo]; simp only [Op.intDiv,hb,if_false]; rfl,mi _⟩
               | exact ⟨_,by rw [binOp_rem]; simp only [Op.intDiv,hb,if_false]; rfl,mi _⟩)
    · simp [hk] at h
theorem zc9 (a b:List UInt8):(⟨a.toArray⟩:ByteArray) ++ ⟨b.toArray⟩=⟨(a ++ b).toArray⟩:=by
 ext1
 simp
theorem zh5 {op:BinOp} {t:TypeId} {a b:List UInt8} {z:D} (h:z59 op a b=some z) : ∃ v,(binOp op t (.string ⟨a.toArray⟩) (.string ⟨b.toArray⟩)).run P w = .ok v w∧RepX A w z v:=by
 have ms : ∀ s,RepX A w (.str s) (.string ⟨s.toArray⟩):=fun n=>(zE rfl).2 (by simp [RepC])
 have mb : ∀ b,RepX A w (.bool b) (.bool b):=fun n=>(zE rfl).2 (by simp [RepC])
 have ea:(⟨a.toArray⟩:ByteArray).toList=a:=by rw [ByteArray.toList_eq]
 have eb:(⟨b.toArray⟩:ByteArray).toList=b:=by rw [ByteArray.toList_eq]
 have sa:(⟨a.toArray⟩:ByteArray).size=a.length:=by simp [ByteArray.size]
 have sb:(⟨b.toArray⟩:ByteArray).size=b.length:=by simp [ByteArray.size]
 cases op <;> simp only [z59] at h
 case add =>
  split at h
  ·rename_i hle
   simp only [Option.some.injEq] at h; subst h
   have hle' : ¬ (9223372036854775807 < (a.length:Int) + (b.length:Int)):=by omega
   exact ⟨_,by simp [binOp,Op.stringOp,sa,sb,hle',zc9],ms _⟩
  ·cases h
 all_goals
  first
   | (simp only [Option.some.injEq] at h; subst h; exact ⟨_,by simp only [binOp,Op.stringOp,ea,eb]; rfl,mb _⟩)
   | cases h
def znz:TypeDesc→Bool | .struct _=>false | .array _ _=>false | _=>true
theorem wW {t:TypeId} {d:TypeDesc} (hu:P.underlying t=some d) (hd:znz d=true) {us:Array Value} {off:Nat} {v:Value} (hv:us[off]? = some v):(part t us off).run P w = .ok v w:=by
 have:(isAgg t).run P w = .ok false w:=by
  simp only [isAgg,Sem.run_bind,run_underlying hu,Result.andThen_ok]
  cases d <;> first | rfl | simp [znz] at hd
 simp [part,this,hv]
theorem z62 {t:TypeId} {x y:D} {b:Bool} {u v:Value} (h:z0s P t x y=some b) (hx:RepX A w x u) (hy:RepX A w y v) (d:Nat) :
  (Op.equalIn (d + 1) t u v).run P w = .ok b w∧(∃ td,P.underlying t=some td∧znz td=true)∧x.isAgg=false∧y.isAgg=false:=by
 unfold z0s at h
 split at h
 ·rename_i a c hu
  simp only [Option.some.injEq] at h; subst h
  have h1:=(zE rfl).1 hx
  have h2:=(zE rfl).1 hy
  simp only [RepC,List.cons.injEq,and_true] at h1 h2
  subst h1; subst h2
  exact ⟨run_equalIn_bool w d t a c hu,⟨_,hu,rfl⟩,rfl,rfl⟩
 ·rename_i k0 k a k' c hu
  split at h
  ·rename_i hk
   subst hk
   simp only [Option.some.injEq] at h; subst h
   have h1:=(zE rfl).1 hx
   have h2:=(zE rfl).1 hy
   simp only [RepC,List.cons.injEq,and_true] at h1 h2
   subst h1; subst h2
   exact ⟨run_equalIn_int w d t k _ a c hu,⟨_,hu,rfl⟩,rfl,rfl⟩
  ·cases h
 ·rename_i a c hu
  simp only [Option.some.injEq] at h; subst h
  have h1:=(zE rfl).1 hx
  have h2:=(zE rfl).1 hy
  simp only [RepC,List.cons.injEq,and_true] at h1 h2
  subst h1; subst h2
  exact ⟨by rw [run_equalIn_string w d t _ _ hu,ByteArray.toList_eq,ByteArray.toList_eq],⟨_,hu,rfl⟩,rfl,rfl⟩
 ·cases h
theorem zfg {g:TypeId→D→D→Option Bool} {d:Nat} (hg : ∀ {t:TypeId} {x y:D} {b:Bool} {u v:Value},g t x y=some b→RepX A w x u→RepX A w y v→(Op.equalIn d t u v).run P w = .ok b w) {us vs:Array Value} {xs ys:List D} (hx:RepL A w xs us.toList) (hy:RepL A w ys vs.toList) : ∀ {fs:List Field} {b:Bool},eqFs P g fs xs ys=some b→(Op.eqFields d us vs fs).run P w = .ok b w
 | [],b,h=>by simp only [eqFs,Option.some.injEq] at h; subst h; simp [Op.eqFields]
 | f::fs,b,h=>by
  simp only [eqFs] at h
  split at h
  ·rename_i hn
   cases h1:z65 P f.type xs f.offset with
   | none=>simp [h1] at h
   | some x =>
    cases h2:z65 P f.type ys f.offset with
    | none=>simp [h1,h2] at h
    | some y =>
     simp only [h1,h2] at h
     obtain ⟨u,hu,gu⟩:=z5z h1 hx
     obtain ⟨v,hv,gv⟩:=z5z h2 hy
     cases he:g f.type x y with
     | none=>simp [he] at h
     | some r =>
      have e1:=hg he gu gv
      have ih:=fun (b:Bool) (hb:eqFs P g fs xs ys=some b)=>zfg hg hx hy hb
      cases r with
      | true =>
       simp only [he] at h
       simp [Op.eqFields,hn,hu,hv,e1,ih b h]
      | false =>
       simp only [he,Option.some.injEq] at h; subst h
       simp [Op.eqFields,hn,hu,hv,e1]
  ·cases h
theorem zg3 {e:TypeId} {us vs:Array Value} {xs ys:List D} (hx:RepL A w xs us.toList) (hy:RepL A w ys vs.toList) (d:Nat) : ∀ {n i:Nat} {b:Bool},eqLs P e n (xs.drop i) (ys.drop i)=some b→(Op.eqItems (d + 1) e 1 us vs (List.range' i n)).run P w = .ok b w
 | 0,i,b,h=>by simp only [eqLs,Option.some.injEq] at h; subst h; simp [Op.eqItems]
 | n + 1,i,b,h=>by
  cases h1:xs.drop i with
  | nil=>rw [h1] at h; simp [eqLs] at h
  | cons x xr =>
   cases h2:ys.drop i with
   | nil=>rw [h1,h2] at h; simp [eqLs] at h
   | cons y yr =>
    rw [h1,h2] at h
    simp only [eqLs] at h
    have g1:xs[i]? = some x:=by
     have:(xs.drop i)[0]? = some x:=by rw [h1]; rfl
     simpa using this
    have g2:ys[i]? = some y:=by
     have:(ys.drop i)[0]? = some y:=by rw [h2]; rfl
     simpa using this
    have t1:xs.drop (i + 1)=xr:=by rw [← List.drop_drop,h1]; rfl
    have t2:ys.drop (i + 1)=yr:=by rw [← List.drop_drop,h2]; rfl
    obtain ⟨u,hu,gu1,gu2⟩:=z78 hx _ x g1
    obtain ⟨v,hv,gv1,gv2⟩:=z78 hy _ y g2
    have hu':us[i]? = some u:=by simpa using hu
    have hv':vs[i]? = some v:=by simpa using hv
    cases he:z0s P e x y with
    | none=>simp [he] at h
    | some r =>
     obtain ⟨e1,⟨td,htd,hd⟩,_,_⟩:=z62 he ((zE gu1).2 gu2) ((zE gv1).2 gv2) d
     have ih:=fun (b:Bool) (hb:eqLs P e n (xs.drop (i + 1)) (ys.drop (i + 1))=some b)=>zg3 hx hy d hb
     rw [List.range'_succ]
     cases r with
     | true =>
      simp only [he] at h
      rw [← t1,← t2] at h
      simp [Op.eqItems,wW htd hd hu',wW htd hd hv',e1,ih b h]
     | false =>
      simp only [he,Option.some.injEq] at h; subst h
      simp [Op.eqItems,wW htd hd hu',wW htd hd hv',e1]
theorem zkg : ∀ (n m:Nat) {t:TypeId} {x y:D} {b:Bool} {u v:Value},eqD P n t x y=some b→RepX A w x u→RepX A w y v→(Op.equalIn (n + m) t u v).run P w = .ok b w
 | 0,m,t,x,y,b,u,v,h,_,_=>by simp [eqD] at h
 | n + 1,m,t,x,y,b,u,v,h,hx,hy=>by
  rw [show n + 1 + m=n + m + 1 by omega]
  simp only [eqD] at h
  split at h
  ·rename_i xs ys
   obtain ⟨us,rfl,gx⟩:=wO.1 hx
   obtain ⟨vs,rfl,gy⟩:=wO.1 hy
   split at h
   ·rename_i fs hu
    split at h
    ·cases h
    ·rename_i hs
     simp only [Bool.not_eq_true] at hs
     have hf:P.underlying t=some (.struct (P.fieldsOf t)):=by
      rw [hu]; simp [Program.fieldsOf,hu]
     have hf':P.fieldsOf t=fs:=by simp [Program.fieldsOf,hu]
     refine (run_equalIn_struct w (n + m) t us vs hf hs).trans ?_
     rw [hf']
     exact zfg (fun a b c=>zkg n m a b c) gx gy h
   ·rename_i k e hu
    split at h
    ·rename_i hc
     simp only [Bool.and_eq_true,beq_iff_eq,ne_eq,decide_eq_true_eq,Bool.not_eq_true',decide_eq_false_iff_not] at hc
     obtain ⟨i,td,hi,hsz,_⟩:=z2i hc.1
     have hce:P.cellsOf e=1:=by simp [Program.cellsOf,hi,← hsz]
     refine (run_equalIn_array w (n + m) us vs hu hi).trans ?_
     rw [hce,List.range_eq_range']
     obtain ⟨n',rfl⟩ : ∃ n',n=n' + 1:=⟨n - 1,by omega⟩
     rw [show n' + 1 + m=n' + m + 1 by omega]
     exact zg3 gx gy (n' + m) (i:=0) h
    ·cases h
   ·cases h
  ·exact (z62 h hx hy (n + m)).1
theorem wC {v:V} {x:D} {u:Value} (h:asD v=some x) (hr:RepV P S ρ A w v u):RepX A w x u:=by
 have hone:v.one=true:=by
  cases v <;> simp_all [asD,z49,V.one]
 rcases (zZ hone).1 hr with ⟨g,us,rfl,h1⟩ | ⟨g,h1⟩
 ·obtain ⟨e1,e2⟩:=zec h h1
  exact .inl ⟨e2.trans g,us,rfl,e1⟩
 ·obtain ⟨e1,e2⟩:=zec h h1
  exact .inr ⟨e2.trans g,e1⟩
theorem z34 {x:V} {y:D} (hy:(match y with | .agg _ | .sl _ | .iface _ _=>false | _=>true)=true) (h:asD x=some y):x = .d y:=by
 cases x with
 | d z=>simp only [asD,Option.some.injEq] at h; rw [h]
 | agg xs =>
  simp only [asD] at h
  obtain ⟨ds,_,rfl⟩:=Option.map_eq_some_iff.1 h
  simp at hy
 | ts xs=>simp only [asD,z49,Option.some.injEq] at h; subst h; simp at hy
 | iface t v=>cases v <;> simp only [asD,z49,Option.some.injEq,reduceCtorEq] at h; subst h; simp at hy
 | _=>simp [asD,z49] at h
theorem z9v {t e:TypeId} (hu:P.underlying t=some (.pointer e)) (a:Addr) (d:Nat):(Op.equalIn (d + 1) t (.pointer (some a)) (.pointer none)).run P w = .ok false w:=by
 simp [Op.equalIn,run_underlying hu]
theorem z5l {t e:TypeId} (hu:P.underlying t=some (.pointer e)) (a:Option Addr) (d:Nat):(Op.equalIn (d + 1) t (.pointer none) (.pointer a)).run P w = .ok a.isNone w:=by
 simp [Op.equalIn,run_underlying hu]
theorem zhr {t k e:TypeId} (hu:P.underlying t=some (.map k e)) (a:Nat) (d:Nat):(Op.equalIn (d + 1) t (.map (some a)) (.map none)).run P w = .ok false w:=by
 simp [Op.equalIn,run_underlying hu]
theorem zhk {t k e:TypeId} (hu:P.underlying t=some (.map k e)) (a:Option Nat) (d:Nat):(Op.equalIn (d + 1) t (.map none) (.map a)).run P w = .ok a.isNone w:=by
 simp [Op.equalIn,run_underlying hu]
theorem zm1 {t:TypeId} {x:Array TypeId} {y:Array TypeId} {z:Bool} (hu:P.underlying t=some (.func x y z)) (f:Fn) (a b:Array Value) (d:Nat):(Op.equalIn (d + 1) t (.func f a b) .nilFunc).run P w = .ok false w:=by
 simp [Op.equalIn,run_underlying hu]
theorem zki {t:TypeId} {x:Array TypeId} {y:Array TypeId} {z:Bool} (hu:P.underlying t=some (.func x y z)) (f:Fn) (a b:Array Value) (d:Nat):(Op.equalIn (d + 1) t .nilFunc (.func f a b)).run P w = .ok false w:=by
 simp [Op.equalIn,run_underlying hu]
theorem zhu {t:TypeId} {x:Array TypeId} {y:Array TypeId} {z:Bool} (hu:P.underlying t=some (.func x y z)) (d:Nat):(Op.equalIn (d + 1) t .nilFunc .nilFunc).run P w = .ok true w:=by
 simp [Op.equalIn,run_underlying hu]
theorem zes {t:TypeId} {x y:V} {b:Bool} {u v:Value} (h:eqV P t x y=some b) (hx:RepV P S ρ A w x u) (hy:RepV P S ρ A w y v) :
  (Op.equal t u v).run P w = .ok b w∧(∀ op ox oy,(eqGuard op t ox oy u v).run P w = .ok () w):=by
 unfold eqV at h
 split at h
 ·rename_i hp
  unfold ptrT at hp
  cases hu:P.underlying t with
  | none=>simp [hu] at hp
  | some td =>
   simp only [hu] at hp
   cases td <;> simp only [Bool.false_eq_true] at hp
   rename_i e
   have nil : ∀ {z:Value},RepV P S ρ A w (.d .nilp) z→z = .pointer none:=fun hz=>by
    have:=(zE rfl).1 (jK.1 hz)
    simpa [RepC] using this
   have ptr : ∀ {x:D} {z:Value},RepV P S ρ A w (.d (.ptr x)) z → ∃ a,z = .pointer (some a):=fun hz=>by
    have:=(zE rfl).1 (jK.1 hz)
    simp only [RepC,List.cons.injEq,and_true] at this
    obtain ⟨a,_,h,_⟩:=this
    exact ⟨a,h⟩
   have ref : ∀ {i j k:Nat} {z:Value},RepV P S ρ A w (.ref i j k) z → ∃ a,z = .pointer (some a):=fun hz=>by
    have:=(zH rfl).1 ((zZ rfl).1 hz)
    simp only [zR,List.cons.injEq,and_true] at this
    obtain ⟨a,h,_⟩:=this
    exact ⟨a,h⟩
   unfold zqx at h
   split at h <;> simp only [Option.some.injEq,reduceCtorEq] at h <;> subst h
   ·obtain ⟨a,rfl⟩:=ref hx; rw [nil hy]
    exact ⟨z9v hu a 9999,fun op ox oy=>by rw [eqGuard_at_pointer]; rfl⟩
   ·obtain ⟨a,rfl⟩:=ref hy; rw [nil hx]
    exact ⟨z5l hu (some a) 9999,fun op ox oy=>by rw [eqGuard_at_pointer]; rfl⟩
   ·obtain ⟨a,rfl⟩:=ptr hx; rw [nil hy]
    exact ⟨z9v hu a 9999,fun op ox oy=>by rw [eqGuard_at_pointer]; rfl⟩
   ·obtain ⟨a,rfl⟩:=ptr hy; rw [nil hx]
    exact ⟨z5l hu (some a) 9999,fun op ox oy=>by rw [eqGuard_at_pointer]; rfl⟩
   ·rw [nil hx,nil hy]
    exact ⟨z5l hu none 9999,fun op ox oy=>by rw [eqGuard_at_pointer]; rfl⟩
 split at h
 ·rename_i hm
  unfold mapT at hm
  cases hu:P.underlying t with
  | none=>simp [hu] at hm
  | some td =>
   simp only [hu] at hm
   cases td <;> simp only [Bool.false_eq_true] at hm
   have nil : ∀ {z:Value},RepV P S ρ A w (.d .nilm) z→z = .map none:=fun hz=>by
    have:=(zE rfl).1 (jK.1 hz)
    simpa [RepC] using this
   have ref : ∀ {i:Nat} {z:Value},RepV P S ρ A w (.mr i) z → ∃ a,z = .map (some a):=fun hz=>by
    have:=(zH rfl).1 ((zZ rfl).1 hz)
    simp only [zR,List.cons.injEq,and_true] at this
    obtain ⟨a,h,_⟩:=this
    exact ⟨a,h⟩
   have mp : ∀ {e:D × D} {es:List (D × D)} {z:Value},RepV P S ρ A w (.d (.map (e::es))) z → ∃ a,z = .map (some a):=fun hz=>by
    have:=(zE rfl).1 (jK.1 hz)
    simp only [RepC,List.cons.injEq,and_true] at this
    obtain ⟨r,rfl,h | ⟨b,_,_,rfl,_⟩⟩:=this
    ·simp at h
    ·exact ⟨b,rfl⟩
   have hg : ∀ (m n:Option Nat) op ox oy,(eqGuard op t ox oy (.map m) (.map n)).run P w = .ok () w:=fun m n op ox oy=>by
    unfold eqGuard; split <;> rfl
   have e1 : ∀ a,(Op.equal t (.map (some a)) (.map none)).run P w = .ok false w:=fun a=>zhr hu a 9999
   have e2 : ∀ a,(Op.equal t (.map none) (.map a)).run P w = .ok a.isNone w:=fun a=>zhk hu a 9999
   unfold zt6 at h
   split at h <;> simp only [Option.some.injEq,reduceCtorEq] at h <;> subst h
   ·obtain ⟨a,rfl⟩:=ref hx; rw [nil hy]; exact ⟨e1 a,hg _ _⟩
   ·obtain ⟨a,rfl⟩:=ref hy; rw [nil hx]; exact ⟨e2 (some a),hg _ _⟩
   ·rw [nil hx,nil hy]; exact ⟨e2 none,hg _ _⟩
   ·obtain ⟨a,rfl⟩:=mp hx; rw [nil hy]; exact ⟨e1 a,hg _ _⟩
   ·obtain ⟨a,rfl⟩:=mp hy; rw [nil hx]; exact ⟨e2 (some a),hg _ _⟩
 split at h
 ·rename_i hm
  unfold fnT at hm
  cases hu:P.underlying t with
  | none=>simp [hu] at hm
  | some td =>
   simp only [hu] at hm
   cases td <;> simp only [Bool.false_eq_true] at hm
   have nil : ∀ {z:Value},RepV P S ρ A w (.d .nilf) z→z = .nilFunc:=fun hz=>by
    have:=(zE rfl).1 (jK.1 hz)
    simpa [RepC] using this
   have ref : ∀ {f:Fn} {a b:List V} {z:Value},RepV P S ρ A w (.fn f a b) z → ∃ fa ca,z = .func f fa ca:=fun hz=>by
    have:=(zH rfl).1 ((zZ rfl).1 hz)
    simp only [zR,List.cons.injEq,and_true] at this
    obtain ⟨a,b,h,_⟩:=this
    exact ⟨a,b,h⟩
   have dfn : ∀ {f:Fn} {a b:List D} {z:Value},RepV P S ρ A w (.d (.fn f a b)) z → ∃ fa ca,z = .func f fa ca:=fun hz=>by
    have:=(zE rfl).1 (jK.1 hz)
    simp only [RepC,List.cons.injEq,and_true] at this
    obtain ⟨a,b,h,_⟩:=this
    exact ⟨a,b,h⟩
   have hg1 : ∀ f a b op ox oy,(eqGuard op t ox oy (.func f a b) .nilFunc).run P w = .ok () w:=fun f a b op ox oy=>by
    unfold eqGuard; split <;> rfl
   have hg2 : ∀ f a b op ox oy,(eqGuard op t ox oy .nilFunc (.func f a b)).run P w = .ok () w:=fun f a b op ox oy=>by
    unfold eqGuard; split <;> rfl
   have hg3 : ∀ op ox oy,(eqGuard op t ox oy .nilFunc .nilFunc).run P w = .ok () w:=fun op ox oy=>by
    unfold eqGuard; split <;> rfl
   have e1 : ∀ f a b,(Op.equal t (.func f a b) .nilFunc).run P w = .ok false w:=fun f a b=>zm1 hu f a b 9999
   have e2 : ∀ f a b,(Op.equal t .nilFunc (.func f a b)).run P w = .ok false w:=fun f a b=>zki hu f a b 9999
   have e3:(Op.equal t .nilFunc .nilFunc).run P w = .ok true w:=zhu hu 9999
   unfold eqFn at h
   split at h <;> simp only [Option.some.injEq,reduceCtorEq] at h <;> subst h
   ·obtain ⟨a,b,rfl⟩:=ref hx; rw [nil hy]; exact ⟨e1 _ _ _,hg1 _ _ _⟩
   ·obtain ⟨a,b,rfl⟩:=dfn hx; rw [nil hy]; exact ⟨e1 _ _ _,hg1 _ _ _⟩
   ·obtain ⟨a,b,rfl⟩:=ref hy; rw [nil hx]; exact ⟨e2 _ _ _,hg2 _ _ _⟩
   ·obtain ⟨a,b,rfl⟩:=dfn hy; rw [nil hx]; exact ⟨e2 _ _ _,hg2 _ _ _⟩
   ·rw [nil hx,nil hy]; exact ⟨e3,hg3⟩
 ·split at h
  ·rename_i xs ys h1 h2
   have gx:=wO.1 (wC h1 hx)
   have gy:=wO.1 (wC h2 hy)
   obtain ⟨us,rfl,gx⟩:=gx
   obtain ⟨vs,rfl,gy⟩:=gy
   split at h
   ·cases h
   ·rename_i hs
    simp only [Bool.not_eq_true] at hs
    exact ⟨zkg 8 9992 h (wO.2 ⟨us,rfl,gx⟩) (wO.2 ⟨vs,rfl,gy⟩),fun op ox oy=>run_eqGuard_agg w op t ox oy us vs hs⟩
  ·rename_i x' y' _ h1 h2
   obtain ⟨e1,_,g1,g2⟩:=z62 h (wC h1 hx) (wC h2 hy) 9999
   refine ⟨e1,fun op ox oy=>?_⟩
   have:=(zE g1).1 (wC h1 hx)
   unfold z0s at h
   split at h
   ·simp only [RepC,List.cons.injEq,and_true] at this; subst this; rw [eqGuard_at_bool]; rfl
   ·simp only [RepC,List.cons.injEq,and_true] at this; subst this; rw [eqGuard_at_int]; rfl
   ·simp only [RepC,List.cons.injEq,and_true] at this; subst this; rw [eqGuard_at_string]; rfl
   ·cases h
  ·cases h
theorem znx {op:BinOp} {t:TypeId} {x y z:V} {u v:Value} (ox oy:Operand) (h:binV P op t x y=some z) (hx:RepV P S ρ A w x u) (hy:RepV P S ρ A w y v) :
  ∃ r,(do eqGuard op t ox oy u v; binOp op t u v).run P w = .ok r w∧RepW P S ρ A w z r:=by
 unfold binV at h
 split at h
 ·obtain ⟨z',hz,rfl⟩:=Option.map_eq_some_iff.1 h
  rw [vL hx,vL hy]
  obtain ⟨r,h1,h2⟩:=zgq (P:=P) (A:=A) (w:=w) (t:=t) hz
  exact ⟨r,by simp [eqGuard_at_int,h1],jR.2 h2⟩
 ·obtain ⟨z',hz,rfl⟩:=Option.map_eq_some_iff.1 h
  rw [z2u hx,z2u hy]
  obtain ⟨r,h1,h2⟩:=zh5 (P:=P) (A:=A) (w:=w) (t:=t) hz
  exact ⟨r,by simp [eqGuard_at_string,h1],jR.2 h2⟩
 ·rename_i hni hns
  have notnum : ∀ b,eqV P t x y=some b→binOp .eql t u v=(do pure (.bool (← Op.equal t u v)))∧binOp .neq t u v=(do pure (.bool (!(← Op.equal t u v)))):=by
   intro b hb
   have hb':=hb
   unfold eqV at hb
   split at hb
   ·unfold zqx at hb
    have nil : ∀ {z:Value},RepV P S ρ A w (.d .nilp) z→z = .pointer none:=fun hz=>by
     have:=(zE rfl).1 (jK.1 hz)
     simpa [RepC] using this
    split at hb
    ·rw [nil hy]; exact ⟨by cases u <;> rfl,by cases u <;> rfl⟩
    ·rw [nil hx]; exact ⟨by cases v <;> rfl,by cases v <;> rfl⟩
    ·rw [nil hy]; exact ⟨by cases u <;> rfl,by cases u <;> rfl⟩
    ·rw [nil hx]; exact ⟨by cases v <;> rfl,by cases v <;> rfl⟩
    ·rw [nil hx]; exact ⟨by cases v <;> rfl,by cases v <;> rfl⟩
    ·cases hb
   split at hb
   ·unfold zt6 at hb
    have nil : ∀ {z:Value},RepV P S ρ A w (.d .nilm) z→z = .map none:=fun hz=>by
     have:=(zE rfl).1 (jK.1 hz)
     simpa [RepC] using this
    split at hb
    ·rw [nil hy]; exact ⟨by cases u <;> rfl,by cases u <;> rfl⟩
    ·rw [nil hx]; exact ⟨by cases v <;> rfl,by cases v <;> rfl⟩
    ·rw [nil hx]; exact ⟨by cases v <;> rfl,by cases v <;> rfl⟩
    ·rw [nil hy]; exact ⟨by cases u <;> rfl,by cases u <;> rfl⟩
    ·rw [nil hx]; exact ⟨by cases v <;> rfl,by cases v <;> rfl⟩
    ·cases hb
   split at hb
   ·unfold eqFn at hb
    have nil : ∀ {z:Value},RepV P S ρ A w (.d .nilf) z→z = .nilFunc:=fun hz=>by
     have:=(zE rfl).1 (jK.1 hz)
     simpa [RepC] using this
    split at hb
    ·rw [nil hy]; exact ⟨by cases u <;> rfl,by cases u <;> rfl⟩
    ·rw [nil hy]; exact ⟨by cases u <;> rfl,by cases u <;> rfl⟩
    ·rw [nil hx]; exact ⟨by cases v <;> rfl,by cases v <;> rfl⟩
    ·rw [nil hx]; exact ⟨by cases v <;> rfl,by cases v <;> rfl⟩
    ·rw [nil hx]; exact ⟨by cases v <;> rfl,by cases v <;> rfl⟩
    ·cases hb
   ·split at hb
    ·rename_i xs ys h1 h2
     obtain ⟨us,rfl,gx⟩:=wO.1 (wC h1 hx)
     obtain ⟨vs,rfl,gy⟩:=wO.1 (wC h2 hy)
     exact ⟨rfl,rfl⟩
    ·rename_i x' y' _ h1 h2
     have gx:=wC h1 hx
     have gy:=wC h2 hy
     unfold z0s at hb
     split at hb
     ·have:=(zE rfl).1 gx
      simp only [RepC,List.cons.injEq,and_true] at this; subst this
      have:=(zE rfl).1 gy
      simp only [RepC,List.cons.injEq,and_true] at this; subst this
      exact ⟨rfl,rfl⟩
     ·exact absurd (z34 rfl h2) (hni _ _ _ _ (z34 rfl h1))
     ·exact absurd (z34 rfl h2) (hns _ _ (z34 rfl h1))
     ·cases hb
    ·cases hb
  split at h
  ·obtain ⟨b,hb,rfl⟩:=Option.map_eq_some_iff.1 h
   obtain ⟨h1,h2⟩:=zes hb hx hy
   refine ⟨.bool b,?_,zb9⟩
   simp [h2,(notnum b hb).1,h1]
  ·obtain ⟨b,hb,rfl⟩:=Option.map_eq_some_iff.1 h
   obtain ⟨h1,h2⟩:=zes hb hx hy
   refine ⟨.bool (!b),?_,zb9⟩
   simp [h2,(notnum b hb).2,h1]
  ·cases h
theorem zso {op:UnOp} {x z:V} {u:Value} (h:unV op x=some z) (hx:RepV P S ρ A w x u) : ∃ r,(Op.unary op u).run P w = .ok r w∧RepW P S ρ A w z r:=by
 unfold unV at h
 split at h
 ·simp only [Option.some.injEq] at h; subst h
  rw [z36 hx]
  exact ⟨_,by simp [Op.unary],zb9⟩
 ·simp only [Option.some.injEq] at h; subst h
  rw [vL hx]
  exact ⟨_,by simp [Op.unary,Op.intArith],z91⟩
 ·cases h
theorem zj4 {x y z:V} {u v:Value} (h:zna x y=some z) (hx:RepV P S ρ A w x u) (hy:RepV P S ρ A w y v) : ∃ r,(Builtin.max2 u v).run P w = .ok r w∧RepW P S ρ A w z r:=by
 unfold zna at h
 split at h
 ·split at h
  ·rename_i hk
   subst hk
   simp only [Option.some.injEq] at h; subst h
   rw [vL hx,vL hy]
   exact ⟨_,by simp [Builtin.max2],z91⟩
  ·cases h
 ·cases h
theorem zkh {x y z:V} {u v:Value} (h:zpu x y=some z) (hx:RepV P S ρ A w x u) (hy:RepV P S ρ A w y v) : ∃ r,(Builtin.min2 u v).run P w = .ok r w∧RepW P S ρ A w z r:=by
 unfold zpu at h
 split at h
 ·split at h
  ·rename_i hk
   subst hk
   simp only [Option.some.injEq] at h; subst h
   rw [vL hx,vL hy]
   exact ⟨_,by simp [Builtin.min2],z91⟩
  ·cases h
 ·cases h
theorem z7l {f:V→V→Option V} {g:Value→Value→Sem Value} (hf : ∀ {x y z:V} {u v:Value},f x y=some z→RepV P S ρ A w x u→RepV P S ρ A w y v → ∃ r,(g u v).run P w = .ok r w∧RepW P S ρ A w z r) :
  ∀ {ys:List V} {x z:V} {u:Value} {vs:List Value},zd7 f x ys=some z→RepV P S ρ A w x u→RepT P S ρ A w ys vs → ∃ r,(vs.foldlM g u).run P w = .ok r w∧RepV P S ρ A w z r
 | [],x,z,u,vs,h,hx,hy=>by
  simp only [zd7,Option.some.injEq] at h; subst h
  simp only [RepT] at hy; subst hy
  exact ⟨u,by simp,hx⟩
 | y::r,x,z,u,vs,h,hx,hy=>by
  simp only [RepT] at hy
  obtain ⟨v,ws,rfl,h2,h3⟩:=hy
  simp only [zd7] at h
  cases h1:f x y with
  | none=>simp [h1] at h
  | some q =>
   simp only [h1] at h
   obtain ⟨r1,e1,e2⟩:=hf h1 hx h2
   obtain ⟨r2,e3,e4⟩:=z7l hf h (zT e2) h3
   exact ⟨r2,by simp [e1,e3],e4⟩
end
section
variable {P:Program} {S:zA} {ρ:Nat→Nat} {A:Nat→Prop} {w w':World}
theorem z26 {v:Value} (h:zhq v=true):v.oneCell'=true:=by cases v <;> first | rfl | simp [zhq] at h
theorem z2x {k:Nat} : ∀ {xs:List V} {vs:List Value},qN P S ρ A w k xs vs → ∀ u ∈ vs,u.oneCell'=true
 | [],vs,h=>by simp only [qN] at h; simp [h]
 | x::r,vs,h=>by
  simp only [qN] at h
  obtain ⟨us,ws,rfl,h2,h3,h4⟩:=h
  intro u hu
  rcases List.mem_append.1 hu with hu | hu
  ·exact z26 (z9z (kO h3) u hu)
  ·exact z2x h4 u hu
theorem zlu {x:V} {vs:List Value} (h:zR P S ρ A w x vs) : ∀ u ∈ vs,u.oneCell'=true:=fun u hu=>z26 (z9z (kO h) u hu)
theorem jD {x:V} {u:Value} (h:RepW P S ρ A w x u):zR P S ρ A w x u.cells.toList:=by
 rcases h with ⟨_,us,rfl,h⟩ | ⟨g,h⟩
 ·simpa [Value.cells] using h
 ·have:=zal g h
  cases u <;> first | simpa [Value.cells] using h | simp [zhq] at this
theorem wR {e:TypeId} {x:V} {u:Value} (hf:qA P e x=true) (h:RepV P S ρ A w x u):RepW P S ρ A w x u ∧ ∃ k,sz P e=some k∧u.cells.size=k∧x.cells.length=k:=by
 obtain ⟨h1,h2,h3⟩:=z1i hf
 have hw:=(zZ h1).1 h
 refine ⟨hw,_,h3,?_,rfl⟩
 have:=qY (jD hw)
 simpa using this
theorem zgp (hI:Inv P S ρ A w) {t:TypeId} {a v:V} {S':zA} {ua uv:Value} (h:z0e P S t a v=some S') (ha:RepV P S ρ A w a ua) (hv:RepV P S ρ A w v uv) :
  ∃ w',(Instr.storeAt t ua uv).run P w = .ok () w'∧Inv P S' ρ A w'∧Step S ρ A w S' ρ A w':=by
 unfold z0e at h
 split at h
 ·rename_i id ix off
  have ha:=(zH rfl).1 ((zZ rfl).1 ha)
  simp only [zR,List.cons.injEq,and_true] at ha
  obtain ⟨a,rfl,hpl⟩:=ha
  cases ho:S[id]? with
  | none=>simp [ho] at h
  | some o =>
   have hok:=hI.ok id o ho
   simp only [RefPl,ho] at hpl
   simp only [ho] at h
   cases o with
   | row xs e =>
    simp only at h hpl
    cases hxi:xs[ix]? with
    | none=>simp [hxi] at h
    | some z =>
     simp only [hxi] at h
     obtain ⟨k,hk,rfl,hlt⟩:=hpl
     simp only [ObOk] at hok
     obtain ⟨k',c,us,rest,hk',hh,hcl,hre⟩:=hok
     rw [hk] at hk'; cases hk'
     obtain ⟨g1,g2⟩:=z1d hre ix z hxi
     have gl:=qY g1
     simp only [List.length_take,List.length_drop] at gl
     split at h
     ·rename_i hf
      obtain ⟨hvw,n,hn,hn1,hn2⟩:=wR hf hv
      have hvc:=jD hvw
      have hvl:uv.cells.toList.length=n:=by simpa using hn1
      have hone:=zlu hvc
      have hrun : ∀ o,o + n ≤ k→(Instr.storeAt t (.pointer (some ⟨ρ id,ix * k + o,none⟩)) uv).run P w = .ok () (w.setRow (ρ id) (c.toList.take (ix * k + o) ++ uv.cells.toList ++ c.toList.drop (ix * k + o + n)).toArray):=by
       intro o ho
       have:=run_storeCells_at P (ρ id) (ix * k + o) e uv.cells.toList 0 c w hh (by
        rw [hvl]
        have:c.size=us.length + rest.length:=by rw [← Array.length_toList,hcl,List.length_append]
        omega) hone
       simp only [Nat.add_zero,hvl] at this
       simp [Instr.storeAt,Instr.sureAddr,storeVar,run_sizeOf hn,hn1,this]
      have fin : ∀ (o:Nat) (z':V),o + n ≤ k→z'.cells.length=k→zR P S ρ A w z' (((us.drop (ix * k)).take k).take o ++ uv.cells.toList ++ ((us.drop (ix * k)).take k).drop (o + n)) →
        Inv P (S.set id (.row (xs.set ix z') e)) ρ A (w.setRow (ρ id) (c.toList.take (ix * k + o) ++ uv.cells.toList ++ c.toList.drop (ix * k + o + n)).toArray) ∧
        Step S ρ A w (S.set id (.row (xs.set ix z') e)) ρ A (w.setRow (ρ id) (c.toList.take (ix * k + o) ++ uv.cells.toList ++ c.toList.drop (ix * k + o + n)).toArray):=by
       intro o z' hok hz' hrz
       have hcs:c.size=us.length + rest.length:=by rw [← Array.length_toList,hcl,List.length_append]
       refine hI.turn ho rfl ⟨by simp,rfl⟩ (by simp) (fun b hb=>setRow_other w _ b _ hb) (.inr fun c0 e0 f0 hc0=>?_) rfl rfl rfl (.inl rfl) (fun hs hA=>?_)
       ·rw [hh] at hc0; cases hc0
        refine ⟨_,_,_,setRow_heap w _ _ _ _ _ hh,?_⟩
        simp only [List.size_toArray,List.length_append,List.length_take,List.length_drop,Array.length_toList,hvl]
        omega
       ·simp only [ObOk]
        have hset:=z7t hre ix z' _ hlt (by
         simp only [List.length_append,List.length_take,List.length_drop,hvl]; omega) hrz
        refine ⟨k,_,_,rest,hk,setRow_heap w _ _ _ _ _ hh,?_,jC (fun _ h=>h) hA hs k _ _ hset⟩
        rw [List.toList_toArray,hcl]
        rw [List.take_append_of_le_length (by omega),List.drop_append_of_le_length (by omega)]
        have e1:(us.take (ix * k)) ++ ((us.drop (ix * k)).take k).take o=us.take (ix * k + o):=by
         rw [List.take_take,Nat.min_eq_left (by omega),List.take_add]
        have e2:((us.drop (ix * k)).take k).drop (o + n) ++ us.drop (ix * k + k)=us.drop (ix * k + o + n):=by
         rw [List.drop_take,List.drop_drop]
         have:us.drop (ix * k + k)=(us.drop (ix * k + (o + n))).drop (k - (o + n)):=by rw [List.drop_drop]; congr 1; omega
         rw [this,List.take_append_drop]; congr 1; omega
        rw [← e1,← e2]
        simp [List.append_assoc]
      split at h
      ·rename_i hc0
       simp only [Bool.and_eq_true,decide_eq_true_eq,beq_iff_eq] at hc0
       obtain ⟨⟨rfl,hc1⟩,hc2⟩:=hc0
       simp only [Option.some.injEq] at h; subst h
       have hnk:n=k:=by omega
       subst hnk
       refine ⟨_,hrun 0 (by omega),fin 0 v (by omega) hn2 ?_⟩
       simp only [List.take_zero,List.nil_append,Nat.zero_add]
       rw [List.drop_eq_nil_of_le (by simp; omega),List.append_nil]
       exact hvc
      ·split at h
       ·rename_i hc0
        simp only [Bool.and_eq_true,decide_eq_true_eq] at hc0
        simp only [Option.some.injEq] at h; subst h
        refine ⟨_,hrun off (by omega),fin off _ (by omega) (by
         show (z.cells.take off ++ v.cells ++ z.cells.drop (off + v.cells.length)).length=k
         simp only [List.length_append,List.length_take,List.length_drop]; omega) ?_⟩
        simp only [zR]
        have hz:=kO g1
        rw [hn2]
        exact z01 (z01 (z0i off hz) (kO hvc)) (z0h (off + n) hz)
       ·cases h
     ·cases h
   | _=>simp at h
 ·cases h
theorem kI (o:Obj) {b:Nat} (h:b < w.heap.size):(w.alloc o).heap[b]? = w.heap[b]? := by
 show (w.heap.push o)[b]? = _
 rw [Array.getElem?_push,if_neg (by omega)]
theorem jG (o:Obj):(w.alloc o).heap[w.heap.size]? = some o:=by
 show (w.heap.push o)[w.heap.size]? = _
 rw [Array.getElem?_push,if_pos rfl]
theorem zqq (hI:Inv P S ρ A w) {e:TypeId} {z:V} {u:Value} (hf:qA P e z=true) (hz:RepV P S ρ A w z u) :
  ∃ ρ',Inv P (S ++ [.row [z] e]) ρ' A (w.alloc (.cells u.cells e))∧Step S ρ A w (S ++ [.row [z] e]) ρ' A (w.alloc (.cells u.cells e))∧RepV P (S ++ [.row [z] e]) ρ' A (w.alloc (.cells u.cells e)) (.ref S.length 0 0) (.pointer (some ⟨w.heap.size,0,none⟩)):=by
 obtain ⟨hzw,k,hk,hk1,hk2⟩:=wR hf hz
 have hzc:=jD hzw
 obtain ⟨g1,g2⟩:=hI.push (o:= .row [z] e) (w':=w.alloc (.cells u.cells e)) rfl (by simp) (fun b hb=>kI _ hb) rfl rfl rfl (fun hs hA=>by
  simp only [ObOk]
  refine ⟨k,u.cells,u.cells.toList,[],hk,jG _,by simp,?_⟩
  simp only [qN]
  exact ⟨u.cells.toList,[],by simp,by simpa using hk1,kY (fun _ h=>h) hA hs _ _ hzc,rfl⟩)
 refine ⟨_,g1,g2,zT ((zH rfl).2 ?_)⟩
 simp only [zR]
 refine ⟨_,rfl,?_⟩
 unfold RefPl
 simp [hk]
theorem Inv.fresh (h:Inv P S ρ A w) (hsz:w'.heap.size=w.heap.size + 1) (hold : ∀ b,b < w.heap.size→w'.heap[b]? = w.heap[b]?) (h1:w'.os=w.os) (h2:w'.tape=w.tape) (h3:w'.output=w.output) :
  Inv P S ρ (fun b=>A b ∨ b=w.heap.size) w'∧Step S ρ A w S ρ (fun b=>A b ∨ b=w.heap.size) w':=by
 obtain ⟨g1,g2⟩:=h.world (w':=w') (by omega) hold h1 h2 h3
 refine ⟨⟨fun id o ho=>(g1.ok id o ho).mono (fun _ h=>.inl h) (fun _ _=>rfl) (Step.refl (A:=A)).sle (fun _=>rfl),h.inj,fun i o ho hl hA=>?_,fun b hb=>?_,h.gl.step (fun _ h=>.inl h) g2.keepA⟩,⟨h1,h2,h3,by omega,g2.keep,g2.keepA,fun _ h=>.inl h,fun b hb=>?_,fun _ h=>.inl h,g2.sle⟩⟩
 ·rcases hA with hA | hA
  ·exact h.own i o ho hl hA
  ·have:=(h.ok i o ho).lt (by rintro rfl; cases hl) (by rintro rfl; cases hl)
   omega
 ·rcases hb with hb | hb
  ·have:=h.lt b hb; omega
  ·omega
 ·rcases hb with hb | rfl
  ·exact .inl hb
  ·exact .inr (.inr (Nat.le_refl _))
theorem z9y {y dflt n:Nat} {v:Option V} {u:Option Value} (h:kF y v dflt=some n) (hv : ∀ x,v=some x → ∃ z,u=some z∧RepV P S ρ A w x z) (hn:v=none→u=none) :
  (v=none∧n=dflt) ∨ (∃ k i,u=some (.int k i)∧0 ≤ i∧i ≤ y∧n=i.toNat∧v ≠ none):=by
 unfold kF at h
 cases v with
 | none=>simp only [Option.some.injEq] at h; exact .inl ⟨rfl,h.symm⟩
 | some x =>
  simp only at h
  cases hi:intOf? x with
  | none=>simp [hi] at h
  | some i =>
   simp only [hi] at h
   split at h
   ·rename_i hb
    simp only [Option.some.injEq] at h
    obtain ⟨z,rfl,hz⟩:=hv x rfl
    obtain ⟨k,rfl⟩:=z8s hi hz
    exact .inr ⟨k,i,rfl,hb.1,hb.2,h.symm,by simp⟩
   ·cases h
theorem z2z {lo hi:Option V} {ulo uhi:Option Value} {len cap h l:Nat} (hle:len ≤ cap) (isS:Bool) (hh:kF len hi len=some h) (hl:kF h lo 0=some l)
  (vlo : ∀ x,lo=some x → ∃ z,ulo=some z∧RepV P S ρ A w x z) (nlo:lo=none→ulo=none) (vhi : ∀ x,hi=some x → ∃ z,uhi=some z∧RepV P S ρ A w x z) (nhi:hi=none→uhi=none) :
  (Instr.sliceBounds isS len cap ulo uhi none).run P w = .ok (l,h,cap) w∧l ≤ h∧h ≤ len:=by
 have ch:(uhi=none∧h=len) ∨ ∃ k i,uhi=some (.int k i)∧0 ≤ i∧i ≤ (len:Int)∧h=i.toNat:=by
  rcases z9y hh vhi nhi with ⟨h0,h1⟩ | ⟨k,i,h0,h1,h2,h3,_⟩
  ·exact .inl ⟨nhi h0,h1⟩
  ·exact .inr ⟨k,i,h0,h1,h2,h3⟩
 have cl:(ulo=none∧l=0) ∨ ∃ k i,ulo=some (.int k i)∧0 ≤ i∧i ≤ (h:Int)∧l=i.toNat:=by
  rcases z9y hl vlo nlo with ⟨h0,h1⟩ | ⟨k,i,h0,h1,h2,h3,_⟩
  ·exact .inl ⟨nlo h0,h1⟩
  ·exact .inr ⟨k,i,h0,h1,h2,h3⟩
 clear vlo nlo vhi nhi hh hl
 rcases ch with ⟨rfl,rfl⟩ | ⟨k,i,rfl,h1,h2,h3⟩
 ·rcases cl with ⟨rfl,rfl⟩ | ⟨k',j,rfl,h4,h5,h6⟩
  ·refine ⟨?_,by omega,by omega⟩
   simp [Instr.sliceBounds]
  ·refine ⟨?_,by omega,by omega⟩
   subst h6
   simp [Instr.sliceBounds,Instr.sliceBound,asIntOf,h4,h5]
 ·have hc:i ≤ (cap:Int):=by omega
  subst h3
  rcases cl with ⟨rfl,rfl⟩ | ⟨k',j,rfl,h4,h5,h6⟩
  ·refine ⟨?_,by omega,by omega⟩
   simp [Instr.sliceBounds,Instr.sliceBound,asIntOf,h1,hc]
  ·refine ⟨?_,by omega,by omega⟩
   subst h6
   have h5':j ≤ i:=by omega
   have h5'':j ≤ max i 0:=by omega
   simp [Instr.sliceBounds,Instr.sliceBound,asIntOf,h1,hc,h4,h5',h5'']
end
section
variable {P:Program} {S:zA} {ρ:Nat→Nat} {A:Nat→Prop} {w w':World}
theorem z6e (hI:Inv P S ρ A w) {t e:TypeId} {n:Nat} {x y:V} {lo hi:Option V} {u:Value} {ulo uhi:Option Value} (h:wM P S n e x lo hi=some y) (hx:RepV P S ρ A w x u)
  (vlo : ∀ x,lo=some x → ∃ z,ulo=some z∧RepV P S ρ A w x z) (nlo:lo=none→ulo=none) (vhi : ∀ x,hi=some x → ∃ z,uhi=some z∧RepV P S ρ A w x z) (nhi:hi=none→uhi=none)
  (hs : ∀ a,sz P e=some 1 → ∀ l h,(Instr.sliceBounds false n n ulo uhi none).run P w = .ok (l,h,n) w→(Instr.sliceAt t (.pointer (some a)) ulo uhi none).run P w = .ok (.slice (some (if n=l then a else a.add (l * 1))) (h - l) (n - l)) w) :
  ∃ r,(Instr.sliceAt t u ulo uhi none).run P w = .ok r w∧RepW P S ρ A w y r:=by
 unfold wM at h
 split at h
 ·rename_i hcond
  simp only [Bool.and_eq_true,beq_iff_eq,Bool.not_eq_eq_eq_not,Bool.not_true] at hcond
  split at h
  ·rename_i hb hhb
   split at h
   ·rename_i l hlb
    obtain ⟨e1,e2,e3⟩:=z2z (P:=P) (S:=S) (ρ:=ρ) (A:=A) (w:=w) (Nat.le_refl n) false hhb hlb vlo nlo vhi nhi
    split at h
    ·rename_i id ix off
     have hx:=(zH rfl).1 ((zZ rfl).1 hx)
     simp only [zR,List.cons.injEq,and_true] at hx
     obtain ⟨a,rfl,hpl⟩:=hx
     split at h
     ·rename_i xs e' ho
      split at h
      ·rename_i k hk
       split at h
       ·rename_i hok
        simp only [Option.some.injEq] at h; subst h
        unfold RefPl at hpl
        simp only [ho] at hpl
        obtain ⟨k',hk',rfl,hlt⟩:=hpl
        rw [hk] at hk'; cases hk'
        refine ⟨_,hs _ hcond.1 _ _ e1,(zH rfl).2 ?_⟩
        simp only [zR]
        refine ⟨_,_,rfl,?_⟩
        unfold CellPl
        simp only [ho]
        refine ⟨k,hk,?_,hlt,by omega,by omega⟩
        by_cases hc:n=l
        ·right; omega
        ·left; simp [hc,Addr.add_lit,Nat.add_assoc]
       ·cases h
      ·cases h
     ·cases h
    ·rename_i z
     split at h
     ·rename_i hz
      simp only [Bool.and_eq_true,decide_eq_true_eq] at hz
      simp only [Option.some.injEq] at h; subst h
      have hx:=(zE rfl).1 (jK.1 hx)
      simp only [RepC,List.cons.injEq,and_true] at hx
      obtain ⟨⟨b,off,sp⟩,us,rfl,hsp,hA,hc,hr⟩:=hx
      simp only at hsp; subst hsp
      have hl:=jU hr
      refine ⟨_,hs _ hcond.1 _ _ e1,jR.2 ((zE rfl).2 ?_)⟩
      have hlen:((z.cells.take hb).drop l).length=hb - l:=by simp; omega
      simp only [RepC,hlen]
      refine ⟨_,_,rfl,by omega,?_⟩
      by_cases hcl:n=l
      ·left; exact List.length_eq_zero_iff.1 (by rw [hlen]; omega)
      ·right
       refine ⟨⟨b,off + l,none⟩,1,(us.take hb).drop l,by simp [hcl,Addr.add_lit],rfl,hA,?_,z2f (z2b l (z2g hb (wI hr)))⟩
       have:=hc.take l (hb - l)
       rwa [← List.drop_take] at this
     ·cases h
    ·cases h
   ·cases h
  ·cases h
 ·cases h
theorem zie {xs:List D} {e:TypeId} (hf:xs.all (z14 P e)=true) {k:Nat} (hk:xs ≠ []→sz P e=some k) {a:Option Addr} {cap l h:Nat} (hcap:xs.length ≤ cap) (hlh:l ≤ h) (hh:h ≤ xs.length)
  (hr:xs=[] ∨ ∃ b off k us,a=some ⟨b,off,none⟩∧A b∧CellsAt w b off us∧RepE A w k xs us) :
  RepX A w (.sl ((xs.take h).drop l)) (.slice (if cap=l then a else a.map (·.add (l * k))) (h - l) (cap - l)):=by
 have hlen:((xs.take h).drop l).length=h - l:=by simp; omega
 refine (zE rfl).2 ?_
 simp only [RepC,hlen]
 refine ⟨_,_,rfl,by omega,?_⟩
 by_cases hc:cap=l
 ·left; exact List.length_eq_zero_iff.1 (by rw [hlen]; omega)
 ·rcases hr with rfl | ⟨b,off,k',us,rfl,hA,hcat,hE⟩
  ·left; simp
  ·cases xs with
   | nil=>left; simp
   | cons x r =>
    right
    have hk':k'=k:=by
     have h1:=hk (by simp)
     have h2:=(z5j (List.all_eq_true.1 hf x (by simp))).2
     simp only [RepE] at hE
     obtain ⟨u1,u2,_,h3,h4,_⟩:=hE
     have h5:=jU h4
     rw [h1] at h2; simp at h2; omega
    subst hk'
    obtain ⟨g1,_⟩:=vN h hh hE
    obtain ⟨_,g2⟩:=vN l (by rw [List.length_take]; omega) g1
    refine ⟨⟨b,off + l * k',none⟩,k',_,by simp [hc,Addr.add_lit],rfl,hA,?_,g2⟩
    have:=hcat.take (l * k') ((h * k') - (l * k'))
    rwa [← List.drop_take] at this
theorem zia (hI:Inv P S ρ A w) {t:TypeId} {x y:V} {lo hi:Option V} {u:Value} {ulo uhi:Option Value} (h:vF P S t x lo hi=some y) (hx:RepV P S ρ A w x u)
  (vlo : ∀ x,lo=some x → ∃ z,ulo=some z∧RepV P S ρ A w x z) (nlo:lo=none→ulo=none) (vhi : ∀ x,hi=some x → ∃ z,uhi=some z∧RepV P S ρ A w x z) (nhi:hi=none→uhi=none) :
  ∃ r,(Instr.sliceAt t u ulo uhi none).run P w = .ok r w∧RepW P S ρ A w y r:=by
 unfold vF at h
 split at h
 ·rename_i hu
  split at h
  ·rename_i s
   split at h
   ·rename_i hb hhb
    split at h
    ·rename_i l hlb
     simp only [Option.some.injEq] at h; subst h
     have hs:(⟨s.toArray⟩:ByteArray).size=s.length:=by simp [ByteArray.size]
     obtain ⟨e1,e2,e3⟩:=z2z (P:=P) (S:=S) (ρ:=ρ) (A:=A) (w:=w) (Nat.le_refl s.length) false hhb hlb vlo nlo vhi nhi
     rw [z2u hx]
     refine ⟨.string ⟨((s.take hb).drop l).toArray⟩,?_,zl9⟩
     have hex:(⟨s.toArray⟩:ByteArray).extract l hb=⟨((s.take hb).drop l).toArray⟩:=by
      ext1
      simp [List.drop_take]
     simp [Instr.sliceAt,Instr.slice,run_underlying hu,hs,e1,hex]
    ·cases h
   ·cases h
  ·cases h
 ·rename_i e hu
  have frozen : ∀ xs:List D,xs.all (z14 P e)=true → ∀ hb l,kF xs.length hi xs.length=some hb→kF hb lo 0=some l → ∀ a cap,xs.length ≤ cap→u = .slice a xs.length cap →
    (xs=[] ∨ ∃ b off k us,a=some ⟨b,off,none⟩∧A b∧CellsAt w b off us∧RepE A w k xs us)→(sz P e).isSome=true →
    ∃ a',(Instr.sliceAt t u ulo uhi none).run P w = .ok (.slice a' (hb - l) (cap - l)) w∧RepX A w (.sl ((xs.take hb).drop l)) (.slice a' (hb - l) (cap - l))∧l ≤ hb∧hb ≤ xs.length:=by
   intro xs hf hb l hhb hlb a cap hcap hua hr hsz
   obtain ⟨k,hk⟩:=Option.isSome_iff_exists.1 hsz
   obtain ⟨e1,e2,e3⟩:=z2z (P:=P) (S:=S) (ρ:=ρ) (A:=A) (w:=w) hcap true hhb hlb vlo nlo vhi nhi
   subst hua
   refine ⟨_,?_,zie hf (fun _=>hk) hcap e2 e3 hr,e2,e3⟩
   simp [Instr.sliceAt,Instr.slice,run_underlying hu,e1,run_sizeOf hk]
  split at h
  ·rename_i xs
   split at h
   ·rename_i hb hhb
    split at h
    ·rename_i l hlb
     split at h
     ·rename_i hf
      simp only [Option.some.injEq] at h; subst h
      obtain ⟨a,cap,hua,hcap,hr⟩:=z8p (jK.1 hx)
      simp only [Bool.and_eq_true] at hf
      obtain ⟨a',e1,e2,_,_⟩:=frozen xs hf.1 hb l hhb hlb a cap hcap hua hr hf.2
      exact ⟨_,e1,jR.2 e2⟩
     ·cases h
    ·cases h
   ·cases h
  ·rename_i xs
   split at h
   ·rename_i hb hhb
    split at h
    ·rename_i l hlb
     split at h
     ·rename_i hf
      obtain ⟨a,hua,hx'⟩:=zd4 hx
      obtain ⟨a2,cap,hua2,hcap,hr⟩:=z8p hx'
      rw [hua] at hua2
      simp only [Value.slice.injEq] at hua2
      obtain ⟨rfl,_,rfl⟩:=hua2
      simp only [Bool.and_eq_true] at hf
      obtain ⟨a',e1,e2,e3,e4⟩:=frozen xs hf.1 hb l hhb hlb a _ (Nat.le_refl _) hua hr hf.2
      refine ⟨_,e1,?_⟩
      simp only [Option.some.injEq] at h; subst h
      by_cases hx2:hb=xs.length
      ·subst hx2
       simp only [if_true]
       refine (zH rfl).2 ?_
       simp only [zR]
       have e2':=(zE rfl).1 e2
       rw [List.take_length] at e2'
       exact ⟨a',by simp,e2'⟩
      ·rw [if_neg hx2]
       exact jR.2 e2
     ·cases h
    ·cases h
   ·cases h
  ·rename_i id off len
   split at h
   ·rename_i hb hhb
    split at h
    ·rename_i l hlb
     split at h
     ·rename_i hrow
      simp only [Bool.and_eq_true] at hrow
      simp only [Option.some.injEq] at h; subst h
      obtain ⟨k,hk⟩:=Option.isSome_iff_exists.1 hrow.2
      have hx:=(zH rfl).1 ((zZ rfl).1 hx)
      simp only [zR,List.cons.injEq,and_true] at hx
      obtain ⟨a,cap,rfl,hpl⟩:=hx
      have hrow1:=hrow.1
      unfold RowPl at hpl
      unfold rowT at hrow1
      have fin : ∀ n,(∃ k,sz P e=some k∧(a=some ⟨ρ id,off * k,none⟩ ∨ cap=0)∧off + len ≤ n∧len ≤ cap ∧ ∃ c e' f,w.heap[ρ id]? = some (.cells c e' f)∧(off + cap) * k ≤ c.size) →
        ∃ a',(Instr.sliceAt t (.slice a len cap) ulo uhi none).run P w = .ok (.slice a' (hb - l) (cap - l)) w∧(∃ k,sz P e=some k∧(a'=some ⟨ρ id,(off + l) * k,none⟩ ∨ cap - l=0)∧off + l + (hb - l) ≤ n∧hb - l ≤ cap - l ∧ ∃ c e' f,w.heap[ρ id]? = some (.cells c e' f)∧(off + l + (cap - l)) * k ≤ c.size):=by
       rintro n ⟨k',hk',ha,h3,h4,c,e',f,h5,h6⟩
       rw [hk] at hk'; cases hk'
       obtain ⟨e1,e2,e3⟩:=z2z (P:=P) (S:=S) (ρ:=ρ) (A:=A) (w:=w) h4 true hhb hlb vlo nlo vhi nhi
       refine ⟨(if cap=l then a else a.map (·.add (l * k))),by simp [Instr.sliceAt,Instr.slice,run_underlying hu,e1,run_sizeOf hk],k,hk,?_,by omega,by omega,c,e',f,h5,by rw [show off + l + (cap - l)=off + cap by omega]; exact h6⟩
       by_cases hc:cap=l
       ·right; omega
       ·left
        rcases ha with rfl | ha
        ·simp [hc,Addr.add_lit,Nat.add_mul]
        ·omega
      cases ho:S[id]? with
      | none=>simp [ho] at hpl
      | some o =>
       simp only [ho] at hpl hrow1
       cases o with
       | row xs e' =>
        simp only [beq_iff_eq] at hrow1; subst hrow1
        obtain ⟨a',e1,e2⟩:=fin _ hpl
        refine ⟨_,e1,(zH rfl).2 ?_⟩
        simp only [zR]
        exact ⟨_,_,rfl,by unfold RowPl; simp only [ho]; exact e2⟩
       | fz xs e' =>
        simp only [beq_iff_eq] at hrow1; subst hrow1
        obtain ⟨a',e1,e2⟩:=fin _ hpl
        refine ⟨_,e1,(zH rfl).2 ?_⟩
        simp only [zR]
        exact ⟨_,_,rfl,by unfold RowPl; simp only [ho]; exact e2⟩
       | _=>simp at hrow1
     ·cases h
    ·cases h
   ·cases h
  ·cases h
 ·rename_i arr hu
  split at h
  ·rename_i n e hua
   exact z6e hI h hx vlo nlo vhi nhi (fun a hk l h' e1=>by simp [Instr.sliceAt,Instr.slice,run_underlying hu,run_underlying hua,asAddr,e1,run_sizeOf hk])
  ·cases h
 ·rename_i n e hu
  exact z6e hI h hx vlo nlo vhi nhi (fun a hk l h' e1=>by simp [Instr.sliceAt,Instr.sureAddr,run_underlying hu,e1,run_sizeOf hk])
 ·cases h
end
section
variable {P:Program} {S:zA} {ρ:Nat→Nat} {A:Nat→Prop} {w w':World}
theorem z9m (hI:Inv P S ρ A w) {x:V} {ys:List V} {u:Value} (h:jV S x=some ys) (hx:RepV P S ρ A w x u) :
  (∃ s,x = .d (.str s)∧u = .string ⟨s.toArray⟩∧ys=s.map fun b=>.d (.int .u8 b.toNat)) ∨
  (∃ a cap k us,u = .slice a ys.length cap∧ys.length ≤ cap∧qN P S ρ A w k ys us∧(ys=[] ∨ ∃ b off,a=some ⟨b,off,none⟩∧CellsAt w b off us)):=by
 have frozen : ∀ xs:List D,RepX A w (.sl xs) u → ∃ a cap k us,u = .slice a (xs.map V.d).length cap∧(xs.map V.d).length ≤ cap∧qN P S ρ A w k (xs.map V.d) us∧(xs.map V.d=[] ∨ ∃ b off,a=some ⟨b,off,none⟩∧CellsAt w b off us):=by
  intro xs hx
  obtain ⟨a,cap,rfl,h1,h2⟩:=z8p hx
  rcases h2 with rfl | ⟨b,off,k,us,rfl,_,h3,h4⟩
  ·exact ⟨a,cap,0,[],by simp,by simp,by simp [qN],.inl rfl⟩
  ·exact ⟨_,cap,k,us,by simp,by simpa using h1,z5h h4,.inr ⟨b,off,rfl,h3⟩⟩
 unfold jV at h
 split at h
 ·simp only [Option.some.injEq] at h; subst h
  exact .inr (frozen _ (jK.1 hx))
 ·simp only [Option.some.injEq] at h; subst h
  obtain ⟨_,_,hx'⟩:=zd4 hx
  exact .inr (frozen _ hx')
 ·rename_i id off len
  right
  have hx:=(zH rfl).1 ((zZ rfl).1 hx)
  simp only [zR,List.cons.injEq,and_true] at hx
  obtain ⟨a,cap,rfl,hpl⟩:=hx
  unfold RowPl at hpl
  cases ho:S[id]? with
  | none=>simp [ho] at h
  | some o =>
   have hok:=hI.ok id o ho
   simp only [ho] at hpl h
   cases o with
   | row xs e =>
    simp only at h hpl
    split at h
    ·rename_i hle
     simp only [Option.some.injEq] at h; subst h
     obtain ⟨k,hk,ha,h3,h4,_⟩:=hpl
     simp only [ObOk] at hok
     obtain ⟨k',c,us,rest,hk',hh,hcl,hre⟩:=hok
     rw [hk] at hk'; cases hk'
     have hlen:((xs.drop off).take len).length=len:=by simp; omega
     refine ⟨a,cap,k,(us.drop (off * k)).take (len * k),by rw [hlen],by omega,(kS len (by simp; omega) (kS off (by omega) hre).2).1,?_⟩
     rcases ha with rfl | ha
     ·exact .inr ⟨_,_,rfl,qM hh hcl _ _⟩
     ·exact .inl (List.length_eq_zero_iff.1 (by rw [hlen]; omega))
    ·cases h
   | fz xs e =>
    simp only at h hpl
    split at h
    ·rename_i hle
     simp only [Option.some.injEq] at h; subst h
     obtain ⟨k,hk,ha,h3,h4,_⟩:=hpl
     simp only [ObOk] at hok
     obtain ⟨k',c,f,us,rest,hk',_,hh,hcl,hre⟩:=hok
     rw [hk] at hk'; cases hk'
     have hlen:(((xs.drop off).take len).map V.d).length=len:=by simp; omega
     refine ⟨a,cap,k,(us.drop (off * k)).take (len * k),by rw [hlen],by omega,z5h (vN len (by simp; omega) (vN off (by omega) hre).2).1,?_⟩
     rcases ha with rfl | ha
     ·exact .inr ⟨_,_,rfl,qM hh hcl _ _⟩
     ·exact .inl (List.length_eq_zero_iff.1 (by rw [hlen]; omega))
    ·cases h
   | _=>simp at h
 ·rename_i id ix off len
  right
  have hx:=(zH rfl).1 ((zZ rfl).1 hx)
  simp only [zR,List.cons.injEq,and_true] at hx
  obtain ⟨a,cap,rfl,hpl⟩:=hx
  unfold CellPl at hpl
  cases ho:S[id]? with
  | none=>simp [ho] at h
  | some o =>
   have hok:=hI.ok id o ho
   simp only [ho] at hpl h
   cases o with
   | row xs e =>
    simp only at h hpl
    cases hxi:xs[ix]? with
    | none=>simp [hxi] at h
    | some z =>
     simp only [hxi] at h
     split at h
     ·rename_i hle
      simp only [Bool.and_eq_true,decide_eq_true_eq] at hle
      simp only [Option.some.injEq] at h; subst h
      obtain ⟨k,hk,ha,h3,h4,h5⟩:=hpl
      simp only [ObOk] at hok
      obtain ⟨k',c,us,rest,hk',hh,hcl,hre⟩:=hok
      rw [hk] at hk'; cases hk'
      obtain ⟨g1,g2⟩:=z1d hre ix z hxi
      have gl:=qY g1
      simp only [List.length_take,List.length_drop] at gl
      have hlen:((z.cells.drop off).take len).length=len:=by simp; omega
      have g3:=z7e (z0i len (z0h off (kO g1)))
      refine ⟨a,cap,1,_,by rw [hlen],by omega,g3,?_⟩
      rcases ha with rfl | ha
      ·refine .inr ⟨_,_,rfl,?_⟩
       have:=qM hh hcl (ix * k + off) len
       rw [List.drop_take,List.take_take,List.drop_drop,show min len (k - off)=len by omega]
       exact this
      ·exact .inl (List.length_eq_zero_iff.1 (by rw [hlen]; omega))
     ·cases h
   | fz xs e =>
    simp only at h hpl
    cases hxi:xs[ix]? with
    | none=>simp [hxi] at h
    | some z =>
     simp only [hxi] at h
     split at h
     ·rename_i hle
      simp only [Bool.and_eq_true,decide_eq_true_eq] at hle
      simp only [Option.some.injEq] at h; subst h
      obtain ⟨k,hk,ha,h3,h4,h5⟩:=hpl
      simp only [ObOk] at hok
      obtain ⟨k',c,f,us,rest,hk',_,hh,hcl,hre⟩:=hok
      rw [hk] at hk'; cases hk'
      obtain ⟨g1,g2⟩:=z33 hre ix z hxi
      have gl:=jU g1
      simp only [List.length_take,List.length_drop] at gl
      have hlen:(((z.cells.drop off).take len).map V.d).length=len:=by simp; omega
      have g3:=z5h (P:=P) (S:=S) (ρ:=ρ) (z2f (z2g len (z2b off (wI g1))))
      refine ⟨a,cap,1,_,by rw [hlen],by omega,g3,?_⟩
      rcases ha with rfl | ha
      ·refine .inr ⟨_,_,rfl,?_⟩
       have:=qM hh hcl (ix * k + off) len
       rw [List.drop_take,List.take_take,List.drop_drop,show min len (k - off)=len by omega]
       exact this
      ·exact .inl (List.length_eq_zero_iff.1 (by rw [hlen]; omega))
     ·cases h
   | _=>simp at h
 ·rename_i s
  simp only [Option.some.injEq] at h; subst h
  exact .inl ⟨s,rfl,z2u hx,rfl⟩
 ·cases h
theorem z8q : ∀ (s:List UInt8),qN P S ρ A w 1 (s.map fun b=>.d (.int .u8 b.toNat)) (s.map fun b=>.int .u8 b.toNat)
 | []=>by simp [qN]
 | b::r=>by
  simp only [List.map_cons,qN]
  exact ⟨[.int .u8 b.toNat],_,rfl,rfl,by simp [zR,RepC],z8q r⟩
theorem z27 {k:Nat} {z:V} {us:Array Value} (hz:zR P S ρ A w z us.toList) (hk:us.size=k) : ∀ n,qN P S ρ A w k (List.replicate n z) ((Array.range (n * k)).map (fun i=>us[i % k]!)).toList
 | 0=>by simp [qN]
 | n + 1=>by
  have ih:=z27 hz hk n
  simp only [List.replicate_succ,qN]
  rcases Nat.eq_zero_or_pos k with h0 | hp
  ·subst h0
   refine ⟨us.toList,[],?_,by simpa using hk,hz,by simpa using ih⟩
   have:us.toList=[]:=List.length_eq_zero_iff.1 (by simpa using hk)
   simp [this]
  ·refine ⟨us.toList,_,?_,by simpa using hk,hz,ih⟩
   have e:(n + 1) * k=k + n * k:=by rw [Nat.succ_mul,Nat.add_comm]
   apply List.ext_getElem?
   intro i
   rw [e]
   by_cases hi:i < k
   ·rw [List.getElem?_append_left (by simpa [hk] using hi)]
    have hi2:i < k + n * k:=by omega
    have hius:i < us.size:=by omega
    simp [hi2,Nat.mod_eq_of_lt hi,hius,getElem!_pos us i hius]
   ·rw [List.getElem?_append_right (by simp [hk]; omega)]
    simp only [Array.length_toList,hk,Array.toList_map,Array.toList_range,List.getElem?_map,List.getElem?_range']
    by_cases hj:i < k + n * k
    ·have hj2:i - k < n * k:=by omega
     have hm:i % k=(i - k) % k:=by
      conv=>lhs; rw [show i=(i - k) + k by omega,Nat.add_mod_right]
     simp [hj,hj2,hm]
    ·have hj2 : ¬ i - k < n * k:=by omega
     simp [hj,hj2]
def SrcG (P:Program) (e:TypeId) (k:Nat) (tx:TypeId) (u:Value) (n:Nat) (us:List Value) (w:World):Prop :=
 Src P k tx u n us w ∨ (P.underlying tx=some (.int .i64)∧u = .int .i64 (n:Int)∧1 ≤ n∧n ≤ 1000000∧k ≠ 0∧(∀ v ∈ us,v.oneCell'=true)∧us.length=n * k ∧ ∃ i z,P.info? e=some i∧i.size=k∧i.zero=some z∧z.cells.size=k∧us=(Builtin.zeroCells z.cells n).toList)
theorem SrcG.src {e:TypeId} {k:Nat} {tx:TypeId} {u:Value} {us:List Value} (h:SrcG P e k tx u 0 us w):Src P k tx u 0 us w:=by
 rcases h with h | ⟨_,_,h1,_⟩
 ·exact h
 ·omega
theorem zmb (hI:Inv P S ρ A w) {e tx:TypeId} {x:V} {ys:List V} {u:Value} (hu:P.underlying tx=some (.int .i64)) (h:zm8 P e x=some ys) (hx:RepV P S ρ A w x u) :
  ∃ k us,sz P e=some k∧qN P S ρ A w k ys us∧SrcG P e k tx u ys.length us w:=by
 unfold zm8 at h
 split at h
 ·rename_i n
  split at h
  ·rename_i hn
   split at h
   ·rename_i z hz
    split at h
    ·rename_i hf
     simp only [Bool.and_eq_true] at hf
     simp only [Option.some.injEq] at h; subst h
     rw [vL hx]
     obtain ⟨k,hk⟩:=Option.isSome_iff_exists.1 hf.1.2
     have hk0:k ≠ 0:=by
      rintro rfl
      have:=hf.2
      simp [hk] at this
     obtain ⟨i,d,hi,hik,hd⟩:=z2i hk
     unfold zeroV at hz
     simp only [hi,Option.bind_some] at hz
     cases hzz:i.zero with
     | none=>simp [hzz] at hz
     | some z0 =>
      simp only [hzz,Option.bind_some] at hz
      have hzr:=z0l (P:=P) (S:=S) (ρ:=ρ) (A:=A) (w:=w) hz
      have hzc:=jD hzr
      have h3:=(z1i hf.1.1).2.2
      have hzl:z0.cells.size=k:=by
       have:=qY hzc
       simp only [Array.length_toList] at this
       rw [hk] at h3
       simp only [Option.some.injEq] at h3
       omega
      have hrow:=z27 hzc hzl n.toNat
      have e1:((Array.range (n.toNat * k)).map fun i=>z0.cells[i % k]!)=Builtin.zeroCells z0.cells n.toNat:=by
       unfold Builtin.zeroCells
       rw [hzl]
      rw [e1] at hrow
      refine ⟨k,_,hk,hrow,.inr ⟨hu,?_,?_,?_,hk0,z2x hrow,qU hrow,i,z0,hi,hik,hzz,hzl,?_⟩⟩
      ·rw [List.length_replicate,Int.toNat_of_nonneg (by omega)]
      ·rw [List.length_replicate]; omega
      ·rw [List.length_replicate]; omega
      ·rw [List.length_replicate]
    ·cases h
   ·cases h
  ·cases h
 ·cases h
theorem zgf (hI:Inv P S ρ A w) {e tx:TypeId} {x:V} {ys:List V} {u:Value} (h:srcV P S e tx x=some ys) (hx:RepV P S ρ A w x u) :
  ∃ k us,sz P e=some k∧qN P S ρ A w k ys us∧SrcG P e k tx u ys.length us w∧(intT P tx=false→Src P k tx u ys.length us w ∧ ∀ m,m ≤ ys.length→(Builtin.firstCells k m u).run P w = .ok (us.take (m * k)).toArray w):=by
 suffices hh:(∃ k us,sz P e=some k∧qN P S ρ A w k ys us∧Src P k tx u ys.length us w ∧ ∀ m,m ≤ ys.length→(Builtin.firstCells k m u).run P w = .ok (us.take (m * k)).toArray w) ∨ (intT P tx=true ∧ ∃ k us,sz P e=some k∧qN P S ρ A w k ys us∧SrcG P e k tx u ys.length us w) by
  rcases hh with ⟨k,us,h1,h2,h3,h4⟩ | ⟨hi,k,us,h1,h2,h3⟩
  ·exact ⟨k,us,h1,h2,.inl h3,fun _=>⟨h3,h4⟩⟩
  ·exact ⟨k,us,h1,h2,h3,fun h=>by rw [hi] at h; cases h⟩
 unfold srcV at h
 split at h
 ·rename_i s
  split at h
  ·rename_i hu
   split at h
   ·rename_i hk
    simp only [Option.some.injEq] at h; subst h
    rw [z2u hx]
    have:=Src.ofString w hu (⟨s.toArray⟩:ByteArray)
    have hs:(⟨s.toArray⟩:ByteArray).size=s.length:=by simp [ByteArray.size]
    have hb:byteCells (⟨s.toArray⟩:ByteArray)=s.map fun b=>Value.int .u8 b.toNat:=by simp [byteCells]
    rw [hs,hb] at this
    refine .inl ⟨1,_,hk,z8q s,by simpa using this,fun m hm=>?_⟩
    simp only [Builtin.firstCells,Sem.run_pure,Result.ok.injEq,and_true,Nat.mul_one]
    apply Array.ext'
    simp [List.map_take]
   ·cases h
  ·cases h
 ·rename_i hns
  split at h
  ·rename_i e' hu
   cases hel:jV S x with
   | none=>simp [hel] at h
   | some zs =>
    simp only [hel] at h
    split at h
    ·rename_i hf
     simp only [Bool.and_eq_true] at hf
     simp only [Option.some.injEq] at h; subst h
     obtain ⟨k,hk⟩:=Option.isSome_iff_exists.1 hf.2
     rcases z9m hI hel hx with ⟨s,rfl,_⟩ | ⟨a,cap,k',us,rfl,hcap,hE,hc⟩
     ·exact absurd rfl (hns s)
     ·cases zs with
      | nil =>
       simp only [qN] at hE; subst hE
       refine .inl ⟨k,[],hk,by simp [qN],?_⟩
       have nocells : ∀ w':World,(Builtin.firstCells k 0 (.slice a 0 cap)).run P w' = .ok #[] w':=fun w'=>by
        cases a with
        | none=>simp [Builtin.firstCells]
        | some a=>simp [Builtin.firstCells,loadCells,loadCellsFrom]
       exact ⟨⟨.inl ⟨e',hu⟩,fun _=>rfl,nocells w,nocells w.drew,by simp,by simp⟩,fun m hm=>by
        have:m=0:=by simpa using hm
        subst this
        simpa using nocells w⟩
      | cons z r =>
       have hkk:k'=k:=by
        have h2:=(z1i (List.all_eq_true.1 hf.1 z (by simp))).2.2
        simp only [qN] at hE
        obtain ⟨u1,u2,_,h3,h4,_⟩:=hE
        have h5:=qY h4
        rw [hk] at h2; simp at h2; omega
       subst hkk
       rcases hc with hc | ⟨b,off,rfl,hc⟩
       ·cases hc
       ·refine .inl ⟨k',us,hk,hE,Src.ofSlice w hu _ _ _ us (by rw [qU hE]) (fun j v hv=>hc.cell hv) (z2x hE),fun m hm=>?_⟩
        have hl:=qU hE
        refine run_firstCells_some w k' m _ _ _ _ (by rw [List.length_take,hl]; exact Nat.min_eq_left (Nat.mul_le_mul_right _ hm)) (fun j v hv=>?_)
        rw [List.getElem?_take] at hv
        split at hv
        ·exact hc.cell hv
        ·cases hv
    ·cases h
  ·rename_i hu
   exact .inr ⟨by simp [intT,hu],zmb hI hu h hx⟩
  ·cases h
theorem z2e {t tx ty e:TypeId} {i:TypeInfo} {z:Value} (ht:P.underlying t=some (.slice e)) (hi:P.info? e=some i) (hk:P.underlying tx=some (.int .i64)) (hz:i.zero=some z) {b sLen sCap n:Nat} {news:List Value} (hn1:1 ≤ n) (hn2:n ≤ 1000000) (hs0:i.size ≠ 0) (h48:n * i.bytes ≤ 281474976710656) (hnews:news=(Builtin.zeroCells z.cells n).toList) (hone : ∀ u ∈ news,u.oneCell'=true)
  (hroom:sLen + n ≤ sCap) {c:Array Value} {e':TypeId} (hh:w.heap[b]? = some (.cells c e' (0,0))) (hfit:sLen * i.size + news.length ≤ c.size) :
  (Builtin.append_ #[t,tx] ty #[.slice (some ⟨b,0,none⟩) sLen sCap,.int .i64 (n:Int)]).run P w = .ok (.slice (some ⟨b,0,none⟩) (sLen + n) sCap) (w.setRow b (c.toList.take (sLen * i.size) ++ news ++ c.toList.drop (sLen * i.size + news.length)).toArray):=by
 have hst:=run_storeCells_at P b (sLen * i.size) e' news 0 c w hh (by simpa using hfit) hone
 simp only [Nat.add_zero] at hst
 have wn:IntKind.i64.wrap (n:Int)=(n:Int):=IntWalk.i64_in _ (by omega)
 have h1 : ¬ ((n:Int) < 0):=by omega
 have h2 : ¬ (281474976710656 < (n:Int) * (i.bytes:Int)):=by
  have:(n:Int) * (i.bytes:Int)=((n * i.bytes:Nat):Int):=by rw [Int.natCast_mul]
  rw [this]; omega
 have h3 : ¬ n * i.size=0:=by
  intro h
  rcases Nat.mul_eq_zero.1 h with h | h <;> omega
 have h4 : ¬ (n=0 ∨ i.size=0):=by omega
 subst hnews
 simp [Builtin.append_,run_underlying ht,run_underlying hk,sizeOf,typeInfo,zeroValue,hi,hz,asInt,asIntOf,wn,h1,h2,h3,h4,hroom,Addr.add_lit,hst]
theorem z3r {t tx ty e:TypeId} {i:TypeInfo} (ht:P.underlying t=some (.slice e)) (hi:P.info? e=some i) {b sLen sCap n:Nat} {x:Value} {news:List Value} (hs:Src P i.size tx x n news w)
  (hroom:sLen + n ≤ sCap) {c:Array Value} {e':TypeId} (hh:w.heap[b]? = some (.cells c e' (0,0))) (hfit:sLen * i.size + news.length ≤ c.size) :
  (Builtin.append_ #[t,tx] ty #[.slice (some ⟨b,0,none⟩) sLen sCap,x]).run P w = .ok (.slice (some ⟨b,0,none⟩) (sLen + n) sCap) (w.setRow b (c.toList.take (sLen * i.size) ++ news ++ c.toList.drop (sLen * i.size + news.length)).toArray):=by
 have hst:=run_storeCells_at P b (sLen * i.size) e' news 0 c w hh (by simpa using hfit) hs.one
 simp only [Nat.add_zero] at hst
 rcases hs.kind with ⟨e2,hk⟩ | hk <;> simp [Builtin.append_,run_underlying ht,run_underlying hk,sizeOf,typeInfo,hi,hs.len,hroom,hs.cells,Addr.add_lit,hst]
theorem z2s {t tx ty e:TypeId} {i:TypeInfo} {z:Value} (ht:P.underlying t=some (.slice e)) (hi:P.info? e=some i) (hk:P.underlying tx=some (.int .i64)) (hz:i.zero=some z) (base:Option Addr) (sLen sCap:Nat) (olds:List Value)
  (hold:(Builtin.firstCells i.size sLen (.slice base sLen sCap)).run P w.drew = .ok olds.toArray w.drew) (n:Nat) (news:List Value) (hn1:1 ≤ n) (hn2:n ≤ 1000000) (hs0:i.size ≠ 0) (h48:n * i.bytes ≤ 281474976710656) (hnews:news=(Builtin.zeroCells z.cells n).toList)
  (hg:sCap < sLen + n) (h63:((sLen + n:Nat):Int) ≤ 9223372036854775807) (hfit:Builtin.nextslicecap (sLen + n) sCap * i.bytes ≤ 281474976710656) :
  (Builtin.append_ #[t,tx] ty #[.slice base sLen sCap,.int .i64 (n:Int)]).run P w =
   .ok (.slice (some ⟨w.heap.size,0,none⟩) (sLen + n) (grownCap w (sLen + n) sCap e))
    (w.drew.alloc (.cells ((olds ++ news).toArray ++ Builtin.zeroCells z.cells (grownCap w (sLen + n) sCap e - (sLen + n))) e)):=by
 have hn : ¬ (sLen + n ≤ sCap):=by omega
 have h63' : ¬ (9223372036854775807 < ((sLen:Int) + (n:Int))):=by omega
 have h48' : ¬ (281474976710656 < Builtin.nextslicecap (sLen + n) sCap * i.bytes):=by omega
 have wn:IntKind.i64.wrap (n:Int)=(n:Int):=IntWalk.i64_in _ (by omega)
 have h1 : ¬ ((n:Int) < 0):=by omega
 have h2 : ¬ (281474976710656 < (n:Int) * (i.bytes:Int)):=by
  have:(n:Int) * (i.bytes:Int)=((n * i.bytes:Nat):Int):=by rw [Int.natCast_mul]
  rw [this]; omega
 have h4 : ¬ (n=0 ∨ i.size=0):=by omega
 subst hnews
 simp [Builtin.append_,run_underlying ht,run_underlying hk,sizeOf,typeInfo,zeroValue,hi,hz,asInt,asIntOf,wn,h1,h2,h4,hn,h63',h48',Question.forced,hold,newRow,grownCap]
 have h5 : ¬ n * i.size=0:=by
  intro h
  rcases Nat.mul_eq_zero.1 h with h | h <;> omega
 have e5 : ∀ q:Array Value,olds.toArray ++ (Builtin.zeroCells z.cells n ++ q)=(olds ++ (Builtin.zeroCells z.cells n).toList).toArray ++ q:=by
  intro q
  apply Array.ext'
  simp [List.append_assoc]
 rw [if_neg h5,e5]
theorem z66 {t tx ty e:TypeId} {i:TypeInfo} (ht:P.underlying t=some (.slice e)) (hi:P.info? e=some i) {b sLen sCap n:Nat} {x:Value} {news:List Value} (hs:SrcG P e i.size tx x n news w) (h48:n * i.bytes ≤ 281474976710656)
  (hroom:sLen + n ≤ sCap) {c:Array Value} {e':TypeId} (hh:w.heap[b]? = some (.cells c e' (0,0))) (hfit:sLen * i.size + news.length ≤ c.size) :
  (Builtin.append_ #[t,tx] ty #[.slice (some ⟨b,0,none⟩) sLen sCap,x]).run P w = .ok (.slice (some ⟨b,0,none⟩) (sLen + n) sCap) (w.setRow b (c.toList.take (sLen * i.size) ++ news ++ c.toList.drop (sLen * i.size + news.length)).toArray):=by
 rcases hs with hs | ⟨hk,rfl,hn1,hn2,hk0,hone,hl,i',z,hi',hik,hz,hzs,hnews⟩
 ·exact z3r ht hi hs hroom hh hfit
 ·rw [hi] at hi'; cases hi'
  exact z2e ht hi hk hz hn1 hn2 hk0 h48 hnews hone hroom hh hfit
theorem z5s {t tx ty e:TypeId} {i:TypeInfo} {z:Value} (ht:P.underlying t=some (.slice e)) (hi:P.info? e=some i) (hz:i.zero=some z) (base:Option Addr) (sLen sCap:Nat) (olds:List Value)
  (hold:(Builtin.firstCells i.size sLen (.slice base sLen sCap)).run P w.drew = .ok olds.toArray w.drew) (x:Value) (n:Nat) (news:List Value) (hs:SrcG P e i.size tx x n news w) (h48:n * i.bytes ≤ 281474976710656)
  (hg:sCap < sLen + n) (h63:((sLen + n:Nat):Int) ≤ 9223372036854775807) (hfit:Builtin.nextslicecap (sLen + n) sCap * i.bytes ≤ 281474976710656) :
  (Builtin.append_ #[t,tx] ty #[.slice base sLen sCap,x]).run P w =
   .ok (.slice (some ⟨w.heap.size,0,none⟩) (sLen + n) (grownCap w (sLen + n) sCap e))
    (w.drew.alloc (.cells ((olds ++ news).toArray ++ Builtin.zeroCells z.cells (grownCap w (sLen + n) sCap e - (sLen + n))) e)):=by
 rcases hs with hs | ⟨hk,rfl,hn1,hn2,hk0,hone,hl,i',z',hi',hik,hz',hzs,hnews⟩
 ·exact run_append_grow_src w t tx ty e i z ht hi hz base sLen sCap olds hold x n news hs hg h63 hfit
 ·rw [hi] at hi'; cases hi'
  rw [hz] at hz'; cases hz'
  exact z2s ht hi hk hz base sLen sCap olds hold n news hn1 hn2 hk0 h48 hnews hg h63 hfit
theorem z4m {e:TypeId} {n:Nat} {i:TypeInfo} (h:room P e n=true) (hi:P.info? e=some i):n * i.bytes ≤ 140737488355328∧n ≤ 9223372036854775807:=by
 simpa [room,bytesOf,hi] using h
theorem zn2 {e:TypeId} {i:TypeInfo} (h:zOk P e=true) (hi:P.info? e=some i) : ∃ z,i.zero=some z∧z.cells.size=i.size:=by
 unfold zOk at h
 cases hz:zeroV P e with
 | none=>simp [hz] at h
 | some v =>
  simp only [hz] at h
  unfold zeroV at hz
  simp only [hi,Option.bind_some] at hz
  cases hzz:i.zero with
  | none=>simp [hzz] at hz
  | some z =>
   simp only [hzz,Option.bind_some] at hz
   obtain ⟨_,k,hk,h1,_⟩:=wR (P:=P) (S:=[]) (ρ:=fun _=>0) (A:=fun _=>False) (w:=default) h (zT (z0l hz))
   obtain ⟨i',_,hi',hk',_⟩:=z2i hk
   rw [hi] at hi'; cases hi'
   exact ⟨z,rfl,by omega⟩
theorem zf5 (hI:Inv P S ρ A w) {t tx ty:TypeId} {s x y:V} {S':zA} {c:Nat} {us ux:Value} (h:qJ P S t tx s x=some (y,S',c)) (hs:RepV P S ρ A w s us) (hx:RepV P S ρ A w x ux) :
  ∃ v w' ρ',(Builtin.append_ #[t,tx] ty #[us,ux]).run P w = .ok v w'∧Inv P S' ρ' A w'∧Step S ρ A w S' ρ' A w'∧RepW P S' ρ' A w' y v:=by
 unfold qJ at h
 split at h
 ·rename_i e hu
  cases hsrc:srcV P S e tx x with
  | none=>simp [hsrc] at h
  | some ys =>
   obtain ⟨k,news,hk,hE,hsr,_⟩:=zgf hI hsrc hx
   obtain ⟨i,d,hi,hik,hd⟩:=z2i hk
   subst hik
   simp only [hsrc] at h
   cases ys with
   | nil =>
    simp only at h
    simp only [qN] at hE; subst hE
    have nothing : ∀ a n cap,n ≤ cap→us = .slice a n cap→(Builtin.append_ #[t,tx] ty #[us,ux]).run P w = .ok us w:=fun a n cap hle he=>by
     subst he; exact run_append_nothing w t tx ty e i hu hi a n cap hle ux (SrcG.src (by simpa using hsr))
    split at h <;> simp only [Option.some.injEq,Prod.mk.injEq,reduceCtorEq] at h
    ·rename_i xs
     obtain ⟨rfl,rfl,rfl⟩:=h
     obtain ⟨a,he,_⟩:=zd4 hs
     exact ⟨us,w,ρ,nothing a _ _ (Nat.le_refl _) he,hI,.refl,(zZ rfl).1 hs⟩
    ·rename_i id off len
     obtain ⟨rfl,rfl,rfl⟩:=h
     have hs':=(zZ rfl).1 hs
     have hs2:=(zH rfl).1 hs'
     simp only [zR,List.cons.injEq,and_true] at hs2
     obtain ⟨a,cap,he,hpl⟩:=hs2
     have hle:len ≤ cap:=by
      unfold RowPl at hpl
      cases ho:S[id]? with
      | none=>simp [ho] at hpl
      | some o =>
       simp only [ho] at hpl
       cases o <;> first | exact hpl.elim | exact hpl | (obtain ⟨_,_,_,_,h4,_⟩:=hpl; exact h4)
     exact ⟨us,w,ρ,nothing a _ _ hle he,hI,.refl,hs'⟩
    ·rename_i xs
     obtain ⟨rfl,rfl,rfl⟩:=h
     obtain ⟨a,cap,he,hle,_⟩:=z8p (jK.1 hs)
     exact ⟨us,w,ρ,nothing a _ _ hle he,hI,.refl,(zZ rfl).1 hs⟩
   | cons y0 r =>
    simp only at h
    split at h
    ·rename_i hz
     obtain ⟨z0,hz0,hzc⟩:=zn2 hz hi
     have grow : ∀ (S1:zA) (ρ1:Nat→Nat) (old:List V) (base:Option Addr) (cap:Nat) (olds:List Value),Inv P S1 ρ1 A w→qN P S1 ρ1 A w i.size old olds→qN P S1 ρ1 A w i.size (y0::r) news→us = .slice base old.length cap→cap < old.length + (r.length + 1)→room P e (old.length + (r.length + 1))=true →
       (base=none∧old=[] ∨ ∃ a,base=some a ∧ ∀ j u,olds[j]? = some u→w.cell? (a.add j)=some u) →
       ∃ v w',(Builtin.append_ #[t,tx] ty #[us,ux]).run P w = .ok v w' ∧ ∃ ρ',Inv P (S1 ++ [.row (old ++ y0::r) e]) ρ' A w'∧Step S1 ρ1 A w (S1 ++ [.row (old ++ y0::r) e]) ρ' A w'∧RepW P (S1 ++ [.row (old ++ y0::r) e]) ρ' A w' (.rs S1.length 0 (old.length + (r.length + 1))) v:=by
      intro S1 ρ1 old base cap olds hI1 hold hnew he hcap hroom hb
      obtain ⟨r1,r2⟩:=z4m hroom hi
      have hol:=qU hold
      have hld:(Builtin.firstCells i.size old.length (.slice base old.length cap)).run P w.drew = .ok olds.toArray w.drew:=by
       rcases hb with ⟨rfl,rfl⟩ | ⟨a,rfl,ha⟩
       ·simp only [qN] at hold; subst hold
        exact run_firstCells_none w.drew i.size 0 0 cap
       ·exact run_firstCells_some w.drew i.size old.length a old.length cap olds hol (by simpa using ha)
      have hrun:=z5s (ty:=ty) hu hi hz0 base old.length cap olds hld ux (r.length + 1) news (by simpa using hsr) (by rw [Nat.add_mul] at r1; omega) hcap (by omega) (growslice_fits hcap r1)
      rw [← he] at hrun
      refine ⟨_,_,hrun,?_⟩
      obtain ⟨g1,g2⟩:=hI1.push (o:= .row (old ++ y0::r) e) (w':=w.drew.alloc (.cells ((olds ++ news).toArray ++ Builtin.zeroCells z0.cells (grownCap w (old.length + (r.length + 1)) cap e - (old.length + (r.length + 1)))) e)) rfl (by simp) (fun b hb=>kI _ hb) rfl rfl rfl (fun hss hA=>by
       simp only [ObOk]
       refine ⟨i.size,_,olds ++ news,(Builtin.zeroCells z0.cells (grownCap w (old.length + (r.length + 1)) cap e - (old.length + (r.length + 1)))).toList,hk,jG (w:=w.drew) _,by simp,?_⟩
       exact vT (jC (fun _ h=>h) hA hss _ _ _ hold) (jC (fun _ h=>h) hA hss _ _ _ hnew))
      refine ⟨_,g1,g2,(zH rfl).2 ?_⟩
      simp only [zR]
      refine ⟨_,_,rfl,?_⟩
      unfold RowPl
      simp only [List.getElem?_concat_length]
      have hg:=grownCap_ge w (old.length + (r.length + 1)) cap e
      have hnl:=qU hnew
      refine ⟨i.size,hk,.inl ?_,by simp,hg,_,e,(0,0),by simp only [if_true]; exact jG (w:=w.drew) _,?_⟩
      ·simp
      ·simp only [Array.size_append,List.size_toArray,List.length_append,size_zeroCells,hol,hnl,List.length_cons]
       rw [hzc]
       have:grownCap w (old.length + (r.length + 1)) cap e=(old.length + (r.length + 1)) + (grownCap w (old.length + (r.length + 1)) cap e - (old.length + (r.length + 1))):=by omega
       generalize grownCap w (old.length + (r.length + 1)) cap e - (old.length + (r.length + 1))=q at *
       rw [this]
       simp only [Nat.zero_add,Nat.add_mul]
       omega
     split at h
     ·rename_i xs
      split at h
      ·rename_i hf
       simp only [Bool.and_eq_true] at hf
       simp only [Option.some.injEq,Prod.mk.injEq] at h
       obtain ⟨rfl,rfl,rfl⟩:=h
       obtain ⟨a,he,hxs⟩:=zd4 hs
       obtain ⟨a2,cap2,he2,_,hr⟩:=z8p hxs
       rw [he] at he2
       simp only [Value.slice.injEq] at he2
       obtain ⟨rfl,_,rfl⟩:=he2
       have hl:(xs.map V.d).length=xs.length:=by simp
       rcases hr with rfl | ⟨b,off,k',olds,rfl,_,hc,hE0⟩
       ·obtain ⟨v,w',e1,ρ',e2,e3,e4⟩:=grow S ρ [] a 0 [] hI (by simp [qN]) hE (by simpa using he) (by simp) (by simpa using hf.2) (by
         cases a with
         | none=>exact .inl ⟨rfl,rfl⟩
         | some a=>exact .inr ⟨a,rfl,by simp⟩)
        exact ⟨v,w',ρ',e1,by simpa using e2,by simpa using e3,by simpa using e4⟩
       ·cases xs with
        | nil =>
         simp only [RepE] at hE0; subst hE0
         obtain ⟨v,w',e1,ρ',e2,e3,e4⟩:=grow S ρ [] _ 0 [] hI (by simp [qN]) hE (by simpa using he) (by simp) (by simpa using hf.2) (.inr ⟨_,rfl,by simp⟩)
         exact ⟨v,w',ρ',e1,by simpa using e2,by simpa using e3,by simpa using e4⟩
        | cons x0 r0 =>
         have hkk:k'=i.size:=by
          have h2:=(z5j (List.all_eq_true.1 hf.1 x0 (by simp))).2
          simp only [RepE] at hE0
          obtain ⟨u1,u2,_,h3,h4,_⟩:=hE0
          have h5:=jU h4
          rw [hk] at h2; simp at h2; omega
         subst hkk
         obtain ⟨v,w',e1,ρ',e2,e3,e4⟩:=grow S ρ ((x0::r0).map V.d) _ _ olds hI (z5h hE0) hE (by rw [hl]; exact he) (by simp) (by rw [hl]; exact hf.2) (.inr ⟨_,rfl,fun j u hu=>hc.cell hu⟩)
         rw [hl] at e4
         exact ⟨v,w',ρ',e1,e2,e3,e4⟩
      ·cases h
     ·rename_i id off len
      cases ho:S[id]? with
      | none=>simp [ho] at h
      | some o =>
       simp only [ho] at h
       cases o with
       | row xs e' =>
        simp only at h
        split at h
        ·rename_i hf
         simp only [Bool.and_eq_true,decide_eq_true_eq] at hf
         obtain ⟨⟨⟨rfl,hee⟩,hle⟩,hroom⟩:=hf
         subst hee
         simp only [Option.some.injEq,Prod.mk.injEq] at h
         obtain ⟨rfl,rfl,rfl⟩:=h
         have hok:=hI.ok id _ ho
         have hs2:=(zH rfl).1 ((zZ rfl).1 hs)
         simp only [zR,List.cons.injEq,and_true] at hs2
         obtain ⟨a,cap,he,hpl⟩:=hs2
         unfold RowPl at hpl
         simp only [ho] at hpl
         obtain ⟨k2,hk2,ha,h3,h4,c2,e2,f2,h5,h6⟩:=hpl
         rw [hk] at hk2; cases hk2
         simp only [ObOk] at hok
         obtain ⟨k3,c,olds,rest,hk3,hh,hcl,hre⟩:=hok
         rw [hk] at hk3; cases hk3
         rw [hh] at h5
         simp only [Option.some.injEq,Obj.cells.injEq] at h5
         rw [← h5.1] at h6
         have hol:=qU hre
         have hcs:c.size=olds.length + rest.length:=by rw [← Array.length_toList,hcl,List.length_append]
         have hnl:=qU hE
         have hpre:=(kS len hle hre).1
         by_cases hcap:len + (r.length + 1) ≤ cap
         ·
          have ha':a=some ⟨ρ id,0,none⟩:=by
           rcases ha with ha | ha
           ·simpa using ha
           ·omega
          subst ha'
          subst he
          have hfit:len * i.size + news.length ≤ c.size:=by
           rw [hnl]
           have:(len + (r.length + 1)) * i.size ≤ cap * i.size:=Nat.mul_le_mul_right _ hcap
           simp only [List.length_cons,Nat.zero_add] at h6 ⊢
           rw [Nat.add_mul] at this
           omega
          have hrun:=z66 (ty:=ty) hu hi (by simpa using hsr) (by have r1:=(z4m hroom hi).1; rw [Nat.add_mul] at r1; omega) hcap hh hfit
          obtain ⟨g1,g2⟩:=hI.move (o':= .row (xs.take len ++ y0::r) e') (w':=w.setRow (ρ id) (c.toList.take (len * i.size) ++ news ++ c.toList.drop (len * i.size + news.length)).toArray) ho rfl (by simp) (fun b hb=>setRow_other w _ b _ hb) rfl rfl rfl rfl (fun hss hA=>by
           simp only [ObOk]
           refine ⟨i.size,_,olds.take (len * i.size) ++ news,c.toList.drop (len * i.size + news.length),hk,setRow_heap w _ _ _ _ _ hh,?_,?_⟩
           ·rw [List.toList_toArray,hcl,List.take_append_of_le_length (by rw [hol]; exact Nat.mul_le_mul_right _ hle)]
           ·exact vT (jC (fun _ h=>h) hA hss _ _ _ hpre) (jC (fun _ h=>h) hA hss _ _ _ hE))
          refine ⟨_,_,_,hrun,g1,g2,(zH rfl).2 ?_⟩
          simp only [zR]
          refine ⟨_,_,rfl,?_⟩
          unfold RowPl
          rw [List.getElem?_append_right (by simp)]
          simp only [List.length_set,Nat.sub_self,List.getElem?_cons_zero]
          refine ⟨i.size,hk,.inl (by simp),by simp; omega,hcap,_,_,_,by simp only [if_true]; exact setRow_heap w _ _ _ _ _ hh,?_⟩
          simp only [List.size_toArray,List.length_append,List.length_take,List.length_drop,Array.length_toList]
          have:=hfit
          simp only [Nat.zero_add] at h6 ⊢
          omega
         ·
          obtain ⟨g1,g2⟩:=hI.turn (o':= .dead) (w':=w) ho rfl (by simp [Ob.le]) rfl (fun _ _=>rfl) (.inl rfl) rfl rfl rfl (.inr rfl) (fun _ _=>trivial)
          have hlen:(xs.take len).length=len:=by simp; omega
          have hb:a=none∧xs.take len=[] ∨ ∃ a',a=some a' ∧ ∀ j u,(olds.take (len * i.size))[j]? = some u→w.cell? (a'.add j)=some u:=by
           rcases ha with rfl | ha
           ·refine .inr ⟨_,rfl,fun j u hu=>?_⟩
            have:=qM hh hcl 0 (len * i.size)
            simp only [List.drop_zero] at this
            simpa using this.cell hu
           ·have:len=0:=by omega
            subst this
            cases a with
            | none=>exact .inl ⟨rfl,by simp⟩
            | some a=>exact .inr ⟨a,rfl,by simp⟩
          obtain ⟨v,w',e1,ρ',e2,e3,e4⟩:=grow (S.set id .dead) ρ (xs.take len) a cap (olds.take (len * i.size)) g1 (jC (fun _ h=>h) (fun _ _=>rfl) g2.sle _ _ _ hpre) (jC (fun _ h=>h) (fun _ _=>rfl) g2.sle _ _ _ hE) (by rw [hlen]; exact he) (by rw [hlen]; omega) (by rw [hlen]; exact hroom) hb
          rw [hlen,List.length_set] at e4
          exact ⟨v,w',ρ',e1,e2,g2.trans e3,e4⟩
        ·cases h
       | _=>simp at h
     ·cases h
    ·cases h
 ·cases h
theorem zmi (hI:Inv P S ρ A w) {t tx ty:TypeId} {s x y:V} {S':zA} {us ux:Value} (h:copyV P S t tx s x=some (y,S')) (hs:RepV P S ρ A w s us) (hx:RepV P S ρ A w x ux) :
  ∃ v w',(Builtin.copy_ #[t,tx] ty #[us,ux]).run P w = .ok v w'∧Inv P S' ρ A w'∧Step S ρ A w S' ρ A w'∧RepW P S' ρ A w' y v:=by
 unfold copyV at h
 split at h
 ·rename_i e hu
  split at h
  ·cases h
  rename_i hni
  have hni:intT P tx=false:=by simpa using hni
  cases hsrc:srcV P S e tx x with
  | none=>simp [hsrc] at h
  | some ys =>
   obtain ⟨k,news,hk,hE,_,hG⟩:=zgf hI hsrc hx
   obtain ⟨hsr,hfirst⟩:=hG hni
   simp only [hsrc] at h
   split at h
   ·rename_i id off len
    cases ho:S[id]? with
    | none=>simp [ho] at h
    | some o =>
     simp only [ho] at h
     cases o with
     | row xs e' =>
      simp only at h
      split at h
      ·rename_i hf
       simp only [Bool.and_eq_true,decide_eq_true_eq] at hf
       obtain ⟨hee,hle⟩:=hf
       subst hee
       simp only [Option.some.injEq,Prod.mk.injEq] at h
       obtain ⟨rfl,rfl⟩:=h
       have hok:=hI.ok id _ ho
       have hs2:=(zH rfl).1 ((zZ rfl).1 hs)
       simp only [zR,List.cons.injEq,and_true] at hs2
       obtain ⟨a,cap,rfl,hpl⟩:=hs2
       unfold RowPl at hpl
       simp only [ho] at hpl
       obtain ⟨k2,hk2,ha,h3,h4,c2,e2,f2,h5,h6⟩:=hpl
       rw [hk] at hk2; cases hk2
       simp only [ObOk] at hok
       obtain ⟨k3,c,olds,rest,hk3,hh,hcl,hre⟩:=hok
       rw [hk] at hk3; cases hk3
       have hol:=qU hre
       have hcs:c.size=olds.length + rest.length:=by rw [← Array.length_toList,hcl,List.length_append]
       have hnl:=qU hE
       generalize hm:min ys.length len=m
       have hm1:m ≤ ys.length:=by omega
       have hm2:m ≤ len:=by omega
       obtain ⟨hE1,_⟩:=kS m hm1 hE
       have hE1l:(news.take (m * k)).length=m * k:=by
        rw [List.length_take,hnl]; exact Nat.min_eq_left (Nat.mul_le_mul_right _ hm1)
       have hlen:(Builtin.lenOf ux).run P w = .ok ys.length w:=hsr.len w
       have hfc:=hfirst m hm1
       have hone:=z2x hE1
       by_cases hc0:a=some ⟨ρ id,off * k,none⟩
       ·subst hc0
        have hmk:(off + m) * k ≤ xs.length * k:=Nat.mul_le_mul_right _ (by omega)
        rw [Nat.add_mul] at hmk
        have hst:=run_storeCells_at P (ρ id) (off * k) e' (news.take (m * k)) 0 c w hh (by rw [hE1l]; omega) hone
        simp only [Nat.add_zero,hE1l] at hst
        refine ⟨goInt m,w.setRow (ρ id) (c.toList.take (off * k) ++ news.take (m * k) ++ c.toList.drop (off * k + m * k)).toArray,?_,?_⟩
        ·have hmin:Nat.min ys.length len=m:=hm
         simp [Builtin.copy_,run_underlying hu,hlen,run_sizeOf hk,hmin,hfc,hst]
        ·obtain ⟨g1,g2⟩:=hI.turn (o':= .row (xs.take off ++ ys.take m ++ xs.drop (off + m)) e') (w':=w.setRow (ρ id) (c.toList.take (off * k) ++ news.take (m * k) ++ c.toList.drop (off * k + m * k)).toArray) ho rfl ⟨by simp; omega,rfl⟩ (by simp) (fun b hb=>setRow_other w _ b _ hb) (.inr fun c0 e0 f0 hc0=>by
           rw [hh] at hc0; cases hc0
           refine ⟨_,_,_,setRow_heap w _ _ _ _ _ hh,?_⟩
           simp only [List.size_toArray,List.length_append,List.length_drop,Array.length_toList,hE1l]
           rw [List.length_take,Array.length_toList]
           omega) rfl rfl rfl (.inl rfl) (fun hss hA=>by
           simp only [ObOk]
           refine ⟨k,_,olds.take (off * k) ++ news.take (m * k) ++ olds.drop (off * k + m * k),rest,hk,setRow_heap w _ _ _ _ _ hh,?_,?_⟩
           ·rw [List.toList_toArray,hcl,List.take_append_of_le_length (by omega),List.drop_append_of_le_length (by omega)]
            simp [List.append_assoc]
           ·have e1:=(kS off (by omega) hre).1
            have e2:=(kS (off + m) (by omega) hre).2
            rw [Nat.add_mul] at e2
            exact vT (vT (jC (fun _ h=>h) hA hss _ _ _ e1) (jC (fun _ h=>h) hA hss _ _ _ hE1)) (jC (fun _ h=>h) hA hss _ _ _ e2))
         exact ⟨g1,g2,z91⟩
       ·have hcap0:cap=0:=by
         rcases ha with ha | ha
         ·exact absurd ha hc0
         ·exact ha
        have hm0:m=0:=by omega
        subst hm0
        have hsame:S.set id (Ob.row (xs.take off ++ ys.take 0 ++ xs.drop (off + 0)) e')=S:=by
         simp only [List.take_zero,List.append_nil,Nat.add_zero,List.take_append_drop]
         apply List.ext_getElem?
         intro j
         rw [List.getElem?_set]
         by_cases hj:id=j
         ·subst hj
          have hlt:id < S.length:=by
           rcases Nat.lt_or_ge id S.length with h' | h'
           ·exact h'
           ·simp [List.getElem?_eq_none h'] at ho
          rw [if_pos rfl,if_pos hlt,ho]
         ·simp [hj]
        rw [hsame]
        refine ⟨goInt (0:Nat),w,?_,hI,.refl,z91⟩
        have hmin:Nat.min ys.length len=0:=hm
        simp only [Nat.zero_mul,List.take_zero] at hfc
        cases a with
        | none=>simp [Builtin.copy_,run_underlying hu,hlen,run_sizeOf hk,hmin,hfc]
        | some a=>simp [Builtin.copy_,run_underlying hu,hlen,run_sizeOf hk,hmin,hfc,storeCells]
      ·cases h
     | _=>simp at h
   ·cases h
 ·cases h
end
section
variable {P:Program} {S:zA} {ρ:Nat→Nat} {A:Nat→Prop} {w w':World}
theorem z9j (hI:Inv P S ρ A w) {t:TypeId} {l c y:V} {S':zA} {ul uc:Value} (h:jL P S t l c=some (y,S')) (hl:RepV P S ρ A w l ul) (hc:RepV P S ρ A w c uc) :
  ∃ v w' ρ',(Instr.makeSlice t ul uc).run P w = .ok v w'∧Inv P S' ρ' A w'∧Step S ρ A w S' ρ' A w'∧RepW P S' ρ' A w' y v:=by
 unfold jL at h
 split at h
 ·rename_i e hu
  split at h
  ·rename_i l c z hz
   split at h
   ·rename_i hb
    split at h
    ·rename_i hr
     simp only [Bool.and_eq_true] at hr
     simp only [Option.some.injEq,Prod.mk.injEq] at h
     obtain ⟨rfl,rfl⟩:=h
     rw [vL hl,vL hc]
     obtain ⟨h1,h2,h3⟩:=z1i hr.2
     obtain ⟨i,d,hi,hik,hd⟩:=z2i h3
     obtain ⟨r1,r2⟩:=z4m hr.1 hi
     unfold zeroV at hz
     simp only [hi,Option.bind_some] at hz
     cases hzz:i.zero with
     | none=>simp [hzz] at hz
     | some z0 =>
      simp only [hzz,Option.bind_some] at hz
      have hzr:=z0l (P:=P) (S:=S) (ρ:=ρ) (A:=A) (w:=w) hz
      have hzc:=jD hzr
      have hzl:z0.cells.size=i.size:=by
       have:=qY hzc
       simp only [Array.length_toList] at this
       omega
      have wl:IntKind.i64.wrap l=l:=IntWalk.i64_in _ (by omega)
      have wc:IntKind.i64.wrap c=c:=IntWalk.i64_in _ (by omega)
      have hrow:=z27 hzc hzl c.toNat
      have t1 : ¬ ((i.bytes:Int) * c > 2 ^ 48):=by
       have:(i.bytes:Int) * c=((c.toNat * i.bytes:Nat):Int):=by
        rw [Nat.mul_comm,Int.natCast_mul,Int.toNat_of_nonneg (by omega)]
       rw [this]; omega
      have hrun:(Instr.makeSlice t (.int .i64 l) (.int .i64 c)).run P w = .ok (.slice (some ⟨w.heap.size,0,none⟩) l.toNat c.toNat) (w.alloc (.cells ((Array.range (c.toNat * i.size)).map fun j=>z0.cells[j % i.size]!) e)):=by
       have hneg : ¬ c < 0:=by omega
       have hl0 : ¬ l < 0:=by omega
       have hlc : ¬ c < l:=by omega
       have t1' : ¬ (281474976710656 < (i.bytes:Int) * c):=by have:=t1; omega
       by_cases hn:c.toNat * i.size=0
       ·simp [Instr.makeSlice,run_underlying hu,asInt,asIntOf,typeInfo,hi,wl,wc,hneg,hl0,hlc,t1',sizeOf,newRow,hn,Array.range_zero']
       ·simp [Instr.makeSlice,run_underlying hu,asInt,asIntOf,typeInfo,hi,wl,wc,hneg,hl0,hlc,t1',sizeOf,newRow,hn,zeroValue,hzz,hzl]
      obtain ⟨g1,g2⟩:=hI.push (o:= .row (List.replicate c.toNat z) e) (w':=w.alloc (.cells ((Array.range (c.toNat * i.size)).map fun j=>z0.cells[j % i.size]!) e)) rfl (by simp) (fun b hb=>kI _ hb) rfl rfl rfl (fun hs hA=>by
       simp only [ObOk]
       exact ⟨i.size,_,_,[],by rw [h3,hik],jG _,by rw [List.append_nil],jC (fun _ h=>h) hA hs _ _ _ hrow⟩)
      refine ⟨_,_,_,hrun,g1,g2,(zH rfl).2 ?_⟩
      simp only [zR]
      refine ⟨_,_,rfl,?_⟩
      unfold RowPl
      simp only [List.getElem?_concat_length]
      refine ⟨i.size,by rw [h3,hik],.inl (by simp),by simp; omega,by omega,_,e,(0,0),by simp only [if_true]; exact jG _,by simp⟩
    ·cases h
   ·cases h
  ·cases h
 ·cases h
theorem z4x : ∀ (vs:List Value) (off j:Nat) (cells:List Value),off + j + vs.length ≤ cells.length→(vs.zipIdx j).foldl (fun cs (x:Value × Nat)=>cs.set (off + x.2) x.1) cells=cells.take (off + j) ++ vs ++ cells.drop (off + j + vs.length)
 | [],off,j,cells,h=>by simp
 | v::r,off,j,cells,h=>by
  simp only [List.zipIdx_cons,List.foldl_cons]
  rw [z4x r off (j + 1) _ (by simp at h ⊢; omega)]
  have:=list_seg_step cells (off + j) v r (by simp at h; omega)
  rw [show off + (j + 1)=off + j + 1 by omega]
  rw [show off + j + (v::r).length=off + j + (r.length + 1) by simp]
  exact this
theorem z3i (v:Array Value) (off:Nat) (cells:Array Value) (h:off + v.size ≤ cells.size):(v.zipIdx.foldl (fun cs (x:Value × Nat)=>cs.setIfInBounds (off + x.2) x.1) cells).toList=cells.toList.take off ++ v.toList ++ cells.toList.drop (off + v.size):=by
 have e : ∀ (l:List (Value × Nat)) (cs:Array Value),(l.foldl (fun cs (x:Value × Nat)=>cs.setIfInBounds (off + x.2) x.1) cs).toList=l.foldl (fun cs (x:Value × Nat)=>cs.set (off + x.2) x.1) cs.toList:=by
  intro l
  induction l with
  | nil=>intro cs; rfl
  | cons x r ih=>intro cs; simp only [List.foldl_cons]; rw [ih]; simp
 rw [← Array.foldl_toList,e]
 have:=z4x v.toList off 0 cells.toList (by simpa using h)
 simpa using this
def z0q (P:Program) (S:zA) (ρ:Nat→Nat) (A:Nat→Prop) (w:World):List (Nat × V)→List (Nat × Value)→Prop
 | [],us=>us=[]
 | p::r,us=>∃ u ws,us=u::ws∧u.1=p.1∧RepV P S ρ A w p.2 u.2∧z0q P S ρ A w r ws
theorem z1e {T:List V} {a:Act} (hT:RepT P S ρ A w T a.tmps.toList) : ∀ (ps:List (Nat × Operand)),z0q P S ρ A w (ps.map fun p=>(p.1,zC T p.2)) (ps.map fun p=>(p.1,a.eval p.2))
 | []=>by simp [z0q]
 | p::r=>by
  simp only [List.map_cons,z0q]
  exact ⟨_,_,rfl,rfl,z1g hT p.2,z1e hT r⟩
theorem zbb {place:Nat→Option (Nat × Nat)} : ∀ {parts:List (Nat × V)} {parts':List (Nat × Value)} {cs cs':List V} {cells:Array Value},zhm place cs parts=some cs'→z0q P S ρ A w parts parts'→jA P S ρ A w cs cells.toList → ∃ cells',Instr.fill place cells parts'=some cells'∧jA P S ρ A w cs' cells'.toList
  | [],parts',cs,cs',cells,h,hp,hc=>by
    simp only [zhm,Option.some.injEq] at h; subst h
    simp only [z0q] at hp; subst hp
    exact ⟨cells,rfl,hc⟩
  | (i,v)::r,parts',cs,cs',cells,h,hp,hc=>by
    simp only [z0q] at hp
    obtain ⟨⟨i',u⟩,ws,rfl,he,hv,hr⟩:=hp
    simp only at he hv; subst he
    simp only [zhm] at h
    cases hpl:place i' with
    | none=>simp [hpl] at h
    | some q =>
      obtain ⟨off,n⟩:=q
      simp only [hpl] at h
      split at h
      · rename_i hcond
        simp only [Bool.and_eq_true,decide_eq_true_eq] at hcond
        obtain ⟨⟨h1,h2⟩,h3⟩:=hcond
        have hvw:=(zZ h1).1 hv
        have hvc:=jD hvw
        have hus:u.cells.size=n:=by
          have:=qY hvc
          simp only [Array.length_toList] at this
          omega
        have hcl:=z2a hc
        simp only [Array.length_toList] at hcl
        have hle:off + u.cells.size ≤ cells.size:=by omega
        have hnew:=z3i u.cells off cells hle
        obtain ⟨cells',e1,e2⟩:=zbb (cells:=u.cells.zipIdx.foldl (fun cs (x:Value × Nat)=>cs.setIfInBounds (off + x.2) x.1) cells) h hr (by
          rw [hnew,hus]
          exact z01 (z01 (z0i off hc) (kO hvc)) (z0h (off + n) hc))
        refine ⟨cells',?_,e2⟩
        simp only [Instr.fill,hpl]
        rw [if_neg (by simp [hus]; omega)]
        exact e1
      · cases h
theorem run_places (fs:List Field) (h:fs.all (fun f=>(sz P f.type).isSome)=true):(fs.mapM (fun f=>do pure (f.offset,← sizeOf f.type):Field→Sem (Nat × Nat))).run P w = .ok (fs.map fun f=>(f.offset,(sz P f.type).getD 0)) w:=by
 induction fs with
 | nil=>simp
 | cons f r ih =>
  simp only [List.all_cons,Bool.and_eq_true] at h
  obtain ⟨k,hk⟩:=Option.isSome_iff_exists.1 h.1
  simp only [List.mapM_cons,Sem.run_bind,run_sizeOf hk,Result.andThen_ok,Sem.run_pure,ih h.2,List.map_cons,hk,Option.getD_some]
theorem z2t {t:TypeId} {z:V} (h:zeroV P t=some z) : ∃ v,(zeroValue t).run P w = .ok v w∧RepW P S ρ A w z v:=by
 unfold zeroV at h
 cases hi:P.info? t with
 | none=>simp [hi] at h
 | some i =>
  simp only [hi,Option.bind_some] at h
  cases hz:i.zero with
  | none=>simp [hz] at h
  | some v =>
   simp only [hz,Option.bind_some] at h
   exact ⟨v,by simp [zeroValue,typeInfo,hi,hz],z0l h⟩
theorem zh7 {t:TypeId} {parts:List (Nat × V)} {parts':Array (Nat × Value)} {y:V} (h:wX P t parts=some y) (hp:z0q P S ρ A w parts parts'.toList) :
  ∃ v,(Instr.build t parts').run P w = .ok v w∧RepW P S ρ A w y v:=by
 unfold wX at h
 cases hz:zeroV P t with
 | none=>simp [hz] at h
 | some z =>
  simp only [hz] at h
  split at h
  ·rename_i hg
   obtain ⟨zv,e1,e2⟩:=z2t (S:=S) (ρ:=ρ) (A:=A) (w:=w) hz
   obtain ⟨zc,rfl,hzc⟩:=z12 hg e2
   split at h
   ·rename_i fs hu
    split at h
    ·rename_i hall
     obtain ⟨cs,hcs,rfl⟩:=Option.map_eq_some_iff.1 h
     obtain ⟨cells',f1,f2⟩:=zbb hcs hp hzc
     refine ⟨.agg cells',?_,zbd.2 ⟨cells',rfl,f2⟩⟩
     have hpl:=run_places (P:=P) (w:=w) fs.toList hall
     have hpl':(fs.mapM (fun f=>do pure (f.offset,← sizeOf f.type):Field→Sem (Nat × Nat))).run P w = .ok (fs.map fun f=>(f.offset,(sz P f.type).getD 0)) w:=by
      rw [← Array.toArray_toList (xs:=fs)]
      rw [List.mapM_toArray]
      simp only [Sem.run_map,hpl,Result.andThen_ok,List.map_toArray]
     have hfun:(fun (i:Nat)=>(fs.map fun (f:Field)=>(f.offset,(sz P f.type).getD 0))[i]?)=(fun (i:Nat)=>(fs[i]?).map fun (f:Field)=>(f.offset,(sz P f.type).getD 0)):=by
      funext i; simp
     simp only [Instr.build,Sem.run_bind,e1,Result.andThen_ok,run_underlying hu,hpl',Value.cells,hfun,f1,Sem.run_pure]
    ·cases h
   ·rename_i n e hu
    split at h
    ·rename_i k hk
     obtain ⟨cs,hcs,rfl⟩:=Option.map_eq_some_iff.1 h
     obtain ⟨cells',f1,f2⟩:=zbb hcs hp hzc
     refine ⟨.agg cells',?_,zbd.2 ⟨cells',rfl,f2⟩⟩
     simp only [Instr.build,Sem.run_bind,e1,Result.andThen_ok,run_underlying hu,run_sizeOf hk,Value.cells,f1,Sem.run_pure]
    ·cases h
   ·cases h
  ·cases h
theorem zy3 {k:Nat} : ∀ {xs:List V} {ds:List D} {us:List Value},allO asD xs=some ds→qN P S ρ A w k xs us→RepE A w k ds us
 | [],ds,us,h,hr=>by simp only [allO,Option.some.injEq] at h; subst h; simpa [RepE,qN] using hr
 | v::r,ds,us,h,hr=>by
  obtain ⟨y,zs,h1,h2,rfl⟩:=wK h
  simp only [qN] at hr
  obtain ⟨u,ws,rfl,h3,h4,h5⟩:=hr
  simp only [RepE]
  exact ⟨u,ws,rfl,h3,(zec h1 h4).1,zy3 h2 h5⟩
theorem zg0 {k:Nat} {e:TypeId} (hk:sz P e=some k) : ∀ {parts:List (Nat × V)} {parts':List (Nat × Value)} {xs:List V} {cells:Array Value},(parts.all fun p=>p.1 < xs.length && qA P e p.2)=true→z0q P S ρ A w parts parts'→qN P S ρ A w k xs cells.toList → ∃ cells',Instr.fill (fun i=>some (i * k,k)) cells parts'=some cells'∧qN P S ρ A w k (parts.foldl (fun xs p=>xs.set p.1 p.2) xs) cells'.toList
  | [],parts',xs,cells,h,hp,hc=>by
    simp only [z0q] at hp; subst hp
    exact ⟨cells,rfl,hc⟩
  | (i,v)::r,parts',xs,cells,h,hp,hc=>by
    simp only [z0q] at hp
    obtain ⟨⟨i',u⟩,ws,rfl,he,hv,hr⟩:=hp
    simp only at he hv; subst he
    simp only [List.all_cons,Bool.and_eq_true,decide_eq_true_eq] at h
    obtain ⟨⟨h1,h2⟩,h3⟩:=h
    obtain ⟨hvw,k',hk',hn1,hn2⟩:=wR h2 hv
    rw [hk] at hk'; cases hk'
    have hvc:=jD hvw
    have hcl:=qU hc
    simp only [Array.length_toList] at hcl
    have hle:i' * k + u.cells.size ≤ cells.size:=by
      have:(i' + 1) * k ≤ xs.length * k:=Nat.mul_le_mul_right _ h1
      rw [Nat.succ_mul] at this
      omega
    have hnew:=z3i u.cells (i' * k) cells hle
    obtain ⟨cells',e1,e2⟩:=zg0 hk (cells:=u.cells.zipIdx.foldl (fun cs (x:Value × Nat)=>cs.setIfInBounds (i' * k + x.2) x.1) cells) (xs:=xs.set i' v) (by simpa using h3) hr (by
      rw [hnew,hn1]
      exact z7t hc i' v _ h1 (by simpa using hn1) hvc)
    refine ⟨cells',?_,by simpa using e2⟩
    simp only [Instr.fill]
    rw [if_neg (by simp [hn1]; omega)]
    exact e1
end
section
variable {P:Program} {S:zA} {ρ:Nat→Nat} {A:Nat→Prop} {w w':World}
theorem za1 : ∀ {ys:List V} {s:List UInt8} {k:Nat} {us:List Value},z6n ys=some s→qN P S ρ A w k ys us → ∃ ns:List Int,us=ns.map (Value.int .u8)∧s=ns.map (fun n=>UInt8.ofNat n.toNat)∧(ys ≠ []→k=1)
 | [],s,k,us,h,hr=>by
  simp only [z6n,Option.some.injEq] at h; subst h
  simp only [qN] at hr; subst hr
  exact ⟨[],rfl,rfl,fun h=>absurd rfl h⟩
 | y::r,s,k,us,h,hr=>by
  simp only [qN] at hr
  obtain ⟨u1,u2,rfl,h2,h3,h4⟩:=hr
  unfold z6n at h
  split at h
  ·rename_i heq; cases heq
  ·rename_i n r' heq
   cases heq
   cases hb:z6n r with
   | none=>simp [hb] at h
   | some s' =>
    simp only [hb,Option.some.injEq] at h; subst h
    simp only [zR,RepC] at h3
    subst h3
    obtain ⟨ns,rfl,rfl,_⟩:=za1 hb h4
    exact ⟨n::ns,rfl,rfl,fun _=>h2.symm⟩
  ·cases h
theorem fold_push : ∀ (ns:List Int) (b:ByteArray),ns.foldl (fun r n=>r.push (UInt8.ofNat n.toNat)) b=⟨(b.data.toList ++ ns.map (fun n=>UInt8.ofNat n.toNat)).toArray⟩
 | [],b=>by cases b; simp
 | n::r,b=>by
  simp only [List.foldl_cons]
  rw [fold_push r]
  cases b
  simp [ByteArray.push]
theorem zd0 (hI:Inv P S ρ A w) {src dst:TypeId} {x y:V} {c:Nat} {u:Value} (h:qF P S src dst x=some (y,c)) (hx:RepV P S ρ A w x u) :
  ∃ v w' A',(convert src dst u).run P w = .ok v w'∧Inv P S ρ A' w'∧Step S ρ A w S ρ A' w'∧RepW P S ρ A' w' y v:=by
 unfold qF at h
 split at h
 ·rename_i d k k' n hs hd
  simp only [Option.some.injEq,Prod.mk.injEq] at h
  obtain ⟨rfl,rfl⟩:=h
  rw [vL hx]
  exact ⟨_,w,A,by simp [convert,run_underlying hs,run_underlying hd,Conv.intToInt],hI,.refl,z91⟩
 ·rename_i d s hs hd
  simp only [Option.some.injEq,Prod.mk.injEq] at h
  obtain ⟨rfl,rfl⟩:=h
  rw [z2u hx]
  exact ⟨_,w,A,by simp [convert,run_underlying hs,run_underlying hd],hI,.refl,zl9⟩
 ·rename_i d e s hs hd
  split at h
  ·rename_i he
   split at h
   ·simp only [Option.some.injEq,Prod.mk.injEq] at h
    obtain ⟨rfl,rfl⟩:=h
    rw [z2u hx]
    have hsz:(⟨s.toArray⟩:ByteArray).size=s.length:=by simp [ByteArray.size]
    have hrun:=Lib.run_convert_string_bytes w src dst e ⟨s.toArray⟩ hs hd he
    have hnew:=Lib.bytesWorld_at_new w e ⟨s.toArray⟩
    have hge:=grownCap_ge w s.length 0 e
    obtain ⟨g1,g2⟩:=hI.fresh (w':=Lib.bytesWorld w e ⟨s.toArray⟩) (Lib.bytesWorld_size w e _) (fun b hb=>Lib.bytesWorld_at_old w e _ b hb) rfl rfl rfl
    refine ⟨_,_,_,hrun,g1,g2,jR.2 ((zE rfl).2 ?_)⟩
    simp only [RepC,List.length_map,hsz]
    refine ⟨_,_,rfl,hge,.inr ⟨_,1,s.map fun b=>.int .u8 b.toNat,rfl,rfl,.inr rfl,⟨_,_,_,hnew,fun i v hv=>?_⟩,?_⟩⟩
    ·have hi:i < s.length:=by
      rcases Nat.lt_or_ge i s.length with h' | h'
      ·exact h'
      ·simp [h'] at hv
     simp only [Nat.zero_add,Lib.bytesCells]
     rw [Array.getElem?_append_left (by simpa using hi)]
     simpa using hv
    ·have : ∀ (B:Nat→Prop) (w2:World) (l:List UInt8),RepE B w2 1 (l.map fun b=>D.int .u8 b.toNat) (l.map fun b=>Value.int .u8 b.toNat):=fun B w2 l=>by
      induction l with
      | nil=>simp [RepE]
      | cons b r ih=>simp only [List.map_cons,RepE]; exact ⟨[.int .u8 b.toNat],_,rfl,rfl,by simp [RepC],ih⟩
     exact this _ _ s
   ·cases h
  ·cases h
 ·rename_i x _ _ _ e hs hd _
  split at h
  ·rename_i he
   split at h
   ·cases h
   ·rename_i hns
    cases hel:jV S x with
    | none=>simp [hel] at h
    | some ys =>
     simp only [hel] at h
     obtain ⟨s,hs',heq⟩:=Option.map_eq_some_iff.1 h
     simp only [Prod.mk.injEq] at heq
     obtain ⟨rfl,rfl⟩:=heq
     rcases z9m hI hel hx with ⟨s2,rfl,_⟩ | ⟨a,cap,k,us,rfl,hcap,hE,hc⟩
     ·exact absurd rfl (hns s2)
     ·obtain ⟨ns,rfl,rfl,hk⟩:=za1 hs' hE
      refine ⟨_,w,A,?_,hI,.refl,zl9⟩
      rw [run_convert_bytes_string w src dst e a _ _ hs he hd]
      cases ys with
      | nil =>
       simp only [qN,List.map_eq_nil_iff] at hE; subst hE
       cases a with
       | none=>rfl
       | some a =>
        show (Conv.bytesToString (.slice (some a) 0 cap)).run P w=_
        rw [run_bytesToString w a 0 cap [] (by simp [loadCells,loadCellsFrom])]
        rfl
      | cons y r =>
       have:=hk (by simp); subst this
       have hl:=qU hE
       simp only [List.length_map,Nat.mul_one] at hl
       rcases hc with hc | ⟨b,off,rfl,hc⟩
       ·cases hc
       ·rw [run_bytesToString w _ _ cap ns (by rw [← hl]; simpa using run_loadCells_list (P:=P) w ⟨b,off,none⟩ (ns.map (Value.int .u8)) (fun j v hv=>hc.cell hv))]
        rw [fold_push]; rfl
  ·cases h
 ·cases h
end
end Go.Vm
end
