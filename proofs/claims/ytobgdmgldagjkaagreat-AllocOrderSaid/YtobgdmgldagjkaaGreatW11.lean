/- The value machine: arguments that can be read, as data; and what a row's statement asks behind a call. -/
import Derived.ProofKit
import Derived.Deep.Slices
import Derived.OpenShut
import Derived.Test.YtobgdmgldagjkaaGreatW10
set_option linter.unusedVariables false
set_option linter.unusedSimpArgs false
section
namespace Go.Vm
open Go.ChangeShapes Go.RowKit
inductive Ty where
 | bool
 | int (k:IntKind)
 | str
 | sl (e:Ty)
 | agg (fs:List Ty)
 deriving Inhabited
def Ty.isAgg:Ty→Bool | .agg _=>true | _=>false
def Ty.cells:Ty→List Ty | .agg fs=>fs | .bool=>[.bool] | .int k=>[.int k] | .str=>[.str] | .sl e=>[.sl e]
def z0x (P:Program) (g:TypeId→Option Ty):List Field→Nat→Option (List Ty)
 | [],_=>some []
 | f::r,off=>match g f.type with
  | some x=>if f.offset=off∧P.cellsOf f.type=x.cells.length then match z0x P g r (off + x.cells.length) with
   | some l=>some (x.cells ++ l)
   | none=>none
   else none
  | none=>none
def ofType (P:Program):Nat→TypeId→Option Ty
 | 0,_=>none
 | n + 1,t=>match P.underlying t with
  | some .bool=>some .bool
  | some (.int k)=>some (.int k)
  | some .string=>some .str
  | some (.slice e)=>match ofType P n e with
   | some x=>if P.cellsOf e=x.cells.length∧x.cells.length ≠ 0 then some (.sl x) else none
   | none=>none
  | some (.struct fs)=>match z0x P (ofType P n) fs.toList 0 with
   | some l=>if P.cellsOf t=l.length then some (.agg l) else none
   | none=>none
  | some (.array m e)=>match ofType P n e with
   | some x=>if P.cellsOf e=x.cells.length∧P.cellsOf t=m * x.cells.length then some (.agg (List.replicate m x.cells).flatten) else none
   | none=>none
  | _=>none
mutual
def HasTy:Ty→D→Prop
 | .bool,x=>∃ b,x = .bool b
 | .int k,x=>∃ n,x = .int k n∧k.min ≤ n∧n ≤ k.max
 | .str,x=>∃ s,x = .str s∧s.length ≤ maxLen
 | .sl e,x=>∃ xs,x = .sl xs∧xs.length ≤ maxLen ∧ ∀ y ∈ xs,HasTy e y
 | .agg fs,x=>∃ xs,x = .agg xs∧HasL fs xs
def HasL:List Ty→List D→Prop
 | [],xs=>xs=[]
 | t::ts,xs=>∃ y r,xs=y::r∧HasTy t y∧HasL ts r
end
theorem zcd {t:Ty} {x:D} (h:HasTy t x):x.isAgg=t.isAgg:=by
 cases t <;> simp only [HasTy] at h <;> obtain ⟨_,rfl,_⟩:=h <;> rfl
theorem z3x : ∀ {ts us:List Ty} {xs ys:List D},HasL ts xs→HasL us ys→HasL (ts ++ us) (xs ++ ys)
 | [],us,xs,ys,h,h'=>by simp only [HasL] at h; subst h; exact h'
 | t::ts,us,xs,ys,h,h'=>by
  simp only [HasL] at h
  obtain ⟨y,r,rfl,h1,h2⟩:=h
  simp only [List.cons_append,HasL]
  exact ⟨y,r ++ ys,rfl,h1,z3x h2 h'⟩
theorem z88 {t:Ty} {x:D} (h:HasTy t x):HasL t.cells x.cells:=by
 cases t with
 | agg fs=>simp only [HasTy] at h; obtain ⟨xs,rfl,h⟩:=h; exact h
 | _ =>
  have h':=h
  simp only [HasTy] at h
  obtain ⟨_,rfl,_⟩:=h
  simp only [Ty.cells,D.cells,HasL]
  exact ⟨_,[],rfl,h',rfl⟩
section
variable {P:Program} {H:Type} {enc:TypeId × Value→H} {w:World}
theorem z9i {α β:Type} {f:α→Option β} {x:α} {r:List α} {ys:List β} (h:(x::r).mapM f=some ys) : ∃ y zs,f x=some y∧r.mapM f=some zs∧ys=y::zs:=by
 rw [List.mapM_cons] at h
 cases h1:f x with
 | none=>simp [h1] at h
 | some y =>
  cases h2:r.mapM f with
  | none=>simp [h1,h2] at h
  | some zs=>simp [h1,h2] at h; exact ⟨y,zs,rfl,rfl,h.symm⟩
theorem zbl {α β:Type} {f:α→Option β} {ys:List β} (h:([]:List α).mapM f=some ys):ys=[]:=by simpa using h.symm
theorem cells?_spec {base:Nat} {a:Addr} {n:Nat} {us:List Value} (h:w.cells? base a n=some us):us.length=n ∧ ∀ j v,us[j]? = some v→w.cell? (a.add j)=some v:=by
 unfold World.cells? at h
 split at h
 ·have key : ∀ (m s:Nat) (us:List Value),(List.range' s m).mapM (fun i=>w.cell? (a.add i))=some us→us.length=m ∧ ∀ j v,us[j]? = some v→w.cell? (a.add (s + j))=some v:=by
   intro m
   induction m with
   | zero=>intro s us h; have:=zbl h; subst this; exact ⟨rfl,fun j v h=>by simp at h⟩
   | succ m ih =>
    intro s us h
    rw [List.range'_succ] at h
    obtain ⟨y,zs,h1,h2,rfl⟩:=z9i h
    obtain ⟨g1,g2⟩:=ih (s + 1) zs h2
    refine ⟨by simp [g1],fun j v hj=>?_⟩
    cases j with
    | zero=>simp at hj; subst hj; exact h1
    | succ j=>simp at hj; have:=g2 j v hj; rw [show s + (j + 1)=s + 1 + j by omega]; exact this
  rw [List.range_eq_range'] at h
  obtain ⟨g1,g2⟩:=key n 0 us h
  exact ⟨g1,fun j v hj=>by simpa using g2 j v hj⟩
 ·cases h
theorem zhb {a:Addr} {us:List Value} (hne:us ≠ []) (h : ∀ j v,us[j]? = some v→w.cell? (a.add j)=some v):a.spot=none∧a.block < w.heap.size∧CellsAt w a.block a.off us:=by
 have h0 : ∃ v,us[0]? = some v:=by cases us with | nil=>exact absurd rfl hne | cons x r=>exact ⟨x,rfl⟩
 obtain ⟨v,hv⟩:=h0
 have:=h 0 v hv
 rw [Addr.add_zero'] at this
 unfold World.cell? at this
 cases hb:w.heap[a.block]? with
 | none=>simp [hb] at this
 | some o =>
  cases o with
  | cells c e f =>
   simp only [hb] at this
   split at this
   ·cases this
   ·rename_i hs
    refine ⟨by simpa using hs,kA hb,c,e,f,hb,fun j v hj=>?_⟩
    have:=h j v hj
    unfold World.cell? at this
    have hbl:(a.add j).block=a.block:=by unfold Addr.add; split <;> rfl
    have hoff:(a.add j).off=a.off + j:=by unfold Addr.add; split <;> simp_all
    simp only [hbl,hb] at this
    split at this
    ·cases this
    ·rw [hoff] at this; exact this
  | _=>simp [hb] at this
theorem zc2 (a:Addr) (m n:Nat):(a.add m).add n=a.add (m + n):=by
 unfold Addr.add
 by_cases h:m=0 <;> by_cases h':n=0 <;> simp [h,h',Nat.add_assoc]
abbrev Old (w:World) (b:Nat):Prop:=b < w.heap.size
theorem z2c {A:Nat→Prop} : ∀ {xs ys:List D} {us vs:List Value},RepL A w xs us→RepL A w ys vs→RepL A w (xs ++ ys) (us ++ vs)
 | [],ys,us,vs,h,h'=>by simp only [RepL] at h; subst h; exact h'
 | x::r,ys,us,vs,h,h'=>by
  simp only [RepL] at h
  obtain ⟨v,us',rfl,h1,h2,h3⟩:=h
  simp only [List.cons_append,RepL]
  exact ⟨v,us' ++ vs,rfl,h1,h2,z2c h3 h'⟩
theorem zae {base:Nat} {spare:Nat→Bool} {held:Bool} {g:TypeId→Option Ty} {cs:List Value} {fu:Nat} (ih : ∀ {t:TypeId} {cs:List Value} {z:DataW H × List MemPlace} {T:Ty},DataW.trod enc P w base spare held fu t cs=some z→g t=some T → ∃ x,HasTy T x∧RepC (Old w) w x cs) :
  ∀ {l:List Field} {off:Nat} {ts:List Ty},z0x P g l off=some ts→(∀ f ∈ l,∃ z,DataW.trod enc P w base spare held fu f.type ((cs.drop f.offset).take (P.cellsOf f.type))=some z) → ∃ xs,HasL ts xs∧RepL (Old w) w xs ((cs.drop off).take ts.length)
 | [],off,ts,h,_=>by
  simp only [z0x,Option.some.injEq] at h; subst h
  exact ⟨[],rfl,by simp [RepL]⟩
 | f::r,off,ts,h,hz=>by
  simp only [z0x] at h
  cases hg:g f.type with
  | none=>simp [hg] at h
  | some T =>
   simp only [hg] at h
   split at h
   ·rename_i hc
    obtain ⟨rfl,hc2⟩:=hc
    cases hr:z0x P g r (f.offset + T.cells.length) with
    | none=>simp [hr] at h
    | some l =>
     simp only [hr,Option.some.injEq] at h; subst h
     obtain ⟨z,hz1⟩:=hz f (by simp)
     obtain ⟨x,hx,hrx⟩:=ih hz1 hg
     obtain ⟨xs,h1,h2⟩:=zae ih hr (fun f' hf'=>hz f' (by simp [hf']))
     refine ⟨x.cells ++ xs,z3x (z88 hx) h1,?_⟩
     have e:(cs.drop f.offset).take (T.cells ++ l).length=(cs.drop f.offset).take (P.cellsOf f.type) ++ (cs.drop (f.offset + T.cells.length)).take l.length:=by
      rw [List.length_append,List.take_add,hc2,List.drop_drop]
     rw [e]
     exact z2c (wI hrx) h2
   ·cases h
theorem zpl {base:Nat} {spare:Nat→Bool} {held:Bool} : ∀ (n:Nat) (fuel:Nat) {t:TypeId} {cs:List Value} {z:DataW H × List MemPlace} {T:Ty},DataW.trod enc P w base spare held fuel t cs=some z→ofType P n t=some T → ∃ x,HasTy T x∧RepC (Old w) w x cs:=by
 intro n
 induction n with
 | zero=>intro fuel t cs z T h hT; simp [ofType] at hT
 | succ n ih =>
  intro fuel t cs z T h hT
  simp only [ofType] at hT
  cases hu:P.underlying t with
  | none=>simp [hu] at hT
  | some td =>
   simp only [hu] at hT
   cases td with
   | bool =>
    simp only [Option.some.injEq] at hT; subst hT
    obtain ⟨b,rfl,_⟩:=DataW.trod_bool hu h
    exact ⟨.bool b,⟨b,rfl⟩,by simp [RepC]⟩
   | int k =>
    simp only [Option.some.injEq] at hT; subst hT
    obtain ⟨m,rfl,_,hwf⟩:=DataW.trod_int hu h
    exact ⟨.int k m,⟨m,rfl,by simpa [Lit.wf] using hwf⟩,by simp [RepC]⟩
   | string =>
    simp only [Option.some.injEq] at hT; subst hT
    obtain ⟨s,rfl,_,hl⟩:=DataW.trod_string hu h
    exact ⟨.str s.data.toList,⟨_,rfl,hl⟩,by simp [RepC]⟩
   | slice e =>
    simp only at hT
    cases he:ofType P n e with
    | none=>simp [he] at hT
    | some E =>
     simp only [he] at hT
     split at hT
     ·rename_i hc
      obtain ⟨hc,hne⟩:=hc
      simp only [Option.some.injEq] at hT; subst hT
      rcases Go.Deep.open_slice hu h with ⟨rfl,_⟩ | ⟨a,len,cap,m,fu,D0,Pl,rfl,_,hle,hcap,hm,_,hel⟩
      ·refine ⟨.sl [],⟨[],rfl,by simp,by simp⟩,?_⟩
       simp only [RepC]
       exact ⟨none,0,rfl,Nat.le_refl _,.inl trivial⟩
      ·have hlm:len ≤ m:=by rw [hm]; split <;> omega
       rw [hc] at hel
       have key : ∀ (l s:Nat),s + l ≤ m → ∃ xs us,xs.length=l∧us.length=l * E.cells.length∧(∀ y ∈ xs,HasTy E y)∧RepE (Old w) w E.cells.length xs us ∧ ∀ j v,us[j]? = some v→w.cell? (a.add (s * E.cells.length + j))=some v:=by
        intro l
        induction l with
        | zero=>intro s _; exact ⟨[],[],rfl,by simp,by simp,by simp [RepE],fun j v h=>by simp at h⟩
        | succ l ihl =>
         intro s hs
         obtain ⟨cs',g1,g2⟩:=hel s (by omega)
         obtain ⟨x,hx,hr⟩:=ih fu g2 he
         obtain ⟨k1,k2⟩:=cells?_spec g1
         obtain ⟨xs,us,f1,f2,f3,f4,f5⟩:=ihl (s + 1) (by omega)
         refine ⟨x::xs,cs' ++ us,by simp [f1],by simp [k1,f2,Nat.succ_mul]; omega,fun y hy=>?_,?_,fun j v hj=>?_⟩
         ·rcases List.mem_cons.1 hy with rfl | hy
          ·exact hx
          ·exact f3 y hy
         ·simp only [RepE]
          exact ⟨cs',us,rfl,k1,hr,f4⟩
         ·rw [List.getElem?_append] at hj
          split at hj
          ·have:=k2 j v hj
           rwa [zc2] at this
          ·rename_i hlt
           have:=f5 _ v hj
           rw [show s * E.cells.length + j=(s + 1) * E.cells.length + (j - cs'.length) by rw [Nat.succ_mul]; omega]
           exact this
       obtain ⟨xs,us,f1,f2,f3,f4,f5⟩:=key len 0 (by omega)
       refine ⟨.sl xs,⟨xs,rfl,by omega,f3⟩,?_⟩
       simp only [RepC]
       refine ⟨some a,cap,by rw [f1],by omega,?_⟩
       by_cases h0:xs=[]
       ·exact .inl h0
       ·right
        have hne':us ≠ []:=by
         intro hn
         rw [hn] at f2
         simp only [List.length_nil] at f2
         have:len ≠ 0:=by
          intro h00; rw [h00] at f1; exact h0 (List.length_eq_zero_iff.1 f1)
         have:=Nat.mul_ne_zero this hne
         omega
        obtain ⟨c1,c2,c3⟩:=zhb hne' (fun j v hj=>by simpa using f5 j v hj)
        exact ⟨a,_,us,rfl,c1,c2,c3,f4⟩
     ·cases hT
   | struct fs =>
    simp only at hT
    cases hf:z0x P (ofType P n) fs.toList 0 with
    | none=>simp [hf] at hT
    | some l =>
     simp only [hf] at hT
     split at hT
     ·rename_i hc
      simp only [Option.some.injEq] at hT; subst hT
      obtain ⟨xs,fu,_,_,hl,hxl,hel⟩:=DataW.trod_struct hu h
      obtain ⟨ys,h1,h2⟩:=zae (fun a b=>ih fu a b) hf (fun f hf'=>by
       obtain ⟨i,hi⟩:=List.getElem?_of_mem hf'
       have hi':fs[i]? = some f:=by simpa using hi
       have:=hel i f hi'
       have hlt:i < xs.length:=by
        rw [hxl]
        rcases Nat.lt_or_ge i fs.size with h' | h'
        ·exact h'
        ·simp [h'] at hi'
       exact ⟨xs[i],by rw [this]; simp [hlt]⟩)
      refine ⟨.agg ys,⟨ys,rfl,h1⟩,?_⟩
      simp only [RepC]
      rw [List.drop_zero,List.take_of_length_le (by omega)] at h2
      exact h2
     ·cases hT
   | array m e =>
    simp only at hT
    cases he:ofType P n e with
    | none=>simp [he] at hT
    | some E =>
     simp only [he] at hT
     split at hT
     ·rename_i hc
      obtain ⟨hc,hc2⟩:=hc
      simp only [Option.some.injEq] at hT; subst hT
      obtain ⟨xs,fu,_,_,hl,hxl,hel⟩:=DataW.trod_array hu h
      rw [hc] at hel
      have key : ∀ (l s:Nat),s + l ≤ m → ∃ ys,HasL (List.replicate l E.cells).flatten ys∧RepL (Old w) w ys ((cs.drop (s * E.cells.length)).take (l * E.cells.length)):=by
       intro l
       induction l with
       | zero=>intro s _; exact ⟨[],by simp [HasL],by simp [RepL]⟩
       | succ l ihl =>
        intro s hs
        have hlt:s < xs.length:=by omega
        have h0:=hel s (by omega)
        rw [List.getElem?_eq_getElem hlt] at h0
        obtain ⟨x,hx,hr⟩:=ih fu h0 he
        obtain ⟨ys,f1,f2⟩:=ihl (s + 1) (by omega)
        refine ⟨x.cells ++ ys,by rw [List.replicate_succ,List.flatten_cons]; exact z3x (z88 hx) f1,?_⟩
        have e:(cs.drop (s * E.cells.length)).take ((l + 1) * E.cells.length)=(cs.drop (s * E.cells.length)).take E.cells.length ++ (cs.drop ((s + 1) * E.cells.length)).take (l * E.cells.length):=by
         rw [Nat.succ_mul,Nat.add_comm (l * _),List.take_add,List.drop_drop,Nat.succ_mul]
        rw [e]
        exact z2c (wI hr) f2
      obtain ⟨ys,f1,f2⟩:=key m 0 (by omega)
      refine ⟨.agg ys,⟨ys,rfl,f1⟩,?_⟩
      simp only [RepC]
      rw [Nat.zero_mul,List.drop_zero,List.take_of_length_le (by omega)] at f2
      exact f2
     ·cases hT
   | _=>simp at hT
def zjr (P:Program) (n:Nat):List TypeId→Option (List Ty):=allO (ofType P n)
theorem zh9 {r:Reach} {base:Nat} {t:TypeId} {v:Value} {n:Nat} {T:Ty} (hT:ofType P n t=some T) (hok:Value.okWide P w r base t v):(T.isAgg=true ∧ ∃ us,v = .agg us) ∨ (T.isAgg=false∧v.cells = #[v]):=by
 cases n with
 | zero=>simp [ofType] at hT
 | succ n =>
  simp only [ofType] at hT
  unfold Value.okWide at hok
  cases hu:P.underlying t with
  | none=>simp [hu] at hT
  | some td =>
   simp only [hu] at hT hok
   cases td with
   | bool =>
    simp only [Option.some.injEq] at hT; subst hT
    refine .inr ⟨rfl,?_⟩
    simp only [Cell.okWide,hu] at hok
    cases v <;> simp_all [Cell.ok,Value.cells]
   | int k =>
    simp only [Option.some.injEq] at hT; subst hT
    refine .inr ⟨rfl,?_⟩
    simp only [Cell.okWide,hu] at hok
    cases v <;> simp_all [Cell.ok,Value.cells]
   | string =>
    simp only [Option.some.injEq] at hT; subst hT
    refine .inr ⟨rfl,?_⟩
    simp only [Cell.okWide,hu] at hok
    cases v <;> simp_all [Cell.ok,Value.cells]
   | slice e =>
    simp only at hT
    cases he:ofType P n e with
    | none=>simp [he] at hT
    | some E =>
     simp only [he] at hT
     split at hT
     ·simp only [Option.some.injEq] at hT; subst hT
      refine .inr ⟨rfl,?_⟩
      simp only [Cell.okWide,hu] at hok
      cases v <;> simp_all [Cell.ok,Value.cells]
     ·cases hT
   | struct fs =>
    simp only at hT
    cases hf:z0x P (ofType P n) fs.toList 0 with
    | none=>simp [hf] at hT
    | some l =>
     simp only [hf] at hT
     split at hT
     ·simp only [Option.some.injEq] at hT; subst hT
      obtain ⟨cs,h,_⟩:=hok
      exact .inl ⟨rfl,cs,h⟩
     ·cases hT
   | array m e =>
    simp only at hT
    cases he:ofType P n e with
    | none=>simp [he] at hT
    | some E =>
     simp only [he] at hT
     split at hT
     ·simp only [Option.some.injEq] at hT; subst hT
      obtain ⟨cs,h,_⟩:=hok
      exact .inl ⟨rfl,cs,h⟩
     ·cases hT
   | _=>simp at hT
theorem open_all {base:Nat} {spare:Nat→Bool} {held:Bool} {r:Reach} {b0:Nat} {n:Nat} : ∀ {ts:List TypeId} {vs:List Value} {ds:List (DataW H)} {ps:List MemPlace} {Ts:List Ty},DataW.TrodAll enc P w base spare held ts vs ds ps→zjr P n ts=some Ts →
  (∀ (j:Nat) t v,ts[j]? = some t→vs[j]? = some v→Value.okWide P w r b0 t v) → ∃ xs,HasL Ts xs∧RepS (Old w) w xs vs
 | [],vs,ds,ps,Ts,h,hT,_=>by
  simp only [zjr,allO,Option.some.injEq] at hT; subst hT
  cases vs with
  | nil=>exact ⟨[],rfl,by simp [RepS]⟩
  | cons v vs=>cases ds <;> simp [DataW.TrodAll] at h
 | t::ts,vs,ds,ps,Ts,h,hT,hok=>by
  obtain ⟨T,Ts',h1,h2,rfl⟩:=wK hT
  cases vs with
  | nil=>simp [DataW.TrodAll] at h
  | cons v vs =>
   cases ds with
   | nil=>simp [DataW.TrodAll] at h
   | cons d ds =>
    obtain ⟨p,q,⟨fu,hd⟩,hr,rfl⟩:=h
    obtain ⟨x,hx,hrx⟩:=zpl n fu hd h1
    obtain ⟨xs,g1,g2⟩:=open_all hr h2 (fun j t v hj hv=>hok (j + 1) t v (by simpa using hj) (by simpa using hv))
    refine ⟨x::xs,by simp only [HasL]; exact ⟨x,xs,rfl,hx,g1⟩,?_⟩
    simp only [RepS]
    refine ⟨v,vs,rfl,?_,g2⟩
    rcases zh9 h1 (hok 0 t v (by simp) (by simp)) with ⟨e1,us,rfl⟩ | ⟨e1,e2⟩
    ·exact .inl ⟨by rw [zcd hx,e1],us,rfl,by simpa [Value.cells] using hrx⟩
    ·exact .inr ⟨by rw [zcd hx,e1],by rw [e2] at hrx; simpa using hrx⟩
theorem trodAll_len {base:Nat} {spare:Nat→Bool} {held:Bool} : ∀ {ts:List TypeId} {vs:List Value} {ds:List (DataW H)} {ps:List MemPlace},DataW.TrodAll enc P w base spare held ts vs ds ps→ds.length=ts.length
 | [],vs,ds,ps,h=>by
  cases vs <;> cases ds <;> simp_all [DataW.TrodAll]
 | t::ts,vs,ds,ps,h=>by
  cases vs with
  | nil=>simp [DataW.TrodAll] at h
  | cons v vs =>
   cases ds with
   | nil=>simp [DataW.TrodAll] at h
   | cons d ds =>
    obtain ⟨p,q,_,hr,rfl⟩:=h
    simp [trodAll_len hr]
theorem trodVars_nil {T:List String} {gs:List (DataW H)} {q:List MemPlace} {own:Nat→Bool} (hT:T=[]) (h:DataW.TrodVars enc P w own T gs q):gs=[]:=by
 subst hT
 cases gs with
 | nil=>rfl
 | cons g gs=>simp [DataW.TrodVars] at h
theorem zdl {W W':World} (hl:laidOutB P=true) (hb:Below W.heap.size W W') : ∀ {ts:List TypeId} {vs:List Value} {ds:List (DataW H)} {ps:List MemPlace},(ts.all fun t=>P.readableRec t && decide (t < P.types.size))=true→DataW.TrodAll enc P W 0 (fun _=>true) true ts vs ds ps→(∀ x ∈ ps,x.block < W.heap.size)→DataW.TrodAll enc P W' 0 (fun b=>decide (b < W.heap.size)) true ts vs ds ps
 | [],vs,ds,ps,_,h,_=>by
  cases vs <;> cases ds <;> simp_all [DataW.TrodAll]
 | t::ts,vs,ds,ps,hr,h,hlt=>by
  simp only [List.all_cons,Bool.and_eq_true,decide_eq_true_eq] at hr
  cases vs with
  | nil=>simp [DataW.TrodAll] at h
  | cons v vs =>
   cases ds with
   | nil=>simp [DataW.TrodAll] at h
   | cons d ds =>
    obtain ⟨p,q,hd,hrest,rfl⟩:=h
    exact ⟨p,q,Below.trod hl hr.1.1 hr.1.2 hd hb (fun x hx=>hlt x (by simp [hx])),zdl hl hb (by simpa using hr.2) hrest (fun x hx=>hlt x (by simp [hx])),rfl⟩
theorem law_post {f:Func} {s:ChangeSpec} {apart:Bool} {W W':World} {args:Array Value} {ds gs:List (DataW H)} {before:List MemPlace} {t:TypeId} (hl:laidOutB P=true) (hread:(f.params.toList.all fun t=>P.readableRec t && decide (t < P.types.size))=true)
  (hW:DataW.Whole enc P f.params.toList s.vars apart W args.toList ds gs before) (hv:s.vars=[]) (hres:f.resultTypes = #[t]) (hu:P.underlying t=some .bool)
  (hfn:s.fn H (ds ++ gs)={ results:=[.lit (.bool true)],args:=ds }) (hb:Below W.heap.size W W'):s.post enc P f apart true false false W args (.bool true) W':=by
 have hlt : ∀ x ∈ before,x.block < W.heap.size:=fun x hx=>by simpa using hW.lt x hx
 have hW0:=hW
 obtain ⟨p,q,hA,hV,rfl,hz,hn⟩:=hW
 refine ⟨ds,gs,p ++ q,[],p,q,hW0,?_,?_,?_,hb.frame _,fun h=>by cases h⟩
 ·rw [hfn,hres]
  exact trodAll_mk1 (shut_bool hu true)
 ·rw [hfn]
  exact zdl hl hb hread hA (fun x hx=>hlt x (by simp [hx]))
 ·rw [hfn]
  rw [hv] at hV ⊢
  cases gs with
  | nil=>exact hV
  | cons g gs=>simp [DataW.TrodVars] at hV
theorem law_calls {C:Cfg} (hext:z5o C) (hcatch:zbc C) {n:Nat} {f:FuncId} {xs:List D} {args:Array Value} {W:World} (hrun:runD C n f xs=some (.ret (.d (.bool true)))) (hr:RepS (Old W) W xs args.toList) (hgl:GlobOk C.P (Old W) W) :
  Calls C.P f args W fun e W'=>e = .returned (.bool true)∧Below W.heap.size W W':=by
 obtain ⟨o',ho,hcalls⟩:=zsk hext hcatch n f xs _ hrun
 have ho':o' = .ret (.bool true):=by
  cases o' with
  | ret x=>simp only [OutD.out,Out.ret.injEq,V.d.injEq] at ho; rw [ho]
  | tup xs=>simp [OutD.out] at ho
  | pan x=>simp [OutD.out] at ho
 subst ho'
 refine (hcalls (Old W) W args (fun b hb=>hb) hgl hr).mono fun e W' he=>?_
 cases e with
 | returned v =>
  obtain ⟨A',h1,h2⟩:=he
  have h2:=(zE rfl).1 h2
  simp only [RepC,List.cons.injEq,and_true] at h2
  exact ⟨by rw [h2],h1.os,h1.tape,h1.output,h1.size,h1.old⟩
 | panicked c=>obtain ⟨x,v,h,_⟩:=he; cases h
 | outgrown=>exact he.elim
end
end Go.Vm
end
