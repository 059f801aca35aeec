/- The value machine: what single operations come to. Ninth part: maps. -/
import Derived.Test.YtobgdmgldagjkaaGreatW02
set_option linter.unusedVariables false
set_option linter.unusedSimpArgs false
section
namespace Go.Vm
section
variable {P:Program} {S:zA} {ρ:Nat→Nat} {A:Nat→Prop} {w w':World}
def z1n (P:Program) (S:zA) (ρ:Nat→Nat) (A:Nat→Prop) (w:World):List (D × V)→List MapEntry→Prop
 | [],ms=>ms=[]
 | e::r,ms=>∃ m ms',ms=m::ms'∧RepX A w e.1 m.key∧RepW P S ρ A w e.2 m.val∧z1n P S ρ A w r ms'
theorem z5x : ∀ {es:List (D × D)} {ms:List MapEntry},RepM A w es ms→z1n P S ρ A w (es.map fun e=>(e.1,V.d e.2)) ms
  | [],ms,h=>by simpa [RepM,z1n] using h
  | (k,x)::r,ms,h=>by
    simp only [RepM,RepP] at h
    obtain ⟨m,ms',rfl,⟨h1,h2⟩,h3⟩:=h
    simp only [List.map_cons,z1n]
    exact ⟨m,ms',rfl,h1,jR.2 h2,z5x h3⟩
theorem z44 : ∀ {es:List (D × V × Nat)} {ms:List MapEntry},jI P S ρ A w es ms→z1n P S ρ A w (es.map fun e=>(e.1,e.2.1)) ms
 | [],ms,h=>by simpa [jI,z1n] using h
 | e::r,ms,h=>by
  simp only [jI] at h
  obtain ⟨m,ms',rfl,h1,h2,_,h3⟩:=h
  simp only [List.map_cons,z1n]
  exact ⟨m,ms',rfl,h1,h2,z44 h3⟩
theorem z6g (hI:Inv P S ρ A w) {x:V} {es:List (D × V)} {u:Value} (h:kH S x=some es) (hx:RepV P S ρ A w x u) :
  (u = .map none∧es=[]) ∨ ∃ r en clock,u = .map (some r)∧w.heap[r]? = some (.map en clock)∧z1n P S ρ A w es en.toList:=by
 unfold kH at h
 split at h
 ·rename_i ds
  simp only [Option.some.injEq] at h; subst h
  have hx:=(zE rfl).1 (jK.1 hx)
  simp only [RepC,List.cons.injEq,and_true] at hx
  obtain ⟨r,rfl,h2⟩:=hx
  rcases h2 with ⟨rfl,rfl⟩ | ⟨b,en,clock,rfl,_,h3,h4⟩
  ·exact .inl ⟨rfl,rfl⟩
  ·exact .inr ⟨b,en,clock,rfl,h3,z5x h4⟩
 ·simp only [Option.some.injEq] at h; subst h
  have hx:=(zE rfl).1 (jK.1 hx)
  simp only [RepC,List.cons.injEq,and_true] at hx
  exact .inl ⟨hx,rfl⟩
 ·rename_i id
  right
  have hx:=(zH rfl).1 ((zZ rfl).1 hx)
  simp only [zR,List.cons.injEq,and_true] at hx
  obtain ⟨r,rfl,hpl⟩:=hx
  unfold MapPl at hpl
  cases ho:S[id]? with
  | none=>simp [ho] at hpl
  | some o =>
   have hok:=hI.ok id o ho
   simp only [ho] at hpl h
   cases o with
   | mp ms clock =>
    simp only [Option.some.injEq] at h hpl; subst h; subst hpl
    simp only [ObOk] at hok
    obtain ⟨en,h1,h2,_⟩:=hok
    exact ⟨_,en,clock,rfl,h1,z44 h2⟩
   | fm ms =>
    simp only [Option.some.injEq] at h hpl; subst h; subst hpl
    simp only [ObOk] at hok
    obtain ⟨en,clock,_,h1,h2⟩:=hok
    exact ⟨_,en,clock,rfl,h1,z5x h2⟩
   | _=>simp at h
 ·cases h
theorem z68 {t:TypeId} (h:zgr P t=true) : ∃ td,P.underlying t=some td∧znz td=true ∧ ∀ (e:Bool) (n:Nat) (v:Value) (w:World),(Instr.checkKey e (n + 1) t v).run P w = .ok () w:=by
 unfold zgr at h
 cases hu:P.underlying t with
 | none=>simp [hu] at h
 | some td =>
  simp only [hu] at h
  refine ⟨td,rfl,?_,?_⟩
  ·cases td <;> first | rfl | simp at h
  ·intro e n v w
   cases td <;> simp only [Bool.false_eq_true] at h <;> simp [Instr.checkKey,run_underlying hu]
theorem vU {kt:TypeId} {k:V} {u:Value} (h:z94 P kt k=true) (hk:RepV P S ρ A w k u) (e:Bool) (n:Nat):(Instr.checkKey e (n + 2) kt u).run P w = .ok () w:=by
 unfold z94 at h
 split at h
 ·rename_i fs xs hu hd
  obtain ⟨us,rfl,hr⟩:=wO.1 (wC hd hk)
  have hl:=z3p hr
  simp only [Array.length_toList] at hl
  have loop : ∀ (l:List Field) (w:World),(l.all fun f=>zgr P f.type && decide (f.offset < xs.length))=true→(forIn l PUnit.unit (fun f (_:PUnit)=>do
    if f.name ≠ "_" then do
     let a ← part f.type us f.offset
     Instr.checkKey e (n + 1) f.type a
    pure (ForInStep.yield PUnit.unit):Field→PUnit→Sem (ForInStep PUnit))).run P w = .ok PUnit.unit w:=by
   intro l
   induction l with
   | nil=>intro w _; simp
   | cons f r ih =>
    intro w hl2
    simp only [List.all_cons,Bool.and_eq_true,decide_eq_true_eq] at hl2
    obtain ⟨td,htd,hf,hck⟩:=z68 hl2.1.1
    have hlt:f.offset < us.size:=by omega
    have hpart:=wW (P:=P) (w:=w) htd hf (us:=us) (off:=f.offset) (v:=us[f.offset]) (by simp [hlt])
    by_cases hn : f.name = "_"
    ·simp only [List.forIn_cons,Sem.run_bind,hn,ne_eq,not_true_eq_false,if_false,Sem.run_pure,Result.andThen_ok]
     exact ih w (by simpa using hl2.2)
    ·simp only [List.forIn_cons,Sem.run_bind,ne_eq,hn,not_false_eq_true,if_true,hpart,Result.andThen_ok,hck,Sem.run_pure]
     exact ih w (by simpa using hl2.2)
  have:=loop fs.toList w h
  rw [Instr.checkKey]
  simp only [Sem.run_bind,run_underlying hu,Result.andThen_ok]
  rw [← Array.forIn_toList]
  simp at this ⊢
  rw [this]; rfl
 ·rename_i k' hk' hne
  simp only [Bool.and_eq_true] at h
  obtain ⟨_,_,_,hck⟩:=z68 h.1
  exact hck e (n + 1) u w
 ·cases h
theorem zib {kt:TypeId} {td:TypeDesc} {k x:D} {b:Bool} {u v:Value} (hu:P.underlying kt=some td) (h:z0s P kt k x=some b) (hk:RepX A w k u) (hx:RepX A w x v):Instr.sameNow td u v=some b:=by
 unfold z0s at h
 rw [hu] at h
 split at h
 ·rename_i a c heq
  cases heq
  simp only [Option.some.injEq] at h; subst h
  have h1:=(zE rfl).1 hk
  have h2:=(zE rfl).1 hx
  simp only [RepC,List.cons.injEq,and_true] at h1 h2
  subst h1; subst h2; rfl
 ·rename_i k0 k1 a k2 c heq
  cases heq
  split at h
  ·rename_i hkk
   subst hkk
   simp only [Option.some.injEq] at h; subst h
   have h1:=(zE rfl).1 hk
   have h2:=(zE rfl).1 hx
   simp only [RepC,List.cons.injEq,and_true] at h1 h2
   subst h1; subst h2
   simp [Instr.sameNow]
  ·cases h
 ·rename_i a c heq
  cases heq
  simp only [Option.some.injEq] at h; subst h
  have h1:=(zE rfl).1 hk
  have h2:=(zE rfl).1 hx
  simp only [RepC,List.cons.injEq,and_true] at h1 h2
  subst h1; subst h2
  have:=beq_toListBytes (⟨a.toArray⟩:ByteArray) ⟨c.toArray⟩
  rw [ByteArray.toList_eq,ByteArray.toList_eq] at this
  simp only [Instr.sameNow,this,Option.some.injEq]
 ·cases h
def Found (P:Program) (S:zA) (ρ:Nat→Nat) (A:Nat→Prop) (w:World) (es:List (D × V)) (i:Nat):Option (Nat × V)→Option (Nat × Value)→Prop
 | none,r=>r=none
 | some (j,x),r=>∃ v,r=some (j,v)∧RepW P S ρ A w x v∧i ≤ j ∧ ∃ kd,es[j - i]? = some (kd,x)
theorem Found.step {e:D × V} {es:List (D × V)} {i:Nat} {r:Option (Nat × V)} {r':Option (Nat × Value)} (h:Found P S ρ A w es (i + 1) r r'):Found P S ρ A w (e::es) i r r':=by
 cases r with
 | none=>exact h
 | some q =>
  obtain ⟨j,x⟩:=q
  obtain ⟨v,h1,h2,h3,kd,h4⟩:=h
  refine ⟨v,h1,h2,by omega,kd,?_⟩
  rw [show j - i=(j - (i + 1)) + 1 by omega]
  simpa using h4
theorem z85 {kt:TypeId} {td:TypeDesc} {k:V} {kd:D} {u:Value} (hu:P.underlying kt=some td) (hkd:asD k=some kd) (hg:kd.isAgg=false) (hp:ptrT P kt=false∧mapT P kt=false∧fnT P kt=false) (hk:RepV P S ρ A w k u) :
  ∀ {es:List (D × V)} {en:List MapEntry} {i:Nat} {r:Option (Nat × V)},findD P kt k es i=some r→z1n P S ρ A w es en → ∃ r',Instr.findNow td u en i=some r'∧Found P S ρ A w es i r r'
 | [],en,i,r,h,he=>by
  simp only [findD,Option.some.injEq] at h; subst h
  simp only [z1n] at he; subst he
  exact ⟨none,rfl,rfl⟩
 | e::es,en,i,r,h,he=>by
  simp only [z1n] at he
  obtain ⟨m,ms,rfl,h1,h2,h3⟩:=he
  simp only [findD] at h
  cases hq:eqV P kt k (.d e.1) with
  | none=>simp [hq] at h
  | some b =>
   have hq':=hq
   unfold eqV at hq
   rw [if_neg (by simp [hp.1]),if_neg (by simp [hp.2.1]),if_neg (by simp [hp.2.2])] at hq
   rw [hkd,show asD (.d e.1)=some e.1 from rfl] at hq
   have hleaf:z0s P kt kd e.1=some b:=by
    cases kd <;> first | simpa using hq | simp [D.isAgg] at hg
   have hsn:=zib hu hleaf (wC hkd hk) h1
   cases b with
   | true =>
    simp only [hq',Option.some.injEq] at h; subst h
    exact ⟨some (i,m.val),by simp [Instr.findNow,hsn],m.val,rfl,h2,Nat.le_refl _,e.1,by simp⟩
   | false =>
    simp only [hq'] at h
    obtain ⟨r',e1,e2⟩:=z85 hu hkd hg hp hk h h3
    exact ⟨r',by simp [Instr.findNow,hsn,e1],e2.step⟩
theorem z3k {kt:TypeId} {k:V} {u:Value} (hk:RepV P S ρ A w k u) : ∀ {es:List (D × V)} {en:List MapEntry} {i:Nat} {r:Option (Nat × V)},findD P kt k es i=some r→z1n P S ρ A w es en → ∃ r',(Instr.findAsking kt u en i).run P w = .ok r' w∧Found P S ρ A w es i r r'
 | [],en,i,r,h,he=>by
  simp only [findD,Option.some.injEq] at h; subst h
  simp only [z1n] at he; subst he
  exact ⟨none,rfl,rfl⟩
 | e::es,en,i,r,h,he=>by
  simp only [z1n] at he
  obtain ⟨m,ms,rfl,h1,h2,h3⟩:=he
  simp only [findD] at h
  cases hq:eqV P kt k (.d e.1) with
  | none=>simp [hq] at h
  | some b =>
   obtain ⟨g1,_⟩:=zes hq hk (jK.2 h1)
   cases b with
   | true =>
    simp only [hq,Option.some.injEq] at h; subst h
    exact ⟨some (i,m.val),by simp [Instr.findAsking,g1],m.val,rfl,h2,Nat.le_refl _,e.1,by simp⟩
   | false =>
    simp only [hq] at h
    obtain ⟨r',e1,e2⟩:=z3k hk h h3
    exact ⟨r',by simp [Instr.findAsking,g1,e1],e2.step⟩
theorem z48 {kt:TypeId} {k:V} {u:Value} (hok:z94 P kt k=true) (hk:RepV P S ρ A w k u) {es:List (D × V)} {en:List MapEntry} {r:Option (Nat × V)} (h:findD P kt k es 0=some r) (he:z1n P S ρ A w es en) :
  ∃ r',(Instr.findKey kt u en).run P w = .ok r' w∧Found P S ρ A w es 0 r r':=by
 unfold z94 at hok
 split at hok
 ·rename_i fs xs hu hd
  obtain ⟨us,rfl,hr⟩:=wO.1 (wC hd hk)
  cases en with
  | nil =>
   cases es with
   | nil =>
    simp only [findD,Option.some.injEq] at h; subst h
    exact ⟨none,by simp [Instr.findKey,run_underlying hu,Instr.findNow],rfl⟩
   | cons e es=>simp [z1n] at he
  | cons m ms =>
   obtain ⟨r',e1,e2⟩:=z3k hk h he
   exact ⟨r',by simp [Instr.findKey,run_underlying hu,Instr.findNow,Instr.sameNow,e1],e2⟩
 ·rename_i kd hkd hne
  simp only [Bool.and_eq_true,Bool.not_eq_eq_eq_not,Bool.not_true] at hok
  obtain ⟨td,htd,hf,_⟩:=z68 hok.1
  have hp:ptrT P kt=false∧mapT P kt=false∧fnT P kt=false:=by
   have:=hok.1
   unfold zgr at this
   unfold ptrT mapT fnT
   cases hu:P.underlying kt with
   | none=>exact ⟨rfl,rfl,rfl⟩
   | some td=>simp only [hu] at this; cases td <;> first | exact ⟨rfl,rfl,rfl⟩ | simp at this
  obtain ⟨r',e1,e2⟩:=z85 htd hkd hok.2 hp hk h he
  exact ⟨r',by simp [Instr.findKey,run_underlying htd,e1],e2⟩
 ·cases hok
theorem ze5 (hI:Inv P S ρ A w) {t:TypeId} {x k y:V} {ok:Bool} {ux uk:Value} (h:wF P S t x k ok=some y) (hx:RepV P S ρ A w x ux) (hk:RepV P S ρ A w k uk) :
  ∃ v,(Instr.lookup t ux uk ok).run P w = .ok v w∧RepV P S ρ A w y v:=by
 unfold wF at h
 split at h
 ·rename_i kt et hu
  split at h
  ·rename_i hok
   cases hes:kH S x with
   | none=>simp [hes] at h
   | some es =>
    cases hz:zeroV P et with
    | none=>simp [hes,hz] at h
    | some z =>
     simp only [hes,hz] at h
     obtain ⟨zv,hz1,hz2⟩:=z2t (S:=S) (ρ:=ρ) (A:=A) (w:=w) hz
     cases hf:findD P kt k es 0 with
     | none=>simp [hf] at h
     | some r =>
      simp only [hf] at h
      have hfin : ∃ r':Option (Nat × Value),Found P S ρ A w es 0 r r' ∧ ∀ v b,(r'=none→v=zv∧b=false)→(∀ i q,r'=some (i,q)→v=q∧b=true)→(Instr.lookup t ux uk ok).run P w = .ok (if ok then .tuple #[v,.bool b] else v) w:=by
       rcases z6g hI hes hx with ⟨rfl,rfl⟩ | ⟨rr,en,clock,rfl,h1,h2⟩
       ·obtain ⟨r',f1,f2⟩:=z48 hok hk hf (en:=[]) rfl
        have hck:=vU (P:=P) hok hk true 9998
        refine ⟨r',f2,fun v b hv1 hv2=>?_⟩
        have f1':(Instr.findKey kt uk #[].toList).run P w = .ok r' w:=f1
        simp only [Instr.lookup,Sem.run_bind,run_underlying hu,Result.andThen_ok,Sem.run_pure,Array.isEmpty_empty,f1',show (10000:Nat)=9998 + 2 from rfl,hck]
        cases r' with
        | none=>obtain ⟨rfl,rfl⟩:=hv1 rfl; simp [hz1]
        | some q=>obtain ⟨i,q⟩:=q; obtain ⟨rfl,rfl⟩:=hv2 i q rfl; simp
       ·obtain ⟨r',f1,f2⟩:=z48 hok hk hf h2
        have hck:=vU (P:=P) hok hk en.isEmpty 9998
        have hg:(getObj rr).run P w = .ok (.map en clock) w:=by simp [getObj,Sem.run,h1]
        refine ⟨r',f2,fun v b hv1 hv2=>?_⟩
        simp only [Instr.lookup,Sem.run_bind,run_underlying hu,Result.andThen_ok,Sem.run_pure,hg,f1,show (10000:Nat)=9998 + 2 from rfl,hck]
        cases r' with
        | none=>obtain ⟨rfl,rfl⟩:=hv1 rfl; simp [hz1]
        | some q=>obtain ⟨i,q⟩:=q; obtain ⟨rfl,rfl⟩:=hv2 i q rfl; simp
      obtain ⟨r',f2,hrun⟩:=hfin
      have mkt : ∀ (v:Value) (x:V) (b:Bool),RepW P S ρ A w x v→RepV P S ρ A w (if ok then .tup [x,.d (.bool b)] else x) (if ok then .tuple #[v,.bool b] else v):=by
       intro v x b hxv
       cases ok with
       | false=>exact zT hxv
       | true =>
        simp only [if_true,RepV]
        exact ⟨_,rfl,by simp only [qS]; exact ⟨v,[.bool b],rfl,hxv,.bool b,[],rfl,zb9,rfl⟩⟩
      cases r with
      | none =>
       simp only [Option.some.injEq] at h; subst h
       have:r'=none:=f2
       subst this
       exact ⟨_,hrun zv false (fun _=>⟨rfl,rfl⟩) (fun _ _ h=>by cases h),mkt zv z false hz2⟩
      | some q =>
       obtain ⟨j,v0⟩:=q
       simp only [Option.some.injEq] at h; subst h
       obtain ⟨v,rfl,g1,_⟩:=f2
       exact ⟨_,hrun v true (fun h=>by cases h) (fun i q h=>by cases h; exact ⟨rfl,rfl⟩),mkt v v0 true g1⟩
  ·cases h
 ·cases h
end
section
variable {P:Program} {S:zA} {ρ:Nat→Nat} {A:Nat→Prop} {w w':World}
def setO (w:World) (b:Nat) (o:Obj):World:={ w with heap:=w.heap.setIfInBounds b o }
theorem z7w (w:World) (b:Nat) (o:Obj):(setO w b o).heap.size=w.heap.size:=by simp [setO]
theorem z5q (w:World) {b c:Nat} (o:Obj) (h:c ≠ b):(setO w b o).heap[c]? = w.heap[c]? := by
 simp [setO,Array.getElem?_setIfInBounds,Ne.symm h]
theorem z8t {w:World} {b:Nat} {x:Obj} (o:Obj) (h:w.heap[b]? = some x):(setO w b o).heap[b]? = some o:=by
 have:=kA h
 simp [setO,this]
theorem vP {b:Nat} {en:Array MapEntry} {c:Nat} (h:w.heap[b]? = some (.map en c)) (o:Obj):(setObj b o).run P w = .ok () (setO w b o):=by
 simp [setObj,Sem.run,h,setO]
theorem jZ {b:Nat} {en:Array MapEntry} {c:Nat} (h:w.heap[b]? = some (.map en c)):(getObj b).run P w = .ok (.map en c) w:=by
 simp [getObj,Sem.run,h]
theorem zdx {b:Nat} {s:ByteArray} {c:Nat} (h:w.heap[b]? = some (.stringIter s c)) (o:Obj):(setObj b o).run P w = .ok () (setO w b o):=by
 simp [setObj,Sem.run,h,setO]
theorem z92 {b:Nat} {s:ByteArray} {c:Nat} (h:w.heap[b]? = some (.stringIter s c)):(getObj b).run P w = .ok (.stringIter s c) w:=by
 simp [getObj,Sem.run,h]
theorem z47 (hI:Inv P S ρ A w) {id:Nat} {es es':List (D × V × Nat)} {clock clock':Nat} {en en':Array MapEntry} (ho:S[id]? = some (.mp es clock)) (hh:w.heap[ρ id]? = some (.map en clock))
  (hr:jI P S ρ A w es' en'.toList) (h1 : ∀ e ∈ es',e.2.2 < clock') (h2:(es'.map fun e=>e.2.2).Nodup) :
  Inv P (S.set id (.mp es' clock')) ρ A (setO w (ρ id) (.map en' clock'))∧Step S ρ A w (S.set id (.mp es' clock')) ρ A (setO w (ρ id) (.map en' clock')) :=
 hI.turn ho rfl trivial (z7w ..) (fun b hb=>z5q _ _ hb) (.inr fun c e f hc=>by rw [hh] at hc; cases hc) rfl rfl rfl (.inl rfl) (fun hs hA=>by
  simp only [ObOk]
  exact ⟨en',z8t _ hh,z5u (fun _ h=>h) hA hs _ _ hr,h1,h2⟩)
theorem z7p : ∀ {es:List (D × V × Nat)} {ms:List MapEntry} {i:Nat} {e:D × V × Nat},jI P S ρ A w es ms→es[i]? = some e → ∃ m,ms[i]? = some m∧RepX A w e.1 m.key∧RepW P S ρ A w e.2.1 m.val∧e.2.2=m.born
 | [],ms,i,e,h,he=>by simp at he
 | e0::r,ms,i,e,h,he=>by
  simp only [jI] at h
  obtain ⟨m,ms',rfl,h1,h2,h3,h4⟩:=h
  cases i with
  | zero=>simp at he; subst he; exact ⟨m,by simp,h1,h2,h3⟩
  | succ i=>simp at he; simpa using z7p h4 he
theorem z50 : ∀ {es:List (D × V × Nat)} {ms:List MapEntry} {i:Nat} {e:D × V × Nat} {m:MapEntry},jI P S ρ A w es ms→RepX A w e.1 m.key→RepW P S ρ A w e.2.1 m.val→e.2.2=m.born→jI P S ρ A w (es.set i e) (ms.set i m)
 | [],ms,i,e,m,h,_,_,_=>by simp only [jI] at h; subst h; simp [jI]
 | e0::r,ms,i,e,m,h,h1,h2,h3=>by
  simp only [jI] at h
  obtain ⟨m0,ms',rfl,g1,g2,g3,g4⟩:=h
  cases i with
  | zero=>simp only [List.set_cons_zero,jI]; exact ⟨m,ms',rfl,h1,h2,h3,g4⟩
  | succ i=>simp only [List.set_cons_succ,jI]; exact ⟨m0,_,rfl,g1,g2,g3,z50 g4 h1 h2 h3⟩
theorem z67 : ∀ {es:List (D × V × Nat)} {ms:List MapEntry} {e:D × V × Nat} {m:MapEntry},jI P S ρ A w es ms→RepX A w e.1 m.key→RepW P S ρ A w e.2.1 m.val→e.2.2=m.born→jI P S ρ A w (es ++ [e]) (ms ++ [m])
 | [],ms,e,m,h,h1,h2,h3=>by simp only [jI] at h; subst h; simp only [List.nil_append,jI]; exact ⟨m,[],rfl,h1,h2,h3,rfl⟩
 | e0::r,ms,e,m,h,h1,h2,h3=>by
  simp only [jI] at h
  obtain ⟨m0,ms',rfl,g1,g2,g3,g4⟩:=h
  simp only [List.cons_append,jI]
  exact ⟨m0,_,rfl,g1,g2,g3,z67 g4 h1 h2 h3⟩
theorem z8z : ∀ {es:List (D × V × Nat)} {ms:List MapEntry} {i:Nat},jI P S ρ A w es ms→jI P S ρ A w (es.eraseIdx i) (ms.eraseIdx i)
 | [],ms,i,h=>by simp only [jI] at h; subst h; simp [jI]
 | e0::r,ms,i,h=>by
  simp only [jI] at h
  obtain ⟨m0,ms',rfl,g1,g2,g3,g4⟩:=h
  cases i with
  | zero=>simpa using g4
  | succ i=>simp only [List.eraseIdx_cons_succ,jI]; exact ⟨m0,_,rfl,g1,g2,g3,z8z g4⟩
theorem z9b (a:ByteArray):(a == a)=true:=by
 obtain ⟨a⟩:=a
 rw [beq_toListBytes]; simp
theorem z4e {x y:D} {u v:Value} {n:Nat} (h:jE x y=true) (hx:RepC A w x [u]) (hy:RepC A w y [v]):Instr.sameBits n u v=true:=by
 cases x <;> cases y <;> simp only [jE,Bool.false_eq_true] at h <;>
  ·simp only [RepC,List.cons.injEq,and_true] at hx hy
   subst hx; subst hy
   simp only [beq_iff_eq,Bool.and_eq_true] at h
   first
    | (subst h; cases n <;> simp [Instr.sameBits,z9b])
    | (obtain ⟨rfl,rfl⟩:=h; cases n <;> simp [Instr.sameBits])
theorem z6o {n:Nat} : ∀ {xs ys:List D} {us vs:List Value},wP xs ys=true→RepL A w xs us→RepL A w ys vs→us.length=vs.length∧(us.zip vs).all (fun (x,y)=>Instr.sameBits n x y)=true
 | [],[],us,vs,_,h1,h2=>by simp only [RepL] at h1 h2; subst h1; subst h2; simp
 | [],_::_,_,_,h,_,_=>by simp [wP] at h
 | _::_,[],_,_,h,_,_=>by simp [wP] at h
 | x::xs,y::ys,us,vs,h,h1,h2=>by
  simp only [wP,Bool.and_eq_true] at h
  simp only [RepL] at h1 h2
  obtain ⟨u,us',rfl,_,h3,h4⟩:=h1
  obtain ⟨v,vs',rfl,_,h5,h6⟩:=h2
  obtain ⟨g1,g2⟩:=z6o (n:=n) h.2 h4 h6
  refine ⟨by simp [g1],?_⟩
  simp only [List.zip_cons_cons,List.all_cons,Bool.and_eq_true]
  exact ⟨z4e h.1 h3 h5,g2⟩
theorem zdf {x y:D} {u v:Value} (h:z9a x y=true) (hx:RepX A w x u) (hy:RepX A w y v):(Instr.keyThatStays u v).run P w = .ok v w:=by
 have:Instr.sameBits 10000 u v=true:=by
  unfold z9a at h
  split at h
  ·obtain ⟨us,rfl,h1⟩:=wO.1 hx
   obtain ⟨vs,rfl,h2⟩:=wO.1 hy
   obtain ⟨g1,g2⟩:=z6o (n:=9999) h h1 h2
   show Instr.sameBits (9999 + 1) _ _=true
   simp only [Instr.sameBits,Bool.and_eq_true,beq_iff_eq]
   exact ⟨by simpa using g1,g2⟩
  ·have gx:x.isAgg=false:=by cases x <;> first | rfl | simp [jE] at h
   have gy:y.isAgg=false:=by cases y <;> first | rfl | (cases x <;> simp [jE] at h)
   exact z4e h ((zE gx).1 hx) ((zE gy).1 hy)
 simp [Instr.keyThatStays,this]
theorem zdb (hI:Inv P S ρ A w) {id:Nat} {es:List (D × V × Nat)} {clock:Nat} {u:Value} (ho:S[id]? = some (.mp es clock)) (hx:RepV P S ρ A w (.mr id) u) :
  ∃ en,u = .map (some (ρ id))∧w.heap[ρ id]? = some (.map en clock)∧jI P S ρ A w es en.toList∧(∀ e ∈ es,e.2.2 < clock)∧(es.map fun e=>e.2.2).Nodup:=by
 have hok:=hI.ok id _ ho
 have hx:=(zH rfl).1 ((zZ rfl).1 hx)
 simp only [zR,List.cons.injEq,and_true] at hx
 obtain ⟨r,rfl,hpl⟩:=hx
 simp only [MapPl,ho] at hpl
 subst hpl
 simp only [ObOk] at hok
 obtain ⟨en,h1,h2,h3,h4⟩:=hok
 exact ⟨en,rfl,h1,h2,h3,h4⟩
theorem zby {α β:Type} (f:α→β) {t:TypeId} {k:V} : ∀ {es:List (D × α)} {i:Nat},findD P t k (es.map fun e=>(e.1,f e.2)) i=(findD P t k es i).map fun r=>r.map fun q=>(q.1,f q.2)
 | [],i=>rfl
 | e::r,i=>by
  simp only [List.map_cons,findD]
  cases eqV P t k (.d e.1) with
  | none=>rfl
  | some b=>cases b with
   | true=>rfl
   | false=>exact zby f
theorem z7r {es:List (D × V × Nat)} {i:Nat} {e e':D × V × Nat} (he:es[i]? = some e) (hb:e'.2.2=e.2.2):(es.set i e').map (fun e=>e.2.2)=es.map fun e=>e.2.2:=by
 rw [List.map_set,hb]
 refine List.ext_getElem? fun j=>?_
 rw [List.getElem?_set]
 by_cases hj:i=j
 ·subst hj
  simp only [if_true,List.length_map,List.getElem?_map,he,Option.map_some]
  have:i < es.length:=by
   rcases Nat.lt_or_ge i es.length with h | h
   ·exact h
   ·simp [List.getElem?_eq_none h] at he
  simp [this]
 ·simp [hj]
theorem zao {es:List (D × V × Nat)} {i:Nat} {e e':D × V × Nat} {clock:Nat} (he:es[i]? = some e) (hb:e'.2.2=e.2.2) (h : ∀ e ∈ es,e.2.2 < clock) : ∀ e ∈ es.set i e',e.2.2 < clock:=by
 intro x hx
 rcases List.mem_or_eq_of_mem_set hx with hx | rfl
 ·exact h x hx
 ·rw [hb]; exact h e (List.mem_of_getElem? he)
theorem zdk {es:List (D × V × Nat)} {k:D} {v:V} {clock:Nat} (h : ∀ e ∈ es,e.2.2 < clock) (h2:(es.map fun e=>e.2.2).Nodup) :
  (∀ e ∈ es ++ [(k,v,clock)],e.2.2 < clock + 1)∧((es ++ [(k,v,clock)]).map fun e=>e.2.2).Nodup:=by
 refine ⟨fun e he=>?_,?_⟩
 ·rcases List.mem_append.1 he with he | he
  ·have:=h e he; omega
  ·simp at he; subst he; simp
 ·rw [List.map_append,List.nodup_append]
  refine ⟨h2,by simp,fun a ha b hb=>?_⟩
  obtain ⟨e,he,rfl⟩:=List.mem_map.1 ha
  simp at hb; subst hb
  have:=h e he; omega
theorem z7g {en:Array MapEntry} {i:Nat} {m:MapEntry} (f:MapEntry→MapEntry) (h:en.toList[i]? = some m):(en.modify i f).toList=en.toList.set i (f m):=by
 have hi:i < en.toList.length:=by
  rcases Nat.lt_or_ge i en.toList.length with h' | h'
  ·exact h'
  ·simp [List.getElem?_eq_none h'] at h
 rw [Array.toList_modify]
 refine List.ext_getElem? fun j=>?_
 rw [List.getElem?_modify,List.getElem?_set]
 by_cases hj:i=j
 ·subst hj; simp only [if_true,h,Option.map_some]; rw [if_pos hi]; rfl
 ·simp [hj]
theorem z2k {kt:TypeId} {k:V} {u:Value} (hok:z94 P kt k=true) (hk:RepV P S ρ A w k u) {es:List (D × V × Nat)} {en:List MapEntry} {r:Option (Nat × V × Nat)} (h:findD P kt k es 0=some r) (he:jI P S ρ A w es en) :
  ∃ r',(Instr.findKey kt u en).run P w = .ok r' w∧(match r with | none=>r'=none | some q=>∃ e m v,es[q.1]? = some e∧e.2=q.2∧en[q.1]? = some m∧r'=some (q.1,v)∧RepW P S ρ A w q.2.1 v∧RepX A w e.1 m.key∧RepW P S ρ A w e.2.1 m.val∧e.2.2=m.born):=by
 have h':=zby (P:=P) (fun (q:V × Nat)=>q.1) (t:=kt) (k:=k) (es:=es) (i:=0)
 rw [h] at h'
 obtain ⟨r',h1,h2⟩:=z48 hok hk h' (z44 he)
 refine ⟨r',h1,?_⟩
 cases r with
 | none=>exact h2
 | some q =>
  obtain ⟨j,x⟩:=q
  obtain ⟨v,rfl,g1,_,kd,g2⟩:=h2
  have hget : ∀ {l:List (D × V × Nat)} {i:Nat} {q:Nat × V × Nat},findD P kt k l i=some (some q) → ∃ e,i ≤ q.1∧l[q.1 - i]? = some e∧e.2=q.2:=by
   intro l
   induction l with
   | nil=>intro i q hq; simp [findD] at hq
   | cons e l ih =>
    intro i q hq
    simp only [findD] at hq
    cases hb:eqV P kt k (.d e.1) with
    | none=>simp [hb] at hq
    | some b =>
     cases b with
     | true=>simp only [hb,Option.some.injEq] at hq; subst hq; exact ⟨e,Nat.le_refl _,by simp,rfl⟩
     | false =>
      simp only [hb] at hq
      obtain ⟨e',h1,h2,h3⟩:=ih hq
      exact ⟨e',by omega,by rw [show q.1 - i=(q.1 - (i + 1)) + 1 by omega]; simpa using h2,h3⟩
  obtain ⟨e,_,he1,he2⟩:=hget h
  simp only [Nat.sub_zero] at he1
  obtain ⟨m,hm1,hm2,hm3,hm4⟩:=z7p he he1
  exact ⟨e,m,v,he1,he2,hm1,rfl,g1,hm2,hm3,hm4⟩
theorem z9k (hI:Inv P S ρ A w) {t:TypeId} {x k v:V} {S':zA} {ux uk uv:Value} (h:jS P S t x k v=some S') (hx:RepV P S ρ A w x ux) (hk:RepV P S ρ A w k uk) (hv:RepV P S ρ A w v uv) :
  ∃ w',(Instr.mapUpdate t ux uk uv).run P w = .ok () w'∧Inv P S' ρ A w'∧Step S ρ A w S' ρ A w':=by
 unfold jS at h
 split at h
 ·rename_i kt et hu
  split at h
  ·rename_i hok
   simp only [Bool.and_eq_true] at hok
   have hvw:=(zZ hok.2).1 hv
   split at h
   ·rename_i id kd hkd
    have hkx:=wC hkd hk
    cases ho:S[id]? with
    | none=>simp [ho] at h
    | some o =>
     cases o with
     | mp es clock =>
      obtain ⟨en,rfl,hh,hr,hb,hn⟩:=zdb hI ho hx
      simp only [ho] at h
      have hck:=vU (P:=P) hok.1 hk false 9998
      cases hf:findD P kt k es 0 with
      | none=>simp [hf] at h
      | some r =>
       obtain ⟨r',h1,h2⟩:=z2k hok.1 hk hf hr
       simp only [hf] at h
       cases r with
       | none =>
        simp only [Option.some.injEq] at h; subst h
        simp only at h2; subst h2
        obtain ⟨b1,b2⟩:=zdk (k:=kd) (v:=v) hb hn
        refine ⟨_,?_,z47 hI ho hh (en':=en.push { key:=uk,val:=uv,born:=clock }) (by simpa using z67 (e:=(kd,v,clock)) (m:={ key:=uk,val:=uv,born:=clock }) hr hkx hvw rfl) b1 b2⟩
        simp [Instr.mapUpdate,run_underlying hu,jZ hh,show (10000:Nat)=9998 + 2 from rfl,hck,h1,vP hh]
       | some q =>
        obtain ⟨i,u⟩:=q
        obtain ⟨e,m,v0,g1,g2,g3,rfl,g4,g5,g6,g7⟩:=h2
        simp only [g1] at h
        split at h
        ·rename_i hsame
         simp only [Option.some.injEq] at h; subst h
         have hst:=zdf (P:=P) hsame g5 hkx
         have hget:(en[i]?).map (·.key)=some m.key:=by
          have:en[i]? = some m:=by simpa using g3
          simp [this]
         simp only at g2
         have hb2:((kd,v,u.2):D × V × Nat).2.2=e.2.2:=by rw [g2]
         refine ⟨_,?_,z47 hI ho hh (en':=en.modify i fun e=>{ e with key:=uk,val:=uv }) ?_ (zao g1 hb2 hb) (by rw [z7r g1 hb2]; exact hn)⟩
         ·simp [Instr.mapUpdate,run_underlying hu,jZ hh,show (10000:Nat)=9998 + 2 from rfl,hck,h1,vP hh,hget,hst]
         ·rw [z7g _ g3]
          exact z50 (e:=(kd,v,u.2)) hr hkx hvw (by show u.2=m.born; rw [← g7,g2])
        ·cases h
     | _=>simp [ho] at h
   ·cases h
  ·cases h
 ·cases h
theorem zbs (hI:Inv P S ρ A w) {t:TypeId} {x k y:V} {S':zA} {ux uk:Value} (h:vE P S t x k=some (y,S')) (hx:RepV P S ρ A w x ux) (hk:RepV P S ρ A w k uk) :
  ∃ v w',(Instr.mapEntry t ux uk).run P w = .ok v w'∧Inv P S' ρ A w'∧Step S ρ A w S' ρ A w'∧RepV P S' ρ A w' y v:=by
 unfold vE at h
 split at h
 ·rename_i kt et hu
  split at h
  ·rename_i hok
   split at h
   ·rename_i id kd z hkd hz
    have hkx:=wC hkd hk
    cases ho:S[id]? with
    | none=>simp [ho] at h
    | some o =>
     cases o with
     | mp es clock =>
      obtain ⟨en,rfl,hh,hr,hb,hn⟩:=zdb hI ho hx
      simp only [ho] at h
      have hck:=vU (P:=P) hok hk false 9998
      have tupRep : ∀ {S':zA} {w':World} {a:V} {n:Nat} {u:Value},RepW P S' ρ A w' a u→RepV P S' ρ A w' (.tup [a,.d (.int .i64 n)]) (.tuple #[u,goInt n]):=fun h0=>by
       simp only [RepV]
       refine ⟨_,rfl,?_⟩
       simp only [qS]
       exact ⟨_,[_],rfl,h0,_,[],rfl,jR.2 ((zE rfl).2 (by simp [RepC,goInt])),rfl⟩
      cases hf:findD P kt k es 0 with
      | none=>simp [hf] at h
      | some r =>
       obtain ⟨r',h1,h2⟩:=z2k hok hk hf hr
       simp only [hf] at h
       cases r with
       | none =>
        simp only [Option.some.injEq,Prod.mk.injEq] at h
        obtain ⟨rfl,rfl⟩:=h
        simp only at h2; subst h2
        obtain ⟨zv,hz1,hz2⟩:=z2t (S:=S) (ρ:=ρ) (A:=A) (w:=w) hz
        obtain ⟨b1,b2⟩:=zdk (k:=kd) (v:=z) hb hn
        obtain ⟨t1,t2⟩:=z47 hI ho hh (en':=en.push { key:=uk,val:=zv,born:=clock }) (by simpa using z67 (e:=(kd,z,clock)) (m:={ key:=uk,val:=zv,born:=clock }) hr hkx hz2 rfl) b1 b2
        refine ⟨_,_,?_,t1,t2,tupRep (z0k t2.amono t2.keepA t2.sle hz2)⟩
        simp [Instr.mapEntry,run_underlying hu,jZ hh,show (10000:Nat)=9998 + 2 from rfl,hck,h1,vP hh,hz1]
       | some q =>
        obtain ⟨i,u⟩:=q
        obtain ⟨e,m,v0,g1,g2,g3,rfl,g4,g5,g6,g7⟩:=h2
        simp only [g1] at h
        split at h
        ·rename_i hsame
         simp only [Option.some.injEq,Prod.mk.injEq] at h
         obtain ⟨rfl,rfl⟩:=h
         have hst:=zdf (P:=P) hsame g5 hkx
         have hge:en[i]? = some m:=by simpa using g3
         simp only at g2 g4
         have hb2:((kd,u):D × V × Nat).2.2=e.2.2:=by rw [g2]
         obtain ⟨t1,t2⟩:=z47 hI ho hh (en':=en.modify i fun e=>{ e with key:=uk }) (by
          rw [z7g _ g3]
          exact z50 (e:=(kd,u)) hr hkx (by rw [← g2]; exact g6) (by show u.2=m.born; rw [← g7,g2])) (zao g1 hb2 hb) (by rw [z7r g1 hb2]; exact hn)
         refine ⟨_,_,?_,t1,t2,tupRep (n:=u.2) (z0k t2.amono t2.keepA t2.sle g4)⟩
         have:u.2=m.born:=by rw [← g7,g2]
         simp [Instr.mapEntry,run_underlying hu,jZ hh,show (10000:Nat)=9998 + 2 from rfl,hck,h1,vP hh,hge,hst,this]
        ·cases h
     | _=>simp [ho] at h
   ·cases h
  ·cases h
 ·cases h
theorem z7m {n:Int} : ∀ {es:List (D × V × Nat)} {ms:List MapEntry} {i j:Nat},z4k n es i=some j→jI P S ρ A w es ms→i ≤ j∧ms.findIdx? (fun e=>(e.born:Int) == n)=some (j - i)
 | [],ms,i,j,h,hr=>by simp [z4k] at h
 | e::r,ms,i,j,h,hr=>by
  simp only [jI] at hr
  obtain ⟨m,ms',rfl,_,_,h3,h4⟩:=hr
  simp only [z4k] at h
  split at h
  ·rename_i hq
   simp only [Option.some.injEq] at h; subst h
   exact ⟨Nat.le_refl _,by simp [List.findIdx?_cons,← h3,hq]⟩
  ·rename_i hq
   obtain ⟨g1,g2⟩:=z7m h h4
   refine ⟨by omega,?_⟩
   have hq':((m.born:Int) == n)=false:=by rw [← h3]; simpa using hq
   simp only [List.findIdx?_cons,hq',g2,Option.map_some,Bool.false_eq_true,if_false]
   congr 1; omega
theorem z8y (hI:Inv P S ρ A w) {t:TypeId} {x st v:V} {S':zA} {ux us uv:Value} (h:kQ S x st v=some S') (hx:RepV P S ρ A w x ux) (hs:RepV P S ρ A w st us) (hv:RepV P S ρ A w v uv) :
  ∃ w',(Instr.entryStore t ux us uv).run P w = .ok () w'∧Inv P S' ρ A w'∧Step S ρ A w S' ρ A w':=by
 unfold kQ at h
 split at h
 ·cases h
 ·rename_i hone
  simp only [Bool.not_eq_true',Bool.not_eq_false] at hone
  have hvw:=(zZ hone).1 hv
  split at h
  ·rename_i id kk n
   have hs:=(zE rfl).1 (jK.1 hs)
   simp only [RepC,List.cons.injEq,and_true] at hs
   subst hs
   cases ho:S[id]? with
   | none=>simp [ho] at h
   | some o =>
    cases o with
    | mp es clock =>
     obtain ⟨en,rfl,hh,hr,hb,hn⟩:=zdb hI ho hx
     simp only [ho] at h
     cases hf:z4k n es 0 with
     | none=>simp [hf] at h
     | some i =>
      obtain ⟨_,g2⟩:=z7m hf hr
      simp only [hf] at h
      cases hg:es[i]? with
      | none=>simp [hg] at h
      | some e =>
       simp only [hg,Option.some.injEq] at h; subst h
       obtain ⟨m,hm1,hm2,hm3,hm4⟩:=z7p hr hg
       have hb2:((e.1,v,e.2.2):D × V × Nat).2.2=e.2.2:=rfl
       obtain ⟨t1,t2⟩:=z47 hI ho hh (en':=en.modify i fun e=>{ e with val:=uv }) (by
        rw [z7g _ hm1]
        exact z50 (e:=(e.1,v,e.2.2)) hr hm2 hvw hm4) (zao hg hb2 hb) (by rw [z7r hg hb2]; exact hn)
       refine ⟨_,?_,t1,t2⟩
       have g3:en.findIdx? (fun e=>(e.born:Int) == n)=some i:=by
        obtain ⟨l⟩:=en; simpa using g2
       simp [Instr.entryStore,jZ hh,asInt,asIntOf,g3,vP hh]
    | _=>simp [ho] at h
  ·cases h
theorem zei (hI:Inv P S ρ A w) {t ty:TypeId} {ts:List TypeId} {x k:V} {S':zA} {ux uk:Value} (h:z07 P S t x k=some S') (hx:RepV P S ρ A w x ux) (hk:RepV P S ρ A w k uk) :
  ∃ w',(Builtin.delete_ (t::ts).toArray ty #[ux,uk]).run P w = .ok (.tuple #[]) w'∧Inv P S' ρ A w'∧Step S ρ A w S' ρ A w':=by
 unfold z07 at h
 split at h
 ·rename_i kt et hu
  split at h
  ·rename_i hok
   split at h
   ·rename_i id
    cases ho:S[id]? with
    | none=>simp [ho] at h
    | some o =>
     cases o with
     | mp es clock =>
      obtain ⟨en,rfl,hh,hr,hb,hn⟩:=zdb hI ho hx
      simp only [ho] at h
      have hck:=vU (P:=P) hok hk en.isEmpty 9998
      cases hf:findD P kt k es 0 with
      | none=>simp [hf] at h
      | some r =>
       obtain ⟨r',h1,h2⟩:=z2k hok hk hf hr
       simp only [hf] at h
       cases r with
       | none =>
        simp only [Option.some.injEq] at h; subst h
        simp only at h2; subst h2
        obtain ⟨t1,t2⟩:=z47 hI ho hh (en':=en) hr hb hn
        refine ⟨_,?_,t1,t2⟩
        simp [Builtin.delete_,run_underlying hu,jZ hh,show (10000:Nat)=9998 + 2 from rfl,hck,h1,vP hh]
       | some q =>
        obtain ⟨i,u⟩:=q
        obtain ⟨e,m,v0,g1,g2,g3,rfl,g4,g5,g6,g7⟩:=h2
        simp only [Option.some.injEq] at h; subst h
        obtain ⟨t1,t2⟩:=z47 hI ho hh (en':=en.eraseIdxIfInBounds i) (clock':=clock) (es':=es.eraseIdx i) (by
         rw [Array.toList_eraseIdxIfInBounds]
         exact z8z hr) (fun e he=>hb e (List.mem_of_mem_eraseIdx he)) (hn.sublist ((List.eraseIdx_sublist _ _).map _))
        refine ⟨_,?_,t1,t2⟩
        simp [Builtin.delete_,run_underlying hu,jZ hh,show (10000:Nat)=9998 + 2 from rfl,hck,h1,vP hh]
     | _=>simp [ho] at h
   ·cases h
  ·cases h
 ·cases h
end
section
variable {P:Program} {S:zA} {ρ:Nat→Nat} {A:Nat→Prop} {w w':World}
theorem z18 {T:List V} {a:Act} (hT:RepT P S ρ A w T a.tmps.toList) : ∀ (xs:List Operand),(xs.map (zC T)).all V.one=true→qS P S ρ A w (xs.map (zC T)) (xs.map a.eval)
 | [],_=>by simp [qS]
 | x::r,h=>by
  simp only [List.map_cons,List.all_cons,Bool.and_eq_true] at h
  simp only [List.map_cons,qS]
  exact ⟨_,_,rfl,(zZ h.1).1 (z1g hT x),z18 hT r h.2⟩
theorem zgl {T:List V} {a:Act} (hT:RepT P S ρ A w T a.tmps.toList) : ∀ (xs:List Operand),RepT P S ρ A w (xs.map (zC T)) (xs.map a.eval)
 | []=>by simp [RepT]
 | x::r=>by
  simp only [List.map_cons,RepT]
  exact ⟨_,_,rfl,z1g hT x,zgl hT r⟩
theorem z19 {xs:List V} {us:Array Value} (h:qS P S ρ A w xs us.toList):RepV P S ρ A w (.tup xs) (.tuple us):=⟨us,rfl,h⟩
theorem z3v : ∀ {xs:List V} {us:List Value},qS P S ρ A w xs us→z1l P S ρ A w xs us
 | [],us,h=>by simpa [qS,z1l] using h
 | x::r,us,h=>by
  simp only [qS] at h
  obtain ⟨v,us',rfl,h1,h2⟩:=h
  simp only [z1l]
  exact ⟨v,us',rfl,h1,z3v h2⟩
theorem z3y : ∀ {xs:List V} {us:List Value},z1l P S ρ A w xs us→qS P S ρ A w xs us
 | [],us,h=>by simpa [qS,z1l] using h
 | x::r,us,h=>by
  simp only [z1l] at h
  obtain ⟨v,us',rfl,h1,h2⟩:=h
  simp only [qS]
  exact ⟨v,us',rfl,h1,z3y h2⟩
theorem vO : ∀ {xs:List D} {us:List Value},RepS A w xs us→qS P S ρ A w (xs.map .d) us
 | [],us,h=>by simpa [qS,RepS] using h
 | x::r,us,h=>by
  simp only [RepS] at h
  obtain ⟨v,us',rfl,h1,h2⟩:=h
  simp only [List.map_cons,qS]
  exact ⟨v,us',rfl,jR.2 h1,vO h2⟩
theorem zg2 {f:Fn} {a b:List V} {u:Value} (h:RepV P S ρ A w (.fn f a b) u) : ∃ fa ca,u = .func f fa ca∧qS P S ρ A w a fa.toList∧qS P S ρ A w b ca.toList:=by
 have h:=(zH rfl).1 ((zZ rfl).1 h)
 simp only [zR,List.cons.injEq,and_true] at h
 obtain ⟨fa,ca,rfl,h1,h2⟩:=h
 exact ⟨fa,ca,rfl,z3y h1,z3y h2⟩
theorem zqv {f:Fn} {a b:List D} {u:Value} (h:RepV P S ρ A w (.d (.fn f a b)) u) : ∃ fa ca,u = .func f fa ca∧qS P S ρ A w (a.map .d) fa.toList∧qS P S ρ A w (b.map .d) ca.toList:=by
 have h:=(zE rfl).1 (jK.1 h)
 simp only [RepC,List.cons.injEq,and_true] at h
 obtain ⟨fa,ca,rfl,h1,h2⟩:=h
 exact ⟨fa,ca,rfl,vO h1,vO h2⟩
theorem z2m {f:FuncId} (h:(zB P f).isSome=true) (us:Array Value) (w:World):(callFunc f us).run P w = .ok (.enter f us) w:=by
 unfold zB at h
 cases hf:P.funcs[f]? with
 | none=>simp [hf] at h
 | some fn =>
  simp only [hf] at h
  split at h
  ·cases h
  ·rename_i hn
   cases hb:fn.body with
   | none=>simp [hb] at h
   | some c =>
    have hn' : (fn.name == "runtime.NumGoroutine") = false := by simpa using hn
    have hn2 : ¬ fn.name = "runtime.NumGoroutine" := by simpa using hn
    simp [callFunc,program,Sem.run,hf,hn2,hb]
theorem ztv (hI:Inv P S ρ A w) {t ty:TypeId} {ts:List TypeId} {x:V} {u:Value} {r:Rs} (h:zI P S .len (t::ts) [x]=some r) (hx:RepV P S ρ A w x u) :
  ∃ n c,r = .val (.d (.int .i64 (n:Nat))) S c∧(Builtin.len_ (t::ts).toArray ty #[u]).run P w = .ok (goInt (n:Nat)) w:=by
 unfold zI at h
 simp only at h
 split at h
 ·rename_i n e hu
  simp only [Option.some.injEq] at h; subst h
  exact ⟨n,0,rfl,by simp [Builtin.len_,run_underlying hu]⟩
 ·rename_i hu
  split at h
  ·rename_i s
   simp only [Option.some.injEq] at h; subst h
   have hx:=(zE rfl).1 (jK.1 hx)
   simp only [RepC,List.cons.injEq,and_true] at hx
   subst hx
   have hl:(⟨s.toArray⟩:ByteArray).size=s.length:=rfl
   exact ⟨s.length,0,rfl,by simp [Builtin.len_,run_underlying hu,hl]⟩
  ·cases h
 ·rename_i e hu
  have key : ∀ a n cap,u = .slice a n cap→(Builtin.len_ (t::ts).toArray ty #[u]).run P w = .ok (goInt (n:Nat)) w:=by
   rintro a n cap rfl
   simp [Builtin.len_,run_underlying hu]
  split at h
  ·rename_i xs
   simp only [Option.some.injEq] at h; subst h
   obtain ⟨a,cap,rfl,_⟩:=z8p (jK.1 hx)
   exact ⟨_,0,rfl,key _ _ _ rfl⟩
  ·rename_i xs
   simp only [Option.some.injEq] at h; subst h
   have hx:=(zH rfl).1 ((zZ rfl).1 hx)
   simp only [zR,List.cons.injEq,and_true] at hx
   obtain ⟨a,rfl,_⟩:=hx
   exact ⟨_,0,rfl,key _ _ _ rfl⟩
  ·rename_i id off n
   simp only [Option.some.injEq] at h; subst h
   have hx:=(zH rfl).1 ((zZ rfl).1 hx)
   simp only [zR,List.cons.injEq,and_true] at hx
   obtain ⟨a,cap,rfl,_⟩:=hx
   exact ⟨_,0,rfl,key _ _ _ rfl⟩
  ·rename_i id ix off n
   simp only [Option.some.injEq] at h; subst h
   have hx:=(zH rfl).1 ((zZ rfl).1 hx)
   simp only [zR,List.cons.injEq,and_true] at hx
   obtain ⟨a,cap,rfl,_⟩:=hx
   exact ⟨_,0,rfl,key _ _ _ rfl⟩
  ·cases h
 ·rename_i kt et hu
  split at h
  ·rename_i es hes
   simp only [Option.some.injEq] at h; subst h
   refine ⟨es.length,1,rfl,?_⟩
   rcases z6g hI hes hx with ⟨rfl,rfl⟩ | ⟨rr,en,clock,rfl,h1,h2⟩
   ·simp [Builtin.len_,run_underlying hu]
   ·have hl : ∀ {es:List (D × V)} {ms:List MapEntry},z1n P S ρ A w es ms→ms.length=es.length:=by
     intro es
     induction es with
     | nil=>intro ms h; simp only [z1n] at h; simp [h]
     | cons e r ih =>
      intro ms h
      simp only [z1n] at h
      obtain ⟨m,ms',rfl,_,_,h3⟩:=h
      simp [ih h3]
    have:=hl h2
    simp only [Array.length_toList] at this
    simp [Builtin.len_,run_underlying hu,jZ h1,this]
  ·cases h
 ·cases h
theorem zis {e:TypeId} {z:V} (h:zeroV P e=some z) : ∃ v i,P.info? e=some i∧i.zero=some v∧zhd v=some z:=by
 unfold zeroV at h
 cases hi:P.info? e with
 | none=>simp [hi] at h
 | some i =>
  simp only [hi,Option.bind_some] at h
  cases hz:i.zero with
  | none=>simp [hz] at h
  | some v=>simp only [hz,Option.bind_some] at h; exact ⟨v,i,rfl,hz,h⟩
theorem zfq (hI:Inv P S ρ A w) {t e:TypeId} {len k:Nat} {z:V} {parts:List (Nat × V)} {parts':Array (Nat × Value)} (hu:P.underlying t=some (.slice e)) (hz:zeroV P e=some z) (hk:sz P e=some k) (hf:qA P e z=true) (hp:(parts.all fun p=>p.1 < len && qA P e p.2)=true) (hlk:len * k ≤ 16777216) (hk0:k ≠ 0)
  (hr:z0q P S ρ A w parts parts'.toList) :
  ∃ cells',(Instr.buildSlice t len parts').run P w = .ok (.slice (some ⟨w.heap.size,0,none⟩) len len) (w.alloc (.cells cells' e))∧qN P S ρ A w k (litV z len parts) cells'.toList∧(litV z len parts).length=len:=by
 obtain ⟨zv,i,hi,hiz,hzo⟩:=zis hz
 have hzr:=z0l (P:=P) (S:=S) (ρ:=ρ) (A:=A) (w:=w) hzo
 obtain ⟨_,k',hk',hk1,_⟩:=wR hf (zT hzr)
 rw [hk] at hk'; cases hk'
 have hzc:=jD hzr
 have hrow:=z27 hzc hk1 len
 have hp':(parts.all fun p=>p.1 < (List.replicate len z).length && qA P e p.2)=true:=by simpa using hp
 obtain ⟨cells',hc1,hc2⟩:=zg0 hk hp' hr hrow
 have hll:(litV z len parts).length=len:=by
  have : ∀ (ps:List (Nat × V)) (xs:List V),(ps.foldl (fun xs p=>xs.set p.1 p.2) xs).length=xs.length:=by
   intro ps
   induction ps with
   | nil=>intro xs; rfl
   | cons p r ih=>intro xs; simp [ih]
  simp [litV,this]
 have hfz:zv.cells.size=k:=hk1
 have hrun:(Instr.buildSlice t len parts').run P w = .ok (.slice (some ⟨w.heap.size,0,none⟩) len len) (w.alloc (.cells cells' e)):=by
  have h2 : ¬ (len * k > 2 ^ 24):=by omega
  by_cases h0:len * k=0
  ·have hr0:(Array.range (len * k)).map (fun i=>(zv.cells)[i % k]!) = #[]:=by rw [h0]; simp
   rw [hr0] at hc1
   simp [Instr.buildSlice,run_underlying hu,run_sizeOf hk,h0,hc1,newRow,Array.range_zero']
  ·have h2' : ¬ (16777216 < len * k):=by omega
   simp [Instr.buildSlice,run_underlying hu,run_sizeOf hk,h0,h2',zeroValue,typeInfo,hi,hiz,hfz,hc1,newRow]
 exact ⟨cells',hrun,hc2,hll⟩
theorem zfd (hI:Inv P S ρ A w) {t e:TypeId} {len k:Nat} {z:V} {parts:List (Nat × V)} {parts':Array (Nat × Value)} {ds:List D} (hu:P.underlying t=some (.slice e)) (hz:zeroV P e=some z) (hk:sz P e=some k) (hf:qA P e z=true) (hp:(parts.all fun p=>p.1 < len && qA P e p.2)=true) (hlk:len * k ≤ 16777216) (hk0:k ≠ 0)
  (hds:allO asD (litV z len parts)=some ds) (hr:z0q P S ρ A w parts parts'.toList) :
  ∃ cells',(Instr.buildSlice t len parts').run P w = .ok (.slice (some ⟨w.heap.size,0,none⟩) len len) (w.alloc (.cells cells' e))∧RepE A w k ds cells'.toList∧ds.length=len∧cells'.size=len * k:=by
 obtain ⟨cells',h1,h2,h3⟩:=zfq hI hu hz hk hf hp hlk hk0 hr
 have hds':=zy3 hds h2
 have hdl:ds.length=len:=by rw [← h3]; exact (z1b hds).1.symm
 refine ⟨cells',h1,hds',hdl,?_⟩
 have:=z7q hds'
 rw [hdl] at this
 simpa using this
theorem zpa (hI:Inv P S ρ A w) {t e:TypeId} {len k:Nat} {z:V} {parts:List (Nat × V)} {parts':Array (Nat × Value)} (hu:P.underlying t=some (.slice e)) (hz:zeroV P e=some z) (hk:sz P e=some k) (hf:qA P e z=true) (hp:(parts.all fun p=>p.1 < len && qA P e p.2)=true) (hlk:len * k ≤ 16777216) (hk0:k ≠ 0)
  (hr:z0q P S ρ A w parts parts'.toList) :
  ∃ v w' ρ',(Instr.buildSlice t len parts').run P w = .ok v w'∧Inv P (S ++ [.row (litV z len parts) e]) ρ' A w'∧Step S ρ A w (S ++ [.row (litV z len parts) e]) ρ' A w'∧RepV P (S ++ [.row (litV z len parts) e]) ρ' A w' (.rs S.length 0 len) v:=by
 obtain ⟨cells',h1,h2,h3⟩:=zfq hI hu hz hk hf hp hlk hk0 hr
 obtain ⟨g1,g2⟩:=hI.push (o:= .row (litV z len parts) e) (w':=w.alloc (.cells cells' e)) rfl (by simp) (fun b hb=>kI _ hb) rfl rfl rfl (fun hs hA=>by
  simp only [ObOk]
  exact ⟨k,_,_,[],hk,jG _,by rw [List.append_nil],jC (fun _ h=>h) hA hs _ _ _ h2⟩)
 refine ⟨_,_,_,h1,g1,g2,zT ((zH rfl).2 ?_)⟩
 have hl:=qU h2
 rw [h3] at hl
 simp only [zR]
 refine ⟨_,_,rfl,?_⟩
 unfold RowPl
 simp only [List.getElem?_concat_length]
 exact ⟨k,hk,.inl (by simp),by omega,Nat.le_refl _,cells',e,(0,0),by simp only [if_true]; exact jG _,by simp at hl ⊢; omega⟩
theorem zpy {e:TypeId} {k len:Nat} {cells':Array Value} {ds:List D} {f:Nat × Nat} (hI:Inv P S ρ A w) (h:RepE A w k ds cells'.toList) (hl:ds.length=len) (hsz:w'.heap.size=w.heap.size + 1) (hold : ∀ b,b < w.heap.size→w'.heap[b]? = w.heap[b]?) (hnew:w'.heap[w.heap.size]? = some (.cells cells' e f)) (h1:w'.os=w.os) (h2:w'.tape=w.tape) (h3:w'.output=w.output) :
  ∃ A',Inv P S ρ A' w'∧Step S ρ A w S ρ A' w'∧RepV P S ρ A' w' (.ts ds) (.slice (some ⟨w.heap.size,0,none⟩) len len):=by
 obtain ⟨g1,g2⟩:=hI.fresh hsz hold h1 h2 h3
 refine ⟨_,g1,g2,zT ((zH rfl).2 ?_)⟩
 have hsl:RepC (fun b=>A b ∨ b=w.heap.size) w' (.sl ds) [.slice (some ⟨w.heap.size,0,none⟩) len len]:=by
  simp only [RepC]
  refine ⟨_,len,by rw [hl],by omega,.inr ⟨_,k,cells'.toList,rfl,rfl,.inr rfl,⟨cells',e,f,hnew,fun i v hv=>by simpa using hv⟩,?_⟩⟩
  exact z2p g2.amono g2.keepA k _ _ h
 simp only [zR]
 exact ⟨some ⟨w.heap.size,0,none⟩,by rw [hl],by simpa only [hl] using hsl⟩
theorem zn5 (hI:Inv P S ρ A w) {t e:TypeId} {len k:Nat} {z:V} {parts:List (Nat × V)} {parts':Array (Nat × Value)} {ds:List D} (hu:P.underlying t=some (.slice e)) (hz:zeroV P e=some z) (hk:sz P e=some k) (hf:qA P e z=true) (hp:(parts.all fun p=>p.1 < len && qA P e p.2)=true) (hlk:len * k ≤ 16777216) (hk0:k ≠ 0)
  (hds:allO asD (litV z len parts)=some ds) (hr:z0q P S ρ A w parts parts'.toList) :
  ∃ v w' A',(Instr.buildSlice t len parts').run P w = .ok v w'∧Inv P S ρ A' w'∧Step S ρ A w S ρ A' w'∧RepV P S ρ A' w' (.ts ds) v:=by
 obtain ⟨cells',hrun,h1,h2,_⟩:=zfd hI hu hz hk hf hp hlk hk0 hds hr
 obtain ⟨A',g1,g2,g3⟩:=zpy (w':=w.alloc (.cells cells' e)) hI h1 h2 (by simp) (fun b hb=>kI _ hb) (jG _) rfl rfl rfl
 exact ⟨_,_,A',hrun,g1,g2,g3⟩
theorem zok (hI:Inv P S ρ A w) {id:Nat} {s:List UInt8} {pos:Nat} {u:Value} {ty:TypeId} (ho:S[id]? = some (.iter s pos)) (hx:RepV P S ρ A w (.it id) u) :
  if pos < s.length then
   ∃ w',(Instr.next u true ty).run P w = .ok (.tuple #[.bool true,goInt pos,.int .i32 (Utf8.decode ⟨s.toArray⟩ pos).1]) w'∧Inv P (S.set id (.iter s (pos + (Utf8.decode ⟨s.toArray⟩ pos).2))) ρ A w'∧Step S ρ A w (S.set id (.iter s (pos + (Utf8.decode ⟨s.toArray⟩ pos).2))) ρ A w'
  else (Instr.next u true ty).run P w = .ok (.tuple #[.bool false]) w:=by
 have hok:=hI.ok id _ ho
 have hx:=(zH rfl).1 ((zZ rfl).1 hx)
 simp only [zR,List.cons.injEq,and_true] at hx
 obtain ⟨r,rfl,hpl⟩:=hx
 simp only [ItPl,ho] at hpl
 subst hpl
 simp only [ObOk] at hok
 have hl:(⟨s.toArray⟩:ByteArray).size=s.length:=rfl
 split
 ·rename_i hlt
  obtain ⟨t1,t2⟩:=hI.turn (o':= .iter s (pos + (Utf8.decode ⟨s.toArray⟩ pos).2)) (w':=setO w (ρ id) (.stringIter ⟨s.toArray⟩ (pos + (Utf8.decode ⟨s.toArray⟩ pos).2))) ho rfl trivial (z7w ..) (fun b hb=>z5q _ _ hb) (.inr fun c e f hc=>by rw [hok] at hc; cases hc) rfl rfl rfl (.inl rfl) (fun hs hA=>by
   simp only [ObOk]
   exact z8t _ hok)
  refine ⟨_,?_,t1,t2⟩
  simp [Instr.next,z92 hok,hl,hlt,zdx hok]
 ·rename_i hlt
  simp [Instr.next,z92 hok,hl,hlt]
end
section
variable {P:Program} {S:zA} {ρ:Nat→Nat} {A:Nat→Prop} {w w':World}
theorem wV (s:Sem Value) {u:Value} {w':World} (h:s.run P w = .ok u w'):(do pure (Next.value (← s)):Sem Next).run P w = .ok (.value u) w':=by simp [h]
theorem zsl (s:Sem Unit) {w':World} (h:s.run P w = .ok () w'):(do s; pure Next.skip:Sem Next).run P w = .ok .skip w':=by simp [h]
theorem z05 (hI:Inv P S ρ A w) {s:Sem Value} {u:Value} {v:V} {c:Nat} (h:s.run P w = .ok u w) (hv:RepW P S ρ A w v u):zen P S ρ A w ((do pure (Next.value (← s)):Sem Next).run P w) (.val v S c) :=
 jB hI (wV s h) (zT hv)
theorem zc1 (hI:Inv P S ρ A w) {b:Builtin} {ts:List TypeId} {ty:TypeId} {cs:Array Bool} {xs:List V} {us:Array Value} {r:Rs} (h:zI P S b ts xs=some r) (hx:RepT P S ρ A w xs us.toList) :
  zen P S ρ A w ((builtin b ts.toArray ty cs us).run P w) r:=by
 have h0:=h
 unfold zI at h
 split at h
 ·rename_i t ts' x
  simp only [RepT] at hx
  obtain ⟨u,us',hus,h1,rfl⟩:=hx
  have:us = #[u]:=by rw [← Array.toList_inj]; exact hus
  subst this
  obtain ⟨n,c,rfl,g2⟩:=ztv (ty:=ty) hI h0 h1
  exact z05 hI (s:=Builtin.len_ _ ty _) g2 (jR.2 ((zE rfl).2 (by simp [RepC,goInt])))
 ·rename_i t tx s x
  obtain ⟨⟨y,S',c⟩,hr,rfl⟩:=Option.map_eq_some_iff.1 h
  simp only [RepT] at hx
  obtain ⟨u,us',hus,h1,u2,us2,rfl,h2,rfl⟩:=hx
  have:us = #[u,u2]:=by rw [← Array.toList_inj]; exact hus
  subst this
  obtain ⟨v,w',ρ',g1,g2,g3,g4⟩:=zf5 (ty:=ty) hI hr h1 h2
  exact ⟨v,w',ρ',A,wV _ g1,g2,g3,zT g4⟩
 ·rename_i t tx s x
  obtain ⟨⟨y,S'⟩,hr,rfl⟩:=Option.map_eq_some_iff.1 h
  simp only [RepT] at hx
  obtain ⟨u,us',hus,h1,u2,us2,rfl,h2,rfl⟩:=hx
  have:us = #[u,u2]:=by rw [← Array.toList_inj]; exact hus
  subst this
  obtain ⟨v,w',g1,g2,g3,g4⟩:=zmi (ty:=ty) hI hr h1 h2
  exact ⟨v,w',ρ,A,wV _ g1,g2,g3,zT g4⟩
 ·rename_i t ts' s x
  obtain ⟨S',hr,rfl⟩:=Option.map_eq_some_iff.1 h
  simp only [RepT] at hx
  obtain ⟨u,us',hus,h1,u2,us2,rfl,h2,rfl⟩:=hx
  have:us = #[u,u2]:=by rw [← Array.toList_inj]; exact hus
  subst this
  obtain ⟨w',g1,g2,g3⟩:=zei (ty:=ty) (ts:=ts') hI hr h1 h2
  exact ⟨_,w',ρ,A,wV _ g1,g2,g3,z19 (by simp [qS])⟩
 ·rename_i x r'
  obtain ⟨z,hr,rfl⟩:=Option.map_eq_some_iff.1 h
  simp only [RepT] at hx
  obtain ⟨u,us',hus,h1,h2⟩:=hx
  obtain ⟨v,g1,g2⟩:=z7l (g:=Builtin.max2) (fun a b c=>zj4 a b c) hr h1 h2
  refine jB hI (wV _ ?_) g2
  simp only [Builtin.max_,hus,g1]
 ·rename_i x r'
  obtain ⟨z,hr,rfl⟩:=Option.map_eq_some_iff.1 h
  simp only [RepT] at hx
  obtain ⟨u,us',hus,h1,h2⟩:=hx
  obtain ⟨v,g1,g2⟩:=z7l (g:=Builtin.min2) (fun a b c=>zkh a b c) hr h1 h2
  refine jB hI (wV _ ?_) g2
  simp only [Builtin.min_,hus,g1]
 ·cases h
theorem zhi (hI:Inv P S ρ A w) {t k e:TypeId} {x:V} {u:Value} {r:Rs} (hu:P.underlying t=some (.map k e)) (h:z1p S x=some r) (hx:RepV P S ρ A w x u) :
  zen P S ρ A w ((do pure (Next.value (← Instr.range t u)):Sem Next).run P w) r:=by
 cases x <;> simp only [z1p,reduceCtorEq] at h
 rename_i id
 cases ho:S[id]? with
 | none=>simp [ho] at h
 | some ob =>
  cases ob with
  | mp es clock =>
   simp only [ho,Option.some.injEq] at h; subst h
   obtain ⟨en,rfl,g1,g2,_⟩:=zdb hI ho hx
   have hlt:=kA g1
   have hid:id < S.length:=by
    rcases Nat.lt_or_ge id S.length with h' | h'
    ·exact h'
    ·simp [List.getElem?_eq_none h'] at ho
   obtain ⟨k1,k2⟩:=hI.push (o:= .mit id clock [] clock) (w':=w.alloc (.mapIter (some (ρ id)) clock #[] clock)) rfl (by simp) (fun b hb=>kI _ hb) rfl rfl rfl (fun hs hA=>by
    simp only [ObOk]
    refine ⟨ρ id,jG _,?_⟩
    unfold MapPl
    rw [List.getElem?_append_left hid,ho]
    simp only
    rw [if_neg (by omega)])
   refine ⟨_,_,_,A,wV _ (u:= .pointer (some ⟨w.heap.size,0,none⟩)) ?_,k1,k2,zT ((zH rfl).2 ?_)⟩
   ·simp [Instr.range,run_underlying hu,jZ g1]
   ·simp only [zR]
    exact ⟨_,rfl,by unfold ItPl; simp⟩
  | _=>simp [ho] at h
theorem z5r {b:Nat} {m:Option Nat} {a c:Nat} {s:Array Nat} (h:w.heap[b]? = some (.mapIter m a s c)):(getObj b).run P w = .ok (.mapIter m a s c) w:=by
 simp [getObj,Sem.run,h]
theorem zi0 {b:Nat} {m:Option Nat} {a c:Nat} {s:Array Nat} (h:w.heap[b]? = some (.mapIter m a s c)) (o:Obj):(setObj b o).run P w = .ok () (setO w b o):=by
 simp [setObj,Sem.run,h,setO]
theorem z6v {seen:List Nat} : ∀ {es:List (D × V × Nat)} {en:List MapEntry},jI P S ρ A w es en→jI P S ρ A w (es.filter fun e => !seen.contains e.2.2) (en.filter fun e => !seen.contains e.born)
 | [],en,h=>by simp only [jI] at h; subst h; simp [jI]
 | e::r,en,h=>by
  simp only [jI] at h
  obtain ⟨m,ms,rfl,h1,h2,h3,h4⟩:=h
  have ih:=z6v (seen:=seen) h4
  simp only [List.filter_cons,h3]
  cases hc:seen.contains m.born with
  | true=>simpa [hc] using ih
  | false =>
   simp only [Bool.not_false,if_true,jI]
   exact ⟨m,_,rfl,h1,h2,h3,ih⟩
theorem zc3 {last:Nat} : ∀ {es:List (D × V × Nat)} {en:List MapEntry},jI P S ρ A w es en→(es.all fun e=>decide (e.2.2 ≥ last))=(en.all fun e=>decide (e.born ≥ last))∧es.isEmpty=en.isEmpty
 | [],en,h=>by simp only [jI] at h; subst h; simp
 | e::r,en,h=>by
  simp only [jI] at h
  obtain ⟨m,ms,rfl,h1,h2,h3,h4⟩:=h
  simp only [List.all_cons,h3,(zc3 h4).1,List.isEmpty_cons,and_self]
theorem zku (hI:Inv P S ρ A w) {ty:TypeId} {x:V} {u:Value} {r:Rs} (h:z5b S x=some r) (hx:RepV P S ρ A w x u) :
  zen P S ρ A w ((do pure (Next.value (← Instr.next u false ty)):Sem Next).run P w) r:=by
 cases x <;> simp only [z5b,reduceCtorEq] at h
 rename_i id
 cases ho:S[id]? with
 | none=>simp [ho] at h
 | some ob =>
  cases ob with
  | mit mid since seen last =>
   simp only [ho] at h
   cases hm:S[mid]? with
   | none=>simp [hm] at h
   | some om =>
    cases om with
    | mp es clock =>
     simp only [hm] at h
     have hok:=hI.ok id _ ho
     have hmk:=hI.ok mid _ hm
     have hx:=(zH rfl).1 ((zZ rfl).1 hx)
     simp only [zR,List.cons.injEq,and_true] at hx
     obtain ⟨r',rfl,hpl⟩:=hx
     simp only [ItPl,ho] at hpl
     subst hpl
     simp only [ObOk] at hok hmk
     obtain ⟨r0,hh,hp0⟩:=hok
     simp only [MapPl,hm] at hp0
     subst hp0
     obtain ⟨en,hme,hM,hcl,hnd⟩:=hmk
     obtain ⟨ha1,ha2⟩:=zc3 (last:=last) hM
     have hF:=z6v (seen:=seen) hM
     have hsz:seen.toArray.isEmpty=seen.isEmpty:=by cases seen <;> rfl
     have hez:en.isEmpty=es.isEmpty:=by rw [ha2]; cases en with | mk l=>cases l <;> rfl
     have hall:(en.all fun e=>decide (e.born ≥ last))=(es.all fun e=>decide (e.2.2 ≥ last)):=by rw [ha1]; simp
     have hfl:(en.filter fun e => !seen.toArray.contains e.born)=(en.toList.filter fun e => !seen.contains e.born).toArray:=by
      apply Array.toList_inj.1
      simp
     split at h
     ·cases h
     ·rename_i hc
      have hc':(!seen.toArray.isEmpty && !en.isEmpty && en.all fun e=>decide (e.born ≥ last))=false:=by
       rw [hsz,hez,hall]; simpa using hc
      split at h
      ·rename_i hfe
       simp only [Option.some.injEq] at h; subst h
       rw [hfe] at hF
       simp only [jI] at hF
       rw [hF] at hfl
       refine jB hI (wV _ (u:= .tuple #[.bool false]) ?_) (z19 ?_)
       ·simp only [Instr.next,Sem.run_bind,z5r hh,jZ hme,Result.andThen,hc',hfl,Bool.false_eq_true,if_false]
        simp [choose,Sem.run,Question.forced]
       ·simp only [qS]
        exact ⟨_,_,rfl,jR.2 ((zE rfl).2 (by simp [RepC])),rfl⟩
      ·rename_i e rest hfe
       split at h
       ·rename_i hlt
        simp only [Bool.and_eq_true,List.isEmpty_iff,decide_eq_true_eq] at hlt
        obtain ⟨rfl,hlt⟩:=hlt
        simp only [Option.some.injEq] at h; subst h
        rw [hfe] at hF
        simp only [jI] at hF
        obtain ⟨m,ms,hms,h1,h2,h3,rfl⟩:=hF
        rw [hms] at hfl
        have hb:m.born < since:=h3 ▸ hlt
        obtain ⟨t1,t2⟩:=hI.turn (o':= .mit mid since (seen ++ [e.2.2]) clock) (w':=setO w (ρ id) (.mapIter (some (ρ mid)) since (seen.toArray.push m.born) clock)) ho rfl trivial (z7w ..) (fun b hb=>z5q _ _ hb) (.inr fun c e f hc=>by rw [hh] at hc; cases hc) rfl rfl rfl (.inl rfl) (fun hs hA=>by
         simp only [ObOk]
         refine ⟨ρ mid,?_,?_⟩
         ·rw [z8t _ hh,h3]; simp
         ·have:MapPl S ρ mid (ρ mid):=by simp [MapPl,hm]
          exact this.mono hs)
        refine ⟨_,_,ρ,A,wV _ (u:= .tuple #[.bool true,m.key,m.val]) ?_,t1,t2,z19 ?_⟩
        ·simp only [Instr.next,Sem.run_bind,z5r hh,jZ hme,Result.andThen,hc',hfl,Bool.false_eq_true,if_false]
         simp [choose,Sem.run,Question.forced,hb,Nat.not_le.2 hb,zi0 hh]
        ·simp only [qS]
         exact ⟨_,_,rfl,jR.2 ((zE rfl).2 (by simp [RepC])),_,_,rfl,jR.2 (z2o t2.amono t2.keepA h1),_,_,rfl,z0k t2.amono t2.keepA t2.sle h2,rfl⟩
       ·cases h
    | _=>simp [hm] at h
  | _=>simp [ho] at h
theorem zai {st:Nat} : ∀ {es:List (D × V × Nat)} {en:List MapEntry} {e:D × V × Nat},jI P S ρ A w es en→(es.find? fun e=>e.2.2 == st)=some e → ∃ m,(en.find? fun m=>m.born == st)=some m∧RepX A w e.1 m.key∧RepW P S ρ A w e.2.1 m.val
 | [],en,e,h,hf=>by simp at hf
 | x::r,en,e,h,hf=>by
  simp only [jI] at h
  obtain ⟨m,ms,rfl,h1,h2,h3,h4⟩:=h
  rw [List.find?_cons] at hf ⊢
  rw [h3] at hf
  cases hc:m.born == st with
  | true =>
   rw [hc] at hf
   simp only [Option.some.injEq] at hf
   subst hf
   exact ⟨m,rfl,h1,h2⟩
  | false =>
   rw [hc] at hf
   exact zai h4 hf
theorem zhv (hI:Inv P S ρ A w) {x:V} {u:Value} {r:Rs} (h:z1y S x=some r) (hx:RepV P S ρ A w x u) :
  zen P S ρ A w ((do pure (Next.value (← Instr.entry u)):Sem Next).run P w) r:=by
 cases x <;> simp only [z1y,reduceCtorEq] at h
 rename_i id
 cases ho:S[id]? with
 | none=>simp [ho] at h
 | some ob =>
  cases ob with
  | mit mid since seen last =>
   simp only [ho] at h
   cases hm:S[mid]? with
   | none=>simp [hm] at h
   | some om =>
    cases om with
    | mp es clock =>
     simp only [hm] at h
     have hok:=hI.ok id _ ho
     have hmk:=hI.ok mid _ hm
     have hx:=(zH rfl).1 ((zZ rfl).1 hx)
     simp only [zR,List.cons.injEq,and_true] at hx
     obtain ⟨r',rfl,hpl⟩:=hx
     simp only [ItPl,ho] at hpl
     subst hpl
     simp only [ObOk] at hok hmk
     obtain ⟨r0,hh,hp0⟩:=hok
     simp only [MapPl,hm] at hp0
     subst hp0
     obtain ⟨en,hme,hM,hcl,hnd⟩:=hmk
     split at h
     ·rename_i hcl
      split at h
      ·rename_i st hst
       split at h
       ·rename_i e hfe
        simp only [Option.some.injEq] at h; subst h
        obtain ⟨m,hm1,hm2,hm3⟩:=zai hM hfe
        have hb:seen.toArray.back? = some st:=by rw [← Array.getLast?_toList]; exact hst
        have hf:en.find? (fun m=>m.born == st)=some m:=by rw [← Array.find?_toList]; exact hm1
        refine jB hI (wV _ (u:= .tuple #[m.key,m.val]) ?_) (z19 ?_)
        ·simp [Instr.entry,z5r hh,jZ hme,hb,hcl,hf]
        ·simp only [qS]
         exact ⟨_,_,rfl,jR.2 hm2,_,_,rfl,hm3,rfl⟩
       ·cases h
      ·cases h
     ·cases h
    | _=>simp [hm] at h
  | _=>simp [ho] at h
theorem zv3 (hI:Inv P S ρ A w) {T:List V} {a:Act} (hT:RepT P S ρ A w T a.tmps.toList) {o:Oper} {r:Rs} (h:opV P S T o=some r):zen P S ρ A w ((execOp a.eval o).run P w) r:=by
  have ev:=fun x=>z1g hT x
  unfold opV at h
  unfold execOp
  split at h
  · rename_i x hop
    simp only [Option.some.injEq] at h; subst h
    simp only [hop]
    exact jB hI rfl (ev x)
  · rename_i x hop
    simp only [Option.some.injEq] at h; subst h
    simp only [hop]
    exact jB hI rfl (ev x)
  · rename_i c x y hop
    simp only [hop]
    have hc:=ev c
    split at h
    · rename_i hcv
      rw [hcv] at hc
      have hb:=z36 hc
      simp only [Option.some.injEq] at h; subst h
      refine jB hI (u:=a.eval x) ?_ (ev x)
      simp [hb,asBool]
    · rename_i hcv
      rw [hcv] at hc
      have hb:=z36 hc
      simp only [Option.some.injEq] at h; subst h
      refine jB hI (u:=a.eval y) ?_ (ev y)
      simp [hb,asBool]
    · cases h
  · rename_i e hop
    simp only [hop]
    split at h
    · rename_i z hz
      split at h
      · rename_i hf
        simp only [Option.some.injEq] at h; subst h
        obtain ⟨zv,hz1,hz2⟩:=z2t (S:=S) (ρ:=ρ) (A:=A) (w:=w) hz
        obtain ⟨ρ',g1,g2,g3⟩:=zqq hI hf (zT hz2)
        refine ⟨_,_,ρ',A,wV _ (u:= .pointer (some ⟨w.heap.size,0,none⟩)) ?_,g1,g2,g3⟩
        simp [Instr.alloc,hz1,newVar,newRow]
      · cases h
    · cases h
  · rename_i e x hop
    simp only [hop]
    split at h
    · rename_i hf
      simp only [Option.some.injEq] at h; subst h
      obtain ⟨ρ',g1,g2,g3⟩:=zqq hI hf (ev x)
      refine ⟨_,_,ρ',A,wV _ (u:= .pointer (some ⟨w.heap.size,0,none⟩)) ?_,g1,g2,g3⟩
      simp [Instr.box,newVar,newRow]
    · cases h
  · rename_i t parts hop
    simp only [hop]
    obtain ⟨y,hy,rfl⟩:=Option.map_eq_some_iff.1 h
    obtain ⟨v,g1,g2⟩:=zh7 (parts':=parts.map fun (i,x)=>(i,a.eval x)) hy (by simpa using z1e hT parts.toList)
    exact z05 hI g1 g2
  · rename_i t len parts hop
    simp only [hop]
    split at h
    · rename_i e hu
      split at h
      · rename_i z k hz hk
        split at h
        · rename_i hc
          simp only [Bool.and_eq_true,decide_eq_true_eq,ne_eq] at hc
          obtain ⟨⟨⟨c1,c2⟩,c3⟩,c4⟩:=hc
          split at h
          · rename_i ds hds
            simp only [Option.some.injEq] at h; subst h
            obtain ⟨v,w',A',g1,g2,g3,g4⟩:=zn5 (parts':=parts.map fun (i,x)=>(i,a.eval x)) hI hu hz hk c1 (by simpa [List.all_map] using c2) c3 (by simpa using c4) hds (by simpa using z1e hT parts.toList)
            exact ⟨v,w',ρ,A',wV _ g1,g2,g3,g4⟩
          · simp only [Option.some.injEq] at h; subst h
            obtain ⟨v,w',ρ',g1,g2,g3,g4⟩:=zpa (parts:=parts.toList.map fun p=>(p.1,zC T p.2)) (parts':=parts.map fun (i,x)=>(i,a.eval x)) hI hu hz hk c1 (by simpa [List.all_map] using c2) c3 (by simpa using c4) (by simpa using z1e hT parts.toList)
            exact ⟨v,w',ρ',A,wV _ g1,g2,g3,g4⟩
        · cases h
      · cases h
    · cases h
  · rename_i t x hop
    simp only [hop]
    obtain ⟨y,hy,rfl⟩:=Option.map_eq_some_iff.1 h
    obtain ⟨v,g1,g2⟩:=zc8 hI hy (ev x)
    exact z05 hI g1 g2
  · rename_i t x y hop
    simp only [hop]
    obtain ⟨S',hy,rfl⟩:=Option.map_eq_some_iff.1 h
    obtain ⟨w',g1,g2,g3⟩:=zgp hI hy (ev x) (ev y)
    exact ⟨w',ρ,A,zsl _ g1,g2,g3⟩
  · rename_i x hop
    simp only [hop]
    have hx:=ev x
    split at h
    · rename_i i ix off hxv
      simp only [Option.some.injEq] at h; subst h
      rw [hxv] at hx
      have hx':=(zH rfl).1 ((zZ rfl).1 hx)
      simp only [zR,List.cons.injEq,and_true] at hx'
      obtain ⟨ad,he,_⟩:=hx'
      rw [he] at hx ⊢
      exact jB hI rfl hx
    · rename_i y hxv
      simp only [Option.some.injEq] at h; subst h
      rw [hxv] at hx
      have hx':=(zE rfl).1 (jK.1 hx)
      simp only [RepC,List.cons.injEq,and_true] at hx'
      obtain ⟨ad,us,he,_⟩:=hx'
      rw [he] at hx ⊢
      exact jB hI rfl hx
    · rename_i g f c hxv
      simp only [Option.some.injEq] at h; subst h
      rw [hxv] at hx
      obtain ⟨fa,ca,he,_⟩:=zg2 hx
      rw [he] at hx ⊢
      exact jB hI rfl hx
    · cases h
  · rename_i op t x y g hop
    simp only [hop]
    obtain ⟨z,hz,rfl⟩:=Option.map_eq_some_iff.1 h
    obtain ⟨v,g1,g2⟩:=znx x y hz (ev x) (ev y)
    exact z05 hI g1 g2
  · rename_i op t x hop
    simp only [hop]
    obtain ⟨z,hz,rfl⟩:=Option.map_eq_some_iff.1 h
    obtain ⟨v,g1,g2⟩:=zso hz (ev x)
    exact z05 hI g1 g2
  · rename_i src dst x hop
    simp only [hop]
    obtain ⟨⟨z,c⟩,hz,rfl⟩:=Option.map_eq_some_iff.1 h
    obtain ⟨v,w',A',g1,g2,g3,g4⟩:=zd0 hI hz (ev x)
    exact ⟨v,w',ρ,A',wV _ g1,g2,g3,zT g4⟩
  · rename_i t x hop
    simp only [hop]
    split at h
    · cases h
    · rename_i td hne hu
      split at h
      · rename_i hone
        simp only [Option.some.injEq] at h; subst h
        have hx:=(zZ hone).1 (ev x)
        refine z05 hI (u:= .iface t (a.eval x)) ?_ ((zH rfl).2 ?_)
        · cases td <;> first | (simp [Instr.makeInterface,run_underlying hu]; done) | exact (hne _ rfl).elim
        · simp only [zR]
          exact ⟨_,rfl,hx⟩
      · cases h
    · cases h
  · rename_i fn first caps hop
    simp only [hop]
    split at h
    · rename_i hc
      simp only [Bool.and_eq_true] at hc
      simp only [Option.some.injEq] at h; subst h
      refine z05 hI (u:= .func fn (first.map a.eval) (caps.map a.eval)) rfl ((zH rfl).2 ?_)
      simp only [zR]
      refine ⟨_,_,rfl,?_,?_⟩
      · simpa using z3v (z18 hT first.toList hc.1)
      · simpa using z3v (z18 hT caps.toList hc.2)
    · cases h
  · rename_i t r' hop
    simp only [hop]
    split at h
    · simp only [Option.some.injEq] at h; subst h
      obtain ⟨g1,g2⟩:=hI.push (o:= .mp [] 0) (w':=w.alloc (.map #[] 0)) rfl (by simp) (fun b hb=>kI _ hb) rfl rfl rfl (fun hs hA=>by
        simp only [ObOk]
        exact ⟨#[],jG _,by simp [jI],by simp,by simp⟩)
      refine ⟨_,_,_,A,wV _ (u:= .map (some w.heap.size)) ?_,g1,g2,zT ((zH rfl).2 ?_)⟩
      · simp [Instr.makeMap]
      · simp only [zR]
        exact ⟨_,rfl,by unfold MapPl; simp⟩
    · cases h
  · rename_i t l c hop
    simp only [hop]
    obtain ⟨⟨y,S'⟩,hy,rfl⟩:=Option.map_eq_some_iff.1 h
    obtain ⟨v,w',ρ',g1,g2,g3,g4⟩:=z9j hI hy (ev l) (ev c)
    exact ⟨v,w',ρ',A,wV _ g1,g2,g3,zT g4⟩
  · rename_i t x lo hi hop
    simp only [hop]
    obtain ⟨y,hy,rfl⟩:=Option.map_eq_some_iff.1 h
    obtain ⟨v,g1,g2⟩:=zia (ulo:=lo.map a.eval) (uhi:=hi.map a.eval) hI hy (ev x)
      (fun z hz=>by obtain ⟨q,rfl,rfl⟩:=Option.map_eq_some_iff.1 hz; exact ⟨_,rfl,ev q⟩) (fun hz=>by simpa using hz)
      (fun z hz=>by obtain ⟨q,rfl,rfl⟩:=Option.map_eq_some_iff.1 hz; exact ⟨_,rfl,ev q⟩) (fun hz=>by simpa using hz)
    exact z05 hI g1 g2
  · rename_i s x f hop
    simp only [hop]
    obtain ⟨y,hy,rfl⟩:=Option.map_eq_some_iff.1 h
    obtain ⟨v,g1,g2⟩:=z9f hI hy (ev x)
    exact z05 hI g1 g2
  · rename_i t x ix hop
    simp only [hop]
    obtain ⟨y,hy,rfl⟩:=Option.map_eq_some_iff.1 h
    obtain ⟨v,g1,g2⟩:=z97 hI hy (ev x) (ev ix)
    exact z05 hI g1 g2
  · rename_i s x f hop
    simp only [hop]
    obtain ⟨y,hy,rfl⟩:=Option.map_eq_some_iff.1 h
    obtain ⟨v,g1,g2⟩:=zhc hy (ev x)
    exact z05 hI g1 g2
  · rename_i t x ix hop
    simp only [hop]
    obtain ⟨y,hy,rfl⟩:=Option.map_eq_some_iff.1 h
    obtain ⟨v,g1,g2⟩:=zhg hy (ev x) (ev ix)
    exact z05 hI g1 g2
  · rename_i t x k ok hop
    simp only [hop]
    obtain ⟨y,hy,rfl⟩:=Option.map_eq_some_iff.1 h
    obtain ⟨v,g1,g2⟩:=ze5 hI hy (ev x) (ev k)
    exact jB hI (wV _ g1) g2
  · rename_i t m k x hop
    simp only [hop]
    obtain ⟨S',hy,rfl⟩:=Option.map_eq_some_iff.1 h
    obtain ⟨w',g1,g2,g3⟩:=z9k hI hy (ev m) (ev k) (ev x)
    exact ⟨w',ρ,A,zsl _ g1,g2,g3⟩
  · rename_i t m k hop
    simp only [hop]
    obtain ⟨⟨y,S'⟩,hy,rfl⟩:=Option.map_eq_some_iff.1 h
    obtain ⟨v,w',g1,g2,g3,g4⟩:=zbs hI hy (ev m) (ev k)
    exact ⟨v,w',ρ,A,wV _ g1,g2,g3,g4⟩
  · rename_i t m st x hop
    simp only [hop]
    obtain ⟨S',hy,rfl⟩:=Option.map_eq_some_iff.1 h
    obtain ⟨w',g1,g2,g3⟩:=z8y (t:=t) hI hy (ev m) (ev st) (ev x)
    exact ⟨w',ρ,A,zsl _ g1,g2,g3⟩
  · rename_i t x hop
    simp only [hop]
    have hx:=ev x
    split at h
    · rename_i hu
      split at h
      · rename_i s hxv
        simp only [Option.some.injEq] at h; subst h
        rw [hxv] at hx
        have hx':=(zE rfl).1 (jK.1 hx)
        simp only [RepC,List.cons.injEq,and_true] at hx'
        obtain ⟨g1,g2⟩:=hI.push (o:= .iter s 0) (w':=w.alloc (.stringIter ⟨s.toArray⟩ 0)) rfl (by simp) (fun b hb=>kI _ hb) rfl rfl rfl (fun hs hA=>by
          simp only [ObOk]
          exact jG _)
        refine ⟨_,_,_,A,wV _ (u:= .pointer (some ⟨w.heap.size,0,none⟩)) ?_,g1,g2,zT ((zH rfl).2 ?_)⟩
        · simp [Instr.range,run_underlying hu,hx']
        · simp only [zR]
          exact ⟨_,rfl,by unfold ItPl; simp⟩
      · cases h
    · rename_i hu
      exact zhi hI hu h hx
    · cases h
  · rename_i it hop
    simp only [hop]
    have hx:=ev it
    split at h
    · rename_i id hxv
      rw [hxv] at hx
      cases ho:S[id]? with
      | none=>simp [ho] at h
      | some ob =>
        cases ob with
        | iter s pos =>
          simp only [ho] at h
          have hn:=zok (ty:=o.type) hI ho hx
          split at h
          · rename_i hlt
            rw [if_pos hlt] at hn
            simp only [Option.some.injEq] at h; subst h
            obtain ⟨w',g1,g2,g3⟩:=hn
            refine ⟨_,w',ρ,A,wV _ g1,g2,g3,z19 ?_⟩
            simp only [qS]
            exact ⟨_,_,rfl,jR.2 ((zE rfl).2 (by simp [RepC])),_,_,rfl,jR.2 ((zE rfl).2 (by simp [RepC,goInt])),_,_,rfl,jR.2 ((zE rfl).2 (by simp [RepC])),rfl⟩
          · rename_i hlt
            rw [if_neg hlt] at hn
            simp only [Option.some.injEq] at h; subst h
            refine jB hI (wV _ hn) (z19 ?_)
            simp only [qS]
            exact ⟨_,_,rfl,jR.2 ((zE rfl).2 (by simp [RepC])),rfl⟩
        | _=>simp [ho] at h
    · cases h
  · rename_i it hop
    simp only [hop]
    exact zku hI h (ev it)
  · rename_i it hop
    simp only [hop]
    exact zhv hI h (ev it)
  · rename_i t ix hop
    simp only [hop]
    have hx:=ev t
    split at h
    · rename_i vs hxv
      rw [hxv] at hx
      obtain ⟨us,hus,hr⟩:=hx
      split at h
      · rename_i v hv
        simp only [Option.some.injEq] at h; subst h
        obtain ⟨u,hu,hvr⟩:=z58 (z5t hr) ix v hv
        have hu':us[ix]? = some u:=by simpa using hu
        exact jB hI (wV _ (u:=u) (by simp [Instr.extract,hus,hu'])) hvr
      · cases h
    · cases h
  · rename_i c hop
    simp only [hop]
    split at h
    · rename_i b hcal
      have:=fun cs=>zc1 (ty:=o.type) (cs:=cs) (us:=c.args.map a.eval) hI h (by simpa using zgl hT c.args.toList)
      simp [resolve,hcal,invoke]
      exact this _
    · rename_i f hcal
      have hf:=ev f
      split at h
      · rename_i g first caps hfv
        rw [hfv] at hf
        obtain ⟨fa,ca,he,h1,h2⟩:=zg2 hf
        split at h
        · rename_i hc
          simp only [Bool.and_eq_true] at hc
          simp only [Option.some.injEq] at h; subst h
          refine ⟨fa ++ c.args.map a.eval ++ ca,?_,?_⟩
          · simp [resolve,hcal,Deferred.ofValue,he,invoke,z2m hc.2]
          · simpa using kK (kK h1 (z18 hT c.args.toList hc.1)) h2
        · cases h
      · rename_i g first caps hfv
        rw [hfv] at hf
        obtain ⟨fa,ca,he,h1,h2⟩:=zqv hf
        split at h
        · rename_i hc
          simp only [Bool.and_eq_true] at hc
          simp only [Option.some.injEq] at h; subst h
          refine ⟨fa ++ c.args.map a.eval ++ ca,?_,?_⟩
          · simp [resolve,hcal,Deferred.ofValue,he,invoke,z2m hc.2]
          · simpa using kK (kK h1 (z18 hT c.args.toList hc.1)) h2
        · cases h
      · cases h
    · cases h
  · rename_i c hop
    simp only [hop]
    split at h
    · rename_i f hcal
      have hf:=ev f
      split at h
      · rename_i g first caps hfv
        rw [hfv] at hf
        obtain ⟨fa,ca,he,h1,h2⟩:=zg2 hf
        split at h
        · rename_i hc
          simp only [Bool.and_eq_true] at hc
          simp only [Option.some.injEq] at h; subst h
          refine ⟨⟨.fn (.func g) ca,fa ++ c.args.map a.eval⟩,.func g,ca,fa ++ c.args.map a.eval ++ ca,?_,rfl,fun w2=>?_,?_⟩
          · simp [resolve,hcal,Deferred.ofValue,he]
          · simp [invoke,z2m hc.2]
          · simpa using kK (kK h1 (z18 hT c.args.toList hc.1)) h2
        · cases h
      · cases h
    · cases h
  · rename_i x hop
    simp only [hop]
    have hx:=ev x
    split at h
    · rename_i t v hxv
      simp only [Option.some.injEq] at h; subst h
      rw [hxv] at hx
      have hw:=(zZ rfl).1 hx
      have hx':=(zH rfl).1 hw
      simp only [zR,List.cons.injEq,and_true] at hx'
      obtain ⟨u,he,_⟩:=hx'
      refine ⟨a.eval x,?_,hw⟩
      simp [he,Instr.panic,goPanic,Sem.run]
    · rename_i t v hxv
      simp only [Option.some.injEq] at h; subst h
      rw [hxv] at hx
      have hw:=(zZ rfl).1 hx
      have hx':=(zE rfl).1 (jR.1 hw)
      simp only [RepC,List.cons.injEq,and_true] at hx'
      obtain ⟨u,he,_⟩:=hx'
      refine ⟨a.eval x,?_,hw⟩
      simp [he,Instr.panic,goPanic,Sem.run]
    · cases h
  · cases h
end
section
variable {P:Program} {S:zA} {ρ:Nat→Nat} {A A':Nat→Prop} {w w':World}
def z3w (P:Program) (S:zA) (ρ:Nat→Nat) (A:Nat→Prop) (w:World) (o:Out) (S':zA):Ending→World→Prop
 | .returned v,w'=>∃ x,o = .ret x ∧ ∃ ρ' A',Inv P S' ρ' A' w'∧Step S ρ A w S' ρ' A' w'∧RepV P S' ρ' A' w' x v
 | .panicked chain,w'=>∃ x v,o = .pan x∧chain=[{ v,recovered:=false }] ∧ ∃ ρ' A',Inv P S' ρ' A' w'∧Step S ρ A w S' ρ' A' w'∧RepW P S' ρ' A' w' x v
 | .outgrown,_=>False
def z95 (P:Program) (call:jX):Prop:= ∀ f args S o S',call f args S=some (o,S') → ∀ (ρ:Nat→Nat) (A:Nat→Prop) (w:World) (us:Array Value),Inv P S ρ A w→qS P S ρ A w args us.toList→Calls P f us w (z3w P S ρ A w o S')
structure Iso (A:Nat→Prop) (w:World) (A':Nat→Prop) (w':World):Prop where
 os:w'.os=w.os
 tape:w'.tape=w.tape
 output:w'.output=w.output
 size:w.heap.size ≤ w'.heap.size
 old : ∀ b,b < w.heap.size→w'.heap[b]? = w.heap[b]?
 amono : ∀ b,A b→A' b
 anew : ∀ b,A' b→A b ∨ w.heap.size ≤ b
 lt : ∀ b,A' b→b < w'.heap.size
inductive OutD where
 | ret (x:D)
 | tup (xs:List D)
 | pan (x:D)
def OutD.out:OutD→Out
 | .ret x=>.ret (.d x)
 | .tup xs=>.ret (.tup (xs.map .d))
 | .pan x=>.pan (.d x)
def z8e (A:Nat→Prop) (w:World):OutD→Value→Prop
 | .ret x,v=>RepX A w x v
 | .tup xs,v=>∃ us,v = .tuple us∧RepS A w xs us.toList
 | .pan _,_=>False
def zeq (A:Nat→Prop) (w:World) (o:OutD):Ending→World→Prop
 | .returned v,w'=>∃ A',Iso A w A' w'∧z8e A' w' o v
 | .panicked chain,w'=>∃ x v,o = .pan x∧chain=[{ v,recovered:=false }] ∧ ∃ A',Iso A w A' w'∧RepX A' w' x v
 | .outgrown,_=>False
def zwk (P:Program) (ans:FuncId→List D→Option Out):Prop:= ∀ f ds o,ans f ds=some o → ∃ o',o=OutD.out o' ∧ ∀ (A:Nat→Prop) (w:World) (us:Array Value),(∀ b,A b→b < w.heap.size)→GlobOk P A w→RepS A w ds us.toList→Calls P f us w (zeq A w o')
def z5o (C:Cfg):Prop:= ∀ f g,C.ext f=some g → ∀ ds o,g ds=some o → ∃ o',o=OutD.out o' ∧ ∀ (A:Nat→Prop) (w:World) (us:Array Value),(∀ b,A b→b < w.heap.size)→GlobOk C.P A w→RepS A w ds us.toList→Calls C.P f us w (zeq A w o')
theorem zfc (h : ∀ b,A b→b < w.heap.size) (hgl:GlobOk P A w):Inv P [] ρ A w:=⟨fun id o ho=>by simp at ho,fun i j oi oj hi=>by simp at hi,fun i o ho=>by simp at ho,h,hgl⟩
theorem z1t {b:Nat} : ¬ zjp [] ρ b:=by rintro ⟨id,o,ho,_⟩; simp at ho
theorem zka (hI:Inv P S ρ A w) {ids:List Nat} {v:V} {x:D} {u:Value} (h:frz S zG v=some x) (hr:RepW P S ρ A w v u) (hq : ∀ i ∈ frzIds S zG v,i ∈ ids):RepX (stay S ρ A ids) w x u:=by
 have hqi : ∀ i ∈ frzIds S zG v,stay S ρ A ids (ρ i):=fun i hi=>z0n hi (hq i hi)
 rcases hr with ⟨g1,us',g2,g3⟩ | ⟨g1,g3⟩
 ·obtain ⟨e1,e2⟩:=z63 hI z09 zG v x _ h g3 hqi
  exact .inl ⟨e2.trans g1,us',g2,e1⟩
 ·obtain ⟨e1,e2⟩:=z63 hI z09 zG v x _ h g3 hqi
  exact .inr ⟨e2.trans g1,e1⟩
theorem zam : ∀ {ds:List D} {us:List Value},qS P S ρ A w (ds.map .d) us→RepS A w ds us
 | [],us,h=>by simpa [qS,RepS] using h
 | x::r,us,h=>by
  simp only [List.map_cons,qS] at h
  obtain ⟨v,us',rfl,h1,h2⟩:=h
  simp only [RepS]
  exact ⟨v,us',rfl,jR.1 h1,zam h2⟩
theorem zfl {o:OutD} {x:V} {v:Value} (h:z8e A w o v) (ho:o.out = .ret x):RepV P S ρ A w x v:=by
 cases o with
 | ret y=>simp only [OutD.out,Out.ret.injEq] at ho; subst ho; exact jK.2 h
 | tup ys =>
  simp only [OutD.out,Out.ret.injEq] at ho; subst ho
  obtain ⟨us,rfl,h⟩:=h
  exact ⟨us,rfl,vO h⟩
 | pan y=>exact h.elim
theorem zat {S':zA} {ρ':Nat→Nat} {A':Nat→Prop} (hlt : ∀ b,A b→b < w.heap.size) (hI:Inv P S' ρ' A' w') (hs:Step [] ρ A w S' ρ' A' w') (ids:List Nat):Iso A w (stay S' ρ' A' ids) w' where
 os:=hs.os
 tape:=hs.tape
 output:=hs.output
 size:=hs.size
 old:=fun b hb=>hs.keep b hb z1t
 amono:=fun b hb=>z09 b (hs.amono b hb)
 anew:=fun b hb=>by
  rcases hb with hb | ⟨id,_,o,ho,hl,_,rfl⟩
  ·rcases hs.anew b hb with h | h | h
   ·exact .inl h
   ·exact absurd h z1t
   ·exact .inr h
  ·rcases hs.onew _ ⟨id,o,ho,hl,rfl⟩ with h | h
   ·exact absurd h z1t
   ·exact .inr h
 lt:=fun b hb=>by
  rcases hb with hb | ⟨id,_,o,ho,hl,_,rfl⟩
  ·exact hI.lt b hb
  ·exact (hI.ok id o ho).lt (by rintro rfl; cases hl) (by rintro rfl; cases hl)
theorem zaj (hI:Inv P S ρ A w) {ids:List Nat} {vs:List V} {ds:List D} {us:List Value} (h:allO (frz S zG) vs=some ds) (hr:qS P S ρ A w vs us) (hq : ∀ i ∈ vs.flatMap (frzIds S zG),i ∈ ids):RepS (stay S ρ A ids) w ds us :=
 zam (zfx hI h hr hq)
theorem zd1 {C:Cfg} {call:jX} (hext:z5o C) (hrun:z95 C.P call):zwk C.P (answer C call):=by
 intro f ds o h
 unfold answer at h
 split at h
 ·rename_i g hg
  exact hext f g hg ds o h
 ·cases hc:call f (ds.map .d) [] with
  | none=>simp [hc] at h
  | some r =>
   obtain ⟨out,S'⟩:=r
   simp only [hc] at h
   have key:=hrun f _ _ _ _ hc
   unfold z8o at h
   split at h
   ·rename_i vs
    obtain ⟨xs,hx,rfl⟩:=Option.map_eq_some_iff.1 h
    refine ⟨.tup xs,rfl,fun A w us hlt hgl hr=>(key (fun _=>0) A w us (zfc hlt hgl) (vO hr)).mono fun e w' he=>?_⟩
    cases e with
    | returned v =>
     obtain ⟨x,hx',ρ',A',h1,h2,h3⟩:=he
     cases hx'
     obtain ⟨us',rfl,h3⟩:=h3
     exact ⟨_,zat hlt h1 h2 (vs.flatMap (frzIds S' zG)),us',rfl,zaj h1 hx h3 (fun i hi=>hi)⟩
    | panicked c=>obtain ⟨x,v,hx',_⟩:=he; cases hx'
    | outgrown=>exact he
   ·rename_i v0 hne
    obtain ⟨x,hx,rfl⟩:=Option.map_eq_some_iff.1 h
    refine ⟨.ret x,rfl,fun A w us hlt hgl hr=>(key (fun _=>0) A w us (zfc hlt hgl) (vO hr)).mono fun e w' he=>?_⟩
    cases e with
    | returned v =>
     obtain ⟨x',hx',ρ',A',h1,h2,h3⟩:=he
     cases hx'
     have hone:v0.one=true:=by
      cases v0 <;> first | rfl | (simp [zG,frz] at hx)
     exact ⟨_,zat hlt h1 h2 (frzIds S' zG v0),zka h1 hx ((zZ hone).1 h3) (fun i hi=>hi)⟩
    | panicked c=>obtain ⟨x,v,hx',_⟩:=he; cases hx'
    | outgrown=>exact he
   ·rename_i v0
    obtain ⟨x,hx,rfl⟩:=Option.map_eq_some_iff.1 h
    refine ⟨.pan x,rfl,fun A w us hlt hgl hr=>(key (fun _=>0) A w us (zfc hlt hgl) (vO hr)).mono fun e w' he=>?_⟩
    cases e with
    | returned v=>obtain ⟨x',hx',_⟩:=he; cases hx'
    | panicked c =>
     obtain ⟨x',v,hx',rfl,ρ',A',h1,h2,h3⟩:=he
     cases hx'
     exact ⟨x,v,rfl,rfl,_,zat hlt h1 h2 (frzIds S' zG v0),zka h1 hx h3 (fun i hi=>hi)⟩
    | outgrown=>exact he
theorem Inv.iso (h:Inv P S ρ A w) {A1 A2:Nat→Prop} (hi:Iso A1 w A2 w') (hA : ∀ b,A1 b→A b) :
  Inv P S ρ (fun b=>A b ∨ A2 b) w'∧Step S ρ A w S ρ (fun b=>A b ∨ A2 b) w':=by
 obtain ⟨g1,g2⟩:=h.world hi.size hi.old hi.os hi.tape hi.output
 have hnew : ∀ b,A2 b→A b ∨ w.heap.size ≤ b:=fun b hb=>(hi.anew b hb).imp (hA b) id
 refine ⟨⟨fun id o ho=>(g1.ok id o ho).mono (fun _ h=>.inl h) (fun _ _=>rfl) (Step.refl (A:=A)).sle (fun _=>rfl),h.inj,fun i o ho hl hb=>?_,fun b hb=>?_,h.gl.step (fun _ h=>.inl h) g2.keepA⟩,⟨hi.os,hi.tape,hi.output,hi.size,g2.keep,g2.keepA,fun _ h=>.inl h,fun b hb=>?_,fun _ h=>.inl h,g2.sle⟩⟩
 ·rcases hb with hb | hb
  ·exact h.own i o ho hl hb
  ·rcases hnew _ hb with hb | hb
   ·exact h.own i o ho hl hb
   ·have:=(h.ok i o ho).lt (by rintro rfl; cases hl) (by rintro rfl; cases hl)
    omega
 ·rcases hb with hb | hb
  ·exact g1.lt b hb
  ·exact hi.lt b hb
 ·rcases hb with hb | hb
  ·exact .inl hb
  ·rcases hnew _ hb with hb | hb
   ·exact .inl hb
   ·exact .inr (.inr hb)
theorem zhw {B:Nat→Prop} (hB : ∀ b,A b→B b) {xs:List D} {us:List Value} (h:RepS A w xs us):RepS B w xs us:=z5g hB (fun _ _=>rfl) xs us h
theorem zf6 {B:Nat→Prop} (hB : ∀ b,A b→B b) {o:OutD} {v:Value} (h:z8e A w o v):z8e B w o v:=by
 cases o with
 | ret x=>exact z2o hB (fun _ _=>rfl) h
 | tup xs=>obtain ⟨us,h1,h2⟩:=h; exact ⟨us,h1,zhw hB h2⟩
 | pan x=>exact h.elim
theorem zf4 {B:Nat→Prop} {x:D} {v:Value} (h:x.plain=true) (hr:RepX A w x v):RepX B w x v :=
 hr.imp (fun ⟨a,us,b,c⟩=>⟨a,us,b,zce h c⟩) (fun ⟨a,b⟩=>⟨a,zce h b⟩)
theorem zlw {B:Nat→Prop} : ∀ {xs:List D} {us:List Value},xs.all D.plain=true→RepS A w xs us→RepS B w xs us
 | [],us,_,h=>by simpa [RepS] using h
 | x::r,us,hp,h=>by
  simp only [List.all_cons,Bool.and_eq_true] at hp
  simp only [RepS] at h ⊢
  obtain ⟨v,us',rfl,h1,h2⟩:=h
  exact ⟨v,us',rfl,zf4 hp.1 h1,zlw hp.2 h2⟩
def OutD.plain:OutD→Bool
 | .ret x=>x.plain
 | .tup xs=>xs.all D.plain
 | .pan x=>x.plain
theorem zcb {o:OutD} (h:z0w o.out=true):o.plain=true:=by
 cases o with
 | ret x=>exact h
 | tup xs =>
  simp only [OutD.out,z0w,List.all_map] at h
  simpa [OutD.plain] using h
 | pan x=>exact h
theorem zij {B:Nat→Prop} {o:OutD} {v:Value} (hp:o.plain=true) (h:z8e A w o v):z8e B w o v:=by
 cases o with
 | ret x=>exact zf4 hp h
 | tup xs=>obtain ⟨us,h1,h2⟩:=h; exact ⟨us,h1,zlw hp h2⟩
 | pan x=>exact h.elim
theorem z46 {o:OutD} {A1:Nat→Prop} {S2:zA} {f:FuncId} {us:Array Value} (hcall:Calls P f us w (zeq A1 w o))
  (hgo : ∀ A2 w',Iso A1 w A2 w' → ∃ B,Inv P S2 ρ B w'∧Step S ρ A w S2 ρ B w'∧((∀ b,A2 b→B b) ∨ o.plain=true)):Calls P f us w (z3w P S ρ A w o.out S2):=by
 refine hcall.mono fun e w' he=>?_
 cases e with
 | returned v =>
  obtain ⟨A2,h1,h2⟩:=he
  obtain ⟨B,g1,g2,g3⟩:=hgo A2 w' h1
  have h3:z8e B w' o v:=by
   rcases g3 with g3 | g3
   ·exact zf6 g3 h2
   ·exact zij g3 h2
  cases o with
  | ret x=>exact ⟨_,rfl,ρ,B,g1,g2,zfl h3 rfl⟩
  | tup xs=>exact ⟨_,rfl,ρ,B,g1,g2,zfl h3 rfl⟩
  | pan x=>exact h3.elim
 | panicked c =>
  obtain ⟨x,v,rfl,rfl,A2,h1,h2⟩:=he
  obtain ⟨B,g1,g2,g3⟩:=hgo A2 w' h1
  refine ⟨_,v,rfl,rfl,ρ,B,g1,g2,jR.2 ?_⟩
  rcases g3 with g3 | g3
  ·exact z2o g3 (fun _ _=>rfl) h2
  ·exact zf4 g3 h2
 | outgrown=>exact he
theorem zau {C:Cfg} {call:jX} (hext:z5o C) (hrun:z95 C.P call) {f:FuncId} {args:List V} {S S':zA} {o:Out} {c:Nat} (h:jO C call f args S=some (o,S',c)) {us:Array Value} (hI:Inv C.P S ρ A w) (hr:qS C.P S ρ A w args us.toList) :
  Calls C.P f us w (z3w C.P S ρ A w o S'):=by
 unfold jO at h
 split at h
 ·obtain ⟨⟨o',S2⟩,h1,h2⟩:=Option.map_eq_some_iff.1 h
  simp only [Prod.mk.injEq] at h2
  obtain ⟨rfl,rfl,_⟩:=h2
  exact hrun f args S _ _ h1 ρ A w us hI hr
 ·split at h
  ·cases h
  ·rename_i ds hds
   cases ha:answer C call f ds with
   | none=>simp [ha] at h
   | some out =>
    simp only [ha] at h
    obtain ⟨o',rfl,hans⟩:=zd1 hext hrun f ds out ha
    have hargs:=zaj hI hds hr (ids:=args.flatMap (frzIds S zG)) (fun i hi=>hi)
    have hlt : ∀ b,stay S ρ A (args.flatMap (frzIds S zG)) b→b < w.heap.size:=fun b hb=>by
     rcases hb with hb | ⟨id,_,o,ho,hl,_,rfl⟩
     ·exact hI.lt b hb
     ·exact (hI.ok id o ho).lt (by rintro rfl; cases hl) (by rintro rfl; cases hl)
    have hcall:=hans _ w us hlt (hI.gl.step z09 (fun _ _=>rfl)) hargs
    split at h
    ·rename_i hemp
     simp only [Option.some.injEq,Prod.mk.injEq] at h
     obtain ⟨rfl,rfl,_⟩:=h
     refine z46 hcall fun A2 w' hi=>?_
     have hemp':args.flatMap (frzIds S zG)=[]:=by simpa using hemp
     obtain ⟨g1,g2⟩:=hI.iso hi (fun b hb=>by
      rcases hb with hb | ⟨id,hid,_⟩
      ·exact hb
      ·rw [hemp'] at hid; cases hid)
     exact ⟨_,g1,g2,.inl fun b hb=>.inr hb⟩
    ·split at h
     ·rename_i hp
      simp only [Option.some.injEq,Prod.mk.injEq] at h
      obtain ⟨rfl,rfl,_⟩:=h
      refine z46 hcall fun A2 w' hi=>?_
      obtain ⟨g1,g2⟩:=hI.world hi.size hi.old hi.os hi.tape hi.output
      exact ⟨A,g1,g2,.inr (zcb hp)⟩
     ·split at h
      ·rename_i S2 hm
       simp only [Option.some.injEq,Prod.mk.injEq] at h
       obtain ⟨rfl,rfl,_⟩:=h
       refine z46 hcall fun A2 w' hi=>?_
       obtain ⟨m1,m2⟩:=hI.mark hm (fun id hid=>by
        obtain ⟨v,_,hv⟩:=List.mem_flatMap.1 hid
        exact z4b hv)
       obtain ⟨g1,g2⟩:=m1.iso hi (fun b hb=>hb)
       exact ⟨_,g1,m2.trans g2,.inl fun b hb=>.inr hb⟩
      ·cases h
end
section
variable {P:Program} {S S':zA} {ρ ρ':Nat→Nat} {A A':Nat→Prop} {w w':World}
theorem zf1 {ops:Array Oper} {T:List V} {j:Nat} {r:Option Bool} {tm:Array Value} (h:qL ops T j=some r) (hT:RepT P S ρ A w T tm.toList):yielded ops tm j=r:=by
 unfold qL at h
 unfold yielded
 cases hd:(ops[j]?).bind (·.dst) with
 | none=>simp only [hd,Option.some.injEq] at h; subst h; rfl
 | some d =>
  simp only [hd] at h
  simp only [Option.bind_some]
  cases ht:T[d]? with
  | none =>
   simp only [ht,Option.some.injEq] at h; subst h
   have hl:=z1q hT
   have:tm[d]? = none:=by
    simp only [List.getElem?_eq_none_iff] at ht
    simp only [Array.length_toList] at hl
    simp [hl,ht]
   simp [this]
  | some v =>
   obtain ⟨u,hu,hr⟩:=z58 hT d v ht
   have hu':tm[d]? = some u:=by simpa using hu
   simp only [ht] at h
   simp only [hu']
   split at h
   ·rename_i heq; cases heq
   ·rename_i b heq
    cases heq
    simp only [Option.some.injEq] at h; subst h
    rw [z36 hr]
   ·rename_i xs heq
    cases heq
    simp only [Option.some.injEq] at h; subst h
    obtain ⟨us,rfl,_⟩:=hr
    rfl
   ·cases h
theorem z2w {ops:Array Oper} {T:List V} {o:Oper} {b:Bool} {tm:Array Value} (h:zW ops T o=some b) (hT:RepT P S ρ A w T tm.toList):Region.wanted o (yielded ops tm)=b:=by
 unfold zW at h
 unfold Region.wanted
 cases hg:o.guard with
 | none=>simp only [hg,Option.some.injEq] at h; simp [h]
 | some g =>
  obtain ⟨j,want⟩:=g
  simp only [hg] at h
  obtain ⟨r,hr,rfl⟩:=Option.map_eq_some_iff.1 h
  simp [zf1 hr hT]
theorem vC {T:List V} {a:Act} {dst:Option Tmp} {v:V} {u:Value} (hT:RepT P S ρ A w T a.tmps.toList) (hv:RepV P S ρ A w v u):RepT P S ρ A w (putT T dst v) (a.put dst u).tmps.toList:=by
 cases dst with
 | none=>exact hT
 | some d=>simpa [putT,Act.put] using zba hT d v u hv
theorem put_defers (a:Act) (dst:Option Tmp) (u:Value):(a.put dst u).defers=a.defers:=by cases dst <;> rfl
def zzq (P:Program) (S:zA) (ρ:Nat→Nat) (A:Nat→Prop) (w:World) (f:FuncId) (args:List V) (d:Deferred):Prop :=
 ∃ fv cap us,d.target = .fn fv cap∧(∀ w2,(invoke d.target d.args).run P w2 = .ok (.enter f us) w2)∧qS P S ρ A w args us.toList
def DfOk (P:Program) (S:zA) (ρ:Nat→Nat) (A:Nat→Prop) (w:World):Dfs→List Deferred→Prop
 | [],ds=>ds=[]
 | x::r,ds=>∃ d ds',ds=d::ds'∧zzq P S ρ A w x.1 x.2 d∧DfOk P S ρ A w r ds'
theorem kB (h:Step S ρ A w S' ρ' A' w') : ∀ {F:Dfs} {ds:List Deferred},DfOk P S ρ A w F ds→DfOk P S' ρ' A' w' F ds
 | [],ds,hd=>hd
 | x::r,ds,hd=>by
  obtain ⟨d,ds',rfl,⟨fv,cap,us,h1,h2,h3⟩,h4⟩:=hd
  exact ⟨d,ds',rfl,⟨fv,cap,us,h1,h2,z1f h.amono h.keepA h.sle _ _ h3⟩,kB h h4⟩
def St (P:Program) (S:zA) (ρ:Nat→Nat) (A:Nat→Prop) (w:World) (T':List V) (S':zA) (F':Dfs) (a':Act) (w':World):Prop :=
 ∃ ρ' A',Inv P S' ρ' A' w'∧Step S ρ A w S' ρ' A' w'∧RepT P S' ρ' A' w' T' a'.tmps.toList∧DfOk P S' ρ' A' w' F' a'.defers
def ExPost (P:Program) (S:zA) (ρ:Nat→Nat) (A:Nat→Prop) (w:World) (x:Ex) (T':List V) (S':zA) (F':Dfs):Exit→Act→World→Prop
 | .normal,a',w'=>x = .norm∧St P S ρ A w T' S' F' a' w'
 | .exit k,a',w'=>x = .exit k∧St P S ρ A w T' S' F' a' w'
 | .ret,a',w'=>x = .ret∧St P S ρ A w T' S' F' a' w'
 | .panic chain,a',w'=>∃ y v,x = .pan y∧chain=[{ v,recovered:=false }]∧(F'=[]→a'.defers=[]) ∧ ∃ ρ' A',Inv P S' ρ' A' w'∧Step S ρ A w S' ρ' A' w'∧RepW P S' ρ' A' w' y v
 | .goto _,_,_=>False
 | .outgrown,_,_=>False
theorem St.step {S2:zA} {T2:List V} {F2:Dfs} {a:Act} {w2:World} (h:Step S ρ A w S' ρ' A' w') (hs:St P S' ρ' A' w' T2 S2 F2 a w2):St P S ρ A w T2 S2 F2 a w2:=by
 obtain ⟨ρ2,A2,h1,h2,h3,h4⟩:=hs
 exact ⟨ρ2,A2,h1,h.trans h2,h3,h4⟩
theorem ExPost.step {S2:zA} {T2:List V} {F2:Dfs} {x:Ex} (h:Step S ρ A w S' ρ' A' w') {e:Exit} {a:Act} {w2:World} (hs:ExPost P S' ρ' A' w' x T2 S2 F2 e a w2):ExPost P S ρ A w x T2 S2 F2 e a w2:=by
 cases e with
 | normal=>exact ⟨hs.1,hs.2.step h⟩
 | exit k=>exact ⟨hs.1,hs.2.step h⟩
 | ret=>exact ⟨hs.1,hs.2.step h⟩
 | panic c =>
  obtain ⟨y,v,h1,h2,h3,ρ2,A2,h4,h5,h6⟩:=hs
  exact ⟨y,v,h1,h2,h3,ρ2,A2,h4,h.trans h5,h6⟩
 | goto l=>exact hs
 | outgrown=>exact hs
def q0g (P:Program) (S:zA) (ρ:Nat→Nat) (A:Nat→Prop) (w:World) (o:Oper) (a:Act) (K:Act→World→Prop) (Q:Exit→Act→World→Prop):Rs→Prop
 | .val v S' _=>∀ ρ' A' w' u,Inv P S' ρ' A' w'→Step S ρ A w S' ρ' A' w'→RepV P S' ρ' A' w' v u→K (a.put o.dst u) w'
 | .skip S' _=>∀ ρ' A' w',Inv P S' ρ' A' w'→Step S ρ A w S' ρ' A' w'→K (a.put o.dst undef) w'
 | .enter f args=>∀ us:Array Value,qS P S ρ A w args us.toList→Calls P f us w fun
   | .returned v,w''=>K (a.put o.dst v) w''
   | .panicked chain,w''=>Q (.panic chain) a w''
   | .outgrown,_=>LetsOut Q
 | .dfr f args=>∀ d,zzq P S ρ A w f args d→K ({ a with defers:=d::a.defers }.put o.dst undef) w
 | .pan v=>∀ u,RepW P S ρ A w v u→Q (.panic [{ v:=u,recovered:=false }]) a w
theorem zee (hI:Inv P S ρ A w) {T:List V} {a:Act} (hT:RepT P S ρ A w T a.tmps.toList) {o:Oper} {r:Rs} (h:opV P S T o=some r) {K:Act→World→Prop} {Q:Exit→Act→World→Prop} (hK:q0g P S ρ A w o a K Q r):o.wp P a w K Q:=by
 have hs:=zv3 hI hT h
 unfold Oper.wp
 cases r with
 | val v S' c =>
  obtain ⟨u,w',ρ',A',h1,h2,h3,h4⟩:=hs
  rw [h1]
  exact hK ρ' A' w' u h2 h3 h4
 | skip S' c =>
  obtain ⟨w',ρ',A',h1,h2,h3⟩:=hs
  rw [h1]
  exact hK ρ' A' w' h2 h3
 | enter f args =>
  obtain ⟨us,h1,h2⟩:=hs
  rw [h1]
  exact hK us h2
 | dfr f args =>
  obtain ⟨d,fv,cap,us,h1,h2,h3,h4⟩:=hs
  rw [h1]
  exact hK d ⟨fv,cap,us,h2,h3,h4⟩
 | pan v =>
  obtain ⟨u,h1,h2⟩:=hs
  rw [h1]
  exact hK u h2
theorem zfb {w:World} {b:Nat} {c:Array Value} {e:TypeId} {f:Nat × Nat} (h:w.heap[b]? = some (.cells c e f)) (off n:Nat):(w.freeze ⟨b,off,none⟩ n).heap.size=w.heap.size∧(∀ b',b' ≠ b→(w.freeze ⟨b,off,none⟩ n).heap[b']? = w.heap[b']?)∧(∃ f',(w.freeze ⟨b,off,none⟩ n).heap[b]? = some (.cells c e f'))∧(w.freeze ⟨b,off,none⟩ n).os=w.os∧(w.freeze ⟨b,off,none⟩ n).tape=w.tape∧(w.freeze ⟨b,off,none⟩ n).output=w.output:=by
 unfold World.freeze
 split
 ·exact ⟨rfl,fun _ _=>rfl,⟨f,h⟩,rfl,rfl,rfl⟩
 ·refine ⟨by simp,fun b' hb=>?_,?_,rfl,rfl,rfl⟩
  ·simp only [Array.getElem?_modify]
   rw [if_neg (Ne.symm hb)]
  ·obtain ⟨lo,hi⟩:=f
   simp only [Array.getElem?_modify,if_true,h,Option.map_some]
   exact ⟨_,rfl⟩
theorem zhe (hI:Inv P S ρ A w) {T T':List V} {a:Act} (hT:RepT P S ρ A w T a.tmps.toList) {o:Oper} {r:List Oper} (h:wB P T o r=some T') :
  ∃ o2 r',r=o2::r'∧o.guard=none∧o2.guard=none ∧ ∃ (a1:Act) (w1:World),(∀ K Q,K a1 w1→o.wp P a w K Q) ∧ ∃ (a2:Act) (w2:World),(∀ K Q,K a2 w2→o2.wp P a1 w1 K Q)∧a2.defers=a.defers ∧
   ∃ A',Inv P S ρ A' w2∧Step S ρ A w S ρ A' w2∧RepT P S ρ A' w2 T' a2.tmps.toList:=by
 unfold wB at h
 cases r with
 | nil=>simp at h
 | cons o2 r' =>
  simp only at h
  split at h
  ·rename_i t len parts t1 t2 d d' hop hop2 hdst
   split at h
   ·rename_i hc
    obtain ⟨hg,hg2,rfl,rfl,rfl,hlt⟩:=hc
    split at h
    ·rename_i e hu
     split at h
     ·rename_i z k hue hz hk
      split at h
      ·rename_i hc
       simp only [Bool.and_eq_true,decide_eq_true_eq,ne_eq] at hc
       obtain ⟨⟨⟨c1,c2⟩,c3⟩,c4⟩:=hc
       split at h
       ·rename_i ds hds
        simp only [Option.some.injEq] at h; subst h
        obtain ⟨cells',hrun,h1,h2,h3⟩:=zfd (parts':=parts.map fun (i,x)=>(i,a.eval x)) hI hu hz hk c1 (by simpa [List.all_map] using c2) c3 (by simpa using c4) hds (by simpa using z1e hT parts.toList)
        have hnew:(w.alloc (.cells cells' e)).heap[w.heap.size]? = some (.cells cells' e (0,0)):=jG _
        obtain ⟨f1,f2,⟨f',f3⟩,f4,f5,f6⟩:=zfb hnew cells'.size 1
        obtain ⟨A',g1,g2,g3⟩:=zpy (f:=f') (w':=(w.alloc (.cells cells' e)).freeze ⟨w.heap.size,cells'.size,none⟩ 1) hI h1 h2 (by rw [f1]; simp) (fun b hb=>by rw [f2 b (Nat.ne_of_lt hb)]; exact kI _ hb) f3 f4 f5 f6
        have hl:=z1q hT
        simp only [Array.length_toList] at hl
        have hlt':=Nat.lt_of_lt_of_eq hlt hl.symm
        refine ⟨o2,r',rfl,by simpa using hg,by simpa using hg2,a.put (some d') (.slice (some ⟨w.heap.size,0,none⟩) len len),w.alloc (.cells cells' e),fun K Q hK=>?_,(a.put (some d') (.slice (some ⟨w.heap.size,0,none⟩) len len)).put o2.dst (.slice (some ⟨w.heap.size,0,none⟩) len len),_,fun K Q hK=>?_,by rw [put_defers,put_defers],A',g1,g2,?_⟩
        ·unfold Oper.wp
         have:(execOp a.eval o).run P w = .ok (.value (.slice (some ⟨w.heap.size,0,none⟩) len len)) (w.alloc (.cells cells' e)):=by
          unfold execOp
          simp only [hop]
          exact wV _ hrun
         rw [this,Oper.upon_value,hdst]
         exact hK
        ·unfold Oper.wp
         have hev:(a.put (some d') (.slice (some ⟨w.heap.size,0,none⟩) len len)).eval (.tmp d') = .slice (some ⟨w.heap.size,0,none⟩) len len:=by
          simp [Act.eval,Act.put,Array.getD_eq_getD_getElem?,hlt']
         have hsh:(w.alloc (.cells cells' e)).shape? w.heap.size=some (e,cells'.size):=by
          unfold World.shape?; rw [hnew]
         have:(execOp (a.put (some d') (.slice (some ⟨w.heap.size,0,none⟩) len len)).eval o2).run P (w.alloc (.cells cells' e)) = .ok (.value (.slice (some ⟨w.heap.size,0,none⟩) len len)) ((w.alloc (.cells cells' e)).freeze ⟨w.heap.size,cells'.size,none⟩ 1):=by
          unfold execOp
          simp only [hop2,hev]
          refine wV _ ?_
          simp only [convert,Sem.run_bind,run_underlying hu,run_underlying hue,Result.andThen_ok,beq_self_eq_true,markStringish]
          simp [shape,freeze,Sem.run,hsh]
         rw [this,Oper.upon_value]
         exact hK
        ·refine vC ?_ g3
         have:=zba (kC g2.amono g2.keepA g2.sle _ _ hT) d' .junk (.slice (some ⟨w.heap.size,0,none⟩) len len) trivial
         simpa [Act.put] using this
       ·cases h
      ·cases h
     ·cases h
    ·cases h
   ·cases h
  ·cases h
theorem zfk {F:Dfs} {ds:List Deferred} (h:DfOk P S ρ A w F ds):F=[]→ds=[]:=by rintro rfl; exact h
theorem z41 {C:Cfg} {call:jX} (hext:z5o C) (hrun:z95 C.P call) {ops:Array Oper} : ∀ {rest:List Oper} {k:Nat} {S S':zA} {T T':List V} {F F':Dfs} {x:Ex},seqV C call ops rest T S F=some (x,T',S',F')→ops.toList.drop k=rest →
  ∀ {ρ:Nat→Nat} {A:Nat→Prop} {w:World} {a:Act} {Q:Exit→Act→World→Prop},Inv C.P S ρ A w→RepT C.P S ρ A w T a.tmps.toList→DfOk C.P S ρ A w F a.defers→(∀ e a' w',ExPost C.P S ρ A w x T' S' F' e a' w'→Q e a' w') →
  wpOps C.P ops Q (List.range' k rest.length) a w
 | [],k,S,S',T,T',F,F',x,h,hk,ρ,A,w,a,Q,hI,hT,hF,hQ=>by
  simp only [seqV,Option.some.injEq,Prod.mk.injEq] at h
  obtain ⟨rfl,rfl,rfl,rfl⟩:=h
  exact hQ _ _ _ ⟨rfl,ρ,A,hI,.refl,hT,hF⟩
 | o::r,k,S,S',T,T',F,F',x,h,hk,ρ,A,w,a,Q,hI,hT,hF,hQ=>by
  have hget:ops[k]? = some o:=by
   have:(ops.toList.drop k)[0]? = some o:=by rw [hk]; rfl
   simpa using this
  have hk':ops.toList.drop (k + 1)=r:=by
   rw [← List.drop_drop,hk]; rfl
  rw [seqV] at h
  cases hlp:wB C.P T o r with
  | some T1 =>
   obtain ⟨o2,r',hr,hg1,hg2,a1,w1,k1,a2,w2,k2,hdf,A',g1,g2,g3⟩:=zhe hI hT hlp
   have hlen:r'.length < r.length + 1:=by rw [hr]; simp; omega
   rw [hr] at hlp hk' ⊢
   simp only [hr,hlp] at h
   have hget2:ops[k + 1]? = some o2:=by
    have:(ops.toList.drop (k + 1))[0]? = some o2:=by rw [hk']; rfl
    simpa using this
   have hk2:ops.toList.drop (k + 1 + 1)=r':=by
    rw [← List.drop_drop,hk']; rfl
   have hw1 : ∀ y,Region.wanted o y=true:=fun y=>by simp [Region.wanted,hg1]
   have hw2 : ∀ y,Region.wanted o2 y=true:=fun y=>by simp [Region.wanted,hg2]
   simp only [List.length_cons,List.range'_succ,wpOps,hget,hget2,hw1,hw2,if_true]
   refine .inl (k1 _ _ (.inl (k2 _ _ ?_)))
   exact z41 hext hrun h hk2 g1 g3 (by rw [hdf]; exact kB g2 hF) (fun e a' w' he=>hQ e a' w' (he.step g2))
  | none =>
  simp only [hlp] at h
  simp only [List.length_cons,List.range'_succ,wpOps,hget]
  cases hw:zW ops T o with
  | none=>simp [hw] at h
  | some b =>
   rw [z2w hw hT]
   simp only [hw] at h
   cases b with
   | false =>
    simp only [Bool.false_eq_true,if_false]
    exact z41 hext hrun h hk' hI (vC hT vJ) (by rw [put_defers]; exact hF) hQ
   | true =>
    simp only [if_true]
    refine .inl ?_
    cases ho:opV C.P S T o with
    | none=>simp [ho] at h
    | some rs =>
     refine zee hI hT ho ?_
     cases rs with
     | val v S1 c =>
      simp only [ho] at h
      intro ρ1 A1 w1 u h1 h2 h3
      exact z41 hext hrun h hk' h1 (vC (kC h2.amono h2.keepA h2.sle _ _ hT) h3) (by rw [put_defers]; exact kB h2 hF) (fun e a' w' he=>hQ e a' w' (he.step h2))
     | skip S1 c =>
      simp only [ho] at h
      intro ρ1 A1 w1 h1 h2
      exact z41 hext hrun h hk' h1 (vC (kC h2.amono h2.keepA h2.sle _ _ hT) vJ) (by rw [put_defers]; exact kB h2 hF) (fun e a' w' he=>hQ e a' w' (he.step h2))
     | enter f args =>
      simp only [ho] at h
      intro us hus
      cases hc:jO C call f args S with
      | none=>simp [hc] at h
      | some q =>
       obtain ⟨out,S1,c⟩:=q
       refine (zau hext hrun hc hI hus).mono fun e w1 he=>?_
       cases e with
       | returned v =>
        obtain ⟨y,rfl,ρ1,A1,h1,h2,h3⟩:=he
        simp only [hc] at h
        exact z41 hext hrun h hk' h1 (vC (kC h2.amono h2.keepA h2.sle _ _ hT) h3) (by rw [put_defers]; exact kB h2 hF) (fun e a' w' he=>hQ e a' w' (he.step h2))
       | panicked chain =>
        obtain ⟨y,v,rfl,rfl,ρ1,A1,h1,h2,h3⟩:=he
        simp only [hc,Option.some.injEq,Prod.mk.injEq] at h
        obtain ⟨rfl,rfl,rfl,rfl⟩:=h
        exact hQ _ _ _ ⟨y,v,rfl,rfl,zfk hF,ρ1,A1,h1,h2,h3⟩
       | outgrown=>exact he.elim
     | dfr f args =>
      simp only [ho] at h
      intro d hd
      refine z41 hext hrun h hk' hI (vC (a:={ a with defers:=d::a.defers }) hT vJ) ?_ hQ
      rw [put_defers]
      exact ⟨d,a.defers,rfl,hd,hF⟩
     | pan v =>
      simp only [ho,Option.some.injEq,Prod.mk.injEq] at h
      obtain ⟨rfl,rfl,rfl,rfl⟩:=h
      intro u hu
      exact hQ _ _ _ ⟨v,u,rfl,rfl,zfk hF,ρ,A,hI,.refl,hu⟩
termination_by rest=>rest.length
decreasing_by all_goals first | exact hlen | (simp_wf; omega) | (simp_wf; done)
end
theorem z4a {S:zA} {id:Nat} {o:Ob} (ob:Ob) (h:S[id]? = some o):(S ++ [ob])[id]? = some o:=by
 have:id < S.length:=by
  rcases Nat.lt_or_ge id S.length with h' | h'
  ·exact h'
  ·simp [List.getElem?_eq_none h'] at h
 rw [List.getElem?_append_left this]; exact h
section
variable {P:Program} {S:zA}
theorem zik {t:TypeId} {x y:V} (ob:Ob) (h:kN P S t x=some y):kN P (S ++ [ob]) t x=some y:=by
 unfold kN at h ⊢
 split at h
 ·rename_i id ix off
  cases ho:S[id]? with
  | none=>simp [ho] at h
  | some o=>simp only [ho] at h; simp only [z4a ob ho]; exact h
 ·exact h
 ·cases h
theorem zac {x:V} {y:List V} (ob:Ob) (h:jV S x=some y):jV (S ++ [ob]) x=some y:=by
 unfold jV at h ⊢
 split at h
 ·exact h
 ·exact h
 ·rename_i id off len
  cases ho:S[id]? with
  | none=>simp [ho] at h
  | some o=>simp only [ho] at h; simp only [z4a ob ho]; exact h
 ·rename_i id ix off len
  cases ho:S[id]? with
  | none=>simp [ho] at h
  | some o=>simp only [ho] at h; simp only [z4a ob ho]; exact h
 ·exact h
 ·cases h
theorem z6r {x:V} {y:List (D × V)} (ob:Ob) (h:kH S x=some y):kH (S ++ [ob]) x=some y:=by
 unfold kH at h ⊢
 split at h
 ·exact h
 ·exact h
 ·rename_i id
  cases ho:S[id]? with
  | none=>simp [ho] at h
  | some o=>simp only [ho] at h; simp only [z4a ob ho]; exact h
 ·cases h
theorem zdu {t:TypeId} {x k y:V} {ok:Bool} (ob:Ob) (h:wF P S t x k ok=some y):wF P (S ++ [ob]) t x k ok=some y:=by
 unfold wF at h ⊢
 split at h
 ·split at h
  ·rename_i hk
   rw [if_pos hk]
   cases he:kH S x with
   | none=>simp [he] at h
   | some es=>simp only [he] at h; simp only [z6r ob he]; exact h
  ·cases h
 ·cases h
theorem zfj {id:Nat} {e:TypeId} (ob:Ob) (h:rowT S id e=true):rowT (S ++ [ob]) id e=true:=by
 unfold rowT at h ⊢
 cases ho:S[id]? with
 | none=>simp [ho] at h
 | some o=>simp only [ho] at h; simp only [z4a ob ho]; exact h
theorem zn8 {id:Nat} (ob:Ob) (h:rowB S id=true):rowB (S ++ [ob]) id=true:=by
 unfold rowB at h ⊢
 cases ho:S[id]? with
 | none=>simp [ho] at h
 | some o=>simp only [ho] at h; simp only [z4a ob ho]; exact h
theorem z99 {t:TypeId} {x ix y:V} (ob:Ob) (h:zM P S t x ix=some y):zM P (S ++ [ob]) t x ix=some y:=by
 unfold zM at h ⊢
 split at h
 ·cases h
 ·rename_i i hi
  split at h
  ·rename_i e hu
   split at h
   ·split at h
    ·rename_i hc
     have hc':=hc
     rw [if_pos ⟨hc.1,zfj ob hc.2.1,hc.2.2⟩]; exact h
    ·cases h
   ·split at h
    ·rename_i hc
     rw [if_pos ⟨hc.1,zn8 ob hc.2.1,hc.2.2⟩]; exact h
    ·cases h
   ·exact h
   ·exact h
   ·cases h
  ·exact h
  ·cases h
theorem z55 {n:Nat} {e:TypeId} {x y:V} {lo hi:Option V} (ob:Ob) (h:wM P S n e x lo hi=some y):wM P (S ++ [ob]) n e x lo hi=some y:=by
 unfold wM at h ⊢
 split at h
 ·rename_i hc
  rw [if_pos hc]
  cases h1:kF n hi n with
  | none=>simp [h1] at h
  | some hh =>
   simp only [h1] at h ⊢
   cases h2:kF hh lo 0 with
   | none=>simp [h2] at h
   | some l =>
    simp only [h2] at h ⊢
    split at h
    ·rename_i id ix off
     cases ho:S[id]? with
     | none=>simp [ho] at h
     | some o=>simp only [ho] at h; simp only [z4a ob ho]; exact h
    ·exact h
    ·cases h
 ·cases h
theorem zhx {t:TypeId} {x y:V} {lo hi:Option V} (ob:Ob) (h:vF P S t x lo hi=some y):vF P (S ++ [ob]) t x lo hi=some y:=by
 unfold vF at h ⊢
 split at h
 ·exact h
 ·rename_i e hu
  split at h
  ·exact h
  ·exact h
  ·rename_i id off len
   cases h1:kF len hi len with
   | none=>simp [h1] at h
   | some hh =>
    simp only [h1] at h ⊢
    cases h2:kF hh lo 0 with
    | none=>simp [h2] at h
    | some l =>
     simp only [h2] at h ⊢
     split at h
     ·rename_i hc
      simp only [Bool.and_eq_true] at hc
      rw [if_pos (by simp [zfj ob hc.1,hc.2])]; exact h
     ·cases h
  ·cases h
 ·split at h
  ·exact z55 ob h
  ·cases h
 ·exact z55 ob h
 ·cases h
theorem zob {e tx:TypeId} {x:V} {ys:List V} (ob:Ob) (h:srcV P S e tx x=some ys):srcV P (S ++ [ob]) e tx x=some ys:=by
 unfold srcV at h ⊢
 split at h
 ·exact h
 ·rename_i x' hne
  split at h
  ·split at h
   ·rename_i ys' hy
    rw [zac ob hy]
    simpa using h
   ·cases h
  ·exact h
  ·cases h
def z60 (f:zA→Option Rs) (S:zA):Prop :=
 (∀ v S',f S=some (.val v S' 0)→S'=S ∧ ∀ S2,f S2=some (.val v S2 0)) ∧
 (∀ v S',f S=some (.val v S' 1)→S'=S ∧ ∀ ob,f (S ++ [ob])=some (.val v (S ++ [ob]) 1)) ∧
 (∀ v S',f S=some (.val v S' 2) → ∃ ob,S'=S ++ [ob]) ∧
 (∀ S' c,f S=some (.skip S' c)→c=3) ∧
 (∀ g as,f S=some (.enter g as) → ∀ S2,f S2=some (.enter g as))
theorem zV (f:zA→Option Rs) (h:f S=none):z60 f S:=by
 refine ⟨?_,?_,?_,?_,?_⟩ <;> intros <;> simp_all
theorem wS {f:zA→Option V} (h : ∀ S1 S2,f S1=f S2):z60 (fun S=>(f S).map fun v=>.val v S 0) S:=by
 refine ⟨fun v S' hv=>?_,fun v S' hv=>?_,fun v S' hv=>?_,fun S' c hv=>?_,fun g as hv=>?_⟩
 ·obtain ⟨y,hy,he⟩:=Option.map_eq_some_iff.1 hv
  simp only [Rs.val.injEq,and_true] at he
  obtain ⟨rfl,rfl⟩:=he
  exact ⟨rfl,fun S2=>by simp [h S2 S,hy]⟩
 all_goals (obtain ⟨y,hy,he⟩:=Option.map_eq_some_iff.1 hv; simp at he)
theorem z37 {f:zA→Option V} (h : ∀ ob v,f S=some v→f (S ++ [ob])=some v):z60 (fun S=>(f S).map fun v=>.val v S 1) S:=by
 refine ⟨fun v S' hv=>?_,fun v S' hv=>?_,fun v S' hv=>?_,fun S' c hv=>?_,fun g as hv=>?_⟩
 ·obtain ⟨y,hy,he⟩:=Option.map_eq_some_iff.1 hv; simp at he
 ·obtain ⟨y,hy,he⟩:=Option.map_eq_some_iff.1 hv
  simp only [Rs.val.injEq,and_true] at he
  obtain ⟨rfl,rfl⟩:=he
  exact ⟨rfl,fun ob=>by simp [h ob _ hy]⟩
 all_goals (obtain ⟨y,hy,he⟩:=Option.map_eq_some_iff.1 hv; simp at he)
theorem z43 {f:zA→Option zA}:z60 (fun S=>(f S).map fun S'=>.skip S' 3) S:=by
 refine ⟨fun v S' hv=>?_,fun v S' hv=>?_,fun v S' hv=>?_,fun S' c hv=>?_,fun g as hv=>?_⟩
 all_goals (obtain ⟨y,hy,he⟩:=Option.map_eq_some_iff.1 hv; simp_all)
theorem za0 {f:zA→Option (V × zA)}:z60 (fun S=>(f S).map fun r=>.val r.1 r.2 3) S:=by
 refine ⟨fun v S' hv=>?_,fun v S' hv=>?_,fun v S' hv=>?_,fun S' c hv=>?_,fun g as hv=>?_⟩
 all_goals (obtain ⟨y,hy,he⟩:=Option.map_eq_some_iff.1 hv; simp_all)
theorem z1w {r:Option Rs} (h : ∀ v S' c,r ≠ some (.val v S' c)) (h2 : ∀ S' c,r ≠ some (.skip S' c)):z60 (fun _=>r) S:=by
 refine ⟨fun v S' hv=>absurd hv (h _ _ _),fun v S' hv=>absurd hv (h _ _ _),fun v S' hv=>absurd hv (h _ _ _),fun S' c hv=>absurd hv (h2 _ _),fun g as hv _=>hv⟩
theorem z0j {v:V}:z60 (fun S=>some (.val v S 0)) S:=by
 refine ⟨fun v S' hv=>?_,fun v S' hv=>?_,fun v S' hv=>?_,fun S' c hv=>?_,fun g as hv=>?_⟩ <;> simp_all
theorem z7i {f:zA→V} {ob:Ob}:z60 (fun S=>some (.val (f S) (S ++ [ob]) 2)) S:=by
 refine ⟨fun v S' hv=>?_,fun v S' hv=>?_,fun v S' hv=>?_,fun S' c hv=>?_,fun g as hv=>?_⟩
 all_goals simp at hv
 exact ⟨ob,hv.2.symm⟩
theorem z2l {src dst:TypeId} {x y:V} {c:Nat} (h:qF P S src dst x=some (y,c)):(c=0 ∧ ∀ S2,qF P S2 src dst x=some (y,0)) ∨ (c=1 ∧ ∀ ob,qF P (S ++ [ob]) src dst x=some (y,1)):=by
 have h0:=h
 unfold qF at h
 split at h
 ·simp only [Option.some.injEq,Prod.mk.injEq] at h
  obtain ⟨rfl,rfl⟩:=h
  refine .inl ⟨rfl,fun S2=>?_⟩
  rw [← h0]; unfold qF; simp_all
 ·simp only [Option.some.injEq,Prod.mk.injEq] at h
  obtain ⟨rfl,rfl⟩:=h
  refine .inl ⟨rfl,fun S2=>?_⟩
  rw [← h0]; unfold qF; simp_all
 ·split at h
  ·split at h
   ·simp only [Option.some.injEq,Prod.mk.injEq] at h
    obtain ⟨rfl,rfl⟩:=h
    refine .inl ⟨rfl,fun S2=>?_⟩
    rw [← h0]; unfold qF; simp_all
   ·cases h
  ·cases h
 ·split at h
  ·split at h
   ·cases h
   ·rename_i x' hns
    split at h
    ·rename_i ys hy
     obtain ⟨s,hs,he⟩:=Option.map_eq_some_iff.1 h
     simp only [Prod.mk.injEq] at he
     obtain ⟨rfl,rfl⟩:=he
     refine .inr ⟨rfl,fun ob=>?_⟩
     have:=zac ob hy
     rw [← h0]; unfold qF; simp_all
    ·cases h
  ·cases h
 ·cases h
theorem z3q {t tx:TypeId} {s x y:V} {S':zA} {c:Nat} (h:qJ P S t tx s x=some (y,S',c)):(c=1∧S'=S ∧ ∀ ob,qJ P (S ++ [ob]) t tx s x=some (y,S ++ [ob],1)) ∨ (c=2 ∧ ∃ ob,S'=S ++ [ob]) ∨ c=3:=by
 have h0:=h
 unfold qJ at h
 split at h
 ·rename_i e hu
  split at h
  ·cases h
  ·rename_i hsrc
   have ha:=fun ob=>zob ob hsrc
   split at h
   ·simp only [Option.some.injEq,Prod.mk.injEq] at h
    obtain ⟨rfl,rfl,rfl⟩:=h
    exact .inl ⟨rfl,rfl,fun ob=>by unfold qJ; simp [hu,ha ob]⟩
   ·simp only [Option.some.injEq,Prod.mk.injEq] at h
    obtain ⟨rfl,rfl,rfl⟩:=h
    exact .inl ⟨rfl,rfl,fun ob=>by unfold qJ; simp [hu,ha ob]⟩
   ·simp only [Option.some.injEq,Prod.mk.injEq] at h
    obtain ⟨rfl,rfl,rfl⟩:=h
    exact .inl ⟨rfl,rfl,fun ob=>by unfold qJ; simp [hu,ha ob]⟩
   ·cases h
  ·split at h
   ·split at h
    ·split at h
     ·simp only [Option.some.injEq,Prod.mk.injEq] at h
      obtain ⟨rfl,rfl,rfl⟩:=h
      exact .inr (.inl ⟨rfl,_,rfl⟩)
     ·cases h
    ·split at h
     ·split at h
      ·simp only [Option.some.injEq,Prod.mk.injEq] at h
       obtain ⟨rfl,rfl,rfl⟩:=h
       exact .inr (.inr rfl)
      ·cases h
     ·cases h
    ·cases h
   ·cases h
 ·cases h
theorem z9g {t:TypeId} {l c y:V} {S':zA} (h:jL P S t l c=some (y,S')) : ∃ ob,S'=S ++ [ob]:=by
 unfold jL at h
 split at h
 ·split at h
  ·split at h
   ·split at h
    ·simp only [Option.some.injEq,Prod.mk.injEq] at h
     obtain ⟨rfl,rfl⟩:=h
     exact ⟨_,rfl⟩
    ·cases h
   ·cases h
  ·cases h
 ·cases h
theorem zcf (b:Builtin) (ts:List TypeId) (xs:List V):z60 (fun S=>zI P S b ts xs) S:=by
 unfold zI
 split
 ·rename_i t ts' x
  cases hu:P.underlying t with
  | none=>exact zV _ rfl
  | some td =>
   cases td <;> simp only <;> first | exact zV _ rfl | exact z0j | skip
   ·split <;> first | exact zV _ rfl | exact z0j
   ·split <;> first | exact zV _ rfl | exact z0j
   ·cases he:kH S x with
    | none=>exact zV _ (by simp [he])
    | some es =>
     refine ⟨fun v S' hv=>by simp [he] at hv,fun v S' hv=>?_,fun v S' hv=>by simp [he] at hv,fun S' c hv=>by simp [he] at hv,fun g as hv=>by simp [he] at hv⟩
     simp only [he,Option.some.injEq,Rs.val.injEq,and_true] at hv
     obtain ⟨rfl,rfl⟩:=hv
     exact ⟨rfl,fun ob=>by simp [z6r ob he]⟩
 ·rename_i t tx s x
  refine ⟨fun v S' hv=>?_,fun v S' hv=>?_,fun v S' hv=>?_,fun S' c hv=>?_,fun g as hv=>?_⟩ <;> obtain ⟨⟨y,S1,c1⟩,hy,he⟩:=Option.map_eq_some_iff.1 hv <;> simp only [Rs.val.injEq,reduceCtorEq] at he
  ·obtain ⟨rfl,rfl,rfl⟩:=he
   rcases z3q hy with ⟨h,_⟩ | ⟨h,_⟩ | h <;> omega
  ·obtain ⟨rfl,rfl,rfl⟩:=he
   rcases z3q hy with ⟨_,h1,h2⟩ | ⟨h,_⟩ | h
   ·exact ⟨h1,fun ob=>by simp [h2 ob]⟩
   ·omega
   ·omega
  ·obtain ⟨rfl,rfl,rfl⟩:=he
   rcases z3q hy with ⟨h,_⟩ | ⟨_,h⟩ | h
   ·omega
   ·exact h
   ·omega
 ·exact za0
 ·rename_i t ts' m k
  refine ⟨fun v S' hv=>?_,fun v S' hv=>?_,fun v S' hv=>?_,fun S' c hv=>?_,fun g as hv=>?_⟩ <;> obtain ⟨y,hy,he⟩:=Option.map_eq_some_iff.1 hv <;> simp at he
 ·exact wS (fun _ _=>rfl)
 ·exact wS (fun _ _=>rfl)
 ·exact zV _ rfl
theorem zdv {v:V} {r:Rs} (h:z1p S v=some r) : ∃ x ob,r = .val x (S ++ [ob]) 2:=by
 unfold z1p at h
 split at h
 ·split at h
  ·simp only [Option.some.injEq] at h; exact ⟨_,_,h.symm⟩
  ·cases h
 ·cases h
theorem zi8 {v:V} {r:Rs} (h:z5b S v=some r) : ∃ x S',r = .val x S' 3:=by
 unfold z5b at h
 split at h
 ·split at h
  ·split at h
   ·split at h
    ·cases h
    ·split at h
     ·simp only [Option.some.injEq] at h; exact ⟨_,_,h.symm⟩
     ·split at h
      ·simp only [Option.some.injEq] at h; exact ⟨_,_,h.symm⟩
      ·cases h
   ·cases h
  ·cases h
 ·cases h
theorem zem (v:V):z60 (fun S=>z1p S v) S:=by
 refine ⟨fun x S' hv=>?_,fun x S' hv=>?_,fun x S' hv=>?_,fun S' c hv=>?_,fun g as hv=>?_⟩ <;> obtain ⟨y,ob,he⟩:=zdv hv <;> simp at he
 exact ⟨ob,he.2⟩
theorem zi5 (v:V):z60 (fun S=>z5b S v) S:=by
 refine ⟨fun x S' hv=>?_,fun x S' hv=>?_,fun x S' hv=>?_,fun S' c hv=>?_,fun g as hv=>?_⟩ <;> obtain ⟨y,S2,he⟩:=zi8 hv <;> simp at he
theorem zeb {v:V} {r:Rs} (h:z1y S v=some r) : ∃ x S',r = .val x S' 3:=by
 unfold z1y at h
 split at h
 ·split at h
  ·split at h
   ·split at h
    ·split at h
     ·split at h
      ·simp only [Option.some.injEq] at h; exact ⟨_,_,h.symm⟩
      ·cases h
     ·cases h
    ·cases h
   ·cases h
  ·cases h
 ·cases h
theorem ze3 (v:V):z60 (fun S=>z1y S v) S:=by
 refine ⟨fun x S' hv=>?_,fun x S' hv=>?_,fun x S' hv=>?_,fun S' c hv=>?_,fun g as hv=>?_⟩ <;> obtain ⟨y,S2,he⟩:=zeb hv <;> simp at he
theorem zu5 (T:List V) (o:Oper):z60 (fun S=>opV P S T o) S:=by
 unfold opV
 split
 ·exact z0j
 ·exact z0j
 ·split <;> first | exact z0j | exact zV _ rfl
 ·split
  ·split
   ·exact z7i
   ·exact zV _ rfl
  ·exact zV _ rfl
 ·split
  ·exact z7i
  ·exact zV _ rfl
 ·exact wS (fun _ _=>rfl)
 ·split
  ·split
   ·split
    ·split
     ·exact z0j
     ·exact z7i
    ·exact zV _ rfl
   ·exact zV _ rfl
  ·exact zV _ rfl
 ·exact z37 (fun ob v h=>zik ob h)
 ·exact z43
 ·split <;> first | exact z0j | exact zV _ rfl
 ·exact wS (fun _ _=>rfl)
 ·exact wS (fun _ _=>rfl)
 ·rename_i src dst x hop
  refine ⟨fun v S' hv=>?_,fun v S' hv=>?_,fun v S' hv=>?_,fun S' c hv=>?_,fun g as hv=>?_⟩ <;> obtain ⟨⟨y,c1⟩,hy,he⟩:=Option.map_eq_some_iff.1 hv <;> simp only [Rs.val.injEq,reduceCtorEq] at he
  ·obtain ⟨rfl,rfl,rfl⟩:=he
   rcases z2l hy with ⟨_,h⟩ | ⟨h,_⟩
   ·exact ⟨rfl,fun S2=>by simp [h S2]⟩
   ·omega
  ·obtain ⟨rfl,rfl,rfl⟩:=he
   rcases z2l hy with ⟨h,_⟩ | ⟨_,h⟩
   ·omega
   ·exact ⟨rfl,fun ob=>by simp [h ob]⟩
  ·obtain ⟨rfl,rfl,rfl⟩:=he
   rcases z2l hy with ⟨h,_⟩ | ⟨h,_⟩ <;> omega
 ·split
  ·exact zV _ rfl
  ·split
   ·exact z0j
   ·exact zV _ rfl
  ·exact zV _ rfl
 ·split
  ·exact z0j
  ·exact zV _ rfl
 ·split
  ·exact z7i
  ·exact zV _ rfl
 ·refine ⟨fun v S' hv=>?_,fun v S' hv=>?_,fun v S' hv=>?_,fun S' c hv=>?_,fun g as hv=>?_⟩ <;> obtain ⟨⟨y,S1⟩,hy,he⟩:=Option.map_eq_some_iff.1 hv <;> simp at he
  obtain ⟨rfl,rfl⟩:=he
  exact z9g hy
 ·exact z37 (fun ob v h=>zhx ob h)
 ·exact wS (fun _ _=>rfl)
 ·exact z37 (fun ob v h=>z99 ob h)
 ·exact wS (fun _ _=>rfl)
 ·exact wS (fun _ _=>rfl)
 ·exact z37 (fun ob v h=>zdu ob h)
 ·exact z43
 ·exact za0
 ·exact z43
 ·split
  ·split
   ·exact z7i
   ·exact zV _ rfl
  ·exact zem _
  ·exact zV _ rfl
 ·split
  ·rename_i id hit
   refine ⟨fun v S' hv=>?_,fun v S' hv=>?_,fun v S' hv=>?_,fun S' c hv=>?_,fun g as hv=>?_⟩
   all_goals
    cases ho:S[id]? with
    | none=>simp [ho] at hv
    | some ob=>cases ob <;> simp only [ho,reduceCtorEq] at hv <;> (split at hv <;> simp at hv)
  ·exact zV _ rfl
 ·exact zi5 _
 ·exact ze3 _
 ·split
  ·split
   ·exact z0j
   ·exact zV _ rfl
  ·exact zV _ rfl
 ·split
  ·exact zcf _ _ _
  ·split
   ·split
    ·exact z1w (by simp) (by simp)
    ·exact zV _ rfl
   ·split
    ·exact z1w (by simp) (by simp)
    ·exact zV _ rfl
   ·exact zV _ rfl
  ·exact zV _ rfl
 ·split
  ·split
   ·split
    ·exact z1w (by simp) (by simp)
    ·exact zV _ rfl
   ·exact zV _ rfl
  ·exact zV _ rfl
 ·split <;> first | exact z1w (by simp) (by simp) | exact zV _ rfl
 ·exact zV _ rfl
end
theorem z1h {S:zA} {id:Nat} {o:Ob} (h:S[id]? = some o):id < S.length:=by
 rcases Nat.lt_or_ge id S.length with h' | h'
 ·exact h'
 ·simp [List.getElem?_eq_none h'] at h
theorem qV {S:zA} {id j:Nat} {o:Ob} (ob:Ob) (hS:S[id]? = some .hole) (h:S[j]? = some o) (hne:o ≠ .hole):(S.set id ob)[j]? = some o:=by
 have:id ≠ j:=by rintro rfl; rw [hS] at h; cases h; exact hne rfl
 rw [List.getElem?_set_ne this]; exact h
theorem vQ {S:zA} {id j:Nat} {o:Ob} (ob x:Ob) (hS:S[id]? = some .hole) (h:S[j]? = some o) (hne:o ≠ .hole):(S.set id ob).set j x=(S.set j x).set id ob∧(S.set j x)[id]? = some .hole:=by
 have:id ≠ j:=by rintro rfl; rw [hS] at h; cases h; exact hne rfl
 exact ⟨List.set_comm _ _ this,by rw [List.getElem?_set_ne (Ne.symm this)]; exact hS⟩
theorem z0f {S:zA} {id:Nat} (ob x:Ob) (hS:S[id]? = some .hole):(S.set id ob) ++ [x]=(S ++ [x]).set id ob∧(S ++ [x])[id]? = some .hole:=by
 have:=z1h hS
 exact ⟨by rw [List.set_append_left _ _ this],by rw [List.getElem?_append_left this]; exact hS⟩
section
variable {P:Program} {S:zA} {id:Nat}
theorem zah {t:TypeId} {x y:V} (ob:Ob) (hS:S[id]? = some .hole) (h:kN P S t x=some y):kN P (S.set id ob) t x=some y:=by
 unfold kN at h ⊢
 split at h
 ·rename_i j ix off
  cases ho:S[j]? with
  | none=>simp [ho] at h
  | some o =>
   by_cases hne:o = .hole
   ·subst hne; simp [ho] at h
   ·simp only [ho] at h; simp only [qV ob hS ho hne]; exact h
 ·exact h
 ·cases h
theorem z86 {x:V} {y:List V} (ob:Ob) (hS:S[id]? = some .hole) (h:jV S x=some y):jV (S.set id ob) x=some y:=by
 unfold jV at h ⊢
 split at h
 ·exact h
 ·exact h
 ·rename_i j off len
  cases ho:S[j]? with
  | none=>simp [ho] at h
  | some o =>
   by_cases hne:o = .hole
   ·subst hne; simp [ho] at h
   ·simp only [ho] at h; simp only [qV ob hS ho hne]; exact h
 ·rename_i j ix off len
  cases ho:S[j]? with
  | none=>simp [ho] at h
  | some o =>
   by_cases hne:o = .hole
   ·subst hne; simp [ho] at h
   ·simp only [ho] at h; simp only [qV ob hS ho hne]; exact h
 ·exact h
 ·cases h
theorem z4v {x:V} {y:List (D × V)} (ob:Ob) (hS:S[id]? = some .hole) (h:kH S x=some y):kH (S.set id ob) x=some y:=by
 unfold kH at h ⊢
 split at h
 ·exact h
 ·exact h
 ·rename_i j
  cases ho:S[j]? with
  | none=>simp [ho] at h
  | some o =>
   by_cases hne:o = .hole
   ·subst hne; simp [ho] at h
   ·simp only [ho] at h; simp only [qV ob hS ho hne]; exact h
 ·cases h
theorem zdi {t:TypeId} {x k y:V} {ok:Bool} (ob:Ob) (hS:S[id]? = some .hole) (h:wF P S t x k ok=some y):wF P (S.set id ob) t x k ok=some y:=by
 unfold wF at h ⊢
 split at h
 ·split at h
  ·rename_i hk
   rw [if_pos hk]
   cases he:kH S x with
   | none=>simp [he] at h
   | some es=>simp only [he] at h; simp only [z4v ob hS he]; exact h
  ·cases h
 ·cases h
theorem zbx {j:Nat} {e:TypeId} (ob:Ob) (hS:S[id]? = some .hole) (h:rowT S j e=true):rowT (S.set id ob) j e=true:=by
 unfold rowT at h ⊢
 cases ho:S[j]? with
 | none=>simp [ho] at h
 | some o =>
  by_cases hne:o = .hole
  ·subst hne; simp [ho] at h
  ·simp only [ho] at h; simp only [qV ob hS ho hne]; exact h
theorem zlq {j:Nat} (ob:Ob) (hS:S[id]? = some .hole) (h:rowB S j=true):rowB (S.set id ob) j=true:=by
 unfold rowB at h ⊢
 cases ho:S[j]? with
 | none=>simp [ho] at h
 | some o =>
  by_cases hne:o = .hole
  ·subst hne; simp [ho] at h
  ·simp only [ho] at h; simp only [qV ob hS ho hne]; exact h
theorem z89 {t:TypeId} {x ix y:V} (ob:Ob) (hS:S[id]? = some .hole) (h:zM P S t x ix=some y):zM P (S.set id ob) t x ix=some y:=by
 unfold zM at h ⊢
 split at h
 ·cases h
 ·split at h
  ·split at h
   ·split at h
    ·rename_i hc
     rw [if_pos ⟨hc.1,zbx ob hS hc.2.1,hc.2.2⟩]; exact h
    ·cases h
   ·split at h
    ·rename_i hc
     rw [if_pos ⟨hc.1,zlq ob hS hc.2.1,hc.2.2⟩]; exact h
    ·cases h
   ·exact h
   ·exact h
   ·cases h
  ·exact h
  ·cases h
theorem z3l {n:Nat} {e:TypeId} {x y:V} {lo hi:Option V} (ob:Ob) (hS:S[id]? = some .hole) (h:wM P S n e x lo hi=some y):wM P (S.set id ob) n e x lo hi=some y:=by
 unfold wM at h ⊢
 split at h
 ·rename_i hc
  rw [if_pos hc]
  cases h1:kF n hi n with
  | none=>simp [h1] at h
  | some hh =>
   simp only [h1] at h ⊢
   cases h2:kF hh lo 0 with
   | none=>simp [h2] at h
   | some l =>
    simp only [h2] at h ⊢
    split at h
    ·rename_i j ix off
     cases ho:S[j]? with
     | none=>simp [ho] at h
     | some o =>
      by_cases hne:o = .hole
      ·subst hne; simp [ho] at h
      ·simp only [ho] at h; simp only [qV ob hS ho hne]; exact h
    ·exact h
    ·cases h
 ·cases h
theorem ze2 {t:TypeId} {x y:V} {lo hi:Option V} (ob:Ob) (hS:S[id]? = some .hole) (h:vF P S t x lo hi=some y):vF P (S.set id ob) t x lo hi=some y:=by
 unfold vF at h ⊢
 split at h
 ·exact h
 ·split at h
  ·exact h
  ·exact h
  ·rename_i j off len
   cases h1:kF len hi len with
   | none=>simp [h1] at h
   | some hh =>
    simp only [h1] at h ⊢
    cases h2:kF hh lo 0 with
    | none=>simp [h2] at h
    | some l =>
     simp only [h2] at h ⊢
     split at h
     ·rename_i hc
      simp only [Bool.and_eq_true] at hc
      rw [if_pos (by simp [zbx ob hS hc.1,hc.2])]; exact h
     ·cases h
  ·cases h
 ·split at h
  ·exact z3l ob hS h
  ·cases h
 ·exact z3l ob hS h
 ·cases h
theorem z7y {e tx:TypeId} {x:V} {ys:List V} (ob:Ob) (hS:S[id]? = some .hole) (h:srcV P S e tx x=some ys):srcV P (S.set id ob) e tx x=some ys:=by
 unfold srcV at h ⊢
 split at h
 ·exact h
 ·split at h
  ·split at h
   ·rename_i ys' hy
    rw [z86 ob hS hy]
    simpa using h
   ·cases h
  ·exact h
  ·cases h
theorem ze9 {t:TypeId} {a v:V} {S':zA} (ob:Ob) (hS:S[id]? = some .hole) (h:z0e P S t a v=some S'):z0e P (S.set id ob) t a v=some (S'.set id ob)∧S'[id]? = some .hole:=by
 unfold z0e at h ⊢
 split at h
 ·rename_i j ix off
  cases ho:S[j]? with
  | none=>simp [ho] at h
  | some o =>
   by_cases hne:o = .hole
   ·subst hne; simp [ho] at h
   ·simp only [ho] at h; simp only [qV ob hS ho hne]
    cases o with
    | row xs e =>
     simp only at h ⊢
     split at h
     ·rename_i x hx
      try simp only [hx]
      split at h
      ·rename_i hf
       rw [if_pos hf]
       split at h
       ·rename_i hc
        rw [if_pos hc]
        simp only [Option.some.injEq] at h; subst h
        obtain ⟨g1,g2⟩:=vQ ob (.row (xs.set ix v) e) hS ho hne
        exact ⟨by rw [g1],g2⟩
       ·rename_i hc
        rw [if_neg hc]
        split at h
        ·rename_i hc2
         rw [if_pos hc2]
         simp only [Option.some.injEq] at h; subst h
         obtain ⟨g1,g2⟩:=vQ ob (.row (xs.set ix (.agg (x.cells.take off ++ v.cells ++ x.cells.drop (off + v.cells.length)))) e) hS ho hne
         exact ⟨by rw [g1],g2⟩
        ·cases h
      ·cases h
     ·cases h
    | _=>simp at h
 ·cases h
theorem zd8 {t tx:TypeId} {s x y:V} {S':zA} {c:Nat} (ob:Ob) (hS:S[id]? = some .hole) (h:qJ P S t tx s x=some (y,S',c)):qJ P (S.set id ob) t tx s x=some (y,S'.set id ob,c)∧S'[id]? = some .hole:=by
 unfold qJ at h ⊢
 split at h
 ·rename_i e hu
  split at h
  ·cases h
  ·rename_i hsrc
   simp only [z7y ob hS hsrc]
   split at h
   ·simp only [Option.some.injEq,Prod.mk.injEq] at h; obtain ⟨rfl,rfl,rfl⟩:=h; exact ⟨rfl,hS⟩
   ·simp only [Option.some.injEq,Prod.mk.injEq] at h; obtain ⟨rfl,rfl,rfl⟩:=h; exact ⟨rfl,hS⟩
   ·simp only [Option.some.injEq,Prod.mk.injEq] at h; obtain ⟨rfl,rfl,rfl⟩:=h; exact ⟨rfl,hS⟩
   ·cases h
  ·rename_i y0 r hsrc
   simp only [z7y ob hS hsrc,List.length_set]
   split at h
   ·rename_i hz
    rw [if_pos hz]
    split at h
    ·rename_i xs
     split at h
     ·rename_i hc
      rw [if_pos hc]
      simp only [Option.some.injEq,Prod.mk.injEq] at h; obtain ⟨rfl,rfl,rfl⟩:=h
      obtain ⟨g1,g2⟩:=z0f ob (.row (xs.map .d ++ y0::r) e) hS
      exact ⟨by rw [g1],g2⟩
     ·cases h
    ·rename_i j off len
     cases ho:S[j]? with
     | none=>simp [ho] at h
     | some o =>
      by_cases hne:o = .hole
      ·subst hne; simp [ho] at h
      ·simp only [ho] at h; simp only [qV ob hS ho hne]
       cases o with
       | row xs e' =>
        simp only at h ⊢
        split at h
        ·rename_i hc
         rw [if_pos hc]
         simp only [Option.some.injEq,Prod.mk.injEq] at h; obtain ⟨rfl,rfl,rfl⟩:=h
         obtain ⟨g1,g2⟩:=vQ ob .dead hS ho hne
         obtain ⟨g3,g4⟩:=z0f ob (.row (xs.take len ++ y0::r) e) g2
         exact ⟨by rw [g1,g3],g4⟩
        ·cases h
       | _=>simp at h
    ·cases h
   ·cases h
 ·cases h
theorem zi6 {t tx:TypeId} {d x y:V} {S':zA} (ob:Ob) (hS:S[id]? = some .hole) (h:copyV P S t tx d x=some (y,S')):copyV P (S.set id ob) t tx d x=some (y,S'.set id ob)∧S'[id]? = some .hole:=by
 unfold copyV at h ⊢
 split at h
 ·rename_i e hu
  split at h
  ·cases h
  rename_i hni
  rw [if_neg hni]
  split at h
  ·cases h
  ·rename_i ys hsrc
   simp only [z7y ob hS hsrc]
   split at h
   ·rename_i j off len
    cases ho:S[j]? with
    | none=>simp [ho] at h
    | some o =>
     by_cases hne:o = .hole
     ·subst hne; simp [ho] at h
     ·simp only [ho] at h; simp only [qV ob hS ho hne]
      cases o with
      | row xs e' =>
       simp only at h ⊢
       split at h
       ·rename_i hc
        rw [if_pos hc]
        simp only [Option.some.injEq,Prod.mk.injEq] at h; obtain ⟨rfl,rfl⟩:=h
        obtain ⟨g1,g2⟩:=vQ ob (.row (xs.take off ++ ys.take (min ys.length len) ++ xs.drop (off + min ys.length len)) e) hS ho hne
        exact ⟨by rw [g1],g2⟩
       ·cases h
      | _=>simp at h
   ·cases h
 ·cases h
theorem z7s {t:TypeId} {l c y:V} {S':zA} (ob:Ob) (hS:S[id]? = some .hole) (h:jL P S t l c=some (y,S')):jL P (S.set id ob) t l c=some (y,S'.set id ob)∧S'[id]? = some .hole:=by
 unfold jL at h ⊢
 split at h
 ·rename_i e hu
  split at h
  ·rename_i l' c' z hz
   split at h
   ·rename_i hc
    split at h
    ·rename_i hr
     simp only [Option.some.injEq,Prod.mk.injEq] at h; obtain ⟨rfl,rfl⟩:=h
     obtain ⟨g1,g2⟩:=z0f ob (.row (List.replicate c'.toNat z) e) hS
     simp only [hz,if_pos hc,if_pos hr,List.length_set,g1]
     exact ⟨trivial,g2⟩
    ·cases h
   ·cases h
  ·cases h
 ·cases h
theorem zbo {src dst:TypeId} {x y:V} {c:Nat} (ob:Ob) (hS:S[id]? = some .hole) (h:qF P S src dst x=some (y,c)):qF P (S.set id ob) src dst x=some (y,c):=by
 have h0:=h
 unfold qF at h
 split at h
 ·simp only [Option.some.injEq,Prod.mk.injEq] at h
  obtain ⟨rfl,rfl⟩:=h
  rw [← h0]; unfold qF; simp_all
 ·simp only [Option.some.injEq,Prod.mk.injEq] at h
  obtain ⟨rfl,rfl⟩:=h
  rw [← h0]; unfold qF; simp_all
 ·split at h
  ·split at h
   ·simp only [Option.some.injEq,Prod.mk.injEq] at h
    obtain ⟨rfl,rfl⟩:=h
    rw [← h0]; unfold qF; simp_all
   ·cases h
  ·cases h
 ·split at h
  ·split at h
   ·cases h
   ·split at h
    ·rename_i ys hy
     have:=z86 ob hS hy
     obtain ⟨s,hs,he⟩:=Option.map_eq_some_iff.1 h
     simp only [Prod.mk.injEq] at he
     obtain ⟨rfl,rfl⟩:=he
     rw [← h0]; unfold qF; simp_all
    ·cases h
  ·cases h
 ·cases h
theorem z7v {t:TypeId} {x k v:V} {S':zA} (ob:Ob) (hS:S[id]? = some .hole) (h:jS P S t x k v=some S'):jS P (S.set id ob) t x k v=some (S'.set id ob)∧S'[id]? = some .hole:=by
 unfold jS at h ⊢
 split at h
 ·rename_i kt et hu
  split at h
  ·rename_i hok
   rw [if_pos hok]
   split at h
   ·rename_i j kd hkd
    cases ho:S[j]? with
    | none=>simp [ho] at h
    | some o =>
     by_cases hne:o = .hole
     ·subst hne; simp [ho] at h
     ·simp only [ho] at h; simp only [qV ob hS ho hne]
      cases o with
      | mp es clock =>
       have fin : ∀ es' cl,some (S.set j (.mp es' cl))=some S'→some ((S.set id ob).set j (.mp es' cl))=some (S'.set id ob)∧S'[id]? = some .hole:=fun es' cl he=>by
        simp only [Option.some.injEq] at he; subst he
        obtain ⟨g1,g2⟩:=vQ ob (.mp es' cl) hS ho hne
        exact ⟨by rw [g1],g2⟩
       simp only at h ⊢
       split at h
       ·rename_i i u hf
        try simp only [hf]
        split at h
        ·rename_i e he
         try simp only [he]
         split at h
         ·rename_i hs
          rw [if_pos hs]
          exact fin _ _ h
         ·cases h
        ·cases h
       ·rename_i hf
        try simp only [hf]
        exact fin _ _ h
       ·cases h
      | _=>simp at h
   ·cases h
  ·cases h
 ·cases h
theorem z9c {t:TypeId} {x k y:V} {S':zA} (ob:Ob) (hS:S[id]? = some .hole) (h:vE P S t x k=some (y,S')):vE P (S.set id ob) t x k=some (y,S'.set id ob)∧S'[id]? = some .hole:=by
 unfold vE at h ⊢
 split at h
 ·rename_i kt et hu
  split at h
  ·rename_i hok
   rw [if_pos hok]
   split at h
   ·rename_i j kd z hkd hz
    cases ho:S[j]? with
    | none=>simp [ho] at h
    | some o =>
     by_cases hne:o = .hole
     ·subst hne; simp [ho] at h
     ·simp only [ho] at h; simp only [qV ob hS ho hne]
      cases o with
      | mp es clock =>
       have fin : ∀ es' cl v,some (v,S.set j (.mp es' cl))=some (y,S')→some (v,(S.set id ob).set j (.mp es' cl))=some (y,S'.set id ob)∧S'[id]? = some .hole:=fun es' cl v he=>by
        simp only [Option.some.injEq,Prod.mk.injEq] at he; obtain ⟨rfl,rfl⟩:=he
        obtain ⟨g1,g2⟩:=vQ ob (.mp es' cl) hS ho hne
        exact ⟨by rw [g1],g2⟩
       simp only at h ⊢
       split at h
       ·rename_i i u hf
        try simp only [hf]
        split at h
        ·rename_i e he
         try simp only [he]
         split at h
         ·rename_i hs
          rw [if_pos hs]
          exact fin _ _ _ h
         ·cases h
        ·cases h
       ·rename_i hf
        try simp only [hf]
        exact fin _ _ _ h
       ·cases h
      | _=>simp at h
   ·cases h
  ·cases h
 ·cases h
theorem z6y {x st v:V} {S':zA} (ob:Ob) (hS:S[id]? = some .hole) (h:kQ S x st v=some S'):kQ (S.set id ob) x st v=some (S'.set id ob)∧S'[id]? = some .hole:=by
 unfold kQ at h ⊢
 split at h
 ·cases h
 ·rename_i hone
  rw [if_neg hone]
  split at h
  ·rename_i j kk n
   cases ho:S[j]? with
   | none=>simp [ho] at h
   | some o =>
    by_cases hne:o = .hole
    ·subst hne; simp [ho] at h
    ·simp only [ho] at h; simp only [qV ob hS ho hne]
     cases o with
     | mp es clock =>
      simp only at h ⊢
      split at h
      ·rename_i i hf
       try simp only [hf]
       split at h
       ·rename_i e he
        try simp only [he]
        simp only [Option.some.injEq] at h; subst h
        obtain ⟨g1,g2⟩:=vQ ob (.mp (es.set i (e.1,v,e.2.2)) clock) hS ho hne
        exact ⟨by rw [g1],g2⟩
       ·cases h
      ·cases h
     | _=>simp at h
  ·cases h
theorem zcv {t:TypeId} {x k:V} {S':zA} (ob:Ob) (hS:S[id]? = some .hole) (h:z07 P S t x k=some S'):z07 P (S.set id ob) t x k=some (S'.set id ob)∧S'[id]? = some .hole:=by
 unfold z07 at h ⊢
 split at h
 ·rename_i kt et hu
  split at h
  ·rename_i hok
   rw [if_pos hok]
   split at h
   ·rename_i j
    cases ho:S[j]? with
    | none=>simp [ho] at h
    | some o =>
     by_cases hne:o = .hole
     ·subst hne; simp [ho] at h
     ·simp only [ho] at h; simp only [qV ob hS ho hne]
      cases o with
      | mp es clock =>
       have fin : ∀ es' cl,some (S.set j (.mp es' cl))=some S'→some ((S.set id ob).set j (.mp es' cl))=some (S'.set id ob)∧S'[id]? = some .hole:=fun es' cl he=>by
        simp only [Option.some.injEq] at he; subst he
        obtain ⟨g1,g2⟩:=vQ ob (.mp es' cl) hS ho hne
        exact ⟨by rw [g1],g2⟩
       simp only at h ⊢
       split at h
       ·rename_i i u hf
        try simp only [hf]
        exact fin _ _ h
       ·rename_i hf
        try simp only [hf]
        exact fin _ _ h
       ·cases h
      | _=>simp at h
   ·cases h
  ·cases h
 ·cases h
end
end Go.Vm
end
