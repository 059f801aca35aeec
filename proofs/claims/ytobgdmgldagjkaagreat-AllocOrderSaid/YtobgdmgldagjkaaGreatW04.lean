/- The value machine: what ran with a hole in the store runs the same with any object in its place, and leaves it. Operations, freezing, calls. -/
import Derived.Orders
import Derived.Defers
import Derived.Scope
import Derived.Test.YtobgdmgldagjkaaGreatW03
set_option linter.unusedVariables false
set_option linter.unusedSimpArgs false
section
namespace Go.Vm
def Rs.upd (id:Nat) (ob:Ob):Rs→Rs
 | .val v S c=>.val v (S.set id ob) c
 | .skip S c=>.skip (S.set id ob) c
 | .enter f as=>.enter f as
 | .dfr f as=>.dfr f as
 | .pan v=>.pan v
def Rs.hol (id:Nat):Rs→Prop
 | .val _ S _=>S[id]? = some .hole
 | .skip S _=>S[id]? = some .hole
 | _=>True
section
variable {P:Program} {S:zA} {id:Nat}
theorem kV {f g:Option V} {r:Rs} {ob:Ob} {c:Nat} (hS:S[id]? = some .hole) (hfg : ∀ v,f=some v→g=some v) (h:(f.map fun v=>Rs.val v S c)=some r):(g.map fun v=>Rs.val v (S.set id ob) c)=some (r.upd id ob)∧r.hol id:=by
 obtain ⟨v,hv,rfl⟩:=Option.map_eq_some_iff.1 h
 rw [hfg v hv]
 exact ⟨rfl,hS⟩
theorem z8c {f g:Option zA} {r:Rs} {ob:Ob} {c:Nat} (hfg : ∀ S',f=some S'→g=some (S'.set id ob)∧S'[id]? = some .hole) (h:(f.map fun S'=>Rs.skip S' c)=some r):(g.map fun S'=>Rs.skip S' c)=some (r.upd id ob)∧r.hol id:=by
 obtain ⟨v,hv,rfl⟩:=Option.map_eq_some_iff.1 h
 obtain ⟨g1,g2⟩:=hfg v hv
 rw [g1]
 exact ⟨rfl,g2⟩
theorem z5v {f g:Option (V × zA)} {r:Rs} {ob:Ob} {c:Nat} (hfg : ∀ v S',f=some (v,S')→g=some (v,S'.set id ob)∧S'[id]? = some .hole) (h:(f.map fun r=>Rs.val r.1 r.2 c)=some r):(g.map fun r=>Rs.val r.1 r.2 c)=some (r.upd id ob)∧r.hol id:=by
 obtain ⟨⟨v,S'⟩,hv,rfl⟩:=Option.map_eq_some_iff.1 h
 obtain ⟨g1,g2⟩:=hfg v S' hv
 rw [g1]
 exact ⟨rfl,g2⟩
theorem kR {r:Rs} {v:V} {c:Nat} {ob:Ob} (hS:S[id]? = some .hole) (h:some (Rs.val v S c)=some r):some (Rs.val v (S.set id ob) c)=some (r.upd id ob)∧r.hol id:=by
 simp only [Option.some.injEq] at h; subst h; exact ⟨rfl,hS⟩
theorem zax {b:Builtin} {ts:List TypeId} {xs:List V} {r:Rs} (ob:Ob) (hS:S[id]? = some .hole) (h:zI P S b ts xs=some r):zI P (S.set id ob) b ts xs=some (r.upd id ob)∧r.hol id:=by
 unfold zI at h ⊢
 split at h
 ·rename_i t ts' x
  cases hu:P.underlying t with
  | none=>simp [hu] at h
  | some td =>
   simp only [hu] at h
   cases td <;> simp only [reduceCtorEq] at h ⊢ <;> first | exact kR hS h | skip
   ·split at h <;> first | exact kR hS h | cases h
   ·split at h <;> first | exact kR hS h | cases h
   ·split at h
    ·rename_i es he
     simp only [z4v ob hS he]
     exact kR hS h
    ·cases h
 ·rename_i t tx s x
  obtain ⟨⟨v,S',c⟩,hv,rfl⟩:=Option.map_eq_some_iff.1 h
  obtain ⟨g1,g2⟩:=zd8 ob hS hv
  simp only [g1]
  exact ⟨rfl,g2⟩
 ·exact z5v (fun v S' hv=>zi6 ob hS hv) h
 ·obtain ⟨S',hv,rfl⟩:=Option.map_eq_some_iff.1 h
  obtain ⟨g1,g2⟩:=zcv ob hS hv
  simp only [g1]
  exact ⟨rfl,g2⟩
 ·exact kV hS (fun v hv=>hv) h
 ·exact kV hS (fun v hv=>hv) h
 ·cases h
theorem zcs {v:V} {r:Rs} (ob:Ob) (hS:S[id]? = some .hole) (h:z1p S v=some r):z1p (S.set id ob) v=some (r.upd id ob)∧r.hol id:=by
 cases v <;> simp only [z1p,reduceCtorEq] at h ⊢
 rename_i j
 cases ho:S[j]? with
 | none=>simp [ho] at h
 | some o' =>
  by_cases hne:o' = .hole
  ·subst hne; simp [ho] at h
  ·simp only [ho] at h
   simp only [qV ob hS ho hne]
   cases o' with
   | mp es clock =>
    simp only [Option.some.injEq] at h ⊢; subst h
    obtain ⟨g1,g2⟩:=z0f ob (.mit j clock [] clock) hS
    simp only [List.length_set,g1]
    exact ⟨rfl,g2⟩
   | _=>simp at h
theorem zer {v:V} {r:Rs} (ob:Ob) (hS:S[id]? = some .hole) (h:z5b S v=some r):z5b (S.set id ob) v=some (r.upd id ob)∧r.hol id:=by
 cases v <;> simp only [z5b,reduceCtorEq] at h ⊢
 rename_i j
 cases ho:S[j]? with
 | none=>simp [ho] at h
 | some o' =>
  by_cases hne:o' = .hole
  ·subst hne; simp [ho] at h
  ·simp only [ho] at h
   simp only [qV ob hS ho hne]
   cases o' with
   | mit mid since seen last =>
    simp only at h ⊢
    cases hm:S[mid]? with
    | none=>simp [hm] at h
    | some om =>
     by_cases hnm:om = .hole
     ·subst hnm; simp [hm] at h
     ·simp only [hm] at h
      simp only [qV ob hS hm hnm]
      cases om with
      | mp es clock =>
       simp only at h ⊢
       split at h
       ·cases h
       ·rename_i hc
        rw [if_neg hc]
        split at h
        ·exact kR hS h
        ·rename_i e r' hf
         split at h
         ·rename_i hlt
          rw [if_pos hlt]
          simp only [Option.some.injEq] at h; subst h
          obtain ⟨g1,g2⟩:=vQ ob (.mit mid since (seen ++ [e.2.2]) clock) hS ho hne
          exact ⟨by simp only [Rs.upd,g1],g2⟩
         ·cases h
      | _=>simp at h
   | _=>simp at h
theorem zcn {v:V} {r:Rs} (ob:Ob) (hS:S[id]? = some .hole) (h:z1y S v=some r):z1y (S.set id ob) v=some (r.upd id ob)∧r.hol id:=by
 cases v <;> simp only [z1y,reduceCtorEq] at h ⊢
 rename_i j
 cases ho:S[j]? with
 | none=>simp [ho] at h
 | some o' =>
  by_cases hne:o' = .hole
  ·subst hne; simp [ho] at h
  ·simp only [ho] at h
   simp only [qV ob hS ho hne]
   cases o' with
   | mit mid since seen last =>
    simp only at h ⊢
    cases hm:S[mid]? with
    | none=>simp [hm] at h
    | some om =>
     by_cases hnm:om = .hole
     ·subst hnm; simp [hm] at h
     ·simp only [hm] at h
      simp only [qV ob hS hm hnm]
      cases om with
      | mp es clock =>
       simp only at h ⊢
       split at h
       ·rename_i hc
        rw [if_pos hc]
        split at h
        ·split at h
         ·exact kR hS h
         ·cases h
        ·cases h
       ·cases h
      | _=>simp at h
   | _=>simp at h
theorem zaw {T:List V} {o:Oper} {r:Rs} (ob:Ob) (hS:S[id]? = some .hole) (h:opV P S T o=some r):opV P (S.set id ob) T o=some (r.upd id ob)∧r.hol id:=by
  unfold opV at h ⊢
  split at h
  · exact kR hS h
  · exact kR hS h
  · split at h <;> first | exact kR hS h | cases h
  · split at h
    · split at h
      · rename_i z hz hf
        simp only [Option.some.injEq] at h; subst h
        have g:=fun x=>z0f ob x hS
        simp only [List.length_set,fun x=>(g x).1,if_pos hf]
        exact ⟨rfl,(g _).2⟩
      · cases h
    · cases h
  · split at h
    · rename_i hf
      simp only [Option.some.injEq] at h; subst h
      have g:=fun x=>z0f ob x hS
      simp only [List.length_set,fun x=>(g x).1,if_pos hf]
      exact ⟨rfl,(g _).2⟩
    · cases h
  · exact kV hS (fun v hv=>hv) h
  · split at h
    · split at h
      · split at h
        · rename_i hc
          split at h
          · rename_i ds hds
            simp only [if_pos hc]
            exact kR hS h
          · simp only [Option.some.injEq] at h; subst h
            have g:=fun x=>z0f ob x hS
            simp only [List.length_set,fun x=>(g x).1,if_pos hc]
            exact ⟨rfl,(g _).2⟩
        · cases h
      · cases h
    · cases h
  · exact kV hS (fun v hv=>zah ob hS hv) h
  · exact z8c (fun S' hv=>ze9 ob hS hv) h
  · split at h <;> first | exact kR hS h | cases h
  · exact kV hS (fun v hv=>hv) h
  · exact kV hS (fun v hv=>hv) h
  · obtain ⟨⟨v,c⟩,hv,rfl⟩:=Option.map_eq_some_iff.1 h
    simp only [zbo ob hS hv]
    exact ⟨rfl,hS⟩
  · split at h
    · cases h
    · split at h
      · rename_i hc
        simp only [if_pos hc]
        exact kR hS h
      · cases h
    · cases h
  · split at h
    · rename_i hc
      simp only [if_pos hc]
      exact kR hS h
    · cases h
  · split at h
    · simp only [Option.some.injEq] at h; subst h
      obtain ⟨g1,g2⟩:=z0f ob (.mp [] 0) hS
      simp only [List.length_set,g1]
      exact ⟨rfl,g2⟩
    · cases h
  · exact z5v (fun v S' hv=>z7s ob hS hv) h
  · exact kV hS (fun v hv=>ze2 ob hS hv) h
  · exact kV hS (fun v hv=>hv) h
  · exact kV hS (fun v hv=>z89 ob hS hv) h
  · exact kV hS (fun v hv=>hv) h
  · exact kV hS (fun v hv=>hv) h
  · exact kV hS (fun v hv=>zdi ob hS hv) h
  · exact z8c (fun S' hv=>z7v ob hS hv) h
  · exact z5v (fun v S' hv=>z9c ob hS hv) h
  · exact z8c (fun S' hv=>z6y ob hS hv) h
  · split at h
    · split at h
      · simp only [Option.some.injEq] at h; subst h
        have g:=fun x=>z0f ob x hS
        simp only [List.length_set,fun x=>(g x).1]
        exact ⟨rfl,(g _).2⟩
      · cases h
    · exact zcs ob hS h
    · cases h
  · split at h
    · rename_i j hit
      cases ho:S[j]? with
      | none=>simp [ho] at h
      | some o' =>
        by_cases hne:o' = .hole
        · subst hne; simp [ho] at h
        · simp only [ho] at h
          simp only [qV ob hS ho hne]
          cases o' with
          | iter s pos =>
            simp only at h ⊢
            split at h
            · rename_i hlt
              simp only [if_pos hlt]
              simp only [Option.some.injEq] at h; subst h
              obtain ⟨g1,g2⟩:=vQ ob (.iter s (pos + (Utf8.decode ⟨s.toArray⟩ pos).2)) hS ho hne
              exact ⟨by simp only [Rs.upd,g1],g2⟩
            · rename_i hlt
              simp only [if_neg hlt]
              exact kR hS h
          | _=>simp at h
    · cases h
  · exact zer ob hS h
  · exact zcn ob hS h
  · split at h
    · split at h
      · exact kR hS h
      · cases h
    · cases h
  · split at h
    · exact zax ob hS h
    · split at h
      · split at h
        · rename_i hc
          simp only [if_pos hc]
          simp only [Option.some.injEq] at h; subst h; exact ⟨rfl,trivial⟩
        · cases h
      · split at h
        · rename_i hc
          simp only [if_pos hc]
          simp only [Option.some.injEq] at h; subst h; exact ⟨rfl,trivial⟩
        · cases h
      · cases h
    · cases h
  · split at h
    · split at h
      · split at h
        · rename_i hc
          simp only [if_pos hc]
          simp only [Option.some.injEq] at h; subst h; exact ⟨rfl,trivial⟩
        · cases h
      · cases h
    · cases h
  · split at h <;> first | (simp only [Option.some.injEq] at h; subst h; exact ⟨rfl,trivial⟩) | cases h
  · cases h
theorem wQ {α β:Type} {f g:α→Option β} : ∀ {xs:List α} {ys:List β},(∀ x ∈ xs,∀ y,f x=some y→g x=some y)→allO f xs=some ys→allO g xs=some ys
 | [],ys,_,h=>h
 | x::r,ys,hfg,h=>by
  obtain ⟨y,zs,h1,h2,rfl⟩:=wK h
  simp only [allO,hfg x (by simp) y h1,wQ (fun x hx=>hfg x (by simp [hx])) h2]
theorem z2q {α β:Type} {f:α→Option β} {xs:List α} {ys:List β} (h:allO f xs=some ys) {x:α} (hx:x ∈ xs) : ∃ y,f x=some y:=by
 obtain ⟨i,hi⟩:=List.getElem?_of_mem hx
 obtain ⟨y,hy,_⟩:=(z1b h).2 i x hi
 exact ⟨y,hy⟩
theorem kZ {α β:Type} {f g:α→List β} : ∀ {xs:List α},(∀ x ∈ xs,f x=g x)→xs.flatMap f=xs.flatMap g
 | [],_=>rfl
 | x::r,h=>by
  rw [List.flatMap_cons,List.flatMap_cons,h x (by simp),kZ (xs:=r) (fun y hy=>h y (List.mem_cons_of_mem _ hy))]
theorem z39 (ob:Ob) (hS:S[id]? = some .hole) : ∀ (n:Nat) (v:V) (x:D),frz S n v=some x→frz (S.set id ob) n v=some x∧frzIds (S.set id ob) n v=frzIds S n v:=by
 intro n
 induction n with
 | zero=>intro v x h; simp [frz] at h
 | succ n ih =>
  intro v x h
  have many : ∀ {xs:List V} {ds:List D},allO (frz S n) xs=some ds→allO (frz (S.set id ob) n) xs=some ds∧xs.flatMap (frzIds (S.set id ob) n)=xs.flatMap (frzIds S n):=fun h =>
   ⟨wQ (fun x _ y hy=>(ih x y hy).1) h,kZ fun x hx=>by obtain ⟨y,hy⟩:=z2q h hx; exact (ih x y hy).2⟩
  have manyM : ∀ {es:List (D × V × Nat)} {ds:List (D × D)},allO (fun (e:D × V × Nat)=>(frz S n e.2.1).map fun x=>(e.1,x)) es=some ds→allO (fun (e:D × V × Nat)=>(frz (S.set id ob) n e.2.1).map fun x=>(e.1,x)) es=some ds∧(es.flatMap fun e=>frzIds (S.set id ob) n e.2.1)=es.flatMap fun e=>frzIds S n e.2.1:=fun h =>
   ⟨wQ (fun x _ y hy=>by
    obtain ⟨z,hz,rfl⟩:=Option.map_eq_some_iff.1 hy
    rw [(ih _ _ hz).1]; rfl) h,kZ fun x hx=>by
     obtain ⟨y,hy⟩:=z2q h hx
     obtain ⟨z,hz,_⟩:=Option.map_eq_some_iff.1 hy
     exact (ih _ _ hz).2⟩
  cases v with
  | d y=>exact ⟨h,rfl⟩
  | ts xs=>exact ⟨h,rfl⟩
  | agg xs =>
   simp only [frz,frzIds] at h ⊢
   cases ha:allO (frz S n) xs with
   | none=>simp [ha] at h
   | some ds=>simp only [ha] at h; simp only [(many ha).1]; exact ⟨h,(many ha).2⟩
  | iface t v =>
   simp only [frz,frzIds] at h ⊢
   obtain ⟨z,hz,rfl⟩:=Option.map_eq_some_iff.1 h
   rw [(ih _ _ hz).1]; exact ⟨rfl,(ih _ _ hz).2⟩
  | rs j off len =>
   simp only [frz,frzIds] at h ⊢
   cases ho:S[j]? with
   | none=>simp [ho] at h
   | some o =>
    by_cases hne:o = .hole
    ·subst hne; simp [ho] at h
    ·simp only [ho] at h
     simp only [qV ob hS ho hne]
     cases o with
     | row xs e =>
      simp only at h ⊢
      split at h
      ·rename_i hc
       simp only [Bool.and_eq_true,decide_eq_true_eq] at hc
       obtain ⟨hc1,hc2⟩:=hc
       obtain ⟨ds,hds⟩:=Option.isSome_iff_exists.1 hc2
       obtain ⟨z,hz,rfl⟩:=Option.map_eq_some_iff.1 h
       simp only [(many hds).1,(many hz).1,hc1,decide_true,Option.isSome_some,Bool.and_self,if_true]
       exact ⟨rfl,by rw [(many hds).2]⟩
      ·cases h
     | fz xs e=>exact ⟨h,rfl⟩
     | _=>simp at h
  | cs j ix off len =>
   simp only [frz,frzIds] at h ⊢
   cases ho:S[j]? with
   | none=>simp [ho] at h
   | some o =>
    by_cases hne:o = .hole
    ·subst hne; simp [ho] at h
    ·simp only [ho] at h
     simp only [qV ob hS ho hne]
     cases o with
     | row xs e =>
      simp only at h ⊢
      split at h
      ·rename_i y hy
       split at h
       ·rename_i hc
        simp only [Bool.and_eq_true,decide_eq_true_eq] at hc
        obtain ⟨ds,hds⟩:=Option.isSome_iff_exists.1 hc.2
        try simp only [hy]
        simp only [(many hds).1,hc.1.1,hc.1.2,decide_true,Option.isSome_some,Bool.and_self,if_true]
        exact ⟨h,by rw [(many hds).2]⟩
       ·cases h
      ·cases h
     | fz xs e=>exact ⟨h,rfl⟩
     | _=>simp at h
  | ref j ix off =>
   cases off with
   | succ _=>simp [frz] at h
   | zero =>
    simp only [frz,frzIds] at h ⊢
    cases ho:S[j]? with
    | none=>simp [ho] at h
    | some o =>
     by_cases hne:o = .hole
     ·subst hne; simp [ho] at h
     ·simp only [ho] at h
      simp only [qV ob hS ho hne]
      cases o with
      | row xs e =>
       simp only at h ⊢
       split at h
       ·rename_i y hy
        split at h
        ·rename_i hc
         obtain ⟨ds,hds⟩:=Option.isSome_iff_exists.1 hc
         obtain ⟨z,hz,rfl⟩:=Option.map_eq_some_iff.1 h
         try simp only [hy]
         simp only [(many hds).1,(ih _ _ hz).1,Option.isSome_some,if_true]
         exact ⟨rfl,by rw [(many hds).2]⟩
        ·cases h
       ·cases h
      | fz xs e=>exact ⟨h,rfl⟩
      | _=>simp at h
  | fn f a b =>
   simp only [frz,frzIds] at h ⊢
   cases ha:allO (frz S n) a with
   | none=>simp [ha] at h
   | some da =>
    cases hb:allO (frz S n) b with
    | none=>simp [ha,hb] at h
    | some db =>
     simp only [ha,hb] at h
     simp only [(many ha).1,(many hb).1,(many ha).2,(many hb).2]
     exact ⟨h,trivial⟩
  | mr j =>
   simp only [frz,frzIds] at h ⊢
   cases ho:S[j]? with
   | none=>simp [ho] at h
   | some o =>
    by_cases hne:o = .hole
    ·subst hne; simp [ho] at h
    ·simp only [ho] at h
     simp only [qV ob hS ho hne]
     cases o with
     | mp es c =>
      simp only at h ⊢
      obtain ⟨z,hz,rfl⟩:=Option.map_eq_some_iff.1 h
      rw [(manyM hz).1]
      exact ⟨rfl,by rw [(manyM hz).2]⟩
     | fm es=>exact ⟨h,rfl⟩
     | _=>simp at h
  | it id=>simp [frz] at h
  | tup xs=>simp [frz] at h
  | junk=>simp [frz] at h
theorem zh4 {o o':Ob} (ob:Ob) (hS:S[id]? = some .hole) (h:z3e S o=some o'):z3e (S.set id ob) o=some o'∧z9d (S.set id ob) o=z9d S o:=by
 cases o with
 | row xs e =>
  simp only [z3e,z9d] at h ⊢
  obtain ⟨ds,hds,rfl⟩:=Option.map_eq_some_iff.1 h
  rw [wQ (fun x _ y hy=>(z39 ob hS _ x y hy).1) hds]
  exact ⟨rfl,kZ fun x hx=>by obtain ⟨y,hy⟩:=z2q hds hx; exact (z39 ob hS _ x y hy).2⟩
 | mp es c =>
  simp only [z3e,z9d] at h ⊢
  obtain ⟨ds,hds,rfl⟩:=Option.map_eq_some_iff.1 h
  rw [wQ (fun x _ y hy=>by
   obtain ⟨z,hz,rfl⟩:=Option.map_eq_some_iff.1 hy
   rw [(z39 ob hS _ _ _ hz).1]; rfl) hds]
  exact ⟨rfl,kZ fun x hx=>by
   obtain ⟨y,hy⟩:=z2q hds hx
   obtain ⟨z,hz,_⟩:=Option.map_eq_some_iff.1 hy
   exact (z39 ob hS _ _ _ hz).2⟩
 | iter s p=>simp [z3e] at h
 | mit _ _ _ _=>simp [z3e] at h
 | fz xs e=>exact ⟨h,rfl⟩
 | fm es=>exact ⟨h,rfl⟩
 | dead=>exact ⟨h,rfl⟩
 | hole=>exact ⟨h,rfl⟩
theorem zda {all:List Nat} (ob:Ob) (hS:S[id]? = some .hole) : ∀ {ids:List Nat} {S1 S2:zA},(∀ i ∈ ids,i ≠ id)→S1[id]? = some .hole→mark S all S1 ids=some S2→mark (S.set id ob) all (S1.set id ob) ids=some (S2.set id ob)∧S2[id]? = some .hole
 | [],S1,S2,_,h1,h=>by
  simp only [mark,Option.some.injEq] at h ⊢; subst h
  exact ⟨rfl,h1⟩
 | i::r,S1,S2,hne,h1,h=>by
  have hi:=hne i (by simp)
  simp only [mark] at h ⊢
  rw [List.getElem?_set_ne (Ne.symm hi)]
  cases ho:S[i]? with
  | none=>simp [ho] at h
  | some o =>
   simp only [ho] at h ⊢
   cases hf:z3e S o with
   | none=>simp [hf] at h
   | some o' =>
    obtain ⟨g1,g2⟩:=zh4 ob hS hf
    simp only [hf] at h
    simp only [g1,g2]
    split at h
    ·rename_i hc
     rw [if_pos hc,List.set_comm _ _ (Ne.symm hi)]
     exact zda ob hS (fun j hj=>hne j (by simp [hj])) (by rw [List.getElem?_set_ne hi]; exact h1) h
    ·cases h
def jW (call:jX):Prop:= ∀ f args S o S' id ob,call f args S=some (o,S')→S[id]? = some .hole→call f args (S.set id ob)=some (o,S'.set id ob)∧S'[id]? = some .hole
theorem z5w {C:Cfg} {call:jX} (hcall:jW call) {f:FuncId} {args:List V} {o:Out} {S':zA} {c:Nat} (ob:Ob) (hS:S[id]? = some .hole) (h:jO C call f args S=some (o,S',c)):jO C call f args (S.set id ob)=some (o,S'.set id ob,c)∧S'[id]? = some .hole:=by
 unfold jO at h ⊢
 split at h
 ·rename_i hsh
  rw [if_pos hsh]
  obtain ⟨⟨o',S2⟩,h1,h2⟩:=Option.map_eq_some_iff.1 h
  simp only [Prod.mk.injEq] at h2
  obtain ⟨rfl,rfl,rfl⟩:=h2
  obtain ⟨g1,g2⟩:=hcall f args S _ _ id ob h1 hS
  rw [g1]
  exact ⟨rfl,g2⟩
 ·rename_i hsh
  rw [if_neg hsh]
  split at h
  ·cases h
  ·rename_i ds hds
   have g1:=wQ (fun x _ y hy=>(z39 ob hS _ x y hy).1) hds
   have g2:args.flatMap (frzIds (S.set id ob) zG)=args.flatMap (frzIds S zG):=kZ fun x hx=>by obtain ⟨y,hy⟩:=z2q hds hx; exact (z39 ob hS _ x y hy).2
   simp only [g1,g2]
   cases ha:answer C call f ds with
   | none=>simp [ha] at h
   | some out =>
    simp only [ha] at h ⊢
    split at h
    ·rename_i hc
     rw [if_pos hc]
     simp only [Option.some.injEq,Prod.mk.injEq] at h; obtain ⟨rfl,rfl,rfl⟩:=h
     exact ⟨rfl,hS⟩
    ·rename_i hc
     rw [if_neg hc]
     split at h
     ·rename_i hp
      rw [if_pos hp]
      simp only [Option.some.injEq,Prod.mk.injEq] at h; obtain ⟨rfl,rfl,rfl⟩:=h
      exact ⟨rfl,hS⟩
     ·rename_i hp
      rw [if_neg hp]
      split at h
      ·rename_i S2 hm
       simp only [Option.some.injEq,Prod.mk.injEq] at h; obtain ⟨rfl,rfl,rfl⟩:=h
       obtain ⟨g3,g4⟩:=zda ob hS (fun i hi=>by
        rintro rfl
        obtain ⟨v,_,hv⟩:=List.mem_flatMap.1 hi
        obtain ⟨o,ho,hl,_⟩:=z4b hv
        rw [hS] at ho; cases ho; cases hl) hS hm
       rw [g3]
       exact ⟨rfl,g4⟩
      ·cases h
end
def z7b (ex:z4l):Prop:= ∀ c T S F x T' S' F' id ob,ex c T S F=some (x,T',S',F')→S[id]? = some .hole→ex c T (S.set id ob) F=some (x,T',S'.set id ob,F')∧S'[id]? = some .hole
section
variable {C:Cfg} {call:jX} {id:Nat}
theorem z0m (hcall:jW call) {ops:Array Oper} (ob:Ob) : ∀ {l:List Oper} {T T':List V} {S S':zA} {F F':Dfs} {x:Ex},S[id]? = some .hole→seqV C call ops l T S F=some (x,T',S',F')→seqV C call ops l T (S.set id ob) F=some (x,T',S'.set id ob,F')∧S'[id]? = some .hole
 | [],T,T',S,S',F,F',x,hS,h=>by
  simp only [seqV,Option.some.injEq,Prod.mk.injEq] at h ⊢
  obtain ⟨rfl,rfl,rfl,rfl⟩:=h
  exact ⟨⟨rfl,rfl,rfl,rfl⟩,hS⟩
 | o::l,T,T',S,S',F,F',x,hS,h=>by
  rw [seqV] at h ⊢
  cases hlp:wB C.P T o l with
  | some T1 =>
   simp only [hlp] at h ⊢
   cases l with
   | nil=>simp at h
   | cons o2 l'=>exact z0m hcall ob hS h
  | none =>
  simp only [hlp] at h ⊢
  cases hw:zW ops T o with
  | none=>simp [hw] at h
  | some b =>
   cases b with
   | false=>simp only [hw] at h ⊢; exact z0m hcall ob hS h
   | true =>
    simp only [hw] at h ⊢
    cases ho:opV C.P S T o with
    | none=>simp [ho] at h
    | some rs =>
     obtain ⟨g1,g2⟩:=zaw ob hS ho
     simp only [g1]
     cases rs with
     | val v S1 c=>simp only [ho] at h; exact z0m hcall ob g2 h
     | skip S1 c=>simp only [ho] at h; exact z0m hcall ob g2 h
     | dfr f args=>simp only [ho] at h; exact z0m hcall ob hS h
     | pan v =>
      simp only [ho,Option.some.injEq,Prod.mk.injEq] at h
      obtain ⟨rfl,rfl,rfl,rfl⟩:=h
      exact ⟨rfl,hS⟩
     | enter f args =>
      simp only [ho] at h
      simp only [Rs.upd]
      cases hc:jO C call f args S with
      | none=>simp [hc] at h
      | some q =>
       obtain ⟨out,S1,c⟩:=q
       obtain ⟨k1,k2⟩:=z5w hcall ob hS hc
       simp only [k1]
       cases out with
       | ret v=>simp only [hc] at h; exact z0m hcall ob k2 h
       | pan v =>
        simp only [hc,Option.some.injEq,Prod.mk.injEq] at h
        obtain ⟨rfl,rfl,rfl,rfl⟩:=h
        exact ⟨rfl,k2⟩
termination_by l=>l.length
theorem vD (hcall:jW call) {ops:Array Oper} {i:Nat} {o:Oper} {T:List V} {S S':zA} {v:V} {c:Nat} (ob:Ob) (hS:S[id]? = some .hole) (hi:i ≠ id) (h:effC C call ops i o T S=some (v,S',c)):effC C call ops i o T (S.set id ob)=some (v,S'.set id ob,c)∧S'[id]? = some .hole:=by
 unfold effC at h ⊢
 cases hw:zW ops T o with
 | none=>simp [hw] at h
 | some b =>
  cases b with
  | false =>
   simp only [hw,Option.some.injEq,Prod.mk.injEq] at h ⊢
   obtain ⟨rfl,rfl,rfl⟩:=h
   exact ⟨⟨rfl,rfl,rfl⟩,hS⟩
  | true =>
   simp only [hw] at h ⊢
   split at h
   ·rename_i ha
    rw [if_pos ha]
    cases hadd:addO C.P T o with
    | none=>simp [hadd] at h
    | some q =>
     obtain ⟨ob2,f⟩:=q
     simp only [hadd] at h ⊢
     rw [List.getElem?_set_ne (Ne.symm hi)]
     split at h
     ·rename_i hh
      simp only [Option.some.injEq,Prod.mk.injEq] at h
      obtain ⟨rfl,rfl,rfl⟩:=h
      try simp only [hh]
      exact ⟨by rw [List.set_comm _ _ (Ne.symm hi)],by rw [List.getElem?_set_ne hi]; exact hS⟩
     ·cases h
   ·rename_i ha
    rw [if_neg ha]
    cases ho:opV C.P S T o with
    | none=>simp [ho] at h
    | some rs =>
     obtain ⟨g1,g2⟩:=zaw ob hS ho
     simp only [g1]
     simp only [ho] at h
     cases rs with
     | val v1 S1 c1 =>
      simp only [Option.some.injEq,Prod.mk.injEq] at h
      obtain ⟨rfl,rfl,rfl⟩:=h
      exact ⟨rfl,g2⟩
     | skip S1 c1 =>
      simp only [Option.some.injEq,Prod.mk.injEq] at h
      obtain ⟨rfl,rfl,rfl⟩:=h
      exact ⟨rfl,g2⟩
     | dfr f args=>simp at h
     | pan v1=>simp at h
     | enter f args =>
      simp only at h
      simp only [Rs.upd]
      cases hc:jO C call f args S with
      | none=>simp [hc] at h
      | some q =>
       obtain ⟨out,S1,c1⟩:=q
       obtain ⟨k1,k2⟩:=z5w hcall ob hS hc
       simp only [k1]
       cases out with
       | ret v1 =>
        simp only [hc,Option.some.injEq,Prod.mk.injEq] at h
        obtain ⟨rfl,rfl,rfl⟩:=h
        exact ⟨rfl,k2⟩
       | pan v1=>simp [hc] at h
theorem z6l (hcall:jW call) {ops:Array Oper} {b:List Nat} {base i:Nat} {S:zA} {w:Nat × List V × V} (ob:Ob) (hS:S[id]? = some .hole) (hid:id < base) (h:jN C call ops b base i S w=true):jN C call ops b base i (S.set id ob) w=true:=by
 unfold jN at h ⊢
 rw [Bool.or_eq_true] at h ⊢
 rcases h with h | h
 ·exact .inl h
 ·right
  cases ho:ops[w.1]? with
  | none=>simp [ho] at h
  | some o =>
   simp only [ho] at h ⊢
   split at h
   ·rename_i v' S' he
    rw [(vD hcall ob hS (by omega) he).1]
    exact h
   ·cases h
theorem zds (hcall:jW call) {ops:Array Oper} {b:List Nat} {base:Nat} (ob:Ob) (hid:id < base) : ∀ {l:List Nat} {ws:List (Nat × List V × V)} {T T':List V} {S S':zA} {cs:List (Nat × Nat)},S[id]? = some .hole→seqC C call ops b base ws l T S=some (T',S',cs)→seqC C call ops b base ws l T (S.set id ob)=some (T',S'.set id ob,cs)∧S'[id]? = some .hole
 | [],ws,T,T',S,S',cs,hS,h=>by
  simp only [seqC,Option.some.injEq,Prod.mk.injEq] at h ⊢
  obtain ⟨rfl,rfl,rfl⟩:=h
  exact ⟨⟨rfl,rfl,rfl⟩,hS⟩
 | i::l,ws,T,T',S,S',cs,hS,h=>by
  simp only [seqC] at h ⊢
  cases ho:ops[i]? with
  | none=>simp [ho] at h
  | some o =>
   simp only [ho] at h ⊢
   cases he:effC C call ops (base + i) o T S with
   | none=>simp [he] at h
   | some q =>
    obtain ⟨v,S1,c⟩:=q
    obtain ⟨g1,g2⟩:=vD hcall ob hS (by omega) he
    simp only [he] at h
    simp only [g1]
    split at h
    ·cases h
    ·rename_i hc
     have hc' : ¬ (2 < c∧(ws.all (jN C call ops b base i (S1.set id ob)))=false):=by
      rintro ⟨hc3,hw⟩
      apply hc
      refine ⟨hc3,?_⟩
      rw [← Bool.not_eq_true] at hw ⊢
      intro hall
      apply hw
      rw [List.all_eq_true] at hall ⊢
      intro w hwm
      exact z6l hcall ob g2 hid (hall w hwm)
     rw [if_neg hc']
     cases hr:seqC C call ops b base (if c=1 then (i,T,v)::ws else ws) l (putT T o.dst v) S1 with
     | none=>simp [hr] at h
     | some q2 =>
      obtain ⟨T2,S2,cs2⟩:=q2
      obtain ⟨k1,k2⟩:=zds hcall ob hid g2 hr
      simp only [hr,Option.some.injEq,Prod.mk.injEq] at h
      obtain ⟨rfl,rfl,rfl⟩:=h
      simp only [k1]
      exact ⟨trivial,k2⟩
theorem zco (hcall:jW call) {ops:Array Oper} {o:Oper} {T:List V} {S S':zA} {v:V} (ob:Ob) (hS:S[id]? = some .hole) (h:panO C call ops o T S=some (v,S')):panO C call ops o T (S.set id ob)=some (v,S'.set id ob)∧S'[id]? = some .hole:=by
 unfold panO at h ⊢
 cases hw:zW ops T o with
 | none=>simp [hw] at h
 | some b =>
  cases b with
  | false=>simp [hw] at h
  | true =>
   simp only [hw] at h ⊢
   split at h
   ·cases h
   ·rename_i hk
    rw [if_neg hk]
    cases ho:opV C.P S T o with
    | none=>simp [ho] at h
    | some rs =>
     obtain ⟨g1,g2⟩:=zaw ob hS ho
     simp only [g1]
     simp only [ho] at h
     cases rs with
     | enter f args =>
      simp only at h
      simp only [Rs.upd]
      cases hc:jO C call f args S with
      | none=>simp [hc] at h
      | some q =>
       obtain ⟨out,S1,c1⟩:=q
       obtain ⟨k1,k2⟩:=z5w hcall ob hS hc
       simp only [k1]
       cases out with
       | pan v1 =>
        simp only [hc,Option.some.injEq,Prod.mk.injEq] at h
        obtain ⟨rfl,rfl⟩:=h
        exact ⟨rfl,k2⟩
       | ret v1=>simp [hc] at h
     | _=>simp at h
theorem zd6 (hcall:jW call) {ops:Array Oper} {b:List Nat} {base:Nat} (ob:Ob) (hid:id < base) : ∀ {l:List Nat} {ws:List (Nat × List V × V)} {T:List V} {S S':zA} {v:V} {cs:List (Nat × Nat)} {p:Nat} {rest:List Nat},S[id]? = some .hole→seqP C call ops b base ws l T S=some (v,S',cs,p,rest)→seqP C call ops b base ws l T (S.set id ob)=some (v,S'.set id ob,cs,p,rest)∧S'[id]? = some .hole
 | [],ws,T,S,S',v,cs,p,rest,hS,h=>by simp [seqP] at h
 | i::l,ws,T,S,S',v,cs,p,rest,hS,h=>by
  simp only [seqP] at h ⊢
  cases ho:ops[i]? with
  | none=>simp [ho] at h
  | some o =>
   simp only [ho] at h ⊢
   cases hp:panO C call ops o T S with
   | some q =>
    obtain ⟨v1,S1⟩:=q
    obtain ⟨g1,g2⟩:=zco hcall ob hS hp
    simp only [hp,Option.some.injEq,Prod.mk.injEq] at h
    obtain ⟨rfl,rfl,rfl,rfl,rfl⟩:=h
    simp only [g1]
    exact ⟨trivial,g2⟩
   | none =>
    simp only [hp] at h
    cases he:effC C call ops (base + i) o T S with
    | none=>simp [he] at h
    | some q =>
     obtain ⟨v1,S1,c⟩:=q
     obtain ⟨g1,g2⟩:=vD hcall ob hS (by omega) he
     simp only [he] at h
     simp only [zdd g1,g1]
     split at h
     ·cases h
     ·rename_i hc
      have hc' : ¬ (2 < c∧(ws.all (jN C call ops b base i (S1.set id ob)))=false):=by
       rintro ⟨hc3,hw⟩
       apply hc
       refine ⟨hc3,?_⟩
       rw [← Bool.not_eq_true] at hw ⊢
       intro hall
       apply hw
       rw [List.all_eq_true] at hall ⊢
       intro w hwm
       exact z6l hcall ob g2 hid (hall w hwm)
      rw [if_neg hc']
      cases hr:seqP C call ops b base (if c=1 then (i,T,v1)::ws else ws) l (putT T o.dst v1) S1 with
      | none=>simp [hr] at h
      | some q2 =>
       obtain ⟨v2,S2,cs2,p2,rest2⟩:=q2
       obtain ⟨k1,k2⟩:=zd6 hcall ob hid g2 hr
       simp only [hr,Option.some.injEq,Prod.mk.injEq] at h
       obtain ⟨rfl,rfl,rfl,rfl,rfl⟩:=h
       simp only [k1]
       exact ⟨trivial,k2⟩
theorem z6i {base:Nat} (ob:Ob) (hid:id < base) : ∀ {l:List Nat} {S:zA},S[id]? = some .hole→killAll base l (S.set id ob)=(killAll base l S).set id ob∧(killAll base l S)[id]? = some .hole
 | [],S,hS=>⟨rfl,hS⟩
 | i::r,S,hS=>by
  simp only [killAll]
  rw [List.set_comm _ _ (by omega:id ≠ base + i)]
  exact z6i ob hid (by rw [List.getElem?_set_ne (by omega)]; exact hS)
theorem z6k {P:Program} {T:List V} {S:zA} {r:ResultVar} {v:V} (ob:Ob) (hS:S[id]? = some .hole) (h:jT P T S r=some v):jT P T (S.set id ob) r=some v:=by
 cases r with
 | tmp t=>exact h
 | cell a t=>exact zah ob hS h
theorem z4o {P:Program} {rs:Array ResultVar} {T:List V} {S:zA} {v:V} (ob:Ob) (hS:S[id]? = some .hole) (h:qD P rs T S=some v):qD P rs T (S.set id ob)=some v:=by
 unfold qD at h ⊢
 split at h
 ·exact z6k ob hS h
 ·split at h
  ·rename_i vs hvs
   rw [wQ (fun x _ y hy=>z6k ob hS hy) hvs]
   exact h
  ·cases h
theorem zew {P:Program} {ex:z4l} (hex:z7b ex) {f:FuncId} {args:List V} {S S':zA} (ob:Ob) (hS:S[id]? = some .hole) (h:vV P ex f args S=some S'):vV P ex f args (S.set id ob)=some (S'.set id ob)∧S'[id]? = some .hole:=by
 unfold vV at h ⊢
 split at h
 ·cases h
 ·rename_i bd hb
  cases he:ex bd.code (vS bd.ntmps args) S [] with
  | none=>simp [he] at h
  | some q =>
   obtain ⟨x,T1,S1,F1⟩:=q
   obtain ⟨g1,g2⟩:=hex _ _ _ _ _ _ _ _ id ob he hS
   simp only [g1]
   simp only [he] at h
   have fin:(qD P bd.results T1 S1).map (fun _=>S1)=some S'→(qD P bd.results T1 (S1.set id ob)).map (fun _=>S1.set id ob)=some (S'.set id ob)∧S'[id]? = some .hole:=fun h=>by
    obtain ⟨v,hv,rfl⟩:=Option.map_eq_some_iff.1 h
    rw [z4o ob g2 hv]
    exact ⟨rfl,g2⟩
   cases x with
   | norm=>cases F1 with
    | nil=>exact fin h
    | cons a F1=>simp at h
   | ret=>cases F1 with
    | nil=>exact fin h
    | cons a F1=>simp at h
   | exit k=>simp at h
   | pan v=>simp at h
theorem zca {P:Program} {ex:z4l} (hex:z7b ex) (ob:Ob) : ∀ {F:Dfs} {S S':zA},S[id]? = some .hole→dfrV P ex F S=some S'→dfrV P ex F (S.set id ob)=some (S'.set id ob)∧S'[id]? = some .hole
  | [],S,S',hS,h=>by
    simp only [dfrV,Option.some.injEq] at h ⊢; subst h; exact ⟨rfl,hS⟩
  | (f,args)::r,S,S',hS,h=>by
    simp only [dfrV] at h ⊢
    cases hp:vV P ex f args S with
    | none=>simp [hp] at h
    | some S1 =>
      obtain ⟨g1,g2⟩:=zew hex ob hS hp
      simp only [hp] at h
      simp only [g1]
      exact zca hex ob g2 h
theorem zcp {P:Program} {ex:z4l} (hex:z7b ex) {rs:Array ResultVar} {T:List V} {S S':zA} {F:Dfs} {o:Out} (ob:Ob) (hS:S[id]? = some .hole) (h:endV P ex rs T S F=some (o,S')):endV P ex rs T (S.set id ob) F=some (o,S'.set id ob)∧S'[id]? = some .hole:=by
 unfold endV at h ⊢
 cases hd:dfrV P ex F S with
 | none=>simp [hd] at h
 | some S1 =>
  obtain ⟨g1,g2⟩:=zca hex ob hS hd
  simp only [hd] at h
  simp only [g1]
  cases hr:qD P rs T S1 with
  | none=>simp [hr] at h
  | some v =>
   simp only [hr,Option.some.injEq,Prod.mk.injEq] at h
   obtain ⟨rfl,rfl⟩:=h
   simp only [z4o ob g2 hr]
   exact ⟨trivial,g2⟩
end
theorem zkq (C:Cfg) : ∀ n,z7b (exec C n)∧jW (run C n):=by
 intro n
 induction n with
 | zero=>exact ⟨fun c T S F x T' S' F' id ob h=>by simp [exec] at h,fun f args S o S' id ob h=>by simp [run] at h⟩
 | succ n ih =>
  obtain ⟨ihe,ihr⟩:=ih
  constructor
  ·intro c T S F x T' S' F' id ob h hS
   rw [exec.eq_def] at h ⊢
   simp only at h ⊢
   cases c with
   | region rid ops dr =>
    cases dr with
    | false=>exact z0m ihr ob hS h
    | true =>
     simp only at h ⊢
     have hlt:=z1h hS
     have e:(S.set id ob) ++ List.replicate (vH ops) Ob.hole=(S ++ List.replicate (vH ops) Ob.hole).set id ob:=by rw [List.set_append_left _ _ hlt]
     rw [List.length_set,e]
     cases hs:seqC C (run C n) ops (befs ops) S.length [] (z2h C.shared ops) T (S ++ List.replicate (vH ops) .hole) with
     | none =>
      simp only [hs] at h
      cases hp:seqP C (run C n) ops (befs ops) S.length [] (z2h C.shared ops) T (S ++ List.replicate (vH ops) .hole) with
      | none=>simp [hp] at h
      | some q =>
       obtain ⟨v,S1,cs,p,rest⟩:=q
       obtain ⟨g1,g2⟩:=zd6 ihr ob hlt (by rw [List.getElem?_append_left hlt]; exact hS) hp
       simp only [hp] at h
       simp only [z84 (fun _ _ _ _ h=>h) g1,g1]
       split at h
       ·rename_i hd
        rw [if_pos hd]
        simp only [Option.some.injEq,Prod.mk.injEq] at h
        obtain ⟨rfl,rfl,rfl,rfl⟩:=h
        obtain ⟨k1,k2⟩:=z6i ob hlt (l:=rest) g2
        rw [k1]
        exact ⟨rfl,k2⟩
       ·cases h
     | some q =>
      obtain ⟨T1,S1,cs⟩:=q
      obtain ⟨g1,g2⟩:=zds ihr ob hlt (by rw [List.getElem?_append_left hlt]; exact hS) hs
      simp only [hs] at h
      simp only [g1]
      split at h
      ·rename_i hd
       rw [if_pos hd]
       simp only [Option.some.injEq,Prod.mk.injEq] at h
       obtain ⟨rfl,rfl,rfl,rfl⟩:=h
       exact ⟨rfl,g2⟩
      ·cases h
   | seq a b =>
    simp only at h ⊢
    cases ha:exec C n a T S F with
    | none=>simp [ha] at h
    | some q =>
     obtain ⟨x1,T1,S1,F1⟩:=q
     obtain ⟨g1,g2⟩:=ihe _ _ _ _ _ _ _ _ id ob ha hS
     simp only [g1]
     simp only [ha] at h
     cases x1 with
     | norm=>exact ihe _ _ _ _ _ _ _ _ id ob h g2
     | _ =>
      simp only [Option.some.injEq,Prod.mk.injEq] at h
      obtain ⟨rfl,rfl,rfl,rfl⟩:=h
      exact ⟨rfl,g2⟩
   | cond cc a b =>
    simp only at h ⊢
    split at h <;> first | exact ihe _ _ _ _ _ _ _ _ id ob h hS | cases h
   | block k b =>
    simp only at h ⊢
    cases ha:exec C n b T S F with
    | none=>simp [ha] at h
    | some q =>
     obtain ⟨x1,T1,S1,F1⟩:=q
     obtain ⟨g1,g2⟩:=ihe _ _ _ _ _ _ _ _ id ob ha hS
     simp only [g1]
     simp only [ha] at h
     cases x1 with
     | exit m =>
      simp only at h ⊢
      split at h
      ·rename_i hm
       rw [if_pos hm]
       simp only [Option.some.injEq,Prod.mk.injEq] at h
       obtain ⟨rfl,rfl,rfl,rfl⟩:=h
       exact ⟨rfl,g2⟩
      ·rename_i hm
       rw [if_neg hm]
       simp only [Option.some.injEq,Prod.mk.injEq] at h
       obtain ⟨rfl,rfl,rfl,rfl⟩:=h
       exact ⟨rfl,g2⟩
     | _ =>
      simp only [Option.some.injEq,Prod.mk.injEq] at h
      obtain ⟨rfl,rfl,rfl,rfl⟩:=h
      exact ⟨rfl,g2⟩
   | loop b =>
    simp only at h ⊢
    cases ha:exec C n b T S F with
    | none=>simp [ha] at h
    | some q =>
     obtain ⟨x1,T1,S1,F1⟩:=q
     obtain ⟨g1,g2⟩:=ihe _ _ _ _ _ _ _ _ id ob ha hS
     simp only [g1]
     simp only [ha] at h
     cases x1 with
     | norm=>exact ihe _ _ _ _ _ _ _ _ id ob h g2
     | _ =>
      simp only [Option.some.injEq,Prod.mk.injEq] at h
      obtain ⟨rfl,rfl,rfl,rfl⟩:=h
      exact ⟨rfl,g2⟩
   | scope b=>exact ihe _ _ _ _ _ _ _ _ id ob h hS
   | skip=>simp only [Option.some.injEq,Prod.mk.injEq] at h ⊢; obtain ⟨rfl,rfl,rfl,rfl⟩:=h; exact ⟨⟨rfl,rfl,rfl,rfl⟩,hS⟩
   | label l=>simp only [Option.some.injEq,Prod.mk.injEq] at h ⊢; obtain ⟨rfl,rfl,rfl,rfl⟩:=h; exact ⟨⟨rfl,rfl,rfl,rfl⟩,hS⟩
   | exit l=>simp only [Option.some.injEq,Prod.mk.injEq] at h ⊢; obtain ⟨rfl,rfl,rfl,rfl⟩:=h; exact ⟨⟨rfl,rfl,rfl,rfl⟩,hS⟩
   | ret=>simp only [Option.some.injEq,Prod.mk.injEq] at h ⊢; obtain ⟨rfl,rfl,rfl,rfl⟩:=h; exact ⟨⟨rfl,rfl,rfl,rfl⟩,hS⟩
   | _=>simp at h
  ·intro f args S o S' id ob h hS
   rw [run.eq_def] at h ⊢
   simp only at h ⊢
   split at h
   ·rename_i post hp
    split at h
    ·rename_i g first caps
     cases hc:run C n g (first ++ caps) S with
     | none=>simp [hc] at h
     | some q =>
      obtain ⟨o1,S1⟩:=q
      obtain ⟨g1,g2⟩:=ihr _ _ _ _ _ id ob hc hS
      simp only [g1]
      simp only [hc] at h
      split at h
      ·cases h
      ·rename_i v hv
       try simp only [hv]
       simp only [Option.some.injEq,Prod.mk.injEq] at h
       obtain ⟨rfl,rfl⟩:=h
       exact ⟨rfl,g2⟩
    ·cases h
   ·split at h
    ·cases h
    ·rename_i bd hb
     cases he:exec C n bd.code (vS bd.ntmps args) S [] with
     | none=>simp [he] at h
     | some q =>
      obtain ⟨x1,T1,S1,F1⟩:=q
      obtain ⟨g1,g2⟩:=ihe _ _ _ _ _ _ _ _ id ob he hS
      simp only [g1]
      simp only [he] at h
      cases x1 with
      | norm=>exact zcp ihe ob g2 h
      | ret=>exact zcp ihe ob g2 h
      | exit k=>simp at h
      | pan v=>cases F1 with
       | nil =>
        simp only [Option.some.injEq,Prod.mk.injEq] at h
        obtain ⟨rfl,rfl⟩:=h
        exact ⟨rfl,g2⟩
       | cons a F1=>simp at h
section
variable {P:Program} {S:zA}
theorem zcq {T T':List V} {o:Oper} (h : ∀ x ∈ o.op.operands.toList,zC T x=zC T' x):opV P S T o=opV P S T' o:=by
 obtain ⟨dst,op,type,pos,after,guard⟩:=o
 have pairs : ∀ ps:Array (Nat × Operand),(∀ x ∈ ps.toList.map (·.2),zC T x=zC T' x)→ps.toList.map (fun p=>(p.1,zC T p.2))=ps.toList.map fun p=>(p.1,zC T' p.2):=fun ps hp =>
  List.map_congr_left fun p hm=>by rw [hp p.2 (List.mem_map.2 ⟨p,hm,rfl⟩)]
 have many : ∀ xs:Array Operand,(∀ x ∈ xs.toList,zC T x=zC T' x)→xs.toList.map (zC T)=xs.toList.map (zC T'):=fun xs hx=>List.map_congr_left hx
 cases op <;> simp only [Op.operands] at h <;> simp only [opV]
 case build t ps=>rw [pairs ps fun x hx=>h x (by simpa using hx)]
 case buildSlice t n ps =>
  have hp:=pairs ps fun x hx=>h x (by simpa using hx)
  have ha:(ps.toList.all fun p=>decide (p.1 < n) && qA P (match P.underlying t with | some (.slice e)=>e | _=>0) (zC T p.2))=(ps.toList.all fun p=>decide (p.1 < n) && qA P (match P.underlying t with | some (.slice e)=>e | _=>0) (zC T' p.2)):=by
   have:=congrArg (fun l=>l.all fun (p:Nat × V)=>decide (p.1 < n) && qA P (match P.underlying t with | some (.slice e)=>e | _=>0) p.2) hp
   simpa [List.all_map] using this
  cases hu:P.underlying t with
  | none=>rfl
  | some td =>
   cases td <;> simp only
   rename_i e
   simp only [hu] at ha
   rw [hp,ha]
 case makeFunc fn first captured =>
  rw [many first fun x hx=>h x (by simp at hx ⊢; exact .inl hx),many captured fun x hx=>h x (by simp at hx ⊢; exact .inr hx)]
 case call c =>
  have h2:=many c.args fun x hx=>h x (by simp [Call.operands] at hx ⊢; exact .inr hx)
  cases hc:c.callee with
  | value f=>simp only; rw [h f (by simp [Call.operands,hc]),h2]
  | invoke r m=>rfl
  | builtin b=>simp only [h2]
 case defer c =>
  have h2:=many c.args fun x hx=>h x (by simp [Call.operands] at hx ⊢; exact .inr hx)
  cases hc:c.callee with
  | value f=>simp only; rw [h f (by simp [Call.operands,hc]),h2]
  | invoke r m=>rfl
  | builtin b=>rfl
 case slice t x lo hi mx =>
  cases mx with
  | some m=>rfl
  | none=>cases lo <;> cases hi <;> simp_all
 case next it b=>cases b <;> simp_all
 all_goals (first | rfl | (simp_all; done))
theorem zi3 {T T':List V} {o:Oper} (h : ∀ x ∈ o.op.operands.toList,zC T x=zC T' x):addO P T o=addO P T' o:=by
 obtain ⟨dst,op,type,pos,after,guard⟩:=o
 cases op <;> simp only [Op.operands] at h <;> simp only [addO]
 all_goals (first | rfl | (simp_all; done))
theorem z9l {xs:List Operand} {t:Tmp} (h : .tmp t ∈ xs):t ∈ zqm xs:=List.mem_filterMap.2 ⟨_,h,rfl⟩
theorem z3d {C:Cfg} {call:jX} {ops:Array Oper} {i:Nat} {o:Oper} {T T':List V} (h : ∀ t ∈ zi7 ops o,T[t]? = T'[t]?) (S:zA):effC C call ops i o T S=effC C call ops i o T' S:=by
 have h0 : ∀ x ∈ o.op.operands.toList,zC T x=zC T' x:=fun x hx=>by
  cases x with
  | tmp t =>
   have:=h t (List.mem_append_left _ (z9l hx))
   simp [zC,List.getD_eq_getElem?_getD,this]
  | _=>rfl
 have h1:opV C.P S T o=opV C.P S T' o:=zcq h0
 have h3:addO C.P T o=addO C.P T' o:=zi3 h0
 have h2:zW ops T o=zW ops T' o:=by
  unfold zW
  cases hg:o.guard with
  | none=>rfl
  | some g =>
   obtain ⟨j,want⟩:=g
   simp only
   unfold qL
   cases hd:(ops[j]?).bind (·.dst) with
   | none=>rfl
   | some d =>
    have:T[d]? = T'[d]? := h d (List.mem_append_right _ (by simp [hg,hd]))
    simp only [this]
 unfold effC
 rw [h1,h2,h3]
theorem zke {C:Cfg} {call:jX} {f:FuncId} {args:List V} {o:Out} {S':zA} {c:Nat} (h:jO C call f args S=some (o,S',c)):c=3 ∨ (c=1∧S'=S):=by
 unfold jO at h
 split at h
 ·obtain ⟨⟨o',S2⟩,h1,h2⟩:=Option.map_eq_some_iff.1 h
  simp only [Prod.mk.injEq] at h2
  exact .inl h2.2.2.symm
 ·split at h
  ·cases h
  ·rename_i ds hds
   cases ha:answer C call f ds with
   | none=>simp [ha] at h
   | some out =>
    simp only [ha] at h
    split at h
    ·simp only [Option.some.injEq,Prod.mk.injEq] at h
     exact .inr ⟨h.2.2.symm,h.2.1.symm⟩
    ·split at h
     ·simp only [Option.some.injEq,Prod.mk.injEq] at h
      exact .inr ⟨h.2.2.symm,h.2.1.symm⟩
     ·split at h
      ·simp only [Option.some.injEq,Prod.mk.injEq] at h
       exact .inl h.2.2.symm
      ·cases h
theorem z1v {C:Cfg} {call:jX} {ops:Array Oper} {i:Nat} {o:Oper} {T:List V} {v:V} {S':zA} {c:Nat} (h:effC C call ops i o T S=some (v,S',c)) :
  (c=0→S'=S ∧ ∀ S2,effC C call ops i o T S2=some (v,S2,0))∧(c=1→S'=S)∧(c=2 → ∃ ob,S[i]? = some .hole∧S'=S.set i ob ∧ ∀ S2,S2[i]? = some Ob.hole→effC C call ops i o T S2=some (v,S2.set i ob,2)):=by
 have hcls:=zu5 (P:=C.P) (S:=S) T o
 obtain ⟨k0,k1,k2,k3,k4⟩:=hcls
 unfold effC at h
 cases hw:zW ops T o with
 | none=>simp [hw] at h
 | some b =>
  cases b with
  | false =>
   simp only [hw,Option.some.injEq,Prod.mk.injEq] at h
   obtain ⟨rfl,rfl,rfl⟩:=h
   exact ⟨fun _=>⟨rfl,fun S2=>by simp [effC,hw]⟩,fun h=>by omega,fun h=>by omega⟩
  | true =>
   simp only [hw] at h
   split at h
   ·rename_i hk
    cases hadd:addO C.P T o with
    | none=>simp [hadd] at h
    | some q =>
     obtain ⟨ob,f⟩:=q
     simp only [hadd] at h
     split at h
     ·rename_i hh
      simp only [Option.some.injEq,Prod.mk.injEq] at h
      obtain ⟨rfl,rfl,rfl⟩:=h
      refine ⟨fun h=>by omega,fun h=>by omega,fun _=>⟨ob,hh,rfl,fun S2 h2=>?_⟩⟩
      simp [effC,hw,hk,hadd,h2]
     ·cases h
   ·rename_i hk
    cases ho:opV C.P S T o with
    | none=>simp [ho] at h
    | some r =>
     simp only [ho] at h
     cases r with
     | val v1 S1 c1 =>
      simp only [Option.some.injEq,Prod.mk.injEq] at h
      obtain ⟨rfl,rfl,rfl⟩:=h
      refine ⟨fun h=>?_,fun h=>?_,fun h=>?_⟩
      ·have hc:c1=0:=by unfold num2 at h; split at h <;> omega
       subst hc
       obtain ⟨e1,e2⟩:=k0 _ _ ho
       exact ⟨e1,fun S2=>by have:=e2 S2; simp only at this; simp [effC,hw,hk,this,num2]⟩
      ·have hc:c1=1:=by unfold num2 at h; split at h <;> omega
       subst hc
       exact (k1 _ _ ho).1
      ·unfold num2 at h; split at h <;> omega
     | skip S1 c1 =>
      simp only [Option.some.injEq,Prod.mk.injEq] at h
      obtain ⟨rfl,rfl,rfl⟩:=h
      exact ⟨fun h=>by omega,fun h=>by omega,fun h=>by omega⟩
     | enter f args =>
      have e4:=k4 _ _ ho
      simp only at h e4
      cases hc:jO C call f args S with
      | none=>simp [hc] at h
      | some q =>
       obtain ⟨out,S1,c1⟩:=q
       cases out with
       | ret v1 =>
        simp only [hc,Option.some.injEq,Prod.mk.injEq] at h
        obtain ⟨rfl,rfl,rfl⟩:=h
        rcases zke hc with rfl | ⟨rfl,e1⟩
        ·exact ⟨fun h=>by simp [num2] at h,fun h=>by simp [num2] at h,fun h=>by simp [num2] at h⟩
        ·exact ⟨fun h=>by simp [num2] at h,fun _=>e1,fun h=>by simp [num2] at h⟩
       | pan v1=>simp [hc] at h
     | dfr f args=>simp at h
     | pan v1=>simp at h
theorem z7c {T:List V} {d:Option Tmp} {v:V} {t:Tmp} (h:d ≠ some t):(putT T d v)[t]? = T[t]? := by
 cases d with
 | none=>rfl
 | some d =>
  simp only [putT]
  rw [List.getElem?_set_ne]
  rintro rfl; exact h rfl
theorem zkt {T:List V} {x y:Option Tmp} {v u:V} (h : ∀ d,x=some d→y ≠ some d):putT (putT T x v) y u=putT (putT T y u) x v:=by
 cases x with
 | none=>rfl
 | some d =>
  cases y with
  | none=>rfl
  | some e =>
   have hne:d ≠ e:=fun he=>h d rfl (he ▸ rfl)
   simp only [putT]
   exact List.set_comm _ _ hne
theorem z17 {ops:Array Oper} {a b:Oper} (h:kU ops a b=true):(∀ d,a.dst=some d→d ∉ zi7 ops b)∧(∀ d,a.dst=some d→b.dst ≠ some d)∧(∀ d,b.dst=some d→d ∉ zi7 ops a):=by
 unfold kU at h
 refine ⟨fun d hd=>?_,fun d hd=>?_,fun d hd=>?_⟩ <;> simp [hd] at h
 ·exact h.1.1
 ·exact h.1.2
 ·exact h.2
theorem z4c {x y:D} (h:jE x y=true):x=y:=by
 cases x <;> cases y <;> simp only [jE,Bool.false_eq_true,Bool.and_eq_true,beq_iff_eq] at h <;> first | (subst h; rfl) | (obtain ⟨rfl,rfl⟩:=h; rfl)
theorem za3 : ∀ {xs ys:List D},wP xs ys=true→xs=ys
 | [],[],_=>rfl
 | [],_::_,h=>by simp [wP] at h
 | _::_,[],h=>by simp [wP] at h
 | x::xs,y::ys,h=>by
  simp only [wP,Bool.and_eq_true] at h
  rw [z4c h.1,za3 h.2]
theorem zkn {f:D→D→Bool} (hf : ∀ x y,f x y=true→x=y) : ∀ {xs ys:List D},all2 f xs ys=true→xs=ys
 | [],[],_=>rfl
 | [],_::_,h=>by simp [all2] at h
 | _::_,[],h=>by simp [all2] at h
 | x::xs,y::ys,h=>by
  simp only [all2,Bool.and_eq_true] at h
  rw [hf _ _ h.1,zkn hf h.2]
theorem zog : ∀ {n:Nat} {x y:D},z1j n x y=true→x=y:=fun {n}=>by
 induction n with
 | zero =>
  intro x y h
  unfold z1j at h
  exact z4c h
 | succ n ih =>
  intro x y h
  cases x <;> cases y <;> simp only [z1j] at h <;> first | exact z4c h | rw [zkn (fun _ _ h=>ih h) h] | rw [ih h]
theorem z6u {x y:V} (h:qP x y=true):x=y:=by
 unfold qP at h
 split at h
 ·rw [zog h]
 ·simp only [Bool.and_eq_true,beq_iff_eq] at h
  obtain ⟨⟨rfl,rfl⟩,rfl⟩:=h; rfl
 ·simp only [beq_iff_eq] at h; subst h; rfl
 ·rw [za3 h]
 ·simp only [Bool.and_eq_true,beq_iff_eq] at h
  obtain ⟨⟨rfl,rfl⟩,rfl⟩:=h; rfl
 ·cases h
theorem z1r : ∀ {xs ys:List V},vK xs ys=true→xs=ys
 | [],[],_=>rfl
 | [],_::_,h=>by simp [vK] at h
 | _::_,[],h=>by simp [vK] at h
 | x::xs,y::ys,h=>by
  simp only [vK,Bool.and_eq_true] at h
  rw [z6u h.1,z1r h.2]
theorem z8i {x y:V} (h:qR x y=true):x=y:=by
 unfold qR at h
 split at h
 ·simp only [Bool.and_eq_true,beq_iff_eq] at h
  obtain ⟨⟨rfl,h1⟩,h2⟩:=h
  rw [z1r h1,z1r h2]
 ·exact z6u h
theorem z6q : ∀ {xs ys:List V},kX xs ys=true→xs=ys
 | [],[],_=>rfl
 | [],_::_,h=>by simp [kX] at h
 | _::_,[],h=>by simp [kX] at h
 | x::xs,y::ys,h=>by
  simp only [kX,Bool.and_eq_true] at h
  rw [z8i h.1,z6q h.2]
theorem zmv {x y:V} (h:wU x y=true):x=y:=by
 unfold wU at h
 split at h
 ·rw [z6q h]
 ·exact z8i h
theorem zkz {C:Cfg} {call:jX} (hcall:jW call) {ops:Array Oper} {i j:Nat} {o1 o2:Oper} {T:List V} {S1 S2:zA} {v1 v2:V} {c1 c2:Nat} (hij:i ≠ j) (h1:effC C call ops i o1 T S=some (v1,S1,c1)) (h2:effC C call ops j o2 (putT T o1.dst v1) S1=some (v2,S2,c2)) (hap:kU ops o1 o2=true) (hcl:z1m c1 c2=true)
  (hh:c2=2→S[j]? = some .hole) (hw:c1=1→2 < c2→effC C call ops i o1 T S2=some (v1,S2,1)) :
  ∃ S',effC C call ops j o2 T S=some (v2,S',c2)∧effC C call ops i o1 (putT T o2.dst v2) S'=some (v1,S2,c1)∧putT (putT T o1.dst v1) o2.dst v2=putT (putT T o2.dst v2) o1.dst v1:=by
 obtain ⟨a1,a2,a3⟩:=z17 hap
 have e2:effC C call ops j o2 T S1=some (v2,S2,c2):=by
  rw [← h2]
  exact z3d (fun t ht=>(z7c (fun h=>a1 t h ht)).symm) S1
 have back : ∀ S',effC C call ops i o1 (putT T o2.dst v2) S'=effC C call ops i o1 T S':=fun S' =>
  z3d (fun t ht=>z7c (fun h=>a3 t h ht)) S'
 have hcomm:putT (putT T o1.dst v1) o2.dst v2=putT (putT T o2.dst v2) o1.dst v1:=zkt a2
 obtain ⟨k0,k1,k2⟩:=z1v h1
 obtain ⟨m0,m1,m2⟩:=z1v e2
 have fin : ∀ S',effC C call ops j o2 T S=some (v2,S',c2)→effC C call ops i o1 T S'=some (v1,S2,c1) → ∃ S',effC C call ops j o2 T S=some (v2,S',c2)∧effC C call ops i o1 (putT T o2.dst v2) S'=some (v1,S2,c1)∧putT (putT T o1.dst v1) o2.dst v2=putT (putT T o2.dst v2) o1.dst v1:=fun S' g1 g2 =>
  ⟨S',g1,by rw [back]; exact g2,hcomm⟩
 by_cases z1:c1=0
 ·subst z1
  obtain ⟨rfl,f1⟩:=k0 rfl
  exact fin _ e2 (f1 _)
 by_cases z2:c2=0
 ·subst z2
  obtain ⟨rfl,f1⟩:=m0 rfl
  exact fin _ (f1 S) h1
 by_cases z3:c2=2
 ·subst z3
  obtain ⟨ob,g1,rfl,g2⟩:=m2 rfl
  have hS:=hh rfl
  exact fin _ (g2 S hS) (vD hcall ob hS hij h1).1
 have z4:c1=1:=by
  unfold z1m at hcl
  simp only [Bool.or_eq_true,beq_iff_eq] at hcl
  omega
 subst z4
 have:=k1 rfl
 subst this
 by_cases z5:c2=1
 ·subst z5
  have:=m1 rfl
  subst this
  exact fin _ e2 h1
 exact fin _ e2 (hw rfl (by omega))
end
section
variable {P:Program} {S:zA} {ρ:Nat→Nat} {A:Nat→Prop} {w w':World}
theorem Inv.fill (h:Inv P S ρ A w) {id:Nat} {o:Ob} (hS:S[id]? = some .hole) (hl:o.live=true) (hsz:w'.heap.size=w.heap.size + 1) (hold : ∀ b,b < w.heap.size→w'.heap[b]? = w.heap[b]?) (h1:w'.os=w.os) (h2:w'.tape=w.tape) (h3:w'.output=w.output)
  (hok:SLe S ρ w (S.set id o) (fun i=>if i=id then w.heap.size else ρ i) w'→(∀ b,A b→w'.heap[b]? = w.heap[b]?)→ObOk P (S.set id o) (fun i=>if i=id then w.heap.size else ρ i) A w' w.heap.size o) :
  Inv P (S.set id o) (fun i=>if i=id then w.heap.size else ρ i) A w'∧Step S ρ A w (S.set id o) (fun i=>if i=id then w.heap.size else ρ i) A w':=by
 have hid:=z1h hS
 have hA : ∀ b,A b→w'.heap[b]? = w.heap[b]? := fun b hb=>hold b (h.lt b hb)
 have hs:SLe S ρ w (S.set id o) (fun i=>if i=id then w.heap.size else ρ i) w':=fun j x hx hne=>by
  have hj:id ≠ j:=by rintro rfl; rw [hS] at hx; cases hx; exact hne rfl
  refine ⟨x,by rw [List.getElem?_set_ne hj]; exact hx,x.le_refl,?_⟩
  by_cases hd:x = .dead
  ·exact .inl hd
  ·exact .inr ⟨by simp [Ne.symm hj],fun c e f hc=>⟨c,e,f,(hold _ (kA hc)).trans hc,rfl⟩⟩
 have hlt : ∀ j x,S[j]? = some x→x.live=true→ρ j < w.heap.size:=fun j x hx hxl=>(h.ok j x hx).lt (by rintro rfl; cases hxl) (by rintro rfl; cases hxl)
 refine ⟨⟨fun j x hx=>?_,fun i j x y hx hy hxl hyl hij=>?_,fun i x hx hxl=>?_,fun b hb=>by have:=h.lt b hb; omega,h.gl.step (fun _ h=>h) hA⟩,⟨h1,h2,h3,by omega,fun b hb _=>hold b hb,hA,fun _ h=>h,fun _ h=>.inl h,fun b hb=>?_,hs⟩⟩
 ·rcases wG hx with ⟨rfl,rfl,_⟩ | ⟨hj,hx'⟩
  ·simp only [if_true]; exact hok hs hA
  ·simp only [if_neg hj]
   exact (h.ok j x hx').mono (fun _ h=>h) hA hs (fun hl=>hold _ (hlt j x hx' hl))
 ·rcases wG hx with ⟨rfl,rfl,_⟩ | ⟨hi,hx'⟩ <;> rcases wG hy with ⟨rfl,rfl,_⟩ | ⟨hj,hy'⟩
  ·rfl
  ·simp only [if_true,if_neg hj] at hij
   have:=hlt j y hy' hyl; omega
  ·simp only [if_true,if_neg hi] at hij
   have:=hlt i x hx' hxl; omega
  ·simp only [if_neg hi,if_neg hj] at hij
   exact h.inj i j x y hx' hy' hxl hyl hij
 ·rcases wG hx with ⟨rfl,rfl,_⟩ | ⟨hi,hx'⟩
  ·simp only [if_true]
   intro hb
   have:=h.lt _ hb; omega
  ·simp only [if_neg hi]; exact h.own i x hx' hxl
 ·obtain ⟨j,x,hx,hxl,rfl⟩:=hb
  rcases wG hx with ⟨rfl,rfl,_⟩ | ⟨hj,hx'⟩
  ·simp only [if_true]; exact .inr (Nat.le_refl _)
  ·simp only [if_neg hj]; exact .inl ⟨j,x,hx',hxl,rfl⟩
theorem Inv.holes (h:Inv P S ρ A w) (n:Nat):Inv P (S ++ List.replicate n .hole) ρ A w∧Step S ρ A w (S ++ List.replicate n .hole) ρ A w:=by
 have split : ∀ i x,(S ++ List.replicate n Ob.hole)[i]? = some x→S[i]? = some x ∨ x=Ob.hole:=fun i x hx=>by
  rw [List.getElem?_append] at hx
  split at hx
  ·exact .inl hx
  ·rw [List.getElem?_replicate] at hx
   split at hx
   ·simp at hx; exact .inr hx.symm
   ·cases hx
 have hs:SLe S ρ w (S ++ List.replicate n .hole) ρ w:=fun j x hx _ =>
  ⟨x,by rw [List.getElem?_append_left (z1h hx)]; exact hx,x.le_refl,.inr ⟨rfl,fun c e f hc=>⟨c,e,f,hc,rfl⟩⟩⟩
 refine ⟨⟨fun j x hx=>?_,fun i j x y hx hy hxl hyl hij=>?_,fun i x hx hxl=>?_,h.lt,h.gl⟩,⟨rfl,rfl,rfl,Nat.le_refl _,fun _ _ _=>rfl,fun _ _=>rfl,fun _ h=>h,fun _ h=>.inl h,fun b hb=>?_,hs⟩⟩
 ·rcases split j x hx with h' | rfl
  ·exact (h.ok j x h').mono (fun _ h=>h) (fun _ _=>rfl) hs (fun _=>rfl)
  ·trivial
 ·rcases split i x hx with hx' | rfl
  ·rcases split j y hy with hy' | rfl
   ·exact h.inj i j x y hx' hy' hxl hyl hij
   ·cases hyl
  ·cases hxl
 ·rcases split i x hx with hx' | rfl
  ·exact h.own i x hx' hxl
  ·cases hxl
 ·obtain ⟨j,x,hx,hxl,rfl⟩:=hb
  rcases split j x hx with hx' | rfl
  ·exact .inl ⟨j,x,hx',hxl,rfl⟩
  ·cases hxl
end
section
variable {P:Program} {S:zA} {ρ:Nat→Nat} {A:Nat→Prop} {w w':World}
def Lays (P:Program) (S:zA) (ρ:Nat→Nat) (A:Nat→Prop) (w w':World) (o:Ob) (f:Nat→V) (u:Value):Prop :=
 o.live=true∧w'.heap.size=w.heap.size + 1∧(∀ b,b < w.heap.size→w'.heap[b]? = w.heap[b]?)∧w'.os=w.os∧w'.tape=w.tape∧w'.output=w.output ∧
 (∀ S' ρ',SLe S ρ w S' ρ' w'→(∀ b,A b→w'.heap[b]? = w.heap[b]?)→ObOk P S' ρ' A w' w.heap.size o) ∧
 (∀ (S':zA) ρ' id,S'[id]? = some o→ρ' id=w.heap.size→RepV P S' ρ' A w' (f id) u)
theorem zfv {e:TypeId} {z:V} {u:Value} (hf:qA P e z=true) (hz:RepV P S ρ A w z u):Lays P S ρ A w (w.alloc (.cells u.cells e)) (.row [z] e) (fun id=>.ref id 0 0) (.pointer (some ⟨w.heap.size,0,none⟩)):=by
 obtain ⟨hzw,k,hk,hk1,hk2⟩:=wR hf hz
 have hzc:=jD hzw
 refine ⟨rfl,by simp,fun b hb=>kI _ hb,rfl,rfl,rfl,fun S' ρ' hs hA=>?_,fun S' ρ' id h1 h2=>?_⟩
 ·simp only [ObOk]
  refine ⟨k,u.cells,u.cells.toList,[],hk,jG _,by simp,?_⟩
  simp only [qN]
  exact ⟨u.cells.toList,[],by simp,by simpa using hk1,kY (fun _ h=>h) hA hs _ _ hzc,rfl⟩
 ·refine zT ((zH rfl).2 ?_)
  simp only [zR]
  refine ⟨_,rfl,?_⟩
  unfold RefPl
  simp [h1,h2,hk]
theorem znj:Lays P S ρ A w (w.alloc (.map #[] 0)) (.mp [] 0) .mr (.map (some w.heap.size)):=by
 refine ⟨rfl,by simp,fun b hb=>kI _ hb,rfl,rfl,rfl,fun S' ρ' hs hA=>?_,fun S' ρ' id h1 h2=>?_⟩
 ·simp only [ObOk]
  exact ⟨#[],jG _,by simp [jI],by simp,by simp⟩
 ·refine zT ((zH rfl).2 ?_)
  simp only [zR]
  exact ⟨_,rfl,by unfold MapPl; simp [h1,h2]⟩
theorem zin (s:List UInt8):Lays P S ρ A w (w.alloc (.stringIter ⟨s.toArray⟩ 0)) (.iter s 0) .it (.pointer (some ⟨w.heap.size,0,none⟩)):=by
 refine ⟨rfl,by simp,fun b hb=>kI _ hb,rfl,rfl,rfl,fun S' ρ' hs hA=>?_,fun S' ρ' id h1 h2=>?_⟩
 ·simp only [ObOk]
  exact jG _
 ·refine zT ((zH rfl).2 ?_)
  simp only [zR]
  exact ⟨_,rfl,by unfold ItPl; simp [h1,h2]⟩
theorem zh3 {t e:TypeId} {l c:Int} {z:V} (hu:P.underlying t=some (.slice e)) (hz:zeroV P e=some z) (hb:0 ≤ l∧l ≤ c∧c ≤ 9223372036854775807) (hr:room P e c.toNat=true∧qA P e z=true) :
  ∃ w' u,(Instr.makeSlice t (.int .i64 l) (.int .i64 c)).run P w = .ok u w'∧Lays P S ρ A w w' (.row (List.replicate c.toNat z) e) (fun id=>.rs id 0 l.toNat) u:=by
 obtain ⟨h1,h2,h3⟩:=z1i hr.2
 obtain ⟨i,d,hi,hik,hd⟩:=z2i h3
 obtain ⟨r1,r2⟩:=z4m hr.1 hi
 unfold zeroV at hz
 simp only [hi,Option.bind_some] at hz
 cases hzz:i.zero with
 | none=>simp [hzz] at hz
 | some z0 =>
  simp only [hzz,Option.bind_some] at hz
  have hzr:=z0l (P:=P) (S:=S) (ρ:=ρ) (A:=A) (w:=w) hz
  have hzc:=jD hzr
  have hzl:z0.cells.size=i.size:=by
   have:=qY hzc
   simp only [Array.length_toList] at this
   omega
  have wl:IntKind.i64.wrap l=l:=IntWalk.i64_in _ (by omega)
  have wc:IntKind.i64.wrap c=c:=IntWalk.i64_in _ (by omega)
  have hrow:=z27 hzc hzl c.toNat
  have t1 : ¬ ((i.bytes:Int) * c > 2 ^ 48):=by
   have:(i.bytes:Int) * c=((c.toNat * i.bytes:Nat):Int):=by
    rw [Nat.mul_comm,Int.natCast_mul,Int.toNat_of_nonneg (by omega)]
   rw [this]; omega
  have hrun:(Instr.makeSlice t (.int .i64 l) (.int .i64 c)).run P w = .ok (.slice (some ⟨w.heap.size,0,none⟩) l.toNat c.toNat) (w.alloc (.cells ((Array.range (c.toNat * i.size)).map fun j=>z0.cells[j % i.size]!) e)):=by
   have hneg : ¬ c < 0:=by omega
   have hl0 : ¬ l < 0:=by omega
   have hlc : ¬ c < l:=by omega
   have t1' : ¬ (281474976710656 < (i.bytes:Int) * c):=by have:=t1; omega
   by_cases hn:c.toNat * i.size=0
   ·simp [Instr.makeSlice,run_underlying hu,asInt,asIntOf,typeInfo,hi,wl,wc,hneg,hl0,hlc,t1',sizeOf,newRow,hn,Array.range_zero']
   ·simp [Instr.makeSlice,run_underlying hu,asInt,asIntOf,typeInfo,hi,wl,wc,hneg,hl0,hlc,t1',sizeOf,newRow,hn,zeroValue,hzz,hzl]
  refine ⟨_,_,hrun,rfl,by simp,fun b hb=>kI _ hb,rfl,rfl,rfl,fun S' ρ' hs hA=>?_,fun S' ρ' id g1 g2=>?_⟩
  ·simp only [ObOk]
   exact ⟨i.size,_,_,[],by rw [h3,hik],jG _,by rw [List.append_nil],jC (fun _ h=>h) hA hs _ _ _ hrow⟩
  ·refine zT ((zH rfl).2 ?_)
   simp only [zR]
   refine ⟨_,_,rfl,?_⟩
   unfold RowPl
   simp only [g1]
   refine ⟨i.size,by rw [h3,hik],.inl (by simp [g2]),by simp; omega,by omega,_,e,(0,0),by rw [g2]; exact jG _,by simp⟩
theorem zn0 (hI:Inv P S ρ A w) {T:List V} {a:Act} (hT:RepT P S ρ A w T a.tmps.toList) {o:Oper} {ob:Ob} {f:Nat→V} (h:addO P T o=some (ob,f)) : ∃ u w',(execOp a.eval o).run P w = .ok (.value u) w'∧Lays P S ρ A w w' ob f u:=by
 have ev:=fun x=>z1g hT x
 unfold addO at h
 unfold execOp
 split at h
 ·rename_i e hop
  simp only [hop]
  split at h
  ·rename_i z hz
   split at h
   ·rename_i hf
    simp only [Option.some.injEq,Prod.mk.injEq] at h; obtain ⟨rfl,rfl⟩:=h
    obtain ⟨zv,hz1,hz2⟩:=z2t (S:=S) (ρ:=ρ) (A:=A) (w:=w) hz
    exact ⟨_,_,wV _ (u:= .pointer (some ⟨w.heap.size,0,none⟩)) (by simp [Instr.alloc,hz1,newVar,newRow]),zfv hf (zT hz2)⟩
   ·cases h
  ·cases h
 ·rename_i e x hop
  simp only [hop]
  split at h
  ·rename_i hf
   simp only [Option.some.injEq,Prod.mk.injEq] at h; obtain ⟨rfl,rfl⟩:=h
   exact ⟨_,_,wV _ (u:= .pointer (some ⟨w.heap.size,0,none⟩)) (by simp [Instr.box,newVar,newRow]),zfv hf (ev x)⟩
  ·cases h
 ·rename_i t r hop
  simp only [hop]
  split at h
  ·simp only [Option.some.injEq,Prod.mk.injEq] at h; obtain ⟨rfl,rfl⟩:=h
   exact ⟨_,_,wV _ (u:= .map (some w.heap.size)) (by simp [Instr.makeMap]),znj⟩
  ·cases h
 ·rename_i t l c hop
  simp only [hop]
  split at h
  ·rename_i e hu
   split at h
   ·rename_i l' c' z hl hc hz
    split at h
    ·rename_i hb
     split at h
     ·rename_i hr
      simp only [Bool.and_eq_true] at hr
      simp only [Option.some.injEq,Prod.mk.injEq] at h; obtain ⟨rfl,rfl⟩:=h
      have e1:=ev l
      have e2:=ev c
      rw [hl] at e1
      rw [hc] at e2
      rw [vL e1,vL e2]
      obtain ⟨w',u,g1,g2⟩:=zh3 (S:=S) (ρ:=ρ) (A:=A) (w:=w) hu hz hb hr
      exact ⟨u,w',wV _ g1,g2⟩
     ·cases h
    ·cases h
   ·cases h
  ·cases h
 ·rename_i t x hop
  simp only [hop]
  split at h
  ·rename_i hu
   split at h
   ·rename_i s hx
    simp only [Option.some.injEq,Prod.mk.injEq] at h; obtain ⟨rfl,rfl⟩:=h
    have e1:=ev x
    rw [hx] at e1
    have hx':=(zE rfl).1 (jK.1 e1)
    simp only [RepC,List.cons.injEq,and_true] at hx'
    exact ⟨_,_,wV _ (u:= .pointer (some ⟨w.heap.size,0,none⟩)) (by simp [Instr.range,run_underlying hu,hx']),zin s⟩
   ·cases h
  ·cases h
 ·cases h
end
abbrev wY:=Nat × (zA→Prop)→Prop
def z3j (C:Cfg) (call:jX) (ops:Array Oper) (i:Nat) (o:Oper) (T:List V) (v:V):zA→Prop:=fun S=>effC C call ops i o T S=some (v,S,1)
def RunsW (C:Cfg) (call:jX) (ops:Array Oper) (b:List Nat) (base:Nat):wY→List (Nat × Nat)→List V→zA→List V→zA→Prop
 | _,[],T,S,T',S'=>T=T'∧S=S'
 | ws,p::r,T,S,T',S'=>∃ o v S1,ops[p.1]? = some o∧effC C call ops (base + p.1) o T S=some (v,S1,p.2)∧(2 < p.2 → ∀ x,ws x→(b.getD p.1 0).testBit x.1=true ∨ x.2 S1) ∧
   RunsW C call ops b base (fun x=>ws x ∨ (p.2=1∧x=(p.1,z3j C call ops (base + p.1) o T v))) r (putT T o.dst v) S1 T' S'
theorem RunsW.mono {C:Cfg} {call:jX} {ops:Array Oper} {b:List Nat} {base:Nat} : ∀ {r:List (Nat × Nat)} {ws ws':wY} {T T':List V} {S S':zA},(∀ x,ws' x→ws x)→RunsW C call ops b base ws r T S T' S'→RunsW C call ops b base ws' r T S T' S'
 | [],_,_,_,_,_,_,_,h=>h
 | p::r,ws,ws',T,T',S,S',hle,h=>by
  obtain ⟨o,v,S1,h1,h2,h3,h4⟩:=h
  exact ⟨o,v,S1,h1,h2,fun hp x hx=>h3 hp x (hle x hx),h4.mono (fun x hx=>hx.imp (hle x) id)⟩
theorem z6c {C:Cfg} {call:jX} {ops:Array Oper} {b:List Nat} {base i:Nat} {S':zA} {w:Nat × List V × V} {o:Oper} (ho:ops[w.1]? = some o) (h:jN C call ops b base i S' w=true):(b.getD i 0).testBit w.1=true ∨ z3j C call ops (base + w.1) o w.2.1 w.2.2 S':=by
 unfold jN at h
 rw [Bool.or_eq_true] at h
 rcases h with h | h
 ·exact .inl h
 ·right
  simp only [ho] at h
  split at h
  ·rename_i v' S2 he
   have hs:=(z1v he).2.1 rfl
   subst hs
   rw [zmv h]
   exact he
  ·cases h
theorem z5d {C:Cfg} {call:jX} {ops:Array Oper} {b:List Nat} {base:Nat} : ∀ {l:List Nat} {ws:List (Nat × List V × V)} {W:wY} {T T':List V} {S S':zA} {cs:List (Nat × Nat)},
  (∀ x,W x → ∃ w ∈ ws,∃ o,ops[w.1]? = some o∧x=(w.1,z3j C call ops (base + w.1) o w.2.1 w.2.2))→seqC C call ops b base ws l T S=some (T',S',cs)→RunsW C call ops b base W cs T S T' S'
 | [],ws,W,T,T',S,S',cs,hW,h=>by
  simp only [seqC,Option.some.injEq,Prod.mk.injEq] at h
  obtain ⟨rfl,rfl,rfl⟩:=h
  exact ⟨rfl,rfl⟩
 | i::l,ws,W,T,T',S,S',cs,hW,h=>by
  simp only [seqC] at h
  cases ho:ops[i]? with
  | none=>simp [ho] at h
  | some o =>
   simp only [ho] at h
   cases he:effC C call ops (base + i) o T S with
   | none=>simp [he] at h
   | some q =>
    obtain ⟨v,S1,c⟩:=q
    simp only [he] at h
    split at h
    ·cases h
    ·rename_i hc
     cases hr:seqC C call ops b base (if c=1 then (i,T,v)::ws else ws) l (putT T o.dst v) S1 with
     | none=>simp [hr] at h
     | some q2 =>
      obtain ⟨T2,S2,cs2⟩:=q2
      simp only [hr,Option.some.injEq,Prod.mk.injEq] at h
      obtain ⟨rfl,rfl,rfl⟩:=h
      refine ⟨o,v,S1,ho,he,fun hp x hx=>?_,z5d (fun x hx=>?_) hr⟩
      ·obtain ⟨w,hw,o2,ho2,rfl⟩:=hW x hx
       have hall:(ws.all (jN C call ops b base i S1))=true:=by
        cases hv:ws.all (jN C call ops b base i S1) with
        | true=>rfl
        | false=>exact absurd ⟨hp,hv⟩ hc
       rw [List.all_eq_true] at hall
       exact z6c ho2 (hall w hw)
      ·rcases hx with hx | ⟨h1,rfl⟩
       ·obtain ⟨w,hw,o2,ho2,rfl⟩:=hW x hx
        exact ⟨w,by split <;> simp [hw],o2,ho2,rfl⟩
       ·simp only at h1
        subst h1
        exact ⟨(i,T,v),by simp,o,ho,rfl⟩
def z9t (base:Nat) (ws:wY):Prop:= ∀ x,ws x → ∀ (S:zA) (j:Nat) (ob:Ob),j ≠ x.1→S[base + j]? = some .hole→x.2 S→x.2 (S.set (base + j) ob)
theorem zbj {C:Cfg} {call:jX} (hcall:jW call) {ops:Array Oper} {base i:Nat} {o:Oper} {T:List V} {v:V} {S:zA} {j:Nat} {ob:Ob} (hj:j ≠ i) (hS:S[base + j]? = some .hole) (h:z3j C call ops (base + i) o T v S):z3j C call ops (base + i) o T v (S.set (base + j) ob) :=
 (vD hcall ob hS (by omega) h).1
theorem zh0 {C:Cfg} {call:jX} (hcall:jW call) {ops:Array Oper} {b:List Nat} {base:Nat} {ws:wY} {p q:Nat × Nat} {r:List (Nat × Nat)} {T T':List V} {S S':zA} (hcl:z9t base ws) (hws : ∀ x,ws x→x.1 ≠ q.1) (hpq:p.1 ≠ q.1) {x y:Oper} (hx:ops[p.1]? = some x) (hy:ops[q.1]? = some y) (hap:kU ops x y=true) (hc:z1m p.2 q.2=true) (hbit:(b.getD q.1 0).testBit p.1=false)
  (hh:q.2=2→S[base + q.1]? = some .hole) (h:RunsW C call ops b base ws (p::q::r) T S T' S'):RunsW C call ops b base ws (q::p::r) T S T' S':=by
 obtain ⟨o1,v1,S1,e1,e2,e3,o2,v2,S2,e4,e5,e6,e7⟩:=h
 rw [hx] at e1; cases e1
 rw [hy] at e4; cases e4
 obtain ⟨S3,g1,g2,g3⟩:=zkz hcall (by omega) e2 e5 hap hc hh (fun h1 h3=>by
  rcases e6 h3 _ (.inr ⟨h1,rfl⟩) with h | h
  ·rw [hbit] at h; cases h
  ·exact h)
 have hcc:=hc
 unfold z1m at hcc
 simp only [Bool.or_eq_true,beq_iff_eq] at hcc
 refine ⟨_,v2,S3,hy,g1,fun hq w hw=>?_,_,v1,S2,hx,g2,fun hp w hw=>?_,?_⟩
 ·
  have hS:S2=S3:=by
   have hp2:p.2=0 ∨ p.2=1:=by omega
   rcases hp2 with h0 | h1
   ·exact ((z1v g2).1 h0).1
   ·exact (z1v g2).2.1 h1
  subst hS
  exact e6 hq w (.inl hw)
 ·rcases hw with hw | ⟨h1,_⟩
  ·rcases e3 hp w hw with h | h
   ·exact .inl h
   ·right
    have hq2:q.2=0 ∨ q.2=2:=by omega
    rcases hq2 with h0 | h2
    ·have:=((z1v e5).1 h0).1
     rw [this]; exact h
    ·obtain ⟨ob,k1,rfl,_⟩:=(z1v e5).2.2 h2
     exact hcl w hw S1 q.1 ob (fun he=>hws w hw he.symm) k1 h
  ·omega
 ·rw [← g3]
  refine e7.mono fun w hw=>?_
  obtain ⟨a1,a2,a3⟩:=z17 hap
  rcases hw with (hw | ⟨h1,rfl⟩) | ⟨h1,rfl⟩
  ·exact .inl (.inl hw)
  ·right
   refine ⟨h1,?_⟩
   congr 1
   funext S4
   unfold z3j
   rw [z3d (fun t ht=>z7c (fun h=>a1 t h ht)) S4]
  ·left; right
   refine ⟨h1,?_⟩
   congr 1
   funext S4
   unfold z3j
   rw [z3d (fun t ht=>z7c (fun h=>a3 t h ht)) S4]
section
variable {P:Program}
def zrq (base:Nat) (rem:List (Nat × Nat)) (S:zA):Prop:= ∀ p ∈ rem,p.2=2→S[base + p.1]? = some .hole
def zjo (ops:Array Oper) (b:List Nat) (p q:Nat × Nat):Prop:=p.1 ≠ q.1∧(b.getD q.1 0).testBit p.1=false ∧ ∃ x y,ops[p.1]? = some x∧ops[q.1]? = some y∧kU ops x y=true∧z1m p.2 q.2=true
theorem z35 {C:Cfg} {call:jX} (hcall:jW call) {ops:Array Oper} {base:Nat} {ws:wY} {p:Nat × Nat} {o:Oper} {T:List V} {v:V} (h:z9t base ws):z9t base (fun x=>ws x ∨ (p.2=1∧x=(p.1,z3j C call ops (base + p.1) o T v))):=by
 intro x hx S j ob hj hS hp
 rcases hx with hx | ⟨_,rfl⟩
 ·exact h x hx S j ob hj hS hp
 ·exact zbj hcall hj hS hp
theorem z11 {C:Cfg} {call:jX} (hcall:jW call) {ops:Array Oper} {b:List Nat} {base:Nat} {p:Nat × Nat} {l2:List (Nat × Nat)} {T':List V} {S':zA} : ∀ {l1:List (Nat × Nat)} {ws:wY} {T:List V} {S:zA},z9t base ws→(∀ x,ws x→x.1 ≠ p.1)→(p.2=2→S[base + p.1]? = some .hole)→RunsW C call ops b base ws (l1 ++ p::l2) T S T' S'→(∀ q ∈ l1,zjo ops b q p)→RunsW C call ops b base ws (p::(l1 ++ l2)) T S T' S'
 | [],ws,T,S,_,_,_,h,_=>h
 | q::l1,ws,T,S,hcl,hws,hh,h,ha=>by
  obtain ⟨o1,v1,S1,h1,h2,h3,h4⟩:=h
  obtain ⟨hne,hbit,x,y,hx,hy,e1,e2⟩:=ha q (by simp)
  have g:=z11 hcall (z35 hcall hcl) (fun z hz=>by
   rcases hz with hz | ⟨_,rfl⟩
   ·exact hws z hz
   ·exact hne) (fun h2'=>(vD hcall .hole (hh h2') (by omega) h2).2) h4 (fun q' hq=>ha q' (by simp [hq]))
  exact zh0 hcall hcl hws hne hx hy e1 e2 hbit hh ⟨o1,v1,S1,h1,h2,h3,g⟩
theorem z71 {C:Cfg} {call:jX} {ops:Array Oper} {b:List Nat} {base:Nat} {T':List V} {S':zA} : ∀ {l:List (Nat × Nat)} {ws:wY} {T:List V} {S:zA},RunsW C call ops b base ws l T S T' S' → ∀ p ∈ l,p.1 < ops.size
 | [],_,_,_,_,p,hp=>by simp at hp
 | q::l,ws,T,S,h,p,hp=>by
  obtain ⟨o,v,S1,h1,_,_,h3⟩:=h
  rcases List.mem_cons.1 hp with rfl | hp
  ·rcases Nat.lt_or_ge p.1 ops.size with h' | h'
   ·exact h'
   ·simp [h'] at h1
  ·exact z71 h3 p hp
theorem zmk {C:Cfg} {call:jX} {ops:Array Oper} {i:Nat} {o:Oper} {T:List V} {S S':zA} {v:V} (h:effC C call ops i o T S=some (v,S',2)):jP o=true:=by
 cases hk:jP o with
 | true=>rfl
 | false =>
  exfalso
  unfold effC at h
  split at h
  ·cases h
  ·simp at h
  ·rw [if_neg (by simp [hk])] at h
   have n2 : ∀ c,num2 c ≠ 2:=fun c=>by unfold num2; split <;> omega
   split at h
   ·simp only [Option.some.injEq,Prod.mk.injEq] at h; exact n2 _ h.2.2
   ·simp at h
   ·split at h
    ·simp only [Option.some.injEq,Prod.mk.injEq] at h; exact n2 _ h.2.2
    ·cases h
   ·cases h
theorem za9 {C:Cfg} {call:jX} {ops:Array Oper} {b:List Nat} {base:Nat} {T':List V} {S':zA} : ∀ {l:List (Nat × Nat)} {ws:wY} {T:List V} {S:zA},RunsW C call ops b base ws l T S T' S' → ∀ p ∈ l,p.2=2→vH ops=ops.size
 | [],_,_,_,_,p,hp,_=>by simp at hp
 | q::l,ws,T,S,h,p,hp,h2=>by
  obtain ⟨o,v,S1,h1,h4,_,h3⟩:=h
  rcases List.mem_cons.1 hp with rfl | hp
  ·rw [h2] at h4
   have hk:=zmk h4
   unfold vH
   rw [if_pos]
   rw [Array.any_eq_true']
   exact ⟨o,Array.mem_of_getElem? h1,hk⟩
  ·exact za9 h3 p hp h2
theorem z6p {acc:List Nat} {j:Nat} : ∀ {es:List Edge} {s:Nat},(z3u acc es s).testBit j=true→s.testBit j=true ∨ ∃ e ∈ es,Region.binds .any e=true∧(e.on=j ∨ (acc.getD e.on 0).testBit j=true)
 | [],s,h=>.inl h
 | e::r,s,h=>by
  simp only [z3u] at h
  rcases z6p h with h | ⟨e',h1,h2⟩
  ·split at h
   ·rename_i hb
    rw [Nat.testBit_or,Nat.testBit_or,Bool.or_eq_true,Bool.or_eq_true] at h
    rcases h with (h | h) | h
    ·exact .inl h
    ·rw [Nat.testBit_two_pow] at h
     exact .inr ⟨e,by simp,hb,.inl (by simpa using h)⟩
    ·exact .inr ⟨e,by simp,hb,.inr h⟩
   ·exact .inl h
  ·exact .inr ⟨e',by simp [h1],h2⟩
theorem z9w : ∀ {l:List Oper} {acc:List Nat},(∃ X,zar acc l=acc ++ X∧X.length=l.length) ∧ ∀ k o,l[k]? = some o→(zar acc l).getD (acc.length + k) 0=z3u ((zar acc l).take (acc.length + k)) o.after.toList 0
 | [],acc=>⟨⟨[],by simp [zar],rfl⟩,fun k o h=>by simp at h⟩
 | o::r,acc=>by
  obtain ⟨⟨X,hX,hl⟩,ih⟩:=z9w (l:=r) (acc:=acc ++ [z3u acc o.after.toList 0])
  refine ⟨⟨z3u acc o.after.toList 0::X,by simp [zar,hX],by simp [hl]⟩,fun k o' h=>?_⟩
  cases k with
  | zero =>
   simp at h; subst h
   simp only [zar,hX,Nat.add_zero]
   simp [List.getD_eq_getElem?_getD]
  | succ k =>
   simp at h
   have:=ih k o' h
   simp only [List.length_append,List.length_cons,List.length_nil,Nat.zero_add] at this
   simp only [zar]
   rw [show acc.length + (k + 1)=acc.length + 1 + k by omega]
   exact this
theorem zbw {ops:Array Oper} {k j:Nat} (h:((befs ops).getD k 0).testBit j=true) : ∃ o,ops[k]? = some o ∧ ∃ e ∈ o.after.toList,Region.binds .any e=true∧(e.on=j ∨ ((befs ops).getD e.on 0).testBit j=true):=by
 obtain ⟨⟨X,hX,hl⟩,hs⟩:=z9w (l:=ops.toList) (acc:=[])
 have hlen:(befs ops).length=ops.size:=by simp [befs,hX,hl]
 cases ho:ops[k]? with
 | none =>
  have:(befs ops).getD k 0=0:=by
   have hk:ops.size ≤ k:=by simpa using ho
   simp [List.getD_eq_getElem?_getD,List.getElem?_eq_none (by omega:(befs ops).length ≤ k)]
  rw [this] at h; simp at h
 | some o =>
  refine ⟨o,rfl,?_⟩
  have:=hs k o (by simpa using ho)
  simp only [List.length_nil,Nat.zero_add] at this
  rw [befs,this] at h
  rcases z6p h with h | ⟨e,h1,h2,h3⟩
  ·simp at h
  ·refine ⟨e,h1,h2,h3.imp id fun h3=>?_⟩
   simp only [List.getD_eq_getElem?_getD,List.getElem?_take] at h3 ⊢
   split at h3
   ·exact h3
   ·simp at h3
theorem z04 : ∀ {l:List Oper} {i:Nat},z40 l i=true → ∀ k o,l[k]? = some o → ∀ e ∈ o.after.toList,Region.binds .any e=true→e.on < i + k
 | [],i,_,k,o,h=>by simp at h
 | x::r,i,hk,k,o,h=>by
  simp only [z40,Bool.and_eq_true] at hk
  cases k with
  | zero =>
   simp at h; subst h
   intro e he hb
   have:=hk.1
   rw [Array.all_eq_true'] at this
   have:=this e (by simpa using he)
   rw [hb] at this
   simpa using this
  | succ k =>
   simp at h
   intro e he hb
   have:=z04 hk.2 k o h e he hb
   omega
theorem ze8 {C:Cfg} {call:jX} (hext:z5o C) (hrun:z95 C.P call) {ops:Array Oper} {i id:Nat} {o:Oper} {S S1:zA} {T:List V} {v:V} {c:Nat} (hget:ops[i]? = some o) (h:effC C call ops id o T S=some (v,S1,c))
  {ρ:Nat→Nat} {A:Nat→Prop} {w:World} {a:Act} {F:Dfs} {Q:Exit→Act→World→Prop} {K:Act→World→Prop} (hI:Inv C.P S ρ A w) (hT:RepT C.P S ρ A w T a.tmps.toList) (hF:DfOk C.P S ρ A w F a.defers)
  (hK : ∀ ρ' A' w' a',Inv C.P S1 ρ' A' w'→Step S ρ A w S1 ρ' A' w'→RepT C.P S1 ρ' A' w' (putT T o.dst v) a'.tmps.toList→DfOk C.P S1 ρ' A' w' F a'.defers→K a' w'):wpOp C.P ops Q i K a w:=by
 unfold wpOp
 simp only [hget]
 unfold effC at h
 cases hw:zW ops T o with
 | none=>simp [hw] at h
 | some b =>
  rw [z2w hw hT]
  simp only [hw] at h
  cases b with
  | false =>
   simp only [Bool.false_eq_true,if_false]
   simp only [Option.some.injEq,Prod.mk.injEq] at h
   obtain ⟨rfl,rfl,rfl⟩:=h
   exact hK ρ A w _ hI .refl (vC hT vJ) (by rw [put_defers]; exact hF)
  | true =>
   simp only [if_true]
   refine .inl ?_
   cases hk:jP o with
   | true =>
    simp only [hk,if_true] at h
    cases hadd:addO C.P T o with
    | none=>simp [hadd] at h
    | some q =>
     obtain ⟨ob,f⟩:=q
     simp only [hadd] at h
     split at h
     ·rename_i hh
      simp only [Option.some.injEq,Prod.mk.injEq] at h
      obtain ⟨rfl,rfl,rfl⟩:=h
      obtain ⟨u,w',g1,g2,g3,g4,g5,g6,g7,g8,g9⟩:=zn0 hI hT hadd
      obtain ⟨k1,k2⟩:=hI.fill (w':=w') hh g2 g3 g4 g5 g6 g7 (fun hs hA=>g8 _ _ hs hA)
      unfold Oper.wp
      rw [g1]
      refine hK _ _ _ _ k1 k2 (vC (kC k2.amono k2.keepA k2.sle _ _ hT) (g9 _ _ id (by simp [z1h hh]) (by simp))) (by rw [put_defers]; exact kB k2 hF)
     ·cases h
   | false =>
    simp only [hk,Bool.false_eq_true,if_false] at h
    cases ho:opV C.P S T o with
    | none=>simp [ho] at h
    | some rs =>
     refine zee hI hT ho ?_
     cases rs with
     | val v S2 c2 =>
      simp only [ho,Option.some.injEq,Prod.mk.injEq] at h
      obtain ⟨rfl,rfl,rfl⟩:=h
      intro ρ1 A1 w1 u h1 h2 h3
      exact hK _ _ _ _ h1 h2 (vC (kC h2.amono h2.keepA h2.sle _ _ hT) h3) (by rw [put_defers]; exact kB h2 hF)
     | skip S2 c2 =>
      simp only [ho,Option.some.injEq,Prod.mk.injEq] at h
      obtain ⟨rfl,rfl,rfl⟩:=h
      intro ρ1 A1 w1 h1 h2
      exact hK _ _ _ _ h1 h2 (vC (kC h2.amono h2.keepA h2.sle _ _ hT) vJ) (by rw [put_defers]; exact kB h2 hF)
     | enter f args =>
      simp only [ho] at h
      intro us hus
      cases hc:jO C call f args S with
      | none=>simp [hc] at h
      | some q =>
       obtain ⟨out,S2,c2⟩:=q
       cases out with
       | pan v=>simp [hc] at h
       | ret v =>
        simp only [hc,Option.some.injEq,Prod.mk.injEq] at h
        obtain ⟨rfl,rfl,rfl⟩:=h
        refine (zau hext hrun hc hI hus).mono fun e w1 he=>?_
        cases e with
        | returned u =>
         obtain ⟨y,hy,ρ1,A1,h1,h2,h3⟩:=he
         cases hy
         exact hK _ _ _ _ h1 h2 (vC (kC h2.amono h2.keepA h2.sle _ _ hT) h3) (by rw [put_defers]; exact kB h2 hF)
        | panicked chain =>
         obtain ⟨y,v,hy,_⟩:=he
         cases hy
        | outgrown=>exact he.elim
     | dfr f args=>simp [ho] at h
     | pan v=>simp [ho] at h
theorem z3t {ops:Array Oper} {b:List Nat} {p:Nat × Nat} {l2:List (Nat × Nat)} : ∀ {l1:List (Nat × Nat)},z06 ops b (l1 ++ p::l2)=true→(∀ q ∈ l1,z22 ops b q p=true)∧(∀ q ∈ l2,z22 ops b p q=true)∧z06 ops b (l1 ++ l2)=true
 | [],h=>by
  simp only [List.nil_append,z06,Bool.and_eq_true,List.all_eq_true] at h
  exact ⟨fun q hq=>by simp at hq,h.1,h.2⟩
 | x::l1,h=>by
  simp only [List.cons_append,z06,Bool.and_eq_true,List.all_eq_true] at h
  obtain ⟨g1,g2,g3⟩:=z3t h.2
  refine ⟨fun q hq=>?_,g2,?_⟩
  ·rcases List.mem_cons.1 hq with rfl | hq
   ·exact h.1 p (by simp)
   ·exact g1 q hq
  ·simp only [List.cons_append,z06,Bool.and_eq_true,List.all_eq_true]
   exact ⟨fun q hq=>h.1 q (by rcases List.mem_append.1 hq with hq | hq <;> simp [hq]),g3⟩
theorem zyr {C:Cfg} {call:jX} (hext:z5o C) (hrun:z95 C.P call) (hcall:jW call) {ops:Array Oper} {base:Nat} (hedge:z40 ops.toList 0=true) {T':List V} {S':zA} {F:Dfs} : ∀ (fuel:Nat) {rem:List (Nat × Nat)} {listed:Array Bool} {S:zA} {T:List V} {ws:wY},rem.length=fuel→RunsW C call ops (befs ops) base ws rem T S T' S'→z9t base ws→(∀ x,ws x → ∀ p ∈ rem,x.1 ≠ p.1)→zrq base rem S→z06 ops (befs ops) rem=true →
  listed.size=ops.size→(∀ i,i < ops.size→(listed[i]? = some false ↔ ∃ c,(i,c) ∈ rem))→(∀ k j,listed[k]? = some true→((befs ops).getD k 0).testBit j=true→listed[j]? = some true) →
  ∀ {ρ:Nat→Nat} {A:Nat→Prop} {w:World} {a:Act} {Q:Exit→Act→World→Prop},Inv C.P S ρ A w→RepT C.P S ρ A w T a.tmps.toList→DfOk C.P S ρ A w F a.defers→(∀ a' w',St C.P S ρ A w T' S' F a' w'→Q .normal a' w') →
  wpAny C.P .any ops Q fuel listed a w:=by
 intro fuel
 induction fuel with
 | zero =>
  intro rem listed S T ws hlen hruns hclo hwsn hhol hpair hsz hrem hcl ρ A w a Q hI hT hF hQ
  have:rem=[]:=by simpa using hlen
  subst this
  obtain ⟨rfl,rfl⟩:=hruns
  refine ⟨?_,hQ _ _ ⟨ρ,A,hI,.refl,hT,hF⟩⟩
  unfold Region.ready
  rw [List.filter_eq_nil_iff]
  intro i hi hc
  simp only [List.mem_range] at hi
  simp only [Bool.and_eq_true,Bool.not_eq_true'] at hc
  have hl:listed[i]? = some false:=by
   have hlt:i < listed.size:=by omega
   have:=hc.1
   simp [Array.getD,hlt] at this
   simp [hlt,this]
  obtain ⟨c,hc⟩:=(hrem i hi).1 hl
  simp at hc
 | succ fuel ih =>
  intro rem listed S T ws hlen hruns hclo hwsn hhol hpair hsz hrem hcl ρ A w a Q hI hT hF hQ
  have getD_l : ∀ j,listed.getD j false=true ↔ listed[j]? = some true:=fun j=>by
   rcases Nat.lt_or_ge j listed.size with h | h
   ·simp [Array.getD,h]
   ·simp [Array.getD,h,Nat.not_lt.2 h]
  have ready_spec : ∀ i,i ∈ Region.ready .any ops listed ↔ (i < ops.size∧listed[i]? = some false ∧ ∃ o,ops[i]? = some o ∧ ∀ e ∈ o.after.toList,Region.binds .any e=true→listed[e.on]? = some true):=fun i=>by
   unfold Region.ready
   rw [List.mem_filter,List.mem_range]
   constructor
   ·rintro ⟨h1,h2⟩
    simp only [Bool.and_eq_true,Bool.not_eq_true'] at h2
    have hlt:i < listed.size:=by omega
    have ho:ops[i]? = some ops[i]:=by simp [h1]
    refine ⟨h1,?_,ops[i],ho,fun e he hb=>?_⟩
    ·have:=h2.1
     simp [Array.getD,hlt] at this
     simp [hlt,this]
    ·have:=h2.2
     rw [ho] at this
     simp only [Option.map_some,Option.getD_some] at this
     rw [Array.all_eq_true'] at this
     have:=this e (by simpa using he)
     rw [hb] at this
     exact (getD_l _).1 (by simpa using this)
   ·rintro ⟨h1,h2,o,ho,h3⟩
    refine ⟨h1,?_⟩
    have hlt:i < listed.size:=by omega
    have h2':listed[i]=false:=by simpa [hlt] using h2
    simp only [Bool.and_eq_true,Bool.not_eq_true']
    refine ⟨by simp [Array.getD,hlt,h2'],?_⟩
    rw [ho]
    simp only [Option.map_some,Option.getD_some]
    rw [Array.all_eq_true']
    intro e he
    cases hb:Region.binds .any e with
    | false=>simp
    | true=>simp [(getD_l _).2 (h3 e (by simpa using he) hb)]
  refine ⟨fun hnil=>?_,fun i hi=>?_⟩
  ·
   exfalso
   obtain ⟨p,hp⟩ : ∃ p,p ∈ rem:=by
    cases rem with
    | nil=>simp at hlen
    | cons p r=>exact ⟨p,by simp⟩
   have hpl:p.1 < ops.size:=z71 hruns p hp
   have key : ∀ n,∀ i,i ≤ n→i < ops.size→listed[i]? = some false→False:=by
    intro n
    induction n with
    | zero =>
     intro i hi0 hi hl
     have:i ∈ Region.ready .any ops listed:=(ready_spec i).2 ⟨hi,hl,ops[i],by simp [hi],fun e he hb=>by
      have:=z04 hedge i ops[i] (by simp [hi]) e he hb
      omega⟩
     rw [hnil] at this; simp at this
    | succ n ihn =>
     intro i hi0 hi hl
     have:i ∈ Region.ready .any ops listed:=(ready_spec i).2 ⟨hi,hl,ops[i],by simp [hi],fun e he hb=>by
      have hlt:=z04 hedge i ops[i] (by simp [hi]) e he hb
      simp only [Nat.zero_add] at hlt
      have he':e.on < listed.size:=by omega
      cases hv:listed[e.on] with
      | true=>simp [he',hv]
      | false=>exact (ihn e.on (by omega) (by omega) (by simp [he',hv])).elim⟩
     rw [hnil] at this; simp at this
   obtain ⟨pi,pc⟩:=p
   exact key pi pi (Nat.le_refl _) hpl ((hrem pi hpl).2 ⟨pc,hp⟩)
  ·obtain ⟨hi1,hi2,o,ho,hi3⟩:=(ready_spec i).1 hi
   obtain ⟨c,hc⟩:=(hrem i hi1).1 hi2
   obtain ⟨l1,l2,rfl⟩:=List.append_of_mem hc
   obtain ⟨g1,g2,g3⟩:=z3t hpair
   have hbits : ∀ j,((befs ops).getD i 0).testBit j=true→listed[j]? = some true:=fun j hj=>by
    obtain ⟨o',ho',e,he,hb,h3⟩:=zbw hj
    rw [ho] at ho'; cases ho'
    have:=hi3 e he hb
    rcases h3 with rfl | h3
    ·exact this
    ·exact hcl _ _ this h3
   have hun : ∀ q ∈ l1 ++ l2,q.1 < ops.size→listed[q.1]? = some false:=fun q hq hlt=>(hrem q.1 hlt).2 ⟨q.2,by
    rcases List.mem_append.1 hq with h | h <;> simp [h]⟩
   have hap : ∀ q ∈ l1,zjo ops (befs ops) q (i,c):=fun q hq=>by
    have hp:=g1 q hq
    have hnb:((befs ops).getD i 0).testBit q.1=false:=by
     cases hb:((befs ops).getD i 0).testBit q.1 with
     | false=>rfl
     | true =>
      have:=hbits _ hb
      have hlt:q.1 < ops.size:=by
       rcases Nat.lt_or_ge q.1 listed.size with h' | h'
       ·omega
       ·simp [h'] at this
      have h2:=hun q (by simp [hq]) hlt
      rw [h2] at this; simp at this
    simp only [z22,Bool.and_eq_true,Bool.or_eq_true] at hp
    refine ⟨by simpa using hp.1,hnb,?_⟩
    rcases hp.2 with hb | hp
    ·rw [hnb] at hb; cases hb
    ·split at hp
     ·rename_i x y hx hy
      simp only [Bool.and_eq_true] at hp
      exact ⟨x,y,hx,hy,hp.1,hp.2⟩
     ·cases hp
   obtain ⟨o',v1,S1,h1,h2,_,h3⟩:=z11 hcall hclo (fun x hx=>hwsn x hx (i,c) (by simp)) (hhol (i,c) (by simp)) hruns hap
   simp only at h1 h2
   rw [ho] at h1; cases h1
   have hne : ∀ q ∈ l1 ++ l2,q.1 ≠ i:=fun q hq=>by
    rcases List.mem_append.1 hq with h | h
    ·have:=g1 _ h; simp only [z22,Bool.and_eq_true] at this; simpa using this.1
    ·have:=g2 _ h; simp only [z22,Bool.and_eq_true] at this; have:=this.1; simp at this; exact fun h=>this h.symm
   refine ze8 hext hrun ho h2 hI hT hF fun ρ1 A1 w1 a1 j1 j2 j3 j4=>?_
   refine ih (rem:=l1 ++ l2) (by simp at hlen ⊢; omega) h3 (z35 hcall hclo) (fun x hx p hp=>?_) (fun p hp h22=>?_) g3 (by simpa using hsz) (fun k hk=>?_) (fun k j hk hj=>?_) j1 j3 j4 (fun a' w' hs=>hQ a' w' (hs.step j2))
   ·rcases hx with hx | ⟨_,rfl⟩
    ·exact hwsn x hx p (by rcases List.mem_append.1 hp with h | h <;> simp [h])
    ·exact fun h=>hne p hp h.symm
   ·exact (vD hcall .hole (hhol p (by rcases List.mem_append.1 hp with h | h <;> simp [h]) h22) (by have:=hne p hp; omega) h2).2
   ·rw [Array.getElem?_setIfInBounds]
    by_cases hik:i=k
    ·subst hik
     simp only [if_true]
     have hlt:i < listed.size:=by omega
     simp only [hlt,if_true]
     constructor
     ·intro h; simp at h
     ·rintro ⟨c',hc'⟩
      exfalso
      rcases List.mem_append.1 hc' with h | h
      ·have:=g1 _ h; simp [z22] at this
      ·have:=g2 _ h; simp [z22] at this
    ·rw [if_neg hik,hrem k hk]
     constructor
     ·rintro ⟨c',hc'⟩
      refine ⟨c',?_⟩
      rcases List.mem_append.1 hc' with h | h
      ·simp [h]
      ·rcases List.mem_cons.1 h with h | h
       ·simp only [Prod.mk.injEq] at h; exact absurd h.1.symm hik
       ·simp [h]
     ·rintro ⟨c',hc'⟩
      refine ⟨c',?_⟩
      rcases List.mem_append.1 hc' with h | h <;> simp [h]
   ·have hset : ∀ m,listed[m]? = some true→(listed.setIfInBounds i true)[m]? = some true:=fun m hm=>by
     rw [Array.getElem?_setIfInBounds]
     by_cases him:i=m
     ·subst him
      have hlt:i < listed.size:=by omega
      simp [hlt]
     ·rw [if_neg him]; exact hm
    rw [Array.getElem?_setIfInBounds] at hk
    by_cases hik:i=k
    ·subst hik
     exact hset j (hbits j hj)
    ·rw [if_neg hik] at hk
     exact hset j (hcl k j hk hj)
theorem zup {C:Cfg} {call:jX} (hext:z5o C) (hrun:z95 C.P call) (hcall:jW call) {ops:Array Oper} {id:Nat} {order:List Nat} {cs:List (Nat × Nat)} {S S':zA} {T T':List V} {F:Dfs} (h:seqC C call ops (befs ops) S.length [] order T (S ++ List.replicate (vH ops) .hole)=some (T',S',cs)) (hd:z2j ops cs=true)
  {ρ:Nat→Nat} {A:Nat→Prop} {w:World} {a:Act} {Q:Exit→Act→World→Prop} (hI:Inv C.P S ρ A w) (hT:RepT C.P S ρ A w T a.tmps.toList) (hF:DfOk C.P S ρ A w F a.defers) (hQ : ∀ a' w',St C.P S ρ A w T' S' F a' w'→Q .normal a' w') :
  (Code.region id ops true).wp C.P Q a w:=by
 simp only [z2j,Bool.and_eq_true] at hd
 obtain ⟨⟨⟨_,hedge⟩,hall⟩,hpairs⟩:=hd
 obtain ⟨g1,g2⟩:=hI.world (w':={ w with drawn:=w.drawn + 1 }) (Nat.le_refl _) (fun _ _=>rfl) rfl rfl rfl
 refine wp_region_any C.mixed ?_
 have hruns:=z5d (W:=fun _=>False) (fun x hx=>hx.elim) h
 have hsize : ∀ p ∈ cs,p.1 < ops.size:=z71 hruns
 obtain ⟨g3,g4⟩:=g1.holes (vH ops)
 have hT1:=kC g2.amono g2.keepA g2.sle _ _ hT
 have hF1:=kB g2 hF
 have hnod : ∀ {l:List (Nat × Nat)},z06 ops (befs ops) l=true→(l.map (·.1)).Nodup:=by
  intro l
  induction l with
  | nil=>intro _; simp
  | cons p r ih =>
   intro hp
   simp only [z06,Bool.and_eq_true,List.all_eq_true] at hp
   rw [List.map_cons,List.nodup_cons]
   refine ⟨fun hm=>?_,ih hp.2⟩
   obtain ⟨q,hq,he⟩:=List.mem_map.1 hm
   have:=hp.1 q hq
   simp [z22,he] at this
 have hlen:cs.length=ops.size:=by
  have h1:(cs.map (·.1)).length ≤ (List.range ops.size).length:=(hnod hpairs).length_le_of_subset (fun x hx=>by
   obtain ⟨p,hp,rfl⟩:=List.mem_map.1 hx
   simpa using hsize p hp)
  have h2:(List.range ops.size).length ≤ (cs.map (·.1)).length:=List.nodup_range.length_le_of_subset (fun x hx=>by
   rw [List.all_eq_true] at hall
   have:=hall x hx
   rw [List.any_eq_true] at this
   obtain ⟨p,hp,he⟩:=this
   exact List.mem_map.2 ⟨p,hp,by simpa using he⟩)
  simp at h1 h2
  omega
 refine zyr hext hrun hcall hedge ops.size hlen hruns (fun x hx=>hx.elim) (fun x hx=>hx.elim) (fun p hp h2=>?_) hpairs (by simp) (fun i hi=>?_) (fun k j hk _=>?_) g3 (kC g4.amono g4.keepA g4.sle _ _ hT1) (kB g4 hF1) (fun a' w' hs=>hQ a' w' ((hs.step g4).step g2))
 ·have h1:=za9 hruns p hp h2
  have:=hsize p hp
  rw [h1,List.getElem?_append_right (by omega),List.getElem?_replicate]
  simp; omega
 ·constructor
  ·intro _
   rw [List.all_eq_true] at hall
   have:=hall i (by simpa using hi)
   rw [List.any_eq_true] at this
   obtain ⟨p,hp,he⟩:=this
   have:p.1=i:=by simpa using he
   exact ⟨p.2,by rw [← this]; exact hp⟩
  ·intro _; simp [hi]
 ·exfalso
  rw [Array.getElem?_replicate] at hk
  split at hk <;> simp at hk
end
section
variable {P:Program} {S:zA} {ρ:Nat→Nat} {A:Nat→Prop} {w:World}
theorem Inv.kill1 (h:Inv P S ρ A w) (id:Nat):Inv P (S.set id .dead) ρ A w∧Step S ρ A w (S.set id .dead) ρ A w:=by
 have get : ∀ j x,(S.set id .dead)[j]? = some x→(j=id∧x = .dead) ∨ (j ≠ id∧S[j]? = some x):=fun j x hx=>by
  by_cases hj:j=id
  ·subst hj
   rw [List.getElem?_set] at hx
   split at hx
   ·split at hx
    ·cases hx; exact .inl ⟨rfl,rfl⟩
    ·cases hx
   ·rename_i hh; exact absurd rfl hh
  ·rw [List.getElem?_set_ne (fun hh=>hj hh.symm)] at hx
   exact .inr ⟨hj,hx⟩
 have hle:SLe S ρ w (S.set id .dead) ρ w:=by
  intro j o hj hne
  by_cases hji:j=id
  ·subst hji
   refine ⟨.dead,List.getElem?_set_self (z1h hj),?_,.inl rfl⟩
   cases o <;> trivial
  ·exact ⟨o,by rw [List.getElem?_set_ne (fun hh=>hji hh.symm)]; exact hj,o.le_refl,.inr ⟨rfl,fun c e f hc=>⟨c,e,f,hc,rfl⟩⟩⟩
 refine ⟨⟨fun j x hx=>?_,fun i j x y hx hy hxl hyl hij=>?_,fun j x hx hxl=>?_,h.lt,h.gl⟩,⟨rfl,rfl,rfl,Nat.le_refl _,fun _ _ _=>rfl,fun _ _=>rfl,fun _ h=>h,fun _ h=>.inl h,fun b hb=>?_,hle⟩⟩
 ·rcases get j x hx with ⟨_,rfl⟩ | ⟨_,hj⟩
  ·trivial
  ·exact (h.ok j x hj).mono (fun _ h=>h) (fun _ _=>rfl) hle (fun _=>rfl)
 ·rcases get i x hx with ⟨_,rfl⟩ | ⟨_,hi⟩
  ·cases hxl
  ·rcases get j y hy with ⟨_,rfl⟩ | ⟨_,hj⟩
   ·cases hyl
   ·exact h.inj i j x y hi hj hxl hyl hij
 ·rcases get j x hx with ⟨_,rfl⟩ | ⟨_,hj⟩
  ·cases hxl
  ·exact h.own j x hj hxl
 ·obtain ⟨j,x,hx,hxl,hr⟩:=hb
  rcases get j x hx with ⟨_,rfl⟩ | ⟨_,hj⟩
  ·cases hxl
  ·exact .inl ⟨j,x,hj,hxl,hr⟩
theorem Inv.killAll {base:Nat} : ∀ {l:List Nat} {S:zA},Inv P S ρ A w→Inv P (killAll base l S) ρ A w∧Step S ρ A w (Go.Vm.killAll base l S) ρ A w
 | [],S,h=>⟨h,.refl⟩
 | i::r,S,h=>by
  obtain ⟨h1,h2⟩:=h.kill1 (base + i)
  obtain ⟨h3,h4⟩:=Inv.killAll (l:=r) h1
  exact ⟨h3,h2.trans h4⟩
end
theorem z8a {base q:Nat} {ob:Ob} : ∀ {l:List Nat} {S:zA},q ∈ l→killAll base l (S.set (base + q) ob)=killAll base l S
 | i::r,S,h=>by
  simp only [killAll]
  by_cases hi:i=q
  ·rw [hi,List.set_set]
  ·have hq:q ∈ r:=by
    rcases List.mem_cons.1 h with h | h
    ·exact absurd h.symm hi
    ·exact h
   rw [List.set_comm _ _ (by omega:base + q ≠ base + i)]
   exact z8a hq
theorem zaf {C:Cfg} {call:jX} {ops:Array Oper} {b:List Nat} {base q:Nat} {o:Oper} {v:V} {S3:zA} (ho:ops[q]? = some o) : ∀ {l:List (Nat × Nat)} {ws:wY} {T T':List V} {S S':zA},RunsW C call ops b base ws l T S T' S'→effC C call ops (base + q) o T' S'=some (v,S3,2)→RunsW C call ops b base ws (l ++ [(q,2)]) T S (putT T' o.dst v) S3
 | [],ws,T,T',S,S',h,he=>by
  obtain ⟨rfl,rfl⟩:=h
  exact ⟨o,v,S3,ho,he,fun h=>absurd h (by simp),rfl,rfl⟩
 | p::l,ws,T,T',S,S',h,he=>by
  obtain ⟨o1,v1,S1,h1,h2,h3,h4⟩:=h
  exact ⟨o1,v1,S1,h1,h2,h3,zaf ho h4 he⟩
theorem za4 {C:Cfg} {call:jX} (hcall:jW call) {ops:Array Oper} {b:List Nat} {base id:Nat} : ∀ {l:List (Nat × Nat)} {ws:wY} {T T':List V} {S S':zA},RunsW C call ops b base ws l T S T' S'→(∀ q ∈ l,base + q.1 ≠ id)→S[id]? = some .hole→S'[id]? = some .hole
 | [],ws,T,T',S,S',h,_,hS=>by obtain ⟨rfl,rfl⟩:=h; exact hS
 | p::l,ws,T,T',S,S',h,hne,hS=>by
  obtain ⟨o1,v1,S1,h1,h2,h3,h4⟩:=h
  exact za4 hcall h4 (fun q hq=>hne q (by simp [hq])) (vD hcall .hole hS (hne p (by simp)) h2).2
theorem znh {C:Cfg} {call:jX} {ops:Array Oper} {o:Oper} (h:zek C.P o=true) : ∃ (ob:Ob) (v:Nat→V),∀ (id:Nat) (T:List V) (S:zA),S[id]? = some .hole→effC C call ops id o T S=some (v id,S.set id ob,2):=by
 obtain ⟨dst,op,ty,pos,after,g⟩:=o
 simp only [zek,Bool.and_eq_true,Option.isNone_iff_eq_none] at h
 obtain ⟨rfl,h⟩:=h
 cases op <;> simp only [Bool.false_eq_true] at h
 rename_i e
 split at h
 ·rename_i z hz
  refine ⟨.row [z] e,fun id=>.ref id 0 0,fun id T S hS=>?_⟩
  simp only [effC,zW,jP,addO,hz,h,if_true,hS]
 ·cases h
theorem zha {C:Cfg} {call:jX} {ops:Array Oper} {o:Oper} {T T':List V} (h : ∀ t ∈ zi7 ops o,T[t]? = T'[t]?) (S:zA):panO C call ops o T S=panO C call ops o T' S:=by
 have h0 : ∀ x ∈ o.op.operands.toList,zC T x=zC T' x:=fun x hx=>by
  cases x with
  | tmp t =>
   have:=h t (List.mem_append_left _ (z9l hx))
   simp [zC,List.getD_eq_getElem?_getD,this]
  | _=>rfl
 have h1:opV C.P S T o=opV C.P S T' o:=zcq h0
 have h2:zW ops T o=zW ops T' o:=by
  unfold zW
  cases hg:o.guard with
  | none=>rfl
  | some g =>
   obtain ⟨j,want⟩:=g
   simp only
   unfold qL
   cases hd:(ops[j]?).bind (·.dst) with
   | none=>rfl
   | some d =>
    have:=h d (List.mem_append_right _ (by simp [hg,hd]))
    simp only [this]
 unfold panO
 rw [h1,h2]
def PanPost (P:Program) (S:zA) (ρ:Nat→Nat) (A:Nat→Prop) (w:World) (Sf:zA) (v:V) (F:Dfs) (a':Act) (w':World) (chain:List PanicEntry):Prop :=
 ∃ u,chain=[{ v:=u,recovered:=false }]∧(F=[]→a'.defers=[]) ∧ ∃ ρ' A',Inv P Sf ρ' A' w'∧Step S ρ A w Sf ρ' A' w'∧RepW P Sf ρ' A' w' v u
theorem PanPost.step {P:Program} {S S1:zA} {ρ ρ1:Nat→Nat} {A A1:Nat→Prop} {w w1:World} {Sf:zA} {v:V} {F:Dfs} {a':Act} {w':World} {chain:List PanicEntry} (h:Step S ρ A w S1 ρ1 A1 w1) (hp:PanPost P S1 ρ1 A1 w1 Sf v F a' w' chain):PanPost P S ρ A w Sf v F a' w' chain:=by
 obtain ⟨u,h1,h2,ρ',A',h3,h4,h5⟩:=hp
 exact ⟨u,h1,h2,ρ',A',h3,h.trans h4,h5⟩
theorem zqw {C:Cfg} {call:jX} (hext:z5o C) (hrun:z95 C.P call) {ops:Array Oper} {i:Nat} {o:Oper} {S S1:zA} {T:List V} {v:V} (hget:ops[i]? = some o) (h:panO C call ops o T S=some (v,S1))
  {ρ:Nat→Nat} {A:Nat→Prop} {w:World} {a:Act} {F:Dfs} {Q:Exit→Act→World→Prop} {K:Act→World→Prop} {base:Nat} {rest:List Nat} (hI:Inv C.P S ρ A w) (hT:RepT C.P S ρ A w T a.tmps.toList) (hF:DfOk C.P S ρ A w F a.defers)
  (hQ : ∀ a' w' c,PanPost C.P S ρ A w (killAll base rest S1) v F a' w' c→Q (.panic c) a' w'):wpOp C.P ops Q i K a w:=by
 unfold wpOp
 simp only [hget]
 unfold panO at h
 cases hw:zW ops T o with
 | none=>simp [hw] at h
 | some b =>
  rw [z2w hw hT]
  simp only [hw] at h
  cases b with
  | false=>cases h
  | true =>
   simp only [if_true]
   refine .inl ?_
   simp only at h
   split at h
   ·cases h
   ·cases ho:opV C.P S T o with
    | none=>simp [ho] at h
    | some rs =>
     refine zee hI hT ho ?_
     cases rs with
     | enter f args =>
      simp only [ho] at h
      intro us hus
      cases hc:jO C call f args S with
      | none=>simp [hc] at h
      | some q =>
       obtain ⟨out,S2,c2⟩:=q
       cases out with
       | ret v=>simp [hc] at h
       | pan v =>
        simp only [hc,Option.some.injEq,Prod.mk.injEq] at h
        obtain ⟨rfl,rfl⟩:=h
        refine (zau hext hrun hc hI hus).mono fun e w1 he=>?_
        cases e with
        | returned u=>obtain ⟨y,hy,_⟩:=he; cases hy
        | panicked chain =>
         obtain ⟨y,u,hy,rfl,ρ1,A1,h1,h2,h3⟩:=he
         cases hy
         obtain ⟨k1,k2⟩:=h1.killAll (base:=base) (l:=rest)
         exact hQ _ _ _ ⟨u,rfl,fun hf=>by subst hf; simpa [DfOk] using hF,ρ1,A1,k1,h2.trans k2,z0k k2.amono k2.keepA k2.sle h3⟩
        | outgrown=>exact he.elim
     | val _ _ _=>simp [ho] at h
     | skip _ _=>simp [ho] at h
     | dfr f args=>simp [ho] at h
     | pan v=>simp [ho] at h
theorem zuh {C:Cfg} {call:jX} (hext:z5o C) (hrun:z95 C.P call) (hcall:jW call) {ops:Array Oper} {base:Nat} (hedge:z40 ops.toList 0=true) {p:Nat} {op:Oper} {rest:List Nat} {v:V} {Sf:zA} {F:Dfs} (hop:ops[p]? = some op) :
  ∀ (fuel:Nat) {pre:List (Nat × Nat)} {un:List Nat} {listed:Array Bool} {S Sp S2:zA} {T Tp:List V} {ws:wY},un.length=fuel→un.Nodup→RunsW C call ops (befs ops) base ws pre T S Tp Sp→panO C call ops op Tp Sp=some (v,S2)→killAll base rest S2=Sf →
  z9t base ws→(∀ x,ws x → ∀ q ∈ pre,x.1 ≠ q.1)→(∀ x,ws x → ∀ i ∈ un,x.1 ≠ i)→(∀ q ∈ pre,q.2 ≠ 2)→z06 ops (befs ops) pre=true →
  listed.size=ops.size→(∀ i,i < ops.size→(listed[i]? = some false ↔ i ∈ un))→(∀ q ∈ pre,q.1 ∈ un)→p ∈ un→(∀ i ∈ un,i < ops.size)→(∀ i ∈ un,(∃ c,(i,c) ∈ pre) ∨ i=p ∨ i ∈ rest) →
  (∀ k j,listed[k]? = some true→((befs ops).getD k 0).testBit j=true→listed[j]? = some true) →
  (∀ q ∈ pre,q.1 ≠ p∧((befs ops).getD p 0).testBit q.1=true) →
  (∀ i ∈ rest,i ≠ p∧(∀ q ∈ pre,q.1 ≠ i)∧(((befs ops).getD i 0).testBit p=true ∨ ∃ x,ops[i]? = some x∧zek C.P x=true∧kU ops x op=true ∧ ∀ q ∈ pre,∃ z,ops[q.1]? = some z∧kU ops z x=true)) →
  (∀ i ∈ rest,i ∈ un→((befs ops).getD i 0).testBit p=false→S[base + i]? = some .hole) →
  ∀ {ρ:Nat→Nat} {A:Nat→Prop} {w:World} {a:Act} {Q:Exit→Act→World→Prop},Inv C.P S ρ A w→RepT C.P S ρ A w T a.tmps.toList→DfOk C.P S ρ A w F a.defers→(∀ a' w' c,PanPost C.P S ρ A w Sf v F a' w' c→Q (.panic c) a' w') →
  wpAny C.P .any ops Q fuel listed a w:=by
 intro fuel
 induction fuel with
 | zero =>
  intro pre un listed S Sp S2 T Tp ws hlen hnd hruns hpan hkill hclo hwsn hwsu hc2 hpair hsz hun hpu hpun hulen hcase hcl hpb hrest hhol ρ A w a Q hI hT hF hQ
  have:un=[]:=by simpa using hlen
  subst this
  simp at hpun
 | succ fuel ih =>
  intro pre un listed S Sp S2 T Tp ws hlen hnd hruns hpan hkill hclo hwsn hwsu hc2 hpair hsz hun hpu hpun hulen hcase hcl hpb hrest hhol ρ A w a Q hI hT hF hQ
  have getD_l : ∀ j,listed.getD j false=true ↔ listed[j]? = some true:=fun j=>by
   rcases Nat.lt_or_ge j listed.size with h | h
   ·simp [Array.getD,h]
   ·simp [Array.getD,h,Nat.not_lt.2 h]
  have ready_spec : ∀ i,i ∈ Region.ready .any ops listed ↔ (i < ops.size∧listed[i]? = some false ∧ ∃ o,ops[i]? = some o ∧ ∀ e ∈ o.after.toList,Region.binds .any e=true→listed[e.on]? = some true):=fun i=>by
   unfold Region.ready
   rw [List.mem_filter,List.mem_range]
   constructor
   ·rintro ⟨h1,h2⟩
    simp only [Bool.and_eq_true,Bool.not_eq_true'] at h2
    have hlt:i < listed.size:=by omega
    have ho:ops[i]? = some ops[i]:=by simp [h1]
    refine ⟨h1,?_,ops[i],ho,fun e he hb=>?_⟩
    ·have:=h2.1
     simp [Array.getD,hlt] at this
     simp [hlt,this]
    ·have:=h2.2
     rw [ho] at this
     simp only [Option.map_some,Option.getD_some] at this
     rw [Array.all_eq_true'] at this
     have:=this e (by simpa using he)
     rw [hb] at this
     exact (getD_l _).1 (by simpa using this)
   ·rintro ⟨h1,h2,o,ho,h3⟩
    refine ⟨h1,?_⟩
    have hlt:i < listed.size:=by omega
    have h2':listed[i]=false:=by simpa [hlt] using h2
    simp only [Bool.and_eq_true,Bool.not_eq_true']
    refine ⟨by simp [Array.getD,hlt,h2'],?_⟩
    rw [ho]
    simp only [Option.map_some,Option.getD_some]
    rw [Array.all_eq_true']
    intro e he
    cases hb:Region.binds .any e with
    | false=>simp
    | true=>simp [(getD_l _).2 (h3 e (by simpa using he) hb)]
  have unf : ∀ i,i ∈ un→listed[i]? = some false:=fun i hi=>(hun i (hulen i hi)).2 hi
  refine ⟨fun hnil=>?_,fun i hi=>?_⟩
  ·exfalso
   have key : ∀ n,∀ i,i ≤ n→i < ops.size→listed[i]? = some false→False:=by
    intro n
    induction n with
    | zero =>
     intro i hi0 hi hl
     have:i ∈ Region.ready .any ops listed:=(ready_spec i).2 ⟨hi,hl,ops[i],by simp [hi],fun e he hb=>by
      have:=z04 hedge i ops[i] (by simp [hi]) e he hb
      omega⟩
     rw [hnil] at this; simp at this
    | succ n ihn =>
     intro i hi0 hi hl
     have:i ∈ Region.ready .any ops listed:=(ready_spec i).2 ⟨hi,hl,ops[i],by simp [hi],fun e he hb=>by
      have hlt:=z04 hedge i ops[i] (by simp [hi]) e he hb
      simp only [Nat.zero_add] at hlt
      have he':e.on < listed.size:=by omega
      cases hv:listed[e.on] with
      | true=>simp [he',hv]
      | false=>exact (ihn e.on (by omega) (by omega) (by simp [he',hv])).elim⟩
     rw [hnil] at this; simp at this
   exact key p p (Nat.le_refl _) (hulen p hpun) (unf p hpun)
  ·obtain ⟨hi1,hi2,o,ho,hi3⟩:=(ready_spec i).1 hi
   have hiu:i ∈ un:=(hun i hi1).1 hi2
   have hbits : ∀ j,((befs ops).getD i 0).testBit j=true→listed[j]? = some true:=fun j hj=>by
    obtain ⟨o',ho',e,he,hb,h3⟩:=zbw hj
    rw [ho] at ho'; cases ho'
    have:=hi3 e he hb
    rcases h3 with rfl | h3
    ·exact this
    ·exact hcl _ _ this h3
   have nobit : ∀ j ∈ un,((befs ops).getD i 0).testBit j=false:=fun j hj=>by
    cases hb:((befs ops).getD i 0).testBit j with
    | false=>rfl
    | true =>
     have h1:=hbits j hb
     rw [unf j hj] at h1
     cases h1
   have hlen':(un.erase i).length=fuel:=by rw [List.length_erase_of_mem hiu]; omega
   have hnd':(un.erase i).Nodup:=hnd.erase i
   have mem' : ∀ j,j ∈ un.erase i ↔ j ≠ i∧j ∈ un:=fun j=>hnd.mem_erase_iff
   have hset : ∀ m,listed[m]? = some true→(listed.setIfInBounds i true)[m]? = some true:=fun m hm=>by
    rw [Array.getElem?_setIfInBounds]
    by_cases him:i=m
    ·subst him
     have hlt:i < listed.size:=by omega
     simp [hlt]
    ·rw [if_neg him]; exact hm
   have hun' : ∀ k,k < ops.size→((listed.setIfInBounds i true)[k]? = some false ↔ k ∈ un.erase i):=fun k hk=>by
    rw [Array.getElem?_setIfInBounds,mem']
    by_cases hik:i=k
    ·subst hik
     have hlt:i < listed.size:=by omega
     simp [hlt]
    ·rw [if_neg hik,hun k hk]
     exact ⟨fun h=>⟨fun hh=>hik hh.symm,h⟩,fun h=>h.2⟩
   have hcl' : ∀ k j,(listed.setIfInBounds i true)[k]? = some true→((befs ops).getD k 0).testBit j=true→(listed.setIfInBounds i true)[j]? = some true:=fun k j hk hj=>by
    rw [Array.getElem?_setIfInBounds] at hk
    by_cases hik:i=k
    ·subst hik
     exact hset j (hbits j hj)
    ·rw [if_neg hik] at hk
     exact hset j (hcl k j hk hj)
   by_cases hip:i=p
   ·
    subst hip
    have hpre:pre=[]:=by
     cases pre with
     | nil=>rfl
     | cons q r =>
      have h1:=(hpb q (by simp)).2
      rw [nobit q.1 (hpu q (by simp))] at h1
      cases h1
    subst hpre
    obtain ⟨rfl,rfl⟩:=hruns
    exact zqw hext hrun hop hpan hI hT hF (base:=base) (rest:=rest) (by rw [hkill]; exact hQ)
   ·by_cases hpr : ∃ c,(i,c) ∈ pre
    ·
     obtain ⟨c,hc⟩:=hpr
     obtain ⟨l1,l2,rfl⟩:=List.append_of_mem hc
     obtain ⟨g1,g2,g3⟩:=z3t hpair
     have hap : ∀ q ∈ l1,zjo ops (befs ops) q (i,c):=fun q hq=>by
      have hp:=g1 q hq
      have hnb:=nobit q.1 (hpu q (by simp [hq]))
      simp only [z22,Bool.and_eq_true,Bool.or_eq_true] at hp
      refine ⟨by simpa using hp.1,hnb,?_⟩
      rcases hp.2 with hb | hp
      ·rw [hnb] at hb; cases hb
      ·split at hp
       ·rename_i x y hx hy
        simp only [Bool.and_eq_true] at hp
        exact ⟨x,y,hx,hy,hp.1,hp.2⟩
       ·cases hp
     obtain ⟨o',v1,S1,h1,h2,_,h3⟩:=z11 hcall hclo (fun x hx=>hwsn x hx (i,c) (by simp)) (fun h=>absurd h (hc2 (i,c) (by simp))) hruns hap
     simp only at h1 h2
     rw [ho] at h1; cases h1
     have hne : ∀ q ∈ l1 ++ l2,q.1 ≠ i:=fun q hq=>by
      rcases List.mem_append.1 hq with h | h
      ·have:=g1 _ h; simp only [z22,Bool.and_eq_true] at this; simpa using this.1
      ·have:=g2 _ h; simp only [z22,Bool.and_eq_true] at this; have:=this.1; simp at this; exact fun h=>this h.symm
     have hsub : ∀ q ∈ l1 ++ l2,q ∈ l1 ++ (i,c)::l2:=fun q hq=>by
      rcases List.mem_append.1 hq with h | h <;> simp [h]
     refine ze8 hext hrun ho h2 hI hT hF fun ρ1 A1 w1 a1 j1 j2 j3 j4=>?_
     refine ih hlen' hnd' h3 hpan hkill (z35 hcall hclo) (fun x hx q hq=>?_) (fun x hx j hj=>?_) (fun q hq=>hc2 q (hsub q hq)) g3 (by simpa using hsz) hun' (fun q hq=>(mem' _).2 ⟨hne q hq,hpu q (hsub q hq)⟩) ((mem' _).2 ⟨fun hh=>hip hh.symm,hpun⟩) (fun j hj=>hulen j ((mem' _).1 hj).2) (fun j hj=>?_) hcl' (fun q hq=>hpb q (hsub q hq)) (fun j hj=>?_) (fun j hj hju hjb=>?_) j1 j3 j4 (fun a' w' c' hs=>hQ a' w' c' (hs.step j2))
     ·rcases hx with hx | ⟨_,rfl⟩
      ·exact hwsn x hx q (hsub q hq)
      ·exact fun h=>hne q hq h.symm
     ·rcases hx with hx | ⟨_,rfl⟩
      ·exact hwsu x hx j ((mem' _).1 hj).2
      ·exact fun h=>((mem' _).1 hj).1 h.symm
     ·rcases hcase j ((mem' _).1 hj).2 with ⟨c',h⟩ | h | h
      ·refine .inl ⟨c',?_⟩
       rcases List.mem_append.1 h with h | h
       ·simp [h]
       ·rcases List.mem_cons.1 h with h | h
        ·simp only [Prod.mk.injEq] at h; exact absurd h.1 ((mem' _).1 hj).1
        ·simp [h]
      ·exact .inr (.inl h)
      ·exact .inr (.inr h)
     ·obtain ⟨a1,a2,a3⟩:=hrest j hj
      refine ⟨a1,fun q hq=>a2 q (hsub q hq),a3.imp id ?_⟩
      rintro ⟨x,b1,b2,b3,b4⟩
      exact ⟨x,b1,b2,b3,fun q hq=>b4 q (hsub q hq)⟩
     ·have hji:j ≠ i:=((mem' _).1 hju).1
      exact (vD hcall .hole (hhol j hj ((mem' _).1 hju).2 hjb) (by omega) h2).2
    ·
     have hir:i ∈ rest:=by
      rcases hcase i hiu with h | h | h
      ·exact absurd h hpr
      ·exact absurd h hip
      ·exact h
     obtain ⟨a1,a2,a3⟩:=hrest i hir
     have hnp:=nobit p hpun
     rcases a3 with a3 | ⟨x,b1,b2,b3,b4⟩
     ·rw [hnp] at a3; cases a3
     ·rw [ho] at b1; cases b1
      obtain ⟨ob,vv,heff⟩:=znh (call:=call) (ops:=ops) b2
      have hS:=hhol i hir hiu hnp
      have hSp:Sp[base + i]? = some .hole:=za4 hcall hruns (fun q hq=>by have:=a2 q hq; omega) hS
      have hr2:=zaf ho hruns (heff _ Tp Sp hSp)
      obtain ⟨o',v1,S1,h1,h2,_,h3⟩:=z11 (p:=(i,2)) (l2:=[]) hcall hclo (fun x hx=>hwsu x hx i hiu) (fun _=>hS) hr2 (fun q hq=>by
       obtain ⟨z,hz,hza⟩:=b4 q hq
       exact ⟨a2 q hq,nobit q.1 (hpu q hq),z,o,hz,ho,hza,by simp [z1m]⟩)
      simp only at h1 h2
      rw [ho] at h1; cases h1
      have h2':=h2
      rw [heff _ T S hS] at h2'
      simp only [Option.some.injEq,Prod.mk.injEq] at h2'
      obtain ⟨rfl,rfl,_⟩:=h2'
      rw [List.append_nil] at h3
      obtain ⟨c1,c2,c3⟩:=z17 b3
      have hpan1:panO C call ops op (putT Tp o.dst (vv (base + i))) Sp=some (v,S2):=by
       rw [← hpan]
       refine zha (fun t ht=>?_) Sp
       cases hd:o.dst with
       | none=>rfl
       | some d =>
        simp only [putT]
        rw [List.getElem?_set_ne]
        rintro rfl
        exact c1 d hd ht
      obtain ⟨hpan2,hS2⟩:=zco hcall ob hSp hpan1
      refine ze8 hext hrun ho h2 hI hT hF fun ρ1 A1 w1 a1' j1 j2 j3 j4=>?_
      refine ih hlen' hnd' h3 hpan2 (by rw [z8a hir]; exact hkill) (z35 hcall hclo) (fun x hx q hq=>?_) (fun x hx j hj=>?_) hc2 hpair (by simpa using hsz) hun' (fun q hq=>(mem' _).2 ⟨a2 q hq,hpu q hq⟩) ((mem' _).2 ⟨fun hh=>hip hh.symm,hpun⟩) (fun j hj=>hulen j ((mem' _).1 hj).2) (fun j hj=>hcase j ((mem' _).1 hj).2) hcl' hpb hrest (fun j hj hju hjb=>?_) j1 j3 j4 (fun a' w' c' hs=>hQ a' w' c' (hs.step j2))
      ·rcases hx with hx | ⟨h,_⟩
       ·exact hwsn x hx q hq
       ·simp at h
      ·rcases hx with hx | ⟨h,_⟩
       ·exact hwsu x hx j ((mem' _).1 hj).2
       ·simp at h
      ·have hji:j ≠ i:=((mem' _).1 hju).1
       rw [List.getElem?_set_ne (by omega)]
       exact hhol j hj ((mem' _).1 hju).2 hjb
theorem z4q {C:Cfg} {call:jX} {ops:Array Oper} {b:List Nat} {base:Nat} : ∀ {l:List Nat} {ws:List (Nat × List V × V)} {W:wY} {T:List V} {S S2:zA} {v:V} {cs:List (Nat × Nat)} {p:Nat} {rest:List Nat},
  (∀ x,W x → ∃ w ∈ ws,∃ o,ops[w.1]? = some o∧x=(w.1,z3j C call ops (base + w.1) o w.2.1 w.2.2))→seqP C call ops b base ws l T S=some (v,S2,cs,p,rest) → ∃ Tp Sp op,RunsW C call ops b base W cs T S Tp Sp∧ops[p]? = some op∧panO C call ops op Tp Sp=some (v,S2)
 | [],ws,W,T,S,S2,v,cs,p,rest,hW,h=>by simp [seqP] at h
 | i::l,ws,W,T,S,S2,v,cs,p,rest,hW,h=>by
  simp only [seqP] at h
  cases ho:ops[i]? with
  | none=>simp [ho] at h
  | some o =>
   simp only [ho] at h
   cases hp:panO C call ops o T S with
   | some q =>
    obtain ⟨v1,S1⟩:=q
    simp only [hp,Option.some.injEq,Prod.mk.injEq] at h
    obtain ⟨rfl,rfl,rfl,rfl,rfl⟩:=h
    exact ⟨T,S,o,⟨rfl,rfl⟩,ho,hp⟩
   | none =>
    simp only [hp] at h
    cases he:effC C call ops (base + i) o T S with
    | none=>simp [he] at h
    | some q =>
     obtain ⟨v1,S1,c⟩:=q
     simp only [he] at h
     split at h
     ·cases h
     ·rename_i hc
      cases hr:seqP C call ops b base (if c=1 then (i,T,v1)::ws else ws) l (putT T o.dst v1) S1 with
      | none=>simp [hr] at h
      | some q2 =>
       obtain ⟨v2,S3,cs2,p2,rest2⟩:=q2
       simp only [hr,Option.some.injEq,Prod.mk.injEq] at h
       obtain ⟨rfl,rfl,rfl,rfl,rfl⟩:=h
       obtain ⟨Tp,Sp,op,g1,g2,g3⟩:=z4q (W:=fun x=>W x ∨ (c=1∧x=(i,z3j C call ops (base + i) o T v1))) (fun x hx=>by
        rcases hx with hx | ⟨h1,rfl⟩
        ·obtain ⟨w,hw,o2,ho2,rfl⟩:=hW x hx
         refine ⟨w,?_,o2,ho2,rfl⟩
         split
         ·exact List.mem_cons_of_mem _ hw
         ·exact hw
        ·rw [if_pos h1]
         exact ⟨(i,T,v1),by simp,o,ho,rfl⟩) hr
       refine ⟨Tp,Sp,op,⟨o,v1,S1,ho,he,fun hp x hx=>?_,g1⟩,g2,g3⟩
       obtain ⟨w,hw,o2,ho2,rfl⟩:=hW x hx
       have hall:(ws.all (jN C call ops b base i S1))=true:=by
        cases hv:ws.all (jN C call ops b base i S1) with
        | true=>rfl
        | false=>exact absurd ⟨hp,hv⟩ hc
       rw [List.all_eq_true] at hall
       exact z6c ho2 (hall w hw)
theorem znk {ops:Array Oper} {i:Nat} {x:Oper} (h:ops[i]? = some x) (ha:jP x=true):vH ops=ops.size:=by
 unfold vH
 rw [if_pos]
 rw [Array.any_eq_true]
 have hi:i < ops.size:=by
  rcases Nat.lt_or_ge i ops.size with h' | h'
  ·exact h'
  ·rw [Array.getElem?_eq_none h'] at h; cases h
 refine ⟨i,hi,?_⟩
 rw [Array.getElem?_eq_getElem hi] at h
 cases h
 exact ha
theorem zle {P:Program} {o:Oper} (h:zek P o=true):jP o=true:=by
 obtain ⟨dst,op,ty,pos,after,g⟩:=o
 simp only [zek,Bool.and_eq_true] at h
 cases op <;> simp at h
 rfl
theorem zet {C:Cfg} {call:jX} (hext:z5o C) (hrun:z95 C.P call) (hcall:jW call) {ops:Array Oper} {id:Nat} {order:List Nat} {cs:List (Nat × Nat)} {p:Nat} {rest:List Nat} {S S':zA} {T:List V} {v:V} {F:Dfs} (h:seqP C call ops (befs ops) S.length [] order T (S ++ List.replicate (vH ops) .hole)=some (v,S',cs,p,rest)) (hd:zr1 C.P ops cs p rest=true)
  {ρ:Nat→Nat} {A:Nat→Prop} {w:World} {a:Act} {Q:Exit→Act→World→Prop} (hI:Inv C.P S ρ A w) (hT:RepT C.P S ρ A w T a.tmps.toList) (hF:DfOk C.P S ρ A w F a.defers) (hQ : ∀ a' w' c,PanPost C.P S ρ A w (killAll S.length rest S') v F a' w' c→Q (.panic c) a' w') :
  (Code.region id ops true).wp C.P Q a w:=by
 simp only [zr1,Bool.and_eq_true] at hd
 obtain ⟨⟨⟨⟨hedge,hall⟩,hpairs⟩,hcs⟩,hrs⟩:=hd
 obtain ⟨g1,g2⟩:=hI.world (w':={ w with drawn:=w.drawn + 1 }) (Nat.le_refl _) (fun _ _=>rfl) rfl rfl rfl
 refine wp_region_any C.mixed ?_
 obtain ⟨Tp,Sp,op,hruns,hop,hpan⟩:=z4q (W:=fun _=>False) (fun x hx=>hx.elim) h
 have hsize : ∀ q ∈ cs,q.1 < ops.size:=z71 hruns
 have hp:p < ops.size:=by
  rcases Nat.lt_or_ge p ops.size with h' | h'
  ·exact h'
  ·rw [Array.getElem?_eq_none h'] at hop; cases hop
 obtain ⟨g3,g4⟩:=g1.holes (vH ops)
 have hT1:=kC g2.amono g2.keepA g2.sle _ _ hT
 have hF1:=kB g2 hF
 rw [List.all_eq_true] at hall hcs hrs
 have hrest : ∀ i ∈ rest,i ≠ p∧(∀ q ∈ cs,q.1 ≠ i)∧(((befs ops).getD i 0).testBit p=true ∨ ∃ x,ops[i]? = some x∧zek C.P x=true∧kU ops x op=true ∧ ∀ q ∈ cs,∃ z,ops[q.1]? = some z∧kU ops z x=true):=fun i hi=>by
  have h1:=hrs i hi
  simp only [Bool.and_eq_true,List.all_eq_true] at h1
  obtain ⟨⟨h1,h2⟩,h3⟩:=h1
  refine ⟨by simpa using h1,fun q hq=>by have:=h2 q hq; simpa using this,?_⟩
  rw [Bool.or_eq_true] at h3
  rcases h3 with h3 | h3
  ·exact .inl h3
  ·right
   rw [hop] at h3
   cases hx:ops[i]? with
   | none=>rw [hx] at h3; cases h3
   | some x =>
    rw [hx] at h3
    simp only [Bool.and_eq_true,List.all_eq_true] at h3
    refine ⟨x,rfl,h3.1.1,h3.1.2,fun q hq=>?_⟩
    have h4:=h3.2 q hq
    cases hz:ops[q.1]? with
    | none=>rw [hz] at h4; cases h4
    | some z=>rw [hz] at h4; exact ⟨z,rfl,h4⟩
 refine zuh hext hrun hcall hedge hop ops.size (un:=List.range ops.size) (by simp) List.nodup_range hruns hpan rfl (fun x hx=>hx.elim) (fun x hx=>hx.elim) (fun x hx=>hx.elim) (fun q hq=>?_) hpairs (by simp) (fun i hi=>?_) (fun q hq=>by simpa using hsize q hq) (by simpa using hp) (fun i hi=>by simpa using hi) (fun i hi=>?_) (fun k j hk _=>?_) (fun q hq=>?_) hrest (fun i hi hiu hb=>?_) g3 (kC g4.amono g4.keepA g4.sle _ _ hT1) (kB g4 hF1) (fun a' w' c hs=>hQ a' w' c ((hs.step g4).step g2))
 ·have h1:=hcs q hq
  simp only [Bool.and_eq_true] at h1
  have:=h1.1.2
  simpa using this
 ·simp [hi]
 ·have h1:=hall i hi
  simp only [Bool.or_eq_true,List.any_eq_true] at h1
  rcases h1 with (⟨q,hq,he⟩ | h1) | h1
  ·have:q.1=i:=by simpa using he
   exact .inl ⟨q.2,by rw [← this]; exact hq⟩
  ·exact .inr (.inl (by simpa using h1))
  ·exact .inr (.inr (by simpa using h1))
 ·exfalso
  rw [Array.getElem?_replicate] at hk
  split at hk <;> simp at hk
 ·have h1:=hcs q hq
  simp only [Bool.and_eq_true] at h1
  exact ⟨by have:=h1.1.1; simpa using this,h1.2⟩
 ·obtain ⟨_,_,h3⟩:=hrest i hi
  rcases h3 with h3 | ⟨x,h3,h4,_⟩
  ·rw [hb] at h3; cases h3
  ·have hil:i < ops.size:=by simpa using hiu
   rw [znk h3 (zle h4),List.getElem?_append_right (by omega),List.getElem?_replicate]
   simp; omega
section
variable {P:Program} {S:zA} {ρ:Nat→Nat} {A:Nat→Prop} {w w':World}
def zg6 (P:Program) (c:Code) (Q:Exit→Act→World→Prop) (a:Act) (w:World):Prop :=
 ∀ (b:Frame) (k:List Item) (cs:List Frame),∃ e a' w',Q e a' w'∧Arrives P (lone (b.at a (.code c:: .inLoop c::k)) cs w) b k cs e a' w'
theorem zmg {c:Code} {Q:Exit→Act→World→Prop} {a:Act} (h:zg6 P c Q a w):(Code.loop c).wp P Q a w:=fun b k cs =>
 let ⟨e,a',w',hq,harr⟩:=h b k cs
 ⟨e,a',w',hq,.of_steps (.one step_loop) harr⟩
theorem zck {c:Code} {Q:Exit→Act→World→Prop} {a:Act} (h:c.wp P (Exit.then (zg6 P c Q) Q) a w):zg6 P c Q a w:=by
 intro b k cs
 obtain ⟨e,a₁,w₁,hq,harr⟩:=h b (.inLoop c::k) cs
 cases e with
 | normal =>
  obtain ⟨e₂,a₂,w₂,hq₂,harr₂⟩:=hq b k cs
  exact ⟨e₂,a₂,w₂,hq₂,.of_steps (Steps.trans harr (.one step_inLoop)) harr₂⟩
 | exit id=>exact ⟨_,a₁,w₁,hq,.pass (x:= .inLoop c) rfl (fun _ _=>.inl (by simp)) harr⟩
 | goto l=>exact ⟨_,a₁,w₁,hq,.pass (x:= .inLoop c) rfl (fun _ _=>.inl (by simp)) harr⟩
 | ret=>exact ⟨_,a₁,w₁,hq,.pass (x:= .inLoop c) rfl (fun _ _=>.inl (by simp)) harr⟩
 | panic ch=>exact ⟨_,a₁,w₁,hq,.pass (x:= .inLoop c) rfl (fun _ _=>.inl (by simp)) harr⟩
 | outgrown=>exact ⟨_,a₁,w₁,hq,.pass (x:= .inLoop c) rfl (fun _ _=>.inl (by simp)) harr⟩
def wpL (P:Program) (c:Code) (Q:Exit→Act→World→Prop) (a:Act) (w:World):Prop:=match c with | .loop b=>zg6 P b Q a w | c=>c.wp P Q a w
theorem z3o {c:Code} {Q:Exit→Act→World→Prop} {a:Act} (h:wpL P c Q a w):c.wp P Q a w:=by
 cases c with
 | loop b=>exact zmg h
 | _=>exact h
theorem zlm {t:TypeId} {x y:V} {u:Value} (h:kN P S t x=some y) (hx:RepV P S ρ A w x u) : ∃ a,u = .pointer (some a):=by
 unfold kN at h
 split at h
 ·have hx:=(zH rfl).1 ((zZ rfl).1 hx)
  simp only [zR,List.cons.injEq,and_true] at hx
  obtain ⟨a,rfl,_⟩:=hx
  exact ⟨a,rfl⟩
 ·have hx:=(zE rfl).1 (jK.1 hx)
  simp only [RepC,List.cons.injEq,and_true] at hx
  obtain ⟨a,us,rfl,_⟩:=hx
  exact ⟨a,rfl⟩
 ·cases h
theorem zcu {T:List V} {tm:Array Value} (hT:RepT P S ρ A w T tm.toList) (t:Tmp):RepV P S ρ A w (T.getD t (.tup [])) (tm.getD t undef):=by
 have hl:=z1q hT
 simp only [Array.length_toList] at hl
 cases h:T[t]? with
 | some v =>
  obtain ⟨u,hu,hr⟩:=z58 hT t v h
  have hu':tm[t]? = some u:=by simpa using hu
  simp only [List.getD_eq_getElem?_getD,h,Option.getD_some]
  have:tm.getD t undef=u:=by
   rw [Array.getD_eq_getD_getElem?,hu']; rfl
  rw [this]; exact hr
 | none =>
  have hn:tm[t]? = none:=by
   simp only [List.getElem?_eq_none_iff] at h
   simp [hl,h]
  simp only [List.getD_eq_getElem?_getD,h,Option.getD_none]
  have:tm.getD t undef=undef:=by
   rw [Array.getD_eq_getD_getElem?,hn]; rfl
  rw [this]; exact vJ
def z1s (tm:Array Value):ResultVar→Sem Value
 | .tmp t=>pure (tm.getD t undef)
 | .cell a t=>do loadVar t (← asAddr (tm.getD a undef))
theorem z7o (hI:Inv P S ρ A w) {T:List V} {tm:Array Value} (hT:RepT P S ρ A w T tm.toList) {r:ResultVar} {v:V} (h:jT P T S r=some v) : ∃ u,(z1s tm r).run P w = .ok u w∧RepV P S ρ A w v u:=by
 cases r with
 | tmp t =>
  simp only [jT,Option.some.injEq] at h; subst h
  exact ⟨_,rfl,zcu hT t⟩
 | cell a t =>
  simp only [jT] at h
  have ha:=zcu hT a
  obtain ⟨ad,he⟩:=zlm h ha
  obtain ⟨u,h1,h2⟩:=zc8 hI h ha
  refine ⟨u,?_,zT h2⟩
  rw [he] at h1
  simpa [z1s,he,asAddr,Instr.loadAt,Instr.sureAddr] using h1
theorem z3h (hI:Inv P S ρ A w) {T:List V} {tm:Array Value} (hT:RepT P S ρ A w T tm.toList) : ∀ {rs:List ResultVar} {vs:List V},allO (jT P T S) rs=some vs → ∃ us,(rs.mapM (z1s tm)).run P w = .ok us w∧us.length=rs.length∧(∀ (i:Nat) (v:V),vs[i]? = some v → ∃ u,us[i]? = some u∧RepV P S ρ A w v u)∧vs.length=rs.length
 | [],vs,h=>by
  simp only [allO,Option.some.injEq] at h; subst h
  exact ⟨[],by simp,rfl,fun i v h=>by simp at h,rfl⟩
 | r::rs,vs,h=>by
  obtain ⟨y,zs,h1,h2,rfl⟩:=wK h
  obtain ⟨u,g1,g2⟩:=z7o hI hT h1
  obtain ⟨us,g3,g4,g5,g6⟩:=z3h hI hT h2
  refine ⟨u::us,by simp [g1,g3],by simp [g4],fun i v hv=>?_,by simp [g6]⟩
  cases i with
  | zero=>simp at hv; subst hv; exact ⟨u,by simp,g2⟩
  | succ i=>simp at hv; simpa using g5 i v hv
theorem z6d : ∀ {vs:List V} {us:List Value},vs.all V.one=true→us.length=vs.length→(∀ (i:Nat) (v:V),vs[i]? = some v → ∃ u,us[i]? = some u∧RepV P S ρ A w v u)→qS P S ρ A w vs us
 | [],us,_,hl,_=>by simp at hl; simp [qS,hl]
 | v::r,us,ho,hl,h=>by
  cases us with
  | nil=>simp at hl
  | cons u us =>
   simp only [List.all_cons,Bool.and_eq_true] at ho
   obtain ⟨u',h1,h2⟩:=h 0 v (by simp)
   simp at h1; subst h1
   simp only [qS]
   exact ⟨_,us,rfl,(zZ ho.1).1 h2,z6d ho.2 (by simpa using hl) (fun i v hv=>by simpa using h (i + 1) v (by simpa using hv))⟩
theorem z6t (hI:Inv P S ρ A w) {T:List V} {tm:Array Value} (hT:RepT P S ρ A w T tm.toList) {fn:Func} {v:V} (h:qD P fn.results T S=some v) : ∃ u,(results fn tm).run P w = .ok u w∧RepV P S ρ A w v u:=by
 have key : ∀ us:List Value,(fn.results.toList.mapM (z1s tm)).run P w = .ok us w→(results fn tm).run P w = .ok (if h:us.toArray.size=1 then us.toArray[0] else .tuple us.toArray) w:=by
  intro us hus
  have:(fn.results.mapM (z1s tm)).run P w = .ok us.toArray w:=by
   rw [← Array.toArray_toList (xs:=fn.results),List.mapM_toArray]
   simp [hus]
  have e:results fn tm=(do let vs ← fn.results.mapM (z1s tm); pure (if h:vs.size=1 then vs[0] else .tuple vs)):=by
   unfold results z1s
   rfl
  rw [e]
  simp [this]
 unfold qD at h
 split at h
 ·rename_i r hr
  obtain ⟨u,g1,g2⟩:=z7o hI hT h
  refine ⟨u,?_,g2⟩
  have:=key [u] (by rw [hr]; simp [g1])
  simpa using this
 ·rename_i l hne
  split at h
  ·rename_i vs hvs
   split at h
   ·rename_i hone
    simp only [Option.some.injEq] at h; subst h
    obtain ⟨us,g1,g2,g3,g4⟩:=z3h hI hT hvs
    refine ⟨.tuple us.toArray,?_,us.toArray,rfl,by simpa using z6d hone (by omega) g3⟩
    rw [key us g1]
    have : ¬ us.toArray.size=1:=by
     simp only [List.size_toArray,g2]
     intro h1
     obtain ⟨x,hx⟩:=List.length_eq_one_iff.1 h1
     exact hne x hx
    rw [dif_neg this]
   ·cases h
  ·cases h
theorem z9x {args:List V} {us:Array Value} (n:Nat) (h:qS P S ρ A w args us.toList):RepT P S ρ A w (vS n args) (us ++ Array.replicate (n - us.size) undef).toList:=by
 have hl:=z6f h
 simp only [Array.length_toList] at hl
 simp only [vS,Array.toList_append,Array.toList_replicate,hl]
 exact z7u (z5t h) (zh8 _)
theorem z8j {f:FuncId} {b:Body} (h:zB P f=some b) : ∃ fn,P.funcs[f]? = some fn∧fn.body=some b.code∧b.ntmps=fn.ntmps∧b.results=fn.results:=by
 unfold zB at h
 cases hf:P.funcs[f]? with
 | none=>simp [hf] at h
 | some fn =>
  simp only [hf] at h
  split at h
  ·cases h
  ·cases hb:fn.body with
   | none=>simp [hb] at h
   | some c =>
    simp only [hb,Option.some.injEq] at h; subst h
    exact ⟨fn,rfl,hb,rfl,rfl⟩
def zio (P:Program) (ex:z4l):Prop:= ∀ (c:Code) {S S':zA} {T T':List V} {F F':Dfs} {x:Ex},ex c T S F=some (x,T',S',F') →
 ∀ {ρ:Nat→Nat} {A:Nat→Prop} {w:World} {a:Act} {Q:Exit→Act→World→Prop},Inv P S ρ A w→RepT P S ρ A w T a.tmps.toList→DfOk P S ρ A w F a.defers→(∀ e a' w',ExPost P S ρ A w x T' S' F' e a' w'→Q e a' w')→wpL P c Q a w
def zbc (C:Cfg):Prop:= ∀ f post,C.catch_ f=some post → ∀ (S S':zA) (g:FuncId) (o:Out) (v:V),post o=some v → ∀ (ρ:Nat→Nat) (A:Nat→Prop) (w:World) (fa ca:Array Value),Inv C.P S ρ A w→((zB C.P g).isSome=true ∨ (C.catch_ g).isSome=true) →
 (∀ ρ1 A1 w1,Inv C.P S ρ1 A1 w1→Step S ρ A w S ρ1 A1 w1→Calls C.P g (fa ++ ca) w1 (z3w C.P S ρ1 A1 w1 o S'))→Calls C.P f #[.func (.func g) fa ca] w (z3w C.P S ρ A w (.ret v) S')
theorem zpo {C:Cfg} {n:Nat} {g:FuncId} {args:List V} {S:zA} {r:Out × zA} (h:run C n g args S=some r):(zB C.P g).isSome=true ∨ (C.catch_ g).isSome=true:=by
 cases n with
 | zero=>simp [run] at h
 | succ n =>
  simp only [run] at h
  split at h
  ·rename_i post hp
   exact .inr (by rw [hp]; rfl)
  ·split at h
   ·cases h
   ·rename_i b hb
    exact .inl (by rw [hb]; rfl)
theorem zpd {ex:z4l} (hex:zio P ex) {f:FuncId} {args:List V} {S S':zA} (h:vV P ex f args S=some S') (hI:Inv P S ρ A w) {us:Array Value} (hr:qS P S ρ A w args us.toList) {u:FrameMode} :
  CallsD P f us u w fun e u' w'=>u'=u∧match e with
   | .returned _=>∃ ρ' A',Inv P S' ρ' A' w'∧Step S ρ A w S' ρ' A' w'
   | _=>False:=by
 unfold vV at h
 split at h
 ·cases h
 ·rename_i b hb
  obtain ⟨fn,hf,hbody,hn,hres⟩:=z8j hb
  have hstart:=z9x (P:=P) (S:=S) (ρ:=ρ) (A:=A) (w:=w) fn.ntmps hr
  refine callsD_of_wp (R:=fun e w'=>match e with | .returned _=>∃ ρ' A',Inv P S' ρ' A' w'∧Step S ρ A w S' ρ' A' w' | _=>False) hf hbody ?_
  rw [hn] at h
  have fin : ∀ {x:Ex} {T1:List V} {S1:zA},(x = .norm ∨ x = .ret)→ex b.code (vS fn.ntmps args) S []=some (x,T1,S1,[])→((qD P b.results T1 S1).map fun _=>S1)=some S' →
    b.code.wp P (bodyPost P fn fun e w'=>match e with | .returned _=>∃ ρ' A',Inv P S' ρ' A' w'∧Step S ρ A w S' ρ' A' w' | _=>False) { tmps:=us ++ Array.replicate (fn.ntmps - us.size) undef,defers:=[] } w:=by
   intro x T1 S1 hx hex1 hres1
   obtain ⟨v,hv,rfl⟩:=Option.map_eq_some_iff.1 hres1
   refine z3o (hex b.code hex1 hI hstart rfl fun e a' w' he=>?_)
   have good:St P S ρ A w T1 S1 [] a' w'→a'.defers=[] ∧ ∃ v,(results fn a'.tmps).run P w' = .ok v w'∧(∃ ρ' A',Inv P S1 ρ' A' w'∧Step S ρ A w S1 ρ' A' w'):=fun hs=>by
    obtain ⟨ρ',A',h1,h2,h3,h4⟩:=hs
    rw [hres] at hv
    obtain ⟨u,g1,g2⟩:=z6t h1 h3 hv
    exact ⟨h4,u,g1,ρ',A',h1,h2⟩
   cases e with
   | normal=>exact good he.2
   | ret=>exact good he.2
   | exit k=>rcases hx with rfl | rfl <;> exact absurd he.1 (by simp)
   | panic c=>obtain ⟨y,v,h1,_⟩:=he; rcases hx with rfl | rfl <;> cases h1
   | goto l=>exact he.elim
   | outgrown=>exact he.elim
  split at h
  ·rename_i T1 S1 h1
   exact fin (.inl rfl) h1 h
  ·rename_i T1 S1 h1
   exact fin (.inr rfl) h1 h
  ·cases h
theorem zqp {ex:z4l} (hex:zio P ex) {fn:Func} {tm:Array Value} {T:List V} {v:V} {S2:zA} {R:Ending→World→Prop} {S0:zA} {ρ0:Nat→Nat} {A0:Nat→Prop} {w0:World} (hres:qD P fn.results T S2=some v)
    (hR : ∀ u w',(∃ ρ' A',Inv P S2 ρ' A' w'∧Step S0 ρ0 A0 w0 S2 ρ' A' w'∧RepV P S2 ρ' A' w' v u)→R (.returned u) w') : ∀ {F:Dfs} {ds:List Deferred} {S:zA} {ρ:Nat→Nat} {A:Nat→Prop} {w:World},dfrV P ex F S=some S2→Inv P S ρ A w→Step S0 ρ0 A0 w0 S ρ A w→RepT P S ρ A w T tm.toList→DfOk P S ρ A w F ds→Leaves P fn tm R ds .returning w
  | [],ds,S,ρ,A,w,h,hI,hs,hT,hF=>by
    simp only [dfrV,Option.some.injEq] at h; subst h
    simp only [DfOk] at hF; subst hF
    obtain ⟨u,g1,g2⟩:=z6t hI hT hres
    exact ⟨u,g1,hR u w ⟨ρ,A,hI,hs,g2⟩⟩
  | (f,args)::r,ds,S,ρ,A,w,h,hI,hs,hT,hF=>by
    obtain ⟨d,ds',rfl,⟨fv,cap,us,h1,h2,h3⟩,h4⟩:=hF
    simp only [dfrV] at h
    cases hp:vV P ex f args S with
    | none=>simp [hp] at h
    | some S1 =>
      simp only [hp] at h
      refine ⟨by simp,fv,cap,f,us,h1,h2 w,?_⟩
      refine (zpd hex hp hI h3).mono fun e u' w' he=>?_
      obtain ⟨rfl,he⟩:=he
      cases e with
      | returned u =>
        obtain ⟨ρ1,A1,g1,g2⟩:=he
        exact zqp hex hres hR h g1 (hs.trans g2) (kC g2.amono g2.keepA g2.sle _ _ hT) (kB g2 h4)
      | panicked c=>exact he.elim
      | outgrown=>exact he.elim
theorem zva {C:Cfg} (hext:z5o C) (hcatch:zbc C) : ∀ n,zio C.P (exec C n)∧z95 C.P (run C n):=by
 intro n
 induction n with
 | zero=>exact ⟨fun c S S' T T' F F' x h=>by simp [exec] at h,fun f args S o S' h=>by simp [run] at h⟩
 | succ n ih =>
  obtain ⟨ihe,ihr⟩:=ih
  constructor
  ·intro c S S' T T' F F' x h ρ A w a Q hI hT hF hQ
   have here : ∀ {x':Ex} {e:Exit},(∀ a' w',St C.P S ρ A w T S F a' w'→ExPost C.P S ρ A w x' T S F e a' w')→some (x',T,S,F)=some (x,T',S',F')→Q e a w:=by
    intro x' e hp he
    simp only [Option.some.injEq,Prod.mk.injEq] at he
    obtain ⟨rfl,rfl,rfl,rfl⟩:=he
    exact hQ _ _ _ (hp a w ⟨ρ,A,hI,.refl,hT,hF⟩)
   cases c with
   | skip=>exact wp_skip (here (x':= .norm) (fun _ _ hs=>⟨rfl,hs⟩) (by simpa [exec] using h))
   | label l=>exact wp_label (here (x':= .norm) (fun _ _ hs=>⟨rfl,hs⟩) (by simpa [exec] using h))
   | exit id=>exact wp_exit (here (x':= .exit id) (fun _ _ hs=>⟨rfl,hs⟩) (by simpa [exec] using h))
   | ret=>exact wp_ret (here (x':= .ret) (fun _ _ hs=>⟨rfl,hs⟩) (by simpa [exec] using h))
   | region id ops dr =>
    cases dr with
    | false =>
     simp only [exec] at h
     refine wp_region ?_
     have:=z41 hext ihr h (k:=0) rfl hI hT hF hQ
     rw [List.range_eq_range']
     simpa using this
    | true =>
     simp only [exec] at h
     split at h
     ·rename_i T1 S1 cs hseq
      split at h
      ·rename_i hd
       simp only [Option.some.injEq,Prod.mk.injEq] at h
       obtain ⟨rfl,rfl,rfl,rfl⟩:=h
       exact zup hext ihr (zkq C n).2 hseq hd hI hT hF (fun a' w' hs=>hQ _ _ _ ⟨rfl,hs⟩)
      ·cases h
     ·split at h
      ·rename_i v1 S1 cs p rest hseq
       split at h
       ·rename_i hd
        simp only [Option.some.injEq,Prod.mk.injEq] at h
        obtain ⟨rfl,rfl,rfl,rfl⟩:=h
        exact zet hext ihr (zkq C n).2 hseq hd hI hT hF (fun a' w' c ⟨u,h1,h2,ρ',A',h3,h4,h5⟩=>hQ _ _ _ ⟨_,u,rfl,h1,h2,ρ',A',h3,h4,h5⟩)
       ·cases h
      ·cases h
   | seq c1 c2 =>
    simp only [exec] at h
    refine wp_seq ?_
    cases h1:exec C n c1 T S F with
    | none=>simp [h1] at h
    | some r =>
     obtain ⟨x1,T1,S1,F1⟩:=r
     refine z3o (ihe c1 h1 hI hT hF fun e a' w' he=>?_)
     cases x1 with
     | norm =>
      simp only [h1] at h
      cases e with
      | normal =>
       obtain ⟨_,ρ1,A1,g1,g2,g3,g4⟩:=he
       exact z3o (ihe c2 h g1 g3 g4 fun e a2 w2 he2=>hQ _ _ _ (he2.step g2))
      | exit k=>exact absurd he.1 (by simp)
      | ret=>exact absurd he.1 (by simp)
      | panic c=>obtain ⟨y,v,h1,_⟩:=he; cases h1
      | goto l=>exact he.elim
      | outgrown=>exact he.elim
     | _ =>
      simp only [h1,Option.some.injEq,Prod.mk.injEq] at h
      obtain ⟨rfl,rfl,rfl,rfl⟩:=h
      cases e with
      | normal=>exact absurd he.1 (by simp)
      | _=>exact hQ _ _ _ he
   | cond c a1 b1 =>
    simp only [exec] at h
    have hc:=z1g hT c
    split at h
    ·rename_i hv
     rw [hv] at hc
     exact wp_cond_true (z36 hc) (z3o (ihe a1 h hI hT hF hQ))
    ·rename_i hv
     rw [hv] at hc
     exact wp_cond_false (z36 hc) (z3o (ihe b1 h hI hT hF hQ))
    ·cases h
   | block id b =>
    simp only [exec] at h
    refine wp_block ?_
    cases h1:exec C n b T S F with
    | none=>simp [h1] at h
    | some r =>
     obtain ⟨x1,T1,S1,F1⟩:=r
     refine z3o (ihe b h1 hI hT hF fun e a' w' he=>?_)
     cases x1 with
     | exit k =>
      simp only [h1] at h
      cases e with
      | exit k' =>
       obtain ⟨hk,hs⟩:=he
       simp only [Ex.exit.injEq] at hk
       subst hk
       simp only [Exit.inBlock]
       split at h
       ·rename_i hk
        rw [if_pos hk]
        simp only [Option.some.injEq,Prod.mk.injEq] at h
        obtain ⟨rfl,rfl,rfl,rfl⟩:=h
        exact hQ _ _ _ ⟨rfl,hs⟩
       ·rename_i hk
        rw [if_neg hk]
        simp only [Option.some.injEq,Prod.mk.injEq] at h
        obtain ⟨rfl,rfl,rfl,rfl⟩:=h
        exact hQ _ _ _ ⟨rfl,hs⟩
      | normal=>exact absurd he.1 (by simp)
      | ret=>exact absurd he.1 (by simp)
      | panic c=>obtain ⟨y,v,h1,_⟩:=he; cases h1
      | goto l=>exact he.elim
      | outgrown=>exact he.elim
     | _ =>
      simp only [h1,Option.some.injEq,Prod.mk.injEq] at h
      obtain ⟨rfl,rfl,rfl,rfl⟩:=h
      cases e with
      | exit k'=>exact absurd he.1 (by simp)
      | _=>exact hQ _ _ _ he
   | loop b =>
    simp only [exec] at h
    refine zck ?_
    cases h1:exec C n b T S F with
    | none=>simp [h1] at h
    | some r =>
     obtain ⟨x1,T1,S1,F1⟩:=r
     refine z3o (ihe b h1 hI hT hF fun e a' w' he=>?_)
     cases x1 with
     | norm =>
      simp only [h1] at h
      cases e with
      | normal =>
       obtain ⟨_,ρ1,A1,g1,g2,g3,g4⟩:=he
       exact ihe (.loop b) h g1 g3 g4 fun e a2 w2 he2=>hQ _ _ _ (he2.step g2)
      | exit k=>exact absurd he.1 (by simp)
      | ret=>exact absurd he.1 (by simp)
      | panic c=>obtain ⟨y,v,h1,_⟩:=he; cases h1
      | goto l=>exact he.elim
      | outgrown=>exact he.elim
     | _ =>
      simp only [h1,Option.some.injEq,Prod.mk.injEq] at h
      obtain ⟨rfl,rfl,rfl,rfl⟩:=h
      cases e with
      | normal=>exact absurd he.1 (by simp)
      | _=>exact hQ _ _ _ he
   | scope b =>
    simp only [exec] at h
    refine wp_scope_straight (z3o (ihe b h hI hT hF fun e a' w' he=>?_))
    cases e with
    | goto l=>exact he.elim
    | _=>exact hQ _ _ _ he
   | _=>simp [exec] at h
  ·intro f args S o S' h ρ A w us hI hr
   simp only [run] at h
   split at h
   ·rename_i post hpost
    split at h
    ·rename_i g first caps
     split at h
     ·cases h
     ·rename_i o' S1 h1
      split at h
      ·cases h
      ·rename_i v hv
       simp only [Option.some.injEq,Prod.mk.injEq] at h
       obtain ⟨rfl,rfl⟩:=h
       simp only [qS] at hr
       obtain ⟨u,us',hus,hu,rfl⟩:=hr
       have:us = #[u]:=by rw [← Array.toList_inj]; exact hus
       subst this
       obtain ⟨fa,ca,rfl,g1,g2⟩:=zg2 (zT hu)
       refine hcatch f post hpost S S1 g o' v hv ρ A w fa ca hI (zpo h1) fun ρ1 A1 w1 hI1 hs1=>?_
       refine ihr g _ S o' S1 h1 ρ1 A1 w1 _ hI1 ?_
       have:=kK (z1f hs1.amono hs1.keepA hs1.sle _ _ g1) (z1f hs1.amono hs1.keepA hs1.sle _ _ g2)
       simpa using this
    ·cases h
   ·split at h
    ·cases h
    ·rename_i b hb
     obtain ⟨fn,hf,hbody,hn,hres⟩:=z8j hb
     rw [hn] at h
     refine calls_of_wp_defers hf hbody ?_
     have hstart:=z9x (P:=C.P) (S:=S) (ρ:=ρ) (A:=A) (w:=w) fn.ntmps hr
     have good : ∀ {T1:List V} {S1:zA} {F1:Dfs} {a':Act} {w':World},endV C.P (exec C n) b.results T1 S1 F1=some (o,S')→St C.P S ρ A w T1 S1 F1 a' w'→Leaves C.P fn a'.tmps (z3w C.P S ρ A w o S') a'.defers .returning w':=by
      intro T1 S1 F1 a' w' he hs
      obtain ⟨ρ1,A1,g1,g2,g3,g4⟩:=hs
      unfold endV at he
      cases hd:dfrV C.P (exec C n) F1 S1 with
      | none=>simp [hd] at he
      | some S2 =>
       simp only [hd] at he
       cases hrs:qD C.P b.results T1 S2 with
       | none=>simp [hrs] at he
       | some v =>
        simp only [hrs,Option.some.injEq,Prod.mk.injEq] at he
        obtain ⟨rfl,rfl⟩:=he
        rw [hres] at hrs
        exact zqp ihe hrs (fun u w2 ⟨ρ2,A2,k1,k2,k3⟩=>⟨v,rfl,ρ2,A2,k1,k2,k3⟩) hd g1 g2 g3 g4
     have case1 : ∀ {x:Ex} {T1:List V} {S1:zA} {F1:Dfs},(x = .norm ∨ x = .ret)→exec C n b.code (vS fn.ntmps args) S []=some (x,T1,S1,F1)→endV C.P (exec C n) b.results T1 S1 F1=some (o,S') →
       b.code.wp C.P (bodyPostD C.P fn (z3w C.P S ρ A w o S')) { tmps:=us ++ Array.replicate (fn.ntmps - us.size) undef,defers:=[] } w:=by
      intro x T1 S1 F1 hx hex1 he
      refine z3o (ihe b.code hex1 hI hstart rfl fun e a' w' hp=>?_)
      cases e with
      | normal=>exact good he hp.2
      | ret=>exact good he hp.2
      | exit k=>rcases hx with rfl | rfl <;> exact absurd hp.1 (by simp)
      | panic c=>obtain ⟨y,v,h1,_⟩:=hp; rcases hx with rfl | rfl <;> cases h1
      | goto l=>exact hp.elim
      | outgrown=>exact hp.elim
     split at h
     ·rename_i T1 S1 F1 h1
      exact case1 (.inl rfl) h1 h
     ·rename_i T1 S1 F1 h1
      exact case1 (.inr rfl) h1 h
     ·rename_i v T1 S1 h1
      simp only [Option.some.injEq,Prod.mk.injEq] at h
      obtain ⟨rfl,rfl⟩:=h
      refine z3o (ihe b.code h1 hI hstart rfl fun e a' w' hp=>?_)
      cases e with
      | panic c =>
       obtain ⟨y,u,k1,rfl,k2,ρ1,A1,k3,k4,k5⟩:=hp
       cases k1
       show Leaves C.P fn a'.tmps _ a'.defers _ w'
       rw [k2 rfl]
       exact ⟨v,u,rfl,rfl,ρ1,A1,k3,k4,k5⟩
      | normal=>exact absurd hp.1 (by simp)
      | ret=>exact absurd hp.1 (by simp)
      | exit k=>exact absurd hp.1 (by simp)
      | goto l=>exact hp.elim
      | outgrown=>exact hp.elim
     ·cases h
theorem zsk {C:Cfg} (hext:z5o C) (hcatch:zbc C) (n:Nat):zwk C.P (runD C n):=zd1 hext (zva hext hcatch n).2
end
abbrev Post:=Ex→List V→zA→Dfs→Prop
section
variable {C:Cfg}
def Ev (C:Cfg) (f:FuncId) (ds:List D) (o:Out):Prop:= ∃ n,runD C n f ds=some o
def EvS (C:Cfg) (f:FuncId) (args:List V) (S:zA) (Q:Out→zA→Prop):Prop:= ∃ n o S',run C n f args S=some (o,S')∧Q o S'
def Wp (C:Cfg) (c:Code) (T:List V) (S:zA) (F:Dfs) (Q:Post):Prop:= ∃ n x T' S' F',exec C n c T S F=some (x,T',S',F')∧Q x T' S' F'
def WpL (C:Cfg) (ops:Array Oper) (l:List Oper) (T:List V) (S:zA) (F:Dfs) (Q:Post):Prop:= ∃ n x T' S' F',seqV C (run C n) ops l T S F=some (x,T',S',F')∧Q x T' S' F'
def andThen (K:List V→zA→Dfs→Prop) (Q:Post):Post
 | .norm,T,S,F=>K T S F
 | x,T,S,F=>Q x T S F
def inBlock (id:Nat) (Q:Post):Post
 | .exit k,T,S,F=>if k=id then Q .norm T S F else Q (.exit k) T S F
 | x,T,S,F=>Q x T S F
theorem zdm {id k:Nat} {Q:Post} {T S F}:inBlock id Q (.exit k) T S F=if k=id then Q .norm T S F else Q (.exit k) T S F:=rfl
theorem Wp.mono {c:Code} {T S F} {Q Q':Post} (h:Wp C c T S F Q) (hq : ∀ x T' S' F',Q x T' S' F'→Q' x T' S' F'):Wp C c T S F Q':=by
 obtain ⟨n,x,T',S',F',h1,h2⟩:=h
 exact ⟨n,x,T',S',F',h1,hq _ _ _ _ h2⟩
theorem wp_skip {T S F} {Q:Post} (h:Q .norm T S F):Wp C .skip T S F Q:=⟨1,_,_,_,_,rfl,h⟩
theorem wp_ret {T S F} {Q:Post} (h:Q .ret T S F):Wp C .ret T S F Q:=⟨1,_,_,_,_,rfl,h⟩
theorem wp_exit {id T S F} {Q:Post} (h:Q (.exit id) T S F):Wp C (.exit id) T S F Q:=⟨1,_,_,_,_,rfl,h⟩
theorem wp_label {l T S F} {Q:Post} (h:Q .norm T S F):Wp C (.label l) T S F Q:=⟨1,_,_,_,_,rfl,h⟩
theorem wp_region {id ops T S F} {Q:Post} (h:WpL C ops ops.toList T S F Q):Wp C (.region id ops false) T S F Q:=by
 obtain ⟨n,x,T',S',F',h1,h2⟩:=h
 exact ⟨n + 1,x,T',S',F',by simpa [exec] using h1,h2⟩
theorem wp_seq {a b:Code} {T S F} {Q:Post} (h:Wp C a T S F (andThen (fun T' S' F'=>Wp C b T' S' F' Q) Q)):Wp C (.seq a b) T S F Q:=by
 obtain ⟨n,x,T',S',F',h1,h2⟩:=h
 cases x with
 | norm =>
  obtain ⟨m,y,T2,S2,F2,h3,h4⟩:=h2
  refine ⟨max n m + 1,y,T2,S2,F2,?_,h4⟩
  simp only [exec]
  rw [z64 C (Nat.le_max_left n m) _ _ _ _ _ h1]
  exact z64 C (Nat.le_max_right n m) _ _ _ _ _ h3
 | _ =>
  refine ⟨n + 1,_,T',S',F',?_,h2⟩
  simp only [exec]
  rw [h1]
theorem wp_cond {c:Operand} {a b:Code} {T S F} {Q:Post} {v:Bool} (hv:zC T c = .d (.bool v)) (ha:v=true→Wp C a T S F Q) (hb:v=false→Wp C b T S F Q):Wp C (.cond c a b) T S F Q:=by
 cases v with
 | true =>
  obtain ⟨n,x,T',S',F',h1,h2⟩:=ha rfl
  exact ⟨n + 1,x,T',S',F',by simp only [exec,hv]; exact h1,h2⟩
 | false =>
  obtain ⟨n,x,T',S',F',h1,h2⟩:=hb rfl
  exact ⟨n + 1,x,T',S',F',by simp only [exec,hv]; exact h1,h2⟩
theorem wp_block {id:Nat} {b:Code} {T S F} {Q:Post} (h:Wp C b T S F (inBlock id Q)):Wp C (.block id b) T S F Q:=by
 obtain ⟨n,x,T',S',F',h1,h2⟩:=h
 cases x with
 | exit k =>
  rw [zdm] at h2
  by_cases hk:k=id
  ·rw [if_pos hk] at h2
   exact ⟨n + 1,_,T',S',F',by simp only [exec]; rw [h1]; simp [hk],h2⟩
  ·rw [if_neg hk] at h2
   exact ⟨n + 1,_,T',S',F',by simp only [exec]; rw [h1]; simp [hk],h2⟩
 | _=>exact ⟨n + 1,_,T',S',F',by simp only [exec]; rw [h1],h2⟩
theorem wp_scope {b:Code} {T S F} {Q:Post} (h:Wp C b T S F Q):Wp C (.scope b) T S F Q:=by
 obtain ⟨n,x,T',S',F',h1,h2⟩:=h
 exact ⟨n + 1,x,T',S',F',by simpa [exec] using h1,h2⟩
theorem wp_loop {b:Code} {T S F} {Q:Post} (h:Wp C b T S F (andThen (fun T' S' F'=>Wp C (.loop b) T' S' F' Q) Q)):Wp C (.loop b) T S F Q:=by
 obtain ⟨n,x,T',S',F',h1,h2⟩:=h
 cases x with
 | norm =>
  obtain ⟨m,y,T2,S2,F2,h3,h4⟩:=h2
  refine ⟨max n m + 1,y,T2,S2,F2,?_,h4⟩
  simp only [exec]
  rw [z64 C (Nat.le_max_left n m) _ _ _ _ _ h1]
  exact z64 C (Nat.le_max_right n m) _ _ _ _ _ h3
 | _ =>
  refine ⟨n + 1,_,T',S',F',?_,h2⟩
  simp only [exec]
  rw [h1]
theorem zye {ops T S F} {Q:Post} (h:Q .norm T S F):WpL C ops [] T S F Q:=⟨0,_,_,_,_,rfl,h⟩
def zch (o:Oper):Bool:=match o.op with | .buildSlice .. => false | _=>true
theorem z2n {P:Program} {T:List V} {o:Oper} {l:List Oper} (h:zch o=true):wB P T o l=none:=by
 cases l with
 | nil=>rfl
 | cons o2 l =>
  obtain ⟨dst,op,ty,pos,after,guard⟩:=o
  cases op <;> first | rfl | (simp [zch] at h)
theorem zmr {f:FuncId} {b:Body} {ds:List D} {o:Out} (hx:C.ext f=none) (hc:C.catch_ f=none) (hb:zB C.P f=some b)
  (h:Wp C b.code (vS b.ntmps (ds.map .d)) [] [] fun x T S F=>(x = .norm ∨ x = .ret)∧F=[] ∧ ∃ v,qD C.P b.results T S=some v∧z8o S (.ret v)=some o):Ev C f ds o:=by
 obtain ⟨n,x,T,S,F,h1,h2,rfl,v,h3,h4⟩:=h
 refine ⟨n + 1,?_⟩
 unfold runD answer
 simp only [hx,run,hc,hb,h1]
 rcases h2 with rfl | rfl <;> simp only [endV,dfrV,h3] <;> exact h4
theorem zih {f:FuncId} {b:Body} {args:List V} {S:zA} {R:Out→zA→Prop} (hc:C.catch_ f=none) (hb:zB C.P f=some b)
  (h:Wp C b.code (vS b.ntmps args) S [] fun x T S F=>F=[]∧match x with | .norm=>∃ v,qD C.P b.results T S=some v∧R (.ret v) S | .ret=>∃ v,qD C.P b.results T S=some v∧R (.ret v) S | .pan v=>R (.pan v) S | .exit _=>False):EvS C f args S R:=by
 obtain ⟨n,x,T,S',F,h1,rfl,h2⟩:=h
 cases x with
 | norm =>
  obtain ⟨v,h3,h4⟩:=h2
  exact ⟨n + 1,.ret v,S',by simp only [run,hc,hb,h1,endV,dfrV,h3],h4⟩
 | ret =>
  obtain ⟨v,h3,h4⟩:=h2
  exact ⟨n + 1,.ret v,S',by simp only [run,hc,hb,h1,endV,dfrV,h3],h4⟩
 | pan v=>exact ⟨n + 1,.pan v,S',by simp only [run,hc,hb,h1],h2⟩
 | exit k=>exact h2.elim
end
end Go.Vm
end
