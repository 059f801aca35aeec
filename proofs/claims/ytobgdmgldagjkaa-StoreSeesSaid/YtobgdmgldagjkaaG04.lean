/- The value machine: calls, by the store or apart from it. -/
import Derived.Orders
import Derived.Test.YtobgdmgldagjkaaG03
set_option linter.unusedVariables false
set_option linter.unusedSimpArgs false
section
namespace Go.Vm
section
variable {P : Program} {S : Store} {ρ : Nat → Nat} {A A' : Nat → Prop} {w w' : World}
def z3y (P : Program) (S : Store) (ρ : Nat → Nat) (A : Nat → Prop) (w : World) (o : Out) (S' : Store) : Ending → World → Prop
 | .returned v, w' => ∃ x, o = .ret x ∧ ∃ ρ' A', Inv P S' ρ' A' w' ∧ Step S ρ A w S' ρ' A' w' ∧ RepV P S' ρ' A' w' x v
 | .panicked chain, w' => ∃ x v, o = .pan x ∧ chain = [{ v, recovered := false }] ∧ ∃ ρ' A', Inv P S' ρ' A' w' ∧ Step S ρ A w S' ρ' A' w' ∧ RepW P S' ρ' A' w' x v
 | .outgrown, _ => False
def z9f (P : Program) (call : jT) : Prop := ∀ f args S o S', call f args S = some (o, S') → ∀ (ρ : Nat → Nat) (A : Nat → Prop) (w : World) (us : Array Value), Inv P S ρ A w → qQ P S ρ A w args us.toList → Calls P f us w (z3y P S ρ A w o S')
structure Iso (A : Nat → Prop) (w : World) (A' : Nat → Prop) (w' : World) : Prop where
 os : w'.os = w.os
 tape : w'.tape = w.tape
 output : w'.output = w.output
 size : w.heap.size ≤ w'.heap.size
 old : ∀ b, b < w.heap.size → w'.heap[b]? = w.heap[b]?
 amono : ∀ b, A b → A' b
 anew : ∀ b, A' b → A b ∨ w.heap.size ≤ b
 lt : ∀ b, A' b → b < w'.heap.size
inductive OutD where
 | ret (x : D)
 | tup (xs : List D)
 | pan (x : D)
def OutD.out : OutD → Out
 | .ret x => .ret (.d x)
 | .tup xs => .ret (.tup (xs.map .d))
 | .pan x => .pan (.d x)
def z81 (A : Nat → Prop) (w : World) : OutD → Value → Prop
 | .ret x, v => RepX A w x v
 | .tup xs, v => ∃ us, v = .tuple us ∧ RepS A w xs us.toList
 | .pan _, _ => False
def zew (A : Nat → Prop) (w : World) (o : OutD) : Ending → World → Prop
 | .returned v, w' => ∃ A', Iso A w A' w' ∧ z81 A' w' o v
 | .panicked chain, w' => ∃ x v, o = .pan x ∧ chain = [{ v, recovered := false }] ∧ ∃ A', Iso A w A' w' ∧ RepX A' w' x v
 | .outgrown, _ => False
def zxv (P : Program) (ans : FuncId → List D → Option Out) : Prop := ∀ f ds o, ans f ds = some o → ∃ o', o = OutD.out o' ∧ ∀ (A : Nat → Prop) (w : World) (us : Array Value), (∀ b, A b → b < w.heap.size) → GlobOk P A w → RepS A w ds us.toList → Calls P f us w (zew A w o')
def kD (C : Cfg) : Prop := ∀ f g, C.ext f = some g → ∀ ds o, g ds = some o → ∃ o', o = OutD.out o' ∧ ∀ (A : Nat → Prop) (w : World) (us : Array Value), (∀ b, A b → b < w.heap.size) → GlobOk C.P A w → RepS A w ds us.toList → Calls C.P f us w (zew A w o')
theorem zea (h : ∀ b, A b → b < w.heap.size) (hgl : GlobOk P A w) : Inv P [] ρ A w := ⟨fun id o ho => by simp at ho, fun i j oi oj hi => by simp at hi, fun i o ho => by simp at ho, h, hgl⟩
theorem z1m {b : Nat} : ¬ zkv [] ρ b := by rintro ⟨id, o, ho, _⟩; simp at ho
theorem zl1 (hI : Inv P S ρ A w) {ids : List Nat} {v : V} {x : D} {u : Value} (h : frz S zH v = some x) (hr : RepW P S ρ A w v u) (hq : ∀ i ∈ frzIds S zH v, i ∈ ids) : RepX (stay S ρ A ids) w x u := by
 have hqi : ∀ i ∈ frzIds S zH v, stay S ρ A ids (ρ i) := fun i hi => z0e hi (hq i hi)
 rcases hr with ⟨g1, us', g2, g3⟩ | ⟨g1, g3⟩
 ·obtain ⟨e1, e2⟩ := z5k hI z00 zH v x _ h g3 hqi
  exact .inl ⟨e2.trans g1, us', g2, e1⟩
 ·obtain ⟨e1, e2⟩ := z5k hI z00 zH v x _ h g3 hqi
  exact .inr ⟨e2.trans g1, e1⟩
theorem za9 : ∀ {ds : List D} {us : List Value}, qQ P S ρ A w (ds.map .d) us → RepS A w ds us
 | [], us, h => by simpa [qQ, RepS] using h
 | x :: r, us, h => by
  simp only [List.map_cons, qQ] at h
  obtain ⟨v, us', rfl, h1, h2⟩ := h
  simp only [RepS]
  exact ⟨v, us', rfl, jN.1 h1, za9 h2⟩
theorem zgh {o : OutD} {x : V} {v : Value} (h : z81 A w o v) (ho : o.out = .ret x) : RepV P S ρ A w x v := by
 cases o with
 | ret y => simp only [OutD.out, Out.ret.injEq] at ho; subst ho; exact jH.2 h
 | tup ys =>
  simp only [OutD.out, Out.ret.injEq] at ho; subst ho
  obtain ⟨us, rfl, h⟩ := h
  exact ⟨us, rfl, vF h⟩
 | pan y => exact h.elim
theorem zav {S' : Store} {ρ' : Nat → Nat} {A' : Nat → Prop} (hlt : ∀ b, A b → b < w.heap.size) (hI : Inv P S' ρ' A' w') (hs : Step [] ρ A w S' ρ' A' w') (ids : List Nat) : Iso A w (stay S' ρ' A' ids) w' where
 os := hs.os
 tape := hs.tape
 output := hs.output
 size := hs.size
 old := fun b hb => hs.keep b hb z1m
 amono := fun b hb => z00 b (hs.amono b hb)
 anew := fun b hb => by
  rcases hb with hb | ⟨id, _, o, ho, hl, _, rfl⟩
  ·rcases hs.anew b hb with h | h | h
   ·exact .inl h
   ·exact absurd h z1m
   ·exact .inr h
  ·rcases hs.onew _ ⟨id, o, ho, hl, rfl⟩ with h | h
   ·exact absurd h z1m
   ·exact .inr h
 lt := fun b hb => by
  rcases hb with hb | ⟨id, _, o, ho, hl, _, rfl⟩
  ·exact hI.lt b hb
  ·exact (hI.ok id o ho).lt (by rintro rfl; cases hl) (by rintro rfl; cases hl)
theorem z9v (hI : Inv P S ρ A w) {ids : List Nat} {vs : List V} {ds : List D} {us : List Value} (h : allO (frz S zH) vs = some ds) (hr : qQ P S ρ A w vs us) (hq : ∀ i ∈ vs.flatMap (frzIds S zH), i ∈ ids) : RepS (stay S ρ A ids) w ds us :=
 za9 (zfn hI h hr hq)
theorem zbu {C : Cfg} {call : jT} (hext : kD C) (hrun : z9f C.P call) : zxv C.P (answer C call) := by
 intro f ds o h
 unfold answer at h
 split at h
 ·rename_i g hg
  exact hext f g hg ds o h
 ·cases hc : call f (ds.map .d) [] with
  | none => simp [hc] at h
  | some r =>
   obtain ⟨out, S'⟩ := r
   simp only [hc] at h
   have key := hrun f _ _ _ _ hc
   unfold z7j at h
   split at h
   ·rename_i vs
    obtain ⟨xs, hx, rfl⟩ := Option.map_eq_some_iff.1 h
    refine ⟨.tup xs, rfl, fun A w us hlt hgl hr => (key (fun _ => 0) A w us (zea hlt hgl) (vF hr)).mono fun e w' he => ?_⟩
    cases e with
    | returned v =>
     obtain ⟨x, hx', ρ', A', h1, h2, h3⟩ := he
     cases hx'
     obtain ⟨us', rfl, h3⟩ := h3
     exact ⟨_, zav hlt h1 h2 (vs.flatMap (frzIds S' zH)), us', rfl, z9v h1 hx h3 (fun i hi => hi)⟩
    | panicked c => obtain ⟨x, v, hx', _⟩ := he; cases hx'
    | outgrown => exact he
   ·rename_i v0 hne
    obtain ⟨x, hx, rfl⟩ := Option.map_eq_some_iff.1 h
    refine ⟨.ret x, rfl, fun A w us hlt hgl hr => (key (fun _ => 0) A w us (zea hlt hgl) (vF hr)).mono fun e w' he => ?_⟩
    cases e with
    | returned v =>
     obtain ⟨x', hx', ρ', A', h1, h2, h3⟩ := he
     cases hx'
     have hone : v0.one = true := by
      cases v0 <;> first | rfl | (simp [zH, frz] at hx)
     exact ⟨_, zav hlt h1 h2 (frzIds S' zH v0), zl1 h1 hx ((zY hone).1 h3) (fun i hi => hi)⟩
    | panicked c => obtain ⟨x, v, hx', _⟩ := he; cases hx'
    | outgrown => exact he
   ·rename_i v0
    obtain ⟨x, hx, rfl⟩ := Option.map_eq_some_iff.1 h
    refine ⟨.pan x, rfl, fun A w us hlt hgl hr => (key (fun _ => 0) A w us (zea hlt hgl) (vF hr)).mono fun e w' he => ?_⟩
    cases e with
    | returned v => obtain ⟨x', hx', _⟩ := he; cases hx'
    | panicked c =>
     obtain ⟨x', v, hx', rfl, ρ', A', h1, h2, h3⟩ := he
     cases hx'
     exact ⟨x, v, rfl, rfl, _, zav hlt h1 h2 (frzIds S' zH v0), zl1 h1 hx h3 (fun i hi => hi)⟩
    | outgrown => exact he
theorem Inv.iso (h : Inv P S ρ A w) {A1 A2 : Nat → Prop} (hi : Iso A1 w A2 w') (hA : ∀ b, A1 b → A b) :
  Inv P S ρ (fun b => A b ∨ A2 b) w' ∧ Step S ρ A w S ρ (fun b => A b ∨ A2 b) w' := by
 obtain ⟨g1, g2⟩ := h.world hi.size hi.old hi.os hi.tape hi.output
 have hnew : ∀ b, A2 b → A b ∨ w.heap.size ≤ b := fun b hb => (hi.anew b hb).imp (hA b) id
 refine ⟨⟨fun id o ho => (g1.ok id o ho).mono (fun _ h => .inl h) (fun _ _ => rfl) (Step.refl (A := A)).sle (fun _ => rfl), h.inj, fun i o ho hl hb => ?_, fun b hb => ?_, h.gl.step (fun _ h => .inl h) g2.keepA⟩, ⟨hi.os, hi.tape, hi.output, hi.size, g2.keep, g2.keepA, fun _ h => .inl h, fun b hb => ?_, fun _ h => .inl h, g2.sle⟩⟩
 ·rcases hb with hb | hb
  ·exact h.own i o ho hl hb
  ·rcases hnew _ hb with hb | hb
   ·exact h.own i o ho hl hb
   ·have := (h.ok i o ho).lt (by rintro rfl; cases hl) (by rintro rfl; cases hl)
    omega
 ·rcases hb with hb | hb
  ·exact g1.lt b hb
  ·exact hi.lt b hb
 ·rcases hb with hb | hb
  ·exact .inl hb
  ·rcases hnew _ hb with hb | hb
   ·exact .inl hb
   ·exact .inr (.inr hb)
theorem zid {B : Nat → Prop} (hB : ∀ b, A b → B b) {xs : List D} {us : List Value} (h : RepS A w xs us) : RepS B w xs us := z4y hB (fun _ _ => rfl) xs us h
theorem zer {B : Nat → Prop} (hB : ∀ b, A b → B b) {o : OutD} {v : Value} (h : z81 A w o v) : z81 B w o v := by
 cases o with
 | ret x => exact z2u hB (fun _ _ => rfl) h
 | tup xs => obtain ⟨us, h1, h2⟩ := h; exact ⟨us, h1, zid hB h2⟩
 | pan x => exact h.elim
theorem zf4 {B : Nat → Prop} {x : D} {v : Value} (h : x.plain = true) (hr : RepX A w x v) : RepX B w x v :=
 hr.imp (fun ⟨a, us, b, c⟩ => ⟨a, us, b, zbt h c⟩) (fun ⟨a, b⟩ => ⟨a, zbt h b⟩)
theorem zm7 {B : Nat → Prop} : ∀ {xs : List D} {us : List Value}, xs.all D.plain = true → RepS A w xs us → RepS B w xs us
 | [], us, _, h => by simpa [RepS] using h
 | x :: r, us, hp, h => by
  simp only [List.all_cons, Bool.and_eq_true] at hp
  simp only [RepS] at h ⊢
  obtain ⟨v, us', rfl, h1, h2⟩ := h
  exact ⟨v, us', rfl, zf4 hp.1 h1, zm7 hp.2 h2⟩
def OutD.plain : OutD → Bool
 | .ret x => x.plain
 | .tup xs => xs.all D.plain
 | .pan x => x.plain
theorem zdf {o : OutD} (h : z0p o.out = true) : o.plain = true := by
 cases o with
 | ret x => exact h
 | tup xs =>
  simp only [OutD.out, z0p, List.all_map] at h
  simpa [OutD.plain] using h
 | pan x => exact h
theorem zlp {B : Nat → Prop} {o : OutD} {v : Value} (hp : o.plain = true) (h : z81 A w o v) : z81 B w o v := by
 cases o with
 | ret x => exact zf4 hp h
 | tup xs => obtain ⟨us, h1, h2⟩ := h; exact ⟨us, h1, zm7 hp h2⟩
 | pan x => exact h.elim
theorem z3t {o : OutD} {A1 : Nat → Prop} {S2 : Store} {f : FuncId} {us : Array Value} (hcall : Calls P f us w (zew A1 w o))
  (hgo : ∀ A2 w', Iso A1 w A2 w' → ∃ B, Inv P S2 ρ B w' ∧ Step S ρ A w S2 ρ B w' ∧ ((∀ b, A2 b → B b) ∨ o.plain = true)) : Calls P f us w (z3y P S ρ A w o.out S2) := by
 refine hcall.mono fun e w' he => ?_
 cases e with
 | returned v =>
  obtain ⟨A2, h1, h2⟩ := he
  obtain ⟨B, g1, g2, g3⟩ := hgo A2 w' h1
  have h3 : z81 B w' o v := by
   rcases g3 with g3 | g3
   ·exact zer g3 h2
   ·exact zlp g3 h2
  cases o with
  | ret x => exact ⟨_, rfl, ρ, B, g1, g2, zgh h3 rfl⟩
  | tup xs => exact ⟨_, rfl, ρ, B, g1, g2, zgh h3 rfl⟩
  | pan x => exact h3.elim
 | panicked c =>
  obtain ⟨x, v, rfl, rfl, A2, h1, h2⟩ := he
  obtain ⟨B, g1, g2, g3⟩ := hgo A2 w' h1
  refine ⟨_, v, rfl, rfl, ρ, B, g1, g2, jN.2 ?_⟩
  rcases g3 with g3 | g3
  ·exact z2u g3 (fun _ _ => rfl) h2
  ·exact zf4 g3 h2
 | outgrown => exact he
theorem zb4 {C : Cfg} {call : jT} (hext : kD C) (hrun : z9f C.P call) {f : FuncId} {args : List V} {S S' : Store} {o : Out} {c : Nat} (h : jM C call f args S = some (o, S', c)) {us : Array Value} (hI : Inv C.P S ρ A w) (hr : qQ C.P S ρ A w args us.toList) :
  Calls C.P f us w (z3y C.P S ρ A w o S') := by
 unfold jM at h
 split at h
 ·obtain ⟨⟨o', S2⟩, h1, h2⟩ := Option.map_eq_some_iff.1 h
  simp only [Prod.mk.injEq] at h2
  obtain ⟨rfl, rfl, _⟩ := h2
  exact hrun f args S _ _ h1 ρ A w us hI hr
 ·split at h
  ·cases h
  ·rename_i ds hds
   cases ha : answer C call f ds with
   | none => simp [ha] at h
   | some out =>
    simp only [ha] at h
    obtain ⟨o', rfl, hans⟩ := zbu hext hrun f ds out ha
    have hargs := z9v hI hds hr (ids := args.flatMap (frzIds S zH)) (fun i hi => hi)
    have hlt : ∀ b, stay S ρ A (args.flatMap (frzIds S zH)) b → b < w.heap.size := fun b hb => by
     rcases hb with hb | ⟨id, _, o, ho, hl, _, rfl⟩
     ·exact hI.lt b hb
     ·exact (hI.ok id o ho).lt (by rintro rfl; cases hl) (by rintro rfl; cases hl)
    have hcall := hans _ w us hlt (hI.gl.step z00 (fun _ _ => rfl)) hargs
    split at h
    ·rename_i hemp
     simp only [Option.some.injEq, Prod.mk.injEq] at h
     obtain ⟨rfl, rfl, _⟩ := h
     refine z3t hcall fun A2 w' hi => ?_
     have hemp' : args.flatMap (frzIds S zH) = [] := by simpa using hemp
     obtain ⟨g1, g2⟩ := hI.iso hi (fun b hb => by
      rcases hb with hb | ⟨id, hid, _⟩
      ·exact hb
      ·rw [hemp'] at hid; cases hid)
     exact ⟨_, g1, g2, .inl fun b hb => .inr hb⟩
    ·split at h
     ·rename_i hp
      simp only [Option.some.injEq, Prod.mk.injEq] at h
      obtain ⟨rfl, rfl, _⟩ := h
      refine z3t hcall fun A2 w' hi => ?_
      obtain ⟨g1, g2⟩ := hI.world hi.size hi.old hi.os hi.tape hi.output
      exact ⟨A, g1, g2, .inr (zdf hp)⟩
     ·split at h
      ·rename_i S2 hm
       simp only [Option.some.injEq, Prod.mk.injEq] at h
       obtain ⟨rfl, rfl, _⟩ := h
       refine z3t hcall fun A2 w' hi => ?_
       obtain ⟨m1, m2⟩ := hI.mark hm (fun id hid => by
        obtain ⟨v, _, hv⟩ := List.mem_flatMap.1 hid
        exact z3q hv)
       obtain ⟨g1, g2⟩ := m1.iso hi (fun b hb => hb)
       exact ⟨_, g1, m2.trans g2, .inl fun b hb => .inr hb⟩
      ·cases h
end
section
variable {P : Program} {S S' : Store} {ρ ρ' : Nat → Nat} {A A' : Nat → Prop} {w w' : World}
theorem zed {ops : Array Oper} {T : List V} {j : Nat} {r : Option Bool} {tm : Array Value} (h : qO ops T j = some r) (hT : RepT P S ρ A w T tm.toList) : yielded ops tm j = r := by
 unfold qO at h
 unfold yielded
 cases hd : (ops[j]?).bind (·.dst) with
 | none => simp only [hd, Option.some.injEq] at h; subst h; rfl
 | some d =>
  simp only [hd] at h
  simp only [Option.bind_some]
  cases ht : T[d]? with
  | none =>
   simp only [ht, Option.some.injEq] at h; subst h
   have hl := z1s hT
   have : tm[d]? = none := by
    simp only [List.getElem?_eq_none_iff] at ht
    simp only [Array.length_toList] at hl
    simp [hl, ht]
   simp [this]
  | some v =>
   obtain ⟨u, hu, hr⟩ := z5c hT d v ht
   have hu' : tm[d]? = some u := by simpa using hu
   simp only [ht] at h
   simp only [hu']
   split at h
   ·rename_i heq; cases heq
   ·rename_i b heq
    cases heq
    simp only [Option.some.injEq] at h; subst h
    rw [z32 hr]
   ·rename_i xs heq
    cases heq
    simp only [Option.some.injEq] at h; subst h
    obtain ⟨us, rfl, _⟩ := hr
    rfl
   ·cases h
theorem z2b {ops : Array Oper} {T : List V} {o : Oper} {b : Bool} {tm : Array Value} (h : qB ops T o = some b) (hT : RepT P S ρ A w T tm.toList) : Region.wanted o (yielded ops tm) = b := by
 unfold qB at h
 unfold Region.wanted
 cases hg : o.guard with
 | none => simp only [hg, Option.some.injEq] at h; simp [h]
 | some g =>
  obtain ⟨j, want⟩ := g
  simp only [hg] at h
  obtain ⟨r, hr, rfl⟩ := Option.map_eq_some_iff.1 h
  simp [zed hr hT]
theorem wY {T : List V} {a : Act} {dst : Option Tmp} {v : V} {u : Value} (hT : RepT P S ρ A w T a.tmps.toList) (hv : RepV P S ρ A w v u) : RepT P S ρ A w (putT T dst v) (a.put dst u).tmps.toList := by
 cases dst with
 | none => exact hT
 | some d => simpa [putT, Act.put] using zbl hT d v u hv
theorem put_defers (a : Act) (dst : Option Tmp) (u : Value) : (a.put dst u).defers = a.defers := by cases dst <;> rfl
def zxp (P : Program) (S : Store) (ρ : Nat → Nat) (A : Nat → Prop) (w : World) (f : FuncId) (args : List V) (d : Deferred) : Prop :=
 ∃ fv cap us, d.target = .fn fv cap ∧ (∀ w2, (invoke d.target d.args).run P w2 = .ok (.enter f us) w2) ∧ qQ P S ρ A w args us.toList
def DfOk (P : Program) (S : Store) (ρ : Nat → Nat) (A : Nat → Prop) (w : World) : Dfs → List Deferred → Prop
 | [], ds => ds = []
 | x :: r, ds => ∃ d ds', ds = d :: ds' ∧ zxp P S ρ A w x.1 x.2 d ∧ DfOk P S ρ A w r ds'
theorem jX (h : Step S ρ A w S' ρ' A' w') : ∀ {F : Dfs} {ds : List Deferred}, DfOk P S ρ A w F ds → DfOk P S' ρ' A' w' F ds
 | [], ds, hd => hd
 | x :: r, ds, hd => by
  obtain ⟨d, ds', rfl, ⟨fv, cap, us, h1, h2, h3⟩, h4⟩ := hd
  exact ⟨d, ds', rfl, ⟨fv, cap, us, h1, h2, z17 h.amono h.keepA h.sle _ _ h3⟩, jX h h4⟩
def St (P : Program) (S : Store) (ρ : Nat → Nat) (A : Nat → Prop) (w : World) (T' : List V) (S' : Store) (F' : Dfs) (a' : Act) (w' : World) : Prop :=
 ∃ ρ' A', Inv P S' ρ' A' w' ∧ Step S ρ A w S' ρ' A' w' ∧ RepT P S' ρ' A' w' T' a'.tmps.toList ∧ DfOk P S' ρ' A' w' F' a'.defers
def ExPost (P : Program) (S : Store) (ρ : Nat → Nat) (A : Nat → Prop) (w : World) (x : Ex) (T' : List V) (S' : Store) (F' : Dfs) : Exit → Act → World → Prop
 | .normal, a', w' => x = .norm ∧ St P S ρ A w T' S' F' a' w'
 | .exit k, a', w' => x = .exit k ∧ St P S ρ A w T' S' F' a' w'
 | .ret, a', w' => x = .ret ∧ St P S ρ A w T' S' F' a' w'
 | .panic chain, a', w' => ∃ y v, x = .pan y ∧ chain = [{ v, recovered := false }] ∧ (F' = [] → a'.defers = []) ∧ ∃ ρ' A', Inv P S' ρ' A' w' ∧ Step S ρ A w S' ρ' A' w' ∧ RepW P S' ρ' A' w' y v
 | .goto _, _, _ => False
 | .outgrown, _, _ => False
theorem St.step {S2 : Store} {T2 : List V} {F2 : Dfs} {a : Act} {w2 : World} (h : Step S ρ A w S' ρ' A' w') (hs : St P S' ρ' A' w' T2 S2 F2 a w2) : St P S ρ A w T2 S2 F2 a w2 := by
 obtain ⟨ρ2, A2, h1, h2, h3, h4⟩ := hs
 exact ⟨ρ2, A2, h1, h.trans h2, h3, h4⟩
theorem ExPost.step {S2 : Store} {T2 : List V} {F2 : Dfs} {x : Ex} (h : Step S ρ A w S' ρ' A' w') {e : Exit} {a : Act} {w2 : World} (hs : ExPost P S' ρ' A' w' x T2 S2 F2 e a w2) : ExPost P S ρ A w x T2 S2 F2 e a w2 := by
 cases e with
 | normal => exact ⟨hs.1, hs.2.step h⟩
 | exit k => exact ⟨hs.1, hs.2.step h⟩
 | ret => exact ⟨hs.1, hs.2.step h⟩
 | panic c =>
  obtain ⟨y, v, h1, h2, h3, ρ2, A2, h4, h5, h6⟩ := hs
  exact ⟨y, v, h1, h2, h3, ρ2, A2, h4, h.trans h5, h6⟩
 | goto l => exact hs
 | outgrown => exact hs
def q22 (P : Program) (S : Store) (ρ : Nat → Nat) (A : Nat → Prop) (w : World) (o : Oper) (a : Act) (K : Act → World → Prop) (Q : Exit → Act → World → Prop) : Rs → Prop
 | .val v S' _ => ∀ ρ' A' w' u, Inv P S' ρ' A' w' → Step S ρ A w S' ρ' A' w' → RepV P S' ρ' A' w' v u → K (a.put o.dst u) w'
 | .skip S' _ => ∀ ρ' A' w', Inv P S' ρ' A' w' → Step S ρ A w S' ρ' A' w' → K (a.put o.dst undef) w'
 | .enter f args => ∀ us : Array Value, qQ P S ρ A w args us.toList → Calls P f us w fun
   | .returned v, w'' => K (a.put o.dst v) w''
   | .panicked chain, w'' => Q (.panic chain) a w''
   | .outgrown, _ => LetsOut Q
 | .dfr f args => ∀ d, zxp P S ρ A w f args d → K ({ a with defers := d :: a.defers }.put o.dst undef) w
 | .pan v => ∀ u, RepW P S ρ A w v u → Q (.panic [{ v := u, recovered := false }]) a w
theorem zds (hI : Inv P S ρ A w) {T : List V} {a : Act} (hT : RepT P S ρ A w T a.tmps.toList) {o : Oper} {r : Rs} (h : opV P S T o = some r) {K : Act → World → Prop} {Q : Exit → Act → World → Prop} (hK : q22 P S ρ A w o a K Q r) : o.wp P a w K Q := by
 have hs := zry hI hT h
 unfold Oper.wp
 cases r with
 | val v S' c =>
  obtain ⟨u, w', ρ', A', h1, h2, h3, h4⟩ := hs
  rw [h1]
  exact hK ρ' A' w' u h2 h3 h4
 | skip S' c =>
  obtain ⟨w', ρ', A', h1, h2, h3⟩ := hs
  rw [h1]
  exact hK ρ' A' w' h2 h3
 | enter f args =>
  obtain ⟨us, h1, h2⟩ := hs
  rw [h1]
  exact hK us h2
 | dfr f args =>
  obtain ⟨d, fv, cap, us, h1, h2, h3, h4⟩ := hs
  rw [h1]
  exact hK d ⟨fv, cap, us, h2, h3, h4⟩
 | pan v =>
  obtain ⟨u, h1, h2⟩ := hs
  rw [h1]
  exact hK u h2
theorem ze3 {w : World} {b : Nat} {c : Array Value} {e : TypeId} {f : Nat × Nat} (h : w.heap[b]? = some (.cells c e f)) (off n : Nat) : (w.freeze ⟨b, off, none⟩ n).heap.size = w.heap.size ∧ (∀ b', b' ≠ b → (w.freeze ⟨b, off, none⟩ n).heap[b']? = w.heap[b']?) ∧ (∃ f', (w.freeze ⟨b, off, none⟩ n).heap[b]? = some (.cells c e f')) ∧ (w.freeze ⟨b, off, none⟩ n).os = w.os ∧ (w.freeze ⟨b, off, none⟩ n).tape = w.tape ∧ (w.freeze ⟨b, off, none⟩ n).output = w.output := by
 unfold World.freeze
 split
 ·exact ⟨rfl, fun _ _ => rfl, ⟨f, h⟩, rfl, rfl, rfl⟩
 ·refine ⟨by simp, fun b' hb => ?_, ?_, rfl, rfl, rfl⟩
  ·simp only [Array.getElem?_modify]
   rw [if_neg (Ne.symm hb)]
  ·obtain ⟨lo, hi⟩ := f
   simp only [Array.getElem?_modify, if_true, h, Option.map_some]
   exact ⟨_, rfl⟩
theorem zhd (hI : Inv P S ρ A w) {T T' : List V} {a : Act} (hT : RepT P S ρ A w T a.tmps.toList) {o : Oper} {r : List Oper} (h : vY P T o r = some T') :
  ∃ o2 r', r = o2 :: r' ∧ o.guard = none ∧ o2.guard = none ∧ ∃ (a1 : Act) (w1 : World), (∀ K Q, K a1 w1 → o.wp P a w K Q) ∧ ∃ (a2 : Act) (w2 : World), (∀ K Q, K a2 w2 → o2.wp P a1 w1 K Q) ∧ a2.defers = a.defers ∧
   ∃ A', Inv P S ρ A' w2 ∧ Step S ρ A w S ρ A' w2 ∧ RepT P S ρ A' w2 T' a2.tmps.toList := by
 unfold vY at h
 cases r with
 | nil => simp at h
 | cons o2 r' =>
  simp only at h
  split at h
  ·rename_i t len parts t1 t2 d d' hop hop2 hdst
   split at h
   ·rename_i hc
    obtain ⟨hg, hg2, rfl, rfl, rfl, hlt⟩ := hc
    split at h
    ·rename_i e hu
     split at h
     ·rename_i z k hue hz hk
      split at h
      ·rename_i hc
       simp only [Bool.and_eq_true, decide_eq_true_eq, ne_eq] at hc
       obtain ⟨⟨⟨c1, c2⟩, c3⟩, c4⟩ := hc
       split at h
       ·rename_i ds hds
        simp only [Option.some.injEq] at h; subst h
        obtain ⟨cells', hrun, h1, h2, h3⟩ := zg5 (parts' := parts.map fun (i, x) => (i, a.eval x)) hI hu hz hk c1 (by simpa [List.all_map] using c2) c3 (by simpa using c4) hds (by simpa using z0v hT parts.toList)
        have hnew : (w.alloc (.cells cells' e)).heap[w.heap.size]? = some (.cells cells' e (0, 0)) := jC _
        obtain ⟨f1, f2, ⟨f', f3⟩, f4, f5, f6⟩ := ze3 hnew cells'.size 1
        obtain ⟨A', g1, g2, g3⟩ := zq1 (f := f') (w' := (w.alloc (.cells cells' e)).freeze ⟨w.heap.size, cells'.size, none⟩ 1) hI h1 h2 (by rw [f1]; simp) (fun b hb => by rw [f2 b (Nat.ne_of_lt hb)]; exact kG _ hb) f3 f4 f5 f6
        have hl := z1s hT
        simp only [Array.length_toList] at hl
        have hlt' := Nat.lt_of_lt_of_eq hlt hl.symm
        refine ⟨o2, r', rfl, by simpa using hg, by simpa using hg2, a.put (some d') (.slice (some ⟨w.heap.size, 0, none⟩) len len), w.alloc (.cells cells' e), fun K Q hK => ?_, (a.put (some d') (.slice (some ⟨w.heap.size, 0, none⟩) len len)).put o2.dst (.slice (some ⟨w.heap.size, 0, none⟩) len len), _, fun K Q hK => ?_, by rw [put_defers, put_defers], A', g1, g2, ?_⟩
        ·unfold Oper.wp
         have : (execOp a.eval o).run P w = .ok (.value (.slice (some ⟨w.heap.size, 0, none⟩) len len)) (w.alloc (.cells cells' e)) := by
          unfold execOp
          simp only [hop]
          exact wT _ hrun
         rw [this, Oper.upon_value, hdst]
         exact hK
        ·unfold Oper.wp
         have hev : (a.put (some d') (.slice (some ⟨w.heap.size, 0, none⟩) len len)).eval (.tmp d') = .slice (some ⟨w.heap.size, 0, none⟩) len len := by
          simp [Act.eval, Act.put, Array.getD_eq_getD_getElem?, hlt']
         have hsh : (w.alloc (.cells cells' e)).shape? w.heap.size = some (e, cells'.size) := by
          unfold World.shape?; rw [hnew]
         have : (execOp (a.put (some d') (.slice (some ⟨w.heap.size, 0, none⟩) len len)).eval o2).run P (w.alloc (.cells cells' e)) = .ok (.value (.slice (some ⟨w.heap.size, 0, none⟩) len len)) ((w.alloc (.cells cells' e)).freeze ⟨w.heap.size, cells'.size, none⟩ 1) := by
          unfold execOp
          simp only [hop2, hev]
          refine wT _ ?_
          simp only [convert, Sem.run_bind, run_underlying hu, run_underlying hue, Result.andThen_ok, beq_self_eq_true, markStringish]
          simp [shape, freeze, Sem.run, hsh]
         rw [this, Oper.upon_value]
         exact hK
        ·refine wY ?_ g3
         have := zbl (jZ g2.amono g2.keepA g2.sle _ _ hT) d' .junk (.slice (some ⟨w.heap.size, 0, none⟩) len len) trivial
         simpa [Act.put] using this
       ·cases h
      ·cases h
     ·cases h
    ·cases h
   ·cases h
  ·cases h
theorem zfm {F : Dfs} {ds : List Deferred} (h : DfOk P S ρ A w F ds) : F = [] → ds = [] := by rintro rfl; exact h
theorem z44 {C : Cfg} {call : jT} (hext : kD C) (hrun : z9f C.P call) {ops : Array Oper} : ∀ {rest : List Oper} {k : Nat} {S S' : Store} {T T' : List V} {F F' : Dfs} {x : Ex}, seqV C call ops rest T S F = some (x, T', S', F') → ops.toList.drop k = rest →
  ∀ {ρ : Nat → Nat} {A : Nat → Prop} {w : World} {a : Act} {Q : Exit → Act → World → Prop}, Inv C.P S ρ A w → RepT C.P S ρ A w T a.tmps.toList → DfOk C.P S ρ A w F a.defers → (∀ e a' w', ExPost C.P S ρ A w x T' S' F' e a' w' → Q e a' w') →
  wpOps C.P ops Q (List.range' k rest.length) a w
 | [], k, S, S', T, T', F, F', x, h, hk, ρ, A, w, a, Q, hI, hT, hF, hQ => by
  simp only [seqV, Option.some.injEq, Prod.mk.injEq] at h
  obtain ⟨rfl, rfl, rfl, rfl⟩ := h
  exact hQ _ _ _ ⟨rfl, ρ, A, hI, .refl, hT, hF⟩
 | o :: r, k, S, S', T, T', F, F', x, h, hk, ρ, A, w, a, Q, hI, hT, hF, hQ => by
  have hget : ops[k]? = some o := by
   have : (ops.toList.drop k)[0]? = some o := by rw [hk]; rfl
   simpa using this
  have hk' : ops.toList.drop (k + 1) = r := by
   rw [← List.drop_drop, hk]; rfl
  rw [seqV] at h
  cases hlp : vY C.P T o r with
  | some T1 =>
   obtain ⟨o2, r', hr, hg1, hg2, a1, w1, k1, a2, w2, k2, hdf, A', g1, g2, g3⟩ := zhd hI hT hlp
   have hlen : r'.length < r.length + 1 := by rw [hr]; simp; omega
   rw [hr] at hlp hk' ⊢
   simp only [hr, hlp] at h
   have hget2 : ops[k + 1]? = some o2 := by
    have : (ops.toList.drop (k + 1))[0]? = some o2 := by rw [hk']; rfl
    simpa using this
   have hk2 : ops.toList.drop (k + 1 + 1) = r' := by
    rw [← List.drop_drop, hk']; rfl
   have hw1 : ∀ y, Region.wanted o y = true := fun y => by simp [Region.wanted, hg1]
   have hw2 : ∀ y, Region.wanted o2 y = true := fun y => by simp [Region.wanted, hg2]
   simp only [List.length_cons, List.range'_succ, wpOps, hget, hget2, hw1, hw2, if_true]
   refine .inl (k1 _ _ (.inl (k2 _ _ ?_)))
   exact z44 hext hrun h hk2 g1 g3 (by rw [hdf]; exact jX g2 hF) (fun e a' w' he => hQ e a' w' (he.step g2))
  | none =>
  simp only [hlp] at h
  simp only [List.length_cons, List.range'_succ, wpOps, hget]
  cases hw : qB ops T o with
  | none => simp [hw] at h
  | some b =>
   rw [z2b hw hT]
   simp only [hw] at h
   cases b with
   | false =>
    simp only [Bool.false_eq_true, if_false]
    exact z44 hext hrun h hk' hI (wY hT vE) (by rw [put_defers]; exact hF) hQ
   | true =>
    simp only [if_true]
    refine .inl ?_
    cases ho : opV C.P S T o with
    | none => simp [ho] at h
    | some rs =>
     refine zds hI hT ho ?_
     cases rs with
     | val v S1 c =>
      simp only [ho] at h
      intro ρ1 A1 w1 u h1 h2 h3
      exact z44 hext hrun h hk' h1 (wY (jZ h2.amono h2.keepA h2.sle _ _ hT) h3) (by rw [put_defers]; exact jX h2 hF) (fun e a' w' he => hQ e a' w' (he.step h2))
     | skip S1 c =>
      simp only [ho] at h
      intro ρ1 A1 w1 h1 h2
      exact z44 hext hrun h hk' h1 (wY (jZ h2.amono h2.keepA h2.sle _ _ hT) vE) (by rw [put_defers]; exact jX h2 hF) (fun e a' w' he => hQ e a' w' (he.step h2))
     | enter f args =>
      simp only [ho] at h
      intro us hus
      cases hc : jM C call f args S with
      | none => simp [hc] at h
      | some q =>
       obtain ⟨out, S1, c⟩ := q
       refine (zb4 hext hrun hc hI hus).mono fun e w1 he => ?_
       cases e with
       | returned v =>
        obtain ⟨y, rfl, ρ1, A1, h1, h2, h3⟩ := he
        simp only [hc] at h
        exact z44 hext hrun h hk' h1 (wY (jZ h2.amono h2.keepA h2.sle _ _ hT) h3) (by rw [put_defers]; exact jX h2 hF) (fun e a' w' he => hQ e a' w' (he.step h2))
       | panicked chain =>
        obtain ⟨y, v, rfl, rfl, ρ1, A1, h1, h2, h3⟩ := he
        simp only [hc, Option.some.injEq, Prod.mk.injEq] at h
        obtain ⟨rfl, rfl, rfl, rfl⟩ := h
        exact hQ _ _ _ ⟨y, v, rfl, rfl, zfm hF, ρ1, A1, h1, h2, h3⟩
       | outgrown => exact he.elim
     | dfr f args =>
      simp only [ho] at h
      intro d hd
      refine z44 hext hrun h hk' hI (wY (a := { a with defers := d :: a.defers }) hT vE) ?_ hQ
      rw [put_defers]
      exact ⟨d, a.defers, rfl, hd, hF⟩
     | pan v =>
      simp only [ho, Option.some.injEq, Prod.mk.injEq] at h
      obtain ⟨rfl, rfl, rfl, rfl⟩ := h
      intro u hu
      exact hQ _ _ _ ⟨v, u, rfl, rfl, zfm hF, ρ, A, hI, .refl, hu⟩
termination_by rest => rest.length
decreasing_by all_goals first | exact hlen | (simp_wf; omega) | (simp_wf; done)
end
theorem z3v {S : Store} {id : Nat} {o : Ob} (ob : Ob) (h : S[id]? = some o) : (S ++ [ob])[id]? = some o := by
 have : id < S.length := by
  rcases Nat.lt_or_ge id S.length with h' | h'
  ·exact h'
  ·simp [List.getElem?_eq_none h'] at h
 rw [List.getElem?_append_left this]; exact h
section
variable {P : Program} {S : Store}
theorem zlr {t : TypeId} {x y : V} (ob : Ob) (h : kC P S t x = some y) : kC P (S ++ [ob]) t x = some y := by
 unfold kC at h ⊢
 split at h
 ·rename_i id ix off
  cases ho : S[id]? with
  | none => simp [ho] at h
  | some o => simp only [ho] at h; simp only [z3v ob ho]; exact h
 ·exact h
 ·cases h
theorem zak {x : V} {y : List V} (ob : Ob) (h : kA S x = some y) : kA (S ++ [ob]) x = some y := by
 unfold kA at h ⊢
 split at h
 ·exact h
 ·exact h
 ·rename_i id off len
  cases ho : S[id]? with
  | none => simp [ho] at h
  | some o => simp only [ho] at h; simp only [z3v ob ho]; exact h
 ·rename_i id ix off len
  cases ho : S[id]? with
  | none => simp [ho] at h
  | some o => simp only [ho] at h; simp only [z3v ob ho]; exact h
 ·exact h
 ·cases h
theorem z6q {x : V} {y : List (D × V)} (ob : Ob) (h : kE S x = some y) : kE (S ++ [ob]) x = some y := by
 unfold kE at h ⊢
 split at h
 ·exact h
 ·exact h
 ·rename_i id
  cases ho : S[id]? with
  | none => simp [ho] at h
  | some o => simp only [ho] at h; simp only [z3v ob ho]; exact h
 ·cases h
theorem zeg {t : TypeId} {x k y : V} {ok : Bool} (ob : Ob) (h : wA P S t x k ok = some y) : wA P (S ++ [ob]) t x k ok = some y := by
 unfold wA at h ⊢
 split at h
 ·split at h
  ·rename_i hk
   rw [if_pos hk]
   cases he : kE S x with
   | none => simp [he] at h
   | some es => simp only [he] at h; simp only [z6q ob he]; exact h
  ·cases h
 ·cases h
theorem zfl {id : Nat} {e : TypeId} (ob : Ob) (h : rowT S id e = true) : rowT (S ++ [ob]) id e = true := by
 unfold rowT at h ⊢
 cases ho : S[id]? with
 | none => simp [ho] at h
 | some o => simp only [ho] at h; simp only [z3v ob ho]; exact h
theorem zoc {id : Nat} (ob : Ob) (h : rowB S id = true) : rowB (S ++ [ob]) id = true := by
 unfold rowB at h ⊢
 cases ho : S[id]? with
 | none => simp [ho] at h
 | some o => simp only [ho] at h; simp only [z3v ob ho]; exact h
theorem z9c {t : TypeId} {x ix y : V} (ob : Ob) (h : zE P S t x ix = some y) : zE P (S ++ [ob]) t x ix = some y := by
 unfold zE at h ⊢
 split at h
 ·cases h
 ·rename_i i hi
  split at h
  ·rename_i e hu
   split at h
   ·split at h
    ·rename_i hc
     have hc' := hc
     rw [if_pos ⟨hc.1, zfl ob hc.2.1, hc.2.2⟩]; exact h
    ·cases h
   ·split at h
    ·rename_i hc
     rw [if_pos ⟨hc.1, zoc ob hc.2.1, hc.2.2⟩]; exact h
    ·cases h
   ·exact h
   ·exact h
   ·cases h
  ·exact h
  ·cases h
theorem z4r {n : Nat} {e : TypeId} {x y : V} {lo hi : Option V} (ob : Ob) (h : kY P S n e x lo hi = some y) : kY P (S ++ [ob]) n e x lo hi = some y := by
 unfold kY at h ⊢
 split at h
 ·rename_i hc
  rw [if_pos hc]
  cases h1 : jR n hi n with
  | none => simp [h1] at h
  | some hh =>
   simp only [h1] at h ⊢
   cases h2 : jR hh lo 0 with
   | none => simp [h2] at h
   | some l =>
    simp only [h2] at h ⊢
    split at h
    ·rename_i id ix off
     cases ho : S[id]? with
     | none => simp [ho] at h
     | some o => simp only [ho] at h; simp only [z3v ob ho]; exact h
    ·exact h
    ·cases h
 ·cases h
theorem zi2 {t : TypeId} {x y : V} {lo hi : Option V} (ob : Ob) (h : wD P S t x lo hi = some y) : wD P (S ++ [ob]) t x lo hi = some y := by
 unfold wD at h ⊢
 split at h
 ·exact h
 ·rename_i e hu
  split at h
  ·exact h
  ·exact h
  ·rename_i id off len
   cases h1 : jR len hi len with
   | none => simp [h1] at h
   | some hh =>
    simp only [h1] at h ⊢
    cases h2 : jR hh lo 0 with
    | none => simp [h2] at h
    | some l =>
     simp only [h2] at h ⊢
     split at h
     ·rename_i hc
      simp only [Bool.and_eq_true] at hc
      rw [if_pos (by simp [zfl ob hc.1, hc.2])]; exact h
     ·cases h
  ·cases h
 ·split at h
  ·exact z4r ob h
  ·cases h
 ·exact z4r ob h
 ·cases h
theorem zoo {e tx : TypeId} {x : V} {ys : List V} (ob : Ob) (h : srcV P S e tx x = some ys) : srcV P (S ++ [ob]) e tx x = some ys := by
 unfold srcV at h ⊢
 split at h
 ·exact h
 ·rename_i x' hne
  split at h
  ·split at h
   ·rename_i ys' hy
    rw [zak ob hy]
    simpa using h
   ·cases h
  ·exact h
  ·cases h
def z5i (f : Store → Option Rs) (S : Store) : Prop :=
 (∀ v S', f S = some (.val v S' 0) → S' = S ∧ ∀ S2, f S2 = some (.val v S2 0)) ∧
 (∀ v S', f S = some (.val v S' 1) → S' = S ∧ ∀ ob, f (S ++ [ob]) = some (.val v (S ++ [ob]) 1)) ∧
 (∀ v S', f S = some (.val v S' 2) → ∃ ob, S' = S ++ [ob]) ∧
 (∀ S' c, f S = some (.skip S' c) → c = 3) ∧
 (∀ g as, f S = some (.enter g as) → ∀ S2, f S2 = some (.enter g as))
theorem zU (f : Store → Option Rs) (h : f S = none) : z5i f S := by
 refine ⟨?_, ?_, ?_, ?_, ?_⟩ <;> intros <;> simp_all
theorem wQ {f : Store → Option V} (h : ∀ S1 S2, f S1 = f S2) : z5i (fun S => (f S).map fun v => .val v S 0) S := by
 refine ⟨fun v S' hv => ?_, fun v S' hv => ?_, fun v S' hv => ?_, fun S' c hv => ?_, fun g as hv => ?_⟩
 ·obtain ⟨y, hy, he⟩ := Option.map_eq_some_iff.1 hv
  simp only [Rs.val.injEq, and_true] at he
  obtain ⟨rfl, rfl⟩ := he
  exact ⟨rfl, fun S2 => by simp [h S2 S, hy]⟩
 all_goals (obtain ⟨y, hy, he⟩ := Option.map_eq_some_iff.1 hv; simp at he)
theorem z3d {f : Store → Option V} (h : ∀ ob v, f S = some v → f (S ++ [ob]) = some v) : z5i (fun S => (f S).map fun v => .val v S 1) S := by
 refine ⟨fun v S' hv => ?_, fun v S' hv => ?_, fun v S' hv => ?_, fun S' c hv => ?_, fun g as hv => ?_⟩
 ·obtain ⟨y, hy, he⟩ := Option.map_eq_some_iff.1 hv; simp at he
 ·obtain ⟨y, hy, he⟩ := Option.map_eq_some_iff.1 hv
  simp only [Rs.val.injEq, and_true] at he
  obtain ⟨rfl, rfl⟩ := he
  exact ⟨rfl, fun ob => by simp [h ob _ hy]⟩
 all_goals (obtain ⟨y, hy, he⟩ := Option.map_eq_some_iff.1 hv; simp at he)
theorem z47 {f : Store → Option Store} : z5i (fun S => (f S).map fun S' => .skip S' 3) S := by
 refine ⟨fun v S' hv => ?_, fun v S' hv => ?_, fun v S' hv => ?_, fun S' c hv => ?_, fun g as hv => ?_⟩
 all_goals (obtain ⟨y, hy, he⟩ := Option.map_eq_some_iff.1 hv; simp_all)
theorem za3 {f : Store → Option (V × Store)} : z5i (fun S => (f S).map fun r => .val r.1 r.2 3) S := by
 refine ⟨fun v S' hv => ?_, fun v S' hv => ?_, fun v S' hv => ?_, fun S' c hv => ?_, fun g as hv => ?_⟩
 all_goals (obtain ⟨y, hy, he⟩ := Option.map_eq_some_iff.1 hv; simp_all)
theorem z1g {r : Option Rs} (h : ∀ v S' c, r ≠ some (.val v S' c)) (h2 : ∀ S' c, r ≠ some (.skip S' c)) : z5i (fun _ => r) S := by
 refine ⟨fun v S' hv => absurd hv (h _ _ _), fun v S' hv => absurd hv (h _ _ _), fun v S' hv => absurd hv (h _ _ _), fun S' c hv => absurd hv (h2 _ _), fun g as hv _ => hv⟩
theorem z0c {v : V} : z5i (fun S => some (.val v S 0)) S := by
 refine ⟨fun v S' hv => ?_, fun v S' hv => ?_, fun v S' hv => ?_, fun S' c hv => ?_, fun g as hv => ?_⟩ <;> simp_all
theorem z84 {f : Store → V} {ob : Ob} : z5i (fun S => some (.val (f S) (S ++ [ob]) 2)) S := by
 refine ⟨fun v S' hv => ?_, fun v S' hv => ?_, fun v S' hv => ?_, fun S' c hv => ?_, fun g as hv => ?_⟩
 all_goals simp at hv
 exact ⟨ob, hv.2.symm⟩
theorem z2m {src dst : TypeId} {x y : V} {c : Nat} (h : qD P S src dst x = some (y, c)) : (c = 0 ∧ ∀ S2, qD P S2 src dst x = some (y, 0)) ∨ (c = 1 ∧ ∀ ob, qD P (S ++ [ob]) src dst x = some (y, 1)) := by
 have h0 := h
 unfold qD at h
 split at h
 ·simp only [Option.some.injEq, Prod.mk.injEq] at h
  obtain ⟨rfl, rfl⟩ := h
  refine .inl ⟨rfl, fun S2 => ?_⟩
  rw [← h0]; unfold qD; simp_all
 ·simp only [Option.some.injEq, Prod.mk.injEq] at h
  obtain ⟨rfl, rfl⟩ := h
  refine .inl ⟨rfl, fun S2 => ?_⟩
  rw [← h0]; unfold qD; simp_all
 ·split at h
  ·split at h
   ·simp only [Option.some.injEq, Prod.mk.injEq] at h
    obtain ⟨rfl, rfl⟩ := h
    refine .inl ⟨rfl, fun S2 => ?_⟩
    rw [← h0]; unfold qD; simp_all
   ·cases h
  ·cases h
 ·split at h
  ·split at h
   ·cases h
   ·rename_i x' hns
    split at h
    ·rename_i ys hy
     obtain ⟨s, hs, he⟩ := Option.map_eq_some_iff.1 h
     simp only [Prod.mk.injEq] at he
     obtain ⟨rfl, rfl⟩ := he
     refine .inr ⟨rfl, fun ob => ?_⟩
     have := zak ob hy
     rw [← h0]; unfold qD; simp_all
    ·cases h
  ·cases h
 ·cases h
theorem z40 {t tx : TypeId} {s x y : V} {S' : Store} {c : Nat} (h : qE P S t tx s x = some (y, S', c)) : (c = 1 ∧ S' = S ∧ ∀ ob, qE P (S ++ [ob]) t tx s x = some (y, S ++ [ob], 1)) ∨ (c = 2 ∧ ∃ ob, S' = S ++ [ob]) ∨ c = 3 := by
 have h0 := h
 unfold qE at h
 split at h
 ·rename_i e hu
  split at h
  ·cases h
  ·rename_i hsrc
   have ha := fun ob => zoo ob hsrc
   split at h
   ·simp only [Option.some.injEq, Prod.mk.injEq] at h
    obtain ⟨rfl, rfl, rfl⟩ := h
    exact .inl ⟨rfl, rfl, fun ob => by unfold qE; simp [hu, ha ob]⟩
   ·simp only [Option.some.injEq, Prod.mk.injEq] at h
    obtain ⟨rfl, rfl, rfl⟩ := h
    exact .inl ⟨rfl, rfl, fun ob => by unfold qE; simp [hu, ha ob]⟩
   ·simp only [Option.some.injEq, Prod.mk.injEq] at h
    obtain ⟨rfl, rfl, rfl⟩ := h
    exact .inl ⟨rfl, rfl, fun ob => by unfold qE; simp [hu, ha ob]⟩
   ·cases h
  ·split at h
   ·split at h
    ·split at h
     ·simp only [Option.some.injEq, Prod.mk.injEq] at h
      obtain ⟨rfl, rfl, rfl⟩ := h
      exact .inr (.inl ⟨rfl, _, rfl⟩)
     ·cases h
    ·split at h
     ·split at h
      ·simp only [Option.some.injEq, Prod.mk.injEq] at h
       obtain ⟨rfl, rfl, rfl⟩ := h
       exact .inr (.inr rfl)
      ·cases h
     ·cases h
    ·cases h
   ·cases h
 ·cases h
theorem z90 {t : TypeId} {l c y : V} {S' : Store} (h : jG P S t l c = some (y, S')) : ∃ ob, S' = S ++ [ob] := by
 unfold jG at h
 split at h
 ·split at h
  ·split at h
   ·split at h
    ·simp only [Option.some.injEq, Prod.mk.injEq] at h
     obtain ⟨rfl, rfl⟩ := h
     exact ⟨_, rfl⟩
    ·cases h
   ·cases h
  ·cases h
 ·cases h
theorem zc3 (b : Builtin) (ts : List TypeId) (xs : List V) : z5i (fun S => zI P S b ts xs) S := by
 unfold zI
 split
 ·rename_i t ts' x
  cases hu : P.underlying t with
  | none => exact zU _ rfl
  | some td =>
   cases td <;> simp only <;> first | exact zU _ rfl | exact z0c | skip
   ·split <;> first | exact zU _ rfl | exact z0c
   ·split <;> first | exact zU _ rfl | exact z0c
   ·cases he : kE S x with
    | none => exact zU _ (by simp [he])
    | some es =>
     refine ⟨fun v S' hv => by simp [he] at hv, fun v S' hv => ?_, fun v S' hv => by simp [he] at hv, fun S' c hv => by simp [he] at hv, fun g as hv => by simp [he] at hv⟩
     simp only [he, Option.some.injEq, Rs.val.injEq, and_true] at hv
     obtain ⟨rfl, rfl⟩ := hv
     exact ⟨rfl, fun ob => by simp [z6q ob he]⟩
 ·rename_i t tx s x
  refine ⟨fun v S' hv => ?_, fun v S' hv => ?_, fun v S' hv => ?_, fun S' c hv => ?_, fun g as hv => ?_⟩ <;> obtain ⟨⟨y, S1, c1⟩, hy, he⟩ := Option.map_eq_some_iff.1 hv <;> simp only [Rs.val.injEq, reduceCtorEq] at he
  ·obtain ⟨rfl, rfl, rfl⟩ := he
   rcases z40 hy with ⟨h, _⟩ | ⟨h, _⟩ | h <;> omega
  ·obtain ⟨rfl, rfl, rfl⟩ := he
   rcases z40 hy with ⟨_, h1, h2⟩ | ⟨h, _⟩ | h
   ·exact ⟨h1, fun ob => by simp [h2 ob]⟩
   ·omega
   ·omega
  ·obtain ⟨rfl, rfl, rfl⟩ := he
   rcases z40 hy with ⟨h, _⟩ | ⟨_, h⟩ | h
   ·omega
   ·exact h
   ·omega
 ·exact za3
 ·rename_i t ts' m k
  refine ⟨fun v S' hv => ?_, fun v S' hv => ?_, fun v S' hv => ?_, fun S' c hv => ?_, fun g as hv => ?_⟩ <;> obtain ⟨y, hy, he⟩ := Option.map_eq_some_iff.1 hv <;> simp at he
 ·exact wQ (fun _ _ => rfl)
 ·exact wQ (fun _ _ => rfl)
 ·exact zU _ rfl
theorem zdv {v : V} {r : Rs} (h : z1n S v = some r) : ∃ x ob, r = .val x (S ++ [ob]) 2 := by
 unfold z1n at h
 split at h
 ·split at h
  ·simp only [Option.some.injEq] at h; exact ⟨_, _, h.symm⟩
  ·cases h
 ·cases h
theorem zh8 {v : V} {r : Rs} (h : z4e S v = some r) : ∃ x S', r = .val x S' 3 := by
 unfold z4e at h
 split at h
 ·split at h
  ·split at h
   ·split at h
    ·cases h
    ·split at h
     ·simp only [Option.some.injEq] at h; exact ⟨_, _, h.symm⟩
     ·split at h
      ·simp only [Option.some.injEq] at h; exact ⟨_, _, h.symm⟩
      ·cases h
   ·cases h
  ·cases h
 ·cases h
theorem zey (v : V) : z5i (fun S => z1n S v) S := by
 refine ⟨fun x S' hv => ?_, fun x S' hv => ?_, fun x S' hv => ?_, fun S' c hv => ?_, fun g as hv => ?_⟩ <;> obtain ⟨y, ob, he⟩ := zdv hv <;> simp at he
 exact ⟨ob, he.2⟩
theorem zi9 (v : V) : z5i (fun S => z4e S v) S := by
 refine ⟨fun x S' hv => ?_, fun x S' hv => ?_, fun x S' hv => ?_, fun S' c hv => ?_, fun g as hv => ?_⟩ <;> obtain ⟨y, S2, he⟩ := zh8 hv <;> simp at he
theorem ze6 {v : V} {r : Rs} (h : z1e S v = some r) : ∃ x S', r = .val x S' 3 := by
 unfold z1e at h
 split at h
 ·split at h
  ·split at h
   ·split at h
    ·split at h
     ·split at h
      ·simp only [Option.some.injEq] at h; exact ⟨_, _, h.symm⟩
      ·cases h
     ·cases h
    ·cases h
   ·cases h
  ·cases h
 ·cases h
theorem zem (v : V) : z5i (fun S => z1e S v) S := by
 refine ⟨fun x S' hv => ?_, fun x S' hv => ?_, fun x S' hv => ?_, fun S' c hv => ?_, fun g as hv => ?_⟩ <;> obtain ⟨y, S2, he⟩ := ze6 hv <;> simp at he
theorem zt4 (T : List V) (o : Oper) : z5i (fun S => opV P S T o) S := by
 unfold opV
 split
 ·exact z0c
 ·exact z0c
 ·split <;> first | exact z0c | exact zU _ rfl
 ·split
  ·split
   ·exact z84
   ·exact zU _ rfl
  ·exact zU _ rfl
 ·split
  ·exact z84
  ·exact zU _ rfl
 ·exact wQ (fun _ _ => rfl)
 ·split
  ·split
   ·split
    ·split
     ·exact z0c
     ·exact z84
    ·exact zU _ rfl
   ·exact zU _ rfl
  ·exact zU _ rfl
 ·exact z3d (fun ob v h => zlr ob h)
 ·exact z47
 ·split <;> first | exact z0c | exact zU _ rfl
 ·exact wQ (fun _ _ => rfl)
 ·exact wQ (fun _ _ => rfl)
 ·rename_i src dst x hop
  refine ⟨fun v S' hv => ?_, fun v S' hv => ?_, fun v S' hv => ?_, fun S' c hv => ?_, fun g as hv => ?_⟩ <;> obtain ⟨⟨y, c1⟩, hy, he⟩ := Option.map_eq_some_iff.1 hv <;> simp only [Rs.val.injEq, reduceCtorEq] at he
  ·obtain ⟨rfl, rfl, rfl⟩ := he
   rcases z2m hy with ⟨_, h⟩ | ⟨h, _⟩
   ·exact ⟨rfl, fun S2 => by simp [h S2]⟩
   ·omega
  ·obtain ⟨rfl, rfl, rfl⟩ := he
   rcases z2m hy with ⟨h, _⟩ | ⟨_, h⟩
   ·omega
   ·exact ⟨rfl, fun ob => by simp [h ob]⟩
  ·obtain ⟨rfl, rfl, rfl⟩ := he
   rcases z2m hy with ⟨h, _⟩ | ⟨h, _⟩ <;> omega
 ·split
  ·exact zU _ rfl
  ·split
   ·exact z0c
   ·exact zU _ rfl
  ·exact zU _ rfl
 ·split
  ·exact z0c
  ·exact zU _ rfl
 ·split
  ·exact z84
  ·exact zU _ rfl
 ·refine ⟨fun v S' hv => ?_, fun v S' hv => ?_, fun v S' hv => ?_, fun S' c hv => ?_, fun g as hv => ?_⟩ <;> obtain ⟨⟨y, S1⟩, hy, he⟩ := Option.map_eq_some_iff.1 hv <;> simp at he
  obtain ⟨rfl, rfl⟩ := he
  exact z90 hy
 ·exact z3d (fun ob v h => zi2 ob h)
 ·exact wQ (fun _ _ => rfl)
 ·exact z3d (fun ob v h => z9c ob h)
 ·exact wQ (fun _ _ => rfl)
 ·exact wQ (fun _ _ => rfl)
 ·exact z3d (fun ob v h => zeg ob h)
 ·exact z47
 ·exact za3
 ·exact z47
 ·split
  ·split
   ·exact z84
   ·exact zU _ rfl
  ·exact zey _
  ·exact zU _ rfl
 ·split
  ·rename_i id hit
   refine ⟨fun v S' hv => ?_, fun v S' hv => ?_, fun v S' hv => ?_, fun S' c hv => ?_, fun g as hv => ?_⟩
   all_goals
    cases ho : S[id]? with
    | none => simp [ho] at hv
    | some ob => cases ob <;> simp only [ho, reduceCtorEq] at hv <;> (split at hv <;> simp at hv)
  ·exact zU _ rfl
 ·exact zi9 _
 ·exact zem _
 ·split
  ·split
   ·exact z0c
   ·exact zU _ rfl
  ·exact zU _ rfl
 ·split
  ·exact zc3 _ _ _
  ·split
   ·split
    ·exact z1g (by simp) (by simp)
    ·exact zU _ rfl
   ·split
    ·exact z1g (by simp) (by simp)
    ·exact zU _ rfl
   ·exact zU _ rfl
  ·exact zU _ rfl
 ·split
  ·split
   ·split
    ·exact z1g (by simp) (by simp)
    ·exact zU _ rfl
   ·exact zU _ rfl
  ·exact zU _ rfl
 ·split <;> first | exact z1g (by simp) (by simp) | exact zU _ rfl
 ·exact zU _ rfl
end
theorem z0y {S : Store} {id : Nat} {o : Ob} (h : S[id]? = some o) : id < S.length := by
 rcases Nat.lt_or_ge id S.length with h' | h'
 ·exact h'
 ·simp [List.getElem?_eq_none h'] at h
theorem qT {S : Store} {id j : Nat} {o : Ob} (ob : Ob) (hS : S[id]? = some .hole) (h : S[j]? = some o) (hne : o ≠ .hole) : (S.set id ob)[j]? = some o := by
 have : id ≠ j := by rintro rfl; rw [hS] at h; cases h; exact hne rfl
 rw [List.getElem?_set_ne this]; exact h
theorem vL {S : Store} {id j : Nat} {o : Ob} (ob x : Ob) (hS : S[id]? = some .hole) (h : S[j]? = some o) (hne : o ≠ .hole) : (S.set id ob).set j x = (S.set j x).set id ob ∧ (S.set j x)[id]? = some .hole := by
 have : id ≠ j := by rintro rfl; rw [hS] at h; cases h; exact hne rfl
 exact ⟨List.set_comm _ _ this, by rw [List.getElem?_set_ne (Ne.symm this)]; exact hS⟩
theorem z03 {S : Store} {id : Nat} (ob x : Ob) (hS : S[id]? = some .hole) : (S.set id ob) ++ [x] = (S ++ [x]).set id ob ∧ (S ++ [x])[id]? = some .hole := by
 have := z0y hS
 exact ⟨by rw [List.set_append_left _ _ this], by rw [List.getElem?_append_left this]; exact hS⟩
section
variable {P : Program} {S : Store} {id : Nat}
theorem zai {t : TypeId} {x y : V} (ob : Ob) (hS : S[id]? = some .hole) (h : kC P S t x = some y) : kC P (S.set id ob) t x = some y := by
 unfold kC at h ⊢
 split at h
 ·rename_i j ix off
  cases ho : S[j]? with
  | none => simp [ho] at h
  | some o =>
   by_cases hne : o = .hole
   ·subst hne; simp [ho] at h
   ·simp only [ho] at h; simp only [qT ob hS ho hne]; exact h
 ·exact h
 ·cases h
theorem z8i {x : V} {y : List V} (ob : Ob) (hS : S[id]? = some .hole) (h : kA S x = some y) : kA (S.set id ob) x = some y := by
 unfold kA at h ⊢
 split at h
 ·exact h
 ·exact h
 ·rename_i j off len
  cases ho : S[j]? with
  | none => simp [ho] at h
  | some o =>
   by_cases hne : o = .hole
   ·subst hne; simp [ho] at h
   ·simp only [ho] at h; simp only [qT ob hS ho hne]; exact h
 ·rename_i j ix off len
  cases ho : S[j]? with
  | none => simp [ho] at h
  | some o =>
   by_cases hne : o = .hole
   ·subst hne; simp [ho] at h
   ·simp only [ho] at h; simp only [qT ob hS ho hne]; exact h
 ·exact h
 ·cases h
theorem z58 {x : V} {y : List (D × V)} (ob : Ob) (hS : S[id]? = some .hole) (h : kE S x = some y) : kE (S.set id ob) x = some y := by
 unfold kE at h ⊢
 split at h
 ·exact h
 ·exact h
 ·rename_i j
  cases ho : S[j]? with
  | none => simp [ho] at h
  | some o =>
   by_cases hne : o = .hole
   ·subst hne; simp [ho] at h
   ·simp only [ho] at h; simp only [qT ob hS ho hne]; exact h
 ·cases h
theorem zcz {t : TypeId} {x k y : V} {ok : Bool} (ob : Ob) (hS : S[id]? = some .hole) (h : wA P S t x k ok = some y) : wA P (S.set id ob) t x k ok = some y := by
 unfold wA at h ⊢
 split at h
 ·split at h
  ·rename_i hk
   rw [if_pos hk]
   cases he : kE S x with
   | none => simp [he] at h
   | some es => simp only [he] at h; simp only [z58 ob hS he]; exact h
  ·cases h
 ·cases h
theorem zck {j : Nat} {e : TypeId} (ob : Ob) (hS : S[id]? = some .hole) (h : rowT S j e = true) : rowT (S.set id ob) j e = true := by
 unfold rowT at h ⊢
 cases ho : S[j]? with
 | none => simp [ho] at h
 | some o =>
  by_cases hne : o = .hole
  ·subst hne; simp [ho] at h
  ·simp only [ho] at h; simp only [qT ob hS ho hne]; exact h
theorem zis {j : Nat} (ob : Ob) (hS : S[id]? = some .hole) (h : rowB S j = true) : rowB (S.set id ob) j = true := by
 unfold rowB at h ⊢
 cases ho : S[j]? with
 | none => simp [ho] at h
 | some o =>
  by_cases hne : o = .hole
  ·subst hne; simp [ho] at h
  ·simp only [ho] at h; simp only [qT ob hS ho hne]; exact h
theorem z8b {t : TypeId} {x ix y : V} (ob : Ob) (hS : S[id]? = some .hole) (h : zE P S t x ix = some y) : zE P (S.set id ob) t x ix = some y := by
 unfold zE at h ⊢
 split at h
 ·cases h
 ·split at h
  ·split at h
   ·split at h
    ·rename_i hc
     rw [if_pos ⟨hc.1, zck ob hS hc.2.1, hc.2.2⟩]; exact h
    ·cases h
   ·split at h
    ·rename_i hc
     rw [if_pos ⟨hc.1, zis ob hS hc.2.1, hc.2.2⟩]; exact h
    ·cases h
   ·exact h
   ·exact h
   ·cases h
  ·exact h
  ·cases h
theorem z3h {n : Nat} {e : TypeId} {x y : V} {lo hi : Option V} (ob : Ob) (hS : S[id]? = some .hole) (h : kY P S n e x lo hi = some y) : kY P (S.set id ob) n e x lo hi = some y := by
 unfold kY at h ⊢
 split at h
 ·rename_i hc
  rw [if_pos hc]
  cases h1 : jR n hi n with
  | none => simp [h1] at h
  | some hh =>
   simp only [h1] at h ⊢
   cases h2 : jR hh lo 0 with
   | none => simp [h2] at h
   | some l =>
    simp only [h2] at h ⊢
    split at h
    ·rename_i j ix off
     cases ho : S[j]? with
     | none => simp [ho] at h
     | some o =>
      by_cases hne : o = .hole
      ·subst hne; simp [ho] at h
      ·simp only [ho] at h; simp only [qT ob hS ho hne]; exact h
    ·exact h
    ·cases h
 ·cases h
theorem zeu {t : TypeId} {x y : V} {lo hi : Option V} (ob : Ob) (hS : S[id]? = some .hole) (h : wD P S t x lo hi = some y) : wD P (S.set id ob) t x lo hi = some y := by
 unfold wD at h ⊢
 split at h
 ·exact h
 ·split at h
  ·exact h
  ·exact h
  ·rename_i j off len
   cases h1 : jR len hi len with
   | none => simp [h1] at h
   | some hh =>
    simp only [h1] at h ⊢
    cases h2 : jR hh lo 0 with
    | none => simp [h2] at h
    | some l =>
     simp only [h2] at h ⊢
     split at h
     ·rename_i hc
      simp only [Bool.and_eq_true] at hc
      rw [if_pos (by simp [zck ob hS hc.1, hc.2])]; exact h
     ·cases h
  ·cases h
 ·split at h
  ·exact z3h ob hS h
  ·cases h
 ·exact z3h ob hS h
 ·cases h
theorem z7p {e tx : TypeId} {x : V} {ys : List V} (ob : Ob) (hS : S[id]? = some .hole) (h : srcV P S e tx x = some ys) : srcV P (S.set id ob) e tx x = some ys := by
 unfold srcV at h ⊢
 split at h
 ·exact h
 ·split at h
  ·split at h
   ·rename_i ys' hy
    rw [z8i ob hS hy]
    simpa using h
   ·cases h
  ·exact h
  ·cases h
theorem ze4 {t : TypeId} {a v : V} {S' : Store} (ob : Ob) (hS : S[id]? = some .hole) (h : z02 P S t a v = some S') : z02 P (S.set id ob) t a v = some (S'.set id ob) ∧ S'[id]? = some .hole := by
 unfold z02 at h ⊢
 split at h
 ·rename_i j ix off
  cases ho : S[j]? with
  | none => simp [ho] at h
  | some o =>
   by_cases hne : o = .hole
   ·subst hne; simp [ho] at h
   ·simp only [ho] at h; simp only [qT ob hS ho hne]
    cases o with
    | row xs e =>
     simp only at h ⊢
     split at h
     ·rename_i x hx
      try simp only [hx]
      split at h
      ·rename_i hf
       rw [if_pos hf]
       split at h
       ·rename_i hc
        rw [if_pos hc]
        simp only [Option.some.injEq] at h; subst h
        obtain ⟨g1, g2⟩ := vL ob (.row (xs.set ix v) e) hS ho hne
        exact ⟨by rw [g1], g2⟩
       ·rename_i hc
        rw [if_neg hc]
        split at h
        ·rename_i hc2
         rw [if_pos hc2]
         simp only [Option.some.injEq] at h; subst h
         obtain ⟨g1, g2⟩ := vL ob (.row (xs.set ix (.agg (x.cells.take off ++ v.cells ++ x.cells.drop (off + v.cells.length)))) e) hS ho hne
         exact ⟨by rw [g1], g2⟩
        ·cases h
      ·cases h
     ·cases h
    | _ => simp at h
 ·cases h
theorem zda {t tx : TypeId} {s x y : V} {S' : Store} {c : Nat} (ob : Ob) (hS : S[id]? = some .hole) (h : qE P S t tx s x = some (y, S', c)) : qE P (S.set id ob) t tx s x = some (y, S'.set id ob, c) ∧ S'[id]? = some .hole := by
 unfold qE at h ⊢
 split at h
 ·rename_i e hu
  split at h
  ·cases h
  ·rename_i hsrc
   simp only [z7p ob hS hsrc]
   split at h
   ·simp only [Option.some.injEq, Prod.mk.injEq] at h; obtain ⟨rfl, rfl, rfl⟩ := h; exact ⟨rfl, hS⟩
   ·simp only [Option.some.injEq, Prod.mk.injEq] at h; obtain ⟨rfl, rfl, rfl⟩ := h; exact ⟨rfl, hS⟩
   ·simp only [Option.some.injEq, Prod.mk.injEq] at h; obtain ⟨rfl, rfl, rfl⟩ := h; exact ⟨rfl, hS⟩
   ·cases h
  ·rename_i y0 r hsrc
   simp only [z7p ob hS hsrc, List.length_set]
   split at h
   ·rename_i hz
    rw [if_pos hz]
    split at h
    ·rename_i xs
     split at h
     ·rename_i hc
      rw [if_pos hc]
      simp only [Option.some.injEq, Prod.mk.injEq] at h; obtain ⟨rfl, rfl, rfl⟩ := h
      obtain ⟨g1, g2⟩ := z03 ob (.row (xs.map .d ++ y0 :: r) e) hS
      exact ⟨by rw [g1], g2⟩
     ·cases h
    ·rename_i j off len
     cases ho : S[j]? with
     | none => simp [ho] at h
     | some o =>
      by_cases hne : o = .hole
      ·subst hne; simp [ho] at h
      ·simp only [ho] at h; simp only [qT ob hS ho hne]
       cases o with
       | row xs e' =>
        simp only at h ⊢
        split at h
        ·rename_i hc
         rw [if_pos hc]
         simp only [Option.some.injEq, Prod.mk.injEq] at h; obtain ⟨rfl, rfl, rfl⟩ := h
         obtain ⟨g1, g2⟩ := vL ob .dead hS ho hne
         obtain ⟨g3, g4⟩ := z03 ob (.row (xs.take len ++ y0 :: r) e) g2
         exact ⟨by rw [g1, g3], g4⟩
        ·cases h
       | _ => simp at h
    ·cases h
   ·cases h
 ·cases h
theorem zgq {t tx : TypeId} {d x y : V} {S' : Store} (ob : Ob) (hS : S[id]? = some .hole) (h : copyV P S t tx d x = some (y, S')) : copyV P (S.set id ob) t tx d x = some (y, S'.set id ob) ∧ S'[id]? = some .hole := by
 unfold copyV at h ⊢
 split at h
 ·rename_i e hu
  split at h
  ·cases h
  rename_i hni
  rw [if_neg hni]
  split at h
  ·cases h
  ·rename_i ys hsrc
   simp only [z7p ob hS hsrc]
   split at h
   ·rename_i j off len
    cases ho : S[j]? with
    | none => simp [ho] at h
    | some o =>
     by_cases hne : o = .hole
     ·subst hne; simp [ho] at h
     ·simp only [ho] at h; simp only [qT ob hS ho hne]
      cases o with
      | row xs e' =>
       simp only at h ⊢
       split at h
       ·rename_i hc
        rw [if_pos hc]
        simp only [Option.some.injEq, Prod.mk.injEq] at h; obtain ⟨rfl, rfl⟩ := h
        obtain ⟨g1, g2⟩ := vL ob (.row (xs.take off ++ ys.take (min ys.length len) ++ xs.drop (off + min ys.length len)) e) hS ho hne
        exact ⟨by rw [g1], g2⟩
       ·cases h
      | _ => simp at h
   ·cases h
 ·cases h
theorem z7x {t : TypeId} {l c y : V} {S' : Store} (ob : Ob) (hS : S[id]? = some .hole) (h : jG P S t l c = some (y, S')) : jG P (S.set id ob) t l c = some (y, S'.set id ob) ∧ S'[id]? = some .hole := by
 unfold jG at h ⊢
 split at h
 ·rename_i e hu
  split at h
  ·rename_i l' c' z hz
   split at h
   ·rename_i hc
    split at h
    ·rename_i hr
     simp only [Option.some.injEq, Prod.mk.injEq] at h; obtain ⟨rfl, rfl⟩ := h
     obtain ⟨g1, g2⟩ := z03 ob (.row (List.replicate c'.toNat z) e) hS
     simp only [hz, if_pos hc, if_pos hr, List.length_set, g1]
     exact ⟨trivial, g2⟩
    ·cases h
   ·cases h
  ·cases h
 ·cases h
theorem zar {src dst : TypeId} {x y : V} {c : Nat} (ob : Ob) (hS : S[id]? = some .hole) (h : qD P S src dst x = some (y, c)) : qD P (S.set id ob) src dst x = some (y, c) := by
 have h0 := h
 unfold qD at h
 split at h
 ·simp only [Option.some.injEq, Prod.mk.injEq] at h
  obtain ⟨rfl, rfl⟩ := h
  rw [← h0]; unfold qD; simp_all
 ·simp only [Option.some.injEq, Prod.mk.injEq] at h
  obtain ⟨rfl, rfl⟩ := h
  rw [← h0]; unfold qD; simp_all
 ·split at h
  ·split at h
   ·simp only [Option.some.injEq, Prod.mk.injEq] at h
    obtain ⟨rfl, rfl⟩ := h
    rw [← h0]; unfold qD; simp_all
   ·cases h
  ·cases h
 ·split at h
  ·split at h
   ·cases h
   ·split at h
    ·rename_i ys hy
     have := z8i ob hS hy
     obtain ⟨s, hs, he⟩ := Option.map_eq_some_iff.1 h
     simp only [Prod.mk.injEq] at he
     obtain ⟨rfl, rfl⟩ := he
     rw [← h0]; unfold qD; simp_all
    ·cases h
  ·cases h
 ·cases h
theorem z8p {t : TypeId} {x k v : V} {S' : Store} (ob : Ob) (hS : S[id]? = some .hole) (h : jO P S t x k v = some S') : jO P (S.set id ob) t x k v = some (S'.set id ob) ∧ S'[id]? = some .hole := by
 unfold jO at h ⊢
 split at h
 ·rename_i kt et hu
  split at h
  ·rename_i hok
   rw [if_pos hok]
   split at h
   ·rename_i j kd hkd
    cases ho : S[j]? with
    | none => simp [ho] at h
    | some o =>
     by_cases hne : o = .hole
     ·subst hne; simp [ho] at h
     ·simp only [ho] at h; simp only [qT ob hS ho hne]
      cases o with
      | mp es clock =>
       have fin : ∀ es' cl, some (S.set j (.mp es' cl)) = some S' → some ((S.set id ob).set j (.mp es' cl)) = some (S'.set id ob) ∧ S'[id]? = some .hole := fun es' cl he => by
        simp only [Option.some.injEq] at he; subst he
        obtain ⟨g1, g2⟩ := vL ob (.mp es' cl) hS ho hne
        exact ⟨by rw [g1], g2⟩
       simp only at h ⊢
       split at h
       ·rename_i i u hf
        try simp only [hf]
        split at h
        ·rename_i e he
         try simp only [he]
         split at h
         ·rename_i hs
          rw [if_pos hs]
          exact fin _ _ h
         ·cases h
        ·cases h
       ·rename_i hf
        try simp only [hf]
        exact fin _ _ h
       ·cases h
      | _ => simp at h
   ·cases h
  ·cases h
 ·cases h
theorem z9d {t : TypeId} {x k y : V} {S' : Store} (ob : Ob) (hS : S[id]? = some .hole) (h : wZ P S t x k = some (y, S')) : wZ P (S.set id ob) t x k = some (y, S'.set id ob) ∧ S'[id]? = some .hole := by
 unfold wZ at h ⊢
 split at h
 ·rename_i kt et hu
  split at h
  ·rename_i hok
   rw [if_pos hok]
   split at h
   ·rename_i j kd z hkd hz
    cases ho : S[j]? with
    | none => simp [ho] at h
    | some o =>
     by_cases hne : o = .hole
     ·subst hne; simp [ho] at h
     ·simp only [ho] at h; simp only [qT ob hS ho hne]
      cases o with
      | mp es clock =>
       have fin : ∀ es' cl v, some (v, S.set j (.mp es' cl)) = some (y, S') → some (v, (S.set id ob).set j (.mp es' cl)) = some (y, S'.set id ob) ∧ S'[id]? = some .hole := fun es' cl v he => by
        simp only [Option.some.injEq, Prod.mk.injEq] at he; obtain ⟨rfl, rfl⟩ := he
        obtain ⟨g1, g2⟩ := vL ob (.mp es' cl) hS ho hne
        exact ⟨by rw [g1], g2⟩
       simp only at h ⊢
       split at h
       ·rename_i i u hf
        try simp only [hf]
        split at h
        ·rename_i e he
         try simp only [he]
         split at h
         ·rename_i hs
          rw [if_pos hs]
          exact fin _ _ _ h
         ·cases h
        ·cases h
       ·rename_i hf
        try simp only [hf]
        exact fin _ _ _ h
       ·cases h
      | _ => simp at h
   ·cases h
  ·cases h
 ·cases h
theorem z75 {x st v : V} {S' : Store} (ob : Ob) (hS : S[id]? = some .hole) (h : kM S x st v = some S') : kM (S.set id ob) x st v = some (S'.set id ob) ∧ S'[id]? = some .hole := by
 unfold kM at h ⊢
 split at h
 ·cases h
 ·rename_i hone
  rw [if_neg hone]
  split at h
  ·rename_i j kk n
   cases ho : S[j]? with
   | none => simp [ho] at h
   | some o =>
    by_cases hne : o = .hole
    ·subst hne; simp [ho] at h
    ·simp only [ho] at h; simp only [qT ob hS ho hne]
     cases o with
     | mp es clock =>
      simp only at h ⊢
      split at h
      ·rename_i i hf
       try simp only [hf]
       split at h
       ·rename_i e he
        try simp only [he]
        simp only [Option.some.injEq] at h; subst h
        obtain ⟨g1, g2⟩ := vL ob (.mp (es.set i (e.1, v, e.2.2)) clock) hS ho hne
        exact ⟨by rw [g1], g2⟩
       ·cases h
      ·cases h
     | _ => simp at h
  ·cases h
theorem zbx {t : TypeId} {x k : V} {S' : Store} (ob : Ob) (hS : S[id]? = some .hole) (h : z07 P S t x k = some S') : z07 P (S.set id ob) t x k = some (S'.set id ob) ∧ S'[id]? = some .hole := by
 unfold z07 at h ⊢
 split at h
 ·rename_i kt et hu
  split at h
  ·rename_i hok
   rw [if_pos hok]
   split at h
   ·rename_i j
    cases ho : S[j]? with
    | none => simp [ho] at h
    | some o =>
     by_cases hne : o = .hole
     ·subst hne; simp [ho] at h
     ·simp only [ho] at h; simp only [qT ob hS ho hne]
      cases o with
      | mp es clock =>
       have fin : ∀ es' cl, some (S.set j (.mp es' cl)) = some S' → some ((S.set id ob).set j (.mp es' cl)) = some (S'.set id ob) ∧ S'[id]? = some .hole := fun es' cl he => by
        simp only [Option.some.injEq] at he; subst he
        obtain ⟨g1, g2⟩ := vL ob (.mp es' cl) hS ho hne
        exact ⟨by rw [g1], g2⟩
       simp only at h ⊢
       split at h
       ·rename_i i u hf
        try simp only [hf]
        exact fin _ _ h
       ·rename_i hf
        try simp only [hf]
        exact fin _ _ h
       ·cases h
      | _ => simp at h
   ·cases h
  ·cases h
 ·cases h
end
def Rs.upd (id : Nat) (ob : Ob) : Rs → Rs
 | .val v S c => .val v (S.set id ob) c
 | .skip S c => .skip (S.set id ob) c
 | .enter f as => .enter f as
 | .dfr f as => .dfr f as
 | .pan v => .pan v
def Rs.hol (id : Nat) : Rs → Prop
 | .val _ S _ => S[id]? = some .hole
 | .skip S _ => S[id]? = some .hole
 | _ => True
section
variable {P : Program} {S : Store} {id : Nat}
theorem kR {f g : Option V} {r : Rs} {ob : Ob} {c : Nat} (hS : S[id]? = some .hole) (hfg : ∀ v, f = some v → g = some v) (h : (f.map fun v => Rs.val v S c) = some r) : (g.map fun v => Rs.val v (S.set id ob) c) = some (r.upd id ob) ∧ r.hol id := by
 obtain ⟨v, hv, rfl⟩ := Option.map_eq_some_iff.1 h
 rw [hfg v hv]
 exact ⟨rfl, hS⟩
theorem z8a {f g : Option Store} {r : Rs} {ob : Ob} {c : Nat} (hfg : ∀ S', f = some S' → g = some (S'.set id ob) ∧ S'[id]? = some .hole) (h : (f.map fun S' => Rs.skip S' c) = some r) : (g.map fun S' => Rs.skip S' c) = some (r.upd id ob) ∧ r.hol id := by
 obtain ⟨v, hv, rfl⟩ := Option.map_eq_some_iff.1 h
 obtain ⟨g1, g2⟩ := hfg v hv
 rw [g1]
 exact ⟨rfl, g2⟩
theorem z65 {f g : Option (V × Store)} {r : Rs} {ob : Ob} {c : Nat} (hfg : ∀ v S', f = some (v, S') → g = some (v, S'.set id ob) ∧ S'[id]? = some .hole) (h : (f.map fun r => Rs.val r.1 r.2 c) = some r) : (g.map fun r => Rs.val r.1 r.2 c) = some (r.upd id ob) ∧ r.hol id := by
 obtain ⟨⟨v, S'⟩, hv, rfl⟩ := Option.map_eq_some_iff.1 h
 obtain ⟨g1, g2⟩ := hfg v S' hv
 rw [g1]
 exact ⟨rfl, g2⟩
theorem kN {r : Rs} {v : V} {c : Nat} {ob : Ob} (hS : S[id]? = some .hole) (h : some (Rs.val v S c) = some r) : some (Rs.val v (S.set id ob) c) = some (r.upd id ob) ∧ r.hol id := by
 simp only [Option.some.injEq] at h; subst h; exact ⟨rfl, hS⟩
theorem zas {b : Builtin} {ts : List TypeId} {xs : List V} {r : Rs} (ob : Ob) (hS : S[id]? = some .hole) (h : zI P S b ts xs = some r) : zI P (S.set id ob) b ts xs = some (r.upd id ob) ∧ r.hol id := by
 unfold zI at h ⊢
 split at h
 ·rename_i t ts' x
  cases hu : P.underlying t with
  | none => simp [hu] at h
  | some td =>
   simp only [hu] at h
   cases td <;> simp only [reduceCtorEq] at h ⊢ <;> first | exact kN hS h | skip
   ·split at h <;> first | exact kN hS h | cases h
   ·split at h <;> first | exact kN hS h | cases h
   ·split at h
    ·rename_i es he
     simp only [z58 ob hS he]
     exact kN hS h
    ·cases h
 ·rename_i t tx s x
  obtain ⟨⟨v, S', c⟩, hv, rfl⟩ := Option.map_eq_some_iff.1 h
  obtain ⟨g1, g2⟩ := zda ob hS hv
  simp only [g1]
  exact ⟨rfl, g2⟩
 ·exact z65 (fun v S' hv => zgq ob hS hv) h
 ·obtain ⟨S', hv, rfl⟩ := Option.map_eq_some_iff.1 h
  obtain ⟨g1, g2⟩ := zbx ob hS hv
  simp only [g1]
  exact ⟨rfl, g2⟩
 ·exact kR hS (fun v hv => hv) h
 ·exact kR hS (fun v hv => hv) h
 ·cases h
theorem zc5 {v : V} {r : Rs} (ob : Ob) (hS : S[id]? = some .hole) (h : z1n S v = some r) : z1n (S.set id ob) v = some (r.upd id ob) ∧ r.hol id := by
 cases v <;> simp only [z1n, reduceCtorEq] at h ⊢
 rename_i j
 cases ho : S[j]? with
 | none => simp [ho] at h
 | some o' =>
  by_cases hne : o' = .hole
  ·subst hne; simp [ho] at h
  ·simp only [ho] at h
   simp only [qT ob hS ho hne]
   cases o' with
   | mp es clock =>
    simp only [Option.some.injEq] at h ⊢; subst h
    obtain ⟨g1, g2⟩ := z03 ob (.mit j clock [] clock) hS
    simp only [List.length_set, g1]
    exact ⟨rfl, g2⟩
   | _ => simp at h
theorem zej {v : V} {r : Rs} (ob : Ob) (hS : S[id]? = some .hole) (h : z4e S v = some r) : z4e (S.set id ob) v = some (r.upd id ob) ∧ r.hol id := by
 cases v <;> simp only [z4e, reduceCtorEq] at h ⊢
 rename_i j
 cases ho : S[j]? with
 | none => simp [ho] at h
 | some o' =>
  by_cases hne : o' = .hole
  ·subst hne; simp [ho] at h
  ·simp only [ho] at h
   simp only [qT ob hS ho hne]
   cases o' with
   | mit mid since seen last =>
    simp only at h ⊢
    cases hm : S[mid]? with
    | none => simp [hm] at h
    | some om =>
     by_cases hnm : om = .hole
     ·subst hnm; simp [hm] at h
     ·simp only [hm] at h
      simp only [qT ob hS hm hnm]
      cases om with
      | mp es clock =>
       simp only at h ⊢
       split at h
       ·cases h
       ·rename_i hc
        rw [if_neg hc]
        split at h
        ·exact kN hS h
        ·rename_i e r' hf
         split at h
         ·rename_i hlt
          rw [if_pos hlt]
          simp only [Option.some.injEq] at h; subst h
          obtain ⟨g1, g2⟩ := vL ob (.mit mid since (seen ++ [e.2.2]) clock) hS ho hne
          exact ⟨by simp only [Rs.upd, g1], g2⟩
         ·cases h
      | _ => simp at h
   | _ => simp at h
theorem zdo {v : V} {r : Rs} (ob : Ob) (hS : S[id]? = some .hole) (h : z1e S v = some r) : z1e (S.set id ob) v = some (r.upd id ob) ∧ r.hol id := by
 cases v <;> simp only [z1e, reduceCtorEq] at h ⊢
 rename_i j
 cases ho : S[j]? with
 | none => simp [ho] at h
 | some o' =>
  by_cases hne : o' = .hole
  ·subst hne; simp [ho] at h
  ·simp only [ho] at h
   simp only [qT ob hS ho hne]
   cases o' with
   | mit mid since seen last =>
    simp only at h ⊢
    cases hm : S[mid]? with
    | none => simp [hm] at h
    | some om =>
     by_cases hnm : om = .hole
     ·subst hnm; simp [hm] at h
     ·simp only [hm] at h
      simp only [qT ob hS hm hnm]
      cases om with
      | mp es clock =>
       simp only at h ⊢
       split at h
       ·rename_i hc
        rw [if_pos hc]
        split at h
        ·split at h
         ·exact kN hS h
         ·cases h
        ·cases h
       ·cases h
      | _ => simp at h
   | _ => simp at h
theorem zb9 {T : List V} {o : Oper} {r : Rs} (ob : Ob) (hS : S[id]? = some .hole) (h : opV P S T o = some r) : opV P (S.set id ob) T o = some (r.upd id ob) ∧ r.hol id := by
  unfold opV at h ⊢
  split at h
  · exact kN hS h
  · exact kN hS h
  · split at h <;> first | exact kN hS h | cases h
  · split at h
    · split at h
      · rename_i z hz hf
        simp only [Option.some.injEq] at h; subst h
        have g := fun x => z03 ob x hS
        simp only [List.length_set, fun x => (g x).1, if_pos hf]
        exact ⟨rfl, (g _).2⟩
      · cases h
    · cases h
  · split at h
    · rename_i hf
      simp only [Option.some.injEq] at h; subst h
      have g := fun x => z03 ob x hS
      simp only [List.length_set, fun x => (g x).1, if_pos hf]
      exact ⟨rfl, (g _).2⟩
    · cases h
  · exact kR hS (fun v hv => hv) h
  · split at h
    · split at h
      · split at h
        · rename_i hc
          split at h
          · rename_i ds hds
            simp only [if_pos hc]
            exact kN hS h
          · simp only [Option.some.injEq] at h; subst h
            have g := fun x => z03 ob x hS
            simp only [List.length_set, fun x => (g x).1, if_pos hc]
            exact ⟨rfl, (g _).2⟩
        · cases h
      · cases h
    · cases h
  · exact kR hS (fun v hv => zai ob hS hv) h
  · exact z8a (fun S' hv => ze4 ob hS hv) h
  · split at h <;> first | exact kN hS h | cases h
  · exact kR hS (fun v hv => hv) h
  · exact kR hS (fun v hv => hv) h
  · obtain ⟨⟨v, c⟩, hv, rfl⟩ := Option.map_eq_some_iff.1 h
    simp only [zar ob hS hv]
    exact ⟨rfl, hS⟩
  · split at h
    · cases h
    · split at h
      · rename_i hc
        simp only [if_pos hc]
        exact kN hS h
      · cases h
    · cases h
  · split at h
    · rename_i hc
      simp only [if_pos hc]
      exact kN hS h
    · cases h
  · split at h
    · simp only [Option.some.injEq] at h; subst h
      obtain ⟨g1, g2⟩ := z03 ob (.mp [] 0) hS
      simp only [List.length_set, g1]
      exact ⟨rfl, g2⟩
    · cases h
  · exact z65 (fun v S' hv => z7x ob hS hv) h
  · exact kR hS (fun v hv => zeu ob hS hv) h
  · exact kR hS (fun v hv => hv) h
  · exact kR hS (fun v hv => z8b ob hS hv) h
  · exact kR hS (fun v hv => hv) h
  · exact kR hS (fun v hv => hv) h
  · exact kR hS (fun v hv => zcz ob hS hv) h
  · exact z8a (fun S' hv => z8p ob hS hv) h
  · exact z65 (fun v S' hv => z9d ob hS hv) h
  · exact z8a (fun S' hv => z75 ob hS hv) h
  · split at h
    · split at h
      · simp only [Option.some.injEq] at h; subst h
        have g := fun x => z03 ob x hS
        simp only [List.length_set, fun x => (g x).1]
        exact ⟨rfl, (g _).2⟩
      · cases h
    · exact zc5 ob hS h
    · cases h
  · split at h
    · rename_i j hit
      cases ho : S[j]? with
      | none => simp [ho] at h
      | some o' =>
        by_cases hne : o' = .hole
        · subst hne; simp [ho] at h
        · simp only [ho] at h
          simp only [qT ob hS ho hne]
          cases o' with
          | iter s pos =>
            simp only at h ⊢
            split at h
            · rename_i hlt
              simp only [if_pos hlt]
              simp only [Option.some.injEq] at h; subst h
              obtain ⟨g1, g2⟩ := vL ob (.iter s (pos + (Utf8.decode ⟨s.toArray⟩ pos).2)) hS ho hne
              exact ⟨by simp only [Rs.upd, g1], g2⟩
            · rename_i hlt
              simp only [if_neg hlt]
              exact kN hS h
          | _ => simp at h
    · cases h
  · exact zej ob hS h
  · exact zdo ob hS h
  · split at h
    · split at h
      · exact kN hS h
      · cases h
    · cases h
  · split at h
    · exact zas ob hS h
    · split at h
      · split at h
        · rename_i hc
          simp only [if_pos hc]
          simp only [Option.some.injEq] at h; subst h; exact ⟨rfl, trivial⟩
        · cases h
      · split at h
        · rename_i hc
          simp only [if_pos hc]
          simp only [Option.some.injEq] at h; subst h; exact ⟨rfl, trivial⟩
        · cases h
      · cases h
    · cases h
  · split at h
    · split at h
      · split at h
        · rename_i hc
          simp only [if_pos hc]
          simp only [Option.some.injEq] at h; subst h; exact ⟨rfl, trivial⟩
        · cases h
      · cases h
    · cases h
  · split at h <;> first | (simp only [Option.some.injEq] at h; subst h; exact ⟨rfl, trivial⟩) | cases h
  · cases h
theorem wN {α β : Type} {f g : α → Option β} : ∀ {xs : List α} {ys : List β}, (∀ x ∈ xs, ∀ y, f x = some y → g x = some y) → allO f xs = some ys → allO g xs = some ys
 | [], ys, _, h => h
 | x :: r, ys, hfg, h => by
  obtain ⟨y, zs, h1, h2, rfl⟩ := wL h
  simp only [allO, hfg x (by simp) y h1, wN (fun x hx => hfg x (by simp [hx])) h2]
theorem z2p {α β : Type} {f : α → Option β} {xs : List α} {ys : List β} (h : allO f xs = some ys) {x : α} (hx : x ∈ xs) : ∃ y, f x = some y := by
 obtain ⟨i, hi⟩ := List.getElem?_of_mem hx
 obtain ⟨y, hy, _⟩ := (z10 h).2 i x hi
 exact ⟨y, hy⟩
theorem kT {α β : Type} {f g : α → List β} : ∀ {xs : List α}, (∀ x ∈ xs, f x = g x) → xs.flatMap f = xs.flatMap g
 | [], _ => rfl
 | x :: r, h => by
  rw [List.flatMap_cons, List.flatMap_cons, h x (by simp), kT (xs := r) (fun y hy => h y (List.mem_cons_of_mem _ hy))]
theorem z38 (ob : Ob) (hS : S[id]? = some .hole) : ∀ (n : Nat) (v : V) (x : D), frz S n v = some x → frz (S.set id ob) n v = some x ∧ frzIds (S.set id ob) n v = frzIds S n v := by
 intro n
 induction n with
 | zero => intro v x h; simp [frz] at h
 | succ n ih =>
  intro v x h
  have many : ∀ {xs : List V} {ds : List D}, allO (frz S n) xs = some ds → allO (frz (S.set id ob) n) xs = some ds ∧ xs.flatMap (frzIds (S.set id ob) n) = xs.flatMap (frzIds S n) := fun h =>
   ⟨wN (fun x _ y hy => (ih x y hy).1) h, kT fun x hx => by obtain ⟨y, hy⟩ := z2p h hx; exact (ih x y hy).2⟩
  have manyM : ∀ {es : List (D × V × Nat)} {ds : List (D × D)}, allO (fun (e : D × V × Nat) => (frz S n e.2.1).map fun x => (e.1, x)) es = some ds → allO (fun (e : D × V × Nat) => (frz (S.set id ob) n e.2.1).map fun x => (e.1, x)) es = some ds ∧ (es.flatMap fun e => frzIds (S.set id ob) n e.2.1) = es.flatMap fun e => frzIds S n e.2.1 := fun h =>
   ⟨wN (fun x _ y hy => by
    obtain ⟨z, hz, rfl⟩ := Option.map_eq_some_iff.1 hy
    rw [(ih _ _ hz).1]; rfl) h, kT fun x hx => by
     obtain ⟨y, hy⟩ := z2p h hx
     obtain ⟨z, hz, _⟩ := Option.map_eq_some_iff.1 hy
     exact (ih _ _ hz).2⟩
  cases v with
  | d y => exact ⟨h, rfl⟩
  | ts xs => exact ⟨h, rfl⟩
  | agg xs =>
   simp only [frz, frzIds] at h ⊢
   cases ha : allO (frz S n) xs with
   | none => simp [ha] at h
   | some ds => simp only [ha] at h; simp only [(many ha).1]; exact ⟨h, (many ha).2⟩
  | iface t v =>
   simp only [frz, frzIds] at h ⊢
   obtain ⟨z, hz, rfl⟩ := Option.map_eq_some_iff.1 h
   rw [(ih _ _ hz).1]; exact ⟨rfl, (ih _ _ hz).2⟩
  | rs j off len =>
   simp only [frz, frzIds] at h ⊢
   cases ho : S[j]? with
   | none => simp [ho] at h
   | some o =>
    by_cases hne : o = .hole
    ·subst hne; simp [ho] at h
    ·simp only [ho] at h
     simp only [qT ob hS ho hne]
     cases o with
     | row xs e =>
      simp only at h ⊢
      split at h
      ·rename_i hc
       simp only [Bool.and_eq_true, decide_eq_true_eq] at hc
       obtain ⟨hc1, hc2⟩ := hc
       obtain ⟨ds, hds⟩ := Option.isSome_iff_exists.1 hc2
       obtain ⟨z, hz, rfl⟩ := Option.map_eq_some_iff.1 h
       simp only [(many hds).1, (many hz).1, hc1, decide_true, Option.isSome_some, Bool.and_self, if_true]
       exact ⟨rfl, by rw [(many hds).2]⟩
      ·cases h
     | fz xs e => exact ⟨h, rfl⟩
     | _ => simp at h
  | cs j ix off len =>
   simp only [frz, frzIds] at h ⊢
   cases ho : S[j]? with
   | none => simp [ho] at h
   | some o =>
    by_cases hne : o = .hole
    ·subst hne; simp [ho] at h
    ·simp only [ho] at h
     simp only [qT ob hS ho hne]
     cases o with
     | row xs e =>
      simp only at h ⊢
      split at h
      ·rename_i y hy
       split at h
       ·rename_i hc
        simp only [Bool.and_eq_true, decide_eq_true_eq] at hc
        obtain ⟨ds, hds⟩ := Option.isSome_iff_exists.1 hc.2
        try simp only [hy]
        simp only [(many hds).1, hc.1.1, hc.1.2, decide_true, Option.isSome_some, Bool.and_self, if_true]
        exact ⟨h, by rw [(many hds).2]⟩
       ·cases h
      ·cases h
     | fz xs e => exact ⟨h, rfl⟩
     | _ => simp at h
  | ref j ix off =>
   cases off with
   | succ _ => simp [frz] at h
   | zero =>
    simp only [frz, frzIds] at h ⊢
    cases ho : S[j]? with
    | none => simp [ho] at h
    | some o =>
     by_cases hne : o = .hole
     ·subst hne; simp [ho] at h
     ·simp only [ho] at h
      simp only [qT ob hS ho hne]
      cases o with
      | row xs e =>
       simp only at h ⊢
       split at h
       ·rename_i y hy
        split at h
        ·rename_i hc
         obtain ⟨ds, hds⟩ := Option.isSome_iff_exists.1 hc
         obtain ⟨z, hz, rfl⟩ := Option.map_eq_some_iff.1 h
         try simp only [hy]
         simp only [(many hds).1, (ih _ _ hz).1, Option.isSome_some, if_true]
         exact ⟨rfl, by rw [(many hds).2]⟩
        ·cases h
       ·cases h
      | fz xs e => exact ⟨h, rfl⟩
      | _ => simp at h
  | fn f a b =>
   simp only [frz, frzIds] at h ⊢
   cases ha : allO (frz S n) a with
   | none => simp [ha] at h
   | some da =>
    cases hb : allO (frz S n) b with
    | none => simp [ha, hb] at h
    | some db =>
     simp only [ha, hb] at h
     simp only [(many ha).1, (many hb).1, (many ha).2, (many hb).2]
     exact ⟨h, trivial⟩
  | mr j =>
   simp only [frz, frzIds] at h ⊢
   cases ho : S[j]? with
   | none => simp [ho] at h
   | some o =>
    by_cases hne : o = .hole
    ·subst hne; simp [ho] at h
    ·simp only [ho] at h
     simp only [qT ob hS ho hne]
     cases o with
     | mp es c =>
      simp only at h ⊢
      obtain ⟨z, hz, rfl⟩ := Option.map_eq_some_iff.1 h
      rw [(manyM hz).1]
      exact ⟨rfl, by rw [(manyM hz).2]⟩
     | fm es => exact ⟨h, rfl⟩
     | _ => simp at h
  | it id => simp [frz] at h
  | tup xs => simp [frz] at h
  | junk => simp [frz] at h
theorem zgz {o o' : Ob} (ob : Ob) (hS : S[id]? = some .hole) (h : z3g S o = some o') : z3g (S.set id ob) o = some o' ∧ z91 (S.set id ob) o = z91 S o := by
 cases o with
 | row xs e =>
  simp only [z3g, z91] at h ⊢
  obtain ⟨ds, hds, rfl⟩ := Option.map_eq_some_iff.1 h
  rw [wN (fun x _ y hy => (z38 ob hS _ x y hy).1) hds]
  exact ⟨rfl, kT fun x hx => by obtain ⟨y, hy⟩ := z2p hds hx; exact (z38 ob hS _ x y hy).2⟩
 | mp es c =>
  simp only [z3g, z91] at h ⊢
  obtain ⟨ds, hds, rfl⟩ := Option.map_eq_some_iff.1 h
  rw [wN (fun x _ y hy => by
   obtain ⟨z, hz, rfl⟩ := Option.map_eq_some_iff.1 hy
   rw [(z38 ob hS _ _ _ hz).1]; rfl) hds]
  exact ⟨rfl, kT fun x hx => by
   obtain ⟨y, hy⟩ := z2p hds hx
   obtain ⟨z, hz, _⟩ := Option.map_eq_some_iff.1 hy
   exact (z38 ob hS _ _ _ hz).2⟩
 | iter s p => simp [z3g] at h
 | mit _ _ _ _ => simp [z3g] at h
 | fz xs e => exact ⟨h, rfl⟩
 | fm es => exact ⟨h, rfl⟩
 | dead => exact ⟨h, rfl⟩
 | hole => exact ⟨h, rfl⟩
theorem zd6 {all : List Nat} (ob : Ob) (hS : S[id]? = some .hole) : ∀ {ids : List Nat} {S1 S2 : Store}, (∀ i ∈ ids, i ≠ id) → S1[id]? = some .hole → mark S all S1 ids = some S2 → mark (S.set id ob) all (S1.set id ob) ids = some (S2.set id ob) ∧ S2[id]? = some .hole
 | [], S1, S2, _, h1, h => by
  simp only [mark, Option.some.injEq] at h ⊢; subst h
  exact ⟨rfl, h1⟩
 | i :: r, S1, S2, hne, h1, h => by
  have hi := hne i (by simp)
  simp only [mark] at h ⊢
  rw [List.getElem?_set_ne (Ne.symm hi)]
  cases ho : S[i]? with
  | none => simp [ho] at h
  | some o =>
   simp only [ho] at h ⊢
   cases hf : z3g S o with
   | none => simp [hf] at h
   | some o' =>
    obtain ⟨g1, g2⟩ := zgz ob hS hf
    simp only [hf] at h
    simp only [g1, g2]
    split at h
    ·rename_i hc
     rw [if_pos hc, List.set_comm _ _ (Ne.symm hi)]
     exact zd6 ob hS (fun j hj => hne j (by simp [hj])) (by rw [List.getElem?_set_ne hi]; exact h1) h
    ·cases h
def jQ (call : jT) : Prop := ∀ f args S o S' id ob, call f args S = some (o, S') → S[id]? = some .hole → call f args (S.set id ob) = some (o, S'.set id ob) ∧ S'[id]? = some .hole
theorem z5u {C : Cfg} {call : jT} (hcall : jQ call) {f : FuncId} {args : List V} {o : Out} {S' : Store} {c : Nat} (ob : Ob) (hS : S[id]? = some .hole) (h : jM C call f args S = some (o, S', c)) : jM C call f args (S.set id ob) = some (o, S'.set id ob, c) ∧ S'[id]? = some .hole := by
 unfold jM at h ⊢
 split at h
 ·rename_i hsh
  rw [if_pos hsh]
  obtain ⟨⟨o', S2⟩, h1, h2⟩ := Option.map_eq_some_iff.1 h
  simp only [Prod.mk.injEq] at h2
  obtain ⟨rfl, rfl, rfl⟩ := h2
  obtain ⟨g1, g2⟩ := hcall f args S _ _ id ob h1 hS
  rw [g1]
  exact ⟨rfl, g2⟩
 ·rename_i hsh
  rw [if_neg hsh]
  split at h
  ·cases h
  ·rename_i ds hds
   have g1 := wN (fun x _ y hy => (z38 ob hS _ x y hy).1) hds
   have g2 : args.flatMap (frzIds (S.set id ob) zH) = args.flatMap (frzIds S zH) := kT fun x hx => by obtain ⟨y, hy⟩ := z2p hds hx; exact (z38 ob hS _ x y hy).2
   simp only [g1, g2]
   cases ha : answer C call f ds with
   | none => simp [ha] at h
   | some out =>
    simp only [ha] at h ⊢
    split at h
    ·rename_i hc
     rw [if_pos hc]
     simp only [Option.some.injEq, Prod.mk.injEq] at h; obtain ⟨rfl, rfl, rfl⟩ := h
     exact ⟨rfl, hS⟩
    ·rename_i hc
     rw [if_neg hc]
     split at h
     ·rename_i hp
      rw [if_pos hp]
      simp only [Option.some.injEq, Prod.mk.injEq] at h; obtain ⟨rfl, rfl, rfl⟩ := h
      exact ⟨rfl, hS⟩
     ·rename_i hp
      rw [if_neg hp]
      split at h
      ·rename_i S2 hm
       simp only [Option.some.injEq, Prod.mk.injEq] at h; obtain ⟨rfl, rfl, rfl⟩ := h
       obtain ⟨g3, g4⟩ := zd6 ob hS (fun i hi => by
        rintro rfl
        obtain ⟨v, _, hv⟩ := List.mem_flatMap.1 hi
        obtain ⟨o, ho, hl, _⟩ := z3q hv
        rw [hS] at ho; cases ho; cases hl) hS hm
       rw [g3]
       exact ⟨rfl, g4⟩
      ·cases h
end
def z79 (ex : z5f) : Prop := ∀ c T S F x T' S' F' id ob, ex c T S F = some (x, T', S', F') → S[id]? = some .hole → ex c T (S.set id ob) F = some (x, T', S'.set id ob, F') ∧ S'[id]? = some .hole
section
variable {C : Cfg} {call : jT} {id : Nat}
theorem z0d (hcall : jQ call) {ops : Array Oper} (ob : Ob) : ∀ {l : List Oper} {T T' : List V} {S S' : Store} {F F' : Dfs} {x : Ex}, S[id]? = some .hole → seqV C call ops l T S F = some (x, T', S', F') → seqV C call ops l T (S.set id ob) F = some (x, T', S'.set id ob, F') ∧ S'[id]? = some .hole
 | [], T, T', S, S', F, F', x, hS, h => by
  simp only [seqV, Option.some.injEq, Prod.mk.injEq] at h ⊢
  obtain ⟨rfl, rfl, rfl, rfl⟩ := h
  exact ⟨⟨rfl, rfl, rfl, rfl⟩, hS⟩
 | o :: l, T, T', S, S', F, F', x, hS, h => by
  rw [seqV] at h ⊢
  cases hlp : vY C.P T o l with
  | some T1 =>
   simp only [hlp] at h ⊢
   cases l with
   | nil => simp at h
   | cons o2 l' => exact z0d hcall ob hS h
  | none =>
  simp only [hlp] at h ⊢
  cases hw : qB ops T o with
  | none => simp [hw] at h
  | some b =>
   cases b with
   | false => simp only [hw] at h ⊢; exact z0d hcall ob hS h
   | true =>
    simp only [hw] at h ⊢
    cases ho : opV C.P S T o with
    | none => simp [ho] at h
    | some rs =>
     obtain ⟨g1, g2⟩ := zb9 ob hS ho
     simp only [g1]
     cases rs with
     | val v S1 c => simp only [ho] at h; exact z0d hcall ob g2 h
     | skip S1 c => simp only [ho] at h; exact z0d hcall ob g2 h
     | dfr f args => simp only [ho] at h; exact z0d hcall ob hS h
     | pan v =>
      simp only [ho, Option.some.injEq, Prod.mk.injEq] at h
      obtain ⟨rfl, rfl, rfl, rfl⟩ := h
      exact ⟨rfl, hS⟩
     | enter f args =>
      simp only [ho] at h
      simp only [Rs.upd]
      cases hc : jM C call f args S with
      | none => simp [hc] at h
      | some q =>
       obtain ⟨out, S1, c⟩ := q
       obtain ⟨k1, k2⟩ := z5u hcall ob hS hc
       simp only [k1]
       cases out with
       | ret v => simp only [hc] at h; exact z0d hcall ob k2 h
       | pan v =>
        simp only [hc, Option.some.injEq, Prod.mk.injEq] at h
        obtain ⟨rfl, rfl, rfl, rfl⟩ := h
        exact ⟨rfl, k2⟩
termination_by l => l.length
theorem wW (hcall : jQ call) {ops : Array Oper} {i : Nat} {o : Oper} {T : List V} {S S' : Store} {v : V} {c : Nat} (ob : Ob) (hS : S[id]? = some .hole) (hi : i ≠ id) (h : effC C call ops i o T S = some (v, S', c)) : effC C call ops i o T (S.set id ob) = some (v, S'.set id ob, c) ∧ S'[id]? = some .hole := by
 unfold effC at h ⊢
 cases hw : qB ops T o with
 | none => simp [hw] at h
 | some b =>
  cases b with
  | false =>
   simp only [hw, Option.some.injEq, Prod.mk.injEq] at h ⊢
   obtain ⟨rfl, rfl, rfl⟩ := h
   exact ⟨⟨rfl, rfl, rfl⟩, hS⟩
  | true =>
   simp only [hw] at h ⊢
   split at h
   ·rename_i ha
    rw [if_pos ha]
    cases hadd : addO C.P T o with
    | none => simp [hadd] at h
    | some q =>
     obtain ⟨ob2, f⟩ := q
     simp only [hadd] at h ⊢
     rw [List.getElem?_set_ne (Ne.symm hi)]
     split at h
     ·rename_i hh
      simp only [Option.some.injEq, Prod.mk.injEq] at h
      obtain ⟨rfl, rfl, rfl⟩ := h
      try simp only [hh]
      exact ⟨by rw [List.set_comm _ _ (Ne.symm hi)], by rw [List.getElem?_set_ne hi]; exact hS⟩
     ·cases h
   ·rename_i ha
    rw [if_neg ha]
    cases ho : opV C.P S T o with
    | none => simp [ho] at h
    | some rs =>
     obtain ⟨g1, g2⟩ := zb9 ob hS ho
     simp only [g1]
     simp only [ho] at h
     cases rs with
     | val v1 S1 c1 =>
      simp only [Option.some.injEq, Prod.mk.injEq] at h
      obtain ⟨rfl, rfl, rfl⟩ := h
      exact ⟨rfl, g2⟩
     | skip S1 c1 =>
      simp only [Option.some.injEq, Prod.mk.injEq] at h
      obtain ⟨rfl, rfl, rfl⟩ := h
      exact ⟨rfl, g2⟩
     | dfr f args => simp at h
     | pan v1 => simp at h
     | enter f args =>
      simp only at h
      simp only [Rs.upd]
      cases hc : jM C call f args S with
      | none => simp [hc] at h
      | some q =>
       obtain ⟨out, S1, c1⟩ := q
       obtain ⟨k1, k2⟩ := z5u hcall ob hS hc
       simp only [k1]
       cases out with
       | ret v1 =>
        simp only [hc, Option.some.injEq, Prod.mk.injEq] at h
        obtain ⟨rfl, rfl, rfl⟩ := h
        exact ⟨rfl, k2⟩
       | pan v1 => simp [hc] at h
theorem z6r (hcall : jQ call) {ops : Array Oper} {b : List Nat} {base i : Nat} {S : Store} {w : Nat × List V × V} (ob : Ob) (hS : S[id]? = some .hole) (hid : id < base) (h : jJ C call ops b base i S w = true) : jJ C call ops b base i (S.set id ob) w = true := by
 unfold jJ at h ⊢
 rw [Bool.or_eq_true] at h ⊢
 rcases h with h | h
 ·exact .inl h
 ·right
  cases ho : ops[w.1]? with
  | none => simp [ho] at h
  | some o =>
   simp only [ho] at h ⊢
   split at h
   ·rename_i v' S' he
    rw [(wW hcall ob hS (by omega) he).1]
    exact h
   ·cases h
theorem zcf (hcall : jQ call) {ops : Array Oper} {b : List Nat} {base : Nat} (ob : Ob) (hid : id < base) : ∀ {l : List Nat} {ws : List (Nat × List V × V)} {T T' : List V} {S S' : Store} {cs : List (Nat × Nat)}, S[id]? = some .hole → seqC C call ops b base ws l T S = some (T', S', cs) → seqC C call ops b base ws l T (S.set id ob) = some (T', S'.set id ob, cs) ∧ S'[id]? = some .hole
 | [], ws, T, T', S, S', cs, hS, h => by
  simp only [seqC, Option.some.injEq, Prod.mk.injEq] at h ⊢
  obtain ⟨rfl, rfl, rfl⟩ := h
  exact ⟨⟨rfl, rfl, rfl⟩, hS⟩
 | i :: l, ws, T, T', S, S', cs, hS, h => by
  simp only [seqC] at h ⊢
  cases ho : ops[i]? with
  | none => simp [ho] at h
  | some o =>
   simp only [ho] at h ⊢
   cases he : effC C call ops (base + i) o T S with
   | none => simp [he] at h
   | some q =>
    obtain ⟨v, S1, c⟩ := q
    obtain ⟨g1, g2⟩ := wW hcall ob hS (by omega) he
    simp only [he] at h
    simp only [g1]
    split at h
    ·cases h
    ·rename_i hc
     have hc' : ¬ (2 < c ∧ (ws.all (jJ C call ops b base i (S1.set id ob))) = false) := by
      rintro ⟨hc3, hw⟩
      apply hc
      refine ⟨hc3, ?_⟩
      rw [← Bool.not_eq_true] at hw ⊢
      intro hall
      apply hw
      rw [List.all_eq_true] at hall ⊢
      intro w hwm
      exact z6r hcall ob g2 hid (hall w hwm)
     rw [if_neg hc']
     cases hr : seqC C call ops b base (if c = 1 then (i, T, v) :: ws else ws) l (putT T o.dst v) S1 with
     | none => simp [hr] at h
     | some q2 =>
      obtain ⟨T2, S2, cs2⟩ := q2
      obtain ⟨k1, k2⟩ := zcf hcall ob hid g2 hr
      simp only [hr, Option.some.injEq, Prod.mk.injEq] at h
      obtain ⟨rfl, rfl, rfl⟩ := h
      simp only [k1]
      exact ⟨trivial, k2⟩
theorem zbv (hcall : jQ call) {ops : Array Oper} {o : Oper} {T : List V} {S S' : Store} {v : V} (ob : Ob) (hS : S[id]? = some .hole) (h : panO C call ops o T S = some (v, S')) : panO C call ops o T (S.set id ob) = some (v, S'.set id ob) ∧ S'[id]? = some .hole := by
 unfold panO at h ⊢
 cases hw : qB ops T o with
 | none => simp [hw] at h
 | some b =>
  cases b with
  | false => simp [hw] at h
  | true =>
   simp only [hw] at h ⊢
   split at h
   ·cases h
   ·rename_i hk
    rw [if_neg hk]
    cases ho : opV C.P S T o with
    | none => simp [ho] at h
    | some rs =>
     obtain ⟨g1, g2⟩ := zb9 ob hS ho
     simp only [g1]
     simp only [ho] at h
     cases rs with
     | enter f args =>
      simp only at h
      simp only [Rs.upd]
      cases hc : jM C call f args S with
      | none => simp [hc] at h
      | some q =>
       obtain ⟨out, S1, c1⟩ := q
       obtain ⟨k1, k2⟩ := z5u hcall ob hS hc
       simp only [k1]
       cases out with
       | pan v1 =>
        simp only [hc, Option.some.injEq, Prod.mk.injEq] at h
        obtain ⟨rfl, rfl⟩ := h
        exact ⟨rfl, k2⟩
       | ret v1 => simp [hc] at h
     | _ => simp at h
theorem zdp (hcall : jQ call) {ops : Array Oper} {b : List Nat} {base : Nat} (ob : Ob) (hid : id < base) : ∀ {l : List Nat} {ws : List (Nat × List V × V)} {T : List V} {S S' : Store} {v : V} {cs : List (Nat × Nat)} {p : Nat} {rest : List Nat}, S[id]? = some .hole → seqP C call ops b base ws l T S = some (v, S', cs, p, rest) → seqP C call ops b base ws l T (S.set id ob) = some (v, S'.set id ob, cs, p, rest) ∧ S'[id]? = some .hole
 | [], ws, T, S, S', v, cs, p, rest, hS, h => by simp [seqP] at h
 | i :: l, ws, T, S, S', v, cs, p, rest, hS, h => by
  simp only [seqP] at h ⊢
  cases ho : ops[i]? with
  | none => simp [ho] at h
  | some o =>
   simp only [ho] at h ⊢
   cases hp : panO C call ops o T S with
   | some q =>
    obtain ⟨v1, S1⟩ := q
    obtain ⟨g1, g2⟩ := zbv hcall ob hS hp
    simp only [hp, Option.some.injEq, Prod.mk.injEq] at h
    obtain ⟨rfl, rfl, rfl, rfl, rfl⟩ := h
    simp only [g1]
    exact ⟨trivial, g2⟩
   | none =>
    simp only [hp] at h
    cases he : effC C call ops (base + i) o T S with
    | none => simp [he] at h
    | some q =>
     obtain ⟨v1, S1, c⟩ := q
     obtain ⟨g1, g2⟩ := wW hcall ob hS (by omega) he
     simp only [he] at h
     simp only [zcy g1, g1]
     split at h
     ·cases h
     ·rename_i hc
      have hc' : ¬ (2 < c ∧ (ws.all (jJ C call ops b base i (S1.set id ob))) = false) := by
       rintro ⟨hc3, hw⟩
       apply hc
       refine ⟨hc3, ?_⟩
       rw [← Bool.not_eq_true] at hw ⊢
       intro hall
       apply hw
       rw [List.all_eq_true] at hall ⊢
       intro w hwm
       exact z6r hcall ob g2 hid (hall w hwm)
      rw [if_neg hc']
      cases hr : seqP C call ops b base (if c = 1 then (i, T, v1) :: ws else ws) l (putT T o.dst v1) S1 with
      | none => simp [hr] at h
      | some q2 =>
       obtain ⟨v2, S2, cs2, p2, rest2⟩ := q2
       obtain ⟨k1, k2⟩ := zdp hcall ob hid g2 hr
       simp only [hr, Option.some.injEq, Prod.mk.injEq] at h
       obtain ⟨rfl, rfl, rfl, rfl, rfl⟩ := h
       simp only [k1]
       exact ⟨trivial, k2⟩
theorem z6w {base : Nat} (ob : Ob) (hid : id < base) : ∀ {l : List Nat} {S : Store}, S[id]? = some .hole → killAll base l (S.set id ob) = (killAll base l S).set id ob ∧ (killAll base l S)[id]? = some .hole
 | [], S, hS => ⟨rfl, hS⟩
 | i :: r, S, hS => by
  simp only [killAll]
  rw [List.set_comm _ _ (by omega : id ≠ base + i)]
  exact z6w ob hid (by rw [List.getElem?_set_ne (by omega)]; exact hS)
theorem z6d {P : Program} {T : List V} {S : Store} {r : ResultVar} {v : V} (ob : Ob) (hS : S[id]? = some .hole) (h : jS P T S r = some v) : jS P T (S.set id ob) r = some v := by
 cases r with
 | tmp t => exact h
 | cell a t => exact zai ob hS h
theorem z4w {P : Program} {rs : Array ResultVar} {T : List V} {S : Store} {v : V} (ob : Ob) (hS : S[id]? = some .hole) (h : qC P rs T S = some v) : qC P rs T (S.set id ob) = some v := by
 unfold qC at h ⊢
 split at h
 ·exact z6d ob hS h
 ·split at h
  ·rename_i vs hvs
   rw [wN (fun x _ y hy => z6d ob hS hy) hvs]
   exact h
  ·cases h
theorem zdx {P : Program} {ex : z5f} (hex : z79 ex) {f : FuncId} {args : List V} {S S' : Store} (ob : Ob) (hS : S[id]? = some .hole) (h : vU P ex f args S = some S') : vU P ex f args (S.set id ob) = some (S'.set id ob) ∧ S'[id]? = some .hole := by
 unfold vU at h ⊢
 split at h
 ·cases h
 ·rename_i bd hb
  cases he : ex bd.code (vT bd.ntmps args) S [] with
  | none => simp [he] at h
  | some q =>
   obtain ⟨x, T1, S1, F1⟩ := q
   obtain ⟨g1, g2⟩ := hex _ _ _ _ _ _ _ _ id ob he hS
   simp only [g1]
   simp only [he] at h
   have fin : (qC P bd.results T1 S1).map (fun _ => S1) = some S' → (qC P bd.results T1 (S1.set id ob)).map (fun _ => S1.set id ob) = some (S'.set id ob) ∧ S'[id]? = some .hole := fun h => by
    obtain ⟨v, hv, rfl⟩ := Option.map_eq_some_iff.1 h
    rw [z4w ob g2 hv]
    exact ⟨rfl, g2⟩
   cases x with
   | norm => cases F1 with
    | nil => exact fin h
    | cons a F1 => simp at h
   | ret => cases F1 with
    | nil => exact fin h
    | cons a F1 => simp at h
   | exit k => simp at h
   | pan v => simp at h
theorem zcs {P : Program} {ex : z5f} (hex : z79 ex) (ob : Ob) : ∀ {F : Dfs} {S S' : Store}, S[id]? = some .hole → dfrV P ex F S = some S' → dfrV P ex F (S.set id ob) = some (S'.set id ob) ∧ S'[id]? = some .hole
  | [], S, S', hS, h => by
    simp only [dfrV, Option.some.injEq] at h ⊢; subst h; exact ⟨rfl, hS⟩
  | (f, args) :: r, S, S', hS, h => by
    simp only [dfrV] at h ⊢
    cases hp : vU P ex f args S with
    | none => simp [hp] at h
    | some S1 =>
      obtain ⟨g1, g2⟩ := zdx hex ob hS hp
      simp only [hp] at h
      simp only [g1]
      exact zcs hex ob g2 h
theorem zdd {P : Program} {ex : z5f} (hex : z79 ex) {rs : Array ResultVar} {T : List V} {S S' : Store} {F : Dfs} {o : Out} (ob : Ob) (hS : S[id]? = some .hole) (h : endV P ex rs T S F = some (o, S')) : endV P ex rs T (S.set id ob) F = some (o, S'.set id ob) ∧ S'[id]? = some .hole := by
 unfold endV at h ⊢
 cases hd : dfrV P ex F S with
 | none => simp [hd] at h
 | some S1 =>
  obtain ⟨g1, g2⟩ := zcs hex ob hS hd
  simp only [hd] at h
  simp only [g1]
  cases hr : qC P rs T S1 with
  | none => simp [hr] at h
  | some v =>
   simp only [hr, Option.some.injEq, Prod.mk.injEq] at h
   obtain ⟨rfl, rfl⟩ := h
   simp only [z4w ob g2 hr]
   exact ⟨trivial, g2⟩
end
theorem zju (C : Cfg) : ∀ n, z79 (exec C n) ∧ jQ (run C n) := by
 intro n
 induction n with
 | zero => exact ⟨fun c T S F x T' S' F' id ob h => by simp [exec] at h, fun f args S o S' id ob h => by simp [run] at h⟩
 | succ n ih =>
  obtain ⟨ihe, ihr⟩ := ih
  constructor
  ·intro c T S F x T' S' F' id ob h hS
   rw [exec.eq_def] at h ⊢
   simp only at h ⊢
   cases c with
   | region rid ops dr =>
    cases dr with
    | false => exact z0d ihr ob hS h
    | true =>
     simp only at h ⊢
     have hlt := z0y hS
     have e : (S.set id ob) ++ List.replicate (vB ops) Ob.hole = (S ++ List.replicate (vB ops) Ob.hole).set id ob := by rw [List.set_append_left _ _ hlt]
     rw [List.length_set, e]
     cases hs : seqC C (run C n) ops (befs ops) S.length [] (z21 C.shared ops) T (S ++ List.replicate (vB ops) .hole) with
     | none =>
      simp only [hs] at h
      cases hp : seqP C (run C n) ops (befs ops) S.length [] (z21 C.shared ops) T (S ++ List.replicate (vB ops) .hole) with
      | none => simp [hp] at h
      | some q =>
       obtain ⟨v, S1, cs, p, rest⟩ := q
       obtain ⟨g1, g2⟩ := zdp ihr ob hlt (by rw [List.getElem?_append_left hlt]; exact hS) hp
       simp only [hp] at h
       simp only [z8n (fun _ _ _ _ h => h) g1, g1]
       split at h
       ·rename_i hd
        rw [if_pos hd]
        simp only [Option.some.injEq, Prod.mk.injEq] at h
        obtain ⟨rfl, rfl, rfl, rfl⟩ := h
        obtain ⟨k1, k2⟩ := z6w ob hlt (l := rest) g2
        rw [k1]
        exact ⟨rfl, k2⟩
       ·cases h
     | some q =>
      obtain ⟨T1, S1, cs⟩ := q
      obtain ⟨g1, g2⟩ := zcf ihr ob hlt (by rw [List.getElem?_append_left hlt]; exact hS) hs
      simp only [hs] at h
      simp only [g1]
      split at h
      ·rename_i hd
       rw [if_pos hd]
       simp only [Option.some.injEq, Prod.mk.injEq] at h
       obtain ⟨rfl, rfl, rfl, rfl⟩ := h
       exact ⟨rfl, g2⟩
      ·cases h
   | seq a b =>
    simp only at h ⊢
    cases ha : exec C n a T S F with
    | none => simp [ha] at h
    | some q =>
     obtain ⟨x1, T1, S1, F1⟩ := q
     obtain ⟨g1, g2⟩ := ihe _ _ _ _ _ _ _ _ id ob ha hS
     simp only [g1]
     simp only [ha] at h
     cases x1 with
     | norm => exact ihe _ _ _ _ _ _ _ _ id ob h g2
     | _ =>
      simp only [Option.some.injEq, Prod.mk.injEq] at h
      obtain ⟨rfl, rfl, rfl, rfl⟩ := h
      exact ⟨rfl, g2⟩
   | cond cc a b =>
    simp only at h ⊢
    split at h <;> first | exact ihe _ _ _ _ _ _ _ _ id ob h hS | cases h
   | block k b =>
    simp only at h ⊢
    cases ha : exec C n b T S F with
    | none => simp [ha] at h
    | some q =>
     obtain ⟨x1, T1, S1, F1⟩ := q
     obtain ⟨g1, g2⟩ := ihe _ _ _ _ _ _ _ _ id ob ha hS
     simp only [g1]
     simp only [ha] at h
     cases x1 with
     | exit m =>
      simp only at h ⊢
      split at h
      ·rename_i hm
       rw [if_pos hm]
       simp only [Option.some.injEq, Prod.mk.injEq] at h
       obtain ⟨rfl, rfl, rfl, rfl⟩ := h
       exact ⟨rfl, g2⟩
      ·rename_i hm
       rw [if_neg hm]
       simp only [Option.some.injEq, Prod.mk.injEq] at h
       obtain ⟨rfl, rfl, rfl, rfl⟩ := h
       exact ⟨rfl, g2⟩
     | _ =>
      simp only [Option.some.injEq, Prod.mk.injEq] at h
      obtain ⟨rfl, rfl, rfl, rfl⟩ := h
      exact ⟨rfl, g2⟩
   | loop b =>
    simp only at h ⊢
    cases ha : exec C n b T S F with
    | none => simp [ha] at h
    | some q =>
     obtain ⟨x1, T1, S1, F1⟩ := q
     obtain ⟨g1, g2⟩ := ihe _ _ _ _ _ _ _ _ id ob ha hS
     simp only [g1]
     simp only [ha] at h
     cases x1 with
     | norm => exact ihe _ _ _ _ _ _ _ _ id ob h g2
     | _ =>
      simp only [Option.some.injEq, Prod.mk.injEq] at h
      obtain ⟨rfl, rfl, rfl, rfl⟩ := h
      exact ⟨rfl, g2⟩
   | scope b => exact ihe _ _ _ _ _ _ _ _ id ob h hS
   | skip => simp only [Option.some.injEq, Prod.mk.injEq] at h ⊢; obtain ⟨rfl, rfl, rfl, rfl⟩ := h; exact ⟨⟨rfl, rfl, rfl, rfl⟩, hS⟩
   | label l => simp only [Option.some.injEq, Prod.mk.injEq] at h ⊢; obtain ⟨rfl, rfl, rfl, rfl⟩ := h; exact ⟨⟨rfl, rfl, rfl, rfl⟩, hS⟩
   | exit l => simp only [Option.some.injEq, Prod.mk.injEq] at h ⊢; obtain ⟨rfl, rfl, rfl, rfl⟩ := h; exact ⟨⟨rfl, rfl, rfl, rfl⟩, hS⟩
   | ret => simp only [Option.some.injEq, Prod.mk.injEq] at h ⊢; obtain ⟨rfl, rfl, rfl, rfl⟩ := h; exact ⟨⟨rfl, rfl, rfl, rfl⟩, hS⟩
   | _ => simp at h
  ·intro f args S o S' id ob h hS
   rw [run.eq_def] at h ⊢
   simp only at h ⊢
   split at h
   ·rename_i post hp
    split at h
    ·rename_i g first caps
     cases hc : run C n g (first ++ caps) S with
     | none => simp [hc] at h
     | some q =>
      obtain ⟨o1, S1⟩ := q
      obtain ⟨g1, g2⟩ := ihr _ _ _ _ _ id ob hc hS
      simp only [g1]
      simp only [hc] at h
      split at h
      ·cases h
      ·rename_i v hv
       try simp only [hv]
       simp only [Option.some.injEq, Prod.mk.injEq] at h
       obtain ⟨rfl, rfl⟩ := h
       exact ⟨rfl, g2⟩
    ·cases h
   ·split at h
    ·cases h
    ·rename_i bd hb
     cases he : exec C n bd.code (vT bd.ntmps args) S [] with
     | none => simp [he] at h
     | some q =>
      obtain ⟨x1, T1, S1, F1⟩ := q
      obtain ⟨g1, g2⟩ := ihe _ _ _ _ _ _ _ _ id ob he hS
      simp only [g1]
      simp only [he] at h
      cases x1 with
      | norm => exact zdd ihe ob g2 h
      | ret => exact zdd ihe ob g2 h
      | exit k => simp at h
      | pan v => cases F1 with
       | nil =>
        simp only [Option.some.injEq, Prod.mk.injEq] at h
        obtain ⟨rfl, rfl⟩ := h
        exact ⟨rfl, g2⟩
       | cons a F1 => simp at h
section
variable {P : Program} {S : Store}
theorem zct {T T' : List V} {o : Oper} (h : ∀ x ∈ o.op.operands.toList, zB T x = zB T' x) : opV P S T o = opV P S T' o := by
 obtain ⟨dst, op, type, pos, after, guard⟩ := o
 have pairs : ∀ ps : Array (Nat × Operand), (∀ x ∈ ps.toList.map (·.2), zB T x = zB T' x) → ps.toList.map (fun p => (p.1, zB T p.2)) = ps.toList.map fun p => (p.1, zB T' p.2) := fun ps hp =>
  List.map_congr_left fun p hm => by rw [hp p.2 (List.mem_map.2 ⟨p, hm, rfl⟩)]
 have many : ∀ xs : Array Operand, (∀ x ∈ xs.toList, zB T x = zB T' x) → xs.toList.map (zB T) = xs.toList.map (zB T') := fun xs hx => List.map_congr_left hx
 cases op <;> simp only [Op.operands] at h <;> simp only [opV]
 case build t ps => rw [pairs ps fun x hx => h x (by simpa using hx)]
 case buildSlice t n ps =>
  have hp := pairs ps fun x hx => h x (by simpa using hx)
  have ha : (ps.toList.all fun p => decide (p.1 < n) && zZ P (match P.underlying t with | some (.slice e) => e | _ => 0) (zB T p.2)) = (ps.toList.all fun p => decide (p.1 < n) && zZ P (match P.underlying t with | some (.slice e) => e | _ => 0) (zB T' p.2)) := by
   have := congrArg (fun l => l.all fun (p : Nat × V) => decide (p.1 < n) && zZ P (match P.underlying t with | some (.slice e) => e | _ => 0) p.2) hp
   simpa [List.all_map] using this
  cases hu : P.underlying t with
  | none => rfl
  | some td =>
   cases td <;> simp only
   rename_i e
   simp only [hu] at ha
   rw [hp, ha]
 case makeFunc fn first captured =>
  rw [many first fun x hx => h x (by simp at hx ⊢; exact .inl hx), many captured fun x hx => h x (by simp at hx ⊢; exact .inr hx)]
 case call c =>
  have h2 := many c.args fun x hx => h x (by simp [Call.operands] at hx ⊢; exact .inr hx)
  cases hc : c.callee with
  | value f => simp only; rw [h f (by simp [Call.operands, hc]), h2]
  | invoke r m => rfl
  | builtin b => simp only [h2]
 case defer c =>
  have h2 := many c.args fun x hx => h x (by simp [Call.operands] at hx ⊢; exact .inr hx)
  cases hc : c.callee with
  | value f => simp only; rw [h f (by simp [Call.operands, hc]), h2]
  | invoke r m => rfl
  | builtin b => rfl
 case slice t x lo hi mx =>
  cases mx with
  | some m => rfl
  | none => cases lo <;> cases hi <;> simp_all
 case next it b => cases b <;> simp_all
 all_goals (first | rfl | (simp_all; done))
theorem zhk {T T' : List V} {o : Oper} (h : ∀ x ∈ o.op.operands.toList, zB T x = zB T' x) : addO P T o = addO P T' o := by
 obtain ⟨dst, op, type, pos, after, guard⟩ := o
 cases op <;> simp only [Op.operands] at h <;> simp only [addO]
 all_goals (first | rfl | (simp_all; done))
theorem zab {xs : List Operand} {t : Tmp} (h : .tmp t ∈ xs) : t ∈ zpr xs := List.mem_filterMap.2 ⟨_, h, rfl⟩
theorem z30 {C : Cfg} {call : jT} {ops : Array Oper} {i : Nat} {o : Oper} {T T' : List V} (h : ∀ t ∈ zhr ops o, T[t]? = T'[t]?) (S : Store) : effC C call ops i o T S = effC C call ops i o T' S := by
 have h0 : ∀ x ∈ o.op.operands.toList, zB T x = zB T' x := fun x hx => by
  cases x with
  | tmp t =>
   have := h t (List.mem_append_left _ (zab hx))
   simp [zB, List.getD_eq_getElem?_getD, this]
  | _ => rfl
 have h1 : opV C.P S T o = opV C.P S T' o := zct h0
 have h3 : addO C.P T o = addO C.P T' o := zhk h0
 have h2 : qB ops T o = qB ops T' o := by
  unfold qB
  cases hg : o.guard with
  | none => rfl
  | some g =>
   obtain ⟨j, want⟩ := g
   simp only
   unfold qO
   cases hd : (ops[j]?).bind (·.dst) with
   | none => rfl
   | some d =>
    have : T[d]? = T'[d]? := h d (List.mem_append_right _ (by simp [hg, hd]))
    simp only [this]
 unfold effC
 rw [h1, h2, h3]
theorem zmj {C : Cfg} {call : jT} {f : FuncId} {args : List V} {o : Out} {S' : Store} {c : Nat} (h : jM C call f args S = some (o, S', c)) : c = 3 ∨ (c = 1 ∧ S' = S) := by
 unfold jM at h
 split at h
 ·obtain ⟨⟨o', S2⟩, h1, h2⟩ := Option.map_eq_some_iff.1 h
  simp only [Prod.mk.injEq] at h2
  exact .inl h2.2.2.symm
 ·split at h
  ·cases h
  ·rename_i ds hds
   cases ha : answer C call f ds with
   | none => simp [ha] at h
   | some out =>
    simp only [ha] at h
    split at h
    ·simp only [Option.some.injEq, Prod.mk.injEq] at h
     exact .inr ⟨h.2.2.symm, h.2.1.symm⟩
    ·split at h
     ·simp only [Option.some.injEq, Prod.mk.injEq] at h
      exact .inr ⟨h.2.2.symm, h.2.1.symm⟩
     ·split at h
      ·simp only [Option.some.injEq, Prod.mk.injEq] at h
       exact .inl h.2.2.symm
      ·cases h
theorem z1p {C : Cfg} {call : jT} {ops : Array Oper} {i : Nat} {o : Oper} {T : List V} {v : V} {S' : Store} {c : Nat} (h : effC C call ops i o T S = some (v, S', c)) :
  (c = 0 → S' = S ∧ ∀ S2, effC C call ops i o T S2 = some (v, S2, 0)) ∧ (c = 1 → S' = S) ∧ (c = 2 → ∃ ob, S[i]? = some .hole ∧ S' = S.set i ob ∧ ∀ S2, S2[i]? = some Ob.hole → effC C call ops i o T S2 = some (v, S2.set i ob, 2)) := by
 have hcls := zt4 (P := C.P) (S := S) T o
 obtain ⟨k0, k1, k2, k3, k4⟩ := hcls
 unfold effC at h
 cases hw : qB ops T o with
 | none => simp [hw] at h
 | some b =>
  cases b with
  | false =>
   simp only [hw, Option.some.injEq, Prod.mk.injEq] at h
   obtain ⟨rfl, rfl, rfl⟩ := h
   exact ⟨fun _ => ⟨rfl, fun S2 => by simp [effC, hw]⟩, fun h => by omega, fun h => by omega⟩
  | true =>
   simp only [hw] at h
   split at h
   ·rename_i hk
    cases hadd : addO C.P T o with
    | none => simp [hadd] at h
    | some q =>
     obtain ⟨ob, f⟩ := q
     simp only [hadd] at h
     split at h
     ·rename_i hh
      simp only [Option.some.injEq, Prod.mk.injEq] at h
      obtain ⟨rfl, rfl, rfl⟩ := h
      refine ⟨fun h => by omega, fun h => by omega, fun _ => ⟨ob, hh, rfl, fun S2 h2 => ?_⟩⟩
      simp [effC, hw, hk, hadd, h2]
     ·cases h
   ·rename_i hk
    cases ho : opV C.P S T o with
    | none => simp [ho] at h
    | some r =>
     simp only [ho] at h
     cases r with
     | val v1 S1 c1 =>
      simp only [Option.some.injEq, Prod.mk.injEq] at h
      obtain ⟨rfl, rfl, rfl⟩ := h
      refine ⟨fun h => ?_, fun h => ?_, fun h => ?_⟩
      ·have hc : c1 = 0 := by unfold num2 at h; split at h <;> omega
       subst hc
       obtain ⟨e1, e2⟩ := k0 _ _ ho
       exact ⟨e1, fun S2 => by have := e2 S2; simp only at this; simp [effC, hw, hk, this, num2]⟩
      ·have hc : c1 = 1 := by unfold num2 at h; split at h <;> omega
       subst hc
       exact (k1 _ _ ho).1
      ·unfold num2 at h; split at h <;> omega
     | skip S1 c1 =>
      simp only [Option.some.injEq, Prod.mk.injEq] at h
      obtain ⟨rfl, rfl, rfl⟩ := h
      exact ⟨fun h => by omega, fun h => by omega, fun h => by omega⟩
     | enter f args =>
      have e4 := k4 _ _ ho
      simp only at h e4
      cases hc : jM C call f args S with
      | none => simp [hc] at h
      | some q =>
       obtain ⟨out, S1, c1⟩ := q
       cases out with
       | ret v1 =>
        simp only [hc, Option.some.injEq, Prod.mk.injEq] at h
        obtain ⟨rfl, rfl, rfl⟩ := h
        rcases zmj hc with rfl | ⟨rfl, e1⟩
        ·exact ⟨fun h => by simp [num2] at h, fun h => by simp [num2] at h, fun h => by simp [num2] at h⟩
        ·exact ⟨fun h => by simp [num2] at h, fun _ => e1, fun h => by simp [num2] at h⟩
       | pan v1 => simp [hc] at h
     | dfr f args => simp at h
     | pan v1 => simp at h
theorem z7c {T : List V} {d : Option Tmp} {v : V} {t : Tmp} (h : d ≠ some t) : (putT T d v)[t]? = T[t]? := by
 cases d with
 | none => rfl
 | some d =>
  simp only [putT]
  rw [List.getElem?_set_ne]
  rintro rfl; exact h rfl
theorem zke {T : List V} {x y : Option Tmp} {v u : V} (h : ∀ d, x = some d → y ≠ some d) : putT (putT T x v) y u = putT (putT T y u) x v := by
 cases x with
 | none => rfl
 | some d =>
  cases y with
  | none => rfl
  | some e =>
   have hne : d ≠ e := fun he => h d rfl (he ▸ rfl)
   simp only [putT]
   exact List.set_comm _ _ hne
theorem z0u {ops : Array Oper} {a b : Oper} (h : kP ops a b = true) : (∀ d, a.dst = some d → d ∉ zhr ops b) ∧ (∀ d, a.dst = some d → b.dst ≠ some d) ∧ (∀ d, b.dst = some d → d ∉ zhr ops a) := by
 unfold kP at h
 refine ⟨fun d hd => ?_, fun d hd => ?_, fun d hd => ?_⟩ <;> simp [hd] at h
 ·exact h.1.1
 ·exact h.1.2
 ·exact h.2
theorem z41 {x y : D} (h : jI x y = true) : x = y := by
 cases x <;> cases y <;> simp only [jI, Bool.false_eq_true, Bool.and_eq_true, beq_iff_eq] at h <;> first | (subst h; rfl) | (obtain ⟨rfl, rfl⟩ := h; rfl)
theorem z9x : ∀ {xs ys : List D}, wO xs ys = true → xs = ys
 | [], [], _ => rfl
 | [], _ :: _, h => by simp [wO] at h
 | _ :: _, [], h => by simp [wO] at h
 | x :: xs, y :: ys, h => by
  simp only [wO, Bool.and_eq_true] at h
  rw [z41 h.1, z9x h.2]
theorem zee {f : D → D → Bool} (hf : ∀ x y, f x y = true → x = y) : ∀ {xs ys : List D}, all2 f xs ys = true → xs = ys
 | [], [], _ => rfl
 | [], _ :: _, h => by simp [all2] at h
 | _ :: _, [], h => by simp [all2] at h
 | x :: xs, y :: ys, h => by
  simp only [all2, Bool.and_eq_true] at h
  rw [hf _ _ h.1, zee hf h.2]
theorem zgn : ∀ {n : Nat} {x y : D}, wS n x y = true → x = y := fun {n} => by
 induction n with
 | zero =>
  intro x y h
  unfold wS at h
  exact z41 h
 | succ n ih =>
  intro x y h
  cases x <;> cases y <;> simp only [wS] at h <;> first | exact z41 h | rw [zee (fun _ _ h => ih h) h] | rw [ih h]
theorem z6u {x y : V} (h : jY x y = true) : x = y := by
 unfold jY at h
 split at h
 ·rw [zgn h]
 ·simp only [Bool.and_eq_true, beq_iff_eq] at h
  obtain ⟨⟨rfl, rfl⟩, rfl⟩ := h; rfl
 ·simp only [beq_iff_eq] at h; subst h; rfl
 ·rw [z9x h]
 ·simp only [Bool.and_eq_true, beq_iff_eq] at h
  obtain ⟨⟨rfl, rfl⟩, rfl⟩ := h; rfl
 ·cases h
theorem z1h : ∀ {xs ys : List V}, vH xs ys = true → xs = ys
 | [], [], _ => rfl
 | [], _ :: _, h => by simp [vH] at h
 | _ :: _, [], h => by simp [vH] at h
 | x :: xs, y :: ys, h => by
  simp only [vH, Bool.and_eq_true] at h
  rw [z6u h.1, z1h h.2]
theorem z7o {x y : V} (h : kF x y = true) : x = y := by
 unfold kF at h
 split at h
 ·simp only [Bool.and_eq_true, beq_iff_eq] at h
  obtain ⟨⟨rfl, h1⟩, h2⟩ := h
  rw [z1h h1, z1h h2]
 ·exact z6u h
theorem z6v : ∀ {xs ys : List V}, kQ xs ys = true → xs = ys
 | [], [], _ => rfl
 | [], _ :: _, h => by simp [kQ] at h
 | _ :: _, [], h => by simp [kQ] at h
 | x :: xs, y :: ys, h => by
  simp only [kQ, Bool.and_eq_true] at h
  rw [z7o h.1, z6v h.2]
theorem zoj {x y : V} (h : z0t x y = true) : x = y := by
 unfold z0t at h
 split at h
 ·rw [z6v h]
 ·exact z7o h
theorem zkx {C : Cfg} {call : jT} (hcall : jQ call) {ops : Array Oper} {i j : Nat} {o1 o2 : Oper} {T : List V} {S1 S2 : Store} {v1 v2 : V} {c1 c2 : Nat} (hij : i ≠ j) (h1 : effC C call ops i o1 T S = some (v1, S1, c1)) (h2 : effC C call ops j o2 (putT T o1.dst v1) S1 = some (v2, S2, c2)) (hap : kP ops o1 o2 = true) (hcl : z1q c1 c2 = true)
  (hh : c2 = 2 → S[j]? = some .hole) (hw : c1 = 1 → 2 < c2 → effC C call ops i o1 T S2 = some (v1, S2, 1)) :
  ∃ S', effC C call ops j o2 T S = some (v2, S', c2) ∧ effC C call ops i o1 (putT T o2.dst v2) S' = some (v1, S2, c1) ∧ putT (putT T o1.dst v1) o2.dst v2 = putT (putT T o2.dst v2) o1.dst v1 := by
 obtain ⟨a1, a2, a3⟩ := z0u hap
 have e2 : effC C call ops j o2 T S1 = some (v2, S2, c2) := by
  rw [← h2]
  exact z30 (fun t ht => (z7c (fun h => a1 t h ht)).symm) S1
 have back : ∀ S', effC C call ops i o1 (putT T o2.dst v2) S' = effC C call ops i o1 T S' := fun S' =>
  z30 (fun t ht => z7c (fun h => a3 t h ht)) S'
 have hcomm : putT (putT T o1.dst v1) o2.dst v2 = putT (putT T o2.dst v2) o1.dst v1 := zke a2
 obtain ⟨k0, k1, k2⟩ := z1p h1
 obtain ⟨m0, m1, m2⟩ := z1p e2
 have fin : ∀ S', effC C call ops j o2 T S = some (v2, S', c2) → effC C call ops i o1 T S' = some (v1, S2, c1) → ∃ S', effC C call ops j o2 T S = some (v2, S', c2) ∧ effC C call ops i o1 (putT T o2.dst v2) S' = some (v1, S2, c1) ∧ putT (putT T o1.dst v1) o2.dst v2 = putT (putT T o2.dst v2) o1.dst v1 := fun S' g1 g2 =>
  ⟨S', g1, by rw [back]; exact g2, hcomm⟩
 by_cases z1 : c1 = 0
 ·subst z1
  obtain ⟨rfl, f1⟩ := k0 rfl
  exact fin _ e2 (f1 _)
 by_cases z2 : c2 = 0
 ·subst z2
  obtain ⟨rfl, f1⟩ := m0 rfl
  exact fin _ (f1 S) h1
 by_cases z3 : c2 = 2
 ·subst z3
  obtain ⟨ob, g1, rfl, g2⟩ := m2 rfl
  have hS := hh rfl
  exact fin _ (g2 S hS) (wW hcall ob hS hij h1).1
 have z4 : c1 = 1 := by
  unfold z1q at hcl
  simp only [Bool.or_eq_true, beq_iff_eq] at hcl
  omega
 subst z4
 have := k1 rfl
 subst this
 by_cases z5 : c2 = 1
 ·subst z5
  have := m1 rfl
  subst this
  exact fin _ e2 h1
 exact fin _ e2 (hw rfl (by omega))
end
section
variable {P : Program} {S : Store} {ρ : Nat → Nat} {A : Nat → Prop} {w w' : World}
theorem Inv.fill (h : Inv P S ρ A w) {id : Nat} {o : Ob} (hS : S[id]? = some .hole) (hl : o.live = true) (hsz : w'.heap.size = w.heap.size + 1) (hold : ∀ b, b < w.heap.size → w'.heap[b]? = w.heap[b]?) (h1 : w'.os = w.os) (h2 : w'.tape = w.tape) (h3 : w'.output = w.output)
  (hok : SLe S ρ w (S.set id o) (fun i => if i = id then w.heap.size else ρ i) w' → (∀ b, A b → w'.heap[b]? = w.heap[b]?) → ObOk P (S.set id o) (fun i => if i = id then w.heap.size else ρ i) A w' w.heap.size o) :
  Inv P (S.set id o) (fun i => if i = id then w.heap.size else ρ i) A w' ∧ Step S ρ A w (S.set id o) (fun i => if i = id then w.heap.size else ρ i) A w' := by
 have hid := z0y hS
 have hA : ∀ b, A b → w'.heap[b]? = w.heap[b]? := fun b hb => hold b (h.lt b hb)
 have hs : SLe S ρ w (S.set id o) (fun i => if i = id then w.heap.size else ρ i) w' := fun j x hx hne => by
  have hj : id ≠ j := by rintro rfl; rw [hS] at hx; cases hx; exact hne rfl
  refine ⟨x, by rw [List.getElem?_set_ne hj]; exact hx, x.le_refl, ?_⟩
  by_cases hd : x = .dead
  ·exact .inl hd
  ·exact .inr ⟨by simp [Ne.symm hj], fun c e f hc => ⟨c, e, f, (hold _ (jV hc)).trans hc, rfl⟩⟩
 have hlt : ∀ j x, S[j]? = some x → x.live = true → ρ j < w.heap.size := fun j x hx hxl => (h.ok j x hx).lt (by rintro rfl; cases hxl) (by rintro rfl; cases hxl)
 refine ⟨⟨fun j x hx => ?_, fun i j x y hx hy hxl hyl hij => ?_, fun i x hx hxl => ?_, fun b hb => by have := h.lt b hb; omega, h.gl.step (fun _ h => h) hA⟩, ⟨h1, h2, h3, by omega, fun b hb _ => hold b hb, hA, fun _ h => h, fun _ h => .inl h, fun b hb => ?_, hs⟩⟩
 ·rcases kZ hx with ⟨rfl, rfl, _⟩ | ⟨hj, hx'⟩
  ·simp only [if_true]; exact hok hs hA
  ·simp only [if_neg hj]
   exact (h.ok j x hx').mono (fun _ h => h) hA hs (fun hl => hold _ (hlt j x hx' hl))
 ·rcases kZ hx with ⟨rfl, rfl, _⟩ | ⟨hi, hx'⟩ <;> rcases kZ hy with ⟨rfl, rfl, _⟩ | ⟨hj, hy'⟩
  ·rfl
  ·simp only [if_true, if_neg hj] at hij
   have := hlt j y hy' hyl; omega
  ·simp only [if_true, if_neg hi] at hij
   have := hlt i x hx' hxl; omega
  ·simp only [if_neg hi, if_neg hj] at hij
   exact h.inj i j x y hx' hy' hxl hyl hij
 ·rcases kZ hx with ⟨rfl, rfl, _⟩ | ⟨hi, hx'⟩
  ·simp only [if_true]
   intro hb
   have := h.lt _ hb; omega
  ·simp only [if_neg hi]; exact h.own i x hx' hxl
 ·obtain ⟨j, x, hx, hxl, rfl⟩ := hb
  rcases kZ hx with ⟨rfl, rfl, _⟩ | ⟨hj, hx'⟩
  ·simp only [if_true]; exact .inr (Nat.le_refl _)
  ·simp only [if_neg hj]; exact .inl ⟨j, x, hx', hxl, rfl⟩
theorem Inv.holes (h : Inv P S ρ A w) (n : Nat) : Inv P (S ++ List.replicate n .hole) ρ A w ∧ Step S ρ A w (S ++ List.replicate n .hole) ρ A w := by
 have split : ∀ i x, (S ++ List.replicate n Ob.hole)[i]? = some x → S[i]? = some x ∨ x = Ob.hole := fun i x hx => by
  rw [List.getElem?_append] at hx
  split at hx
  ·exact .inl hx
  ·rw [List.getElem?_replicate] at hx
   split at hx
   ·simp at hx; exact .inr hx.symm
   ·cases hx
 have hs : SLe S ρ w (S ++ List.replicate n .hole) ρ w := fun j x hx _ =>
  ⟨x, by rw [List.getElem?_append_left (z0y hx)]; exact hx, x.le_refl, .inr ⟨rfl, fun c e f hc => ⟨c, e, f, hc, rfl⟩⟩⟩
 refine ⟨⟨fun j x hx => ?_, fun i j x y hx hy hxl hyl hij => ?_, fun i x hx hxl => ?_, h.lt, h.gl⟩, ⟨rfl, rfl, rfl, Nat.le_refl _, fun _ _ _ => rfl, fun _ _ => rfl, fun _ h => h, fun _ h => .inl h, fun b hb => ?_, hs⟩⟩
 ·rcases split j x hx with h' | rfl
  ·exact (h.ok j x h').mono (fun _ h => h) (fun _ _ => rfl) hs (fun _ => rfl)
  ·trivial
 ·rcases split i x hx with hx' | rfl
  ·rcases split j y hy with hy' | rfl
   ·exact h.inj i j x y hx' hy' hxl hyl hij
   ·cases hyl
  ·cases hxl
 ·rcases split i x hx with hx' | rfl
  ·exact h.own i x hx' hxl
  ·cases hxl
 ·obtain ⟨j, x, hx, hxl, rfl⟩ := hb
  rcases split j x hx with hx' | rfl
  ·exact .inl ⟨j, x, hx', hxl, rfl⟩
  ·cases hxl
end
section
variable {P : Program} {S : Store} {ρ : Nat → Nat} {A : Nat → Prop} {w w' : World}
def Lays (P : Program) (S : Store) (ρ : Nat → Nat) (A : Nat → Prop) (w w' : World) (o : Ob) (f : Nat → V) (u : Value) : Prop :=
 o.live = true ∧ w'.heap.size = w.heap.size + 1 ∧ (∀ b, b < w.heap.size → w'.heap[b]? = w.heap[b]?) ∧ w'.os = w.os ∧ w'.tape = w.tape ∧ w'.output = w.output ∧
 (∀ S' ρ', SLe S ρ w S' ρ' w' → (∀ b, A b → w'.heap[b]? = w.heap[b]?) → ObOk P S' ρ' A w' w.heap.size o) ∧
 (∀ (S' : Store) ρ' id, S'[id]? = some o → ρ' id = w.heap.size → RepV P S' ρ' A w' (f id) u)
theorem zfp {e : TypeId} {z : V} {u : Value} (hf : zZ P e z = true) (hz : RepV P S ρ A w z u) : Lays P S ρ A w (w.alloc (.cells u.cells e)) (.row [z] e) (fun id => .ref id 0 0) (.pointer (some ⟨w.heap.size, 0, none⟩)) := by
 obtain ⟨hzw, k, hk, hk1, hk2⟩ := wR hf hz
 have hzc := jB hzw
 refine ⟨rfl, by simp, fun b hb => kG _ hb, rfl, rfl, rfl, fun S' ρ' hs hA => ?_, fun S' ρ' id h1 h2 => ?_⟩
 ·simp only [ObOk]
  refine ⟨k, u.cells, u.cells.toList, [], hk, jC _, by simp, ?_⟩
  simp only [qJ]
  exact ⟨u.cells.toList, [], by simp, by simpa using hk1, kS (fun _ h => h) hA hs _ _ hzc, rfl⟩
 ·refine zT ((zG rfl).2 ?_)
  simp only [zP]
  refine ⟨_, rfl, ?_⟩
  unfold RefPl
  simp [h1, h2, hk]
theorem znh : Lays P S ρ A w (w.alloc (.map #[] 0)) (.mp [] 0) .mr (.map (some w.heap.size)) := by
 refine ⟨rfl, by simp, fun b hb => kG _ hb, rfl, rfl, rfl, fun S' ρ' hs hA => ?_, fun S' ρ' id h1 h2 => ?_⟩
 ·simp only [ObOk]
  exact ⟨#[], jC _, by simp [jD], by simp, by simp⟩
 ·refine zT ((zG rfl).2 ?_)
  simp only [zP]
  exact ⟨_, rfl, by unfold MapPl; simp [h1, h2]⟩
theorem zl2 (s : List UInt8) : Lays P S ρ A w (w.alloc (.stringIter ⟨s.toArray⟩ 0)) (.iter s 0) .it (.pointer (some ⟨w.heap.size, 0, none⟩)) := by
 refine ⟨rfl, by simp, fun b hb => kG _ hb, rfl, rfl, rfl, fun S' ρ' hs hA => ?_, fun S' ρ' id h1 h2 => ?_⟩
 ·simp only [ObOk]
  exact jC _
 ·refine zT ((zG rfl).2 ?_)
  simp only [zP]
  exact ⟨_, rfl, by unfold ItPl; simp [h1, h2]⟩
theorem zhi {t e : TypeId} {l c : Int} {z : V} (hu : P.underlying t = some (.slice e)) (hz : zeroV P e = some z) (hb : 0 ≤ l ∧ l ≤ c ∧ c ≤ 9223372036854775807) (hr : room P e c.toNat = true ∧ zZ P e z = true) :
  ∃ w' u, (Instr.makeSlice t (.int .i64 l) (.int .i64 c)).run P w = .ok u w' ∧ Lays P S ρ A w w' (.row (List.replicate c.toNat z) e) (fun id => .rs id 0 l.toNat) u := by
 obtain ⟨h1, h2, h3⟩ := z0x hr.2
 obtain ⟨i, d, hi, hik, hd⟩ := z2s h3
 obtain ⟨r1, r2⟩ := z57 hr.1 hi
 unfold zeroV at hz
 simp only [hi, Option.bind_some] at hz
 cases hzz : i.zero with
 | none => simp [hzz] at hz
 | some z0 =>
  simp only [hzz, Option.bind_some] at hz
  have hzr := z0h (P := P) (S := S) (ρ := ρ) (A := A) (w := w) hz
  have hzc := jB hzr
  have hzl : z0.cells.size = i.size := by
   have := qX hzc
   simp only [Array.length_toList] at this
   omega
  have wl : IntKind.i64.wrap l = l := IntWalk.i64_in _ (by omega)
  have wc : IntKind.i64.wrap c = c := IntWalk.i64_in _ (by omega)
  have hrow := z2q hzc hzl c.toNat
  have t1 : ¬ ((i.bytes : Int) * c > 2 ^ 48) := by
   have : (i.bytes : Int) * c = ((c.toNat * i.bytes : Nat) : Int) := by
    rw [Nat.mul_comm, Int.natCast_mul, Int.toNat_of_nonneg (by omega)]
   rw [this]; omega
  have hrun : (Instr.makeSlice t (.int .i64 l) (.int .i64 c)).run P w = .ok (.slice (some ⟨w.heap.size, 0, none⟩) l.toNat c.toNat) (w.alloc (.cells ((Array.range (c.toNat * i.size)).map fun j => z0.cells[j % i.size]!) e)) := by
   have hneg : ¬ c < 0 := by omega
   have hl0 : ¬ l < 0 := by omega
   have hlc : ¬ c < l := by omega
   have t1' : ¬ (281474976710656 < (i.bytes : Int) * c) := by have := t1; omega
   by_cases hn : c.toNat * i.size = 0
   ·simp [Instr.makeSlice, run_underlying hu, asInt, asIntOf, typeInfo, hi, wl, wc, hneg, hl0, hlc, t1', sizeOf, newRow, hn, Array.range_zero']
   ·simp [Instr.makeSlice, run_underlying hu, asInt, asIntOf, typeInfo, hi, wl, wc, hneg, hl0, hlc, t1', sizeOf, newRow, hn, zeroValue, hzz, hzl]
  refine ⟨_, _, hrun, rfl, by simp, fun b hb => kG _ hb, rfl, rfl, rfl, fun S' ρ' hs hA => ?_, fun S' ρ' id g1 g2 => ?_⟩
  ·simp only [ObOk]
   exact ⟨i.size, _, _, [], by rw [h3, hik], jC _, by rw [List.append_nil], qZ (fun _ h => h) hA hs _ _ _ hrow⟩
  ·refine zT ((zG rfl).2 ?_)
   simp only [zP]
   refine ⟨_, _, rfl, ?_⟩
   unfold RowPl
   simp only [g1]
   refine ⟨i.size, by rw [h3, hik], .inl (by simp [g2]), by simp; omega, by omega, _, e, (0, 0), by rw [g2]; exact jC _, by simp⟩
theorem zp2 (hI : Inv P S ρ A w) {T : List V} {a : Act} (hT : RepT P S ρ A w T a.tmps.toList) {o : Oper} {ob : Ob} {f : Nat → V} (h : addO P T o = some (ob, f)) : ∃ u w', (execOp a.eval o).run P w = .ok (.value u) w' ∧ Lays P S ρ A w w' ob f u := by
 have ev := fun x => z0w hT x
 unfold addO at h
 unfold execOp
 split at h
 ·rename_i e hop
  simp only [hop]
  split at h
  ·rename_i z hz
   split at h
   ·rename_i hf
    simp only [Option.some.injEq, Prod.mk.injEq] at h; obtain ⟨rfl, rfl⟩ := h
    obtain ⟨zv, hz1, hz2⟩ := z2i (S := S) (ρ := ρ) (A := A) (w := w) hz
    exact ⟨_, _, wT _ (u := .pointer (some ⟨w.heap.size, 0, none⟩)) (by simp [Instr.alloc, hz1, newVar, newRow]), zfp hf (zT hz2)⟩
   ·cases h
  ·cases h
 ·rename_i e x hop
  simp only [hop]
  split at h
  ·rename_i hf
   simp only [Option.some.injEq, Prod.mk.injEq] at h; obtain ⟨rfl, rfl⟩ := h
   exact ⟨_, _, wT _ (u := .pointer (some ⟨w.heap.size, 0, none⟩)) (by simp [Instr.box, newVar, newRow]), zfp hf (ev x)⟩
  ·cases h
 ·rename_i t r hop
  simp only [hop]
  split at h
  ·simp only [Option.some.injEq, Prod.mk.injEq] at h; obtain ⟨rfl, rfl⟩ := h
   exact ⟨_, _, wT _ (u := .map (some w.heap.size)) (by simp [Instr.makeMap]), znh⟩
  ·cases h
 ·rename_i t l c hop
  simp only [hop]
  split at h
  ·rename_i e hu
   split at h
   ·rename_i l' c' z hl hc hz
    split at h
    ·rename_i hb
     split at h
     ·rename_i hr
      simp only [Bool.and_eq_true] at hr
      simp only [Option.some.injEq, Prod.mk.injEq] at h; obtain ⟨rfl, rfl⟩ := h
      have e1 := ev l
      have e2 := ev c
      rw [hl] at e1
      rw [hc] at e2
      rw [vI e1, vI e2]
      obtain ⟨w', u, g1, g2⟩ := zhi (S := S) (ρ := ρ) (A := A) (w := w) hu hz hb hr
      exact ⟨u, w', wT _ g1, g2⟩
     ·cases h
    ·cases h
   ·cases h
  ·cases h
 ·rename_i t x hop
  simp only [hop]
  split at h
  ·rename_i hu
   split at h
   ·rename_i s hx
    simp only [Option.some.injEq, Prod.mk.injEq] at h; obtain ⟨rfl, rfl⟩ := h
    have e1 := ev x
    rw [hx] at e1
    have hx' := (zD rfl).1 (jH.1 e1)
    simp only [RepC, List.cons.injEq, and_true] at hx'
    exact ⟨_, _, wT _ (u := .pointer (some ⟨w.heap.size, 0, none⟩)) (by simp [Instr.range, run_underlying hu, hx']), zl2 s⟩
   ·cases h
  ·cases h
 ·cases h
end
abbrev vA := Nat × (Store → Prop) → Prop
def z3l (C : Cfg) (call : jT) (ops : Array Oper) (i : Nat) (o : Oper) (T : List V) (v : V) : Store → Prop := fun S => effC C call ops i o T S = some (v, S, 1)
def RunsW (C : Cfg) (call : jT) (ops : Array Oper) (b : List Nat) (base : Nat) : vA → List (Nat × Nat) → List V → Store → List V → Store → Prop
 | _, [], T, S, T', S' => T = T' ∧ S = S'
 | ws, p :: r, T, S, T', S' => ∃ o v S1, ops[p.1]? = some o ∧ effC C call ops (base + p.1) o T S = some (v, S1, p.2) ∧ (2 < p.2 → ∀ x, ws x → (b.getD p.1 0).testBit x.1 = true ∨ x.2 S1) ∧
   RunsW C call ops b base (fun x => ws x ∨ (p.2 = 1 ∧ x = (p.1, z3l C call ops (base + p.1) o T v))) r (putT T o.dst v) S1 T' S'
theorem RunsW.mono {C : Cfg} {call : jT} {ops : Array Oper} {b : List Nat} {base : Nat} : ∀ {r : List (Nat × Nat)} {ws ws' : vA} {T T' : List V} {S S' : Store}, (∀ x, ws' x → ws x) → RunsW C call ops b base ws r T S T' S' → RunsW C call ops b base ws' r T S T' S'
 | [], _, _, _, _, _, _, _, h => h
 | p :: r, ws, ws', T, T', S, S', hle, h => by
  obtain ⟨o, v, S1, h1, h2, h3, h4⟩ := h
  exact ⟨o, v, S1, h1, h2, fun hp x hx => h3 hp x (hle x hx), h4.mono (fun x hx => hx.imp (hle x) id)⟩
theorem z6o {C : Cfg} {call : jT} {ops : Array Oper} {b : List Nat} {base i : Nat} {S' : Store} {w : Nat × List V × V} {o : Oper} (ho : ops[w.1]? = some o) (h : jJ C call ops b base i S' w = true) : (b.getD i 0).testBit w.1 = true ∨ z3l C call ops (base + w.1) o w.2.1 w.2.2 S' := by
 unfold jJ at h
 rw [Bool.or_eq_true] at h
 rcases h with h | h
 ·exact .inl h
 ·right
  simp only [ho] at h
  split at h
  ·rename_i v' S2 he
   have hs := (z1p he).2.1 rfl
   subst hs
   rw [zoj h]
   exact he
  ·cases h
theorem z59 {C : Cfg} {call : jT} {ops : Array Oper} {b : List Nat} {base : Nat} : ∀ {l : List Nat} {ws : List (Nat × List V × V)} {W : vA} {T T' : List V} {S S' : Store} {cs : List (Nat × Nat)},
  (∀ x, W x → ∃ w ∈ ws, ∃ o, ops[w.1]? = some o ∧ x = (w.1, z3l C call ops (base + w.1) o w.2.1 w.2.2)) → seqC C call ops b base ws l T S = some (T', S', cs) → RunsW C call ops b base W cs T S T' S'
 | [], ws, W, T, T', S, S', cs, hW, h => by
  simp only [seqC, Option.some.injEq, Prod.mk.injEq] at h
  obtain ⟨rfl, rfl, rfl⟩ := h
  exact ⟨rfl, rfl⟩
 | i :: l, ws, W, T, T', S, S', cs, hW, h => by
  simp only [seqC] at h
  cases ho : ops[i]? with
  | none => simp [ho] at h
  | some o =>
   simp only [ho] at h
   cases he : effC C call ops (base + i) o T S with
   | none => simp [he] at h
   | some q =>
    obtain ⟨v, S1, c⟩ := q
    simp only [he] at h
    split at h
    ·cases h
    ·rename_i hc
     cases hr : seqC C call ops b base (if c = 1 then (i, T, v) :: ws else ws) l (putT T o.dst v) S1 with
     | none => simp [hr] at h
     | some q2 =>
      obtain ⟨T2, S2, cs2⟩ := q2
      simp only [hr, Option.some.injEq, Prod.mk.injEq] at h
      obtain ⟨rfl, rfl, rfl⟩ := h
      refine ⟨o, v, S1, ho, he, fun hp x hx => ?_, z59 (fun x hx => ?_) hr⟩
      ·obtain ⟨w, hw, o2, ho2, rfl⟩ := hW x hx
       have hall : (ws.all (jJ C call ops b base i S1)) = true := by
        cases hv : ws.all (jJ C call ops b base i S1) with
        | true => rfl
        | false => exact absurd ⟨hp, hv⟩ hc
       rw [List.all_eq_true] at hall
       exact z6o ho2 (hall w hw)
      ·rcases hx with hx | ⟨h1, rfl⟩
       ·obtain ⟨w, hw, o2, ho2, rfl⟩ := hW x hx
        exact ⟨w, by split <;> simp [hw], o2, ho2, rfl⟩
       ·simp only at h1
        subst h1
        exact ⟨(i, T, v), by simp, o, ho, rfl⟩
def z9g (base : Nat) (ws : vA) : Prop := ∀ x, ws x → ∀ (S : Store) (j : Nat) (ob : Ob), j ≠ x.1 → S[base + j]? = some .hole → x.2 S → x.2 (S.set (base + j) ob)
theorem zau {C : Cfg} {call : jT} (hcall : jQ call) {ops : Array Oper} {base i : Nat} {o : Oper} {T : List V} {v : V} {S : Store} {j : Nat} {ob : Ob} (hj : j ≠ i) (hS : S[base + j]? = some .hole) (h : z3l C call ops (base + i) o T v S) : z3l C call ops (base + i) o T v (S.set (base + j) ob) :=
 (wW hcall ob hS (by omega) h).1
theorem zhy {C : Cfg} {call : jT} (hcall : jQ call) {ops : Array Oper} {b : List Nat} {base : Nat} {ws : vA} {p q : Nat × Nat} {r : List (Nat × Nat)} {T T' : List V} {S S' : Store} (hcl : z9g base ws) (hws : ∀ x, ws x → x.1 ≠ q.1) (hpq : p.1 ≠ q.1) {x y : Oper} (hx : ops[p.1]? = some x) (hy : ops[q.1]? = some y) (hap : kP ops x y = true) (hc : z1q p.2 q.2 = true) (hbit : (b.getD q.1 0).testBit p.1 = false)
  (hh : q.2 = 2 → S[base + q.1]? = some .hole) (h : RunsW C call ops b base ws (p :: q :: r) T S T' S') : RunsW C call ops b base ws (q :: p :: r) T S T' S' := by
 obtain ⟨o1, v1, S1, e1, e2, e3, o2, v2, S2, e4, e5, e6, e7⟩ := h
 rw [hx] at e1; cases e1
 rw [hy] at e4; cases e4
 obtain ⟨S3, g1, g2, g3⟩ := zkx hcall (by omega) e2 e5 hap hc hh (fun h1 h3 => by
  rcases e6 h3 _ (.inr ⟨h1, rfl⟩) with h | h
  ·rw [hbit] at h; cases h
  ·exact h)
 have hcc := hc
 unfold z1q at hcc
 simp only [Bool.or_eq_true, beq_iff_eq] at hcc
 refine ⟨_, v2, S3, hy, g1, fun hq w hw => ?_, _, v1, S2, hx, g2, fun hp w hw => ?_, ?_⟩
 ·
  have hS : S2 = S3 := by
   have hp2 : p.2 = 0 ∨ p.2 = 1 := by omega
   rcases hp2 with h0 | h1
   ·exact ((z1p g2).1 h0).1
   ·exact (z1p g2).2.1 h1
  subst hS
  exact e6 hq w (.inl hw)
 ·rcases hw with hw | ⟨h1, _⟩
  ·rcases e3 hp w hw with h | h
   ·exact .inl h
   ·right
    have hq2 : q.2 = 0 ∨ q.2 = 2 := by omega
    rcases hq2 with h0 | h2
    ·have := ((z1p e5).1 h0).1
     rw [this]; exact h
    ·obtain ⟨ob, k1, rfl, _⟩ := (z1p e5).2.2 h2
     exact hcl w hw S1 q.1 ob (fun he => hws w hw he.symm) k1 h
  ·omega
 ·rw [← g3]
  refine e7.mono fun w hw => ?_
  obtain ⟨a1, a2, a3⟩ := z0u hap
  rcases hw with (hw | ⟨h1, rfl⟩) | ⟨h1, rfl⟩
  ·exact .inl (.inl hw)
  ·right
   refine ⟨h1, ?_⟩
   congr 1
   funext S4
   unfold z3l
   rw [z30 (fun t ht => z7c (fun h => a1 t h ht)) S4]
  ·left; right
   refine ⟨h1, ?_⟩
   congr 1
   funext S4
   unfold z3l
   rw [z30 (fun t ht => z7c (fun h => a3 t h ht)) S4]
end Go.Vm
end
