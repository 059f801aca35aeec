/- The value machine: calls, by the store or apart from it. -/
import Derived.Test.YtljefklfoieecaaVmS
set_option linter.unusedVariables false
set_option linter.unusedSimpArgs false
namespace Go.Vm
section
variable {P : Program} {S : Store} {ρ : Nat → Nat} {A A' : Nat → Prop} {w w' : World}

/-- What a run comes to. -/
def RunPost (P : Program) (S : Store) (ρ : Nat → Nat) (A : Nat → Prop) (w : World) (o : Out) (S' : Store) : Ending → World → Prop
  | .returned v, w' => ∃ x, o = .ret x ∧ ∃ ρ' A', Inv P S' ρ' A' w' ∧ Step S ρ A w S' ρ' A' w' ∧ RepV P S' ρ' A' w' x v
  | .panicked chain, w' => ∃ x v, o = .pan x ∧ chain = [{ v, recovered := false }] ∧ ∃ ρ' A', Inv P S' ρ' A' w' ∧ Step S ρ A w S' ρ' A' w' ∧ RepW P S' ρ' A' w' x v
  | .outgrown, _ => False
def RunOk (P : Program) (call : CallF) : Prop := ∀ f args S o S', call f args S = some (o, S') → ∀ (ρ : Nat → Nat) (A : Nat → Prop) (w : World) (us : Array Value), Inv P S ρ A w → RepWs P S ρ A w args us.toList → Calls P f us w (RunPost P S ρ A w o S')

/-- A call apart leaves all that was as it was. -/
structure Iso (A : Nat → Prop) (w : World) (A' : Nat → Prop) (w' : World) : Prop where
  os : w'.os = w.os
  tape : w'.tape = w.tape
  output : w'.output = w.output
  size : w.heap.size ≤ w'.heap.size
  old : ∀ b, b < w.heap.size → w'.heap[b]? = w.heap[b]?
  amono : ∀ b, A b → A' b
  anew : ∀ b, A' b → A b ∨ w.heap.size ≤ b
  lt : ∀ b, A' b → b < w'.heap.size
/-- Data, or a tuple of such. -/
inductive OutD where
  | ret (x : D)
  | tup (xs : List D)
  | pan (x : D)
def OutD.out : OutD → Out
  | .ret x => .ret (.d x)
  | .tup xs => .ret (.tup (xs.map .d))
  | .pan x => .pan (.d x)
def RepRes (A : Nat → Prop) (w : World) : OutD → Value → Prop
  | .ret x, v => RepX A w x v
  | .tup xs, v => ∃ us, v = .tuple us ∧ RepS A w xs us.toList
  | .pan _, _ => False
def AnsPost (A : Nat → Prop) (w : World) (o : OutD) : Ending → World → Prop
  | .returned v, w' => ∃ A', Iso A w A' w' ∧ RepRes A' w' o v
  | .panicked chain, w' => ∃ x v, o = .pan x ∧ chain = [{ v, recovered := false }] ∧ ∃ A', Iso A w A' w' ∧ RepX A' w' x v
  | .outgrown, _ => False
def AnsOk (P : Program) (ans : FuncId → List D → Option Out) : Prop := ∀ f ds o, ans f ds = some o → ∃ o', o = OutD.out o' ∧ ∀ (A : Nat → Prop) (w : World) (us : Array Value), (∀ b, A b → b < w.heap.size) → RepS A w ds us.toList → Calls P f us w (AnsPost A w o')
def ExtOk (C : Cfg) : Prop := ∀ f g, C.ext f = some g → ∀ ds o, g ds = some o → ∃ o', o = OutD.out o' ∧ ∀ (A : Nat → Prop) (w : World) (us : Array Value), (∀ b, A b → b < w.heap.size) → RepS A w ds us.toList → Calls C.P f us w (AnsPost A w o')

theorem inv_nil (h : ∀ b, A b → b < w.heap.size) : Inv P [] ρ A w := ⟨fun id o ho => by simp at ho, fun i j oi oj hi => by simp at hi, fun i o ho => by simp at ho, h⟩
theorem not_owned_nil {b : Nat} : ¬ Owned [] ρ b := by rintro ⟨id, o, ho, _⟩; simp at ho

theorem frz_one (hI : Inv P S ρ A w) {ids : List Nat} {v : V} {x : D} {u : Value} (h : frz S frzFuel v = some x) (hr : RepW P S ρ A w v u) (hq : ∀ i ∈ frzIds S frzFuel v, i ∈ ids) : RepX (stay S ρ A ids) w x u := by
  have hqi : ∀ i ∈ frzIds S frzFuel v, stay S ρ A ids (ρ i) := fun i hi => stay_of_ids hi (hq i hi)
  rcases hr with ⟨g1, us', g2, g3⟩ | ⟨g1, g3⟩
  · obtain ⟨e1, e2⟩ := frz_rep hI stay_le frzFuel v x _ h g3 hqi
    exact .inl ⟨e2.trans g1, us', g2, e1⟩
  · obtain ⟨e1, e2⟩ := frz_rep hI stay_le frzFuel v x _ h g3 hqi
    exact .inr ⟨e2.trans g1, e1⟩
theorem repS_of_Ws : ∀ {ds : List D} {us : List Value}, RepWs P S ρ A w (ds.map .d) us → RepS A w ds us
  | [], us, h => by simpa [RepWs, RepS] using h
  | x :: r, us, h => by
    simp only [List.map_cons, RepWs] at h
    obtain ⟨v, us', rfl, h1, h2⟩ := h
    simp only [RepS]
    exact ⟨v, us', rfl, repW_d.1 h1, repS_of_Ws h2⟩
theorem repRes_V {o : OutD} {x : V} {v : Value} (h : RepRes A w o v) (ho : o.out = .ret x) : RepV P S ρ A w x v := by
  cases o with
  | ret y => simp only [OutD.out, Out.ret.injEq] at ho; subst ho; exact repV_d.2 h
  | tup ys =>
    simp only [OutD.out, Out.ret.injEq] at ho; subst ho
    obtain ⟨us, rfl, h⟩ := h
    exact ⟨us, rfl, repWs_of_S h⟩
  | pan y => exact h.elim

/-- From the store of the function itself to data. -/
theorem stay_iso {S' : Store} {ρ' : Nat → Nat} {A' : Nat → Prop} (hlt : ∀ b, A b → b < w.heap.size) (hI : Inv P S' ρ' A' w') (hs : Step [] ρ A w S' ρ' A' w') (ids : List Nat) : Iso A w (stay S' ρ' A' ids) w' where
  os := hs.os
  tape := hs.tape
  output := hs.output
  size := hs.size
  old := fun b hb => hs.keep b hb not_owned_nil
  amono := fun b hb => stay_le b (hs.amono b hb)
  anew := fun b hb => by
    rcases hb with hb | ⟨id, _, o, ho, hl, _, rfl⟩
    · rcases hs.anew b hb with h | h | h
      · exact .inl h
      · exact absurd h not_owned_nil
      · exact .inr h
    · rcases hs.onew _ ⟨id, o, ho, hl, rfl⟩ with h | h
      · exact absurd h not_owned_nil
      · exact .inr h
  lt := fun b hb => by
    rcases hb with hb | ⟨id, _, o, ho, hl, _, rfl⟩
    · exact hI.lt b hb
    · exact (hI.ok id o ho).lt (by rintro rfl; cases hl) (by rintro rfl; cases hl)

theorem frzAll_rep (hI : Inv P S ρ A w) {ids : List Nat} {vs : List V} {ds : List D} {us : List Value} (h : allO (frz S frzFuel) vs = some ds) (hr : RepWs P S ρ A w vs us) (hq : ∀ i ∈ vs.flatMap (frzIds S frzFuel), i ∈ ids) : RepS (stay S ρ A ids) w ds us :=
  repS_of_Ws (frz_args hI h hr hq)

/-- A call apart. -/
theorem answer_ok {C : Cfg} {call : CallF} (hext : ExtOk C) (hrun : RunOk C.P call) : AnsOk C.P (answer C call) := by
  intro f ds o h
  unfold answer at h
  split at h
  · rename_i g hg
    exact hext f g hg ds o h
  · cases hc : call f (ds.map .d) [] with
    | none => simp [hc] at h
    | some r =>
      obtain ⟨out, S'⟩ := r
      simp only [hc] at h
      have key := hrun f _ _ _ _ hc
      unfold frzOut at h
      split at h
      · rename_i vs
        obtain ⟨xs, hx, rfl⟩ := Option.map_eq_some_iff.1 h
        refine ⟨.tup xs, rfl, fun A w us hlt hr => (key (fun _ => 0) A w us (inv_nil hlt) (repWs_of_S hr)).mono fun e w' he => ?_⟩
        cases e with
        | returned v =>
          obtain ⟨x, hx', ρ', A', h1, h2, h3⟩ := he
          cases hx'
          obtain ⟨us', rfl, h3⟩ := h3
          exact ⟨_, stay_iso hlt h1 h2 (vs.flatMap (frzIds S' frzFuel)), us', rfl, frzAll_rep h1 hx h3 (fun i hi => hi)⟩
        | panicked c => obtain ⟨x, v, hx', _⟩ := he; cases hx'
        | outgrown => exact he
      · rename_i v0 hne
        obtain ⟨x, hx, rfl⟩ := Option.map_eq_some_iff.1 h
        refine ⟨.ret x, rfl, fun A w us hlt hr => (key (fun _ => 0) A w us (inv_nil hlt) (repWs_of_S hr)).mono fun e w' he => ?_⟩
        cases e with
        | returned v =>
          obtain ⟨x', hx', ρ', A', h1, h2, h3⟩ := he
          cases hx'
          have hone : v0.one = true := by
            cases v0 <;> first | rfl | (simp [frzFuel, frz] at hx)
          exact ⟨_, stay_iso hlt h1 h2 (frzIds S' frzFuel v0), frz_one h1 hx ((repV_one hone).1 h3) (fun i hi => hi)⟩
        | panicked c => obtain ⟨x, v, hx', _⟩ := he; cases hx'
        | outgrown => exact he
      · rename_i v0
        obtain ⟨x, hx, rfl⟩ := Option.map_eq_some_iff.1 h
        refine ⟨.pan x, rfl, fun A w us hlt hr => (key (fun _ => 0) A w us (inv_nil hlt) (repWs_of_S hr)).mono fun e w' he => ?_⟩
        cases e with
        | returned v => obtain ⟨x', hx', _⟩ := he; cases hx'
        | panicked c =>
          obtain ⟨x', v, hx', rfl, ρ', A', h1, h2, h3⟩ := he
          cases hx'
          exact ⟨x, v, rfl, rfl, _, stay_iso hlt h1 h2 (frzIds S' frzFuel v0), frz_one h1 hx h3 (fun i hi => hi)⟩
        | outgrown => exact he

/-- Behind a call apart. -/
theorem Inv.iso (h : Inv P S ρ A w) {A1 A2 : Nat → Prop} (hi : Iso A1 w A2 w') (hA : ∀ b, A1 b → A b) :
    Inv P S ρ (fun b => A b ∨ A2 b) w' ∧ Step S ρ A w S ρ (fun b => A b ∨ A2 b) w' := by
  obtain ⟨g1, g2⟩ := h.world hi.size hi.old hi.os hi.tape hi.output
  have hnew : ∀ b, A2 b → A b ∨ w.heap.size ≤ b := fun b hb => (hi.anew b hb).imp (hA b) id
  refine ⟨⟨fun id o ho => (g1.ok id o ho).mono (fun _ h => .inl h) (fun _ _ => rfl) (Step.refl (A := A)).sle (fun _ => rfl), h.inj, fun i o ho hl hb => ?_, fun b hb => ?_⟩, ⟨hi.os, hi.tape, hi.output, hi.size, g2.keep, g2.keepA, fun _ h => .inl h, fun b hb => ?_, fun _ h => .inl h, g2.sle⟩⟩
  · rcases hb with hb | hb
    · exact h.own i o ho hl hb
    · rcases hnew _ hb with hb | hb
      · exact h.own i o ho hl hb
      · have := (h.ok i o ho).lt (by rintro rfl; cases hl) (by rintro rfl; cases hl)
        omega
  · rcases hb with hb | hb
    · exact g1.lt b hb
    · exact hi.lt b hb
  · rcases hb with hb | hb
    · exact .inl hb
    · rcases hnew _ hb with hb | hb
      · exact .inl hb
      · exact .inr (.inr hb)
theorem repS_mono' {B : Nat → Prop} (hB : ∀ b, A b → B b) {xs : List D} {us : List Value} (h : RepS A w xs us) : RepS B w xs us := repS_mono hB (fun _ _ => rfl) xs us h
theorem repRes_mono {B : Nat → Prop} (hB : ∀ b, A b → B b) {o : OutD} {v : Value} (h : RepRes A w o v) : RepRes B w o v := by
  cases o with
  | ret x => exact repX_mono hB (fun _ _ => rfl) h
  | tup xs => obtain ⟨us, h1, h2⟩ := h; exact ⟨us, h1, repS_mono' hB h2⟩
  | pan x => exact h.elim
theorem plain_X {B : Nat → Prop} {x : D} {v : Value} (h : x.plain = true) (hr : RepX A w x v) : RepX B w x v :=
  hr.imp (fun ⟨a, us, b, c⟩ => ⟨a, us, b, plain_rep h c⟩) (fun ⟨a, b⟩ => ⟨a, plain_rep h b⟩)
theorem plain_S {B : Nat → Prop} : ∀ {xs : List D} {us : List Value}, xs.all D.plain = true → RepS A w xs us → RepS B w xs us
  | [], us, _, h => by simpa [RepS] using h
  | x :: r, us, hp, h => by
    simp only [List.all_cons, Bool.and_eq_true] at hp
    simp only [RepS] at h ⊢
    obtain ⟨v, us', rfl, h1, h2⟩ := h
    exact ⟨v, us', rfl, plain_X hp.1 h1, plain_S hp.2 h2⟩
def OutD.plain : OutD → Bool
  | .ret x => x.plain
  | .tup xs => xs.all D.plain
  | .pan x => x.plain
theorem plainOut_out {o : OutD} (h : plainOut o.out = true) : o.plain = true := by
  cases o with
  | ret x => exact h
  | tup xs =>
    simp only [OutD.out, plainOut, List.all_map] at h
    simpa [OutD.plain] using h
  | pan x => exact h
theorem plain_res {B : Nat → Prop} {o : OutD} {v : Value} (hp : o.plain = true) (h : RepRes A w o v) : RepRes B w o v := by
  cases o with
  | ret x => exact plain_X hp h
  | tup xs => obtain ⟨us, h1, h2⟩ := h; exact ⟨us, h1, plain_S hp h2⟩
  | pan x => exact h.elim

theorem ansPost_run {o : OutD} {A1 : Nat → Prop} {S2 : Store} {f : FuncId} {us : Array Value} (hcall : Calls P f us w (AnsPost A1 w o))
    (hgo : ∀ A2 w', Iso A1 w A2 w' → ∃ B, Inv P S2 ρ B w' ∧ Step S ρ A w S2 ρ B w' ∧ ((∀ b, A2 b → B b) ∨ o.plain = true)) : Calls P f us w (RunPost P S ρ A w o.out S2) := by
  refine hcall.mono fun e w' he => ?_
  cases e with
  | returned v =>
    obtain ⟨A2, h1, h2⟩ := he
    obtain ⟨B, g1, g2, g3⟩ := hgo A2 w' h1
    have h3 : RepRes B w' o v := by
      rcases g3 with g3 | g3
      · exact repRes_mono g3 h2
      · exact plain_res g3 h2
    cases o with
    | ret x => exact ⟨_, rfl, ρ, B, g1, g2, repRes_V h3 rfl⟩
    | tup xs => exact ⟨_, rfl, ρ, B, g1, g2, repRes_V h3 rfl⟩
    | pan x => exact h3.elim
  | panicked c =>
    obtain ⟨x, v, rfl, rfl, A2, h1, h2⟩ := he
    obtain ⟨B, g1, g2, g3⟩ := hgo A2 w' h1
    refine ⟨_, v, rfl, rfl, ρ, B, g1, g2, repW_d.2 ?_⟩
    rcases g3 with g3 | g3
    · exact repX_mono g3 (fun _ _ => rfl) h2
    · exact plain_X g3 h2
  | outgrown => exact he

/-- Every call. -/
theorem callV_ok {C : Cfg} {call : CallF} (hext : ExtOk C) (hrun : RunOk C.P call) {f : FuncId} {args : List V} {S S' : Store} {o : Out} {c : Nat} (h : callV C call f args S = some (o, S', c)) {us : Array Value} (hI : Inv C.P S ρ A w) (hr : RepWs C.P S ρ A w args us.toList) :
    Calls C.P f us w (RunPost C.P S ρ A w o S') := by
  unfold callV at h
  split at h
  · obtain ⟨⟨o', S2⟩, h1, h2⟩ := Option.map_eq_some_iff.1 h
    simp only [Prod.mk.injEq] at h2
    obtain ⟨rfl, rfl, _⟩ := h2
    exact hrun f args S _ _ h1 ρ A w us hI hr
  · split at h
    · cases h
    · rename_i ds hds
      cases ha : answer C call f ds with
      | none => simp [ha] at h
      | some out =>
        simp only [ha] at h
        obtain ⟨o', rfl, hans⟩ := answer_ok hext hrun f ds out ha
        have hargs := frzAll_rep hI hds hr (ids := args.flatMap (frzIds S frzFuel)) (fun i hi => hi)
        have hlt : ∀ b, stay S ρ A (args.flatMap (frzIds S frzFuel)) b → b < w.heap.size := fun b hb => by
          rcases hb with hb | ⟨id, _, o, ho, hl, _, rfl⟩
          · exact hI.lt b hb
          · exact (hI.ok id o ho).lt (by rintro rfl; cases hl) (by rintro rfl; cases hl)
        have hcall := hans _ w us hlt hargs
        split at h
        · rename_i hemp
          simp only [Option.some.injEq, Prod.mk.injEq] at h
          obtain ⟨rfl, rfl, _⟩ := h
          refine ansPost_run hcall fun A2 w' hi => ?_
          have hemp' : args.flatMap (frzIds S frzFuel) = [] := by simpa using hemp
          obtain ⟨g1, g2⟩ := hI.iso hi (fun b hb => by
            rcases hb with hb | ⟨id, hid, _⟩
            · exact hb
            · rw [hemp'] at hid; cases hid)
          exact ⟨_, g1, g2, .inl fun b hb => .inr hb⟩
        · split at h
          · rename_i hp
            simp only [Option.some.injEq, Prod.mk.injEq] at h
            obtain ⟨rfl, rfl, _⟩ := h
            refine ansPost_run hcall fun A2 w' hi => ?_
            obtain ⟨g1, g2⟩ := hI.world hi.size hi.old hi.os hi.tape hi.output
            exact ⟨A, g1, g2, .inr (plainOut_out hp)⟩
          · split at h
            · rename_i S2 hm
              simp only [Option.some.injEq, Prod.mk.injEq] at h
              obtain ⟨rfl, rfl, _⟩ := h
              refine ansPost_run hcall fun A2 w' hi => ?_
              obtain ⟨m1, m2⟩ := hI.mark hm (fun id hid => by
                obtain ⟨v, _, hv⟩ := List.mem_flatMap.1 hid
                exact frzIds_kind hv)
              obtain ⟨g1, g2⟩ := m1.iso hi (fun b hb => hb)
              exact ⟨_, g1, m2.trans g2, .inl fun b hb => .inr hb⟩
            · cases h
end
end Go.Vm
