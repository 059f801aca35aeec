/- The value machine: code, and calls: what the machine says is what the program does. -/
import Derived.Test.YtljefklfoieecaaVmX
import Derived.Defers
import Derived.Scope
set_option linter.unusedVariables false
set_option linter.unusedSimpArgs false
namespace Go.Vm
section
variable {P : Program} {S : Store} {ρ : Nat → Nat} {A : Nat → Prop} {w w' : World}

/-- A loop, at its next round. -/
def LoopAt (P : Program) (c : Code) (Q : Exit → Act → World → Prop) (a : Act) (w : World) : Prop :=
  ∀ (b : Frame) (k : List Item) (cs : List Frame), ∃ e a' w', Q e a' w' ∧ Arrives P (lone (b.at a (.code c :: .inLoop c :: k)) cs w) b k cs e a' w'
theorem loopAt_wp {c : Code} {Q : Exit → Act → World → Prop} {a : Act} (h : LoopAt P c Q a w) : (Code.loop c).wp P Q a w := fun b k cs =>
  let ⟨e, a', w', hq, harr⟩ := h b k cs
  ⟨e, a', w', hq, .of_steps (.one step_loop) harr⟩
theorem loopAt_intro {c : Code} {Q : Exit → Act → World → Prop} {a : Act} (h : c.wp P (Exit.then (LoopAt P c Q) Q) a w) : LoopAt P c Q a w := by
  intro b k cs
  obtain ⟨e, a₁, w₁, hq, harr⟩ := h b (.inLoop c :: k) cs
  cases e with
  | normal =>
    obtain ⟨e₂, a₂, w₂, hq₂, harr₂⟩ := hq b k cs
    exact ⟨e₂, a₂, w₂, hq₂, .of_steps (Steps.trans harr (.one step_inLoop)) harr₂⟩
  | exit id => exact ⟨_, a₁, w₁, hq, .pass (x := .inLoop c) rfl (fun _ _ => .inl (by simp)) harr⟩
  | goto l => exact ⟨_, a₁, w₁, hq, .pass (x := .inLoop c) rfl (fun _ _ => .inl (by simp)) harr⟩
  | ret => exact ⟨_, a₁, w₁, hq, .pass (x := .inLoop c) rfl (fun _ _ => .inl (by simp)) harr⟩
  | panic ch => exact ⟨_, a₁, w₁, hq, .pass (x := .inLoop c) rfl (fun _ _ => .inl (by simp)) harr⟩
  | outgrown => exact ⟨_, a₁, w₁, hq, .pass (x := .inLoop c) rfl (fun _ _ => .inl (by simp)) harr⟩
def wpL (P : Program) (c : Code) (Q : Exit → Act → World → Prop) (a : Act) (w : World) : Prop := match c with | .loop b => LoopAt P b Q a w | c => c.wp P Q a w
theorem wpL_wp {c : Code} {Q : Exit → Act → World → Prop} {a : Act} (h : wpL P c Q a w) : c.wp P Q a w := by
  cases c with
  | loop b => exact loopAt_wp h
  | _ => exact h

theorem loadV_ptr {t : TypeId} {x y : V} {u : Value} (h : loadV P S t x = some y) (hx : RepV P S ρ A w x u) : ∃ a, u = .pointer (some a) := by
  unfold loadV at h
  split at h
  · have hx := (repW_leaf rfl).1 ((repV_one rfl).1 hx)
    simp only [RepVC, List.cons.injEq, and_true] at hx
    obtain ⟨a, rfl, _⟩ := hx
    exact ⟨a, rfl⟩
  · have hx := (repX_leaf rfl).1 (repV_d.1 hx)
    simp only [RepC, List.cons.injEq, and_true] at hx
    obtain ⟨a, us, rfl, _⟩ := hx
    exact ⟨a, rfl⟩
  · cases h
theorem repT_getD {T : List V} {tm : Array Value} (hT : RepT P S ρ A w T tm.toList) (t : Tmp) : RepV P S ρ A w (T.getD t (.tup [])) (tm.getD t undef) := by
  have hl := repT_length hT
  simp only [Array.length_toList] at hl
  cases h : T[t]? with
  | some v =>
    obtain ⟨u, hu, hr⟩ := repT_get hT t v h
    have hu' : tm[t]? = some u := by simpa using hu
    simp only [List.getD_eq_getElem?_getD, h, Option.getD_some]
    have : tm.getD t undef = u := by
      rw [Array.getD_eq_getD_getElem?, hu']; rfl
    rw [this]; exact hr
  | none =>
    have hn : tm[t]? = none := by
      simp only [List.getElem?_eq_none_iff] at h
      simp [hl, h]
    simp only [List.getD_eq_getElem?_getD, h, Option.getD_none]
    have : tm.getD t undef = undef := by
      rw [Array.getD_eq_getD_getElem?, hn]; rfl
    rw [this]; exact repV_undef
def resultOf (tm : Array Value) : ResultVar → Sem Value
  | .tmp t => pure (tm.getD t undef)
  | .cell a t => do loadVar t (← asAddr (tm.getD a undef))
theorem resultV_run (hI : Inv P S ρ A w) {T : List V} {tm : Array Value} (hT : RepT P S ρ A w T tm.toList) {r : ResultVar} {v : V} (h : resultV P T S r = some v) : ∃ u, (resultOf tm r).run P w = .ok u w ∧ RepV P S ρ A w v u := by
  cases r with
  | tmp t =>
    simp only [resultV, Option.some.injEq] at h; subst h
    exact ⟨_, rfl, repT_getD hT t⟩
  | cell a t =>
    simp only [resultV] at h
    have ha := repT_getD hT a
    obtain ⟨ad, he⟩ := loadV_ptr h ha
    obtain ⟨u, h1, h2⟩ := loadV_run hI h ha
    refine ⟨u, ?_, repV_of_repW h2⟩
    rw [he] at h1
    simpa [resultOf, he, asAddr, Instr.loadAt, Instr.sureAddr] using h1
theorem resultsAll_run (hI : Inv P S ρ A w) {T : List V} {tm : Array Value} (hT : RepT P S ρ A w T tm.toList) : ∀ {rs : List ResultVar} {vs : List V}, allO (resultV P T S) rs = some vs → ∃ us, (rs.mapM (resultOf tm)).run P w = .ok us w ∧ us.length = rs.length ∧ (∀ (i : Nat) (v : V), vs[i]? = some v → ∃ u, us[i]? = some u ∧ RepV P S ρ A w v u) ∧ vs.length = rs.length
  | [], vs, h => by
    simp only [allO, Option.some.injEq] at h; subst h
    exact ⟨[], by simp, rfl, fun i v h => by simp at h, rfl⟩
  | r :: rs, vs, h => by
    obtain ⟨y, zs, h1, h2, rfl⟩ := allO_cons h
    obtain ⟨u, g1, g2⟩ := resultV_run hI hT h1
    obtain ⟨us, g3, g4, g5, g6⟩ := resultsAll_run hI hT h2
    refine ⟨u :: us, by simp [g1, g3], by simp [g4], fun i v hv => ?_, by simp [g6]⟩
    cases i with
    | zero => simp at hv; subst hv; exact ⟨u, by simp, g2⟩
    | succ i => simp at hv; simpa using g5 i v hv
theorem repWs_of_get : ∀ {vs : List V} {us : List Value}, vs.all V.one = true → us.length = vs.length → (∀ (i : Nat) (v : V), vs[i]? = some v → ∃ u, us[i]? = some u ∧ RepV P S ρ A w v u) → RepWs P S ρ A w vs us
  | [], us, _, hl, _ => by simp at hl; simp [RepWs, hl]
  | v :: r, us, ho, hl, h => by
    cases us with
    | nil => simp at hl
    | cons u us =>
      simp only [List.all_cons, Bool.and_eq_true] at ho
      obtain ⟨u', h1, h2⟩ := h 0 v (by simp)
      simp at h1; subst h1
      simp only [RepWs]
      exact ⟨_, us, rfl, (repV_one ho.1).1 h2, repWs_of_get ho.2 (by simpa using hl) (fun i v hv => by simpa using h (i + 1) v (by simpa using hv))⟩
theorem resultsV_run (hI : Inv P S ρ A w) {T : List V} {tm : Array Value} (hT : RepT P S ρ A w T tm.toList) {fn : Func} {v : V} (h : resultsV P fn.results T S = some v) : ∃ u, (results fn tm).run P w = .ok u w ∧ RepV P S ρ A w v u := by
  have key : ∀ us : List Value, (fn.results.toList.mapM (resultOf tm)).run P w = .ok us w → (results fn tm).run P w = .ok (if h : us.toArray.size = 1 then us.toArray[0] else .tuple us.toArray) w := by
    intro us hus
    have : (fn.results.mapM (resultOf tm)).run P w = .ok us.toArray w := by
      rw [← Array.toArray_toList (xs := fn.results), List.mapM_toArray]
      simp [hus]
    have e : results fn tm = (do let vs ← fn.results.mapM (resultOf tm); pure (if h : vs.size = 1 then vs[0] else .tuple vs)) := by
      unfold results resultOf
      rfl
    rw [e]
    simp [this]
  unfold resultsV at h
  split at h
  · rename_i r hr
    obtain ⟨u, g1, g2⟩ := resultV_run hI hT h
    refine ⟨u, ?_, g2⟩
    have := key [u] (by rw [hr]; simp [g1])
    simpa using this
  · rename_i l hne
    split at h
    · rename_i vs hvs
      split at h
      · rename_i hone
        simp only [Option.some.injEq] at h; subst h
        obtain ⟨us, g1, g2, g3, g4⟩ := resultsAll_run hI hT hvs
        refine ⟨.tuple us.toArray, ?_, us.toArray, rfl, by simpa using repWs_of_get hone (by omega) g3⟩
        rw [key us g1]
        have : ¬ us.toArray.size = 1 := by
          simp only [List.size_toArray, g2]
          intro h1
          obtain ⟨x, hx⟩ := List.length_eq_one_iff.1 h1
          exact hne x hx
        rw [dif_neg this]
      · cases h
    · cases h
theorem startT_rep {args : List V} {us : Array Value} (n : Nat) (h : RepWs P S ρ A w args us.toList) : RepT P S ρ A w (startT n args) (us ++ Array.replicate (n - us.size) undef).toList := by
  have hl := repWs_length h
  simp only [Array.length_toList] at hl
  simp only [startT, Array.toList_append, Array.toList_replicate, hl]
  exact repT_append (repWs_repT h) (repT_undef _)
theorem bodyOf_spec {f : FuncId} {b : Body} (h : bodyOf P f = some b) : ∃ fn, P.funcs[f]? = some fn ∧ fn.body = some b.code ∧ b.ntmps = fn.ntmps ∧ b.results = fn.results := by
  unfold bodyOf at h
  cases hf : P.funcs[f]? with
  | none => simp [hf] at h
  | some fn =>
    simp only [hf] at h
    split at h
    · cases h
    · cases hb : fn.body with
      | none => simp [hb] at h
      | some c =>
        simp only [hb, Option.some.injEq] at h; subst h
        exact ⟨fn, rfl, hb, rfl, rfl⟩

/-- What code comes to is what the machine says. -/
def ExecOk (P : Program) (ex : ExecF) : Prop := ∀ (c : Code) {S S' : Store} {T T' : List V} {F F' : Dfs} {x : Ex}, ex c T S F = some (x, T', S', F') →
  ∀ {ρ : Nat → Nat} {A : Nat → Prop} {w : World} {a : Act} {Q : Exit → Act → World → Prop}, Inv P S ρ A w → RepT P S ρ A w T a.tmps.toList → DfOk P S ρ A w F a.defers → (∀ e a' w', ExPost P S ρ A w x T' S' F' e a' w' → Q e a' w') → wpL P c Q a w
/-- What a function that calls the function it is handed does. -/
def CatchOk (C : Cfg) : Prop := ∀ f post, C.catch_ f = some post → ∀ (S S' : Store) (g : FuncId) (o : Out) (v : V), post o = some v → ∀ (ρ : Nat → Nat) (A : Nat → Prop) (w : World) (fa ca : Array Value), Inv C.P S ρ A w →
  (∀ ρ1 A1 w1, Inv C.P S ρ1 A1 w1 → Step S ρ A w S ρ1 A1 w1 → Calls C.P g (fa ++ ca) w1 (RunPost C.P S ρ1 A1 w1 o S')) → Calls C.P f #[.func (.func g) fa ca] w (RunPost C.P S ρ A w (.ret v) S')

theorem plain_ok {ex : ExecF} (hex : ExecOk P ex) {f : FuncId} {args : List V} {S S' : Store} (h : plainV P ex f args S = some S') (hI : Inv P S ρ A w) {us : Array Value} (hr : RepWs P S ρ A w args us.toList) {u : FrameMode} :
    CallsD P f us u w fun e u' w' => u' = u ∧ match e with
      | .returned _ => ∃ ρ' A', Inv P S' ρ' A' w' ∧ Step S ρ A w S' ρ' A' w'
      | _ => False := by
  unfold plainV at h
  split at h
  · cases h
  · rename_i b hb
    obtain ⟨fn, hf, hbody, hn, hres⟩ := bodyOf_spec hb
    have hstart := startT_rep (P := P) (S := S) (ρ := ρ) (A := A) (w := w) fn.ntmps hr
    refine callsD_of_wp (R := fun e w' => match e with | .returned _ => ∃ ρ' A', Inv P S' ρ' A' w' ∧ Step S ρ A w S' ρ' A' w' | _ => False) hf hbody ?_
    rw [hn] at h
    have fin : ∀ {x : Ex} {T1 : List V} {S1 : Store}, (x = .norm ∨ x = .ret) → ex b.code (startT fn.ntmps args) S [] = some (x, T1, S1, []) → ((resultsV P b.results T1 S1).map fun _ => S1) = some S' →
        b.code.wp P (bodyPost P fn fun e w' => match e with | .returned _ => ∃ ρ' A', Inv P S' ρ' A' w' ∧ Step S ρ A w S' ρ' A' w' | _ => False) { tmps := us ++ Array.replicate (fn.ntmps - us.size) undef, defers := [] } w := by
      intro x T1 S1 hx hex1 hres1
      obtain ⟨v, hv, rfl⟩ := Option.map_eq_some_iff.1 hres1
      refine wpL_wp (hex b.code hex1 hI hstart rfl fun e a' w' he => ?_)
      have good : St P S ρ A w T1 S1 [] a' w' → a'.defers = [] ∧ ∃ v, (results fn a'.tmps).run P w' = .ok v w' ∧ (∃ ρ' A', Inv P S1 ρ' A' w' ∧ Step S ρ A w S1 ρ' A' w') := fun hs => by
        obtain ⟨ρ', A', h1, h2, h3, h4⟩ := hs
        rw [hres] at hv
        obtain ⟨u, g1, g2⟩ := resultsV_run h1 h3 hv
        exact ⟨h4, u, g1, ρ', A', h1, h2⟩
      cases e with
      | normal => exact good he.2
      | ret => exact good he.2
      | exit k => rcases hx with rfl | rfl <;> exact absurd he.1 (by simp)
      | panic c => obtain ⟨y, v, h1, _⟩ := he; rcases hx with rfl | rfl <;> cases h1
      | goto l => exact he.elim
      | outgrown => exact he.elim
    split at h
    · rename_i T1 S1 h1
      exact fin (.inl rfl) h1 h
    · rename_i T1 S1 h1
      exact fin (.inr rfl) h1 h
    · cases h

theorem dfr_ok {ex : ExecF} (hex : ExecOk P ex) {fn : Func} {tm : Array Value} {T : List V} {v : V} {S2 : Store} {R : Ending → World → Prop} {S0 : Store} {ρ0 : Nat → Nat} {A0 : Nat → Prop} {w0 : World} (hres : resultsV P fn.results T S2 = some v)
    (hR : ∀ u w', (∃ ρ' A', Inv P S2 ρ' A' w' ∧ Step S0 ρ0 A0 w0 S2 ρ' A' w' ∧ RepV P S2 ρ' A' w' v u) → R (.returned u) w') : ∀ {F : Dfs} {ds : List Deferred} {S : Store} {ρ : Nat → Nat} {A : Nat → Prop} {w : World}, dfrV P ex F S = some S2 → Inv P S ρ A w → Step S0 ρ0 A0 w0 S ρ A w → RepT P S ρ A w T tm.toList → DfOk P S ρ A w F ds → Leaves P fn tm R ds .returning w
  | [], ds, S, ρ, A, w, h, hI, hs, hT, hF => by
    simp only [dfrV, Option.some.injEq] at h; subst h
    simp only [DfOk] at hF; subst hF
    obtain ⟨u, g1, g2⟩ := resultsV_run hI hT hres
    exact ⟨u, g1, hR u w ⟨ρ, A, hI, hs, g2⟩⟩
  | (f, args) :: r, ds, S, ρ, A, w, h, hI, hs, hT, hF => by
    obtain ⟨d, ds', rfl, ⟨fv, cap, us, h1, h2, h3⟩, h4⟩ := hF
    simp only [dfrV] at h
    cases hp : plainV P ex f args S with
    | none => simp [hp] at h
    | some S1 =>
      simp only [hp] at h
      refine ⟨by simp, fv, cap, f, us, h1, h2 w, ?_⟩
      refine (plain_ok hex hp hI h3).mono fun e u' w' he => ?_
      obtain ⟨rfl, he⟩ := he
      cases e with
      | returned u =>
        obtain ⟨ρ1, A1, g1, g2⟩ := he
        exact dfr_ok hex hres hR h g1 (hs.trans g2) (repT_mono g2.amono g2.keepA g2.sle _ _ hT) (dfOk_step g2 h4)
      | panicked c => exact he.elim
      | outgrown => exact he.elim

theorem both_ok {C : Cfg} (hext : ExtOk C) (hcatch : CatchOk C) : ∀ n, ExecOk C.P (exec C n) ∧ RunOk C.P (run C n) := by
  intro n
  induction n with
  | zero => exact ⟨fun c S S' T T' F F' x h => by simp [exec] at h, fun f args S o S' h => by simp [run] at h⟩
  | succ n ih =>
    obtain ⟨ihe, ihr⟩ := ih
    constructor
    · intro c S S' T T' F F' x h ρ A w a Q hI hT hF hQ
      have here : ∀ {x' : Ex} {e : Exit}, (∀ a' w', St C.P S ρ A w T S F a' w' → ExPost C.P S ρ A w x' T S F e a' w') → some (x', T, S, F) = some (x, T', S', F') → Q e a w := by
        intro x' e hp he
        simp only [Option.some.injEq, Prod.mk.injEq] at he
        obtain ⟨rfl, rfl, rfl, rfl⟩ := he
        exact hQ _ _ _ (hp a w ⟨ρ, A, hI, .refl, hT, hF⟩)
      cases c with
      | skip => exact wp_skip (here (x' := .norm) (fun _ _ hs => ⟨rfl, hs⟩) (by simpa [exec] using h))
      | label l => exact wp_label (here (x' := .norm) (fun _ _ hs => ⟨rfl, hs⟩) (by simpa [exec] using h))
      | exit id => exact wp_exit (here (x' := .exit id) (fun _ _ hs => ⟨rfl, hs⟩) (by simpa [exec] using h))
      | ret => exact wp_ret (here (x' := .ret) (fun _ _ hs => ⟨rfl, hs⟩) (by simpa [exec] using h))
      | region id ops dr =>
        cases dr with
        | false =>
          simp only [exec] at h
          refine wp_region ?_
          have := seqV_ok hext ihr h (k := 0) rfl hI hT hF hQ
          rw [List.range_eq_range']
          simpa using this
        | true =>
          simp only [exec] at h
          split at h
          · rename_i T1 S1 cs hseq
            split at h
            · rename_i hd
              simp only [Option.some.injEq, Prod.mk.injEq] at h
              obtain ⟨rfl, rfl, rfl, rfl⟩ := h
              exact draw_ok hext ihr (hole_ok C n).2 hseq hd hI hT hF (fun a' w' hs => hQ _ _ _ ⟨rfl, hs⟩)
            · cases h
          · cases h
      | seq c1 c2 =>
        simp only [exec] at h
        refine wp_seq ?_
        cases h1 : exec C n c1 T S F with
        | none => simp [h1] at h
        | some r =>
          obtain ⟨x1, T1, S1, F1⟩ := r
          refine wpL_wp (ihe c1 h1 hI hT hF fun e a' w' he => ?_)
          cases x1 with
          | norm =>
            simp only [h1] at h
            cases e with
            | normal =>
              obtain ⟨_, ρ1, A1, g1, g2, g3, g4⟩ := he
              exact wpL_wp (ihe c2 h g1 g3 g4 fun e a2 w2 he2 => hQ _ _ _ (he2.step g2))
            | exit k => exact absurd he.1 (by simp)
            | ret => exact absurd he.1 (by simp)
            | panic c => obtain ⟨y, v, h1, _⟩ := he; cases h1
            | goto l => exact he.elim
            | outgrown => exact he.elim
          | _ =>
            simp only [h1, Option.some.injEq, Prod.mk.injEq] at h
            obtain ⟨rfl, rfl, rfl, rfl⟩ := h
            cases e with
            | normal => exact absurd he.1 (by simp)
            | _ => exact hQ _ _ _ he
      | cond c a1 b1 =>
        simp only [exec] at h
        have hc := evalO_rep hT c
        split at h
        · rename_i hv
          rw [hv] at hc
          exact wp_cond_true (rep_bool hc) (wpL_wp (ihe a1 h hI hT hF hQ))
        · rename_i hv
          rw [hv] at hc
          exact wp_cond_false (rep_bool hc) (wpL_wp (ihe b1 h hI hT hF hQ))
        · cases h
      | block id b =>
        simp only [exec] at h
        refine wp_block ?_
        cases h1 : exec C n b T S F with
        | none => simp [h1] at h
        | some r =>
          obtain ⟨x1, T1, S1, F1⟩ := r
          refine wpL_wp (ihe b h1 hI hT hF fun e a' w' he => ?_)
          cases x1 with
          | exit k =>
            simp only [h1] at h
            cases e with
            | exit k' =>
              obtain ⟨hk, hs⟩ := he
              simp only [Ex.exit.injEq] at hk
              subst hk
              simp only [Exit.inBlock]
              split at h
              · rename_i hk
                rw [if_pos hk]
                simp only [Option.some.injEq, Prod.mk.injEq] at h
                obtain ⟨rfl, rfl, rfl, rfl⟩ := h
                exact hQ _ _ _ ⟨rfl, hs⟩
              · rename_i hk
                rw [if_neg hk]
                simp only [Option.some.injEq, Prod.mk.injEq] at h
                obtain ⟨rfl, rfl, rfl, rfl⟩ := h
                exact hQ _ _ _ ⟨rfl, hs⟩
            | normal => exact absurd he.1 (by simp)
            | ret => exact absurd he.1 (by simp)
            | panic c => obtain ⟨y, v, h1, _⟩ := he; cases h1
            | goto l => exact he.elim
            | outgrown => exact he.elim
          | _ =>
            simp only [h1, Option.some.injEq, Prod.mk.injEq] at h
            obtain ⟨rfl, rfl, rfl, rfl⟩ := h
            cases e with
            | exit k' => exact absurd he.1 (by simp)
            | _ => exact hQ _ _ _ he
      | loop b =>
        simp only [exec] at h
        refine loopAt_intro ?_
        cases h1 : exec C n b T S F with
        | none => simp [h1] at h
        | some r =>
          obtain ⟨x1, T1, S1, F1⟩ := r
          refine wpL_wp (ihe b h1 hI hT hF fun e a' w' he => ?_)
          cases x1 with
          | norm =>
            simp only [h1] at h
            cases e with
            | normal =>
              obtain ⟨_, ρ1, A1, g1, g2, g3, g4⟩ := he
              exact ihe (.loop b) h g1 g3 g4 fun e a2 w2 he2 => hQ _ _ _ (he2.step g2)
            | exit k => exact absurd he.1 (by simp)
            | ret => exact absurd he.1 (by simp)
            | panic c => obtain ⟨y, v, h1, _⟩ := he; cases h1
            | goto l => exact he.elim
            | outgrown => exact he.elim
          | _ =>
            simp only [h1, Option.some.injEq, Prod.mk.injEq] at h
            obtain ⟨rfl, rfl, rfl, rfl⟩ := h
            cases e with
            | normal => exact absurd he.1 (by simp)
            | _ => exact hQ _ _ _ he
      | scope b =>
        simp only [exec] at h
        refine wp_scope_straight (wpL_wp (ihe b h hI hT hF fun e a' w' he => ?_))
        cases e with
        | goto l => exact he.elim
        | _ => exact hQ _ _ _ he
      | _ => simp [exec] at h
    · intro f args S o S' h ρ A w us hI hr
      simp only [run] at h
      split at h
      · rename_i post hpost
        split at h
        · rename_i g first caps
          split at h
          · cases h
          · rename_i o' S1 h1
            split at h
            · cases h
            · rename_i v hv
              simp only [Option.some.injEq, Prod.mk.injEq] at h
              obtain ⟨rfl, rfl⟩ := h
              simp only [RepWs] at hr
              obtain ⟨u, us', hus, hu, rfl⟩ := hr
              have : us = #[u] := by rw [← Array.toList_inj]; exact hus
              subst this
              obtain ⟨fa, ca, rfl, g1, g2⟩ := fn_rep (repV_of_repW hu)
              refine hcatch f post hpost S S1 g o' v hv ρ A w fa ca hI fun ρ1 A1 w1 hI1 hs1 => ?_
              refine ihr g _ S o' S1 h1 ρ1 A1 w1 _ hI1 ?_
              have := repWs_append (repWs_mono hs1.amono hs1.keepA hs1.sle _ _ g1) (repWs_mono hs1.amono hs1.keepA hs1.sle _ _ g2)
              simpa using this
        · cases h
      · split at h
        · cases h
        · rename_i b hb
          obtain ⟨fn, hf, hbody, hn, hres⟩ := bodyOf_spec hb
          rw [hn] at h
          refine calls_of_wp_defers hf hbody ?_
          have hstart := startT_rep (P := C.P) (S := S) (ρ := ρ) (A := A) (w := w) fn.ntmps hr
          have good : ∀ {T1 : List V} {S1 : Store} {F1 : Dfs} {a' : Act} {w' : World}, endV C.P (exec C n) b.results T1 S1 F1 = some (o, S') → St C.P S ρ A w T1 S1 F1 a' w' → Leaves C.P fn a'.tmps (RunPost C.P S ρ A w o S') a'.defers .returning w' := by
            intro T1 S1 F1 a' w' he hs
            obtain ⟨ρ1, A1, g1, g2, g3, g4⟩ := hs
            unfold endV at he
            cases hd : dfrV C.P (exec C n) F1 S1 with
            | none => simp [hd] at he
            | some S2 =>
              simp only [hd] at he
              cases hrs : resultsV C.P b.results T1 S2 with
              | none => simp [hrs] at he
              | some v =>
                simp only [hrs, Option.some.injEq, Prod.mk.injEq] at he
                obtain ⟨rfl, rfl⟩ := he
                rw [hres] at hrs
                exact dfr_ok ihe hrs (fun u w2 ⟨ρ2, A2, k1, k2, k3⟩ => ⟨v, rfl, ρ2, A2, k1, k2, k3⟩) hd g1 g2 g3 g4
          have case1 : ∀ {x : Ex} {T1 : List V} {S1 : Store} {F1 : Dfs}, (x = .norm ∨ x = .ret) → exec C n b.code (startT fn.ntmps args) S [] = some (x, T1, S1, F1) → endV C.P (exec C n) b.results T1 S1 F1 = some (o, S') →
              b.code.wp C.P (bodyPostD C.P fn (RunPost C.P S ρ A w o S')) { tmps := us ++ Array.replicate (fn.ntmps - us.size) undef, defers := [] } w := by
            intro x T1 S1 F1 hx hex1 he
            refine wpL_wp (ihe b.code hex1 hI hstart rfl fun e a' w' hp => ?_)
            cases e with
            | normal => exact good he hp.2
            | ret => exact good he hp.2
            | exit k => rcases hx with rfl | rfl <;> exact absurd hp.1 (by simp)
            | panic c => obtain ⟨y, v, h1, _⟩ := hp; rcases hx with rfl | rfl <;> cases h1
            | goto l => exact hp.elim
            | outgrown => exact hp.elim
          split at h
          · rename_i T1 S1 F1 h1
            exact case1 (.inl rfl) h1 h
          · rename_i T1 S1 F1 h1
            exact case1 (.inr rfl) h1 h
          · rename_i v T1 S1 h1
            simp only [Option.some.injEq, Prod.mk.injEq] at h
            obtain ⟨rfl, rfl⟩ := h
            refine wpL_wp (ihe b.code h1 hI hstart rfl fun e a' w' hp => ?_)
            cases e with
            | panic c =>
              obtain ⟨y, u, k1, rfl, k2, ρ1, A1, k3, k4, k5⟩ := hp
              cases k1
              show Leaves C.P fn a'.tmps _ a'.defers _ w'
              rw [k2 rfl]
              exact ⟨v, u, rfl, rfl, ρ1, A1, k3, k4, k5⟩
            | normal => exact absurd hp.1 (by simp)
            | ret => exact absurd hp.1 (by simp)
            | exit k => exact absurd hp.1 (by simp)
            | goto l => exact hp.elim
            | outgrown => exact hp.elim
          · cases h

/-- A call apart, from data to data. -/
theorem runD_ok {C : Cfg} (hext : ExtOk C) (hcatch : CatchOk C) (n : Nat) : AnsOk C.P (runD C n) := answer_ok hext (both_ok hext hcatch n).2
end
end Go.Vm
