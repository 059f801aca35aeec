/- The value machine: code, and calls: what the machine says is what the program does. -/
import Derived.Defers
import Derived.Scope
import Derived.IntWalk
import Derived.Test.YtghllhghboaagaaD04
set_option linter.unusedVariables false
set_option linter.unusedSimpArgs false
section
namespace Go.Vm
section
variable {P : Program} {S : zA} {ρ : Nat → Nat} {A : Nat → Prop} {w w' : World}
def zgj (P : Program) (c : Code) (Q : Exit → Act → World → Prop) (a : Act) (w : World) : Prop :=
 ∀ (b : Frame) (k : List Item) (cs : List Frame), ∃ e a' w', Q e a' w' ∧ Arrives P (lone (b.at a (.code c :: .inLoop c :: k)) cs w) b k cs e a' w'
theorem zil {c : Code} {Q : Exit → Act → World → Prop} {a : Act} (h : zgj P c Q a w) : (Code.loop c).wp P Q a w := fun b k cs =>
 let ⟨e, a', w', hq, harr⟩ := h b k cs
 ⟨e, a', w', hq, .of_steps (.one step_loop) harr⟩
theorem zc6 {c : Code} {Q : Exit → Act → World → Prop} {a : Act} (h : c.wp P (Exit.then (zgj P c Q) Q) a w) : zgj P c Q a w := by
 intro b k cs
 obtain ⟨e, a₁, w₁, hq, harr⟩ := h b (.inLoop c :: k) cs
 cases e with
 | normal =>
  obtain ⟨e₂, a₂, w₂, hq₂, harr₂⟩ := hq b k cs
  exact ⟨e₂, a₂, w₂, hq₂, .of_steps (Steps.trans harr (.one step_inLoop)) harr₂⟩
 | exit id => exact ⟨_, a₁, w₁, hq, .pass (x := .inLoop c) rfl (fun _ _ => .inl (by simp)) harr⟩
 | goto l => exact ⟨_, a₁, w₁, hq, .pass (x := .inLoop c) rfl (fun _ _ => .inl (by simp)) harr⟩
 | ret => exact ⟨_, a₁, w₁, hq, .pass (x := .inLoop c) rfl (fun _ _ => .inl (by simp)) harr⟩
 | panic ch => exact ⟨_, a₁, w₁, hq, .pass (x := .inLoop c) rfl (fun _ _ => .inl (by simp)) harr⟩
 | outgrown => exact ⟨_, a₁, w₁, hq, .pass (x := .inLoop c) rfl (fun _ _ => .inl (by simp)) harr⟩
def wpL (P : Program) (c : Code) (Q : Exit → Act → World → Prop) (a : Act) (w : World) : Prop := match c with | .loop b => zgj P b Q a w | c => c.wp P Q a w
theorem z3t {c : Code} {Q : Exit → Act → World → Prop} {a : Act} (h : wpL P c Q a w) : c.wp P Q a w := by
 cases c with
 | loop b => exact zil h
 | _ => exact h
theorem zks {t : TypeId} {x y : V} {u : Value} (h : jW P S t x = some y) (hx : RepV P S ρ A w x u) : ∃ a, u = .pointer (some a) := by
 unfold jW at h
 split at h
 ·have hx := (zN rfl).1 ((zZ rfl).1 hx)
  simp only [zQ, List.cons.injEq, and_true] at hx
  obtain ⟨a, rfl, _⟩ := hx
  exact ⟨a, rfl⟩
 ·have hx := (zG rfl).1 (kE.1 hx)
  simp only [RepC, List.cons.injEq, and_true] at hx
  obtain ⟨a, us, rfl, _⟩ := hx
  exact ⟨a, rfl⟩
 ·cases h
theorem zbu {T : List V} {tm : Array Value} (hT : RepT P S ρ A w T tm.toList) (t : Tmp) : RepV P S ρ A w (T.getD t (.tup [])) (tm.getD t undef) := by
 have hl := z22 hT
 simp only [Array.length_toList] at hl
 cases h : T[t]? with
 | some v =>
  obtain ⟨u, hu, hr⟩ := z5i hT t v h
  have hu' : tm[t]? = some u := by simpa using hu
  simp only [List.getD_eq_getElem?_getD, h, Option.getD_some]
  have : tm.getD t undef = u := by
   rw [Array.getD_eq_getD_getElem?, hu']; rfl
  rw [this]; exact hr
 | none =>
  have hn : tm[t]? = none := by
   simp only [List.getElem?_eq_none_iff] at h
   simp [hl, h]
  simp only [List.getD_eq_getElem?_getD, h, Option.getD_none]
  have : tm.getD t undef = undef := by
   rw [Array.getD_eq_getD_getElem?, hn]; rfl
  rw [this]; exact z09
def z2e (tm : Array Value) : ResultVar → Sem Value
 | .tmp t => pure (tm.getD t undef)
 | .cell a t => do loadVar t (← asAddr (tm.getD a undef))
theorem z8w (hI : Inv P S ρ A w) {T : List V} {tm : Array Value} (hT : RepT P S ρ A w T tm.toList) {r : ResultVar} {v : V} (h : wA P T S r = some v) : ∃ u, (z2e tm r).run P w = .ok u w ∧ RepV P S ρ A w v u := by
 cases r with
 | tmp t =>
  simp only [wA, Option.some.injEq] at h; subst h
  exact ⟨_, rfl, zbu hT t⟩
 | cell a t =>
  simp only [wA] at h
  have ha := zbu hT a
  obtain ⟨ad, he⟩ := zks h ha
  obtain ⟨u, h1, h2⟩ := zc3 hI h ha
  refine ⟨u, ?_, zU h2⟩
  rw [he] at h1
  simpa [z2e, he, asAddr, Instr.loadAt, Instr.sureAddr] using h1
theorem z3r (hI : Inv P S ρ A w) {T : List V} {tm : Array Value} (hT : RepT P S ρ A w T tm.toList) : ∀ {rs : List ResultVar} {vs : List V}, allO (wA P T S) rs = some vs → ∃ us, (rs.mapM (z2e tm)).run P w = .ok us w ∧ us.length = rs.length ∧ (∀ (i : Nat) (v : V), vs[i]? = some v → ∃ u, us[i]? = some u ∧ RepV P S ρ A w v u) ∧ vs.length = rs.length
 | [], vs, h => by
  simp only [allO, Option.some.injEq] at h; subst h
  exact ⟨[], by simp, rfl, fun i v h => by simp at h, rfl⟩
 | r :: rs, vs, h => by
  obtain ⟨y, zs, h1, h2, rfl⟩ := vG h
  obtain ⟨u, g1, g2⟩ := z8w hI hT h1
  obtain ⟨us, g3, g4, g5, g6⟩ := z3r hI hT h2
  refine ⟨u :: us, by simp [g1, g3], by simp [g4], fun i v hv => ?_, by simp [g6]⟩
  cases i with
  | zero => simp at hv; subst hv; exact ⟨u, by simp, g2⟩
  | succ i => simp at hv; simpa using g5 i v hv
theorem z6r : ∀ {vs : List V} {us : List Value}, vs.all V.one = true → us.length = vs.length → (∀ (i : Nat) (v : V), vs[i]? = some v → ∃ u, us[i]? = some u ∧ RepV P S ρ A w v u) → qZ P S ρ A w vs us
 | [], us, _, hl, _ => by simp at hl; simp [qZ, hl]
 | v :: r, us, ho, hl, h => by
  cases us with
  | nil => simp at hl
  | cons u us =>
   simp only [List.all_cons, Bool.and_eq_true] at ho
   obtain ⟨u', h1, h2⟩ := h 0 v (by simp)
   simp at h1; subst h1
   simp only [qZ]
   exact ⟨_, us, rfl, (zZ ho.1).1 h2, z6r ho.2 (by simpa using hl) (fun i v hv => by simpa using h (i + 1) v (by simpa using hv))⟩
theorem z6j (hI : Inv P S ρ A w) {T : List V} {tm : Array Value} (hT : RepT P S ρ A w T tm.toList) {fn : Func} {v : V} (h : jF P fn.results T S = some v) : ∃ u, (results fn tm).run P w = .ok u w ∧ RepV P S ρ A w v u := by
 have key : ∀ us : List Value, (fn.results.toList.mapM (z2e tm)).run P w = .ok us w → (results fn tm).run P w = .ok (if h : us.toArray.size = 1 then us.toArray[0] else .tuple us.toArray) w := by
  intro us hus
  have : (fn.results.mapM (z2e tm)).run P w = .ok us.toArray w := by
   rw [← Array.toArray_toList (xs := fn.results), List.mapM_toArray]
   simp [hus]
  have e : results fn tm = (do let vs ← fn.results.mapM (z2e tm); pure (if h : vs.size = 1 then vs[0] else .tuple vs)) := by
   unfold results z2e
   rfl
  rw [e]
  simp [this]
 unfold jF at h
 split at h
 ·rename_i r hr
  obtain ⟨u, g1, g2⟩ := z8w hI hT h
  refine ⟨u, ?_, g2⟩
  have := key [u] (by rw [hr]; simp [g1])
  simpa using this
 ·rename_i l hne
  split at h
  ·rename_i vs hvs
   split at h
   ·rename_i hone
    simp only [Option.some.injEq] at h; subst h
    obtain ⟨us, g1, g2, g3, g4⟩ := z3r hI hT hvs
    refine ⟨.tuple us.toArray, ?_, us.toArray, rfl, by simpa using z6r hone (by omega) g3⟩
    rw [key us g1]
    have : ¬ us.toArray.size = 1 := by
     simp only [List.size_toArray, g2]
     intro h1
     obtain ⟨x, hx⟩ := List.length_eq_one_iff.1 h1
     exact hne x hx
    rw [dif_neg this]
   ·cases h
  ·cases h
theorem z9z {args : List V} {us : Array Value} (n : Nat) (h : qZ P S ρ A w args us.toList) : RepT P S ρ A w (z14 n args) (us ++ Array.replicate (n - us.size) undef).toList := by
 have hl := z6s h
 simp only [Array.length_toList] at hl
 simp only [z14, Array.toList_append, Array.toList_replicate, hl]
 exact z8p (z6e h) (zh5 _)
theorem z8c {f : FuncId} {b : Body} (h : zH P f = some b) : ∃ fn, P.funcs[f]? = some fn ∧ fn.body = some b.code ∧ b.ntmps = fn.ntmps ∧ b.results = fn.results := by
 unfold zH at h
 cases hf : P.funcs[f]? with
 | none => simp [hf] at h
 | some fn =>
  simp only [hf] at h
  split at h
  ·cases h
  ·cases hb : fn.body with
   | none => simp [hb] at h
   | some c =>
    simp only [hb, Option.some.injEq] at h; subst h
    exact ⟨fn, rfl, hb, rfl, rfl⟩
def zjy (P : Program) (ex : z4v) : Prop := ∀ (c : Code) {S S' : zA} {T T' : List V} {F F' : Dfs} {x : Ex}, ex c T S F = some (x, T', S', F') →
 ∀ {ρ : Nat → Nat} {A : Nat → Prop} {w : World} {a : Act} {Q : Exit → Act → World → Prop}, Inv P S ρ A w → RepT P S ρ A w T a.tmps.toList → DfOk P S ρ A w F a.defers → (∀ e a' w', ExPost P S ρ A w x T' S' F' e a' w' → Q e a' w') → wpL P c Q a w
def z34 (C : Cfg) : Prop := ∀ f post, C.catch_ f = some post → ∀ (S S' : zA) (g : FuncId) (o : Out) (v : V), post o = some v → ∀ (ρ : Nat → Nat) (A : Nat → Prop) (w : World) (fa ca : Array Value), Inv C.P S ρ A w → ((zH C.P g).isSome = true ∨ (C.catch_ g).isSome = true) →
 (∀ ρ1 A1 w1, Inv C.P S ρ1 A1 w1 → Step S ρ A w S ρ1 A1 w1 → Calls C.P g (fa ++ ca) w1 (z3z C.P S ρ1 A1 w1 o S')) → Calls C.P f #[.func (.func g) fa ca] w (z3z C.P S ρ A w (.ret v) S')
theorem zlt {C : Cfg} {n : Nat} {g : FuncId} {args : List V} {S : zA} {r : Out × zA} (h : run C n g args S = some r) : (zH C.P g).isSome = true ∨ (C.catch_ g).isSome = true := by
 cases n with
 | zero => simp [run] at h
 | succ n =>
  simp only [run] at h
  split at h
  ·rename_i post hp
   exact .inr (by rw [hp]; rfl)
  ·split at h
   ·cases h
   ·rename_i b hb
    exact .inl (by rw [hb]; rfl)
theorem zme {ex : z4v} (hex : zjy P ex) {f : FuncId} {args : List V} {S S' : zA} (h : z2h P ex f args S = some S') (hI : Inv P S ρ A w) {us : Array Value} (hr : qZ P S ρ A w args us.toList) {u : FrameMode} :
  CallsD P f us u w fun e u' w' => u' = u ∧ match e with
   | .returned _ => ∃ ρ' A', Inv P S' ρ' A' w' ∧ Step S ρ A w S' ρ' A' w'
   | _ => False := by
 unfold z2h at h
 split at h
 ·cases h
 ·rename_i b hb
  obtain ⟨fn, hf, hbody, hn, hres⟩ := z8c hb
  have hstart := z9z (P := P) (S := S) (ρ := ρ) (A := A) (w := w) fn.ntmps hr
  refine callsD_of_wp (R := fun e w' => match e with | .returned _ => ∃ ρ' A', Inv P S' ρ' A' w' ∧ Step S ρ A w S' ρ' A' w' | _ => False) hf hbody ?_
  rw [hn] at h
  have fin : ∀ {x : Ex} {T1 : List V} {S1 : zA}, (x = .norm ∨ x = .ret) → ex b.code (z14 fn.ntmps args) S [] = some (x, T1, S1, []) → ((jF P b.results T1 S1).map fun _ => S1) = some S' →
    b.code.wp P (bodyPost P fn fun e w' => match e with | .returned _ => ∃ ρ' A', Inv P S' ρ' A' w' ∧ Step S ρ A w S' ρ' A' w' | _ => False) { tmps := us ++ Array.replicate (fn.ntmps - us.size) undef, defers := [] } w := by
   intro x T1 S1 hx hex1 hres1
   obtain ⟨v, hv, rfl⟩ := Option.map_eq_some_iff.1 hres1
   refine z3t (hex b.code hex1 hI hstart rfl fun e a' w' he => ?_)
   have good : St P S ρ A w T1 S1 [] a' w' → a'.defers = [] ∧ ∃ v, (results fn a'.tmps).run P w' = .ok v w' ∧ (∃ ρ' A', Inv P S1 ρ' A' w' ∧ Step S ρ A w S1 ρ' A' w') := fun hs => by
    obtain ⟨ρ', A', h1, h2, h3, h4⟩ := hs
    rw [hres] at hv
    obtain ⟨u, g1, g2⟩ := z6j h1 h3 hv
    exact ⟨h4, u, g1, ρ', A', h1, h2⟩
   cases e with
   | normal => exact good he.2
   | ret => exact good he.2
   | exit k => rcases hx with rfl | rfl <;> exact absurd he.1 (by simp)
   | panic c => obtain ⟨y, v, h1, _⟩ := he; rcases hx with rfl | rfl <;> cases h1
   | goto l => exact he.elim
   | outgrown => exact he.elim
  split at h
  ·rename_i T1 S1 h1
   exact fin (.inl rfl) h1 h
  ·rename_i T1 S1 h1
   exact fin (.inr rfl) h1 h
  ·cases h
theorem zns {ex : z4v} (hex : zjy P ex) {fn : Func} {tm : Array Value} {T : List V} {v : V} {S2 : zA} {R : Ending → World → Prop} {S0 : zA} {ρ0 : Nat → Nat} {A0 : Nat → Prop} {w0 : World} (hres : jF P fn.results T S2 = some v)
    (hR : ∀ u w', (∃ ρ' A', Inv P S2 ρ' A' w' ∧ Step S0 ρ0 A0 w0 S2 ρ' A' w' ∧ RepV P S2 ρ' A' w' v u) → R (.returned u) w') : ∀ {F : Dfs} {ds : List Deferred} {S : zA} {ρ : Nat → Nat} {A : Nat → Prop} {w : World}, dfrV P ex F S = some S2 → Inv P S ρ A w → Step S0 ρ0 A0 w0 S ρ A w → RepT P S ρ A w T tm.toList → DfOk P S ρ A w F ds → Leaves P fn tm R ds .returning w
  | [], ds, S, ρ, A, w, h, hI, hs, hT, hF => by
    simp only [dfrV, Option.some.injEq] at h; subst h
    simp only [DfOk] at hF; subst hF
    obtain ⟨u, g1, g2⟩ := z6j hI hT hres
    exact ⟨u, g1, hR u w ⟨ρ, A, hI, hs, g2⟩⟩
  | (f, args) :: r, ds, S, ρ, A, w, h, hI, hs, hT, hF => by
    obtain ⟨d, ds', rfl, ⟨fv, cap, us, h1, h2, h3⟩, h4⟩ := hF
    simp only [dfrV] at h
    cases hp : z2h P ex f args S with
    | none => simp [hp] at h
    | some S1 =>
      simp only [hp] at h
      refine ⟨by simp, fv, cap, f, us, h1, h2 w, ?_⟩
      refine (zme hex hp hI h3).mono fun e u' w' he => ?_
      obtain ⟨rfl, he⟩ := he
      cases e with
      | returned u =>
        obtain ⟨ρ1, A1, g1, g2⟩ := he
        exact zns hex hres hR h g1 (hs.trans g2) (kU g2.amono g2.keepA g2.sle _ _ hT) (kT g2 h4)
      | panicked c => exact he.elim
      | outgrown => exact he.elim
theorem zq5 {C : Cfg} (hext : z2u C) (hcatch : z34 C) : ∀ n, zjy C.P (exec C n) ∧ z9d C.P (run C n) := by
 intro n
 induction n with
 | zero => exact ⟨fun c S S' T T' F F' x h => by simp [exec] at h, fun f args S o S' h => by simp [run] at h⟩
 | succ n ih =>
  obtain ⟨ihe, ihr⟩ := ih
  constructor
  ·intro c S S' T T' F F' x h ρ A w a Q hI hT hF hQ
   have here : ∀ {x' : Ex} {e : Exit}, (∀ a' w', St C.P S ρ A w T S F a' w' → ExPost C.P S ρ A w x' T S F e a' w') → some (x', T, S, F) = some (x, T', S', F') → Q e a w := by
    intro x' e hp he
    simp only [Option.some.injEq, Prod.mk.injEq] at he
    obtain ⟨rfl, rfl, rfl, rfl⟩ := he
    exact hQ _ _ _ (hp a w ⟨ρ, A, hI, .refl, hT, hF⟩)
   cases c with
   | skip => exact wp_skip (here (x' := .norm) (fun _ _ hs => ⟨rfl, hs⟩) (by simpa [exec] using h))
   | label l => exact wp_label (here (x' := .norm) (fun _ _ hs => ⟨rfl, hs⟩) (by simpa [exec] using h))
   | exit id => exact wp_exit (here (x' := .exit id) (fun _ _ hs => ⟨rfl, hs⟩) (by simpa [exec] using h))
   | ret => exact wp_ret (here (x' := .ret) (fun _ _ hs => ⟨rfl, hs⟩) (by simpa [exec] using h))
   | region id ops dr =>
    cases dr with
    | false =>
     simp only [exec] at h
     refine wp_region ?_
     have := z4o hext ihr h (k := 0) rfl hI hT hF hQ
     rw [List.range_eq_range']
     simpa using this
    | true =>
     simp only [exec] at h
     split at h
     ·rename_i T1 S1 cs hseq
      split at h
      ·rename_i hd
       simp only [Option.some.injEq, Prod.mk.injEq] at h
       obtain ⟨rfl, rfl, rfl, rfl⟩ := h
       exact zo8 hext ihr (zj0 C n).2 hseq hd hI hT hF (fun a' w' hs => hQ _ _ _ ⟨rfl, hs⟩)
      ·cases h
     ·split at h
      ·rename_i v1 S1 cs p rest hseq
       split at h
       ·rename_i hd
        simp only [Option.some.injEq, Prod.mk.injEq] at h
        obtain ⟨rfl, rfl, rfl, rfl⟩ := h
        exact zff hext ihr (zj0 C n).2 hseq hd hI hT hF (fun a' w' c ⟨u, h1, h2, ρ', A', h3, h4, h5⟩ => hQ _ _ _ ⟨_, u, rfl, h1, h2, ρ', A', h3, h4, h5⟩)
       ·cases h
      ·cases h
   | seq c1 c2 =>
    simp only [exec] at h
    refine wp_seq ?_
    cases h1 : exec C n c1 T S F with
    | none => simp [h1] at h
    | some r =>
     obtain ⟨x1, T1, S1, F1⟩ := r
     refine z3t (ihe c1 h1 hI hT hF fun e a' w' he => ?_)
     cases x1 with
     | norm =>
      simp only [h1] at h
      cases e with
      | normal =>
       obtain ⟨_, ρ1, A1, g1, g2, g3, g4⟩ := he
       exact z3t (ihe c2 h g1 g3 g4 fun e a2 w2 he2 => hQ _ _ _ (he2.step g2))
      | exit k => exact absurd he.1 (by simp)
      | ret => exact absurd he.1 (by simp)
      | panic c => obtain ⟨y, v, h1, _⟩ := he; cases h1
      | goto l => exact he.elim
      | outgrown => exact he.elim
     | _ =>
      simp only [h1, Option.some.injEq, Prod.mk.injEq] at h
      obtain ⟨rfl, rfl, rfl, rfl⟩ := h
      cases e with
      | normal => exact absurd he.1 (by simp)
      | _ => exact hQ _ _ _ he
   | cond c a1 b1 =>
    simp only [exec] at h
    have hc := z1o hT c
    split at h
    ·rename_i hv
     rw [hv] at hc
     exact wp_cond_true (z3k hc) (z3t (ihe a1 h hI hT hF hQ))
    ·rename_i hv
     rw [hv] at hc
     exact wp_cond_false (z3k hc) (z3t (ihe b1 h hI hT hF hQ))
    ·cases h
   | block id b =>
    simp only [exec] at h
    refine wp_block ?_
    cases h1 : exec C n b T S F with
    | none => simp [h1] at h
    | some r =>
     obtain ⟨x1, T1, S1, F1⟩ := r
     refine z3t (ihe b h1 hI hT hF fun e a' w' he => ?_)
     cases x1 with
     | exit k =>
      simp only [h1] at h
      cases e with
      | exit k' =>
       obtain ⟨hk, hs⟩ := he
       simp only [Ex.exit.injEq] at hk
       subst hk
       simp only [Exit.inBlock]
       split at h
       ·rename_i hk
        rw [if_pos hk]
        simp only [Option.some.injEq, Prod.mk.injEq] at h
        obtain ⟨rfl, rfl, rfl, rfl⟩ := h
        exact hQ _ _ _ ⟨rfl, hs⟩
       ·rename_i hk
        rw [if_neg hk]
        simp only [Option.some.injEq, Prod.mk.injEq] at h
        obtain ⟨rfl, rfl, rfl, rfl⟩ := h
        exact hQ _ _ _ ⟨rfl, hs⟩
      | normal => exact absurd he.1 (by simp)
      | ret => exact absurd he.1 (by simp)
      | panic c => obtain ⟨y, v, h1, _⟩ := he; cases h1
      | goto l => exact he.elim
      | outgrown => exact he.elim
     | _ =>
      simp only [h1, Option.some.injEq, Prod.mk.injEq] at h
      obtain ⟨rfl, rfl, rfl, rfl⟩ := h
      cases e with
      | exit k' => exact absurd he.1 (by simp)
      | _ => exact hQ _ _ _ he
   | loop b =>
    simp only [exec] at h
    refine zc6 ?_
    cases h1 : exec C n b T S F with
    | none => simp [h1] at h
    | some r =>
     obtain ⟨x1, T1, S1, F1⟩ := r
     refine z3t (ihe b h1 hI hT hF fun e a' w' he => ?_)
     cases x1 with
     | norm =>
      simp only [h1] at h
      cases e with
      | normal =>
       obtain ⟨_, ρ1, A1, g1, g2, g3, g4⟩ := he
       exact ihe (.loop b) h g1 g3 g4 fun e a2 w2 he2 => hQ _ _ _ (he2.step g2)
      | exit k => exact absurd he.1 (by simp)
      | ret => exact absurd he.1 (by simp)
      | panic c => obtain ⟨y, v, h1, _⟩ := he; cases h1
      | goto l => exact he.elim
      | outgrown => exact he.elim
     | _ =>
      simp only [h1, Option.some.injEq, Prod.mk.injEq] at h
      obtain ⟨rfl, rfl, rfl, rfl⟩ := h
      cases e with
      | normal => exact absurd he.1 (by simp)
      | _ => exact hQ _ _ _ he
   | scope b =>
    simp only [exec] at h
    refine wp_scope_straight (z3t (ihe b h hI hT hF fun e a' w' he => ?_))
    cases e with
    | goto l => exact he.elim
    | _ => exact hQ _ _ _ he
   | _ => simp [exec] at h
  ·intro f args S o S' h ρ A w us hI hr
   simp only [run] at h
   split at h
   ·rename_i post hpost
    split at h
    ·rename_i g first caps
     split at h
     ·cases h
     ·rename_i o' S1 h1
      split at h
      ·cases h
      ·rename_i v hv
       simp only [Option.some.injEq, Prod.mk.injEq] at h
       obtain ⟨rfl, rfl⟩ := h
       simp only [qZ] at hr
       obtain ⟨u, us', hus, hu, rfl⟩ := hr
       have : us = #[u] := by rw [← Array.toList_inj]; exact hus
       subst this
       obtain ⟨fa, ca, rfl, g1, g2⟩ := zfp (zU hu)
       refine hcatch f post hpost S S1 g o' v hv ρ A w fa ca hI (zlt h1) fun ρ1 A1 w1 hI1 hs1 => ?_
       refine ihr g _ S o' S1 h1 ρ1 A1 w1 _ hI1 ?_
       have := wD (z1y hs1.amono hs1.keepA hs1.sle _ _ g1) (z1y hs1.amono hs1.keepA hs1.sle _ _ g2)
       simpa using this
    ·cases h
   ·split at h
    ·cases h
    ·rename_i b hb
     obtain ⟨fn, hf, hbody, hn, hres⟩ := z8c hb
     rw [hn] at h
     refine calls_of_wp_defers hf hbody ?_
     have hstart := z9z (P := C.P) (S := S) (ρ := ρ) (A := A) (w := w) fn.ntmps hr
     have good : ∀ {T1 : List V} {S1 : zA} {F1 : Dfs} {a' : Act} {w' : World}, endV C.P (exec C n) b.results T1 S1 F1 = some (o, S') → St C.P S ρ A w T1 S1 F1 a' w' → Leaves C.P fn a'.tmps (z3z C.P S ρ A w o S') a'.defers .returning w' := by
      intro T1 S1 F1 a' w' he hs
      obtain ⟨ρ1, A1, g1, g2, g3, g4⟩ := hs
      unfold endV at he
      cases hd : dfrV C.P (exec C n) F1 S1 with
      | none => simp [hd] at he
      | some S2 =>
       simp only [hd] at he
       cases hrs : jF C.P b.results T1 S2 with
       | none => simp [hrs] at he
       | some v =>
        simp only [hrs, Option.some.injEq, Prod.mk.injEq] at he
        obtain ⟨rfl, rfl⟩ := he
        rw [hres] at hrs
        exact zns ihe hrs (fun u w2 ⟨ρ2, A2, k1, k2, k3⟩ => ⟨v, rfl, ρ2, A2, k1, k2, k3⟩) hd g1 g2 g3 g4
     have case1 : ∀ {x : Ex} {T1 : List V} {S1 : zA} {F1 : Dfs}, (x = .norm ∨ x = .ret) → exec C n b.code (z14 fn.ntmps args) S [] = some (x, T1, S1, F1) → endV C.P (exec C n) b.results T1 S1 F1 = some (o, S') →
       b.code.wp C.P (bodyPostD C.P fn (z3z C.P S ρ A w o S')) { tmps := us ++ Array.replicate (fn.ntmps - us.size) undef, defers := [] } w := by
      intro x T1 S1 F1 hx hex1 he
      refine z3t (ihe b.code hex1 hI hstart rfl fun e a' w' hp => ?_)
      cases e with
      | normal => exact good he hp.2
      | ret => exact good he hp.2
      | exit k => rcases hx with rfl | rfl <;> exact absurd hp.1 (by simp)
      | panic c => obtain ⟨y, v, h1, _⟩ := hp; rcases hx with rfl | rfl <;> cases h1
      | goto l => exact hp.elim
      | outgrown => exact hp.elim
     split at h
     ·rename_i T1 S1 F1 h1
      exact case1 (.inl rfl) h1 h
     ·rename_i T1 S1 F1 h1
      exact case1 (.inr rfl) h1 h
     ·rename_i v T1 S1 h1
      simp only [Option.some.injEq, Prod.mk.injEq] at h
      obtain ⟨rfl, rfl⟩ := h
      refine z3t (ihe b.code h1 hI hstart rfl fun e a' w' hp => ?_)
      cases e with
      | panic c =>
       obtain ⟨y, u, k1, rfl, k2, ρ1, A1, k3, k4, k5⟩ := hp
       cases k1
       show Leaves C.P fn a'.tmps _ a'.defers _ w'
       rw [k2 rfl]
       exact ⟨v, u, rfl, rfl, ρ1, A1, k3, k4, k5⟩
      | normal => exact absurd hp.1 (by simp)
      | ret => exact absurd hp.1 (by simp)
      | exit k => exact absurd hp.1 (by simp)
      | goto l => exact hp.elim
      | outgrown => exact hp.elim
     ·cases h
theorem z4h {C : Cfg} (hext : z2u C) (hcatch : z34 C) (n : Nat) : zsi C.P (runD C n) := zdo hext (zq5 hext hcatch n).2
end
abbrev Post := Ex → List V → zA → Dfs → Prop
section
variable {C : Cfg}
def Ev (C : Cfg) (f : FuncId) (ds : List D) (o : Out) : Prop := ∃ n, runD C n f ds = some o
def EvS (C : Cfg) (f : FuncId) (args : List V) (S : zA) (Q : Out → zA → Prop) : Prop := ∃ n o S', run C n f args S = some (o, S') ∧ Q o S'
def Wp (C : Cfg) (c : Code) (T : List V) (S : zA) (F : Dfs) (Q : Post) : Prop := ∃ n x T' S' F', exec C n c T S F = some (x, T', S', F') ∧ Q x T' S' F'
def WpL (C : Cfg) (ops : Array Oper) (l : List Oper) (T : List V) (S : zA) (F : Dfs) (Q : Post) : Prop := ∃ n x T' S' F', seqV C (run C n) ops l T S F = some (x, T', S', F') ∧ Q x T' S' F'
def andThen (K : List V → zA → Dfs → Prop) (Q : Post) : Post
 | .norm, T, S, F => K T S F
 | x, T, S, F => Q x T S F
def inBlock (id : Nat) (Q : Post) : Post
 | .exit k, T, S, F => if k = id then Q .norm T S F else Q (.exit k) T S F
 | x, T, S, F => Q x T S F
theorem zcs {id k : Nat} {Q : Post} {T S F} : inBlock id Q (.exit k) T S F = if k = id then Q .norm T S F else Q (.exit k) T S F := rfl
theorem Wp.mono {c : Code} {T S F} {Q Q' : Post} (h : Wp C c T S F Q) (hq : ∀ x T' S' F', Q x T' S' F' → Q' x T' S' F') : Wp C c T S F Q' := by
 obtain ⟨n, x, T', S', F', h1, h2⟩ := h
 exact ⟨n, x, T', S', F', h1, hq _ _ _ _ h2⟩
theorem wp_skip {T S F} {Q : Post} (h : Q .norm T S F) : Wp C .skip T S F Q := ⟨1, _, _, _, _, rfl, h⟩
theorem wp_ret {T S F} {Q : Post} (h : Q .ret T S F) : Wp C .ret T S F Q := ⟨1, _, _, _, _, rfl, h⟩
theorem wp_exit {id T S F} {Q : Post} (h : Q (.exit id) T S F) : Wp C (.exit id) T S F Q := ⟨1, _, _, _, _, rfl, h⟩
theorem wp_label {l T S F} {Q : Post} (h : Q .norm T S F) : Wp C (.label l) T S F Q := ⟨1, _, _, _, _, rfl, h⟩
theorem wp_region {id ops T S F} {Q : Post} (h : WpL C ops ops.toList T S F Q) : Wp C (.region id ops false) T S F Q := by
 obtain ⟨n, x, T', S', F', h1, h2⟩ := h
 exact ⟨n + 1, x, T', S', F', by simpa [exec] using h1, h2⟩
theorem wp_seq {a b : Code} {T S F} {Q : Post} (h : Wp C a T S F (andThen (fun T' S' F' => Wp C b T' S' F' Q) Q)) : Wp C (.seq a b) T S F Q := by
 obtain ⟨n, x, T', S', F', h1, h2⟩ := h
 cases x with
 | norm =>
  obtain ⟨m, y, T2, S2, F2, h3, h4⟩ := h2
  refine ⟨max n m + 1, y, T2, S2, F2, ?_, h4⟩
  simp only [exec]
  rw [zah C (Nat.le_max_left n m) _ _ _ _ _ h1]
  exact zah C (Nat.le_max_right n m) _ _ _ _ _ h3
 | _ =>
  refine ⟨n + 1, _, T', S', F', ?_, h2⟩
  simp only [exec]
  rw [h1]
theorem wp_cond {c : Operand} {a b : Code} {T S F} {Q : Post} {v : Bool} (hv : zF T c = .d (.bool v)) (ha : v = true → Wp C a T S F Q) (hb : v = false → Wp C b T S F Q) : Wp C (.cond c a b) T S F Q := by
 cases v with
 | true =>
  obtain ⟨n, x, T', S', F', h1, h2⟩ := ha rfl
  exact ⟨n + 1, x, T', S', F', by simp only [exec, hv]; exact h1, h2⟩
 | false =>
  obtain ⟨n, x, T', S', F', h1, h2⟩ := hb rfl
  exact ⟨n + 1, x, T', S', F', by simp only [exec, hv]; exact h1, h2⟩
theorem wp_block {id : Nat} {b : Code} {T S F} {Q : Post} (h : Wp C b T S F (inBlock id Q)) : Wp C (.block id b) T S F Q := by
 obtain ⟨n, x, T', S', F', h1, h2⟩ := h
 cases x with
 | exit k =>
  rw [zcs] at h2
  by_cases hk : k = id
  ·rw [if_pos hk] at h2
   exact ⟨n + 1, _, T', S', F', by simp only [exec]; rw [h1]; simp [hk], h2⟩
  ·rw [if_neg hk] at h2
   exact ⟨n + 1, _, T', S', F', by simp only [exec]; rw [h1]; simp [hk], h2⟩
 | _ => exact ⟨n + 1, _, T', S', F', by simp only [exec]; rw [h1], h2⟩
theorem wp_scope {b : Code} {T S F} {Q : Post} (h : Wp C b T S F Q) : Wp C (.scope b) T S F Q := by
 obtain ⟨n, x, T', S', F', h1, h2⟩ := h
 exact ⟨n + 1, x, T', S', F', by simpa [exec] using h1, h2⟩
theorem wp_loop {b : Code} {T S F} {Q : Post} (h : Wp C b T S F (andThen (fun T' S' F' => Wp C (.loop b) T' S' F' Q) Q)) : Wp C (.loop b) T S F Q := by
 obtain ⟨n, x, T', S', F', h1, h2⟩ := h
 cases x with
 | norm =>
  obtain ⟨m, y, T2, S2, F2, h3, h4⟩ := h2
  refine ⟨max n m + 1, y, T2, S2, F2, ?_, h4⟩
  simp only [exec]
  rw [zah C (Nat.le_max_left n m) _ _ _ _ _ h1]
  exact zah C (Nat.le_max_right n m) _ _ _ _ _ h3
 | _ =>
  refine ⟨n + 1, _, T', S', F', ?_, h2⟩
  simp only [exec]
  rw [h1]
theorem zno {ops T S F} {Q : Post} (h : Q .norm T S F) : WpL C ops [] T S F Q := ⟨0, _, _, _, _, rfl, h⟩
def zci (o : Oper) : Bool := match o.op with | .buildSlice .. => false | _ => true
theorem z1e {P : Program} {T : List V} {o : Oper} {l : List Oper} (h : zci o = true) : z0y P T o l = none := by
 cases l with
 | nil => rfl
 | cons o2 l =>
  obtain ⟨dst, op, ty, pos, after, guard⟩ := o
  cases op <;> first | rfl | (simp [zci] at h)
theorem zm7 {f : FuncId} {b : Body} {ds : List D} {o : Out} (hx : C.ext f = none) (hc : C.catch_ f = none) (hb : zH C.P f = some b)
  (h : Wp C b.code (z14 b.ntmps (ds.map .d)) [] [] fun x T S F => (x = .norm ∨ x = .ret) ∧ F = [] ∧ ∃ v, jF C.P b.results T S = some v ∧ z6k S (.ret v) = some o) : Ev C f ds o := by
 obtain ⟨n, x, T, S, F, h1, h2, rfl, v, h3, h4⟩ := h
 refine ⟨n + 1, ?_⟩
 unfold runD answer
 simp only [hx, run, hc, hb, h1]
 rcases h2 with rfl | rfl <;> simp only [endV, dfrV, h3] <;> exact h4
theorem zjd {f : FuncId} {b : Body} {args : List V} {S : zA} {R : Out → zA → Prop} (hc : C.catch_ f = none) (hb : zH C.P f = some b)
  (h : Wp C b.code (z14 b.ntmps args) S [] fun x T S F => F = [] ∧ match x with | .norm => ∃ v, jF C.P b.results T S = some v ∧ R (.ret v) S | .ret => ∃ v, jF C.P b.results T S = some v ∧ R (.ret v) S | .pan v => R (.pan v) S | .exit _ => False) : EvS C f args S R := by
 obtain ⟨n, x, T, S', F, h1, rfl, h2⟩ := h
 cases x with
 | norm =>
  obtain ⟨v, h3, h4⟩ := h2
  exact ⟨n + 1, .ret v, S', by simp only [run, hc, hb, h1, endV, dfrV, h3], h4⟩
 | ret =>
  obtain ⟨v, h3, h4⟩ := h2
  exact ⟨n + 1, .ret v, S', by simp only [run, hc, hb, h1, endV, dfrV, h3], h4⟩
 | pan v => exact ⟨n + 1, .pan v, S', by simp only [run, hc, hb, h1], h2⟩
 | exit k => exact h2.elim
end
section
variable {C : Cfg}
def WpR (C : Cfg) (ops : Array Oper) (dst : Option Tmp) (l : List Oper) (T : List V) (S : zA) (F : Dfs) (Q : Post) : Option Rs → Prop
 | some (.val v S' _) => WpL C ops l (putT T dst v) S' F Q
 | some (.skip S' _) => WpL C ops l (putT T dst (.tup [])) S' F Q
 | some (.enter f args) => ∃ n o S' c, kJ C (run C n) f args S = some (o, S', c) ∧ match o with | .ret v => WpL C ops l (putT T dst v) S' F Q | .pan v => Q (.pan v) T S' F
 | some (.dfr f args) => WpL C ops l (putT T dst (.tup [])) S ((f, args) :: F) Q
 | some (.pan v) => Q (.pan v) T S F
 | none => False
theorem zak {n m : Nat} (h : n ≤ m) {f : FuncId} {args : List V} {S : zA} {r : Out × zA × Nat} (hc : kJ C (run C n) f args S = some r) : kJ C (run C m) f args S = some r := z3b (z3v C h) hc
theorem z8r {ops : Array Oper} {dst : Option Tmp} {op : Op} {ty : TypeId} {pos : String} {after : Array Edge} {l : List Oper} {T : List V} {S : zA} {F : Dfs} {Q : Post} (hp : z0y C.P T ⟨dst, op, ty, pos, after, none⟩ l = none) :
  WpL C ops (⟨dst, op, ty, pos, after, none⟩ :: l) T S F Q = WpR C ops dst l T S F Q (opV C.P S T ⟨dst, op, ty, pos, after, none⟩) := by
 apply propext
 constructor
 ·rintro ⟨n, x, T', S', F', h1, h2⟩
  simp only [seqV, hp, zW] at h1
  cases ho : opV C.P S T ⟨dst, op, ty, pos, after, none⟩ with
  | none => simp [ho] at h1
  | some r =>
   simp only [ho] at h1
   cases r with
   | val v S2 c => exact ⟨n, x, T', S', F', h1, h2⟩
   | skip S2 c => exact ⟨n, x, T', S', F', h1, h2⟩
   | dfr f args => exact ⟨n, x, T', S', F', h1, h2⟩
   | pan v =>
    simp only [Option.some.injEq, Prod.mk.injEq] at h1
    obtain ⟨rfl, rfl, rfl, rfl⟩ := h1
    exact h2
   | enter f args =>
    simp only at h1
    cases hc : kJ C (run C n) f args S with
    | none => simp [hc] at h1
    | some q =>
     obtain ⟨o, S2, c⟩ := q
     refine ⟨n, o, S2, c, hc, ?_⟩
     simp only [hc] at h1
     cases o with
     | ret v => exact ⟨n, x, T', S', F', h1, h2⟩
     | pan v =>
      simp only [Option.some.injEq, Prod.mk.injEq] at h1
      obtain ⟨rfl, rfl, rfl, rfl⟩ := h1
      exact h2
 ·intro h
  cases ho : opV C.P S T ⟨dst, op, ty, pos, after, none⟩ with
  | none => simp [ho, WpR] at h
  | some r =>
   simp only [ho] at h
   cases r with
   | val v S2 c =>
    obtain ⟨n, x, T', S', F', h1, h2⟩ := h
    exact ⟨n, x, T', S', F', by simp only [seqV, hp, zW, ho]; exact h1, h2⟩
   | skip S2 c =>
    obtain ⟨n, x, T', S', F', h1, h2⟩ := h
    exact ⟨n, x, T', S', F', by simp only [seqV, hp, zW, ho]; exact h1, h2⟩
   | dfr f args =>
    obtain ⟨n, x, T', S', F', h1, h2⟩ := h
    exact ⟨n, x, T', S', F', by simp only [seqV, hp, zW, ho]; exact h1, h2⟩
   | pan v => exact ⟨0, .pan v, T, S, F, by simp only [seqV, hp, zW, ho], h⟩
   | enter f args =>
    obtain ⟨n, o, S2, c, hc, h⟩ := h
    cases o with
    | ret v =>
     obtain ⟨m, x, T', S', F', h1, h2⟩ := h
     refine ⟨max n m, x, T', S', F', ?_, h2⟩
     simp only [seqV, hp, zW, ho, zak (Nat.le_max_left n m) hc]
     exact z0g (z3v C (Nat.le_max_right n m)) h1
    | pan v => exact ⟨n, .pan v, T, S2, F, by simp only [seqV, hp, zW, ho, hc], h⟩
theorem z01 {ops : Array Oper} {dst : Option Tmp} {op : Op} {ty : TypeId} {pos : String} {after : Array Edge} {l : List Oper} {T : List V} {S : zA} {F : Dfs} {Q : Post} (hn : zci ⟨dst, op, ty, pos, after, none⟩ = true) :
  WpL C ops (⟨dst, op, ty, pos, after, none⟩ :: l) T S F Q = WpR C ops dst l T S F Q (opV C.P S T ⟨dst, op, ty, pos, after, none⟩) := z8r (z1e hn)
theorem zpr {ops : Array Oper} {T : List V} {S : zA} {F : Dfs} {Q : Post} : WpL C ops [] T S F Q = Q .norm T S F := by
 apply propext
 constructor
 ·rintro ⟨n, x, T', S', F', h1, h2⟩
  simp only [seqV, Option.some.injEq, Prod.mk.injEq] at h1
  obtain ⟨rfl, rfl, rfl, rfl⟩ := h1
  exact h2
 ·exact zno
section
variable {ops : Array Oper} {dst : Option Tmp} {l : List Oper} {T : List V} {S S' : zA} {F : Dfs} {Q : Post} {v : V} {c : Nat}
theorem zue : WpR C ops dst l T S F Q (some (.val v S' c)) = WpL C ops l (putT T dst v) S' F Q := rfl
theorem zqk : WpR C ops dst l T S F Q (some (.skip S' c)) = WpL C ops l (putT T dst (.tup [])) S' F Q := rfl
theorem zln {d : Tmp} : putT T (some d) v = T.set d v := rfl
theorem zmk : putT T none v = T := rfl
theorem ztv {t : Tmp} : zF T (.tmp t) = T.getD t .junk := rfl
theorem zkd {a x : V} {r : List V} : (a :: r).getD 0 x = a := rfl
theorem zih {a x : V} {r : List V} {n : Nat} : (a :: r).getD (n + 1) x = r.getD n x := rfl
theorem zjk {a x : V} {r : List V} : (a :: r).set 0 x = x :: r := rfl
theorem zkl {a x : V} {r : List V} {n : Nat} : (a :: r).set (n + 1) x = a :: r.set n x := rfl
end
section
variable {ops : Array Oper} {dst : Option Tmp} {ty : TypeId} {pos : String} {after : Array Edge} {l : List Oper} {T : List V} {S : zA} {F : Dfs} {Q : Post}
theorem zpo {x : Operand} : WpL C ops (⟨dst, .move x, ty, pos, after, none⟩ :: l) T S F Q = WpL C ops l (putT T dst (zF T x)) S F Q := z01 rfl
theorem zl2 {x : Operand} : WpL C ops (⟨dst, .assign x, ty, pos, after, none⟩ :: l) T S F Q = WpL C ops l (putT T dst (zF T x)) S F Q := z01 rfl
theorem zsu {op : BinOp} {t u : TypeId} {x y : Operand} : WpL C ops (⟨dst, .binOp op t x y u, ty, pos, after, none⟩ :: l) T S F Q = WpR C ops dst l T S F Q ((binV C.P op t (zF T x) (zF T y)).map fun v => .val v S 0) := z01 rfl
theorem zvr {op : UnOp} {t : TypeId} {x : Operand} : WpL C ops (⟨dst, .unOp op t x, ty, pos, after, none⟩ :: l) T S F Q = WpR C ops dst l T S F Q ((unV op (zF T x)).map fun v => .val v S 0) := z01 rfl
theorem zm6 {t : TypeId} {x y : Operand} : WpL C ops (⟨dst, .indexAddr t x y, ty, pos, after, none⟩ :: l) T S F Q = WpR C ops dst l T S F Q ((qL C.P S t (zF T x) (zF T y)).map fun v => .val v S 1) := z01 rfl
theorem zr0 {t : TypeId} {x y : Operand} : WpL C ops (⟨dst, .index t x y, ty, pos, after, none⟩ :: l) T S F Q = WpR C ops dst l T S F Q ((z3x C.P t (zF T x) (zF T y)).map fun v => .val v S 0) := z01 rfl
theorem zbz {t : TypeId} {x : Operand} {f : Nat} : WpL C ops (⟨dst, .fieldAddr t x f, ty, pos, after, none⟩ :: l) T S F Q = WpR C ops dst l T S F Q ((zP C.P t f (zF T x)).map fun v => .val v S 0) := z01 rfl
theorem zmm {t : TypeId} {x : Operand} {f : Nat} : WpL C ops (⟨dst, .field t x f, ty, pos, after, none⟩ :: l) T S F Q = WpR C ops dst l T S F Q ((z8y C.P t f (zF T x)).map fun v => .val v S 0) := z01 rfl
theorem zp2 {t : TypeId} {x : Operand} : WpL C ops (⟨dst, .load t x, ty, pos, after, none⟩ :: l) T S F Q = WpR C ops dst l T S F Q ((jW C.P S t (zF T x)).map fun v => .val v S 1) := z01 rfl
theorem zli {t : TypeId} {x y : Operand} : WpL C ops (⟨dst, .store t x y, ty, pos, after, none⟩ :: l) T S F Q = WpR C ops dst l T S F Q ((z1f C.P S t (zF T x) (zF T y)).map fun S' => .skip S' 3) := z01 rfl
theorem zhl {t u : TypeId} {x : Operand} : WpL C ops (⟨dst, .convert t u x, ty, pos, after, none⟩ :: l) T S F Q = WpR C ops dst l T S F Q ((jU C.P S t u (zF T x)).map fun r => .val r.1 S r.2) := z01 rfl
theorem zdq {t : TypeId} {x y : Operand} : WpL C ops (⟨dst, .makeSlice t x y, ty, pos, after, none⟩ :: l) T S F Q = WpR C ops dst l T S F Q ((wK C.P S t (zF T x) (zF T y)).map fun r => .val r.1 r.2 2) := z01 rfl
theorem zlf {t : TypeId} {x : Operand} {lo hi : Option Operand} : WpL C ops (⟨dst, .slice t x lo hi none, ty, pos, after, none⟩ :: l) T S F Q = WpR C ops dst l T S F Q ((jN C.P S t (zF T x) (lo.map (zF T)) (hi.map (zF T))).map fun v => .val v S 1) := z01 rfl
theorem zk9 {t : TypeId} {x k : Operand} {ok : Bool} : WpL C ops (⟨dst, .lookup t x k ok, ty, pos, after, none⟩ :: l) T S F Q = WpR C ops dst l T S F Q ((kP C.P S t (zF T x) (zF T k) ok).map fun v => .val v S 1) := z01 rfl
theorem zch {t : TypeId} {x k v : Operand} : WpL C ops (⟨dst, .mapUpdate t x k v, ty, pos, after, none⟩ :: l) T S F Q = WpR C ops dst l T S F Q ((qU C.P S t (zF T x) (zF T k) (zF T v)).map fun S' => .skip S' 3) := z01 rfl
theorem zi4 {b : Builtin} {args : Array Operand} {ts : Array TypeId} : WpL C ops (⟨dst, .call { callee := .builtin b, args := args, argTypes := ts }, ty, pos, after, none⟩ :: l) T S F Q = WpR C ops dst l T S F Q (zY C.P S b ts.toList (args.toList.map (zF T))) := z01 rfl
theorem zmc {t : TypeId} {ps : Array (Nat × Operand)} : WpL C ops (⟨dst, .build t ps, ty, pos, after, none⟩ :: l) T S F Q = WpR C ops dst l T S F Q ((z1q C.P t (ps.toList.map fun p => (p.1, zF T p.2))).map fun v => .val v S 0) := z01 rfl
theorem zhw {x : Operand} {i : Nat} : WpL C ops (⟨dst, .extract x i, ty, pos, after, none⟩ :: l) T S F Q = WpR C ops dst l T S F Q (match zF T x with | .tup vs => (match vs[i]? with | some v => some (.val v S 0) | none => none) | _ => none) := z01 rfl
end
end
inductive Fr where
 | seq (b : Code)
 | block (id : Nat)
 | loop (b : Code)
section
variable {C : Cfg}
def post (C : Cfg) : List Fr → Post → Post
 | [], Q => Q
 | .seq b :: k, Q => andThen (fun T S F => Wp C b T S F (post C k Q)) (post C k Q)
 | .block id :: k, Q => inBlock id (post C k Q)
 | .loop b :: k, Q => andThen (fun T S F => Wp C (.loop b) T S F (post C k Q)) (post C k Q)
theorem z53 {n m : Nat} {f : FuncId} {args : List V} {S : zA} {r r' : Out × zA × Nat} (h : kJ C (run C n) f args S = some r) (h' : kJ C (run C m) f args S = some r') : r = r' := by
 have h1 := zak (Nat.le_max_left n m) h
 have h2 := zak (Nat.le_max_right n m) h'
 rw [h1] at h2; exact Option.some.inj h2
section
variable {T : List V} {S : zA} {F : Dfs} {k : List Fr} {Q : Post}
theorem qP {c : Code} : Wp C c T S F Q = Wp C c T S F (post C [] Q) := rfl
theorem zrl {a b : Code} : Wp C (.seq a b) T S F (post C k Q) = Wp C a T S F (post C (.seq b :: k) Q) := by
 apply propext
 constructor
 ·rintro ⟨n, x, T', S', F', h1, h2⟩
  cases n with
  | zero => simp [exec] at h1
  | succ n =>
   simp only [exec] at h1
   cases ha : exec C n a T S F with
   | none => simp [ha] at h1
   | some r =>
    obtain ⟨y, T2, S2, F2⟩ := r
    simp only [ha] at h1
    cases y with
    | norm => exact ⟨n, .norm, T2, S2, F2, ha, n, x, T', S', F', h1, h2⟩
    | _ =>
     simp only [Option.some.injEq, Prod.mk.injEq] at h1
     obtain ⟨rfl, rfl, rfl, rfl⟩ := h1
     exact ⟨n, _, _, _, _, ha, h2⟩
 ·exact Vm.wp_seq
theorem zko {id : Nat} {ops : Array Oper} : Wp C (.region id ops false) T S F Q = WpL C ops ops.toList T S F Q := by
 apply propext
 constructor
 ·rintro ⟨n, x, T', S', F', h1, h2⟩
  cases n with
  | zero => simp [exec] at h1
  | succ n => exact ⟨n, x, T', S', F', by simpa [exec] using h1, h2⟩
 ·exact Vm.wp_region
theorem zov {ops : Array Oper} {Q : Post} : WpL C ops [] T S F Q = Q .norm T S F := zpr
theorem ztb {b : Code} : post C (.seq b :: k) Q .norm T S F = Wp C b T S F (post C k Q) := rfl
theorem zo3 {b : Code} : post C (.loop b :: k) Q .norm T S F = Wp C (.loop b) T S F (post C k Q) := rfl
theorem zm2 {id : Nat} : post C (.block id :: k) Q .norm T S F = post C k Q .norm T S F := rfl
theorem ze8 {b : Code} {i : Nat} : post C (.seq b :: k) Q (.exit i) T S F = post C k Q (.exit i) T S F := rfl
theorem zcv {b : Code} {i : Nat} : post C (.loop b :: k) Q (.exit i) T S F = post C k Q (.exit i) T S F := rfl
theorem z26 {id i : Nat} : post C (.block id :: k) Q (.exit i) T S F = if i = id then post C k Q .norm T S F else post C k Q (.exit i) T S F := rfl
theorem zhj {b : Code} : post C (.seq b :: k) Q .ret T S F = post C k Q .ret T S F := rfl
theorem ze4 {b : Code} : post C (.loop b :: k) Q .ret T S F = post C k Q .ret T S F := rfl
theorem zcd {id : Nat} : post C (.block id :: k) Q .ret T S F = post C k Q .ret T S F := rfl
theorem zhq {b : Code} {v : V} : post C (.seq b :: k) Q (.pan v) T S F = post C k Q (.pan v) T S F := rfl
theorem zep {b : Code} {v : V} : post C (.loop b :: k) Q (.pan v) T S F = post C k Q (.pan v) T S F := rfl
theorem zc7 {id : Nat} {v : V} : post C (.block id :: k) Q (.pan v) T S F = post C k Q (.pan v) T S F := rfl
theorem zuc {x : Ex} : post C [] Q x T S F = Q x T S F := rfl
theorem zar {c : Code} {x : Ex} (h : ∀ n T S F, exec C (n + 1) c T S F = some (x, T, S, F)) : Wp C c T S F Q = Q x T S F := by
 apply propext
 constructor
 ·rintro ⟨n, y, T', S', F', h1, h2⟩
  cases n with
  | zero => simp [exec] at h1
  | succ n =>
   rw [h, Option.some.injEq] at h1
   simp only [Prod.mk.injEq] at h1
   obtain ⟨rfl, rfl, rfl, rfl⟩ := h1
   exact h2
 ·exact fun hq => ⟨1, _, _, _, _, h 0 T S F, hq⟩
theorem zon : Wp C .skip T S F Q = Q .norm T S F := zar fun _ _ _ _ => by simp [exec]
theorem zuz : Wp C .ret T S F Q = Q .ret T S F := zar fun _ _ _ _ => by simp [exec]
theorem zp4 {id : Nat} : Wp C (.exit id) T S F Q = Q (.exit id) T S F := zar fun _ _ _ _ => by simp [exec]
theorem zmf {l : Nat} : Wp C (.label l) T S F Q = Q .norm T S F := zar fun _ _ _ _ => by simp [exec]
theorem zm3 {id : Nat} {b : Code} : Wp C (.block id b) T S F (post C k Q) = Wp C b T S F (post C (.block id :: k) Q) := by
 apply propext
 constructor
 ·rintro ⟨n, x, T', S', F', h1, h2⟩
  cases n with
  | zero => simp [exec] at h1
  | succ n =>
   simp only [exec] at h1
   cases ha : exec C n b T S F with
   | none => simp [ha] at h1
   | some r =>
    obtain ⟨y, T2, S2, F2⟩ := r
    simp only [ha] at h1
    refine ⟨n, y, T2, S2, F2, ha, ?_⟩
    cases y with
    | exit i =>
     simp only at h1
     rw [z26]
     split at h1 <;> (rename_i hi; simp only [Option.some.injEq, Prod.mk.injEq] at h1; obtain ⟨rfl, rfl, rfl, rfl⟩ := h1)
     ·rw [if_pos hi]; exact h2
     ·rw [if_neg hi]; exact h2
    | _ =>
     simp only [Option.some.injEq, Prod.mk.injEq] at h1
     obtain ⟨rfl, rfl, rfl, rfl⟩ := h1
     exact h2
 ·exact Vm.wp_block
theorem zmq {b : Code} : Wp C (.scope b) T S F Q = Wp C b T S F Q := by
 apply propext
 constructor
 ·rintro ⟨n, x, T', S', F', h1, h2⟩
  cases n with
  | zero => simp [exec] at h1
  | succ n => exact ⟨n, x, T', S', F', by simpa [exec] using h1, h2⟩
 ·exact Vm.wp_scope
theorem qE {b : Code} (h : Wp C b T S F (post C (.loop b :: k) Q)) : Wp C (.loop b) T S F (post C k Q) := Vm.wp_loop h
def WpB (C : Cfg) (v : V) (a b : Code) (T : List V) (S : zA) (F : Dfs) (Q : Post) : Prop :=
 match v with
 | .d (.bool x) => (x = true → Wp C a T S F Q) ∧ (x = false → Wp C b T S F Q)
 | _ => False
theorem zpa {c : Operand} {a b : Code} : Wp C (.cond c a b) T S F Q = WpB C (zF T c) a b T S F Q := by
 apply propext
 constructor
 ·rintro ⟨n, x, T', S', F', h1, h2⟩
  cases n with
  | zero => simp [exec] at h1
  | succ n =>
   simp only [exec] at h1
   unfold WpB
   split at h1
   ·rename_i hv; rw [hv]; exact ⟨fun _ => ⟨n, x, T', S', F', h1, h2⟩, (fun h => by cases h)⟩
   ·rename_i hv; rw [hv]; exact ⟨(fun h => by cases h), fun _ => ⟨n, x, T', S', F', h1, h2⟩⟩
   ·cases h1
 ·intro h
  unfold WpB at h
  split at h
  ·rename_i x hv; exact Vm.wp_cond hv h.1 h.2
  ·exact h.elim
theorem zqv {a b : Code} : WpB C (.d (.bool true)) a b T S F Q = Wp C a T S F Q := by simp [WpB]
theorem zmj {a b : Code} : WpB C (.d (.bool false)) a b T S F Q = Wp C b T S F Q := by simp [WpB]
theorem zp3 {x : D} : frz S zS (.d x) = some x := rfl
theorem zgm {x : D} : qB S zS (.d x) = [] := rfl
theorem jY {ops : Array Oper} {dst : Option Tmp} {l : List Oper} {f : FuncId} {ds : List D} {v : V} (hs : C.shared f = false) (he : Ev C f ds (.ret v)) : WpR C ops dst l T S F Q (some (.enter f (ds.map .d))) = WpL C ops l (putT T dst v) S F Q := by
 obtain ⟨n, hn⟩ := he
 have hfz : ∀ ds : List D, allO (frz S zS) (ds.map V.d) = some ds := by
  intro ds
  induction ds with
  | nil => rfl
  | cons x r ih => simp only [List.map_cons, allO, ih, zp3]
 have hid : ∀ ds : List D, ((ds.map V.d).flatMap (qB S zS)).isEmpty = true := by
  intro ds
  induction ds with
  | nil => rfl
  | cons x r ih => simp only [List.map_cons, List.flatMap_cons, zgm, List.nil_append]; exact ih
 have hc : kJ C (run C n) f (ds.map .d) S = some (.ret v, S, 1) := by
  have hn' : answer C (run C n) f ds = some (.ret v) := hn
  unfold kJ
  simp only [hs, Bool.false_eq_true, if_false, hfz, hn', hid, if_true]
 apply propext
 constructor
 ·rintro ⟨m, o, S', c, h1, h2⟩
  have := z53 h1 hc
  simp only [Prod.mk.injEq] at this
  obtain ⟨rfl, rfl, rfl⟩ := this
  exact h2
 ·exact fun h => ⟨n, _, _, _, hc, h⟩
end
end
section
variable {C : Cfg} {P : Program} {T : List V} {S : zA} {F : Dfs} {Q : Post}
def OwnS (S : zA) (v : V) (e : TypeId) (xs : List V) : Prop :=
 (v = .ts [] ∧ xs = []) ∨ ∃ id, v = .rs id 0 xs.length ∧ S[id]? = some (.row xs e)
theorem OwnS.nil {e : TypeId} : OwnS S (.ts []) e [] := .inl ⟨rfl, rfl⟩
def NotAt (v : V) (j : Nat) : Prop := ∀ off l, v ≠ .rs j off l
theorem NotAt.ts {xs : List D} {j : Nat} : NotAt (.ts xs) j := fun _ _ h => by cases h
theorem qG {S : zA} {i : Nat} {o : Ob} (h : S[i]? = some o) : i < S.length := by
 rcases Nat.lt_or_ge i S.length with h' | h'
 ·exact h'
 ·simp [List.getElem?_eq_none h'] at h
theorem zhu {t e : TypeId} {v : V} {xs : List V} {d : D} (hu : P.underlying t = some (.slice e)) (hz : zOk P e = true) (hs : (sz P e).isSome = true) (ho : OwnS S v e xs) (hf : z03 P e d = true) (hr : room P e (xs.length + 1) = true) :
  ∃ v' S' c, qD P S t t v (.ts [d]) = some (v', S', c) ∧ OwnS S' v' e (xs ++ [.d d]) ∧ (∀ j o, S[j]? = some o → NotAt v j → S'[j]? = some o ∧ NotAt v' j) ∧ S.length ≤ S'.length := by
 have hft : qH P e (.d d) = true := by
  unfold z03 at hf; unfold qH
  simp only [Bool.and_eq_true] at hf ⊢
  refine ⟨⟨rfl, hf.1⟩, ?_⟩
  simpa [V.cells] using hf.2
 have hsrc : srcV P S e t (.ts [d]) = some [.d d] := by
  simp [srcV, hu, wS, hft, hs]
 rcases ho with ⟨rfl, rfl⟩ | ⟨id, rfl, h1⟩
 ·refine ⟨.rs S.length 0 1, S ++ [.row [.d d] e], 2, ?_, .inr ⟨S.length, rfl, by simp⟩, fun j o hj _ => ⟨?_, ?_⟩, by simp⟩
  ·simp only [qD, hu, hsrc, hz, if_true]
   have hr1 : room P e 1 = true := by simpa using hr
   simp [hr1]
  ·rw [List.getElem?_append_left (qG hj)]; exact hj
  ·intro off l h
   have := qG hj
   cases h; omega
 ·refine ⟨.rs S.length 0 (xs.length + 1), S.set id .dead ++ [.row (xs ++ [.d d]) e], 3, ?_, .inr ⟨S.length, by simp, by simp⟩, fun j o hj hn => ⟨?_, ?_⟩, by simp⟩
  ·simp only [qD, hu, hsrc, hz, if_true, h1]
   simp [hr]
  ·have hj' := qG hj
   rw [List.getElem?_append_left (by simpa using hj'), List.getElem?_set_ne]
   ·exact hj
   ·rintro rfl; exact hn 0 _ rfl
  ·intro off l h
   have := qG hj
   cases h; omega
theorem zfo {n : Nat} : ∀ l : List D, allO (frz S (n + 1)) (l.map V.d) = some l
 | [] => rfl
 | x :: r => by simp only [List.map_cons, allO, zfo r]; rfl
theorem zpi {e : TypeId} {v : V} {ds : List D} (ho : OwnS S v e (ds.map .d)) : frz S zS v = some (.sl ds) := by
 rcases ho with ⟨rfl, h⟩ | ⟨id, rfl, h1⟩
 ·have : ds = [] := by simpa using h
  subst this; rfl
 ·simp only [List.length_map]
  show (match S[id]? with
   | some (.row xs e) => if 0 + ds.length ≤ xs.length && (allO (frz S 11) xs).isSome then (allO (frz S 11) ((xs.drop 0).take ds.length)).map D.sl else none
   | some (.fz xs e) => if 0 + ds.length ≤ xs.length then some (D.sl ((xs.drop 0).take ds.length)) else none
   | _ => none) = _
  have h2 : ((ds.map V.d).drop 0).take ds.length = ds.map V.d := by rw [List.drop_zero, List.take_of_length_le (by simp)]
  simp only [h1, h2, zfo, List.length_map, Option.isSome_some, Bool.and_true, Option.map_some]
  simp
end
section
variable {P : Program} {S : zA}
theorem zl1 {t tx : TypeId} {s x : V} : zY P S .append [t, tx] [s, x] = (qD P S t tx s x).map fun r => .val r.1 r.2.1 r.2.2 := rfl
theorem zej {t tx : TypeId} {s x : V} : zY P S .copy [t, tx] [s, x] = (copyV P S t tx s x).map fun r => .val r.1 r.2 3 := rfl
theorem zcm {t e : TypeId} {xs : List D} (hu : P.underlying t = some (.slice e)) : zY P S .len [t] [.d (.sl xs)] = some (.val (.d (.int .i64 xs.length)) S 0) := by simp [zY, hu]
theorem ztc {t e : TypeId} {xs : List D} (hu : P.underlying t = some (.slice e)) : zY P S .len [t] [.ts xs] = some (.val (.d (.int .i64 xs.length)) S 0) := by simp [zY, hu]
theorem zt6 {t e : TypeId} {i o n : Nat} (hu : P.underlying t = some (.slice e)) : zY P S .len [t] [.rs i o n] = some (.val (.d (.int .i64 n)) S 0) := by simp [zY, hu]
theorem zqg {t : TypeId} {s : List UInt8} (hu : P.underlying t = some .string) : zY P S .len [t] [.d (.str s)] = some (.val (.d (.int .i64 s.length)) S 0) := by simp [zY, hu]
theorem zuv {t e : TypeId} {xs : List D} {i : Nat} {y : D} (hu : P.underlying t = some (.slice e)) (hy : xs[i]? = some y) (hf : z03 P e y = true) : qL P S t (.d (.sl xs)) (.d (.int .i64 i)) = some (.d (.ptr y)) := by
 have h1 : i < xs.length := by
  rcases Nat.lt_or_ge i xs.length with h' | h'
  ·exact h'
  ·simp [List.getElem?_eq_none h'] at hy
 have h0 : (0 : Int) ≤ i := by omega
 have h2 : (i : Int) < xs.length := by omega
 simp only [qL, intOf?, hu, h0, h2, and_self, if_true, Int.toNat_natCast, hy, hf]
theorem binI {op : BinOp} {t : TypeId} {k k' : IntKind} {a b : Int} : binV P op t (.d (.int k a)) (.d (.int k' b)) = (kG op k a k' b).map .d := rfl
theorem binS {op : BinOp} {t : TypeId} {a b : List UInt8} : binV P op t (.d (.str a)) (.d (.str b)) = (z39 op a b).map .d := rfl
theorem ztt {k : IntKind} {a b : Int} : kG .add k a k b = some (.int k (k.wrap (a + b))) := by simp [kG]
theorem zsf {k : IntKind} {a b : Int} : kG .sub k a k b = some (.int k (k.wrap (a - b))) := by simp [kG]
theorem zv1 {k : IntKind} {a b : Int} : kG .mul k a k b = some (.int k (k.wrap (a * b))) := by simp [kG]
theorem zua {k : IntKind} {a b : Int} : kG .lss k a k b = some (.bool (decide (a < b))) := by simp [kG]
theorem zrj {k : IntKind} {a b : Int} : kG .leq k a k b = some (.bool (decide (a ≤ b))) := by simp [kG]
theorem zu0 {k : IntKind} {a b : Int} : kG .gtr k a k b = some (.bool (decide (a > b))) := by simp [kG]
theorem zup {k : IntKind} {a b : Int} : kG .geq k a k b = some (.bool (decide (a ≥ b))) := by simp [kG]
theorem wrap64 {a : Int} (h : -9223372036854775808 ≤ a ∧ a ≤ 9223372036854775807) : IntKind.i64.wrap a = a := IntWalk.i64_in _ (by omega)
end
section
variable {C : Cfg} {ops : Array Oper} {dst : Option Tmp} {ty : TypeId} {pos : String} {after : Array Edge} {l : List Oper} {T : List V} {S : zA} {F : Dfs} {Q : Post}
theorem z52 {t : TypeId} {n : Nat} {ps : Array (Nat × Operand)} {d2 : Option Tmp} {c : Call} {ty2 : TypeId} {pos2 : String} {after2 : Array Edge} {g2 : Option (Nat × Bool)} :
  WpL C ops (⟨dst, .buildSlice t n ps, ty, pos, after, none⟩ :: ⟨d2, .call c, ty2, pos2, after2, g2⟩ :: l) T S F Q = WpR C ops dst (⟨d2, .call c, ty2, pos2, after2, g2⟩ :: l) T S F Q (opV C.P S T ⟨dst, .buildSlice t n ps, ty, pos, after, none⟩) := z8r rfl
end
section
variable (C : Cfg) (ops : Array Oper) (base : Nat)
def z7o (rd : List Nat) (i c : Nat) : Prop := 2 < c → (rd.all fun r => ((befs ops).getD i 0).testBit r) = true
def WpE (F : Dfs) (Q : Post) (K : List Nat → List (Nat × Nat) → List V → zA → Prop) (rd : List Nat) (cs : List (Nat × Nat)) (i : Nat) (dst : Option Tmp) (T : List V) (S : zA) : Option Rs → Prop
 | some (.val v S' c) => z7o ops rd i (num2 c) ∧ K (if num2 c = 1 then i :: rd else rd) (cs ++ [(i, num2 c)]) (putT T dst v) S'
 | some (.skip S' _) => z7o ops rd i 3 ∧ K rd (cs ++ [(i, 3)]) (putT T dst (.tup [])) S'
 | some (.enter f args) => ∃ n v S' c, kJ C (run C n) f args S = some (.ret v, S', c) ∧ z7o ops rd i (num2 c) ∧ K (if num2 c = 1 then i :: rd else rd) (cs ++ [(i, num2 c)]) (putT T dst v) S'
 | _ => False
def WpA (K : List (Nat × Nat) → List V → zA → Prop) (cs : List (Nat × Nat)) (i : Nat) (dst : Option Tmp) (T : List V) (S : zA) : Option (Ob × (Nat → V)) → Prop
 | some (ob, f) => S[base + i]? = some .hole ∧ K (cs ++ [(i, 2)]) (putT T dst (f (base + i))) (S.set (base + i) ob)
 | none => False
def WpD (F : Dfs) (Q : Post) : List Nat → List (Nat × Nat) → List Nat → List V → zA → Prop
 | rd, cs, [], T, S => z2r ops cs = true ∧ Q .norm T S F
 | rd, cs, i :: is, T, S => match ops[i]? with
  | none => False
  | some o => match zW ops T o with
   | none => False
   | some false => WpD F Q rd (cs ++ [(i, 0)]) is (putT T o.dst (.tup [])) S
   | some true => if kI o = true then WpA base (fun cs T S => WpD F Q rd cs is T S) cs i o.dst T S (addO C.P T o)
    else WpE C ops F Q (fun rd cs T S => WpD F Q rd cs is T S) rd cs i o.dst T S (opV C.P S T o)
end
section
variable {C : Cfg} {ops : Array Oper} {base : Nat} {F : Dfs} {Q : Post}
theorem zm4 {call : kO} {b : List Nat} {i : Nat} {S : zA} {rd : List Nat} {ws : List (Nat × List V × V)} (hw : ws.map (·.1) = rd) (h : (rd.all fun r => (b.getD i 0).testBit r) = true) : ws.all (jV C call ops b base i S) = true := by
 subst hw
 rw [List.all_eq_true] at h ⊢
 intro w hw
 have := h w.1 (List.mem_map.2 ⟨w, hw, rfl⟩)
 unfold jV
 rw [this]; rfl
theorem zux : ∀ {is : List Nat} {rd : List Nat} {cs : List (Nat × Nat)} {T : List V} {S : zA}, WpD C ops base F Q rd cs is T S → ∀ ws : List (Nat × List V × V), ws.map (·.1) = rd → ∃ n T' S' cs', seqC C (run C n) ops (befs ops) base ws is T S = some (T', S', cs') ∧ z2r ops (cs ++ cs') = true ∧ Q .norm T' S' F
 | [], rd, cs, T, S, h, ws, hw => ⟨0, T, S, [], rfl, by simpa [WpD] using h.1, h.2⟩
 | i :: is, rd, cs, T, S, h, ws, hw => by
  have go : ∀ (n : Nat) (o : Oper) (v : V) (S' : zA) (c : Nat), ops[i]? = some o → effC C (run C n) ops (base + i) o T S = some (v, S', c) → z7o ops rd i c → WpD C ops base F Q (if c = 1 then i :: rd else rd) (cs ++ [(i, c)]) is (putT T o.dst v) S' →
    ∃ n T' S' cs', seqC C (run C n) ops (befs ops) base ws (i :: is) T S = some (T', S', cs') ∧ z2r ops (cs ++ cs') = true ∧ Q .norm T' S' F := by
   intro n o v S' c ho he hb hd
   obtain ⟨m, T2, S2, cs2, h1, h2, h3⟩ := zux hd (if c = 1 then (i, T, v) :: ws else ws) (by split <;> simp [hw])
   refine ⟨max n m, T2, S2, (i, c) :: cs2, ?_, by simpa using h2, h3⟩
   have he' := vY (z3v C (Nat.le_max_left n m)) he
   have h1' := z5n (z3v C (Nat.le_max_right n m)) h1
   simp only [seqC, ho, he']
   rw [if_neg, h1']
   rintro ⟨hc, hall⟩
   rw [zm4 hw (hb hc)] at hall
   cases hall
  simp only [WpD] at h
  cases ho : ops[i]? with
  | none => simp [ho] at h
  | some o =>
   simp only [ho] at h
   cases hwt : zW ops T o with
   | none => simp [hwt] at h
   | some b =>
    simp only [hwt] at h
    cases b with
    | false => exact go 0 o (.tup []) S 0 ho (by simp [effC, hwt]) (fun hc => by omega) h
    | true =>
     cases hk : kI o with
     | true =>
      simp only [hk, if_true] at h
      cases hadd : addO C.P T o with
      | none => simp [hadd, WpA] at h
      | some q =>
       obtain ⟨ob, f⟩ := q
       simp only [hadd, WpA] at h
       exact go 0 o (f (base + i)) (S.set (base + i) ob) 2 ho (by simp [effC, hwt, hk, hadd, h.1]) (fun hc => by omega) h.2
     | false =>
      simp only [hk, Bool.false_eq_true, if_false] at h
      cases hop : opV C.P S T o with
      | none => simp [hop, WpE] at h
      | some r =>
       simp only [hop] at h
       cases r with
       | val v S' c => exact go 0 o v S' (num2 c) ho (by simp [effC, hwt, hk, hop]) h.1 h.2
       | skip S' c => exact go 0 o (.tup []) S' 3 ho (by simp [effC, hwt, hk, hop]) h.1 h.2
       | enter f args =>
        obtain ⟨n, v, S', c, h1, h2, h3⟩ := h
        exact go n o v S' (num2 c) ho (by simp [effC, hwt, hk, hop, h1]) h2 h3
       | dfr f args => exact h.elim
       | pan v => exact h.elim
theorem kM {id : Nat} {T : List V} {S : zA} {is : List Nat} {h : Nat} (ho : z1l C.shared ops = is) (hh : vR ops = h) (hd : WpD C ops S.length F Q [] [] is T (S ++ List.replicate h .hole)) : Wp C (.region id ops true) T S F Q := by
 subst ho; subst hh
 obtain ⟨n, T', S', cs', h1, h2, h3⟩ := zux hd [] rfl
 exact ⟨n + 1, .norm, T', S', F, by simp only [exec, h1]; rw [if_pos (by simpa using h2)], h3⟩
def WpW (K : Prop) (K' : Prop) : Option Bool → Prop
 | some true => K
 | some false => K'
 | none => False
theorem zou {rd : List Nat} {cs : List (Nat × Nat)} {i : Nat} {is : List Nat} {T : List V} {S : zA} : WpD C ops base F Q rd cs (i :: is) T S = match ops[i]? with
  | none => False
  | some o => match zW ops T o with
   | none => False
   | some false => WpD C ops base F Q rd (cs ++ [(i, 0)]) is (putT T o.dst (.tup [])) S
   | some true => if kI o = true then WpA base (fun cs T S => WpD C ops base F Q rd cs is T S) cs i o.dst T S (addO C.P T o)
    else WpE C ops F Q (fun rd cs T S => WpD C ops base F Q rd cs is T S) rd cs i o.dst T S (opV C.P S T o) := rfl
end
section
variable {C : Cfg} {ops : Array Oper} {dst : Option Tmp} {op : Op} {ty : TypeId} {pos : String} {after : Array Edge} {l : List Oper} {T : List V} {S : zA} {F : Dfs} {Q : Post}
theorem zla {g : Nat × Bool} (hn : zci ⟨dst, op, ty, pos, after, none⟩ = true) : WpL C ops (⟨dst, op, ty, pos, after, some g⟩ :: l) T S F Q = WpW (WpL C ops (⟨dst, op, ty, pos, after, none⟩ :: l) T S F Q) (WpL C ops l (putT T dst (.tup [])) S F Q) ((qT ops T g.1).map (· == some g.2)) := by
 obtain ⟨j, w⟩ := g
 have hp : z0y C.P T ⟨dst, op, ty, pos, after, some (j, w)⟩ l = none := z1e hn
 have hp' : z0y C.P T ⟨dst, op, ty, pos, after, none⟩ l = none := z1e hn
 have hopv : opV C.P S T ⟨dst, op, ty, pos, after, some (j, w)⟩ = opV C.P S T ⟨dst, op, ty, pos, after, none⟩ := by cases op <;> rfl
 apply propext
 cases hy : (qT ops T j).map (· == some w) with
 | none =>
  simp only [WpW, iff_false]
  rintro ⟨n, x, T', S', F', h1, h2⟩
  simp [seqV, hp, zW, hy] at h1
 | some b =>
  cases b with
  | false =>
   simp only [WpW]
   constructor
   ·rintro ⟨n, x, T', S', F', h1, h2⟩
    simp only [seqV, hp, zW, hy] at h1
    exact ⟨n, x, T', S', F', h1, h2⟩
   ·rintro ⟨n, x, T', S', F', h1, h2⟩
    exact ⟨n, x, T', S', F', by simp only [seqV, hp, zW, hy]; exact h1, h2⟩
  | true =>
   simp only [WpW]
   constructor
   ·rintro ⟨n, x, T', S', F', h1, h2⟩
    simp only [seqV, hp, zW, hy, hopv] at h1
    exact ⟨n, x, T', S', F', by simp only [seqV, hp', zW]; exact h1, h2⟩
   ·rintro ⟨n, x, T', S', F', h1, h2⟩
    simp only [seqV, hp', zW] at h1
    exact ⟨n, x, T', S', F', by simp only [seqV, hp, zW, hy, hopv]; exact h1, h2⟩
def WpG (C : Cfg) (ops : Array Oper) (dst : Option Tmp) (op : Op) (ty : TypeId) (pos : String) (after : Array Edge) (l : List Oper) (T : List V) (S : zA) (F : Dfs) (Q : Post) : Option Bool → Prop
 | some true => WpL C ops (⟨dst, op, ty, pos, after, none⟩ :: l) T S F Q
 | some false => WpL C ops l (putT T dst (.tup [])) S F Q
 | none => False
theorem kB {g : Nat × Bool} (hn : zci ⟨dst, op, ty, pos, after, none⟩ = true) : WpL C ops (⟨dst, op, ty, pos, after, some g⟩ :: l) T S F Q = WpG C ops dst op ty pos after l T S F Q ((qT ops T g.1).map (· == some g.2)) := by
 rw [zla hn]
 cases (qT ops T g.1).map (· == some g.2) with
 | none => rfl
 | some b => cases b <;> rfl
end
section
variable {C : Cfg} {ops : Array Oper} {dst : Option Tmp} {ty : TypeId} {pos : String} {after : Array Edge} {l : List Oper} {T : List V} {S S' : zA} {F : Dfs} {Q : Post} {k : List Fr}
theorem zn8 {g : FuncId} {args : Array Operand} {ts : Array TypeId} : WpL C ops (⟨dst, .call { callee := .value (.func g), args := args, argTypes := ts }, ty, pos, after, none⟩ :: l) T S F Q = WpR C ops dst l T S F Q (if (args.toList.map (zF T)).all V.one && (zH C.P g).isSome then some (.enter g ([] ++ args.toList.map (zF T) ++ [])) else none) := z01 rfl
theorem zpe {c a b : Operand} : WpL C ops (⟨dst, .pick c a b, ty, pos, after, none⟩ :: l) T S F Q = WpR C ops dst l T S F Q (match zF T c with | .d (.bool true) => some (.val (zF T a) S 0) | .d (.bool false) => some (.val (zF T b) S 0) | _ => none) := z01 rfl
theorem ze7 {x : Operand} : WpL C ops (⟨dst, .nilCheck x, ty, pos, after, none⟩ :: l) T S F Q = WpR C ops dst l T S F Q (match zF T x with | .ref i ix off => some (.val (.ref i ix off) S 0) | .d (.ptr x) => some (.val (.d (.ptr x)) S 0) | .fn (.func g) a b => some (.val (.fn (.func g) a b) S 0) | _ => none) := z01 rfl
theorem zlb {x : Operand} {g : Nat × Bool} : WpL C ops (⟨dst, .move x, ty, pos, after, some g⟩ :: l) T S F Q = WpG C ops dst (.move x) ty pos after l T S F Q ((qT ops T g.1).map (· == some g.2)) := kB rfl
theorem zhn {x : Operand} {g : Nat × Bool} : WpL C ops (⟨dst, .assign x, ty, pos, after, some g⟩ :: l) T S F Q = WpG C ops dst (.assign x) ty pos after l T S F Q ((qT ops T g.1).map (· == some g.2)) := kB rfl
theorem zo7 {op : BinOp} {t u : TypeId} {x y : Operand} {g : Nat × Bool} : WpL C ops (⟨dst, .binOp op t x y u, ty, pos, after, some g⟩ :: l) T S F Q = WpG C ops dst (.binOp op t x y u) ty pos after l T S F Q ((qT ops T g.1).map (· == some g.2)) := kB rfl
theorem zsz {op : UnOp} {t : TypeId} {x : Operand} {g : Nat × Bool} : WpL C ops (⟨dst, .unOp op t x, ty, pos, after, some g⟩ :: l) T S F Q = WpG C ops dst (.unOp op t x) ty pos after l T S F Q ((qT ops T g.1).map (· == some g.2)) := kB rfl
theorem zk3 {t : TypeId} {x y : Operand} {g : Nat × Bool} : WpL C ops (⟨dst, .indexAddr t x y, ty, pos, after, some g⟩ :: l) T S F Q = WpG C ops dst (.indexAddr t x y) ty pos after l T S F Q ((qT ops T g.1).map (· == some g.2)) := kB rfl
theorem zo4 {t : TypeId} {x y : Operand} {g : Nat × Bool} : WpL C ops (⟨dst, .index t x y, ty, pos, after, some g⟩ :: l) T S F Q = WpG C ops dst (.index t x y) ty pos after l T S F Q ((qT ops T g.1).map (· == some g.2)) := kB rfl
theorem zbj {t : TypeId} {x : Operand} {f : Nat} {g : Nat × Bool} : WpL C ops (⟨dst, .fieldAddr t x f, ty, pos, after, some g⟩ :: l) T S F Q = WpG C ops dst (.fieldAddr t x f) ty pos after l T S F Q ((qT ops T g.1).map (· == some g.2)) := kB rfl
theorem zjm {t : TypeId} {x : Operand} {f : Nat} {g : Nat × Bool} : WpL C ops (⟨dst, .field t x f, ty, pos, after, some g⟩ :: l) T S F Q = WpG C ops dst (.field t x f) ty pos after l T S F Q ((qT ops T g.1).map (· == some g.2)) := kB rfl
theorem zlp {t : TypeId} {x : Operand} {g : Nat × Bool} : WpL C ops (⟨dst, .load t x, ty, pos, after, some g⟩ :: l) T S F Q = WpG C ops dst (.load t x) ty pos after l T S F Q ((qT ops T g.1).map (· == some g.2)) := kB rfl
theorem zfd {t u : TypeId} {x : Operand} {g : Nat × Bool} : WpL C ops (⟨dst, .convert t u x, ty, pos, after, some g⟩ :: l) T S F Q = WpG C ops dst (.convert t u x) ty pos after l T S F Q ((qT ops T g.1).map (· == some g.2)) := kB rfl
theorem zkr {t : TypeId} {x : Operand} {lo hi : Option Operand} {g : Nat × Bool} : WpL C ops (⟨dst, .slice t x lo hi none, ty, pos, after, some g⟩ :: l) T S F Q = WpG C ops dst (.slice t x lo hi none) ty pos after l T S F Q ((qT ops T g.1).map (· == some g.2)) := kB rfl
theorem zi2 {t : TypeId} {x k : Operand} {ok : Bool} {g : Nat × Bool} : WpL C ops (⟨dst, .lookup t x k ok, ty, pos, after, some g⟩ :: l) T S F Q = WpG C ops dst (.lookup t x k ok) ty pos after l T S F Q ((qT ops T g.1).map (· == some g.2)) := kB rfl
theorem znc {c : Call} {g : Nat × Bool} : WpL C ops (⟨dst, .call c, ty, pos, after, some g⟩ :: l) T S F Q = WpG C ops dst (.call c) ty pos after l T S F Q ((qT ops T g.1).map (· == some g.2)) := kB rfl
theorem zf4 {x : Operand} {i : Nat} {g : Nat × Bool} : WpL C ops (⟨dst, .extract x i, ty, pos, after, some g⟩ :: l) T S F Q = WpG C ops dst (.extract x i) ty pos after l T S F Q ((qT ops T g.1).map (· == some g.2)) := kB rfl
theorem zmu {c a b : Operand} {g : Nat × Bool} : WpL C ops (⟨dst, .pick c a b, ty, pos, after, some g⟩ :: l) T S F Q = WpG C ops dst (.pick c a b) ty pos after l T S F Q ((qT ops T g.1).map (· == some g.2)) := kB rfl
theorem zj5 {t : TypeId} {ps : Array (Nat × Operand)} {g : Nat × Bool} : WpL C ops (⟨dst, .build t ps, ty, pos, after, some g⟩ :: l) T S F Q = WpG C ops dst (.build t ps) ty pos after l T S F Q ((qT ops T g.1).map (· == some g.2)) := kB rfl
theorem zbl {x : Operand} {g : Nat × Bool} : WpL C ops (⟨dst, .nilCheck x, ty, pos, after, some g⟩ :: l) T S F Q = WpG C ops dst (.nilCheck x) ty pos after l T S F Q ((qT ops T g.1).map (· == some g.2)) := kB rfl
theorem z5d {id : Nat} : post C (.block id :: k) Q (.exit id) T S F = post C k Q .norm T S F := by rw [z26, if_pos rfl]
theorem z73 {id i : Nat} (h : i ≠ id) : post C (.block id :: k) Q (.exit i) T S F = post C k Q (.exit i) T S F := by rw [z26, if_neg h]
theorem zqx {op : Op} : WpG C ops dst op ty pos after l T S F Q (some true) = WpL C ops (⟨dst, op, ty, pos, after, none⟩ :: l) T S F Q := rfl
theorem zn6 {op : Op} : WpG C ops dst op ty pos after l T S F Q (some false) = WpL C ops l (putT T dst (.tup [])) S F Q := rfl
end
theorem zoh {T : List V} {k : IntKind} {n : Int} : zF T (.const (.int k n)) = .d (.int k n) := rfl
theorem znb {T : List V} {b : Bool} : zF T (.const (.bool b)) = .d (.bool b) := rfl
theorem zos {T : List V} {s : ByteArray} : zF T (.const (.string s)) = .d (.str (strOf s)) := rfl
theorem zo9 {T : List V} : zF T (.const (.slice none 0 0)) = .ts [] := rfl
theorem zlo {T : List V} : zF T (.const (.map none)) = .d .nilm := rfl
theorem zn0 {T : List V} : zF T (.const (.pointer none)) = .d .nilp := rfl
theorem zk4 {T : List V} {f : FuncId} : zF T (.func f) = .fn (.func f) [] [] := rfl
theorem zqo {k : IntKind} {a b : Int} : kG .eql k a k b = some (.bool (decide (a = b))) := by simp [kG]; rfl
theorem zqp {k : IntKind} {a b : Int} : kG .neq k a k b = some (.bool (decide (a ≠ b))) := by simp [kG]; rfl
def bs1 (P : Program) (S : zA) (t : TypeId) (v : V) : Option Rs :=
 match P.underlying t with
 | some (.slice e) => match zeroV P e, sz P e with
  | some z, some k => if qH P e z = true ∧ qH P e v = true ∧ k ≤ 16777216 ∧ k ≠ 0 then
    match asD v with
    | some d => some (.val (.ts [d]) S 0)
    | none => some (.val (.rs S.length 0 1) (S ++ [.row [v] e]) 2)
   else none
  | _, _ => none
 | _ => none
theorem ztp {P : Program} {S : zA} {T : List V} {t : TypeId} {x : Operand} {dst : Option Tmp} {ty : TypeId} {pos : String} {after : Array Edge} {g : Option (Nat × Bool)} : opV P S T ⟨dst, .buildSlice t 1 #[(0, x)], ty, pos, after, g⟩ = bs1 P S t (zF T x) := by
 simp only [opV, bs1]
 cases P.underlying t with
 | none => rfl
 | some td =>
  cases td <;> try rfl
  rename_i e
  cases hz : zeroV P e with
  | none => simp only [hz]
  | some z =>
   cases hk : sz P e with
   | none => simp only [hz, hk]
   | some k =>
    simp only [hz, hk, litV, List.map_cons, List.map_nil, List.foldl_cons, List.foldl_nil, List.replicate_succ, List.replicate_zero, List.set_cons_zero, allO, List.all_cons, List.all_nil, Bool.and_true, Nat.one_mul]
    by_cases h : qH P e z = true ∧ qH P e (zF T x) = true ∧ k ≤ 16777216 ∧ k ≠ 0
    ·rw [if_pos h, if_pos (by simp [h])]
     cases asD (zF T x) <;> rfl
    ·rw [if_neg h, if_neg]
     simpa [and_assoc] using h
theorem zvz {f : V → Bool} {a : V} {l : List V} : (a :: l).all f = (f a && l.all f) := rfl
theorem zv7 {f : V → Bool} : ([] : List V).all f = true := rfl
theorem z19 {b : Bool} : unV .not (.d (.bool b)) = some (.d (.bool (!b))) := rfl
theorem zv6 {x : D} : V.one (.d x) = true := rfl
theorem zt2 {xs : List D} : V.one (.ts xs) = true := rfl
theorem ztx {i o n : Nat} : V.one (.rs i o n) = true := rfl
theorem zo2 {xs : List V} : V.one (.agg xs) = true := rfl
theorem zob {i o n : Nat} : V.one (.ref i o n) = true := rfl
theorem zu5 {i : Nat} : V.one (.mr i) = true := rfl
theorem ztf {f : Fn} {a b : List V} : V.one (.fn f a b) = true := rfl
theorem zvv {p : Prop} [Decidable p] (h : p) : decide p = true := decide_eq_true h
theorem zvf {p : Prop} [Decidable p] (h : ¬ p) : decide p = false := decide_eq_false h
section
variable {C : Cfg}
theorem vmp :
 (∀ {T : List V} {S : zA} {F : Dfs} {k : List Fr} {Q : Post} {a b : Code}, Wp C (.seq a b) T S F (post C k Q) = Wp C a T S F (post C (.seq b :: k) Q)) ∧
 (∀ {T : List V} {S : zA} {F : Dfs} {Q : Post} {id : Nat} {ops : Array Oper}, Wp C (.region id ops false) T S F Q = WpL C ops ops.toList T S F Q) ∧
 (∀ {T : List V} {S : zA} {F : Dfs} {ops : Array Oper} {Q : Post}, WpL C ops [] T S F Q = Q .norm T S F) ∧
 (∀ {T : List V} {S : zA} {F : Dfs} {k : List Fr} {Q : Post} {b : Code}, post C (.seq b :: k) Q .norm T S F = Wp C b T S F (post C k Q)) ∧
 (∀ {T : List V} {S : zA} {F : Dfs} {k : List Fr} {Q : Post} {b : Code} {i : Nat}, post C (.seq b :: k) Q (.exit i) T S F = post C k Q (.exit i) T S F) ∧
 (∀ {T : List V} {S : zA} {F : Dfs} {k : List Fr} {Q : Post} {b : Code}, post C (.seq b :: k) Q .ret T S F = post C k Q .ret T S F) ∧
 (∀ {T : List V} {S : zA} {F : Dfs} {k : List Fr} {Q : Post} {b : Code} {v : V}, post C (.seq b :: k) Q (.pan v) T S F = post C k Q (.pan v) T S F) ∧
 (∀ {T : List V} {S : zA} {F : Dfs} {k : List Fr} {Q : Post} {b : Code}, post C (.loop b :: k) Q .norm T S F = Wp C (.loop b) T S F (post C k Q)) ∧
 (∀ {T : List V} {S : zA} {F : Dfs} {k : List Fr} {Q : Post} {b : Code} {i : Nat}, post C (.loop b :: k) Q (.exit i) T S F = post C k Q (.exit i) T S F) ∧
 (∀ {T : List V} {S : zA} {F : Dfs} {k : List Fr} {Q : Post} {b : Code}, post C (.loop b :: k) Q .ret T S F = post C k Q .ret T S F) ∧
 (∀ {T : List V} {S : zA} {F : Dfs} {k : List Fr} {Q : Post} {b : Code} {v : V}, post C (.loop b :: k) Q (.pan v) T S F = post C k Q (.pan v) T S F) ∧
 (∀ {T : List V} {S : zA} {F : Dfs} {k : List Fr} {Q : Post} {id : Nat}, post C (.block id :: k) Q .norm T S F = post C k Q .norm T S F) ∧
 (∀ {T : List V} {S : zA} {F : Dfs} {k : List Fr} {Q : Post} {id : Nat}, post C (.block id :: k) Q .ret T S F = post C k Q .ret T S F) ∧
 (∀ {T : List V} {S : zA} {F : Dfs} {k : List Fr} {Q : Post} {id : Nat} {v : V}, post C (.block id :: k) Q (.pan v) T S F = post C k Q (.pan v) T S F) ∧
 (∀ {T : List V} {S : zA} {F : Dfs} {k : List Fr} {Q : Post} {id : Nat}, post C (.block id :: k) Q (.exit id) T S F = post C k Q .norm T S F) ∧
 (∀ {T : List V} {S : zA} {F : Dfs} {k : List Fr} {Q : Post} {id i : Nat} (h : i ≠ id), post C (.block id :: k) Q (.exit i) T S F = post C k Q (.exit i) T S F) ∧
 (∀ {T : List V} {S : zA} {F : Dfs} {Q : Post} {x : Ex}, post C [] Q x T S F = Q x T S F) ∧
 (∀ {T : List V} {S : zA} {F : Dfs} {Q : Post}, Wp C .skip T S F Q = Q .norm T S F) ∧
 (∀ {T : List V} {S : zA} {F : Dfs} {Q : Post}, Wp C .ret T S F Q = Q .ret T S F) ∧
 (∀ {T : List V} {S : zA} {F : Dfs} {Q : Post} {id : Nat}, Wp C (.exit id) T S F Q = Q (.exit id) T S F) ∧
 (∀ {T : List V} {S : zA} {F : Dfs} {Q : Post} {l : Nat}, Wp C (.label l) T S F Q = Q .norm T S F) ∧
 (∀ {T : List V} {S : zA} {F : Dfs} {k : List Fr} {Q : Post} {id : Nat} {b : Code}, Wp C (.block id b) T S F (post C k Q) = Wp C b T S F (post C (.block id :: k) Q)) ∧
 (∀ {T : List V} {S : zA} {F : Dfs} {Q : Post} {b : Code}, Wp C (.scope b) T S F Q = Wp C b T S F Q) ∧
 (∀ {T : List V} {S : zA} {F : Dfs} {Q : Post} {c : Operand} {a b : Code}, Wp C (.cond c a b) T S F Q = WpB C (zF T c) a b T S F Q) ∧
 (∀ {ops : Array Oper} {dst : Option Tmp} {ty : TypeId} {pos : String} {after : Array Edge} {l : List Oper} {T : List V} {S : zA} {F : Dfs} {Q : Post} {x : Operand}, WpL C ops (⟨dst, .move x, ty, pos, after, none⟩ :: l) T S F Q = WpL C ops l (putT T dst (zF T x)) S F Q) ∧
 (∀ {ops : Array Oper} {dst : Option Tmp} {ty : TypeId} {pos : String} {after : Array Edge} {l : List Oper} {T : List V} {S : zA} {F : Dfs} {Q : Post} {x : Operand}, WpL C ops (⟨dst, .assign x, ty, pos, after, none⟩ :: l) T S F Q = WpL C ops l (putT T dst (zF T x)) S F Q) ∧
 (∀ {ops : Array Oper} {dst : Option Tmp} {ty : TypeId} {pos : String} {after : Array Edge} {l : List Oper} {T : List V} {S : zA} {F : Dfs} {Q : Post} {op : BinOp} {t u : TypeId} {x y : Operand}, WpL C ops (⟨dst, .binOp op t x y u, ty, pos, after, none⟩ :: l) T S F Q = WpR C ops dst l T S F Q ((binV C.P op t (zF T x) (zF T y)).map fun v => .val v S 0)) ∧
 (∀ {ops : Array Oper} {dst : Option Tmp} {ty : TypeId} {pos : String} {after : Array Edge} {l : List Oper} {T : List V} {S : zA} {F : Dfs} {Q : Post} {op : UnOp} {t : TypeId} {x : Operand}, WpL C ops (⟨dst, .unOp op t x, ty, pos, after, none⟩ :: l) T S F Q = WpR C ops dst l T S F Q ((unV op (zF T x)).map fun v => .val v S 0)) ∧
 (∀ {ops : Array Oper} {dst : Option Tmp} {ty : TypeId} {pos : String} {after : Array Edge} {l : List Oper} {T : List V} {S : zA} {F : Dfs} {Q : Post} {t : TypeId} {x y : Operand}, WpL C ops (⟨dst, .indexAddr t x y, ty, pos, after, none⟩ :: l) T S F Q = WpR C ops dst l T S F Q ((qL C.P S t (zF T x) (zF T y)).map fun v => .val v S 1)) ∧
 (∀ {ops : Array Oper} {dst : Option Tmp} {ty : TypeId} {pos : String} {after : Array Edge} {l : List Oper} {T : List V} {S : zA} {F : Dfs} {Q : Post} {t : TypeId} {x y : Operand}, WpL C ops (⟨dst, .index t x y, ty, pos, after, none⟩ :: l) T S F Q = WpR C ops dst l T S F Q ((z3x C.P t (zF T x) (zF T y)).map fun v => .val v S 0)) ∧
 (∀ {ops : Array Oper} {dst : Option Tmp} {ty : TypeId} {pos : String} {after : Array Edge} {l : List Oper} {T : List V} {S : zA} {F : Dfs} {Q : Post} {t : TypeId} {x : Operand} {f : Nat}, WpL C ops (⟨dst, .fieldAddr t x f, ty, pos, after, none⟩ :: l) T S F Q = WpR C ops dst l T S F Q ((zP C.P t f (zF T x)).map fun v => .val v S 0)) ∧
 (∀ {ops : Array Oper} {dst : Option Tmp} {ty : TypeId} {pos : String} {after : Array Edge} {l : List Oper} {T : List V} {S : zA} {F : Dfs} {Q : Post} {t : TypeId} {x : Operand} {f : Nat}, WpL C ops (⟨dst, .field t x f, ty, pos, after, none⟩ :: l) T S F Q = WpR C ops dst l T S F Q ((z8y C.P t f (zF T x)).map fun v => .val v S 0)) ∧
 (∀ {ops : Array Oper} {dst : Option Tmp} {ty : TypeId} {pos : String} {after : Array Edge} {l : List Oper} {T : List V} {S : zA} {F : Dfs} {Q : Post} {t : TypeId} {x : Operand}, WpL C ops (⟨dst, .load t x, ty, pos, after, none⟩ :: l) T S F Q = WpR C ops dst l T S F Q ((jW C.P S t (zF T x)).map fun v => .val v S 1)) ∧
 (∀ {ops : Array Oper} {dst : Option Tmp} {ty : TypeId} {pos : String} {after : Array Edge} {l : List Oper} {T : List V} {S : zA} {F : Dfs} {Q : Post} {t : TypeId} {x y : Operand}, WpL C ops (⟨dst, .store t x y, ty, pos, after, none⟩ :: l) T S F Q = WpR C ops dst l T S F Q ((z1f C.P S t (zF T x) (zF T y)).map fun S' => .skip S' 3)) ∧
 (∀ {ops : Array Oper} {dst : Option Tmp} {ty : TypeId} {pos : String} {after : Array Edge} {l : List Oper} {T : List V} {S : zA} {F : Dfs} {Q : Post} {t u : TypeId} {x : Operand}, WpL C ops (⟨dst, .convert t u x, ty, pos, after, none⟩ :: l) T S F Q = WpR C ops dst l T S F Q ((jU C.P S t u (zF T x)).map fun r => .val r.1 S r.2)) ∧
 (∀ {ops : Array Oper} {dst : Option Tmp} {ty : TypeId} {pos : String} {after : Array Edge} {l : List Oper} {T : List V} {S : zA} {F : Dfs} {Q : Post} {t : TypeId} {x y : Operand}, WpL C ops (⟨dst, .makeSlice t x y, ty, pos, after, none⟩ :: l) T S F Q = WpR C ops dst l T S F Q ((wK C.P S t (zF T x) (zF T y)).map fun r => .val r.1 r.2 2)) ∧
 (∀ {ops : Array Oper} {dst : Option Tmp} {ty : TypeId} {pos : String} {after : Array Edge} {l : List Oper} {T : List V} {S : zA} {F : Dfs} {Q : Post} {t : TypeId} {x : Operand} {lo hi : Option Operand}, WpL C ops (⟨dst, .slice t x lo hi none, ty, pos, after, none⟩ :: l) T S F Q = WpR C ops dst l T S F Q ((jN C.P S t (zF T x) (lo.map (zF T)) (hi.map (zF T))).map fun v => .val v S 1)) ∧
 (∀ {ops : Array Oper} {dst : Option Tmp} {ty : TypeId} {pos : String} {after : Array Edge} {l : List Oper} {T : List V} {S : zA} {F : Dfs} {Q : Post} {t : TypeId} {x k : Operand} {ok : Bool}, WpL C ops (⟨dst, .lookup t x k ok, ty, pos, after, none⟩ :: l) T S F Q = WpR C ops dst l T S F Q ((kP C.P S t (zF T x) (zF T k) ok).map fun v => .val v S 1)) ∧
 (∀ {ops : Array Oper} {dst : Option Tmp} {ty : TypeId} {pos : String} {after : Array Edge} {l : List Oper} {T : List V} {S : zA} {F : Dfs} {Q : Post} {t : TypeId} {x k v : Operand}, WpL C ops (⟨dst, .mapUpdate t x k v, ty, pos, after, none⟩ :: l) T S F Q = WpR C ops dst l T S F Q ((qU C.P S t (zF T x) (zF T k) (zF T v)).map fun S' => .skip S' 3)) ∧
 (∀ {ops : Array Oper} {dst : Option Tmp} {ty : TypeId} {pos : String} {after : Array Edge} {l : List Oper} {T : List V} {S : zA} {F : Dfs} {Q : Post} {b : Builtin} {args : Array Operand} {ts : Array TypeId}, WpL C ops (⟨dst, .call { callee := .builtin b, args := args, argTypes := ts }, ty, pos, after, none⟩ :: l) T S F Q = WpR C ops dst l T S F Q (zY C.P S b ts.toList (args.toList.map (zF T)))) ∧
 (∀ {ops : Array Oper} {dst : Option Tmp} {ty : TypeId} {pos : String} {after : Array Edge} {l : List Oper} {T : List V} {S : zA} {F : Dfs} {Q : Post} {t : TypeId} {ps : Array (Nat × Operand)}, WpL C ops (⟨dst, .build t ps, ty, pos, after, none⟩ :: l) T S F Q = WpR C ops dst l T S F Q ((z1q C.P t (ps.toList.map fun p => (p.1, zF T p.2))).map fun v => .val v S 0)) ∧
 (∀ {ops : Array Oper} {dst : Option Tmp} {ty : TypeId} {pos : String} {after : Array Edge} {l : List Oper} {T : List V} {S : zA} {F : Dfs} {Q : Post} {x : Operand} {i : Nat}, WpL C ops (⟨dst, .extract x i, ty, pos, after, none⟩ :: l) T S F Q = WpR C ops dst l T S F Q (match zF T x with | .tup vs => (match vs[i]? with | some v => some (.val v S 0) | none => none) | _ => none)) ∧
 (∀ {ops : Array Oper} {dst : Option Tmp} {ty : TypeId} {pos : String} {after : Array Edge} {l : List Oper} {T : List V} {S : zA} {F : Dfs} {Q : Post} {g : FuncId} {args : Array Operand} {ts : Array TypeId}, WpL C ops (⟨dst, .call { callee := .value (.func g), args := args, argTypes := ts }, ty, pos, after, none⟩ :: l) T S F Q = WpR C ops dst l T S F Q (if (args.toList.map (zF T)).all V.one && (zH C.P g).isSome then some (.enter g ([] ++ args.toList.map (zF T) ++ [])) else none)) ∧
 (∀ {ops : Array Oper} {dst : Option Tmp} {ty : TypeId} {pos : String} {after : Array Edge} {l : List Oper} {T : List V} {S : zA} {F : Dfs} {Q : Post} {c a b : Operand}, WpL C ops (⟨dst, .pick c a b, ty, pos, after, none⟩ :: l) T S F Q = WpR C ops dst l T S F Q (match zF T c with | .d (.bool true) => some (.val (zF T a) S 0) | .d (.bool false) => some (.val (zF T b) S 0) | _ => none)) ∧
 (∀ {ops : Array Oper} {dst : Option Tmp} {ty : TypeId} {pos : String} {after : Array Edge} {l : List Oper} {T : List V} {S : zA} {F : Dfs} {Q : Post} {x : Operand}, WpL C ops (⟨dst, .nilCheck x, ty, pos, after, none⟩ :: l) T S F Q = WpR C ops dst l T S F Q (match zF T x with | .ref i ix off => some (.val (.ref i ix off) S 0) | .d (.ptr x) => some (.val (.d (.ptr x)) S 0) | .fn (.func g) a b => some (.val (.fn (.func g) a b) S 0) | _ => none)) ∧
 (∀ {ops : Array Oper} {dst : Option Tmp} {ty : TypeId} {pos : String} {after : Array Edge} {l : List Oper} {T : List V} {S : zA} {F : Dfs} {Q : Post} {t : TypeId} {n : Nat} {ps : Array (Nat × Operand)} {d2 : Option Tmp} {c : Call} {ty2 : TypeId} {pos2 : String} {after2 : Array Edge} {g2 : Option (Nat × Bool)}, WpL C ops (⟨dst, .buildSlice t n ps, ty, pos, after, none⟩ :: ⟨d2, .call c, ty2, pos2, after2, g2⟩ :: l) T S F Q = WpR C ops dst (⟨d2, .call c, ty2, pos2, after2, g2⟩ :: l) T S F Q (opV C.P S T ⟨dst, .buildSlice t n ps, ty, pos, after, none⟩)) ∧
 (∀ {ops : Array Oper} {dst : Option Tmp} {ty : TypeId} {pos : String} {after : Array Edge} {l : List Oper} {T : List V} {S : zA} {F : Dfs} {Q : Post} {x : Operand} {g : Nat × Bool}, WpL C ops (⟨dst, .move x, ty, pos, after, some g⟩ :: l) T S F Q = WpG C ops dst (.move x) ty pos after l T S F Q ((qT ops T g.1).map (· == some g.2))) ∧
 (∀ {ops : Array Oper} {dst : Option Tmp} {ty : TypeId} {pos : String} {after : Array Edge} {l : List Oper} {T : List V} {S : zA} {F : Dfs} {Q : Post} {x : Operand} {g : Nat × Bool}, WpL C ops (⟨dst, .assign x, ty, pos, after, some g⟩ :: l) T S F Q = WpG C ops dst (.assign x) ty pos after l T S F Q ((qT ops T g.1).map (· == some g.2))) ∧
 (∀ {ops : Array Oper} {dst : Option Tmp} {ty : TypeId} {pos : String} {after : Array Edge} {l : List Oper} {T : List V} {S : zA} {F : Dfs} {Q : Post} {op : BinOp} {t u : TypeId} {x y : Operand} {g : Nat × Bool}, WpL C ops (⟨dst, .binOp op t x y u, ty, pos, after, some g⟩ :: l) T S F Q = WpG C ops dst (.binOp op t x y u) ty pos after l T S F Q ((qT ops T g.1).map (· == some g.2))) ∧
 (∀ {ops : Array Oper} {dst : Option Tmp} {ty : TypeId} {pos : String} {after : Array Edge} {l : List Oper} {T : List V} {S : zA} {F : Dfs} {Q : Post} {op : UnOp} {t : TypeId} {x : Operand} {g : Nat × Bool}, WpL C ops (⟨dst, .unOp op t x, ty, pos, after, some g⟩ :: l) T S F Q = WpG C ops dst (.unOp op t x) ty pos after l T S F Q ((qT ops T g.1).map (· == some g.2))) ∧
 (∀ {ops : Array Oper} {dst : Option Tmp} {ty : TypeId} {pos : String} {after : Array Edge} {l : List Oper} {T : List V} {S : zA} {F : Dfs} {Q : Post} {t : TypeId} {x y : Operand} {g : Nat × Bool}, WpL C ops (⟨dst, .indexAddr t x y, ty, pos, after, some g⟩ :: l) T S F Q = WpG C ops dst (.indexAddr t x y) ty pos after l T S F Q ((qT ops T g.1).map (· == some g.2))) ∧
 (∀ {ops : Array Oper} {dst : Option Tmp} {ty : TypeId} {pos : String} {after : Array Edge} {l : List Oper} {T : List V} {S : zA} {F : Dfs} {Q : Post} {t : TypeId} {x y : Operand} {g : Nat × Bool}, WpL C ops (⟨dst, .index t x y, ty, pos, after, some g⟩ :: l) T S F Q = WpG C ops dst (.index t x y) ty pos after l T S F Q ((qT ops T g.1).map (· == some g.2))) ∧
 (∀ {ops : Array Oper} {dst : Option Tmp} {ty : TypeId} {pos : String} {after : Array Edge} {l : List Oper} {T : List V} {S : zA} {F : Dfs} {Q : Post} {t : TypeId} {x : Operand} {f : Nat} {g : Nat × Bool}, WpL C ops (⟨dst, .fieldAddr t x f, ty, pos, after, some g⟩ :: l) T S F Q = WpG C ops dst (.fieldAddr t x f) ty pos after l T S F Q ((qT ops T g.1).map (· == some g.2))) ∧
 (∀ {ops : Array Oper} {dst : Option Tmp} {ty : TypeId} {pos : String} {after : Array Edge} {l : List Oper} {T : List V} {S : zA} {F : Dfs} {Q : Post} {t : TypeId} {x : Operand} {f : Nat} {g : Nat × Bool}, WpL C ops (⟨dst, .field t x f, ty, pos, after, some g⟩ :: l) T S F Q = WpG C ops dst (.field t x f) ty pos after l T S F Q ((qT ops T g.1).map (· == some g.2))) ∧
 (∀ {ops : Array Oper} {dst : Option Tmp} {ty : TypeId} {pos : String} {after : Array Edge} {l : List Oper} {T : List V} {S : zA} {F : Dfs} {Q : Post} {t : TypeId} {x : Operand} {g : Nat × Bool}, WpL C ops (⟨dst, .load t x, ty, pos, after, some g⟩ :: l) T S F Q = WpG C ops dst (.load t x) ty pos after l T S F Q ((qT ops T g.1).map (· == some g.2))) ∧
 (∀ {ops : Array Oper} {dst : Option Tmp} {ty : TypeId} {pos : String} {after : Array Edge} {l : List Oper} {T : List V} {S : zA} {F : Dfs} {Q : Post} {t u : TypeId} {x : Operand} {g : Nat × Bool}, WpL C ops (⟨dst, .convert t u x, ty, pos, after, some g⟩ :: l) T S F Q = WpG C ops dst (.convert t u x) ty pos after l T S F Q ((qT ops T g.1).map (· == some g.2))) ∧
 (∀ {ops : Array Oper} {dst : Option Tmp} {ty : TypeId} {pos : String} {after : Array Edge} {l : List Oper} {T : List V} {S : zA} {F : Dfs} {Q : Post} {t : TypeId} {x : Operand} {lo hi : Option Operand} {g : Nat × Bool}, WpL C ops (⟨dst, .slice t x lo hi none, ty, pos, after, some g⟩ :: l) T S F Q = WpG C ops dst (.slice t x lo hi none) ty pos after l T S F Q ((qT ops T g.1).map (· == some g.2))) ∧
 (∀ {ops : Array Oper} {dst : Option Tmp} {ty : TypeId} {pos : String} {after : Array Edge} {l : List Oper} {T : List V} {S : zA} {F : Dfs} {Q : Post} {t : TypeId} {x k : Operand} {ok : Bool} {g : Nat × Bool}, WpL C ops (⟨dst, .lookup t x k ok, ty, pos, after, some g⟩ :: l) T S F Q = WpG C ops dst (.lookup t x k ok) ty pos after l T S F Q ((qT ops T g.1).map (· == some g.2))) ∧
 (∀ {ops : Array Oper} {dst : Option Tmp} {ty : TypeId} {pos : String} {after : Array Edge} {l : List Oper} {T : List V} {S : zA} {F : Dfs} {Q : Post} {c : Call} {g : Nat × Bool}, WpL C ops (⟨dst, .call c, ty, pos, after, some g⟩ :: l) T S F Q = WpG C ops dst (.call c) ty pos after l T S F Q ((qT ops T g.1).map (· == some g.2))) ∧
 (∀ {ops : Array Oper} {dst : Option Tmp} {ty : TypeId} {pos : String} {after : Array Edge} {l : List Oper} {T : List V} {S : zA} {F : Dfs} {Q : Post} {x : Operand} {i : Nat} {g : Nat × Bool}, WpL C ops (⟨dst, .extract x i, ty, pos, after, some g⟩ :: l) T S F Q = WpG C ops dst (.extract x i) ty pos after l T S F Q ((qT ops T g.1).map (· == some g.2))) ∧
 (∀ {ops : Array Oper} {dst : Option Tmp} {ty : TypeId} {pos : String} {after : Array Edge} {l : List Oper} {T : List V} {S : zA} {F : Dfs} {Q : Post} {c a b : Operand} {g : Nat × Bool}, WpL C ops (⟨dst, .pick c a b, ty, pos, after, some g⟩ :: l) T S F Q = WpG C ops dst (.pick c a b) ty pos after l T S F Q ((qT ops T g.1).map (· == some g.2))) ∧
 (∀ {ops : Array Oper} {dst : Option Tmp} {ty : TypeId} {pos : String} {after : Array Edge} {l : List Oper} {T : List V} {S : zA} {F : Dfs} {Q : Post} {t : TypeId} {ps : Array (Nat × Operand)} {g : Nat × Bool}, WpL C ops (⟨dst, .build t ps, ty, pos, after, some g⟩ :: l) T S F Q = WpG C ops dst (.build t ps) ty pos after l T S F Q ((qT ops T g.1).map (· == some g.2))) ∧
 (∀ {ops : Array Oper} {dst : Option Tmp} {ty : TypeId} {pos : String} {after : Array Edge} {l : List Oper} {T : List V} {S : zA} {F : Dfs} {Q : Post} {x : Operand} {g : Nat × Bool}, WpL C ops (⟨dst, .nilCheck x, ty, pos, after, some g⟩ :: l) T S F Q = WpG C ops dst (.nilCheck x) ty pos after l T S F Q ((qT ops T g.1).map (· == some g.2))) :=
 ⟨zrl, zko, zov, ztb, ze8, zhj, zhq, zo3, zcv, ze4, zep, zm2, zcd, zc7, z5d, z73, zuc, zon, zuz, zp4, zmf, zm3, zmq, zpa, zpo, zl2, zsu, zvr, zm6, zr0, zbz, zmm, zp2, zli, zhl, zdq, zlf, zk9, zch, zi4, zmc, zhw, zn8, zpe, ze7, z52, zlb, zhn, zo7, zsz, zk3, zo4, zbj, zjm, zlp, zfd, zkr, zi2, znc, zf4, zmu, zj5, zbl⟩
end
theorem vme :
 (∀ {C : Cfg} {ops : Array Oper} {dst : Option Tmp} {l : List Oper} {T : List V} {S S' : zA} {F : Dfs} {Q : Post} {v : V} {c : Nat}, WpR C ops dst l T S F Q (some (.val v S' c)) = WpL C ops l (putT T dst v) S' F Q) ∧
 (∀ {C : Cfg} {ops : Array Oper} {dst : Option Tmp} {l : List Oper} {T : List V} {S S' : zA} {F : Dfs} {Q : Post} {c : Nat}, WpR C ops dst l T S F Q (some (.skip S' c)) = WpL C ops l (putT T dst (.tup [])) S' F Q) ∧
 (∀ {T : List V} {v : V} {d : Tmp}, putT T (some d) v = T.set d v) ∧
 (∀ {T : List V} {v : V}, putT T none v = T) ∧
 (∀ {T : List V} {t : Tmp}, zF T (.tmp t) = T.getD t .junk) ∧
 (∀ {T : List V} {k : IntKind} {n : Int}, zF T (.const (.int k n)) = .d (.int k n)) ∧
 (∀ {T : List V} {b : Bool}, zF T (.const (.bool b)) = .d (.bool b)) ∧
 (∀ {T : List V} {s : ByteArray}, zF T (.const (.string s)) = .d (.str (strOf s))) ∧
 (∀ {T : List V}, zF T (.const (.slice none 0 0)) = .ts []) ∧
 (∀ {T : List V}, zF T (.const (.map none)) = .d .nilm) ∧
 (∀ {T : List V}, zF T (.const (.pointer none)) = .d .nilp) ∧
 (∀ {a x : V} {r : List V}, (a :: r).getD 0 x = a) ∧
 (∀ {a x : V} {r : List V} {n : Nat}, (a :: r).getD (n + 1) x = r.getD n x) ∧
 (∀ {a x : V} {r : List V}, (a :: r).set 0 x = x :: r) ∧
 (∀ {a x : V} {r : List V} {n : Nat}, (a :: r).set (n + 1) x = a :: r.set n x) ∧
 (∀ {P : Program} {op : BinOp} {t : TypeId} {k k' : IntKind} {a b : Int}, binV P op t (.d (.int k a)) (.d (.int k' b)) = (kG op k a k' b).map .d) ∧
 (∀ {P : Program} {op : BinOp} {t : TypeId} {a b : List UInt8}, binV P op t (.d (.str a)) (.d (.str b)) = (z39 op a b).map .d) ∧
 (∀ {k : IntKind} {a b : Int}, kG .add k a k b = some (.int k (k.wrap (a + b)))) ∧
 (∀ {k : IntKind} {a b : Int}, kG .sub k a k b = some (.int k (k.wrap (a - b)))) ∧
 (∀ {k : IntKind} {a b : Int}, kG .mul k a k b = some (.int k (k.wrap (a * b)))) ∧
 (∀ {k : IntKind} {a b : Int}, kG .eql k a k b = some (.bool (decide (a = b)))) ∧
 (∀ {k : IntKind} {a b : Int}, kG .neq k a k b = some (.bool (decide (a ≠ b)))) ∧
 (∀ {k : IntKind} {a b : Int}, kG .lss k a k b = some (.bool (decide (a < b)))) ∧
 (∀ {k : IntKind} {a b : Int}, kG .leq k a k b = some (.bool (decide (a ≤ b)))) ∧
 (∀ {k : IntKind} {a b : Int}, kG .gtr k a k b = some (.bool (decide (a > b)))) ∧
 (∀ {k : IntKind} {a b : Int}, kG .geq k a k b = some (.bool (decide (a ≥ b)))) ∧
 (∀ {b : Bool}, unV .not (.d (.bool b)) = some (.d (.bool (!b)))) ∧
 (∀ {x : D}, V.one (.d x) = true) ∧
 (∀ {xs : List D}, V.one (.ts xs) = true) ∧
 (∀ {i o n : Nat}, V.one (.rs i o n) = true) ∧
 (∀ {xs : List V}, V.one (.agg xs) = true) ∧
 (∀ {i o n : Nat}, V.one (.ref i o n) = true) ∧
 (∀ {i : Nat}, V.one (.mr i) = true) ∧
 (∀ {f : Fn} {a b : List V}, V.one (.fn f a b) = true) ∧
 (∀ {C : Cfg} {ops : Array Oper} {dst : Option Tmp} {op : Op} {ty : TypeId} {pos : String} {after : Array Edge} {l : List Oper} {T : List V} {S : zA} {F : Dfs} {Q : Post}, WpG C ops dst op ty pos after l T S F Q (some true) = WpL C ops (⟨dst, op, ty, pos, after, none⟩ :: l) T S F Q) ∧
 (∀ {C : Cfg} {ops : Array Oper} {dst : Option Tmp} {op : Op} {ty : TypeId} {pos : String} {after : Array Edge} {l : List Oper} {T : List V} {S : zA} {F : Dfs} {Q : Post}, WpG C ops dst op ty pos after l T S F Q (some false) = WpL C ops l (putT T dst (.tup [])) S F Q) ∧
 (∀ {C : Cfg} {T : List V} {S : zA} {F : Dfs} {Q : Post} {a b : Code}, WpB C (.d (.bool true)) a b T S F Q = Wp C a T S F Q) ∧
 (∀ {C : Cfg} {T : List V} {S : zA} {F : Dfs} {Q : Post} {a b : Code}, WpB C (.d (.bool false)) a b T S F Q = Wp C b T S F Q) ∧
 (∀ {P : Program} {S : zA} {t tx : TypeId} {s x : V}, zY P S .append [t, tx] [s, x] = (qD P S t tx s x).map fun r => .val r.1 r.2.1 r.2.2) ∧
 (∀ {P : Program} {S : zA} {t tx : TypeId} {s x : V}, zY P S .copy [t, tx] [s, x] = (copyV P S t tx s x).map fun r => .val r.1 r.2 3) ∧
 (∀ {P : Program} {S : zA} {T : List V} {t : TypeId} {x : Operand} {dst : Option Tmp} {ty : TypeId} {pos : String} {after : Array Edge} {g : Option (Nat × Bool)}, opV P S T ⟨dst, .buildSlice t 1 #[(0, x)], ty, pos, after, g⟩ = bs1 P S t (zF T x)) ∧
 (∀ {α β : Type} {a : α} {f : α → β}, (some a).map f = some (f a)) ∧
 (∀ {α β : Type} {f : α → β} {a : α} {l : List α}, (a :: l).map f = f a :: l.map f) ∧
 (∀ {α β : Type} {f : α → β}, ([] : List α).map f = []) ∧
 (∀ {f : V → Bool} {a : V} {l : List V}, (a :: l).all f = (f a && l.all f)) ∧
 (∀ {b : Bool}, (b && true) = b) ∧
 (∀ {b : Bool}, (true && b) = b) ∧
 (∀ {α : Type} {a b : α}, (if True then a else b) = a) ∧
 (∀ {α : Type} {a b : α}, (if true = true then a else b) = a) ∧
 (∀ {α : Type} {l : List α}, [] ++ l = l) ∧
 (∀ {α : Type} {l : List α}, l ++ [] = l) ∧
 ((!true) = false) ∧
 ((!false) = true) ∧
 (∀ {f : V → Bool}, ([] : List V).all f = true) :=
 ⟨zue, zqk, zln, zmk, ztv, zoh, znb, zos, zo9, zlo, zn0, zkd, zih, zjk, zkl, binI, binS, ztt, zsf, zv1, zqo, zqp, zua, zrj, zu0, zup, z19, zv6, zt2, ztx, zo2, zob, zu5, ztf, zqx, zn6, zqv, zmj, zl1, zej, ztp, rfl, rfl, rfl, zvz, (by simp), rfl, (by simp), (by simp), rfl, (by simp), rfl, rfl, zv7⟩
section
variable {C : Cfg} {P : Program} {T : List V} {S : zA} {F : Dfs} {o : Out}
def RetQ (P : Program) (rs : Array ResultVar) (o : Out) : Post := fun x T S F => (x = .norm ∨ x = .ret) ∧ F = [] ∧ ∃ v, jF P rs T S = some v ∧ z6k S (.ret v) = some o
theorem z2l {f : FuncId} {c : Code} {n : Nat} {rs : Array ResultVar} {ds : List D} (hx : C.ext f = none) (hc : C.catch_ f = none) (hb : zH C.P f = some ⟨c, n, rs⟩)
  (h : Wp C c (z14 n (ds.map .d)) [] [] (post C [] (RetQ C.P rs o))) : Ev C f ds o := zm7 hx hc hb h
theorem jT {t : Tmp} {v : V} {d : D} (hv : T.getD t (.tup []) = v) (h1 : v.one = true) (h : frz S zS v = some d) : RetQ P #[.tmp t] (.ret (.d d)) .ret T S [] := by
 refine ⟨.inr rfl, rfl, v, ?_, ?_⟩
 ·show wA P T S (.tmp t) = some v
  simp only [wA, hv]
 ·cases v <;> first | (simp [V.one] at h1; done) | (simp only [z6k, h, Option.map_some])
theorem zk2 {a t : Nat} {v u : V} {d : D} (ha : T.getD a (.tup []) = u) (hv : jW P S t u = some v) (h1 : v.one = true) (h : frz S zS v = some d) : RetQ P #[.cell a t] (.ret (.d d)) .ret T S [] := by
 refine ⟨.inr rfl, rfl, v, ?_, ?_⟩
 ·show wA P T S (.cell a t) = some v
  simp only [wA, ha, hv]
 ·cases v <;> first | (simp [V.one] at h1; done) | (simp only [z6k, h, Option.map_some])
theorem z5a {r1 r2 : ResultVar} {l : List ResultVar} {vs : List V} {ds : List D} (hv : allO (wA P T S) (r1 :: r2 :: l) = some vs) (h1 : vs.all V.one = true) (h : allO (frz S zS) vs = some ds) : RetQ P (r1 :: r2 :: l).toArray (.ret (.tup (ds.map .d))) .ret T S [] := by
 refine ⟨.inr rfl, rfl, .tup vs, ?_, ?_⟩
 ·simp only [jF, hv, h1, if_true]
 ·simp only [z6k, h, Option.map_some]
theorem z0t {t u : Tmp} {v w : V} {d e : D} (hv : T.getD t (.tup []) = v) (hw : T.getD u (.tup []) = w) (h1 : v.one = true) (h2 : w.one = true) (h3 : frz S zS v = some d) (h4 : frz S zS w = some e) : RetQ P #[.tmp t, .tmp u] (.ret (.tup [.d d, .d e])) .ret T S [] :=
 z5a (r1 := .tmp t) (r2 := .tmp u) (l := []) (vs := [v, w]) (ds := [d, e]) (by simp only [allO, wA, hv, hw]) (by simp [h1, h2]) (by simp only [allO, h3, h4])
theorem z3d {t u x : Tmp} {v w y : V} {d e z : D} (hv : T.getD t (.tup []) = v) (hw : T.getD u (.tup []) = w) (hy : T.getD x (.tup []) = y) (h1 : v.one = true) (h2 : w.one = true) (h0 : y.one = true) (h3 : frz S zS v = some d) (h4 : frz S zS w = some e) (h5 : frz S zS y = some z) : RetQ P #[.tmp t, .tmp u, .tmp x] (.ret (.tup [.d d, .d e, .d z])) .ret T S [] :=
 z5a (r1 := .tmp t) (r2 := .tmp u) (l := [.tmp x]) (vs := [v, w, y]) (ds := [d, e, z]) (by simp only [allO, wA, hv, hw, hy]) (by simp [h1, h2, h0]) (by simp only [allO, h3, h4, h5])
theorem zam {e : TypeId} {v : V} {xs : List V} (h : OwnS S v e xs) : v.one = true := by
 rcases h with ⟨rfl, _⟩ | ⟨id, rfl, _⟩ <;> rfl
theorem zlq {α : Type} {enc : α → D} {e : TypeId} {v : V} {xs : List α} (h : OwnS S v e (xs.map fun x => .d (enc x))) : frz S zS v = some (.sl (xs.map enc)) := zpi (by simpa [List.map_map, Function.comp_def] using h)
def lpOf : Code → Nat → Code
 | .block i (.loop b), id => if i = id then b else lpOf b id
 | .block _ b, id => lpOf b id
 | .seq a b, id => match lpOf a id with | .skip => lpOf b id | c => c
 | .cond _ a b, id => match lpOf a id with | .skip => lpOf b id | c => c
 | .loop b, id => lpOf b id
 | .scope b, id => lpOf b id
 | _, _ => .skip
theorem z6g {e : TypeId} {k n : Nat} (hb : bytesOf P e = k) (hk : k ≤ 100000000) (h : n ≤ 1000000) : room P e n = true := by
 unfold room
 have : n * k ≤ 1000000 * 100000000 := Nat.mul_le_mul h hk
 rw [hb]; simp; omega
theorem zgu {α : Type} {enc : α → D} {t e : TypeId} {v : V} {xs : List α} (a : α) (hu : P.underlying t = some (.slice e)) (hz : zOk P e = true) (hs : (sz P e).isSome = true) (hf : z03 P e (enc a) = true) (ho : OwnS S v e (xs.map fun x => .d (enc x))) (hr : room P e (xs.length + 1) = true) :
  ∃ v' S' c, qD P S t t v (.ts [enc a]) = some (v', S', c) ∧ OwnS S' v' e ((xs ++ [a]).map fun x => .d (enc x)) ∧ (∀ j o, S[j]? = some o → NotAt v j → S'[j]? = some o ∧ NotAt v' j) ∧ S.length ≤ S'.length := by
 obtain ⟨v', S', c, h1, h2, h3, h4⟩ := zhu hu hz hs ho hf (by simpa using hr)
 exact ⟨v', S', c, h1, by simpa using h2, h3, h4⟩
theorem zg1 {α : Type} {enc : α → D} {t e : TypeId} {l : List α} {i : Nat} (hu : P.underlying t = some (.slice e)) (hf : ∀ a, z03 P e (enc a) = true) (h : i < l.length) : qL P S t (.d (.sl (l.map enc))) (.d (.int .i64 i)) = some (.d (.ptr (enc l[i]))) := zuv hu (by simp [h]) (hf _)
end
def rowE (S : zA) (id ix : Nat) : Option V := match S[id]? with | some (.row xs _) => xs[ix]? | _ => none
def kX (P : Program) (t : TypeId) (off : Nat) : Option V → Option V
 | some x => if off = 0 && qH P t x then some x else zc8 P t x.cells off
 | none => none
def jG (P : Program) (t : TypeId) (off : Nat) (v x : V) : Option V :=
 if qH P t v then
  if off = 0 && (x.cells.length == v.cells.length) && (x.isAgg == v.isAgg) then some v
  else if off + v.cells.length ≤ x.cells.length && x.isAgg then some (.agg (x.cells.take off ++ v.cells ++ x.cells.drop (off + v.cells.length)))
  else none
 else none
def z12 (S : zA) (id ix : Nat) (y : V) : Option zA := match S[id]? with | some (.row xs e) => some (S.set id (.row (xs.set ix y) e)) | _ => none
def z9p (S : zA) (id ix : Nat) : Option V → Option zA | some y => z12 S id ix y | none => none
section
variable {C : Cfg} {P : Program} {S : zA} {id ix off : Nat}
theorem jC {t : TypeId} {x : V} (h : rowE S id ix = some x) : jW P S t (.ref id ix off) = kX P t off (some x) := by
 unfold rowE at h
 split at h
 ·rename_i xs e ho
  simp only [jW, ho, h, kX]
 ·cases h
theorem zhf {t : TypeId} {v x : V} (h : rowE S id ix = some x) : z1f P S t (.ref id ix off) v = z9p S id ix (jG P t off v x) := by
 unfold rowE at h
 split at h
 ·rename_i xs e ho
  simp only [z1f, ho, h, jG]
  split
  ·split
   ·simp only [z9p, z12, ho]
   ·split
    ·simp only [z9p, z12, ho]
    ·rfl
  ·rfl
 ·cases h
theorem ziu {o : Ob} {S : zA} {i : Nat} : rowE (o :: S) (i + 1) ix = rowE S i ix := by
 unfold rowE
 rw [List.getElem?_cons_succ]
theorem zf9 {o : Ob} {S : zA} {i : Nat} {y : V} : z12 (o :: S) (i + 1) ix y = (z12 S i ix y).map fun S' => o :: S' := by
 unfold z12
 rw [List.getElem?_cons_succ]
 cases S[i]? with
 | none => rfl
 | some o => cases o <;> rfl
theorem zD {x : V} {e : TypeId} (h : S[id]? = some (.row [x] e)) : rowE S id 0 = some x := by
 unfold rowE; rw [h]; rfl
end
section
variable {C : Cfg} {ops : Array Oper} {dst : Option Tmp} {ty : TypeId} {pos : String} {after : Array Edge} {l : List Oper} {T : List V} {S : zA} {F : Dfs} {Q : Post}
theorem zi7 {e : TypeId} : WpL C ops (⟨dst, .alloc e, ty, pos, after, none⟩ :: l) T S F Q = match zeroV C.P e with | some z => (if qH C.P e z = true then WpL C ops l (putT T dst (.ref S.length 0 0)) (S ++ [.row [z] e]) F Q else False) | none => False := by
 rw [z01 rfl]
 simp only [opV]
 cases zeroV C.P e with
 | none => rfl
 | some z =>
  simp only
  split <;> rfl
theorem zox {e : TypeId} {x : Operand} : WpL C ops (⟨dst, .box e x, ty, pos, after, none⟩ :: l) T S F Q = if qH C.P e (zF T x) = true then WpL C ops l (putT T dst (.ref S.length 0 0)) (S ++ [.row [zF T x] e]) F Q else False := by
 rw [z01 rfl]
 simp only [opV]
 split <;> rfl
end
theorem z55 {P : Program} {S : zA} {v : V} {e t : TypeId} {xs : List V} (h : OwnS S v e xs) (ha : aggT P t = false) (hs : sz P t = some 1) : qH P t v = true := by
 rcases h with ⟨rfl, _⟩ | ⟨id, rfl, _⟩ <;> simp [qH, V.one, V.isAgg, V.cells, ha, hs]
theorem z2n {S : zA} {v : V} {e : TypeId} {xs : List V} (h : OwnS S v e xs) : v.cells = [v] := by
 rcases h with ⟨rfl, _⟩ | ⟨id, rfl, _⟩ <;> rfl
def zq0 (P : Program) (S : zA) (t : TypeId) (id ix off : Nat) : Option V → Option V | some x => kX P t off (some x) | none => jW P S t (.ref id ix off)
def zku (P : Program) (S : zA) (t : TypeId) (id ix off : Nat) (v : V) : Option V → Option zA | some x => z9p S id ix (jG P t off v x) | none => z1f P S t (.ref id ix off) v
theorem zld {P : Program} {S : zA} {t : TypeId} {id ix off : Nat} : jW P S t (.ref id ix off) = zq0 P S t id ix off (rowE S id ix) := by
 cases h : rowE S id ix with
 | none => rfl
 | some x => exact jC h
theorem zja {P : Program} {S : zA} {t : TypeId} {id ix off : Nat} {v : V} : z1f P S t (.ref id ix off) v = zku P S t id ix off v (rowE S id ix) := by
 cases h : rowE S id ix with
 | none => rfl
 | some x => exact zhf h
theorem vmb :
 (∀ {x : V} {r : List V} {e : TypeId} {S : zA}, rowE (.row (x :: r) e :: S) 0 0 = some x) ∧
 (∀ {o : Ob} {S : zA} {i ix : Nat}, rowE (o :: S) (i + 1) ix = rowE S i ix) ∧
 (∀ {x y : V} {r : List V} {e : TypeId} {S : zA}, z12 (.row (x :: r) e :: S) 0 0 y = some (.row (y :: r) e :: S)) ∧
 (∀ {o : Ob} {S : zA} {i ix : Nat} {y : V}, z12 (o :: S) (i + 1) ix y = (z12 S i ix y).map fun S' => o :: S') ∧
 (∀ {S : zA} {id ix : Nat} {y : V}, z9p S id ix (some y) = z12 S id ix y) ∧
 (∀ {C : Cfg} {ops : Array Oper} {dst : Option Tmp} {ty : TypeId} {pos : String} {after : Array Edge} {l : List Oper} {T : List V} {S : zA} {F : Dfs} {Q : Post} {e : TypeId}, WpL C ops (⟨dst, .alloc e, ty, pos, after, none⟩ :: l) T S F Q = match zeroV C.P e with | some z => (if qH C.P e z = true then WpL C ops l (putT T dst (.ref S.length 0 0)) (S ++ [.row [z] e]) F Q else False) | none => False) ∧
 (∀ {C : Cfg} {ops : Array Oper} {dst : Option Tmp} {ty : TypeId} {pos : String} {after : Array Edge} {l : List Oper} {T : List V} {S : zA} {F : Dfs} {Q : Post} {e : TypeId} {x : Operand}, WpL C ops (⟨dst, .box e x, ty, pos, after, none⟩ :: l) T S F Q = if qH C.P e (zF T x) = true then WpL C ops l (putT T dst (.ref S.length 0 0)) (S ++ [.row [zF T x] e]) F Q else False) ∧
 (∀ {P : Program} {S : zA} {t : TypeId} {id ix off : Nat}, jW P S t (.ref id ix off) = zq0 P S t id ix off (rowE S id ix)) ∧
 (∀ {P : Program} {S : zA} {t : TypeId} {id ix off : Nat} {v : V}, z1f P S t (.ref id ix off) v = zku P S t id ix off v (rowE S id ix)) ∧
 (∀ {P : Program} {S : zA} {t : TypeId} {id ix off : Nat} {x : V}, zq0 P S t id ix off (some x) = kX P t off (some x)) ∧
 (∀ {P : Program} {S : zA} {t : TypeId} {id ix off : Nat} {v x : V}, zku P S t id ix off v (some x) = z9p S id ix (jG P t off v x)) ∧
 (∀ {α : Type}, ([] : List α).length = 0) ∧
 (∀ {α : Type} {a : α} {l : List α}, (a :: l).length = l.length + 1) :=
 ⟨rfl, ziu, rfl, zf9, rfl, zi7, zox, zld, zja, rfl, rfl, rfl, rfl⟩
theorem zr2 {a b : List UInt8} : z39 .eql a b = some (.bool (decide (a = b))) := by
 have : (a == b) = decide (a = b) := by rw [Bool.eq_iff_iff]; simp
 simp only [z39, this]
theorem zru {a b : List UInt8} : z39 .neq a b = some (.bool (decide (a ≠ b))) := by
 have : (!(a == b)) = decide (a ≠ b) := by rw [Bool.eq_iff_iff]; simp
 simp only [z39, this]
theorem vmo :
 (∀ {P : Program} {S : zA} {T : List V} {dst : Option Tmp} {ty : TypeId} {pos : String} {after : Array Edge} {g : Option (Nat × Bool)} {x : Operand}, opV P S T ⟨dst, .move x, ty, pos, after, g⟩ = some (.val (zF T x) S 0)) ∧
 (∀ {P : Program} {S : zA} {T : List V} {dst : Option Tmp} {ty : TypeId} {pos : String} {after : Array Edge} {g : Option (Nat × Bool)} {x : Operand}, opV P S T ⟨dst, .assign x, ty, pos, after, g⟩ = some (.val (zF T x) S 0)) ∧
 (∀ {P : Program} {S : zA} {T : List V} {dst : Option Tmp} {ty : TypeId} {pos : String} {after : Array Edge} {g : Option (Nat × Bool)} {op : BinOp} {t u : TypeId} {x y : Operand}, opV P S T ⟨dst, .binOp op t x y u, ty, pos, after, g⟩ = (binV P op t (zF T x) (zF T y)).map fun v => .val v S 0) ∧
 (∀ {P : Program} {S : zA} {T : List V} {dst : Option Tmp} {ty : TypeId} {pos : String} {after : Array Edge} {g : Option (Nat × Bool)} {op : UnOp} {t : TypeId} {x : Operand}, opV P S T ⟨dst, .unOp op t x, ty, pos, after, g⟩ = (unV op (zF T x)).map fun v => .val v S 0) ∧
 (∀ {P : Program} {S : zA} {T : List V} {dst : Option Tmp} {ty : TypeId} {pos : String} {after : Array Edge} {g : Option (Nat × Bool)} {t : TypeId} {x y : Operand}, opV P S T ⟨dst, .indexAddr t x y, ty, pos, after, g⟩ = (qL P S t (zF T x) (zF T y)).map fun v => .val v S 1) ∧
 (∀ {P : Program} {S : zA} {T : List V} {dst : Option Tmp} {ty : TypeId} {pos : String} {after : Array Edge} {g : Option (Nat × Bool)} {t : TypeId} {x y : Operand}, opV P S T ⟨dst, .index t x y, ty, pos, after, g⟩ = (z3x P t (zF T x) (zF T y)).map fun v => .val v S 0) ∧
 (∀ {P : Program} {S : zA} {T : List V} {dst : Option Tmp} {ty : TypeId} {pos : String} {after : Array Edge} {g : Option (Nat × Bool)} {t : TypeId} {x : Operand} {f : Nat}, opV P S T ⟨dst, .fieldAddr t x f, ty, pos, after, g⟩ = (zP P t f (zF T x)).map fun v => .val v S 0) ∧
 (∀ {P : Program} {S : zA} {T : List V} {dst : Option Tmp} {ty : TypeId} {pos : String} {after : Array Edge} {g : Option (Nat × Bool)} {t : TypeId} {x : Operand} {f : Nat}, opV P S T ⟨dst, .field t x f, ty, pos, after, g⟩ = (z8y P t f (zF T x)).map fun v => .val v S 0) ∧
 (∀ {P : Program} {S : zA} {T : List V} {dst : Option Tmp} {ty : TypeId} {pos : String} {after : Array Edge} {g : Option (Nat × Bool)} {t : TypeId} {x : Operand}, opV P S T ⟨dst, .load t x, ty, pos, after, g⟩ = (jW P S t (zF T x)).map fun v => .val v S 1) ∧
 (∀ {P : Program} {S : zA} {T : List V} {dst : Option Tmp} {ty : TypeId} {pos : String} {after : Array Edge} {g : Option (Nat × Bool)} {t : TypeId} {x y : Operand}, opV P S T ⟨dst, .store t x y, ty, pos, after, g⟩ = (z1f P S t (zF T x) (zF T y)).map fun S' => .skip S' 3) ∧
 (∀ {P : Program} {S : zA} {T : List V} {dst : Option Tmp} {ty : TypeId} {pos : String} {after : Array Edge} {g : Option (Nat × Bool)} {t u : TypeId} {x : Operand}, opV P S T ⟨dst, .convert t u x, ty, pos, after, g⟩ = (jU P S t u (zF T x)).map fun r => .val r.1 S r.2) ∧
 (∀ {P : Program} {S : zA} {T : List V} {dst : Option Tmp} {ty : TypeId} {pos : String} {after : Array Edge} {g : Option (Nat × Bool)} {t : TypeId} {x : Operand} {lo hi : Option Operand}, opV P S T ⟨dst, .slice t x lo hi none, ty, pos, after, g⟩ = (jN P S t (zF T x) (lo.map (zF T)) (hi.map (zF T))).map fun v => .val v S 1) ∧
 (∀ {P : Program} {S : zA} {T : List V} {dst : Option Tmp} {ty : TypeId} {pos : String} {after : Array Edge} {g : Option (Nat × Bool)} {t : TypeId} {x k : Operand} {ok : Bool}, opV P S T ⟨dst, .lookup t x k ok, ty, pos, after, g⟩ = (kP P S t (zF T x) (zF T k) ok).map fun v => .val v S 1) ∧
 (∀ {P : Program} {S : zA} {T : List V} {dst : Option Tmp} {ty : TypeId} {pos : String} {after : Array Edge} {g : Option (Nat × Bool)} {b : Builtin} {args : Array Operand} {ts : Array TypeId}, opV P S T ⟨dst, .call { callee := .builtin b, args := args, argTypes := ts }, ty, pos, after, g⟩ = zY P S b ts.toList (args.toList.map (zF T))) ∧
 (∀ {P : Program} {S : zA} {T : List V} {dst : Option Tmp} {ty : TypeId} {pos : String} {after : Array Edge} {g : Option (Nat × Bool)} {t : TypeId} {ps : Array (Nat × Operand)}, opV P S T ⟨dst, .build t ps, ty, pos, after, g⟩ = (z1q P t (ps.toList.map fun p => (p.1, zF T p.2))).map fun v => .val v S 0) ∧
 (∀ {P : Program} {S : zA} {T : List V} {dst : Option Tmp} {ty : TypeId} {pos : String} {after : Array Edge} {g : Option (Nat × Bool)} {x : Operand} {i : Nat}, opV P S T ⟨dst, .extract x i, ty, pos, after, g⟩ = match zF T x with | .tup vs => (match vs[i]? with | some v => some (.val v S 0) | none => none) | _ => none) ∧
 (∀ {P : Program} {S : zA} {T : List V} {dst : Option Tmp} {ty : TypeId} {pos : String} {after : Array Edge} {g : Option (Nat × Bool)} {c a b : Operand}, opV P S T ⟨dst, .pick c a b, ty, pos, after, g⟩ = match zF T c with | .d (.bool true) => some (.val (zF T a) S 0) | .d (.bool false) => some (.val (zF T b) S 0) | _ => none) ∧
 (∀ {P : Program} {S : zA} {T : List V} {dst : Option Tmp} {ty : TypeId} {pos : String} {after : Array Edge} {g : Option (Nat × Bool)} {h : FuncId} {args : Array Operand} {ts : Array TypeId}, opV P S T ⟨dst, .call { callee := .value (.func h), args := args, argTypes := ts }, ty, pos, after, g⟩ = if (args.toList.map (zF T)).all V.one && (zH P h).isSome then some (.enter h ([] ++ args.toList.map (zF T) ++ [])) else none) :=
 ⟨rfl, rfl, rfl, rfl, rfl, rfl, rfl, rfl, rfl, rfl, rfl, rfl, rfl, rfl, rfl, rfl, rfl, rfl⟩
def zow (ops : Array Oper) (T : List V) : Option (Nat × Bool) → Option Bool
 | none => some true
 | some (j, want) => (qT ops T j).map (· == some want)
def znn (T : List V) : Option Tmp → Option (Option Bool)
 | none => some none
 | some d => match T[d]? with
  | none => some none
  | some (.d (.bool b)) => some (some b)
  | some (.tup _) => some none
  | some _ => none
theorem vmg :
 (∀ {ops : Array Oper} {T : List V} {dst : Option Tmp} {op : Op} {ty : TypeId} {pos : String} {after : Array Edge} {g : Option (Nat × Bool)}, zW ops T ⟨dst, op, ty, pos, after, g⟩ = zow ops T g) ∧
 (∀ {ops : Array Oper} {T : List V}, zow ops T none = some true) ∧
 (∀ {ops : Array Oper} {T : List V} {j : Nat} {b : Bool}, zow ops T (some (j, b)) = (qT ops T j).map (· == some b)) ∧
 (∀ {ops : Array Oper} {T : List V} {j : Nat}, qT ops T j = znn T ((ops[j]?).bind (·.dst))) ∧
 (∀ {T : List V} {d : Tmp}, znn T (some d) = match T[d]? with | none => some none | some (.d (.bool b)) => some (some b) | some (.tup _) => some none | some _ => none) ∧
 (∀ {a : V} {l : List V}, (a :: l)[0]? = some a) ∧
 (∀ {a : V} {l : List V} {n : Nat}, (a :: l)[n + 1]? = l[n]?) ∧
 (∀ {a : Oper} {l : List Oper}, ((a :: l).toArray)[0]? = some a) ∧
 (∀ {a : Oper} {l : List Oper} {n : Nat}, ((a :: l).toArray)[n + 1]? = (l.toArray)[n]?) ∧
 (∀ {α β : Type} {a : α} {f : α → Option β}, (some a).bind f = f a) ∧
 (∀ {b : Bool}, (some b == some true) = b) ∧
 (∀ {b : Bool}, (some b == some false) = !b) ∧
 (((none : Option Bool) == some true) = false) ∧
 (((none : Option Bool) == some false) = false) :=
 ⟨rfl, rfl, rfl, rfl, rfl, rfl, rfl, by simp, by simp, rfl, by intro b; cases b <;> rfl, by intro b; cases b <;> rfl, rfl, rfl⟩
theorem vmk :
 (∀ {dst : Option Tmp} {ty : TypeId} {pos : String} {after : Array Edge} {g : Option (Nat × Bool)} {x : Operand}, kI ⟨dst, .move x, ty, pos, after, g⟩ = false) ∧
 (∀ {dst : Option Tmp} {ty : TypeId} {pos : String} {after : Array Edge} {g : Option (Nat × Bool)} {x : Operand}, kI ⟨dst, .assign x, ty, pos, after, g⟩ = false) ∧
 (∀ {dst : Option Tmp} {ty : TypeId} {pos : String} {after : Array Edge} {g : Option (Nat × Bool)} {op : BinOp} {t u : TypeId} {x y : Operand}, kI ⟨dst, .binOp op t x y u, ty, pos, after, g⟩ = false) ∧
 (∀ {dst : Option Tmp} {ty : TypeId} {pos : String} {after : Array Edge} {g : Option (Nat × Bool)} {op : UnOp} {t : TypeId} {x : Operand}, kI ⟨dst, .unOp op t x, ty, pos, after, g⟩ = false) ∧
 (∀ {dst : Option Tmp} {ty : TypeId} {pos : String} {after : Array Edge} {g : Option (Nat × Bool)} {t : TypeId} {x y : Operand}, kI ⟨dst, .indexAddr t x y, ty, pos, after, g⟩ = false) ∧
 (∀ {dst : Option Tmp} {ty : TypeId} {pos : String} {after : Array Edge} {g : Option (Nat × Bool)} {t : TypeId} {x y : Operand}, kI ⟨dst, .index t x y, ty, pos, after, g⟩ = false) ∧
 (∀ {dst : Option Tmp} {ty : TypeId} {pos : String} {after : Array Edge} {g : Option (Nat × Bool)} {t : TypeId} {x : Operand} {f : Nat}, kI ⟨dst, .fieldAddr t x f, ty, pos, after, g⟩ = false) ∧
 (∀ {dst : Option Tmp} {ty : TypeId} {pos : String} {after : Array Edge} {g : Option (Nat × Bool)} {t : TypeId} {x : Operand} {f : Nat}, kI ⟨dst, .field t x f, ty, pos, after, g⟩ = false) ∧
 (∀ {dst : Option Tmp} {ty : TypeId} {pos : String} {after : Array Edge} {g : Option (Nat × Bool)} {t : TypeId} {x : Operand}, kI ⟨dst, .load t x, ty, pos, after, g⟩ = false) ∧
 (∀ {dst : Option Tmp} {ty : TypeId} {pos : String} {after : Array Edge} {g : Option (Nat × Bool)} {t : TypeId} {x y : Operand}, kI ⟨dst, .store t x y, ty, pos, after, g⟩ = false) ∧
 (∀ {dst : Option Tmp} {ty : TypeId} {pos : String} {after : Array Edge} {g : Option (Nat × Bool)} {t u : TypeId} {x : Operand}, kI ⟨dst, .convert t u x, ty, pos, after, g⟩ = false) ∧
 (∀ {dst : Option Tmp} {ty : TypeId} {pos : String} {after : Array Edge} {g : Option (Nat × Bool)} {t : TypeId} {x : Operand} {lo hi m : Option Operand}, kI ⟨dst, .slice t x lo hi m, ty, pos, after, g⟩ = false) ∧
 (∀ {dst : Option Tmp} {ty : TypeId} {pos : String} {after : Array Edge} {g : Option (Nat × Bool)} {t : TypeId} {x k : Operand} {ok : Bool}, kI ⟨dst, .lookup t x k ok, ty, pos, after, g⟩ = false) ∧
 (∀ {dst : Option Tmp} {ty : TypeId} {pos : String} {after : Array Edge} {g : Option (Nat × Bool)} {c : Call}, kI ⟨dst, .call c, ty, pos, after, g⟩ = false) ∧
 (∀ {dst : Option Tmp} {ty : TypeId} {pos : String} {after : Array Edge} {g : Option (Nat × Bool)} {t : TypeId} {ps : Array (Nat × Operand)}, kI ⟨dst, .build t ps, ty, pos, after, g⟩ = false) ∧
 (∀ {dst : Option Tmp} {ty : TypeId} {pos : String} {after : Array Edge} {g : Option (Nat × Bool)} {t : TypeId} {n : Nat} {ps : Array (Nat × Operand)}, kI ⟨dst, .buildSlice t n ps, ty, pos, after, g⟩ = false) ∧
 (∀ {dst : Option Tmp} {ty : TypeId} {pos : String} {after : Array Edge} {g : Option (Nat × Bool)} {x : Operand} {i : Nat}, kI ⟨dst, .extract x i, ty, pos, after, g⟩ = false) ∧
 (∀ {dst : Option Tmp} {ty : TypeId} {pos : String} {after : Array Edge} {g : Option (Nat × Bool)} {c a b : Operand}, kI ⟨dst, .pick c a b, ty, pos, after, g⟩ = false) ∧
 (∀ {dst : Option Tmp} {ty : TypeId} {pos : String} {after : Array Edge} {g : Option (Nat × Bool)} {x : Operand}, kI ⟨dst, .nilCheck x, ty, pos, after, g⟩ = false) ∧
 (∀ {dst : Option Tmp} {ty : TypeId} {pos : String} {after : Array Edge} {g : Option (Nat × Bool)} {t : TypeId} {m k v : Operand}, kI ⟨dst, .mapUpdate t m k v, ty, pos, after, g⟩ = false) ∧
 (∀ {dst : Option Tmp} {ty : TypeId} {pos : String} {after : Array Edge} {g : Option (Nat × Bool)} {e : TypeId}, kI ⟨dst, .alloc e, ty, pos, after, g⟩ = true) ∧
 (∀ {dst : Option Tmp} {ty : TypeId} {pos : String} {after : Array Edge} {g : Option (Nat × Bool)} {e : TypeId} {x : Operand}, kI ⟨dst, .box e x, ty, pos, after, g⟩ = true) :=
 ⟨rfl, rfl, rfl, rfl, rfl, rfl, rfl, rfl, rfl, rfl, rfl, rfl, rfl, rfl, rfl, rfl, rfl, rfl, rfl, rfl, rfl, rfl⟩
section
variable {C : Cfg} {ops : Array Oper} {base : Nat} {F : Dfs} {Q : Post}
def WpX (C : Cfg) (ops : Array Oper) (base : Nat) (F : Dfs) (Q : Post) (rd : List Nat) (cs : List (Nat × Nat)) (i : Nat) (is : List Nat) (T : List V) (S : zA) (o : Oper) : Bool → Prop
 | true => WpA base (fun cs T S => WpD C ops base F Q rd cs is T S) cs i o.dst T S (addO C.P T o)
 | false => WpE C ops F Q (fun rd cs T S => WpD C ops base F Q rd cs is T S) rd cs i o.dst T S (opV C.P S T o)
def WpO (C : Cfg) (ops : Array Oper) (base : Nat) (F : Dfs) (Q : Post) (rd : List Nat) (cs : List (Nat × Nat)) (i : Nat) (is : List Nat) (T : List V) (S : zA) (o : Oper) : Option Bool → Prop
 | none => False
 | some false => WpD C ops base F Q rd (cs ++ [(i, 0)]) is (putT T o.dst (.tup [])) S
 | some true => WpX C ops base F Q rd cs i is T S o (kI o)
def WpI (C : Cfg) (ops : Array Oper) (base : Nat) (F : Dfs) (Q : Post) (rd : List Nat) (cs : List (Nat × Nat)) (i : Nat) (is : List Nat) (T : List V) (S : zA) : Option Oper → Prop
 | none => False
 | some o => WpO C ops base F Q rd cs i is T S o (zW ops T o)
theorem zsc {rd : List Nat} {cs : List (Nat × Nat)} {i : Nat} {is : List Nat} {T : List V} {S : zA} : WpD C ops base F Q rd cs (i :: is) T S = WpI C ops base F Q rd cs i is T S (ops[i]?) := by
 rw [zou]
 unfold WpI WpO
 cases ops[i]? with
 | none => rfl
 | some o =>
  simp only
  cases zW ops T o with
  | none => rfl
  | some b =>
   cases b with
   | false => rfl
   | true => cases kI o <;> rfl
theorem vmd :
 (∀ {C : Cfg} {ops : Array Oper} {base : Nat} {F : Dfs} {Q : Post} {rd : List Nat} {cs : List (Nat × Nat)} {T : List V} {S : zA}, WpD C ops base F Q rd cs [] T S = (z2r ops cs = true ∧ Q .norm T S F)) ∧
 (∀ {C : Cfg} {ops : Array Oper} {base : Nat} {F : Dfs} {Q : Post} {rd : List Nat} {cs : List (Nat × Nat)} {i : Nat} {is : List Nat} {T : List V} {S : zA}, WpD C ops base F Q rd cs (i :: is) T S = WpI C ops base F Q rd cs i is T S (ops[i]?)) ∧
 (∀ {C : Cfg} {ops : Array Oper} {base : Nat} {F : Dfs} {Q : Post} {rd : List Nat} {cs : List (Nat × Nat)} {i : Nat} {is : List Nat} {T : List V} {S : zA} {o : Oper}, WpI C ops base F Q rd cs i is T S (some o) = WpO C ops base F Q rd cs i is T S o (zW ops T o)) ∧
 (∀ {C : Cfg} {ops : Array Oper} {base : Nat} {F : Dfs} {Q : Post} {rd : List Nat} {cs : List (Nat × Nat)} {i : Nat} {is : List Nat} {T : List V} {S : zA} {o : Oper}, WpO C ops base F Q rd cs i is T S o (some false) = WpD C ops base F Q rd (cs ++ [(i, 0)]) is (putT T o.dst (.tup [])) S) ∧
 (∀ {C : Cfg} {ops : Array Oper} {base : Nat} {F : Dfs} {Q : Post} {rd : List Nat} {cs : List (Nat × Nat)} {i : Nat} {is : List Nat} {T : List V} {S : zA} {o : Oper}, WpO C ops base F Q rd cs i is T S o (some true) = WpX C ops base F Q rd cs i is T S o (kI o)) ∧
 (∀ {C : Cfg} {ops : Array Oper} {base : Nat} {F : Dfs} {Q : Post} {rd : List Nat} {cs : List (Nat × Nat)} {i : Nat} {is : List Nat} {T : List V} {S : zA} {o : Oper}, WpX C ops base F Q rd cs i is T S o false = WpE C ops F Q (fun rd cs T S => WpD C ops base F Q rd cs is T S) rd cs i o.dst T S (opV C.P S T o)) ∧
 (∀ {C : Cfg} {ops : Array Oper} {base : Nat} {F : Dfs} {Q : Post} {rd : List Nat} {cs : List (Nat × Nat)} {i : Nat} {is : List Nat} {T : List V} {S : zA} {o : Oper}, WpX C ops base F Q rd cs i is T S o true = WpA base (fun cs T S => WpD C ops base F Q rd cs is T S) cs i o.dst T S (addO C.P T o)) ∧
 (∀ {C : Cfg} {ops : Array Oper} {F : Dfs} {Q : Post} {K : List Nat → List (Nat × Nat) → List V → zA → Prop} {rd : List Nat} {cs : List (Nat × Nat)} {i : Nat} {dst : Option Tmp} {T : List V} {S S' : zA} {v : V}, WpE C ops F Q K rd cs i dst T S (some (.val v S' 0)) = K rd (cs ++ [(i, 0)]) (putT T dst v) S') ∧
 (∀ {C : Cfg} {ops : Array Oper} {F : Dfs} {Q : Post} {K : List Nat → List (Nat × Nat) → List V → zA → Prop} {rd : List Nat} {cs : List (Nat × Nat)} {i : Nat} {dst : Option Tmp} {T : List V} {S S' : zA} {v : V}, WpE C ops F Q K rd cs i dst T S (some (.val v S' 1)) = K (i :: rd) (cs ++ [(i, 1)]) (putT T dst v) S') ∧
 (∀ {C : Cfg} {ops : Array Oper} {F : Dfs} {Q : Post} {K : List Nat → List (Nat × Nat) → List V → zA → Prop} {rd : List Nat} {cs : List (Nat × Nat)} {i : Nat} {dst : Option Tmp} {T : List V} {S S' : zA} {c : Nat}, WpE C ops F Q K rd cs i dst T S (some (.skip S' c)) = (z7o ops rd i 3 ∧ K rd (cs ++ [(i, 3)]) (putT T dst (.tup [])) S')) ∧
 (num2 0 = 0) ∧ (num2 1 = 1) ∧ (num2 2 = 3) ∧ (num2 3 = 3) ∧
 (∀ {α : Type} {l l' : List α} {a : α}, (a :: l) ++ l' = a :: (l ++ l')) :=
 ⟨rfl, zsc, rfl, rfl, rfl, rfl, rfl, by intros; simp [WpE, z7o, num2], by intros; simp [WpE, z7o, num2], rfl, rfl, rfl, rfl, rfl, rfl⟩
end
section
variable {C : Cfg} {S : zA}
theorem zjl {n : Nat} : ∀ l : List D, (l.map V.d).flatMap (qB S n) = []
 | [] => rfl
 | x :: r => by
  rw [List.map_cons, List.flatMap_cons, zjl r]
  cases n <;> rfl
def RowD (S : zA) (i : Nat) : Prop := ∃ (xs : List D) (e : TypeId), S[i]? = some (.row (xs.map .d) e)
theorem zvd {e : TypeId} {v : V} {ds : List D} {n : Nat} (h : OwnS S v e (ds.map .d)) : ∀ i ∈ qB S (n + 1) v, RowD S i := by
 rcases h with ⟨rfl, _⟩ | ⟨id, rfl, h1⟩
 ·intro i hi
  simp [qB] at hi
 ·intro i hi
  have e1 : qB S (n + 1) (.rs id 0 (ds.map V.d).length) = (match S[id]? with | some (.row xs e) => id :: xs.flatMap (qB S n) | _ => []) := rfl
  rw [e1, h1] at hi
  simp only [zjl, List.mem_singleton] at hi
  subst hi
  exact ⟨ds, e, h1⟩
theorem zgk {e : TypeId} {v : V} {ds : List D} {n : Nat} (ho : OwnS S v e (ds.map .d)) : frz S (n + 2) v = some (.sl ds) := by
 rcases ho with ⟨rfl, h⟩ | ⟨id, rfl, h1⟩
 ·have : ds = [] := by simpa using h
  subst this; rfl
 ·simp only [List.length_map]
  show (match S[id]? with
   | some (.row xs e) => if 0 + ds.length ≤ xs.length && (allO (frz S (n + 1)) xs).isSome then (allO (frz S (n + 1)) ((xs.drop 0).take ds.length)).map D.sl else none
   | some (.fz xs e) => if 0 + ds.length ≤ xs.length then some (D.sl ((xs.drop 0).take ds.length)) else none
   | _ => none) = _
  have h2 : ((ds.map V.d).drop 0).take ds.length = ds.map V.d := by rw [List.drop_zero, List.take_of_length_le (by simp)]
  simp only [h1, h2, zfo, List.length_map, Option.isSome_some, Bool.and_true, Option.map_some]
  simp
end
theorem zX {S : zA} {id : Nat} {x y : V} {e : TypeId} (h : S[id]? = some (.row [x] e)) : z12 S id 0 y = some (S.set id (.row [y] e)) := by
 unfold z12; rw [h]; rfl
theorem jP {S : zA} {id : Nat} {o o' : Ob} (h : S[id]? = some o) : (S.set id o')[id]? = some o' := by
 have := qG h
 simp [this]
theorem vF {S : zA} {v : V} {e : TypeId} {xs : List V} {id : Nat} {o : Ob} (h : OwnS S v e xs) (hn : NotAt v id) : OwnS (S.set id o) v e xs := by
 rcases h with h | ⟨j, rfl, h1⟩
 ·exact .inl h
 ·refine .inr ⟨j, rfl, ?_⟩
  rw [List.getElem?_set_ne]
  ·exact h1
  ·rintro rfl; exact hn _ _ rfl
theorem zj8 {P : Program} {t : TypeId} {s : List UInt8} {i : Nat} (hu : P.underlying t = some .string) (h : i < s.length) : z3x P t (.d (.str s)) (.d (.int .i64 i)) = some (.d (.int .u8 s[i].toNat)) := by
 have h0 : (0 : Int) ≤ i := by omega
 simp only [z3x, intOf?, hu, h0, if_true, Int.toNat_natCast, List.getElem?_eq_getElem h]
end Go.Vm
end
