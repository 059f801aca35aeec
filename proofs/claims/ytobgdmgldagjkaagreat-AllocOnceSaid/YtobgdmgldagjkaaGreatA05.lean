/- The value machine: code, and calls: what the machine says is what the program does. -/
import Derived.Defers
import Derived.Scope
import Derived.IntWalk
import Derived.Test.YtobgdmgldagjkaaGreatA04
set_option linter.unusedVariables false
set_option linter.unusedSimpArgs false
section
namespace Go.Vm
section
variable {P : Program} {S : zB} {ρ : Nat → Nat} {A : Nat → Prop} {w w' : World}
def zgl (P : Program) (c : Code) (Q : Exit → Act → World → Prop) (a : Act) (w : World) : Prop :=
 ∀ (b : Frame) (k : List Item) (cs : List Frame), ∃ e a' w', Q e a' w' ∧ Arrives P (lone (b.at a (.code c :: .inLoop c :: k)) cs w) b k cs e a' w'
theorem zmt {c : Code} {Q : Exit → Act → World → Prop} {a : Act} (h : zgl P c Q a w) : (Code.loop c).wp P Q a w := fun b k cs =>
 let ⟨e, a', w', hq, harr⟩ := h b k cs
 ⟨e, a', w', hq, .of_steps (.one step_loop) harr⟩
theorem zce {c : Code} {Q : Exit → Act → World → Prop} {a : Act} (h : c.wp P (Exit.then (zgl P c Q) Q) a w) : zgl P c Q a w := by
 intro b k cs
 obtain ⟨e, a₁, w₁, hq, harr⟩ := h b (.inLoop c :: k) cs
 cases e with
 | normal =>
  obtain ⟨e₂, a₂, w₂, hq₂, harr₂⟩ := hq b k cs
  exact ⟨e₂, a₂, w₂, hq₂, .of_steps (Steps.trans harr (.one step_inLoop)) harr₂⟩
 | exit id => exact ⟨_, a₁, w₁, hq, .pass (x := .inLoop c) rfl (fun _ _ => .inl (by simp)) harr⟩
 | goto l => exact ⟨_, a₁, w₁, hq, .pass (x := .inLoop c) rfl (fun _ _ => .inl (by simp)) harr⟩
 | ret => exact ⟨_, a₁, w₁, hq, .pass (x := .inLoop c) rfl (fun _ _ => .inl (by simp)) harr⟩
 | panic ch => exact ⟨_, a₁, w₁, hq, .pass (x := .inLoop c) rfl (fun _ _ => .inl (by simp)) harr⟩
 | outgrown => exact ⟨_, a₁, w₁, hq, .pass (x := .inLoop c) rfl (fun _ _ => .inl (by simp)) harr⟩
def wpL (P : Program) (c : Code) (Q : Exit → Act → World → Prop) (a : Act) (w : World) : Prop := match c with | .loop b => zgl P b Q a w | c => c.wp P Q a w
theorem z3u {c : Code} {Q : Exit → Act → World → Prop} {a : Act} (h : wpL P c Q a w) : c.wp P Q a w := by
 cases c with
 | loop b => exact zmt h
 | _ => exact h
theorem zls {t : TypeId} {x y : V} {u : Value} (h : kF P S t x = some y) (hx : RepV P S ρ A w x u) : ∃ a, u = .pointer (some a) := by
 unfold kF at h
 split at h
 ·have hx := (zM rfl).1 ((qD rfl).1 hx)
  simp only [zU, List.cons.injEq, and_true] at hx
  obtain ⟨a, rfl, _⟩ := hx
  exact ⟨a, rfl⟩
 ·have hx := (zF rfl).1 (jP.1 hx)
  simp only [RepC, List.cons.injEq, and_true] at hx
  obtain ⟨a, us, rfl, _⟩ := hx
  exact ⟨a, rfl⟩
 ·cases h
theorem zd6 {T : List V} {tm : Array Value} (hT : RepT P S ρ A w T tm.toList) (t : Tmp) : RepV P S ρ A w (T.getD t (.tup [])) (tm.getD t undef) := by
 have hl := z23 hT
 simp only [Array.length_toList] at hl
 cases h : T[t]? with
 | some v =>
  obtain ⟨u, hu, hr⟩ := z57 hT t v h
  have hu' : tm[t]? = some u := by simpa using hu
  simp only [List.getD_eq_getElem?_getD, h, Option.getD_some]
  have : tm.getD t undef = u := by
   rw [Array.getD_eq_getD_getElem?, hu']; rfl
  rw [this]; exact hr
 | none =>
  have hn : tm[t]? = none := by
   simp only [List.getElem?_eq_none_iff] at h
   simp [hl, h]
  simp only [List.getD_eq_getElem?_getD, h, Option.getD_none]
  have : tm.getD t undef = undef := by
   rw [Array.getD_eq_getD_getElem?, hn]; rfl
  rw [this]; exact vQ
def z1x (tm : Array Value) : ResultVar → Sem Value
 | .tmp t => pure (tm.getD t undef)
 | .cell a t => do loadVar t (← asAddr (tm.getD a undef))
theorem z9i (hI : Inv P S ρ A w) {T : List V} {tm : Array Value} (hT : RepT P S ρ A w T tm.toList) {r : ResultVar} {v : V} (h : jY P T S r = some v) : ∃ u, (z1x tm r).run P w = .ok u w ∧ RepV P S ρ A w v u := by
 cases r with
 | tmp t =>
  simp only [jY, Option.some.injEq] at h; subst h
  exact ⟨_, rfl, zd6 hT t⟩
 | cell a t =>
  simp only [jY] at h
  have ha := zd6 hT a
  obtain ⟨ad, he⟩ := zls h ha
  obtain ⟨u, h1, h2⟩ := zeg hI h ha
  refine ⟨u, ?_, zV h2⟩
  rw [he] at h1
  simpa [z1x, he, asAddr, Instr.loadAt, Instr.sureAddr] using h1
theorem z3t (hI : Inv P S ρ A w) {T : List V} {tm : Array Value} (hT : RepT P S ρ A w T tm.toList) : ∀ {rs : List ResultVar} {vs : List V}, allO (jY P T S) rs = some vs → ∃ us, (rs.mapM (z1x tm)).run P w = .ok us w ∧ us.length = rs.length ∧ (∀ (i : Nat) (v : V), vs[i]? = some v → ∃ u, us[i]? = some u ∧ RepV P S ρ A w v u) ∧ vs.length = rs.length
 | [], vs, h => by
  simp only [allO, Option.some.injEq] at h; subst h
  exact ⟨[], by simp, rfl, fun i v h => by simp at h, rfl⟩
 | r :: rs, vs, h => by
  obtain ⟨y, zs, h1, h2, rfl⟩ := wQ h
  obtain ⟨u, g1, g2⟩ := z9i hI hT h1
  obtain ⟨us, g3, g4, g5, g6⟩ := z3t hI hT h2
  refine ⟨u :: us, by simp [g1, g3], by simp [g4], fun i v hv => ?_, by simp [g6]⟩
  cases i with
  | zero => simp at hv; subst hv; exact ⟨u, by simp, g2⟩
  | succ i => simp at hv; simpa using g5 i v hv
theorem z77 : ∀ {vs : List V} {us : List Value}, vs.all V.one = true → us.length = vs.length → (∀ (i : Nat) (v : V), vs[i]? = some v → ∃ u, us[i]? = some u ∧ RepV P S ρ A w v u) → qY P S ρ A w vs us
 | [], us, _, hl, _ => by simp at hl; simp [qY, hl]
 | v :: r, us, ho, hl, h => by
  cases us with
  | nil => simp at hl
  | cons u us =>
   simp only [List.all_cons, Bool.and_eq_true] at ho
   obtain ⟨u', h1, h2⟩ := h 0 v (by simp)
   simp at h1; subst h1
   simp only [qY]
   exact ⟨_, us, rfl, (qD ho.1).1 h2, z77 ho.2 (by simpa using hl) (fun i v hv => by simpa using h (i + 1) v (by simpa using hv))⟩
theorem z7e (hI : Inv P S ρ A w) {T : List V} {tm : Array Value} (hT : RepT P S ρ A w T tm.toList) {fn : Func} {v : V} (h : qG P fn.results T S = some v) : ∃ u, (results fn tm).run P w = .ok u w ∧ RepV P S ρ A w v u := by
 have key : ∀ us : List Value, (fn.results.toList.mapM (z1x tm)).run P w = .ok us w → (results fn tm).run P w = .ok (if h : us.toArray.size = 1 then us.toArray[0] else .tuple us.toArray) w := by
  intro us hus
  have : (fn.results.mapM (z1x tm)).run P w = .ok us.toArray w := by
   rw [← Array.toArray_toList (xs := fn.results), List.mapM_toArray]
   simp [hus]
  have e : results fn tm = (do let vs ← fn.results.mapM (z1x tm); pure (if h : vs.size = 1 then vs[0] else .tuple vs)) := by
   unfold results z1x
   rfl
  rw [e]
  simp [this]
 unfold qG at h
 split at h
 ·rename_i r hr
  obtain ⟨u, g1, g2⟩ := z9i hI hT h
  refine ⟨u, ?_, g2⟩
  have := key [u] (by rw [hr]; simp [g1])
  simpa using this
 ·rename_i l hne
  split at h
  ·rename_i vs hvs
   split at h
   ·rename_i hone
    simp only [Option.some.injEq] at h; subst h
    obtain ⟨us, g1, g2, g3, g4⟩ := z3t hI hT hvs
    refine ⟨.tuple us.toArray, ?_, us.toArray, rfl, by simpa using z77 hone (by omega) g3⟩
    rw [key us g1]
    have : ¬ us.toArray.size = 1 := by
     simp only [List.size_toArray, g2]
     intro h1
     obtain ⟨x, hx⟩ := List.length_eq_one_iff.1 h1
     exact hne x hx
    rw [dif_neg this]
   ·cases h
  ·cases h
theorem zb1 {args : List V} {us : Array Value} (n : Nat) (h : qY P S ρ A w args us.toList) : RepT P S ρ A w (vW n args) (us ++ Array.replicate (n - us.size) undef).toList := by
 have hl := z7h h
 simp only [Array.length_toList] at hl
 simp only [vW, Array.toList_append, Array.toList_replicate, hl]
 exact z8j (z6e h) (zhf _)
theorem z8r {f : FuncId} {b : Body} (h : zC P f = some b) : ∃ fn, P.funcs[f]? = some fn ∧ fn.body = some b.code ∧ b.ntmps = fn.ntmps ∧ b.results = fn.results := by
 unfold zC at h
 cases hf : P.funcs[f]? with
 | none => simp [hf] at h
 | some fn =>
  simp only [hf] at h
  split at h
  ·cases h
  ·cases hb : fn.body with
   | none => simp [hb] at h
   | some c =>
    simp only [hb, Option.some.injEq] at h; subst h
    exact ⟨fn, rfl, hb, rfl, rfl⟩
def zms (P : Program) (ex : z5y) : Prop := ∀ (c : Code) {S S' : zB} {T T' : List V} {F F' : Dfs} {x : Ex}, ex c T S F = some (x, T', S', F') →
 ∀ {ρ : Nat → Nat} {A : Nat → Prop} {w : World} {a : Act} {Q : Exit → Act → World → Prop}, Inv P S ρ A w → RepT P S ρ A w T a.tmps.toList → DfOk P S ρ A w F a.defers → (∀ e a' w', ExPost P S ρ A w x T' S' F' e a' w' → Q e a' w') → wpL P c Q a w
def zbd (C : Cfg) : Prop := ∀ f post, C.catch_ f = some post → ∀ (S S' : zB) (g : FuncId) (o : Out) (v : V), post o = some v → ∀ (ρ : Nat → Nat) (A : Nat → Prop) (w : World) (fa ca : Array Value), Inv C.P S ρ A w → ((zC C.P g).isSome = true ∨ (C.catch_ g).isSome = true) →
 (∀ ρ1 A1 w1, Inv C.P S ρ1 A1 w1 → Step S ρ A w S ρ1 A1 w1 → Calls C.P g (fa ++ ca) w1 (z4f C.P S ρ1 A1 w1 o S')) → Calls C.P f #[.func (.func g) fa ca] w (z4f C.P S ρ A w (.ret v) S')
theorem zpd {C : Cfg} {n : Nat} {g : FuncId} {args : List V} {S : zB} {r : Out × zB} (h : run C n g args S = some r) : (zC C.P g).isSome = true ∨ (C.catch_ g).isSome = true := by
 cases n with
 | zero => simp [run] at h
 | succ n =>
  simp only [run] at h
  split at h
  ·rename_i post hp
   exact .inr (by rw [hp]; rfl)
  ·split at h
   ·cases h
   ·rename_i b hb
    exact .inl (by rw [hb]; rfl)
theorem zpt {ex : z5y} (hex : zms P ex) {f : FuncId} {args : List V} {S S' : zB} (h : z01 P ex f args S = some S') (hI : Inv P S ρ A w) {us : Array Value} (hr : qY P S ρ A w args us.toList) {u : FrameMode} :
  CallsD P f us u w fun e u' w' => u' = u ∧ match e with
   | .returned _ => ∃ ρ' A', Inv P S' ρ' A' w' ∧ Step S ρ A w S' ρ' A' w'
   | _ => False := by
 unfold z01 at h
 split at h
 ·cases h
 ·rename_i b hb
  obtain ⟨fn, hf, hbody, hn, hres⟩ := z8r hb
  have hstart := zb1 (P := P) (S := S) (ρ := ρ) (A := A) (w := w) fn.ntmps hr
  refine callsD_of_wp (R := fun e w' => match e with | .returned _ => ∃ ρ' A', Inv P S' ρ' A' w' ∧ Step S ρ A w S' ρ' A' w' | _ => False) hf hbody ?_
  rw [hn] at h
  have fin : ∀ {x : Ex} {T1 : List V} {S1 : zB}, (x = .norm ∨ x = .ret) → ex b.code (vW fn.ntmps args) S [] = some (x, T1, S1, []) → ((qG P b.results T1 S1).map fun _ => S1) = some S' →
    b.code.wp P (bodyPost P fn fun e w' => match e with | .returned _ => ∃ ρ' A', Inv P S' ρ' A' w' ∧ Step S ρ A w S' ρ' A' w' | _ => False) { tmps := us ++ Array.replicate (fn.ntmps - us.size) undef, defers := [] } w := by
   intro x T1 S1 hx hex1 hres1
   obtain ⟨v, hv, rfl⟩ := Option.map_eq_some_iff.1 hres1
   refine z3u (hex b.code hex1 hI hstart rfl fun e a' w' he => ?_)
   have good : St P S ρ A w T1 S1 [] a' w' → a'.defers = [] ∧ ∃ v, (results fn a'.tmps).run P w' = .ok v w' ∧ (∃ ρ' A', Inv P S1 ρ' A' w' ∧ Step S ρ A w S1 ρ' A' w') := fun hs => by
    obtain ⟨ρ', A', h1, h2, h3, h4⟩ := hs
    rw [hres] at hv
    obtain ⟨u, g1, g2⟩ := z7e h1 h3 hv
    exact ⟨h4, u, g1, ρ', A', h1, h2⟩
   cases e with
   | normal => exact good he.2
   | ret => exact good he.2
   | exit k => rcases hx with rfl | rfl <;> exact absurd he.1 (by simp)
   | panic c => obtain ⟨y, v, h1, _⟩ := he; rcases hx with rfl | rfl <;> cases h1
   | goto l => exact he.elim
   | outgrown => exact he.elim
  split at h
  ·rename_i T1 S1 h1
   exact fin (.inl rfl) h1 h
  ·rename_i T1 S1 h1
   exact fin (.inr rfl) h1 h
  ·cases h
theorem zr2 {ex : z5y} (hex : zms P ex) {fn : Func} {tm : Array Value} {T : List V} {v : V} {S2 : zB} {R : Ending → World → Prop} {S0 : zB} {ρ0 : Nat → Nat} {A0 : Nat → Prop} {w0 : World} (hres : qG P fn.results T S2 = some v)
    (hR : ∀ u w', (∃ ρ' A', Inv P S2 ρ' A' w' ∧ Step S0 ρ0 A0 w0 S2 ρ' A' w' ∧ RepV P S2 ρ' A' w' v u) → R (.returned u) w') : ∀ {F : Dfs} {ds : List Deferred} {S : zB} {ρ : Nat → Nat} {A : Nat → Prop} {w : World}, dfrV P ex F S = some S2 → Inv P S ρ A w → Step S0 ρ0 A0 w0 S ρ A w → RepT P S ρ A w T tm.toList → DfOk P S ρ A w F ds → Leaves P fn tm R ds .returning w
  | [], ds, S, ρ, A, w, h, hI, hs, hT, hF => by
    simp only [dfrV, Option.some.injEq] at h; subst h
    simp only [DfOk] at hF; subst hF
    obtain ⟨u, g1, g2⟩ := z7e hI hT hres
    exact ⟨u, g1, hR u w ⟨ρ, A, hI, hs, g2⟩⟩
  | (f, args) :: r, ds, S, ρ, A, w, h, hI, hs, hT, hF => by
    obtain ⟨d, ds', rfl, ⟨fv, cap, us, h1, h2, h3⟩, h4⟩ := hF
    simp only [dfrV] at h
    cases hp : z01 P ex f args S with
    | none => simp [hp] at h
    | some S1 =>
      simp only [hp] at h
      refine ⟨by simp, fv, cap, f, us, h1, h2 w, ?_⟩
      refine (zpt hex hp hI h3).mono fun e u' w' he => ?_
      obtain ⟨rfl, he⟩ := he
      cases e with
      | returned u =>
        obtain ⟨ρ1, A1, g1, g2⟩ := he
        exact zr2 hex hres hR h g1 (hs.trans g2) (kJ g2.amono g2.keepA g2.sle _ _ hT) (kL g2 h4)
      | panicked c => exact he.elim
      | outgrown => exact he.elim
theorem zsd {C : Cfg} (hext : z64 C) (hcatch : zbd C) : ∀ n, zms C.P (exec C n) ∧ z9w C.P (run C n) := by
 intro n
 induction n with
 | zero => exact ⟨fun c S S' T T' F F' x h => by simp [exec] at h, fun f args S o S' h => by simp [run] at h⟩
 | succ n ih =>
  obtain ⟨ihe, ihr⟩ := ih
  constructor
  ·intro c S S' T T' F F' x h ρ A w a Q hI hT hF hQ
   have here : ∀ {x' : Ex} {e : Exit}, (∀ a' w', St C.P S ρ A w T S F a' w' → ExPost C.P S ρ A w x' T S F e a' w') → some (x', T, S, F) = some (x, T', S', F') → Q e a w := by
    intro x' e hp he
    simp only [Option.some.injEq, Prod.mk.injEq] at he
    obtain ⟨rfl, rfl, rfl, rfl⟩ := he
    exact hQ _ _ _ (hp a w ⟨ρ, A, hI, .refl, hT, hF⟩)
   cases c with
   | skip => exact wp_skip (here (x' := .norm) (fun _ _ hs => ⟨rfl, hs⟩) (by simpa [exec] using h))
   | label l => exact wp_label (here (x' := .norm) (fun _ _ hs => ⟨rfl, hs⟩) (by simpa [exec] using h))
   | exit id => exact wp_exit (here (x' := .exit id) (fun _ _ hs => ⟨rfl, hs⟩) (by simpa [exec] using h))
   | ret => exact wp_ret (here (x' := .ret) (fun _ _ hs => ⟨rfl, hs⟩) (by simpa [exec] using h))
   | region id ops dr =>
    cases dr with
    | false =>
     simp only [exec] at h
     refine wp_region ?_
     have := z48 hext ihr h (k := 0) rfl hI hT hF hQ
     rw [List.range_eq_range']
     simpa using this
    | true =>
     simp only [exec] at h
     split at h
     ·rename_i T1 S1 cs hseq
      split at h
      ·rename_i hd
       simp only [Option.some.injEq, Prod.mk.injEq] at h
       obtain ⟨rfl, rfl, rfl, rfl⟩ := h
       exact zu8 hext ihr (zld C n).2 hseq hd hI hT hF (fun a' w' hs => hQ _ _ _ ⟨rfl, hs⟩)
      ·cases h
     ·split at h
      ·rename_i v1 S1 cs p rest hseq
       split at h
       ·rename_i hd
        simp only [Option.some.injEq, Prod.mk.injEq] at h
        obtain ⟨rfl, rfl, rfl, rfl⟩ := h
        exact zfq hext ihr (zld C n).2 hseq hd hI hT hF (fun a' w' c ⟨u, h1, h2, ρ', A', h3, h4, h5⟩ => hQ _ _ _ ⟨_, u, rfl, h1, h2, ρ', A', h3, h4, h5⟩)
       ·cases h
      ·cases h
   | seq c1 c2 =>
    simp only [exec] at h
    refine wp_seq ?_
    cases h1 : exec C n c1 T S F with
    | none => simp [h1] at h
    | some r =>
     obtain ⟨x1, T1, S1, F1⟩ := r
     refine z3u (ihe c1 h1 hI hT hF fun e a' w' he => ?_)
     cases x1 with
     | norm =>
      simp only [h1] at h
      cases e with
      | normal =>
       obtain ⟨_, ρ1, A1, g1, g2, g3, g4⟩ := he
       exact z3u (ihe c2 h g1 g3 g4 fun e a2 w2 he2 => hQ _ _ _ (he2.step g2))
      | exit k => exact absurd he.1 (by simp)
      | ret => exact absurd he.1 (by simp)
      | panic c => obtain ⟨y, v, h1, _⟩ := he; cases h1
      | goto l => exact he.elim
      | outgrown => exact he.elim
     | _ =>
      simp only [h1, Option.some.injEq, Prod.mk.injEq] at h
      obtain ⟨rfl, rfl, rfl, rfl⟩ := h
      cases e with
      | normal => exact absurd he.1 (by simp)
      | _ => exact hQ _ _ _ he
   | cond c a1 b1 =>
    simp only [exec] at h
    have hc := z1i hT c
    split at h
    ·rename_i hv
     rw [hv] at hc
     exact wp_cond_true (z3g hc) (z3u (ihe a1 h hI hT hF hQ))
    ·rename_i hv
     rw [hv] at hc
     exact wp_cond_false (z3g hc) (z3u (ihe b1 h hI hT hF hQ))
    ·cases h
   | block id b =>
    simp only [exec] at h
    refine wp_block ?_
    cases h1 : exec C n b T S F with
    | none => simp [h1] at h
    | some r =>
     obtain ⟨x1, T1, S1, F1⟩ := r
     refine z3u (ihe b h1 hI hT hF fun e a' w' he => ?_)
     cases x1 with
     | exit k =>
      simp only [h1] at h
      cases e with
      | exit k' =>
       obtain ⟨hk, hs⟩ := he
       simp only [Ex.exit.injEq] at hk
       subst hk
       simp only [Exit.inBlock]
       split at h
       ·rename_i hk
        rw [if_pos hk]
        simp only [Option.some.injEq, Prod.mk.injEq] at h
        obtain ⟨rfl, rfl, rfl, rfl⟩ := h
        exact hQ _ _ _ ⟨rfl, hs⟩
       ·rename_i hk
        rw [if_neg hk]
        simp only [Option.some.injEq, Prod.mk.injEq] at h
        obtain ⟨rfl, rfl, rfl, rfl⟩ := h
        exact hQ _ _ _ ⟨rfl, hs⟩
      | normal => exact absurd he.1 (by simp)
      | ret => exact absurd he.1 (by simp)
      | panic c => obtain ⟨y, v, h1, _⟩ := he; cases h1
      | goto l => exact he.elim
      | outgrown => exact he.elim
     | _ =>
      simp only [h1, Option.some.injEq, Prod.mk.injEq] at h
      obtain ⟨rfl, rfl, rfl, rfl⟩ := h
      cases e with
      | exit k' => exact absurd he.1 (by simp)
      | _ => exact hQ _ _ _ he
   | loop b =>
    simp only [exec] at h
    refine zce ?_
    cases h1 : exec C n b T S F with
    | none => simp [h1] at h
    | some r =>
     obtain ⟨x1, T1, S1, F1⟩ := r
     refine z3u (ihe b h1 hI hT hF fun e a' w' he => ?_)
     cases x1 with
     | norm =>
      simp only [h1] at h
      cases e with
      | normal =>
       obtain ⟨_, ρ1, A1, g1, g2, g3, g4⟩ := he
       exact ihe (.loop b) h g1 g3 g4 fun e a2 w2 he2 => hQ _ _ _ (he2.step g2)
      | exit k => exact absurd he.1 (by simp)
      | ret => exact absurd he.1 (by simp)
      | panic c => obtain ⟨y, v, h1, _⟩ := he; cases h1
      | goto l => exact he.elim
      | outgrown => exact he.elim
     | _ =>
      simp only [h1, Option.some.injEq, Prod.mk.injEq] at h
      obtain ⟨rfl, rfl, rfl, rfl⟩ := h
      cases e with
      | normal => exact absurd he.1 (by simp)
      | _ => exact hQ _ _ _ he
   | scope b =>
    simp only [exec] at h
    refine wp_scope_straight (z3u (ihe b h hI hT hF fun e a' w' he => ?_))
    cases e with
    | goto l => exact he.elim
    | _ => exact hQ _ _ _ he
   | _ => simp [exec] at h
  ·intro f args S o S' h ρ A w us hI hr
   simp only [run] at h
   split at h
   ·rename_i post hpost
    split at h
    ·rename_i g first caps
     split at h
     ·cases h
     ·rename_i o' S1 h1
      split at h
      ·cases h
      ·rename_i v hv
       simp only [Option.some.injEq, Prod.mk.injEq] at h
       obtain ⟨rfl, rfl⟩ := h
       simp only [qY] at hr
       obtain ⟨u, us', hus, hu, rfl⟩ := hr
       have : us = #[u] := by rw [← Array.toList_inj]; exact hus
       subst this
       obtain ⟨fa, ca, rfl, g1, g2⟩ := zh7 (zV hu)
       refine hcatch f post hpost S S1 g o' v hv ρ A w fa ca hI (zpd h1) fun ρ1 A1 w1 hI1 hs1 => ?_
       refine ihr g _ S o' S1 h1 ρ1 A1 w1 _ hI1 ?_
       have := kQ (z1d hs1.amono hs1.keepA hs1.sle _ _ g1) (z1d hs1.amono hs1.keepA hs1.sle _ _ g2)
       simpa using this
    ·cases h
   ·split at h
    ·cases h
    ·rename_i b hb
     obtain ⟨fn, hf, hbody, hn, hres⟩ := z8r hb
     rw [hn] at h
     refine calls_of_wp_defers hf hbody ?_
     have hstart := zb1 (P := C.P) (S := S) (ρ := ρ) (A := A) (w := w) fn.ntmps hr
     have good : ∀ {T1 : List V} {S1 : zB} {F1 : Dfs} {a' : Act} {w' : World}, endV C.P (exec C n) b.results T1 S1 F1 = some (o, S') → St C.P S ρ A w T1 S1 F1 a' w' → Leaves C.P fn a'.tmps (z4f C.P S ρ A w o S') a'.defers .returning w' := by
      intro T1 S1 F1 a' w' he hs
      obtain ⟨ρ1, A1, g1, g2, g3, g4⟩ := hs
      unfold endV at he
      cases hd : dfrV C.P (exec C n) F1 S1 with
      | none => simp [hd] at he
      | some S2 =>
       simp only [hd] at he
       cases hrs : qG C.P b.results T1 S2 with
       | none => simp [hrs] at he
       | some v =>
        simp only [hrs, Option.some.injEq, Prod.mk.injEq] at he
        obtain ⟨rfl, rfl⟩ := he
        rw [hres] at hrs
        exact zr2 ihe hrs (fun u w2 ⟨ρ2, A2, k1, k2, k3⟩ => ⟨v, rfl, ρ2, A2, k1, k2, k3⟩) hd g1 g2 g3 g4
     have case1 : ∀ {x : Ex} {T1 : List V} {S1 : zB} {F1 : Dfs}, (x = .norm ∨ x = .ret) → exec C n b.code (vW fn.ntmps args) S [] = some (x, T1, S1, F1) → endV C.P (exec C n) b.results T1 S1 F1 = some (o, S') →
       b.code.wp C.P (bodyPostD C.P fn (z4f C.P S ρ A w o S')) { tmps := us ++ Array.replicate (fn.ntmps - us.size) undef, defers := [] } w := by
      intro x T1 S1 F1 hx hex1 he
      refine z3u (ihe b.code hex1 hI hstart rfl fun e a' w' hp => ?_)
      cases e with
      | normal => exact good he hp.2
      | ret => exact good he hp.2
      | exit k => rcases hx with rfl | rfl <;> exact absurd hp.1 (by simp)
      | panic c => obtain ⟨y, v, h1, _⟩ := hp; rcases hx with rfl | rfl <;> cases h1
      | goto l => exact hp.elim
      | outgrown => exact hp.elim
     split at h
     ·rename_i T1 S1 F1 h1
      exact case1 (.inl rfl) h1 h
     ·rename_i T1 S1 F1 h1
      exact case1 (.inr rfl) h1 h
     ·rename_i v T1 S1 h1
      simp only [Option.some.injEq, Prod.mk.injEq] at h
      obtain ⟨rfl, rfl⟩ := h
      refine z3u (ihe b.code h1 hI hstart rfl fun e a' w' hp => ?_)
      cases e with
      | panic c =>
       obtain ⟨y, u, k1, rfl, k2, ρ1, A1, k3, k4, k5⟩ := hp
       cases k1
       show Leaves C.P fn a'.tmps _ a'.defers _ w'
       rw [k2 rfl]
       exact ⟨v, u, rfl, rfl, ρ1, A1, k3, k4, k5⟩
      | normal => exact absurd hp.1 (by simp)
      | ret => exact absurd hp.1 (by simp)
      | exit k => exact absurd hp.1 (by simp)
      | goto l => exact hp.elim
      | outgrown => exact hp.elim
     ·cases h
theorem zt7 {C : Cfg} (hext : z64 C) (hcatch : zbd C) (n : Nat) : zz6 C.P (runD C n) := zdj hext (zsd hext hcatch n).2
end
abbrev Post := Ex → List V → zB → Dfs → Prop
section
variable {C : Cfg}
def Ev (C : Cfg) (f : FuncId) (ds : List D) (o : Out) : Prop := ∃ n, runD C n f ds = some o
def EvS (C : Cfg) (f : FuncId) (args : List V) (S : zB) (Q : Out → zB → Prop) : Prop := ∃ n o S', run C n f args S = some (o, S') ∧ Q o S'
def Wp (C : Cfg) (c : Code) (T : List V) (S : zB) (F : Dfs) (Q : Post) : Prop := ∃ n x T' S' F', exec C n c T S F = some (x, T', S', F') ∧ Q x T' S' F'
def WpL (C : Cfg) (ops : Array Oper) (l : List Oper) (T : List V) (S : zB) (F : Dfs) (Q : Post) : Prop := ∃ n x T' S' F', seqV C (run C n) ops l T S F = some (x, T', S', F') ∧ Q x T' S' F'
def andThen (K : List V → zB → Dfs → Prop) (Q : Post) : Post
 | .norm, T, S, F => K T S F
 | x, T, S, F => Q x T S F
def inBlock (id : Nat) (Q : Post) : Post
 | .exit k, T, S, F => if k = id then Q .norm T S F else Q (.exit k) T S F
 | x, T, S, F => Q x T S F
theorem zdu {id k : Nat} {Q : Post} {T S F} : inBlock id Q (.exit k) T S F = if k = id then Q .norm T S F else Q (.exit k) T S F := rfl
theorem Wp.mono {c : Code} {T S F} {Q Q' : Post} (h : Wp C c T S F Q) (hq : ∀ x T' S' F', Q x T' S' F' → Q' x T' S' F') : Wp C c T S F Q' := by
 obtain ⟨n, x, T', S', F', h1, h2⟩ := h
 exact ⟨n, x, T', S', F', h1, hq _ _ _ _ h2⟩
theorem wp_skip {T S F} {Q : Post} (h : Q .norm T S F) : Wp C .skip T S F Q := ⟨1, _, _, _, _, rfl, h⟩
theorem wp_ret {T S F} {Q : Post} (h : Q .ret T S F) : Wp C .ret T S F Q := ⟨1, _, _, _, _, rfl, h⟩
theorem wp_exit {id T S F} {Q : Post} (h : Q (.exit id) T S F) : Wp C (.exit id) T S F Q := ⟨1, _, _, _, _, rfl, h⟩
theorem wp_label {l T S F} {Q : Post} (h : Q .norm T S F) : Wp C (.label l) T S F Q := ⟨1, _, _, _, _, rfl, h⟩
theorem wp_region {id ops T S F} {Q : Post} (h : WpL C ops ops.toList T S F Q) : Wp C (.region id ops false) T S F Q := by
 obtain ⟨n, x, T', S', F', h1, h2⟩ := h
 exact ⟨n + 1, x, T', S', F', by simpa [exec] using h1, h2⟩
theorem wp_seq {a b : Code} {T S F} {Q : Post} (h : Wp C a T S F (andThen (fun T' S' F' => Wp C b T' S' F' Q) Q)) : Wp C (.seq a b) T S F Q := by
 obtain ⟨n, x, T', S', F', h1, h2⟩ := h
 cases x with
 | norm =>
  obtain ⟨m, y, T2, S2, F2, h3, h4⟩ := h2
  refine ⟨max n m + 1, y, T2, S2, F2, ?_, h4⟩
  simp only [exec]
  rw [z67 C (Nat.le_max_left n m) _ _ _ _ _ h1]
  exact z67 C (Nat.le_max_right n m) _ _ _ _ _ h3
 | _ =>
  refine ⟨n + 1, _, T', S', F', ?_, h2⟩
  simp only [exec]
  rw [h1]
theorem wp_cond {c : Operand} {a b : Code} {T S F} {Q : Post} {v : Bool} (hv : zE T c = .d (.bool v)) (ha : v = true → Wp C a T S F Q) (hb : v = false → Wp C b T S F Q) : Wp C (.cond c a b) T S F Q := by
 cases v with
 | true =>
  obtain ⟨n, x, T', S', F', h1, h2⟩ := ha rfl
  exact ⟨n + 1, x, T', S', F', by simp only [exec, hv]; exact h1, h2⟩
 | false =>
  obtain ⟨n, x, T', S', F', h1, h2⟩ := hb rfl
  exact ⟨n + 1, x, T', S', F', by simp only [exec, hv]; exact h1, h2⟩
theorem wp_block {id : Nat} {b : Code} {T S F} {Q : Post} (h : Wp C b T S F (inBlock id Q)) : Wp C (.block id b) T S F Q := by
 obtain ⟨n, x, T', S', F', h1, h2⟩ := h
 cases x with
 | exit k =>
  rw [zdu] at h2
  by_cases hk : k = id
  ·rw [if_pos hk] at h2
   exact ⟨n + 1, _, T', S', F', by simp only [exec]; rw [h1]; simp [hk], h2⟩
  ·rw [if_neg hk] at h2
   exact ⟨n + 1, _, T', S', F', by simp only [exec]; rw [h1]; simp [hk], h2⟩
 | _ => exact ⟨n + 1, _, T', S', F', by simp only [exec]; rw [h1], h2⟩
theorem wp_scope {b : Code} {T S F} {Q : Post} (h : Wp C b T S F Q) : Wp C (.scope b) T S F Q := by
 obtain ⟨n, x, T', S', F', h1, h2⟩ := h
 exact ⟨n + 1, x, T', S', F', by simpa [exec] using h1, h2⟩
theorem wp_loop {b : Code} {T S F} {Q : Post} (h : Wp C b T S F (andThen (fun T' S' F' => Wp C (.loop b) T' S' F' Q) Q)) : Wp C (.loop b) T S F Q := by
 obtain ⟨n, x, T', S', F', h1, h2⟩ := h
 cases x with
 | norm =>
  obtain ⟨m, y, T2, S2, F2, h3, h4⟩ := h2
  refine ⟨max n m + 1, y, T2, S2, F2, ?_, h4⟩
  simp only [exec]
  rw [z67 C (Nat.le_max_left n m) _ _ _ _ _ h1]
  exact z67 C (Nat.le_max_right n m) _ _ _ _ _ h3
 | _ =>
  refine ⟨n + 1, _, T', S', F', ?_, h2⟩
  simp only [exec]
  rw [h1]
theorem q08 {ops T S F} {Q : Post} (h : Q .norm T S F) : WpL C ops [] T S F Q := ⟨0, _, _, _, _, rfl, h⟩
def zd1 (o : Oper) : Bool := match o.op with | .buildSlice .. => false | _ => true
theorem z2x {P : Program} {T : List V} {o : Oper} {l : List Oper} (h : zd1 o = true) : wD P T o l = none := by
 cases l with
 | nil => rfl
 | cons o2 l =>
  obtain ⟨dst, op, ty, pos, after, guard⟩ := o
  cases op <;> first | rfl | (simp [zd1] at h)
theorem zqp {f : FuncId} {b : Body} {ds : List D} {o : Out} (hx : C.ext f = none) (hc : C.catch_ f = none) (hb : zC C.P f = some b)
  (h : Wp C b.code (vW b.ntmps (ds.map .d)) [] [] fun x T S F => (x = .norm ∨ x = .ret) ∧ F = [] ∧ ∃ v, qG C.P b.results T S = some v ∧ z9k S (.ret v) = some o) : Ev C f ds o := by
 obtain ⟨n, x, T, S, F, h1, h2, rfl, v, h3, h4⟩ := h
 refine ⟨n + 1, ?_⟩
 unfold runD answer
 simp only [hx, run, hc, hb, h1]
 rcases h2 with rfl | rfl <;> simp only [endV, dfrV, h3] <;> exact h4
theorem zl2 {f : FuncId} {b : Body} {args : List V} {S : zB} {R : Out → zB → Prop} (hc : C.catch_ f = none) (hb : zC C.P f = some b)
  (h : Wp C b.code (vW b.ntmps args) S [] fun x T S F => F = [] ∧ match x with | .norm => ∃ v, qG C.P b.results T S = some v ∧ R (.ret v) S | .ret => ∃ v, qG C.P b.results T S = some v ∧ R (.ret v) S | .pan v => R (.pan v) S | .exit _ => False) : EvS C f args S R := by
 obtain ⟨n, x, T, S', F, h1, rfl, h2⟩ := h
 cases x with
 | norm =>
  obtain ⟨v, h3, h4⟩ := h2
  exact ⟨n + 1, .ret v, S', by simp only [run, hc, hb, h1, endV, dfrV, h3], h4⟩
 | ret =>
  obtain ⟨v, h3, h4⟩ := h2
  exact ⟨n + 1, .ret v, S', by simp only [run, hc, hb, h1, endV, dfrV, h3], h4⟩
 | pan v => exact ⟨n + 1, .pan v, S', by simp only [run, hc, hb, h1], h2⟩
 | exit k => exact h2.elim
end
section
variable {C : Cfg}
def WpR (C : Cfg) (ops : Array Oper) (dst : Option Tmp) (l : List Oper) (T : List V) (S : zB) (F : Dfs) (Q : Post) : Option Rs → Prop
 | some (.val v S' _) => WpL C ops l (putT T dst v) S' F Q
 | some (.skip S' _) => WpL C ops l (putT T dst (.tup [])) S' F Q
 | some (.enter f args) => ∃ n o S' c, jU C (run C n) f args S = some (o, S', c) ∧ match o with | .ret v => WpL C ops l (putT T dst v) S' F Q | .pan v => Q (.pan v) T S' F
 | some (.dfr f args) => WpL C ops l (putT T dst (.tup [])) S ((f, args) :: F) Q
 | some (.pan v) => Q (.pan v) T S F
 | none => False
theorem zba {n m : Nat} (h : n ≤ m) {f : FuncId} {args : List V} {S : zB} {r : Out × zB × Nat} (hc : jU C (run C n) f args S = some r) : jU C (run C m) f args S = some r := z3l (z9c C h) hc
theorem z8k {ops : Array Oper} {dst : Option Tmp} {op : Op} {ty : TypeId} {pos : String} {after : Array Edge} {l : List Oper} {T : List V} {S : zB} {F : Dfs} {Q : Post} (hp : wD C.P T ⟨dst, op, ty, pos, after, none⟩ l = none) :
  WpL C ops (⟨dst, op, ty, pos, after, none⟩ :: l) T S F Q = WpR C ops dst l T S F Q (opV C.P S T ⟨dst, op, ty, pos, after, none⟩) := by
 apply propext
 constructor
 ·rintro ⟨n, x, T', S', F', h1, h2⟩
  simp only [seqV, hp, zY] at h1
  cases ho : opV C.P S T ⟨dst, op, ty, pos, after, none⟩ with
  | none => simp [ho] at h1
  | some r =>
   simp only [ho] at h1
   cases r with
   | val v S2 c => exact ⟨n, x, T', S', F', h1, h2⟩
   | skip S2 c => exact ⟨n, x, T', S', F', h1, h2⟩
   | dfr f args => exact ⟨n, x, T', S', F', h1, h2⟩
   | pan v =>
    simp only [Option.some.injEq, Prod.mk.injEq] at h1
    obtain ⟨rfl, rfl, rfl, rfl⟩ := h1
    exact h2
   | enter f args =>
    simp only at h1
    cases hc : jU C (run C n) f args S with
    | none => simp [hc] at h1
    | some q =>
     obtain ⟨o, S2, c⟩ := q
     refine ⟨n, o, S2, c, hc, ?_⟩
     simp only [hc] at h1
     cases o with
     | ret v => exact ⟨n, x, T', S', F', h1, h2⟩
     | pan v =>
      simp only [Option.some.injEq, Prod.mk.injEq] at h1
      obtain ⟨rfl, rfl, rfl, rfl⟩ := h1
      exact h2
 ·intro h
  cases ho : opV C.P S T ⟨dst, op, ty, pos, after, none⟩ with
  | none => simp [ho, WpR] at h
  | some r =>
   simp only [ho] at h
   cases r with
   | val v S2 c =>
    obtain ⟨n, x, T', S', F', h1, h2⟩ := h
    exact ⟨n, x, T', S', F', by simp only [seqV, hp, zY, ho]; exact h1, h2⟩
   | skip S2 c =>
    obtain ⟨n, x, T', S', F', h1, h2⟩ := h
    exact ⟨n, x, T', S', F', by simp only [seqV, hp, zY, ho]; exact h1, h2⟩
   | dfr f args =>
    obtain ⟨n, x, T', S', F', h1, h2⟩ := h
    exact ⟨n, x, T', S', F', by simp only [seqV, hp, zY, ho]; exact h1, h2⟩
   | pan v => exact ⟨0, .pan v, T, S, F, by simp only [seqV, hp, zY, ho], h⟩
   | enter f args =>
    obtain ⟨n, o, S2, c, hc, h⟩ := h
    cases o with
    | ret v =>
     obtain ⟨m, x, T', S', F', h1, h2⟩ := h
     refine ⟨max n m, x, T', S', F', ?_, h2⟩
     simp only [seqV, hp, zY, ho, zba (Nat.le_max_left n m) hc]
     exact vZ (z9c C (Nat.le_max_right n m)) h1
    | pan v => exact ⟨n, .pan v, T, S2, F, by simp only [seqV, hp, zY, ho, hc], h⟩
theorem vS {ops : Array Oper} {dst : Option Tmp} {op : Op} {ty : TypeId} {pos : String} {after : Array Edge} {l : List Oper} {T : List V} {S : zB} {F : Dfs} {Q : Post} (hn : zd1 ⟨dst, op, ty, pos, after, none⟩ = true) :
  WpL C ops (⟨dst, op, ty, pos, after, none⟩ :: l) T S F Q = WpR C ops dst l T S F Q (opV C.P S T ⟨dst, op, ty, pos, after, none⟩) := z8k (z2x hn)
theorem zs0 {ops : Array Oper} {T : List V} {S : zB} {F : Dfs} {Q : Post} : WpL C ops [] T S F Q = Q .norm T S F := by
 apply propext
 constructor
 ·rintro ⟨n, x, T', S', F', h1, h2⟩
  simp only [seqV, Option.some.injEq, Prod.mk.injEq] at h1
  obtain ⟨rfl, rfl, rfl, rfl⟩ := h1
  exact h2
 ·exact q08
section
variable {ops : Array Oper} {dst : Option Tmp} {l : List Oper} {T : List V} {S S' : zB} {F : Dfs} {Q : Post} {v : V} {c : Nat}
theorem zxn : WpR C ops dst l T S F Q (some (.val v S' c)) = WpL C ops l (putT T dst v) S' F Q := rfl
theorem zv2 : WpR C ops dst l T S F Q (some (.skip S' c)) = WpL C ops l (putT T dst (.tup [])) S' F Q := rfl
theorem zos {d : Tmp} : putT T (some d) v = T.set d v := rfl
theorem zq4 : putT T none v = T := rfl
theorem zzv {t : Tmp} : zE T (.tmp t) = T.getD t .junk := rfl
theorem zlm {a x : V} {r : List V} : (a :: r).getD 0 x = a := rfl
theorem zla {a x : V} {r : List V} {n : Nat} : (a :: r).getD (n + 1) x = r.getD n x := rfl
theorem zmy {a x : V} {r : List V} : (a :: r).set 0 x = x :: r := rfl
theorem zmv {a x : V} {r : List V} {n : Nat} : (a :: r).set (n + 1) x = a :: r.set n x := rfl
end
section
variable {ops : Array Oper} {dst : Option Tmp} {ty : TypeId} {pos : String} {after : Array Edge} {l : List Oper} {T : List V} {S : zB} {F : Dfs} {Q : Post}
theorem zse {x : Operand} : WpL C ops (⟨dst, .move x, ty, pos, after, none⟩ :: l) T S F Q = WpL C ops l (putT T dst (zE T x)) S F Q := vS rfl
theorem zkg {x : Operand} : WpL C ops (⟨dst, .assign x, ty, pos, after, none⟩ :: l) T S F Q = WpL C ops l (putT T dst (zE T x)) S F Q := vS rfl
theorem q0h {op : BinOp} {t u : TypeId} {x y : Operand} : WpL C ops (⟨dst, .binOp op t x y u, ty, pos, after, none⟩ :: l) T S F Q = WpR C ops dst l T S F Q ((binV C.P op t (zE T x) (zE T y)).map fun v => .val v S 0) := vS rfl
theorem q1n {op : UnOp} {t : TypeId} {x : Operand} : WpL C ops (⟨dst, .unOp op t x, ty, pos, after, none⟩ :: l) T S F Q = WpR C ops dst l T S F Q ((unV op (zE T x)).map fun v => .val v S 0) := vS rfl
theorem zqo {t : TypeId} {x y : Operand} : WpL C ops (⟨dst, .indexAddr t x y, ty, pos, after, none⟩ :: l) T S F Q = WpR C ops dst l T S F Q ((zI C.P S t (zE T x) (zE T y)).map fun v => .val v S 1) := vS rfl
theorem q0v {t : TypeId} {x y : Operand} : WpL C ops (⟨dst, .index t x y, ty, pos, after, none⟩ :: l) T S F Q = WpR C ops dst l T S F Q ((z2n C.P t (zE T x) (zE T y)).map fun v => .val v S 0) := vS rfl
theorem ze6 {t : TypeId} {x : Operand} {f : Nat} : WpL C ops (⟨dst, .fieldAddr t x f, ty, pos, after, none⟩ :: l) T S F Q = WpR C ops dst l T S F Q ((zT C.P t f (zE T x)).map fun v => .val v S 0) := vS rfl
theorem znw {t : TypeId} {x : Operand} {f : Nat} : WpL C ops (⟨dst, .field t x f, ty, pos, after, none⟩ :: l) T S F Q = WpR C ops dst l T S F Q ((z8u C.P t f (zE T x)).map fun v => .val v S 0) := vS rfl
theorem zw9 {t : TypeId} {x : Operand} : WpL C ops (⟨dst, .load t x, ty, pos, after, none⟩ :: l) T S F Q = WpR C ops dst l T S F Q ((kF C.P S t (zE T x)).map fun v => .val v S 1) := vS rfl
theorem zor {t : TypeId} {x y : Operand} : WpL C ops (⟨dst, .store t x y, ty, pos, after, none⟩ :: l) T S F Q = WpR C ops dst l T S F Q ((vJ C.P S t (zE T x) (zE T y)).map fun S' => .skip S' 3) := vS rfl
theorem ziz {t u : TypeId} {x : Operand} : WpL C ops (⟨dst, .convert t u x, ty, pos, after, none⟩ :: l) T S F Q = WpR C ops dst l T S F Q ((qI C.P S t u (zE T x)).map fun r => .val r.1 S r.2) := vS rfl
theorem zef {t : TypeId} {x y : Operand} : WpL C ops (⟨dst, .makeSlice t x y, ty, pos, after, none⟩ :: l) T S F Q = WpR C ops dst l T S F Q ((jO C.P S t (zE T x) (zE T y)).map fun r => .val r.1 r.2 2) := vS rfl
theorem zbu {t : TypeId} {x : Operand} {lo hi : Option Operand} : WpL C ops (⟨dst, .slice t x lo hi none, ty, pos, after, none⟩ :: l) T S F Q = WpR C ops dst l T S F Q ((wN C.P S t (zE T x) (lo.map (zE T)) (hi.map (zE T))).map fun v => .val v S 1) := vS rfl
theorem znp {t : TypeId} {x k : Operand} {ok : Bool} : WpL C ops (⟨dst, .lookup t x k ok, ty, pos, after, none⟩ :: l) T S F Q = WpR C ops dst l T S F Q ((wI C.P S t (zE T x) (zE T k) ok).map fun v => .val v S 1) := vS rfl
theorem ze1 {t : TypeId} {x k v : Operand} : WpL C ops (⟨dst, .mapUpdate t x k v, ty, pos, after, none⟩ :: l) T S F Q = WpR C ops dst l T S F Q ((jX C.P S t (zE T x) (zE T k) (zE T v)).map fun S' => .skip S' 3) := vS rfl
theorem zig {b : Builtin} {args : Array Operand} {ts : Array TypeId} : WpL C ops (⟨dst, .call { callee := .builtin b, args := args, argTypes := ts }, ty, pos, after, none⟩ :: l) T S F Q = WpR C ops dst l T S F Q (zO C.P S b ts.toList (args.toList.map (zE T))) := vS rfl
theorem zoo {t : TypeId} {ps : Array (Nat × Operand)} : WpL C ops (⟨dst, .build t ps, ty, pos, after, none⟩ :: l) T S F Q = WpR C ops dst l T S F Q ((wY C.P t (ps.toList.map fun p => (p.1, zE T p.2))).map fun v => .val v S 0) := vS rfl
theorem zia {x : Operand} {i : Nat} : WpL C ops (⟨dst, .extract x i, ty, pos, after, none⟩ :: l) T S F Q = WpR C ops dst l T S F Q (match zE T x with | .tup vs => (match vs[i]? with | some v => some (.val v S 0) | none => none) | _ => none) := vS rfl
end
end
inductive Fr where
 | seq (b : Code)
 | block (id : Nat)
 | loop (b : Code)
section
variable {C : Cfg}
def post (C : Cfg) : List Fr → Post → Post
 | [], Q => Q
 | .seq b :: k, Q => andThen (fun T S F => Wp C b T S F (post C k Q)) (post C k Q)
 | .block id :: k, Q => inBlock id (post C k Q)
 | .loop b :: k, Q => andThen (fun T S F => Wp C (.loop b) T S F (post C k Q)) (post C k Q)
theorem wR {n m : Nat} {f : FuncId} {args : List V} {S : zB} {r r' : Out × zB × Nat} (h : jU C (run C n) f args S = some r) (h' : jU C (run C m) f args S = some r') : r = r' := by
 have h1 := zba (Nat.le_max_left n m) h
 have h2 := zba (Nat.le_max_right n m) h'
 rw [h1] at h2; exact Option.some.inj h2
section
variable {T : List V} {S : zB} {F : Dfs} {k : List Fr} {Q : Post}
theorem zR {c : Code} : Wp C c T S F Q = Wp C c T S F (post C [] Q) := rfl
theorem q00 {a b : Code} : Wp C (.seq a b) T S F (post C k Q) = Wp C a T S F (post C (.seq b :: k) Q) := by
 apply propext
 constructor
 ·rintro ⟨n, x, T', S', F', h1, h2⟩
  cases n with
  | zero => simp [exec] at h1
  | succ n =>
   simp only [exec] at h1
   cases ha : exec C n a T S F with
   | none => simp [ha] at h1
   | some r =>
    obtain ⟨y, T2, S2, F2⟩ := r
    simp only [ha] at h1
    cases y with
    | norm => exact ⟨n, .norm, T2, S2, F2, ha, n, x, T', S', F', h1, h2⟩
    | _ =>
     simp only [Option.some.injEq, Prod.mk.injEq] at h1
     obtain ⟨rfl, rfl, rfl, rfl⟩ := h1
     exact ⟨n, _, _, _, _, ha, h2⟩
 ·exact Vm.wp_seq
theorem zk3 {id : Nat} {ops : Array Oper} : Wp C (.region id ops false) T S F Q = WpL C ops ops.toList T S F Q := by
 apply propext
 constructor
 ·rintro ⟨n, x, T', S', F', h1, h2⟩
  cases n with
  | zero => simp [exec] at h1
  | succ n => exact ⟨n, x, T', S', F', by simpa [exec] using h1, h2⟩
 ·exact Vm.wp_region
theorem zw2 {ops : Array Oper} {Q : Post} : WpL C ops [] T S F Q = Q .norm T S F := zs0
theorem q15 {b : Code} : post C (.seq b :: k) Q .norm T S F = Wp C b T S F (post C k Q) := rfl
theorem zv9 {b : Code} : post C (.loop b :: k) Q .norm T S F = Wp C (.loop b) T S F (post C k Q) := rfl
theorem zob {id : Nat} : post C (.block id :: k) Q .norm T S F = post C k Q .norm T S F := rfl
theorem zev {b : Code} {i : Nat} : post C (.seq b :: k) Q (.exit i) T S F = post C k Q (.exit i) T S F := rfl
theorem zdc {b : Code} {i : Nat} : post C (.loop b :: k) Q (.exit i) T S F = post C k Q (.exit i) T S F := rfl
theorem z1t {id i : Nat} : post C (.block id :: k) Q (.exit i) T S F = if i = id then post C k Q .norm T S F else post C k Q (.exit i) T S F := rfl
theorem zj0 {b : Code} : post C (.seq b :: k) Q .ret T S F = post C k Q .ret T S F := rfl
theorem zey {b : Code} : post C (.loop b :: k) Q .ret T S F = post C k Q .ret T S F := rfl
theorem zdv {id : Nat} : post C (.block id :: k) Q .ret T S F = post C k Q .ret T S F := rfl
theorem zhm {b : Code} {v : V} : post C (.seq b :: k) Q (.pan v) T S F = post C k Q (.pan v) T S F := rfl
theorem zfx {b : Code} {v : V} : post C (.loop b :: k) Q (.pan v) T S F = post C k Q (.pan v) T S F := rfl
theorem zd5 {id : Nat} {v : V} : post C (.block id :: k) Q (.pan v) T S F = post C k Q (.pan v) T S F := rfl
theorem zxl {x : Ex} : post C [] Q x T S F = Q x T S F := rfl
theorem zc8 {c : Code} {x : Ex} (h : ∀ n T S F, exec C (n + 1) c T S F = some (x, T, S, F)) : Wp C c T S F Q = Q x T S F := by
 apply propext
 constructor
 ·rintro ⟨n, y, T', S', F', h1, h2⟩
  cases n with
  | zero => simp [exec] at h1
  | succ n =>
   rw [h, Option.some.injEq] at h1
   simp only [Prod.mk.injEq] at h1
   obtain ⟨rfl, rfl, rfl, rfl⟩ := h1
   exact h2
 ·exact fun hq => ⟨1, _, _, _, _, h 0 T S F, hq⟩
theorem zvi : Wp C .skip T S F Q = Q .norm T S F := zc8 fun _ _ _ _ => by simp [exec]
theorem zyo : Wp C .ret T S F Q = Q .ret T S F := zc8 fun _ _ _ _ => by simp [exec]
theorem zw7 {id : Nat} : Wp C (.exit id) T S F Q = Q (.exit id) T S F := zc8 fun _ _ _ _ => by simp [exec]
theorem zq1 {l : Nat} : Wp C (.label l) T S F Q = Q .norm T S F := zc8 fun _ _ _ _ => by simp [exec]
theorem zqa {id : Nat} {b : Code} : Wp C (.block id b) T S F (post C k Q) = Wp C b T S F (post C (.block id :: k) Q) := by
 apply propext
 constructor
 ·rintro ⟨n, x, T', S', F', h1, h2⟩
  cases n with
  | zero => simp [exec] at h1
  | succ n =>
   simp only [exec] at h1
   cases ha : exec C n b T S F with
   | none => simp [ha] at h1
   | some r =>
    obtain ⟨y, T2, S2, F2⟩ := r
    simp only [ha] at h1
    refine ⟨n, y, T2, S2, F2, ha, ?_⟩
    cases y with
    | exit i =>
     simp only at h1
     rw [z1t]
     split at h1 <;> (rename_i hi; simp only [Option.some.injEq, Prod.mk.injEq] at h1; obtain ⟨rfl, rfl, rfl, rfl⟩ := h1)
     ·rw [if_pos hi]; exact h2
     ·rw [if_neg hi]; exact h2
    | _ =>
     simp only [Option.some.injEq, Prod.mk.injEq] at h1
     obtain ⟨rfl, rfl, rfl, rfl⟩ := h1
     exact h2
 ·exact Vm.wp_block
theorem zq0 {b : Code} : Wp C (.scope b) T S F Q = Wp C b T S F Q := by
 apply propext
 constructor
 ·rintro ⟨n, x, T', S', F', h1, h2⟩
  cases n with
  | zero => simp [exec] at h1
  | succ n => exact ⟨n, x, T', S', F', by simpa [exec] using h1, h2⟩
 ·exact Vm.wp_scope
theorem zL {b : Code} (h : Wp C b T S F (post C (.loop b :: k) Q)) : Wp C (.loop b) T S F (post C k Q) := Vm.wp_loop h
def WpB (C : Cfg) (v : V) (a b : Code) (T : List V) (S : zB) (F : Dfs) (Q : Post) : Prop :=
 match v with
 | .d (.bool x) => (x = true → Wp C a T S F Q) ∧ (x = false → Wp C b T S F Q)
 | _ => False
theorem zur {c : Operand} {a b : Code} : Wp C (.cond c a b) T S F Q = WpB C (zE T c) a b T S F Q := by
 apply propext
 constructor
 ·rintro ⟨n, x, T', S', F', h1, h2⟩
  cases n with
  | zero => simp [exec] at h1
  | succ n =>
   simp only [exec] at h1
   unfold WpB
   split at h1
   ·rename_i hv; rw [hv]; exact ⟨fun _ => ⟨n, x, T', S', F', h1, h2⟩, (fun h => by cases h)⟩
   ·rename_i hv; rw [hv]; exact ⟨(fun h => by cases h), fun _ => ⟨n, x, T', S', F', h1, h2⟩⟩
   ·cases h1
 ·intro h
  unfold WpB at h
  split at h
  ·rename_i x hv; exact Vm.wp_cond hv h.1 h.2
  ·exact h.elim
theorem zvd {a b : Code} : WpB C (.d (.bool true)) a b T S F Q = Wp C a T S F Q := by simp [WpB]
theorem zo3 {a b : Code} : WpB C (.d (.bool false)) a b T S F Q = Wp C b T S F Q := by simp [WpB]
theorem zrs {x : D} : frz S zJ (.d x) = some x := rfl
theorem zbx {x : D} : frzIds S zJ (.d x) = [] := rfl
theorem qA {ops : Array Oper} {dst : Option Tmp} {l : List Oper} {f : FuncId} {ds : List D} {v : V} (hs : C.shared f = false) (he : Ev C f ds (.ret v)) : WpR C ops dst l T S F Q (some (.enter f (ds.map .d))) = WpL C ops l (putT T dst v) S F Q := by
 obtain ⟨n, hn⟩ := he
 have hfz : ∀ ds : List D, allO (frz S zJ) (ds.map V.d) = some ds := by
  intro ds
  induction ds with
  | nil => rfl
  | cons x r ih => simp only [List.map_cons, allO, ih, zrs]
 have hid : ∀ ds : List D, ((ds.map V.d).flatMap (frzIds S zJ)).isEmpty = true := by
  intro ds
  induction ds with
  | nil => rfl
  | cons x r ih => simp only [List.map_cons, List.flatMap_cons, zbx, List.nil_append]; exact ih
 have hc : jU C (run C n) f (ds.map .d) S = some (.ret v, S, 1) := by
  have hn' : answer C (run C n) f ds = some (.ret v) := hn
  unfold jU
  simp only [hs, Bool.false_eq_true, if_false, hfz, hn', hid, if_true]
 apply propext
 constructor
 ·rintro ⟨m, o, S', c, h1, h2⟩
  have := wR h1 hc
  simp only [Prod.mk.injEq] at this
  obtain ⟨rfl, rfl, rfl⟩ := this
  exact h2
 ·exact fun h => ⟨n, _, _, _, hc, h⟩
end
end
section
variable {C : Cfg} {P : Program} {T : List V} {S : zB} {F : Dfs} {Q : Post}
def OwnS (S : zB) (v : V) (e : TypeId) (xs : List V) : Prop :=
 (v = .ts [] ∧ xs = []) ∨ ∃ id, v = .rs id 0 xs.length ∧ S[id]? = some (.row xs e)
theorem OwnS.nil {e : TypeId} : OwnS S (.ts []) e [] := .inl ⟨rfl, rfl⟩
def NotAt (v : V) (j : Nat) : Prop := ∀ off l, v ≠ .rs j off l
theorem NotAt.ts {xs : List D} {j : Nat} : NotAt (.ts xs) j := fun _ _ h => by cases h
theorem zQ {S : zB} {i : Nat} {o : Ob} (h : S[i]? = some o) : i < S.length := by
 rcases Nat.lt_or_ge i S.length with h' | h'
 ·exact h'
 ·simp [List.getElem?_eq_none h'] at h
theorem zib {t e : TypeId} {v : V} {xs : List V} {d : D} (hu : P.underlying t = some (.slice e)) (hz : zOk P e = true) (hs : (sz P e).isSome = true) (ho : OwnS S v e xs) (hf : z18 P e d = true) (hr : room P e (xs.length + 1) = true) :
  ∃ v' S' c, qN P S t t v (.ts [d]) = some (v', S', c) ∧ OwnS S' v' e (xs ++ [.d d]) ∧ (∀ j o, S[j]? = some o → NotAt v j → S'[j]? = some o ∧ NotAt v' j) ∧ S.length ≤ S'.length := by
 have hft : qB P e (.d d) = true := by
  unfold z18 at hf; unfold qB
  simp only [Bool.and_eq_true] at hf ⊢
  refine ⟨⟨rfl, hf.1⟩, ?_⟩
  simpa [V.cells] using hf.2
 have hsrc : srcV P S e t (.ts [d]) = some [.d d] := by
  simp [srcV, hu, kK, hft, hs]
 rcases ho with ⟨rfl, rfl⟩ | ⟨id, rfl, h1⟩
 ·refine ⟨.rs S.length 0 1, S ++ [.row [.d d] e], 2, ?_, .inr ⟨S.length, rfl, by simp⟩, fun j o hj _ => ⟨?_, ?_⟩, by simp⟩
  ·simp only [qN, hu, hsrc, hz, if_true]
   have hr1 : room P e 1 = true := by simpa using hr
   simp [hr1]
  ·rw [List.getElem?_append_left (zQ hj)]; exact hj
  ·intro off l h
   have := zQ hj
   cases h; omega
 ·refine ⟨.rs S.length 0 (xs.length + 1), S.set id .dead ++ [.row (xs ++ [.d d]) e], 3, ?_, .inr ⟨S.length, by simp, by simp⟩, fun j o hj hn => ⟨?_, ?_⟩, by simp⟩
  ·simp only [qN, hu, hsrc, hz, if_true, h1]
   simp [hr]
  ·have hj' := zQ hj
   rw [List.getElem?_append_left (by simpa using hj'), List.getElem?_set_ne]
   ·exact hj
   ·rintro rfl; exact hn 0 _ rfl
  ·intro off l h
   have := zQ hj
   cases h; omega
theorem zgu {n : Nat} : ∀ l : List D, allO (frz S (n + 1)) (l.map V.d) = some l
 | [] => rfl
 | x :: r => by simp only [List.map_cons, allO, zgu r]; rfl
theorem zlb {e : TypeId} {v : V} {ds : List D} (ho : OwnS S v e (ds.map .d)) : frz S zJ v = some (.sl ds) := by
 rcases ho with ⟨rfl, h⟩ | ⟨id, rfl, h1⟩
 ·have : ds = [] := by simpa using h
  subst this; rfl
 ·simp only [List.length_map]
  show (match S[id]? with
   | some (.row xs e) => if 0 + ds.length ≤ xs.length && (allO (frz S 11) xs).isSome then (allO (frz S 11) ((xs.drop 0).take ds.length)).map D.sl else none
   | some (.fz xs e) => if 0 + ds.length ≤ xs.length then some (D.sl ((xs.drop 0).take ds.length)) else none
   | _ => none) = _
  have h2 : ((ds.map V.d).drop 0).take ds.length = ds.map V.d := by rw [List.drop_zero, List.take_of_length_le (by simp)]
  simp only [h1, h2, zgu, List.length_map, Option.isSome_some, Bool.and_true, Option.map_some]
  simp
end
section
variable {P : Program} {S : zB}
theorem zle {t tx : TypeId} {s x : V} : zO P S .append [t, tx] [s, x] = (qN P S t tx s x).map fun r => .val r.1 r.2.1 r.2.2 := rfl
theorem zuv {t tx : TypeId} {s x : V} : zO P S .copy [t, tx] [s, x] = (copyV P S t tx s x).map fun r => .val r.1 r.2 3 := rfl
theorem zmp {t e : TypeId} {xs : List D} (hu : P.underlying t = some (.slice e)) : zO P S .len [t] [.d (.sl xs)] = some (.val (.d (.int .i64 xs.length)) S 0) := by simp [zO, hu]
theorem znm {t e : TypeId} {xs : List D} (hu : P.underlying t = some (.slice e)) : zO P S .len [t] [.ts xs] = some (.val (.d (.int .i64 xs.length)) S 0) := by simp [zO, hu]
theorem zn1 {t e : TypeId} {i o n : Nat} (hu : P.underlying t = some (.slice e)) : zO P S .len [t] [.rs i o n] = some (.val (.d (.int .i64 n)) S 0) := by simp [zO, hu]
theorem zwi {t : TypeId} {s : List UInt8} (hu : P.underlying t = some .string) : zO P S .len [t] [.d (.str s)] = some (.val (.d (.int .i64 s.length)) S 0) := by simp [zO, hu]
theorem wC {t e e' : TypeId} {v : V} {xs : List V} (hu : P.underlying t = some (.slice e)) (ho : OwnS S v e' xs) : zO P S .len [t] [v] = some (.val (.d (.int .i64 xs.length)) S 0) := by
 rcases ho with ⟨rfl, rfl⟩ | ⟨id, rfl, h1⟩
 ·exact znm hu
 ·exact zn1 hu
theorem zzj {t e : TypeId} {xs : List D} {i : Nat} {y : D} (hu : P.underlying t = some (.slice e)) (hy : xs[i]? = some y) (hf : z18 P e y = true) : zI P S t (.d (.sl xs)) (.d (.int .i64 i)) = some (.d (.ptr y)) := by
 have h1 : i < xs.length := by
  rcases Nat.lt_or_ge i xs.length with h' | h'
  ·exact h'
  ·simp [List.getElem?_eq_none h'] at hy
 have h0 : (0 : Int) ≤ i := by omega
 have h2 : (i : Int) < xs.length := by omega
 simp only [zI, intOf?, hu, h0, h2, and_self, if_true, Int.toNat_natCast, hy, hf]
theorem binI {op : BinOp} {t : TypeId} {k k' : IntKind} {a b : Int} : binV P op t (.d (.int k a)) (.d (.int k' b)) = (qR op k a k' b).map .d := rfl
theorem binS {op : BinOp} {t : TypeId} {a b : List UInt8} : binV P op t (.d (.str a)) (.d (.str b)) = (z4r op a b).map .d := rfl
theorem zx5 {k : IntKind} {a b : Int} : qR .add k a k b = some (.int k (k.wrap (a + b))) := by simp [qR]
theorem zyj {k : IntKind} {a b : Int} : qR .sub k a k b = some (.int k (k.wrap (a - b))) := by simp [qR]
theorem zy7 {k : IntKind} {a b : Int} : qR .mul k a k b = some (.int k (k.wrap (a * b))) := by simp [qR]
theorem zzp {k : IntKind} {a b : Int} : qR .lss k a k b = some (.bool (decide (a < b))) := by simp [qR]
theorem q0y {k : IntKind} {a b : Int} : qR .leq k a k b = some (.bool (decide (a ≤ b))) := by simp [qR]
theorem zy6 {k : IntKind} {a b : Int} : qR .gtr k a k b = some (.bool (decide (a > b))) := by simp [qR]
theorem zzi {k : IntKind} {a b : Int} : qR .geq k a k b = some (.bool (decide (a ≥ b))) := by simp [qR]
theorem wrap64 {a : Int} (h : -9223372036854775808 ≤ a ∧ a ≤ 9223372036854775807) : IntKind.i64.wrap a = a := IntWalk.i64_in _ (by omega)
end
section
variable {C : Cfg} {ops : Array Oper} {dst : Option Tmp} {ty : TypeId} {pos : String} {after : Array Edge} {l : List Oper} {T : List V} {S : zB} {F : Dfs} {Q : Post}
theorem z54 {t : TypeId} {n : Nat} {ps : Array (Nat × Operand)} {d2 : Option Tmp} {c : Call} {ty2 : TypeId} {pos2 : String} {after2 : Array Edge} {g2 : Option (Nat × Bool)} :
  WpL C ops (⟨dst, .buildSlice t n ps, ty, pos, after, none⟩ :: ⟨d2, .call c, ty2, pos2, after2, g2⟩ :: l) T S F Q = WpR C ops dst (⟨d2, .call c, ty2, pos2, after2, g2⟩ :: l) T S F Q (opV C.P S T ⟨dst, .buildSlice t n ps, ty, pos, after, none⟩) := z8k rfl
end
section
variable (C : Cfg) (ops : Array Oper) (base : Nat)
def z3z (rd : List Nat) (i c : Nat) : Prop := 2 < c → (rd.all fun r => ((befs ops).getD i 0).testBit r) = true
def WpE (F : Dfs) (Q : Post) (K : List Nat → List (Nat × Nat) → List V → zB → Prop) (rd : List Nat) (cs : List (Nat × Nat)) (i : Nat) (dst : Option Tmp) (T : List V) (S : zB) : Option Rs → Prop
 | some (.val v S' c) => z3z ops rd i (num2 c) ∧ K (if num2 c = 1 then i :: rd else rd) (cs ++ [(i, num2 c)]) (putT T dst v) S'
 | some (.skip S' _) => z3z ops rd i 3 ∧ K rd (cs ++ [(i, 3)]) (putT T dst (.tup [])) S'
 | some (.enter f args) => ∃ n v S' c, jU C (run C n) f args S = some (.ret v, S', c) ∧ z3z ops rd i (num2 c) ∧ K (if num2 c = 1 then i :: rd else rd) (cs ++ [(i, num2 c)]) (putT T dst v) S'
 | _ => False
def WpA (K : List (Nat × Nat) → List V → zB → Prop) (cs : List (Nat × Nat)) (i : Nat) (dst : Option Tmp) (T : List V) (S : zB) : Option (Ob × (Nat → V)) → Prop
 | some (ob, f) => S[base + i]? = some .hole ∧ K (cs ++ [(i, 2)]) (putT T dst (f (base + i))) (S.set (base + i) ob)
 | none => False
def WpD (F : Dfs) (Q : Post) : List Nat → List (Nat × Nat) → List Nat → List V → zB → Prop
 | rd, cs, [], T, S => z2l ops cs = true ∧ Q .norm T S F
 | rd, cs, i :: is, T, S => match ops[i]? with
  | none => False
  | some o => match zY ops T o with
   | none => False
   | some false => WpD F Q rd (cs ++ [(i, 0)]) is (putT T o.dst (.tup [])) S
   | some true => if jV o = true then WpA base (fun cs T S => WpD F Q rd cs is T S) cs i o.dst T S (addO C.P T o)
    else WpE C ops F Q (fun rd cs T S => WpD F Q rd cs is T S) rd cs i o.dst T S (opV C.P S T o)
end
section
variable {C : Cfg} {ops : Array Oper} {base : Nat} {F : Dfs} {Q : Post}
theorem zpe {call : kE} {b : List Nat} {i : Nat} {S : zB} {rd : List Nat} {ws : List (Nat × List V × V)} (hw : ws.map (·.1) = rd) (h : (rd.all fun r => (b.getD i 0).testBit r) = true) : ws.all (jR C call ops b base i S) = true := by
 subst hw
 rw [List.all_eq_true] at h ⊢
 intro w hw
 have := h w.1 (List.mem_map.2 ⟨w, hw, rfl⟩)
 unfold jR
 rw [this]; rfl
theorem q1b : ∀ {is : List Nat} {rd : List Nat} {cs : List (Nat × Nat)} {T : List V} {S : zB}, WpD C ops base F Q rd cs is T S → ∀ ws : List (Nat × List V × V), ws.map (·.1) = rd → ∃ n T' S' cs', seqC C (run C n) ops (befs ops) base ws is T S = some (T', S', cs') ∧ z2l ops (cs ++ cs') = true ∧ Q .norm T' S' F
 | [], rd, cs, T, S, h, ws, hw => ⟨0, T, S, [], rfl, by simpa [WpD] using h.1, h.2⟩
 | i :: is, rd, cs, T, S, h, ws, hw => by
  have go : ∀ (n : Nat) (o : Oper) (v : V) (S' : zB) (c : Nat), ops[i]? = some o → effC C (run C n) ops (base + i) o T S = some (v, S', c) → z3z ops rd i c → WpD C ops base F Q (if c = 1 then i :: rd else rd) (cs ++ [(i, c)]) is (putT T o.dst v) S' →
    ∃ n T' S' cs', seqC C (run C n) ops (befs ops) base ws (i :: is) T S = some (T', S', cs') ∧ z2l ops (cs ++ cs') = true ∧ Q .norm T' S' F := by
   intro n o v S' c ho he hb hd
   obtain ⟨m, T2, S2, cs2, h1, h2, h3⟩ := q1b hd (if c = 1 then (i, T, v) :: ws else ws) (by split <;> simp [hw])
   refine ⟨max n m, T2, S2, (i, c) :: cs2, ?_, by simpa using h2, h3⟩
   have he' := vY (z9c C (Nat.le_max_left n m)) he
   have h1' := z5i (z9c C (Nat.le_max_right n m)) h1
   simp only [seqC, ho, he']
   rw [if_neg, h1']
   rintro ⟨hc, hall⟩
   rw [zpe hw (hb hc)] at hall
   cases hall
  simp only [WpD] at h
  cases ho : ops[i]? with
  | none => simp [ho] at h
  | some o =>
   simp only [ho] at h
   cases hwt : zY ops T o with
   | none => simp [hwt] at h
   | some b =>
    simp only [hwt] at h
    cases b with
    | false => exact go 0 o (.tup []) S 0 ho (by simp [effC, hwt]) (fun hc => by omega) h
    | true =>
     cases hk : jV o with
     | true =>
      simp only [hk, if_true] at h
      cases hadd : addO C.P T o with
      | none => simp [hadd, WpA] at h
      | some q =>
       obtain ⟨ob, f⟩ := q
       simp only [hadd, WpA] at h
       exact go 0 o (f (base + i)) (S.set (base + i) ob) 2 ho (by simp [effC, hwt, hk, hadd, h.1]) (fun hc => by omega) h.2
     | false =>
      simp only [hk, Bool.false_eq_true, if_false] at h
      cases hop : opV C.P S T o with
      | none => simp [hop, WpE] at h
      | some r =>
       simp only [hop] at h
       cases r with
       | val v S' c => exact go 0 o v S' (num2 c) ho (by simp [effC, hwt, hk, hop]) h.1 h.2
       | skip S' c => exact go 0 o (.tup []) S' 3 ho (by simp [effC, hwt, hk, hop]) h.1 h.2
       | enter f args =>
        obtain ⟨n, v, S', c, h1, h2, h3⟩ := h
        exact go n o v S' (num2 c) ho (by simp [effC, hwt, hk, hop, h1]) h2 h3
       | dfr f args => exact h.elim
       | pan v => exact h.elim
theorem wU {id : Nat} {T : List V} {S : zB} {is : List Nat} {h : Nat} (ho : z2e C.shared ops = is) (hh : vL ops = h) (hd : WpD C ops S.length F Q [] [] is T (S ++ List.replicate h .hole)) : Wp C (.region id ops true) T S F Q := by
 subst ho; subst hh
 obtain ⟨n, T', S', cs', h1, h2, h3⟩ := q1b hd [] rfl
 exact ⟨n + 1, .norm, T', S', F, by simp only [exec, h1]; rw [if_pos (by simpa using h2)], h3⟩
def WpW (K : Prop) (K' : Prop) : Option Bool → Prop
 | some true => K
 | some false => K'
 | none => False
theorem ztp {rd : List Nat} {cs : List (Nat × Nat)} {i : Nat} {is : List Nat} {T : List V} {S : zB} : WpD C ops base F Q rd cs (i :: is) T S = match ops[i]? with
  | none => False
  | some o => match zY ops T o with
   | none => False
   | some false => WpD C ops base F Q rd (cs ++ [(i, 0)]) is (putT T o.dst (.tup [])) S
   | some true => if jV o = true then WpA base (fun cs T S => WpD C ops base F Q rd cs is T S) cs i o.dst T S (addO C.P T o)
    else WpE C ops F Q (fun rd cs T S => WpD C ops base F Q rd cs is T S) rd cs i o.dst T S (opV C.P S T o) := rfl
end
section
variable {C : Cfg} {ops : Array Oper} {dst : Option Tmp} {op : Op} {ty : TypeId} {pos : String} {after : Array Edge} {l : List Oper} {T : List V} {S : zB} {F : Dfs} {Q : Post}
theorem zpa {g : Nat × Bool} (hn : zd1 ⟨dst, op, ty, pos, after, none⟩ = true) : WpL C ops (⟨dst, op, ty, pos, after, some g⟩ :: l) T S F Q = WpW (WpL C ops (⟨dst, op, ty, pos, after, none⟩ :: l) T S F Q) (WpL C ops l (putT T dst (.tup [])) S F Q) ((qO ops T g.1).map (· == some g.2)) := by
 obtain ⟨j, w⟩ := g
 have hp : wD C.P T ⟨dst, op, ty, pos, after, some (j, w)⟩ l = none := z2x hn
 have hp' : wD C.P T ⟨dst, op, ty, pos, after, none⟩ l = none := z2x hn
 have hopv : opV C.P S T ⟨dst, op, ty, pos, after, some (j, w)⟩ = opV C.P S T ⟨dst, op, ty, pos, after, none⟩ := by cases op <;> rfl
 apply propext
 cases hy : (qO ops T j).map (· == some w) with
 | none =>
  simp only [WpW, iff_false]
  rintro ⟨n, x, T', S', F', h1, h2⟩
  simp [seqV, hp, zY, hy] at h1
 | some b =>
  cases b with
  | false =>
   simp only [WpW]
   constructor
   ·rintro ⟨n, x, T', S', F', h1, h2⟩
    simp only [seqV, hp, zY, hy] at h1
    exact ⟨n, x, T', S', F', h1, h2⟩
   ·rintro ⟨n, x, T', S', F', h1, h2⟩
    exact ⟨n, x, T', S', F', by simp only [seqV, hp, zY, hy]; exact h1, h2⟩
  | true =>
   simp only [WpW]
   constructor
   ·rintro ⟨n, x, T', S', F', h1, h2⟩
    simp only [seqV, hp, zY, hy, hopv] at h1
    exact ⟨n, x, T', S', F', by simp only [seqV, hp', zY]; exact h1, h2⟩
   ·rintro ⟨n, x, T', S', F', h1, h2⟩
    simp only [seqV, hp', zY] at h1
    exact ⟨n, x, T', S', F', by simp only [seqV, hp, zY, hy, hopv]; exact h1, h2⟩
def WpG (C : Cfg) (ops : Array Oper) (dst : Option Tmp) (op : Op) (ty : TypeId) (pos : String) (after : Array Edge) (l : List Oper) (T : List V) (S : zB) (F : Dfs) (Q : Post) : Option Bool → Prop
 | some true => WpL C ops (⟨dst, op, ty, pos, after, none⟩ :: l) T S F Q
 | some false => WpL C ops l (putT T dst (.tup [])) S F Q
 | none => False
theorem jL {g : Nat × Bool} (hn : zd1 ⟨dst, op, ty, pos, after, none⟩ = true) : WpL C ops (⟨dst, op, ty, pos, after, some g⟩ :: l) T S F Q = WpG C ops dst op ty pos after l T S F Q ((qO ops T g.1).map (· == some g.2)) := by
 rw [zpa hn]
 cases (qO ops T g.1).map (· == some g.2) with
 | none => rfl
 | some b => cases b <;> rfl
end
section
variable {C : Cfg} {ops : Array Oper} {dst : Option Tmp} {ty : TypeId} {pos : String} {after : Array Edge} {l : List Oper} {T : List V} {S S' : zB} {F : Dfs} {Q : Post} {k : List Fr}
theorem zp4 {g : FuncId} {args : Array Operand} {ts : Array TypeId} : WpL C ops (⟨dst, .call { callee := .value (.func g), args := args, argTypes := ts }, ty, pos, after, none⟩ :: l) T S F Q = WpR C ops dst l T S F Q (if (args.toList.map (zE T)).all V.one && (zC C.P g).isSome then some (.enter g ([] ++ args.toList.map (zE T) ++ [])) else none) := vS rfl
theorem zwa {c a b : Operand} : WpL C ops (⟨dst, .pick c a b, ty, pos, after, none⟩ :: l) T S F Q = WpR C ops dst l T S F Q (match zE T c with | .d (.bool true) => some (.val (zE T a) S 0) | .d (.bool false) => some (.val (zE T b) S 0) | _ => none) := vS rfl
theorem zf6 {x : Operand} : WpL C ops (⟨dst, .nilCheck x, ty, pos, after, none⟩ :: l) T S F Q = WpR C ops dst l T S F Q (match zE T x with | .ref i ix off => some (.val (.ref i ix off) S 0) | .d (.ptr x) => some (.val (.d (.ptr x)) S 0) | .fn (.func g) a b => some (.val (.fn (.func g) a b) S 0) | _ => none) := vS rfl
theorem zpl {x : Operand} {g : Nat × Bool} : WpL C ops (⟨dst, .move x, ty, pos, after, some g⟩ :: l) T S F Q = WpG C ops dst (.move x) ty pos after l T S F Q ((qO ops T g.1).map (· == some g.2)) := jL rfl
theorem zim {x : Operand} {g : Nat × Bool} : WpL C ops (⟨dst, .assign x, ty, pos, after, some g⟩ :: l) T S F Q = WpG C ops dst (.assign x) ty pos after l T S F Q ((qO ops T g.1).map (· == some g.2)) := jL rfl
theorem zve {op : BinOp} {t u : TypeId} {x y : Operand} {g : Nat × Bool} : WpL C ops (⟨dst, .binOp op t x y u, ty, pos, after, some g⟩ :: l) T S F Q = WpG C ops dst (.binOp op t x y u) ty pos after l T S F Q ((qO ops T g.1).map (· == some g.2)) := jL rfl
theorem zzn {op : UnOp} {t : TypeId} {x : Operand} {g : Nat × Bool} : WpL C ops (⟨dst, .unOp op t x, ty, pos, after, some g⟩ :: l) T S F Q = WpG C ops dst (.unOp op t x) ty pos after l T S F Q ((qO ops T g.1).map (· == some g.2)) := jL rfl
theorem zkm {t : TypeId} {x y : Operand} {g : Nat × Bool} : WpL C ops (⟨dst, .indexAddr t x y, ty, pos, after, some g⟩ :: l) T S F Q = WpG C ops dst (.indexAddr t x y) ty pos after l T S F Q ((qO ops T g.1).map (· == some g.2)) := jL rfl
theorem ztm {t : TypeId} {x y : Operand} {g : Nat × Bool} : WpL C ops (⟨dst, .index t x y, ty, pos, after, some g⟩ :: l) T S F Q = WpG C ops dst (.index t x y) ty pos after l T S F Q ((qO ops T g.1).map (· == some g.2)) := jL rfl
theorem zbi {t : TypeId} {x : Operand} {f : Nat} {g : Nat × Bool} : WpL C ops (⟨dst, .fieldAddr t x f, ty, pos, after, some g⟩ :: l) T S F Q = WpG C ops dst (.fieldAddr t x f) ty pos after l T S F Q ((qO ops T g.1).map (· == some g.2)) := jL rfl
theorem zkq {t : TypeId} {x : Operand} {f : Nat} {g : Nat × Bool} : WpL C ops (⟨dst, .field t x f, ty, pos, after, some g⟩ :: l) T S F Q = WpG C ops dst (.field t x f) ty pos after l T S F Q ((qO ops T g.1).map (· == some g.2)) := jL rfl
theorem zqf {t : TypeId} {x : Operand} {g : Nat × Bool} : WpL C ops (⟨dst, .load t x, ty, pos, after, some g⟩ :: l) T S F Q = WpG C ops dst (.load t x) ty pos after l T S F Q ((qO ops T g.1).map (· == some g.2)) := jL rfl
theorem zf4 {t u : TypeId} {x : Operand} {g : Nat × Bool} : WpL C ops (⟨dst, .convert t u x, ty, pos, after, some g⟩ :: l) T S F Q = WpG C ops dst (.convert t u x) ty pos after l T S F Q ((qO ops T g.1).map (· == some g.2)) := jL rfl
theorem zn5 {t : TypeId} {x : Operand} {lo hi : Option Operand} {g : Nat × Bool} : WpL C ops (⟨dst, .slice t x lo hi none, ty, pos, after, some g⟩ :: l) T S F Q = WpG C ops dst (.slice t x lo hi none) ty pos after l T S F Q ((qO ops T g.1).map (· == some g.2)) := jL rfl
theorem zir {t : TypeId} {x k : Operand} {ok : Bool} {g : Nat × Bool} : WpL C ops (⟨dst, .lookup t x k ok, ty, pos, after, some g⟩ :: l) T S F Q = WpG C ops dst (.lookup t x k ok) ty pos after l T S F Q ((qO ops T g.1).map (· == some g.2)) := jL rfl
theorem zp9 {c : Call} {g : Nat × Bool} : WpL C ops (⟨dst, .call c, ty, pos, after, some g⟩ :: l) T S F Q = WpG C ops dst (.call c) ty pos after l T S F Q ((qO ops T g.1).map (· == some g.2)) := jL rfl
theorem zg0 {x : Operand} {i : Nat} {g : Nat × Bool} : WpL C ops (⟨dst, .extract x i, ty, pos, after, some g⟩ :: l) T S F Q = WpG C ops dst (.extract x i) ty pos after l T S F Q ((qO ops T g.1).map (· == some g.2)) := jL rfl
theorem zpf {c a b : Operand} {g : Nat × Bool} : WpL C ops (⟨dst, .pick c a b, ty, pos, after, some g⟩ :: l) T S F Q = WpG C ops dst (.pick c a b) ty pos after l T S F Q ((qO ops T g.1).map (· == some g.2)) := jL rfl
theorem zjl {t : TypeId} {ps : Array (Nat × Operand)} {g : Nat × Bool} : WpL C ops (⟨dst, .build t ps, ty, pos, after, some g⟩ :: l) T S F Q = WpG C ops dst (.build t ps) ty pos after l T S F Q ((qO ops T g.1).map (· == some g.2)) := jL rfl
theorem zda {x : Operand} {g : Nat × Bool} : WpL C ops (⟨dst, .nilCheck x, ty, pos, after, some g⟩ :: l) T S F Q = WpG C ops dst (.nilCheck x) ty pos after l T S F Q ((qO ops T g.1).map (· == some g.2)) := jL rfl
theorem z5k {id : Nat} : post C (.block id :: k) Q (.exit id) T S F = post C k Q .norm T S F := by rw [z1t, if_pos rfl]
theorem z7n {id i : Nat} (h : i ≠ id) : post C (.block id :: k) Q (.exit i) T S F = post C k Q (.exit i) T S F := by rw [z1t, if_neg h]
theorem zsj {op : Op} : WpG C ops dst op ty pos after l T S F Q (some true) = WpL C ops (⟨dst, op, ty, pos, after, none⟩ :: l) T S F Q := rfl
theorem zns {op : Op} : WpG C ops dst op ty pos after l T S F Q (some false) = WpL C ops l (putT T dst (.tup [])) S F Q := rfl
end
theorem zwc {T : List V} {k : IntKind} {n : Int} : zE T (.const (.int k n)) = .d (.int k n) := rfl
theorem zqg {T : List V} {b : Bool} : zE T (.const (.bool b)) = .d (.bool b) := rfl
theorem zu2 {T : List V} {s : ByteArray} : zE T (.const (.string s)) = .d (.str (zml s)) := rfl
theorem z0v {T : List V} : zE T (.const (.slice none 0 0)) = .ts [] := rfl
theorem znq {T : List V} : zE T (.const (.map none)) = .d .nilm := rfl
theorem zpv {T : List V} : zE T (.const (.pointer none)) = .d .nilp := rfl
theorem zvh {k : IntKind} {a b : Int} : qR .eql k a k b = some (.bool (decide (a = b))) := by simp [qR]; rfl
theorem zvn {k : IntKind} {a b : Int} : qR .neq k a k b = some (.bool (decide (a ≠ b))) := by simp [qR]; rfl
def bs1 (P : Program) (S : zB) (t : TypeId) (v : V) : Option Rs :=
 match P.underlying t with
 | some (.slice e) => match zeroV P e, sz P e with
  | some z, some k => if qB P e z = true ∧ qB P e v = true ∧ k ≤ 16777216 ∧ k ≠ 0 then
    match asD v with
    | some d => some (.val (.ts [d]) S 0)
    | none => some (.val (.rs S.length 0 1) (S ++ [.row [v] e]) 2)
   else none
  | _, _ => none
 | _ => none
theorem q0i {P : Program} {S : zB} {T : List V} {t : TypeId} {x : Operand} {dst : Option Tmp} {ty : TypeId} {pos : String} {after : Array Edge} {g : Option (Nat × Bool)} : opV P S T ⟨dst, .buildSlice t 1 #[(0, x)], ty, pos, after, g⟩ = bs1 P S t (zE T x) := by
 simp only [opV, bs1]
 cases P.underlying t with
 | none => rfl
 | some td =>
  cases td <;> try rfl
  rename_i e
  cases hz : zeroV P e with
  | none => simp only [hz]
  | some z =>
   cases hk : sz P e with
   | none => simp only [hz, hk]
   | some k =>
    simp only [hz, hk, litV, List.map_cons, List.map_nil, List.foldl_cons, List.foldl_nil, List.replicate_succ, List.replicate_zero, List.set_cons_zero, allO, List.all_cons, List.all_nil, Bool.and_true, Nat.one_mul]
    by_cases h : qB P e z = true ∧ qB P e (zE T x) = true ∧ k ≤ 16777216 ∧ k ≠ 0
    ·rw [if_pos h, if_pos (by simp [h])]
     cases asD (zE T x) <;> rfl
    ·rw [if_neg h, if_neg]
     simpa [and_assoc] using h
theorem q1k {f : V → Bool} {a : V} {l : List V} : (a :: l).all f = (f a && l.all f) := rfl
theorem q2f {f : V → Bool} : ([] : List V).all f = true := rfl
theorem jG {b : Bool} : unV .not (.d (.bool b)) = some (.d (.bool (!b))) := rfl
theorem q2h {x : D} : V.one (.d x) = true := rfl
theorem zyh {xs : List D} : V.one (.ts xs) = true := rfl
theorem zyv {i o n : Nat} : V.one (.rs i o n) = true := rfl
theorem zw4 {xs : List V} : V.one (.agg xs) = true := rfl
theorem zvp {i o n : Nat} : V.one (.ref i o n) = true := rfl
theorem q17 {i : Nat} : V.one (.mr i) = true := rfl
theorem z8v {f : Fn} {a b : List V} : V.one (.fn f a b) = true := rfl
theorem zw6 {p : Prop} [Decidable p] (h : p) : decide p = true := decide_eq_true h
theorem zu0 {p : Prop} [Decidable p] (h : ¬ p) : decide p = false := decide_eq_false h
section
variable {C : Cfg}
theorem vmp :
 (∀ {T : List V} {S : zB} {F : Dfs} {k : List Fr} {Q : Post} {a b : Code}, Wp C (.seq a b) T S F (post C k Q) = Wp C a T S F (post C (.seq b :: k) Q)) ∧
 (∀ {T : List V} {S : zB} {F : Dfs} {Q : Post} {id : Nat} {ops : Array Oper}, Wp C (.region id ops false) T S F Q = WpL C ops ops.toList T S F Q) ∧
 (∀ {T : List V} {S : zB} {F : Dfs} {ops : Array Oper} {Q : Post}, WpL C ops [] T S F Q = Q .norm T S F) ∧
 (∀ {T : List V} {S : zB} {F : Dfs} {k : List Fr} {Q : Post} {b : Code}, post C (.seq b :: k) Q .norm T S F = Wp C b T S F (post C k Q)) ∧
 (∀ {T : List V} {S : zB} {F : Dfs} {k : List Fr} {Q : Post} {b : Code} {i : Nat}, post C (.seq b :: k) Q (.exit i) T S F = post C k Q (.exit i) T S F) ∧
 (∀ {T : List V} {S : zB} {F : Dfs} {k : List Fr} {Q : Post} {b : Code}, post C (.seq b :: k) Q .ret T S F = post C k Q .ret T S F) ∧
 (∀ {T : List V} {S : zB} {F : Dfs} {k : List Fr} {Q : Post} {b : Code} {v : V}, post C (.seq b :: k) Q (.pan v) T S F = post C k Q (.pan v) T S F) ∧
 (∀ {T : List V} {S : zB} {F : Dfs} {k : List Fr} {Q : Post} {b : Code}, post C (.loop b :: k) Q .norm T S F = Wp C (.loop b) T S F (post C k Q)) ∧
 (∀ {T : List V} {S : zB} {F : Dfs} {k : List Fr} {Q : Post} {b : Code} {i : Nat}, post C (.loop b :: k) Q (.exit i) T S F = post C k Q (.exit i) T S F) ∧
 (∀ {T : List V} {S : zB} {F : Dfs} {k : List Fr} {Q : Post} {b : Code}, post C (.loop b :: k) Q .ret T S F = post C k Q .ret T S F) ∧
 (∀ {T : List V} {S : zB} {F : Dfs} {k : List Fr} {Q : Post} {b : Code} {v : V}, post C (.loop b :: k) Q (.pan v) T S F = post C k Q (.pan v) T S F) ∧
 (∀ {T : List V} {S : zB} {F : Dfs} {k : List Fr} {Q : Post} {id : Nat}, post C (.block id :: k) Q .norm T S F = post C k Q .norm T S F) ∧
 (∀ {T : List V} {S : zB} {F : Dfs} {k : List Fr} {Q : Post} {id : Nat}, post C (.block id :: k) Q .ret T S F = post C k Q .ret T S F) ∧
 (∀ {T : List V} {S : zB} {F : Dfs} {k : List Fr} {Q : Post} {id : Nat} {v : V}, post C (.block id :: k) Q (.pan v) T S F = post C k Q (.pan v) T S F) ∧
 (∀ {T : List V} {S : zB} {F : Dfs} {k : List Fr} {Q : Post} {id : Nat}, post C (.block id :: k) Q (.exit id) T S F = post C k Q .norm T S F) ∧
 (∀ {T : List V} {S : zB} {F : Dfs} {k : List Fr} {Q : Post} {id i : Nat} (h : i ≠ id), post C (.block id :: k) Q (.exit i) T S F = post C k Q (.exit i) T S F) ∧
 (∀ {T : List V} {S : zB} {F : Dfs} {Q : Post} {x : Ex}, post C [] Q x T S F = Q x T S F) ∧
 (∀ {T : List V} {S : zB} {F : Dfs} {Q : Post}, Wp C .skip T S F Q = Q .norm T S F) ∧
 (∀ {T : List V} {S : zB} {F : Dfs} {Q : Post}, Wp C .ret T S F Q = Q .ret T S F) ∧
 (∀ {T : List V} {S : zB} {F : Dfs} {Q : Post} {id : Nat}, Wp C (.exit id) T S F Q = Q (.exit id) T S F) ∧
 (∀ {T : List V} {S : zB} {F : Dfs} {Q : Post} {l : Nat}, Wp C (.label l) T S F Q = Q .norm T S F) ∧
 (∀ {T : List V} {S : zB} {F : Dfs} {k : List Fr} {Q : Post} {id : Nat} {b : Code}, Wp C (.block id b) T S F (post C k Q) = Wp C b T S F (post C (.block id :: k) Q)) ∧
 (∀ {T : List V} {S : zB} {F : Dfs} {Q : Post} {b : Code}, Wp C (.scope b) T S F Q = Wp C b T S F Q) ∧
 (∀ {T : List V} {S : zB} {F : Dfs} {Q : Post} {c : Operand} {a b : Code}, Wp C (.cond c a b) T S F Q = WpB C (zE T c) a b T S F Q) ∧
 (∀ {ops : Array Oper} {dst : Option Tmp} {ty : TypeId} {pos : String} {after : Array Edge} {l : List Oper} {T : List V} {S : zB} {F : Dfs} {Q : Post} {x : Operand}, WpL C ops (⟨dst, .move x, ty, pos, after, none⟩ :: l) T S F Q = WpL C ops l (putT T dst (zE T x)) S F Q) ∧
 (∀ {ops : Array Oper} {dst : Option Tmp} {ty : TypeId} {pos : String} {after : Array Edge} {l : List Oper} {T : List V} {S : zB} {F : Dfs} {Q : Post} {x : Operand}, WpL C ops (⟨dst, .assign x, ty, pos, after, none⟩ :: l) T S F Q = WpL C ops l (putT T dst (zE T x)) S F Q) ∧
 (∀ {ops : Array Oper} {dst : Option Tmp} {ty : TypeId} {pos : String} {after : Array Edge} {l : List Oper} {T : List V} {S : zB} {F : Dfs} {Q : Post} {op : BinOp} {t u : TypeId} {x y : Operand}, WpL C ops (⟨dst, .binOp op t x y u, ty, pos, after, none⟩ :: l) T S F Q = WpR C ops dst l T S F Q ((binV C.P op t (zE T x) (zE T y)).map fun v => .val v S 0)) ∧
 (∀ {ops : Array Oper} {dst : Option Tmp} {ty : TypeId} {pos : String} {after : Array Edge} {l : List Oper} {T : List V} {S : zB} {F : Dfs} {Q : Post} {op : UnOp} {t : TypeId} {x : Operand}, WpL C ops (⟨dst, .unOp op t x, ty, pos, after, none⟩ :: l) T S F Q = WpR C ops dst l T S F Q ((unV op (zE T x)).map fun v => .val v S 0)) ∧
 (∀ {ops : Array Oper} {dst : Option Tmp} {ty : TypeId} {pos : String} {after : Array Edge} {l : List Oper} {T : List V} {S : zB} {F : Dfs} {Q : Post} {t : TypeId} {x y : Operand}, WpL C ops (⟨dst, .indexAddr t x y, ty, pos, after, none⟩ :: l) T S F Q = WpR C ops dst l T S F Q ((zI C.P S t (zE T x) (zE T y)).map fun v => .val v S 1)) ∧
 (∀ {ops : Array Oper} {dst : Option Tmp} {ty : TypeId} {pos : String} {after : Array Edge} {l : List Oper} {T : List V} {S : zB} {F : Dfs} {Q : Post} {t : TypeId} {x y : Operand}, WpL C ops (⟨dst, .index t x y, ty, pos, after, none⟩ :: l) T S F Q = WpR C ops dst l T S F Q ((z2n C.P t (zE T x) (zE T y)).map fun v => .val v S 0)) ∧
 (∀ {ops : Array Oper} {dst : Option Tmp} {ty : TypeId} {pos : String} {after : Array Edge} {l : List Oper} {T : List V} {S : zB} {F : Dfs} {Q : Post} {t : TypeId} {x : Operand} {f : Nat}, WpL C ops (⟨dst, .fieldAddr t x f, ty, pos, after, none⟩ :: l) T S F Q = WpR C ops dst l T S F Q ((zT C.P t f (zE T x)).map fun v => .val v S 0)) ∧
 (∀ {ops : Array Oper} {dst : Option Tmp} {ty : TypeId} {pos : String} {after : Array Edge} {l : List Oper} {T : List V} {S : zB} {F : Dfs} {Q : Post} {t : TypeId} {x : Operand} {f : Nat}, WpL C ops (⟨dst, .field t x f, ty, pos, after, none⟩ :: l) T S F Q = WpR C ops dst l T S F Q ((z8u C.P t f (zE T x)).map fun v => .val v S 0)) ∧
 (∀ {ops : Array Oper} {dst : Option Tmp} {ty : TypeId} {pos : String} {after : Array Edge} {l : List Oper} {T : List V} {S : zB} {F : Dfs} {Q : Post} {t : TypeId} {x : Operand}, WpL C ops (⟨dst, .load t x, ty, pos, after, none⟩ :: l) T S F Q = WpR C ops dst l T S F Q ((kF C.P S t (zE T x)).map fun v => .val v S 1)) ∧
 (∀ {ops : Array Oper} {dst : Option Tmp} {ty : TypeId} {pos : String} {after : Array Edge} {l : List Oper} {T : List V} {S : zB} {F : Dfs} {Q : Post} {t : TypeId} {x y : Operand}, WpL C ops (⟨dst, .store t x y, ty, pos, after, none⟩ :: l) T S F Q = WpR C ops dst l T S F Q ((vJ C.P S t (zE T x) (zE T y)).map fun S' => .skip S' 3)) ∧
 (∀ {ops : Array Oper} {dst : Option Tmp} {ty : TypeId} {pos : String} {after : Array Edge} {l : List Oper} {T : List V} {S : zB} {F : Dfs} {Q : Post} {t u : TypeId} {x : Operand}, WpL C ops (⟨dst, .convert t u x, ty, pos, after, none⟩ :: l) T S F Q = WpR C ops dst l T S F Q ((qI C.P S t u (zE T x)).map fun r => .val r.1 S r.2)) ∧
 (∀ {ops : Array Oper} {dst : Option Tmp} {ty : TypeId} {pos : String} {after : Array Edge} {l : List Oper} {T : List V} {S : zB} {F : Dfs} {Q : Post} {t : TypeId} {x y : Operand}, WpL C ops (⟨dst, .makeSlice t x y, ty, pos, after, none⟩ :: l) T S F Q = WpR C ops dst l T S F Q ((jO C.P S t (zE T x) (zE T y)).map fun r => .val r.1 r.2 2)) ∧
 (∀ {ops : Array Oper} {dst : Option Tmp} {ty : TypeId} {pos : String} {after : Array Edge} {l : List Oper} {T : List V} {S : zB} {F : Dfs} {Q : Post} {t : TypeId} {x : Operand} {lo hi : Option Operand}, WpL C ops (⟨dst, .slice t x lo hi none, ty, pos, after, none⟩ :: l) T S F Q = WpR C ops dst l T S F Q ((wN C.P S t (zE T x) (lo.map (zE T)) (hi.map (zE T))).map fun v => .val v S 1)) ∧
 (∀ {ops : Array Oper} {dst : Option Tmp} {ty : TypeId} {pos : String} {after : Array Edge} {l : List Oper} {T : List V} {S : zB} {F : Dfs} {Q : Post} {t : TypeId} {x k : Operand} {ok : Bool}, WpL C ops (⟨dst, .lookup t x k ok, ty, pos, after, none⟩ :: l) T S F Q = WpR C ops dst l T S F Q ((wI C.P S t (zE T x) (zE T k) ok).map fun v => .val v S 1)) ∧
 (∀ {ops : Array Oper} {dst : Option Tmp} {ty : TypeId} {pos : String} {after : Array Edge} {l : List Oper} {T : List V} {S : zB} {F : Dfs} {Q : Post} {t : TypeId} {x k v : Operand}, WpL C ops (⟨dst, .mapUpdate t x k v, ty, pos, after, none⟩ :: l) T S F Q = WpR C ops dst l T S F Q ((jX C.P S t (zE T x) (zE T k) (zE T v)).map fun S' => .skip S' 3)) ∧
 (∀ {ops : Array Oper} {dst : Option Tmp} {ty : TypeId} {pos : String} {after : Array Edge} {l : List Oper} {T : List V} {S : zB} {F : Dfs} {Q : Post} {b : Builtin} {args : Array Operand} {ts : Array TypeId}, WpL C ops (⟨dst, .call { callee := .builtin b, args := args, argTypes := ts }, ty, pos, after, none⟩ :: l) T S F Q = WpR C ops dst l T S F Q (zO C.P S b ts.toList (args.toList.map (zE T)))) ∧
 (∀ {ops : Array Oper} {dst : Option Tmp} {ty : TypeId} {pos : String} {after : Array Edge} {l : List Oper} {T : List V} {S : zB} {F : Dfs} {Q : Post} {t : TypeId} {ps : Array (Nat × Operand)}, WpL C ops (⟨dst, .build t ps, ty, pos, after, none⟩ :: l) T S F Q = WpR C ops dst l T S F Q ((wY C.P t (ps.toList.map fun p => (p.1, zE T p.2))).map fun v => .val v S 0)) ∧
 (∀ {ops : Array Oper} {dst : Option Tmp} {ty : TypeId} {pos : String} {after : Array Edge} {l : List Oper} {T : List V} {S : zB} {F : Dfs} {Q : Post} {x : Operand} {i : Nat}, WpL C ops (⟨dst, .extract x i, ty, pos, after, none⟩ :: l) T S F Q = WpR C ops dst l T S F Q (match zE T x with | .tup vs => (match vs[i]? with | some v => some (.val v S 0) | none => none) | _ => none)) ∧
 (∀ {ops : Array Oper} {dst : Option Tmp} {ty : TypeId} {pos : String} {after : Array Edge} {l : List Oper} {T : List V} {S : zB} {F : Dfs} {Q : Post} {g : FuncId} {args : Array Operand} {ts : Array TypeId}, WpL C ops (⟨dst, .call { callee := .value (.func g), args := args, argTypes := ts }, ty, pos, after, none⟩ :: l) T S F Q = WpR C ops dst l T S F Q (if (args.toList.map (zE T)).all V.one && (zC C.P g).isSome then some (.enter g ([] ++ args.toList.map (zE T) ++ [])) else none)) ∧
 (∀ {ops : Array Oper} {dst : Option Tmp} {ty : TypeId} {pos : String} {after : Array Edge} {l : List Oper} {T : List V} {S : zB} {F : Dfs} {Q : Post} {c a b : Operand}, WpL C ops (⟨dst, .pick c a b, ty, pos, after, none⟩ :: l) T S F Q = WpR C ops dst l T S F Q (match zE T c with | .d (.bool true) => some (.val (zE T a) S 0) | .d (.bool false) => some (.val (zE T b) S 0) | _ => none)) ∧
 (∀ {ops : Array Oper} {dst : Option Tmp} {ty : TypeId} {pos : String} {after : Array Edge} {l : List Oper} {T : List V} {S : zB} {F : Dfs} {Q : Post} {x : Operand}, WpL C ops (⟨dst, .nilCheck x, ty, pos, after, none⟩ :: l) T S F Q = WpR C ops dst l T S F Q (match zE T x with | .ref i ix off => some (.val (.ref i ix off) S 0) | .d (.ptr x) => some (.val (.d (.ptr x)) S 0) | .fn (.func g) a b => some (.val (.fn (.func g) a b) S 0) | _ => none)) ∧
 (∀ {ops : Array Oper} {dst : Option Tmp} {ty : TypeId} {pos : String} {after : Array Edge} {l : List Oper} {T : List V} {S : zB} {F : Dfs} {Q : Post} {t : TypeId} {n : Nat} {ps : Array (Nat × Operand)} {d2 : Option Tmp} {c : Call} {ty2 : TypeId} {pos2 : String} {after2 : Array Edge} {g2 : Option (Nat × Bool)}, WpL C ops (⟨dst, .buildSlice t n ps, ty, pos, after, none⟩ :: ⟨d2, .call c, ty2, pos2, after2, g2⟩ :: l) T S F Q = WpR C ops dst (⟨d2, .call c, ty2, pos2, after2, g2⟩ :: l) T S F Q (opV C.P S T ⟨dst, .buildSlice t n ps, ty, pos, after, none⟩)) ∧
 (∀ {ops : Array Oper} {dst : Option Tmp} {ty : TypeId} {pos : String} {after : Array Edge} {l : List Oper} {T : List V} {S : zB} {F : Dfs} {Q : Post} {x : Operand} {g : Nat × Bool}, WpL C ops (⟨dst, .move x, ty, pos, after, some g⟩ :: l) T S F Q = WpG C ops dst (.move x) ty pos after l T S F Q ((qO ops T g.1).map (· == some g.2))) ∧
 (∀ {ops : Array Oper} {dst : Option Tmp} {ty : TypeId} {pos : String} {after : Array Edge} {l : List Oper} {T : List V} {S : zB} {F : Dfs} {Q : Post} {x : Operand} {g : Nat × Bool}, WpL C ops (⟨dst, .assign x, ty, pos, after, some g⟩ :: l) T S F Q = WpG C ops dst (.assign x) ty pos after l T S F Q ((qO ops T g.1).map (· == some g.2))) ∧
 (∀ {ops : Array Oper} {dst : Option Tmp} {ty : TypeId} {pos : String} {after : Array Edge} {l : List Oper} {T : List V} {S : zB} {F : Dfs} {Q : Post} {op : BinOp} {t u : TypeId} {x y : Operand} {g : Nat × Bool}, WpL C ops (⟨dst, .binOp op t x y u, ty, pos, after, some g⟩ :: l) T S F Q = WpG C ops dst (.binOp op t x y u) ty pos after l T S F Q ((qO ops T g.1).map (· == some g.2))) ∧
 (∀ {ops : Array Oper} {dst : Option Tmp} {ty : TypeId} {pos : String} {after : Array Edge} {l : List Oper} {T : List V} {S : zB} {F : Dfs} {Q : Post} {op : UnOp} {t : TypeId} {x : Operand} {g : Nat × Bool}, WpL C ops (⟨dst, .unOp op t x, ty, pos, after, some g⟩ :: l) T S F Q = WpG C ops dst (.unOp op t x) ty pos after l T S F Q ((qO ops T g.1).map (· == some g.2))) ∧
 (∀ {ops : Array Oper} {dst : Option Tmp} {ty : TypeId} {pos : String} {after : Array Edge} {l : List Oper} {T : List V} {S : zB} {F : Dfs} {Q : Post} {t : TypeId} {x y : Operand} {g : Nat × Bool}, WpL C ops (⟨dst, .indexAddr t x y, ty, pos, after, some g⟩ :: l) T S F Q = WpG C ops dst (.indexAddr t x y) ty pos after l T S F Q ((qO ops T g.1).map (· == some g.2))) ∧
 (∀ {ops : Array Oper} {dst : Option Tmp} {ty : TypeId} {pos : String} {after : Array Edge} {l : List Oper} {T : List V} {S : zB} {F : Dfs} {Q : Post} {t : TypeId} {x y : Operand} {g : Nat × Bool}, WpL C ops (⟨dst, .index t x y, ty, pos, after, some g⟩ :: l) T S F Q = WpG C ops dst (.index t x y) ty pos after l T S F Q ((qO ops T g.1).map (· == some g.2))) ∧
 (∀ {ops : Array Oper} {dst : Option Tmp} {ty : TypeId} {pos : String} {after : Array Edge} {l : List Oper} {T : List V} {S : zB} {F : Dfs} {Q : Post} {t : TypeId} {x : Operand} {f : Nat} {g : Nat × Bool}, WpL C ops (⟨dst, .fieldAddr t x f, ty, pos, after, some g⟩ :: l) T S F Q = WpG C ops dst (.fieldAddr t x f) ty pos after l T S F Q ((qO ops T g.1).map (· == some g.2))) ∧
 (∀ {ops : Array Oper} {dst : Option Tmp} {ty : TypeId} {pos : String} {after : Array Edge} {l : List Oper} {T : List V} {S : zB} {F : Dfs} {Q : Post} {t : TypeId} {x : Operand} {f : Nat} {g : Nat × Bool}, WpL C ops (⟨dst, .field t x f, ty, pos, after, some g⟩ :: l) T S F Q = WpG C ops dst (.field t x f) ty pos after l T S F Q ((qO ops T g.1).map (· == some g.2))) ∧
 (∀ {ops : Array Oper} {dst : Option Tmp} {ty : TypeId} {pos : String} {after : Array Edge} {l : List Oper} {T : List V} {S : zB} {F : Dfs} {Q : Post} {t : TypeId} {x : Operand} {g : Nat × Bool}, WpL C ops (⟨dst, .load t x, ty, pos, after, some g⟩ :: l) T S F Q = WpG C ops dst (.load t x) ty pos after l T S F Q ((qO ops T g.1).map (· == some g.2))) ∧
 (∀ {ops : Array Oper} {dst : Option Tmp} {ty : TypeId} {pos : String} {after : Array Edge} {l : List Oper} {T : List V} {S : zB} {F : Dfs} {Q : Post} {t u : TypeId} {x : Operand} {g : Nat × Bool}, WpL C ops (⟨dst, .convert t u x, ty, pos, after, some g⟩ :: l) T S F Q = WpG C ops dst (.convert t u x) ty pos after l T S F Q ((qO ops T g.1).map (· == some g.2))) ∧
 (∀ {ops : Array Oper} {dst : Option Tmp} {ty : TypeId} {pos : String} {after : Array Edge} {l : List Oper} {T : List V} {S : zB} {F : Dfs} {Q : Post} {t : TypeId} {x : Operand} {lo hi : Option Operand} {g : Nat × Bool}, WpL C ops (⟨dst, .slice t x lo hi none, ty, pos, after, some g⟩ :: l) T S F Q = WpG C ops dst (.slice t x lo hi none) ty pos after l T S F Q ((qO ops T g.1).map (· == some g.2))) ∧
 (∀ {ops : Array Oper} {dst : Option Tmp} {ty : TypeId} {pos : String} {after : Array Edge} {l : List Oper} {T : List V} {S : zB} {F : Dfs} {Q : Post} {t : TypeId} {x k : Operand} {ok : Bool} {g : Nat × Bool}, WpL C ops (⟨dst, .lookup t x k ok, ty, pos, after, some g⟩ :: l) T S F Q = WpG C ops dst (.lookup t x k ok) ty pos after l T S F Q ((qO ops T g.1).map (· == some g.2))) ∧
 (∀ {ops : Array Oper} {dst : Option Tmp} {ty : TypeId} {pos : String} {after : Array Edge} {l : List Oper} {T : List V} {S : zB} {F : Dfs} {Q : Post} {c : Call} {g : Nat × Bool}, WpL C ops (⟨dst, .call c, ty, pos, after, some g⟩ :: l) T S F Q = WpG C ops dst (.call c) ty pos after l T S F Q ((qO ops T g.1).map (· == some g.2))) ∧
 (∀ {ops : Array Oper} {dst : Option Tmp} {ty : TypeId} {pos : String} {after : Array Edge} {l : List Oper} {T : List V} {S : zB} {F : Dfs} {Q : Post} {x : Operand} {i : Nat} {g : Nat × Bool}, WpL C ops (⟨dst, .extract x i, ty, pos, after, some g⟩ :: l) T S F Q = WpG C ops dst (.extract x i) ty pos after l T S F Q ((qO ops T g.1).map (· == some g.2))) ∧
 (∀ {ops : Array Oper} {dst : Option Tmp} {ty : TypeId} {pos : String} {after : Array Edge} {l : List Oper} {T : List V} {S : zB} {F : Dfs} {Q : Post} {c a b : Operand} {g : Nat × Bool}, WpL C ops (⟨dst, .pick c a b, ty, pos, after, some g⟩ :: l) T S F Q = WpG C ops dst (.pick c a b) ty pos after l T S F Q ((qO ops T g.1).map (· == some g.2))) ∧
 (∀ {ops : Array Oper} {dst : Option Tmp} {ty : TypeId} {pos : String} {after : Array Edge} {l : List Oper} {T : List V} {S : zB} {F : Dfs} {Q : Post} {t : TypeId} {ps : Array (Nat × Operand)} {g : Nat × Bool}, WpL C ops (⟨dst, .build t ps, ty, pos, after, some g⟩ :: l) T S F Q = WpG C ops dst (.build t ps) ty pos after l T S F Q ((qO ops T g.1).map (· == some g.2))) ∧
 (∀ {ops : Array Oper} {dst : Option Tmp} {ty : TypeId} {pos : String} {after : Array Edge} {l : List Oper} {T : List V} {S : zB} {F : Dfs} {Q : Post} {x : Operand} {g : Nat × Bool}, WpL C ops (⟨dst, .nilCheck x, ty, pos, after, some g⟩ :: l) T S F Q = WpG C ops dst (.nilCheck x) ty pos after l T S F Q ((qO ops T g.1).map (· == some g.2))) :=
 ⟨q00, zk3, zw2, q15, zev, zj0, zhm, zv9, zdc, zey, zfx, zob, zdv, zd5, z5k, z7n, zxl, zvi, zyo, zw7, zq1, zqa, zq0, zur, zse, zkg, q0h, q1n, zqo, q0v, ze6, znw, zw9, zor, ziz, zef, zbu, znp, ze1, zig, zoo, zia, zp4, zwa, zf6, z54, zpl, zim, zve, zzn, zkm, ztm, zbi, zkq, zqf, zf4, zn5, zir, zp9, zg0, zpf, zjl, zda⟩
end
theorem vme :
 (∀ {C : Cfg} {ops : Array Oper} {dst : Option Tmp} {l : List Oper} {T : List V} {S S' : zB} {F : Dfs} {Q : Post} {v : V} {c : Nat}, WpR C ops dst l T S F Q (some (.val v S' c)) = WpL C ops l (putT T dst v) S' F Q) ∧
 (∀ {C : Cfg} {ops : Array Oper} {dst : Option Tmp} {l : List Oper} {T : List V} {S S' : zB} {F : Dfs} {Q : Post} {c : Nat}, WpR C ops dst l T S F Q (some (.skip S' c)) = WpL C ops l (putT T dst (.tup [])) S' F Q) ∧
 (∀ {T : List V} {v : V} {d : Tmp}, putT T (some d) v = T.set d v) ∧
 (∀ {T : List V} {v : V}, putT T none v = T) ∧
 (∀ {T : List V} {t : Tmp}, zE T (.tmp t) = T.getD t .junk) ∧
 (∀ {T : List V} {k : IntKind} {n : Int}, zE T (.const (.int k n)) = .d (.int k n)) ∧
 (∀ {T : List V} {b : Bool}, zE T (.const (.bool b)) = .d (.bool b)) ∧
 (∀ {T : List V} {s : ByteArray}, zE T (.const (.string s)) = .d (.str (zml s))) ∧
 (∀ {T : List V}, zE T (.const (.slice none 0 0)) = .ts []) ∧
 (∀ {T : List V}, zE T (.const (.map none)) = .d .nilm) ∧
 (∀ {T : List V}, zE T (.const (.pointer none)) = .d .nilp) ∧
 (∀ {a x : V} {r : List V}, (a :: r).getD 0 x = a) ∧
 (∀ {a x : V} {r : List V} {n : Nat}, (a :: r).getD (n + 1) x = r.getD n x) ∧
 (∀ {a x : V} {r : List V}, (a :: r).set 0 x = x :: r) ∧
 (∀ {a x : V} {r : List V} {n : Nat}, (a :: r).set (n + 1) x = a :: r.set n x) ∧
 (∀ {P : Program} {op : BinOp} {t : TypeId} {k k' : IntKind} {a b : Int}, binV P op t (.d (.int k a)) (.d (.int k' b)) = (qR op k a k' b).map .d) ∧
 (∀ {P : Program} {op : BinOp} {t : TypeId} {a b : List UInt8}, binV P op t (.d (.str a)) (.d (.str b)) = (z4r op a b).map .d) ∧
 (∀ {k : IntKind} {a b : Int}, qR .add k a k b = some (.int k (k.wrap (a + b)))) ∧
 (∀ {k : IntKind} {a b : Int}, qR .sub k a k b = some (.int k (k.wrap (a - b)))) ∧
 (∀ {k : IntKind} {a b : Int}, qR .mul k a k b = some (.int k (k.wrap (a * b)))) ∧
 (∀ {k : IntKind} {a b : Int}, qR .eql k a k b = some (.bool (decide (a = b)))) ∧
 (∀ {k : IntKind} {a b : Int}, qR .neq k a k b = some (.bool (decide (a ≠ b)))) ∧
 (∀ {k : IntKind} {a b : Int}, qR .lss k a k b = some (.bool (decide (a < b)))) ∧
 (∀ {k : IntKind} {a b : Int}, qR .leq k a k b = some (.bool (decide (a ≤ b)))) ∧
 (∀ {k : IntKind} {a b : Int}, qR .gtr k a k b = some (.bool (decide (a > b)))) ∧
 (∀ {k : IntKind} {a b : Int}, qR .geq k a k b = some (.bool (decide (a ≥ b)))) ∧
 (∀ {b : Bool}, unV .not (.d (.bool b)) = some (.d (.bool (!b)))) ∧
 (∀ {x : D}, V.one (.d x) = true) ∧
 (∀ {xs : List D}, V.one (.ts xs) = true) ∧
 (∀ {i o n : Nat}, V.one (.rs i o n) = true) ∧
 (∀ {xs : List V}, V.one (.agg xs) = true) ∧
 (∀ {i o n : Nat}, V.one (.ref i o n) = true) ∧
 (∀ {i : Nat}, V.one (.mr i) = true) ∧
 (∀ {f : Fn} {a b : List V}, V.one (.fn f a b) = true) ∧
 (∀ {C : Cfg} {ops : Array Oper} {dst : Option Tmp} {op : Op} {ty : TypeId} {pos : String} {after : Array Edge} {l : List Oper} {T : List V} {S : zB} {F : Dfs} {Q : Post}, WpG C ops dst op ty pos after l T S F Q (some true) = WpL C ops (⟨dst, op, ty, pos, after, none⟩ :: l) T S F Q) ∧
 (∀ {C : Cfg} {ops : Array Oper} {dst : Option Tmp} {op : Op} {ty : TypeId} {pos : String} {after : Array Edge} {l : List Oper} {T : List V} {S : zB} {F : Dfs} {Q : Post}, WpG C ops dst op ty pos after l T S F Q (some false) = WpL C ops l (putT T dst (.tup [])) S F Q) ∧
 (∀ {C : Cfg} {T : List V} {S : zB} {F : Dfs} {Q : Post} {a b : Code}, WpB C (.d (.bool true)) a b T S F Q = Wp C a T S F Q) ∧
 (∀ {C : Cfg} {T : List V} {S : zB} {F : Dfs} {Q : Post} {a b : Code}, WpB C (.d (.bool false)) a b T S F Q = Wp C b T S F Q) ∧
 (∀ {P : Program} {S : zB} {t tx : TypeId} {s x : V}, zO P S .append [t, tx] [s, x] = (qN P S t tx s x).map fun r => .val r.1 r.2.1 r.2.2) ∧
 (∀ {P : Program} {S : zB} {t tx : TypeId} {s x : V}, zO P S .copy [t, tx] [s, x] = (copyV P S t tx s x).map fun r => .val r.1 r.2 3) ∧
 (∀ {P : Program} {S : zB} {T : List V} {t : TypeId} {x : Operand} {dst : Option Tmp} {ty : TypeId} {pos : String} {after : Array Edge} {g : Option (Nat × Bool)}, opV P S T ⟨dst, .buildSlice t 1 #[(0, x)], ty, pos, after, g⟩ = bs1 P S t (zE T x)) ∧
 (∀ {α β : Type} {a : α} {f : α → β}, (some a).map f = some (f a)) ∧
 (∀ {α β : Type} {f : α → β} {a : α} {l : List α}, (a :: l).map f = f a :: l.map f) ∧
 (∀ {α β : Type} {f : α → β}, ([] : List α).map f = []) ∧
 (∀ {f : V → Bool} {a : V} {l : List V}, (a :: l).all f = (f a && l.all f)) ∧
 (∀ {b : Bool}, (b && true) = b) ∧
 (∀ {b : Bool}, (true && b) = b) ∧
 (∀ {α : Type} {a b : α}, (if True then a else b) = a) ∧
 (∀ {α : Type} {a b : α}, (if true = true then a else b) = a) ∧
 (∀ {α : Type} {l : List α}, [] ++ l = l) ∧
 (∀ {α : Type} {l : List α}, l ++ [] = l) ∧
 ((!true) = false) ∧
 ((!false) = true) ∧
 (∀ {f : V → Bool}, ([] : List V).all f = true) :=
 ⟨zxn, zv2, zos, zq4, zzv, zwc, zqg, zu2, z0v, znq, zpv, zlm, zla, zmy, zmv, binI, binS, zx5, zyj, zy7, zvh, zvn, zzp, q0y, zy6, zzi, jG, q2h, zyh, zyv, zw4, zvp, q17, z8v, zsj, zns, zvd, zo3, zle, zuv, q0i, rfl, rfl, rfl, q1k, (by simp), rfl, (by simp), (by simp), rfl, (by simp), rfl, rfl, q2f⟩
section
variable {C : Cfg} {P : Program} {T : List V} {S : zB} {F : Dfs} {o : Out}
def RetQ (P : Program) (rs : Array ResultVar) (o : Out) : Post := fun x T S F => (x = .norm ∨ x = .ret) ∧ F = [] ∧ ∃ v, qG P rs T S = some v ∧ z9k S (.ret v) = some o
theorem kD {f : FuncId} {c : Code} {n : Nat} {rs : Array ResultVar} {ds : List D} (hx : C.ext f = none) (hc : C.catch_ f = none) (hb : zC C.P f = some ⟨c, n, rs⟩)
  (h : Wp C c (vW n (ds.map .d)) [] [] (post C [] (RetQ C.P rs o))) : Ev C f ds o := zqp hx hc hb h
theorem zP {t : Tmp} {v : V} {d : D} (hv : T.getD t (.tup []) = v) (h1 : v.one = true) (h : frz S zJ v = some d) : RetQ P #[.tmp t] (.ret (.d d)) .ret T S [] := by
 refine ⟨.inr rfl, rfl, v, ?_, ?_⟩
 ·show jY P T S (.tmp t) = some v
  simp only [jY, hv]
 ·cases v <;> first | (simp [V.one] at h1; done) | (simp only [z9k, h, Option.map_some])
theorem wK {a t : Nat} {v u : V} {d : D} (ha : T.getD a (.tup []) = u) (hv : kF P S t u = some v) (h1 : v.one = true) (h : frz S zJ v = some d) : RetQ P #[.cell a t] (.ret (.d d)) .ret T S [] := by
 refine ⟨.inr rfl, rfl, v, ?_, ?_⟩
 ·show jY P T S (.cell a t) = some v
  simp only [jY, ha, hv]
 ·cases v <;> first | (simp [V.one] at h1; done) | (simp only [z9k, h, Option.map_some])
theorem z58 {r1 r2 : ResultVar} {l : List ResultVar} {vs : List V} {ds : List D} (hv : allO (jY P T S) (r1 :: r2 :: l) = some vs) (h1 : vs.all V.one = true) (h : allO (frz S zJ) vs = some ds) : RetQ P (r1 :: r2 :: l).toArray (.ret (.tup (ds.map .d))) .ret T S [] := by
 refine ⟨.inr rfl, rfl, .tup vs, ?_, ?_⟩
 ·simp only [qG, hv, h1, if_true]
 ·simp only [z9k, h, Option.map_some]
theorem zby {t u : Tmp} {v w : V} {d e : D} (hv : T.getD t (.tup []) = v) (hw : T.getD u (.tup []) = w) (h1 : v.one = true) (h2 : w.one = true) (h3 : frz S zJ v = some d) (h4 : frz S zJ w = some e) : RetQ P #[.tmp t, .tmp u] (.ret (.tup [.d d, .d e])) .ret T S [] :=
 z58 (r1 := .tmp t) (r2 := .tmp u) (l := []) (vs := [v, w]) (ds := [d, e]) (by simp only [allO, jY, hv, hw]) (by simp [h1, h2]) (by simp only [allO, h3, h4])
theorem z6r {t u x : Tmp} {v w y : V} {d e z : D} (hv : T.getD t (.tup []) = v) (hw : T.getD u (.tup []) = w) (hy : T.getD x (.tup []) = y) (h1 : v.one = true) (h2 : w.one = true) (h0 : y.one = true) (h3 : frz S zJ v = some d) (h4 : frz S zJ w = some e) (h5 : frz S zJ y = some z) : RetQ P #[.tmp t, .tmp u, .tmp x] (.ret (.tup [.d d, .d e, .d z])) .ret T S [] :=
 z58 (r1 := .tmp t) (r2 := .tmp u) (l := [.tmp x]) (vs := [v, w, y]) (ds := [d, e, z]) (by simp only [allO, jY, hv, hw, hy]) (by simp [h1, h2, h0]) (by simp only [allO, h3, h4, h5])
theorem qL {e : TypeId} {v : V} {xs : List V} (h : OwnS S v e xs) : v.one = true := by
 rcases h with ⟨rfl, _⟩ | ⟨id, rfl, _⟩ <;> rfl
theorem zpr {α : Type} {enc : α → D} {e : TypeId} {v : V} {xs : List α} (h : OwnS S v e (xs.map fun x => .d (enc x))) : frz S zJ v = some (.sl (xs.map enc)) := zlb (by simpa [List.map_map, Function.comp_def] using h)
def lpOf : Code → Nat → Code
 | .block i (.loop b), id => if i = id then b else lpOf b id
 | .block _ b, id => lpOf b id
 | .seq a b, id => match lpOf a id with | .skip => lpOf b id | c => c
 | .cond _ a b, id => match lpOf a id with | .skip => lpOf b id | c => c
 | .loop b, id => lpOf b id
 | .scope b, id => lpOf b id
 | _, _ => .skip
theorem zc4 {e : TypeId} {k n : Nat} (hb : bytesOf P e = k) (hk : k ≤ 100000000) (h : n ≤ 1000000) : room P e n = true := by
 unfold room
 have : n * k ≤ 1000000 * 100000000 := Nat.mul_le_mul h hk
 rw [hb]; simp; omega
theorem zis {α : Type} {enc : α → D} {t e : TypeId} {v : V} {xs : List α} (a : α) (hu : P.underlying t = some (.slice e)) (hz : zOk P e = true) (hs : (sz P e).isSome = true) (hf : z18 P e (enc a) = true) (ho : OwnS S v e (xs.map fun x => .d (enc x))) (hr : room P e (xs.length + 1) = true) :
  ∃ v' S' c, qN P S t t v (.ts [enc a]) = some (v', S', c) ∧ OwnS S' v' e ((xs ++ [a]).map fun x => .d (enc x)) ∧ (∀ j o, S[j]? = some o → NotAt v j → S'[j]? = some o ∧ NotAt v' j) ∧ S.length ≤ S'.length := by
 obtain ⟨v', S', c, h1, h2, h3, h4⟩ := zib hu hz hs ho hf (by simpa using hr)
 exact ⟨v', S', c, h1, by simpa using h2, h3, h4⟩
theorem znc {α : Type} {enc : α → D} {t e : TypeId} {l : List α} {i : Nat} (hu : P.underlying t = some (.slice e)) (hf : ∀ a, z18 P e (enc a) = true) (h : i < l.length) : zI P S t (.d (.sl (l.map enc))) (.d (.int .i64 i)) = some (.d (.ptr (enc l[i]))) := zzj hu (by simp [h]) (hf _)
end
def rowE (S : zB) (id ix : Nat) : Option V := match S[id]? with | some (.row xs _) => xs[ix]? | _ => none
def qT (P : Program) (t : TypeId) (off : Nat) : Option V → Option V
 | some x => if off = 0 && qB P t x then some x else z6j P t x.cells off
 | none => none
def qM (P : Program) (t : TypeId) (off : Nat) (v x : V) : Option V :=
 if qB P t v then
  if off = 0 && (x.cells.length == v.cells.length) && (x.isAgg == v.isAgg) then some v
  else if off + v.cells.length ≤ x.cells.length && x.isAgg then some (.agg (x.cells.take off ++ v.cells ++ x.cells.drop (off + v.cells.length)))
  else none
 else none
def jQ (S : zB) (id ix : Nat) (y : V) : Option zB := match S[id]? with | some (.row xs e) => some (S.set id (.row (xs.set ix y) e)) | _ => none
def z3y (S : zB) (id ix : Nat) : Option V → Option zB | some y => jQ S id ix y | none => none
section
variable {C : Cfg} {P : Program} {S : zB} {id ix off : Nat}
theorem zG {t : TypeId} {x : V} (h : rowE S id ix = some x) : kF P S t (.ref id ix off) = qT P t off (some x) := by
 unfold rowE at h
 split at h
 ·rename_i xs e ho
  simp only [kF, ho, h, qT]
 ·cases h
theorem z1l {t : TypeId} {v x : V} (h : rowE S id ix = some x) : vJ P S t (.ref id ix off) v = z3y S id ix (qM P t off v x) := by
 unfold rowE at h
 split at h
 ·rename_i xs e ho
  simp only [vJ, ho, h, qM]
  split
  ·split
   ·simp only [z3y, jQ, ho]
   ·split
    ·simp only [z3y, jQ, ho]
    ·rfl
  ·rfl
 ·cases h
theorem zng {o : Ob} {S : zB} {i : Nat} : rowE (o :: S) (i + 1) ix = rowE S i ix := by
 unfold rowE
 rw [List.getElem?_cons_succ]
theorem zfy {o : Ob} {S : zB} {i : Nat} {y : V} : jQ (o :: S) (i + 1) ix y = (jQ S i ix y).map fun S' => o :: S' := by
 unfold jQ
 rw [List.getElem?_cons_succ]
 cases S[i]? with
 | none => rfl
 | some o => cases o <;> rfl
theorem zD {x : V} {e : TypeId} (h : S[id]? = some (.row [x] e)) : rowE S id 0 = some x := by
 unfold rowE; rw [h]; rfl
end
section
variable {C : Cfg} {ops : Array Oper} {dst : Option Tmp} {ty : TypeId} {pos : String} {after : Array Edge} {l : List Oper} {T : List V} {S : zB} {F : Dfs} {Q : Post}
theorem zn2 {e : TypeId} : WpL C ops (⟨dst, .alloc e, ty, pos, after, none⟩ :: l) T S F Q = match zeroV C.P e with | some z => (if qB C.P e z = true then WpL C ops l (putT T dst (.ref S.length 0 0)) (S ++ [.row [z] e]) F Q else False) | none => False := by
 rw [vS rfl]
 simp only [opV]
 cases zeroV C.P e with
 | none => rfl
 | some z =>
  simp only
  split <;> rfl
theorem zvj {e : TypeId} {x : Operand} : WpL C ops (⟨dst, .box e x, ty, pos, after, none⟩ :: l) T S F Q = if qB C.P e (zE T x) = true then WpL C ops l (putT T dst (.ref S.length 0 0)) (S ++ [.row [zE T x] e]) F Q else False := by
 rw [vS rfl]
 simp only [opV]
 split <;> rfl
end
def zwr (P : Program) (S : zB) (t : TypeId) (id ix off : Nat) : Option V → Option V | some x => qT P t off (some x) | none => kF P S t (.ref id ix off)
def zk7 (P : Program) (S : zB) (t : TypeId) (id ix off : Nat) (v : V) : Option V → Option zB | some x => z3y S id ix (qM P t off v x) | none => vJ P S t (.ref id ix off) v
theorem zqv {P : Program} {S : zB} {t : TypeId} {id ix off : Nat} : kF P S t (.ref id ix off) = zwr P S t id ix off (rowE S id ix) := by
 cases h : rowE S id ix with
 | none => rfl
 | some x => exact zG h
theorem zji {P : Program} {S : zB} {t : TypeId} {id ix off : Nat} {v : V} : vJ P S t (.ref id ix off) v = zk7 P S t id ix off v (rowE S id ix) := by
 cases h : rowE S id ix with
 | none => rfl
 | some x => exact z1l h
theorem vmb :
 (∀ {x : V} {r : List V} {e : TypeId} {S : zB}, rowE (.row (x :: r) e :: S) 0 0 = some x) ∧
 (∀ {o : Ob} {S : zB} {i ix : Nat}, rowE (o :: S) (i + 1) ix = rowE S i ix) ∧
 (∀ {x y : V} {r : List V} {e : TypeId} {S : zB}, jQ (.row (x :: r) e :: S) 0 0 y = some (.row (y :: r) e :: S)) ∧
 (∀ {o : Ob} {S : zB} {i ix : Nat} {y : V}, jQ (o :: S) (i + 1) ix y = (jQ S i ix y).map fun S' => o :: S') ∧
 (∀ {S : zB} {id ix : Nat} {y : V}, z3y S id ix (some y) = jQ S id ix y) ∧
 (∀ {C : Cfg} {ops : Array Oper} {dst : Option Tmp} {ty : TypeId} {pos : String} {after : Array Edge} {l : List Oper} {T : List V} {S : zB} {F : Dfs} {Q : Post} {e : TypeId}, WpL C ops (⟨dst, .alloc e, ty, pos, after, none⟩ :: l) T S F Q = match zeroV C.P e with | some z => (if qB C.P e z = true then WpL C ops l (putT T dst (.ref S.length 0 0)) (S ++ [.row [z] e]) F Q else False) | none => False) ∧
 (∀ {C : Cfg} {ops : Array Oper} {dst : Option Tmp} {ty : TypeId} {pos : String} {after : Array Edge} {l : List Oper} {T : List V} {S : zB} {F : Dfs} {Q : Post} {e : TypeId} {x : Operand}, WpL C ops (⟨dst, .box e x, ty, pos, after, none⟩ :: l) T S F Q = if qB C.P e (zE T x) = true then WpL C ops l (putT T dst (.ref S.length 0 0)) (S ++ [.row [zE T x] e]) F Q else False) ∧
 (∀ {P : Program} {S : zB} {t : TypeId} {id ix off : Nat}, kF P S t (.ref id ix off) = zwr P S t id ix off (rowE S id ix)) ∧
 (∀ {P : Program} {S : zB} {t : TypeId} {id ix off : Nat} {v : V}, vJ P S t (.ref id ix off) v = zk7 P S t id ix off v (rowE S id ix)) ∧
 (∀ {P : Program} {S : zB} {t : TypeId} {id ix off : Nat} {x : V}, zwr P S t id ix off (some x) = qT P t off (some x)) ∧
 (∀ {P : Program} {S : zB} {t : TypeId} {id ix off : Nat} {v x : V}, zk7 P S t id ix off v (some x) = z3y S id ix (qM P t off v x)) ∧
 (∀ {α : Type}, ([] : List α).length = 0) ∧
 (∀ {α : Type} {a : α} {l : List α}, (a :: l).length = l.length + 1) :=
 ⟨rfl, zng, rfl, zfy, rfl, zn2, zvj, zqv, zji, rfl, rfl, rfl, rfl⟩
theorem zlh {a b : List UInt8} : z4r .eql a b = some (.bool (decide (a = b))) := by
 have : (a == b) = decide (a = b) := by rw [Bool.eq_iff_iff]; simp
 simp only [z4r, this]
theorem zmd {a b : List UInt8} : z4r .neq a b = some (.bool (decide (a ≠ b))) := by
 have : (!(a == b)) = decide (a ≠ b) := by rw [Bool.eq_iff_iff]; simp
 simp only [z4r, this]
theorem vmo :
 (∀ {P : Program} {S : zB} {T : List V} {dst : Option Tmp} {ty : TypeId} {pos : String} {after : Array Edge} {g : Option (Nat × Bool)} {x : Operand}, opV P S T ⟨dst, .move x, ty, pos, after, g⟩ = some (.val (zE T x) S 0)) ∧
 (∀ {P : Program} {S : zB} {T : List V} {dst : Option Tmp} {ty : TypeId} {pos : String} {after : Array Edge} {g : Option (Nat × Bool)} {x : Operand}, opV P S T ⟨dst, .assign x, ty, pos, after, g⟩ = some (.val (zE T x) S 0)) ∧
 (∀ {P : Program} {S : zB} {T : List V} {dst : Option Tmp} {ty : TypeId} {pos : String} {after : Array Edge} {g : Option (Nat × Bool)} {op : BinOp} {t u : TypeId} {x y : Operand}, opV P S T ⟨dst, .binOp op t x y u, ty, pos, after, g⟩ = (binV P op t (zE T x) (zE T y)).map fun v => .val v S 0) ∧
 (∀ {P : Program} {S : zB} {T : List V} {dst : Option Tmp} {ty : TypeId} {pos : String} {after : Array Edge} {g : Option (Nat × Bool)} {op : UnOp} {t : TypeId} {x : Operand}, opV P S T ⟨dst, .unOp op t x, ty, pos, after, g⟩ = (unV op (zE T x)).map fun v => .val v S 0) ∧
 (∀ {P : Program} {S : zB} {T : List V} {dst : Option Tmp} {ty : TypeId} {pos : String} {after : Array Edge} {g : Option (Nat × Bool)} {t : TypeId} {x y : Operand}, opV P S T ⟨dst, .indexAddr t x y, ty, pos, after, g⟩ = (zI P S t (zE T x) (zE T y)).map fun v => .val v S 1) ∧
 (∀ {P : Program} {S : zB} {T : List V} {dst : Option Tmp} {ty : TypeId} {pos : String} {after : Array Edge} {g : Option (Nat × Bool)} {t : TypeId} {x y : Operand}, opV P S T ⟨dst, .index t x y, ty, pos, after, g⟩ = (z2n P t (zE T x) (zE T y)).map fun v => .val v S 0) ∧
 (∀ {P : Program} {S : zB} {T : List V} {dst : Option Tmp} {ty : TypeId} {pos : String} {after : Array Edge} {g : Option (Nat × Bool)} {t : TypeId} {x : Operand} {f : Nat}, opV P S T ⟨dst, .fieldAddr t x f, ty, pos, after, g⟩ = (zT P t f (zE T x)).map fun v => .val v S 0) ∧
 (∀ {P : Program} {S : zB} {T : List V} {dst : Option Tmp} {ty : TypeId} {pos : String} {after : Array Edge} {g : Option (Nat × Bool)} {t : TypeId} {x : Operand} {f : Nat}, opV P S T ⟨dst, .field t x f, ty, pos, after, g⟩ = (z8u P t f (zE T x)).map fun v => .val v S 0) ∧
 (∀ {P : Program} {S : zB} {T : List V} {dst : Option Tmp} {ty : TypeId} {pos : String} {after : Array Edge} {g : Option (Nat × Bool)} {t : TypeId} {x : Operand}, opV P S T ⟨dst, .load t x, ty, pos, after, g⟩ = (kF P S t (zE T x)).map fun v => .val v S 1) ∧
 (∀ {P : Program} {S : zB} {T : List V} {dst : Option Tmp} {ty : TypeId} {pos : String} {after : Array Edge} {g : Option (Nat × Bool)} {t : TypeId} {x y : Operand}, opV P S T ⟨dst, .store t x y, ty, pos, after, g⟩ = (vJ P S t (zE T x) (zE T y)).map fun S' => .skip S' 3) ∧
 (∀ {P : Program} {S : zB} {T : List V} {dst : Option Tmp} {ty : TypeId} {pos : String} {after : Array Edge} {g : Option (Nat × Bool)} {t u : TypeId} {x : Operand}, opV P S T ⟨dst, .convert t u x, ty, pos, after, g⟩ = (qI P S t u (zE T x)).map fun r => .val r.1 S r.2) ∧
 (∀ {P : Program} {S : zB} {T : List V} {dst : Option Tmp} {ty : TypeId} {pos : String} {after : Array Edge} {g : Option (Nat × Bool)} {t : TypeId} {x : Operand} {lo hi : Option Operand}, opV P S T ⟨dst, .slice t x lo hi none, ty, pos, after, g⟩ = (wN P S t (zE T x) (lo.map (zE T)) (hi.map (zE T))).map fun v => .val v S 1) ∧
 (∀ {P : Program} {S : zB} {T : List V} {dst : Option Tmp} {ty : TypeId} {pos : String} {after : Array Edge} {g : Option (Nat × Bool)} {t : TypeId} {x k : Operand} {ok : Bool}, opV P S T ⟨dst, .lookup t x k ok, ty, pos, after, g⟩ = (wI P S t (zE T x) (zE T k) ok).map fun v => .val v S 1) ∧
 (∀ {P : Program} {S : zB} {T : List V} {dst : Option Tmp} {ty : TypeId} {pos : String} {after : Array Edge} {g : Option (Nat × Bool)} {b : Builtin} {args : Array Operand} {ts : Array TypeId}, opV P S T ⟨dst, .call { callee := .builtin b, args := args, argTypes := ts }, ty, pos, after, g⟩ = zO P S b ts.toList (args.toList.map (zE T))) ∧
 (∀ {P : Program} {S : zB} {T : List V} {dst : Option Tmp} {ty : TypeId} {pos : String} {after : Array Edge} {g : Option (Nat × Bool)} {t : TypeId} {ps : Array (Nat × Operand)}, opV P S T ⟨dst, .build t ps, ty, pos, after, g⟩ = (wY P t (ps.toList.map fun p => (p.1, zE T p.2))).map fun v => .val v S 0) ∧
 (∀ {P : Program} {S : zB} {T : List V} {dst : Option Tmp} {ty : TypeId} {pos : String} {after : Array Edge} {g : Option (Nat × Bool)} {x : Operand} {i : Nat}, opV P S T ⟨dst, .extract x i, ty, pos, after, g⟩ = match zE T x with | .tup vs => (match vs[i]? with | some v => some (.val v S 0) | none => none) | _ => none) ∧
 (∀ {P : Program} {S : zB} {T : List V} {dst : Option Tmp} {ty : TypeId} {pos : String} {after : Array Edge} {g : Option (Nat × Bool)} {c a b : Operand}, opV P S T ⟨dst, .pick c a b, ty, pos, after, g⟩ = match zE T c with | .d (.bool true) => some (.val (zE T a) S 0) | .d (.bool false) => some (.val (zE T b) S 0) | _ => none) ∧
 (∀ {P : Program} {S : zB} {T : List V} {dst : Option Tmp} {ty : TypeId} {pos : String} {after : Array Edge} {g : Option (Nat × Bool)} {h : FuncId} {args : Array Operand} {ts : Array TypeId}, opV P S T ⟨dst, .call { callee := .value (.func h), args := args, argTypes := ts }, ty, pos, after, g⟩ = if (args.toList.map (zE T)).all V.one && (zC P h).isSome then some (.enter h ([] ++ args.toList.map (zE T) ++ [])) else none) :=
 ⟨rfl, rfl, rfl, rfl, rfl, rfl, rfl, rfl, rfl, rfl, rfl, rfl, rfl, rfl, rfl, rfl, rfl, rfl⟩
def zwt (ops : Array Oper) (T : List V) : Option (Nat × Bool) → Option Bool
 | none => some true
 | some (j, want) => (qO ops T j).map (· == some want)
def zqz (T : List V) : Option Tmp → Option (Option Bool)
 | none => some none
 | some d => match T[d]? with
  | none => some none
  | some (.d (.bool b)) => some (some b)
  | some (.tup _) => some none
  | some _ => none
theorem vmg :
 (∀ {ops : Array Oper} {T : List V} {dst : Option Tmp} {op : Op} {ty : TypeId} {pos : String} {after : Array Edge} {g : Option (Nat × Bool)}, zY ops T ⟨dst, op, ty, pos, after, g⟩ = zwt ops T g) ∧
 (∀ {ops : Array Oper} {T : List V}, zwt ops T none = some true) ∧
 (∀ {ops : Array Oper} {T : List V} {j : Nat} {b : Bool}, zwt ops T (some (j, b)) = (qO ops T j).map (· == some b)) ∧
 (∀ {ops : Array Oper} {T : List V} {j : Nat}, qO ops T j = zqz T ((ops[j]?).bind (·.dst))) ∧
 (∀ {T : List V} {d : Tmp}, zqz T (some d) = match T[d]? with | none => some none | some (.d (.bool b)) => some (some b) | some (.tup _) => some none | some _ => none) ∧
 (∀ {a : V} {l : List V}, (a :: l)[0]? = some a) ∧
 (∀ {a : V} {l : List V} {n : Nat}, (a :: l)[n + 1]? = l[n]?) ∧
 (∀ {a : Oper} {l : List Oper}, ((a :: l).toArray)[0]? = some a) ∧
 (∀ {a : Oper} {l : List Oper} {n : Nat}, ((a :: l).toArray)[n + 1]? = (l.toArray)[n]?) ∧
 (∀ {α β : Type} {a : α} {f : α → Option β}, (some a).bind f = f a) ∧
 (∀ {b : Bool}, (some b == some true) = b) ∧
 (∀ {b : Bool}, (some b == some false) = !b) ∧
 (((none : Option Bool) == some true) = false) ∧
 (((none : Option Bool) == some false) = false) :=
 ⟨rfl, rfl, rfl, rfl, rfl, rfl, rfl, by simp, by simp, rfl, by intro b; cases b <;> rfl, by intro b; cases b <;> rfl, rfl, rfl⟩
theorem vmk :
 (∀ {dst : Option Tmp} {ty : TypeId} {pos : String} {after : Array Edge} {g : Option (Nat × Bool)} {x : Operand}, jV ⟨dst, .move x, ty, pos, after, g⟩ = false) ∧
 (∀ {dst : Option Tmp} {ty : TypeId} {pos : String} {after : Array Edge} {g : Option (Nat × Bool)} {x : Operand}, jV ⟨dst, .assign x, ty, pos, after, g⟩ = false) ∧
 (∀ {dst : Option Tmp} {ty : TypeId} {pos : String} {after : Array Edge} {g : Option (Nat × Bool)} {op : BinOp} {t u : TypeId} {x y : Operand}, jV ⟨dst, .binOp op t x y u, ty, pos, after, g⟩ = false) ∧
 (∀ {dst : Option Tmp} {ty : TypeId} {pos : String} {after : Array Edge} {g : Option (Nat × Bool)} {op : UnOp} {t : TypeId} {x : Operand}, jV ⟨dst, .unOp op t x, ty, pos, after, g⟩ = false) ∧
 (∀ {dst : Option Tmp} {ty : TypeId} {pos : String} {after : Array Edge} {g : Option (Nat × Bool)} {t : TypeId} {x y : Operand}, jV ⟨dst, .indexAddr t x y, ty, pos, after, g⟩ = false) ∧
 (∀ {dst : Option Tmp} {ty : TypeId} {pos : String} {after : Array Edge} {g : Option (Nat × Bool)} {t : TypeId} {x y : Operand}, jV ⟨dst, .index t x y, ty, pos, after, g⟩ = false) ∧
 (∀ {dst : Option Tmp} {ty : TypeId} {pos : String} {after : Array Edge} {g : Option (Nat × Bool)} {t : TypeId} {x : Operand} {f : Nat}, jV ⟨dst, .fieldAddr t x f, ty, pos, after, g⟩ = false) ∧
 (∀ {dst : Option Tmp} {ty : TypeId} {pos : String} {after : Array Edge} {g : Option (Nat × Bool)} {t : TypeId} {x : Operand} {f : Nat}, jV ⟨dst, .field t x f, ty, pos, after, g⟩ = false) ∧
 (∀ {dst : Option Tmp} {ty : TypeId} {pos : String} {after : Array Edge} {g : Option (Nat × Bool)} {t : TypeId} {x : Operand}, jV ⟨dst, .load t x, ty, pos, after, g⟩ = false) ∧
 (∀ {dst : Option Tmp} {ty : TypeId} {pos : String} {after : Array Edge} {g : Option (Nat × Bool)} {t : TypeId} {x y : Operand}, jV ⟨dst, .store t x y, ty, pos, after, g⟩ = false) ∧
 (∀ {dst : Option Tmp} {ty : TypeId} {pos : String} {after : Array Edge} {g : Option (Nat × Bool)} {t u : TypeId} {x : Operand}, jV ⟨dst, .convert t u x, ty, pos, after, g⟩ = false) ∧
 (∀ {dst : Option Tmp} {ty : TypeId} {pos : String} {after : Array Edge} {g : Option (Nat × Bool)} {t : TypeId} {x : Operand} {lo hi m : Option Operand}, jV ⟨dst, .slice t x lo hi m, ty, pos, after, g⟩ = false) ∧
 (∀ {dst : Option Tmp} {ty : TypeId} {pos : String} {after : Array Edge} {g : Option (Nat × Bool)} {t : TypeId} {x k : Operand} {ok : Bool}, jV ⟨dst, .lookup t x k ok, ty, pos, after, g⟩ = false) ∧
 (∀ {dst : Option Tmp} {ty : TypeId} {pos : String} {after : Array Edge} {g : Option (Nat × Bool)} {c : Call}, jV ⟨dst, .call c, ty, pos, after, g⟩ = false) ∧
 (∀ {dst : Option Tmp} {ty : TypeId} {pos : String} {after : Array Edge} {g : Option (Nat × Bool)} {t : TypeId} {ps : Array (Nat × Operand)}, jV ⟨dst, .build t ps, ty, pos, after, g⟩ = false) ∧
 (∀ {dst : Option Tmp} {ty : TypeId} {pos : String} {after : Array Edge} {g : Option (Nat × Bool)} {t : TypeId} {n : Nat} {ps : Array (Nat × Operand)}, jV ⟨dst, .buildSlice t n ps, ty, pos, after, g⟩ = false) ∧
 (∀ {dst : Option Tmp} {ty : TypeId} {pos : String} {after : Array Edge} {g : Option (Nat × Bool)} {x : Operand} {i : Nat}, jV ⟨dst, .extract x i, ty, pos, after, g⟩ = false) ∧
 (∀ {dst : Option Tmp} {ty : TypeId} {pos : String} {after : Array Edge} {g : Option (Nat × Bool)} {c a b : Operand}, jV ⟨dst, .pick c a b, ty, pos, after, g⟩ = false) ∧
 (∀ {dst : Option Tmp} {ty : TypeId} {pos : String} {after : Array Edge} {g : Option (Nat × Bool)} {x : Operand}, jV ⟨dst, .nilCheck x, ty, pos, after, g⟩ = false) ∧
 (∀ {dst : Option Tmp} {ty : TypeId} {pos : String} {after : Array Edge} {g : Option (Nat × Bool)} {t : TypeId} {m k v : Operand}, jV ⟨dst, .mapUpdate t m k v, ty, pos, after, g⟩ = false) ∧
 (∀ {dst : Option Tmp} {ty : TypeId} {pos : String} {after : Array Edge} {g : Option (Nat × Bool)} {e : TypeId}, jV ⟨dst, .alloc e, ty, pos, after, g⟩ = true) ∧
 (∀ {dst : Option Tmp} {ty : TypeId} {pos : String} {after : Array Edge} {g : Option (Nat × Bool)} {e : TypeId} {x : Operand}, jV ⟨dst, .box e x, ty, pos, after, g⟩ = true) :=
 ⟨rfl, rfl, rfl, rfl, rfl, rfl, rfl, rfl, rfl, rfl, rfl, rfl, rfl, rfl, rfl, rfl, rfl, rfl, rfl, rfl, rfl, rfl⟩
section
variable {C : Cfg} {ops : Array Oper} {base : Nat} {F : Dfs} {Q : Post}
def WpX (C : Cfg) (ops : Array Oper) (base : Nat) (F : Dfs) (Q : Post) (rd : List Nat) (cs : List (Nat × Nat)) (i : Nat) (is : List Nat) (T : List V) (S : zB) (o : Oper) : Bool → Prop
 | true => WpA base (fun cs T S => WpD C ops base F Q rd cs is T S) cs i o.dst T S (addO C.P T o)
 | false => WpE C ops F Q (fun rd cs T S => WpD C ops base F Q rd cs is T S) rd cs i o.dst T S (opV C.P S T o)
def WpO (C : Cfg) (ops : Array Oper) (base : Nat) (F : Dfs) (Q : Post) (rd : List Nat) (cs : List (Nat × Nat)) (i : Nat) (is : List Nat) (T : List V) (S : zB) (o : Oper) : Option Bool → Prop
 | none => False
 | some false => WpD C ops base F Q rd (cs ++ [(i, 0)]) is (putT T o.dst (.tup [])) S
 | some true => WpX C ops base F Q rd cs i is T S o (jV o)
def WpI (C : Cfg) (ops : Array Oper) (base : Nat) (F : Dfs) (Q : Post) (rd : List Nat) (cs : List (Nat × Nat)) (i : Nat) (is : List Nat) (T : List V) (S : zB) : Option Oper → Prop
 | none => False
 | some o => WpO C ops base F Q rd cs i is T S o (zY ops T o)
theorem zym {rd : List Nat} {cs : List (Nat × Nat)} {i : Nat} {is : List Nat} {T : List V} {S : zB} : WpD C ops base F Q rd cs (i :: is) T S = WpI C ops base F Q rd cs i is T S (ops[i]?) := by
 rw [ztp]
 unfold WpI WpO
 cases ops[i]? with
 | none => rfl
 | some o =>
  simp only
  cases zY ops T o with
  | none => rfl
  | some b =>
   cases b with
   | false => rfl
   | true => cases jV o <;> rfl
theorem vmd :
 (∀ {C : Cfg} {ops : Array Oper} {base : Nat} {F : Dfs} {Q : Post} {rd : List Nat} {cs : List (Nat × Nat)} {T : List V} {S : zB}, WpD C ops base F Q rd cs [] T S = (z2l ops cs = true ∧ Q .norm T S F)) ∧
 (∀ {C : Cfg} {ops : Array Oper} {base : Nat} {F : Dfs} {Q : Post} {rd : List Nat} {cs : List (Nat × Nat)} {i : Nat} {is : List Nat} {T : List V} {S : zB}, WpD C ops base F Q rd cs (i :: is) T S = WpI C ops base F Q rd cs i is T S (ops[i]?)) ∧
 (∀ {C : Cfg} {ops : Array Oper} {base : Nat} {F : Dfs} {Q : Post} {rd : List Nat} {cs : List (Nat × Nat)} {i : Nat} {is : List Nat} {T : List V} {S : zB} {o : Oper}, WpI C ops base F Q rd cs i is T S (some o) = WpO C ops base F Q rd cs i is T S o (zY ops T o)) ∧
 (∀ {C : Cfg} {ops : Array Oper} {base : Nat} {F : Dfs} {Q : Post} {rd : List Nat} {cs : List (Nat × Nat)} {i : Nat} {is : List Nat} {T : List V} {S : zB} {o : Oper}, WpO C ops base F Q rd cs i is T S o (some false) = WpD C ops base F Q rd (cs ++ [(i, 0)]) is (putT T o.dst (.tup [])) S) ∧
 (∀ {C : Cfg} {ops : Array Oper} {base : Nat} {F : Dfs} {Q : Post} {rd : List Nat} {cs : List (Nat × Nat)} {i : Nat} {is : List Nat} {T : List V} {S : zB} {o : Oper}, WpO C ops base F Q rd cs i is T S o (some true) = WpX C ops base F Q rd cs i is T S o (jV o)) ∧
 (∀ {C : Cfg} {ops : Array Oper} {base : Nat} {F : Dfs} {Q : Post} {rd : List Nat} {cs : List (Nat × Nat)} {i : Nat} {is : List Nat} {T : List V} {S : zB} {o : Oper}, WpX C ops base F Q rd cs i is T S o false = WpE C ops F Q (fun rd cs T S => WpD C ops base F Q rd cs is T S) rd cs i o.dst T S (opV C.P S T o)) ∧
 (∀ {C : Cfg} {ops : Array Oper} {base : Nat} {F : Dfs} {Q : Post} {rd : List Nat} {cs : List (Nat × Nat)} {i : Nat} {is : List Nat} {T : List V} {S : zB} {o : Oper}, WpX C ops base F Q rd cs i is T S o true = WpA base (fun cs T S => WpD C ops base F Q rd cs is T S) cs i o.dst T S (addO C.P T o)) ∧
 (∀ {C : Cfg} {ops : Array Oper} {F : Dfs} {Q : Post} {K : List Nat → List (Nat × Nat) → List V → zB → Prop} {rd : List Nat} {cs : List (Nat × Nat)} {i : Nat} {dst : Option Tmp} {T : List V} {S S' : zB} {v : V}, WpE C ops F Q K rd cs i dst T S (some (.val v S' 0)) = K rd (cs ++ [(i, 0)]) (putT T dst v) S') ∧
 (∀ {C : Cfg} {ops : Array Oper} {F : Dfs} {Q : Post} {K : List Nat → List (Nat × Nat) → List V → zB → Prop} {rd : List Nat} {cs : List (Nat × Nat)} {i : Nat} {dst : Option Tmp} {T : List V} {S S' : zB} {v : V}, WpE C ops F Q K rd cs i dst T S (some (.val v S' 1)) = K (i :: rd) (cs ++ [(i, 1)]) (putT T dst v) S') ∧
 (∀ {C : Cfg} {ops : Array Oper} {F : Dfs} {Q : Post} {K : List Nat → List (Nat × Nat) → List V → zB → Prop} {rd : List Nat} {cs : List (Nat × Nat)} {i : Nat} {dst : Option Tmp} {T : List V} {S S' : zB} {c : Nat}, WpE C ops F Q K rd cs i dst T S (some (.skip S' c)) = (z3z ops rd i 3 ∧ K rd (cs ++ [(i, 3)]) (putT T dst (.tup [])) S')) ∧
 (num2 0 = 0) ∧ (num2 1 = 1) ∧ (num2 2 = 3) ∧ (num2 3 = 3) ∧
 (∀ {α : Type} {l l' : List α} {a : α}, (a :: l) ++ l' = a :: (l ++ l')) :=
 ⟨rfl, zym, rfl, rfl, rfl, rfl, rfl, by intros; simp [WpE, z3z, num2], by intros; simp [WpE, z3z, num2], rfl, rfl, rfl, rfl, rfl, rfl⟩
end
section
variable {C : Cfg} {S : zB}
theorem zgj {n : Nat} : ∀ l : List D, (l.map V.d).flatMap (frzIds S n) = []
 | [] => rfl
 | x :: r => by
  rw [List.map_cons, List.flatMap_cons, zgj r]
  cases n <;> rfl
def RowD (S : zB) (i : Nat) : Prop := ∃ (xs : List D) (e : TypeId), S[i]? = some (.row (xs.map .d) e)
theorem q23 {e : TypeId} {v : V} {ds : List D} {n : Nat} (h : OwnS S v e (ds.map .d)) : ∀ i ∈ frzIds S (n + 1) v, RowD S i := by
 rcases h with ⟨rfl, _⟩ | ⟨id, rfl, h1⟩
 ·intro i hi
  simp [frzIds] at hi
 ·intro i hi
  have e1 : frzIds S (n + 1) (.rs id 0 (ds.map V.d).length) = (match S[id]? with | some (.row xs e) => id :: xs.flatMap (frzIds S n) | _ => []) := rfl
  rw [e1, h1] at hi
  simp only [zgj, List.mem_singleton] at hi
  subst hi
  exact ⟨ds, e, h1⟩
theorem zbo {e : TypeId} {v : V} {ds : List D} {n : Nat} (ho : OwnS S v e (ds.map .d)) : frz S (n + 2) v = some (.sl ds) := by
 rcases ho with ⟨rfl, h⟩ | ⟨id, rfl, h1⟩
 ·have : ds = [] := by simpa using h
  subst this; rfl
 ·simp only [List.length_map]
  show (match S[id]? with
   | some (.row xs e) => if 0 + ds.length ≤ xs.length && (allO (frz S (n + 1)) xs).isSome then (allO (frz S (n + 1)) ((xs.drop 0).take ds.length)).map D.sl else none
   | some (.fz xs e) => if 0 + ds.length ≤ xs.length then some (D.sl ((xs.drop 0).take ds.length)) else none
   | _ => none) = _
  have h2 : ((ds.map V.d).drop 0).take ds.length = ds.map V.d := by rw [List.drop_zero, List.take_of_length_le (by simp)]
  simp only [h1, h2, zgu, List.length_map, Option.isSome_some, Bool.and_true, Option.map_some]
  simp
theorem kW {ops : Array Oper} {dst : Option Tmp} {l : List Oper} {T : List V} {F : Dfs} {Q : Post} {f : FuncId} {args : List V} {ds : List D} {v : V} (hs : C.shared f = false) (hf : allO (frz S zJ) args = some ds) (hi : (args.flatMap (frzIds S zJ)).isEmpty = true) (he : Ev C f ds (.ret v)) :
  WpR C ops dst l T S F Q (some (.enter f args)) = WpL C ops l (putT T dst v) S F Q := by
 obtain ⟨n, hn⟩ := he
 have hn' : answer C (run C n) f ds = some (.ret v) := hn
 have hc : jU C (run C n) f args S = some (.ret v, S, 1) := by
  unfold jU
  simp only [hs, Bool.false_eq_true, if_false, hf, hn', hi, if_true]
 apply propext
 constructor
 ·rintro ⟨m, o, S', c, h1, h2⟩
  have := wR h1 hc
  simp only [Prod.mk.injEq] at this
  obtain ⟨rfl, rfl, rfl⟩ := this
  exact h2
 ·exact fun h => ⟨n, _, _, _, hc, h⟩
end
theorem qJ {S : zB} {id : Nat} {x y : V} {e : TypeId} (h : S[id]? = some (.row [x] e)) : jQ S id 0 y = some (S.set id (.row [y] e)) := by
 unfold jQ; rw [h]; rfl
theorem zmc {S : zB} {id : Nat} {o o' : Ob} (h : S[id]? = some o) : (S.set id o')[id]? = some o' := by
 have := zQ h
 simp [this]
theorem zwh {P : Program} {t : TypeId} {s : List UInt8} {i : Nat} (hu : P.underlying t = some .string) (h : i < s.length) : z2n P t (.d (.str s)) (.d (.int .i64 i)) = some (.d (.int .u8 s[i].toNat)) := by
 have h0 : (0 : Int) ≤ i := by omega
 simp only [z2n, intOf?, hu, h0, if_true, Int.toNat_natCast, List.getElem?_eq_getElem h]
end Go.Vm
end
section
namespace Go.Vm
open Go
theorem zol {n d : Nat} {i : Int} (h0 : 0 ≤ i) (h1 : i.toNat ≤ n) : kC n (some (.d (.int .i64 i))) d = some i.toNat := by
 have h2 : i ≤ n := by omega
 simp only [kC, intOf?, h0, h2, if_true, and_self]
theorem zc1 {n d : Nat} : kC n none d = some d := rfl
theorem zbb {l : List UInt8} : zml ⟨l.toArray⟩ = l := rfl
section
variable {C : Cfg} {S : zB} {T : List V} {dst : Option Tmp} {ops : Array Oper} {F : Dfs} {Q : Post} {K : List Nat → List (Nat × Nat) → List V → zB → Prop} {rd : List Nat} {cs : List (Nat × Nat)} {i : Nat}
theorem zcd {f : FuncId} {args : List V} {ds : List D} {v : V} (hs : C.shared f = false) (hf : allO (frz S zJ) args = some ds) (hi : (args.flatMap (frzIds S zJ)).isEmpty = true) (he : Ev C f ds (.ret v)) :
  WpE C ops F Q K rd cs i dst T S (some (.enter f args)) = K (i :: rd) (cs ++ [(i, 1)]) (putT T dst v) S := by
 obtain ⟨n, hn⟩ := he
 have hn' : answer C (run C n) f ds = some (.ret v) := hn
 have hc : jU C (run C n) f args S = some (.ret v, S, 1) := by
  unfold jU
  simp only [hs, Bool.false_eq_true, if_false, hf, hn', hi, if_true]
 apply propext
 constructor
 ·rintro ⟨m, v', S', c, h1, h2, h3⟩
  have := wR h1 hc
  simp only [Prod.mk.injEq] at this
  obtain ⟨h4, rfl, rfl⟩ := this
  cases h4
  exact h3
 ·exact fun h => ⟨n, _, _, _, hc, fun h => absurd h (by decide), h⟩
theorem z59 {f : FuncId} {ds : List D} {v : V} (hs : C.shared f = false) (he : Ev C f ds (.ret v)) :
  WpE C ops F Q K rd cs i dst T S (some (.enter f (ds.map .d))) = K (i :: rd) (cs ++ [(i, 1)]) (putT T dst v) S := by
 have hfz : ∀ ds : List D, allO (frz S zJ) (ds.map V.d) = some ds := by
  intro ds
  induction ds with
  | nil => rfl
  | cons x r ih => simp only [List.map_cons, allO, ih, zrs]
 have hid : ∀ ds : List D, ((ds.map V.d).flatMap (frzIds S zJ)).isEmpty = true := by
  intro ds
  induction ds with
  | nil => rfl
  | cons x r ih => simp only [List.map_cons, List.flatMap_cons, zbx, List.nil_append]; exact ih
 exact zcd hs (hfz ds) (hid ds) he
end
end Go.Vm
end
section
namespace Go.Vm
theorem vgd :
 (∀ {a x : V} {r : List V}, (a :: r).getD 0 x = a) ∧
 (∀ {a b x : V} {r : List V}, (a :: b :: r).getD 1 x = b) ∧
 (∀ {a b c x : V} {r : List V}, (a :: b :: c :: r).getD 2 x = c) ∧
 (∀ {a b c d x : V} {r : List V}, (a :: b :: c :: d :: r).getD 3 x = d) ∧
 (∀ {a b c d e x : V} {r : List V}, (a :: b :: c :: d :: e :: r).getD 4 x = e) ∧
 (∀ {a b c d e f x : V} {r : List V}, (a :: b :: c :: d :: e :: f :: r).getD 5 x = f) ∧
 (∀ {a b c d e f g x : V} {r : List V}, (a :: b :: c :: d :: e :: f :: g :: r).getD 6 x = g) ∧
 (∀ {a b c d e f g h x : V} {r : List V}, (a :: b :: c :: d :: e :: f :: g :: h :: r).getD 7 x = h) ∧
 (∀ {a b c d e f g h x : V} {r : List V} {n : Nat}, (a :: b :: c :: d :: e :: f :: g :: h :: r).getD (n + 8) x = r.getD n x) ∧
 (∀ {a b c d e f g h a1 b1 c1 d1 e1 f1 g1 h1 x : V} {r : List V} {n : Nat}, (a :: b :: c :: d :: e :: f :: g :: h :: a1 :: b1 :: c1 :: d1 :: e1 :: f1 :: g1 :: h1 :: r).getD (n + 16) x = r.getD n x) ∧
 (∀ {a b c d e f g h a1 b1 c1 d1 e1 f1 g1 h1 a2 b2 c2 d2 e2 f2 g2 h2 a3 b3 c3 d3 e3 f3 g3 h3 x : V} {r : List V} {n : Nat}, (a :: b :: c :: d :: e :: f :: g :: h :: a1 :: b1 :: c1 :: d1 :: e1 :: f1 :: g1 :: h1 :: a2 :: b2 :: c2 :: d2 :: e2 :: f2 :: g2 :: h2 :: a3 :: b3 :: c3 :: d3 :: e3 :: f3 :: g3 :: h3 :: r).getD (n + 32) x = r.getD n x) ∧
 (∀ {a b c d e f g h a1 b1 c1 d1 e1 f1 g1 h1 a2 b2 c2 d2 e2 f2 g2 h2 a3 b3 c3 d3 e3 f3 g3 h3 a4 b4 c4 d4 e4 f4 g4 h4 a5 b5 c5 d5 e5 f5 g5 h5 a6 b6 c6 d6 e6 f6 g6 h6 a7 b7 c7 d7 e7 f7 g7 h7 x : V} {r : List V} {n : Nat}, (a :: b :: c :: d :: e :: f :: g :: h :: a1 :: b1 :: c1 :: d1 :: e1 :: f1 :: g1 :: h1 :: a2 :: b2 :: c2 :: d2 :: e2 :: f2 :: g2 :: h2 :: a3 :: b3 :: c3 :: d3 :: e3 :: f3 :: g3 :: h3 :: a4 :: b4 :: c4 :: d4 :: e4 :: f4 :: g4 :: h4 :: a5 :: b5 :: c5 :: d5 :: e5 :: f5 :: g5 :: h5 :: a6 :: b6 :: c6 :: d6 :: e6 :: f6 :: g6 :: h6 :: a7 :: b7 :: c7 :: d7 :: e7 :: f7 :: g7 :: h7 :: r).getD (n + 64) x = r.getD n x) :=
 ⟨rfl, rfl, rfl, rfl, rfl, rfl, rfl, rfl, rfl, rfl, rfl, rfl⟩
theorem vst :
 (∀ {a x : V} {r : List V}, (a :: r).set 0 x = x :: r) ∧
 (∀ {a b x : V} {r : List V}, (a :: b :: r).set 1 x = a :: x :: r) ∧
 (∀ {a b c x : V} {r : List V}, (a :: b :: c :: r).set 2 x = a :: b :: x :: r) ∧
 (∀ {a b c d x : V} {r : List V}, (a :: b :: c :: d :: r).set 3 x = a :: b :: c :: x :: r) ∧
 (∀ {a b c d e x : V} {r : List V}, (a :: b :: c :: d :: e :: r).set 4 x = a :: b :: c :: d :: x :: r) ∧
 (∀ {a b c d e f x : V} {r : List V}, (a :: b :: c :: d :: e :: f :: r).set 5 x = a :: b :: c :: d :: e :: x :: r) ∧
 (∀ {a b c d e f g x : V} {r : List V}, (a :: b :: c :: d :: e :: f :: g :: r).set 6 x = a :: b :: c :: d :: e :: f :: x :: r) ∧
 (∀ {a b c d e f g h x : V} {r : List V}, (a :: b :: c :: d :: e :: f :: g :: h :: r).set 7 x = a :: b :: c :: d :: e :: f :: g :: x :: r) ∧
 (∀ {a b c d e f g h x : V} {r : List V} {n : Nat}, (a :: b :: c :: d :: e :: f :: g :: h :: r).set (n + 8) x = a :: b :: c :: d :: e :: f :: g :: h :: r.set n x) ∧
 (∀ {a b c d e f g h a1 b1 c1 d1 e1 f1 g1 h1 x : V} {r : List V} {n : Nat}, (a :: b :: c :: d :: e :: f :: g :: h :: a1 :: b1 :: c1 :: d1 :: e1 :: f1 :: g1 :: h1 :: r).set (n + 16) x = a :: b :: c :: d :: e :: f :: g :: h :: a1 :: b1 :: c1 :: d1 :: e1 :: f1 :: g1 :: h1 :: r.set n x) ∧
 (∀ {a b c d e f g h a1 b1 c1 d1 e1 f1 g1 h1 a2 b2 c2 d2 e2 f2 g2 h2 a3 b3 c3 d3 e3 f3 g3 h3 x : V} {r : List V} {n : Nat}, (a :: b :: c :: d :: e :: f :: g :: h :: a1 :: b1 :: c1 :: d1 :: e1 :: f1 :: g1 :: h1 :: a2 :: b2 :: c2 :: d2 :: e2 :: f2 :: g2 :: h2 :: a3 :: b3 :: c3 :: d3 :: e3 :: f3 :: g3 :: h3 :: r).set (n + 32) x = a :: b :: c :: d :: e :: f :: g :: h :: a1 :: b1 :: c1 :: d1 :: e1 :: f1 :: g1 :: h1 :: a2 :: b2 :: c2 :: d2 :: e2 :: f2 :: g2 :: h2 :: a3 :: b3 :: c3 :: d3 :: e3 :: f3 :: g3 :: h3 :: r.set n x) ∧
 (∀ {a b c d e f g h a1 b1 c1 d1 e1 f1 g1 h1 a2 b2 c2 d2 e2 f2 g2 h2 a3 b3 c3 d3 e3 f3 g3 h3 a4 b4 c4 d4 e4 f4 g4 h4 a5 b5 c5 d5 e5 f5 g5 h5 a6 b6 c6 d6 e6 f6 g6 h6 a7 b7 c7 d7 e7 f7 g7 h7 x : V} {r : List V} {n : Nat}, (a :: b :: c :: d :: e :: f :: g :: h :: a1 :: b1 :: c1 :: d1 :: e1 :: f1 :: g1 :: h1 :: a2 :: b2 :: c2 :: d2 :: e2 :: f2 :: g2 :: h2 :: a3 :: b3 :: c3 :: d3 :: e3 :: f3 :: g3 :: h3 :: a4 :: b4 :: c4 :: d4 :: e4 :: f4 :: g4 :: h4 :: a5 :: b5 :: c5 :: d5 :: e5 :: f5 :: g5 :: h5 :: a6 :: b6 :: c6 :: d6 :: e6 :: f6 :: g6 :: h6 :: a7 :: b7 :: c7 :: d7 :: e7 :: f7 :: g7 :: h7 :: r).set (n + 64) x = a :: b :: c :: d :: e :: f :: g :: h :: a1 :: b1 :: c1 :: d1 :: e1 :: f1 :: g1 :: h1 :: a2 :: b2 :: c2 :: d2 :: e2 :: f2 :: g2 :: h2 :: a3 :: b3 :: c3 :: d3 :: e3 :: f3 :: g3 :: h3 :: a4 :: b4 :: c4 :: d4 :: e4 :: f4 :: g4 :: h4 :: a5 :: b5 :: c5 :: d5 :: e5 :: f5 :: g5 :: h5 :: a6 :: b6 :: c6 :: d6 :: e6 :: f6 :: g6 :: h6 :: a7 :: b7 :: c7 :: d7 :: e7 :: f7 :: g7 :: h7 :: r.set n x) :=
 ⟨rfl, rfl, rfl, rfl, rfl, rfl, rfl, rfl, rfl, rfl, rfl, rfl⟩
theorem vix :
 (∀ {a : V} {r : List V}, (a :: r)[0]? = some a) ∧
 (∀ {a b : V} {r : List V}, (a :: b :: r)[1]? = some b) ∧
 (∀ {a b c : V} {r : List V}, (a :: b :: c :: r)[2]? = some c) ∧
 (∀ {a b c d : V} {r : List V}, (a :: b :: c :: d :: r)[3]? = some d) ∧
 (∀ {a b c d e : V} {r : List V}, (a :: b :: c :: d :: e :: r)[4]? = some e) ∧
 (∀ {a b c d e f : V} {r : List V}, (a :: b :: c :: d :: e :: f :: r)[5]? = some f) ∧
 (∀ {a b c d e f g : V} {r : List V}, (a :: b :: c :: d :: e :: f :: g :: r)[6]? = some g) ∧
 (∀ {a b c d e f g h : V} {r : List V}, (a :: b :: c :: d :: e :: f :: g :: h :: r)[7]? = some h) ∧
 (∀ {a b c d e f g h : V} {r : List V} {n : Nat}, (a :: b :: c :: d :: e :: f :: g :: h :: r)[n + 8]? = r[n]?) ∧
 (∀ {a b c d e f g h a1 b1 c1 d1 e1 f1 g1 h1 : V} {r : List V} {n : Nat}, (a :: b :: c :: d :: e :: f :: g :: h :: a1 :: b1 :: c1 :: d1 :: e1 :: f1 :: g1 :: h1 :: r)[n + 16]? = r[n]?) ∧
 (∀ {a b c d e f g h a1 b1 c1 d1 e1 f1 g1 h1 a2 b2 c2 d2 e2 f2 g2 h2 a3 b3 c3 d3 e3 f3 g3 h3 : V} {r : List V} {n : Nat}, (a :: b :: c :: d :: e :: f :: g :: h :: a1 :: b1 :: c1 :: d1 :: e1 :: f1 :: g1 :: h1 :: a2 :: b2 :: c2 :: d2 :: e2 :: f2 :: g2 :: h2 :: a3 :: b3 :: c3 :: d3 :: e3 :: f3 :: g3 :: h3 :: r)[n + 32]? = r[n]?) ∧
 (∀ {a b c d e f g h a1 b1 c1 d1 e1 f1 g1 h1 a2 b2 c2 d2 e2 f2 g2 h2 a3 b3 c3 d3 e3 f3 g3 h3 a4 b4 c4 d4 e4 f4 g4 h4 a5 b5 c5 d5 e5 f5 g5 h5 a6 b6 c6 d6 e6 f6 g6 h6 a7 b7 c7 d7 e7 f7 g7 h7 : V} {r : List V} {n : Nat}, (a :: b :: c :: d :: e :: f :: g :: h :: a1 :: b1 :: c1 :: d1 :: e1 :: f1 :: g1 :: h1 :: a2 :: b2 :: c2 :: d2 :: e2 :: f2 :: g2 :: h2 :: a3 :: b3 :: c3 :: d3 :: e3 :: f3 :: g3 :: h3 :: a4 :: b4 :: c4 :: d4 :: e4 :: f4 :: g4 :: h4 :: a5 :: b5 :: c5 :: d5 :: e5 :: f5 :: g5 :: h5 :: a6 :: b6 :: c6 :: d6 :: e6 :: f6 :: g6 :: h6 :: a7 :: b7 :: c7 :: d7 :: e7 :: f7 :: g7 :: h7 :: r)[n + 64]? = r[n]?) :=
 ⟨rfl, rfl, rfl, rfl, rfl, rfl, rfl, rfl, rfl, rfl, rfl, rfl⟩
end Go.Vm
end
section
namespace Go.Vm
open Go
theorem vso :
 (∀ {a : Ob} {l : zB}, (a :: l)[0]? = some a) ∧
 (∀ {a : Ob} {l : zB} {n : Nat}, (a :: l)[n + 1]? = l[n]?) ∧
 (∀ {a b : Ob} {l : zB}, (a :: l).set 0 b = b :: l) ∧
 (∀ {a b : Ob} {l : zB} {n : Nat}, (a :: l).set (n + 1) b = a :: l.set n b) ∧
 (∀ {n : Nat}, List.replicate (n + 1) Ob.hole = .hole :: List.replicate n .hole) ∧
 (List.replicate 0 Ob.hole = []) :=
 ⟨rfl, rfl, rfl, rfl, rfl, rfl⟩
def mkO (P : Program) (e : TypeId) (z : V) : V → V → Option (Ob × (Nat → V))
 | .d (.int .i64 l), .d (.int .i64 c) => if 0 ≤ l ∧ l ≤ c ∧ c ≤ 9223372036854775807 then if room P e c.toNat && qB P e z then
     some (.row (List.replicate c.toNat z) e, fun id => .rs id 0 l.toNat) else none else none
 | _, _ => none
theorem q2d {P : Program} {e : TypeId} {z : V} {n : Int} (hr : room P e n.toNat = true) (hf : qB P e z = true) (h0 : 0 ≤ n) (h1 : n ≤ 1000000) : mkO P e z (.d (.int .i64 n)) (.d (.int .i64 n)) = some (.row (List.replicate n.toNat z) e, fun id => .rs id 0 n.toNat) := by
 simp only [mkO]
 rw [if_pos ⟨h0, Int.le_refl _, by omega⟩, if_pos (by rw [hr, hf]; rfl)]
section
variable {C : Cfg} {S : zB} {T : List V} {dst : Option Tmp} {ops : Array Oper} {F : Dfs} {Q : Post} {K : List Nat → List (Nat × Nat) → List V → zB → Prop} {rd : List Nat} {cs : List (Nat × Nat)} {i : Nat}
theorem z6g {base : Nat} {K : List (Nat × Nat) → List V → zB → Prop} {ob : Ob} {f : Nat → V} : WpA base K cs i dst T S (some (ob, f)) = (S[base + i]? = some .hole ∧ K (cs ++ [(i, 2)]) (putT T dst (f (base + i))) (S.set (base + i) ob)) := rfl
theorem zv4 {ty : TypeId} {pos : String} {after : Array Edge} {g : Option (Nat × Bool)} {t : TypeId} {l c : Operand} : jV ⟨dst, .makeSlice t l c, ty, pos, after, g⟩ = true := rfl
theorem zub {P : Program} {ty : TypeId} {pos : String} {after : Array Edge} {g : Option (Nat × Bool)} {t e : TypeId} {l c : Operand} {z : V} (hu : P.underlying t = some (.slice e)) (hz : zeroV P e = some z) : addO P T ⟨dst, .makeSlice t l c, ty, pos, after, g⟩ = mkO P e z (zE T l) (zE T c) := by
 simp only [addO, hu, hz]
 unfold mkO
 split
 ·rename_i heq; simp only [Option.some.injEq] at heq; obtain ⟨h1, h2, h3⟩ := And.intro ‹_› (And.intro ‹_› heq); subst h3; simp_all
 ·rename_i h; split
  ·exfalso; simp_all
  ·rfl
theorem zqt {id : Nat} {xs : List D} {e : TypeId} (hr : S[id]? = some (.row (xs.map .d) e)) : mark S [id] S [id] = some (S.set id (.fz xs e)) := by
 have h3 : allO (frz S zJ) (xs.map V.d) = some xs := zgu (n := 11) xs
 have h4 : (xs.map V.d).flatMap (frzIds S zJ) = [] := zgj xs
 simp only [mark, hr, z3r, h3, Option.map_some, za5, h4, List.all_nil, if_true]
theorem zpy {n : Nat} {f : FuncId} {args : List V} {ds : List D} {v : V} {id : Nat} {xs : List D} {e : TypeId} (hs : C.shared f = false) (hf : allO (frz S zJ) args = some ds) (hi : args.flatMap (frzIds S zJ) = [id]) (hr : S[id]? = some (.row (xs.map .d) e)) (hp : z0w (.ret v) = false) (hn : answer C (run C n) f ds = some (.ret v)) : jU C (run C n) f args S = some (.ret v, S.set id (.fz xs e), 3) := by
 unfold jU
 simp only [hs, Bool.false_eq_true, if_false, hf, hn, hi, List.isEmpty_cons, hp, zqt hr]
theorem zfc {f : FuncId} {args : List V} {ds : List D} {v : V} {id : Nat} {xs : List D} {e : TypeId} (hs : C.shared f = false) (hf : allO (frz S zJ) args = some ds) (hi : args.flatMap (frzIds S zJ) = [id]) (hr : S[id]? = some (.row (xs.map .d) e)) (hp : z0w (.ret v) = false) (he : Ev C f ds (.ret v)) :
  WpE C ops F Q K rd cs i dst T S (some (.enter f args)) = (z3z ops rd i 3 ∧ K rd (cs ++ [(i, 3)]) (putT T dst v) (S.set id (.fz xs e))) := by
 obtain ⟨n, hn⟩ := he
 have hc : jU C (run C n) f args S = some (.ret v, S.set id (.fz xs e), 3) := zpy hs hf hi hr hp hn
 apply propext
 constructor
 ·rintro ⟨m, v', S', c, h1, h2, h3⟩
  have := wR h1 hc
  simp only [Prod.mk.injEq] at this
  obtain ⟨h4, rfl, rfl⟩ := this
  cases h4
  exact ⟨h2, h3⟩
 ·exact fun h => ⟨n, _, _, _, hc, h.1, h.2⟩
end
section
variable {C : Cfg} {ops : Array Oper} {dst : Option Tmp} {ty : TypeId} {pos : String} {after : Array Edge} {l : List Oper} {T : List V} {S : zB} {F : Dfs} {Q : Post} {t : TypeId} {n : Nat} {ps : Array (Nat × Operand)} {d2 : Option Tmp} {ty2 : TypeId} {pos2 : String} {after2 : Array Edge} {g2 : Option (Nat × Bool)}
theorem zdi {x : Operand} : WpL C ops (⟨dst, .buildSlice t n ps, ty, pos, after, none⟩ :: ⟨d2, .assign x, ty2, pos2, after2, g2⟩ :: l) T S F Q = WpR C ops dst (⟨d2, .assign x, ty2, pos2, after2, g2⟩ :: l) T S F Q (opV C.P S T ⟨dst, .buildSlice t n ps, ty, pos, after, none⟩) := z8k rfl
theorem zhk {x : Operand} : WpL C ops (⟨dst, .buildSlice t n ps, ty, pos, after, none⟩ :: ⟨d2, .move x, ty2, pos2, after2, g2⟩ :: l) T S F Q = WpR C ops dst (⟨d2, .move x, ty2, pos2, after2, g2⟩ :: l) T S F Q (opV C.P S T ⟨dst, .buildSlice t n ps, ty, pos, after, none⟩) := z8k rfl
theorem z91 {s : TypeId} {x : Operand} {f : Nat} : WpL C ops (⟨dst, .buildSlice t n ps, ty, pos, after, none⟩ :: ⟨d2, .fieldAddr s x f, ty2, pos2, after2, g2⟩ :: l) T S F Q = WpR C ops dst (⟨d2, .fieldAddr s x f, ty2, pos2, after2, g2⟩ :: l) T S F Q (opV C.P S T ⟨dst, .buildSlice t n ps, ty, pos, after, none⟩) := z8k rfl
theorem zg1 {s : TypeId} {qs : Array (Nat × Operand)} : WpL C ops (⟨dst, .buildSlice t n ps, ty, pos, after, none⟩ :: ⟨d2, .build s qs, ty2, pos2, after2, g2⟩ :: l) T S F Q = WpR C ops dst (⟨d2, .build s qs, ty2, pos2, after2, g2⟩ :: l) T S F Q (opV C.P S T ⟨dst, .buildSlice t n ps, ty, pos, after, none⟩) := z8k rfl
theorem zo1 {s : TypeId} {m : Nat} {qs : Array (Nat × Operand)} : WpL C ops (⟨dst, .buildSlice t n ps, ty, pos, after, none⟩ :: ⟨d2, .buildSlice s m qs, ty2, pos2, after2, g2⟩ :: l) T S F Q = WpR C ops dst (⟨d2, .buildSlice s m qs, ty2, pos2, after2, g2⟩ :: l) T S F Q (opV C.P S T ⟨dst, .buildSlice t n ps, ty, pos, after, none⟩) := z8k rfl
theorem vbs :
 (∀ {C : Cfg} {ops : Array Oper} {dst : Option Tmp} {ty : TypeId} {pos : String} {after : Array Edge} {l : List Oper} {T : List V} {S : zB} {F : Dfs} {Q : Post} {t : TypeId} {n : Nat} {ps : Array (Nat × Operand)} {d2 : Option Tmp} {ty2 : TypeId} {pos2 : String} {after2 : Array Edge} {g2 : Option (Nat × Bool)} {x : Operand}, WpL C ops (⟨dst, .buildSlice t n ps, ty, pos, after, none⟩ :: ⟨d2, .assign x, ty2, pos2, after2, g2⟩ :: l) T S F Q = WpR C ops dst (⟨d2, .assign x, ty2, pos2, after2, g2⟩ :: l) T S F Q (opV C.P S T ⟨dst, .buildSlice t n ps, ty, pos, after, none⟩)) ∧
 (∀ {C : Cfg} {ops : Array Oper} {dst : Option Tmp} {ty : TypeId} {pos : String} {after : Array Edge} {l : List Oper} {T : List V} {S : zB} {F : Dfs} {Q : Post} {t : TypeId} {n : Nat} {ps : Array (Nat × Operand)} {d2 : Option Tmp} {ty2 : TypeId} {pos2 : String} {after2 : Array Edge} {g2 : Option (Nat × Bool)} {x : Operand}, WpL C ops (⟨dst, .buildSlice t n ps, ty, pos, after, none⟩ :: ⟨d2, .move x, ty2, pos2, after2, g2⟩ :: l) T S F Q = WpR C ops dst (⟨d2, .move x, ty2, pos2, after2, g2⟩ :: l) T S F Q (opV C.P S T ⟨dst, .buildSlice t n ps, ty, pos, after, none⟩)) ∧
 (∀ {C : Cfg} {ops : Array Oper} {dst : Option Tmp} {ty : TypeId} {pos : String} {after : Array Edge} {l : List Oper} {T : List V} {S : zB} {F : Dfs} {Q : Post} {t : TypeId} {n : Nat} {ps : Array (Nat × Operand)} {d2 : Option Tmp} {ty2 : TypeId} {pos2 : String} {after2 : Array Edge} {g2 : Option (Nat × Bool)} {s : TypeId} {x : Operand} {f : Nat}, WpL C ops (⟨dst, .buildSlice t n ps, ty, pos, after, none⟩ :: ⟨d2, .fieldAddr s x f, ty2, pos2, after2, g2⟩ :: l) T S F Q = WpR C ops dst (⟨d2, .fieldAddr s x f, ty2, pos2, after2, g2⟩ :: l) T S F Q (opV C.P S T ⟨dst, .buildSlice t n ps, ty, pos, after, none⟩)) ∧
 (∀ {C : Cfg} {ops : Array Oper} {dst : Option Tmp} {ty : TypeId} {pos : String} {after : Array Edge} {l : List Oper} {T : List V} {S : zB} {F : Dfs} {Q : Post} {t : TypeId} {n : Nat} {ps : Array (Nat × Operand)} {d2 : Option Tmp} {ty2 : TypeId} {pos2 : String} {after2 : Array Edge} {g2 : Option (Nat × Bool)} {s : TypeId} {qs : Array (Nat × Operand)}, WpL C ops (⟨dst, .buildSlice t n ps, ty, pos, after, none⟩ :: ⟨d2, .build s qs, ty2, pos2, after2, g2⟩ :: l) T S F Q = WpR C ops dst (⟨d2, .build s qs, ty2, pos2, after2, g2⟩ :: l) T S F Q (opV C.P S T ⟨dst, .buildSlice t n ps, ty, pos, after, none⟩)) ∧
 (∀ {C : Cfg} {ops : Array Oper} {dst : Option Tmp} {ty : TypeId} {pos : String} {after : Array Edge} {l : List Oper} {T : List V} {S : zB} {F : Dfs} {Q : Post} {t : TypeId} {n : Nat} {ps : Array (Nat × Operand)} {d2 : Option Tmp} {ty2 : TypeId} {pos2 : String} {after2 : Array Edge} {g2 : Option (Nat × Bool)} {s : TypeId} {m : Nat} {qs : Array (Nat × Operand)}, WpL C ops (⟨dst, .buildSlice t n ps, ty, pos, after, none⟩ :: ⟨d2, .buildSlice s m qs, ty2, pos2, after2, g2⟩ :: l) T S F Q = WpR C ops dst (⟨d2, .buildSlice s m qs, ty2, pos2, after2, g2⟩ :: l) T S F Q (opV C.P S T ⟨dst, .buildSlice t n ps, ty, pos, after, none⟩)) :=
 ⟨zdi, zhk, z91, zg1, zo1⟩
end
theorem z83 {S : zB} {x : V} {e : TypeId} : rowE (S ++ [.row [x] e]) S.length 0 = some x := zD (e := e) (by simp)
theorem z3i {S : zB} {x y : V} {e : TypeId} : jQ (S ++ [.row [x] e]) S.length 0 y = some (S ++ [.row [y] e]) := by
 rw [qJ (x := x) (e := e) (by simp)]
 simp
end Go.Vm
end
