/- The value machine: code, and calls: what the machine says is what the program does. -/
import Derived.Defers
import Derived.Scope
import Derived.IntWalk
import Derived.Test.YtghllhghboaagaaS04
set_option linter.unusedVariables false
set_option linter.unusedSimpArgs false
section
namespace Go.Vm
section
variable {P : Program} {S : zA} {ρ : Nat → Nat} {A : Nat → Prop} {w w' : World}
def zie (P : Program) (c : Code) (Q : Exit → Act → World → Prop) (a : Act) (w : World) : Prop :=
 ∀ (b : Frame) (k : List Item) (cs : List Frame), ∃ e a' w', Q e a' w' ∧ Arrives P (lone (b.at a (.code c :: .inLoop c :: k)) cs w) b k cs e a' w'
theorem zno {c : Code} {Q : Exit → Act → World → Prop} {a : Act} (h : zie P c Q a w) : (Code.loop c).wp P Q a w := fun b k cs =>
 let ⟨e, a', w', hq, harr⟩ := h b k cs
 ⟨e, a', w', hq, .of_steps (.one step_loop) harr⟩
theorem z7o {c : Code} {Q : Exit → Act → World → Prop} {a : Act} (h : c.wp P (Exit.then (zie P c Q) Q) a w) : zie P c Q a w := by
 intro b k cs
 obtain ⟨e, a₁, w₁, hq, harr⟩ := h b (.inLoop c :: k) cs
 cases e with
 | normal =>
  obtain ⟨e₂, a₂, w₂, hq₂, harr₂⟩ := hq b k cs
  exact ⟨e₂, a₂, w₂, hq₂, .of_steps (Steps.trans harr (.one step_inLoop)) harr₂⟩
 | exit id => exact ⟨_, a₁, w₁, hq, .pass (x := .inLoop c) rfl (fun _ _ => .inl (by simp)) harr⟩
 | goto l => exact ⟨_, a₁, w₁, hq, .pass (x := .inLoop c) rfl (fun _ _ => .inl (by simp)) harr⟩
 | ret => exact ⟨_, a₁, w₁, hq, .pass (x := .inLoop c) rfl (fun _ _ => .inl (by simp)) harr⟩
 | panic ch => exact ⟨_, a₁, w₁, hq, .pass (x := .inLoop c) rfl (fun _ _ => .inl (by simp)) harr⟩
 | outgrown => exact ⟨_, a₁, w₁, hq, .pass (x := .inLoop c) rfl (fun _ _ => .inl (by simp)) harr⟩
def wpL (P : Program) (c : Code) (Q : Exit → Act → World → Prop) (a : Act) (w : World) : Prop := match c with | .loop b => zie P b Q a w | c => c.wp P Q a w
theorem z0r {c : Code} {Q : Exit → Act → World → Prop} {a : Act} (h : wpL P c Q a w) : c.wp P Q a w := by
 cases c with
 | loop b => exact zno h
 | _ => exact h
theorem zml {t : TypeId} {x y : V} {u : Value} (h : jP P S t x = some y) (hx : RepV P S ρ A w x u) : ∃ a, u = .pointer (some a) := by
 unfold jP at h
 split at h
 ·have hx := (zO rfl).1 ((qF rfl).1 hx)
  simp only [zT, List.cons.injEq, and_true] at hx
  obtain ⟨a, rfl, _⟩ := hx
  exact ⟨a, rfl⟩
 ·have hx := (zH rfl).1 (kL.1 hx)
  simp only [RepC, List.cons.injEq, and_true] at hx
  obtain ⟨a, us, rfl, _⟩ := hx
  exact ⟨a, rfl⟩
 ·cases h
theorem zfv {T : List V} {tm : Array Value} (hT : RepT P S ρ A w T tm.toList) (t : Tmp) : RepV P S ρ A w (T.getD t (.tup [])) (tm.getD t undef) := by
 have hl := z2r hT
 simp only [Array.length_toList] at hl
 cases h : T[t]? with
 | some v =>
  obtain ⟨u, hu, hr⟩ := z6v hT t v h
  have hu' : tm[t]? = some u := by simpa using hu
  simp only [List.getD_eq_getElem?_getD, h, Option.getD_some]
  have : tm.getD t undef = u := by
   rw [Array.getD_eq_getD_getElem?, hu']; rfl
  rw [this]; exact hr
 | none =>
  have hn : tm[t]? = none := by
   simp only [List.getElem?_eq_none_iff] at h
   simp [hl, h]
  simp only [List.getD_eq_getElem?_getD, h, Option.getD_none]
  have : tm.getD t undef = undef := by
   rw [Array.getD_eq_getD_getElem?, hn]; rfl
  rw [this]; exact z0i
def z2q (tm : Array Value) : ResultVar → Sem Value
 | .tmp t => pure (tm.getD t undef)
 | .cell a t => do loadVar t (← asAddr (tm.getD a undef))
theorem zah (hI : Inv P S ρ A w) {T : List V} {tm : Array Value} (hT : RepT P S ρ A w T tm.toList) {r : ResultVar} {v : V} (h : wH P T S r = some v) : ∃ u, (z2q tm r).run P w = .ok u w ∧ RepV P S ρ A w v u := by
 cases r with
 | tmp t =>
  simp only [wH, Option.some.injEq] at h; subst h
  exact ⟨_, rfl, zfv hT t⟩
 | cell a t =>
  simp only [wH] at h
  have ha := zfv hT a
  obtain ⟨ad, he⟩ := zml h ha
  obtain ⟨u, h1, h2⟩ := zec hI h ha
  refine ⟨u, ?_, zX h2⟩
  rw [he] at h1
  simpa [z2q, he, asAddr, Instr.loadAt, Instr.sureAddr] using h1
theorem z4u (hI : Inv P S ρ A w) {T : List V} {tm : Array Value} (hT : RepT P S ρ A w T tm.toList) : ∀ {rs : List ResultVar} {vs : List V}, allO (wH P T S) rs = some vs → ∃ us, (rs.mapM (z2q tm)).run P w = .ok us w ∧ us.length = rs.length ∧ (∀ (i : Nat) (v : V), vs[i]? = some v → ∃ u, us[i]? = some u ∧ RepV P S ρ A w v u) ∧ vs.length = rs.length
 | [], vs, h => by
  simp only [allO, Option.some.injEq] at h; subst h
  exact ⟨[], by simp, rfl, fun i v h => by simp at h, rfl⟩
 | r :: rs, vs, h => by
  obtain ⟨y, zs, h1, h2, rfl⟩ := vW h
  obtain ⟨u, g1, g2⟩ := zah hI hT h1
  obtain ⟨us, g3, g4, g5, g6⟩ := z4u hI hT h2
  refine ⟨u :: us, by simp [g1, g3], by simp [g4], fun i v hv => ?_, by simp [g6]⟩
  cases i with
  | zero => simp at hv; subst hv; exact ⟨u, by simp, g2⟩
  | succ i => simp at hv; simpa using g5 i v hv
theorem z7x : ∀ {vs : List V} {us : List Value}, vs.all V.one = true → us.length = vs.length → (∀ (i : Nat) (v : V), vs[i]? = some v → ∃ u, us[i]? = some u ∧ RepV P S ρ A w v u) → jC P S ρ A w vs us
 | [], us, _, hl, _ => by simp at hl; simp [jC, hl]
 | v :: r, us, ho, hl, h => by
  cases us with
  | nil => simp at hl
  | cons u us =>
   simp only [List.all_cons, Bool.and_eq_true] at ho
   obtain ⟨u', h1, h2⟩ := h 0 v (by simp)
   simp at h1; subst h1
   simp only [jC]
   exact ⟨_, us, rfl, (qF ho.1).1 h2, z7x ho.2 (by simpa using hl) (fun i v hv => by simpa using h (i + 1) v (by simpa using hv))⟩
theorem z7y (hI : Inv P S ρ A w) {T : List V} {tm : Array Value} (hT : RepT P S ρ A w T tm.toList) {fn : Func} {v : V} (h : jF P fn.results T S = some v) : ∃ u, (results fn tm).run P w = .ok u w ∧ RepV P S ρ A w v u := by
 have key : ∀ us : List Value, (fn.results.toList.mapM (z2q tm)).run P w = .ok us w → (results fn tm).run P w = .ok (if h : us.toArray.size = 1 then us.toArray[0] else .tuple us.toArray) w := by
  intro us hus
  have : (fn.results.mapM (z2q tm)).run P w = .ok us.toArray w := by
   rw [← Array.toArray_toList (xs := fn.results), List.mapM_toArray]
   simp [hus]
  have e : results fn tm = (do let vs ← fn.results.mapM (z2q tm); pure (if h : vs.size = 1 then vs[0] else .tuple vs)) := by
   unfold results z2q
   rfl
  rw [e]
  simp [this]
 unfold jF at h
 split at h
 ·rename_i r hr
  obtain ⟨u, g1, g2⟩ := zah hI hT h
  refine ⟨u, ?_, g2⟩
  have := key [u] (by rw [hr]; simp [g1])
  simpa using this
 ·rename_i l hne
  split at h
  ·rename_i vs hvs
   split at h
   ·rename_i hone
    simp only [Option.some.injEq] at h; subst h
    obtain ⟨us, g1, g2, g3, g4⟩ := z4u hI hT hvs
    refine ⟨.tuple us.toArray, ?_, us.toArray, rfl, by simpa using z7x hone (by omega) g3⟩
    rw [key us g1]
    have : ¬ us.toArray.size = 1 := by
     simp only [List.size_toArray, g2]
     intro h1
     obtain ⟨x, hx⟩ := List.length_eq_one_iff.1 h1
     exact hne x hx
    rw [dif_neg this]
   ·cases h
  ·cases h
theorem z2j {args : List V} {us : Array Value} (n : Nat) (h : jC P S ρ A w args us.toList) : RepT P S ρ A w (z05 n args) (us ++ Array.replicate (n - us.size) undef).toList := by
 have hl := z7w h
 simp only [Array.length_toList] at hl
 simp only [z05, Array.toList_append, Array.toList_replicate, hl]
 exact z9r (z7m h) (zji _)
theorem z1l {f : FuncId} {b : Body} (h : zF P f = some b) : ∃ fn, P.funcs[f]? = some fn ∧ fn.body = some b.code ∧ b.ntmps = fn.ntmps ∧ b.results = fn.results := by
 unfold zF at h
 cases hf : P.funcs[f]? with
 | none => simp [hf] at h
 | some fn =>
  simp only [hf] at h
  split at h
  ·cases h
  ·cases hb : fn.body with
   | none => simp [hb] at h
   | some c =>
    simp only [hb, Option.some.injEq] at h; subst h
    exact ⟨fn, rfl, hb, rfl, rfl⟩
def zld (P : Program) (ex : z67) : Prop := ∀ (c : Code) {S S' : zA} {T T' : List V} {F F' : Dfs} {x : Ex}, ex c T S F = some (x, T', S', F') →
 ∀ {ρ : Nat → Nat} {A : Nat → Prop} {w : World} {a : Act} {Q : Exit → Act → World → Prop}, Inv P S ρ A w → RepT P S ρ A w T a.tmps.toList → DfOk P S ρ A w F a.defers → (∀ e a' w', ExPost P S ρ A w x T' S' F' e a' w' → Q e a' w') → wpL P c Q a w
def vY (C : Cfg) : Prop := ∀ f post, C.catch_ f = some post → ∀ (S S' : zA) (g : FuncId) (o : Out) (v : V), post o = some v → ∀ (ρ : Nat → Nat) (A : Nat → Prop) (w : World) (fa ca : Array Value), Inv C.P S ρ A w → ((zF C.P g).isSome = true ∨ (C.catch_ g).isSome = true) →
 (∀ ρ1 A1 w1, Inv C.P S ρ1 A1 w1 → Step S ρ A w S ρ1 A1 w1 → Calls C.P g (fa ++ ca) w1 (z2x C.P S ρ1 A1 w1 o S')) → Calls C.P f #[.func (.func g) fa ca] w (z2x C.P S ρ A w (.ret v) S')
theorem zov {C : Cfg} {n : Nat} {g : FuncId} {args : List V} {S : zA} {r : Out × zA} (h : run C n g args S = some r) : (zF C.P g).isSome = true ∨ (C.catch_ g).isSome = true := by
 cases n with
 | zero => simp [run] at h
 | succ n =>
  simp only [run] at h
  split at h
  ·rename_i post hp
   exact .inr (by rw [hp]; rfl)
  ·split at h
   ·cases h
   ·rename_i b hb
    exact .inl (by rw [hb]; rfl)
theorem zqe {ex : z67} (hex : zld P ex) {f : FuncId} {args : List V} {S S' : zA} (h : z3b P ex f args S = some S') (hI : Inv P S ρ A w) {us : Array Value} (hr : jC P S ρ A w args us.toList) {u : FrameMode} :
  CallsD P f us u w fun e u' w' => u' = u ∧ match e with
   | .returned _ => ∃ ρ' A', Inv P S' ρ' A' w' ∧ Step S ρ A w S' ρ' A' w'
   | _ => False := by
 unfold z3b at h
 split at h
 ·cases h
 ·rename_i b hb
  obtain ⟨fn, hf, hbody, hn, hres⟩ := z1l hb
  have hstart := z2j (P := P) (S := S) (ρ := ρ) (A := A) (w := w) fn.ntmps hr
  refine callsD_of_wp (R := fun e w' => match e with | .returned _ => ∃ ρ' A', Inv P S' ρ' A' w' ∧ Step S ρ A w S' ρ' A' w' | _ => False) hf hbody ?_
  rw [hn] at h
  have fin : ∀ {x : Ex} {T1 : List V} {S1 : zA}, (x = .norm ∨ x = .ret) → ex b.code (z05 fn.ntmps args) S [] = some (x, T1, S1, []) → ((jF P b.results T1 S1).map fun _ => S1) = some S' →
    b.code.wp P (bodyPost P fn fun e w' => match e with | .returned _ => ∃ ρ' A', Inv P S' ρ' A' w' ∧ Step S ρ A w S' ρ' A' w' | _ => False) { tmps := us ++ Array.replicate (fn.ntmps - us.size) undef, defers := [] } w := by
   intro x T1 S1 hx hex1 hres1
   obtain ⟨v, hv, rfl⟩ := Option.map_eq_some_iff.1 hres1
   refine z0r (hex b.code hex1 hI hstart rfl fun e a' w' he => ?_)
   have good : St P S ρ A w T1 S1 [] a' w' → a'.defers = [] ∧ ∃ v, (results fn a'.tmps).run P w' = .ok v w' ∧ (∃ ρ' A', Inv P S1 ρ' A' w' ∧ Step S ρ A w S1 ρ' A' w') := fun hs => by
    obtain ⟨ρ', A', h1, h2, h3, h4⟩ := hs
    rw [hres] at hv
    obtain ⟨u, g1, g2⟩ := z7y h1 h3 hv
    exact ⟨h4, u, g1, ρ', A', h1, h2⟩
   cases e with
   | normal => exact good he.2
   | ret => exact good he.2
   | exit k => rcases hx with rfl | rfl <;> exact absurd he.1 (by simp)
   | panic c => obtain ⟨y, v, h1, _⟩ := he; rcases hx with rfl | rfl <;> cases h1
   | goto l => exact he.elim
   | outgrown => exact he.elim
  split at h
  ·rename_i T1 S1 h1
   exact fin (.inl rfl) h1 h
  ·rename_i T1 S1 h1
   exact fin (.inr rfl) h1 h
  ·cases h
theorem zf8 {ex : z67} (hex : zld P ex) {fn : Func} {tm : Array Value} {T : List V} {v : V} {S2 : zA} {R : Ending → World → Prop} {S0 : zA} {ρ0 : Nat → Nat} {A0 : Nat → Prop} {w0 : World} (hres : jF P fn.results T S2 = some v)
    (hR : ∀ u w', (∃ ρ' A', Inv P S2 ρ' A' w' ∧ Step S0 ρ0 A0 w0 S2 ρ' A' w' ∧ RepV P S2 ρ' A' w' v u) → R (.returned u) w') : ∀ {F : Dfs} {ds : List Deferred} {S : zA} {ρ : Nat → Nat} {A : Nat → Prop} {w : World}, dfrV P ex F S = some S2 → Inv P S ρ A w → Step S0 ρ0 A0 w0 S ρ A w → RepT P S ρ A w T tm.toList → DfOk P S ρ A w F ds → Leaves P fn tm R ds .returning w
  | [], ds, S, ρ, A, w, h, hI, hs, hT, hF => by
    simp only [dfrV, Option.some.injEq] at h; subst h
    simp only [DfOk] at hF; subst hF
    obtain ⟨u, g1, g2⟩ := z7y hI hT hres
    exact ⟨u, g1, hR u w ⟨ρ, A, hI, hs, g2⟩⟩
  | (f, args) :: r, ds, S, ρ, A, w, h, hI, hs, hT, hF => by
    obtain ⟨d, ds', rfl, ⟨fv, cap, us, h1, h2, h3⟩, h4⟩ := hF
    simp only [dfrV] at h
    cases hp : z3b P ex f args S with
    | none => simp [hp] at h
    | some S1 =>
      simp only [hp] at h
      refine ⟨by simp, fv, cap, f, us, h1, h2 w, ?_⟩
      refine (zqe hex hp hI h3).mono fun e u' w' he => ?_
      obtain ⟨rfl, he⟩ := he
      cases e with
      | returned u =>
        obtain ⟨ρ1, A1, g1, g2⟩ := he
        exact zf8 hex hres hR h g1 (hs.trans g2) (kJ g2.amono g2.keepA g2.sle _ _ hT) (kF g2 h4)
      | panicked c => exact he.elim
      | outgrown => exact he.elim
theorem z5h {C : Cfg} (hext : z1d C) (hcatch : vY C) : ∀ n, zld C.P (exec C n) ∧ zaw C.P (run C n) := by
 intro n
 induction n with
 | zero => exact ⟨fun c S S' T T' F F' x h => by simp [exec] at h, fun f args S o S' h => by simp [run] at h⟩
 | succ n ih =>
  obtain ⟨ihe, ihr⟩ := ih
  constructor
  ·intro c S S' T T' F F' x h ρ A w a Q hI hT hF hQ
   have here : ∀ {x' : Ex} {e : Exit}, (∀ a' w', St C.P S ρ A w T S F a' w' → ExPost C.P S ρ A w x' T S F e a' w') → some (x', T, S, F) = some (x, T', S', F') → Q e a w := by
    intro x' e hp he
    simp only [Option.some.injEq, Prod.mk.injEq] at he
    obtain ⟨rfl, rfl, rfl, rfl⟩ := he
    exact hQ _ _ _ (hp a w ⟨ρ, A, hI, .refl, hT, hF⟩)
   cases c with
   | skip => exact wp_skip (here (x' := .norm) (fun _ _ hs => ⟨rfl, hs⟩) (by simpa [exec] using h))
   | label l => exact wp_label (here (x' := .norm) (fun _ _ hs => ⟨rfl, hs⟩) (by simpa [exec] using h))
   | exit id => exact wp_exit (here (x' := .exit id) (fun _ _ hs => ⟨rfl, hs⟩) (by simpa [exec] using h))
   | ret => exact wp_ret (here (x' := .ret) (fun _ _ hs => ⟨rfl, hs⟩) (by simpa [exec] using h))
   | region id ops dr =>
    cases dr with
    | false =>
     simp only [exec] at h
     refine wp_region ?_
     have := z35 hext ihr h (k := 0) rfl hI hT hF hQ
     rw [List.range_eq_range']
     simpa using this
    | true =>
     simp only [exec] at h
     split at h
     ·rename_i T1 S1 cs hseq
      split at h
      ·rename_i hd
       simp only [Option.some.injEq, Prod.mk.injEq] at h
       obtain ⟨rfl, rfl, rfl, rfl⟩ := h
       exact zud hext ihr (zl8 C n).2 hseq hd hI hT hF (fun a' w' hs => hQ _ _ _ ⟨rfl, hs⟩)
      ·cases h
     ·split at h
      ·rename_i v1 S1 cs p rest hseq
       split at h
       ·rename_i hd
        simp only [Option.some.injEq, Prod.mk.injEq] at h
        obtain ⟨rfl, rfl, rfl, rfl⟩ := h
        exact zgn hext ihr (zl8 C n).2 hseq hd hI hT hF (fun a' w' c ⟨u, h1, h2, ρ', A', h3, h4, h5⟩ => hQ _ _ _ ⟨_, u, rfl, h1, h2, ρ', A', h3, h4, h5⟩)
       ·cases h
      ·cases h
   | seq c1 c2 =>
    simp only [exec] at h
    refine wp_seq ?_
    cases h1 : exec C n c1 T S F with
    | none => simp [h1] at h
    | some r =>
     obtain ⟨x1, T1, S1, F1⟩ := r
     refine z0r (ihe c1 h1 hI hT hF fun e a' w' he => ?_)
     cases x1 with
     | norm =>
      simp only [h1] at h
      cases e with
      | normal =>
       obtain ⟨_, ρ1, A1, g1, g2, g3, g4⟩ := he
       exact z0r (ihe c2 h g1 g3 g4 fun e a2 w2 he2 => hQ _ _ _ (he2.step g2))
      | exit k => exact absurd he.1 (by simp)
      | ret => exact absurd he.1 (by simp)
      | panic c => obtain ⟨y, v, h1, _⟩ := he; cases h1
      | goto l => exact he.elim
      | outgrown => exact he.elim
     | _ =>
      simp only [h1, Option.some.injEq, Prod.mk.injEq] at h
      obtain ⟨rfl, rfl, rfl, rfl⟩ := h
      cases e with
      | normal => exact absurd he.1 (by simp)
      | _ => exact hQ _ _ _ he
   | cond c a1 b1 =>
    simp only [exec] at h
    have hc := z1i hT c
    split at h
    ·rename_i hv
     rw [hv] at hc
     exact wp_cond_true (z4g hc) (z0r (ihe a1 h hI hT hF hQ))
    ·rename_i hv
     rw [hv] at hc
     exact wp_cond_false (z4g hc) (z0r (ihe b1 h hI hT hF hQ))
    ·cases h
   | block id b =>
    simp only [exec] at h
    refine wp_block ?_
    cases h1 : exec C n b T S F with
    | none => simp [h1] at h
    | some r =>
     obtain ⟨x1, T1, S1, F1⟩ := r
     refine z0r (ihe b h1 hI hT hF fun e a' w' he => ?_)
     cases x1 with
     | exit k =>
      simp only [h1] at h
      cases e with
      | exit k' =>
       obtain ⟨hk, hs⟩ := he
       simp only [Ex.exit.injEq] at hk
       subst hk
       simp only [Exit.inBlock]
       split at h
       ·rename_i hk
        rw [if_pos hk]
        simp only [Option.some.injEq, Prod.mk.injEq] at h
        obtain ⟨rfl, rfl, rfl, rfl⟩ := h
        exact hQ _ _ _ ⟨rfl, hs⟩
       ·rename_i hk
        rw [if_neg hk]
        simp only [Option.some.injEq, Prod.mk.injEq] at h
        obtain ⟨rfl, rfl, rfl, rfl⟩ := h
        exact hQ _ _ _ ⟨rfl, hs⟩
      | normal => exact absurd he.1 (by simp)
      | ret => exact absurd he.1 (by simp)
      | panic c => obtain ⟨y, v, h1, _⟩ := he; cases h1
      | goto l => exact he.elim
      | outgrown => exact he.elim
     | _ =>
      simp only [h1, Option.some.injEq, Prod.mk.injEq] at h
      obtain ⟨rfl, rfl, rfl, rfl⟩ := h
      cases e with
      | exit k' => exact absurd he.1 (by simp)
      | _ => exact hQ _ _ _ he
   | loop b =>
    simp only [exec] at h
    refine z7o ?_
    cases h1 : exec C n b T S F with
    | none => simp [h1] at h
    | some r =>
     obtain ⟨x1, T1, S1, F1⟩ := r
     refine z0r (ihe b h1 hI hT hF fun e a' w' he => ?_)
     cases x1 with
     | norm =>
      simp only [h1] at h
      cases e with
      | normal =>
       obtain ⟨_, ρ1, A1, g1, g2, g3, g4⟩ := he
       exact ihe (.loop b) h g1 g3 g4 fun e a2 w2 he2 => hQ _ _ _ (he2.step g2)
      | exit k => exact absurd he.1 (by simp)
      | ret => exact absurd he.1 (by simp)
      | panic c => obtain ⟨y, v, h1, _⟩ := he; cases h1
      | goto l => exact he.elim
      | outgrown => exact he.elim
     | _ =>
      simp only [h1, Option.some.injEq, Prod.mk.injEq] at h
      obtain ⟨rfl, rfl, rfl, rfl⟩ := h
      cases e with
      | normal => exact absurd he.1 (by simp)
      | _ => exact hQ _ _ _ he
   | scope b =>
    simp only [exec] at h
    refine wp_scope_straight (z0r (ihe b h hI hT hF fun e a' w' he => ?_))
    cases e with
    | goto l => exact he.elim
    | _ => exact hQ _ _ _ he
   | _ => simp [exec] at h
  ·intro f args S o S' h ρ A w us hI hr
   simp only [run] at h
   split at h
   ·rename_i post hpost
    split at h
    ·rename_i g first caps
     split at h
     ·cases h
     ·rename_i o' S1 h1
      split at h
      ·cases h
      ·rename_i v hv
       simp only [Option.some.injEq, Prod.mk.injEq] at h
       obtain ⟨rfl, rfl⟩ := h
       simp only [jC] at hr
       obtain ⟨u, us', hus, hu, rfl⟩ := hr
       have : us = #[u] := by rw [← Array.toList_inj]; exact hus
       subst this
       obtain ⟨fa, ca, rfl, g1, g2⟩ := zj5 (zX hu)
       refine hcatch f post hpost S S1 g o' v hv ρ A w fa ca hI (zov h1) fun ρ1 A1 w1 hI1 hs1 => ?_
       refine ihr g _ S o' S1 h1 ρ1 A1 w1 _ hI1 ?_
       have := wK (z2d hs1.amono hs1.keepA hs1.sle _ _ g1) (z2d hs1.amono hs1.keepA hs1.sle _ _ g2)
       simpa using this
    ·cases h
   ·split at h
    ·cases h
    ·rename_i b hb
     obtain ⟨fn, hf, hbody, hn, hres⟩ := z1l hb
     rw [hn] at h
     refine calls_of_wp_defers hf hbody ?_
     have hstart := z2j (P := C.P) (S := S) (ρ := ρ) (A := A) (w := w) fn.ntmps hr
     have good : ∀ {T1 : List V} {S1 : zA} {F1 : Dfs} {a' : Act} {w' : World}, endV C.P (exec C n) b.results T1 S1 F1 = some (o, S') → St C.P S ρ A w T1 S1 F1 a' w' → Leaves C.P fn a'.tmps (z2x C.P S ρ A w o S') a'.defers .returning w' := by
      intro T1 S1 F1 a' w' he hs
      obtain ⟨ρ1, A1, g1, g2, g3, g4⟩ := hs
      unfold endV at he
      cases hd : dfrV C.P (exec C n) F1 S1 with
      | none => simp [hd] at he
      | some S2 =>
       simp only [hd] at he
       cases hrs : jF C.P b.results T1 S2 with
       | none => simp [hrs] at he
       | some v =>
        simp only [hrs, Option.some.injEq, Prod.mk.injEq] at he
        obtain ⟨rfl, rfl⟩ := he
        rw [hres] at hrs
        exact zf8 ihe hrs (fun u w2 ⟨ρ2, A2, k1, k2, k3⟩ => ⟨v, rfl, ρ2, A2, k1, k2, k3⟩) hd g1 g2 g3 g4
     have case1 : ∀ {x : Ex} {T1 : List V} {S1 : zA} {F1 : Dfs}, (x = .norm ∨ x = .ret) → exec C n b.code (z05 fn.ntmps args) S [] = some (x, T1, S1, F1) → endV C.P (exec C n) b.results T1 S1 F1 = some (o, S') →
       b.code.wp C.P (bodyPostD C.P fn (z2x C.P S ρ A w o S')) { tmps := us ++ Array.replicate (fn.ntmps - us.size) undef, defers := [] } w := by
      intro x T1 S1 F1 hx hex1 he
      refine z0r (ihe b.code hex1 hI hstart rfl fun e a' w' hp => ?_)
      cases e with
      | normal => exact good he hp.2
      | ret => exact good he hp.2
      | exit k => rcases hx with rfl | rfl <;> exact absurd hp.1 (by simp)
      | panic c => obtain ⟨y, v, h1, _⟩ := hp; rcases hx with rfl | rfl <;> cases h1
      | goto l => exact hp.elim
      | outgrown => exact hp.elim
     split at h
     ·rename_i T1 S1 F1 h1
      exact case1 (.inl rfl) h1 h
     ·rename_i T1 S1 F1 h1
      exact case1 (.inr rfl) h1 h
     ·rename_i v T1 S1 h1
      simp only [Option.some.injEq, Prod.mk.injEq] at h
      obtain ⟨rfl, rfl⟩ := h
      refine z0r (ihe b.code h1 hI hstart rfl fun e a' w' hp => ?_)
      cases e with
      | panic c =>
       obtain ⟨y, u, k1, rfl, k2, ρ1, A1, k3, k4, k5⟩ := hp
       cases k1
       show Leaves C.P fn a'.tmps _ a'.defers _ w'
       rw [k2 rfl]
       exact ⟨v, u, rfl, rfl, ρ1, A1, k3, k4, k5⟩
      | normal => exact absurd hp.1 (by simp)
      | ret => exact absurd hp.1 (by simp)
      | exit k => exact absurd hp.1 (by simp)
      | goto l => exact hp.elim
      | outgrown => exact hp.elim
     ·cases h
theorem z2t {C : Cfg} (hext : z1d C) (hcatch : vY C) (n : Nat) : q0g C.P (runD C n) := zez hext (z5h hext hcatch n).2
end
abbrev Post := Ex → List V → zA → Dfs → Prop
section
variable {C : Cfg}
def Ev (C : Cfg) (f : FuncId) (ds : List D) (o : Out) : Prop := ∃ n, runD C n f ds = some o
def EvS (C : Cfg) (f : FuncId) (args : List V) (S : zA) (Q : Out → zA → Prop) : Prop := ∃ n o S', run C n f args S = some (o, S') ∧ Q o S'
def Wp (C : Cfg) (c : Code) (T : List V) (S : zA) (F : Dfs) (Q : Post) : Prop := ∃ n x T' S' F', exec C n c T S F = some (x, T', S', F') ∧ Q x T' S' F'
def WpL (C : Cfg) (ops : Array Oper) (l : List Oper) (T : List V) (S : zA) (F : Dfs) (Q : Post) : Prop := ∃ n x T' S' F', seqV C (run C n) ops l T S F = some (x, T', S', F') ∧ Q x T' S' F'
def andThen (K : List V → zA → Dfs → Prop) (Q : Post) : Post
 | .norm, T, S, F => K T S F
 | x, T, S, F => Q x T S F
def inBlock (id : Nat) (Q : Post) : Post
 | .exit k, T, S, F => if k = id then Q .norm T S F else Q (.exit k) T S F
 | x, T, S, F => Q x T S F
theorem zfr {id k : Nat} {Q : Post} {T S F} : inBlock id Q (.exit k) T S F = if k = id then Q .norm T S F else Q (.exit k) T S F := rfl
theorem Wp.mono {c : Code} {T S F} {Q Q' : Post} (h : Wp C c T S F Q) (hq : ∀ x T' S' F', Q x T' S' F' → Q' x T' S' F') : Wp C c T S F Q' := by
 obtain ⟨n, x, T', S', F', h1, h2⟩ := h
 exact ⟨n, x, T', S', F', h1, hq _ _ _ _ h2⟩
theorem wp_skip {T S F} {Q : Post} (h : Q .norm T S F) : Wp C .skip T S F Q := ⟨1, _, _, _, _, rfl, h⟩
theorem wp_ret {T S F} {Q : Post} (h : Q .ret T S F) : Wp C .ret T S F Q := ⟨1, _, _, _, _, rfl, h⟩
theorem wp_exit {id T S F} {Q : Post} (h : Q (.exit id) T S F) : Wp C (.exit id) T S F Q := ⟨1, _, _, _, _, rfl, h⟩
theorem wp_label {l T S F} {Q : Post} (h : Q .norm T S F) : Wp C (.label l) T S F Q := ⟨1, _, _, _, _, rfl, h⟩
theorem wp_region {id ops T S F} {Q : Post} (h : WpL C ops ops.toList T S F Q) : Wp C (.region id ops false) T S F Q := by
 obtain ⟨n, x, T', S', F', h1, h2⟩ := h
 exact ⟨n + 1, x, T', S', F', by simpa [exec] using h1, h2⟩
theorem wp_seq {a b : Code} {T S F} {Q : Post} (h : Wp C a T S F (andThen (fun T' S' F' => Wp C b T' S' F' Q) Q)) : Wp C (.seq a b) T S F Q := by
 obtain ⟨n, x, T', S', F', h1, h2⟩ := h
 cases x with
 | norm =>
  obtain ⟨m, y, T2, S2, F2, h3, h4⟩ := h2
  refine ⟨max n m + 1, y, T2, S2, F2, ?_, h4⟩
  simp only [exec]
  rw [zcq C (Nat.le_max_left n m) _ _ _ _ _ h1]
  exact zcq C (Nat.le_max_right n m) _ _ _ _ _ h3
 | _ =>
  refine ⟨n + 1, _, T', S', F', ?_, h2⟩
  simp only [exec]
  rw [h1]
theorem wp_cond {c : Operand} {a b : Code} {T S F} {Q : Post} {v : Bool} (hv : zG T c = .d (.bool v)) (ha : v = true → Wp C a T S F Q) (hb : v = false → Wp C b T S F Q) : Wp C (.cond c a b) T S F Q := by
 cases v with
 | true =>
  obtain ⟨n, x, T', S', F', h1, h2⟩ := ha rfl
  exact ⟨n + 1, x, T', S', F', by simp only [exec, hv]; exact h1, h2⟩
 | false =>
  obtain ⟨n, x, T', S', F', h1, h2⟩ := hb rfl
  exact ⟨n + 1, x, T', S', F', by simp only [exec, hv]; exact h1, h2⟩
theorem wp_block {id : Nat} {b : Code} {T S F} {Q : Post} (h : Wp C b T S F (inBlock id Q)) : Wp C (.block id b) T S F Q := by
 obtain ⟨n, x, T', S', F', h1, h2⟩ := h
 cases x with
 | exit k =>
  rw [zfr] at h2
  by_cases hk : k = id
  ·rw [if_pos hk] at h2
   exact ⟨n + 1, _, T', S', F', by simp only [exec]; rw [h1]; simp [hk], h2⟩
  ·rw [if_neg hk] at h2
   exact ⟨n + 1, _, T', S', F', by simp only [exec]; rw [h1]; simp [hk], h2⟩
 | _ => exact ⟨n + 1, _, T', S', F', by simp only [exec]; rw [h1], h2⟩
theorem wp_scope {b : Code} {T S F} {Q : Post} (h : Wp C b T S F Q) : Wp C (.scope b) T S F Q := by
 obtain ⟨n, x, T', S', F', h1, h2⟩ := h
 exact ⟨n + 1, x, T', S', F', by simpa [exec] using h1, h2⟩
theorem wp_loop {b : Code} {T S F} {Q : Post} (h : Wp C b T S F (andThen (fun T' S' F' => Wp C (.loop b) T' S' F' Q) Q)) : Wp C (.loop b) T S F Q := by
 obtain ⟨n, x, T', S', F', h1, h2⟩ := h
 cases x with
 | norm =>
  obtain ⟨m, y, T2, S2, F2, h3, h4⟩ := h2
  refine ⟨max n m + 1, y, T2, S2, F2, ?_, h4⟩
  simp only [exec]
  rw [zcq C (Nat.le_max_left n m) _ _ _ _ _ h1]
  exact zcq C (Nat.le_max_right n m) _ _ _ _ _ h3
 | _ =>
  refine ⟨n + 1, _, T', S', F', ?_, h2⟩
  simp only [exec]
  rw [h1]
theorem zrj {ops T S F} {Q : Post} (h : Q .norm T S F) : WpL C ops [] T S F Q := ⟨0, _, _, _, _, rfl, h⟩
def zep (o : Oper) : Bool := match o.op with | .buildSlice .. => false | _ => true
theorem z1w {P : Program} {T : List V} {o : Oper} {l : List Oper} (h : zep o = true) : z1h P T o l = none := by
 cases l with
 | nil => rfl
 | cons o2 l =>
  obtain ⟨dst, op, ty, pos, after, guard⟩ := o
  cases op <;> first | rfl | (simp [zep] at h)
theorem zox {f : FuncId} {b : Body} {ds : List D} {o : Out} (hx : C.ext f = none) (hc : C.catch_ f = none) (hb : zF C.P f = some b)
  (h : Wp C b.code (z05 b.ntmps (ds.map .d)) [] [] fun x T S F => (x = .norm ∨ x = .ret) ∧ F = [] ∧ ∃ v, jF C.P b.results T S = some v ∧ z22 S (.ret v) = some o) : Ev C f ds o := by
 obtain ⟨n, x, T, S, F, h1, h2, rfl, v, h3, h4⟩ := h
 refine ⟨n + 1, ?_⟩
 unfold runD answer
 simp only [hx, run, hc, hb, h1]
 rcases h2 with rfl | rfl <;> simp only [endV, dfrV, h3] <;> exact h4
theorem zmw {f : FuncId} {b : Body} {args : List V} {S : zA} {R : Out → zA → Prop} (hc : C.catch_ f = none) (hb : zF C.P f = some b)
  (h : Wp C b.code (z05 b.ntmps args) S [] fun x T S F => F = [] ∧ match x with | .norm => ∃ v, jF C.P b.results T S = some v ∧ R (.ret v) S | .ret => ∃ v, jF C.P b.results T S = some v ∧ R (.ret v) S | .pan v => R (.pan v) S | .exit _ => False) : EvS C f args S R := by
 obtain ⟨n, x, T, S', F, h1, rfl, h2⟩ := h
 cases x with
 | norm =>
  obtain ⟨v, h3, h4⟩ := h2
  exact ⟨n + 1, .ret v, S', by simp only [run, hc, hb, h1, endV, dfrV, h3], h4⟩
 | ret =>
  obtain ⟨v, h3, h4⟩ := h2
  exact ⟨n + 1, .ret v, S', by simp only [run, hc, hb, h1, endV, dfrV, h3], h4⟩
 | pan v => exact ⟨n + 1, .pan v, S', by simp only [run, hc, hb, h1], h2⟩
 | exit k => exact h2.elim
end
section
variable {C : Cfg}
def WpR (C : Cfg) (ops : Array Oper) (dst : Option Tmp) (l : List Oper) (T : List V) (S : zA) (F : Dfs) (Q : Post) : Option Rs → Prop
 | some (.val v S' _) => WpL C ops l (putT T dst v) S' F Q
 | some (.skip S' _) => WpL C ops l (putT T dst (.tup [])) S' F Q
 | some (.enter f args) => ∃ n o S' c, kR C (run C n) f args S = some (o, S', c) ∧ match o with | .ret v => WpL C ops l (putT T dst v) S' F Q | .pan v => Q (.pan v) T S' F
 | some (.dfr f args) => WpL C ops l (putT T dst (.tup [])) S ((f, args) :: F) Q
 | some (.pan v) => Q (.pan v) T S F
 | none => False
theorem zcx {n m : Nat} (h : n ≤ m) {f : FuncId} {args : List V} {S : zA} {r : Out × zA × Nat} (hc : kR C (run C n) f args S = some r) : kR C (run C m) f args S = some r := z46 (z4l C h) hc
theorem z9a {ops : Array Oper} {dst : Option Tmp} {op : Op} {ty : TypeId} {pos : String} {after : Array Edge} {l : List Oper} {T : List V} {S : zA} {F : Dfs} {Q : Post} (hp : z1h C.P T ⟨dst, op, ty, pos, after, none⟩ l = none) :
  WpL C ops (⟨dst, op, ty, pos, after, none⟩ :: l) T S F Q = WpR C ops dst l T S F Q (opV C.P S T ⟨dst, op, ty, pos, after, none⟩) := by
 apply propext
 constructor
 ·rintro ⟨n, x, T', S', F', h1, h2⟩
  simp only [seqV, hp, qB] at h1
  cases ho : opV C.P S T ⟨dst, op, ty, pos, after, none⟩ with
  | none => simp [ho] at h1
  | some r =>
   simp only [ho] at h1
   cases r with
   | val v S2 c => exact ⟨n, x, T', S', F', h1, h2⟩
   | skip S2 c => exact ⟨n, x, T', S', F', h1, h2⟩
   | dfr f args => exact ⟨n, x, T', S', F', h1, h2⟩
   | pan v =>
    simp only [Option.some.injEq, Prod.mk.injEq] at h1
    obtain ⟨rfl, rfl, rfl, rfl⟩ := h1
    exact h2
   | enter f args =>
    simp only at h1
    cases hc : kR C (run C n) f args S with
    | none => simp [hc] at h1
    | some q =>
     obtain ⟨o, S2, c⟩ := q
     refine ⟨n, o, S2, c, hc, ?_⟩
     simp only [hc] at h1
     cases o with
     | ret v => exact ⟨n, x, T', S', F', h1, h2⟩
     | pan v =>
      simp only [Option.some.injEq, Prod.mk.injEq] at h1
      obtain ⟨rfl, rfl, rfl, rfl⟩ := h1
      exact h2
 ·intro h
  cases ho : opV C.P S T ⟨dst, op, ty, pos, after, none⟩ with
  | none => simp [ho, WpR] at h
  | some r =>
   simp only [ho] at h
   cases r with
   | val v S2 c =>
    obtain ⟨n, x, T', S', F', h1, h2⟩ := h
    exact ⟨n, x, T', S', F', by simp only [seqV, hp, qB, ho]; exact h1, h2⟩
   | skip S2 c =>
    obtain ⟨n, x, T', S', F', h1, h2⟩ := h
    exact ⟨n, x, T', S', F', by simp only [seqV, hp, qB, ho]; exact h1, h2⟩
   | dfr f args =>
    obtain ⟨n, x, T', S', F', h1, h2⟩ := h
    exact ⟨n, x, T', S', F', by simp only [seqV, hp, qB, ho]; exact h1, h2⟩
   | pan v => exact ⟨0, .pan v, T, S, F, by simp only [seqV, hp, qB, ho], h⟩
   | enter f args =>
    obtain ⟨n, o, S2, c, hc, h⟩ := h
    cases o with
    | ret v =>
     obtain ⟨m, x, T', S', F', h1, h2⟩ := h
     refine ⟨max n m, x, T', S', F', ?_, h2⟩
     simp only [seqV, hp, qB, ho, zcx (Nat.le_max_left n m) hc]
     exact z13 (z4l C (Nat.le_max_right n m)) h1
    | pan v => exact ⟨n, .pan v, T, S2, F, by simp only [seqV, hp, qB, ho, hc], h⟩
theorem vV {ops : Array Oper} {dst : Option Tmp} {op : Op} {ty : TypeId} {pos : String} {after : Array Edge} {l : List Oper} {T : List V} {S : zA} {F : Dfs} {Q : Post} (hn : zep ⟨dst, op, ty, pos, after, none⟩ = true) :
  WpL C ops (⟨dst, op, ty, pos, after, none⟩ :: l) T S F Q = WpR C ops dst l T S F Q (opV C.P S T ⟨dst, op, ty, pos, after, none⟩) := z9a (z1w hn)
theorem zug {ops : Array Oper} {T : List V} {S : zA} {F : Dfs} {Q : Post} : WpL C ops [] T S F Q = Q .norm T S F := by
 apply propext
 constructor
 ·rintro ⟨n, x, T', S', F', h1, h2⟩
  simp only [seqV, Option.some.injEq, Prod.mk.injEq] at h1
  obtain ⟨rfl, rfl, rfl, rfl⟩ := h1
  exact h2
 ·exact zrj
section
variable {ops : Array Oper} {dst : Option Tmp} {l : List Oper} {T : List V} {S S' : zA} {F : Dfs} {Q : Post} {v : V} {c : Nat}
theorem q00 : WpR C ops dst l T S F Q (some (.val v S' c)) = WpL C ops l (putT T dst v) S' F Q := rfl
theorem zsf : WpR C ops dst l T S F Q (some (.skip S' c)) = WpL C ops l (putT T dst (.tup [])) S' F Q := rfl
theorem zqd {d : Tmp} : putT T (some d) v = T.set d v := rfl
theorem zp0 : putT T none v = T := rfl
theorem zzl {t : Tmp} : zG T (.tmp t) = T.getD t .junk := rfl
theorem zlh {a x : V} {r : List V} : (a :: r).getD 0 x = a := rfl
theorem zmb {a x : V} {r : List V} {n : Nat} : (a :: r).getD (n + 1) x = r.getD n x := rfl
theorem zli {a x : V} {r : List V} : (a :: r).set 0 x = x :: r := rfl
theorem zo2 {a x : V} {r : List V} {n : Nat} : (a :: r).set (n + 1) x = a :: r.set n x := rfl
end
section
variable {ops : Array Oper} {dst : Option Tmp} {ty : TypeId} {pos : String} {after : Array Edge} {l : List Oper} {T : List V} {S : zA} {F : Dfs} {Q : Post}
theorem zv0 {x : Operand} : WpL C ops (⟨dst, .move x, ty, pos, after, none⟩ :: l) T S F Q = WpL C ops l (putT T dst (zG T x)) S F Q := vV rfl
theorem zmn {x : Operand} : WpL C ops (⟨dst, .assign x, ty, pos, after, none⟩ :: l) T S F Q = WpL C ops l (putT T dst (zG T x)) S F Q := vV rfl
theorem zw5 {op : BinOp} {t u : TypeId} {x y : Operand} : WpL C ops (⟨dst, .binOp op t x y u, ty, pos, after, none⟩ :: l) T S F Q = WpR C ops dst l T S F Q ((binV C.P op t (zG T x) (zG T y)).map fun v => .val v S 0) := vV rfl
theorem q29 {op : UnOp} {t : TypeId} {x : Operand} : WpL C ops (⟨dst, .unOp op t x, ty, pos, after, none⟩ :: l) T S F Q = WpR C ops dst l T S F Q ((unV op (zG T x)).map fun v => .val v S 0) := vV rfl
theorem zpc {t : TypeId} {x y : Operand} : WpL C ops (⟨dst, .indexAddr t x y, ty, pos, after, none⟩ :: l) T S F Q = WpR C ops dst l T S F Q ((qJ C.P S t (zG T x) (zG T y)).map fun v => .val v S 1) := vV rfl
theorem zwi {t : TypeId} {x y : Operand} : WpL C ops (⟨dst, .index t x y, ty, pos, after, none⟩ :: l) T S F Q = WpR C ops dst l T S F Q ((z4t C.P t (zG T x) (zG T y)).map fun v => .val v S 0) := vV rfl
theorem zdd {t : TypeId} {x : Operand} {f : Nat} : WpL C ops (⟨dst, .fieldAddr t x f, ty, pos, after, none⟩ :: l) T S F Q = WpR C ops dst l T S F Q ((zP C.P t f (zG T x)).map fun v => .val v S 0) := vV rfl
theorem zp3 {t : TypeId} {x : Operand} {f : Nat} : WpL C ops (⟨dst, .field t x f, ty, pos, after, none⟩ :: l) T S F Q = WpR C ops dst l T S F Q ((z3r C.P t f (zG T x)).map fun v => .val v S 0) := vV rfl
theorem zsh {t : TypeId} {x : Operand} : WpL C ops (⟨dst, .load t x, ty, pos, after, none⟩ :: l) T S F Q = WpR C ops dst l T S F Q ((jP C.P S t (zG T x)).map fun v => .val v S 1) := vV rfl
theorem zp9 {t : TypeId} {x y : Operand} : WpL C ops (⟨dst, .store t x y, ty, pos, after, none⟩ :: l) T S F Q = WpR C ops dst l T S F Q ((z1v C.P S t (zG T x) (zG T y)).map fun S' => .skip S' 3) := vV rfl
theorem zk9 {t u : TypeId} {x : Operand} : WpL C ops (⟨dst, .convert t u x, ty, pos, after, none⟩ :: l) T S F Q = WpR C ops dst l T S F Q ((jQ C.P S t u (zG T x)).map fun r => .val r.1 S r.2) := vV rfl
theorem zej {t : TypeId} {x y : Operand} : WpL C ops (⟨dst, .makeSlice t x y, ty, pos, after, none⟩ :: l) T S F Q = WpR C ops dst l T S F Q ((wU C.P S t (zG T x) (zG T y)).map fun r => .val r.1 r.2 2) := vV rfl
theorem zpl {t : TypeId} {x : Operand} {lo hi : Option Operand} : WpL C ops (⟨dst, .slice t x lo hi none, ty, pos, after, none⟩ :: l) T S F Q = WpR C ops dst l T S F Q ((qT C.P S t (zG T x) (lo.map (zG T)) (hi.map (zG T))).map fun v => .val v S 1) := vV rfl
theorem zmu {t : TypeId} {x k : Operand} {ok : Bool} : WpL C ops (⟨dst, .lookup t x k ok, ty, pos, after, none⟩ :: l) T S F Q = WpR C ops dst l T S F Q ((jR C.P S t (zG T x) (zG T k) ok).map fun v => .val v S 1) := vV rfl
theorem zdk {t : TypeId} {x k v : Operand} : WpL C ops (⟨dst, .mapUpdate t x k v, ty, pos, after, none⟩ :: l) T S F Q = WpR C ops dst l T S F Q ((qS C.P S t (zG T x) (zG T k) (zG T v)).map fun S' => .skip S' 3) := vV rfl
theorem zjp {b : Builtin} {args : Array Operand} {ts : Array TypeId} : WpL C ops (⟨dst, .call { callee := .builtin b, args := args, argTypes := ts }, ty, pos, after, none⟩ :: l) T S F Q = WpR C ops dst l T S F Q (zY C.P S b ts.toList (args.toList.map (zG T))) := vV rfl
theorem zoq {t : TypeId} {ps : Array (Nat × Operand)} : WpL C ops (⟨dst, .build t ps, ty, pos, after, none⟩ :: l) T S F Q = WpR C ops dst l T S F Q ((z1j C.P t (ps.toList.map fun p => (p.1, zG T p.2))).map fun v => .val v S 0) := vV rfl
theorem zl0 {x : Operand} {i : Nat} : WpL C ops (⟨dst, .extract x i, ty, pos, after, none⟩ :: l) T S F Q = WpR C ops dst l T S F Q (match zG T x with | .tup vs => (match vs[i]? with | some v => some (.val v S 0) | none => none) | _ => none) := vV rfl
end
end
inductive Fr where
 | seq (b : Code)
 | block (id : Nat)
 | loop (b : Code)
section
variable {C : Cfg}
def post (C : Cfg) : List Fr → Post → Post
 | [], Q => Q
 | .seq b :: k, Q => andThen (fun T S F => Wp C b T S F (post C k Q)) (post C k Q)
 | .block id :: k, Q => inBlock id (post C k Q)
 | .loop b :: k, Q => andThen (fun T S F => Wp C (.loop b) T S F (post C k Q)) (post C k Q)
theorem z3o {n m : Nat} {f : FuncId} {args : List V} {S : zA} {r r' : Out × zA × Nat} (h : kR C (run C n) f args S = some r) (h' : kR C (run C m) f args S = some r') : r = r' := by
 have h1 := zcx (Nat.le_max_left n m) h
 have h2 := zcx (Nat.le_max_right n m) h'
 rw [h1] at h2; exact Option.some.inj h2
section
variable {T : List V} {S : zA} {F : Dfs} {k : List Fr} {Q : Post}
theorem qQ {c : Code} : Wp C c T S F Q = Wp C c T S F (post C [] Q) := rfl
theorem zwv {a b : Code} : Wp C (.seq a b) T S F (post C k Q) = Wp C a T S F (post C (.seq b :: k) Q) := by
 apply propext
 constructor
 ·rintro ⟨n, x, T', S', F', h1, h2⟩
  cases n with
  | zero => simp [exec] at h1
  | succ n =>
   simp only [exec] at h1
   cases ha : exec C n a T S F with
   | none => simp [ha] at h1
   | some r =>
    obtain ⟨y, T2, S2, F2⟩ := r
    simp only [ha] at h1
    cases y with
    | norm => exact ⟨n, .norm, T2, S2, F2, ha, n, x, T', S', F', h1, h2⟩
    | _ =>
     simp only [Option.some.injEq, Prod.mk.injEq] at h1
     obtain ⟨rfl, rfl, rfl, rfl⟩ := h1
     exact ⟨n, _, _, _, _, ha, h2⟩
 ·exact Vm.wp_seq
theorem zo5 {id : Nat} {ops : Array Oper} : Wp C (.region id ops false) T S F Q = WpL C ops ops.toList T S F Q := by
 apply propext
 constructor
 ·rintro ⟨n, x, T', S', F', h1, h2⟩
  cases n with
  | zero => simp [exec] at h1
  | succ n => exact ⟨n, x, T', S', F', by simpa [exec] using h1, h2⟩
 ·exact Vm.wp_region
theorem zu2 {ops : Array Oper} {Q : Post} : WpL C ops [] T S F Q = Q .norm T S F := zug
theorem zvs {b : Code} : post C (.seq b :: k) Q .norm T S F = Wp C b T S F (post C k Q) := rfl
theorem zss {b : Code} : post C (.loop b :: k) Q .norm T S F = Wp C (.loop b) T S F (post C k Q) := rfl
theorem zql {id : Nat} : post C (.block id :: k) Q .norm T S F = post C k Q .norm T S F := rfl
theorem zhl {b : Code} {i : Nat} : post C (.seq b :: k) Q (.exit i) T S F = post C k Q (.exit i) T S F := rfl
theorem zef {b : Code} {i : Nat} : post C (.loop b :: k) Q (.exit i) T S F = post C k Q (.exit i) T S F := rfl
theorem z2u {id i : Nat} : post C (.block id :: k) Q (.exit i) T S F = if i = id then post C k Q .norm T S F else post C k Q (.exit i) T S F := rfl
theorem zjo {b : Code} : post C (.seq b :: k) Q .ret T S F = post C k Q .ret T S F := rfl
theorem zg4 {b : Code} : post C (.loop b :: k) Q .ret T S F = post C k Q .ret T S F := rfl
theorem zfj {id : Nat} : post C (.block id :: k) Q .ret T S F = post C k Q .ret T S F := rfl
theorem zk2 {b : Code} {v : V} : post C (.seq b :: k) Q (.pan v) T S F = post C k Q (.pan v) T S F := rfl
theorem zg6 {b : Code} {v : V} : post C (.loop b :: k) Q (.pan v) T S F = post C k Q (.pan v) T S F := rfl
theorem zeu {id : Nat} {v : V} : post C (.block id :: k) Q (.pan v) T S F = post C k Q (.pan v) T S F := rfl
theorem q0l {x : Ex} : post C [] Q x T S F = Q x T S F := rfl
theorem zd1 {c : Code} {x : Ex} (h : ∀ n T S F, exec C (n + 1) c T S F = some (x, T, S, F)) : Wp C c T S F Q = Q x T S F := by
 apply propext
 constructor
 ·rintro ⟨n, y, T', S', F', h1, h2⟩
  cases n with
  | zero => simp [exec] at h1
  | succ n =>
   rw [h, Option.some.injEq] at h1
   simp only [Prod.mk.injEq] at h1
   obtain ⟨rfl, rfl, rfl, rfl⟩ := h1
   exact h2
 ·exact fun hq => ⟨1, _, _, _, _, h 0 T S F, hq⟩
theorem zuv : Wp C .skip T S F Q = Q .norm T S F := zd1 fun _ _ _ _ => by simp [exec]
theorem zwp : Wp C .ret T S F Q = Q .ret T S F := zd1 fun _ _ _ _ => by simp [exec]
theorem zsg {id : Nat} : Wp C (.exit id) T S F Q = Q (.exit id) T S F := zd1 fun _ _ _ _ => by simp [exec]
theorem zpg {l : Nat} : Wp C (.label l) T S F Q = Q .norm T S F := zd1 fun _ _ _ _ => by simp [exec]
theorem zqg {id : Nat} {b : Code} : Wp C (.block id b) T S F (post C k Q) = Wp C b T S F (post C (.block id :: k) Q) := by
 apply propext
 constructor
 ·rintro ⟨n, x, T', S', F', h1, h2⟩
  cases n with
  | zero => simp [exec] at h1
  | succ n =>
   simp only [exec] at h1
   cases ha : exec C n b T S F with
   | none => simp [ha] at h1
   | some r =>
    obtain ⟨y, T2, S2, F2⟩ := r
    simp only [ha] at h1
    refine ⟨n, y, T2, S2, F2, ha, ?_⟩
    cases y with
    | exit i =>
     simp only at h1
     rw [z2u]
     split at h1 <;> (rename_i hi; simp only [Option.some.injEq, Prod.mk.injEq] at h1; obtain ⟨rfl, rfl, rfl, rfl⟩ := h1)
     ·rw [if_pos hi]; exact h2
     ·rw [if_neg hi]; exact h2
    | _ =>
     simp only [Option.some.injEq, Prod.mk.injEq] at h1
     obtain ⟨rfl, rfl, rfl, rfl⟩ := h1
     exact h2
 ·exact Vm.wp_block
theorem zq2 {b : Code} : Wp C (.scope b) T S F Q = Wp C b T S F Q := by
 apply propext
 constructor
 ·rintro ⟨n, x, T', S', F', h1, h2⟩
  cases n with
  | zero => simp [exec] at h1
  | succ n => exact ⟨n, x, T', S', F', by simpa [exec] using h1, h2⟩
 ·exact Vm.wp_scope
theorem qC {b : Code} (h : Wp C b T S F (post C (.loop b :: k) Q)) : Wp C (.loop b) T S F (post C k Q) := Vm.wp_loop h
def WpB (C : Cfg) (v : V) (a b : Code) (T : List V) (S : zA) (F : Dfs) (Q : Post) : Prop :=
 match v with
 | .d (.bool x) => (x = true → Wp C a T S F Q) ∧ (x = false → Wp C b T S F Q)
 | _ => False
theorem zrw {c : Operand} {a b : Code} : Wp C (.cond c a b) T S F Q = WpB C (zG T c) a b T S F Q := by
 apply propext
 constructor
 ·rintro ⟨n, x, T', S', F', h1, h2⟩
  cases n with
  | zero => simp [exec] at h1
  | succ n =>
   simp only [exec] at h1
   unfold WpB
   split at h1
   ·rename_i hv; rw [hv]; exact ⟨fun _ => ⟨n, x, T', S', F', h1, h2⟩, (fun h => by cases h)⟩
   ·rename_i hv; rw [hv]; exact ⟨(fun h => by cases h), fun _ => ⟨n, x, T', S', F', h1, h2⟩⟩
   ·cases h1
 ·intro h
  unfold WpB at h
  split at h
  ·rename_i x hv; exact Vm.wp_cond hv h.1 h.2
  ·exact h.elim
theorem ztl {a b : Code} : WpB C (.d (.bool true)) a b T S F Q = Wp C a T S F Q := by simp [WpB]
theorem zp6 {a b : Code} : WpB C (.d (.bool false)) a b T S F Q = Wp C b T S F Q := by simp [WpB]
theorem zq0 {x : D} : frz S zR (.d x) = some x := rfl
theorem zif {x : D} : qH S zR (.d x) = [] := rfl
theorem jI {ops : Array Oper} {dst : Option Tmp} {l : List Oper} {f : FuncId} {ds : List D} {v : V} (hs : C.shared f = false) (he : Ev C f ds (.ret v)) : WpR C ops dst l T S F Q (some (.enter f (ds.map .d))) = WpL C ops l (putT T dst v) S F Q := by
 obtain ⟨n, hn⟩ := he
 have hfz : ∀ ds : List D, allO (frz S zR) (ds.map V.d) = some ds := by
  intro ds
  induction ds with
  | nil => rfl
  | cons x r ih => simp only [List.map_cons, allO, ih, zq0]
 have hid : ∀ ds : List D, ((ds.map V.d).flatMap (qH S zR)).isEmpty = true := by
  intro ds
  induction ds with
  | nil => rfl
  | cons x r ih => simp only [List.map_cons, List.flatMap_cons, zif, List.nil_append]; exact ih
 have hc : kR C (run C n) f (ds.map .d) S = some (.ret v, S, 1) := by
  have hn' : answer C (run C n) f ds = some (.ret v) := hn
  unfold kR
  simp only [hs, Bool.false_eq_true, if_false, hfz, hn', hid, if_true]
 apply propext
 constructor
 ·rintro ⟨m, o, S', c, h1, h2⟩
  have := z3o h1 hc
  simp only [Prod.mk.injEq] at this
  obtain ⟨rfl, rfl, rfl⟩ := this
  exact h2
 ·exact fun h => ⟨n, _, _, _, hc, h⟩
end
end
section
variable {C : Cfg} {P : Program} {T : List V} {S : zA} {F : Dfs} {Q : Post}
def OwnS (S : zA) (v : V) (e : TypeId) (xs : List V) : Prop :=
 (v = .ts [] ∧ xs = []) ∨ ∃ id, v = .rs id 0 xs.length ∧ S[id]? = some (.row xs e)
theorem OwnS.nil {e : TypeId} : OwnS S (.ts []) e [] := .inl ⟨rfl, rfl⟩
def NotAt (v : V) (j : Nat) : Prop := ∀ off l, v ≠ .rs j off l
theorem NotAt.ts {xs : List D} {j : Nat} : NotAt (.ts xs) j := fun _ _ h => by cases h
theorem zZ {S : zA} {i : Nat} {o : Ob} (h : S[i]? = some o) : i < S.length := by
 rcases Nat.lt_or_ge i S.length with h' | h'
 ·exact h'
 ·simp [List.getElem?_eq_none h'] at h
theorem zkx {t e : TypeId} {v : V} {xs : List V} {d : D} (hu : P.underlying t = some (.slice e)) (hz : zOk P e = true) (hs : (sz P e).isSome = true) (ho : OwnS S v e xs) (hf : vN P e d = true) (hr : room P e (xs.length + 1) = true) :
  ∃ v' S' c, zW P S t t v (.ts [d]) = some (v', S', c) ∧ OwnS S' v' e (xs ++ [.d d]) ∧ (∀ j o, S[j]? = some o → NotAt v j → S'[j]? = some o ∧ NotAt v' j) ∧ S.length ≤ S'.length := by
 have hft : qD P e (.d d) = true := by
  unfold vN at hf; unfold qD
  simp only [Bool.and_eq_true] at hf ⊢
  refine ⟨⟨rfl, hf.1⟩, ?_⟩
  simpa [V.cells] using hf.2
 have hsrc : srcV P S e t (.ts [d]) = some [.d d] := by
  simp [srcV, hu, kU, hft, hs]
 rcases ho with ⟨rfl, rfl⟩ | ⟨id, rfl, h1⟩
 ·refine ⟨.rs S.length 0 1, S ++ [.row [.d d] e], 2, ?_, .inr ⟨S.length, rfl, by simp⟩, fun j o hj _ => ⟨?_, ?_⟩, by simp⟩
  ·simp only [zW, hu, hsrc, hz, if_true]
   have hr1 : room P e 1 = true := by simpa using hr
   simp [hr1]
  ·rw [List.getElem?_append_left (zZ hj)]; exact hj
  ·intro off l h
   have := zZ hj
   cases h; omega
 ·refine ⟨.rs S.length 0 (xs.length + 1), S.set id .dead ++ [.row (xs ++ [.d d]) e], 3, ?_, .inr ⟨S.length, by simp, by simp⟩, fun j o hj hn => ⟨?_, ?_⟩, by simp⟩
  ·simp only [zW, hu, hsrc, hz, if_true, h1]
   simp [hr]
  ·have hj' := zZ hj
   rw [List.getElem?_append_left (by simpa using hj'), List.getElem?_set_ne]
   ·exact hj
   ·rintro rfl; exact hn 0 _ rfl
  ·intro off l h
   have := zZ hj
   cases h; omega
theorem ziw {n : Nat} : ∀ l : List D, allO (frz S (n + 1)) (l.map V.d) = some l
 | [] => rfl
 | x :: r => by simp only [List.map_cons, allO, ziw r]; rfl
theorem zuu {e : TypeId} {v : V} {ds : List D} (ho : OwnS S v e (ds.map .d)) : frz S zR v = some (.sl ds) := by
 rcases ho with ⟨rfl, h⟩ | ⟨id, rfl, h1⟩
 ·have : ds = [] := by simpa using h
  subst this; rfl
 ·simp only [List.length_map]
  show (match S[id]? with
   | some (.row xs e) => if 0 + ds.length ≤ xs.length && (allO (frz S 11) xs).isSome then (allO (frz S 11) ((xs.drop 0).take ds.length)).map D.sl else none
   | some (.fz xs e) => if 0 + ds.length ≤ xs.length then some (D.sl ((xs.drop 0).take ds.length)) else none
   | _ => none) = _
  have h2 : ((ds.map V.d).drop 0).take ds.length = ds.map V.d := by rw [List.drop_zero, List.take_of_length_le (by simp)]
  simp only [h1, h2, ziw, List.length_map, Option.isSome_some, Bool.and_true, Option.map_some]
  simp
end
section
variable {P : Program} {S : zA}
theorem zmr {t tx : TypeId} {s x : V} : zY P S .append [t, tx] [s, x] = (zW P S t tx s x).map fun r => .val r.1 r.2.1 r.2.2 := rfl
theorem zcm {t tx : TypeId} {s x : V} : zY P S .copy [t, tx] [s, x] = (copyV P S t tx s x).map fun r => .val r.1 r.2 3 := rfl
theorem z86 {t e : TypeId} {xs : List D} (hu : P.underlying t = some (.slice e)) : zY P S .len [t] [.d (.sl xs)] = some (.val (.d (.int .i64 xs.length)) S 0) := by simp [zY, hu]
theorem zng {t e : TypeId} {xs : List D} (hu : P.underlying t = some (.slice e)) : zY P S .len [t] [.ts xs] = some (.val (.d (.int .i64 xs.length)) S 0) := by simp [zY, hu]
theorem zr0 {t e : TypeId} {i o n : Nat} (hu : P.underlying t = some (.slice e)) : zY P S .len [t] [.rs i o n] = some (.val (.d (.int .i64 n)) S 0) := by simp [zY, hu]
theorem zuz {t : TypeId} {s : List UInt8} (hu : P.underlying t = some .string) : zY P S .len [t] [.d (.str s)] = some (.val (.d (.int .i64 s.length)) S 0) := by simp [zY, hu]
theorem q09 {t e : TypeId} {xs : List D} {i : Nat} {y : D} (hu : P.underlying t = some (.slice e)) (hy : xs[i]? = some y) (hf : vN P e y = true) : qJ P S t (.d (.sl xs)) (.d (.int .i64 i)) = some (.d (.ptr y)) := by
 have h1 : i < xs.length := by
  rcases Nat.lt_or_ge i xs.length with h' | h'
  ·exact h'
  ·simp [List.getElem?_eq_none h'] at hy
 have h0 : (0 : Int) ≤ i := by omega
 have h2 : (i : Int) < xs.length := by omega
 simp only [qJ, intOf?, hu, h0, h2, and_self, if_true, Int.toNat_natCast, hy, hf]
theorem binI {op : BinOp} {t : TypeId} {k k' : IntKind} {a b : Int} : binV P op t (.d (.int k a)) (.d (.int k' b)) = (kN op k a k' b).map .d := rfl
theorem binS {op : BinOp} {t : TypeId} {a b : List UInt8} : binV P op t (.d (.str a)) (.d (.str b)) = (z3g op a b).map .d := rfl
theorem zxq {k : IntKind} {a b : Int} : kN .add k a k b = some (.int k (k.wrap (a + b))) := by simp [kN]
theorem zvv {k : IntKind} {a b : Int} : kN .sub k a k b = some (.int k (k.wrap (a - b))) := by simp [kN]
theorem zxc {k : IntKind} {a b : Int} : kN .mul k a k b = some (.int k (k.wrap (a * b))) := by simp [kN]
theorem zyy {k : IntKind} {a b : Int} : kN .lss k a k b = some (.bool (decide (a < b))) := by simp [kN]
theorem zw1 {k : IntKind} {a b : Int} : kN .leq k a k b = some (.bool (decide (a ≤ b))) := by simp [kN]
theorem zyt {k : IntKind} {a b : Int} : kN .gtr k a k b = some (.bool (decide (a > b))) := by simp [kN]
theorem zym {k : IntKind} {a b : Int} : kN .geq k a k b = some (.bool (decide (a ≥ b))) := by simp [kN]
theorem wrap64 {a : Int} (h : -9223372036854775808 ≤ a ∧ a ≤ 9223372036854775807) : IntKind.i64.wrap a = a := IntWalk.i64_in _ (by omega)
end
section
variable {C : Cfg} {ops : Array Oper} {dst : Option Tmp} {ty : TypeId} {pos : String} {after : Array Edge} {l : List Oper} {T : List V} {S : zA} {F : Dfs} {Q : Post}
theorem z62 {t : TypeId} {n : Nat} {ps : Array (Nat × Operand)} {d2 : Option Tmp} {c : Call} {ty2 : TypeId} {pos2 : String} {after2 : Array Edge} {g2 : Option (Nat × Bool)} :
  WpL C ops (⟨dst, .buildSlice t n ps, ty, pos, after, none⟩ :: ⟨d2, .call c, ty2, pos2, after2, g2⟩ :: l) T S F Q = WpR C ops dst (⟨d2, .call c, ty2, pos2, after2, g2⟩ :: l) T S F Q (opV C.P S T ⟨dst, .buildSlice t n ps, ty, pos, after, none⟩) := z9a rfl
end
section
variable (C : Cfg) (ops : Array Oper) (base : Nat)
def z9l (rd : List Nat) (i c : Nat) : Prop := 2 < c → (rd.all fun r => ((befs ops).getD i 0).testBit r) = true
def WpE (F : Dfs) (Q : Post) (K : List Nat → List (Nat × Nat) → List V → zA → Prop) (rd : List Nat) (cs : List (Nat × Nat)) (i : Nat) (dst : Option Tmp) (T : List V) (S : zA) : Option Rs → Prop
 | some (.val v S' c) => z9l ops rd i (num2 c) ∧ K (if num2 c = 1 then i :: rd else rd) (cs ++ [(i, num2 c)]) (putT T dst v) S'
 | some (.skip S' _) => z9l ops rd i 3 ∧ K rd (cs ++ [(i, 3)]) (putT T dst (.tup [])) S'
 | some (.enter f args) => ∃ n v S' c, kR C (run C n) f args S = some (.ret v, S', c) ∧ z9l ops rd i (num2 c) ∧ K (if num2 c = 1 then i :: rd else rd) (cs ++ [(i, num2 c)]) (putT T dst v) S'
 | _ => False
def WpA (K : List (Nat × Nat) → List V → zA → Prop) (cs : List (Nat × Nat)) (i : Nat) (dst : Option Tmp) (T : List V) (S : zA) : Option (Ob × (Nat → V)) → Prop
 | some (ob, f) => S[base + i]? = some .hole ∧ K (cs ++ [(i, 2)]) (putT T dst (f (base + i))) (S.set (base + i) ob)
 | none => False
def WpD (F : Dfs) (Q : Post) : List Nat → List (Nat × Nat) → List Nat → List V → zA → Prop
 | rd, cs, [], T, S => z3z ops cs = true ∧ Q .norm T S F
 | rd, cs, i :: is, T, S => match ops[i]? with
  | none => False
  | some o => match qB ops T o with
   | none => False
   | some false => WpD F Q rd (cs ++ [(i, 0)]) is (putT T o.dst (.tup [])) S
   | some true => if kS o = true then WpA base (fun cs T S => WpD F Q rd cs is T S) cs i o.dst T S (addO C.P T o)
    else WpE C ops F Q (fun rd cs T S => WpD F Q rd cs is T S) rd cs i o.dst T S (opV C.P S T o)
end
section
variable {C : Cfg} {ops : Array Oper} {base : Nat} {F : Dfs} {Q : Post}
theorem zqr {call : wA} {b : List Nat} {i : Nat} {S : zA} {rd : List Nat} {ws : List (Nat × List V × V)} (hw : ws.map (·.1) = rd) (h : (rd.all fun r => (b.getD i 0).testBit r) = true) : ws.all (kG C call ops b base i S) = true := by
 subst hw
 rw [List.all_eq_true] at h ⊢
 intro w hw
 have := h w.1 (List.mem_map.2 ⟨w, hw, rfl⟩)
 unfold kG
 rw [this]; rfl
theorem zww : ∀ {is : List Nat} {rd : List Nat} {cs : List (Nat × Nat)} {T : List V} {S : zA}, WpD C ops base F Q rd cs is T S → ∀ ws : List (Nat × List V × V), ws.map (·.1) = rd → ∃ n T' S' cs', seqC C (run C n) ops (befs ops) base ws is T S = some (T', S', cs') ∧ z3z ops (cs ++ cs') = true ∧ Q .norm T' S' F
 | [], rd, cs, T, S, h, ws, hw => ⟨0, T, S, [], rfl, by simpa [WpD] using h.1, h.2⟩
 | i :: is, rd, cs, T, S, h, ws, hw => by
  have go : ∀ (n : Nat) (o : Oper) (v : V) (S' : zA) (c : Nat), ops[i]? = some o → effC C (run C n) ops (base + i) o T S = some (v, S', c) → z9l ops rd i c → WpD C ops base F Q (if c = 1 then i :: rd else rd) (cs ++ [(i, c)]) is (putT T o.dst v) S' →
    ∃ n T' S' cs', seqC C (run C n) ops (befs ops) base ws (i :: is) T S = some (T', S', cs') ∧ z3z ops (cs ++ cs') = true ∧ Q .norm T' S' F := by
   intro n o v S' c ho he hb hd
   obtain ⟨m, T2, S2, cs2, h1, h2, h3⟩ := zww hd (if c = 1 then (i, T, v) :: ws else ws) (by split <;> simp [hw])
   refine ⟨max n m, T2, S2, (i, c) :: cs2, ?_, by simpa using h2, h3⟩
   have he' := z07 (z4l C (Nat.le_max_left n m)) he
   have h1' := z6q (z4l C (Nat.le_max_right n m)) h1
   simp only [seqC, ho, he']
   rw [if_neg, h1']
   rintro ⟨hc, hall⟩
   rw [zqr hw (hb hc)] at hall
   cases hall
  simp only [WpD] at h
  cases ho : ops[i]? with
  | none => simp [ho] at h
  | some o =>
   simp only [ho] at h
   cases hwt : qB ops T o with
   | none => simp [hwt] at h
   | some b =>
    simp only [hwt] at h
    cases b with
    | false => exact go 0 o (.tup []) S 0 ho (by simp [effC, hwt]) (fun hc => by omega) h
    | true =>
     cases hk : kS o with
     | true =>
      simp only [hk, if_true] at h
      cases hadd : addO C.P T o with
      | none => simp [hadd, WpA] at h
      | some q =>
       obtain ⟨ob, f⟩ := q
       simp only [hadd, WpA] at h
       exact go 0 o (f (base + i)) (S.set (base + i) ob) 2 ho (by simp [effC, hwt, hk, hadd, h.1]) (fun hc => by omega) h.2
     | false =>
      simp only [hk, Bool.false_eq_true, if_false] at h
      cases hop : opV C.P S T o with
      | none => simp [hop, WpE] at h
      | some r =>
       simp only [hop] at h
       cases r with
       | val v S' c => exact go 0 o v S' (num2 c) ho (by simp [effC, hwt, hk, hop]) h.1 h.2
       | skip S' c => exact go 0 o (.tup []) S' 3 ho (by simp [effC, hwt, hk, hop]) h.1 h.2
       | enter f args =>
        obtain ⟨n, v, S', c, h1, h2, h3⟩ := h
        exact go n o v S' (num2 c) ho (by simp [effC, hwt, hk, hop, h1]) h2 h3
       | dfr f args => exact h.elim
       | pan v => exact h.elim
theorem jA {id : Nat} {T : List V} {S : zA} {is : List Nat} {h : Nat} (ho : z29 C.shared ops = is) (hh : z03 ops = h) (hd : WpD C ops S.length F Q [] [] is T (S ++ List.replicate h .hole)) : Wp C (.region id ops true) T S F Q := by
 subst ho; subst hh
 obtain ⟨n, T', S', cs', h1, h2, h3⟩ := zww hd [] rfl
 exact ⟨n + 1, .norm, T', S', F, by simp only [exec, h1]; rw [if_pos (by simpa using h2)], h3⟩
def WpW (K : Prop) (K' : Prop) : Option Bool → Prop
 | some true => K
 | some false => K'
 | none => False
theorem ztk {rd : List Nat} {cs : List (Nat × Nat)} {i : Nat} {is : List Nat} {T : List V} {S : zA} : WpD C ops base F Q rd cs (i :: is) T S = match ops[i]? with
  | none => False
  | some o => match qB ops T o with
   | none => False
   | some false => WpD C ops base F Q rd (cs ++ [(i, 0)]) is (putT T o.dst (.tup [])) S
   | some true => if kS o = true then WpA base (fun cs T S => WpD C ops base F Q rd cs is T S) cs i o.dst T S (addO C.P T o)
    else WpE C ops F Q (fun rd cs T S => WpD C ops base F Q rd cs is T S) rd cs i o.dst T S (opV C.P S T o) := rfl
end
section
variable {C : Cfg} {ops : Array Oper} {dst : Option Tmp} {op : Op} {ty : TypeId} {pos : String} {after : Array Edge} {l : List Oper} {T : List V} {S : zA} {F : Dfs} {Q : Post}
theorem zp8 {g : Nat × Bool} (hn : zep ⟨dst, op, ty, pos, after, none⟩ = true) : WpL C ops (⟨dst, op, ty, pos, after, some g⟩ :: l) T S F Q = WpW (WpL C ops (⟨dst, op, ty, pos, after, none⟩ :: l) T S F Q) (WpL C ops l (putT T dst (.tup [])) S F Q) ((qZ ops T g.1).map (· == some g.2)) := by
 obtain ⟨j, w⟩ := g
 have hp : z1h C.P T ⟨dst, op, ty, pos, after, some (j, w)⟩ l = none := z1w hn
 have hp' : z1h C.P T ⟨dst, op, ty, pos, after, none⟩ l = none := z1w hn
 have hopv : opV C.P S T ⟨dst, op, ty, pos, after, some (j, w)⟩ = opV C.P S T ⟨dst, op, ty, pos, after, none⟩ := by cases op <;> rfl
 apply propext
 cases hy : (qZ ops T j).map (· == some w) with
 | none =>
  simp only [WpW, iff_false]
  rintro ⟨n, x, T', S', F', h1, h2⟩
  simp [seqV, hp, qB, hy] at h1
 | some b =>
  cases b with
  | false =>
   simp only [WpW]
   constructor
   ·rintro ⟨n, x, T', S', F', h1, h2⟩
    simp only [seqV, hp, qB, hy] at h1
    exact ⟨n, x, T', S', F', h1, h2⟩
   ·rintro ⟨n, x, T', S', F', h1, h2⟩
    exact ⟨n, x, T', S', F', by simp only [seqV, hp, qB, hy]; exact h1, h2⟩
  | true =>
   simp only [WpW]
   constructor
   ·rintro ⟨n, x, T', S', F', h1, h2⟩
    simp only [seqV, hp, qB, hy, hopv] at h1
    exact ⟨n, x, T', S', F', by simp only [seqV, hp', qB]; exact h1, h2⟩
   ·rintro ⟨n, x, T', S', F', h1, h2⟩
    simp only [seqV, hp', qB] at h1
    exact ⟨n, x, T', S', F', by simp only [seqV, hp, qB, hy, hopv]; exact h1, h2⟩
def WpG (C : Cfg) (ops : Array Oper) (dst : Option Tmp) (op : Op) (ty : TypeId) (pos : String) (after : Array Edge) (l : List Oper) (T : List V) (S : zA) (F : Dfs) (Q : Post) : Option Bool → Prop
 | some true => WpL C ops (⟨dst, op, ty, pos, after, none⟩ :: l) T S F Q
 | some false => WpL C ops l (putT T dst (.tup [])) S F Q
 | none => False
theorem kH {g : Nat × Bool} (hn : zep ⟨dst, op, ty, pos, after, none⟩ = true) : WpL C ops (⟨dst, op, ty, pos, after, some g⟩ :: l) T S F Q = WpG C ops dst op ty pos after l T S F Q ((qZ ops T g.1).map (· == some g.2)) := by
 rw [zp8 hn]
 cases (qZ ops T g.1).map (· == some g.2) with
 | none => rfl
 | some b => cases b <;> rfl
end
section
variable {C : Cfg} {ops : Array Oper} {dst : Option Tmp} {ty : TypeId} {pos : String} {after : Array Edge} {l : List Oper} {T : List V} {S S' : zA} {F : Dfs} {Q : Post} {k : List Fr}
theorem zqx {g : FuncId} {args : Array Operand} {ts : Array TypeId} : WpL C ops (⟨dst, .call { callee := .value (.func g), args := args, argTypes := ts }, ty, pos, after, none⟩ :: l) T S F Q = WpR C ops dst l T S F Q (if (args.toList.map (zG T)).all V.one && (zF C.P g).isSome then some (.enter g ([] ++ args.toList.map (zG T) ++ [])) else none) := vV rfl
theorem zse {c a b : Operand} : WpL C ops (⟨dst, .pick c a b, ty, pos, after, none⟩ :: l) T S F Q = WpR C ops dst l T S F Q (match zG T c with | .d (.bool true) => some (.val (zG T a) S 0) | .d (.bool false) => some (.val (zG T b) S 0) | _ => none) := vV rfl
theorem zfz {x : Operand} : WpL C ops (⟨dst, .nilCheck x, ty, pos, after, none⟩ :: l) T S F Q = WpR C ops dst l T S F Q (match zG T x with | .ref i ix off => some (.val (.ref i ix off) S 0) | .d (.ptr x) => some (.val (.d (.ptr x)) S 0) | .fn (.func g) a b => some (.val (.fn (.func g) a b) S 0) | _ => none) := vV rfl
theorem zpd {x : Operand} {g : Nat × Bool} : WpL C ops (⟨dst, .move x, ty, pos, after, some g⟩ :: l) T S F Q = WpG C ops dst (.move x) ty pos after l T S F Q ((qZ ops T g.1).map (· == some g.2)) := kH rfl
theorem zjy {x : Operand} {g : Nat × Bool} : WpL C ops (⟨dst, .assign x, ty, pos, after, some g⟩ :: l) T S F Q = WpG C ops dst (.assign x) ty pos after l T S F Q ((qZ ops T g.1).map (· == some g.2)) := kH rfl
theorem zu9 {op : BinOp} {t u : TypeId} {x y : Operand} {g : Nat × Bool} : WpL C ops (⟨dst, .binOp op t x y u, ty, pos, after, some g⟩ :: l) T S F Q = WpG C ops dst (.binOp op t x y u) ty pos after l T S F Q ((qZ ops T g.1).map (· == some g.2)) := kH rfl
theorem zzt {op : UnOp} {t : TypeId} {x : Operand} {g : Nat × Bool} : WpL C ops (⟨dst, .unOp op t x, ty, pos, after, some g⟩ :: l) T S F Q = WpG C ops dst (.unOp op t x) ty pos after l T S F Q ((qZ ops T g.1).map (· == some g.2)) := kH rfl
theorem zny {t : TypeId} {x y : Operand} {g : Nat × Bool} : WpL C ops (⟨dst, .indexAddr t x y, ty, pos, after, some g⟩ :: l) T S F Q = WpG C ops dst (.indexAddr t x y) ty pos after l T S F Q ((qZ ops T g.1).map (· == some g.2)) := kH rfl
theorem zuw {t : TypeId} {x y : Operand} {g : Nat × Bool} : WpL C ops (⟨dst, .index t x y, ty, pos, after, some g⟩ :: l) T S F Q = WpG C ops dst (.index t x y) ty pos after l T S F Q ((qZ ops T g.1).map (· == some g.2)) := kH rfl
theorem zcc {t : TypeId} {x : Operand} {f : Nat} {g : Nat × Bool} : WpL C ops (⟨dst, .fieldAddr t x f, ty, pos, after, some g⟩ :: l) T S F Q = WpG C ops dst (.fieldAddr t x f) ty pos after l T S F Q ((qZ ops T g.1).map (· == some g.2)) := kH rfl
theorem zmv {t : TypeId} {x : Operand} {f : Nat} {g : Nat × Bool} : WpL C ops (⟨dst, .field t x f, ty, pos, after, some g⟩ :: l) T S F Q = WpG C ops dst (.field t x f) ty pos after l T S F Q ((qZ ops T g.1).map (· == some g.2)) := kH rfl
theorem zqv {t : TypeId} {x : Operand} {g : Nat × Bool} : WpL C ops (⟨dst, .load t x, ty, pos, after, some g⟩ :: l) T S F Q = WpG C ops dst (.load t x) ty pos after l T S F Q ((qZ ops T g.1).map (· == some g.2)) := kH rfl
theorem zg7 {t u : TypeId} {x : Operand} {g : Nat × Bool} : WpL C ops (⟨dst, .convert t u x, ty, pos, after, some g⟩ :: l) T S F Q = WpG C ops dst (.convert t u x) ty pos after l T S F Q ((qZ ops T g.1).map (· == some g.2)) := kH rfl
theorem zls {t : TypeId} {x : Operand} {lo hi : Option Operand} {g : Nat × Bool} : WpL C ops (⟨dst, .slice t x lo hi none, ty, pos, after, some g⟩ :: l) T S F Q = WpG C ops dst (.slice t x lo hi none) ty pos after l T S F Q ((qZ ops T g.1).map (· == some g.2)) := kH rfl
theorem zjv {t : TypeId} {x k : Operand} {ok : Bool} {g : Nat × Bool} : WpL C ops (⟨dst, .lookup t x k ok, ty, pos, after, some g⟩ :: l) T S F Q = WpG C ops dst (.lookup t x k ok) ty pos after l T S F Q ((qZ ops T g.1).map (· == some g.2)) := kH rfl
theorem zpw {c : Call} {g : Nat × Bool} : WpL C ops (⟨dst, .call c, ty, pos, after, some g⟩ :: l) T S F Q = WpG C ops dst (.call c) ty pos after l T S F Q ((qZ ops T g.1).map (· == some g.2)) := kH rfl
theorem zhe {x : Operand} {i : Nat} {g : Nat × Bool} : WpL C ops (⟨dst, .extract x i, ty, pos, after, some g⟩ :: l) T S F Q = WpG C ops dst (.extract x i) ty pos after l T S F Q ((qZ ops T g.1).map (· == some g.2)) := kH rfl
theorem zok {c a b : Operand} {g : Nat × Bool} : WpL C ops (⟨dst, .pick c a b, ty, pos, after, some g⟩ :: l) T S F Q = WpG C ops dst (.pick c a b) ty pos after l T S F Q ((qZ ops T g.1).map (· == some g.2)) := kH rfl
theorem znx {t : TypeId} {ps : Array (Nat × Operand)} {g : Nat × Bool} : WpL C ops (⟨dst, .build t ps, ty, pos, after, some g⟩ :: l) T S F Q = WpG C ops dst (.build t ps) ty pos after l T S F Q ((qZ ops T g.1).map (· == some g.2)) := kH rfl
theorem zeo {x : Operand} {g : Nat × Bool} : WpL C ops (⟨dst, .nilCheck x, ty, pos, after, some g⟩ :: l) T S F Q = WpG C ops dst (.nilCheck x) ty pos after l T S F Q ((qZ ops T g.1).map (· == some g.2)) := kH rfl
theorem z5w {id : Nat} : post C (.block id :: k) Q (.exit id) T S F = post C k Q .norm T S F := by rw [z2u, if_pos rfl]
theorem z8d {id i : Nat} (h : i ≠ id) : post C (.block id :: k) Q (.exit i) T S F = post C k Q (.exit i) T S F := by rw [z2u, if_neg h]
theorem zu7 {op : Op} : WpG C ops dst op ty pos after l T S F Q (some true) = WpL C ops (⟨dst, op, ty, pos, after, none⟩ :: l) T S F Q := rfl
theorem zpj {op : Op} : WpG C ops dst op ty pos after l T S F Q (some false) = WpL C ops l (putT T dst (.tup [])) S F Q := rfl
end
theorem zs4 {T : List V} {k : IntKind} {n : Int} : zG T (.const (.int k n)) = .d (.int k n) := rfl
theorem zph {T : List V} {b : Bool} : zG T (.const (.bool b)) = .d (.bool b) := rfl
theorem zt7 {T : List V} {s : ByteArray} : zG T (.const (.string s)) = .d (.str (strOf s)) := rfl
theorem zs8 {T : List V} : zG T (.const (.slice none 0 0)) = .ts [] := rfl
theorem zqb {T : List V} : zG T (.const (.map none)) = .d .nilm := rfl
theorem zqa {T : List V} : zG T (.const (.pointer none)) = .d .nilp := rfl
theorem znl {T : List V} {f : FuncId} : zG T (.func f) = .fn (.func f) [] [] := rfl
theorem ztt {k : IntKind} {a b : Int} : kN .eql k a k b = some (.bool (decide (a = b))) := by simp [kN]; rfl
theorem zto {k : IntKind} {a b : Int} : kN .neq k a k b = some (.bool (decide (a ≠ b))) := by simp [kN]; rfl
def bs1 (P : Program) (S : zA) (t : TypeId) (v : V) : Option Rs :=
 match P.underlying t with
 | some (.slice e) => match zeroV P e, sz P e with
  | some z, some k => if qD P e z = true ∧ qD P e v = true ∧ k ≤ 16777216 ∧ k ≠ 0 then
    match asD v with
    | some d => some (.val (.ts [d]) S 0)
    | none => some (.val (.rs S.length 0 1) (S ++ [.row [v] e]) 2)
   else none
  | _, _ => none
 | _ => none
theorem zzg {P : Program} {S : zA} {T : List V} {t : TypeId} {x : Operand} {dst : Option Tmp} {ty : TypeId} {pos : String} {after : Array Edge} {g : Option (Nat × Bool)} : opV P S T ⟨dst, .buildSlice t 1 #[(0, x)], ty, pos, after, g⟩ = bs1 P S t (zG T x) := by
 simp only [opV, bs1]
 cases P.underlying t with
 | none => rfl
 | some td =>
  cases td <;> try rfl
  rename_i e
  cases hz : zeroV P e with
  | none => simp only [hz]
  | some z =>
   cases hk : sz P e with
   | none => simp only [hz, hk]
   | some k =>
    simp only [hz, hk, litV, List.map_cons, List.map_nil, List.foldl_cons, List.foldl_nil, List.replicate_succ, List.replicate_zero, List.set_cons_zero, allO, List.all_cons, List.all_nil, Bool.and_true, Nat.one_mul]
    by_cases h : qD P e z = true ∧ qD P e (zG T x) = true ∧ k ≤ 16777216 ∧ k ≠ 0
    ·rw [if_pos h, if_pos (by simp [h])]
     cases asD (zG T x) <;> rfl
    ·rw [if_neg h, if_neg]
     simpa [and_assoc] using h
theorem q1k {f : V → Bool} {a : V} {l : List V} : (a :: l).all f = (f a && l.all f) := rfl
theorem q15 {f : V → Bool} : ([] : List V).all f = true := rfl
theorem z19 {b : Bool} : unV .not (.d (.bool b)) = some (.d (.bool (!b))) := rfl
theorem q0r {x : D} : V.one (.d x) = true := rfl
theorem zyu {xs : List D} : V.one (.ts xs) = true := rfl
theorem zvm {i o n : Nat} : V.one (.rs i o n) = true := rfl
theorem zv9 {xs : List V} : V.one (.agg xs) = true := rfl
theorem zuk {i o n : Nat} : V.one (.ref i o n) = true := rfl
theorem zx2 {i : Nat} : V.one (.mr i) = true := rfl
theorem zzp {f : Fn} {a b : List V} : V.one (.fn f a b) = true := rfl
theorem q2a {p : Prop} [Decidable p] (h : p) : decide p = true := decide_eq_true h
theorem q2k {p : Prop} [Decidable p] (h : ¬ p) : decide p = false := decide_eq_false h
section
variable {C : Cfg}
theorem vmp :
 (∀ {T : List V} {S : zA} {F : Dfs} {k : List Fr} {Q : Post} {a b : Code}, Wp C (.seq a b) T S F (post C k Q) = Wp C a T S F (post C (.seq b :: k) Q)) ∧
 (∀ {T : List V} {S : zA} {F : Dfs} {Q : Post} {id : Nat} {ops : Array Oper}, Wp C (.region id ops false) T S F Q = WpL C ops ops.toList T S F Q) ∧
 (∀ {T : List V} {S : zA} {F : Dfs} {ops : Array Oper} {Q : Post}, WpL C ops [] T S F Q = Q .norm T S F) ∧
 (∀ {T : List V} {S : zA} {F : Dfs} {k : List Fr} {Q : Post} {b : Code}, post C (.seq b :: k) Q .norm T S F = Wp C b T S F (post C k Q)) ∧
 (∀ {T : List V} {S : zA} {F : Dfs} {k : List Fr} {Q : Post} {b : Code} {i : Nat}, post C (.seq b :: k) Q (.exit i) T S F = post C k Q (.exit i) T S F) ∧
 (∀ {T : List V} {S : zA} {F : Dfs} {k : List Fr} {Q : Post} {b : Code}, post C (.seq b :: k) Q .ret T S F = post C k Q .ret T S F) ∧
 (∀ {T : List V} {S : zA} {F : Dfs} {k : List Fr} {Q : Post} {b : Code} {v : V}, post C (.seq b :: k) Q (.pan v) T S F = post C k Q (.pan v) T S F) ∧
 (∀ {T : List V} {S : zA} {F : Dfs} {k : List Fr} {Q : Post} {b : Code}, post C (.loop b :: k) Q .norm T S F = Wp C (.loop b) T S F (post C k Q)) ∧
 (∀ {T : List V} {S : zA} {F : Dfs} {k : List Fr} {Q : Post} {b : Code} {i : Nat}, post C (.loop b :: k) Q (.exit i) T S F = post C k Q (.exit i) T S F) ∧
 (∀ {T : List V} {S : zA} {F : Dfs} {k : List Fr} {Q : Post} {b : Code}, post C (.loop b :: k) Q .ret T S F = post C k Q .ret T S F) ∧
 (∀ {T : List V} {S : zA} {F : Dfs} {k : List Fr} {Q : Post} {b : Code} {v : V}, post C (.loop b :: k) Q (.pan v) T S F = post C k Q (.pan v) T S F) ∧
 (∀ {T : List V} {S : zA} {F : Dfs} {k : List Fr} {Q : Post} {id : Nat}, post C (.block id :: k) Q .norm T S F = post C k Q .norm T S F) ∧
 (∀ {T : List V} {S : zA} {F : Dfs} {k : List Fr} {Q : Post} {id : Nat}, post C (.block id :: k) Q .ret T S F = post C k Q .ret T S F) ∧
 (∀ {T : List V} {S : zA} {F : Dfs} {k : List Fr} {Q : Post} {id : Nat} {v : V}, post C (.block id :: k) Q (.pan v) T S F = post C k Q (.pan v) T S F) ∧
 (∀ {T : List V} {S : zA} {F : Dfs} {k : List Fr} {Q : Post} {id : Nat}, post C (.block id :: k) Q (.exit id) T S F = post C k Q .norm T S F) ∧
 (∀ {T : List V} {S : zA} {F : Dfs} {k : List Fr} {Q : Post} {id i : Nat} (h : i ≠ id), post C (.block id :: k) Q (.exit i) T S F = post C k Q (.exit i) T S F) ∧
 (∀ {T : List V} {S : zA} {F : Dfs} {Q : Post} {x : Ex}, post C [] Q x T S F = Q x T S F) ∧
 (∀ {T : List V} {S : zA} {F : Dfs} {Q : Post}, Wp C .skip T S F Q = Q .norm T S F) ∧
 (∀ {T : List V} {S : zA} {F : Dfs} {Q : Post}, Wp C .ret T S F Q = Q .ret T S F) ∧
 (∀ {T : List V} {S : zA} {F : Dfs} {Q : Post} {id : Nat}, Wp C (.exit id) T S F Q = Q (.exit id) T S F) ∧
 (∀ {T : List V} {S : zA} {F : Dfs} {Q : Post} {l : Nat}, Wp C (.label l) T S F Q = Q .norm T S F) ∧
 (∀ {T : List V} {S : zA} {F : Dfs} {k : List Fr} {Q : Post} {id : Nat} {b : Code}, Wp C (.block id b) T S F (post C k Q) = Wp C b T S F (post C (.block id :: k) Q)) ∧
 (∀ {T : List V} {S : zA} {F : Dfs} {Q : Post} {b : Code}, Wp C (.scope b) T S F Q = Wp C b T S F Q) ∧
 (∀ {T : List V} {S : zA} {F : Dfs} {Q : Post} {c : Operand} {a b : Code}, Wp C (.cond c a b) T S F Q = WpB C (zG T c) a b T S F Q) ∧
 (∀ {ops : Array Oper} {dst : Option Tmp} {ty : TypeId} {pos : String} {after : Array Edge} {l : List Oper} {T : List V} {S : zA} {F : Dfs} {Q : Post} {x : Operand}, WpL C ops (⟨dst, .move x, ty, pos, after, none⟩ :: l) T S F Q = WpL C ops l (putT T dst (zG T x)) S F Q) ∧
 (∀ {ops : Array Oper} {dst : Option Tmp} {ty : TypeId} {pos : String} {after : Array Edge} {l : List Oper} {T : List V} {S : zA} {F : Dfs} {Q : Post} {x : Operand}, WpL C ops (⟨dst, .assign x, ty, pos, after, none⟩ :: l) T S F Q = WpL C ops l (putT T dst (zG T x)) S F Q) ∧
 (∀ {ops : Array Oper} {dst : Option Tmp} {ty : TypeId} {pos : String} {after : Array Edge} {l : List Oper} {T : List V} {S : zA} {F : Dfs} {Q : Post} {op : BinOp} {t u : TypeId} {x y : Operand}, WpL C ops (⟨dst, .binOp op t x y u, ty, pos, after, none⟩ :: l) T S F Q = WpR C ops dst l T S F Q ((binV C.P op t (zG T x) (zG T y)).map fun v => .val v S 0)) ∧
 (∀ {ops : Array Oper} {dst : Option Tmp} {ty : TypeId} {pos : String} {after : Array Edge} {l : List Oper} {T : List V} {S : zA} {F : Dfs} {Q : Post} {op : UnOp} {t : TypeId} {x : Operand}, WpL C ops (⟨dst, .unOp op t x, ty, pos, after, none⟩ :: l) T S F Q = WpR C ops dst l T S F Q ((unV op (zG T x)).map fun v => .val v S 0)) ∧
 (∀ {ops : Array Oper} {dst : Option Tmp} {ty : TypeId} {pos : String} {after : Array Edge} {l : List Oper} {T : List V} {S : zA} {F : Dfs} {Q : Post} {t : TypeId} {x y : Operand}, WpL C ops (⟨dst, .indexAddr t x y, ty, pos, after, none⟩ :: l) T S F Q = WpR C ops dst l T S F Q ((qJ C.P S t (zG T x) (zG T y)).map fun v => .val v S 1)) ∧
 (∀ {ops : Array Oper} {dst : Option Tmp} {ty : TypeId} {pos : String} {after : Array Edge} {l : List Oper} {T : List V} {S : zA} {F : Dfs} {Q : Post} {t : TypeId} {x y : Operand}, WpL C ops (⟨dst, .index t x y, ty, pos, after, none⟩ :: l) T S F Q = WpR C ops dst l T S F Q ((z4t C.P t (zG T x) (zG T y)).map fun v => .val v S 0)) ∧
 (∀ {ops : Array Oper} {dst : Option Tmp} {ty : TypeId} {pos : String} {after : Array Edge} {l : List Oper} {T : List V} {S : zA} {F : Dfs} {Q : Post} {t : TypeId} {x : Operand} {f : Nat}, WpL C ops (⟨dst, .fieldAddr t x f, ty, pos, after, none⟩ :: l) T S F Q = WpR C ops dst l T S F Q ((zP C.P t f (zG T x)).map fun v => .val v S 0)) ∧
 (∀ {ops : Array Oper} {dst : Option Tmp} {ty : TypeId} {pos : String} {after : Array Edge} {l : List Oper} {T : List V} {S : zA} {F : Dfs} {Q : Post} {t : TypeId} {x : Operand} {f : Nat}, WpL C ops (⟨dst, .field t x f, ty, pos, after, none⟩ :: l) T S F Q = WpR C ops dst l T S F Q ((z3r C.P t f (zG T x)).map fun v => .val v S 0)) ∧
 (∀ {ops : Array Oper} {dst : Option Tmp} {ty : TypeId} {pos : String} {after : Array Edge} {l : List Oper} {T : List V} {S : zA} {F : Dfs} {Q : Post} {t : TypeId} {x : Operand}, WpL C ops (⟨dst, .load t x, ty, pos, after, none⟩ :: l) T S F Q = WpR C ops dst l T S F Q ((jP C.P S t (zG T x)).map fun v => .val v S 1)) ∧
 (∀ {ops : Array Oper} {dst : Option Tmp} {ty : TypeId} {pos : String} {after : Array Edge} {l : List Oper} {T : List V} {S : zA} {F : Dfs} {Q : Post} {t : TypeId} {x y : Operand}, WpL C ops (⟨dst, .store t x y, ty, pos, after, none⟩ :: l) T S F Q = WpR C ops dst l T S F Q ((z1v C.P S t (zG T x) (zG T y)).map fun S' => .skip S' 3)) ∧
 (∀ {ops : Array Oper} {dst : Option Tmp} {ty : TypeId} {pos : String} {after : Array Edge} {l : List Oper} {T : List V} {S : zA} {F : Dfs} {Q : Post} {t u : TypeId} {x : Operand}, WpL C ops (⟨dst, .convert t u x, ty, pos, after, none⟩ :: l) T S F Q = WpR C ops dst l T S F Q ((jQ C.P S t u (zG T x)).map fun r => .val r.1 S r.2)) ∧
 (∀ {ops : Array Oper} {dst : Option Tmp} {ty : TypeId} {pos : String} {after : Array Edge} {l : List Oper} {T : List V} {S : zA} {F : Dfs} {Q : Post} {t : TypeId} {x y : Operand}, WpL C ops (⟨dst, .makeSlice t x y, ty, pos, after, none⟩ :: l) T S F Q = WpR C ops dst l T S F Q ((wU C.P S t (zG T x) (zG T y)).map fun r => .val r.1 r.2 2)) ∧
 (∀ {ops : Array Oper} {dst : Option Tmp} {ty : TypeId} {pos : String} {after : Array Edge} {l : List Oper} {T : List V} {S : zA} {F : Dfs} {Q : Post} {t : TypeId} {x : Operand} {lo hi : Option Operand}, WpL C ops (⟨dst, .slice t x lo hi none, ty, pos, after, none⟩ :: l) T S F Q = WpR C ops dst l T S F Q ((qT C.P S t (zG T x) (lo.map (zG T)) (hi.map (zG T))).map fun v => .val v S 1)) ∧
 (∀ {ops : Array Oper} {dst : Option Tmp} {ty : TypeId} {pos : String} {after : Array Edge} {l : List Oper} {T : List V} {S : zA} {F : Dfs} {Q : Post} {t : TypeId} {x k : Operand} {ok : Bool}, WpL C ops (⟨dst, .lookup t x k ok, ty, pos, after, none⟩ :: l) T S F Q = WpR C ops dst l T S F Q ((jR C.P S t (zG T x) (zG T k) ok).map fun v => .val v S 1)) ∧
 (∀ {ops : Array Oper} {dst : Option Tmp} {ty : TypeId} {pos : String} {after : Array Edge} {l : List Oper} {T : List V} {S : zA} {F : Dfs} {Q : Post} {t : TypeId} {x k v : Operand}, WpL C ops (⟨dst, .mapUpdate t x k v, ty, pos, after, none⟩ :: l) T S F Q = WpR C ops dst l T S F Q ((qS C.P S t (zG T x) (zG T k) (zG T v)).map fun S' => .skip S' 3)) ∧
 (∀ {ops : Array Oper} {dst : Option Tmp} {ty : TypeId} {pos : String} {after : Array Edge} {l : List Oper} {T : List V} {S : zA} {F : Dfs} {Q : Post} {b : Builtin} {args : Array Operand} {ts : Array TypeId}, WpL C ops (⟨dst, .call { callee := .builtin b, args := args, argTypes := ts }, ty, pos, after, none⟩ :: l) T S F Q = WpR C ops dst l T S F Q (zY C.P S b ts.toList (args.toList.map (zG T)))) ∧
 (∀ {ops : Array Oper} {dst : Option Tmp} {ty : TypeId} {pos : String} {after : Array Edge} {l : List Oper} {T : List V} {S : zA} {F : Dfs} {Q : Post} {t : TypeId} {ps : Array (Nat × Operand)}, WpL C ops (⟨dst, .build t ps, ty, pos, after, none⟩ :: l) T S F Q = WpR C ops dst l T S F Q ((z1j C.P t (ps.toList.map fun p => (p.1, zG T p.2))).map fun v => .val v S 0)) ∧
 (∀ {ops : Array Oper} {dst : Option Tmp} {ty : TypeId} {pos : String} {after : Array Edge} {l : List Oper} {T : List V} {S : zA} {F : Dfs} {Q : Post} {x : Operand} {i : Nat}, WpL C ops (⟨dst, .extract x i, ty, pos, after, none⟩ :: l) T S F Q = WpR C ops dst l T S F Q (match zG T x with | .tup vs => (match vs[i]? with | some v => some (.val v S 0) | none => none) | _ => none)) ∧
 (∀ {ops : Array Oper} {dst : Option Tmp} {ty : TypeId} {pos : String} {after : Array Edge} {l : List Oper} {T : List V} {S : zA} {F : Dfs} {Q : Post} {g : FuncId} {args : Array Operand} {ts : Array TypeId}, WpL C ops (⟨dst, .call { callee := .value (.func g), args := args, argTypes := ts }, ty, pos, after, none⟩ :: l) T S F Q = WpR C ops dst l T S F Q (if (args.toList.map (zG T)).all V.one && (zF C.P g).isSome then some (.enter g ([] ++ args.toList.map (zG T) ++ [])) else none)) ∧
 (∀ {ops : Array Oper} {dst : Option Tmp} {ty : TypeId} {pos : String} {after : Array Edge} {l : List Oper} {T : List V} {S : zA} {F : Dfs} {Q : Post} {c a b : Operand}, WpL C ops (⟨dst, .pick c a b, ty, pos, after, none⟩ :: l) T S F Q = WpR C ops dst l T S F Q (match zG T c with | .d (.bool true) => some (.val (zG T a) S 0) | .d (.bool false) => some (.val (zG T b) S 0) | _ => none)) ∧
 (∀ {ops : Array Oper} {dst : Option Tmp} {ty : TypeId} {pos : String} {after : Array Edge} {l : List Oper} {T : List V} {S : zA} {F : Dfs} {Q : Post} {x : Operand}, WpL C ops (⟨dst, .nilCheck x, ty, pos, after, none⟩ :: l) T S F Q = WpR C ops dst l T S F Q (match zG T x with | .ref i ix off => some (.val (.ref i ix off) S 0) | .d (.ptr x) => some (.val (.d (.ptr x)) S 0) | .fn (.func g) a b => some (.val (.fn (.func g) a b) S 0) | _ => none)) ∧
 (∀ {ops : Array Oper} {dst : Option Tmp} {ty : TypeId} {pos : String} {after : Array Edge} {l : List Oper} {T : List V} {S : zA} {F : Dfs} {Q : Post} {t : TypeId} {n : Nat} {ps : Array (Nat × Operand)} {d2 : Option Tmp} {c : Call} {ty2 : TypeId} {pos2 : String} {after2 : Array Edge} {g2 : Option (Nat × Bool)}, WpL C ops (⟨dst, .buildSlice t n ps, ty, pos, after, none⟩ :: ⟨d2, .call c, ty2, pos2, after2, g2⟩ :: l) T S F Q = WpR C ops dst (⟨d2, .call c, ty2, pos2, after2, g2⟩ :: l) T S F Q (opV C.P S T ⟨dst, .buildSlice t n ps, ty, pos, after, none⟩)) ∧
 (∀ {ops : Array Oper} {dst : Option Tmp} {ty : TypeId} {pos : String} {after : Array Edge} {l : List Oper} {T : List V} {S : zA} {F : Dfs} {Q : Post} {x : Operand} {g : Nat × Bool}, WpL C ops (⟨dst, .move x, ty, pos, after, some g⟩ :: l) T S F Q = WpG C ops dst (.move x) ty pos after l T S F Q ((qZ ops T g.1).map (· == some g.2))) ∧
 (∀ {ops : Array Oper} {dst : Option Tmp} {ty : TypeId} {pos : String} {after : Array Edge} {l : List Oper} {T : List V} {S : zA} {F : Dfs} {Q : Post} {x : Operand} {g : Nat × Bool}, WpL C ops (⟨dst, .assign x, ty, pos, after, some g⟩ :: l) T S F Q = WpG C ops dst (.assign x) ty pos after l T S F Q ((qZ ops T g.1).map (· == some g.2))) ∧
 (∀ {ops : Array Oper} {dst : Option Tmp} {ty : TypeId} {pos : String} {after : Array Edge} {l : List Oper} {T : List V} {S : zA} {F : Dfs} {Q : Post} {op : BinOp} {t u : TypeId} {x y : Operand} {g : Nat × Bool}, WpL C ops (⟨dst, .binOp op t x y u, ty, pos, after, some g⟩ :: l) T S F Q = WpG C ops dst (.binOp op t x y u) ty pos after l T S F Q ((qZ ops T g.1).map (· == some g.2))) ∧
 (∀ {ops : Array Oper} {dst : Option Tmp} {ty : TypeId} {pos : String} {after : Array Edge} {l : List Oper} {T : List V} {S : zA} {F : Dfs} {Q : Post} {op : UnOp} {t : TypeId} {x : Operand} {g : Nat × Bool}, WpL C ops (⟨dst, .unOp op t x, ty, pos, after, some g⟩ :: l) T S F Q = WpG C ops dst (.unOp op t x) ty pos after l T S F Q ((qZ ops T g.1).map (· == some g.2))) ∧
 (∀ {ops : Array Oper} {dst : Option Tmp} {ty : TypeId} {pos : String} {after : Array Edge} {l : List Oper} {T : List V} {S : zA} {F : Dfs} {Q : Post} {t : TypeId} {x y : Operand} {g : Nat × Bool}, WpL C ops (⟨dst, .indexAddr t x y, ty, pos, after, some g⟩ :: l) T S F Q = WpG C ops dst (.indexAddr t x y) ty pos after l T S F Q ((qZ ops T g.1).map (· == some g.2))) ∧
 (∀ {ops : Array Oper} {dst : Option Tmp} {ty : TypeId} {pos : String} {after : Array Edge} {l : List Oper} {T : List V} {S : zA} {F : Dfs} {Q : Post} {t : TypeId} {x y : Operand} {g : Nat × Bool}, WpL C ops (⟨dst, .index t x y, ty, pos, after, some g⟩ :: l) T S F Q = WpG C ops dst (.index t x y) ty pos after l T S F Q ((qZ ops T g.1).map (· == some g.2))) ∧
 (∀ {ops : Array Oper} {dst : Option Tmp} {ty : TypeId} {pos : String} {after : Array Edge} {l : List Oper} {T : List V} {S : zA} {F : Dfs} {Q : Post} {t : TypeId} {x : Operand} {f : Nat} {g : Nat × Bool}, WpL C ops (⟨dst, .fieldAddr t x f, ty, pos, after, some g⟩ :: l) T S F Q = WpG C ops dst (.fieldAddr t x f) ty pos after l T S F Q ((qZ ops T g.1).map (· == some g.2))) ∧
 (∀ {ops : Array Oper} {dst : Option Tmp} {ty : TypeId} {pos : String} {after : Array Edge} {l : List Oper} {T : List V} {S : zA} {F : Dfs} {Q : Post} {t : TypeId} {x : Operand} {f : Nat} {g : Nat × Bool}, WpL C ops (⟨dst, .field t x f, ty, pos, after, some g⟩ :: l) T S F Q = WpG C ops dst (.field t x f) ty pos after l T S F Q ((qZ ops T g.1).map (· == some g.2))) ∧
 (∀ {ops : Array Oper} {dst : Option Tmp} {ty : TypeId} {pos : String} {after : Array Edge} {l : List Oper} {T : List V} {S : zA} {F : Dfs} {Q : Post} {t : TypeId} {x : Operand} {g : Nat × Bool}, WpL C ops (⟨dst, .load t x, ty, pos, after, some g⟩ :: l) T S F Q = WpG C ops dst (.load t x) ty pos after l T S F Q ((qZ ops T g.1).map (· == some g.2))) ∧
 (∀ {ops : Array Oper} {dst : Option Tmp} {ty : TypeId} {pos : String} {after : Array Edge} {l : List Oper} {T : List V} {S : zA} {F : Dfs} {Q : Post} {t u : TypeId} {x : Operand} {g : Nat × Bool}, WpL C ops (⟨dst, .convert t u x, ty, pos, after, some g⟩ :: l) T S F Q = WpG C ops dst (.convert t u x) ty pos after l T S F Q ((qZ ops T g.1).map (· == some g.2))) ∧
 (∀ {ops : Array Oper} {dst : Option Tmp} {ty : TypeId} {pos : String} {after : Array Edge} {l : List Oper} {T : List V} {S : zA} {F : Dfs} {Q : Post} {t : TypeId} {x : Operand} {lo hi : Option Operand} {g : Nat × Bool}, WpL C ops (⟨dst, .slice t x lo hi none, ty, pos, after, some g⟩ :: l) T S F Q = WpG C ops dst (.slice t x lo hi none) ty pos after l T S F Q ((qZ ops T g.1).map (· == some g.2))) ∧
 (∀ {ops : Array Oper} {dst : Option Tmp} {ty : TypeId} {pos : String} {after : Array Edge} {l : List Oper} {T : List V} {S : zA} {F : Dfs} {Q : Post} {t : TypeId} {x k : Operand} {ok : Bool} {g : Nat × Bool}, WpL C ops (⟨dst, .lookup t x k ok, ty, pos, after, some g⟩ :: l) T S F Q = WpG C ops dst (.lookup t x k ok) ty pos after l T S F Q ((qZ ops T g.1).map (· == some g.2))) ∧
 (∀ {ops : Array Oper} {dst : Option Tmp} {ty : TypeId} {pos : String} {after : Array Edge} {l : List Oper} {T : List V} {S : zA} {F : Dfs} {Q : Post} {c : Call} {g : Nat × Bool}, WpL C ops (⟨dst, .call c, ty, pos, after, some g⟩ :: l) T S F Q = WpG C ops dst (.call c) ty pos after l T S F Q ((qZ ops T g.1).map (· == some g.2))) ∧
 (∀ {ops : Array Oper} {dst : Option Tmp} {ty : TypeId} {pos : String} {after : Array Edge} {l : List Oper} {T : List V} {S : zA} {F : Dfs} {Q : Post} {x : Operand} {i : Nat} {g : Nat × Bool}, WpL C ops (⟨dst, .extract x i, ty, pos, after, some g⟩ :: l) T S F Q = WpG C ops dst (.extract x i) ty pos after l T S F Q ((qZ ops T g.1).map (· == some g.2))) ∧
 (∀ {ops : Array Oper} {dst : Option Tmp} {ty : TypeId} {pos : String} {after : Array Edge} {l : List Oper} {T : List V} {S : zA} {F : Dfs} {Q : Post} {c a b : Operand} {g : Nat × Bool}, WpL C ops (⟨dst, .pick c a b, ty, pos, after, some g⟩ :: l) T S F Q = WpG C ops dst (.pick c a b) ty pos after l T S F Q ((qZ ops T g.1).map (· == some g.2))) ∧
 (∀ {ops : Array Oper} {dst : Option Tmp} {ty : TypeId} {pos : String} {after : Array Edge} {l : List Oper} {T : List V} {S : zA} {F : Dfs} {Q : Post} {t : TypeId} {ps : Array (Nat × Operand)} {g : Nat × Bool}, WpL C ops (⟨dst, .build t ps, ty, pos, after, some g⟩ :: l) T S F Q = WpG C ops dst (.build t ps) ty pos after l T S F Q ((qZ ops T g.1).map (· == some g.2))) ∧
 (∀ {ops : Array Oper} {dst : Option Tmp} {ty : TypeId} {pos : String} {after : Array Edge} {l : List Oper} {T : List V} {S : zA} {F : Dfs} {Q : Post} {x : Operand} {g : Nat × Bool}, WpL C ops (⟨dst, .nilCheck x, ty, pos, after, some g⟩ :: l) T S F Q = WpG C ops dst (.nilCheck x) ty pos after l T S F Q ((qZ ops T g.1).map (· == some g.2))) :=
 ⟨zwv, zo5, zu2, zvs, zhl, zjo, zk2, zss, zef, zg4, zg6, zql, zfj, zeu, z5w, z8d, q0l, zuv, zwp, zsg, zpg, zqg, zq2, zrw, zv0, zmn, zw5, q29, zpc, zwi, zdd, zp3, zsh, zp9, zk9, zej, zpl, zmu, zdk, zjp, zoq, zl0, zqx, zse, zfz, z62, zpd, zjy, zu9, zzt, zny, zuw, zcc, zmv, zqv, zg7, zls, zjv, zpw, zhe, zok, znx, zeo⟩
end
theorem vme :
 (∀ {C : Cfg} {ops : Array Oper} {dst : Option Tmp} {l : List Oper} {T : List V} {S S' : zA} {F : Dfs} {Q : Post} {v : V} {c : Nat}, WpR C ops dst l T S F Q (some (.val v S' c)) = WpL C ops l (putT T dst v) S' F Q) ∧
 (∀ {C : Cfg} {ops : Array Oper} {dst : Option Tmp} {l : List Oper} {T : List V} {S S' : zA} {F : Dfs} {Q : Post} {c : Nat}, WpR C ops dst l T S F Q (some (.skip S' c)) = WpL C ops l (putT T dst (.tup [])) S' F Q) ∧
 (∀ {T : List V} {v : V} {d : Tmp}, putT T (some d) v = T.set d v) ∧
 (∀ {T : List V} {v : V}, putT T none v = T) ∧
 (∀ {T : List V} {t : Tmp}, zG T (.tmp t) = T.getD t .junk) ∧
 (∀ {T : List V} {k : IntKind} {n : Int}, zG T (.const (.int k n)) = .d (.int k n)) ∧
 (∀ {T : List V} {b : Bool}, zG T (.const (.bool b)) = .d (.bool b)) ∧
 (∀ {T : List V} {s : ByteArray}, zG T (.const (.string s)) = .d (.str (strOf s))) ∧
 (∀ {T : List V}, zG T (.const (.slice none 0 0)) = .ts []) ∧
 (∀ {T : List V}, zG T (.const (.map none)) = .d .nilm) ∧
 (∀ {T : List V}, zG T (.const (.pointer none)) = .d .nilp) ∧
 (∀ {a x : V} {r : List V}, (a :: r).getD 0 x = a) ∧
 (∀ {a x : V} {r : List V} {n : Nat}, (a :: r).getD (n + 1) x = r.getD n x) ∧
 (∀ {a x : V} {r : List V}, (a :: r).set 0 x = x :: r) ∧
 (∀ {a x : V} {r : List V} {n : Nat}, (a :: r).set (n + 1) x = a :: r.set n x) ∧
 (∀ {P : Program} {op : BinOp} {t : TypeId} {k k' : IntKind} {a b : Int}, binV P op t (.d (.int k a)) (.d (.int k' b)) = (kN op k a k' b).map .d) ∧
 (∀ {P : Program} {op : BinOp} {t : TypeId} {a b : List UInt8}, binV P op t (.d (.str a)) (.d (.str b)) = (z3g op a b).map .d) ∧
 (∀ {k : IntKind} {a b : Int}, kN .add k a k b = some (.int k (k.wrap (a + b)))) ∧
 (∀ {k : IntKind} {a b : Int}, kN .sub k a k b = some (.int k (k.wrap (a - b)))) ∧
 (∀ {k : IntKind} {a b : Int}, kN .mul k a k b = some (.int k (k.wrap (a * b)))) ∧
 (∀ {k : IntKind} {a b : Int}, kN .eql k a k b = some (.bool (decide (a = b)))) ∧
 (∀ {k : IntKind} {a b : Int}, kN .neq k a k b = some (.bool (decide (a ≠ b)))) ∧
 (∀ {k : IntKind} {a b : Int}, kN .lss k a k b = some (.bool (decide (a < b)))) ∧
 (∀ {k : IntKind} {a b : Int}, kN .leq k a k b = some (.bool (decide (a ≤ b)))) ∧
 (∀ {k : IntKind} {a b : Int}, kN .gtr k a k b = some (.bool (decide (a > b)))) ∧
 (∀ {k : IntKind} {a b : Int}, kN .geq k a k b = some (.bool (decide (a ≥ b)))) ∧
 (∀ {b : Bool}, unV .not (.d (.bool b)) = some (.d (.bool (!b)))) ∧
 (∀ {x : D}, V.one (.d x) = true) ∧
 (∀ {xs : List D}, V.one (.ts xs) = true) ∧
 (∀ {i o n : Nat}, V.one (.rs i o n) = true) ∧
 (∀ {xs : List V}, V.one (.agg xs) = true) ∧
 (∀ {i o n : Nat}, V.one (.ref i o n) = true) ∧
 (∀ {i : Nat}, V.one (.mr i) = true) ∧
 (∀ {f : Fn} {a b : List V}, V.one (.fn f a b) = true) ∧
 (∀ {C : Cfg} {ops : Array Oper} {dst : Option Tmp} {op : Op} {ty : TypeId} {pos : String} {after : Array Edge} {l : List Oper} {T : List V} {S : zA} {F : Dfs} {Q : Post}, WpG C ops dst op ty pos after l T S F Q (some true) = WpL C ops (⟨dst, op, ty, pos, after, none⟩ :: l) T S F Q) ∧
 (∀ {C : Cfg} {ops : Array Oper} {dst : Option Tmp} {op : Op} {ty : TypeId} {pos : String} {after : Array Edge} {l : List Oper} {T : List V} {S : zA} {F : Dfs} {Q : Post}, WpG C ops dst op ty pos after l T S F Q (some false) = WpL C ops l (putT T dst (.tup [])) S F Q) ∧
 (∀ {C : Cfg} {T : List V} {S : zA} {F : Dfs} {Q : Post} {a b : Code}, WpB C (.d (.bool true)) a b T S F Q = Wp C a T S F Q) ∧
 (∀ {C : Cfg} {T : List V} {S : zA} {F : Dfs} {Q : Post} {a b : Code}, WpB C (.d (.bool false)) a b T S F Q = Wp C b T S F Q) ∧
 (∀ {P : Program} {S : zA} {t tx : TypeId} {s x : V}, zY P S .append [t, tx] [s, x] = (zW P S t tx s x).map fun r => .val r.1 r.2.1 r.2.2) ∧
 (∀ {P : Program} {S : zA} {t tx : TypeId} {s x : V}, zY P S .copy [t, tx] [s, x] = (copyV P S t tx s x).map fun r => .val r.1 r.2 3) ∧
 (∀ {P : Program} {S : zA} {T : List V} {t : TypeId} {x : Operand} {dst : Option Tmp} {ty : TypeId} {pos : String} {after : Array Edge} {g : Option (Nat × Bool)}, opV P S T ⟨dst, .buildSlice t 1 #[(0, x)], ty, pos, after, g⟩ = bs1 P S t (zG T x)) ∧
 (∀ {α β : Type} {a : α} {f : α → β}, (some a).map f = some (f a)) ∧
 (∀ {α β : Type} {f : α → β} {a : α} {l : List α}, (a :: l).map f = f a :: l.map f) ∧
 (∀ {α β : Type} {f : α → β}, ([] : List α).map f = []) ∧
 (∀ {f : V → Bool} {a : V} {l : List V}, (a :: l).all f = (f a && l.all f)) ∧
 (∀ {b : Bool}, (b && true) = b) ∧
 (∀ {b : Bool}, (true && b) = b) ∧
 (∀ {α : Type} {a b : α}, (if True then a else b) = a) ∧
 (∀ {α : Type} {a b : α}, (if true = true then a else b) = a) ∧
 (∀ {α : Type} {l : List α}, [] ++ l = l) ∧
 (∀ {α : Type} {l : List α}, l ++ [] = l) ∧
 ((!true) = false) ∧
 ((!false) = true) ∧
 (∀ {f : V → Bool}, ([] : List V).all f = true) :=
 ⟨q00, zsf, zqd, zp0, zzl, zs4, zph, zt7, zs8, zqb, zqa, zlh, zmb, zli, zo2, binI, binS, zxq, zvv, zxc, ztt, zto, zyy, zw1, zyt, zym, z19, q0r, zyu, zvm, zv9, zuk, zx2, zzp, zu7, zpj, ztl, zp6, zmr, zcm, zzg, rfl, rfl, rfl, q1k, (by simp), rfl, (by simp), (by simp), rfl, (by simp), rfl, rfl, q15⟩
section
variable {C : Cfg} {P : Program} {T : List V} {S : zA} {F : Dfs} {o : Out}
def RetQ (P : Program) (rs : Array ResultVar) (o : Out) : Post := fun x T S F => (x = .norm ∨ x = .ret) ∧ F = [] ∧ ∃ v, jF P rs T S = some v ∧ z22 S (.ret v) = some o
theorem z1r {f : FuncId} {c : Code} {n : Nat} {rs : Array ResultVar} {ds : List D} (hx : C.ext f = none) (hc : C.catch_ f = none) (hb : zF C.P f = some ⟨c, n, rs⟩)
  (h : Wp C c (z05 n (ds.map .d)) [] [] (post C [] (RetQ C.P rs o))) : Ev C f ds o := zox hx hc hb h
theorem qN {t : Tmp} {v : V} {d : D} (hv : T.getD t (.tup []) = v) (h1 : v.one = true) (h : frz S zR v = some d) : RetQ P #[.tmp t] (.ret (.d d)) .ret T S [] := by
 refine ⟨.inr rfl, rfl, v, ?_, ?_⟩
 ·show wH P T S (.tmp t) = some v
  simp only [wH, hv]
 ·cases v <;> first | (simp [V.one] at h1; done) | (simp only [z22, h, Option.map_some])
theorem zdc {a t : Nat} {v u : V} {d : D} (ha : T.getD a (.tup []) = u) (hv : jP P S t u = some v) (h1 : v.one = true) (h : frz S zR v = some d) : RetQ P #[.cell a t] (.ret (.d d)) .ret T S [] := by
 refine ⟨.inr rfl, rfl, v, ?_, ?_⟩
 ·show wH P T S (.cell a t) = some v
  simp only [wH, ha, hv]
 ·cases v <;> first | (simp [V.one] at h1; done) | (simp only [z22, h, Option.map_some])
theorem z6k {r1 r2 : ResultVar} {l : List ResultVar} {vs : List V} {ds : List D} (hv : allO (wH P T S) (r1 :: r2 :: l) = some vs) (h1 : vs.all V.one = true) (h : allO (frz S zR) vs = some ds) : RetQ P (r1 :: r2 :: l).toArray (.ret (.tup (ds.map .d))) .ret T S [] := by
 refine ⟨.inr rfl, rfl, .tup vs, ?_, ?_⟩
 ·simp only [jF, hv, h1, if_true]
 ·simp only [z22, h, Option.map_some]
theorem z0n {t u : Tmp} {v w : V} {d e : D} (hv : T.getD t (.tup []) = v) (hw : T.getD u (.tup []) = w) (h1 : v.one = true) (h2 : w.one = true) (h3 : frz S zR v = some d) (h4 : frz S zR w = some e) : RetQ P #[.tmp t, .tmp u] (.ret (.tup [.d d, .d e])) .ret T S [] :=
 z6k (r1 := .tmp t) (r2 := .tmp u) (l := []) (vs := [v, w]) (ds := [d, e]) (by simp only [allO, wH, hv, hw]) (by simp [h1, h2]) (by simp only [allO, h3, h4])
theorem z78 {t u x : Tmp} {v w y : V} {d e z : D} (hv : T.getD t (.tup []) = v) (hw : T.getD u (.tup []) = w) (hy : T.getD x (.tup []) = y) (h1 : v.one = true) (h2 : w.one = true) (h0 : y.one = true) (h3 : frz S zR v = some d) (h4 : frz S zR w = some e) (h5 : frz S zR y = some z) : RetQ P #[.tmp t, .tmp u, .tmp x] (.ret (.tup [.d d, .d e, .d z])) .ret T S [] :=
 z6k (r1 := .tmp t) (r2 := .tmp u) (l := [.tmp x]) (vs := [v, w, y]) (ds := [d, e, z]) (by simp only [allO, wH, hv, hw, hy]) (by simp [h1, h2, h0]) (by simp only [allO, h3, h4, h5])
theorem zch {e : TypeId} {v : V} {xs : List V} (h : OwnS S v e xs) : v.one = true := by
 rcases h with ⟨rfl, _⟩ | ⟨id, rfl, _⟩ <;> rfl
theorem zpf {α : Type} {enc : α → D} {e : TypeId} {v : V} {xs : List α} (h : OwnS S v e (xs.map fun x => .d (enc x))) : frz S zR v = some (.sl (xs.map enc)) := zuu (by simpa [List.map_map, Function.comp_def] using h)
def lpOf : Code → Nat → Code
 | .block i (.loop b), id => if i = id then b else lpOf b id
 | .block _ b, id => lpOf b id
 | .seq a b, id => match lpOf a id with | .skip => lpOf b id | c => c
 | .cond _ a b, id => match lpOf a id with | .skip => lpOf b id | c => c
 | .loop b, id => lpOf b id
 | .scope b, id => lpOf b id
 | _, _ => .skip
theorem z38 {e : TypeId} {k n : Nat} (hb : bytesOf P e = k) (hk : k ≤ 100000000) (h : n ≤ 1000000) : room P e n = true := by
 unfold room
 have : n * k ≤ 1000000 * 100000000 := Nat.mul_le_mul h hk
 rw [hb]; simp; omega
theorem zkf {α : Type} {enc : α → D} {t e : TypeId} {v : V} {xs : List α} (a : α) (hu : P.underlying t = some (.slice e)) (hz : zOk P e = true) (hs : (sz P e).isSome = true) (hf : vN P e (enc a) = true) (ho : OwnS S v e (xs.map fun x => .d (enc x))) (hr : room P e (xs.length + 1) = true) :
  ∃ v' S' c, zW P S t t v (.ts [enc a]) = some (v', S', c) ∧ OwnS S' v' e ((xs ++ [a]).map fun x => .d (enc x)) ∧ (∀ j o, S[j]? = some o → NotAt v j → S'[j]? = some o ∧ NotAt v' j) ∧ S.length ≤ S'.length := by
 obtain ⟨v', S', c, h1, h2, h3, h4⟩ := zkx hu hz hs ho hf (by simpa using hr)
 exact ⟨v', S', c, h1, by simpa using h2, h3, h4⟩
theorem z9f {α : Type} {enc : α → D} {t e : TypeId} {l : List α} {i : Nat} (hu : P.underlying t = some (.slice e)) (hf : ∀ a, vN P e (enc a) = true) (h : i < l.length) : qJ P S t (.d (.sl (l.map enc))) (.d (.int .i64 i)) = some (.d (.ptr (enc l[i]))) := q09 hu (by simp [h]) (hf _)
end
def rowE (S : zA) (id ix : Nat) : Option V := match S[id]? with | some (.row xs _) => xs[ix]? | _ => none
def kE (P : Program) (t : TypeId) (off : Nat) : Option V → Option V
 | some x => if off = 0 && qD P t x then some x else zdl P t x.cells off
 | none => none
def qL (P : Program) (t : TypeId) (off : Nat) (v x : V) : Option V :=
 if qD P t v then
  if off = 0 && (x.cells.length == v.cells.length) && (x.isAgg == v.isAgg) then some v
  else if off + v.cells.length ≤ x.cells.length && x.isAgg then some (.agg (x.cells.take off ++ v.cells ++ x.cells.drop (off + v.cells.length)))
  else none
 else none
def z11 (S : zA) (id ix : Nat) (y : V) : Option zA := match S[id]? with | some (.row xs e) => some (S.set id (.row (xs.set ix y) e)) | _ => none
def zbt (S : zA) (id ix : Nat) : Option V → Option zA | some y => z11 S id ix y | none => none
section
variable {C : Cfg} {P : Program} {S : zA} {id ix off : Nat}
theorem jN {t : TypeId} {x : V} (h : rowE S id ix = some x) : jP P S t (.ref id ix off) = kE P t off (some x) := by
 unfold rowE at h
 split at h
 ·rename_i xs e ho
  simp only [jP, ho, h, kE]
 ·cases h
theorem zk8 {t : TypeId} {v x : V} (h : rowE S id ix = some x) : z1v P S t (.ref id ix off) v = zbt S id ix (qL P t off v x) := by
 unfold rowE at h
 split at h
 ·rename_i xs e ho
  simp only [z1v, ho, h, qL]
  split
  ·split
   ·simp only [zbt, z11, ho]
   ·split
    ·simp only [zbt, z11, ho]
    ·rfl
  ·rfl
 ·cases h
theorem zlm {o : Ob} {S : zA} {i : Nat} : rowE (o :: S) (i + 1) ix = rowE S i ix := by
 unfold rowE
 rw [List.getElem?_cons_succ]
theorem zgy {o : Ob} {S : zA} {i : Nat} {y : V} : z11 (o :: S) (i + 1) ix y = (z11 S i ix y).map fun S' => o :: S' := by
 unfold z11
 rw [List.getElem?_cons_succ]
 cases S[i]? with
 | none => rfl
 | some o => cases o <;> rfl
theorem zC {x : V} {e : TypeId} (h : S[id]? = some (.row [x] e)) : rowE S id 0 = some x := by
 unfold rowE; rw [h]; rfl
end
section
variable {C : Cfg} {ops : Array Oper} {dst : Option Tmp} {ty : TypeId} {pos : String} {after : Array Edge} {l : List Oper} {T : List V} {S : zA} {F : Dfs} {Q : Post}
theorem zmd {e : TypeId} : WpL C ops (⟨dst, .alloc e, ty, pos, after, none⟩ :: l) T S F Q = match zeroV C.P e with | some z => (if qD C.P e z = true then WpL C ops l (putT T dst (.ref S.length 0 0)) (S ++ [.row [z] e]) F Q else False) | none => False := by
 rw [vV rfl]
 simp only [opV]
 cases zeroV C.P e with
 | none => rfl
 | some z =>
  simp only
  split <;> rfl
theorem ztb {e : TypeId} {x : Operand} : WpL C ops (⟨dst, .box e x, ty, pos, after, none⟩ :: l) T S F Q = if qD C.P e (zG T x) = true then WpL C ops l (putT T dst (.ref S.length 0 0)) (S ++ [.row [zG T x] e]) F Q else False := by
 rw [vV rfl]
 simp only [opV]
 split <;> rfl
end
theorem z5y {P : Program} {S : zA} {v : V} {e t : TypeId} {xs : List V} (h : OwnS S v e xs) (ha : aggT P t = false) (hs : sz P t = some 1) : qD P t v = true := by
 rcases h with ⟨rfl, _⟩ | ⟨id, rfl, _⟩ <;> simp [qD, V.one, V.isAgg, V.cells, ha, hs]
theorem z3h {S : zA} {v : V} {e : TypeId} {xs : List V} (h : OwnS S v e xs) : v.cells = [v] := by
 rcases h with ⟨rfl, _⟩ | ⟨id, rfl, _⟩ <;> rfl
def zt0 (P : Program) (S : zA) (t : TypeId) (id ix off : Nat) : Option V → Option V | some x => kE P t off (some x) | none => jP P S t (.ref id ix off)
def zm3 (P : Program) (S : zA) (t : TypeId) (id ix off : Nat) (v : V) : Option V → Option zA | some x => zbt S id ix (qL P t off v x) | none => z1v P S t (.ref id ix off) v
theorem zoo {P : Program} {S : zA} {t : TypeId} {id ix off : Nat} : jP P S t (.ref id ix off) = zt0 P S t id ix off (rowE S id ix) := by
 cases h : rowE S id ix with
 | none => rfl
 | some x => exact jN h
theorem znr {P : Program} {S : zA} {t : TypeId} {id ix off : Nat} {v : V} : z1v P S t (.ref id ix off) v = zm3 P S t id ix off v (rowE S id ix) := by
 cases h : rowE S id ix with
 | none => rfl
 | some x => exact zk8 h
theorem vmb :
 (∀ {x : V} {r : List V} {e : TypeId} {S : zA}, rowE (.row (x :: r) e :: S) 0 0 = some x) ∧
 (∀ {o : Ob} {S : zA} {i ix : Nat}, rowE (o :: S) (i + 1) ix = rowE S i ix) ∧
 (∀ {x y : V} {r : List V} {e : TypeId} {S : zA}, z11 (.row (x :: r) e :: S) 0 0 y = some (.row (y :: r) e :: S)) ∧
 (∀ {o : Ob} {S : zA} {i ix : Nat} {y : V}, z11 (o :: S) (i + 1) ix y = (z11 S i ix y).map fun S' => o :: S') ∧
 (∀ {S : zA} {id ix : Nat} {y : V}, zbt S id ix (some y) = z11 S id ix y) ∧
 (∀ {C : Cfg} {ops : Array Oper} {dst : Option Tmp} {ty : TypeId} {pos : String} {after : Array Edge} {l : List Oper} {T : List V} {S : zA} {F : Dfs} {Q : Post} {e : TypeId}, WpL C ops (⟨dst, .alloc e, ty, pos, after, none⟩ :: l) T S F Q = match zeroV C.P e with | some z => (if qD C.P e z = true then WpL C ops l (putT T dst (.ref S.length 0 0)) (S ++ [.row [z] e]) F Q else False) | none => False) ∧
 (∀ {C : Cfg} {ops : Array Oper} {dst : Option Tmp} {ty : TypeId} {pos : String} {after : Array Edge} {l : List Oper} {T : List V} {S : zA} {F : Dfs} {Q : Post} {e : TypeId} {x : Operand}, WpL C ops (⟨dst, .box e x, ty, pos, after, none⟩ :: l) T S F Q = if qD C.P e (zG T x) = true then WpL C ops l (putT T dst (.ref S.length 0 0)) (S ++ [.row [zG T x] e]) F Q else False) ∧
 (∀ {P : Program} {S : zA} {t : TypeId} {id ix off : Nat}, jP P S t (.ref id ix off) = zt0 P S t id ix off (rowE S id ix)) ∧
 (∀ {P : Program} {S : zA} {t : TypeId} {id ix off : Nat} {v : V}, z1v P S t (.ref id ix off) v = zm3 P S t id ix off v (rowE S id ix)) ∧
 (∀ {P : Program} {S : zA} {t : TypeId} {id ix off : Nat} {x : V}, zt0 P S t id ix off (some x) = kE P t off (some x)) ∧
 (∀ {P : Program} {S : zA} {t : TypeId} {id ix off : Nat} {v x : V}, zm3 P S t id ix off v (some x) = zbt S id ix (qL P t off v x)) ∧
 (∀ {α : Type}, ([] : List α).length = 0) ∧
 (∀ {α : Type} {a : α} {l : List α}, (a :: l).length = l.length + 1) :=
 ⟨rfl, zlm, rfl, zgy, rfl, zmd, ztb, zoo, znr, rfl, rfl, rfl, rfl⟩
theorem zw8 {a b : List UInt8} : z3g .eql a b = some (.bool (decide (a = b))) := by
 have : (a == b) = decide (a = b) := by rw [Bool.eq_iff_iff]; simp
 simp only [z3g, this]
theorem zwg {a b : List UInt8} : z3g .neq a b = some (.bool (decide (a ≠ b))) := by
 have : (!(a == b)) = decide (a ≠ b) := by rw [Bool.eq_iff_iff]; simp
 simp only [z3g, this]
theorem vmo :
 (∀ {P : Program} {S : zA} {T : List V} {dst : Option Tmp} {ty : TypeId} {pos : String} {after : Array Edge} {g : Option (Nat × Bool)} {x : Operand}, opV P S T ⟨dst, .move x, ty, pos, after, g⟩ = some (.val (zG T x) S 0)) ∧
 (∀ {P : Program} {S : zA} {T : List V} {dst : Option Tmp} {ty : TypeId} {pos : String} {after : Array Edge} {g : Option (Nat × Bool)} {x : Operand}, opV P S T ⟨dst, .assign x, ty, pos, after, g⟩ = some (.val (zG T x) S 0)) ∧
 (∀ {P : Program} {S : zA} {T : List V} {dst : Option Tmp} {ty : TypeId} {pos : String} {after : Array Edge} {g : Option (Nat × Bool)} {op : BinOp} {t u : TypeId} {x y : Operand}, opV P S T ⟨dst, .binOp op t x y u, ty, pos, after, g⟩ = (binV P op t (zG T x) (zG T y)).map fun v => .val v S 0) ∧
 (∀ {P : Program} {S : zA} {T : List V} {dst : Option Tmp} {ty : TypeId} {pos : String} {after : Array Edge} {g : Option (Nat × Bool)} {op : UnOp} {t : TypeId} {x : Operand}, opV P S T ⟨dst, .unOp op t x, ty, pos, after, g⟩ = (unV op (zG T x)).map fun v => .val v S 0) ∧
 (∀ {P : Program} {S : zA} {T : List V} {dst : Option Tmp} {ty : TypeId} {pos : String} {after : Array Edge} {g : Option (Nat × Bool)} {t : TypeId} {x y : Operand}, opV P S T ⟨dst, .indexAddr t x y, ty, pos, after, g⟩ = (qJ P S t (zG T x) (zG T y)).map fun v => .val v S 1) ∧
 (∀ {P : Program} {S : zA} {T : List V} {dst : Option Tmp} {ty : TypeId} {pos : String} {after : Array Edge} {g : Option (Nat × Bool)} {t : TypeId} {x y : Operand}, opV P S T ⟨dst, .index t x y, ty, pos, after, g⟩ = (z4t P t (zG T x) (zG T y)).map fun v => .val v S 0) ∧
 (∀ {P : Program} {S : zA} {T : List V} {dst : Option Tmp} {ty : TypeId} {pos : String} {after : Array Edge} {g : Option (Nat × Bool)} {t : TypeId} {x : Operand} {f : Nat}, opV P S T ⟨dst, .fieldAddr t x f, ty, pos, after, g⟩ = (zP P t f (zG T x)).map fun v => .val v S 0) ∧
 (∀ {P : Program} {S : zA} {T : List V} {dst : Option Tmp} {ty : TypeId} {pos : String} {after : Array Edge} {g : Option (Nat × Bool)} {t : TypeId} {x : Operand} {f : Nat}, opV P S T ⟨dst, .field t x f, ty, pos, after, g⟩ = (z3r P t f (zG T x)).map fun v => .val v S 0) ∧
 (∀ {P : Program} {S : zA} {T : List V} {dst : Option Tmp} {ty : TypeId} {pos : String} {after : Array Edge} {g : Option (Nat × Bool)} {t : TypeId} {x : Operand}, opV P S T ⟨dst, .load t x, ty, pos, after, g⟩ = (jP P S t (zG T x)).map fun v => .val v S 1) ∧
 (∀ {P : Program} {S : zA} {T : List V} {dst : Option Tmp} {ty : TypeId} {pos : String} {after : Array Edge} {g : Option (Nat × Bool)} {t : TypeId} {x y : Operand}, opV P S T ⟨dst, .store t x y, ty, pos, after, g⟩ = (z1v P S t (zG T x) (zG T y)).map fun S' => .skip S' 3) ∧
 (∀ {P : Program} {S : zA} {T : List V} {dst : Option Tmp} {ty : TypeId} {pos : String} {after : Array Edge} {g : Option (Nat × Bool)} {t u : TypeId} {x : Operand}, opV P S T ⟨dst, .convert t u x, ty, pos, after, g⟩ = (jQ P S t u (zG T x)).map fun r => .val r.1 S r.2) ∧
 (∀ {P : Program} {S : zA} {T : List V} {dst : Option Tmp} {ty : TypeId} {pos : String} {after : Array Edge} {g : Option (Nat × Bool)} {t : TypeId} {x : Operand} {lo hi : Option Operand}, opV P S T ⟨dst, .slice t x lo hi none, ty, pos, after, g⟩ = (qT P S t (zG T x) (lo.map (zG T)) (hi.map (zG T))).map fun v => .val v S 1) ∧
 (∀ {P : Program} {S : zA} {T : List V} {dst : Option Tmp} {ty : TypeId} {pos : String} {after : Array Edge} {g : Option (Nat × Bool)} {t : TypeId} {x k : Operand} {ok : Bool}, opV P S T ⟨dst, .lookup t x k ok, ty, pos, after, g⟩ = (jR P S t (zG T x) (zG T k) ok).map fun v => .val v S 1) ∧
 (∀ {P : Program} {S : zA} {T : List V} {dst : Option Tmp} {ty : TypeId} {pos : String} {after : Array Edge} {g : Option (Nat × Bool)} {b : Builtin} {args : Array Operand} {ts : Array TypeId}, opV P S T ⟨dst, .call { callee := .builtin b, args := args, argTypes := ts }, ty, pos, after, g⟩ = zY P S b ts.toList (args.toList.map (zG T))) ∧
 (∀ {P : Program} {S : zA} {T : List V} {dst : Option Tmp} {ty : TypeId} {pos : String} {after : Array Edge} {g : Option (Nat × Bool)} {t : TypeId} {ps : Array (Nat × Operand)}, opV P S T ⟨dst, .build t ps, ty, pos, after, g⟩ = (z1j P t (ps.toList.map fun p => (p.1, zG T p.2))).map fun v => .val v S 0) ∧
 (∀ {P : Program} {S : zA} {T : List V} {dst : Option Tmp} {ty : TypeId} {pos : String} {after : Array Edge} {g : Option (Nat × Bool)} {x : Operand} {i : Nat}, opV P S T ⟨dst, .extract x i, ty, pos, after, g⟩ = match zG T x with | .tup vs => (match vs[i]? with | some v => some (.val v S 0) | none => none) | _ => none) ∧
 (∀ {P : Program} {S : zA} {T : List V} {dst : Option Tmp} {ty : TypeId} {pos : String} {after : Array Edge} {g : Option (Nat × Bool)} {c a b : Operand}, opV P S T ⟨dst, .pick c a b, ty, pos, after, g⟩ = match zG T c with | .d (.bool true) => some (.val (zG T a) S 0) | .d (.bool false) => some (.val (zG T b) S 0) | _ => none) ∧
 (∀ {P : Program} {S : zA} {T : List V} {dst : Option Tmp} {ty : TypeId} {pos : String} {after : Array Edge} {g : Option (Nat × Bool)} {h : FuncId} {args : Array Operand} {ts : Array TypeId}, opV P S T ⟨dst, .call { callee := .value (.func h), args := args, argTypes := ts }, ty, pos, after, g⟩ = if (args.toList.map (zG T)).all V.one && (zF P h).isSome then some (.enter h ([] ++ args.toList.map (zG T) ++ [])) else none) :=
 ⟨rfl, rfl, rfl, rfl, rfl, rfl, rfl, rfl, rfl, rfl, rfl, rfl, rfl, rfl, rfl, rfl, rfl, rfl⟩
def zv8 (ops : Array Oper) (T : List V) : Option (Nat × Bool) → Option Bool
 | none => some true
 | some (j, want) => (qZ ops T j).map (· == some want)
def zrd (T : List V) : Option Tmp → Option (Option Bool)
 | none => some none
 | some d => match T[d]? with
  | none => some none
  | some (.d (.bool b)) => some (some b)
  | some (.tup _) => some none
  | some _ => none
theorem vmg :
 (∀ {ops : Array Oper} {T : List V} {dst : Option Tmp} {op : Op} {ty : TypeId} {pos : String} {after : Array Edge} {g : Option (Nat × Bool)}, qB ops T ⟨dst, op, ty, pos, after, g⟩ = zv8 ops T g) ∧
 (∀ {ops : Array Oper} {T : List V}, zv8 ops T none = some true) ∧
 (∀ {ops : Array Oper} {T : List V} {j : Nat} {b : Bool}, zv8 ops T (some (j, b)) = (qZ ops T j).map (· == some b)) ∧
 (∀ {ops : Array Oper} {T : List V} {j : Nat}, qZ ops T j = zrd T ((ops[j]?).bind (·.dst))) ∧
 (∀ {T : List V} {d : Tmp}, zrd T (some d) = match T[d]? with | none => some none | some (.d (.bool b)) => some (some b) | some (.tup _) => some none | some _ => none) ∧
 (∀ {a : V} {l : List V}, (a :: l)[0]? = some a) ∧
 (∀ {a : V} {l : List V} {n : Nat}, (a :: l)[n + 1]? = l[n]?) ∧
 (∀ {a : Oper} {l : List Oper}, ((a :: l).toArray)[0]? = some a) ∧
 (∀ {a : Oper} {l : List Oper} {n : Nat}, ((a :: l).toArray)[n + 1]? = (l.toArray)[n]?) ∧
 (∀ {α β : Type} {a : α} {f : α → Option β}, (some a).bind f = f a) ∧
 (∀ {b : Bool}, (some b == some true) = b) ∧
 (∀ {b : Bool}, (some b == some false) = !b) ∧
 (((none : Option Bool) == some true) = false) ∧
 (((none : Option Bool) == some false) = false) :=
 ⟨rfl, rfl, rfl, rfl, rfl, rfl, rfl, by simp, by simp, rfl, by intro b; cases b <;> rfl, by intro b; cases b <;> rfl, rfl, rfl⟩
theorem vmk :
 (∀ {dst : Option Tmp} {ty : TypeId} {pos : String} {after : Array Edge} {g : Option (Nat × Bool)} {x : Operand}, kS ⟨dst, .move x, ty, pos, after, g⟩ = false) ∧
 (∀ {dst : Option Tmp} {ty : TypeId} {pos : String} {after : Array Edge} {g : Option (Nat × Bool)} {x : Operand}, kS ⟨dst, .assign x, ty, pos, after, g⟩ = false) ∧
 (∀ {dst : Option Tmp} {ty : TypeId} {pos : String} {after : Array Edge} {g : Option (Nat × Bool)} {op : BinOp} {t u : TypeId} {x y : Operand}, kS ⟨dst, .binOp op t x y u, ty, pos, after, g⟩ = false) ∧
 (∀ {dst : Option Tmp} {ty : TypeId} {pos : String} {after : Array Edge} {g : Option (Nat × Bool)} {op : UnOp} {t : TypeId} {x : Operand}, kS ⟨dst, .unOp op t x, ty, pos, after, g⟩ = false) ∧
 (∀ {dst : Option Tmp} {ty : TypeId} {pos : String} {after : Array Edge} {g : Option (Nat × Bool)} {t : TypeId} {x y : Operand}, kS ⟨dst, .indexAddr t x y, ty, pos, after, g⟩ = false) ∧
 (∀ {dst : Option Tmp} {ty : TypeId} {pos : String} {after : Array Edge} {g : Option (Nat × Bool)} {t : TypeId} {x y : Operand}, kS ⟨dst, .index t x y, ty, pos, after, g⟩ = false) ∧
 (∀ {dst : Option Tmp} {ty : TypeId} {pos : String} {after : Array Edge} {g : Option (Nat × Bool)} {t : TypeId} {x : Operand} {f : Nat}, kS ⟨dst, .fieldAddr t x f, ty, pos, after, g⟩ = false) ∧
 (∀ {dst : Option Tmp} {ty : TypeId} {pos : String} {after : Array Edge} {g : Option (Nat × Bool)} {t : TypeId} {x : Operand} {f : Nat}, kS ⟨dst, .field t x f, ty, pos, after, g⟩ = false) ∧
 (∀ {dst : Option Tmp} {ty : TypeId} {pos : String} {after : Array Edge} {g : Option (Nat × Bool)} {t : TypeId} {x : Operand}, kS ⟨dst, .load t x, ty, pos, after, g⟩ = false) ∧
 (∀ {dst : Option Tmp} {ty : TypeId} {pos : String} {after : Array Edge} {g : Option (Nat × Bool)} {t : TypeId} {x y : Operand}, kS ⟨dst, .store t x y, ty, pos, after, g⟩ = false) ∧
 (∀ {dst : Option Tmp} {ty : TypeId} {pos : String} {after : Array Edge} {g : Option (Nat × Bool)} {t u : TypeId} {x : Operand}, kS ⟨dst, .convert t u x, ty, pos, after, g⟩ = false) ∧
 (∀ {dst : Option Tmp} {ty : TypeId} {pos : String} {after : Array Edge} {g : Option (Nat × Bool)} {t : TypeId} {x : Operand} {lo hi m : Option Operand}, kS ⟨dst, .slice t x lo hi m, ty, pos, after, g⟩ = false) ∧
 (∀ {dst : Option Tmp} {ty : TypeId} {pos : String} {after : Array Edge} {g : Option (Nat × Bool)} {t : TypeId} {x k : Operand} {ok : Bool}, kS ⟨dst, .lookup t x k ok, ty, pos, after, g⟩ = false) ∧
 (∀ {dst : Option Tmp} {ty : TypeId} {pos : String} {after : Array Edge} {g : Option (Nat × Bool)} {c : Call}, kS ⟨dst, .call c, ty, pos, after, g⟩ = false) ∧
 (∀ {dst : Option Tmp} {ty : TypeId} {pos : String} {after : Array Edge} {g : Option (Nat × Bool)} {t : TypeId} {ps : Array (Nat × Operand)}, kS ⟨dst, .build t ps, ty, pos, after, g⟩ = false) ∧
 (∀ {dst : Option Tmp} {ty : TypeId} {pos : String} {after : Array Edge} {g : Option (Nat × Bool)} {t : TypeId} {n : Nat} {ps : Array (Nat × Operand)}, kS ⟨dst, .buildSlice t n ps, ty, pos, after, g⟩ = false) ∧
 (∀ {dst : Option Tmp} {ty : TypeId} {pos : String} {after : Array Edge} {g : Option (Nat × Bool)} {x : Operand} {i : Nat}, kS ⟨dst, .extract x i, ty, pos, after, g⟩ = false) ∧
 (∀ {dst : Option Tmp} {ty : TypeId} {pos : String} {after : Array Edge} {g : Option (Nat × Bool)} {c a b : Operand}, kS ⟨dst, .pick c a b, ty, pos, after, g⟩ = false) ∧
 (∀ {dst : Option Tmp} {ty : TypeId} {pos : String} {after : Array Edge} {g : Option (Nat × Bool)} {x : Operand}, kS ⟨dst, .nilCheck x, ty, pos, after, g⟩ = false) ∧
 (∀ {dst : Option Tmp} {ty : TypeId} {pos : String} {after : Array Edge} {g : Option (Nat × Bool)} {t : TypeId} {m k v : Operand}, kS ⟨dst, .mapUpdate t m k v, ty, pos, after, g⟩ = false) ∧
 (∀ {dst : Option Tmp} {ty : TypeId} {pos : String} {after : Array Edge} {g : Option (Nat × Bool)} {e : TypeId}, kS ⟨dst, .alloc e, ty, pos, after, g⟩ = true) ∧
 (∀ {dst : Option Tmp} {ty : TypeId} {pos : String} {after : Array Edge} {g : Option (Nat × Bool)} {e : TypeId} {x : Operand}, kS ⟨dst, .box e x, ty, pos, after, g⟩ = true) :=
 ⟨rfl, rfl, rfl, rfl, rfl, rfl, rfl, rfl, rfl, rfl, rfl, rfl, rfl, rfl, rfl, rfl, rfl, rfl, rfl, rfl, rfl, rfl⟩
section
variable {C : Cfg} {ops : Array Oper} {base : Nat} {F : Dfs} {Q : Post}
def WpX (C : Cfg) (ops : Array Oper) (base : Nat) (F : Dfs) (Q : Post) (rd : List Nat) (cs : List (Nat × Nat)) (i : Nat) (is : List Nat) (T : List V) (S : zA) (o : Oper) : Bool → Prop
 | true => WpA base (fun cs T S => WpD C ops base F Q rd cs is T S) cs i o.dst T S (addO C.P T o)
 | false => WpE C ops F Q (fun rd cs T S => WpD C ops base F Q rd cs is T S) rd cs i o.dst T S (opV C.P S T o)
def WpO (C : Cfg) (ops : Array Oper) (base : Nat) (F : Dfs) (Q : Post) (rd : List Nat) (cs : List (Nat × Nat)) (i : Nat) (is : List Nat) (T : List V) (S : zA) (o : Oper) : Option Bool → Prop
 | none => False
 | some false => WpD C ops base F Q rd (cs ++ [(i, 0)]) is (putT T o.dst (.tup [])) S
 | some true => WpX C ops base F Q rd cs i is T S o (kS o)
def WpI (C : Cfg) (ops : Array Oper) (base : Nat) (F : Dfs) (Q : Post) (rd : List Nat) (cs : List (Nat × Nat)) (i : Nat) (is : List Nat) (T : List V) (S : zA) : Option Oper → Prop
 | none => False
 | some o => WpO C ops base F Q rd cs i is T S o (qB ops T o)
theorem zxg {rd : List Nat} {cs : List (Nat × Nat)} {i : Nat} {is : List Nat} {T : List V} {S : zA} : WpD C ops base F Q rd cs (i :: is) T S = WpI C ops base F Q rd cs i is T S (ops[i]?) := by
 rw [ztk]
 unfold WpI WpO
 cases ops[i]? with
 | none => rfl
 | some o =>
  simp only
  cases qB ops T o with
  | none => rfl
  | some b =>
   cases b with
   | false => rfl
   | true => cases kS o <;> rfl
theorem vmd :
 (∀ {C : Cfg} {ops : Array Oper} {base : Nat} {F : Dfs} {Q : Post} {rd : List Nat} {cs : List (Nat × Nat)} {T : List V} {S : zA}, WpD C ops base F Q rd cs [] T S = (z3z ops cs = true ∧ Q .norm T S F)) ∧
 (∀ {C : Cfg} {ops : Array Oper} {base : Nat} {F : Dfs} {Q : Post} {rd : List Nat} {cs : List (Nat × Nat)} {i : Nat} {is : List Nat} {T : List V} {S : zA}, WpD C ops base F Q rd cs (i :: is) T S = WpI C ops base F Q rd cs i is T S (ops[i]?)) ∧
 (∀ {C : Cfg} {ops : Array Oper} {base : Nat} {F : Dfs} {Q : Post} {rd : List Nat} {cs : List (Nat × Nat)} {i : Nat} {is : List Nat} {T : List V} {S : zA} {o : Oper}, WpI C ops base F Q rd cs i is T S (some o) = WpO C ops base F Q rd cs i is T S o (qB ops T o)) ∧
 (∀ {C : Cfg} {ops : Array Oper} {base : Nat} {F : Dfs} {Q : Post} {rd : List Nat} {cs : List (Nat × Nat)} {i : Nat} {is : List Nat} {T : List V} {S : zA} {o : Oper}, WpO C ops base F Q rd cs i is T S o (some false) = WpD C ops base F Q rd (cs ++ [(i, 0)]) is (putT T o.dst (.tup [])) S) ∧
 (∀ {C : Cfg} {ops : Array Oper} {base : Nat} {F : Dfs} {Q : Post} {rd : List Nat} {cs : List (Nat × Nat)} {i : Nat} {is : List Nat} {T : List V} {S : zA} {o : Oper}, WpO C ops base F Q rd cs i is T S o (some true) = WpX C ops base F Q rd cs i is T S o (kS o)) ∧
 (∀ {C : Cfg} {ops : Array Oper} {base : Nat} {F : Dfs} {Q : Post} {rd : List Nat} {cs : List (Nat × Nat)} {i : Nat} {is : List Nat} {T : List V} {S : zA} {o : Oper}, WpX C ops base F Q rd cs i is T S o false = WpE C ops F Q (fun rd cs T S => WpD C ops base F Q rd cs is T S) rd cs i o.dst T S (opV C.P S T o)) ∧
 (∀ {C : Cfg} {ops : Array Oper} {base : Nat} {F : Dfs} {Q : Post} {rd : List Nat} {cs : List (Nat × Nat)} {i : Nat} {is : List Nat} {T : List V} {S : zA} {o : Oper}, WpX C ops base F Q rd cs i is T S o true = WpA base (fun cs T S => WpD C ops base F Q rd cs is T S) cs i o.dst T S (addO C.P T o)) ∧
 (∀ {C : Cfg} {ops : Array Oper} {F : Dfs} {Q : Post} {K : List Nat → List (Nat × Nat) → List V → zA → Prop} {rd : List Nat} {cs : List (Nat × Nat)} {i : Nat} {dst : Option Tmp} {T : List V} {S S' : zA} {v : V}, WpE C ops F Q K rd cs i dst T S (some (.val v S' 0)) = K rd (cs ++ [(i, 0)]) (putT T dst v) S') ∧
 (∀ {C : Cfg} {ops : Array Oper} {F : Dfs} {Q : Post} {K : List Nat → List (Nat × Nat) → List V → zA → Prop} {rd : List Nat} {cs : List (Nat × Nat)} {i : Nat} {dst : Option Tmp} {T : List V} {S S' : zA} {v : V}, WpE C ops F Q K rd cs i dst T S (some (.val v S' 1)) = K (i :: rd) (cs ++ [(i, 1)]) (putT T dst v) S') ∧
 (∀ {C : Cfg} {ops : Array Oper} {F : Dfs} {Q : Post} {K : List Nat → List (Nat × Nat) → List V → zA → Prop} {rd : List Nat} {cs : List (Nat × Nat)} {i : Nat} {dst : Option Tmp} {T : List V} {S S' : zA} {c : Nat}, WpE C ops F Q K rd cs i dst T S (some (.skip S' c)) = (z9l ops rd i 3 ∧ K rd (cs ++ [(i, 3)]) (putT T dst (.tup [])) S')) ∧
 (num2 0 = 0) ∧ (num2 1 = 1) ∧ (num2 2 = 3) ∧ (num2 3 = 3) ∧
 (∀ {α : Type} {l l' : List α} {a : α}, (a :: l) ++ l' = a :: (l ++ l')) :=
 ⟨rfl, zxg, rfl, rfl, rfl, rfl, rfl, by intros; simp [WpE, z9l, num2], by intros; simp [WpE, z9l, num2], rfl, rfl, rfl, rfl, rfl, rfl⟩
end
section
variable {C : Cfg} {S : zA}
theorem zns {n : Nat} : ∀ l : List D, (l.map V.d).flatMap (qH S n) = []
 | [] => rfl
 | x :: r => by
  rw [List.map_cons, List.flatMap_cons, zns r]
  cases n <;> rfl
def RowD (S : zA) (i : Nat) : Prop := ∃ (xs : List D) (e : TypeId), S[i]? = some (.row (xs.map .d) e)
theorem q20 {e : TypeId} {v : V} {ds : List D} {n : Nat} (h : OwnS S v e (ds.map .d)) : ∀ i ∈ qH S (n + 1) v, RowD S i := by
 rcases h with ⟨rfl, _⟩ | ⟨id, rfl, h1⟩
 ·intro i hi
  simp [qH] at hi
 ·intro i hi
  have e1 : qH S (n + 1) (.rs id 0 (ds.map V.d).length) = (match S[id]? with | some (.row xs e) => id :: xs.flatMap (qH S n) | _ => []) := rfl
  rw [e1, h1] at hi
  simp only [zns, List.mem_singleton] at hi
  subst hi
  exact ⟨ds, e, h1⟩
theorem zj6 {e : TypeId} {v : V} {ds : List D} {n : Nat} (ho : OwnS S v e (ds.map .d)) : frz S (n + 2) v = some (.sl ds) := by
 rcases ho with ⟨rfl, h⟩ | ⟨id, rfl, h1⟩
 ·have : ds = [] := by simpa using h
  subst this; rfl
 ·simp only [List.length_map]
  show (match S[id]? with
   | some (.row xs e) => if 0 + ds.length ≤ xs.length && (allO (frz S (n + 1)) xs).isSome then (allO (frz S (n + 1)) ((xs.drop 0).take ds.length)).map D.sl else none
   | some (.fz xs e) => if 0 + ds.length ≤ xs.length then some (D.sl ((xs.drop 0).take ds.length)) else none
   | _ => none) = _
  have h2 : ((ds.map V.d).drop 0).take ds.length = ds.map V.d := by rw [List.drop_zero, List.take_of_length_le (by simp)]
  simp only [h1, h2, ziw, List.length_map, Option.isSome_some, Bool.and_true, Option.map_some]
  simp
theorem znu {ops : Array Oper} {dst : Option Tmp} {l : List Oper} {T : List V} {F : Dfs} {Q : Post} {f : FuncId} {args : List V} {ds : List D} {v : V} (hs : C.shared f = false) (hf : allO (frz S zR) args = some ds) (hi : (args.flatMap (qH S zR)).isEmpty = true) (he : Ev C f ds (.ret v)) :
  WpR C ops dst l T S F Q (some (.enter f args)) = WpL C ops l (putT T dst v) S F Q := by
 obtain ⟨n, hn⟩ := he
 have hn' : answer C (run C n) f ds = some (.ret v) := hn
 have hc : kR C (run C n) f args S = some (.ret v, S, 1) := by
  unfold kR
  simp only [hs, Bool.false_eq_true, if_false, hf, hn', hi, if_true]
 apply propext
 constructor
 ·rintro ⟨m, o, S', c, h1, h2⟩
  have := z3o h1 hc
  simp only [Prod.mk.injEq] at this
  obtain ⟨rfl, rfl, rfl⟩ := this
  exact h2
 ·exact fun h => ⟨n, _, _, _, hc, h⟩
end
theorem qG {S : zA} {id : Nat} {x y : V} {e : TypeId} (h : S[id]? = some (.row [x] e)) : z11 S id 0 y = some (S.set id (.row [y] e)) := by
 unfold z11; rw [h]; rfl
theorem kD {S : zA} {id : Nat} {o o' : Ob} (h : S[id]? = some o) : (S.set id o')[id]? = some o' := by
 have := zZ h
 simp [this]
theorem vM {S : zA} {v : V} {e : TypeId} {xs : List V} {id : Nat} {o : Ob} (h : OwnS S v e xs) (hn : NotAt v id) : OwnS (S.set id o) v e xs := by
 rcases h with h | ⟨j, rfl, h1⟩
 ·exact .inl h
 ·refine .inr ⟨j, rfl, ?_⟩
  rw [List.getElem?_set_ne]
  ·exact h1
  ·rintro rfl; exact hn _ _ rfl
theorem znq {P : Program} {t : TypeId} {s : List UInt8} {i : Nat} (hu : P.underlying t = some .string) (h : i < s.length) : z4t P t (.d (.str s)) (.d (.int .i64 i)) = some (.d (.int .u8 s[i].toNat)) := by
 have h0 : (0 : Int) ≤ i := by omega
 simp only [z4t, intOf?, hu, h0, if_true, Int.toNat_natCast, List.getElem?_eq_getElem h]
end Go.Vm
end
