/- The value machine: what single operations come to. Ninth part: maps. -/
import Derived.Test.YtljefklfoieecaaVmO
set_option linter.unusedVariables false
set_option linter.unusedSimpArgs false
namespace Go.Vm
section
variable {P : Program} {S : Store} {ρ : Nat → Nat} {A : Nat → Prop} {w w' : World}

/-- Entries. -/
def RepEn (P : Program) (S : Store) (ρ : Nat → Nat) (A : Nat → Prop) (w : World) : List (D × V) → List MapEntry → Prop
  | [], ms => ms = []
  | e :: r, ms => ∃ m ms', ms = m :: ms' ∧ RepX A w e.1 m.key ∧ RepW P S ρ A w e.2 m.val ∧ RepEn P S ρ A w r ms'
theorem repEn_of_M : ∀ {es : List (D × D)} {ms : List MapEntry}, RepM A w es ms → RepEn P S ρ A w (es.map fun e => (e.1, V.d e.2)) ms
  | [], ms, h => by simpa [RepM, RepEn] using h
  | (k, x) :: r, ms, h => by
    simp only [RepM, RepP] at h
    obtain ⟨m, ms', rfl, ⟨h1, h2⟩, h3⟩ := h
    simp only [List.map_cons, RepEn]
    exact ⟨m, ms', rfl, h1, repW_d.2 h2, repEn_of_M h3⟩
theorem repEn_of_VM : ∀ {es : List (D × V × Nat)} {ms : List MapEntry}, RepVM P S ρ A w es ms → RepEn P S ρ A w (es.map fun e => (e.1, e.2.1)) ms
  | [], ms, h => by simpa [RepVM, RepEn] using h
  | e :: r, ms, h => by
    simp only [RepVM] at h
    obtain ⟨m, ms', rfl, h1, h2, _, h3⟩ := h
    simp only [List.map_cons, RepEn]
    exact ⟨m, ms', rfl, h1, h2, repEn_of_VM h3⟩
theorem entriesV_rep (hI : Inv P S ρ A w) {x : V} {es : List (D × V)} {u : Value} (h : entriesV S x = some es) (hx : RepV P S ρ A w x u) :
    (u = .map none ∧ es = []) ∨ ∃ r en clock, u = .map (some r) ∧ w.heap[r]? = some (.map en clock) ∧ RepEn P S ρ A w es en.toList := by
  unfold entriesV at h
  split at h
  · rename_i ds
    simp only [Option.some.injEq] at h; subst h
    have hx := (repX_leaf rfl).1 (repV_d.1 hx)
    simp only [RepC, List.cons.injEq, and_true] at hx
    obtain ⟨r, rfl, h2⟩ := hx
    rcases h2 with ⟨rfl, rfl⟩ | ⟨b, en, clock, rfl, _, h3, h4⟩
    · exact .inl ⟨rfl, rfl⟩
    · exact .inr ⟨b, en, clock, rfl, h3, repEn_of_M h4⟩
  · simp only [Option.some.injEq] at h; subst h
    have hx := (repX_leaf rfl).1 (repV_d.1 hx)
    simp only [RepC, List.cons.injEq, and_true] at hx
    exact .inl ⟨hx, rfl⟩
  · rename_i id
    right
    have hx := (repW_leaf rfl).1 ((repV_one rfl).1 hx)
    simp only [RepVC, List.cons.injEq, and_true] at hx
    obtain ⟨r, rfl, hpl⟩ := hx
    unfold MapPl at hpl
    cases ho : S[id]? with
    | none => simp [ho] at hpl
    | some o =>
      have hok := hI.ok id o ho
      simp only [ho] at hpl h
      cases o with
      | mp ms clock =>
        simp only [Option.some.injEq] at h hpl; subst h; subst hpl
        simp only [ObOk] at hok
        obtain ⟨en, h1, h2, _⟩ := hok
        exact ⟨_, en, clock, rfl, h1, repEn_of_VM h2⟩
      | fm ms =>
        simp only [Option.some.injEq] at h hpl; subst h; subst hpl
        simp only [ObOk] at hok
        obtain ⟨en, clock, _, h1, h2⟩ := hok
        exact ⟨_, en, clock, rfl, h1, repEn_of_M h2⟩
      | _ => simp at h
  · cases h

theorem leafT_spec {t : TypeId} (h : leafT P t = true) : ∃ td, P.underlying t = some td ∧ flatT td = true ∧ ∀ (e : Bool) (n : Nat) (v : Value) (w : World), (Instr.checkKey e (n + 1) t v).run P w = .ok () w := by
  unfold leafT at h
  cases hu : P.underlying t with
  | none => simp [hu] at h
  | some td =>
    simp only [hu] at h
    refine ⟨td, rfl, ?_, ?_⟩
    · cases td <;> first | rfl | simp at h
    · intro e n v w
      cases td <;> simp only [Bool.false_eq_true] at h <;> simp [Instr.checkKey, run_underlying hu]
theorem checkKey_run {kt : TypeId} {k : V} {u : Value} (h : keyOk P kt k = true) (hk : RepV P S ρ A w k u) (e : Bool) (n : Nat) : (Instr.checkKey e (n + 2) kt u).run P w = .ok () w := by
  unfold keyOk at h
  split at h
  · rename_i fs xs hu hd
    obtain ⟨us, rfl, hr⟩ := repX_agg.1 (asD_repX hd hk)
    have hl := repL_length hr
    simp only [Array.length_toList] at hl
    have loop : ∀ (l : List Field) (w : World), (l.all fun f => leafT P f.type && decide (f.offset < xs.length)) = true → (forIn l PUnit.unit (fun f (_ : PUnit) => do
        if f.name ≠ "_" then do
          let a ← part f.type us f.offset
          Instr.checkKey e (n + 1) f.type a
        pure (ForInStep.yield PUnit.unit) : Field → PUnit → Sem (ForInStep PUnit))).run P w = .ok PUnit.unit w := by
      intro l
      induction l with
      | nil => intro w _; simp
      | cons f r ih =>
        intro w hl2
        simp only [List.all_cons, Bool.and_eq_true, decide_eq_true_eq] at hl2
        obtain ⟨td, htd, hf, hck⟩ := leafT_spec hl2.1.1
        have hlt : f.offset < us.size := by omega
        have hpart := run_part_leaf (P := P) (w := w) htd hf (us := us) (off := f.offset) (v := us[f.offset]) (by simp [hlt])
        by_cases hn : f.name = "_"
        · simp only [List.forIn_cons, Sem.run_bind, hn, ne_eq, not_true_eq_false, if_false, Sem.run_pure, Result.andThen_ok]
          exact ih w (by simpa using hl2.2)
        · simp only [List.forIn_cons, Sem.run_bind, ne_eq, hn, not_false_eq_true, if_true, hpart, Result.andThen_ok, hck, Sem.run_pure]
          exact ih w (by simpa using hl2.2)
    have := loop fs.toList w h
    rw [Instr.checkKey]
    simp only [Sem.run_bind, run_underlying hu, Result.andThen_ok]
    rw [← Array.forIn_toList]
    simp at this ⊢
    rw [this]; rfl
  · rename_i k' hk' hne
    simp only [Bool.and_eq_true] at h
    obtain ⟨_, _, _, hck⟩ := leafT_spec h.1
    exact hck e (n + 1) u w
  · cases h

theorem sameNow_of {kt : TypeId} {td : TypeDesc} {k x : D} {b : Bool} {u v : Value} (hu : P.underlying kt = some td) (h : eqLeaf P kt k x = some b) (hk : RepX A w k u) (hx : RepX A w x v) : Instr.sameNow td u v = some b := by
  unfold eqLeaf at h
  rw [hu] at h
  split at h
  · rename_i a c heq
    cases heq
    simp only [Option.some.injEq] at h; subst h
    have h1 := (repX_leaf rfl).1 hk
    have h2 := (repX_leaf rfl).1 hx
    simp only [RepC, List.cons.injEq, and_true] at h1 h2
    subst h1; subst h2; rfl
  · rename_i k0 k1 a k2 c heq
    cases heq
    split at h
    · rename_i hkk
      subst hkk
      simp only [Option.some.injEq] at h; subst h
      have h1 := (repX_leaf rfl).1 hk
      have h2 := (repX_leaf rfl).1 hx
      simp only [RepC, List.cons.injEq, and_true] at h1 h2
      subst h1; subst h2
      simp [Instr.sameNow]
    · cases h
  · rename_i a c heq
    cases heq
    simp only [Option.some.injEq] at h; subst h
    have h1 := (repX_leaf rfl).1 hk
    have h2 := (repX_leaf rfl).1 hx
    simp only [RepC, List.cons.injEq, and_true] at h1 h2
    subst h1; subst h2
    have := beq_toListBytes (⟨a.toArray⟩ : ByteArray) ⟨c.toArray⟩
    rw [ByteArray.toList_eq, ByteArray.toList_eq] at this
    simp only [Instr.sameNow, this, Option.some.injEq]
  · cases h
/-- What is found. -/
def Found (P : Program) (S : Store) (ρ : Nat → Nat) (A : Nat → Prop) (w : World) (es : List (D × V)) (i : Nat) : Option (Nat × V) → Option (Nat × Value) → Prop
  | none, r => r = none
  | some (j, x), r => ∃ v, r = some (j, v) ∧ RepW P S ρ A w x v ∧ i ≤ j ∧ ∃ kd, es[j - i]? = some (kd, x)
theorem Found.step {e : D × V} {es : List (D × V)} {i : Nat} {r : Option (Nat × V)} {r' : Option (Nat × Value)} (h : Found P S ρ A w es (i + 1) r r') : Found P S ρ A w (e :: es) i r r' := by
  cases r with
  | none => exact h
  | some q =>
    obtain ⟨j, x⟩ := q
    obtain ⟨v, h1, h2, h3, kd, h4⟩ := h
    refine ⟨v, h1, h2, by omega, kd, ?_⟩
    rw [show j - i = (j - (i + 1)) + 1 by omega]
    simpa using h4
theorem findNow_run {kt : TypeId} {td : TypeDesc} {k : V} {kd : D} {u : Value} (hu : P.underlying kt = some td) (hkd : asD k = some kd) (hg : kd.isAgg = false) (hp : ptrT P kt = false ∧ mapT P kt = false ∧ fnT P kt = false) (hk : RepV P S ρ A w k u) :
    ∀ {es : List (D × V)} {en : List MapEntry} {i : Nat} {r : Option (Nat × V)}, findD P kt k es i = some r → RepEn P S ρ A w es en → ∃ r', Instr.findNow td u en i = some r' ∧ Found P S ρ A w es i r r'
  | [], en, i, r, h, he => by
    simp only [findD, Option.some.injEq] at h; subst h
    simp only [RepEn] at he; subst he
    exact ⟨none, rfl, rfl⟩
  | e :: es, en, i, r, h, he => by
    simp only [RepEn] at he
    obtain ⟨m, ms, rfl, h1, h2, h3⟩ := he
    simp only [findD] at h
    cases hq : eqV P kt k (.d e.1) with
    | none => simp [hq] at h
    | some b =>
      have hq' := hq
      unfold eqV at hq
      rw [if_neg (by simp [hp.1]), if_neg (by simp [hp.2.1]), if_neg (by simp [hp.2.2])] at hq
      rw [hkd, show asD (.d e.1) = some e.1 from rfl] at hq
      have hleaf : eqLeaf P kt kd e.1 = some b := by
        cases kd <;> first | simpa using hq | simp [D.isAgg] at hg
      have hsn := sameNow_of hu hleaf (asD_repX hkd hk) h1
      cases b with
      | true =>
        simp only [hq', Option.some.injEq] at h; subst h
        exact ⟨some (i, m.val), by simp [Instr.findNow, hsn], m.val, rfl, h2, Nat.le_refl _, e.1, by simp⟩
      | false =>
        simp only [hq'] at h
        obtain ⟨r', e1, e2⟩ := findNow_run hu hkd hg hp hk h h3
        exact ⟨r', by simp [Instr.findNow, hsn, e1], e2.step⟩
theorem findAsking_run {kt : TypeId} {k : V} {u : Value} (hk : RepV P S ρ A w k u) : ∀ {es : List (D × V)} {en : List MapEntry} {i : Nat} {r : Option (Nat × V)}, findD P kt k es i = some r → RepEn P S ρ A w es en → ∃ r', (Instr.findAsking kt u en i).run P w = .ok r' w ∧ Found P S ρ A w es i r r'
  | [], en, i, r, h, he => by
    simp only [findD, Option.some.injEq] at h; subst h
    simp only [RepEn] at he; subst he
    exact ⟨none, rfl, rfl⟩
  | e :: es, en, i, r, h, he => by
    simp only [RepEn] at he
    obtain ⟨m, ms, rfl, h1, h2, h3⟩ := he
    simp only [findD] at h
    cases hq : eqV P kt k (.d e.1) with
    | none => simp [hq] at h
    | some b =>
      obtain ⟨g1, _⟩ := eqV_run hq hk (repV_d.2 h1)
      cases b with
      | true =>
        simp only [hq, Option.some.injEq] at h; subst h
        exact ⟨some (i, m.val), by simp [Instr.findAsking, g1], m.val, rfl, h2, Nat.le_refl _, e.1, by simp⟩
      | false =>
        simp only [hq] at h
        obtain ⟨r', e1, e2⟩ := findAsking_run hk h h3
        exact ⟨r', by simp [Instr.findAsking, g1, e1], e2.step⟩
theorem findKey_run {kt : TypeId} {k : V} {u : Value} (hok : keyOk P kt k = true) (hk : RepV P S ρ A w k u) {es : List (D × V)} {en : List MapEntry} {r : Option (Nat × V)} (h : findD P kt k es 0 = some r) (he : RepEn P S ρ A w es en) :
    ∃ r', (Instr.findKey kt u en).run P w = .ok r' w ∧ Found P S ρ A w es 0 r r' := by
  unfold keyOk at hok
  split at hok
  · rename_i fs xs hu hd
    obtain ⟨us, rfl, hr⟩ := repX_agg.1 (asD_repX hd hk)
    cases en with
    | nil =>
      cases es with
      | nil =>
        simp only [findD, Option.some.injEq] at h; subst h
        exact ⟨none, by simp [Instr.findKey, run_underlying hu, Instr.findNow], rfl⟩
      | cons e es => simp [RepEn] at he
    | cons m ms =>
      obtain ⟨r', e1, e2⟩ := findAsking_run hk h he
      exact ⟨r', by simp [Instr.findKey, run_underlying hu, Instr.findNow, Instr.sameNow, e1], e2⟩
  · rename_i kd hkd hne
    simp only [Bool.and_eq_true, Bool.not_eq_eq_eq_not, Bool.not_true] at hok
    obtain ⟨td, htd, hf, _⟩ := leafT_spec hok.1
    have hp : ptrT P kt = false ∧ mapT P kt = false ∧ fnT P kt = false := by
      have := hok.1
      unfold leafT at this
      unfold ptrT mapT fnT
      cases hu : P.underlying kt with
      | none => exact ⟨rfl, rfl, rfl⟩
      | some td => simp only [hu] at this; cases td <;> first | exact ⟨rfl, rfl, rfl⟩ | simp at this
    obtain ⟨r', e1, e2⟩ := findNow_run htd hkd hok.2 hp hk h he
    exact ⟨r', by simp [Instr.findKey, run_underlying htd, e1], e2⟩
  · cases hok

theorem lookupV_run (hI : Inv P S ρ A w) {t : TypeId} {x k y : V} {ok : Bool} {ux uk : Value} (h : lookupV P S t x k ok = some y) (hx : RepV P S ρ A w x ux) (hk : RepV P S ρ A w k uk) :
    ∃ v, (Instr.lookup t ux uk ok).run P w = .ok v w ∧ RepV P S ρ A w y v := by
  unfold lookupV at h
  split at h
  · rename_i kt et hu
    split at h
    · rename_i hok
      cases hes : entriesV S x with
      | none => simp [hes] at h
      | some es =>
        cases hz : zeroV P et with
        | none => simp [hes, hz] at h
        | some z =>
          simp only [hes, hz] at h
          obtain ⟨zv, hz1, hz2⟩ := zeroV_run (S := S) (ρ := ρ) (A := A) (w := w) hz
          cases hf : findD P kt k es 0 with
          | none => simp [hf] at h
          | some r =>
            simp only [hf] at h
            have hfin : ∃ r' : Option (Nat × Value), Found P S ρ A w es 0 r r' ∧ ∀ v b, (r' = none → v = zv ∧ b = false) → (∀ i q, r' = some (i, q) → v = q ∧ b = true) → (Instr.lookup t ux uk ok).run P w = .ok (if ok then .tuple #[v, .bool b] else v) w := by
              rcases entriesV_rep hI hes hx with ⟨rfl, rfl⟩ | ⟨rr, en, clock, rfl, h1, h2⟩
              · obtain ⟨r', f1, f2⟩ := findKey_run hok hk hf (en := []) rfl
                have hck := checkKey_run (P := P) hok hk true 9998
                refine ⟨r', f2, fun v b hv1 hv2 => ?_⟩
                have f1' : (Instr.findKey kt uk #[].toList).run P w = .ok r' w := f1
                simp only [Instr.lookup, Sem.run_bind, run_underlying hu, Result.andThen_ok, Sem.run_pure, Array.isEmpty_empty, f1', show (10000 : Nat) = 9998 + 2 from rfl, hck]
                cases r' with
                | none => obtain ⟨rfl, rfl⟩ := hv1 rfl; simp [hz1]
                | some q => obtain ⟨i, q⟩ := q; obtain ⟨rfl, rfl⟩ := hv2 i q rfl; simp
              · obtain ⟨r', f1, f2⟩ := findKey_run hok hk hf h2
                have hck := checkKey_run (P := P) hok hk en.isEmpty 9998
                have hg : (getObj rr).run P w = .ok (.map en clock) w := by simp [getObj, Sem.run, h1]
                refine ⟨r', f2, fun v b hv1 hv2 => ?_⟩
                simp only [Instr.lookup, Sem.run_bind, run_underlying hu, Result.andThen_ok, Sem.run_pure, hg, f1, show (10000 : Nat) = 9998 + 2 from rfl, hck]
                cases r' with
                | none => obtain ⟨rfl, rfl⟩ := hv1 rfl; simp [hz1]
                | some q => obtain ⟨i, q⟩ := q; obtain ⟨rfl, rfl⟩ := hv2 i q rfl; simp
            obtain ⟨r', f2, hrun⟩ := hfin
            have mkt : ∀ (v : Value) (x : V) (b : Bool), RepW P S ρ A w x v → RepV P S ρ A w (if ok then .tup [x, .d (.bool b)] else x) (if ok then .tuple #[v, .bool b] else v) := by
              intro v x b hxv
              cases ok with
              | false => exact repV_of_repW hxv
              | true =>
                simp only [if_true, RepV]
                exact ⟨_, rfl, by simp only [RepWs]; exact ⟨v, [.bool b], rfl, hxv, .bool b, [], rfl, mk_bool, rfl⟩⟩
            cases r with
            | none =>
              simp only [Option.some.injEq] at h; subst h
              have : r' = none := f2
              subst this
              exact ⟨_, hrun zv false (fun _ => ⟨rfl, rfl⟩) (fun _ _ h => by cases h), mkt zv z false hz2⟩
            | some q =>
              obtain ⟨j, v0⟩ := q
              simp only [Option.some.injEq] at h; subst h
              obtain ⟨v, rfl, g1, _⟩ := f2
              exact ⟨_, hrun v true (fun h => by cases h) (fun i q h => by cases h; exact ⟨rfl, rfl⟩), mkt v v0 true g1⟩
    · cases h
  · cases h
end
end Go.Vm
