/- The value machine: rows and maps that are marked stay. -/
import Derived.Test.YtljefklfoieecaaVmF
set_option linter.unusedSimpArgs false
set_option linter.unusedVariables false
namespace Go.Vm
section
variable {P : Program} {S : Store} {ρ : Nat → Nat} {A : Nat → Prop} {w : World}

theorem mark_spec {S0 : Store} {all : List Nat} : ∀ {ids : List Nat} {S1 S2 : Store}, mark S0 all S1 ids = some S2 → S2.length = S1.length ∧
    (∀ i, i ∈ ids → i < S1.length → ∃ o o', S0[i]? = some o ∧ frzOb S0 o = some o' ∧ (∀ j ∈ obIds S0 o, j ∈ all) ∧ S2[i]? = some o') ∧ (∀ i, i ∉ ids → S2[i]? = S1[i]?)
  | [], S1, S2, h => by
    simp only [mark, Option.some.injEq] at h; subst h
    exact ⟨rfl, fun i hi => by simp at hi, fun _ _ => rfl⟩
  | id :: r, S1, S2, h => by
    simp only [mark] at h
    cases ho : S0[id]? with
    | none => simp [ho] at h
    | some o =>
      simp only [ho] at h
      cases hf : frzOb S0 o with
      | none => simp [hf] at h
      | some o' =>
        simp only [hf] at h
        split at h
        · rename_i hall
          obtain ⟨h1, h2, h3⟩ := mark_spec h
          refine ⟨by simpa using h1, fun i hi hil => ?_, fun i hi => ?_⟩
          · by_cases hir : i ∈ r
            · exact h2 i hir (by simpa using hil)
            · have hid : i = id := by simpa [hir] using hi
              subst hid
              refine ⟨o, o', ho, hf, ?_, ?_⟩
              · intro j hj
                simp only [List.all_eq_true, List.contains_iff_mem] at hall
                exact hall j hj
              · rw [h3 i hir, List.getElem?_set_self hil]
          · simp only [List.mem_cons, not_or] at hi
            rw [h3 i hi.2, List.getElem?_set_ne (fun h => hi.1 h.symm)]
        · cases h

/-- The blocks that stay. -/
def stay (S : Store) (ρ : Nat → Nat) (A : Nat → Prop) (ids : List Nat) (b : Nat) : Prop :=
  A b ∨ ∃ id ∈ ids, ∃ o, S[id]? = some o ∧ o.live = true ∧ (∀ s p, o ≠ .iter s p) ∧ ρ id = b
theorem stay_le {ids : List Nat} : ∀ b, A b → stay S ρ A ids b := fun _ h => .inl h
/-- Number 'id' is one of a row or a map that stays, or is no such thing. -/
theorem frzIds_kind {n : Nat} {v : V} {id : Nat} (h : id ∈ frzIds S n v) : ∃ o, S[id]? = some o ∧ o.live = true ∧ ∀ s p, o ≠ .iter s p := by
  induction n generalizing v with
  | zero => simp [frzIds] at h
  | succ n ih =>
    have many : ∀ {xs : List V}, id ∈ xs.flatMap (frzIds S n) → ∃ o, S[id]? = some o ∧ o.live = true ∧ ∀ s p, o ≠ .iter s p := fun {xs} h => by
      obtain ⟨y, _, hy⟩ := List.mem_flatMap.1 h
      exact ih hy
    cases v <;> simp only [frzIds, List.not_mem_nil] at h
    · split at h
      · rename_i xs e ho
        rcases List.mem_cons.1 h with rfl | h
        · exact ⟨_, ho, rfl, by simp⟩
        · exact many h
      · simp at h
    · split at h
      · rename_i xs e ho
        rcases List.mem_cons.1 h with rfl | h
        · exact ⟨_, ho, rfl, by simp⟩
        · exact many h
      · simp at h
    · split at h
      · rename_i xs e ho
        rcases List.mem_cons.1 h with rfl | h
        · exact ⟨_, ho, rfl, by simp⟩
        · exact many h
      · simp at h
    · split at h
      · rename_i es c ho
        rcases List.mem_cons.1 h with rfl | h
        · exact ⟨_, ho, rfl, by simp⟩
        · obtain ⟨e, _, he⟩ := List.mem_flatMap.1 h
          exact ih he
      · simp at h
    · exact many h
    · exact ih h
    · rcases List.mem_append.1 h with h | h <;> exact many h
theorem stay_of_ids {ids : List Nat} {n : Nat} {v : V} {id : Nat} (h : id ∈ frzIds S n v) (hin : id ∈ ids) : stay S ρ A ids (ρ id) := by
  obtain ⟨o, h1, h2, h3⟩ := frzIds_kind h
  exact .inr ⟨id, hin, o, h1, h2, h3, rfl⟩

/-- What is frozen, with what it leads to, reads as the data. -/
theorem frz_args (hI : Inv P S ρ A w) {ids : List Nat} : ∀ {args : List V} {ds : List D} {us : List Value}, allO (frz S frzFuel) args = some ds → RepWs P S ρ A w args us → (∀ i ∈ args.flatMap (frzIds S frzFuel), i ∈ ids) → RepWs P [] ρ (stay S ρ A ids) w (ds.map .d) us
  | [], ds, us, h, hr, _ => by simp only [allO, Option.some.injEq] at h; subst h; simpa [RepWs] using hr
  | v :: r, ds, us, h, hr, hq => by
    obtain ⟨y, zs, h1, h2, rfl⟩ := allO_cons h
    simp only [RepWs] at hr
    obtain ⟨u, ws, rfl, h3, h5⟩ := hr
    have hqi : ∀ i ∈ frzIds S frzFuel v, stay S ρ A ids (ρ i) := fun i hi => stay_of_ids hi (hq i (by simp [hi]))
    simp only [List.map_cons, RepWs]
    refine ⟨u, ws, rfl, repW_d.2 ?_, frz_args hI h2 h5 (fun i hi => hq i (by simp only [List.flatMap_cons, List.mem_append]; exact .inr hi))⟩
    rcases h3 with ⟨g1, us', g2, g3⟩ | ⟨g1, g3⟩
    · obtain ⟨e1, e2⟩ := frz_rep hI stay_le frzFuel v y _ h1 g3 hqi
      exact .inl ⟨e2.trans g1, us', g2, e1⟩
    · obtain ⟨e1, e2⟩ := frz_rep hI stay_le frzFuel v y _ h1 g3 hqi
      exact .inr ⟨e2.trans g1, e1⟩

/-- They are marked. -/
theorem Inv.mark (h : Inv P S ρ A w) {ids : List Nat} {S2 : Store} (hm : mark S ids S ids = some S2) (hk : ∀ id ∈ ids, ∃ o, S[id]? = some o ∧ o.live = true ∧ ∀ s p, o ≠ .iter s p) :
    Inv P S2 ρ (stay S ρ A ids) w ∧ Step S ρ A w S2 ρ (stay S ρ A ids) w := by
  obtain ⟨hlen, hin, hout⟩ := mark_spec hm
  have lt_of : ∀ {id : Nat} {x : Ob}, S[id]? = some x → id < S.length := fun {id x} hx => by
    rcases Nat.lt_or_ge id S.length with h' | h'
    · exact h'
    · simp [List.getElem?_eq_none h'] at hx
  have hQ : ∀ (o : Ob), (∀ j ∈ obIds S o, j ∈ ids) → ∀ {n : Nat} {v : V} {i : Nat}, i ∈ frzIds S n v → i ∈ obIds S o → stay S ρ A ids (ρ i) := fun o ho n v i hi hio => stay_of_ids hi (ho i hio)
  -- what each number holds now
  have now : ∀ id x, S2[id]? = some x → (id ∉ ids ∧ S[id]? = some x) ∨ (id ∈ ids ∧ ∃ o, S[id]? = some o ∧ o.live = true ∧ frzOb S o = some x ∧ (∀ j ∈ obIds S o, j ∈ ids)) := by
    intro id x hx
    by_cases hi : id ∈ ids
    · obtain ⟨o, h1, h2, _⟩ := hk id hi
      obtain ⟨o1, o', h3, h4, h5, h6⟩ := hin id hi (lt_of h1)
      rw [h1] at h3; cases h3
      rw [h6] at hx; cases hx
      exact .inr ⟨hi, o, h1, h2, h4, h5⟩
    · exact .inl ⟨hi, by rw [← hout id hi]; exact hx⟩
  have dead_or : ∀ o x, frzOb S o = some x → o.live = true → x.live = false := by
    intro o x hf hl
    cases o <;> simp only [Ob.live, Bool.false_eq_true] at hl <;> simp only [frzOb, reduceCtorEq] at hf
    · obtain ⟨ds, _, rfl⟩ := Option.map_eq_some_iff.1 hf; rfl
    · obtain ⟨ds, _, rfl⟩ := Option.map_eq_some_iff.1 hf; rfl
  have hs : SLe S ρ w S2 ρ w := fun id x hx hnh => by
    by_cases hi : id ∈ ids
    · obtain ⟨o1, o', h3, h4, h5, h6⟩ := hin id hi (lt_of hx)
      rw [hx] at h3; cases h3
      refine ⟨o', h6, ?_, .inr ⟨rfl, fun c e f hc => ⟨c, e, f, hc, rfl⟩⟩⟩
      cases x <;> simp only [frzOb, reduceCtorEq, Option.some.injEq] at h4
      · obtain ⟨ds, h1, rfl⟩ := Option.map_eq_some_iff.1 h4; exact ⟨(allO_some h1).1, rfl⟩
      · obtain ⟨ds, h1, rfl⟩ := Option.map_eq_some_iff.1 h4; trivial
      · subst h4; exact Ob.le_refl _
      · subst h4; exact Ob.le_refl _
      · subst h4; exact Ob.le_refl _
      · exact absurd rfl hnh
    · exact ⟨x, by rw [hout id hi]; exact hx, x.le_refl, .inr ⟨rfl, fun c e f hc => ⟨c, e, f, hc, rfl⟩⟩⟩
  refine ⟨⟨fun id x hx => ?_, fun i j x y hx hy hxl hyl hij => ?_, fun i x hx hxl => ?_, fun b hb => ?_⟩, ⟨rfl, rfl, rfl, Nat.le_refl _, fun _ _ _ => rfl, fun _ _ => rfl, stay_le, fun b hb => ?_, fun b hb => ?_, hs⟩⟩
  · rcases now id x hx with ⟨_, hx'⟩ | ⟨hi, o, ho, hl, hf, hcl⟩
    · exact (h.ok id x hx').mono stay_le (fun _ _ => rfl) hs (fun _ => rfl)
    · have hok := h.ok id o ho
      have hst : stay S ρ A ids (ρ id) := .inr ⟨id, hi, o, ho, hl, by
        obtain ⟨o', h1, _, h3⟩ := hk id hi
        rw [ho] at h1; cases h1; exact h3, rfl⟩
      cases o <;> simp only [Ob.live, Bool.false_eq_true] at hl <;> simp only [frzOb, reduceCtorEq] at hf
      · rename_i xs e
        cases h1 : allO (frz S frzFuel) xs with
        | none => simp [h1] at hf
        | some ds =>
          simp only [h1, Option.map_some, Option.some.injEq] at hf; subst hf
          simp only [ObOk] at hok ⊢
          obtain ⟨k, c, us, rest, g1, g2, g3, g4⟩ := hok
          exact ⟨k, c, _, us, rest, g1, hst, g2, g3, frzE (ids := frzIds S frzFuel) (frz_rep h stay_le frzFuel) k h1 g4 (fun i hi' => by
            obtain ⟨y, _, hy⟩ := List.mem_flatMap.1 hi'
            exact stay_of_ids hy (hcl i hi'))⟩
      · rename_i es clock
        cases h1 : allO (fun (e : D × V × Nat) => (frz S frzFuel e.2.1).map fun x => (e.1, x)) es with
        | none => simp [h1] at hf
        | some ds =>
          simp only [h1, Option.map_some, Option.some.injEq] at hf; subst hf
          simp only [ObOk] at hok ⊢
          obtain ⟨en, g1, g2, _⟩ := hok
          exact ⟨en, clock, hst, g1, frzM (ids := frzIds S frzFuel) stay_le (frz_rep h stay_le frzFuel) h1 g2 (fun i hi' => by
            obtain ⟨y, _, hy⟩ := List.mem_flatMap.1 hi'
            exact stay_of_ids hy (hcl i hi'))⟩
  · rcases now i x hx with ⟨_, hx'⟩ | ⟨_, o, ho, hl, hf, _⟩
    · rcases now j y hy with ⟨_, hy'⟩ | ⟨_, o, ho, hl, hf, _⟩
      · exact h.inj i j x y hx' hy' hxl hyl hij
      · rw [dead_or o y hf hl] at hyl; cases hyl
    · rw [dead_or o x hf hl] at hxl; cases hxl
  · rcases now i x hx with ⟨hi, hx'⟩ | ⟨_, o, ho, hl, hf, _⟩
    · intro hb
      rcases hb with hb | ⟨id, hid, o, ho, hl, _, he⟩
      · exact h.own i x hx' hxl hb
      · have := h.inj id i o x ho hx' hl hxl he
        subst this; exact hi hid
    · rw [dead_or o x hf hl] at hxl; cases hxl
  · rcases hb with hb | ⟨id, _, o, ho, hl, _, rfl⟩
    · exact h.lt b hb
    · exact (h.ok id o ho).lt (by rintro rfl; cases hl) (by rintro rfl; cases hl)
  · rcases hb with hb | ⟨id, _, o, ho, hl, _, rfl⟩
    · exact .inl hb
    · exact .inr (.inl ⟨id, o, ho, hl, rfl⟩)
  · obtain ⟨id, x, hx, hxl, rfl⟩ := hb
    rcases now id x hx with ⟨_, hx'⟩ | ⟨_, o, ho, hl, hf, _⟩
    · exact .inl ⟨id, x, hx', hxl, rfl⟩
    · rw [dead_or o x hf hl] at hxl; cases hxl

/-- Data that no address hangs on: they read so wherever. -/
theorem plain_rep {A B : Nat → Prop} {x : D} (h : x.plain = true) {us : List Value} (hr : RepC A w x us) : RepC B w x us := by
  have leaf : ∀ (y : D) (vs : List Value), (match y with | .sl _ | .map _ | .iface .. | .agg _ | .ptr _ | .fn .. => false | _ => true) = true → RepC A w y vs → RepC B w y vs := by
    intro y vs hy hr
    cases y <;> simp only [Bool.false_eq_true] at hy <;> simpa only [RepC] using hr
  cases x with
  | agg xs =>
    simp only [D.plain] at h
    simp only [RepC] at hr ⊢
    induction xs generalizing us with
    | nil => simpa [RepL] using hr
    | cons y r ih =>
      simp only [List.all_cons, Bool.and_eq_true] at h
      simp only [RepL] at hr ⊢
      obtain ⟨v, ws, rfl, h2, h3, h4⟩ := hr
      exact ⟨v, ws, rfl, h2, leaf y _ h.1 h3, ih h.2 h4⟩
  | iface t y =>
    simp only [D.plain] at h
    simp only [RepC] at hr ⊢
    obtain ⟨v, rfl, h3⟩ := hr
    refine ⟨v, rfl, ?_⟩
    cases y <;> simp only [Bool.false_eq_true] at h <;> simpa [D.isAgg, RepC] using h3
  | sl _ => simp [D.plain] at h
  | map _ => simp [D.plain] at h
  | ptr _ => simp [D.plain] at h
  | fn _ _ _ => simp [D.plain] at h
  | _ => simpa only [RepC] using hr
end
end Go.Vm
