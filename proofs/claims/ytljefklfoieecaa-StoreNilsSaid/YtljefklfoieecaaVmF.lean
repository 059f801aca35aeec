/- The value machine: what is frozen reads as the data. -/
import Derived.Test.YtljefklfoieecaaVmE
set_option linter.unusedSimpArgs false
set_option linter.unusedVariables false
namespace Go.Vm
section
variable {P : Program} {S : Store} {ρ : Nat → Nat} {A Q : Nat → Prop} {w : World}

theorem allO_some {α β : Type} {f : α → Option β} : ∀ {xs : List α} {ys : List β}, allO f xs = some ys → xs.length = ys.length ∧ ∀ (i : Nat) (x : α), xs[i]? = some x → ∃ y, f x = some y ∧ ys[i]? = some y
  | [], ys, h => by simp only [allO, Option.some.injEq] at h; subst h; simp
  | x :: r, ys, h => by
    simp only [allO] at h
    cases h1 : f x with
    | none => simp [h1] at h
    | some y =>
      cases h2 : allO f r with
      | none => simp [h1, h2] at h
      | some zs =>
        simp only [h1, h2, Option.some.injEq] at h
        subst h
        obtain ⟨e1, e2⟩ := allO_some h2
        refine ⟨by simp [e1], fun i z hz => ?_⟩
        cases i with
        | zero => simp at hz; subst hz; exact ⟨y, h1, rfl⟩
        | succ i => simp at hz; simpa using e2 i z hz
theorem allO_cons {α β : Type} {f : α → Option β} {x : α} {r : List α} {ys : List β} (h : allO f (x :: r) = some ys) : ∃ y zs, f x = some y ∧ allO f r = some zs ∧ ys = y :: zs := by
  simp only [allO] at h
  cases h1 : f x with
  | none => simp [h1] at h
  | some y =>
    cases h2 : allO f r with
    | none => simp [h1, h2] at h
    | some zs =>
      simp only [h1, h2, Option.some.injEq] at h
      exact ⟨y, zs, rfl, rfl, h.symm⟩

/-- Lists of which each is frozen. -/
theorem frzL {f : V → Option D} {ids : V → List Nat} (hf : ∀ v x us, f v = some x → RepVC P S ρ A w v us → (∀ i ∈ ids v, Q (ρ i)) → RepC Q w x us ∧ x.isAgg = v.isAgg) :
    ∀ {xs : List V} {ds : List D} {us : List Value}, allO f xs = some ds → RepVL P S ρ A w xs us → (∀ i ∈ xs.flatMap ids, Q (ρ i)) → RepL Q w ds us
  | [], ds, us, h, hr, _ => by simp only [allO, Option.some.injEq] at h; subst h; simpa [RepL, RepVL] using hr
  | v :: r, ds, us, h, hr, hq => by
    obtain ⟨y, zs, h1, h2, rfl⟩ := allO_cons h
    simp only [RepVL] at hr
    obtain ⟨u, ws, rfl, h3, h4, h5⟩ := hr
    obtain ⟨e1, e2⟩ := hf v y [u] h1 h4 (fun i hi => hq i (by simp [hi]))
    simp only [RepL]
    exact ⟨u, ws, rfl, e2.trans h3, e1, frzL hf h2 h5 (fun i hi => hq i (by simp only [List.flatMap_cons, List.mem_append]; exact .inr hi))⟩
theorem frzE {f : V → Option D} {ids : V → List Nat} (hf : ∀ v x us, f v = some x → RepVC P S ρ A w v us → (∀ i ∈ ids v, Q (ρ i)) → RepC Q w x us ∧ x.isAgg = v.isAgg) (k : Nat) :
    ∀ {xs : List V} {ds : List D} {us : List Value}, allO f xs = some ds → RepVE P S ρ A w k xs us → (∀ i ∈ xs.flatMap ids, Q (ρ i)) → RepE Q w k ds us
  | [], ds, us, h, hr, _ => by simp only [allO, Option.some.injEq] at h; subst h; simpa [RepE, RepVE] using hr
  | v :: r, ds, us, h, hr, hq => by
    obtain ⟨y, zs, h1, h2, rfl⟩ := allO_cons h
    simp only [RepVE] at hr
    obtain ⟨u, ws, rfl, h3, h4, h5⟩ := hr
    obtain ⟨e1, e2⟩ := hf v y u h1 h4 (fun i hi => hq i (by simp [hi]))
    simp only [RepE]
    exact ⟨u, ws, rfl, h3, e1, frzE hf k h2 h5 (fun i hi => hq i (by simp only [List.flatMap_cons, List.mem_append]; exact .inr hi))⟩
theorem frzS {f : V → Option D} {ids : V → List Nat} (hf : ∀ v x us, f v = some x → RepVC P S ρ A w v us → (∀ i ∈ ids v, Q (ρ i)) → RepC Q w x us ∧ x.isAgg = v.isAgg) :
    ∀ {xs : List V} {ds : List D} {us : List Value}, allO f xs = some ds → RepVS P S ρ A w xs us → (∀ i ∈ xs.flatMap ids, Q (ρ i)) → RepS Q w ds us
  | [], ds, us, h, hr, _ => by simp only [allO, Option.some.injEq] at h; subst h; simpa [RepS, RepVS] using hr
  | v :: r, ds, us, h, hr, hq => by
    obtain ⟨y, zs, h1, h2, rfl⟩ := allO_cons h
    simp only [RepVS] at hr
    obtain ⟨u, ws, rfl, h3, h5⟩ := hr
    have hqi : ∀ i ∈ ids v, Q (ρ i) := fun i hi => hq i (by simp [hi])
    simp only [RepS]
    refine ⟨u, ws, rfl, ?_, frzS hf h2 h5 (fun i hi => hq i (by simp only [List.flatMap_cons, List.mem_append]; exact .inr hi))⟩
    rcases h3 with ⟨g1, us', g2, g3⟩ | ⟨g1, g3⟩
    · obtain ⟨e1, e2⟩ := hf v y _ h1 g3 hqi
      exact .inl ⟨e2.trans g1, us', g2, e1⟩
    · obtain ⟨e1, e2⟩ := hf v y _ h1 g3 hqi
      exact .inr ⟨e2.trans g1, e1⟩
theorem frzM {f : V → Option D} {ids : V → List Nat} (hAQ : ∀ b, A b → Q b) (hf : ∀ v x us, f v = some x → RepVC P S ρ A w v us → (∀ i ∈ ids v, Q (ρ i)) → RepC Q w x us ∧ x.isAgg = v.isAgg) :
    ∀ {es : List (D × V × Nat)} {ds : List (D × D)} {ms : List MapEntry}, allO (fun (e : D × V × Nat) => (f e.2.1).map fun x => (e.1, x)) es = some ds → RepVM P S ρ A w es ms → (∀ i ∈ es.flatMap (fun e => ids e.2.1), Q (ρ i)) → RepM Q w ds ms
  | [], ds, ms, h, hr, _ => by simp only [allO, Option.some.injEq] at h; subst h; simpa [RepM, RepVM] using hr
  | (kx, v, n) :: r, ds, ms, h, hr, hq => by
    obtain ⟨y, zs, h1, h2, rfl⟩ := allO_cons h
    cases hv : f v with
    | none => simp [hv] at h1
    | some x =>
      simp only [hv, Option.map_some, Option.some.injEq] at h1
      subst h1
      simp only [RepVM] at hr
      obtain ⟨m, ms', rfl, h3, h4, _, h5⟩ := hr
      have hqi : ∀ i ∈ ids v, Q (ρ i) := fun i hi => hq i (by simp [hi])
      simp only [RepM, RepP]
      refine ⟨m, ms', rfl, ⟨repX_mono hAQ (fun _ _ => rfl) h3, ?_⟩, frzM hAQ hf h2 h5 (fun i hi => hq i (by simp only [List.flatMap_cons, List.mem_append]; exact .inr hi))⟩
      rcases h4 with ⟨g1, us', g2, g3⟩ | ⟨g1, g3⟩
      · obtain ⟨e1, e2⟩ := hf v x _ hv g3 hqi
        exact .inl ⟨e2.trans g1, us', g2, e1⟩
      · obtain ⟨e1, e2⟩ := hf v x _ hv g3 hqi
        exact .inr ⟨e2.trans g1, e1⟩

theorem cellsAt_of_row {b : Nat} {c : Array Value} {e : TypeId} {f : Nat × Nat} {us rest : List Value} (hh : w.heap[b]? = some (.cells c e f)) (hc : c.toList = us ++ rest) (n m : Nat) : CellsAt w b n ((us.drop n).take m) := by
  refine ⟨c, e, f, hh, fun i v hv => ?_⟩
  rw [List.getElem?_take] at hv
  split at hv
  · rw [List.getElem?_drop] at hv
    have : c.toList[n + i]? = some v := by
      rw [hc, List.getElem?_append_left]
      · exact hv
      · rcases Nat.lt_or_ge (n + i) us.length with h | h
        · exact h
        · simp [List.getElem?_eq_none h] at hv
    simpa using this
  · cases hv

theorem any_isAgg {ds : List D} (h : ds.any D.isAgg = false) : ∀ x ∈ ds, x.isAgg = false := by
  intro x hx
  cases hxa : x.isAgg with
  | false => rfl
  | true => simp only [List.any_eq_false] at h; exact absurd hxa (h x hx)

theorem leafD_rep {v : V} {x : D} {us : List Value} (h : leafD v = some x) (hr : RepVC P S ρ A w v us) : RepC A w x us ∧ x.isAgg = false ∧ v.isAgg = false := by
  unfold leafD at h
  split at h
  · rename_i y
    split at h
    · cases h
    · rename_i hy
      simp only [Option.some.injEq] at h; subst h
      simp only [RepVC] at hr
      exact ⟨hr, by simpa using hy, by simpa [V.isAgg] using hy⟩
  · simp only [Option.some.injEq] at h; subst h
    simp only [RepVC] at hr
    obtain ⟨a, _, h2⟩ := hr
    exact ⟨h2, rfl, rfl⟩
  · rename_i t y
    simp only [Option.some.injEq] at h; subst h
    simp only [RepVC] at hr
    obtain ⟨u, rfl, h3⟩ := hr
    simp only [RepC]
    exact ⟨⟨u, rfl, h3.imp (fun ⟨a, us, b, c⟩ => ⟨a, us, b, c⟩) id⟩, rfl, rfl⟩
  · cases h
theorem leafD_L : ∀ {xs : List V} {ds : List D} {us : List Value}, allO leafD xs = some ds → RepVL P S ρ A w xs us → RepL A w ds us
  | [], ds, us, h, hr => by simp only [allO, Option.some.injEq] at h; subst h; simpa [RepL, RepVL] using hr
  | v :: r, ds, us, h, hr => by
    obtain ⟨y, zs, h1, h2, rfl⟩ := allO_cons h
    simp only [RepVL] at hr
    obtain ⟨u, ws, rfl, h3, h4, h5⟩ := hr
    obtain ⟨e1, e2, _⟩ := leafD_rep h1 h4
    simp only [RepL]
    exact ⟨u, ws, rfl, e2, e1, leafD_L h2 h5⟩
theorem asD_rep {v : V} {x : D} {us : List Value} (h : asD v = some x) (hr : RepVC P S ρ A w v us) : RepC A w x us ∧ x.isAgg = v.isAgg := by
  unfold asD at h
  split at h
  · simp only [Option.some.injEq] at h; subst h
    simp only [RepVC] at hr
    exact ⟨hr, rfl⟩
  · rename_i xs
    cases h1 : allO leafD xs with
    | none => simp [h1] at h
    | some ds =>
      simp only [h1, Option.map_some, Option.some.injEq] at h; subst h
      simp only [RepVC] at hr
      simp only [RepC]
      exact ⟨leafD_L h1 hr, rfl⟩
  · obtain ⟨h1, h2, h3⟩ := leafD_rep h hr
    exact ⟨h1, h2.trans h3.symm⟩

theorem frz_rep (hI : Inv P S ρ A w) (hAQ : ∀ b, A b → Q b) : ∀ (n : Nat) (v : V) (x : D) (us : List Value), frz S n v = some x → RepVC P S ρ A w v us → (∀ i ∈ frzIds S n v, Q (ρ i)) → RepC Q w x us ∧ x.isAgg = v.isAgg := by
  intro n
  induction n with
  | zero => intro v x us h; simp [frz] at h
  | succ n ih =>
    intro v x us h hr hq
    cases v with
    | d y =>
      simp only [frz, Option.some.injEq] at h; subst h
      simp only [RepVC] at hr
      exact ⟨repC_mono hAQ (fun _ _ => rfl) _ _ hr, rfl⟩
    | ts xs =>
      simp only [frz, Option.some.injEq] at h; subst h
      simp only [RepVC] at hr
      obtain ⟨a, _, h2⟩ := hr
      exact ⟨repC_mono hAQ (fun _ _ => rfl) _ _ h2, rfl⟩
    | agg xs =>
      simp only [frz] at h
      cases h1 : allO (frz S n) xs with
      | none => simp [h1] at h
      | some ds =>
        simp only [h1] at h
        split at h
        · cases h
        · simp only [Option.some.injEq] at h; subst h
          simp only [RepVC] at hr
          simp only [RepC]
          exact ⟨frzL ih h1 hr (by simpa [frzIds] using hq), rfl⟩
    | iface t v =>
      simp only [frz] at h
      cases h1 : frz S n v with
      | none => simp [h1] at h
      | some y =>
        simp only [h1, Option.map_some, Option.some.injEq] at h; subst h
        simp only [RepVC] at hr
        obtain ⟨u, rfl, h3⟩ := hr
        simp only [RepC]
        refine ⟨⟨u, rfl, ?_⟩, rfl⟩
        have hqi : ∀ i ∈ frzIds S n v, Q (ρ i) := by simpa [frzIds] using hq
        rcases h3 with ⟨g1, us', g2, g3⟩ | ⟨g1, g3⟩
        · obtain ⟨e1, e2⟩ := ih v y _ h1 g3 hqi
          exact .inl ⟨e2.trans g1, us', g2, e1⟩
        · obtain ⟨e1, e2⟩ := ih v y _ h1 g3 hqi
          exact .inr ⟨e2.trans g1, e1⟩
    | fn f first caps =>
      simp only [frz] at h
      cases h1 : allO (frz S n) first with
      | none => simp [h1] at h
      | some a =>
        cases h2 : allO (frz S n) caps with
        | none => simp [h1, h2] at h
        | some b =>
          simp only [h1, h2, Option.some.injEq] at h; subst h
          simp only [RepVC] at hr
          obtain ⟨fa, ca, rfl, h3, h4⟩ := hr
          simp only [frzIds, List.mem_append] at hq
          simp only [RepC]
          exact ⟨⟨fa, ca, rfl, frzS ih h1 h3 (fun i hi => hq i (.inl hi)), frzS ih h2 h4 (fun i hi => hq i (.inr hi))⟩, rfl⟩
    | rs id off len =>
      simp only [frz] at h
      cases ho : S[id]? with
      | none => simp [ho] at h
      | some o =>
        have hok := hI.ok id o ho
        simp only [RepVC] at hr
        obtain ⟨a, cap, rfl, hpl⟩ := hr
        simp only [RowPl, ho] at hpl
        cases o with
        | row xs e =>
          simp only [ho] at h
          split at h
          · rename_i hle
            simp only [Bool.and_eq_true, decide_eq_true_eq] at hle
            replace hle := hle.1
            cases h1 : allO (frz S n) ((xs.drop off).take len) with
            | none => simp [h1] at h
            | some ds =>
              simp only [h1, Option.map_some, Option.some.injEq] at h; subst h
              obtain ⟨k, hk, ha, h3, h4, c2, e2, f2, h5, h6⟩ := hpl
              simp only [ObOk] at hok
              obtain ⟨k', c, us, rest, hk', hh, hcl, hre⟩ := hok
              rw [hk] at hk'; cases hk'
              have hlen : ds.length = len := by
                have := (allO_some h1).1
                simp only [List.length_take, List.length_drop] at this
                omega
              have hq' : ∀ i ∈ ((xs.drop off).take len).flatMap (frzIds S n), Q (ρ i) := fun i hi => hq i (by
                simp only [frzIds, ho, List.mem_cons, List.mem_flatMap] at hi ⊢
                obtain ⟨y, hy, hiy⟩ := hi
                exact .inr ⟨y, List.mem_of_mem_drop (List.mem_of_mem_take hy), hiy⟩)
              have hE := frzE ih k h1 (repVE_split len (by simp; omega) (repVE_split off (by omega) hre).2).1 hq'
              have hQ : Q (ρ id) := hq id (by simp [frzIds, ho])
              simp only [RepC, hlen]
              refine ⟨⟨_, cap, rfl, h4, ?_⟩, rfl⟩
              rcases ha with rfl | ha
              · exact .inr ⟨_, k, _, rfl, rfl, hQ, cellsAt_of_row hh hcl (off * k) (len * k), hE⟩
              · exact .inl (List.length_eq_zero_iff.1 (by omega))
          · cases h
        | fz xs e =>
          simp only [ho] at h
          split at h
          · rename_i hle
            simp only [Option.some.injEq] at h; subst h
            obtain ⟨k, hk, ha, h3, h4, c2, e2, f2, h5, h6⟩ := hpl
            simp only [ObOk] at hok
            obtain ⟨k', c, f, us, rest, hk', hA, hh, hcl, hre⟩ := hok
            rw [hk] at hk'; cases hk'
            have hlen : ((xs.drop off).take len).length = len := by simp; omega
            have hE := (repE_split len (by simp; omega) (repE_split off (by omega) hre).2).1
            simp only [RepC, hlen]
            refine ⟨⟨_, cap, rfl, h4, ?_⟩, rfl⟩
            rcases ha with rfl | ha
            · exact .inr ⟨_, k, _, rfl, rfl, hAQ _ hA, cellsAt_of_row hh hcl (off * k) (len * k), repE_mono hAQ (fun _ _ => rfl) _ _ _ hE⟩
            · exact .inl (List.length_eq_zero_iff.1 (by omega))
          · cases h
        | _ => simp [ho] at h
    | cs id ix off len =>
      simp only [frz] at h
      cases ho : S[id]? with
      | none => simp [ho] at h
      | some o =>
        have hok := hI.ok id o ho
        simp only [RepVC] at hr
        obtain ⟨a, cap, rfl, hpl⟩ := hr
        simp only [CellPl, ho] at hpl
        cases o with
        | row xs e =>
          simp only [ho] at h
          cases hx : xs[ix]? with
          | none => simp [hx] at h
          | some y =>
            simp only [hx] at h
            split at h
            · rename_i hle
              simp only [Bool.and_eq_true, decide_eq_true_eq] at hle
              replace hle := hle.1
              cases h1 : allO leafD ((y.cells.drop off).take len) with
              | none => simp [h1] at h
              | some ds =>
                simp only [h1, Option.map_some, Option.some.injEq] at h; subst h
                obtain ⟨k, hk, ha, h3, h4, h5⟩ := hpl
                simp only [ObOk] at hok
                obtain ⟨k', c, us, rest, hk', hh, hcl, hre⟩ := hok
                rw [hk] at hk'; cases hk'
                obtain ⟨g1, g2⟩ := repVE_get hre ix y hx
                have g3 := repVL_take len (repVL_drop off (repVC_cells g1))
                have gl := repVC_length g1
                simp only [List.length_take, List.length_drop] at gl
                have hlen : ds.length = len := by
                  have := (allO_some h1).1
                  simp only [List.length_take, List.length_drop] at this
                  omega
                have hL := repL_mono hAQ (fun _ _ => rfl) _ _ (leafD_L h1 g3)
                have hQ : Q (ρ id) := hq id (by simp [frzIds, ho])
                simp only [RepC, hlen]
                refine ⟨⟨_, cap, rfl, h5, ?_⟩, rfl⟩
                rcases ha with rfl | ha
                rotate_left
                · exact .inl (List.length_eq_zero_iff.1 (by omega))
                refine .inr ⟨_, 1, _, rfl, rfl, hQ, ?_, repL_repE hL⟩
                have hcat := cellsAt_of_row hh hcl (ix * k + off) len
                rw [List.drop_take, List.take_take, List.drop_drop]
                rw [show min len (k - off) = len by omega]
                exact hcat
            · cases h
        | fz xs e =>
          simp only [ho] at h
          cases hx : xs[ix]? with
          | none => simp [hx] at h
          | some y =>
            simp only [hx] at h
            split at h
            · rename_i hle
              simp only [Bool.and_eq_true, decide_eq_true_eq] at hle
              simp only [Option.some.injEq] at h; subst h
              obtain ⟨k, hk, ha, h3, h4, h5⟩ := hpl
              simp only [ObOk] at hok
              obtain ⟨k', c, f, us, rest, hk', hA, hh, hcl, hre⟩ := hok
              rw [hk] at hk'; cases hk'
              obtain ⟨g1, g2⟩ := repE_get hre ix y hx
              have g3 := repL_take len (repL_drop off (repC_cells g1))
              have gl := repC_length g1
              simp only [List.length_take, List.length_drop] at gl
              have hlen : ((y.cells.drop off).take len).length = len := by simp; omega
              have hL := repL_mono hAQ (fun _ _ => rfl) _ _ g3
              simp only [RepC, hlen]
              refine ⟨⟨_, cap, rfl, h5, ?_⟩, rfl⟩
              rcases ha with rfl | ha
              rotate_left
              · exact .inl (List.length_eq_zero_iff.1 (by omega))
              refine .inr ⟨_, 1, _, rfl, rfl, hAQ _ hA, ?_, repL_repE hL⟩
              have hcat := cellsAt_of_row hh hcl (ix * k + off) len
              rw [List.drop_take, List.take_take, List.drop_drop]
              rw [show min len (k - off) = len by omega]
              exact hcat
            · cases h
        | _ => simp [ho] at h
    | ref id ix off =>
      cases off with
      | succ off => simp [frz] at h
      | zero =>
        simp only [frz] at h
        cases ho : S[id]? with
        | none => simp [ho] at h
        | some o =>
          have hok := hI.ok id o ho
          simp only [RepVC] at hr
          obtain ⟨a, rfl, hpl⟩ := hr
          simp only [RefPl, ho] at hpl
          cases o with
          | row xs e =>
            simp only [ho] at h
            cases hx : xs[ix]? with
            | none => simp [hx] at h
            | some y =>
              simp only [hx] at h
              split at h
              rotate_left
              · cases h
              cases h1 : frz S n y with
              | none => simp [h1] at h
              | some z =>
                simp only [h1, Option.map_some, Option.some.injEq] at h; subst h
                obtain ⟨k, hk, rfl, h3⟩ := hpl
                simp only [ObOk] at hok
                obtain ⟨k', c, us, rest, hk', hh, hcl, hre⟩ := hok
                rw [hk] at hk'; cases hk'
                obtain ⟨g1, g2⟩ := repVE_get hre ix y hx
                obtain ⟨e1, e2⟩ := ih y z _ h1 g1 (fun i hi => hq i (by
                  simp only [frzIds, ho, List.mem_cons, List.mem_flatMap]
                  exact .inr ⟨y, List.mem_of_getElem? hx, hi⟩))
                have hQ : Q (ρ id) := hq id (by simp [frzIds, ho])
                simp only [RepC]
                exact ⟨⟨_, _, rfl, rfl, hQ, by simpa using cellsAt_of_row hh hcl (ix * k) k, e1⟩, rfl⟩
          | fz xs e =>
            simp only [ho] at h
            cases hx : xs[ix]? with
            | none => simp [hx] at h
            | some y =>
              simp only [hx, Option.map_some, Option.some.injEq] at h; subst h
              obtain ⟨k, hk, rfl, h3⟩ := hpl
              simp only [ObOk] at hok
              obtain ⟨k', c, f, us, rest, hk', hA, hh, hcl, hre⟩ := hok
              rw [hk] at hk'; cases hk'
              obtain ⟨g1, g2⟩ := repE_get hre ix y hx
              simp only [RepC]
              exact ⟨⟨_, _, rfl, rfl, hAQ _ hA, by simpa using cellsAt_of_row hh hcl (ix * k) k, repC_mono hAQ (fun _ _ => rfl) _ _ g1⟩, rfl⟩
          | _ => simp [ho] at h
    | mr id =>
      simp only [frz] at h
      cases ho : S[id]? with
      | none => simp [ho] at h
      | some o =>
        have hok := hI.ok id o ho
        simp only [RepVC] at hr
        obtain ⟨r, rfl, hpl⟩ := hr
        simp only [MapPl, ho] at hpl
        cases o with
        | mp es clock =>
          simp only [ho] at h
          cases h1 : allO (fun (e : D × V × Nat) => (frz S n e.2.1).map fun x => (e.1, x)) es with
          | none => simp [h1] at h
          | some ds =>
            simp only [h1, Option.map_some, Option.some.injEq] at h; subst h
            simp only at hpl
            subst hpl
            simp only [ObOk] at hok
            obtain ⟨en, hh, hM, _⟩ := hok
            have hQ : Q (ρ id) := hq id (by simp [frzIds, ho])
            simp only [RepC]
            exact ⟨⟨_, rfl, .inr ⟨_, en, clock, rfl, hQ, hh, frzM hAQ ih h1 hM (fun i hi => hq i (by
              simp only [frzIds, ho, List.mem_cons]
              exact .inr hi))⟩⟩, rfl⟩
        | fm es =>
          simp only [ho, Option.some.injEq] at h; subst h
          simp only at hpl
          subst hpl
          simp only [ObOk] at hok
          obtain ⟨en, clock, hA, hh, hM⟩ := hok
          simp only [RepC]
          exact ⟨⟨_, rfl, .inr ⟨_, en, clock, rfl, hAQ _ hA, hh, repM_mono hAQ (fun _ _ => rfl) _ _ hM⟩⟩, rfl⟩
        | _ => simp [ho] at h
    | it id => simp [frz] at h
    | tup xs => simp [frz] at h
    | junk => simp [frz] at h
end
end Go.Vm
