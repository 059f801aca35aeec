/- The value machine: what single operations come to. First part: those that turn nothing. -/
import Derived.Test.YtljefklfoieecaaVmG
import Derived.Laws.Cells
import Derived.Laws.Strings
import Derived.Laws.StructEq
set_option linter.unusedVariables false
set_option linter.unusedSimpArgs false
namespace Go.Vm
section
variable {P : Program} {S : Store} {ρ : Nat → Nat} {A : Nat → Prop} {w : World}

theorem take1_drop {α : Type} {l : List α} {i : Nat} {v : α} (h : l[i]? = some v) : (l.drop i).take 1 = [v] := by
  induction l generalizing i with
  | nil => simp at h
  | cons x r ih =>
    cases i with
    | zero => simp at h; simp [h]
    | succ i => simp at h; simpa using ih h
theorem sz_info {t : TypeId} {k : Nat} (h : sz P t = some k) : ∃ i d, P.info? t = some i ∧ i.size = k ∧ P.underlying t = some d := by
  unfold sz at h
  cases hu : P.underlying t with
  | none => simp [hu] at h
  | some d =>
    simp only [hu] at h
    obtain ⟨i, hi, rfl⟩ := Option.map_eq_some_iff.1 h
    exact ⟨i, d, hi, rfl, rfl⟩
theorem run_sizeOf {t : TypeId} {k : Nat} (h : sz P t = some k) (w : World) : (sizeOf t).run P w = .ok k w := by
  obtain ⟨i, d, hi, rfl, _⟩ := sz_info h
  simp [sizeOf, typeInfo, hi]
theorem run_isAgg {t : TypeId} {k : Nat} (h : sz P t = some k) (w : World) : (isAgg t).run P w = .ok (aggT P t) w := by
  obtain ⟨i, d, _, _, hu⟩ := sz_info h
  simp only [isAgg, Sem.run_bind, run_underlying hu, Result.andThen_ok, aggT, hu]
  cases d <;> rfl

theorem CellsAt.cell {b off : Nat} {vs : List Value} (h : CellsAt w b off vs) {j : Nat} {v : Value} (hj : vs[j]? = some v) : w.cell? ((⟨b, off, none⟩ : Addr).add j) = some v := by
  obtain ⟨c, e, f, h1, h2⟩ := h
  rw [Addr.add_lit]
  simp [World.cell?, h1, h2 j v hj]
theorem CellsAt.take {b off : Nat} {vs : List Value} (h : CellsAt w b off vs) (n m : Nat) : CellsAt w b (off + n) ((vs.drop n).take m) := by
  obtain ⟨c, e, f, h1, h2⟩ := h
  refine ⟨c, e, f, h1, fun i v hv => ?_⟩
  rw [List.getElem?_take] at hv
  split at hv
  · rw [List.getElem?_drop] at hv
    rw [Nat.add_assoc]; exact h2 _ v hv
  · cases hv
theorem run_loadVar_agg {t : TypeId} {vs : List Value} (hsz : sz P t = some vs.length) (hg : aggT P t = true) {b off : Nat} (hc : CellsAt w b off vs) : (loadVar t ⟨b, off, none⟩).run P w = .ok (.agg vs.toArray) w := by
  have hl := run_loadCells_list (P := P) w ⟨b, off, none⟩ vs (fun j v hv => hc.cell hv)
  simp [loadVar, run_isAgg hsz, hg, run_sizeOf hsz, hl]
theorem run_loadVar_leaf {t : TypeId} {k : Nat} (hsz : sz P t = some k) (hg : aggT P t = false) {v : Value} {b off : Nat} (hc : CellsAt w b off [v]) : (loadVar t ⟨b, off, none⟩).run P w = .ok v w := by
  have h0 := hc.cell (j := 0) (v := v) rfl
  rw [Addr.add_zero'] at h0
  simp [loadVar, run_isAgg hsz, hg, h0]
/-- Data of the type's form are loaded. -/
theorem run_loadVar_rep {t : TypeId} {x : V} {us : List Value} (hsz : sz P t = some x.cells.length) (hg : x.isAgg = aggT P t) {b off : Nat} (hc : CellsAt w b off us) (hr : RepVC P S ρ A w x us) :
    ∃ v, (loadVar t ⟨b, off, none⟩).run P w = .ok v w ∧ RepW P S ρ A w x v := by
  have hl := repVC_length hr
  cases hx : x.isAgg with
  | true =>
    exact ⟨_, run_loadVar_agg (by rw [hsz, hl]) (hg ▸ hx) hc, .inl ⟨hx, _, rfl, by simpa using hr⟩⟩
  | false =>
    rw [vcells_nonagg hx] at hl
    obtain ⟨v, rfl⟩ := List.length_eq_one_iff.1 hl
    exact ⟨v, run_loadVar_leaf hsz (hg ▸ hx) hc, .inr ⟨hx, hr⟩⟩

theorem partV_rep {t : TypeId} {cs : List V} {off : Nat} {y : V} {us : List Value} (h : partV P t cs off = some y) (hr : RepVL P S ρ A w cs us) :
    ∃ n, sz P t = some n ∧ off + n ≤ us.length ∧ RepVC P S ρ A w y ((us.drop off).take n) ∧ y.isAgg = aggT P t ∧ y.cells.length = n := by
  unfold partV at h
  cases hs : sz P t with
  | none => simp [hs] at h
  | some n =>
    simp only [hs] at h
    have hl := repVL_length hr
    split at h
    · rename_i hle
      split at h
      · rename_i hg
        simp only [Option.some.injEq] at h; subst h
        refine ⟨n, rfl, by omega, ?_, by simp [V.isAgg, hg], by simp [V.cells]; omega⟩
        simp only [RepVC]
        exact repVL_take n (repVL_drop off hr)
      · rename_i hg
        split at h
        · rename_i hn
          subst hn
          obtain ⟨v, hv, h1, h2⟩ := repVL_get hr off y h
          refine ⟨1, rfl, by omega, ?_, by simp [h1, hg], by simp [vcells_nonagg h1]⟩
          rw [take1_drop hv]; exact h2
        · cases h
    · cases h
theorem partD_rep {t : TypeId} {cs : List D} {off : Nat} {y : D} {us : List Value} (h : partD P t cs off = some y) (hr : RepL A w cs us) :
    ∃ n, sz P t = some n ∧ off + n ≤ us.length ∧ RepC A w y ((us.drop off).take n) ∧ y.isAgg = aggT P t ∧ y.cells.length = n := by
  unfold partD at h
  cases hs : sz P t with
  | none => simp [hs] at h
  | some n =>
    simp only [hs] at h
    have hl := repL_length hr
    split at h
    · rename_i hle
      split at h
      · rename_i hg
        simp only [Option.some.injEq] at h; subst h
        refine ⟨n, rfl, by omega, ?_, by simp [D.isAgg, hg], by simp [D.cells]; omega⟩
        simp only [RepC]
        exact repL_take n (repL_drop off hr)
      · rename_i hg
        split at h
        · rename_i hn
          subst hn
          obtain ⟨v, hv, h1, h2⟩ := repL_get hr off y h
          refine ⟨1, rfl, by omega, ?_, by simp [h1, hg], by simp [cells_nonagg h1]⟩
          rw [take1_drop hv]; exact h2
        · cases h
    · cases h
/-- 'part' of the cells of a value. -/
theorem run_part_V {t : TypeId} {cs : List V} {off : Nat} {y : V} {us : Array Value} (h : partV P t cs off = some y) (hr : RepVL P S ρ A w cs us.toList) :
    ∃ v, (part t us off).run P w = .ok v w ∧ RepW P S ρ A w y v := by
  obtain ⟨n, hs, hle, hy, hg, hn⟩ := partV_rep h hr
  cases hx : y.isAgg with
  | true =>
    refine ⟨.agg (us.extract off (off + n)), by simp [part, run_isAgg hs, ← hg, hx, run_sizeOf hs], .inl ⟨hx, _, rfl, ?_⟩⟩
    simpa [List.extract_eq_take_drop] using hy
  | false =>
    have hl := repVC_length hy
    rw [vcells_nonagg hx] at hl hn
    simp at hn
    subst hn
    obtain ⟨v, hv⟩ := List.length_eq_one_iff.1 hl
    rw [hv] at hy
    have hget : us[off]? = some v := by
      have : ((us.toList.drop off).take 1)[0]? = some v := by rw [hv]; rfl
      simpa using this
    exact ⟨v, by simp [part, run_isAgg hs, ← hg, hx, hget], .inr ⟨hx, hy⟩⟩

/-- What an operation comes to is what the machine says. -/
def Sound (P : Program) (S : Store) (ρ : Nat → Nat) (A : Nat → Prop) (w : World) (r : Result Next) : Rs → Prop
  | .val v S' _ => ∃ u w' ρ' A', r = .ok (.value u) w' ∧ Inv P S' ρ' A' w' ∧ Step S ρ A w S' ρ' A' w' ∧ RepV P S' ρ' A' w' v u
  | .skip S' _ => ∃ w' ρ' A', r = .ok .skip w' ∧ Inv P S' ρ' A' w' ∧ Step S ρ A w S' ρ' A' w'
  | .enter f args => ∃ us, r = .ok (.enter f us) w ∧ RepWs P S ρ A w args us.toList
  | .dfr f args => ∃ d fv cap us, r = .ok (.defer d) w ∧ d.target = .fn fv cap ∧ (∀ w2, (invoke d.target d.args).run P w2 = .ok (.enter f us) w2) ∧ RepWs P S ρ A w args us.toList
  | .pan v => ∃ u, r = .halt (.panic u) w ∧ RepW P S ρ A w v u
theorem sound_same (hI : Inv P S ρ A w) {r : Result Next} {u : Value} {v : V} {c : Nat} (h : r = .ok (.value u) w) (hv : RepV P S ρ A w v u) : Sound P S ρ A w r (.val v S c) :=
  ⟨u, w, ρ, A, h, hI, .refl, hv⟩

theorem loadV_run (hI : Inv P S ρ A w) {t : TypeId} {x y : V} {u : Value} (h : loadV P S t x = some y) (hx : RepV P S ρ A w x u) : ∃ v, (Instr.loadAt t u).run P w = .ok v w ∧ RepW P S ρ A w y v := by
  unfold loadV at h
  split at h
  · rename_i id ix off
    have hx := (repW_leaf rfl).1 ((repV_one rfl).1 hx)
    simp only [RepVC, List.cons.injEq, and_true] at hx
    obtain ⟨a, rfl, hpl⟩ := hx
    cases ho : S[id]? with
    | none => simp [ho] at h
    | some o =>
      have hok := hI.ok id o ho
      simp only [RefPl, ho] at hpl
      simp only [ho] at h
      cases o with
      | row xs e =>
        simp only at h hpl
        cases hxi : xs[ix]? with
        | none => simp [hxi] at h
        | some z =>
          simp only [hxi] at h
          obtain ⟨k, hk, rfl, hlt⟩ := hpl
          simp only [ObOk] at hok
          obtain ⟨k', c, us, rest, hk', hh, hcl, hre⟩ := hok
          rw [hk] at hk'; cases hk'
          obtain ⟨g1, g2⟩ := repVE_get hre ix z hxi
          have hcat : CellsAt w (ρ id) (ix * k) ((us.drop (ix * k)).take k) := cellsAt_of_row hh hcl (ix * k) k
          simp only [Instr.loadAt, Instr.sureAddr, Sem.run_bind, Sem.run_pure, Result.andThen_ok]
          split at h
          · rename_i hf
            simp only [Option.some.injEq] at h; subst h
            simp only [Bool.and_eq_true, decide_eq_true_eq, fitsT, beq_iff_eq] at hf
            obtain ⟨rfl, ⟨_, hf1⟩, hf2⟩ := hf
            exact run_loadVar_rep hf2 hf1 hcat g1
          · obtain ⟨n, hs, hle, hy, hg, hn⟩ := partV_rep h (repVC_cells g1)
            have := hcat.take off n
            exact run_loadVar_rep (by rw [hs, hn]) hg this hy
      | fz xs e =>
        simp only at h hpl
        cases hxi : xs[ix]? with
        | none => simp [hxi] at h
        | some z =>
          simp only [hxi] at h
          obtain ⟨k, hk, rfl, hlt⟩ := hpl
          simp only [ObOk] at hok
          obtain ⟨k', c, f, us, rest, hk', _, hh, hcl, hre⟩ := hok
          rw [hk] at hk'; cases hk'
          obtain ⟨g1, g2⟩ := repE_get hre ix z hxi
          have hcat : CellsAt w (ρ id) (ix * k) ((us.drop (ix * k)).take k) := cellsAt_of_row hh hcl (ix * k) k
          simp only [Instr.loadAt, Instr.sureAddr, Sem.run_bind, Sem.run_pure, Result.andThen_ok]
          split at h
          · rename_i hf
            simp only [Option.some.injEq] at h; subst h
            simp only [Bool.and_eq_true, decide_eq_true_eq, fitsD, beq_iff_eq] at hf
            obtain ⟨rfl, hf1, hf2⟩ := hf
            exact run_loadVar_rep (x := .d z) (by simpa [V.cells] using hf2) (by simpa [V.isAgg] using hf1) hcat (by simpa [RepVC] using g1)
          · obtain ⟨y', hy', rfl⟩ := Option.map_eq_some_iff.1 h
            obtain ⟨n, hs, hle, hy, hg, hn⟩ := partD_rep hy' (repC_cells g1)
            have := hcat.take off n
            exact run_loadVar_rep (x := .d y') (by rw [hs, ← hn]; simp [V.cells]) (by simpa [V.isAgg] using hg) this (by simpa [RepVC] using hy)
      | _ => simp at h
  · rename_i z
    split at h
    · rename_i hf
      simp only [Option.some.injEq] at h; subst h
      have hx := (repX_leaf rfl).1 (repV_d.1 hx)
      simp only [RepC, List.cons.injEq, and_true] at hx
      obtain ⟨⟨b, off, sp⟩, us, rfl, hsp, _, hc, hr⟩ := hx
      simp only at hsp; subst hsp
      simp only [fitsD, Bool.and_eq_true, beq_iff_eq] at hf
      simp only [Instr.loadAt, Instr.sureAddr, Sem.run_bind, Sem.run_pure, Result.andThen_ok]
      exact run_loadVar_rep (x := .d z) (by simpa [V.cells] using hf.2) (by simpa [V.isAgg] using hf.1) hc (by simpa [RepVC] using hr)
    · cases h
  · cases h

theorem sub_ptr {x y : D} {t : TypeId} {o n : Nat} {b off : Nat} {us : List Value} (hs : sz P t = some n) (hp : partD P t x.cells o = some y) (hA : A b) (hc : CellsAt w b off us) (hr : RepC A w x us) :
    RepX A w (.ptr y) (.pointer (some ⟨b, off + o, none⟩)) := by
  obtain ⟨n', hs', _, hy, _, _⟩ := partD_rep hp (repC_cells hr)
  rw [hs] at hs'; cases hs'
  refine (repX_leaf rfl).2 ?_
  simp only [RepC]
  exact ⟨_, _, rfl, rfl, hA, hc.take o n, hy⟩

theorem fieldAddrV_run (hI : Inv P S ρ A w) {s : TypeId} {f : Nat} {x y : V} {u : Value} (h : fieldAddrV P s f x = some y) (hx : RepV P S ρ A w x u) : ∃ v, (Instr.fieldAt s u f).run P w = .ok v w ∧ RepW P S ρ A w y v := by
  unfold fieldAddrV at h
  split at h
  · rename_i id ix off
    have hx := (repW_leaf rfl).1 ((repV_one rfl).1 hx)
    simp only [RepVC, List.cons.injEq, and_true] at hx
    obtain ⟨a, rfl, hpl⟩ := hx
    split at h
    · rename_i fs hu
      split at h
      · rename_i fd hfd
        split at h
        · rename_i n hs
          simp only [Option.some.injEq] at h; subst h
          have hrun : (Instr.fieldAt s (.pointer (some a)) f).run P w = .ok (.pointer (some (a.add fd.offset))) w := by
            simp [Instr.fieldAt, run_underlying hu, hfd, Instr.sureAddr, fieldPlace, run_sizeOf hs]
          refine ⟨_, hrun, (repW_leaf rfl).2 ?_⟩
          simp only [RepVC]
          refine ⟨_, rfl, ?_⟩
          unfold RefPl at hpl ⊢
          cases ho : S[id]? with
          | none => simp [ho] at hpl
          | some o =>
            simp only [ho] at hpl ⊢
            cases o <;> first | exact hpl.elim | trivial | (obtain ⟨k, hk, rfl, hlt⟩ := hpl; exact ⟨k, hk, by rw [Addr.add_lit, Nat.add_assoc], hlt⟩)
        · cases h
      · cases h
    · cases h
  · rename_i z
    split at h
    · rename_i fs hu
      split at h
      · rename_i fd hfd
        split at h
        · rename_i n hs
          split at h
          · obtain ⟨y', hy', rfl⟩ := Option.map_eq_some_iff.1 h
            have hx := (repX_leaf rfl).1 (repV_d.1 hx)
            simp only [RepC, List.cons.injEq, and_true] at hx
            obtain ⟨⟨b, off, sp⟩, us, rfl, hsp, hA, hc, hr⟩ := hx
            simp only at hsp; subst hsp
            refine ⟨.pointer (some ⟨b, off + fd.offset, none⟩), ?_, repW_d.2 (sub_ptr hs hy' hA hc hr)⟩
            simp [Instr.fieldAt, run_underlying hu, hfd, Instr.sureAddr, fieldPlace, run_sizeOf hs, Addr.add_lit]
          · cases h
        · cases h
      · cases h
    · cases h
  · cases h

theorem repW_agg_cells {v : V} {u : Value} (hg : v.isAgg = true) (h : RepW P S ρ A w v u) : ∃ us, u = .agg us ∧ RepVL P S ρ A w v.cells us.toList := by
  rcases h with ⟨_, us, rfl, h⟩ | ⟨h, _⟩
  · exact ⟨us, rfl, repVC_cells h⟩
  · rw [hg] at h; cases h
theorem fieldV_run {s : TypeId} {f : Nat} {x y : V} {u : Value} (h : fieldV P s f x = some y) (hx : RepV P S ρ A w x u) : ∃ v, (Instr.field s u f).run P w = .ok v w ∧ RepW P S ρ A w y v := by
  unfold fieldV at h
  split at h
  · rename_i hg
    have hx' : RepW P S ρ A w x u := (repV_one (by cases x <;> simp_all [V.isAgg, V.one])).1 hx
    obtain ⟨us, rfl, hr⟩ := repW_agg_cells hg hx'
    split at h
    · rename_i fs hu
      split at h
      · rename_i fd hfd
        have key : ∀ y, partV P fd.type x.cells fd.offset = some y → ∃ v, (Instr.field s (.agg us) f).run P w = .ok v w ∧ RepW P S ρ A w y v := fun y hy => by
          obtain ⟨v, hv, hr'⟩ := run_part_V hy hr
          exact ⟨v, by simp [Instr.field, run_underlying hu, hfd, asAgg, hv], hr'⟩
        split at h
        · rename_i z
          obtain ⟨y', hy', rfl⟩ := Option.map_eq_some_iff.1 h
          -- the same part, of the cells as values
          have hr2 : RepL A w z.cells us.toList := by
            rcases hx' with ⟨_, us', e, h1⟩ | ⟨h1, _⟩
            · cases e; simp only [RepVC] at h1; exact repC_cells h1
            · rw [hg] at h1; cases h1
          obtain ⟨n, hs, hle, hy, hga, hn⟩ := partD_rep hy' hr2
          cases hya : y'.isAgg with
          | true =>
            refine ⟨.agg (us.extract fd.offset (fd.offset + n)), ?_, repW_d.2 (.inl ⟨hya, _, rfl, by simpa [List.extract_eq_take_drop] using hy⟩)⟩
            simp [Instr.field, run_underlying hu, hfd, asAgg, part, run_isAgg hs, ← hga, hya, run_sizeOf hs]
          | false =>
            have hl := repC_length hy
            rw [cells_nonagg hya] at hl hn
            simp at hn
            subst hn
            obtain ⟨v, hv⟩ := List.length_eq_one_iff.1 hl
            rw [hv] at hy
            have hget : us[fd.offset]? = some v := by
              have : ((us.toList.drop fd.offset).take 1)[0]? = some v := by rw [hv]; rfl
              simpa using this
            refine ⟨v, ?_, repW_d.2 (.inr ⟨hya, hy⟩)⟩
            simp [Instr.field, run_underlying hu, hfd, asAgg, part, run_isAgg hs, ← hga, hya, hget]
        · exact key _ h
      · cases h
    · cases h
  · cases h
end
end Go.Vm
