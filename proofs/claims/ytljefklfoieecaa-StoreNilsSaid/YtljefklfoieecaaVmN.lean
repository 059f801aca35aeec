/- The value machine: what single operations come to. Seventh part: make, literals, conversions. -/
import Derived.Test.YtljefklfoieecaaVmM
import Derived.IntWalk
set_option linter.unusedVariables false
set_option linter.unusedSimpArgs false
namespace Go.Vm
section
variable {P : Program} {S : Store} {ρ : Nat → Nat} {A : Nat → Prop} {w w' : World}

/-- The zero value again and again. -/
theorem rep_zeros {k : Nat} {z : V} {us : Array Value} (hz : RepVC P S ρ A w z us.toList) (hk : us.size = k) : ∀ n, RepVE P S ρ A w k (List.replicate n z) ((Array.range (n * k)).map (fun i => us[i % k]!)).toList
  | 0 => by simp [RepVE]
  | n + 1 => by
    have ih := rep_zeros hz hk n
    simp only [List.replicate_succ, RepVE]
    rcases Nat.eq_zero_or_pos k with h0 | hp
    · subst h0
      refine ⟨us.toList, [], ?_, by simpa using hk, hz, by simpa using ih⟩
      have : us.toList = [] := List.length_eq_zero_iff.1 (by simpa using hk)
      simp [this]
    · refine ⟨us.toList, _, ?_, by simpa using hk, hz, ih⟩
      have e : (n + 1) * k = k + n * k := by rw [Nat.succ_mul, Nat.add_comm]
      apply List.ext_getElem?
      intro i
      rw [e]
      by_cases hi : i < k
      · rw [List.getElem?_append_left (by simpa [hk] using hi)]
        have hi2 : i < k + n * k := by omega
        have hius : i < us.size := by omega
        simp [hi2, Nat.mod_eq_of_lt hi, hius, getElem!_pos us i hius]
      · rw [List.getElem?_append_right (by simp [hk]; omega)]
        simp only [Array.length_toList, hk, Array.toList_map, Array.toList_range, List.getElem?_map, List.getElem?_range']
        by_cases hj : i < k + n * k
        · have hj2 : i - k < n * k := by omega
          have hm : i % k = (i - k) % k := by
            conv => lhs; rw [show i = (i - k) + k by omega, Nat.add_mod_right]
          simp [hj, hj2, hm]
        · have hj2 : ¬ i - k < n * k := by omega
          simp [hj, hj2]
theorem makeSliceV_run (hI : Inv P S ρ A w) {t : TypeId} {l c y : V} {S' : Store} {ul uc : Value} (h : makeSliceV P S t l c = some (y, S')) (hl : RepV P S ρ A w l ul) (hc : RepV P S ρ A w c uc) :
    ∃ v w' ρ', (Instr.makeSlice t ul uc).run P w = .ok v w' ∧ Inv P S' ρ' A w' ∧ Step S ρ A w S' ρ' A w' ∧ RepW P S' ρ' A w' y v := by
  unfold makeSliceV at h
  split at h
  · rename_i e hu
    split at h
    · rename_i l c z hz
      split at h
      · rename_i hb
        split at h
        · rename_i hr
          simp only [Bool.and_eq_true] at hr
          simp only [Option.some.injEq, Prod.mk.injEq] at h
          obtain ⟨rfl, rfl⟩ := h
          rw [rep_int hl, rep_int hc]
          obtain ⟨h1, h2, h3⟩ := fitsT_spec hr.2
          obtain ⟨i, d, hi, hik, hd⟩ := sz_info h3
          obtain ⟨r1, r2⟩ := room_spec hr.1 hi
          unfold zeroV at hz
          simp only [hi, Option.bind_some] at hz
          cases hzz : i.zero with
          | none => simp [hzz] at hz
          | some z0 =>
            simp only [hzz, Option.bind_some] at hz
            have hzr := ofVal_rep (P := P) (S := S) (ρ := ρ) (A := A) (w := w) hz
            have hzc := repW_valcells hzr
            have hzl : z0.cells.size = i.size := by
              have := repVC_length hzc
              simp only [Array.length_toList] at this
              omega
            have wl : IntKind.i64.wrap l = l := IntWalk.i64_in _ (by omega)
            have wc : IntKind.i64.wrap c = c := IntWalk.i64_in _ (by omega)
            have hrow := rep_zeros hzc hzl c.toNat
            have t1 : ¬ ((i.bytes : Int) * c > 2 ^ 48) := by
              have : (i.bytes : Int) * c = ((c.toNat * i.bytes : Nat) : Int) := by
                rw [Nat.mul_comm, Int.natCast_mul, Int.toNat_of_nonneg (by omega)]
              rw [this]; omega
            have hrun : (Instr.makeSlice t (.int .i64 l) (.int .i64 c)).run P w = .ok (.slice (some ⟨w.heap.size, 0, none⟩) l.toNat c.toNat) (w.alloc (.cells ((Array.range (c.toNat * i.size)).map fun j => z0.cells[j % i.size]!) e)) := by
              have hneg : ¬ c < 0 := by omega
              have hl0 : ¬ l < 0 := by omega
              have hlc : ¬ c < l := by omega
              have t1' : ¬ (281474976710656 < (i.bytes : Int) * c) := by have := t1; omega
              by_cases hn : c.toNat * i.size = 0
              · simp [Instr.makeSlice, run_underlying hu, asInt, asIntOf, typeInfo, hi, wl, wc, hneg, hl0, hlc, t1', sizeOf, newRow, hn, Array.range_zero']
              · simp [Instr.makeSlice, run_underlying hu, asInt, asIntOf, typeInfo, hi, wl, wc, hneg, hl0, hlc, t1', sizeOf, newRow, hn, zeroValue, hzz, hzl]
            obtain ⟨g1, g2⟩ := hI.push (o := .row (List.replicate c.toNat z) e) (w' := w.alloc (.cells ((Array.range (c.toNat * i.size)).map fun j => z0.cells[j % i.size]!) e)) rfl (by simp) (fun b hb => alloc_old _ hb) rfl rfl rfl (fun hs hA => by
              simp only [ObOk]
              exact ⟨i.size, _, _, [], by rw [h3, hik], alloc_new _, by rw [List.append_nil], repVE_mono (fun _ h => h) hA hs _ _ _ hrow⟩)
            refine ⟨_, _, _, hrun, g1, g2, (repW_leaf rfl).2 ?_⟩
            simp only [RepVC]
            refine ⟨_, _, rfl, ?_⟩
            unfold RowPl
            simp only [List.getElem?_concat_length]
            refine ⟨i.size, by rw [h3, hik], .inl (by simp), by simp; omega, by omega, _, e, (0, 0), by simp only [if_true]; exact alloc_new _, by simp⟩
        · cases h
      · cases h
    · cases h
  · cases h

theorem fold_set_list : ∀ (vs : List Value) (off j : Nat) (cells : List Value), off + j + vs.length ≤ cells.length → (vs.zipIdx j).foldl (fun cs (x : Value × Nat) => cs.set (off + x.2) x.1) cells = cells.take (off + j) ++ vs ++ cells.drop (off + j + vs.length)
  | [], off, j, cells, h => by simp
  | v :: r, off, j, cells, h => by
    simp only [List.zipIdx_cons, List.foldl_cons]
    rw [fold_set_list r off (j + 1) _ (by simp at h ⊢; omega)]
    have := list_seg_step cells (off + j) v r (by simp at h; omega)
    rw [show off + (j + 1) = off + j + 1 by omega]
    rw [show off + j + (v :: r).length = off + j + (r.length + 1) by simp]
    exact this
theorem fold_set_array (v : Array Value) (off : Nat) (cells : Array Value) (h : off + v.size ≤ cells.size) : (v.zipIdx.foldl (fun cs (x : Value × Nat) => cs.setIfInBounds (off + x.2) x.1) cells).toList = cells.toList.take off ++ v.toList ++ cells.toList.drop (off + v.size) := by
  have e : ∀ (l : List (Value × Nat)) (cs : Array Value), (l.foldl (fun cs (x : Value × Nat) => cs.setIfInBounds (off + x.2) x.1) cs).toList = l.foldl (fun cs (x : Value × Nat) => cs.set (off + x.2) x.1) cs.toList := by
    intro l
    induction l with
    | nil => intro cs; rfl
    | cons x r ih => intro cs; simp only [List.foldl_cons]; rw [ih]; simp
  rw [← Array.foldl_toList, e]
  have := fold_set_list v.toList off 0 cells.toList (by simpa using h)
  simpa using this

/-- The parts, as they are handed on. -/
def RepPts (P : Program) (S : Store) (ρ : Nat → Nat) (A : Nat → Prop) (w : World) : List (Nat × V) → List (Nat × Value) → Prop
  | [], us => us = []
  | p :: r, us => ∃ u ws, us = u :: ws ∧ u.1 = p.1 ∧ RepV P S ρ A w p.2 u.2 ∧ RepPts P S ρ A w r ws
theorem repPts_map {T : List V} {a : Act} (hT : RepT P S ρ A w T a.tmps.toList) : ∀ (ps : List (Nat × Operand)), RepPts P S ρ A w (ps.map fun p => (p.1, evalO T p.2)) (ps.map fun p => (p.1, a.eval p.2))
  | [] => by simp [RepPts]
  | p :: r => by
    simp only [List.map_cons, RepPts]
    exact ⟨_, _, rfl, rfl, evalO_rep hT p.2, repPts_map hT r⟩
theorem fill_run {place : Nat → Option (Nat × Nat)} : ∀ {parts : List (Nat × V)} {parts' : List (Nat × Value)} {cs cs' : List V} {cells : Array Value}, fillV place cs parts = some cs' → RepPts P S ρ A w parts parts' → RepVL P S ρ A w cs cells.toList → ∃ cells', Instr.fill place cells parts' = some cells' ∧ RepVL P S ρ A w cs' cells'.toList
  | [], parts', cs, cs', cells, h, hp, hc => by
    simp only [fillV, Option.some.injEq] at h; subst h
    simp only [RepPts] at hp; subst hp
    exact ⟨cells, rfl, hc⟩
  | (i, v) :: r, parts', cs, cs', cells, h, hp, hc => by
    simp only [RepPts] at hp
    obtain ⟨⟨i', u⟩, ws, rfl, he, hv, hr⟩ := hp
    simp only at he hv; subst he
    simp only [fillV] at h
    cases hpl : place i' with
    | none => simp [hpl] at h
    | some q =>
      obtain ⟨off, n⟩ := q
      simp only [hpl] at h
      split at h
      · rename_i hcond
        simp only [Bool.and_eq_true, decide_eq_true_eq] at hcond
        obtain ⟨⟨h1, h2⟩, h3⟩ := hcond
        have hvw := (repV_one h1).1 hv
        have hvc := repW_valcells hvw
        have hus : u.cells.size = n := by
          have := repVC_length hvc
          simp only [Array.length_toList] at this
          omega
        have hcl := repVL_length hc
        simp only [Array.length_toList] at hcl
        have hle : off + u.cells.size ≤ cells.size := by omega
        have hnew := fold_set_array u.cells off cells hle
        obtain ⟨cells', e1, e2⟩ := fill_run (cells := u.cells.zipIdx.foldl (fun cs (x : Value × Nat) => cs.setIfInBounds (off + x.2) x.1) cells) h hr (by
          rw [hnew, hus]
          exact repVL_append (repVL_append (repVL_take off hc) (repVC_cells hvc)) (repVL_drop (off + n) hc))
        refine ⟨cells', ?_, e2⟩
        simp only [Instr.fill, hpl]
        rw [if_neg (by simp [hus]; omega)]
        exact e1
      · cases h
theorem run_places (fs : List Field) (h : fs.all (fun f => (sz P f.type).isSome) = true) : (fs.mapM (fun f => do pure (f.offset, ← sizeOf f.type) : Field → Sem (Nat × Nat))).run P w = .ok (fs.map fun f => (f.offset, (sz P f.type).getD 0)) w := by
  induction fs with
  | nil => simp
  | cons f r ih =>
    simp only [List.all_cons, Bool.and_eq_true] at h
    obtain ⟨k, hk⟩ := Option.isSome_iff_exists.1 h.1
    simp only [List.mapM_cons, Sem.run_bind, run_sizeOf hk, Result.andThen_ok, Sem.run_pure, ih h.2, List.map_cons, hk, Option.getD_some]

theorem zeroV_run {t : TypeId} {z : V} (h : zeroV P t = some z) : ∃ v, (zeroValue t).run P w = .ok v w ∧ RepW P S ρ A w z v := by
  unfold zeroV at h
  cases hi : P.info? t with
  | none => simp [hi] at h
  | some i =>
    simp only [hi, Option.bind_some] at h
    cases hz : i.zero with
    | none => simp [hz] at h
    | some v =>
      simp only [hz, Option.bind_some] at h
      exact ⟨v, by simp [zeroValue, typeInfo, hi, hz], ofVal_rep h⟩
theorem buildV_run {t : TypeId} {parts : List (Nat × V)} {parts' : Array (Nat × Value)} {y : V} (h : buildV P t parts = some y) (hp : RepPts P S ρ A w parts parts'.toList) :
    ∃ v, (Instr.build t parts').run P w = .ok v w ∧ RepW P S ρ A w y v := by
  unfold buildV at h
  cases hz : zeroV P t with
  | none => simp [hz] at h
  | some z =>
    simp only [hz] at h
    split at h
    · rename_i hg
      obtain ⟨zv, e1, e2⟩ := zeroV_run (S := S) (ρ := ρ) (A := A) (w := w) hz
      obtain ⟨zc, rfl, hzc⟩ := repW_agg_cells hg e2
      split at h
      · rename_i fs hu
        split at h
        · rename_i hall
          obtain ⟨cs, hcs, rfl⟩ := Option.map_eq_some_iff.1 h
          obtain ⟨cells', f1, f2⟩ := fill_run hcs hp hzc
          refine ⟨.agg cells', ?_, repW_agg.2 ⟨cells', rfl, f2⟩⟩
          have hpl := run_places (P := P) (w := w) fs.toList hall
          have hpl' : (fs.mapM (fun f => do pure (f.offset, ← sizeOf f.type) : Field → Sem (Nat × Nat))).run P w = .ok (fs.map fun f => (f.offset, (sz P f.type).getD 0)) w := by
            rw [← Array.toArray_toList (xs := fs)]
            rw [List.mapM_toArray]
            simp only [Sem.run_map, hpl, Result.andThen_ok, List.map_toArray]
          have hfun : (fun (i : Nat) => (fs.map fun (f : Field) => (f.offset, (sz P f.type).getD 0))[i]?) = (fun (i : Nat) => (fs[i]?).map fun (f : Field) => (f.offset, (sz P f.type).getD 0)) := by
            funext i; simp
          simp only [Instr.build, Sem.run_bind, e1, Result.andThen_ok, run_underlying hu, hpl', Value.cells, hfun, f1, Sem.run_pure]
        · cases h
      · rename_i n e hu
        split at h
        · rename_i k hk
          obtain ⟨cs, hcs, rfl⟩ := Option.map_eq_some_iff.1 h
          obtain ⟨cells', f1, f2⟩ := fill_run hcs hp hzc
          refine ⟨.agg cells', ?_, repW_agg.2 ⟨cells', rfl, f2⟩⟩
          simp only [Instr.build, Sem.run_bind, e1, Result.andThen_ok, run_underlying hu, run_sizeOf hk, Value.cells, f1, Sem.run_pure]
        · cases h
      · cases h
    · cases h

theorem asD_E {k : Nat} : ∀ {xs : List V} {ds : List D} {us : List Value}, allO asD xs = some ds → RepVE P S ρ A w k xs us → RepE A w k ds us
  | [], ds, us, h, hr => by simp only [allO, Option.some.injEq] at h; subst h; simpa [RepE, RepVE] using hr
  | v :: r, ds, us, h, hr => by
    obtain ⟨y, zs, h1, h2, rfl⟩ := allO_cons h
    simp only [RepVE] at hr
    obtain ⟨u, ws, rfl, h3, h4, h5⟩ := hr
    simp only [RepE]
    exact ⟨u, ws, rfl, h3, (asD_rep h1 h4).1, asD_E h2 h5⟩
theorem fill_lit {k : Nat} {e : TypeId} (hk : sz P e = some k) : ∀ {parts : List (Nat × V)} {parts' : List (Nat × Value)} {xs : List V} {cells : Array Value}, (parts.all fun p => p.1 < xs.length && fitsT P e p.2) = true → RepPts P S ρ A w parts parts' → RepVE P S ρ A w k xs cells.toList → ∃ cells', Instr.fill (fun i => some (i * k, k)) cells parts' = some cells' ∧ RepVE P S ρ A w k (parts.foldl (fun xs p => xs.set p.1 p.2) xs) cells'.toList
  | [], parts', xs, cells, h, hp, hc => by
    simp only [RepPts] at hp; subst hp
    exact ⟨cells, rfl, hc⟩
  | (i, v) :: r, parts', xs, cells, h, hp, hc => by
    simp only [RepPts] at hp
    obtain ⟨⟨i', u⟩, ws, rfl, he, hv, hr⟩ := hp
    simp only at he hv; subst he
    simp only [List.all_cons, Bool.and_eq_true, decide_eq_true_eq] at h
    obtain ⟨⟨h1, h2⟩, h3⟩ := h
    obtain ⟨hvw, k', hk', hn1, hn2⟩ := repW_of_fits h2 hv
    rw [hk] at hk'; cases hk'
    have hvc := repW_valcells hvw
    have hcl := repVE_length hc
    simp only [Array.length_toList] at hcl
    have hle : i' * k + u.cells.size ≤ cells.size := by
      have : (i' + 1) * k ≤ xs.length * k := Nat.mul_le_mul_right _ h1
      rw [Nat.succ_mul] at this
      omega
    have hnew := fold_set_array u.cells (i' * k) cells hle
    obtain ⟨cells', e1, e2⟩ := fill_lit hk (cells := u.cells.zipIdx.foldl (fun cs (x : Value × Nat) => cs.setIfInBounds (i' * k + x.2) x.1) cells) (xs := xs.set i' v) (by simpa using h3) hr (by
      rw [hnew, hn1]
      exact repVE_set hc i' v _ h1 (by simpa using hn1) hvc)
    refine ⟨cells', ?_, by simpa using e2⟩
    simp only [Instr.fill]
    rw [if_neg (by simp [hn1]; omega)]
    exact e1
end
end Go.Vm
