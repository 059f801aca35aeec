/- The value machine: what single operations come to. Fourth part: stores, new objects, slices, append, copy. -/
import Derived.Test.YtljefklfoieecaaVmJ
import Derived.Laws.CopyRow
import Derived.Deep.AppendSrc
import Derived.Deep.Upon
import Derived.Laws.BytesString
set_option linter.unusedVariables false
set_option linter.unusedSimpArgs false
namespace Go.Vm
section
variable {P : Program} {S : Store} {ρ : Nat → Nat} {A : Nat → Prop} {w w' : World}

theorem oneCell_of_leaf {v : Value} (h : leafV v = true) : v.oneCell' = true := by cases v <;> first | rfl | simp [leafV] at h
theorem repVE_leaf {k : Nat} : ∀ {xs : List V} {vs : List Value}, RepVE P S ρ A w k xs vs → ∀ u ∈ vs, u.oneCell' = true
  | [], vs, h => by simp only [RepVE] at h; simp [h]
  | x :: r, vs, h => by
    simp only [RepVE] at h
    obtain ⟨us, ws, rfl, h2, h3, h4⟩ := h
    intro u hu
    rcases List.mem_append.1 hu with hu | hu
    · exact oneCell_of_leaf (repVL_leaf (repVC_cells h3) u hu)
    · exact repVE_leaf h4 u hu
theorem repVC_one {x : V} {vs : List Value} (h : RepVC P S ρ A w x vs) : ∀ u ∈ vs, u.oneCell' = true := fun u hu => oneCell_of_leaf (repVL_leaf (repVC_cells h) u hu)
/-- The cells of a value. -/
theorem repW_valcells {x : V} {u : Value} (h : RepW P S ρ A w x u) : RepVC P S ρ A w x u.cells.toList := by
  rcases h with ⟨_, us, rfl, h⟩ | ⟨g, h⟩
  · simpa [Value.cells] using h
  · have := repVC_leaf g h
    cases u <;> first | simpa [Value.cells] using h | simp [leafV] at this
theorem repW_of_fits {e : TypeId} {x : V} {u : Value} (hf : fitsT P e x = true) (h : RepV P S ρ A w x u) : RepW P S ρ A w x u ∧ ∃ k, sz P e = some k ∧ u.cells.size = k ∧ x.cells.length = k := by
  obtain ⟨h1, h2, h3⟩ := fitsT_spec hf
  have hw := (repV_one h1).1 h
  refine ⟨hw, _, h3, ?_, rfl⟩
  have := repVC_length (repW_valcells hw)
  simpa using this

/-- A store. -/
theorem storeV_run (hI : Inv P S ρ A w) {t : TypeId} {a v : V} {S' : Store} {ua uv : Value} (h : storeV P S t a v = some S') (ha : RepV P S ρ A w a ua) (hv : RepV P S ρ A w v uv) :
    ∃ w', (Instr.storeAt t ua uv).run P w = .ok () w' ∧ Inv P S' ρ A w' ∧ Step S ρ A w S' ρ A w' := by
  unfold storeV at h
  split at h
  · rename_i id ix off
    have ha := (repW_leaf rfl).1 ((repV_one rfl).1 ha)
    simp only [RepVC, List.cons.injEq, and_true] at ha
    obtain ⟨a, rfl, hpl⟩ := ha
    cases ho : S[id]? with
    | none => simp [ho] at h
    | some o =>
      have hok := hI.ok id o ho
      simp only [RefPl, ho] at hpl
      simp only [ho] at h
      cases o with
      | row xs e =>
        simp only at h hpl
        cases hxi : xs[ix]? with
        | none => simp [hxi] at h
        | some z =>
          simp only [hxi] at h
          obtain ⟨k, hk, rfl, hlt⟩ := hpl
          simp only [ObOk] at hok
          obtain ⟨k', c, us, rest, hk', hh, hcl, hre⟩ := hok
          rw [hk] at hk'; cases hk'
          obtain ⟨g1, g2⟩ := repVE_get hre ix z hxi
          have gl := repVC_length g1
          simp only [List.length_take, List.length_drop] at gl
          split at h
          · rename_i hf
            obtain ⟨hvw, n, hn, hn1, hn2⟩ := repW_of_fits hf hv
            have hvc := repW_valcells hvw
            have hvl : uv.cells.toList.length = n := by simpa using hn1
            have hone := repVC_one hvc
            -- the store itself
            have hrun : ∀ o, o + n ≤ k → (Instr.storeAt t (.pointer (some ⟨ρ id, ix * k + o, none⟩)) uv).run P w = .ok () (w.setRow (ρ id) (c.toList.take (ix * k + o) ++ uv.cells.toList ++ c.toList.drop (ix * k + o + n)).toArray) := by
              intro o ho
              have := run_storeCells_at P (ρ id) (ix * k + o) e uv.cells.toList 0 c w hh (by
                rw [hvl]
                have : c.size = us.length + rest.length := by rw [← Array.length_toList, hcl, List.length_append]
                omega) hone
              simp only [Nat.add_zero, hvl] at this
              simp [Instr.storeAt, Instr.sureAddr, storeVar, run_sizeOf hn, hn1, this]
            have fin : ∀ (o : Nat) (z' : V), o + n ≤ k → z'.cells.length = k → RepVC P S ρ A w z' (((us.drop (ix * k)).take k).take o ++ uv.cells.toList ++ ((us.drop (ix * k)).take k).drop (o + n)) →
                Inv P (S.set id (.row (xs.set ix z') e)) ρ A (w.setRow (ρ id) (c.toList.take (ix * k + o) ++ uv.cells.toList ++ c.toList.drop (ix * k + o + n)).toArray) ∧
                Step S ρ A w (S.set id (.row (xs.set ix z') e)) ρ A (w.setRow (ρ id) (c.toList.take (ix * k + o) ++ uv.cells.toList ++ c.toList.drop (ix * k + o + n)).toArray) := by
              intro o z' hok hz' hrz
              have hcs : c.size = us.length + rest.length := by rw [← Array.length_toList, hcl, List.length_append]
              refine hI.turn ho rfl ⟨by simp, rfl⟩ (by simp) (fun b hb => setRow_other w _ b _ hb) (.inr fun c0 e0 f0 hc0 => ?_) rfl rfl rfl (.inl rfl) (fun hs hA => ?_)
              · rw [hh] at hc0; cases hc0
                refine ⟨_, _, _, setRow_heap w _ _ _ _ _ hh, ?_⟩
                simp only [List.size_toArray, List.length_append, List.length_take, List.length_drop, Array.length_toList, hvl]
                omega
              · simp only [ObOk]
                have hset := repVE_set hre ix z' _ hlt (by
                  simp only [List.length_append, List.length_take, List.length_drop, hvl]; omega) hrz
                refine ⟨k, _, _, rest, hk, setRow_heap w _ _ _ _ _ hh, ?_, repVE_mono (fun _ h => h) hA hs k _ _ hset⟩
                -- the two rows are one
                rw [List.toList_toArray, hcl]
                rw [List.take_append_of_le_length (by omega), List.drop_append_of_le_length (by omega)]
                have e1 : (us.take (ix * k)) ++ ((us.drop (ix * k)).take k).take o = us.take (ix * k + o) := by
                  rw [List.take_take, Nat.min_eq_left (by omega), List.take_add]
                have e2 : ((us.drop (ix * k)).take k).drop (o + n) ++ us.drop (ix * k + k) = us.drop (ix * k + o + n) := by
                  rw [List.drop_take, List.drop_drop]
                  have : us.drop (ix * k + k) = (us.drop (ix * k + (o + n))).drop (k - (o + n)) := by rw [List.drop_drop]; congr 1; omega
                  rw [this, List.take_append_drop]; congr 1; omega
                rw [← e1, ← e2]
                simp [List.append_assoc]
            split at h
            · rename_i hc0
              simp only [Bool.and_eq_true, decide_eq_true_eq, beq_iff_eq] at hc0
              obtain ⟨⟨rfl, hc1⟩, hc2⟩ := hc0
              simp only [Option.some.injEq] at h; subst h
              have hnk : n = k := by omega
              subst hnk
              refine ⟨_, hrun 0 (by omega), fin 0 v (by omega) hn2 ?_⟩
              simp only [List.take_zero, List.nil_append, Nat.zero_add]
              rw [List.drop_eq_nil_of_le (by simp; omega), List.append_nil]
              exact hvc
            · split at h
              · rename_i hc0
                simp only [Bool.and_eq_true, decide_eq_true_eq] at hc0
                simp only [Option.some.injEq] at h; subst h
                refine ⟨_, hrun off (by omega), fin off _ (by omega) (by
                  show (z.cells.take off ++ v.cells ++ z.cells.drop (off + v.cells.length)).length = k
                  simp only [List.length_append, List.length_take, List.length_drop]; omega) ?_⟩
                simp only [RepVC]
                have hz := repVC_cells g1
                rw [hn2]
                exact repVL_append (repVL_append (repVL_take off hz) (repVC_cells hvc)) (repVL_drop (off + n) hz)
              · cases h
          · cases h
      | _ => simp at h
  · cases h

theorem alloc_old (o : Obj) {b : Nat} (h : b < w.heap.size) : (w.alloc o).heap[b]? = w.heap[b]? := by
  show (w.heap.push o)[b]? = _
  rw [Array.getElem?_push, if_neg (by omega)]
theorem alloc_new (o : Obj) : (w.alloc o).heap[w.heap.size]? = some o := by
  show (w.heap.push o)[w.heap.size]? = _
  rw [Array.getElem?_push, if_pos rfl]
/-- A new box, or a variable. -/
theorem newBox (hI : Inv P S ρ A w) {e : TypeId} {z : V} {u : Value} (hf : fitsT P e z = true) (hz : RepV P S ρ A w z u) :
    ∃ ρ', Inv P (S ++ [.row [z] e]) ρ' A (w.alloc (.cells u.cells e)) ∧ Step S ρ A w (S ++ [.row [z] e]) ρ' A (w.alloc (.cells u.cells e)) ∧ RepV P (S ++ [.row [z] e]) ρ' A (w.alloc (.cells u.cells e)) (.ref S.length 0 0) (.pointer (some ⟨w.heap.size, 0, none⟩)) := by
  obtain ⟨hzw, k, hk, hk1, hk2⟩ := repW_of_fits hf hz
  have hzc := repW_valcells hzw
  obtain ⟨g1, g2⟩ := hI.push (o := .row [z] e) (w' := w.alloc (.cells u.cells e)) rfl (by simp) (fun b hb => alloc_old _ hb) rfl rfl rfl (fun hs hA => by
    simp only [ObOk]
    refine ⟨k, u.cells, u.cells.toList, [], hk, alloc_new _, by simp, ?_⟩
    simp only [RepVE]
    exact ⟨u.cells.toList, [], by simp, by simpa using hk1, repVC_mono (fun _ h => h) hA hs _ _ hzc, rfl⟩)
  refine ⟨_, g1, g2, repV_of_repW ((repW_leaf rfl).2 ?_)⟩
  simp only [RepVC]
  refine ⟨_, rfl, ?_⟩
  unfold RefPl
  simp [hk]

/-- A new block that stays as it is. -/
theorem Inv.fresh (h : Inv P S ρ A w) (hsz : w'.heap.size = w.heap.size + 1) (hold : ∀ b, b < w.heap.size → w'.heap[b]? = w.heap[b]?) (h1 : w'.os = w.os) (h2 : w'.tape = w.tape) (h3 : w'.output = w.output) :
    Inv P S ρ (fun b => A b ∨ b = w.heap.size) w' ∧ Step S ρ A w S ρ (fun b => A b ∨ b = w.heap.size) w' := by
  obtain ⟨g1, g2⟩ := h.world (w' := w') (by omega) hold h1 h2 h3
  refine ⟨⟨fun id o ho => (g1.ok id o ho).mono (fun _ h => .inl h) (fun _ _ => rfl) (Step.refl (A := A)).sle (fun _ => rfl), h.inj, fun i o ho hl hA => ?_, fun b hb => ?_⟩, ⟨h1, h2, h3, by omega, g2.keep, g2.keepA, fun _ h => .inl h, fun b hb => ?_, fun _ h => .inl h, g2.sle⟩⟩
  · rcases hA with hA | hA
    · exact h.own i o ho hl hA
    · have := (h.ok i o ho).lt (by rintro rfl; cases hl) (by rintro rfl; cases hl)
      omega
  · rcases hb with hb | hb
    · have := h.lt b hb; omega
    · omega
  · rcases hb with hb | rfl
    · exact .inl hb
    · exact .inr (.inr (Nat.le_refl _))

/-- A slice's expression: its bounds. -/
theorem boundV_run {y dflt n : Nat} {v : Option V} {u : Option Value} (h : boundV y v dflt = some n) (hv : ∀ x, v = some x → ∃ z, u = some z ∧ RepV P S ρ A w x z) (hn : v = none → u = none) :
    (v = none ∧ n = dflt) ∨ (∃ k i, u = some (.int k i) ∧ 0 ≤ i ∧ i ≤ y ∧ n = i.toNat ∧ v ≠ none) := by
  unfold boundV at h
  cases v with
  | none => simp only [Option.some.injEq] at h; exact .inl ⟨rfl, h.symm⟩
  | some x =>
    simp only at h
    cases hi : intOf? x with
    | none => simp [hi] at h
    | some i =>
      simp only [hi] at h
      split at h
      · rename_i hb
        simp only [Option.some.injEq] at h
        obtain ⟨z, rfl, hz⟩ := hv x rfl
        obtain ⟨k, rfl⟩ := intOf_rep hi hz
        exact .inr ⟨k, i, rfl, hb.1, hb.2, h.symm, by simp⟩
      · cases h
theorem run_bounds {lo hi : Option V} {ulo uhi : Option Value} {len cap h l : Nat} (hle : len ≤ cap) (isS : Bool) (hh : boundV len hi len = some h) (hl : boundV h lo 0 = some l)
    (vlo : ∀ x, lo = some x → ∃ z, ulo = some z ∧ RepV P S ρ A w x z) (nlo : lo = none → ulo = none) (vhi : ∀ x, hi = some x → ∃ z, uhi = some z ∧ RepV P S ρ A w x z) (nhi : hi = none → uhi = none) :
    (Instr.sliceBounds isS len cap ulo uhi none).run P w = .ok (l, h, cap) w ∧ l ≤ h ∧ h ≤ len := by
  have ch : (uhi = none ∧ h = len) ∨ ∃ k i, uhi = some (.int k i) ∧ 0 ≤ i ∧ i ≤ (len : Int) ∧ h = i.toNat := by
    rcases boundV_run hh vhi nhi with ⟨h0, h1⟩ | ⟨k, i, h0, h1, h2, h3, _⟩
    · exact .inl ⟨nhi h0, h1⟩
    · exact .inr ⟨k, i, h0, h1, h2, h3⟩
  have cl : (ulo = none ∧ l = 0) ∨ ∃ k i, ulo = some (.int k i) ∧ 0 ≤ i ∧ i ≤ (h : Int) ∧ l = i.toNat := by
    rcases boundV_run hl vlo nlo with ⟨h0, h1⟩ | ⟨k, i, h0, h1, h2, h3, _⟩
    · exact .inl ⟨nlo h0, h1⟩
    · exact .inr ⟨k, i, h0, h1, h2, h3⟩
  clear vlo nlo vhi nhi hh hl
  rcases ch with ⟨rfl, rfl⟩ | ⟨k, i, rfl, h1, h2, h3⟩
  · rcases cl with ⟨rfl, rfl⟩ | ⟨k', j, rfl, h4, h5, h6⟩
    · refine ⟨?_, by omega, by omega⟩
      simp [Instr.sliceBounds]
    · refine ⟨?_, by omega, by omega⟩
      subst h6
      simp [Instr.sliceBounds, Instr.sliceBound, asIntOf, h4, h5]
  · have hc : i ≤ (cap : Int) := by omega
    subst h3
    rcases cl with ⟨rfl, rfl⟩ | ⟨k', j, rfl, h4, h5, h6⟩
    · refine ⟨?_, by omega, by omega⟩
      simp [Instr.sliceBounds, Instr.sliceBound, asIntOf, h1, hc]
    · refine ⟨?_, by omega, by omega⟩
      subst h6
      have h5' : j ≤ i := by omega
      have h5'' : j ≤ max i 0 := by omega
      simp [Instr.sliceBounds, Instr.sliceBound, asIntOf, h1, hc, h4, h5', h5'']
end
end Go.Vm
