/- The value machine: an operation that adds to the store: what it lays, whatever number it gets. -/
import Derived.Test.YtljefklfoieecaaVmXa
set_option linter.unusedVariables false
set_option linter.unusedSimpArgs false
namespace Go.Vm
section
variable {P : Program} {S : Store} {ρ : Nat → Nat} {A : Nat → Prop} {w w' : World}
/-- What is laid, and told, whatever number it gets. -/
def Lays (P : Program) (S : Store) (ρ : Nat → Nat) (A : Nat → Prop) (w w' : World) (o : Ob) (f : Nat → V) (u : Value) : Prop :=
  o.live = true ∧ w'.heap.size = w.heap.size + 1 ∧ (∀ b, b < w.heap.size → w'.heap[b]? = w.heap[b]?) ∧ w'.os = w.os ∧ w'.tape = w.tape ∧ w'.output = w.output ∧
  (∀ S' ρ', SLe S ρ w S' ρ' w' → (∀ b, A b → w'.heap[b]? = w.heap[b]?) → ObOk P S' ρ' A w' w.heap.size o) ∧
  (∀ (S' : Store) ρ' id, S'[id]? = some o → ρ' id = w.heap.size → RepV P S' ρ' A w' (f id) u)
theorem box_lays {e : TypeId} {z : V} {u : Value} (hf : fitsT P e z = true) (hz : RepV P S ρ A w z u) : Lays P S ρ A w (w.alloc (.cells u.cells e)) (.row [z] e) (fun id => .ref id 0 0) (.pointer (some ⟨w.heap.size, 0, none⟩)) := by
  obtain ⟨hzw, k, hk, hk1, hk2⟩ := repW_of_fits hf hz
  have hzc := repW_valcells hzw
  refine ⟨rfl, by simp, fun b hb => alloc_old _ hb, rfl, rfl, rfl, fun S' ρ' hs hA => ?_, fun S' ρ' id h1 h2 => ?_⟩
  · simp only [ObOk]
    refine ⟨k, u.cells, u.cells.toList, [], hk, alloc_new _, by simp, ?_⟩
    simp only [RepVE]
    exact ⟨u.cells.toList, [], by simp, by simpa using hk1, repVC_mono (fun _ h => h) hA hs _ _ hzc, rfl⟩
  · refine repV_of_repW ((repW_leaf rfl).2 ?_)
    simp only [RepVC]
    refine ⟨_, rfl, ?_⟩
    unfold RefPl
    simp [h1, h2, hk]
theorem map_lays : Lays P S ρ A w (w.alloc (.map #[] 0)) (.mp [] 0) .mr (.map (some w.heap.size)) := by
  refine ⟨rfl, by simp, fun b hb => alloc_old _ hb, rfl, rfl, rfl, fun S' ρ' hs hA => ?_, fun S' ρ' id h1 h2 => ?_⟩
  · simp only [ObOk]
    exact ⟨#[], alloc_new _, by simp [RepVM], by simp, by simp⟩
  · refine repV_of_repW ((repW_leaf rfl).2 ?_)
    simp only [RepVC]
    exact ⟨_, rfl, by unfold MapPl; simp [h1, h2]⟩
theorem iter_lays (s : List UInt8) : Lays P S ρ A w (w.alloc (.stringIter ⟨s.toArray⟩ 0)) (.iter s 0) .it (.pointer (some ⟨w.heap.size, 0, none⟩)) := by
  refine ⟨rfl, by simp, fun b hb => alloc_old _ hb, rfl, rfl, rfl, fun S' ρ' hs hA => ?_, fun S' ρ' id h1 h2 => ?_⟩
  · simp only [ObOk]
    exact alloc_new _
  · refine repV_of_repW ((repW_leaf rfl).2 ?_)
    simp only [RepVC]
    exact ⟨_, rfl, by unfold ItPl; simp [h1, h2]⟩
theorem slice_lays {t e : TypeId} {l c : Int} {z : V} (hu : P.underlying t = some (.slice e)) (hz : zeroV P e = some z) (hb : 0 ≤ l ∧ l ≤ c ∧ c ≤ 9223372036854775807) (hr : room P e c.toNat = true ∧ fitsT P e z = true) :
    ∃ w' u, (Instr.makeSlice t (.int .i64 l) (.int .i64 c)).run P w = .ok u w' ∧ Lays P S ρ A w w' (.row (List.replicate c.toNat z) e) (fun id => .rs id 0 l.toNat) u := by
  obtain ⟨h1, h2, h3⟩ := fitsT_spec hr.2
  obtain ⟨i, d, hi, hik, hd⟩ := sz_info h3
  obtain ⟨r1, r2⟩ := room_spec hr.1 hi
  unfold zeroV at hz
  simp only [hi, Option.bind_some] at hz
  cases hzz : i.zero with
  | none => simp [hzz] at hz
  | some z0 =>
    simp only [hzz, Option.bind_some] at hz
    have hzr := ofVal_rep (P := P) (S := S) (ρ := ρ) (A := A) (w := w) hz
    have hzc := repW_valcells hzr
    have hzl : z0.cells.size = i.size := by
      have := repVC_length hzc
      simp only [Array.length_toList] at this
      omega
    have wl : IntKind.i64.wrap l = l := IntWalk.i64_in _ (by omega)
    have wc : IntKind.i64.wrap c = c := IntWalk.i64_in _ (by omega)
    have hrow := rep_zeros hzc hzl c.toNat
    have t1 : ¬ ((i.bytes : Int) * c > 2 ^ 48) := by
      have : (i.bytes : Int) * c = ((c.toNat * i.bytes : Nat) : Int) := by
        rw [Nat.mul_comm, Int.natCast_mul, Int.toNat_of_nonneg (by omega)]
      rw [this]; omega
    have hrun : (Instr.makeSlice t (.int .i64 l) (.int .i64 c)).run P w = .ok (.slice (some ⟨w.heap.size, 0, none⟩) l.toNat c.toNat) (w.alloc (.cells ((Array.range (c.toNat * i.size)).map fun j => z0.cells[j % i.size]!) e)) := by
      have hneg : ¬ c < 0 := by omega
      have hl0 : ¬ l < 0 := by omega
      have hlc : ¬ c < l := by omega
      have t1' : ¬ (281474976710656 < (i.bytes : Int) * c) := by have := t1; omega
      by_cases hn : c.toNat * i.size = 0
      · simp [Instr.makeSlice, run_underlying hu, asInt, asIntOf, typeInfo, hi, wl, wc, hneg, hl0, hlc, t1', sizeOf, newRow, hn, Array.range_zero']
      · simp [Instr.makeSlice, run_underlying hu, asInt, asIntOf, typeInfo, hi, wl, wc, hneg, hl0, hlc, t1', sizeOf, newRow, hn, zeroValue, hzz, hzl]
    refine ⟨_, _, hrun, rfl, by simp, fun b hb => alloc_old _ hb, rfl, rfl, rfl, fun S' ρ' hs hA => ?_, fun S' ρ' id g1 g2 => ?_⟩
    · simp only [ObOk]
      exact ⟨i.size, _, _, [], by rw [h3, hik], alloc_new _, by rw [List.append_nil], repVE_mono (fun _ h => h) hA hs _ _ _ hrow⟩
    · refine repV_of_repW ((repW_leaf rfl).2 ?_)
      simp only [RepVC]
      refine ⟨_, _, rfl, ?_⟩
      unfold RowPl
      simp only [g1]
      refine ⟨i.size, by rw [h3, hik], .inl (by simp [g2]), by simp; omega, by omega, _, e, (0, 0), by rw [g2]; exact alloc_new _, by simp⟩
theorem addO_run (hI : Inv P S ρ A w) {T : List V} {a : Act} (hT : RepT P S ρ A w T a.tmps.toList) {o : Oper} {ob : Ob} {f : Nat → V} (h : addO P T o = some (ob, f)) : ∃ u w', (execOp a.eval o).run P w = .ok (.value u) w' ∧ Lays P S ρ A w w' ob f u := by
  have ev := fun x => evalO_rep hT x
  unfold addO at h
  unfold execOp
  split at h
  · rename_i e hop
    simp only [hop]
    split at h
    · rename_i z hz
      split at h
      · rename_i hf
        simp only [Option.some.injEq, Prod.mk.injEq] at h; obtain ⟨rfl, rfl⟩ := h
        obtain ⟨zv, hz1, hz2⟩ := zeroV_run (S := S) (ρ := ρ) (A := A) (w := w) hz
        exact ⟨_, _, run_v _ (u := .pointer (some ⟨w.heap.size, 0, none⟩)) (by simp [Instr.alloc, hz1, newVar, newRow]), box_lays hf (repV_of_repW hz2)⟩
      · cases h
    · cases h
  · rename_i e x hop
    simp only [hop]
    split at h
    · rename_i hf
      simp only [Option.some.injEq, Prod.mk.injEq] at h; obtain ⟨rfl, rfl⟩ := h
      exact ⟨_, _, run_v _ (u := .pointer (some ⟨w.heap.size, 0, none⟩)) (by simp [Instr.box, newVar, newRow]), box_lays hf (ev x)⟩
    · cases h
  · rename_i t r hop
    simp only [hop]
    split at h
    · simp only [Option.some.injEq, Prod.mk.injEq] at h; obtain ⟨rfl, rfl⟩ := h
      exact ⟨_, _, run_v _ (u := .map (some w.heap.size)) (by simp [Instr.makeMap]), map_lays⟩
    · cases h
  · rename_i t l c hop
    simp only [hop]
    split at h
    · rename_i e hu
      split at h
      · rename_i l' c' z hl hc hz
        split at h
        · rename_i hb
          split at h
          · rename_i hr
            simp only [Bool.and_eq_true] at hr
            simp only [Option.some.injEq, Prod.mk.injEq] at h; obtain ⟨rfl, rfl⟩ := h
            have e1 := ev l
            have e2 := ev c
            rw [hl] at e1
            rw [hc] at e2
            rw [rep_int e1, rep_int e2]
            obtain ⟨w', u, g1, g2⟩ := slice_lays (S := S) (ρ := ρ) (A := A) (w := w) hu hz hb hr
            exact ⟨u, w', run_v _ g1, g2⟩
          · cases h
        · cases h
      · cases h
    · cases h
  · rename_i t x hop
    simp only [hop]
    split at h
    · rename_i hu
      split at h
      · rename_i s hx
        simp only [Option.some.injEq, Prod.mk.injEq] at h; obtain ⟨rfl, rfl⟩ := h
        have e1 := ev x
        rw [hx] at e1
        have hx' := (repX_leaf rfl).1 (repV_d.1 e1)
        simp only [RepC, List.cons.injEq, and_true] at hx'
        exact ⟨_, _, run_v _ (u := .pointer (some ⟨w.heap.size, 0, none⟩)) (by simp [Instr.range, run_underlying hu, hx']), iter_lays s⟩
      · cases h
    · cases h
  · cases h
end
end Go.Vm
