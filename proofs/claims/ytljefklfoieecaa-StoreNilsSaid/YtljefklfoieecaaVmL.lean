/- The value machine: what single operations come to. Fifth part: slices of slices, append, copy, make. -/
import Derived.Test.YtljefklfoieecaaVmK
set_option linter.unusedVariables false
set_option linter.unusedSimpArgs false
namespace Go.Vm
section
variable {P : Program} {S : Store} {ρ : Nat → Nat} {A : Nat → Prop} {w w' : World}

theorem cellsAt_addr {b off n m : Nat} {us : List Value} (hc : CellsAt w b off us) : CellsAt w b (off + n) ((us.drop n).take m) := hc.take n m
theorem sliceArr_run (hI : Inv P S ρ A w) {t e : TypeId} {n : Nat} {x y : V} {lo hi : Option V} {u : Value} {ulo uhi : Option Value} (h : sliceArrV P S n e x lo hi = some y) (hx : RepV P S ρ A w x u)
    (vlo : ∀ x, lo = some x → ∃ z, ulo = some z ∧ RepV P S ρ A w x z) (nlo : lo = none → ulo = none) (vhi : ∀ x, hi = some x → ∃ z, uhi = some z ∧ RepV P S ρ A w x z) (nhi : hi = none → uhi = none)
    (hs : ∀ a, sz P e = some 1 → ∀ l h, (Instr.sliceBounds false n n ulo uhi none).run P w = .ok (l, h, n) w → (Instr.sliceAt t (.pointer (some a)) ulo uhi none).run P w = .ok (.slice (some (if n = l then a else a.add (l * 1))) (h - l) (n - l)) w) :
    ∃ r, (Instr.sliceAt t u ulo uhi none).run P w = .ok r w ∧ RepW P S ρ A w y r := by
  unfold sliceArrV at h
  split at h
  · rename_i hcond
    simp only [Bool.and_eq_true, beq_iff_eq, Bool.not_eq_eq_eq_not, Bool.not_true] at hcond
    split at h
    · rename_i hb hhb
      split at h
      · rename_i l hlb
        obtain ⟨e1, e2, e3⟩ := run_bounds (P := P) (S := S) (ρ := ρ) (A := A) (w := w) (Nat.le_refl n) false hhb hlb vlo nlo vhi nhi
        split at h
        · rename_i id ix off
          have hx := (repW_leaf rfl).1 ((repV_one rfl).1 hx)
          simp only [RepVC, List.cons.injEq, and_true] at hx
          obtain ⟨a, rfl, hpl⟩ := hx
          split at h
          · rename_i xs e' ho
            split at h
            · rename_i k hk
              split at h
              · rename_i hok
                simp only [Option.some.injEq] at h; subst h
                unfold RefPl at hpl
                simp only [ho] at hpl
                obtain ⟨k', hk', rfl, hlt⟩ := hpl
                rw [hk] at hk'; cases hk'
                refine ⟨_, hs _ hcond.1 _ _ e1, (repW_leaf rfl).2 ?_⟩
                simp only [RepVC]
                refine ⟨_, _, rfl, ?_⟩
                unfold CellPl
                simp only [ho]
                refine ⟨k, hk, ?_, hlt, by omega, by omega⟩
                by_cases hc : n = l
                · right; omega
                · left; simp [hc, Addr.add_lit, Nat.add_assoc]
              · cases h
            · cases h
          · cases h
        · rename_i z
          split at h
          · rename_i hz
            simp only [Bool.and_eq_true, decide_eq_true_eq] at hz
            simp only [Option.some.injEq] at h; subst h
            have hx := (repX_leaf rfl).1 (repV_d.1 hx)
            simp only [RepC, List.cons.injEq, and_true] at hx
            obtain ⟨⟨b, off, sp⟩, us, rfl, hsp, hA, hc, hr⟩ := hx
            simp only at hsp; subst hsp
            have hl := repC_length hr
            refine ⟨_, hs _ hcond.1 _ _ e1, repW_d.2 ((repX_leaf rfl).2 ?_)⟩
            have hlen : ((z.cells.take hb).drop l).length = hb - l := by simp; omega
            simp only [RepC, hlen]
            refine ⟨_, _, rfl, by omega, ?_⟩
            by_cases hcl : n = l
            · left; exact List.length_eq_zero_iff.1 (by rw [hlen]; omega)
            · right
              refine ⟨⟨b, off + l, none⟩, 1, (us.take hb).drop l, by simp [hcl, Addr.add_lit], rfl, hA, ?_, repL_repE (repL_drop l (repL_take hb (repC_cells hr)))⟩
              have := hc.take l (hb - l)
              rwa [← List.drop_take] at this
          · cases h
        · cases h
      · cases h
    · cases h
  · cases h

/-- A part of a slice that stays. -/
theorem sub_slice {xs : List D} {e : TypeId} (hf : xs.all (fitsD P e) = true) {k : Nat} (hk : xs ≠ [] → sz P e = some k) {a : Option Addr} {cap l h : Nat} (hcap : xs.length ≤ cap) (hlh : l ≤ h) (hh : h ≤ xs.length)
    (hr : xs = [] ∨ ∃ b off k us, a = some ⟨b, off, none⟩ ∧ A b ∧ CellsAt w b off us ∧ RepE A w k xs us) :
    RepX A w (.sl ((xs.take h).drop l)) (.slice (if cap = l then a else a.map (·.add (l * k))) (h - l) (cap - l)) := by
  have hlen : ((xs.take h).drop l).length = h - l := by simp; omega
  refine (repX_leaf rfl).2 ?_
  simp only [RepC, hlen]
  refine ⟨_, _, rfl, by omega, ?_⟩
  by_cases hc : cap = l
  · left; exact List.length_eq_zero_iff.1 (by rw [hlen]; omega)
  · rcases hr with rfl | ⟨b, off, k', us, rfl, hA, hcat, hE⟩
    · left; simp
    · cases xs with
      | nil => left; simp
      | cons x r =>
        right
        have hk' : k' = k := by
          have h1 := hk (by simp)
          have h2 := (fitsD_spec (List.all_eq_true.1 hf x (by simp))).2
          simp only [RepE] at hE
          obtain ⟨u1, u2, _, h3, h4, _⟩ := hE
          have h5 := repC_length h4
          rw [h1] at h2; simp at h2; omega
        subst hk'
        obtain ⟨g1, _⟩ := repE_split h hh hE
        obtain ⟨_, g2⟩ := repE_split l (by rw [List.length_take]; omega) g1
        refine ⟨⟨b, off + l * k', none⟩, k', _, by simp [hc, Addr.add_lit], rfl, hA, ?_, g2⟩
        have := hcat.take (l * k') ((h * k') - (l * k'))
        rwa [← List.drop_take] at this

theorem sliceV_run (hI : Inv P S ρ A w) {t : TypeId} {x y : V} {lo hi : Option V} {u : Value} {ulo uhi : Option Value} (h : sliceV P S t x lo hi = some y) (hx : RepV P S ρ A w x u)
    (vlo : ∀ x, lo = some x → ∃ z, ulo = some z ∧ RepV P S ρ A w x z) (nlo : lo = none → ulo = none) (vhi : ∀ x, hi = some x → ∃ z, uhi = some z ∧ RepV P S ρ A w x z) (nhi : hi = none → uhi = none) :
    ∃ r, (Instr.sliceAt t u ulo uhi none).run P w = .ok r w ∧ RepW P S ρ A w y r := by
  unfold sliceV at h
  split at h
  · rename_i hu
    split at h
    · rename_i s
      split at h
      · rename_i hb hhb
        split at h
        · rename_i l hlb
          simp only [Option.some.injEq] at h; subst h
          have hs : (⟨s.toArray⟩ : ByteArray).size = s.length := by simp [ByteArray.size]
          obtain ⟨e1, e2, e3⟩ := run_bounds (P := P) (S := S) (ρ := ρ) (A := A) (w := w) (Nat.le_refl s.length) false hhb hlb vlo nlo vhi nhi
          rw [rep_str hx]
          refine ⟨.string ⟨((s.take hb).drop l).toArray⟩, ?_, mk_str⟩
          have hex : (⟨s.toArray⟩ : ByteArray).extract l hb = ⟨((s.take hb).drop l).toArray⟩ := by
            ext1
            simp [List.drop_take]
          simp [Instr.sliceAt, Instr.slice, run_underlying hu, hs, e1, hex]
        · cases h
      · cases h
    · cases h
  · rename_i e hu
    have frozen : ∀ xs : List D, xs.all (fitsD P e) = true → ∀ hb l, boundV xs.length hi xs.length = some hb → boundV hb lo 0 = some l → ∀ a cap, xs.length ≤ cap → u = .slice a xs.length cap →
        (xs = [] ∨ ∃ b off k us, a = some ⟨b, off, none⟩ ∧ A b ∧ CellsAt w b off us ∧ RepE A w k xs us) → (sz P e).isSome = true →
        ∃ a', (Instr.sliceAt t u ulo uhi none).run P w = .ok (.slice a' (hb - l) (cap - l)) w ∧ RepX A w (.sl ((xs.take hb).drop l)) (.slice a' (hb - l) (cap - l)) ∧ l ≤ hb ∧ hb ≤ xs.length := by
      intro xs hf hb l hhb hlb a cap hcap hua hr hsz
      obtain ⟨k, hk⟩ := Option.isSome_iff_exists.1 hsz
      obtain ⟨e1, e2, e3⟩ := run_bounds (P := P) (S := S) (ρ := ρ) (A := A) (w := w) hcap true hhb hlb vlo nlo vhi nhi
      subst hua
      refine ⟨_, ?_, sub_slice hf (fun _ => hk) hcap e2 e3 hr, e2, e3⟩
      simp [Instr.sliceAt, Instr.slice, run_underlying hu, e1, run_sizeOf hk]
    split at h
    · rename_i xs
      split at h
      · rename_i hb hhb
        split at h
        · rename_i l hlb
          split at h
          · rename_i hf
            simp only [Option.some.injEq] at h; subst h
            obtain ⟨a, cap, hua, hcap, hr⟩ := rep_sl (repV_d.1 hx)
            simp only [Bool.and_eq_true] at hf
            obtain ⟨a', e1, e2, _, _⟩ := frozen xs hf.1 hb l hhb hlb a cap hcap hua hr hf.2
            exact ⟨_, e1, repW_d.2 e2⟩
          · cases h
        · cases h
      · cases h
    · rename_i xs
      split at h
      · rename_i hb hhb
        split at h
        · rename_i l hlb
          split at h
          · rename_i hf
            obtain ⟨a, hua, hx'⟩ := rep_ts hx
            obtain ⟨a2, cap, hua2, hcap, hr⟩ := rep_sl hx'
            rw [hua] at hua2
            simp only [Value.slice.injEq] at hua2
            obtain ⟨rfl, _, rfl⟩ := hua2
            simp only [Bool.and_eq_true] at hf
            obtain ⟨a', e1, e2, e3, e4⟩ := frozen xs hf.1 hb l hhb hlb a _ (Nat.le_refl _) hua hr hf.2
            refine ⟨_, e1, ?_⟩
            simp only [Option.some.injEq] at h; subst h
            by_cases hx2 : hb = xs.length
            · subst hx2
              simp only [if_true]
              refine (repW_leaf rfl).2 ?_
              simp only [RepVC]
              have e2' := (repX_leaf rfl).1 e2
              rw [List.take_length] at e2'
              exact ⟨a', by simp, e2'⟩
            · rw [if_neg hx2]
              exact repW_d.2 e2
          · cases h
        · cases h
      · cases h
    · rename_i id off len
      split at h
      · rename_i hb hhb
        split at h
        · rename_i l hlb
          split at h
          · rename_i hrow
            simp only [Bool.and_eq_true] at hrow
            simp only [Option.some.injEq] at h; subst h
            obtain ⟨k, hk⟩ := Option.isSome_iff_exists.1 hrow.2
            have hx := (repW_leaf rfl).1 ((repV_one rfl).1 hx)
            simp only [RepVC, List.cons.injEq, and_true] at hx
            obtain ⟨a, cap, rfl, hpl⟩ := hx
            have hrow1 := hrow.1
            unfold RowPl at hpl
            unfold rowT at hrow1
            have fin : ∀ n, (∃ k, sz P e = some k ∧ (a = some ⟨ρ id, off * k, none⟩ ∨ cap = 0) ∧ off + len ≤ n ∧ len ≤ cap ∧ ∃ c e' f, w.heap[ρ id]? = some (.cells c e' f) ∧ (off + cap) * k ≤ c.size) →
                ∃ a', (Instr.sliceAt t (.slice a len cap) ulo uhi none).run P w = .ok (.slice a' (hb - l) (cap - l)) w ∧ (∃ k, sz P e = some k ∧ (a' = some ⟨ρ id, (off + l) * k, none⟩ ∨ cap - l = 0) ∧ off + l + (hb - l) ≤ n ∧ hb - l ≤ cap - l ∧ ∃ c e' f, w.heap[ρ id]? = some (.cells c e' f) ∧ (off + l + (cap - l)) * k ≤ c.size) := by
              rintro n ⟨k', hk', ha, h3, h4, c, e', f, h5, h6⟩
              rw [hk] at hk'; cases hk'
              obtain ⟨e1, e2, e3⟩ := run_bounds (P := P) (S := S) (ρ := ρ) (A := A) (w := w) h4 true hhb hlb vlo nlo vhi nhi
              refine ⟨(if cap = l then a else a.map (·.add (l * k))), by simp [Instr.sliceAt, Instr.slice, run_underlying hu, e1, run_sizeOf hk], k, hk, ?_, by omega, by omega, c, e', f, h5, by rw [show off + l + (cap - l) = off + cap by omega]; exact h6⟩
              by_cases hc : cap = l
              · right; omega
              · left
                rcases ha with rfl | ha
                · simp [hc, Addr.add_lit, Nat.add_mul]
                · omega
            cases ho : S[id]? with
            | none => simp [ho] at hpl
            | some o =>
              simp only [ho] at hpl hrow1
              cases o with
              | row xs e' =>
                simp only [beq_iff_eq] at hrow1; subst hrow1
                obtain ⟨a', e1, e2⟩ := fin _ hpl
                refine ⟨_, e1, (repW_leaf rfl).2 ?_⟩
                simp only [RepVC]
                exact ⟨_, _, rfl, by unfold RowPl; simp only [ho]; exact e2⟩
              | fz xs e' =>
                simp only [beq_iff_eq] at hrow1; subst hrow1
                obtain ⟨a', e1, e2⟩ := fin _ hpl
                refine ⟨_, e1, (repW_leaf rfl).2 ?_⟩
                simp only [RepVC]
                exact ⟨_, _, rfl, by unfold RowPl; simp only [ho]; exact e2⟩
              | _ => simp at hrow1
          · cases h
        · cases h
      · cases h
    · cases h
  · rename_i arr hu
    split at h
    · rename_i n e hua
      exact sliceArr_run hI h hx vlo nlo vhi nhi (fun a hk l h' e1 => by simp [Instr.sliceAt, Instr.slice, run_underlying hu, run_underlying hua, asAddr, e1, run_sizeOf hk])
    · cases h
  · rename_i n e hu
    exact sliceArr_run hI h hx vlo nlo vhi nhi (fun a hk l h' e1 => by simp [Instr.sliceAt, Instr.sureAddr, run_underlying hu, e1, run_sizeOf hk])
  · cases h
end
end Go.Vm
