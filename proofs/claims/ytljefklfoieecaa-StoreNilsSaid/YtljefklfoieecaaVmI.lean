/- The value machine: what single operations come to. Second part: elements, numbers, texts, comparisons, slices. -/
import Derived.Test.YtljefklfoieecaaVmH
set_option linter.unusedVariables false
set_option linter.unusedSimpArgs false
namespace Go.Vm
section
variable {P : Program} {S : Store} {ρ : Nat → Nat} {A : Nat → Prop} {w : World}

theorem intOf_rep {x : V} {i : Int} {u : Value} (h : intOf? x = some i) (hx : RepV P S ρ A w x u) : ∃ k, u = .int k i := by
  unfold intOf? at h
  split at h
  · rename_i k n
    simp only [Option.some.injEq] at h; subst h
    have := (repX_leaf rfl).1 (repV_d.1 hx)
    simp only [RepC, List.cons.injEq, and_true] at this
    exact ⟨k, this⟩
  · cases h
theorem rep_sl {xs : List D} {u : Value} (hx : RepX A w (.sl xs) u) : ∃ a cap, u = .slice a xs.length cap ∧ xs.length ≤ cap ∧ (xs = [] ∨ ∃ b off k us, a = some ⟨b, off, none⟩ ∧ A b ∧ CellsAt w b off us ∧ RepE A w k xs us) := by
  have hx := (repX_leaf rfl).1 hx
  simp only [RepC, List.cons.injEq, and_true] at hx
  obtain ⟨a, cap, rfl, h1, h2⟩ := hx
  refine ⟨a, cap, rfl, h1, h2.imp id ?_⟩
  rintro ⟨⟨b, off, sp⟩, k, us, rfl, hsp, h3, h4, h5⟩
  simp only at hsp; subst hsp
  exact ⟨b, off, k, us, rfl, h3, h4, h5⟩
theorem rep_ts {xs : List D} {u : Value} (hx : RepV P S ρ A w (.ts xs) u) : ∃ a, u = .slice a xs.length xs.length ∧ RepX A w (.sl xs) u := by
  have hx := (repW_leaf rfl).1 ((repV_one rfl).1 hx)
  simp only [RepVC, List.cons.injEq, and_true] at hx
  obtain ⟨a, rfl, h1⟩ := hx
  exact ⟨a, rfl, (repX_leaf rfl).2 h1⟩
theorem fitsD_spec {t : TypeId} {x : D} (h : fitsD P t x = true) : x.isAgg = aggT P t ∧ sz P t = some x.cells.length := by
  simpa [fitsD] using h
theorem fitsT_spec {t : TypeId} {x : V} (h : fitsT P t x = true) : x.one = true ∧ x.isAgg = aggT P t ∧ sz P t = some x.cells.length := by
  simp only [fitsT, Bool.and_eq_true, beq_iff_eq] at h
  exact ⟨h.1.1, h.1.2, h.2⟩
/-- An element of data that stay. -/
theorem elem_ptr {xs : List D} {i : Nat} {y : D} {k n : Nat} {b off : Nat} {us : List Value} (hy : xs[i]? = some y) (hn : y.cells.length = n) (hA : A b) (hc : CellsAt w b off us) (hr : RepE A w k xs us) :
    RepX A w (.ptr y) (.pointer (some ⟨b, off + i * n, none⟩)) := by
  obtain ⟨g1, g2⟩ := repE_get hr i y hy
  have hk : k = n := by
    have := repC_length g1
    simp only [List.length_take, List.length_drop] at this
    omega
  subst hk
  refine (repX_leaf rfl).2 ?_
  simp only [RepC]
  exact ⟨_, _, rfl, rfl, hA, hc.take (i * k) k, g1⟩

theorem indexAddrV_run (hI : Inv P S ρ A w) {t : TypeId} {x ix y : V} {u v : Value} (h : indexAddrV P S t x ix = some y) (hx : RepV P S ρ A w x u) (hi : RepV P S ρ A w ix v) : ∃ r, (Instr.indexAt t u v).run P w = .ok r w ∧ RepW P S ρ A w y r := by
  unfold indexAddrV at h
  cases hin : intOf? ix with
  | none => simp [hin] at h
  | some i =>
    obtain ⟨ik, rfl⟩ := intOf_rep hin hi
    simp only [hin] at h
    split at h
    · rename_i e hu
      have frozen : ∀ xs : List D, RepX A w (.sl xs) u → (if 0 ≤ i ∧ i < xs.length then match xs[i.toNat]? with | some y => if fitsD P e y then some (V.d (.ptr y)) else none | none => none else none) = some y → ∃ r, (Instr.indexAt t u (.int ik i)).run P w = .ok r w ∧ RepW P S ρ A w y r := by
        intro xs hx h
        obtain ⟨a, cap, rfl, _, h2⟩ := rep_sl hx
        split at h
        · rename_i hb
          split at h
          · rename_i z hz
            split at h
            · rename_i hf
              simp only [Option.some.injEq] at h; subst h
              rcases h2 with h2 | ⟨b, off, k, us, rfl, hA, hc, hr⟩
              · subst h2; simp at hz
              · obtain ⟨hf1, hf2⟩ := fitsD_spec hf
                refine ⟨.pointer (some ⟨b, off + i.toNat * z.cells.length, none⟩), ?_, repW_d.2 (elem_ptr hz rfl hA hc hr)⟩
                simp [Instr.indexAt, run_underlying hu, asIntOf, hb, run_sizeOf hf2, Addr.add_lit]
            · cases h
          · cases h
        · cases h
      split at h
      · rename_i id off len
        split at h
        · rename_i hb
          obtain ⟨hb, hrow, hsz⟩ := hb
          simp only [Option.some.injEq] at h; subst h
          have hx := (repW_leaf rfl).1 ((repV_one rfl).1 hx)
          simp only [RepVC, List.cons.injEq, and_true] at hx
          obtain ⟨a, cap, rfl, hpl⟩ := hx
          obtain ⟨k, hk⟩ := Option.isSome_iff_exists.1 hsz
          have fin : ∀ (n : Nat), (∃ k, sz P e = some k ∧ (a = some ⟨ρ id, off * k, none⟩ ∨ cap = 0) ∧ off + len ≤ n ∧ len ≤ cap ∧ ∃ c e' f, w.heap[ρ id]? = some (.cells c e' f) ∧ (off + cap) * k ≤ c.size) → (Instr.indexAt t (.slice a len cap) (.int ik i)).run P w = .ok (.pointer (some ⟨ρ id, (off + i.toNat) * k + 0, none⟩)) w ∧ off + i.toNat < n := by
            rintro n ⟨k', hk', ha, h3, h4, _⟩
            rw [hk] at hk'; cases hk'
            rcases ha with rfl | ha
            · refine ⟨?_, by omega⟩
              simp [Instr.indexAt, run_underlying hu, asIntOf, hb, run_sizeOf hk, Addr.add_lit, Nat.add_mul]
            · omega
          unfold RowPl at hpl
          unfold rowT at hrow
          cases ho : S[id]? with
          | none => simp [ho] at hpl
          | some o =>
            simp only [ho] at hpl hrow
            cases o with
            | row xs e' =>
              simp only [beq_iff_eq] at hrow; subst hrow
              obtain ⟨h1, h2⟩ := fin _ hpl
              refine ⟨_, h1, (repW_leaf rfl).2 ?_⟩
              simp only [RepVC]
              exact ⟨_, rfl, by unfold RefPl; simp only [ho]; exact ⟨k, hk, rfl, h2⟩⟩
            | fz xs e' =>
              simp only [beq_iff_eq] at hrow; subst hrow
              obtain ⟨h1, h2⟩ := fin _ hpl
              refine ⟨_, h1, (repW_leaf rfl).2 ?_⟩
              simp only [RepVC]
              exact ⟨_, rfl, by unfold RefPl; simp only [ho]; exact ⟨k, hk, rfl, h2⟩⟩
            | _ => simp at hrow
        · cases h
      · rename_i id jx off len
        split at h
        · rename_i hb
          obtain ⟨hb, hrow, hsz⟩ := hb
          simp only [Option.some.injEq] at h; subst h
          have hx := (repW_leaf rfl).1 ((repV_one rfl).1 hx)
          simp only [RepVC, List.cons.injEq, and_true] at hx
          obtain ⟨a, cap, rfl, hpl⟩ := hx
          have fin : ∀ (n : Nat) (e' : TypeId), (∃ k, sz P e' = some k ∧ (a = some ⟨ρ id, jx * k + off, none⟩ ∨ cap = 0) ∧ jx < n ∧ off + cap ≤ k ∧ len ≤ cap) → ∃ k, sz P e' = some k ∧ (Instr.indexAt t (.slice a len cap) (.int ik i)).run P w = .ok (.pointer (some ⟨ρ id, jx * k + (off + i.toNat), none⟩)) w ∧ jx < n := by
            rintro n e' ⟨k', hk', ha, h3, h4, h5⟩
            rcases ha with rfl | ha
            · refine ⟨k', hk', ?_, h3⟩
              simp [Instr.indexAt, run_underlying hu, asIntOf, hb, run_sizeOf hsz, Addr.add_lit, Nat.add_assoc]
            · omega
          unfold CellPl at hpl
          unfold rowB at hrow
          cases ho : S[id]? with
          | none => simp [ho] at hpl
          | some o =>
            simp only [ho] at hpl hrow
            cases o with
            | row xs e' =>
              obtain ⟨k, hk, h1, h2⟩ := fin _ _ hpl
              refine ⟨_, h1, (repW_leaf rfl).2 ?_⟩
              simp only [RepVC]
              exact ⟨_, rfl, by unfold RefPl; simp only [ho]; exact ⟨k, hk, rfl, h2⟩⟩
            | fz xs e' =>
              obtain ⟨k, hk, h1, h2⟩ := fin _ _ hpl
              refine ⟨_, h1, (repW_leaf rfl).2 ?_⟩
              simp only [RepVC]
              exact ⟨_, rfl, by unfold RefPl; simp only [ho]; exact ⟨k, hk, rfl, h2⟩⟩
            | _ => simp at hrow
        · cases h
      · rename_i xs
        exact frozen xs (repV_d.1 hx) h
      · rename_i xs
        obtain ⟨_, _, hx'⟩ := rep_ts hx
        exact frozen xs hx' h
      · cases h
    · rename_i n e hu
      split at h
      · rename_i k hk
        split at h
        · rename_i hb
          split at h
          · rename_i id jx off
            simp only [Option.some.injEq] at h; subst h
            have hx := (repW_leaf rfl).1 ((repV_one rfl).1 hx)
            simp only [RepVC, List.cons.injEq, and_true] at hx
            obtain ⟨a, rfl, hpl⟩ := hx
            refine ⟨.pointer (some (a.add (i.toNat * k))), by simp [Instr.indexAt, run_underlying hu, Instr.sureAddr, asIntOf, hb, run_sizeOf hk], (repW_leaf rfl).2 ?_⟩
            simp only [RepVC]
            refine ⟨_, rfl, ?_⟩
            unfold RefPl at hpl ⊢
            cases ho : S[id]? with
            | none => simp [ho] at hpl
            | some o =>
              simp only [ho] at hpl ⊢
              cases o <;> first | exact hpl.elim | trivial | (obtain ⟨k', hk', rfl, hlt⟩ := hpl; exact ⟨k', hk', by rw [Addr.add_lit, Nat.add_assoc], hlt⟩)
          · rename_i z
            split at h
            · obtain ⟨y', hy', rfl⟩ := Option.map_eq_some_iff.1 h
              have hx := (repX_leaf rfl).1 (repV_d.1 hx)
              simp only [RepC, List.cons.injEq, and_true] at hx
              obtain ⟨⟨b, off, sp⟩, us, rfl, hsp, hA, hc, hr⟩ := hx
              simp only at hsp; subst hsp
              refine ⟨.pointer (some ⟨b, off + i.toNat * k, none⟩), ?_, repW_d.2 (sub_ptr hk hy' hA hc hr)⟩
              simp [Instr.indexAt, run_underlying hu, Instr.sureAddr, asIntOf, hb, run_sizeOf hk, Addr.add_lit]
            · cases h
          · cases h
        · cases h
      · cases h
    · cases h

/-- 'part' of data. -/
theorem run_part_D {t : TypeId} {cs : List D} {off : Nat} {y : D} {us : Array Value} (h : partD P t cs off = some y) (hr : RepL A w cs us.toList) :
    ∃ v, (part t us off).run P w = .ok v w ∧ RepX A w y v := by
  obtain ⟨n, hs, hle, hy, hga, hn⟩ := partD_rep h hr
  cases hya : y.isAgg with
  | true =>
    refine ⟨.agg (us.extract off (off + n)), ?_, (.inl ⟨hya, _, rfl, by simpa [List.extract_eq_take_drop] using hy⟩)⟩
    simp [part, run_isAgg hs, ← hga, hya, run_sizeOf hs]
  | false =>
    have hl := repC_length hy
    rw [cells_nonagg hya] at hl hn
    simp at hn
    subst hn
    obtain ⟨v, hv⟩ := List.length_eq_one_iff.1 hl
    rw [hv] at hy
    have hget : us[off]? = some v := by
      have : ((us.toList.drop off).take 1)[0]? = some v := by rw [hv]; rfl
      simpa using this
    refine ⟨v, ?_, (.inr ⟨hya, hy⟩)⟩
    simp [part, run_isAgg hs, ← hga, hya, hget]
theorem repX_agg_cells {x : D} {u : Value} (hg : x.isAgg = true) (h : RepX A w x u) : ∃ us, u = .agg us ∧ RepL A w x.cells us.toList := by
  rcases h with ⟨_, us, rfl, h⟩ | ⟨h, _⟩
  · exact ⟨us, rfl, repC_cells h⟩
  · rw [hg] at h; cases h
theorem rep_str {s : List UInt8} {u : Value} (h : RepV P S ρ A w (.d (.str s)) u) : u = .string ⟨s.toArray⟩ := by
  have := (repX_leaf rfl).1 (repV_d.1 h)
  simpa [RepC] using this
theorem rep_int {k : IntKind} {n : Int} {u : Value} (h : RepV P S ρ A w (.d (.int k n)) u) : u = .int k n := by
  have := (repX_leaf rfl).1 (repV_d.1 h)
  simpa [RepC] using this
theorem rep_bool {b : Bool} {u : Value} (h : RepV P S ρ A w (.d (.bool b)) u) : u = .bool b := by
  have := (repX_leaf rfl).1 (repV_d.1 h)
  simpa [RepC] using this
theorem mk_int {k : IntKind} {n : Int} : RepW P S ρ A w (.d (.int k n)) (.int k n) := repW_d.2 ((repX_leaf rfl).2 (by simp [RepC]))
theorem mk_bool {b : Bool} : RepW P S ρ A w (.d (.bool b)) (.bool b) := repW_d.2 ((repX_leaf rfl).2 (by simp [RepC]))
theorem mk_str {s : List UInt8} : RepW P S ρ A w (.d (.str s)) (.string ⟨s.toArray⟩) := repW_d.2 ((repX_leaf rfl).2 (by simp [RepC]))

theorem indexV_run {t : TypeId} {x ix y : V} {u v : Value} (h : indexV P t x ix = some y) (hx : RepV P S ρ A w x u) (hi : RepV P S ρ A w ix v) : ∃ r, (Instr.index t u v).run P w = .ok r w ∧ RepW P S ρ A w y r := by
  unfold indexV at h
  cases hin : intOf? ix with
  | none => simp [hin] at h
  | some i =>
    obtain ⟨ik, rfl⟩ := intOf_rep hin hi
    simp only [hin] at h
    split at h
    · rename_i hu
      split at h
      · rename_i s
        split at h
        · rename_i hb
          split at h
          · rename_i b hbs
            simp only [Option.some.injEq] at h; subst h
            rw [rep_str hx]
            refine ⟨_, ?_, mk_int⟩
            have : (⟨s.toArray⟩ : ByteArray)[i.toNat]? = some b := by
              show (if _ : _ then _ else _) = _
              have hlt : i.toNat < s.length := by
                rcases Nat.lt_or_ge i.toNat s.length with h' | h'
                · exact h'
                · simp [List.getElem?_eq_none h'] at hbs
              have hg : s[i.toNat] = b := by rw [List.getElem?_eq_getElem hlt] at hbs; simpa using hbs
              rw [dif_pos (by simpa [ByteArray.size] using hlt)]
              exact congrArg some hg
            simp [Instr.index, run_underlying hu, asIntOf, hb, this]
          · cases h
        · cases h
      · cases h
    · rename_i n e hu
      split at h
      · rename_i k hk
        split at h
        · rename_i hb
          split at h
          · rename_i z
            split at h
            · rename_i hg
              obtain ⟨y', hy', rfl⟩ := Option.map_eq_some_iff.1 h
              obtain ⟨us, rfl, hr⟩ := repX_agg_cells hg (repV_d.1 hx)
              obtain ⟨r, hr1, hr2⟩ := run_part_D hy' hr
              exact ⟨r, by simp [Instr.index, run_underlying hu, asIntOf, hb, run_sizeOf hk, hr1], repW_d.2 hr2⟩
            · cases h
          · rename_i xs
            obtain ⟨us, rfl, hr⟩ := repW_agg_cells rfl ((repV_one rfl).1 hx)
            obtain ⟨r, hr1, hr2⟩ := run_part_V h hr
            exact ⟨r, by simp [Instr.index, run_underlying hu, asIntOf, hb, run_sizeOf hk, hr1], hr2⟩
          · cases h
        · cases h
      · cases h
    · cases h
end
end Go.Vm
