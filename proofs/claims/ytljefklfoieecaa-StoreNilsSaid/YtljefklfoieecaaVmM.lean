/- The value machine: what single operations come to. Sixth part: append, copy, make. -/
import Derived.Test.YtljefklfoieecaaVmL
set_option linter.unusedVariables false
set_option linter.unusedSimpArgs false
namespace Go.Vm
section
variable {P : Program} {S : Store} {ρ : Nat → Nat} {A : Nat → Prop} {w w' : World}

/-- The elements of a slice that is no text. -/
theorem elemsV_rep (hI : Inv P S ρ A w) {x : V} {ys : List V} {u : Value} (h : elemsV S x = some ys) (hx : RepV P S ρ A w x u) :
    (∃ s, x = .d (.str s) ∧ u = .string ⟨s.toArray⟩ ∧ ys = s.map fun b => .d (.int .u8 b.toNat)) ∨
    (∃ a cap k us, u = .slice a ys.length cap ∧ ys.length ≤ cap ∧ RepVE P S ρ A w k ys us ∧ (ys = [] ∨ ∃ b off, a = some ⟨b, off, none⟩ ∧ CellsAt w b off us)) := by
  have frozen : ∀ xs : List D, RepX A w (.sl xs) u → ∃ a cap k us, u = .slice a (xs.map V.d).length cap ∧ (xs.map V.d).length ≤ cap ∧ RepVE P S ρ A w k (xs.map V.d) us ∧ (xs.map V.d = [] ∨ ∃ b off, a = some ⟨b, off, none⟩ ∧ CellsAt w b off us) := by
    intro xs hx
    obtain ⟨a, cap, rfl, h1, h2⟩ := rep_sl hx
    rcases h2 with rfl | ⟨b, off, k, us, rfl, _, h3, h4⟩
    · exact ⟨a, cap, 0, [], by simp, by simp, by simp [RepVE], .inl rfl⟩
    · exact ⟨_, cap, k, us, by simp, by simpa using h1, repE_map h4, .inr ⟨b, off, rfl, h3⟩⟩
  unfold elemsV at h
  split at h
  · simp only [Option.some.injEq] at h; subst h
    exact .inr (frozen _ (repV_d.1 hx))
  · simp only [Option.some.injEq] at h; subst h
    obtain ⟨_, _, hx'⟩ := rep_ts hx
    exact .inr (frozen _ hx')
  · rename_i id off len
    right
    have hx := (repW_leaf rfl).1 ((repV_one rfl).1 hx)
    simp only [RepVC, List.cons.injEq, and_true] at hx
    obtain ⟨a, cap, rfl, hpl⟩ := hx
    unfold RowPl at hpl
    cases ho : S[id]? with
    | none => simp [ho] at h
    | some o =>
      have hok := hI.ok id o ho
      simp only [ho] at hpl h
      cases o with
      | row xs e =>
        simp only at h hpl
        split at h
        · rename_i hle
          simp only [Option.some.injEq] at h; subst h
          obtain ⟨k, hk, ha, h3, h4, _⟩ := hpl
          simp only [ObOk] at hok
          obtain ⟨k', c, us, rest, hk', hh, hcl, hre⟩ := hok
          rw [hk] at hk'; cases hk'
          have hlen : ((xs.drop off).take len).length = len := by simp; omega
          refine ⟨a, cap, k, (us.drop (off * k)).take (len * k), by rw [hlen], by omega, (repVE_split len (by simp; omega) (repVE_split off (by omega) hre).2).1, ?_⟩
          rcases ha with rfl | ha
          · exact .inr ⟨_, _, rfl, cellsAt_of_row hh hcl _ _⟩
          · exact .inl (List.length_eq_zero_iff.1 (by rw [hlen]; omega))
        · cases h
      | fz xs e =>
        simp only at h hpl
        split at h
        · rename_i hle
          simp only [Option.some.injEq] at h; subst h
          obtain ⟨k, hk, ha, h3, h4, _⟩ := hpl
          simp only [ObOk] at hok
          obtain ⟨k', c, f, us, rest, hk', _, hh, hcl, hre⟩ := hok
          rw [hk] at hk'; cases hk'
          have hlen : (((xs.drop off).take len).map V.d).length = len := by simp; omega
          refine ⟨a, cap, k, (us.drop (off * k)).take (len * k), by rw [hlen], by omega, repE_map (repE_split len (by simp; omega) (repE_split off (by omega) hre).2).1, ?_⟩
          rcases ha with rfl | ha
          · exact .inr ⟨_, _, rfl, cellsAt_of_row hh hcl _ _⟩
          · exact .inl (List.length_eq_zero_iff.1 (by rw [hlen]; omega))
        · cases h
      | _ => simp at h
  · rename_i id ix off len
    right
    have hx := (repW_leaf rfl).1 ((repV_one rfl).1 hx)
    simp only [RepVC, List.cons.injEq, and_true] at hx
    obtain ⟨a, cap, rfl, hpl⟩ := hx
    unfold CellPl at hpl
    cases ho : S[id]? with
    | none => simp [ho] at h
    | some o =>
      have hok := hI.ok id o ho
      simp only [ho] at hpl h
      cases o with
      | row xs e =>
        simp only at h hpl
        cases hxi : xs[ix]? with
        | none => simp [hxi] at h
        | some z =>
          simp only [hxi] at h
          split at h
          · rename_i hle
            simp only [Bool.and_eq_true, decide_eq_true_eq] at hle
            simp only [Option.some.injEq] at h; subst h
            obtain ⟨k, hk, ha, h3, h4, h5⟩ := hpl
            simp only [ObOk] at hok
            obtain ⟨k', c, us, rest, hk', hh, hcl, hre⟩ := hok
            rw [hk] at hk'; cases hk'
            obtain ⟨g1, g2⟩ := repVE_get hre ix z hxi
            have gl := repVC_length g1
            simp only [List.length_take, List.length_drop] at gl
            have hlen : ((z.cells.drop off).take len).length = len := by simp; omega
            have g3 := repVL_repVE (repVL_take len (repVL_drop off (repVC_cells g1)))
            refine ⟨a, cap, 1, _, by rw [hlen], by omega, g3, ?_⟩
            rcases ha with rfl | ha
            · refine .inr ⟨_, _, rfl, ?_⟩
              have := cellsAt_of_row hh hcl (ix * k + off) len
              rw [List.drop_take, List.take_take, List.drop_drop, show min len (k - off) = len by omega]
              exact this
            · exact .inl (List.length_eq_zero_iff.1 (by rw [hlen]; omega))
          · cases h
      | fz xs e =>
        simp only at h hpl
        cases hxi : xs[ix]? with
        | none => simp [hxi] at h
        | some z =>
          simp only [hxi] at h
          split at h
          · rename_i hle
            simp only [Bool.and_eq_true, decide_eq_true_eq] at hle
            simp only [Option.some.injEq] at h; subst h
            obtain ⟨k, hk, ha, h3, h4, h5⟩ := hpl
            simp only [ObOk] at hok
            obtain ⟨k', c, f, us, rest, hk', _, hh, hcl, hre⟩ := hok
            rw [hk] at hk'; cases hk'
            obtain ⟨g1, g2⟩ := repE_get hre ix z hxi
            have gl := repC_length g1
            simp only [List.length_take, List.length_drop] at gl
            have hlen : (((z.cells.drop off).take len).map V.d).length = len := by simp; omega
            have g3 := repE_map (P := P) (S := S) (ρ := ρ) (repL_repE (repL_take len (repL_drop off (repC_cells g1))))
            refine ⟨a, cap, 1, _, by rw [hlen], by omega, g3, ?_⟩
            rcases ha with rfl | ha
            · refine .inr ⟨_, _, rfl, ?_⟩
              have := cellsAt_of_row hh hcl (ix * k + off) len
              rw [List.drop_take, List.take_take, List.drop_drop, show min len (k - off) = len by omega]
              exact this
            · exact .inl (List.length_eq_zero_iff.1 (by rw [hlen]; omega))
          · cases h
      | _ => simp at h
  · rename_i s
    simp only [Option.some.injEq] at h; subst h
    exact .inl ⟨s, rfl, rep_str hx, rfl⟩
  · cases h

/-- The bytes of a text, as cells. -/
theorem repVE_bytes : ∀ (s : List UInt8), RepVE P S ρ A w 1 (s.map fun b => .d (.int .u8 b.toNat)) (s.map fun b => .int .u8 b.toNat)
  | [] => by simp [RepVE]
  | b :: r => by
    simp only [List.map_cons, RepVE]
    exact ⟨[.int .u8 b.toNat], _, rfl, rfl, by simp [RepVC, RepC], repVE_bytes r⟩

/-- What is appended. -/
theorem srcV_src (hI : Inv P S ρ A w) {e tx : TypeId} {x : V} {ys : List V} {u : Value} (h : srcV P S e tx x = some ys) (hx : RepV P S ρ A w x u) :
    ∃ k us, sz P e = some k ∧ RepVE P S ρ A w k ys us ∧ Src P k tx u ys.length us w ∧ ∀ m, m ≤ ys.length → (Builtin.firstCells k m u).run P w = .ok (us.take (m * k)).toArray w := by
  unfold srcV at h
  split at h
  · rename_i s
    split at h
    · rename_i hu
      split at h
      · rename_i hk
        simp only [Option.some.injEq] at h; subst h
        rw [rep_str hx]
        have := Src.ofString w hu (⟨s.toArray⟩ : ByteArray)
        have hs : (⟨s.toArray⟩ : ByteArray).size = s.length := by simp [ByteArray.size]
        have hb : byteCells (⟨s.toArray⟩ : ByteArray) = s.map fun b => Value.int .u8 b.toNat := by simp [byteCells]
        rw [hs, hb] at this
        refine ⟨1, _, hk, repVE_bytes s, by simpa using this, fun m hm => ?_⟩
        simp only [Builtin.firstCells, Sem.run_pure, Result.ok.injEq, and_true, Nat.mul_one]
        apply Array.ext'
        simp [List.map_take]
      · cases h
    · cases h
  · rename_i hns
    split at h
    · rename_i e' hu
      cases hel : elemsV S x with
      | none => simp [hel] at h
      | some zs =>
        simp only [hel] at h
        split at h
        · rename_i hf
          simp only [Bool.and_eq_true] at hf
          simp only [Option.some.injEq] at h; subst h
          obtain ⟨k, hk⟩ := Option.isSome_iff_exists.1 hf.2
          rcases elemsV_rep hI hel hx with ⟨s, rfl, _⟩ | ⟨a, cap, k', us, rfl, hcap, hE, hc⟩
          · exact absurd rfl (hns s)
          · cases zs with
            | nil =>
              simp only [RepVE] at hE; subst hE
              refine ⟨k, [], hk, by simp [RepVE], ?_⟩
              have nocells : ∀ w' : World, (Builtin.firstCells k 0 (.slice a 0 cap)).run P w' = .ok #[] w' := fun w' => by
                cases a with
                | none => simp [Builtin.firstCells]
                | some a => simp [Builtin.firstCells, loadCells, loadCellsFrom]
              exact ⟨⟨.inl ⟨e', hu⟩, fun _ => rfl, nocells w, nocells w.drew, by simp, by simp⟩, fun m hm => by
                have : m = 0 := by simpa using hm
                subst this
                simpa using nocells w⟩
            | cons z r =>
              have hkk : k' = k := by
                have h2 := (fitsT_spec (List.all_eq_true.1 hf.1 z (by simp))).2.2
                simp only [RepVE] at hE
                obtain ⟨u1, u2, _, h3, h4, _⟩ := hE
                have h5 := repVC_length h4
                rw [hk] at h2; simp at h2; omega
              subst hkk
              rcases hc with hc | ⟨b, off, rfl, hc⟩
              · cases hc
              · refine ⟨k', us, hk, hE, Src.ofSlice w hu _ _ _ us (by rw [repVE_length hE]) (fun j v hv => hc.cell hv) (repVE_leaf hE), fun m hm => ?_⟩
                have hl := repVE_length hE
                refine run_firstCells_some w k' m _ _ _ _ (by rw [List.length_take, hl]; exact Nat.min_eq_left (Nat.mul_le_mul_right _ hm)) (fun j v hv => ?_)
                rw [List.getElem?_take] at hv
                split at hv
                · exact hc.cell hv
                · cases hv
        · cases h
    · cases h

theorem run_append_room_row {t tx ty e : TypeId} {i : TypeInfo} (ht : P.underlying t = some (.slice e)) (hi : P.info? e = some i) {b sLen sCap n : Nat} {x : Value} {news : List Value} (hs : Src P i.size tx x n news w)
    (hroom : sLen + n ≤ sCap) {c : Array Value} {e' : TypeId} (hh : w.heap[b]? = some (.cells c e' (0, 0))) (hfit : sLen * i.size + news.length ≤ c.size) :
    (Builtin.append_ #[t, tx] ty #[.slice (some ⟨b, 0, none⟩) sLen sCap, x]).run P w = .ok (.slice (some ⟨b, 0, none⟩) (sLen + n) sCap) (w.setRow b (c.toList.take (sLen * i.size) ++ news ++ c.toList.drop (sLen * i.size + news.length)).toArray) := by
  have hst := run_storeCells_at P b (sLen * i.size) e' news 0 c w hh (by simpa using hfit) hs.one
  simp only [Nat.add_zero] at hst
  rcases hs.kind with ⟨e2, hk⟩ | hk <;> simp [Builtin.append_, run_underlying ht, run_underlying hk, sizeOf, typeInfo, hi, hs.len, hroom, hs.cells, Addr.add_lit, hst]

theorem room_spec {e : TypeId} {n : Nat} {i : TypeInfo} (h : room P e n = true) (hi : P.info? e = some i) : n * i.bytes ≤ 140737488355328 ∧ n ≤ 9223372036854775807 := by
  simpa [room, bytesOf, hi] using h

theorem zOk_spec {e : TypeId} {i : TypeInfo} (h : zOk P e = true) (hi : P.info? e = some i) : ∃ z, i.zero = some z ∧ z.cells.size = i.size := by
  unfold zOk at h
  cases hz : zeroV P e with
  | none => simp [hz] at h
  | some v =>
    simp only [hz] at h
    unfold zeroV at hz
    simp only [hi, Option.bind_some] at hz
    cases hzz : i.zero with
    | none => simp [hzz] at hz
    | some z =>
      simp only [hzz, Option.bind_some] at hz
      obtain ⟨_, k, hk, h1, _⟩ := repW_of_fits (P := P) (S := []) (ρ := fun _ => 0) (A := fun _ => False) (w := default) h (repV_of_repW (ofVal_rep hz))
      obtain ⟨i', _, hi', hk', _⟩ := sz_info hk
      rw [hi] at hi'; cases hi'
      exact ⟨z, rfl, by omega⟩

theorem appendV_run (hI : Inv P S ρ A w) {t tx ty : TypeId} {s x y : V} {S' : Store} {c : Nat} {us ux : Value} (h : appendV P S t tx s x = some (y, S', c)) (hs : RepV P S ρ A w s us) (hx : RepV P S ρ A w x ux) :
    ∃ v w' ρ', (Builtin.append_ #[t, tx] ty #[us, ux]).run P w = .ok v w' ∧ Inv P S' ρ' A w' ∧ Step S ρ A w S' ρ' A w' ∧ RepW P S' ρ' A w' y v := by
  unfold appendV at h
  split at h
  · rename_i e hu
    cases hsrc : srcV P S e tx x with
    | none => simp [hsrc] at h
    | some ys =>
      obtain ⟨k, news, hk, hE, hsr, _⟩ := srcV_src hI hsrc hx
      obtain ⟨i, d, hi, hik, hd⟩ := sz_info hk
      subst hik
      simp only [hsrc] at h
      cases ys with
      | nil =>
        simp only at h
        simp only [RepVE] at hE; subst hE
        have nothing : ∀ a n cap, n ≤ cap → us = .slice a n cap → (Builtin.append_ #[t, tx] ty #[us, ux]).run P w = .ok us w := fun a n cap hle he => by
          subst he; exact run_append_nothing w t tx ty e i hu hi a n cap hle ux (by simpa using hsr)
        split at h <;> simp only [Option.some.injEq, Prod.mk.injEq, reduceCtorEq] at h
        · rename_i xs
          obtain ⟨rfl, rfl, rfl⟩ := h
          obtain ⟨a, he, _⟩ := rep_ts hs
          exact ⟨us, w, ρ, nothing a _ _ (Nat.le_refl _) he, hI, .refl, (repV_one rfl).1 hs⟩
        · rename_i id off len
          obtain ⟨rfl, rfl, rfl⟩ := h
          have hs' := (repV_one rfl).1 hs
          have hs2 := (repW_leaf rfl).1 hs'
          simp only [RepVC, List.cons.injEq, and_true] at hs2
          obtain ⟨a, cap, he, hpl⟩ := hs2
          have hle : len ≤ cap := by
            unfold RowPl at hpl
            cases ho : S[id]? with
            | none => simp [ho] at hpl
            | some o =>
              simp only [ho] at hpl
              cases o <;> first | exact hpl.elim | exact hpl | (obtain ⟨_, _, _, _, h4, _⟩ := hpl; exact h4)
          exact ⟨us, w, ρ, nothing a _ _ hle he, hI, .refl, hs'⟩
        · rename_i xs
          obtain ⟨rfl, rfl, rfl⟩ := h
          obtain ⟨a, cap, he, hle, _⟩ := rep_sl (repV_d.1 hs)
          exact ⟨us, w, ρ, nothing a _ _ hle he, hI, .refl, (repV_one rfl).1 hs⟩
      | cons y0 r =>
        simp only at h
        split at h
        · rename_i hz
          obtain ⟨z0, hz0, hzc⟩ := zOk_spec hz hi
          -- a new row
          have grow : ∀ (S1 : Store) (ρ1 : Nat → Nat) (old : List V) (base : Option Addr) (cap : Nat) (olds : List Value), Inv P S1 ρ1 A w → RepVE P S1 ρ1 A w i.size old olds → RepVE P S1 ρ1 A w i.size (y0 :: r) news → us = .slice base old.length cap → cap < old.length + (r.length + 1) → room P e (old.length + (r.length + 1)) = true →
              (base = none ∧ old = [] ∨ ∃ a, base = some a ∧ ∀ j u, olds[j]? = some u → w.cell? (a.add j) = some u) →
              ∃ v w', (Builtin.append_ #[t, tx] ty #[us, ux]).run P w = .ok v w' ∧ ∃ ρ', Inv P (S1 ++ [.row (old ++ y0 :: r) e]) ρ' A w' ∧ Step S1 ρ1 A w (S1 ++ [.row (old ++ y0 :: r) e]) ρ' A w' ∧ RepW P (S1 ++ [.row (old ++ y0 :: r) e]) ρ' A w' (.rs S1.length 0 (old.length + (r.length + 1))) v := by
            intro S1 ρ1 old base cap olds hI1 hold hnew he hcap hroom hb
            obtain ⟨r1, r2⟩ := room_spec hroom hi
            have hol := repVE_length hold
            have hld : (Builtin.firstCells i.size old.length (.slice base old.length cap)).run P w.drew = .ok olds.toArray w.drew := by
              rcases hb with ⟨rfl, rfl⟩ | ⟨a, rfl, ha⟩
              · simp only [RepVE] at hold; subst hold
                exact run_firstCells_none w.drew i.size 0 0 cap
              · exact run_firstCells_some w.drew i.size old.length a old.length cap olds hol (by simpa using ha)
            have hrun := run_append_grow_src w t tx ty e i z0 hu hi hz0 base old.length cap olds hld ux (r.length + 1) news (by simpa using hsr) hcap (by omega) (growslice_fits hcap r1)
            rw [← he] at hrun
            refine ⟨_, _, hrun, ?_⟩
            obtain ⟨g1, g2⟩ := hI1.push (o := .row (old ++ y0 :: r) e) (w' := w.drew.alloc (.cells ((olds ++ news).toArray ++ Builtin.zeroCells z0.cells (grownCap w (old.length + (r.length + 1)) cap e - (old.length + (r.length + 1)))) e)) rfl (by simp) (fun b hb => alloc_old _ hb) rfl rfl rfl (fun hss hA => by
              simp only [ObOk]
              refine ⟨i.size, _, olds ++ news, (Builtin.zeroCells z0.cells (grownCap w (old.length + (r.length + 1)) cap e - (old.length + (r.length + 1)))).toList, hk, alloc_new (w := w.drew) _, by simp, ?_⟩
              exact repVE_append (repVE_mono (fun _ h => h) hA hss _ _ _ hold) (repVE_mono (fun _ h => h) hA hss _ _ _ hnew))
            refine ⟨_, g1, g2, (repW_leaf rfl).2 ?_⟩
            simp only [RepVC]
            refine ⟨_, _, rfl, ?_⟩
            unfold RowPl
            simp only [List.getElem?_concat_length]
            have hg := grownCap_ge w (old.length + (r.length + 1)) cap e
            have hnl := repVE_length hnew
            refine ⟨i.size, hk, .inl ?_, by simp, hg, _, e, (0, 0), by simp only [if_true]; exact alloc_new (w := w.drew) _, ?_⟩
            · simp
            · simp only [Array.size_append, List.size_toArray, List.length_append, size_zeroCells, hol, hnl, List.length_cons]
              rw [hzc]
              have : grownCap w (old.length + (r.length + 1)) cap e = (old.length + (r.length + 1)) + (grownCap w (old.length + (r.length + 1)) cap e - (old.length + (r.length + 1))) := by omega
              generalize grownCap w (old.length + (r.length + 1)) cap e - (old.length + (r.length + 1)) = q at *
              rw [this]
              simp only [Nat.zero_add, Nat.add_mul]
              omega
          split at h
          · rename_i xs
            split at h
            · rename_i hf
              simp only [Bool.and_eq_true] at hf
              simp only [Option.some.injEq, Prod.mk.injEq] at h
              obtain ⟨rfl, rfl, rfl⟩ := h
              obtain ⟨a, he, hxs⟩ := rep_ts hs
              obtain ⟨a2, cap2, he2, _, hr⟩ := rep_sl hxs
              rw [he] at he2
              simp only [Value.slice.injEq] at he2
              obtain ⟨rfl, _, rfl⟩ := he2
              have hl : (xs.map V.d).length = xs.length := by simp
              rcases hr with rfl | ⟨b, off, k', olds, rfl, _, hc, hE0⟩
              · obtain ⟨v, w', e1, ρ', e2, e3, e4⟩ := grow S ρ [] a 0 [] hI (by simp [RepVE]) hE (by simpa using he) (by simp) (by simpa using hf.2) (by
                  cases a with
                  | none => exact .inl ⟨rfl, rfl⟩
                  | some a => exact .inr ⟨a, rfl, by simp⟩)
                exact ⟨v, w', ρ', e1, by simpa using e2, by simpa using e3, by simpa using e4⟩
              · cases xs with
                | nil =>
                  simp only [RepE] at hE0; subst hE0
                  obtain ⟨v, w', e1, ρ', e2, e3, e4⟩ := grow S ρ [] _ 0 [] hI (by simp [RepVE]) hE (by simpa using he) (by simp) (by simpa using hf.2) (.inr ⟨_, rfl, by simp⟩)
                  exact ⟨v, w', ρ', e1, by simpa using e2, by simpa using e3, by simpa using e4⟩
                | cons x0 r0 =>
                  have hkk : k' = i.size := by
                    have h2 := (fitsD_spec (List.all_eq_true.1 hf.1 x0 (by simp))).2
                    simp only [RepE] at hE0
                    obtain ⟨u1, u2, _, h3, h4, _⟩ := hE0
                    have h5 := repC_length h4
                    rw [hk] at h2; simp at h2; omega
                  subst hkk
                  obtain ⟨v, w', e1, ρ', e2, e3, e4⟩ := grow S ρ ((x0 :: r0).map V.d) _ _ olds hI (repE_map hE0) hE (by rw [hl]; exact he) (by simp) (by rw [hl]; exact hf.2) (.inr ⟨_, rfl, fun j u hu => hc.cell hu⟩)
                  rw [hl] at e4
                  exact ⟨v, w', ρ', e1, e2, e3, e4⟩
            · cases h
          · rename_i id off len
            cases ho : S[id]? with
            | none => simp [ho] at h
            | some o =>
              simp only [ho] at h
              cases o with
              | row xs e' =>
                simp only at h
                split at h
                · rename_i hf
                  simp only [Bool.and_eq_true, decide_eq_true_eq] at hf
                  obtain ⟨⟨⟨rfl, hee⟩, hle⟩, hroom⟩ := hf
                  subst hee
                  simp only [Option.some.injEq, Prod.mk.injEq] at h
                  obtain ⟨rfl, rfl, rfl⟩ := h
                  have hok := hI.ok id _ ho
                  have hs2 := (repW_leaf rfl).1 ((repV_one rfl).1 hs)
                  simp only [RepVC, List.cons.injEq, and_true] at hs2
                  obtain ⟨a, cap, he, hpl⟩ := hs2
                  unfold RowPl at hpl
                  simp only [ho] at hpl
                  obtain ⟨k2, hk2, ha, h3, h4, c2, e2, f2, h5, h6⟩ := hpl
                  rw [hk] at hk2; cases hk2
                  simp only [ObOk] at hok
                  obtain ⟨k3, c, olds, rest, hk3, hh, hcl, hre⟩ := hok
                  rw [hk] at hk3; cases hk3
                  rw [hh] at h5
                  simp only [Option.some.injEq, Obj.cells.injEq] at h5
                  rw [← h5.1] at h6
                  have hol := repVE_length hre
                  have hcs : c.size = olds.length + rest.length := by rw [← Array.length_toList, hcl, List.length_append]
                  have hnl := repVE_length hE
                  have hpre := (repVE_split len hle hre).1
                  by_cases hcap : len + (r.length + 1) ≤ cap
                  · -- there is room
                    have ha' : a = some ⟨ρ id, 0, none⟩ := by
                      rcases ha with ha | ha
                      · simpa using ha
                      · omega
                    subst ha'
                    subst he
                    have hfit : len * i.size + news.length ≤ c.size := by
                      rw [hnl]
                      have : (len + (r.length + 1)) * i.size ≤ cap * i.size := Nat.mul_le_mul_right _ hcap
                      simp only [List.length_cons, Nat.zero_add] at h6 ⊢
                      rw [Nat.add_mul] at this
                      omega
                    have hrun := run_append_room_row (ty := ty) hu hi (by simpa using hsr) hcap hh hfit
                    obtain ⟨g1, g2⟩ := hI.move (o' := .row (xs.take len ++ y0 :: r) e') (w' := w.setRow (ρ id) (c.toList.take (len * i.size) ++ news ++ c.toList.drop (len * i.size + news.length)).toArray) ho rfl (by simp) (fun b hb => setRow_other w _ b _ hb) rfl rfl rfl rfl (fun hss hA => by
                      simp only [ObOk]
                      refine ⟨i.size, _, olds.take (len * i.size) ++ news, c.toList.drop (len * i.size + news.length), hk, setRow_heap w _ _ _ _ _ hh, ?_, ?_⟩
                      · rw [List.toList_toArray, hcl, List.take_append_of_le_length (by rw [hol]; exact Nat.mul_le_mul_right _ hle)]
                      · exact repVE_append (repVE_mono (fun _ h => h) hA hss _ _ _ hpre) (repVE_mono (fun _ h => h) hA hss _ _ _ hE))
                    refine ⟨_, _, _, hrun, g1, g2, (repW_leaf rfl).2 ?_⟩
                    simp only [RepVC]
                    refine ⟨_, _, rfl, ?_⟩
                    unfold RowPl
                    rw [List.getElem?_append_right (by simp)]
                    simp only [List.length_set, Nat.sub_self, List.getElem?_cons_zero]
                    refine ⟨i.size, hk, .inl (by simp), by simp; omega, hcap, _, _, _, by simp only [if_true]; exact setRow_heap w _ _ _ _ _ hh, ?_⟩
                    simp only [List.size_toArray, List.length_append, List.length_take, List.length_drop, Array.length_toList]
                    have := hfit
                    simp only [Nat.zero_add] at h6 ⊢
                    omega
                  · -- there is none: the old row dies, a new one is made
                    obtain ⟨g1, g2⟩ := hI.turn (o' := .dead) (w' := w) ho rfl (by simp [Ob.le]) rfl (fun _ _ => rfl) (.inl rfl) rfl rfl rfl (.inr rfl) (fun _ _ => trivial)
                    have hlen : (xs.take len).length = len := by simp; omega
                    have hb : a = none ∧ xs.take len = [] ∨ ∃ a', a = some a' ∧ ∀ j u, (olds.take (len * i.size))[j]? = some u → w.cell? (a'.add j) = some u := by
                      rcases ha with rfl | ha
                      · refine .inr ⟨_, rfl, fun j u hu => ?_⟩
                        have := cellsAt_of_row hh hcl 0 (len * i.size)
                        simp only [List.drop_zero] at this
                        simpa using this.cell hu
                      · have : len = 0 := by omega
                        subst this
                        cases a with
                        | none => exact .inl ⟨rfl, by simp⟩
                        | some a => exact .inr ⟨a, rfl, by simp⟩
                    obtain ⟨v, w', e1, ρ', e2, e3, e4⟩ := grow (S.set id .dead) ρ (xs.take len) a cap (olds.take (len * i.size)) g1 (repVE_mono (fun _ h => h) (fun _ _ => rfl) g2.sle _ _ _ hpre) (repVE_mono (fun _ h => h) (fun _ _ => rfl) g2.sle _ _ _ hE) (by rw [hlen]; exact he) (by rw [hlen]; omega) (by rw [hlen]; exact hroom) hb
                    rw [hlen, List.length_set] at e4
                    exact ⟨v, w', ρ', e1, e2, g2.trans e3, e4⟩
                · cases h
              | _ => simp at h
          · cases h
        · cases h
  · cases h

theorem copyV_run (hI : Inv P S ρ A w) {t tx ty : TypeId} {s x y : V} {S' : Store} {us ux : Value} (h : copyV P S t tx s x = some (y, S')) (hs : RepV P S ρ A w s us) (hx : RepV P S ρ A w x ux) :
    ∃ v w', (Builtin.copy_ #[t, tx] ty #[us, ux]).run P w = .ok v w' ∧ Inv P S' ρ A w' ∧ Step S ρ A w S' ρ A w' ∧ RepW P S' ρ A w' y v := by
  unfold copyV at h
  split at h
  · rename_i e hu
    cases hsrc : srcV P S e tx x with
    | none => simp [hsrc] at h
    | some ys =>
      obtain ⟨k, news, hk, hE, hsr, hfirst⟩ := srcV_src hI hsrc hx
      simp only [hsrc] at h
      split at h
      · rename_i id off len
        cases ho : S[id]? with
        | none => simp [ho] at h
        | some o =>
          simp only [ho] at h
          cases o with
          | row xs e' =>
            simp only at h
            split at h
            · rename_i hf
              simp only [Bool.and_eq_true, decide_eq_true_eq] at hf
              obtain ⟨hee, hle⟩ := hf
              subst hee
              simp only [Option.some.injEq, Prod.mk.injEq] at h
              obtain ⟨rfl, rfl⟩ := h
              have hok := hI.ok id _ ho
              have hs2 := (repW_leaf rfl).1 ((repV_one rfl).1 hs)
              simp only [RepVC, List.cons.injEq, and_true] at hs2
              obtain ⟨a, cap, rfl, hpl⟩ := hs2
              unfold RowPl at hpl
              simp only [ho] at hpl
              obtain ⟨k2, hk2, ha, h3, h4, c2, e2, f2, h5, h6⟩ := hpl
              rw [hk] at hk2; cases hk2
              simp only [ObOk] at hok
              obtain ⟨k3, c, olds, rest, hk3, hh, hcl, hre⟩ := hok
              rw [hk] at hk3; cases hk3
              have hol := repVE_length hre
              have hcs : c.size = olds.length + rest.length := by rw [← Array.length_toList, hcl, List.length_append]
              have hnl := repVE_length hE
              generalize hm : min ys.length len = m
              have hm1 : m ≤ ys.length := by omega
              have hm2 : m ≤ len := by omega
              obtain ⟨hE1, _⟩ := repVE_split m hm1 hE
              have hE1l : (news.take (m * k)).length = m * k := by
                rw [List.length_take, hnl]; exact Nat.min_eq_left (Nat.mul_le_mul_right _ hm1)
              have hlen : (Builtin.lenOf ux).run P w = .ok ys.length w := hsr.len w
              have hfc := hfirst m hm1
              have hone := repVE_leaf hE1
              by_cases hc0 : a = some ⟨ρ id, off * k, none⟩
              · subst hc0
                have hmk : (off + m) * k ≤ xs.length * k := Nat.mul_le_mul_right _ (by omega)
                rw [Nat.add_mul] at hmk
                have hst := run_storeCells_at P (ρ id) (off * k) e' (news.take (m * k)) 0 c w hh (by rw [hE1l]; omega) hone
                simp only [Nat.add_zero, hE1l] at hst
                refine ⟨goInt m, w.setRow (ρ id) (c.toList.take (off * k) ++ news.take (m * k) ++ c.toList.drop (off * k + m * k)).toArray, ?_, ?_⟩
                · have hmin : Nat.min ys.length len = m := hm
                  simp [Builtin.copy_, run_underlying hu, hlen, run_sizeOf hk, hmin, hfc, hst]
                · obtain ⟨g1, g2⟩ := hI.turn (o' := .row (xs.take off ++ ys.take m ++ xs.drop (off + m)) e') (w' := w.setRow (ρ id) (c.toList.take (off * k) ++ news.take (m * k) ++ c.toList.drop (off * k + m * k)).toArray) ho rfl ⟨by simp; omega, rfl⟩ (by simp) (fun b hb => setRow_other w _ b _ hb) (.inr fun c0 e0 f0 hc0 => by
                      rw [hh] at hc0; cases hc0
                      refine ⟨_, _, _, setRow_heap w _ _ _ _ _ hh, ?_⟩
                      simp only [List.size_toArray, List.length_append, List.length_drop, Array.length_toList, hE1l]
                      rw [List.length_take, Array.length_toList]
                      omega) rfl rfl rfl (.inl rfl) (fun hss hA => by
                      simp only [ObOk]
                      refine ⟨k, _, olds.take (off * k) ++ news.take (m * k) ++ olds.drop (off * k + m * k), rest, hk, setRow_heap w _ _ _ _ _ hh, ?_, ?_⟩
                      · rw [List.toList_toArray, hcl, List.take_append_of_le_length (by omega), List.drop_append_of_le_length (by omega)]
                        simp [List.append_assoc]
                      · have e1 := (repVE_split off (by omega) hre).1
                        have e2 := (repVE_split (off + m) (by omega) hre).2
                        rw [Nat.add_mul] at e2
                        exact repVE_append (repVE_append (repVE_mono (fun _ h => h) hA hss _ _ _ e1) (repVE_mono (fun _ h => h) hA hss _ _ _ hE1)) (repVE_mono (fun _ h => h) hA hss _ _ _ e2))
                  exact ⟨g1, g2, mk_int⟩
              · have hcap0 : cap = 0 := by
                  rcases ha with ha | ha
                  · exact absurd ha hc0
                  · exact ha
                have hm0 : m = 0 := by omega
                subst hm0
                have hsame : S.set id (Ob.row (xs.take off ++ ys.take 0 ++ xs.drop (off + 0)) e') = S := by
                  simp only [List.take_zero, List.append_nil, Nat.add_zero, List.take_append_drop]
                  apply List.ext_getElem?
                  intro j
                  rw [List.getElem?_set]
                  by_cases hj : id = j
                  · subst hj
                    have hlt : id < S.length := by
                      rcases Nat.lt_or_ge id S.length with h' | h'
                      · exact h'
                      · simp [List.getElem?_eq_none h'] at ho
                    rw [if_pos rfl, if_pos hlt, ho]
                  · simp [hj]
                rw [hsame]
                refine ⟨goInt (0 : Nat), w, ?_, hI, .refl, mk_int⟩
                have hmin : Nat.min ys.length len = 0 := hm
                simp only [Nat.zero_mul, List.take_zero] at hfc
                cases a with
                | none => simp [Builtin.copy_, run_underlying hu, hlen, run_sizeOf hk, hmin, hfc]
                | some a => simp [Builtin.copy_, run_underlying hu, hlen, run_sizeOf hk, hmin, hfc, storeCells]
            · cases h
          | _ => simp at h
      · cases h
  · cases h
end
end Go.Vm
