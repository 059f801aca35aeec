/- The value machine: what ran with a hole in the store runs the same with any object in its place, and leaves it. Single operations. -/
import Derived.Test.YtljefklfoieecaaVmB
set_option linter.unusedVariables false
set_option linter.unusedSimpArgs false
namespace Go.Vm

theorem lt_of_get {S : Store} {id : Nat} {o : Ob} (h : S[id]? = some o) : id < S.length := by
  rcases Nat.lt_or_ge id S.length with h' | h'
  · exact h'
  · simp [List.getElem?_eq_none h'] at h
theorem get_hole {S : Store} {id j : Nat} {o : Ob} (ob : Ob) (hS : S[id]? = some .hole) (h : S[j]? = some o) (hne : o ≠ .hole) : (S.set id ob)[j]? = some o := by
  have : id ≠ j := by rintro rfl; rw [hS] at h; cases h; exact hne rfl
  rw [List.getElem?_set_ne this]; exact h
theorem set_hole {S : Store} {id j : Nat} {o : Ob} (ob x : Ob) (hS : S[id]? = some .hole) (h : S[j]? = some o) (hne : o ≠ .hole) : (S.set id ob).set j x = (S.set j x).set id ob ∧ (S.set j x)[id]? = some .hole := by
  have : id ≠ j := by rintro rfl; rw [hS] at h; cases h; exact hne rfl
  exact ⟨List.set_comm _ _ this, by rw [List.getElem?_set_ne (Ne.symm this)]; exact hS⟩
theorem app_hole {S : Store} {id : Nat} (ob x : Ob) (hS : S[id]? = some .hole) : (S.set id ob) ++ [x] = (S ++ [x]).set id ob ∧ (S ++ [x])[id]? = some .hole := by
  have := lt_of_get hS
  exact ⟨by rw [List.set_append_left _ _ this], by rw [List.getElem?_append_left this]; exact hS⟩
section
variable {P : Program} {S : Store} {id : Nat}

theorem loadV_hole {t : TypeId} {x y : V} (ob : Ob) (hS : S[id]? = some .hole) (h : loadV P S t x = some y) : loadV P (S.set id ob) t x = some y := by
  unfold loadV at h ⊢
  split at h
  · rename_i j ix off
    cases ho : S[j]? with
    | none => simp [ho] at h
    | some o =>
      by_cases hne : o = .hole
      · subst hne; simp [ho] at h
      · simp only [ho] at h; simp only [get_hole ob hS ho hne]; exact h
  · exact h
  · cases h
theorem elemsV_hole {x : V} {y : List V} (ob : Ob) (hS : S[id]? = some .hole) (h : elemsV S x = some y) : elemsV (S.set id ob) x = some y := by
  unfold elemsV at h ⊢
  split at h
  · exact h
  · exact h
  · rename_i j off len
    cases ho : S[j]? with
    | none => simp [ho] at h
    | some o =>
      by_cases hne : o = .hole
      · subst hne; simp [ho] at h
      · simp only [ho] at h; simp only [get_hole ob hS ho hne]; exact h
  · rename_i j ix off len
    cases ho : S[j]? with
    | none => simp [ho] at h
    | some o =>
      by_cases hne : o = .hole
      · subst hne; simp [ho] at h
      · simp only [ho] at h; simp only [get_hole ob hS ho hne]; exact h
  · exact h
  · cases h
theorem entriesV_hole {x : V} {y : List (D × V)} (ob : Ob) (hS : S[id]? = some .hole) (h : entriesV S x = some y) : entriesV (S.set id ob) x = some y := by
  unfold entriesV at h ⊢
  split at h
  · exact h
  · exact h
  · rename_i j
    cases ho : S[j]? with
    | none => simp [ho] at h
    | some o =>
      by_cases hne : o = .hole
      · subst hne; simp [ho] at h
      · simp only [ho] at h; simp only [get_hole ob hS ho hne]; exact h
  · cases h
theorem lookupV_hole {t : TypeId} {x k y : V} {ok : Bool} (ob : Ob) (hS : S[id]? = some .hole) (h : lookupV P S t x k ok = some y) : lookupV P (S.set id ob) t x k ok = some y := by
  unfold lookupV at h ⊢
  split at h
  · split at h
    · rename_i hk
      rw [if_pos hk]
      cases he : entriesV S x with
      | none => simp [he] at h
      | some es => simp only [he] at h; simp only [entriesV_hole ob hS he]; exact h
    · cases h
  · cases h
theorem rowT_hole {j : Nat} {e : TypeId} (ob : Ob) (hS : S[id]? = some .hole) (h : rowT S j e = true) : rowT (S.set id ob) j e = true := by
  unfold rowT at h ⊢
  cases ho : S[j]? with
  | none => simp [ho] at h
  | some o =>
    by_cases hne : o = .hole
    · subst hne; simp [ho] at h
    · simp only [ho] at h; simp only [get_hole ob hS ho hne]; exact h
theorem rowB_hole {j : Nat} (ob : Ob) (hS : S[id]? = some .hole) (h : rowB S j = true) : rowB (S.set id ob) j = true := by
  unfold rowB at h ⊢
  cases ho : S[j]? with
  | none => simp [ho] at h
  | some o =>
    by_cases hne : o = .hole
    · subst hne; simp [ho] at h
    · simp only [ho] at h; simp only [get_hole ob hS ho hne]; exact h
theorem indexAddrV_hole {t : TypeId} {x ix y : V} (ob : Ob) (hS : S[id]? = some .hole) (h : indexAddrV P S t x ix = some y) : indexAddrV P (S.set id ob) t x ix = some y := by
  unfold indexAddrV at h ⊢
  split at h
  · cases h
  · split at h
    · split at h
      · split at h
        · rename_i hc
          rw [if_pos ⟨hc.1, rowT_hole ob hS hc.2.1, hc.2.2⟩]; exact h
        · cases h
      · split at h
        · rename_i hc
          rw [if_pos ⟨hc.1, rowB_hole ob hS hc.2.1, hc.2.2⟩]; exact h
        · cases h
      · exact h
      · exact h
      · cases h
    · exact h
    · cases h
theorem sliceArrV_hole {n : Nat} {e : TypeId} {x y : V} {lo hi : Option V} (ob : Ob) (hS : S[id]? = some .hole) (h : sliceArrV P S n e x lo hi = some y) : sliceArrV P (S.set id ob) n e x lo hi = some y := by
  unfold sliceArrV at h ⊢
  split at h
  · rename_i hc
    rw [if_pos hc]
    cases h1 : boundV n hi n with
    | none => simp [h1] at h
    | some hh =>
      simp only [h1] at h ⊢
      cases h2 : boundV hh lo 0 with
      | none => simp [h2] at h
      | some l =>
        simp only [h2] at h ⊢
        split at h
        · rename_i j ix off
          cases ho : S[j]? with
          | none => simp [ho] at h
          | some o =>
            by_cases hne : o = .hole
            · subst hne; simp [ho] at h
            · simp only [ho] at h; simp only [get_hole ob hS ho hne]; exact h
        · exact h
        · cases h
  · cases h
theorem sliceV_hole {t : TypeId} {x y : V} {lo hi : Option V} (ob : Ob) (hS : S[id]? = some .hole) (h : sliceV P S t x lo hi = some y) : sliceV P (S.set id ob) t x lo hi = some y := by
  unfold sliceV at h ⊢
  split at h
  · exact h
  · split at h
    · exact h
    · exact h
    · rename_i j off len
      cases h1 : boundV len hi len with
      | none => simp [h1] at h
      | some hh =>
        simp only [h1] at h ⊢
        cases h2 : boundV hh lo 0 with
        | none => simp [h2] at h
        | some l =>
          simp only [h2] at h ⊢
          split at h
          · rename_i hc
            simp only [Bool.and_eq_true] at hc
            rw [if_pos (by simp [rowT_hole ob hS hc.1, hc.2])]; exact h
          · cases h
    · cases h
  · split at h
    · exact sliceArrV_hole ob hS h
    · cases h
  · exact sliceArrV_hole ob hS h
  · cases h
theorem srcV_hole {e tx : TypeId} {x : V} {ys : List V} (ob : Ob) (hS : S[id]? = some .hole) (h : srcV P S e tx x = some ys) : srcV P (S.set id ob) e tx x = some ys := by
  unfold srcV at h ⊢
  split at h
  · exact h
  · split at h
    · split at h
      · rename_i ys' hy
        rw [elemsV_hole ob hS hy]
        simpa using h
      · cases h
    · cases h
theorem storeV_hole {t : TypeId} {a v : V} {S' : Store} (ob : Ob) (hS : S[id]? = some .hole) (h : storeV P S t a v = some S') : storeV P (S.set id ob) t a v = some (S'.set id ob) ∧ S'[id]? = some .hole := by
  unfold storeV at h ⊢
  split at h
  · rename_i j ix off
    cases ho : S[j]? with
    | none => simp [ho] at h
    | some o =>
      by_cases hne : o = .hole
      · subst hne; simp [ho] at h
      · simp only [ho] at h; simp only [get_hole ob hS ho hne]
        cases o with
        | row xs e =>
          simp only at h ⊢
          split at h
          · rename_i x hx
            try simp only [hx]
            split at h
            · rename_i hf
              rw [if_pos hf]
              split at h
              · rename_i hc
                rw [if_pos hc]
                simp only [Option.some.injEq] at h; subst h
                obtain ⟨g1, g2⟩ := set_hole ob (.row (xs.set ix v) e) hS ho hne
                exact ⟨by rw [g1], g2⟩
              · rename_i hc
                rw [if_neg hc]
                split at h
                · rename_i hc2
                  rw [if_pos hc2]
                  simp only [Option.some.injEq] at h; subst h
                  obtain ⟨g1, g2⟩ := set_hole ob (.row (xs.set ix (.agg (x.cells.take off ++ v.cells ++ x.cells.drop (off + v.cells.length)))) e) hS ho hne
                  exact ⟨by rw [g1], g2⟩
                · cases h
            · cases h
          · cases h
        | _ => simp at h
  · cases h
theorem appendV_hole {t tx : TypeId} {s x y : V} {S' : Store} {c : Nat} (ob : Ob) (hS : S[id]? = some .hole) (h : appendV P S t tx s x = some (y, S', c)) : appendV P (S.set id ob) t tx s x = some (y, S'.set id ob, c) ∧ S'[id]? = some .hole := by
  unfold appendV at h ⊢
  split at h
  · rename_i e hu
    split at h
    · cases h
    · rename_i hsrc
      simp only [srcV_hole ob hS hsrc]
      split at h
      · simp only [Option.some.injEq, Prod.mk.injEq] at h; obtain ⟨rfl, rfl, rfl⟩ := h; exact ⟨rfl, hS⟩
      · simp only [Option.some.injEq, Prod.mk.injEq] at h; obtain ⟨rfl, rfl, rfl⟩ := h; exact ⟨rfl, hS⟩
      · simp only [Option.some.injEq, Prod.mk.injEq] at h; obtain ⟨rfl, rfl, rfl⟩ := h; exact ⟨rfl, hS⟩
      · cases h
    · rename_i y0 r hsrc
      simp only [srcV_hole ob hS hsrc, List.length_set]
      split at h
      · rename_i hz
        rw [if_pos hz]
        split at h
        · rename_i xs
          split at h
          · rename_i hc
            rw [if_pos hc]
            simp only [Option.some.injEq, Prod.mk.injEq] at h; obtain ⟨rfl, rfl, rfl⟩ := h
            obtain ⟨g1, g2⟩ := app_hole ob (.row (xs.map .d ++ y0 :: r) e) hS
            exact ⟨by rw [g1], g2⟩
          · cases h
        · rename_i j off len
          cases ho : S[j]? with
          | none => simp [ho] at h
          | some o =>
            by_cases hne : o = .hole
            · subst hne; simp [ho] at h
            · simp only [ho] at h; simp only [get_hole ob hS ho hne]
              cases o with
              | row xs e' =>
                simp only at h ⊢
                split at h
                · rename_i hc
                  rw [if_pos hc]
                  simp only [Option.some.injEq, Prod.mk.injEq] at h; obtain ⟨rfl, rfl, rfl⟩ := h
                  obtain ⟨g1, g2⟩ := set_hole ob .dead hS ho hne
                  obtain ⟨g3, g4⟩ := app_hole ob (.row (xs.take len ++ y0 :: r) e) g2
                  exact ⟨by rw [g1, g3], g4⟩
                · cases h
              | _ => simp at h
        · cases h
      · cases h
  · cases h
theorem copyV_hole {t tx : TypeId} {d x y : V} {S' : Store} (ob : Ob) (hS : S[id]? = some .hole) (h : copyV P S t tx d x = some (y, S')) : copyV P (S.set id ob) t tx d x = some (y, S'.set id ob) ∧ S'[id]? = some .hole := by
  unfold copyV at h ⊢
  split at h
  · rename_i e hu
    split at h
    · cases h
    · rename_i ys hsrc
      simp only [srcV_hole ob hS hsrc]
      split at h
      · rename_i j off len
        cases ho : S[j]? with
        | none => simp [ho] at h
        | some o =>
          by_cases hne : o = .hole
          · subst hne; simp [ho] at h
          · simp only [ho] at h; simp only [get_hole ob hS ho hne]
            cases o with
            | row xs e' =>
              simp only at h ⊢
              split at h
              · rename_i hc
                rw [if_pos hc]
                simp only [Option.some.injEq, Prod.mk.injEq] at h; obtain ⟨rfl, rfl⟩ := h
                obtain ⟨g1, g2⟩ := set_hole ob (.row (xs.take off ++ ys.take (min ys.length len) ++ xs.drop (off + min ys.length len)) e) hS ho hne
                exact ⟨by rw [g1], g2⟩
              · cases h
            | _ => simp at h
      · cases h
  · cases h
theorem makeSliceV_hole {t : TypeId} {l c y : V} {S' : Store} (ob : Ob) (hS : S[id]? = some .hole) (h : makeSliceV P S t l c = some (y, S')) : makeSliceV P (S.set id ob) t l c = some (y, S'.set id ob) ∧ S'[id]? = some .hole := by
  unfold makeSliceV at h ⊢
  split at h
  · rename_i e hu
    split at h
    · rename_i l' c' z hz
      split at h
      · rename_i hc
        split at h
        · rename_i hr
          simp only [Option.some.injEq, Prod.mk.injEq] at h; obtain ⟨rfl, rfl⟩ := h
          obtain ⟨g1, g2⟩ := app_hole ob (.row (List.replicate c'.toNat z) e) hS
          simp only [hz, if_pos hc, if_pos hr, List.length_set, g1]
          exact ⟨trivial, g2⟩
        · cases h
      · cases h
    · cases h
  · cases h
theorem convertV_hole {src dst : TypeId} {x y : V} {c : Nat} (ob : Ob) (hS : S[id]? = some .hole) (h : convertV P S src dst x = some (y, c)) : convertV P (S.set id ob) src dst x = some (y, c) := by
  have h0 := h
  unfold convertV at h
  split at h
  · simp only [Option.some.injEq, Prod.mk.injEq] at h
    obtain ⟨rfl, rfl⟩ := h
    rw [← h0]; unfold convertV; simp_all
  · simp only [Option.some.injEq, Prod.mk.injEq] at h
    obtain ⟨rfl, rfl⟩ := h
    rw [← h0]; unfold convertV; simp_all
  · split at h
    · split at h
      · simp only [Option.some.injEq, Prod.mk.injEq] at h
        obtain ⟨rfl, rfl⟩ := h
        rw [← h0]; unfold convertV; simp_all
      · cases h
    · cases h
  · split at h
    · split at h
      · cases h
      · split at h
        · rename_i ys hy
          have := elemsV_hole ob hS hy
          obtain ⟨s, hs, he⟩ := Option.map_eq_some_iff.1 h
          simp only [Prod.mk.injEq] at he
          obtain ⟨rfl, rfl⟩ := he
          rw [← h0]; unfold convertV; simp_all
        · cases h
    · cases h
  · cases h
theorem mapUpdateV_hole {t : TypeId} {x k v : V} {S' : Store} (ob : Ob) (hS : S[id]? = some .hole) (h : mapUpdateV P S t x k v = some S') : mapUpdateV P (S.set id ob) t x k v = some (S'.set id ob) ∧ S'[id]? = some .hole := by
  unfold mapUpdateV at h ⊢
  split at h
  · rename_i kt et hu
    split at h
    · rename_i hok
      rw [if_pos hok]
      split at h
      · rename_i j kd hkd
        cases ho : S[j]? with
        | none => simp [ho] at h
        | some o =>
          by_cases hne : o = .hole
          · subst hne; simp [ho] at h
          · simp only [ho] at h; simp only [get_hole ob hS ho hne]
            cases o with
            | mp es clock =>
              have fin : ∀ es' cl, some (S.set j (.mp es' cl)) = some S' → some ((S.set id ob).set j (.mp es' cl)) = some (S'.set id ob) ∧ S'[id]? = some .hole := fun es' cl he => by
                simp only [Option.some.injEq] at he; subst he
                obtain ⟨g1, g2⟩ := set_hole ob (.mp es' cl) hS ho hne
                exact ⟨by rw [g1], g2⟩
              simp only at h ⊢
              split at h
              · rename_i i u hf
                try simp only [hf]
                split at h
                · rename_i e he
                  try simp only [he]
                  split at h
                  · rename_i hs
                    rw [if_pos hs]
                    exact fin _ _ h
                  · cases h
                · cases h
              · rename_i hf
                try simp only [hf]
                exact fin _ _ h
              · cases h
            | _ => simp at h
      · cases h
    · cases h
  · cases h
theorem mapEntryV_hole {t : TypeId} {x k y : V} {S' : Store} (ob : Ob) (hS : S[id]? = some .hole) (h : mapEntryV P S t x k = some (y, S')) : mapEntryV P (S.set id ob) t x k = some (y, S'.set id ob) ∧ S'[id]? = some .hole := by
  unfold mapEntryV at h ⊢
  split at h
  · rename_i kt et hu
    split at h
    · rename_i hok
      rw [if_pos hok]
      split at h
      · rename_i j kd z hkd hz
        cases ho : S[j]? with
        | none => simp [ho] at h
        | some o =>
          by_cases hne : o = .hole
          · subst hne; simp [ho] at h
          · simp only [ho] at h; simp only [get_hole ob hS ho hne]
            cases o with
            | mp es clock =>
              have fin : ∀ es' cl v, some (v, S.set j (.mp es' cl)) = some (y, S') → some (v, (S.set id ob).set j (.mp es' cl)) = some (y, S'.set id ob) ∧ S'[id]? = some .hole := fun es' cl v he => by
                simp only [Option.some.injEq, Prod.mk.injEq] at he; obtain ⟨rfl, rfl⟩ := he
                obtain ⟨g1, g2⟩ := set_hole ob (.mp es' cl) hS ho hne
                exact ⟨by rw [g1], g2⟩
              simp only at h ⊢
              split at h
              · rename_i i u hf
                try simp only [hf]
                split at h
                · rename_i e he
                  try simp only [he]
                  split at h
                  · rename_i hs
                    rw [if_pos hs]
                    exact fin _ _ _ h
                  · cases h
                · cases h
              · rename_i hf
                try simp only [hf]
                exact fin _ _ _ h
              · cases h
            | _ => simp at h
      · cases h
    · cases h
  · cases h
theorem entryStoreV_hole {x st v : V} {S' : Store} (ob : Ob) (hS : S[id]? = some .hole) (h : entryStoreV S x st v = some S') : entryStoreV (S.set id ob) x st v = some (S'.set id ob) ∧ S'[id]? = some .hole := by
  unfold entryStoreV at h ⊢
  split at h
  · cases h
  · rename_i hone
    rw [if_neg hone]
    split at h
    · rename_i j kk n
      cases ho : S[j]? with
      | none => simp [ho] at h
      | some o =>
        by_cases hne : o = .hole
        · subst hne; simp [ho] at h
        · simp only [ho] at h; simp only [get_hole ob hS ho hne]
          cases o with
          | mp es clock =>
            simp only at h ⊢
            split at h
            · rename_i i hf
              try simp only [hf]
              split at h
              · rename_i e he
                try simp only [he]
                simp only [Option.some.injEq] at h; subst h
                obtain ⟨g1, g2⟩ := set_hole ob (.mp (es.set i (e.1, v, e.2.2)) clock) hS ho hne
                exact ⟨by rw [g1], g2⟩
              · cases h
            · cases h
          | _ => simp at h
    · cases h
theorem deleteV_hole {t : TypeId} {x k : V} {S' : Store} (ob : Ob) (hS : S[id]? = some .hole) (h : deleteV P S t x k = some S') : deleteV P (S.set id ob) t x k = some (S'.set id ob) ∧ S'[id]? = some .hole := by
  unfold deleteV at h ⊢
  split at h
  · rename_i kt et hu
    split at h
    · rename_i hok
      rw [if_pos hok]
      split at h
      · rename_i j
        cases ho : S[j]? with
        | none => simp [ho] at h
        | some o =>
          by_cases hne : o = .hole
          · subst hne; simp [ho] at h
          · simp only [ho] at h; simp only [get_hole ob hS ho hne]
            cases o with
            | mp es clock =>
              have fin : ∀ es' cl, some (S.set j (.mp es' cl)) = some S' → some ((S.set id ob).set j (.mp es' cl)) = some (S'.set id ob) ∧ S'[id]? = some .hole := fun es' cl he => by
                simp only [Option.some.injEq] at he; subst he
                obtain ⟨g1, g2⟩ := set_hole ob (.mp es' cl) hS ho hne
                exact ⟨by rw [g1], g2⟩
              simp only at h ⊢
              split at h
              · rename_i i u hf
                try simp only [hf]
                exact fin _ _ h
              · rename_i hf
                try simp only [hf]
                exact fin _ _ h
              · cases h
            | _ => simp at h
      · cases h
    · cases h
  · cases h
end
end Go.Vm
