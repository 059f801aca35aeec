/- The value machine: what an operation looks at, and which operations may be swapped. Plain facts about the machine itself. -/
import Derived.Test.YtljefklfoieecaaVmU
set_option linter.unusedVariables false
set_option linter.unusedSimpArgs false
namespace Go.Vm

theorem get_app {S : Store} {id : Nat} {o : Ob} (ob : Ob) (h : S[id]? = some o) : (S ++ [ob])[id]? = some o := by
  have : id < S.length := by
    rcases Nat.lt_or_ge id S.length with h' | h'
    · exact h'
    · simp [List.getElem?_eq_none h'] at h
  rw [List.getElem?_append_left this]; exact h
section
variable {P : Program} {S : Store}

theorem loadV_app {t : TypeId} {x y : V} (ob : Ob) (h : loadV P S t x = some y) : loadV P (S ++ [ob]) t x = some y := by
  unfold loadV at h ⊢
  split at h
  · rename_i id ix off
    cases ho : S[id]? with
    | none => simp [ho] at h
    | some o => simp only [ho] at h; simp only [get_app ob ho]; exact h
  · exact h
  · cases h
theorem elemsV_app {x : V} {y : List V} (ob : Ob) (h : elemsV S x = some y) : elemsV (S ++ [ob]) x = some y := by
  unfold elemsV at h ⊢
  split at h
  · exact h
  · exact h
  · rename_i id off len
    cases ho : S[id]? with
    | none => simp [ho] at h
    | some o => simp only [ho] at h; simp only [get_app ob ho]; exact h
  · rename_i id ix off len
    cases ho : S[id]? with
    | none => simp [ho] at h
    | some o => simp only [ho] at h; simp only [get_app ob ho]; exact h
  · exact h
  · cases h
theorem entriesV_app {x : V} {y : List (D × V)} (ob : Ob) (h : entriesV S x = some y) : entriesV (S ++ [ob]) x = some y := by
  unfold entriesV at h ⊢
  split at h
  · exact h
  · exact h
  · rename_i id
    cases ho : S[id]? with
    | none => simp [ho] at h
    | some o => simp only [ho] at h; simp only [get_app ob ho]; exact h
  · cases h
theorem lookupV_app {t : TypeId} {x k y : V} {ok : Bool} (ob : Ob) (h : lookupV P S t x k ok = some y) : lookupV P (S ++ [ob]) t x k ok = some y := by
  unfold lookupV at h ⊢
  split at h
  · split at h
    · rename_i hk
      rw [if_pos hk]
      cases he : entriesV S x with
      | none => simp [he] at h
      | some es => simp only [he] at h; simp only [entriesV_app ob he]; exact h
    · cases h
  · cases h
theorem rowT_app {id : Nat} {e : TypeId} (ob : Ob) (h : rowT S id e = true) : rowT (S ++ [ob]) id e = true := by
  unfold rowT at h ⊢
  cases ho : S[id]? with
  | none => simp [ho] at h
  | some o => simp only [ho] at h; simp only [get_app ob ho]; exact h
theorem rowB_app {id : Nat} (ob : Ob) (h : rowB S id = true) : rowB (S ++ [ob]) id = true := by
  unfold rowB at h ⊢
  cases ho : S[id]? with
  | none => simp [ho] at h
  | some o => simp only [ho] at h; simp only [get_app ob ho]; exact h
theorem indexAddrV_app {t : TypeId} {x ix y : V} (ob : Ob) (h : indexAddrV P S t x ix = some y) : indexAddrV P (S ++ [ob]) t x ix = some y := by
  unfold indexAddrV at h ⊢
  split at h
  · cases h
  · rename_i i hi
    split at h
    · rename_i e hu
      split at h
      · split at h
        · rename_i hc
          have hc' := hc
          rw [if_pos ⟨hc.1, rowT_app ob hc.2.1, hc.2.2⟩]; exact h
        · cases h
      · split at h
        · rename_i hc
          rw [if_pos ⟨hc.1, rowB_app ob hc.2.1, hc.2.2⟩]; exact h
        · cases h
      · exact h
      · exact h
      · cases h
    · exact h
    · cases h
theorem sliceArrV_app {n : Nat} {e : TypeId} {x y : V} {lo hi : Option V} (ob : Ob) (h : sliceArrV P S n e x lo hi = some y) : sliceArrV P (S ++ [ob]) n e x lo hi = some y := by
  unfold sliceArrV at h ⊢
  split at h
  · rename_i hc
    rw [if_pos hc]
    cases h1 : boundV n hi n with
    | none => simp [h1] at h
    | some hh =>
      simp only [h1] at h ⊢
      cases h2 : boundV hh lo 0 with
      | none => simp [h2] at h
      | some l =>
        simp only [h2] at h ⊢
        split at h
        · rename_i id ix off
          cases ho : S[id]? with
          | none => simp [ho] at h
          | some o => simp only [ho] at h; simp only [get_app ob ho]; exact h
        · exact h
        · cases h
  · cases h
theorem sliceV_app {t : TypeId} {x y : V} {lo hi : Option V} (ob : Ob) (h : sliceV P S t x lo hi = some y) : sliceV P (S ++ [ob]) t x lo hi = some y := by
  unfold sliceV at h ⊢
  split at h
  · exact h
  · rename_i e hu
    split at h
    · exact h
    · exact h
    · rename_i id off len
      cases h1 : boundV len hi len with
      | none => simp [h1] at h
      | some hh =>
        simp only [h1] at h ⊢
        cases h2 : boundV hh lo 0 with
        | none => simp [h2] at h
        | some l =>
          simp only [h2] at h ⊢
          split at h
          · rename_i hc
            simp only [Bool.and_eq_true] at hc
            rw [if_pos (by simp [rowT_app ob hc.1, hc.2])]; exact h
          · cases h
    · cases h
  · split at h
    · exact sliceArrV_app ob h
    · cases h
  · exact sliceArrV_app ob h
  · cases h
theorem srcV_app {e tx : TypeId} {x : V} {ys : List V} (ob : Ob) (h : srcV P S e tx x = some ys) : srcV P (S ++ [ob]) e tx x = some ys := by
  unfold srcV at h ⊢
  split at h
  · exact h
  · rename_i x' hne
    split at h
    · split at h
      · rename_i ys' hy
        rw [elemsV_app ob hy]
        simpa using h
      · cases h
    · cases h

/-- What an operation's number tells. -/
def ClsOk (f : Store → Option Rs) (S : Store) : Prop :=
  (∀ v S', f S = some (.val v S' 0) → S' = S ∧ ∀ S2, f S2 = some (.val v S2 0)) ∧
  (∀ v S', f S = some (.val v S' 1) → S' = S ∧ ∀ ob, f (S ++ [ob]) = some (.val v (S ++ [ob]) 1)) ∧
  (∀ v S', f S = some (.val v S' 2) → ∃ ob, S' = S ++ [ob]) ∧
  (∀ S' c, f S = some (.skip S' c) → c = 3) ∧
  (∀ g as, f S = some (.enter g as) → ∀ S2, f S2 = some (.enter g as))
theorem clsOk_none (f : Store → Option Rs) (h : f S = none) : ClsOk f S := by
  refine ⟨?_, ?_, ?_, ?_, ?_⟩ <;> intros <;> simp_all
theorem clsOk_map0 {f : Store → Option V} (h : ∀ S1 S2, f S1 = f S2) : ClsOk (fun S => (f S).map fun v => .val v S 0) S := by
  refine ⟨fun v S' hv => ?_, fun v S' hv => ?_, fun v S' hv => ?_, fun S' c hv => ?_, fun g as hv => ?_⟩
  · obtain ⟨y, hy, he⟩ := Option.map_eq_some_iff.1 hv
    simp only [Rs.val.injEq, and_true] at he
    obtain ⟨rfl, rfl⟩ := he
    exact ⟨rfl, fun S2 => by simp [h S2 S, hy]⟩
  all_goals (obtain ⟨y, hy, he⟩ := Option.map_eq_some_iff.1 hv; simp at he)
theorem clsOk_map1 {f : Store → Option V} (h : ∀ ob v, f S = some v → f (S ++ [ob]) = some v) : ClsOk (fun S => (f S).map fun v => .val v S 1) S := by
  refine ⟨fun v S' hv => ?_, fun v S' hv => ?_, fun v S' hv => ?_, fun S' c hv => ?_, fun g as hv => ?_⟩
  · obtain ⟨y, hy, he⟩ := Option.map_eq_some_iff.1 hv; simp at he
  · obtain ⟨y, hy, he⟩ := Option.map_eq_some_iff.1 hv
    simp only [Rs.val.injEq, and_true] at he
    obtain ⟨rfl, rfl⟩ := he
    exact ⟨rfl, fun ob => by simp [h ob _ hy]⟩
  all_goals (obtain ⟨y, hy, he⟩ := Option.map_eq_some_iff.1 hv; simp at he)
theorem clsOk_skip3 {f : Store → Option Store} : ClsOk (fun S => (f S).map fun S' => .skip S' 3) S := by
  refine ⟨fun v S' hv => ?_, fun v S' hv => ?_, fun v S' hv => ?_, fun S' c hv => ?_, fun g as hv => ?_⟩
  all_goals (obtain ⟨y, hy, he⟩ := Option.map_eq_some_iff.1 hv; simp_all)
theorem clsOk_val3 {f : Store → Option (V × Store)} : ClsOk (fun S => (f S).map fun r => .val r.1 r.2 3) S := by
  refine ⟨fun v S' hv => ?_, fun v S' hv => ?_, fun v S' hv => ?_, fun S' c hv => ?_, fun g as hv => ?_⟩
  all_goals (obtain ⟨y, hy, he⟩ := Option.map_eq_some_iff.1 hv; simp_all)
theorem clsOk_const {r : Option Rs} (h : ∀ v S' c, r ≠ some (.val v S' c)) (h2 : ∀ S' c, r ≠ some (.skip S' c)) : ClsOk (fun _ => r) S := by
  refine ⟨fun v S' hv => absurd hv (h _ _ _), fun v S' hv => absurd hv (h _ _ _), fun v S' hv => absurd hv (h _ _ _), fun S' c hv => absurd hv (h2 _ _), fun g as hv _ => hv⟩
theorem clsOk_0 {v : V} : ClsOk (fun S => some (.val v S 0)) S := by
  refine ⟨fun v S' hv => ?_, fun v S' hv => ?_, fun v S' hv => ?_, fun S' c hv => ?_, fun g as hv => ?_⟩ <;> simp_all
theorem clsOk_2 {f : Store → V} {ob : Ob} : ClsOk (fun S => some (.val (f S) (S ++ [ob]) 2)) S := by
  refine ⟨fun v S' hv => ?_, fun v S' hv => ?_, fun v S' hv => ?_, fun S' c hv => ?_, fun g as hv => ?_⟩
  all_goals simp at hv
  exact ⟨ob, hv.2.symm⟩
theorem clsOk_1 {v : V} : ClsOk (fun S => some (.val v S 1)) S := by
  refine ⟨fun v S' hv => ?_, fun v S' hv => ?_, fun v S' hv => ?_, fun S' c hv => ?_, fun g as hv => ?_⟩ <;> simp_all

theorem convertV_app {src dst : TypeId} {x y : V} {c : Nat} (h : convertV P S src dst x = some (y, c)) : (c = 0 ∧ ∀ S2, convertV P S2 src dst x = some (y, 0)) ∨ (c = 1 ∧ ∀ ob, convertV P (S ++ [ob]) src dst x = some (y, 1)) := by
  have h0 := h
  unfold convertV at h
  split at h
  · simp only [Option.some.injEq, Prod.mk.injEq] at h
    obtain ⟨rfl, rfl⟩ := h
    refine .inl ⟨rfl, fun S2 => ?_⟩
    rw [← h0]; unfold convertV; simp_all
  · simp only [Option.some.injEq, Prod.mk.injEq] at h
    obtain ⟨rfl, rfl⟩ := h
    refine .inl ⟨rfl, fun S2 => ?_⟩
    rw [← h0]; unfold convertV; simp_all
  · split at h
    · split at h
      · simp only [Option.some.injEq, Prod.mk.injEq] at h
        obtain ⟨rfl, rfl⟩ := h
        refine .inl ⟨rfl, fun S2 => ?_⟩
        rw [← h0]; unfold convertV; simp_all
      · cases h
    · cases h
  · split at h
    · split at h
      · cases h
      · rename_i x' hns
        split at h
        · rename_i ys hy
          obtain ⟨s, hs, he⟩ := Option.map_eq_some_iff.1 h
          simp only [Prod.mk.injEq] at he
          obtain ⟨rfl, rfl⟩ := he
          refine .inr ⟨rfl, fun ob => ?_⟩
          have := elemsV_app ob hy
          rw [← h0]; unfold convertV; simp_all
        · cases h
    · cases h
  · cases h

theorem appendV_app {t tx : TypeId} {s x y : V} {S' : Store} {c : Nat} (h : appendV P S t tx s x = some (y, S', c)) : (c = 1 ∧ S' = S ∧ ∀ ob, appendV P (S ++ [ob]) t tx s x = some (y, S ++ [ob], 1)) ∨ (c = 2 ∧ ∃ ob, S' = S ++ [ob]) ∨ c = 3 := by
  have h0 := h
  unfold appendV at h
  split at h
  · rename_i e hu
    split at h
    · cases h
    · rename_i hsrc
      have ha := fun ob => srcV_app ob hsrc
      split at h
      · simp only [Option.some.injEq, Prod.mk.injEq] at h
        obtain ⟨rfl, rfl, rfl⟩ := h
        exact .inl ⟨rfl, rfl, fun ob => by unfold appendV; simp [hu, ha ob]⟩
      · simp only [Option.some.injEq, Prod.mk.injEq] at h
        obtain ⟨rfl, rfl, rfl⟩ := h
        exact .inl ⟨rfl, rfl, fun ob => by unfold appendV; simp [hu, ha ob]⟩
      · simp only [Option.some.injEq, Prod.mk.injEq] at h
        obtain ⟨rfl, rfl, rfl⟩ := h
        exact .inl ⟨rfl, rfl, fun ob => by unfold appendV; simp [hu, ha ob]⟩
      · cases h
    · split at h
      · split at h
        · split at h
          · simp only [Option.some.injEq, Prod.mk.injEq] at h
            obtain ⟨rfl, rfl, rfl⟩ := h
            exact .inr (.inl ⟨rfl, _, rfl⟩)
          · cases h
        · split at h
          · split at h
            · simp only [Option.some.injEq, Prod.mk.injEq] at h
              obtain ⟨rfl, rfl, rfl⟩ := h
              exact .inr (.inr rfl)
            · cases h
          · cases h
        · cases h
      · cases h
  · cases h
theorem makeSliceV_app {t : TypeId} {l c y : V} {S' : Store} (h : makeSliceV P S t l c = some (y, S')) : ∃ ob, S' = S ++ [ob] := by
  unfold makeSliceV at h
  split at h
  · split at h
    · split at h
      · split at h
        · simp only [Option.some.injEq, Prod.mk.injEq] at h
          obtain ⟨rfl, rfl⟩ := h
          exact ⟨_, rfl⟩
        · cases h
      · cases h
    · cases h
  · cases h

theorem builtinV_cls (b : Builtin) (ts : List TypeId) (xs : List V) : ClsOk (fun S => builtinV P S b ts xs) S := by
  unfold builtinV
  split
  · rename_i t ts' x
    cases hu : P.underlying t with
    | none => exact clsOk_none _ rfl
    | some td =>
      cases td <;> simp only <;> first | exact clsOk_none _ rfl | exact clsOk_0 | skip
      · split <;> first | exact clsOk_none _ rfl | exact clsOk_0
      · split <;> first | exact clsOk_none _ rfl | exact clsOk_0
      · cases he : entriesV S x with
        | none => exact clsOk_none _ (by simp [he])
        | some es =>
          refine ⟨fun v S' hv => by simp [he] at hv, fun v S' hv => ?_, fun v S' hv => by simp [he] at hv, fun S' c hv => by simp [he] at hv, fun g as hv => by simp [he] at hv⟩
          simp only [he, Option.some.injEq, Rs.val.injEq, and_true] at hv
          obtain ⟨rfl, rfl⟩ := hv
          exact ⟨rfl, fun ob => by simp [entriesV_app ob he]⟩
  · rename_i t tx s x
    refine ⟨fun v S' hv => ?_, fun v S' hv => ?_, fun v S' hv => ?_, fun S' c hv => ?_, fun g as hv => ?_⟩ <;> obtain ⟨⟨y, S1, c1⟩, hy, he⟩ := Option.map_eq_some_iff.1 hv <;> simp only [Rs.val.injEq, reduceCtorEq] at he
    · obtain ⟨rfl, rfl, rfl⟩ := he
      rcases appendV_app hy with ⟨h, _⟩ | ⟨h, _⟩ | h <;> omega
    · obtain ⟨rfl, rfl, rfl⟩ := he
      rcases appendV_app hy with ⟨_, h1, h2⟩ | ⟨h, _⟩ | h
      · exact ⟨h1, fun ob => by simp [h2 ob]⟩
      · omega
      · omega
    · obtain ⟨rfl, rfl, rfl⟩ := he
      rcases appendV_app hy with ⟨h, _⟩ | ⟨_, h⟩ | h
      · omega
      · exact h
      · omega
  · exact clsOk_val3
  · rename_i t ts' m k
    refine ⟨fun v S' hv => ?_, fun v S' hv => ?_, fun v S' hv => ?_, fun S' c hv => ?_, fun g as hv => ?_⟩ <;> obtain ⟨y, hy, he⟩ := Option.map_eq_some_iff.1 hv <;> simp at he
  · exact clsOk_map0 (fun _ _ => rfl)
  · exact clsOk_map0 (fun _ _ => rfl)
  · exact clsOk_none _ rfl

theorem opV_cls (T : List V) (o : Oper) : ClsOk (fun S => opV P S T o) S := by
  unfold opV
  split
  · exact clsOk_0
  · exact clsOk_0
  · split <;> first | exact clsOk_0 | exact clsOk_none _ rfl
  · split
    · split
      · exact clsOk_2
      · exact clsOk_none _ rfl
    · exact clsOk_none _ rfl
  · split
    · exact clsOk_2
    · exact clsOk_none _ rfl
  · exact clsOk_map0 (fun _ _ => rfl)
  · split
    · split
      · split
        · split
          · exact clsOk_0
          · exact clsOk_2
        · exact clsOk_none _ rfl
      · exact clsOk_none _ rfl
    · exact clsOk_none _ rfl
  · exact clsOk_map1 (fun ob v h => loadV_app ob h)
  · exact clsOk_skip3
  · split <;> first | exact clsOk_0 | exact clsOk_none _ rfl
  · exact clsOk_map0 (fun _ _ => rfl)
  · exact clsOk_map0 (fun _ _ => rfl)
  · rename_i src dst x hop
    refine ⟨fun v S' hv => ?_, fun v S' hv => ?_, fun v S' hv => ?_, fun S' c hv => ?_, fun g as hv => ?_⟩ <;> obtain ⟨⟨y, c1⟩, hy, he⟩ := Option.map_eq_some_iff.1 hv <;> simp only [Rs.val.injEq, reduceCtorEq] at he
    · obtain ⟨rfl, rfl, rfl⟩ := he
      rcases convertV_app hy with ⟨_, h⟩ | ⟨h, _⟩
      · exact ⟨rfl, fun S2 => by simp [h S2]⟩
      · omega
    · obtain ⟨rfl, rfl, rfl⟩ := he
      rcases convertV_app hy with ⟨h, _⟩ | ⟨_, h⟩
      · omega
      · exact ⟨rfl, fun ob => by simp [h ob]⟩
    · obtain ⟨rfl, rfl, rfl⟩ := he
      rcases convertV_app hy with ⟨h, _⟩ | ⟨h, _⟩ <;> omega
  · split
    · exact clsOk_none _ rfl
    · split
      · exact clsOk_0
      · exact clsOk_none _ rfl
    · exact clsOk_none _ rfl
  · split
    · exact clsOk_0
    · exact clsOk_none _ rfl
  · split
    · exact clsOk_2
    · exact clsOk_none _ rfl
  · refine ⟨fun v S' hv => ?_, fun v S' hv => ?_, fun v S' hv => ?_, fun S' c hv => ?_, fun g as hv => ?_⟩ <;> obtain ⟨⟨y, S1⟩, hy, he⟩ := Option.map_eq_some_iff.1 hv <;> simp at he
    obtain ⟨rfl, rfl⟩ := he
    exact makeSliceV_app hy
  · exact clsOk_map1 (fun ob v h => sliceV_app ob h)
  · exact clsOk_map0 (fun _ _ => rfl)
  · exact clsOk_map1 (fun ob v h => indexAddrV_app ob h)
  · exact clsOk_map0 (fun _ _ => rfl)
  · exact clsOk_map0 (fun _ _ => rfl)
  · exact clsOk_map1 (fun ob v h => lookupV_app ob h)
  · exact clsOk_skip3
  · exact clsOk_val3
  · exact clsOk_skip3
  · split
    · split
      · exact clsOk_2
      · exact clsOk_none _ rfl
    · exact clsOk_none _ rfl
  · split
    · rename_i id hit
      refine ⟨fun v S' hv => ?_, fun v S' hv => ?_, fun v S' hv => ?_, fun S' c hv => ?_, fun g as hv => ?_⟩
      all_goals
        cases ho : S[id]? with
        | none => simp [ho] at hv
        | some ob => cases ob <;> simp only [ho, reduceCtorEq] at hv <;> (split at hv <;> simp at hv)
    · exact clsOk_none _ rfl
  · split
    · split
      · exact clsOk_0
      · exact clsOk_none _ rfl
    · exact clsOk_none _ rfl
  · split
    · exact builtinV_cls _ _ _
    · split
      · split
        · exact clsOk_const (by simp) (by simp)
        · exact clsOk_none _ rfl
      · split
        · exact clsOk_const (by simp) (by simp)
        · exact clsOk_none _ rfl
      · exact clsOk_none _ rfl
    · exact clsOk_none _ rfl
  · split
    · split
      · split
        · exact clsOk_const (by simp) (by simp)
        · exact clsOk_none _ rfl
      · exact clsOk_none _ rfl
    · exact clsOk_none _ rfl
  · split <;> first | exact clsOk_const (by simp) (by simp) | exact clsOk_none _ rfl
  · exact clsOk_none _ rfl
end
end Go.Vm
