/- The value machine: quicker still: loads, stores, elements by a short way. -/
import Derived.Test.YtljefklfoieecaaVmMa
set_option linter.unusedSimpArgs false
set_option linter.unusedVariables false
noncomputable section
namespace Go.Vm
def nthL {α : Type} (xs : List α) : Nat → Option α := List.rec (fun _ => none) (fun x _ ih i => Nat.rec (some x) (fun j _ => ih j) i) xs
theorem nthL_eq {α : Type} : ∀ (xs : List α) (i : Nat), nthL xs i = xs[i]?
  | [], i => by simp [nthL]
  | x :: r, 0 => rfl
  | x :: r, i + 1 => by
    show nthL r i = _
    rw [List.getElem?_cons_succ]
    exact nthL_eq r i
def consO {α : Type} (x : α) : Option (List α) → Option (List α) | some r => some (x :: r) | none => none
/-- One element turned, as far as it goes worked out. -/
def setL {α : Type} (xs : List α) (v : α) : Nat → Option (List α) := List.rec (fun _ => none) (fun x r ih i => Nat.rec (some (v :: r)) (fun j _ => consO x (ih j)) i) xs
theorem setL_eq {α : Type} {v : α} : ∀ {xs : List α} {i : Nat} {ys : List α}, setL xs v i = some ys → i < xs.length ∧ ys = xs.take i ++ [v] ++ xs.drop (i + 1)
  | [], i, ys, h => by cases h
  | x :: r, 0, ys, h => by
    have h : some (v :: r) = some ys := h
    simp only [Option.some.injEq] at h; subst h; simp
  | x :: r, i + 1, ys, h => by
    have h : consO x (setL r v i) = some ys := h
    cases hr : setL r v i with
    | none => rw [hr] at h; cases h
    | some zs =>
      rw [hr] at h
      have h : some (x :: zs) = some ys := h
      simp only [Option.some.injEq] at h; subst h
      obtain ⟨h1, rfl⟩ := setL_eq hr
      simp [h1]
section
variable (P : Program) (S : Store)
def isAggV : V → Option (List V) | .agg cs => some cs | _ => none
def refOf : V → Option (Nat × Nat × Nat) | .ref i x o => some (i, x, o) | _ => none
def rowOf : Option Ob → Option (List V × TypeId) | some o => (match o with | .row xs e => some (xs, e) | _ => none) | none => none
def leafT1 (t : TypeId) : Bool := match aggT P t with | true => false | false => match sz P t with | some n => Nat.beq n 1 | none => false
def fastLoad3 (t : TypeId) (off : Nat) : Option (List V) → Option V
  | some cs => match leafT1 P t with | true => nthL cs off | false => none
  | none => none
def fastLoad2 (t : TypeId) (ix off : Nat) : Option (List V × TypeId) → Option V
  | some (xs, _) => match nthL xs ix with | some x => fastLoad3 P t off (isAggV x) | none => none
  | none => none
def fastLoad (t : TypeId) : Option (Nat × Nat × Nat) → Option V
  | some (id, ix, off) => fastLoad2 P t ix off (rowOf (nthL S id))
  | none => none
def loadK (t : TypeId) (a : V) : Option V := match fastLoad P S t (refOf a) with | some v => some v | none => loadV P S t a
def putCells (id ix : Nat) (xs : List V) (e : TypeId) : Option (List V) → Option Store
  | some cs => some (S.set id (.row (xs.set ix (.agg cs)) e))
  | none => none
def fastStore3 (t : TypeId) (id ix off : Nat) (v : V) (xs : List V) (e : TypeId) : Option (List V) → Option Store
  | some cs => match leafT1 P t with
    | true => match fitsT P t v with | true => putCells S id ix xs e (setL cs v off) | false => none
    | false => none
  | none => none
def fastStore2 (t : TypeId) (id ix off : Nat) (v : V) : Option (List V × TypeId) → Option Store
  | some (xs, e) => match nthL xs ix with | some x => fastStore3 P S t id ix off v xs e (isAggV x) | none => none
  | none => none
def fastStore (t : TypeId) (v : V) : Option (Nat × Nat × Nat) → Option Store
  | some (id, ix, off) => fastStore2 P S t id ix off v (rowOf (nthL S id))
  | none => none
def storeK (t : TypeId) (a v : V) : Option Store := match fastStore P S t v (refOf a) with | some S' => some S' | none => storeV P S t a v
def natOf : V → Option Nat
  | .d x => match x with | .int _ n => (match n with | .ofNat m => some m | _ => none) | _ => none
  | _ => none
def slOf : V → Option (List D)
  | .d x => match x with | .sl xs => some xs | _ => none
  | _ => none
def fastIdx1 (e : TypeId) (n : Nat) : Option (List D) → Option V
  | some xs => match nthL xs n with | some z => (match fitsD P e z with | true => some (.d (.ptr z)) | false => none) | none => none
  | none => none
def fastIdx2 (m k n : Nat) : Option (Nat × Nat × Nat) → Option V
  | some (id, jx, off) => match Nat.blt n m with | true => some (.ref id jx (off + n * k)) | false => none
  | none => none
def fastIdx (x : V) (n : Nat) : Option TypeDesc → Option V
  | some td => match td with
    | .slice e => fastIdx1 P e n (slOf x)
    | .array m e => match sz P e with | some k => fastIdx2 m k n (refOf x) | none => none
    | _ => none
  | none => none
def fastIdx0 (t : TypeId) (x : V) : Option Nat → Option V
  | some n => fastIdx P x n (P.underlying t)
  | none => none
def indexK (t : TypeId) (x ix : V) : Option V := match fastIdx0 P t x (natOf ix) with | some v => some v | none => indexAddrV P S t x ix
end
section
variable {P : Program} {S : Store}
theorem refOf_eq {a : V} {i x o : Nat} (h : refOf a = some (i, x, o)) : a = .ref i x o := by
  unfold refOf at h; split at h
  · simp only [Option.some.injEq, Prod.mk.injEq] at h; obtain ⟨rfl, rfl, rfl⟩ := h; rfl
  · cases h
theorem rowOf_eq {o : Option Ob} {xs : List V} {e : TypeId} (h : rowOf o = some (xs, e)) : o = some (.row xs e) := by
  unfold rowOf at h; split at h
  · split at h
    · simp only [Option.some.injEq, Prod.mk.injEq] at h; obtain ⟨rfl, rfl⟩ := h; rfl
    · cases h
  · cases h
theorem isAggV_eq {x : V} {cs : List V} (h : isAggV x = some cs) : x = .agg cs := by
  unfold isAggV at h; split at h
  · simp only [Option.some.injEq] at h; subst h; rfl
  · cases h
theorem leafT1_eq {t : TypeId} (h : leafT1 P t = true) : aggT P t = false ∧ sz P t = some 1 := by
  unfold leafT1 at h
  split at h
  · cases h
  · rename_i ha
    split at h
    · rename_i n hn
      have : n = 1 := Nat.eq_of_beq_eq_true h
      subst this
      exact ⟨ha, hn⟩
    · cases h
theorem loadK_eq {t : TypeId} {a : V} : loadK P S t a = loadV P S t a := by
  unfold loadK
  split
  · rename_i v h
    cases hr : refOf a with
    | none => rw [hr] at h; cases h
    | some q =>
      obtain ⟨id, ix, off⟩ := q
      rw [hr] at h
      have := refOf_eq hr
      subst this
      simp only [fastLoad] at h
      cases hrow : rowOf (nthL S id) with
      | none => rw [hrow] at h; cases h
      | some q =>
        obtain ⟨xs, e⟩ := q
        rw [hrow] at h
        have h1 := rowOf_eq hrow
        rw [nthL_eq] at h1
        simp only [fastLoad2] at h
        split at h
        · rename_i x hx
          rw [nthL_eq] at hx
          cases hg : isAggV x with
          | none => rw [hg] at h; cases h
          | some cs =>
            rw [hg] at h
            have := isAggV_eq hg
            subst this
            simp only [fastLoad3] at h
            split at h
            · rename_i hl
              obtain ⟨l1, l2⟩ := leafT1_eq hl
              rw [nthL_eq] at h
              have hf : fitsT P t (.agg cs) = false := by simp [fitsT, V.isAgg, l1]
              have hlt : off < cs.length := by
                rcases Nat.lt_or_ge off cs.length with h' | h'
                · exact h'
                · rw [List.getElem?_eq_none h'] at h; cases h
              have hle : off + 1 ≤ cs.length := hlt
              simp only [loadV, h1, hx, hf, Bool.and_false, Bool.false_eq_true, if_false, partV, l2, l1, V.cells, hle, if_true]
              exact h.symm
            · cases h
        · cases h
  · rfl
theorem storeK_eq {t : TypeId} {a v : V} : storeK P S t a v = storeV P S t a v := by
  unfold storeK
  split
  · rename_i S' h
    cases hr : refOf a with
    | none => rw [hr] at h; cases h
    | some q =>
      obtain ⟨id, ix, off⟩ := q
      rw [hr] at h
      have := refOf_eq hr
      subst this
      simp only [fastStore] at h
      cases hrow : rowOf (nthL S id) with
      | none => rw [hrow] at h; cases h
      | some q =>
        obtain ⟨xs, e⟩ := q
        rw [hrow] at h
        have h1 := rowOf_eq hrow
        rw [nthL_eq] at h1
        simp only [fastStore2] at h
        split at h
        · rename_i x hx
          rw [nthL_eq] at hx
          cases hg : isAggV x with
          | none => rw [hg] at h; cases h
          | some cs =>
            rw [hg] at h
            have := isAggV_eq hg
            subst this
            simp only [fastStore3] at h
            split at h
            · rename_i hl
              obtain ⟨l1, l2⟩ := leafT1_eq hl
              split at h
              · rename_i hf
                cases hs : setL cs v off with
                | none => rw [hs] at h; cases h
                | some ys =>
                  rw [hs] at h
                  obtain ⟨g1, rfl⟩ := setL_eq hs
                  have hfa := hf
                  simp only [fitsT, l1, l2, Bool.and_eq_true, beq_iff_eq, Option.some.injEq] at hfa
                  obtain ⟨⟨f1, f2⟩, f3⟩ := hfa
                  have hvc : v.cells = [v] := by
                    cases v with
                    | d y => cases y <;> first | rfl | (simp [V.isAgg, D.isAgg] at f2)
                    | agg ys => simp [V.isAgg] at f2
                    | _ => rfl
                  have hle : off + 1 ≤ cs.length := g1
                  simp only [storeV, h1, hx, hf, if_true, hvc]
                  have hno : (V.agg cs).isAgg = true := rfl
                  simp only [hno, f2, V.cells, List.length_singleton, Bool.and_false, Bool.false_eq_true, if_false]
                  have h : some (S.set id (.row (xs.set ix (.agg (cs.take off ++ [v] ++ cs.drop (off + 1)))) e)) = some S' := h
                  rw [← h]
                  simp [hle]
              · cases h
            · cases h
        · cases h
  · rfl
theorem natOf_eq {v : V} {n : Nat} (h : natOf v = some n) : intOf? v = some (n : Int) := by
  unfold natOf at h
  split at h
  · split at h
    · split at h
      · simp only [Option.some.injEq] at h; subst h; rfl
      · cases h
    · cases h
  · cases h
theorem indexK_eq {t : TypeId} {x ix : V} : indexK P S t x ix = indexAddrV P S t x ix := by
  unfold indexK
  split
  · rename_i v h
    cases hn : natOf ix with
    | none => rw [hn] at h; cases h
    | some n =>
      rw [hn] at h
      have hi := natOf_eq hn
      simp only [fastIdx0] at h
      cases hu : P.underlying t with
      | none => rw [hu] at h; cases h
      | some td =>
        rw [hu] at h
        have h0 : (0 : Int) ≤ n := by omega
        cases td <;> simp only [fastIdx] at h <;> try (cases h; done)
        · -- a slice, or an array, as the forms stand
          rename_i a
          first
          | (cases hs : slOf x with
            | none => rw [hs] at h; cases h
            | some xs =>
              rw [hs] at h
              have hx : x = .d (.sl xs) := by
                unfold slOf at hs
                split at hs
                · split at hs
                  · simp only [Option.some.injEq] at hs; subst hs; rfl
                  · cases hs
                · cases hs
              subst hx
              simp only [fastIdx1] at h
              split at h
              · rename_i z hz
                rw [nthL_eq] at hz
                split at h
                · rename_i hf
                  simp only [Option.some.injEq] at h; subst h
                  have hlt : n < xs.length := by
                    rcases Nat.lt_or_ge n xs.length with h' | h'
                    · exact h'
                    · rw [List.getElem?_eq_none h'] at hz; cases hz
                  have h2 : (n : Int) < xs.length := by omega
                  simp only [indexAddrV, hi, hu, h0, h2, and_self, if_true, Int.toNat_natCast, hz, hf]
                · cases h
              · cases h)
        · rename_i m e
          cases hk : sz P e with
          | none => simp [hk] at h
          | some k =>
            simp only [hk] at h
            cases hr : refOf x with
            | none => rw [hr] at h; cases h
            | some q =>
              obtain ⟨id, jx, off⟩ := q
              rw [hr] at h
              have := refOf_eq hr
              subst this
              simp only [fastIdx2] at h
              split at h
              · rename_i hb
                simp only [Option.some.injEq] at h; subst h
                have hlt : n < m := by simp [Nat.blt] at hb; omega
                have h2 : (n : Int) < m := by omega
                simp only [indexAddrV, hi, hu, hk, h0, h2, and_self, if_true, Int.toNat_natCast]
              · cases h
  · rfl
end
end Go.Vm
