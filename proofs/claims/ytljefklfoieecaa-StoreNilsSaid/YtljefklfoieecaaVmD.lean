/- The value machine: how the relation is kept: operands, new objects, objects that turn, objects that stay. -/
import Derived.Test.YtljefklfoieecaaVmC
set_option linter.unusedSimpArgs false
set_option linter.unusedVariables false
namespace Go.Vm
section
variable {P : Program} {S S' : Store} {ρ ρ' : Nat → Nat} {A A' : Nat → Prop} {w w' : World}

theorem isAgg_d (x : D) : (V.d x).isAgg = x.isAgg := rfl
theorem cells_nonagg {x : D} (h : x.isAgg = false) : x.cells = [x] := by cases x <;> simp_all [D.isAgg, D.cells]
theorem vcells_nonagg {x : V} (h : x.isAgg = false) : x.cells = [x] := by
  cases x <;> simp_all [V.isAgg, V.cells]
  rw [cells_nonagg h]
theorem repX_agg {xs : List D} {v : Value} : RepX A w (.agg xs) v ↔ ∃ us, v = .agg us ∧ RepL A w xs us.toList := by
  simp [RepX, D.isAgg, RepC]
theorem repX_leaf {x : D} (h : x.isAgg = false) {v : Value} : RepX A w x v ↔ RepC A w x [v] := by simp [RepX, h]
theorem repW_d {x : D} {v : Value} : RepW P S ρ A w (.d x) v ↔ RepX A w x v := by simp [RepW, RepX, V.isAgg, RepVC]
theorem repV_d {x : D} {v : Value} : RepV P S ρ A w (.d x) v ↔ RepX A w x v := by simp only [RepV]; exact repW_d
theorem repW_leaf {x : V} (h : x.isAgg = false) {v : Value} : RepW P S ρ A w x v ↔ RepVC P S ρ A w x [v] := by simp [RepW, h]
theorem repW_agg {xs : List V} {v : Value} : RepW P S ρ A w (.agg xs) v ↔ ∃ us, v = .agg us ∧ RepVL P S ρ A w xs us.toList := by
  simp [RepW, V.isAgg, RepVC]
theorem repV_one {x : V} (h : x.one = true) {v : Value} : RepV P S ρ A w x v ↔ RepW P S ρ A w x v := by
  cases x <;> simp_all [V.one, RepV]
theorem repV_of_repW {x : V} {v : Value} (h : RepW P S ρ A w x v) : RepV P S ρ A w x v := by
  cases x with
  | tup xs => simp [RepW, V.isAgg, RepVC] at h
  | junk => trivial
  | _ => exact h

/-- The value of one cell. -/
def leafV : Value → Bool | .agg _ => false | .tuple _ => false | _ => true
theorem repC_leaf {x : D} (h : x.isAgg = false) {v : Value} (hr : RepC A w x [v]) : leafV v = true := by
  cases x <;> simp only [D.isAgg, RepC, List.cons.injEq, and_true, Bool.true_eq_false] at h hr <;> try (subst hr; rfl)
  all_goals first | (obtain ⟨_, _, rfl, _⟩ := hr; rfl) | (obtain ⟨_, rfl, _⟩ := hr; rfl) | cases h
theorem repVC_leaf {x : V} (h : x.isAgg = false) {v : Value} (hr : RepVC P S ρ A w x [v]) : leafV v = true := by
  cases x with
  | d x => exact repC_leaf h (by simpa [RepVC] using hr)
  | agg xs => simp [V.isAgg] at h
  | tup xs => simp [RepVC] at hr
  | junk => simp [RepVC] at hr
  | _ => simp only [RepVC, List.cons.injEq, and_true] at hr; first | (obtain ⟨_, _, rfl, _⟩ := hr; rfl) | (obtain ⟨_, rfl, _⟩ := hr; rfl)

theorem repC_length : ∀ {x : D} {vs : List Value}, RepC A w x vs → vs.length = x.cells.length := by
  intro x vs h
  cases x with
  | agg xs =>
    simp only [RepC] at h
    simp only [D.cells]
    induction xs generalizing vs with
    | nil => simp only [RepL] at h; simp [h]
    | cons x r ih =>
      simp only [RepL] at h
      obtain ⟨v, us, rfl, _, _, h4⟩ := h
      simp [ih h4]
  | _ =>
    simp only [RepC] at h
    first
      | (obtain ⟨_, _, rfl, _⟩ := h; rfl)
      | (obtain ⟨_, rfl, _⟩ := h; rfl)
      | (subst h; rfl)
theorem repVC_length : ∀ {x : V} {vs : List Value}, RepVC P S ρ A w x vs → vs.length = x.cells.length := by
  intro x vs h
  cases x with
  | d x => simp only [RepVC] at h; simp [V.cells, repC_length h]
  | agg xs =>
    simp only [RepVC] at h
    simp only [V.cells]
    induction xs generalizing vs with
    | nil => simp only [RepVL] at h; simp [h]
    | cons x r ih =>
      simp only [RepVL] at h
      obtain ⟨v, us, rfl, _, _, h4⟩ := h
      simp [ih h4]
  | tup xs => simp [RepVC] at h
  | junk => simp [RepVC] at h
  | _ =>
    simp only [RepVC] at h
    first
      | (obtain ⟨_, _, rfl, _⟩ := h; rfl)
      | (obtain ⟨_, rfl, _⟩ := h; rfl)

/-- The cells of a value, one by one. -/
theorem repVC_cells {x : V} {vs : List Value} (h : RepVC P S ρ A w x vs) : RepVL P S ρ A w x.cells vs := by
  cases x with
  | agg xs => simpa only [RepVC, V.cells] using h
  | d x =>
    simp only [RepVC] at h
    simp only [V.cells]
    cases x with
    | agg xs =>
      simp only [RepC] at h
      simp only [D.cells]
      induction xs generalizing vs with
      | nil => simpa [RepVL, RepL] using h
      | cons x r ih =>
        simp only [RepL] at h
        obtain ⟨v, us, rfl, h2, h3, h4⟩ := h
        simp only [List.map_cons, RepVL]
        exact ⟨v, us, rfl, h2, by simpa [RepVC] using h3, ih h4⟩
    | _ =>
      have hl := repC_length h
      simp only [D.cells, List.length_cons, List.length_nil] at hl
      obtain ⟨v, rfl⟩ := List.length_eq_one_iff.1 hl
      simp only [D.cells, List.map_cons, List.map_nil, RepVL]
      exact ⟨v, [], rfl, rfl, by simpa [RepVC] using h, rfl⟩
  | tup xs => simp [RepVC] at h
  | junk => simp [RepVC] at h
  | _ =>
    have hl := repVC_length h
    simp only [V.cells, List.length_cons, List.length_nil] at hl
    obtain ⟨v, rfl⟩ := List.length_eq_one_iff.1 hl
    simp only [V.cells, RepVL]
    exact ⟨v, [], rfl, rfl, h, rfl⟩
theorem repC_cells {x : D} {vs : List Value} (h : RepC A w x vs) : RepL A w x.cells vs := by
  cases x with
  | agg xs => simpa only [RepC, D.cells] using h
  | _ =>
    have hl := repC_length h
    simp only [D.cells, List.length_cons, List.length_nil] at hl
    obtain ⟨v, rfl⟩ := List.length_eq_one_iff.1 hl
    simp only [D.cells, RepL]
    exact ⟨v, [], rfl, rfl, h, rfl⟩

theorem repL_length : ∀ {xs : List D} {vs : List Value}, RepL A w xs vs → vs.length = xs.length
  | [], _, h => by simp only [RepL] at h; simp [h]
  | x :: r, vs, h => by
    simp only [RepL] at h
    obtain ⟨v, us, rfl, _, _, h4⟩ := h
    simp [repL_length h4]
theorem repVL_length : ∀ {xs : List V} {vs : List Value}, RepVL P S ρ A w xs vs → vs.length = xs.length
  | [], _, h => by simp only [RepVL] at h; simp [h]
  | x :: r, vs, h => by
    simp only [RepVL] at h
    obtain ⟨v, us, rfl, _, _, h4⟩ := h
    simp [repVL_length h4]
theorem repVL_get : ∀ {xs : List V} {vs : List Value}, RepVL P S ρ A w xs vs → ∀ (i : Nat) (x : V), xs[i]? = some x → ∃ v, vs[i]? = some v ∧ x.isAgg = false ∧ RepVC P S ρ A w x [v]
  | [], _, _, i, x, hx => by simp at hx
  | y :: r, vs, h, i, x, hx => by
    simp only [RepVL] at h
    obtain ⟨v, us, rfl, h2, h3, h4⟩ := h
    cases i with
    | zero => simp at hx; subst hx; exact ⟨v, rfl, h2, h3⟩
    | succ i => simp at hx; simpa using repVL_get h4 i x hx
theorem repL_get : ∀ {xs : List D} {vs : List Value}, RepL A w xs vs → ∀ (i : Nat) (x : D), xs[i]? = some x → ∃ v, vs[i]? = some v ∧ x.isAgg = false ∧ RepC A w x [v]
  | [], _, _, i, x, hx => by simp at hx
  | y :: r, vs, h, i, x, hx => by
    simp only [RepL] at h
    obtain ⟨v, us, rfl, h2, h3, h4⟩ := h
    cases i with
    | zero => simp at hx; subst hx; exact ⟨v, rfl, h2, h3⟩
    | succ i => simp at hx; simpa using repL_get h4 i x hx
theorem repVL_drop : ∀ {xs : List V} {vs : List Value} (n : Nat), RepVL P S ρ A w xs vs → RepVL P S ρ A w (xs.drop n) (vs.drop n)
  | xs, vs, 0, h => h
  | [], _, n + 1, h => by simp only [RepVL] at h; simp [h, RepVL]
  | x :: r, vs, n + 1, h => by
    simp only [RepVL] at h
    obtain ⟨v, us, rfl, _, _, h4⟩ := h
    simpa using repVL_drop n h4
theorem repVL_take : ∀ {xs : List V} {vs : List Value} (n : Nat), RepVL P S ρ A w xs vs → RepVL P S ρ A w (xs.take n) (vs.take n)
  | xs, vs, 0, h => by simp [RepVL]
  | [], _, n + 1, h => by simp only [RepVL] at h; simp [h, RepVL]
  | x :: r, vs, n + 1, h => by
    simp only [RepVL] at h
    obtain ⟨v, us, rfl, h2, h3, h4⟩ := h
    simp only [List.take_succ_cons, RepVL]
    exact ⟨v, us.take n, rfl, h2, h3, repVL_take n h4⟩
theorem repVL_append : ∀ {xs ys : List V} {vs us : List Value}, RepVL P S ρ A w xs vs → RepVL P S ρ A w ys us → RepVL P S ρ A w (xs ++ ys) (vs ++ us)
  | [], ys, vs, us, h, h' => by simp only [RepVL] at h; simpa [h] using h'
  | x :: r, ys, vs, us, h, h' => by
    simp only [RepVL] at h
    obtain ⟨v, ws, rfl, h2, h3, h4⟩ := h
    simp only [List.cons_append, RepVL]
    exact ⟨v, ws ++ us, rfl, h2, h3, repVL_append h4 h'⟩
theorem repL_drop : ∀ {xs : List D} {vs : List Value} (n : Nat), RepL A w xs vs → RepL A w (xs.drop n) (vs.drop n)
  | xs, vs, 0, h => h
  | [], _, n + 1, h => by simp only [RepL] at h; simp [h, RepL]
  | x :: r, vs, n + 1, h => by
    simp only [RepL] at h
    obtain ⟨v, us, rfl, _, _, h4⟩ := h
    simpa using repL_drop n h4
theorem repL_take : ∀ {xs : List D} {vs : List Value} (n : Nat), RepL A w xs vs → RepL A w (xs.take n) (vs.take n)
  | xs, vs, 0, h => by simp [RepL]
  | [], _, n + 1, h => by simp only [RepL] at h; simp [h, RepL]
  | x :: r, vs, n + 1, h => by
    simp only [RepL] at h
    obtain ⟨v, us, rfl, h2, h3, h4⟩ := h
    simp only [List.take_succ_cons, RepL]
    exact ⟨v, us.take n, rfl, h2, h3, repL_take n h4⟩
theorem repL_of_map : ∀ {xs : List D} {vs : List Value}, RepL A w xs vs → RepVL P S ρ A w (xs.map .d) vs
  | [], _, h => by simpa [RepL, RepVL] using h
  | x :: r, vs, h => by
    simp only [RepL] at h
    obtain ⟨v, us, rfl, h2, h3, h4⟩ := h
    simp only [List.map_cons, RepVL]
    exact ⟨v, us, rfl, h2, by simpa [RepVC] using h3, repL_of_map h4⟩
theorem repVL_leaf {xs : List V} {vs : List Value} (h : RepVL P S ρ A w xs vs) : ∀ u ∈ vs, leafV u = true := by
  induction xs generalizing vs with
  | nil => simp only [RepVL] at h; simp [h]
  | cons x r ih =>
    simp only [RepVL] at h
    obtain ⟨v, us, rfl, h2, h3, h4⟩ := h
    intro u hu
    rcases List.mem_cons.1 hu with rfl | hu
    · exact repVC_leaf h2 h3
    · exact ih h4 u hu

/-- Elements. -/
theorem repVE_length {k : Nat} : ∀ {xs : List V} {vs : List Value}, RepVE P S ρ A w k xs vs → vs.length = xs.length * k
  | [], _, h => by simp only [RepVE] at h; simp [h]
  | x :: r, vs, h => by
    simp only [RepVE] at h
    obtain ⟨us, ws, rfl, h2, _, h4⟩ := h
    simp [repVE_length h4, h2, Nat.succ_mul, Nat.add_comm]
theorem repE_length {k : Nat} : ∀ {xs : List D} {vs : List Value}, RepE A w k xs vs → vs.length = xs.length * k
  | [], _, h => by simp only [RepE] at h; simp [h]
  | x :: r, vs, h => by
    simp only [RepE] at h
    obtain ⟨us, ws, rfl, h2, _, h4⟩ := h
    simp [repE_length h4, h2, Nat.succ_mul, Nat.add_comm]
theorem repVE_split {k : Nat} : ∀ {xs : List V} {vs : List Value} (n : Nat), n ≤ xs.length → RepVE P S ρ A w k xs vs → RepVE P S ρ A w k (xs.take n) (vs.take (n * k)) ∧ RepVE P S ρ A w k (xs.drop n) (vs.drop (n * k))
  | xs, vs, 0, _, h => by simp [RepVE]; exact h
  | [], _, n + 1, hn, h => by simp at hn
  | x :: r, vs, n + 1, hn, h => by
    simp only [RepVE] at h
    obtain ⟨us, ws, rfl, h2, h3, h4⟩ := h
    have ih := repVE_split n (by simpa using hn) h4
    have e : (n + 1) * k = us.length + n * k := by rw [h2, Nat.succ_mul]; omega
    constructor
    · simp only [List.take_succ_cons, RepVE]
      exact ⟨us, ws.take (n * k), by rw [e, List.take_length_add_append], h2, h3, ih.1⟩
    · simp only [List.drop_succ_cons]
      rw [e, List.drop_length_add_append]
      exact ih.2
theorem repE_split {k : Nat} : ∀ {xs : List D} {vs : List Value} (n : Nat), n ≤ xs.length → RepE A w k xs vs → RepE A w k (xs.take n) (vs.take (n * k)) ∧ RepE A w k (xs.drop n) (vs.drop (n * k))
  | xs, vs, 0, _, h => by simp [RepE]; exact h
  | [], _, n + 1, hn, h => by simp at hn
  | x :: r, vs, n + 1, hn, h => by
    simp only [RepE] at h
    obtain ⟨us, ws, rfl, h2, h3, h4⟩ := h
    have ih := repE_split n (by simpa using hn) h4
    have e : (n + 1) * k = us.length + n * k := by rw [h2, Nat.succ_mul]; omega
    constructor
    · simp only [List.take_succ_cons, RepE]
      exact ⟨us, ws.take (n * k), by rw [e, List.take_length_add_append], h2, h3, ih.1⟩
    · simp only [List.drop_succ_cons]
      rw [e, List.drop_length_add_append]
      exact ih.2
theorem repVE_append {k : Nat} : ∀ {xs ys : List V} {vs us : List Value}, RepVE P S ρ A w k xs vs → RepVE P S ρ A w k ys us → RepVE P S ρ A w k (xs ++ ys) (vs ++ us)
  | [], ys, vs, us, h, h' => by simp only [RepVE] at h; simpa [h] using h'
  | x :: r, ys, vs, us, h, h' => by
    simp only [RepVE] at h
    obtain ⟨v, ws, rfl, h2, h3, h4⟩ := h
    simp only [List.cons_append, RepVE, List.append_assoc]
    exact ⟨v, ws ++ us, rfl, h2, h3, repVE_append h4 h'⟩
theorem repVE_get {k : Nat} : ∀ {xs : List V} {vs : List Value}, RepVE P S ρ A w k xs vs → ∀ (i : Nat) (x : V), xs[i]? = some x → RepVC P S ρ A w x ((vs.drop (i * k)).take k) ∧ i * k + k ≤ vs.length
  | [], _, _, i, x, hx => by simp at hx
  | y :: r, vs, h, i, x, hx => by
    simp only [RepVE] at h
    obtain ⟨us, ws, rfl, h2, h3, h4⟩ := h
    cases i with
    | zero =>
      simp at hx; subst hx
      constructor
      · simpa [← h2] using h3
      · simp [h2]
    | succ i =>
      simp at hx
      have ih := repVE_get h4 i x hx
      have e : (i + 1) * k = us.length + i * k := by rw [h2, Nat.succ_mul]; omega
      constructor
      · rw [e, List.drop_length_add_append]; exact ih.1
      · rw [List.length_append, e]; have := ih.2; omega
theorem repE_get {k : Nat} : ∀ {xs : List D} {vs : List Value}, RepE A w k xs vs → ∀ (i : Nat) (x : D), xs[i]? = some x → RepC A w x ((vs.drop (i * k)).take k) ∧ i * k + k ≤ vs.length
  | [], _, _, i, x, hx => by simp at hx
  | y :: r, vs, h, i, x, hx => by
    simp only [RepE] at h
    obtain ⟨us, ws, rfl, h2, h3, h4⟩ := h
    cases i with
    | zero =>
      simp at hx; subst hx
      constructor
      · simpa [← h2] using h3
      · simp [h2]
    | succ i =>
      simp at hx
      have ih := repE_get h4 i x hx
      have e : (i + 1) * k = us.length + i * k := by rw [h2, Nat.succ_mul]; omega
      constructor
      · rw [e, List.drop_length_add_append]; exact ih.1
      · rw [List.length_append, e]; have := ih.2; omega
theorem repE_map {k : Nat} : ∀ {xs : List D} {vs : List Value}, RepE A w k xs vs → RepVE P S ρ A w k (xs.map .d) vs
  | [], _, h => by simpa [RepE, RepVE] using h
  | x :: r, vs, h => by
    simp only [RepE] at h
    obtain ⟨us, ws, rfl, h2, h3, h4⟩ := h
    simp only [List.map_cons, RepVE]
    exact ⟨us, ws, rfl, h2, by simpa [RepVC] using h3, repE_map h4⟩
/-- Cells are elements of one cell each. -/
theorem repVL_repVE : ∀ {xs : List V} {vs : List Value}, RepVL P S ρ A w xs vs → RepVE P S ρ A w 1 xs vs
  | [], _, h => by simpa [RepVL, RepVE] using h
  | x :: r, vs, h => by
    simp only [RepVL] at h
    obtain ⟨v, us, rfl, _, h3, h4⟩ := h
    simp only [RepVE]
    exact ⟨[v], us, rfl, rfl, h3, repVL_repVE h4⟩
theorem repL_repE : ∀ {xs : List D} {vs : List Value}, RepL A w xs vs → RepE A w 1 xs vs
  | [], _, h => by simpa [RepL, RepE] using h
  | x :: r, vs, h => by
    simp only [RepL] at h
    obtain ⟨v, us, rfl, _, h3, h4⟩ := h
    simp only [RepE]
    exact ⟨[v], us, rfl, rfl, h3, repL_repE h4⟩
theorem repVE_set {k : Nat} : ∀ {xs : List V} {vs : List Value}, RepVE P S ρ A w k xs vs → ∀ (i : Nat) (x : V) (us : List Value), i < xs.length → us.length = k → RepVC P S ρ A w x us → RepVE P S ρ A w k (xs.set i x) (vs.take (i * k) ++ us ++ vs.drop (i * k + k))
  | [], _, _, i, x, us, hi, _, _ => by simp at hi
  | y :: r, vs, h, i, x, us, hi, hl, hx => by
    simp only [RepVE] at h
    obtain ⟨vs1, ws, rfl, h2, h3, h4⟩ := h
    cases i with
    | zero =>
      simp only [List.set_cons_zero, RepVE, Nat.zero_mul, List.take_zero, List.nil_append, Nat.zero_add]
      exact ⟨us, ws, by rw [← h2, List.drop_left], hl, hx, h4⟩
    | succ i =>
      have ih := repVE_set h4 i x us (by simpa using hi) hl hx
      have e : (i + 1) * k = vs1.length + i * k := by rw [h2, Nat.succ_mul]; omega
      simp only [List.set_cons_succ, RepVE]
      refine ⟨vs1, _, ?_, h2, h3, ih⟩
      rw [e, List.take_length_add_append, show vs1.length + i * k + k = vs1.length + (i * k + k) by omega, List.drop_length_add_append]
      simp [List.append_assoc]

/-- Temporaries. -/
theorem repT_get : ∀ {T : List V} {us : List Value}, RepT P S ρ A w T us → ∀ (i : Nat) (x : V), T[i]? = some x → ∃ u, us[i]? = some u ∧ RepV P S ρ A w x u
  | [], _, _, i, x, hx => by simp at hx
  | y :: r, us, h, i, x, hx => by
    simp only [RepT] at h
    obtain ⟨v, ws, rfl, h2, h3⟩ := h
    cases i with
    | zero => simp at hx; subst hx; exact ⟨v, rfl, h2⟩
    | succ i => simp at hx; simpa using repT_get h3 i x hx
theorem repT_length : ∀ {T : List V} {us : List Value}, RepT P S ρ A w T us → us.length = T.length
  | [], _, h => by simp only [RepT] at h; simp [h]
  | y :: r, us, h => by
    simp only [RepT] at h
    obtain ⟨v, ws, rfl, h2, h3⟩ := h
    simp [repT_length h3]
theorem repT_set : ∀ {T : List V} {us : List Value}, RepT P S ρ A w T us → ∀ (i : Nat) (x : V) (u : Value), RepV P S ρ A w x u → RepT P S ρ A w (T.set i x) (us.set i u)
  | [], _, h, i, x, u, _ => by simp only [RepT] at h; simp [h, RepT]
  | y :: r, us, h, i, x, u, hx => by
    simp only [RepT] at h
    obtain ⟨v, ws, rfl, h2, h3⟩ := h
    cases i with
    | zero => simp only [List.set_cons_zero, RepT]; exact ⟨u, ws, rfl, hx, h3⟩
    | succ i => simp only [List.set_cons_succ, RepT]; exact ⟨v, _, rfl, h2, repT_set h3 i x u hx⟩
theorem repT_append : ∀ {T T' : List V} {us us' : List Value}, RepT P S ρ A w T us → RepT P S ρ A w T' us' → RepT P S ρ A w (T ++ T') (us ++ us')
  | [], T', us, us', h, h' => by simp only [RepT] at h; simpa [h] using h'
  | y :: r, T', us, us', h, h' => by
    simp only [RepT] at h
    obtain ⟨v, ws, rfl, h2, h3⟩ := h
    simp only [List.cons_append, RepT]
    exact ⟨v, ws ++ us', rfl, h2, repT_append h3 h'⟩
theorem repV_undef : RepV P S ρ A w (.tup []) undef := by
  simp only [RepV]; exact ⟨#[], rfl, by simp [RepWs]⟩
theorem repT_undef (n : Nat) : RepT P S ρ A w (List.replicate n (.tup [])) (List.replicate n undef) := by
  induction n with
  | zero => simp [RepT]
  | succ n ih => simp only [List.replicate_succ, RepT]; exact ⟨_, _, rfl, repV_undef, ih⟩
theorem repWs_length : ∀ {xs : List V} {us : List Value}, RepWs P S ρ A w xs us → us.length = xs.length
  | [], _, h => by simp only [RepWs] at h; simp [h]
  | y :: r, us, h => by
    simp only [RepWs] at h
    obtain ⟨v, ws, rfl, h2, h3⟩ := h
    simp [repWs_length h3]
theorem repWs_repT : ∀ {xs : List V} {us : List Value}, RepWs P S ρ A w xs us → RepT P S ρ A w xs us
  | [], _, h => by simpa [RepWs, RepT] using h
  | y :: r, us, h => by
    simp only [RepWs] at h
    obtain ⟨v, ws, rfl, h2, h3⟩ := h
    simp only [RepT]
    exact ⟨v, ws, rfl, repV_of_repW h2, repWs_repT h3⟩
theorem repWs_append : ∀ {T T' : List V} {us us' : List Value}, RepWs P S ρ A w T us → RepWs P S ρ A w T' us' → RepWs P S ρ A w (T ++ T') (us ++ us')
  | [], T', us, us', h, h' => by simp only [RepWs] at h; simpa [h] using h'
  | y :: r, T', us, us', h, h' => by
    simp only [RepWs] at h
    obtain ⟨v, ws, rfl, h2, h3⟩ := h
    simp only [List.cons_append, RepWs]
    exact ⟨v, ws ++ us', rfl, h2, repWs_append h3 h'⟩
theorem repVS_repWs : ∀ {xs : List V} {us : List Value}, RepVS P S ρ A w xs us ↔ RepWs P S ρ A w xs us
  | [], us => by simp [RepVS, RepWs]
  | x :: r, us => by
    simp only [RepVS, RepWs, RepW]
    constructor
    · rintro ⟨v, ws, rfl, h2, h3⟩; exact ⟨v, ws, rfl, h2, repVS_repWs.1 h3⟩
    · rintro ⟨v, ws, rfl, h2, h3⟩; exact ⟨v, ws, rfl, h2, repVS_repWs.2 h3⟩
theorem repS_repWs : ∀ {xs : List D} {us : List Value}, RepS A w xs us ↔ RepWs P S ρ A w (xs.map .d) us
  | [], us => by simp [RepS, RepWs]
  | x :: r, us => by
    simp only [RepS, RepWs, List.map_cons, repW_d, RepX]
    constructor
    · rintro ⟨v, ws, rfl, h2, h3⟩; exact ⟨v, ws, rfl, h2, repS_repWs.1 h3⟩
    · rintro ⟨v, ws, rfl, h2, h3⟩; exact ⟨v, ws, rfl, h2, repS_repWs.2 h3⟩

/-- Constants and zero values. -/
theorem ofLeaf_rep {v : Value} {x : V} (h : ofLeaf v = some x) : x.isAgg = false ∧ RepVC P S ρ A w x [v] := by
  unfold ofLeaf at h
  split at h <;> simp only [Option.some.injEq, reduceCtorEq] at h <;> subst h
  all_goals exact ⟨rfl, by simp [RepVC, RepC, strOf]⟩
theorem allO_ofLeaf : ∀ {cs : List Value} {xs : List V}, allO ofLeaf cs = some xs → RepVL P S ρ A w xs cs
  | [], xs, h => by simp only [allO, Option.some.injEq] at h; subst h; simp [RepVL]
  | c :: r, xs, h => by
    simp only [allO] at h
    cases h1 : ofLeaf c with
    | none => simp [h1] at h
    | some y =>
      cases h2 : allO ofLeaf r with
      | none => simp [h1, h2] at h
      | some ys =>
        simp only [h1, h2, Option.some.injEq] at h
        subst h
        simp only [RepVL]
        exact ⟨c, r, rfl, (ofLeaf_rep (P := P) (S := S) (ρ := ρ) (A := A) (w := w) h1).1, (ofLeaf_rep h1).2, allO_ofLeaf h2⟩
theorem ofVal_rep {v : Value} {x : V} (h : ofVal v = some x) : RepW P S ρ A w x v := by
  unfold ofVal at h
  split at h
  · rename_i cs
    cases h1 : allO ofLeaf cs.toList with
    | none => simp [h1] at h
    | some xs =>
      simp only [h1, Option.map_some, Option.some.injEq] at h
      subst h
      exact repW_agg.2 ⟨cs, rfl, allO_ofLeaf h1⟩
  · rename_i f a b
    split at h
    · rename_i hab
      simp only [Bool.and_eq_true, decide_eq_true_eq] at hab
      simp only [Option.some.injEq] at h
      subst h
      exact (repW_leaf rfl).2 (by simp only [RepVC]; exact ⟨_, _, rfl, by simp [RepVS, Array.size_eq_zero_iff.1 hab.1], by simp [RepVS, Array.size_eq_zero_iff.1 hab.2]⟩)
    · cases h
  · exact (repW_leaf (ofLeaf_rep (P := P) (S := S) (ρ := ρ) (A := A) (w := w) h).1).2 (ofLeaf_rep h).2
theorem evalO_rep {T : List V} {a : Act} (hT : RepT P S ρ A w T a.tmps.toList) (x : Operand) : RepV P S ρ A w (evalO T x) (a.eval x) := by
  cases x with
  | tmp t =>
    simp only [evalO, Act.eval]
    cases h : T[t]? with
    | none => simp [List.getD, h, RepV]
    | some y =>
      obtain ⟨u, h1, h2⟩ := repT_get hT t y h
      have : a.tmps.getD t undef = u := by
        have h1' : a.tmps[t]? = some u := by simpa using h1
        simp [Array.getD_eq_getD_getElem?, h1']
      simp only [List.getD, h, Option.getD_some, this]
      exact h2
  | const v =>
    simp only [evalO, Act.eval]
    cases h : ofVal v with
    | none => simp [RepV]
    | some y => exact repV_of_repW (ofVal_rep h)
  | global g => simp [evalO, RepV]
  | func f => exact repV_of_repW ((repW_leaf rfl).2 (by simp only [RepVC, Act.eval]; exact ⟨_, _, rfl, by simp [RepVS], by simp [RepVS]⟩))
end

section
variable {P : Program} {S : Store} {ρ : Nat → Nat} {A : Nat → Prop} {w : World}
theorem Step.refl : Step S ρ A w S ρ A w where
  os := rfl
  tape := rfl
  output := rfl
  size := Nat.le_refl _
  keep := fun _ _ _ => rfl
  keepA := fun _ _ => rfl
  amono := fun _ h => h
  anew := fun _ h => .inl h
  onew := fun _ h => .inl h
  sle := fun id o h _ => ⟨o, h, o.le_refl, .inr ⟨rfl, fun c e f hc => ⟨c, e, f, hc, rfl⟩⟩⟩
theorem Ob.le_trans {a b c : Ob} (h1 : a.le b) (h2 : b.le c) : a.le c := by
  cases a <;> cases b <;> cases c <;> simp_all [Ob.le]
theorem SLe.trans {S1 S2 S3 : Store} {ρ1 ρ2 ρ3 : Nat → Nat} {w1 w2 w3 : World} (h1 : SLe S1 ρ1 w1 S2 ρ2 w2) (h2 : SLe S2 ρ2 w2 S3 ρ3 w3) : SLe S1 ρ1 w1 S3 ρ3 w3 := by
  intro id o ho hne
  obtain ⟨o', ho', hle, hd⟩ := h1 id o ho hne
  obtain ⟨o'', ho'', hle', hd'⟩ := h2 id o' ho' (by rintro rfl; apply hne; cases o <;> simp_all [Ob.le])
  refine ⟨o'', ho'', Ob.le_trans hle hle', ?_⟩
  rcases hd' with rfl | ⟨hr', hc'⟩
  · exact .inl rfl
  · rcases hd with rfl | ⟨hr, hc⟩
    · left; cases o'' <;> simp_all [Ob.le]
    · right
      refine ⟨hr'.trans hr, fun c e f h => ?_⟩
      obtain ⟨c', e', f', h3, h4⟩ := hc c e f h
      obtain ⟨c'', e'', f'', h5, h6⟩ := hc' c' e' f' (by rw [hr]; exact h3)
      exact ⟨c'', e'', f'', by rw [hr] at h5; exact h5, h6.trans h4⟩
theorem Step.trans {S1 S2 S3 : Store} {ρ1 ρ2 ρ3 : Nat → Nat} {A1 A2 A3 : Nat → Prop} {w1 w2 w3 : World} (h1 : Step S1 ρ1 A1 w1 S2 ρ2 A2 w2) (h2 : Step S2 ρ2 A2 w2 S3 ρ3 A3 w3) : Step S1 ρ1 A1 w1 S3 ρ3 A3 w3 where
  os := h2.os.trans h1.os
  tape := h2.tape.trans h1.tape
  output := h2.output.trans h1.output
  size := Nat.le_trans h1.size h2.size
  keep := fun b hb ho => (h2.keep b (Nat.lt_of_lt_of_le hb h1.size) (fun h => (h1.onew b h).elim ho (fun h => by omega))).trans (h1.keep b hb ho)
  keepA := fun b hb => (h2.keepA b (h1.amono b hb)).trans (h1.keepA b hb)
  amono := fun b hb => h2.amono b (h1.amono b hb)
  anew := fun b hb => by
    rcases h2.anew b hb with h | h | h
    · exact h1.anew b h
    · exact .inr (h1.onew b h)
    · exact .inr (.inr (Nat.le_trans h1.size h))
  onew := fun b hb => by
    rcases h2.onew b hb with h | h
    · exact h1.onew b h
    · exact .inr (Nat.le_trans h1.size h)
  sle := h1.sle.trans h2.sle
end
end Go.Vm
