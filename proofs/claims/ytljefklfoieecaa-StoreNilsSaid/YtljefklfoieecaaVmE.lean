/- The value machine: the invariant, kept as the store turns. -/
import Derived.Test.YtljefklfoieecaaVmD
set_option linter.unusedSimpArgs false
set_option linter.unusedVariables false
namespace Go.Vm
section
variable {P : Program} {S S' : Store} {ρ ρ' : Nat → Nat} {A A' : Nat → Prop} {w w' : World}

theorem Inv.notOwned (h : Inv P S ρ A w) {b : Nat} (hb : A b) : ¬ Owned S ρ b := by
  rintro ⟨id, o, h1, h2, h3⟩
  exact h.own id o h1 h2 (h3 ▸ hb)
theorem lt_of_heap {b : Nat} {x : Obj} (hx : w.heap[b]? = some x) : b < w.heap.size := by
  rcases Nat.lt_or_ge b w.heap.size with h' | h'
  · exact h'
  · simp [Array.getElem?_eq_none h'] at hx
theorem ObOk.lt {b : Nat} {o : Ob} (h : ObOk P S ρ A w b o) (hl : o ≠ .dead) (hl2 : o ≠ .hole) : b < w.heap.size := by
  cases o <;> simp only [ObOk] at h
  · obtain ⟨k, c, us, rest, _, h1, _⟩ := h; exact lt_of_heap h1
  · obtain ⟨en, h1, _⟩ := h; exact lt_of_heap h1
  · exact lt_of_heap h
  · obtain ⟨k, c, f, us, rest, _, _, h1, _⟩ := h; exact lt_of_heap h1
  · obtain ⟨en, cl, _, h1, _⟩ := h; exact lt_of_heap h1
  · exact absurd rfl hl
  · exact absurd rfl hl2
theorem ObOk.mono (hA : ∀ b, A b → A' b) (hw : ∀ b, A b → w'.heap[b]? = w.heap[b]?) (hs : SLe S ρ w S' ρ' w') {b : Nat} {o : Ob} (hb : o.live = true → w'.heap[b]? = w.heap[b]?)
    (h : ObOk P S ρ A w b o) : ObOk P S' ρ' A' w' b o := by
  cases o with
  | row xs e =>
    simp only [ObOk] at h ⊢
    obtain ⟨k, c, us, rest, h1, h2, h3, h4⟩ := h
    exact ⟨k, c, us, rest, h1, (hb rfl).trans h2, h3, repVE_mono hA hw hs k xs us h4⟩
  | mp es clock =>
    simp only [ObOk] at h ⊢
    obtain ⟨en, h1, h2, h3⟩ := h
    exact ⟨en, (hb rfl).trans h1, repVM_mono hA hw hs es _ h2, h3⟩
  | iter s pos =>
    simp only [ObOk] at h ⊢
    exact (hb rfl).trans h
  | fz xs e =>
    simp only [ObOk] at h ⊢
    obtain ⟨k, c, f, us, rest, h1, h2, h3, h4, h5⟩ := h
    exact ⟨k, c, f, us, rest, h1, hA _ h2, (hw _ h2).trans h3, h4, repE_mono hA hw k xs us h5⟩
  | fm es =>
    simp only [ObOk] at h ⊢
    obtain ⟨en, clock, h1, h2, h3⟩ := h
    exact ⟨en, clock, hA _ h1, (hw _ h1).trans h2, repM_mono hA hw es _ h3⟩
  | dead => trivial
  | hole => trivial
theorem ObOk.compat {b : Nat} {o : Ob} (h : o ≠ .dead → w'.heap[b]? = w.heap[b]?) : o = .dead ∨ (ρ b = ρ b ∧ ∀ c e f, w.heap[b]? = some (.cells c e f) → ∃ c' e' f', w'.heap[b]? = some (.cells c' e' f') ∧ c'.size = c.size) := by
  by_cases ho : o = .dead
  · exact .inl ho
  · exact .inr ⟨rfl, fun c e f hc => ⟨c, e, f, (h ho).trans hc, rfl⟩⟩

/-- The world has more blocks, or has drawn. -/
theorem Inv.world (h : Inv P S ρ A w) (hsz : w.heap.size ≤ w'.heap.size) (hold : ∀ b, b < w.heap.size → w'.heap[b]? = w.heap[b]?) (h1 : w'.os = w.os) (h2 : w'.tape = w.tape) (h3 : w'.output = w.output) :
    Inv P S ρ A w' ∧ Step S ρ A w S ρ A w' := by
  have hs : SLe S ρ w S ρ w' := fun id o ho _ => ⟨o, ho, o.le_refl, by
    by_cases hd : o = .dead
    · exact .inl hd
    · exact .inr ⟨rfl, fun c e f hc => ⟨c, e, f, (hold _ (lt_of_heap hc)).trans hc, rfl⟩⟩⟩
  have hA : ∀ b, A b → w'.heap[b]? = w.heap[b]? := fun b hb => hold b (h.lt b hb)
  refine ⟨⟨fun id o ho => ?_, h.inj, h.own, fun b hb => Nat.lt_of_lt_of_le (h.lt b hb) hsz⟩, ⟨h1, h2, h3, hsz, fun b hb _ => hold b hb, hA, fun _ h => h, fun _ h => .inl h, fun _ h => .inl h, hs⟩⟩
  exact (h.ok id o ho).mono (fun _ h => h) hA hs (fun hl => hold _ ((h.ok id o ho).lt (by rintro rfl; cases hl) (by rintro rfl; cases hl)))

/-- A new object in a new block, the world's last one. -/
theorem Inv.push (h : Inv P S ρ A w) {o : Ob} (hl : o.live = true) (hsz : w'.heap.size = w.heap.size + 1) (hold : ∀ b, b < w.heap.size → w'.heap[b]? = w.heap[b]?) (h1 : w'.os = w.os) (h2 : w'.tape = w.tape) (h3 : w'.output = w.output)
    (hok : SLe S ρ w (S ++ [o]) (fun i => if i = S.length then w.heap.size else ρ i) w' → (∀ b, A b → w'.heap[b]? = w.heap[b]?) → ObOk P (S ++ [o]) (fun i => if i = S.length then w.heap.size else ρ i) A w' w.heap.size o) :
    Inv P (S ++ [o]) (fun i => if i = S.length then w.heap.size else ρ i) A w' ∧ Step S ρ A w (S ++ [o]) (fun i => if i = S.length then w.heap.size else ρ i) A w' := by
  have lt_of : ∀ {id : Nat} {x : Ob}, S[id]? = some x → id < S.length := fun {id x} hx => by
    rcases Nat.lt_or_ge id S.length with h' | h'
    · exact h'
    · simp [List.getElem?_eq_none h'] at hx
  have hs : SLe S ρ w (S ++ [o]) (fun i => if i = S.length then w.heap.size else ρ i) w' := fun id x hx hnh => by
    have hid := lt_of hx
    refine ⟨x, by rw [List.getElem?_append_left hid]; exact hx, x.le_refl, ?_⟩
    by_cases hd : x = .dead
    · exact .inl hd
    · exact .inr ⟨by simp [Nat.ne_of_lt hid], fun c e f hc => ⟨c, e, f, (hold _ (lt_of_heap hc)).trans hc, rfl⟩⟩
  have hA : ∀ b, A b → w'.heap[b]? = w.heap[b]? := fun b hb => hold b (h.lt b hb)
  have split : ∀ id x, (S ++ [o])[id]? = some x → (id < S.length ∧ S[id]? = some x) ∨ (id = S.length ∧ x = o) := by
    intro id x hx
    rcases Nat.lt_trichotomy id S.length with h' | h' | h'
    · rw [List.getElem?_append_left h'] at hx; exact .inl ⟨h', hx⟩
    · subst h'; simp at hx; exact .inr ⟨rfl, hx.symm⟩
    · rw [List.getElem?_eq_none (by simp; omega)] at hx; cases hx
  have hlt : ∀ id x, S[id]? = some x → x.live = true → ρ id < w.heap.size := fun id x hx hxl => (h.ok id x hx).lt (by rintro rfl; cases hxl) (by rintro rfl; cases hxl)
  refine ⟨⟨fun id x hx => ?_, fun i j x y hx hy hxl hyl hij => ?_, fun i x hx hxl => ?_, fun b hb => by have := h.lt b hb; omega⟩, ⟨h1, h2, h3, by omega, fun b hb _ => hold b hb, hA, fun _ h => h, fun _ h => .inl h, fun b hb => ?_, hs⟩⟩
  · rcases split id x hx with ⟨h', hx'⟩ | ⟨rfl, rfl⟩
    · simp only [if_neg (Nat.ne_of_lt h')]
      exact (h.ok id x hx').mono (fun _ h => h) hA hs (fun hl => hold _ ((h.ok id x hx').lt (by rintro rfl; cases hl) (by rintro rfl; cases hl)))
    · simp only [if_true]
      exact hok hs hA
  · rcases split i x hx with ⟨hi, hx'⟩ | ⟨rfl, rfl⟩ <;> rcases split j y hy with ⟨hj, hy'⟩ | ⟨rfl, rfl⟩
    · simp only [if_neg (Nat.ne_of_lt hi), if_neg (Nat.ne_of_lt hj)] at hij
      exact h.inj i j x y hx' hy' hxl hyl hij
    · simp only [if_neg (Nat.ne_of_lt hi), if_true] at hij
      have := hlt i x hx' hxl; omega
    · simp only [if_neg (Nat.ne_of_lt hj), if_true] at hij
      have := hlt j y hy' hyl; omega
    · rfl
  · rcases split i x hx with ⟨hi, hx'⟩ | ⟨rfl, rfl⟩
    · simp only [if_neg (Nat.ne_of_lt hi)]
      exact h.own i x hx' hxl
    · simp only [if_true]
      intro hb
      have := h.lt _ hb; omega
  · obtain ⟨id, x, hx, hxl, rfl⟩ := hb
    rcases split id x hx with ⟨hi, hx'⟩ | ⟨rfl, rfl⟩
    · simp only [if_neg (Nat.ne_of_lt hi)]
      exact .inl ⟨id, x, hx', hxl, rfl⟩
    · simp only [if_true]
      exact .inr (Nat.le_refl _)

theorem set_split {id : Nat} {o' : Ob} {i : Nat} {x : Ob} (hx : (S.set id o')[i]? = some x) : (i = id ∧ x = o' ∧ id < S.length) ∨ (i ≠ id ∧ S[i]? = some x) := by
  rw [List.getElem?_set] at hx
  by_cases hi : id = i
  · subst hi
    simp only [if_true] at hx
    split at hx
    · rename_i hlt
      simp only [Option.some.injEq] at hx
      exact .inl ⟨rfl, hx.symm, hlt⟩
    · cases hx
  · rw [if_neg hi] at hx
    exact .inr ⟨fun h => hi h.symm, hx⟩

/-- An object turns in its place. -/
theorem Inv.turn (h : Inv P S ρ A w) {id : Nat} {o o' : Ob} (hS : S[id]? = some o) (hl : o.live = true) (hle : o.le o') (hsz : w'.heap.size = w.heap.size) (hold : ∀ b, b ≠ ρ id → w'.heap[b]? = w.heap[b]?)
    (hc : o' = .dead ∨ ∀ c e f, w.heap[ρ id]? = some (.cells c e f) → ∃ c' e' f', w'.heap[ρ id]? = some (.cells c' e' f') ∧ c'.size = c.size) (h1 : w'.os = w.os) (h2 : w'.tape = w.tape) (h3 : w'.output = w.output) (hl' : o'.live = true ∨ o' = .dead)
    (hok : SLe S ρ w (S.set id o') ρ w' → (∀ b, A b → w'.heap[b]? = w.heap[b]?) → ObOk P (S.set id o') ρ A w' (ρ id) o') :
    Inv P (S.set id o') ρ A w' ∧ Step S ρ A w (S.set id o') ρ A w' := by
  have hid : id < S.length := by
    rcases Nat.lt_or_ge id S.length with h' | h'
    · exact h'
    · simp [List.getElem?_eq_none h'] at hS
  have hne : ∀ j x, S[j]? = some x → x.live = true → j ≠ id → ρ j ≠ ρ id := fun j x hx hxl hj he => hj (h.inj j id x o hx hS hxl hl he)
  have hA : ∀ b, A b → w'.heap[b]? = w.heap[b]? := fun b hb => hold b (fun he => h.own id o hS hl (he ▸ hb))
  have hs : SLe S ρ w (S.set id o') ρ w' := fun j x hx hnh => by
    by_cases hj : j = id
    · subst hj
      rw [hS] at hx
      cases hx
      refine ⟨o', by rw [List.getElem?_set_self hid], hle, ?_⟩
      rcases hc with hc | hc
      · exact .inl hc
      · exact .inr ⟨rfl, hc⟩
    · refine ⟨x, by rw [List.getElem?_set_ne (fun h => hj h.symm)]; exact hx, x.le_refl, ?_⟩
      by_cases hd : x = .dead
      · exact .inl hd
      · refine .inr ⟨rfl, fun c e f hcc => ?_⟩
        have : ρ j ≠ ρ id := by
          by_cases hxl : x.live = true
          · exact hne j x hx hxl hj
          · intro he
            have hok' := h.ok j x hx
            have hAj : A (ρ j) := by
              cases x <;> simp only [Ob.live, not_true_eq_false] at hxl
              · simp only [ObOk] at hok'; obtain ⟨_, _, _, _, _, _, h', _⟩ := hok'; exact h'
              · simp only [ObOk] at hok'; obtain ⟨_, _, h', _⟩ := hok'; exact h'
              · exact absurd rfl hd
              · exact absurd rfl hnh
            exact h.own id o hS hl (he ▸ hAj)
        exact ⟨c, e, f, (hold _ this).trans hcc, rfl⟩
  refine ⟨⟨fun j x hx => ?_, fun i j x y hx hy hxl hyl hij => ?_, fun i x hx hxl => ?_, fun b hb => by have := h.lt b hb; omega⟩, ⟨h1, h2, h3, by omega, fun b hb hb' => hold b (fun he => hb' ⟨id, o, hS, hl, he.symm⟩), hA, fun _ h => h, fun _ h => .inl h, fun b hb => ?_, hs⟩⟩
  · rcases set_split hx with ⟨rfl, rfl, _⟩ | ⟨hj, hx'⟩
    · exact hok hs hA
    · exact (h.ok j x hx').mono (fun _ h => h) hA hs (fun hxl => hold _ (hne j x hx' hxl hj))
  · rcases set_split hx with ⟨rfl, rfl, _⟩ | ⟨hi, hx'⟩ <;> rcases set_split hy with ⟨rfl, rfl, _⟩ | ⟨hj, hy'⟩
    · rfl
    · exact absurd hij.symm (hne j y hy' hyl hj)
    · exact absurd hij (hne i x hx' hxl hi)
    · exact h.inj i j x y hx' hy' hxl hyl hij
  · rcases set_split hx with ⟨rfl, rfl, _⟩ | ⟨hi, hx'⟩
    · exact h.own i o hS hl
    · exact h.own i x hx' hxl
  · obtain ⟨j, x, hx, hxl, rfl⟩ := hb
    rcases set_split hx with ⟨rfl, rfl, _⟩ | ⟨hj, hx'⟩
    · exact .inl ⟨j, o, hS, hl, rfl⟩
    · exact .inl ⟨j, x, hx', hxl, rfl⟩

/-- An object dies, and another one takes its block. -/
theorem Inv.move (h : Inv P S ρ A w) {id : Nat} {o o' : Ob} (hS : S[id]? = some o) (hl : o.live = true) (hsz : w'.heap.size = w.heap.size) (hold : ∀ b, b ≠ ρ id → w'.heap[b]? = w.heap[b]?)
    (h1 : w'.os = w.os) (h2 : w'.tape = w.tape) (h3 : w'.output = w.output) (hl' : o'.live = true)
    (hok : SLe S ρ w (S.set id .dead ++ [o']) (fun i => if i = S.length then ρ id else ρ i) w' → (∀ b, A b → w'.heap[b]? = w.heap[b]?) → ObOk P (S.set id .dead ++ [o']) (fun i => if i = S.length then ρ id else ρ i) A w' (ρ id) o') :
    Inv P (S.set id .dead ++ [o']) (fun i => if i = S.length then ρ id else ρ i) A w' ∧ Step S ρ A w (S.set id .dead ++ [o']) (fun i => if i = S.length then ρ id else ρ i) A w' := by
  have lt_of : ∀ {id : Nat} {x : Ob}, S[id]? = some x → id < S.length := fun {id x} hx => by
    rcases Nat.lt_or_ge id S.length with h' | h'
    · exact h'
    · simp [List.getElem?_eq_none h'] at hx
  have hid := lt_of hS
  have hne : ∀ j x, S[j]? = some x → x.live = true → j ≠ id → ρ j ≠ ρ id := fun j x hx hxl hj he => hj (h.inj j id x o hx hS hxl hl he)
  have hA : ∀ b, A b → w'.heap[b]? = w.heap[b]? := fun b hb => hold b (fun he => h.own id o hS hl (he ▸ hb))
  have split : ∀ i x, (S.set id .dead ++ [o'])[i]? = some x → (i = S.length ∧ x = o') ∨ (i = id ∧ x = .dead) ∨ (i ≠ id ∧ i < S.length ∧ S[i]? = some x) := by
    intro i x hx
    rcases Nat.lt_trichotomy i S.length with h' | h' | h'
    · rw [List.getElem?_append_left (by simpa using h')] at hx
      rcases set_split hx with ⟨rfl, rfl, _⟩ | ⟨hj, hx'⟩
      · exact .inr (.inl ⟨rfl, rfl⟩)
      · exact .inr (.inr ⟨hj, h', hx'⟩)
    · subst h'
      rw [List.getElem?_append_right (by simp)] at hx
      simp at hx
      exact .inl ⟨rfl, hx.symm⟩
    · rw [List.getElem?_eq_none (by simp; omega)] at hx; cases hx
  have hs : SLe S ρ w (S.set id .dead ++ [o']) (fun i => if i = S.length then ρ id else ρ i) w' := fun j x hx hnh => by
    have hj' := lt_of hx
    by_cases hj : j = id
    · subst hj
      exact ⟨.dead, by rw [List.getElem?_append_left (by simpa using hj'), List.getElem?_set_self hj'], by cases x <;> simp [Ob.le], .inl rfl⟩
    · refine ⟨x, by rw [List.getElem?_append_left (by simpa using hj'), List.getElem?_set_ne (fun h => hj h.symm)]; exact hx, x.le_refl, ?_⟩
      by_cases hd : x = .dead
      · exact .inl hd
      · refine .inr ⟨by simp [Nat.ne_of_lt hj'], fun c e f hcc => ?_⟩
        have : ρ j ≠ ρ id := by
          by_cases hxl : x.live = true
          · exact hne j x hx hxl hj
          · intro he
            have hok' := h.ok j x hx
            have hAj : A (ρ j) := by
              cases x <;> simp only [Ob.live, not_true_eq_false] at hxl
              · simp only [ObOk] at hok'; obtain ⟨_, _, _, _, _, _, h', _⟩ := hok'; exact h'
              · simp only [ObOk] at hok'; obtain ⟨_, _, h', _⟩ := hok'; exact h'
              · exact absurd rfl hd
              · exact absurd rfl hnh
            exact h.own id o hS hl (he ▸ hAj)
        exact ⟨c, e, f, (hold _ this).trans hcc, rfl⟩
  refine ⟨⟨fun j x hx => ?_, fun i j x y hx hy hxl hyl hij => ?_, fun i x hx hxl => ?_, fun b hb => by have := h.lt b hb; omega⟩, ⟨h1, h2, h3, by omega, fun b hb hb' => hold b (fun he => hb' ⟨id, o, hS, hl, he.symm⟩), hA, fun _ h => h, fun _ h => .inl h, fun b hb => ?_, hs⟩⟩
  · rcases split j x hx with ⟨rfl, rfl⟩ | ⟨rfl, rfl⟩ | ⟨hj, hj', hx'⟩
    · simp only [if_true]; exact hok hs hA
    · trivial
    · simp only [if_neg (Nat.ne_of_lt hj')]
      exact (h.ok j x hx').mono (fun _ h => h) hA hs (fun hxl => hold _ (hne j x hx' hxl hj))
  · rcases split i x hx with ⟨rfl, rfl⟩ | ⟨rfl, rfl⟩ | ⟨hi, hi', hx'⟩ <;> rcases split j y hy with ⟨rfl, rfl⟩ | ⟨rfl, rfl⟩ | ⟨hj, hj', hy'⟩
    · rfl
    · cases hyl
    · simp only [if_true, if_neg (Nat.ne_of_lt hj')] at hij
      exact absurd hij.symm (hne j y hy' hyl hj)
    · cases hxl
    · cases hxl
    · cases hxl
    · simp only [if_true, if_neg (Nat.ne_of_lt hi')] at hij
      exact absurd hij (hne i x hx' hxl hi)
    · cases hyl
    · simp only [if_neg (Nat.ne_of_lt hi'), if_neg (Nat.ne_of_lt hj')] at hij
      exact h.inj i j x y hx' hy' hxl hyl hij
  · rcases split i x hx with ⟨rfl, rfl⟩ | ⟨rfl, rfl⟩ | ⟨hi, hi', hx'⟩
    · simp only [if_true]; exact h.own id o hS hl
    · cases hxl
    · simp only [if_neg (Nat.ne_of_lt hi')]; exact h.own i x hx' hxl
  · obtain ⟨j, x, hx, hxl, rfl⟩ := hb
    rcases split j x hx with ⟨rfl, rfl⟩ | ⟨rfl, rfl⟩ | ⟨hj, hj', hx'⟩
    · simp only [if_true]; exact .inl ⟨id, o, hS, hl, rfl⟩
    · cases hxl
    · simp only [if_neg (Nat.ne_of_lt hj')]; exact .inl ⟨j, x, hx', hxl, rfl⟩
end
end Go.Vm
