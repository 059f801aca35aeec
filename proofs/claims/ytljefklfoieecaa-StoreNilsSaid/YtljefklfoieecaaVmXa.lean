/- The value machine: holes in the store, and how they are filled. -/
import Derived.Test.YtljefklfoieecaaVmW
set_option linter.unusedVariables false
set_option linter.unusedSimpArgs false
namespace Go.Vm
section
variable {P : Program} {S : Store} {ρ : Nat → Nat} {A : Nat → Prop} {w w' : World}

/-- A hole takes a new object in a new block. -/
theorem Inv.fill (h : Inv P S ρ A w) {id : Nat} {o : Ob} (hS : S[id]? = some .hole) (hl : o.live = true) (hsz : w'.heap.size = w.heap.size + 1) (hold : ∀ b, b < w.heap.size → w'.heap[b]? = w.heap[b]?) (h1 : w'.os = w.os) (h2 : w'.tape = w.tape) (h3 : w'.output = w.output)
    (hok : SLe S ρ w (S.set id o) (fun i => if i = id then w.heap.size else ρ i) w' → (∀ b, A b → w'.heap[b]? = w.heap[b]?) → ObOk P (S.set id o) (fun i => if i = id then w.heap.size else ρ i) A w' w.heap.size o) :
    Inv P (S.set id o) (fun i => if i = id then w.heap.size else ρ i) A w' ∧ Step S ρ A w (S.set id o) (fun i => if i = id then w.heap.size else ρ i) A w' := by
  have hid := lt_of_get hS
  have hA : ∀ b, A b → w'.heap[b]? = w.heap[b]? := fun b hb => hold b (h.lt b hb)
  have hs : SLe S ρ w (S.set id o) (fun i => if i = id then w.heap.size else ρ i) w' := fun j x hx hne => by
    have hj : id ≠ j := by rintro rfl; rw [hS] at hx; cases hx; exact hne rfl
    refine ⟨x, by rw [List.getElem?_set_ne hj]; exact hx, x.le_refl, ?_⟩
    by_cases hd : x = .dead
    · exact .inl hd
    · exact .inr ⟨by simp [Ne.symm hj], fun c e f hc => ⟨c, e, f, (hold _ (lt_of_heap hc)).trans hc, rfl⟩⟩
  have hlt : ∀ j x, S[j]? = some x → x.live = true → ρ j < w.heap.size := fun j x hx hxl => (h.ok j x hx).lt (by rintro rfl; cases hxl) (by rintro rfl; cases hxl)
  refine ⟨⟨fun j x hx => ?_, fun i j x y hx hy hxl hyl hij => ?_, fun i x hx hxl => ?_, fun b hb => by have := h.lt b hb; omega⟩, ⟨h1, h2, h3, by omega, fun b hb _ => hold b hb, hA, fun _ h => h, fun _ h => .inl h, fun b hb => ?_, hs⟩⟩
  · rcases set_split hx with ⟨rfl, rfl, _⟩ | ⟨hj, hx'⟩
    · simp only [if_true]; exact hok hs hA
    · simp only [if_neg hj]
      exact (h.ok j x hx').mono (fun _ h => h) hA hs (fun hl => hold _ (hlt j x hx' hl))
  · rcases set_split hx with ⟨rfl, rfl, _⟩ | ⟨hi, hx'⟩ <;> rcases set_split hy with ⟨rfl, rfl, _⟩ | ⟨hj, hy'⟩
    · rfl
    · simp only [if_true, if_neg hj] at hij
      have := hlt j y hy' hyl; omega
    · simp only [if_true, if_neg hi] at hij
      have := hlt i x hx' hxl; omega
    · simp only [if_neg hi, if_neg hj] at hij
      exact h.inj i j x y hx' hy' hxl hyl hij
  · rcases set_split hx with ⟨rfl, rfl, _⟩ | ⟨hi, hx'⟩
    · simp only [if_true]
      intro hb
      have := h.lt _ hb; omega
    · simp only [if_neg hi]; exact h.own i x hx' hxl
  · obtain ⟨j, x, hx, hxl, rfl⟩ := hb
    rcases set_split hx with ⟨rfl, rfl, _⟩ | ⟨hj, hx'⟩
    · simp only [if_true]; exact .inr (Nat.le_refl _)
    · simp only [if_neg hj]; exact .inl ⟨j, x, hx', hxl, rfl⟩
/-- Holes are laid behind. -/
theorem Inv.holes (h : Inv P S ρ A w) (n : Nat) : Inv P (S ++ List.replicate n .hole) ρ A w ∧ Step S ρ A w (S ++ List.replicate n .hole) ρ A w := by
  have split : ∀ i x, (S ++ List.replicate n Ob.hole)[i]? = some x → S[i]? = some x ∨ x = Ob.hole := fun i x hx => by
    rw [List.getElem?_append] at hx
    split at hx
    · exact .inl hx
    · rw [List.getElem?_replicate] at hx
      split at hx
      · simp at hx; exact .inr hx.symm
      · cases hx
  have hs : SLe S ρ w (S ++ List.replicate n .hole) ρ w := fun j x hx _ =>
    ⟨x, by rw [List.getElem?_append_left (lt_of_get hx)]; exact hx, x.le_refl, .inr ⟨rfl, fun c e f hc => ⟨c, e, f, hc, rfl⟩⟩⟩
  refine ⟨⟨fun j x hx => ?_, fun i j x y hx hy hxl hyl hij => ?_, fun i x hx hxl => ?_, h.lt⟩, ⟨rfl, rfl, rfl, Nat.le_refl _, fun _ _ _ => rfl, fun _ _ => rfl, fun _ h => h, fun _ h => .inl h, fun b hb => ?_, hs⟩⟩
  · rcases split j x hx with h' | rfl
    · exact (h.ok j x h').mono (fun _ h => h) (fun _ _ => rfl) hs (fun _ => rfl)
    · trivial
  · rcases split i x hx with hx' | rfl
    · rcases split j y hy with hy' | rfl
      · exact h.inj i j x y hx' hy' hxl hyl hij
      · cases hyl
    · cases hxl
  · rcases split i x hx with hx' | rfl
    · exact h.own i x hx' hxl
    · cases hxl
  · obtain ⟨j, x, hx, hxl, rfl⟩ := hb
    rcases split j x hx with hx' | rfl
    · exact .inl ⟨j, x, hx', hxl, rfl⟩
    · cases hxl
end
end Go.Vm
