/- The value machine: an operation of a drawing region is drawn ahead. -/
import Derived.Test.YtljefklfoieecaaVmXc
set_option linter.unusedVariables false
set_option linter.unusedSimpArgs false
namespace Go.Vm
/-- A watch goes on to hold as holes of other numbers are filled. -/
def Closed (base : Nat) (ws : Watches) : Prop := ∀ x, ws x → ∀ (S : Store) (j : Nat) (ob : Ob), j ≠ x.1 → S[base + j]? = some .hole → x.2 S → x.2 (S.set (base + j) ob)
theorem predOf_closed {C : Cfg} {call : CallF} (hcall : CallHole call) {ops : Array Oper} {base i : Nat} {o : Oper} {T : List V} {v : V} {S : Store} {j : Nat} {ob : Ob} (hj : j ≠ i) (hS : S[base + j]? = some .hole) (h : predOf C call ops (base + i) o T v S) : predOf C call ops (base + i) o T v (S.set (base + j) ob) :=
  (effC_hole hcall ob hS (by omega) h).1
theorem runsW_swap {C : Cfg} {call : CallF} (hcall : CallHole call) {ops : Array Oper} {b : List Nat} {base : Nat} {ws : Watches} {p q : Nat × Nat} {r : List (Nat × Nat)} {T T' : List V} {S S' : Store} (hcl : Closed base ws) (hws : ∀ x, ws x → x.1 ≠ q.1) (hpq : p.1 ≠ q.1) {x y : Oper} (hx : ops[p.1]? = some x) (hy : ops[q.1]? = some y) (hap : tmpsApart ops x y = true) (hc : clsApart p.2 q.2 = true) (hbit : (b.getD q.1 0).testBit p.1 = false)
    (hh : q.2 = 2 → S[base + q.1]? = some .hole) (h : RunsW C call ops b base ws (p :: q :: r) T S T' S') : RunsW C call ops b base ws (q :: p :: r) T S T' S' := by
  obtain ⟨o1, v1, S1, e1, e2, e3, o2, v2, S2, e4, e5, e6, e7⟩ := h
  rw [hx] at e1; cases e1
  rw [hy] at e4; cases e4
  obtain ⟨S3, g1, g2, g3⟩ := effC_swap hcall (by omega) e2 e5 hap hc hh (fun h1 h3 => by
    rcases e6 h3 _ (.inr ⟨h1, rfl⟩) with h | h
    · rw [hbit] at h; cases h
    · exact h)
  have hcc := hc
  unfold clsApart at hcc
  simp only [Bool.or_eq_true, beq_iff_eq] at hcc
  refine ⟨_, v2, S3, hy, g1, fun hq w hw => ?_, _, v1, S2, hx, g2, fun hp w hw => ?_, ?_⟩
  · -- the store behind q is the same
    have hS : S2 = S3 := by
      have hp2 : p.2 = 0 ∨ p.2 = 1 := by omega
      rcases hp2 with h0 | h1
      · exact ((effC_num g2).1 h0).1
      · exact (effC_num g2).2.1 h1
    subst hS
    exact e6 hq w (.inl hw)
  · rcases hw with hw | ⟨h1, _⟩
    · rcases e3 hp w hw with h | h
      · exact .inl h
      · right
        have hq2 : q.2 = 0 ∨ q.2 = 2 := by omega
        rcases hq2 with h0 | h2
        · have := ((effC_num e5).1 h0).1
          rw [this]; exact h
        · obtain ⟨ob, k1, rfl, _⟩ := (effC_num e5).2.2 h2
          exact hcl w hw S1 q.1 ob (fun he => hws w hw he.symm) k1 h
    · omega
  · rw [← g3]
    refine e7.mono fun w hw => ?_
    obtain ⟨a1, a2, a3⟩ := tmpsApart_spec hap
    rcases hw with (hw | ⟨h1, rfl⟩) | ⟨h1, rfl⟩
    · exact .inl (.inl hw)
    · right
      refine ⟨h1, ?_⟩
      congr 1
      funext S4
      unfold predOf
      rw [effC_congr (fun t ht => putT_get (fun h => a1 t h ht)) S4]
    · left; right
      refine ⟨h1, ?_⟩
      congr 1
      funext S4
      unfold predOf
      rw [effC_congr (fun t ht => putT_get (fun h => a3 t h ht)) S4]
end Go.Vm
