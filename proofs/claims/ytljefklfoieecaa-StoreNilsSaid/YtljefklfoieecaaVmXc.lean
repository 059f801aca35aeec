/- The value machine: what a drawing region ran, with its watched reads. -/
import Derived.Test.YtljefklfoieecaaVmXb
set_option linter.unusedVariables false
set_option linter.unusedSimpArgs false
namespace Go.Vm
abbrev Watches := Nat × (Store → Prop) → Prop
def predOf (C : Cfg) (call : CallF) (ops : Array Oper) (i : Nat) (o : Oper) (T : List V) (v : V) : Store → Prop := fun S => effC C call ops i o T S = some (v, S, 1)
def RunsW (C : Cfg) (call : CallF) (ops : Array Oper) (b : List Nat) (base : Nat) : Watches → List (Nat × Nat) → List V → Store → List V → Store → Prop
  | _, [], T, S, T', S' => T = T' ∧ S = S'
  | ws, p :: r, T, S, T', S' => ∃ o v S1, ops[p.1]? = some o ∧ effC C call ops (base + p.1) o T S = some (v, S1, p.2) ∧ (2 < p.2 → ∀ x, ws x → (b.getD p.1 0).testBit x.1 = true ∨ x.2 S1) ∧
      RunsW C call ops b base (fun x => ws x ∨ (p.2 = 1 ∧ x = (p.1, predOf C call ops (base + p.1) o T v))) r (putT T o.dst v) S1 T' S'
theorem RunsW.mono {C : Cfg} {call : CallF} {ops : Array Oper} {b : List Nat} {base : Nat} : ∀ {r : List (Nat × Nat)} {ws ws' : Watches} {T T' : List V} {S S' : Store}, (∀ x, ws' x → ws x) → RunsW C call ops b base ws r T S T' S' → RunsW C call ops b base ws' r T S T' S'
  | [], _, _, _, _, _, _, _, h => h
  | p :: r, ws, ws', T, T', S, S', hle, h => by
    obtain ⟨o, v, S1, h1, h2, h3, h4⟩ := h
    exact ⟨o, v, S1, h1, h2, fun hp x hx => h3 hp x (hle x hx), h4.mono (fun x hx => hx.imp (hle x) id)⟩
theorem watchOk_pred {C : Cfg} {call : CallF} {ops : Array Oper} {b : List Nat} {base i : Nat} {S' : Store} {w : Nat × List V × V} {o : Oper} (ho : ops[w.1]? = some o) (h : watchOk C call ops b base i S' w = true) : (b.getD i 0).testBit w.1 = true ∨ predOf C call ops (base + w.1) o w.2.1 w.2.2 S' := by
  unfold watchOk at h
  rw [Bool.or_eq_true] at h
  rcases h with h | h
  · exact .inl h
  · right
    simp only [ho] at h
    split at h
    · rename_i v' S2 he
      have hs := (effC_num he).2.1 rfl
      subst hs
      rw [sameV_eq h]
      exact he
    · cases h
theorem runsW_of_seqC {C : Cfg} {call : CallF} {ops : Array Oper} {b : List Nat} {base : Nat} : ∀ {l : List Nat} {ws : List (Nat × List V × V)} {W : Watches} {T T' : List V} {S S' : Store} {cs : List (Nat × Nat)},
    (∀ x, W x → ∃ w ∈ ws, ∃ o, ops[w.1]? = some o ∧ x = (w.1, predOf C call ops (base + w.1) o w.2.1 w.2.2)) → seqC C call ops b base ws l T S = some (T', S', cs) → RunsW C call ops b base W cs T S T' S'
  | [], ws, W, T, T', S, S', cs, hW, h => by
    simp only [seqC, Option.some.injEq, Prod.mk.injEq] at h
    obtain ⟨rfl, rfl, rfl⟩ := h
    exact ⟨rfl, rfl⟩
  | i :: l, ws, W, T, T', S, S', cs, hW, h => by
    simp only [seqC] at h
    cases ho : ops[i]? with
    | none => simp [ho] at h
    | some o =>
      simp only [ho] at h
      cases he : effC C call ops (base + i) o T S with
      | none => simp [he] at h
      | some q =>
        obtain ⟨v, S1, c⟩ := q
        simp only [he] at h
        split at h
        · cases h
        · rename_i hc
          cases hr : seqC C call ops b base (if c = 1 then (i, T, v) :: ws else ws) l (putT T o.dst v) S1 with
          | none => simp [hr] at h
          | some q2 =>
            obtain ⟨T2, S2, cs2⟩ := q2
            simp only [hr, Option.some.injEq, Prod.mk.injEq] at h
            obtain ⟨rfl, rfl, rfl⟩ := h
            refine ⟨o, v, S1, ho, he, fun hp x hx => ?_, runsW_of_seqC (fun x hx => ?_) hr⟩
            · obtain ⟨w, hw, o2, ho2, rfl⟩ := hW x hx
              have hall : (ws.all (watchOk C call ops b base i S1)) = true := by
                cases hv : ws.all (watchOk C call ops b base i S1) with
                | true => rfl
                | false => exact absurd ⟨hp, hv⟩ hc
              rw [List.all_eq_true] at hall
              exact watchOk_pred ho2 (hall w hw)
            · rcases hx with hx | ⟨h1, rfl⟩
              · obtain ⟨w, hw, o2, ho2, rfl⟩ := hW x hx
                exact ⟨w, by split <;> simp [hw], o2, ho2, rfl⟩
              · simp only at h1
                subst h1
                exact ⟨(i, T, v), by simp, o, ho, rfl⟩
end Go.Vm
