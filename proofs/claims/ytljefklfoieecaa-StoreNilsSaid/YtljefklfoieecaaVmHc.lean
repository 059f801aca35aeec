/- The value machine: what ran with a hole in the store runs the same with any object in its place, and leaves it. Regions, code, calls. -/
import Derived.Test.YtljefklfoieecaaVmHb
set_option linter.unusedVariables false
set_option linter.unusedSimpArgs false
namespace Go.Vm
def ExecHole (ex : ExecF) : Prop := ∀ c T S F x T' S' F' id ob, ex c T S F = some (x, T', S', F') → S[id]? = some .hole → ex c T (S.set id ob) F = some (x, T', S'.set id ob, F') ∧ S'[id]? = some .hole
section
variable {C : Cfg} {call : CallF} {id : Nat}
theorem seqV_hole (hcall : CallHole call) {ops : Array Oper} (ob : Ob) : ∀ {l : List Oper} {T T' : List V} {S S' : Store} {F F' : Dfs} {x : Ex}, S[id]? = some .hole → seqV C call ops l T S F = some (x, T', S', F') → seqV C call ops l T (S.set id ob) F = some (x, T', S'.set id ob, F') ∧ S'[id]? = some .hole
  | [], T, T', S, S', F, F', x, hS, h => by
    simp only [seqV, Option.some.injEq, Prod.mk.injEq] at h ⊢
    obtain ⟨rfl, rfl, rfl, rfl⟩ := h
    exact ⟨⟨rfl, rfl, rfl, rfl⟩, hS⟩
  | o :: l, T, T', S, S', F, F', x, hS, h => by
    rw [seqV] at h ⊢
    cases hlp : litPair C.P T o l with
    | some T1 =>
      simp only [hlp] at h ⊢
      cases l with
      | nil => simp at h
      | cons o2 l' => exact seqV_hole hcall ob hS h
    | none =>
    simp only [hlp] at h ⊢
    cases hw : wantedT ops T o with
    | none => simp [hw] at h
    | some b =>
      cases b with
      | false => simp only [hw] at h ⊢; exact seqV_hole hcall ob hS h
      | true =>
        simp only [hw] at h ⊢
        cases ho : opV C.P S T o with
        | none => simp [ho] at h
        | some rs =>
          obtain ⟨g1, g2⟩ := opV_hole ob hS ho
          simp only [g1]
          cases rs with
          | val v S1 c => simp only [ho] at h; exact seqV_hole hcall ob g2 h
          | skip S1 c => simp only [ho] at h; exact seqV_hole hcall ob g2 h
          | dfr f args => simp only [ho] at h; exact seqV_hole hcall ob hS h
          | pan v =>
            simp only [ho, Option.some.injEq, Prod.mk.injEq] at h
            obtain ⟨rfl, rfl, rfl, rfl⟩ := h
            exact ⟨rfl, hS⟩
          | enter f args =>
            simp only [ho] at h
            simp only [Rs.upd]
            cases hc : callV C call f args S with
            | none => simp [hc] at h
            | some q =>
              obtain ⟨out, S1, c⟩ := q
              obtain ⟨k1, k2⟩ := callV_hole hcall ob hS hc
              simp only [k1]
              cases out with
              | ret v => simp only [hc] at h; exact seqV_hole hcall ob k2 h
              | pan v =>
                simp only [hc, Option.some.injEq, Prod.mk.injEq] at h
                obtain ⟨rfl, rfl, rfl, rfl⟩ := h
                exact ⟨rfl, k2⟩
termination_by l => l.length

theorem effC_hole (hcall : CallHole call) {ops : Array Oper} {i : Nat} {o : Oper} {T : List V} {S S' : Store} {v : V} {c : Nat} (ob : Ob) (hS : S[id]? = some .hole) (hi : i ≠ id) (h : effC C call ops i o T S = some (v, S', c)) : effC C call ops i o T (S.set id ob) = some (v, S'.set id ob, c) ∧ S'[id]? = some .hole := by
  unfold effC at h ⊢
  cases hw : wantedT ops T o with
  | none => simp [hw] at h
  | some b =>
    cases b with
    | false =>
      simp only [hw, Option.some.injEq, Prod.mk.injEq] at h ⊢
      obtain ⟨rfl, rfl, rfl⟩ := h
      exact ⟨⟨rfl, rfl, rfl⟩, hS⟩
    | true =>
      simp only [hw] at h ⊢
      split at h
      · rename_i ha
        rw [if_pos ha]
        cases hadd : addO C.P T o with
        | none => simp [hadd] at h
        | some q =>
          obtain ⟨ob2, f⟩ := q
          simp only [hadd] at h ⊢
          rw [List.getElem?_set_ne (Ne.symm hi)]
          split at h
          · rename_i hh
            simp only [Option.some.injEq, Prod.mk.injEq] at h
            obtain ⟨rfl, rfl, rfl⟩ := h
            try simp only [hh]
            exact ⟨by rw [List.set_comm _ _ (Ne.symm hi)], by rw [List.getElem?_set_ne hi]; exact hS⟩
          · cases h
      · rename_i ha
        rw [if_neg ha]
        cases ho : opV C.P S T o with
        | none => simp [ho] at h
        | some rs =>
          obtain ⟨g1, g2⟩ := opV_hole ob hS ho
          simp only [g1]
          simp only [ho] at h
          cases rs with
          | val v1 S1 c1 =>
            simp only [Option.some.injEq, Prod.mk.injEq] at h
            obtain ⟨rfl, rfl, rfl⟩ := h
            exact ⟨rfl, g2⟩
          | skip S1 c1 =>
            simp only [Option.some.injEq, Prod.mk.injEq] at h
            obtain ⟨rfl, rfl, rfl⟩ := h
            exact ⟨rfl, g2⟩
          | dfr f args => simp at h
          | pan v1 => simp at h
          | enter f args =>
            simp only at h
            simp only [Rs.upd]
            cases hc : callV C call f args S with
            | none => simp [hc] at h
            | some q =>
              obtain ⟨out, S1, c1⟩ := q
              obtain ⟨k1, k2⟩ := callV_hole hcall ob hS hc
              simp only [k1]
              cases out with
              | ret v1 =>
                simp only [hc, Option.some.injEq, Prod.mk.injEq] at h
                obtain ⟨rfl, rfl, rfl⟩ := h
                exact ⟨rfl, k2⟩
              | pan v1 => simp [hc] at h
theorem watchOk_hole (hcall : CallHole call) {ops : Array Oper} {b : List Nat} {base i : Nat} {S : Store} {w : Nat × List V × V} (ob : Ob) (hS : S[id]? = some .hole) (hid : id < base) (h : watchOk C call ops b base i S w = true) : watchOk C call ops b base i (S.set id ob) w = true := by
  unfold watchOk at h ⊢
  rw [Bool.or_eq_true] at h ⊢
  rcases h with h | h
  · exact .inl h
  · right
    cases ho : ops[w.1]? with
    | none => simp [ho] at h
    | some o =>
      simp only [ho] at h ⊢
      split at h
      · rename_i v' S' he
        rw [(effC_hole hcall ob hS (by omega) he).1]
        exact h
      · cases h
theorem seqC_hole (hcall : CallHole call) {ops : Array Oper} {b : List Nat} {base : Nat} (ob : Ob) (hid : id < base) : ∀ {l : List Nat} {ws : List (Nat × List V × V)} {T T' : List V} {S S' : Store} {cs : List (Nat × Nat)}, S[id]? = some .hole → seqC C call ops b base ws l T S = some (T', S', cs) → seqC C call ops b base ws l T (S.set id ob) = some (T', S'.set id ob, cs) ∧ S'[id]? = some .hole
  | [], ws, T, T', S, S', cs, hS, h => by
    simp only [seqC, Option.some.injEq, Prod.mk.injEq] at h ⊢
    obtain ⟨rfl, rfl, rfl⟩ := h
    exact ⟨⟨rfl, rfl, rfl⟩, hS⟩
  | i :: l, ws, T, T', S, S', cs, hS, h => by
    simp only [seqC] at h ⊢
    cases ho : ops[i]? with
    | none => simp [ho] at h
    | some o =>
      simp only [ho] at h ⊢
      cases he : effC C call ops (base + i) o T S with
      | none => simp [he] at h
      | some q =>
        obtain ⟨v, S1, c⟩ := q
        obtain ⟨g1, g2⟩ := effC_hole hcall ob hS (by omega) he
        simp only [he] at h
        simp only [g1]
        split at h
        · cases h
        · rename_i hc
          have hc' : ¬ (2 < c ∧ (ws.all (watchOk C call ops b base i (S1.set id ob))) = false) := by
            rintro ⟨hc3, hw⟩
            apply hc
            refine ⟨hc3, ?_⟩
            rw [← Bool.not_eq_true] at hw ⊢
            intro hall
            apply hw
            rw [List.all_eq_true] at hall ⊢
            intro w hwm
            exact watchOk_hole hcall ob g2 hid (hall w hwm)
          rw [if_neg hc']
          cases hr : seqC C call ops b base (if c = 1 then (i, T, v) :: ws else ws) l (putT T o.dst v) S1 with
          | none => simp [hr] at h
          | some q2 =>
            obtain ⟨T2, S2, cs2⟩ := q2
            obtain ⟨k1, k2⟩ := seqC_hole hcall ob hid g2 hr
            simp only [hr, Option.some.injEq, Prod.mk.injEq] at h
            obtain ⟨rfl, rfl, rfl⟩ := h
            simp only [k1]
            exact ⟨trivial, k2⟩
theorem resultV_hole {P : Program} {T : List V} {S : Store} {r : ResultVar} {v : V} (ob : Ob) (hS : S[id]? = some .hole) (h : resultV P T S r = some v) : resultV P T (S.set id ob) r = some v := by
  cases r with
  | tmp t => exact h
  | cell a t => exact loadV_hole ob hS h
theorem resultsV_hole {P : Program} {rs : Array ResultVar} {T : List V} {S : Store} {v : V} (ob : Ob) (hS : S[id]? = some .hole) (h : resultsV P rs T S = some v) : resultsV P rs T (S.set id ob) = some v := by
  unfold resultsV at h ⊢
  split at h
  · exact resultV_hole ob hS h
  · split at h
    · rename_i vs hvs
      rw [allO_congr' (fun x _ y hy => resultV_hole ob hS hy) hvs]
      exact h
    · cases h
theorem plainV_hole {P : Program} {ex : ExecF} (hex : ExecHole ex) {f : FuncId} {args : List V} {S S' : Store} (ob : Ob) (hS : S[id]? = some .hole) (h : plainV P ex f args S = some S') : plainV P ex f args (S.set id ob) = some (S'.set id ob) ∧ S'[id]? = some .hole := by
  unfold plainV at h ⊢
  split at h
  · cases h
  · rename_i bd hb
    cases he : ex bd.code (startT bd.ntmps args) S [] with
    | none => simp [he] at h
    | some q =>
      obtain ⟨x, T1, S1, F1⟩ := q
      obtain ⟨g1, g2⟩ := hex _ _ _ _ _ _ _ _ id ob he hS
      simp only [g1]
      simp only [he] at h
      have fin : (resultsV P bd.results T1 S1).map (fun _ => S1) = some S' → (resultsV P bd.results T1 (S1.set id ob)).map (fun _ => S1.set id ob) = some (S'.set id ob) ∧ S'[id]? = some .hole := fun h => by
        obtain ⟨v, hv, rfl⟩ := Option.map_eq_some_iff.1 h
        rw [resultsV_hole ob g2 hv]
        exact ⟨rfl, g2⟩
      cases x with
      | norm => cases F1 with
        | nil => exact fin h
        | cons a F1 => simp at h
      | ret => cases F1 with
        | nil => exact fin h
        | cons a F1 => simp at h
      | exit k => simp at h
      | pan v => simp at h
theorem dfrV_hole {P : Program} {ex : ExecF} (hex : ExecHole ex) (ob : Ob) : ∀ {F : Dfs} {S S' : Store}, S[id]? = some .hole → dfrV P ex F S = some S' → dfrV P ex F (S.set id ob) = some (S'.set id ob) ∧ S'[id]? = some .hole
  | [], S, S', hS, h => by
    simp only [dfrV, Option.some.injEq] at h ⊢; subst h; exact ⟨rfl, hS⟩
  | (f, args) :: r, S, S', hS, h => by
    simp only [dfrV] at h ⊢
    cases hp : plainV P ex f args S with
    | none => simp [hp] at h
    | some S1 =>
      obtain ⟨g1, g2⟩ := plainV_hole hex ob hS hp
      simp only [hp] at h
      simp only [g1]
      exact dfrV_hole hex ob g2 h
theorem endV_hole {P : Program} {ex : ExecF} (hex : ExecHole ex) {rs : Array ResultVar} {T : List V} {S S' : Store} {F : Dfs} {o : Out} (ob : Ob) (hS : S[id]? = some .hole) (h : endV P ex rs T S F = some (o, S')) : endV P ex rs T (S.set id ob) F = some (o, S'.set id ob) ∧ S'[id]? = some .hole := by
  unfold endV at h ⊢
  cases hd : dfrV P ex F S with
  | none => simp [hd] at h
  | some S1 =>
    obtain ⟨g1, g2⟩ := dfrV_hole hex ob hS hd
    simp only [hd] at h
    simp only [g1]
    cases hr : resultsV P rs T S1 with
    | none => simp [hr] at h
    | some v =>
      simp only [hr, Option.some.injEq, Prod.mk.injEq] at h
      obtain ⟨rfl, rfl⟩ := h
      simp only [resultsV_hole ob g2 hr]
      exact ⟨trivial, g2⟩
end
theorem hole_ok (C : Cfg) : ∀ n, ExecHole (exec C n) ∧ CallHole (run C n) := by
  intro n
  induction n with
  | zero => exact ⟨fun c T S F x T' S' F' id ob h => by simp [exec] at h, fun f args S o S' id ob h => by simp [run] at h⟩
  | succ n ih =>
    obtain ⟨ihe, ihr⟩ := ih
    constructor
    · intro c T S F x T' S' F' id ob h hS
      rw [exec.eq_def] at h ⊢
      simp only at h ⊢
      cases c with
      | region rid ops dr =>
        cases dr with
        | false => exact seqV_hole ihr ob hS h
        | true =>
          simp only at h ⊢
          have hlt := lt_of_get hS
          have e : (S.set id ob) ++ List.replicate (holesN ops) Ob.hole = (S ++ List.replicate (holesN ops) Ob.hole).set id ob := by rw [List.set_append_left _ _ hlt]
          rw [List.length_set, e]
          cases hs : seqC C (run C n) ops (befs ops) S.length [] (orderOf C.shared ops) T (S ++ List.replicate (holesN ops) .hole) with
          | none => simp [hs] at h
          | some q =>
            obtain ⟨T1, S1, cs⟩ := q
            obtain ⟨g1, g2⟩ := seqC_hole ihr ob hlt (by rw [List.getElem?_append_left hlt]; exact hS) hs
            simp only [hs] at h
            simp only [g1]
            split at h
            · rename_i hd
              rw [if_pos hd]
              simp only [Option.some.injEq, Prod.mk.injEq] at h
              obtain ⟨rfl, rfl, rfl, rfl⟩ := h
              exact ⟨rfl, g2⟩
            · cases h
      | seq a b =>
        simp only at h ⊢
        cases ha : exec C n a T S F with
        | none => simp [ha] at h
        | some q =>
          obtain ⟨x1, T1, S1, F1⟩ := q
          obtain ⟨g1, g2⟩ := ihe _ _ _ _ _ _ _ _ id ob ha hS
          simp only [g1]
          simp only [ha] at h
          cases x1 with
          | norm => exact ihe _ _ _ _ _ _ _ _ id ob h g2
          | _ =>
            simp only [Option.some.injEq, Prod.mk.injEq] at h
            obtain ⟨rfl, rfl, rfl, rfl⟩ := h
            exact ⟨rfl, g2⟩
      | cond cc a b =>
        simp only at h ⊢
        split at h <;> first | exact ihe _ _ _ _ _ _ _ _ id ob h hS | cases h
      | block k b =>
        simp only at h ⊢
        cases ha : exec C n b T S F with
        | none => simp [ha] at h
        | some q =>
          obtain ⟨x1, T1, S1, F1⟩ := q
          obtain ⟨g1, g2⟩ := ihe _ _ _ _ _ _ _ _ id ob ha hS
          simp only [g1]
          simp only [ha] at h
          cases x1 with
          | exit m =>
            simp only at h ⊢
            split at h
            · rename_i hm
              rw [if_pos hm]
              simp only [Option.some.injEq, Prod.mk.injEq] at h
              obtain ⟨rfl, rfl, rfl, rfl⟩ := h
              exact ⟨rfl, g2⟩
            · rename_i hm
              rw [if_neg hm]
              simp only [Option.some.injEq, Prod.mk.injEq] at h
              obtain ⟨rfl, rfl, rfl, rfl⟩ := h
              exact ⟨rfl, g2⟩
          | _ =>
            simp only [Option.some.injEq, Prod.mk.injEq] at h
            obtain ⟨rfl, rfl, rfl, rfl⟩ := h
            exact ⟨rfl, g2⟩
      | loop b =>
        simp only at h ⊢
        cases ha : exec C n b T S F with
        | none => simp [ha] at h
        | some q =>
          obtain ⟨x1, T1, S1, F1⟩ := q
          obtain ⟨g1, g2⟩ := ihe _ _ _ _ _ _ _ _ id ob ha hS
          simp only [g1]
          simp only [ha] at h
          cases x1 with
          | norm => exact ihe _ _ _ _ _ _ _ _ id ob h g2
          | _ =>
            simp only [Option.some.injEq, Prod.mk.injEq] at h
            obtain ⟨rfl, rfl, rfl, rfl⟩ := h
            exact ⟨rfl, g2⟩
      | scope b => exact ihe _ _ _ _ _ _ _ _ id ob h hS
      | skip => simp only [Option.some.injEq, Prod.mk.injEq] at h ⊢; obtain ⟨rfl, rfl, rfl, rfl⟩ := h; exact ⟨⟨rfl, rfl, rfl, rfl⟩, hS⟩
      | label l => simp only [Option.some.injEq, Prod.mk.injEq] at h ⊢; obtain ⟨rfl, rfl, rfl, rfl⟩ := h; exact ⟨⟨rfl, rfl, rfl, rfl⟩, hS⟩
      | exit l => simp only [Option.some.injEq, Prod.mk.injEq] at h ⊢; obtain ⟨rfl, rfl, rfl, rfl⟩ := h; exact ⟨⟨rfl, rfl, rfl, rfl⟩, hS⟩
      | ret => simp only [Option.some.injEq, Prod.mk.injEq] at h ⊢; obtain ⟨rfl, rfl, rfl, rfl⟩ := h; exact ⟨⟨rfl, rfl, rfl, rfl⟩, hS⟩
      | _ => simp at h
    · intro f args S o S' id ob h hS
      rw [run.eq_def] at h ⊢
      simp only at h ⊢
      split at h
      · rename_i post hp
        split at h
        · rename_i g first caps
          cases hc : run C n g (first ++ caps) S with
          | none => simp [hc] at h
          | some q =>
            obtain ⟨o1, S1⟩ := q
            obtain ⟨g1, g2⟩ := ihr _ _ _ _ _ id ob hc hS
            simp only [g1]
            simp only [hc] at h
            split at h
            · cases h
            · rename_i v hv
              try simp only [hv]
              simp only [Option.some.injEq, Prod.mk.injEq] at h
              obtain ⟨rfl, rfl⟩ := h
              exact ⟨rfl, g2⟩
        · cases h
      · split at h
        · cases h
        · rename_i bd hb
          cases he : exec C n bd.code (startT bd.ntmps args) S [] with
          | none => simp [he] at h
          | some q =>
            obtain ⟨x1, T1, S1, F1⟩ := q
            obtain ⟨g1, g2⟩ := ihe _ _ _ _ _ _ _ _ id ob he hS
            simp only [g1]
            simp only [he] at h
            cases x1 with
            | norm => exact endV_hole ihe ob g2 h
            | ret => exact endV_hole ihe ob g2 h
            | exit k => simp at h
            | pan v => cases F1 with
              | nil =>
                simp only [Option.some.injEq, Prod.mk.injEq] at h
                obtain ⟨rfl, rfl⟩ := h
                exact ⟨rfl, g2⟩
              | cons a F1 => simp at h
end Go.Vm
