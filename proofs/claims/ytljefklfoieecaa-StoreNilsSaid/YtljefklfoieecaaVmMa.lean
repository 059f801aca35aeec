/- The value machine: more fuel comes to the same. -/
import Derived.Test.YtljefklfoieecaaVmB
set_option linter.unusedVariables false
set_option linter.unusedSimpArgs false
namespace Go.Vm
def CallLe (c c' : CallF) : Prop := ∀ f as S r, c f as S = some r → c' f as S = some r
def ExecLe (e e' : ExecF) : Prop := ∀ c T S F r, e c T S F = some r → e' c T S F = some r
section
variable {C : Cfg} {call call' : CallF}
theorem answer_mono (h : CallLe call call') {f : FuncId} {ds : List D} {o : Out} (ha : answer C call f ds = some o) : answer C call' f ds = some o := by
  unfold answer at ha ⊢
  split at ha
  · rename_i g hg; exact ha
  · rename_i hg
    cases hc : call f (ds.map .d) [] with
    | none => simp [hc] at ha
    | some r => simp only [hc] at ha; simp only [h _ _ _ _ hc]; exact ha
theorem callV_mono (h : CallLe call call') {f : FuncId} {args : List V} {S : Store} {r : Out × Store × Nat} (ha : callV C call f args S = some r) : callV C call' f args S = some r := by
  unfold callV at ha ⊢
  split at ha
  · rename_i hs
    rw [if_pos hs]
    obtain ⟨q, hq, rfl⟩ := Option.map_eq_some_iff.1 ha
    rw [h _ _ _ _ hq]; rfl
  · rename_i hs
    rw [if_neg hs]
    split at ha
    · cases ha
    · rename_i ds hds
      cases hc : answer C call f ds with
      | none => simp [hc] at ha
      | some o => simp only [hc] at ha; simp only [answer_mono h hc]; exact ha
theorem seqV_mono (h : CallLe call call') {ops : Array Oper} : ∀ {l : List Oper} {T : List V} {S : Store} {F : Dfs} {r : Ex × List V × Store × Dfs}, seqV C call ops l T S F = some r → seqV C call' ops l T S F = some r
  | [], T, S, F, r, ha => ha
  | o :: l, T, S, F, r, ha => by
    rw [seqV] at ha ⊢
    cases hlp : litPair C.P T o l with
    | some T1 =>
      simp only [hlp] at ha ⊢
      cases l with
      | nil => simp at ha
      | cons o2 l' => exact seqV_mono h ha
    | none =>
    simp only [hlp] at ha ⊢
    cases hw : wantedT ops T o with
    | none => simp [hw] at ha
    | some b =>
      cases b with
      | false => simp only [hw] at ha ⊢; exact seqV_mono h ha
      | true =>
        simp only [hw] at ha ⊢
        cases ho : opV C.P S T o with
        | none => simp [ho] at ha
        | some rs =>
          cases rs with
          | val v S' c => simp only [ho] at ha ⊢; exact seqV_mono h ha
          | skip S' c => simp only [ho] at ha ⊢; exact seqV_mono h ha
          | dfr f args => simp only [ho] at ha ⊢; exact seqV_mono h ha
          | pan v => simp only [ho] at ha ⊢; exact ha
          | enter f args =>
            simp only [ho] at ha ⊢
            cases hc : callV C call f args S with
            | none => simp [hc] at ha
            | some q =>
              obtain ⟨out, S', c⟩ := q
              simp only [callV_mono h hc]
              cases out with
              | ret v => simp only [hc] at ha ⊢; exact seqV_mono h ha
              | pan v => simp only [hc] at ha ⊢; exact ha
termination_by l => l.length
theorem effC_mono (h : CallLe call call') {ops : Array Oper} {i : Nat} {o : Oper} {T : List V} {S : Store} {r : V × Store × Nat} (ha : effC C call ops i o T S = some r) : effC C call' ops i o T S = some r := by
  unfold effC at ha ⊢
  cases hw : wantedT ops T o with
  | none => simp [hw] at ha
  | some b =>
    cases b with
    | false => simp only [hw] at ha ⊢; exact ha
    | true =>
      simp only [hw] at ha ⊢
      split at ha
      · rename_i hk; rw [if_pos hk]; exact ha
      · rename_i hk
        rw [if_neg hk]
        cases ho : opV C.P S T o with
        | none => simp [ho] at ha
        | some rs =>
          cases rs with
          | enter f args =>
            simp only [ho] at ha ⊢
            cases hc : callV C call f args S with
            | none => simp [hc] at ha
            | some q => simp only [hc] at ha; simp only [callV_mono h hc]; exact ha
          | _ => simp only [ho] at ha ⊢; exact ha
theorem watchOk_mono (h : CallLe call call') {ops : Array Oper} {b : List Nat} {base i : Nat} {S : Store} {w : Nat × List V × V} (ha : watchOk C call ops b base i S w = true) : watchOk C call' ops b base i S w = true := by
  unfold watchOk at ha ⊢
  rw [Bool.or_eq_true] at ha ⊢
  rcases ha with ha | ha
  · exact .inl ha
  · right
    cases ho : ops[w.1]? with
    | none => simp [ho] at ha
    | some o =>
      simp only [ho] at ha ⊢
      split at ha
      · rename_i v' S' he
        rw [effC_mono h he]
        exact ha
      · cases ha
theorem seqC_mono (h : CallLe call call') {ops : Array Oper} {b : List Nat} {base : Nat} : ∀ {l : List Nat} {ws : List (Nat × List V × V)} {T : List V} {S : Store} {r : List V × Store × List (Nat × Nat)}, seqC C call ops b base ws l T S = some r → seqC C call' ops b base ws l T S = some r
  | [], ws, T, S, r, ha => ha
  | i :: l, ws, T, S, r, ha => by
    simp only [seqC] at ha ⊢
    cases ho : ops[i]? with
    | none => simp [ho] at ha
    | some o =>
      simp only [ho] at ha ⊢
      cases he : effC C call ops (base + i) o T S with
      | none => simp [he] at ha
      | some q =>
        obtain ⟨v, S', c⟩ := q
        simp only [he] at ha
        simp only [effC_mono h he]
        split at ha
        · cases ha
        · rename_i hc
          have hc' : ¬ (2 < c ∧ (ws.all (watchOk C call' ops b base i S')) = false) := by
            rintro ⟨hc3, hw⟩
            apply hc
            refine ⟨hc3, ?_⟩
            rw [← Bool.not_eq_true] at hw ⊢
            intro hall
            apply hw
            rw [List.all_eq_true] at hall ⊢
            exact fun w hwm => watchOk_mono h (hall w hwm)
          rw [if_neg hc']
          cases hr : seqC C call ops b base (if c = 1 then (i, T, v) :: ws else ws) l (putT T o.dst v) S' with
          | none => simp [hr] at ha
          | some q2 => simp only [hr] at ha; simp only [seqC_mono h hr]; exact ha
theorem plainV_mono {P : Program} {ex ex' : ExecF} (h : ExecLe ex ex') {f : FuncId} {args : List V} {S S' : Store} (ha : plainV P ex f args S = some S') : plainV P ex' f args S = some S' := by
  unfold plainV at ha ⊢
  split at ha
  · cases ha
  · rename_i b hb
    cases he : ex b.code (startT b.ntmps args) S [] with
    | none => simp [he] at ha
    | some r => simp only [he] at ha; simp only [h _ _ _ _ _ he]; exact ha
theorem dfrV_mono {P : Program} {ex ex' : ExecF} (h : ExecLe ex ex') : ∀ {F : Dfs} {S S' : Store}, dfrV P ex F S = some S' → dfrV P ex' F S = some S'
  | [], S, S', ha => ha
  | (f, args) :: r, S, S', ha => by
    simp only [dfrV] at ha ⊢
    cases hp : plainV P ex f args S with
    | none => simp [hp] at ha
    | some S1 => simp only [hp] at ha; simp only [plainV_mono h hp]; exact dfrV_mono h ha
theorem endV_mono {P : Program} {ex ex' : ExecF} (h : ExecLe ex ex') {rs : Array ResultVar} {T : List V} {S : Store} {F : Dfs} {r : Out × Store} (ha : endV P ex rs T S F = some r) : endV P ex' rs T S F = some r := by
  unfold endV at ha ⊢
  cases hd : dfrV P ex F S with
  | none => simp [hd] at ha
  | some S' => simp only [hd] at ha; simp only [dfrV_mono h hd]; exact ha
end
theorem mono1 (C : Cfg) : ∀ n, ExecLe (exec C n) (exec C (n + 1)) ∧ CallLe (run C n) (run C (n + 1)) := by
  intro n
  induction n with
  | zero => exact ⟨fun c T S F r h => by simp [exec] at h, fun f as S r h => by simp [run] at h⟩
  | succ n ih =>
    obtain ⟨ihe, ihr⟩ := ih
    constructor
    · intro c T S F r h
      rw [exec.eq_def] at h ⊢
      simp only at h ⊢
      cases c with
      | region id ops dr =>
        cases dr with
        | false => exact seqV_mono ihr h
        | true =>
          simp only at h ⊢
          cases hs : seqC C (run C n) ops (befs ops) S.length [] (orderOf C.shared ops) T (S ++ List.replicate (holesN ops) .hole) with
          | none => simp [hs] at h
          | some q => simp only [hs] at h; simp only [seqC_mono ihr hs]; exact h
      | seq a b =>
        simp only at h ⊢
        cases ha : exec C n a T S F with
        | none => simp [ha] at h
        | some q =>
          obtain ⟨x, T', S', F'⟩ := q
          simp only [ihe _ _ _ _ _ ha]
          simp only [ha] at h
          cases x <;> simp only at h ⊢ <;> first | exact ihe _ _ _ _ _ h | exact h
      | cond c a b =>
        simp only at h ⊢
        split at h <;> first | exact ihe _ _ _ _ _ h | cases h
      | block id b =>
        simp only at h ⊢
        cases ha : exec C n b T S F with
        | none => simp [ha] at h
        | some q => simp only [ha] at h; simp only [ihe _ _ _ _ _ ha]; exact h
      | loop b =>
        simp only at h ⊢
        cases ha : exec C n b T S F with
        | none => simp [ha] at h
        | some q =>
          obtain ⟨x, T', S', F'⟩ := q
          simp only [ihe _ _ _ _ _ ha]
          simp only [ha] at h
          cases x <;> simp only at h ⊢ <;> first | exact ihe _ _ _ _ _ h | exact h
      | scope b => exact ihe _ _ _ _ _ h
      | _ => exact h
    · intro f args S r h
      rw [run.eq_def] at h ⊢
      simp only at h ⊢
      split at h
      · rename_i post hp
        split at h
        · rename_i g first caps
          cases hc : run C n g (first ++ caps) S with
          | none => simp [hc] at h
          | some q => simp only [hc] at h; simp only [ihr _ _ _ _ hc]; exact h
        · cases h
      · split at h
        · cases h
        · rename_i b hb
          cases he : exec C n b.code (startT b.ntmps args) S [] with
          | none => simp [he] at h
          | some q =>
            obtain ⟨x, T', S', F'⟩ := q
            simp only [ihe _ _ _ _ _ he]
            simp only [he] at h
            cases x with
            | norm => exact endV_mono ihe h
            | ret => exact endV_mono ihe h
            | exit k => simp at h
            | pan v => cases F' with
              | nil => exact h
              | cons f F' => simp at h
theorem exec_le (C : Cfg) {n m : Nat} (h : n ≤ m) : ExecLe (exec C n) (exec C m) := by
  induction h with
  | refl => exact fun _ _ _ _ _ h => h
  | step _ ih => exact fun c T S F r h => (mono1 C _).1 _ _ _ _ _ (ih _ _ _ _ _ h)
theorem run_le (C : Cfg) {n m : Nat} (h : n ≤ m) : CallLe (run C n) (run C m) := by
  induction h with
  | refl => exact fun _ _ _ _ h => h
  | step _ ih => exact fun f as S r h => (mono1 C _).2 _ _ _ _ (ih _ _ _ _ h)
theorem runD_le {C : Cfg} {n m : Nat} (h : n ≤ m) {f : FuncId} {ds : List D} {o : Out} (hr : runD C n f ds = some o) : runD C m f ds = some o := answer_mono (run_le C h) hr
end Go.Vm
