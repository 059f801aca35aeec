/- The value machine: the quicker one: regions, code, calls; it says what the first one says. -/
import Derived.Test.YtljefklfoieecaaVmKa
set_option linter.unusedSimpArgs false
set_option linter.unusedVariables false
noncomputable section
namespace Go.Vm
abbrev ExecK := Code → Tr → Store → Dfs → Option (Ex × Tr × Store × Dfs)
abbrev KontK := Tr → Store → Dfs → Option (Ex × Tr × Store × Dfs)
def yieldK (ops : Array Oper) (E : Tr) (j : Nat) : Option (Option Bool) :=
  match (ops[j]?).bind (·.dst) with
  | none => some none
  | some d => match E.get d with
    | .d (.bool b) => some (some b)
    | .tup _ => some none
    | _ => none
def wantedK (ops : Array Oper) (E : Tr) (o : Oper) : Option Bool :=
  match o.guard with
  | none => some true
  | some (j, want) => (yieldK ops E j).map (· == some want)
def isBS : Op → Bool | .buildSlice _ _ _ => true | _ => false
def litDs (P : Program) (ev : Operand → V) (t : TypeId) (len : Nat) (parts : Array (Nat × Operand)) : Option (List D) :=
  match P.underlying t with
  | some (.slice e) => match P.underlying e, zeroV P e, sz P e with
    | some (.int .u8), some z, some k => if fitsT P e z && (parts.toList.all fun p => p.1 < len && fitsT P e (ev p.2)) && len * k ≤ 16777216 && k ≠ 0 then
        allO asD (litV z len (parts.toList.map fun p => (p.1, ev p.2)))
      else none
    | _, _, _ => none
  | _ => none
def litK (P : Program) (E : Tr) (o : Oper) : List Oper → Option Tr
  | o2 :: _ => match o.op, o2.op, o.dst with
    | .buildSlice t len parts, .convert t1 t2 (.tmp d), some d' =>
      if o.guard.isNone ∧ o2.guard.isNone ∧ t1 = t ∧ t2 = t ∧ d' = d ∧ (E.get? d).isSome then (litDs P (evalE E) t len parts).map fun ds => putE (E.set d .junk) o2.dst (.ts ds)
      else none
    | _, _, _ => none
  | [] => none
def callK (k : Tr → Store → Option (Ex × Tr × Store × Dfs)) (kp : V → Store → Option (Ex × Tr × Store × Dfs)) (put : V → Tr) : Option (Out × Store × Nat) → Option (Ex × Tr × Store × Dfs)
  | none => none
  | some (.ret v, S', _) => k (put v) S'
  | some (.pan v, S', _) => kp v S'
def resK (C : Cfg) (call : CallF) (dst : Option Tmp) (E : Tr) (S : Store) (F : Dfs) (k : KontK) : Option Rs → Option (Ex × Tr × Store × Dfs)
  | none => none
  | some (.val v S' _) => k (putE E dst v) S' F
  | some (.skip S' _) => k (putE E dst (.tup [])) S' F
  | some (.dfr f args) => k (putE E dst (.tup [])) S ((f, args) :: F)
  | some (.pan v) => some (.pan v, E, S, F)
  | some (.enter f args) => callK (fun E' S' => k E' S' F) (fun v S' => some (.pan v, E, S', F)) (putE E dst) (callV C call f args S)
def wantK (C : Cfg) (call : CallF) (o : Oper) (E : Tr) (S : Store) (F : Dfs) (k : KontK) : Option Bool → Option (Ex × Tr × Store × Dfs)
  | none => none
  | some false => k (putE E o.dst (.tup [])) S F
  | some true => resK C call o.dst E S F k (opK o.op C.P S (evalE E))
def seqK (C : Cfg) (call : CallF) (ops : Array Oper) : List Oper → KontK
  | [] => fun E S F => some (.norm, E, S, F)
  | o :: r => fun E S F => match isBS o.op with
    | false => wantK C call o E S F (seqK C call ops r) (wantedK ops E o)
    | true => match litK C.P E o r with
      | some E' => match r with
        | _ :: r' => seqK C call ops r' E' S F
        | [] => none
      | none => wantK C call o E S F (seqK C call ops r) (wantedK ops E o)

section
variable {C : Cfg} {call call' : CallF}
theorem yieldK_ok {ops : Array Oper} {E : Tr} {T : List V} (h : Holds E T) {j : Nat} {r : Option Bool} (hy : yieldK ops E j = some r) : yieldT ops T j = some r := by
  unfold yieldK at hy
  unfold yieldT
  split at hy
  · rename_i hd; simp only [hd]; exact hy
  · rename_i d hd
    simp only [hd]
    rw [Tr.get_eq, h d] at hy
    cases ht : T[d]? with
    | none => simp [ht] at hy
    | some v =>
      simp only [ht, Option.getD_some] at hy ⊢
      split at hy
      · exact hy
      · exact hy
      · cases hy
theorem wantedK_ok {ops : Array Oper} {E : Tr} {T : List V} (h : Holds E T) {o : Oper} {b : Bool} (hw : wantedK ops E o = some b) : wantedT ops T o = some b := by
  unfold wantedK at hw
  unfold wantedT
  split at hw
  · rename_i hg; simp only [hg]; exact hw
  · rename_i j w hg
    simp only [hg]
    cases hy : yieldK ops E j with
    | none => simp [hy] at hw
    | some r => rw [yieldK_ok h hy]; rw [hy] at hw; exact hw
theorem litPair_eq {P : Program} {T : List V} {d' d : Tmp} {t t1 t2 : TypeId} {len : Nat} {parts : Array (Nat × Operand)} {ty ty2 : TypeId} {pos pos2 : String} {after after2 : Array Edge} {g g2 : Option (Nat × Bool)} {dst2 : Option Tmp} {l : List Oper} :
    litPair P T ⟨some d', .buildSlice t len parts, ty, pos, after, g⟩ (⟨dst2, .convert t1 t2 (.tmp d), ty2, pos2, after2, g2⟩ :: l) = if g.isNone ∧ g2.isNone ∧ t1 = t ∧ t2 = t ∧ d' = d ∧ d < T.length then (litDs P (evalO T) t len parts).map fun ds => putT (T.set d .junk) dst2 (.ts ds) else none := by
  simp only [litPair, litDs]
  split
  · cases P.underlying t with
    | none => rfl
    | some td =>
      cases td <;> try rfl
      rename_i e
      simp only
      cases P.underlying e with
      | none => rfl
      | some td2 =>
        cases td2 <;> try rfl
        rename_i k
        cases k <;> try rfl
        cases zeroV P e with
        | none => rfl
        | some z =>
          cases sz P e with
          | none => rfl
          | some k =>
            simp only
            split
            · cases allO asD (litV z len (parts.toList.map fun p => (p.1, evalO T p.2))) <;> rfl
            · rfl
  · rfl
theorem litK_eq {P : Program} {E : Tr} {T : List V} (h : Holds E T) {o : Oper} {l : List Oper} : (litK P E o l = none → litPair P T o l = none) ∧ ∀ E', litK P E o l = some E' → ∃ T', litPair P T o l = some T' ∧ Holds E' T' := by
  cases l with
  | nil => exact ⟨fun _ => rfl, fun E' h => by cases h⟩
  | cons o2 l =>
    have hev := h.eval
    obtain ⟨dst, op, ty, pos, after, g⟩ := o
    obtain ⟨dst2, op2, ty2, pos2, after2, g2⟩ := o2
    cases op <;> try exact ⟨fun _ => rfl, (fun E' h => by cases h)⟩
    cases op2 <;> try exact ⟨fun _ => rfl, (fun E' h => by cases h)⟩
    rename_i t len parts t1 t2 x
    cases x <;> try exact ⟨fun _ => rfl, (fun E' h => by cases h)⟩
    cases dst <;> try exact ⟨fun _ => rfl, (fun E' h => by cases h)⟩
    rename_i d d'
    have hd : (E.get? d).isSome = true ↔ d < T.length := by
      rw [h d]; simp
    rw [litPair_eq]
    simp only [litK, hev, hd]
    split
    · cases litDs P (evalO T) t len parts with
      | none => exact ⟨fun _ => rfl, (fun E' h => by cases h)⟩
      | some ds =>
        refine ⟨fun h => by simp at h, fun E' h' => ?_⟩
        simp only [Option.map_some, Option.some.injEq] at h'; subst h'
        exact ⟨_, rfl, (h.set d .junk).put _ _⟩
    · exact ⟨fun _ => rfl, (fun E' h => by cases h)⟩
theorem litPair_bs {P : Program} {T : List V} {o : Oper} {l : List Oper} (h : isBS o.op = false) : litPair P T o l = none := by
  cases l with
  | nil => rfl
  | cons o2 l =>
    obtain ⟨dst, op, ty, pos, after, guard⟩ := o
    cases op <;> first | rfl | (simp [isBS] at h)
/-- What goes on from here, on lists. -/
def KOk (k : KontK) (k' : List V → Store → Dfs → Option (Ex × List V × Store × Dfs)) : Prop := ∀ E T S F x E' S' F', Holds E T → k E S F = some (x, E', S', F') → ∃ T', Holds E' T' ∧ k' T S F = some (x, T', S', F')
theorem callV_leK (hc : CallLe call call') {f : FuncId} {args : List V} {S : Store} {r : Out × Store × Nat} (h : callV C call f args S = some r) : callV C call' f args S = some r := callV_mono hc h
theorem seqV_cons' {ops : Array Oper} {o : Oper} {r : List Oper} {T : List V} {S : Store} {F : Dfs} (hp : litPair C.P T o r = none) : seqV C call ops (o :: r) T S F = match wantedT ops T o with
      | none => none
      | some false => seqV C call ops r (putT T o.dst (.tup [])) S F
      | some true => match opV C.P S T o with
        | none => none
        | some (.val v S' _) => seqV C call ops r (putT T o.dst v) S' F
        | some (.skip S' _) => seqV C call ops r (putT T o.dst (.tup [])) S' F
        | some (.dfr f args) => seqV C call ops r (putT T o.dst (.tup [])) S ((f, args) :: F)
        | some (.pan v) => some (.pan v, T, S, F)
        | some (.enter f args) => match callV C call f args S with
          | none => none
          | some (.ret v, S', _) => seqV C call ops r (putT T o.dst v) S' F
          | some (.pan v, S', _) => some (.pan v, T, S', F) := by simp only [seqV, hp]; rfl
theorem wantK_ok (hc : CallLe call call') {ops : Array Oper} {o : Oper} {r : List Oper} {k : KontK} (hk : KOk k (seqV C call' ops r)) {E : Tr} {T : List V} {S : Store} {F : Dfs} (h : Holds E T) (hp : litPair C.P T o r = none) {x : Ex} {E' : Tr} {S' : Store} {F' : Dfs} (hw : wantK C call o E S F k (wantedK ops E o) = some (x, E', S', F')) : ∃ T', Holds E' T' ∧ seqV C call' ops (o :: r) T S F = some (x, T', S', F') := by
  rw [seqV_cons' hp]
  cases hwk : wantedK ops E o with
  | none => simp [hwk, wantK] at hw
  | some b =>
    rw [wantedK_ok h hwk]
    rw [hwk] at hw
    cases b with
    | false => exact hk _ _ _ _ _ _ _ _ (h.put _ _) hw
    | true =>
      simp only [wantK] at hw
      rw [h.eval, opK_eq] at hw
      cases ho : opV C.P S T o with
      | none => simp [ho, resK] at hw
      | some rs =>
        rw [ho] at hw
        cases rs with
        | val v S2 c => exact hk _ _ _ _ _ _ _ _ (h.put _ _) hw
        | skip S2 c => exact hk _ _ _ _ _ _ _ _ (h.put _ _) hw
        | dfr f args => exact hk _ _ _ _ _ _ _ _ (h.put _ _) hw
        | pan v =>
          simp only [resK, Option.some.injEq, Prod.mk.injEq] at hw
          obtain ⟨rfl, rfl, rfl, rfl⟩ := hw
          exact ⟨T, h, rfl⟩
        | enter f args =>
          simp only [resK] at hw
          cases hcv : callV C call f args S with
          | none => simp [hcv, callK] at hw
          | some q =>
            obtain ⟨out, S2, c⟩ := q
            rw [hcv] at hw
            simp only [callV_leK hc hcv]
            cases out with
            | ret v => exact hk _ _ _ _ _ _ _ _ (h.put _ _) hw
            | pan v =>
              simp only [callK, Option.some.injEq, Prod.mk.injEq] at hw
              obtain ⟨rfl, rfl, rfl, rfl⟩ := hw
              exact ⟨T, h, rfl⟩
theorem seqK_ok (hc : CallLe call call') {ops : Array Oper} : ∀ l : List Oper, KOk (seqK C call ops l) (seqV C call' ops l)
  | [] => fun E T S F x E' S' F' h hs => by
    simp only [seqK, Option.some.injEq, Prod.mk.injEq] at hs
    obtain ⟨rfl, rfl, rfl, rfl⟩ := hs
    exact ⟨T, h, rfl⟩
  | o :: r => fun E T S F x E' S' F' h hs => by
    simp only [seqK] at hs
    cases hb : isBS o.op with
    | false =>
      simp only [hb] at hs
      exact wantK_ok hc (seqK_ok hc r) h (litPair_bs hb) hs
    | true =>
      simp only [hb] at hs
      obtain ⟨l1, l2⟩ := litK_eq (P := C.P) h (o := o) (l := r)
      cases hl : litK C.P E o r with
      | none =>
        simp only [hl] at hs
        exact wantK_ok hc (seqK_ok hc r) h (l1 hl) hs
      | some E2 =>
        simp only [hl] at hs
        obtain ⟨T2, h2, h3⟩ := l2 _ hl
        cases r with
        | nil => cases hs
        | cons o2 r' =>
          simp only at hs
          obtain ⟨T', h4, h5⟩ := seqK_ok hc r' _ _ _ _ _ _ _ _ h3 hs
          exact ⟨T', h4, by simp only [seqV, h2]; exact h5⟩
end
end Go.Vm
