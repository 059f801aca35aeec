/- The value machine: the quicker one: regions that draw, code, calls; what it says the first one says. -/
import Derived.Test.YtljefklfoieecaaVmKd
set_option linter.unusedSimpArgs false
set_option linter.unusedVariables false
noncomputable section
namespace Go.Vm
def addE : Op → Program → (Operand → V) → Option (Ob × (Nat → V))
  | .alloc e => fun P ev => match zeroV P e with
    | some z => if fitsT P e z then some (.row [z] e, fun id => .ref id 0 0) else none
    | none => none
  | .box e x => fun P ev => if fitsT P e (ev x) then some (.row [ev x] e, fun id => .ref id 0 0) else none
  | .makeMap t r => fun P ev => match r with
    | none => some (.mp [] 0, .mr)
    | some _ => none
  | .makeSlice t l c => fun P ev => match P.underlying t with
    | some (.slice e) => match ev l, ev c, zeroV P e with
      | .d (.int .i64 l), .d (.int .i64 c), some z => if 0 ≤ l ∧ l ≤ c ∧ c ≤ 9223372036854775807 then if room P e c.toNat && fitsT P e z then
          some (.row (List.replicate c.toNat z) e, fun id => .rs id 0 l.toNat) else none else none
      | _, _, _ => none
    | _ => none
  | .range t x => fun P ev => match P.underlying t with
    | some .string => match ev x with
      | .d (.str s) => some (.iter s 0, .it)
      | _ => none
    | _ => none
  | _ => fun P ev => none
theorem addE_eq {P : Program} {T : List V} {o : Oper} : addE o.op P (evalO T) = addO P T o := by
  obtain ⟨dst, op, ty, pos, after, g⟩ := o
  cases op <;> rfl
def effR (C : Cfg) (call : CallF) (S : Store) : Option Rs → Option (V × Store × Nat)
  | some (.val v S' c) => some (v, S', num2 c)
  | some (.skip S' _) => some (.tup [], S', 3)
  | some (.enter f args) => match callV C call f args S with
    | some (.ret v, S', c) => some (v, S', num2 c)
    | _ => none
  | _ => none
def effA (id : Nat) (S : Store) : Option (Ob × (Nat → V)) → Option (V × Store × Nat)
  | some (ob, f) => match S[id]? with
    | some .hole => some (f id, S.set id ob, 2)
    | _ => none
  | none => none
def effK (C : Cfg) (call : CallF) (ops : Array Oper) (id : Nat) (o : Oper) (E : Tr) (S : Store) : Option (V × Store × Nat) :=
  match wantedK ops E o with
  | none => none
  | some false => some (.tup [], S, 0)
  | some true => match addsK o with
    | true => effA id S (addE o.op C.P (evalE E))
    | false => effR C call S (opK o.op C.P S (evalE E))
def watchK (C : Cfg) (call : CallF) (ops : Array Oper) (b : List Nat) (base i : Nat) (S' : Store) (w : Nat × Tr × V) : Bool :=
  (b.getD i 0).testBit w.1 || match ops[w.1]? with
    | some o => match effK C call ops (base + w.1) o w.2.1 S' with
      | some (v', _, 1) => sameV w.2.2 v'
      | _ => false
    | none => false
def drawS (C : Cfg) (call : CallF) (ops : Array Oper) (b : List Nat) (base : Nat) (ws : List (Nat × Tr × V)) (i : Nat) (o : Oper) (E : Tr) (k : List (Nat × Tr × V) → Tr → Store → Option (Tr × Store × List (Nat × Nat))) : Option (V × Store × Nat) → Option (Tr × Store × List (Nat × Nat))
  | none => none
  | some (v, S', c) => match Nat.blt 2 c && !(ws.all (watchK C call ops b base i S')) with
    | true => none
    | false => match k (match Nat.beq c 1 with | true => (i, E, v) :: ws | false => ws) (putE E o.dst v) S' with
      | none => none
      | some (E2, S2, cs) => some (E2, S2, (i, c) :: cs)
def drawK (C : Cfg) (call : CallF) (ops : Array Oper) (b : List Nat) (base : Nat) : List Nat → List (Nat × Tr × V) → Tr → Store → Option (Tr × Store × List (Nat × Nat))
  | [] => fun _ E S => some (E, S, [])
  | i :: r => fun ws E S => match ops[i]? with
    | none => none
    | some o => drawS C call ops b base ws i o E (drawK C call ops b base r) (effK C call ops (base + i) o E S)
def condK (a b : Option (Ex × Tr × Store × Dfs)) : V → Option (Ex × Tr × Store × Dfs)
  | .d (.bool true) => a
  | .d (.bool false) => b
  | _ => none
def bindK (k : KontK) : Option (Ex × Tr × Store × Dfs) → Option (Ex × Tr × Store × Dfs)
  | some (.norm, E, S, F) => k E S F
  | r => r
def blockK (id : Nat) : Option (Ex × Tr × Store × Dfs) → Option (Ex × Tr × Store × Dfs)
  | some (.exit k, E, S, F) => match Nat.beq k id with | true => some (.norm, E, S, F) | false => some (.exit k, E, S, F)
  | r => r
/-- The numbers worked out: so that what hangs on them is worked out once. -/
def forceCs {α : Type} (k : List (Nat × Nat) → α) (l : List (Nat × Nat)) : α := List.rec (fun k => k []) (fun p _ ih k => fN p.1 fun i => fN p.2 fun c => ih fun r => k ((i, c) :: r)) l k
theorem forceCs_eq {α : Type} : ∀ {l : List (Nat × Nat)} {k : List (Nat × Nat) → α}, forceCs k l = k l
  | [], k => rfl
  | p :: r, k => by
    show (fN p.1 fun i => fN p.2 fun c => forceCs (fun r => k ((i, c) :: r)) r) = _
    rw [fN_eq, fN_eq, forceCs_eq]
def drawEnd (ops : Array Oper) (F : Dfs) : Option (Tr × Store × List (Nat × Nat)) → Option (Ex × Tr × Store × Dfs)
  | some (E, S, cs) => forceCs (fun cs => match drawOk ops cs with | true => some (.norm, E, S, F) | false => none) cs
  | none => none
def execF (C : Cfg) (rec : ExecK) (call : CallF) : Code → KontK
  | .skip => fun E S F => some (.norm, E, S, F)
  | .label _ => fun E S F => some (.norm, E, S, F)
  | .region _ ops d => fun E S F => match d with
    | false => seqJ C call ops ops.toList E S F
    | true => drawEnd ops F (drawK C call ops (befs ops) S.length (orderOf C.shared ops) [] E (S ++ List.replicate (holesN ops) .hole))
  | .seq a b => fun E S F => bindK (rec b) (rec a E S F)
  | .cond c a b => fun E S F => condK (rec a E S F) (rec b E S F) (evalE E c)
  | .block id b => fun E S F => blockK id (rec b E S F)
  | .loop b => fun E S F => bindK (rec (.loop b)) (rec b E S F)
  | .scope b => fun E S F => rec b E S F
  | .exit id => fun E S F => some (.exit id, E, S, F)
  | .ret => fun E S F => some (.ret, E, S, F)
  | _ => fun _ _ _ => none
def resultK (P : Program) (E : Tr) (S : Store) : ResultVar → Option V
  | .tmp t => E.get? t
  | .cell a t => match E.get? a with | some v => loadV P S t v | none => none
def resultsK (P : Program) (rs : Array ResultVar) (E : Tr) (S : Store) : Option V :=
  match rs.toList with
  | [r] => resultK P E S r
  | l => match allO (resultK P E S) l with
    | some vs => match vs.all V.one with | true => some (.tup vs) | false => none
    | none => none
def retK (P : Program) (rs : Array ResultVar) : Option (Ex × Tr × Store × Dfs) → Option (Out × Store)
  | some (.norm, E, S, []) => (resultsK P rs E S).map fun v => (.ret v, S)
  | some (.ret, E, S, []) => (resultsK P rs E S).map fun v => (.ret v, S)
  | some (.pan v, E, S, []) => some (.pan v, S)
  | _ => none
def plainK (P : Program) (rs : Array ResultVar) : Option (Ex × Tr × Store × Dfs) → Option Store
  | some (.norm, E, S, []) => (resultsK P rs E S).map fun _ => S
  | some (.ret, E, S, []) => (resultsK P rs E S).map fun _ => S
  | _ => none
def startE (n : Nat) (args : List V) : Option Tr := match Nat.ble args.length n with | true => some (Tr.mk args n n 1 0) | false => none
def dfrK (P : Program) (rec : ExecK) : Dfs → Store → Option Store
  | [], S => some S
  | (f, args) :: r, S => match bodyOf P f with
    | none => none
    | some b => match startE b.ntmps args with
      | none => none
      | some E => match plainK P b.results (rec b.code E S []) with
        | some S' => dfrK P rec r S'
        | none => none
def endK (P : Program) (rec : ExecK) (rs : Array ResultVar) (E : Tr) (S : Store) (F : Dfs) : Option (Out × Store) :=
  match dfrK P rec F S with
  | none => none
  | some S' => (resultsK P rs E S').map fun v => (.ret v, S')
def leaveK (P : Program) (rec : ExecK) (rs : Array ResultVar) : Option (Ex × Tr × Store × Dfs) → Option (Out × Store)
  | some (.norm, E, S, F) => endK P rec rs E S F
  | some (.ret, E, S, F) => endK P rec rs E S F
  | some (.pan v, E, S, []) => some (.pan v, S)
  | _ => none
def catchK (post : Out → Option V) : Option (Out × Store) → Option (Out × Store)
  | none => none
  | some (o, S') => match post o with
    | none => none
    | some v => some (.ret v, S')
def runF (C : Cfg) (rec : ExecK) (call : CallF) (f : FuncId) (args : List V) (S : Store) : Option (Out × Store) :=
  match C.catch_ f with
  | some post => match args with
    | [.fn (.func g) first caps] => catchK post (call g (first ++ caps) S)
    | _ => none
  | none => match bodyOf C.P f with
    | none => none
    | some b => match startE b.ntmps args with
      | none => none
      | some E => leaveK C.P rec b.results (rec b.code E S [])
def bothK (C : Cfg) (n : Nat) : ExecK × CallF := Nat.rec (fun _ _ _ _ => none, fun _ _ _ => none) (fun _ p => (execF C p.1 p.2, runF C p.1 p.2)) n
theorem bothK_0 {C : Cfg} : bothK C 0 = (fun _ _ _ _ => none, fun _ _ _ => none) := rfl
theorem bothK_s {C : Cfg} {n : Nat} : bothK C (n + 1) = (execF C (bothK C n).1 (bothK C n).2, runF C (bothK C n).1 (bothK C n).2) := rfl
/-- A call apart, by the quicker machine. -/
def runK (C : Cfg) (n : Nat) (f : FuncId) (ds : List D) : Option Out := answer C (bothK C n).2 f ds

section
variable {C : Cfg} {call call' : CallF}
theorem effK_ok (hc : CallLe call call') {ops : Array Oper} {id : Nat} {o : Oper} {E : Tr} {T : List V} {S : Store} {r : V × Store × Nat} (h : Holds E T) (he : effK C call ops id o E S = some r) : effC C call' ops id o T S = some r := by
  unfold effK at he
  unfold effC
  cases hw : wantedK ops E o with
  | none => simp [hw] at he
  | some b =>
    rw [wantedK_ok h hw]
    simp only [hw] at he
    cases b with
    | false => exact he
    | true =>
      simp only at he ⊢
      cases hk : addsK o with
      | true =>
        simp only [hk, if_true] at he ⊢
        rw [h.eval, addE_eq] at he
        cases ha : addO C.P T o with
        | none => simp [ha, effA] at he
        | some q => rw [ha] at he; exact he
      | false =>
        simp only [hk, Bool.false_eq_true, if_false] at he ⊢
        rw [h.eval, opK_eq] at he
        cases ho : opV C.P S T o with
        | none => simp [ho, effR] at he
        | some rs =>
          rw [ho] at he
          cases rs with
          | enter f args =>
            simp only [effR] at he ⊢
            cases hcv : callV C call f args S with
            | none => simp [hcv] at he
            | some q => rw [callV_leK hc hcv]; rw [hcv] at he; exact he
          | _ => exact he
/-- The same reads, on lists. -/
def WsOk : List (Nat × Tr × V) → List (Nat × List V × V) → Prop
  | [], ws => ws = []
  | w :: r, ws => ∃ T ws', ws = (w.1, T, w.2.2) :: ws' ∧ Holds w.2.1 T ∧ WsOk r ws'
theorem watchK_ok (hc : CallLe call call') {ops : Array Oper} {b : List Nat} {base i : Nat} {S' : Store} : ∀ {ws : List (Nat × Tr × V)} {ws' : List (Nat × List V × V)}, WsOk ws ws' → ws.all (watchK C call ops b base i S') = true → ws'.all (watchOk C call' ops b base i S') = true
  | [], ws', h, _ => by simp only [WsOk] at h; subst h; rfl
  | w :: r, ws', h, ha => by
    obtain ⟨T, ws2, rfl, h1, h2⟩ := h
    simp only [List.all_cons, Bool.and_eq_true] at ha ⊢
    refine ⟨?_, watchK_ok hc h2 ha.2⟩
    have h3 := ha.1
    unfold watchK at h3
    unfold watchOk
    rw [Bool.or_eq_true] at h3 ⊢
    rcases h3 with h3 | h3
    · exact .inl h3
    · right
      simp only
      split at h3
      · rename_i o ho
        simp only [ho]
        split at h3
        · rename_i v' x he
          rw [effK_ok hc h1 he]
          exact h3
        · cases h3
      · cases h3
theorem drawK_ok (hc : CallLe call call') {ops : Array Oper} {b : List Nat} {base : Nat} : ∀ {l : List Nat} {ws : List (Nat × Tr × V)} {ws' : List (Nat × List V × V)} {E : Tr} {T : List V} {S : Store} {E' : Tr} {S' : Store} {cs : List (Nat × Nat)}, WsOk ws ws' → Holds E T → drawK C call ops b base l ws E S = some (E', S', cs) → ∃ T', Holds E' T' ∧ seqC C call' ops b base ws' l T S = some (T', S', cs)
  | [], ws, ws', E, T, S, E', S', cs, hw, h, hd => by
    simp only [drawK, Option.some.injEq, Prod.mk.injEq] at hd
    obtain ⟨rfl, rfl, rfl⟩ := hd
    exact ⟨T, h, rfl⟩
  | i :: r, ws, ws', E, T, S, E', S', cs, hw, h, hd => by
    simp only [drawK] at hd
    simp only [seqC]
    cases ho : ops[i]? with
    | none => simp [ho] at hd
    | some o =>
      simp only [ho] at hd ⊢
      cases he : effK C call ops (base + i) o E S with
      | none => simp [he, drawS] at hd
      | some q =>
        obtain ⟨v, S1, c⟩ := q
        rw [effK_ok hc h he]
        simp only [he, drawS] at hd
        simp only
        split at hd
        · cases hd
        · rename_i hb
          have hn : ¬ (2 < c ∧ (ws'.all (watchOk C call' ops b base i S1)) = false) := by
            rintro ⟨h1, h2⟩
            rw [Bool.and_eq_false_iff] at hb
            rcases hb with hb | hb
            · rw [show Nat.blt 2 c = true from by simp [Nat.blt]; omega] at hb; cases hb
            · rw [Bool.not_eq_false'] at hb
              rw [watchK_ok hc hw hb] at h2; cases h2
          rw [if_neg hn]
          split at hd
          · cases hd
          · rename_i E2 S2 cs2 hk
            simp only [Option.some.injEq, Prod.mk.injEq] at hd
            obtain ⟨rfl, rfl, rfl⟩ := hd
            have hws : WsOk (match Nat.beq c 1 with | true => (i, E, v) :: ws | false => ws) (if c = 1 then (i, T, v) :: ws' else ws') := by
              cases hb1 : Nat.beq c 1 with
              | true =>
                have : c = 1 := Nat.eq_of_beq_eq_true hb1
                rw [if_pos this]
                exact ⟨T, ws', rfl, h, hw⟩
              | false =>
                have : ¬ c = 1 := Nat.ne_of_beq_eq_false hb1
                rw [if_neg this]
                exact hw
            obtain ⟨T', g1, g2⟩ := drawK_ok hc hws (h.put o.dst v) hk
            rw [g2]
            exact ⟨T', g1, rfl⟩
theorem resultK_ok {P : Program} {E : Tr} {T : List V} {S : Store} (h : Holds E T) {r : ResultVar} {v : V} (hr : resultK P E S r = some v) : resultV P T S r = some v := by
  cases r with
  | tmp t =>
    simp only [resultK] at hr
    rw [h t] at hr
    simp only [resultV, List.getD_eq_getElem?_getD, hr, Option.getD_some]
  | cell a t =>
    simp only [resultK] at hr
    split at hr
    · rename_i u hu
      rw [h a] at hu
      simp only [resultV, List.getD_eq_getElem?_getD, hu, Option.getD_some]
      exact hr
    · cases hr
theorem resultsK_ok {P : Program} {E : Tr} {T : List V} {S : Store} (h : Holds E T) {rs : Array ResultVar} {v : V} (hr : resultsK P rs E S = some v) : resultsV P rs T S = some v := by
  have all : ∀ {l : List ResultVar} {vs : List V}, allO (resultK P E S) l = some vs → allO (resultV P T S) l = some vs := by
    intro l
    induction l with
    | nil => intro vs h; exact h
    | cons x r ih =>
      intro vs hv
      simp only [allO] at hv ⊢
      cases hx : resultK P E S x with
      | none => simp [hx] at hv
      | some y =>
        rw [resultK_ok h hx]
        simp only [hx] at hv ⊢
        cases hr : allO (resultK P E S) r with
        | none => simp [hr] at hv
        | some ys => rw [ih hr]; rw [hr] at hv; exact hv
  unfold resultsK at hr
  unfold resultsV
  split at hr
  · rename_i r hrs
    simp only [hrs]
    exact resultK_ok h hr
  · rename_i l hne
    split
    · rename_i r hrs; exact absurd hrs (fun h' => hne r h')
    · split at hr
      · rename_i vs hvs
        rw [all hvs]
        split at hr
        · rename_i h1; simp only [h1, if_true]; exact hr
        · cases hr
      · cases hr
def EOk (ek : ExecK) (ev : ExecF) : Prop := ∀ c, KOk (ek c) (ev c)
theorem startE_ok {n : Nat} {args : List V} {E : Tr} (h : startE n args = some E) : Holds E (startT n args) := by
  unfold startE at h
  split at h
  · rename_i hb
    simp only [Option.some.injEq] at h; subst h
    exact holds_start n args (Nat.le_of_ble_eq_true hb)
  · cases h
theorem dfrK_ok {P : Program} {ek : ExecK} {ev : ExecF} (he : EOk ek ev) : ∀ {F : Dfs} {S S' : Store}, dfrK P ek F S = some S' → dfrV P ev F S = some S'
  | [], S, S', h => h
  | (f, args) :: r, S, S', h => by
    simp only [dfrK] at h
    simp only [dfrV, plainV]
    split at h
    · cases h
    · rename_i b hb
      simp only [hb]
      split at h
      · cases h
      · rename_i E hE
        have hs := startE_ok hE
        split at h
        · rename_i S1 h1
          cases hr : ek b.code E S [] with
          | none => simp [hr, plainK] at h1
          | some q =>
            obtain ⟨x, E1, S2, F1⟩ := q
            obtain ⟨T1, g1, g2⟩ := he _ _ _ _ _ _ _ _ _ hs hr
            rw [g2]
            rw [hr] at h1
            have fin : F1 = [] → (resultsK P b.results E1 S2).map (fun _ => S2) = some S1 → S2 = S1 ∧ ∃ v, resultsV P b.results T1 S2 = some v := by
              intro _ hm
              obtain ⟨v, hv, rfl⟩ := Option.map_eq_some_iff.1 hm
              exact ⟨rfl, v, resultsK_ok g1 hv⟩
            cases x with
            | norm =>
              cases F1 with
              | nil =>
                obtain ⟨rfl, v, hv⟩ := fin rfl h1
                simp only [hv, Option.map_some]
                exact dfrK_ok he h
              | cons a l => simp [plainK] at h1
            | ret =>
              cases F1 with
              | nil =>
                obtain ⟨rfl, v, hv⟩ := fin rfl h1
                simp only [hv, Option.map_some]
                exact dfrK_ok he h
              | cons a l => simp [plainK] at h1
            | exit n => simp [plainK] at h1
            | pan v => simp [plainK] at h1
        · cases h
theorem endK_ok {P : Program} {ek : ExecK} {ev : ExecF} (he : EOk ek ev) {rs : Array ResultVar} {E : Tr} {T : List V} {S : Store} {F : Dfs} {r : Out × Store} (hh : Holds E T) (h : endK P ek rs E S F = some r) : endV P ev rs T S F = some r := by
  unfold endK at h
  unfold endV
  split at h
  · cases h
  · rename_i S1 h1
    rw [dfrK_ok he h1]
    obtain ⟨v, hv, rfl⟩ := Option.map_eq_some_iff.1 h
    simp only [resultsK_ok hh hv]
theorem bothK_ok (C : Cfg) : ∀ n, EOk (bothK C n).1 (exec C n) ∧ CallLe (bothK C n).2 (run C n)
  | 0 => ⟨fun c E T S F x E' S' F' h hx => by simp [bothK_0] at hx, fun f as S r h => by simp [bothK_0] at h⟩
  | n + 1 => by
    obtain ⟨ihe, ihr⟩ := bothK_ok C n
    have bind : ∀ {c c2 : Code} {E T S F x E' S' F'}, Holds E T → bindK ((bothK C n).1 c2) ((bothK C n).1 c E S F) = some (x, E', S', F') → ∃ T', Holds E' T' ∧ (match exec C n c T S F with | some (.norm, T', S', F') => exec C n c2 T' S' F' | r => r) = some (x, T', S', F') := by
      intro c c2 E T S F x E' S' F' h hb
      cases hr : (bothK C n).1 c E S F with
      | none => simp [hr, bindK] at hb
      | some q =>
        obtain ⟨y, E1, S1, F1⟩ := q
        obtain ⟨T1, g1, g2⟩ := ihe _ _ _ _ _ _ _ _ _ h hr
        rw [hr] at hb
        rw [g2]
        cases y with
        | norm => exact ihe _ _ _ _ _ _ _ _ _ g1 hb
        | _ =>
          simp only [bindK, Option.some.injEq, Prod.mk.injEq] at hb
          obtain ⟨rfl, rfl, rfl, rfl⟩ := hb
          exact ⟨T1, g1, rfl⟩
    constructor
    · intro c E T S F x E' S' F' h hx
      simp only [bothK_s] at hx
      have leaf : ∀ {y : Ex}, some (y, E, S, F) = some (x, E', S', F') → ∃ T', Holds E' T' ∧ some (y, T, S, F) = some (x, T', S', F') := by
        intro y hy
        simp only [Option.some.injEq, Prod.mk.injEq] at hy
        obtain ⟨rfl, rfl, rfl, rfl⟩ := hy
        exact ⟨T, h, rfl⟩
      cases c with
      | skip => simp only [exec]; exact leaf hx
      | label l => simp only [exec]; exact leaf hx
      | exit id => simp only [exec]; exact leaf hx
      | ret => simp only [exec]; exact leaf hx
      | region id ops d =>
        cases d with
        | false => simp only [exec]; exact seqJ_ok ihr _ _ _ _ _ _ _ _ _ h hx
        | true =>
          simp only [execF] at hx
          simp only [exec]
          cases hd : drawK C (bothK C n).2 ops (befs ops) S.length (orderOf C.shared ops) [] E (S ++ List.replicate (holesN ops) .hole) with
          | none => simp [hd, drawEnd] at hx
          | some q =>
            obtain ⟨E1, S1, cs⟩ := q
            obtain ⟨T1, g1, g2⟩ := drawK_ok ihr (show WsOk [] [] from rfl) h hd
            rw [hd] at hx
            simp only [drawEnd, forceCs_eq] at hx
            split at hx
            · rename_i hok
              simp only [Option.some.injEq, Prod.mk.injEq] at hx
              obtain ⟨rfl, rfl, rfl, rfl⟩ := hx
              exact ⟨T1, g1, by simp only [g2, hok, if_true]⟩
            · cases hx
      | seq a b => simp only [exec]; exact bind h hx
      | loop b => simp only [exec]; exact bind h hx
      | cond c a b =>
        simp only [execF] at hx
        simp only [exec]
        rw [h.eval] at hx
        unfold condK at hx
        split at hx
        · rename_i hv; rw [hv]; exact ihe _ _ _ _ _ _ _ _ _ h hx
        · rename_i hv; rw [hv]; exact ihe _ _ _ _ _ _ _ _ _ h hx
        · cases hx
      | block id b =>
        simp only [execF] at hx
        simp only [exec]
        cases hr : (bothK C n).1 b E S F with
        | none => simp [hr, blockK] at hx
        | some q =>
          obtain ⟨y, E1, S1, F1⟩ := q
          obtain ⟨T1, g1, g2⟩ := ihe _ _ _ _ _ _ _ _ _ h hr
          rw [hr] at hx
          rw [g2]
          cases y with
          | exit k =>
            simp only [blockK] at hx
            cases hb : Nat.beq k id with
            | true =>
              have : k = id := Nat.eq_of_beq_eq_true hb
              simp only [hb, Option.some.injEq, Prod.mk.injEq] at hx
              obtain ⟨rfl, rfl, rfl, rfl⟩ := hx
              exact ⟨T1, g1, by simp only [this, if_true]⟩
            | false =>
              have : ¬ k = id := Nat.ne_of_beq_eq_false hb
              simp only [hb, Option.some.injEq, Prod.mk.injEq] at hx
              obtain ⟨rfl, rfl, rfl, rfl⟩ := hx
              exact ⟨T1, g1, by simp only [this, if_false]⟩
          | _ =>
            simp only [blockK, Option.some.injEq, Prod.mk.injEq] at hx
            obtain ⟨rfl, rfl, rfl, rfl⟩ := hx
            exact ⟨T1, g1, rfl⟩
      | scope b => simp only [exec]; exact ihe _ _ _ _ _ _ _ _ _ h hx
      | _ => simp [execF] at hx
    · intro f args S r hr
      simp only [bothK_s, runF] at hr
      simp only [run]
      split at hr
      · rename_i post hpost
        simp only [hpost]
        split at hr
        · rename_i g first caps
          cases hc : (bothK C n).2 g (first ++ caps) S with
          | none => simp [hc, catchK] at hr
          | some q =>
            obtain ⟨o, S1⟩ := q
            simp only [ihr _ _ _ _ hc]
            rw [hc] at hr
            exact hr
        · cases hr
      · rename_i hcat
        simp only [hcat]
        split at hr
        · cases hr
        · rename_i b hb
          simp only [hb]
          split at hr
          · cases hr
          · rename_i E hE
            have hs := startE_ok hE
            cases he : (bothK C n).1 b.code E S [] with
            | none => simp [he, leaveK] at hr
            | some q =>
              obtain ⟨x, E1, S1, F1⟩ := q
              obtain ⟨T1, g1, g2⟩ := ihe _ _ _ _ _ _ _ _ _ hs he
              rw [he] at hr
              rw [g2]
              cases x with
              | norm => exact endK_ok ihe g1 hr
              | ret => exact endK_ok ihe g1 hr
              | pan v =>
                cases F1 with
                | nil => exact hr
                | cons a l => simp [leaveK] at hr
              | exit k => simp [leaveK] at hr
theorem runK_ok {n : Nat} {f : FuncId} {ds : List D} {o : Out} (h : runK C n f ds = some o) : runD C n f ds = some o := answer_mono (bothK_ok C n).2 h
end
end Go.Vm
