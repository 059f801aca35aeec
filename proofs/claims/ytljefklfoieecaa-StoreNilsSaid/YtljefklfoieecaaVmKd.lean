/- The value machine: quicker still: moves and numbers by a short way. -/
import Derived.Test.YtljefklfoieecaaVmKb
set_option linter.unusedSimpArgs false
set_option linter.unusedVariables false
noncomputable section
namespace Go.Vm
def fN {α : Type} (m : Nat) (k : Nat → α) : α := match m with | 0 => k 0 | p + 1 => k (p + 1)
theorem fN_eq {α : Type} {m : Nat} {k : Nat → α} : fN m k = k m := by cases m <;> rfl
def fI {α : Type} (n : Int) (k : Int → α) : α := match n with | .ofNat m => fN m fun p => k (.ofNat p) | .negSucc m => fN m fun p => k (.negSucc p)
theorem fI_eq {α : Type} {n : Int} {k : Int → α} : fI n k = k n := by cases n <;> simp [fI, fN_eq]
def top : IntKind → Nat
  | .i8 => 128 | .i16 => 32768 | .i32 => 2147483648 | .i64 => 9223372036854775808
  | .u8 => 256 | .u16 => 65536 | .u32 => 4294967296 | .u64 => 18446744073709551616
def wrapK (k : IntKind) (n : Int) : Int := match n with
  | .ofNat m => match Nat.blt m (top k) with
    | true => .ofNat m
    | false => k.wrap (.ofNat m)
  | .negSucc m => k.wrap (.negSucc m)
theorem wrap_in {k : IntKind} {m : Nat} (h : m < top k) : k.wrap (Int.ofNat m) = Int.ofNat m := by
  have e1 : (Int.ofNat m) = (m : Int) := rfl
  rw [e1]
  have e2 : (m : Int) % (2 ^ k.bits : Int) = m := Int.emod_eq_of_lt (by omega) (by cases k <;> simp only [top] at h <;> simp only [IntKind.bits, Int.reducePow] <;> omega)
  simp only [IntKind.wrap, e2]
  rw [if_neg]
  cases k <;> simp only [top] at h <;> simp [IntKind.signed, IntKind.bits] <;> omega
theorem wrapK_eq {k : IntKind} {n : Int} : wrapK k n = k.wrap n := by
  cases n with
  | negSucc m => rfl
  | ofNat m =>
    simp only [wrapK]
    cases hb : Nat.blt m (top k) with
    | false => rfl
    | true =>
      have h : m < top k := by simp [Nat.blt] at hb; omega
      exact (wrap_in h).symm
def ixK : IntKind → Nat
  | .i8 => 0 | .i16 => 1 | .i32 => 2 | .i64 => 3 | .u8 => 4 | .u16 => 5 | .u32 => 6 | .u64 => 7
theorem ixK_inj {a b : IntKind} (h : Nat.beq (ixK a) (ixK b) = true) : a = b := by
  cases a <;> cases b <;> first | rfl | (cases h)
def addI (a b : Int) : Int := match a with | .ofNat x => (match b with | .ofNat y => .ofNat (Nat.add x y) | .negSucc y => Int.add (.ofNat x) (.negSucc y)) | .negSucc x => Int.add (.negSucc x) b
theorem addI_eq {a b : Int} : addI a b = a + b := by cases a <;> cases b <;> rfl
def subI (a b : Int) : Int := match a with
  | .ofNat x => (match b with
    | .ofNat y => (match Nat.ble y x with | true => .ofNat (Nat.sub x y) | false => Int.sub (.ofNat x) (.ofNat y))
    | .negSucc y => Int.sub (.ofNat x) (.negSucc y))
  | .negSucc x => Int.sub (.negSucc x) b
theorem subI_eq {a b : Int} : subI a b = a - b := by
  cases a with
  | negSucc x => rfl
  | ofNat x =>
    cases b with
    | negSucc y => rfl
    | ofNat y =>
      simp only [subI]
      cases hb : Nat.ble y x with
      | false => rfl
      | true =>
        have : y ≤ x := Nat.le_of_ble_eq_true hb
        show ((x - y : Nat) : Int) = (x : Int) - (y : Int)
        omega
def mulI (a b : Int) : Int := match a with | .ofNat x => (match b with | .ofNat y => .ofNat (Nat.mul x y) | .negSucc y => Int.mul (.ofNat x) (.negSucc y)) | .negSucc x => Int.mul (.negSucc x) b
theorem mulI_eq {a b : Int} : mulI a b = a * b := by cases a <;> cases b <;> rfl
def ltI (a b : Int) : Bool := match a with | .ofNat x => (match b with | .ofNat y => Nat.blt x y | .negSucc _ => false) | .negSucc x => decide (Int.negSucc x < b)
theorem ltI_eq {a b : Int} : ltI a b = decide (a < b) := by
  cases a with
  | negSucc x => rfl
  | ofNat x =>
    cases b with
    | negSucc y =>
      show false = decide _
      symm
      rw [decide_eq_false_iff_not]
      show ¬ ((x : Int) < Int.negSucc y)
      omega
    | ofNat y =>
      show Nat.blt x y = decide ((x : Int) < (y : Int))
      rw [Bool.eq_iff_iff]
      simp [Nat.blt]; omega
def eqI (a b : Int) : Bool := match a with | .ofNat x => (match b with | .ofNat y => Nat.beq x y | .negSucc _ => false) | .negSucc x => Int.negSucc x == b
theorem eqI_eq {a b : Int} : eqI a b = (a == b) := by
  cases a with
  | negSucc x => rfl
  | ofNat x =>
    cases b with
    | negSucc y => rfl
    | ofNat y =>
      show Nat.beq x y = (Int.ofNat x == Int.ofNat y)
      rw [Bool.eq_iff_iff]
      simp [Nat.beq_eq]
      omega
def bI (b : Bool) : Option V := match b with | true => some (.d (.bool true)) | false => some (.d (.bool false))
theorem bI_eq {b : Bool} : bI b = some (.d (.bool b)) := by cases b <;> rfl
def nI (k : IntKind) (n : Int) : Option V := fI (wrapK k n) fun m => some (.d (.int k m))
def aluI : BinOp → IntKind → Int → Int → Option V
  | .add => fun k a b => nI k (addI a b)
  | .sub => fun k a b => nI k (subI a b)
  | .mul => fun k a b => nI k (mulI a b)
  | .eql => fun k a b => bI (eqI a b)
  | .neq => fun k a b => bI (!eqI a b)
  | .lss => fun k a b => bI (ltI a b)
  | .geq => fun k a b => bI (!ltI a b)
  | .gtr => fun k a b => bI (ltI b a)
  | .leq => fun k a b => bI (!ltI b a)
  | _ => fun _ _ _ => none
theorem aluI_eq {op : BinOp} {k : IntKind} {a b : Int} {v : V} (h : aluI op k a b = some v) : (intBin op k a k b).map V.d = some v := by
  have n1 : (!decide (a < b)) = decide (a ≥ b) := by rw [Bool.eq_iff_iff]; simp
  have n2 : (!decide (b < a)) = decide (a ≤ b) := by rw [Bool.eq_iff_iff]; simp
  cases op <;> simp only [aluI, nI, bI_eq, fI_eq, wrapK_eq, addI_eq, subI_eq, mulI_eq, ltI_eq, eqI_eq, n1, n2] at h <;> first
    | (cases h; done)
    | (rw [← h]; simp only [intBin, if_true, Option.map_some]; done)
    | (rw [← h]; simp only [intBin, if_true, Option.map_some]; rfl)
def asI : V → Option (IntKind × Int)
  | .d x => match x with | .int k n => some (k, n) | _ => none
  | _ => none
def alu2 (P : Program) (op : BinOp) (t : TypeId) (x y : V) (k : IntKind) (a : Int) : Option (IntKind × Int) → Option V
  | some (k', b) => match Nat.beq (ixK k) (ixK k') with
    | true => match aluI op k a b with | some v => some v | none => binV P op t x y
    | false => binV P op t x y
  | none => binV P op t x y
def alu1 (P : Program) (op : BinOp) (t : TypeId) (x y : V) : Option (IntKind × Int) → Option V
  | some (k, a) => alu2 P op t x y k a (asI y)
  | none => binV P op t x y
def binK (P : Program) (op : BinOp) (t : TypeId) (x y : V) : Option V := alu1 P op t x y (asI x)
theorem asI_eq {v : V} {k : IntKind} {n : Int} (h : asI v = some (k, n)) : v = .d (.int k n) := by
  unfold asI at h
  split at h
  · split at h
    · simp only [Option.some.injEq, Prod.mk.injEq] at h; obtain ⟨rfl, rfl⟩ := h; rfl
    · cases h
  · cases h
theorem binK_eq {P : Program} {op : BinOp} {t : TypeId} {x y : V} : binK P op t x y = binV P op t x y := by
  unfold binK
  cases hx : asI x with
  | none => rfl
  | some q =>
    obtain ⟨k, a⟩ := q
    simp only [alu1]
    cases hy : asI y with
    | none => rfl
    | some q =>
      obtain ⟨k', b⟩ := q
      simp only [alu2]
      cases hb : Nat.beq (ixK k) (ixK k') with
      | false => rfl
      | true =>
        have := ixK_inj hb
        subst this
        simp only
        cases ha : aluI op k a b with
        | none => rfl
        | some v =>
          have := aluI_eq ha
          rw [asI_eq hx, asI_eq hy]
          exact this.symm
/-- An operation, told apart ahead of its run. -/
inductive KI where
  | mv (d : Option Tmp) (x : Operand)
  | alu (d : Option Tmp) (op : BinOp) (t : TypeId) (x y : Operand)
  | oth
def kiOp : Op → Option Tmp → KI
  | .move x => fun d => .mv d x
  | .assign x => fun d => .mv d x
  | .binOp op t x y _ => fun d => .alu d op t x y
  | _ => fun _ => .oth
def toKI (o : Oper) : KI := match o.guard with | none => kiOp o.op o.dst | some _ => .oth
def aluS (d : Option Tmp) (E : Tr) (S : Store) (F : Dfs) (k : KontK) : Option V → Option (Ex × Tr × Store × Dfs)
  | some v => k (putE E d v) S F
  | none => none
def stepJ (C : Cfg) (call : CallF) (ops : Array Oper) (o : Oper) (r : List Oper) (k : KontK) (k2 : Tr → KontK) (E : Tr) (S : Store) (F : Dfs) : KI → Option (Ex × Tr × Store × Dfs)
  | .mv d x => k (putE E d (evalE E x)) S F
  | .alu d op t x y => aluS d E S F k (binK C.P op t (evalE E x) (evalE E y))
  | .oth => match isBS o.op with
    | false => wantK C call o E S F k (wantedK ops E o)
    | true => match litK C.P E o r with
      | some E' => k2 E' E S F
      | none => wantK C call o E S F k (wantedK ops E o)
/-- What goes on at a list, and at what is behind its first. -/
def seqP (C : Cfg) (call : CallF) (ops : Array Oper) (l : List Oper) : KontK × KontK :=
  List.rec (fun E S F => some (.norm, E, S, F), fun _ _ _ => none) (fun o r p => (fun E S F => stepJ C call ops o r p.1 (fun E' _ S F => p.2 E' S F) E S F (toKI o), p.1)) l
def seqJ (C : Cfg) (call : CallF) (ops : Array Oper) (l : List Oper) : KontK := (seqP C call ops l).1
theorem seqJ_nil {C : Cfg} {call : CallF} {ops : Array Oper} {E S F} : seqJ C call ops [] E S F = some (.norm, E, S, F) := rfl
theorem seqJ_cons {C : Cfg} {call : CallF} {ops : Array Oper} {o : Oper} {r : List Oper} {E S F} : seqJ C call ops (o :: r) E S F = stepJ C call ops o r (seqJ C call ops r) (fun E' _ S F => match r with | _ :: r' => seqJ C call ops r' E' S F | [] => none) E S F (toKI o) := by
  cases r <;> rfl
section
variable {C : Cfg} {call call' : CallF}
theorem toKI_mv {o : Oper} {d : Option Tmp} {x : Operand} (h : toKI o = .mv d x) : o.guard = none ∧ o.dst = d ∧ isBS o.op = false ∧ ∀ P S T, opV P S T o = some (.val (evalO T x) S 0) := by
  obtain ⟨dst, op, ty, pos, after, g⟩ := o
  cases g with
  | some g => cases h
  | none =>
    cases op <;> first | (cases h; done) | (simp only [toKI, kiOp, KI.mv.injEq] at h; obtain ⟨rfl, rfl⟩ := h; exact ⟨rfl, rfl, rfl, fun _ _ _ => rfl⟩)
theorem toKI_alu {o : Oper} {d : Option Tmp} {op : BinOp} {t : TypeId} {x y : Operand} (h : toKI o = .alu d op t x y) : o.guard = none ∧ o.dst = d ∧ isBS o.op = false ∧ ∀ P S T, opV P S T o = (binV P op t (evalO T x) (evalO T y)).map fun v => .val v S 0 := by
  obtain ⟨dst, op', ty, pos, after, g⟩ := o
  cases g with
  | some g => cases h
  | none =>
    cases op' <;> first | (cases h; done) | (simp only [toKI, kiOp, KI.alu.injEq] at h; obtain ⟨rfl, rfl, rfl, rfl, rfl⟩ := h; exact ⟨rfl, rfl, rfl, fun _ _ _ => rfl⟩)
theorem seqJ_ok (hc : CallLe call call') {ops : Array Oper} : ∀ l : List Oper, KOk (seqJ C call ops l) (seqV C call' ops l)
  | [] => fun E T S F x E' S' F' h hs => by
    simp only [seqJ_nil, Option.some.injEq, Prod.mk.injEq] at hs
    obtain ⟨rfl, rfl, rfl, rfl⟩ := hs
    exact ⟨T, h, rfl⟩
  | o :: r => fun E T S F x E' S' F' h hs => by
    rw [seqJ_cons] at hs
    cases hk : toKI o with
    | mv d y =>
      obtain ⟨h1, h2, h3, h4⟩ := toKI_mv hk
      rw [hk] at hs
      simp only [stepJ] at hs
      rw [seqV_cons' (litPair_bs h3)]
      simp only [wantedT, h1, h4]
      rw [h.eval, ← h2] at hs
      exact seqJ_ok hc r _ _ _ _ _ _ _ _ (h.put _ _) hs
    | alu d op t y z =>
      obtain ⟨h1, h2, h3, h4⟩ := toKI_alu hk
      rw [hk] at hs
      simp only [stepJ, binK_eq] at hs
      rw [h.eval] at hs
      rw [seqV_cons' (litPair_bs h3)]
      simp only [wantedT, h1, h4]
      cases hb : binV C.P op t (evalO T y) (evalO T z) with
      | none => simp [hb, aluS] at hs
      | some v =>
        rw [hb, ← h2] at hs
        exact seqJ_ok hc r _ _ _ _ _ _ _ _ (h.put _ _) hs
    | oth =>
      rw [hk] at hs
      simp only [stepJ] at hs
      cases hb : isBS o.op with
      | false =>
        simp only [hb] at hs
        exact wantK_ok hc (seqJ_ok hc r) h (litPair_bs hb) hs
      | true =>
        simp only [hb] at hs
        obtain ⟨l1, l2⟩ := litK_eq (P := C.P) h (o := o) (l := r)
        cases hl : litK C.P E o r with
        | none =>
          simp only [hl] at hs
          exact wantK_ok hc (seqJ_ok hc r) h (l1 hl) hs
        | some E2 =>
          simp only [hl] at hs
          obtain ⟨T2, h2, h3⟩ := l2 _ hl
          cases r with
          | nil => cases hs
          | cons o2 r' =>
            simp only at hs
            obtain ⟨T', h4, h5⟩ := seqJ_ok hc r' _ _ _ _ _ _ _ _ h3 hs
            exact ⟨T', h4, by simp only [seqV, h2]; exact h5⟩
end
end Go.Vm
