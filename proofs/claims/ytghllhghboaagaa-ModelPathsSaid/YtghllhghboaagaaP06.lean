/- The value machine: variables in the store, as rules of rewriting. -/
import Derived.Test.YtghllhghboaagaaP05
/-! The value machine: variables in the store, as rules of rewriting. -/
section
set_option linter.unusedVariables false
set_option linter.unusedSimpArgs false
namespace Go.Vm
/-- The element of a row of the store. -/
def rowE (S : Store) (id ix : Nat) : Option V := match S[id]? with | some (.row xs _) => xs[ix]? | _ => none
def loadR (P : Program) (t : TypeId) (off : Nat) : Option V → Option V
  | some x => if off = 0 && fitsT P t x then some x else partV P t x.cells off
  | none => none
def storeR (P : Program) (t : TypeId) (off : Nat) (v x : V) : Option V :=
  if fitsT P t v then
    if off = 0 && (x.cells.length == v.cells.length) && (x.isAgg == v.isAgg) then some v
    else if off + v.cells.length ≤ x.cells.length && x.isAgg then some (.agg (x.cells.take off ++ v.cells ++ x.cells.drop (off + v.cells.length)))
    else none
  else none
def putRow (S : Store) (id ix : Nat) (y : V) : Option Store := match S[id]? with | some (.row xs e) => some (S.set id (.row (xs.set ix y) e)) | _ => none
def storeO (S : Store) (id ix : Nat) : Option V → Option Store | some y => putRow S id ix y | none => none
section
variable {C : Cfg} {P : Program} {S : Store} {id ix off : Nat}
/-- A row is read, not one that stays. -/
theorem loadV_row {t : TypeId} {x : V} (h : rowE S id ix = some x) : loadV P S t (.ref id ix off) = loadR P t off (some x) := by
  unfold rowE at h
  split at h
  · rename_i xs e ho
    simp only [loadV, ho, h, loadR]
  · cases h
theorem storeV_row {t : TypeId} {v x : V} (h : rowE S id ix = some x) : storeV P S t (.ref id ix off) v = storeO S id ix (storeR P t off v x) := by
  unfold rowE at h
  split at h
  · rename_i xs e ho
    simp only [storeV, ho, h, storeR]
    split
    · split
      · simp only [storeO, putRow, ho]
      · split
        · simp only [storeO, putRow, ho]
        · rfl
    · rfl
  · cases h
theorem rowE_zero {x : V} {r : List V} {e : TypeId} {S : Store} : rowE (.row (x :: r) e :: S) 0 0 = some x := rfl
theorem rowE_succ {o : Ob} {S : Store} {i : Nat} : rowE (o :: S) (i + 1) ix = rowE S i ix := by
  unfold rowE
  rw [List.getElem?_cons_succ]
theorem putRow_zero {x y : V} {r : List V} {e : TypeId} {S : Store} : putRow (.row (x :: r) e :: S) 0 0 y = some (.row (y :: r) e :: S) := rfl
theorem putRow_succ {o : Ob} {S : Store} {i : Nat} {y : V} : putRow (o :: S) (i + 1) ix y = (putRow S i ix y).map fun S' => o :: S' := by
  unfold putRow
  rw [List.getElem?_cons_succ]
  cases S[i]? with
  | none => rfl
  | some o => cases o <;> rfl
theorem rowE_of {x : V} {e : TypeId} (h : S[id]? = some (.row [x] e)) : rowE S id 0 = some x := by
  unfold rowE; rw [h]; rfl
theorem storeO_some {y : V} : storeO S id ix (some y) = putRow S id ix y := rfl
end
section
variable {C : Cfg} {ops : Array Oper} {dst : Option Tmp} {ty : TypeId} {pos : String} {after : Array Edge} {l : List Oper} {T : List V} {S : Store} {F : Dfs} {Q : Post}
theorem wl_alloc' {e : TypeId} : WpL C ops (⟨dst, .alloc e, ty, pos, after, none⟩ :: l) T S F Q = match zeroV C.P e with | some z => (if fitsT C.P e z = true then WpL C ops l (putT T dst (.ref S.length 0 0)) (S ++ [.row [z] e]) F Q else False) | none => False := by
  rw [wl_op rfl]
  simp only [opV]
  cases zeroV C.P e with
  | none => rfl
  | some z =>
    simp only
    split <;> rfl
theorem wl_box' {e : TypeId} {x : Operand} : WpL C ops (⟨dst, .box e x, ty, pos, after, none⟩ :: l) T S F Q = if fitsT C.P e (evalO T x) = true then WpL C ops l (putT T dst (.ref S.length 0 0)) (S ++ [.row [evalO T x] e]) F Q else False := by
  rw [wl_op rfl]
  simp only [opV]
  split <;> rfl
end
theorem own_fits {P : Program} {S : Store} {v : V} {e t : TypeId} {xs : List V} (h : OwnS S v e xs) (ha : aggT P t = false) (hs : sz P t = some 1) : fitsT P t v = true := by
  rcases h with ⟨rfl, _⟩ | ⟨id, rfl, _⟩ <;> simp [fitsT, V.one, V.isAgg, V.cells, ha, hs]
theorem own_cells {S : Store} {v : V} {e : TypeId} {xs : List V} (h : OwnS S v e xs) : v.cells = [v] := by
  rcases h with ⟨rfl, _⟩ | ⟨id, rfl, _⟩ <;> rfl
/-- What is read of a row; or as the machine has it. -/
def loadX (P : Program) (S : Store) (t : TypeId) (id ix off : Nat) : Option V → Option V | some x => loadR P t off (some x) | none => loadV P S t (.ref id ix off)
def storeX (P : Program) (S : Store) (t : TypeId) (id ix off : Nat) (v : V) : Option V → Option Store | some x => storeO S id ix (storeR P t off v x) | none => storeV P S t (.ref id ix off) v
theorem loadX_eq {P : Program} {S : Store} {t : TypeId} {id ix off : Nat} : loadV P S t (.ref id ix off) = loadX P S t id ix off (rowE S id ix) := by
  cases h : rowE S id ix with
  | none => rfl
  | some x => exact loadV_row h
theorem storeX_eq {P : Program} {S : Store} {t : TypeId} {id ix off : Nat} {v : V} : storeV P S t (.ref id ix off) v = storeX P S t id ix off v (rowE S id ix) := by
  cases h : rowE S id ix with
  | none => rfl
  | some x => exact storeV_row h
/-- The rules on variables. -/
theorem vmb :
  (∀ {x : V} {r : List V} {e : TypeId} {S : Store}, rowE (.row (x :: r) e :: S) 0 0 = some x) ∧
  (∀ {o : Ob} {S : Store} {i ix : Nat}, rowE (o :: S) (i + 1) ix = rowE S i ix) ∧
  (∀ {x y : V} {r : List V} {e : TypeId} {S : Store}, putRow (.row (x :: r) e :: S) 0 0 y = some (.row (y :: r) e :: S)) ∧
  (∀ {o : Ob} {S : Store} {i ix : Nat} {y : V}, putRow (o :: S) (i + 1) ix y = (putRow S i ix y).map fun S' => o :: S') ∧
  (∀ {S : Store} {id ix : Nat} {y : V}, storeO S id ix (some y) = putRow S id ix y) ∧
  (∀ {C : Cfg} {ops : Array Oper} {dst : Option Tmp} {ty : TypeId} {pos : String} {after : Array Edge} {l : List Oper} {T : List V} {S : Store} {F : Dfs} {Q : Post} {e : TypeId}, WpL C ops (⟨dst, .alloc e, ty, pos, after, none⟩ :: l) T S F Q = match zeroV C.P e with | some z => (if fitsT C.P e z = true then WpL C ops l (putT T dst (.ref S.length 0 0)) (S ++ [.row [z] e]) F Q else False) | none => False) ∧
  (∀ {C : Cfg} {ops : Array Oper} {dst : Option Tmp} {ty : TypeId} {pos : String} {after : Array Edge} {l : List Oper} {T : List V} {S : Store} {F : Dfs} {Q : Post} {e : TypeId} {x : Operand}, WpL C ops (⟨dst, .box e x, ty, pos, after, none⟩ :: l) T S F Q = if fitsT C.P e (evalO T x) = true then WpL C ops l (putT T dst (.ref S.length 0 0)) (S ++ [.row [evalO T x] e]) F Q else False) ∧
  (∀ {P : Program} {S : Store} {t : TypeId} {id ix off : Nat}, loadV P S t (.ref id ix off) = loadX P S t id ix off (rowE S id ix)) ∧
  (∀ {P : Program} {S : Store} {t : TypeId} {id ix off : Nat} {v : V}, storeV P S t (.ref id ix off) v = storeX P S t id ix off v (rowE S id ix)) ∧
  (∀ {P : Program} {S : Store} {t : TypeId} {id ix off : Nat} {x : V}, loadX P S t id ix off (some x) = loadR P t off (some x)) ∧
  (∀ {P : Program} {S : Store} {t : TypeId} {id ix off : Nat} {v x : V}, storeX P S t id ix off v (some x) = storeO S id ix (storeR P t off v x)) ∧
  (∀ {α : Type}, ([] : List α).length = 0) ∧
  (∀ {α : Type} {a : α} {l : List α}, (a :: l).length = l.length + 1) :=
  ⟨rfl, rowE_succ, rfl, putRow_succ, rfl, wl_alloc', wl_box', loadX_eq, storeX_eq, rfl, rfl, rfl, rfl⟩
theorem sb_eql {a b : List UInt8} : strBin .eql a b = some (.bool (decide (a = b))) := by
  have : (a == b) = decide (a = b) := by rw [Bool.eq_iff_iff]; simp
  simp only [strBin, this]
theorem sb_neq {a b : List UInt8} : strBin .neq a b = some (.bool (decide (a ≠ b))) := by
  have : (!(a == b)) = decide (a ≠ b) := by rw [Bool.eq_iff_iff]; simp
  simp only [strBin, this]
/-- Operations, whatever their guard. -/
theorem vmo :
  (∀ {P : Program} {S : Store} {T : List V} {dst : Option Tmp} {ty : TypeId} {pos : String} {after : Array Edge} {g : Option (Nat × Bool)} {x : Operand}, opV P S T ⟨dst, .move x, ty, pos, after, g⟩ = some (.val (evalO T x) S 0)) ∧
  (∀ {P : Program} {S : Store} {T : List V} {dst : Option Tmp} {ty : TypeId} {pos : String} {after : Array Edge} {g : Option (Nat × Bool)} {x : Operand}, opV P S T ⟨dst, .assign x, ty, pos, after, g⟩ = some (.val (evalO T x) S 0)) ∧
  (∀ {P : Program} {S : Store} {T : List V} {dst : Option Tmp} {ty : TypeId} {pos : String} {after : Array Edge} {g : Option (Nat × Bool)} {op : BinOp} {t u : TypeId} {x y : Operand}, opV P S T ⟨dst, .binOp op t x y u, ty, pos, after, g⟩ = (binV P op t (evalO T x) (evalO T y)).map fun v => .val v S 0) ∧
  (∀ {P : Program} {S : Store} {T : List V} {dst : Option Tmp} {ty : TypeId} {pos : String} {after : Array Edge} {g : Option (Nat × Bool)} {op : UnOp} {t : TypeId} {x : Operand}, opV P S T ⟨dst, .unOp op t x, ty, pos, after, g⟩ = (unV op (evalO T x)).map fun v => .val v S 0) ∧
  (∀ {P : Program} {S : Store} {T : List V} {dst : Option Tmp} {ty : TypeId} {pos : String} {after : Array Edge} {g : Option (Nat × Bool)} {t : TypeId} {x y : Operand}, opV P S T ⟨dst, .indexAddr t x y, ty, pos, after, g⟩ = (indexAddrV P S t (evalO T x) (evalO T y)).map fun v => .val v S 1) ∧
  (∀ {P : Program} {S : Store} {T : List V} {dst : Option Tmp} {ty : TypeId} {pos : String} {after : Array Edge} {g : Option (Nat × Bool)} {t : TypeId} {x y : Operand}, opV P S T ⟨dst, .index t x y, ty, pos, after, g⟩ = (indexV P t (evalO T x) (evalO T y)).map fun v => .val v S 0) ∧
  (∀ {P : Program} {S : Store} {T : List V} {dst : Option Tmp} {ty : TypeId} {pos : String} {after : Array Edge} {g : Option (Nat × Bool)} {t : TypeId} {x : Operand} {f : Nat}, opV P S T ⟨dst, .fieldAddr t x f, ty, pos, after, g⟩ = (fieldAddrV P t f (evalO T x)).map fun v => .val v S 0) ∧
  (∀ {P : Program} {S : Store} {T : List V} {dst : Option Tmp} {ty : TypeId} {pos : String} {after : Array Edge} {g : Option (Nat × Bool)} {t : TypeId} {x : Operand} {f : Nat}, opV P S T ⟨dst, .field t x f, ty, pos, after, g⟩ = (fieldV P t f (evalO T x)).map fun v => .val v S 0) ∧
  (∀ {P : Program} {S : Store} {T : List V} {dst : Option Tmp} {ty : TypeId} {pos : String} {after : Array Edge} {g : Option (Nat × Bool)} {t : TypeId} {x : Operand}, opV P S T ⟨dst, .load t x, ty, pos, after, g⟩ = (loadV P S t (evalO T x)).map fun v => .val v S 1) ∧
  (∀ {P : Program} {S : Store} {T : List V} {dst : Option Tmp} {ty : TypeId} {pos : String} {after : Array Edge} {g : Option (Nat × Bool)} {t : TypeId} {x y : Operand}, opV P S T ⟨dst, .store t x y, ty, pos, after, g⟩ = (storeV P S t (evalO T x) (evalO T y)).map fun S' => .skip S' 3) ∧
  (∀ {P : Program} {S : Store} {T : List V} {dst : Option Tmp} {ty : TypeId} {pos : String} {after : Array Edge} {g : Option (Nat × Bool)} {t u : TypeId} {x : Operand}, opV P S T ⟨dst, .convert t u x, ty, pos, after, g⟩ = (convertV P S t u (evalO T x)).map fun r => .val r.1 S r.2) ∧
  (∀ {P : Program} {S : Store} {T : List V} {dst : Option Tmp} {ty : TypeId} {pos : String} {after : Array Edge} {g : Option (Nat × Bool)} {t : TypeId} {x : Operand} {lo hi : Option Operand}, opV P S T ⟨dst, .slice t x lo hi none, ty, pos, after, g⟩ = (sliceV P S t (evalO T x) (lo.map (evalO T)) (hi.map (evalO T))).map fun v => .val v S 1) ∧
  (∀ {P : Program} {S : Store} {T : List V} {dst : Option Tmp} {ty : TypeId} {pos : String} {after : Array Edge} {g : Option (Nat × Bool)} {t : TypeId} {x k : Operand} {ok : Bool}, opV P S T ⟨dst, .lookup t x k ok, ty, pos, after, g⟩ = (lookupV P S t (evalO T x) (evalO T k) ok).map fun v => .val v S 1) ∧
  (∀ {P : Program} {S : Store} {T : List V} {dst : Option Tmp} {ty : TypeId} {pos : String} {after : Array Edge} {g : Option (Nat × Bool)} {b : Builtin} {args : Array Operand} {ts : Array TypeId}, opV P S T ⟨dst, .call { callee := .builtin b, args := args, argTypes := ts }, ty, pos, after, g⟩ = builtinV P S b ts.toList (args.toList.map (evalO T))) ∧
  (∀ {P : Program} {S : Store} {T : List V} {dst : Option Tmp} {ty : TypeId} {pos : String} {after : Array Edge} {g : Option (Nat × Bool)} {t : TypeId} {ps : Array (Nat × Operand)}, opV P S T ⟨dst, .build t ps, ty, pos, after, g⟩ = (buildV P t (ps.toList.map fun p => (p.1, evalO T p.2))).map fun v => .val v S 0) ∧
  (∀ {P : Program} {S : Store} {T : List V} {dst : Option Tmp} {ty : TypeId} {pos : String} {after : Array Edge} {g : Option (Nat × Bool)} {x : Operand} {i : Nat}, opV P S T ⟨dst, .extract x i, ty, pos, after, g⟩ = match evalO T x with | .tup vs => (match vs[i]? with | some v => some (.val v S 0) | none => none) | _ => none) ∧
  (∀ {P : Program} {S : Store} {T : List V} {dst : Option Tmp} {ty : TypeId} {pos : String} {after : Array Edge} {g : Option (Nat × Bool)} {c a b : Operand}, opV P S T ⟨dst, .pick c a b, ty, pos, after, g⟩ = match evalO T c with | .d (.bool true) => some (.val (evalO T a) S 0) | .d (.bool false) => some (.val (evalO T b) S 0) | _ => none) ∧
  (∀ {P : Program} {S : Store} {T : List V} {dst : Option Tmp} {ty : TypeId} {pos : String} {after : Array Edge} {g : Option (Nat × Bool)} {h : FuncId} {args : Array Operand} {ts : Array TypeId}, opV P S T ⟨dst, .call { callee := .value (.func h), args := args, argTypes := ts }, ty, pos, after, g⟩ = if (args.toList.map (evalO T)).all V.one && (bodyOf P h).isSome then some (.enter h ([] ++ args.toList.map (evalO T) ++ [])) else none) :=
  ⟨rfl, rfl, rfl, rfl, rfl, rfl, rfl, rfl, rfl, rfl, rfl, rfl, rfl, rfl, rfl, rfl, rfl, rfl⟩
/-- A guard's word. -/
def wantG (ops : Array Oper) (T : List V) : Option (Nat × Bool) → Option Bool
  | none => some true
  | some (j, want) => (yieldT ops T j).map (· == some want)
def yieldD (T : List V) : Option Tmp → Option (Option Bool)
  | none => some none
  | some d => match T[d]? with
    | none => some none
    | some (.d (.bool b)) => some (some b)
    | some (.tup _) => some none
    | some _ => none
theorem vmg :
  (∀ {ops : Array Oper} {T : List V} {dst : Option Tmp} {op : Op} {ty : TypeId} {pos : String} {after : Array Edge} {g : Option (Nat × Bool)}, wantedT ops T ⟨dst, op, ty, pos, after, g⟩ = wantG ops T g) ∧
  (∀ {ops : Array Oper} {T : List V}, wantG ops T none = some true) ∧
  (∀ {ops : Array Oper} {T : List V} {j : Nat} {b : Bool}, wantG ops T (some (j, b)) = (yieldT ops T j).map (· == some b)) ∧
  (∀ {ops : Array Oper} {T : List V} {j : Nat}, yieldT ops T j = yieldD T ((ops[j]?).bind (·.dst))) ∧
  (∀ {T : List V} {d : Tmp}, yieldD T (some d) = match T[d]? with | none => some none | some (.d (.bool b)) => some (some b) | some (.tup _) => some none | some _ => none) ∧
  (∀ {a : V} {l : List V}, (a :: l)[0]? = some a) ∧
  (∀ {a : V} {l : List V} {n : Nat}, (a :: l)[n + 1]? = l[n]?) ∧
  (∀ {a : Oper} {l : List Oper}, ((a :: l).toArray)[0]? = some a) ∧
  (∀ {a : Oper} {l : List Oper} {n : Nat}, ((a :: l).toArray)[n + 1]? = (l.toArray)[n]?) ∧
  (∀ {α β : Type} {a : α} {f : α → Option β}, (some a).bind f = f a) ∧
  (∀ {b : Bool}, (some b == some true) = b) ∧
  (∀ {b : Bool}, (some b == some false) = !b) ∧
  (((none : Option Bool) == some true) = false) ∧
  (((none : Option Bool) == some false) = false) :=
  ⟨rfl, rfl, rfl, rfl, rfl, rfl, rfl, by simp, by simp, rfl, by intro b; cases b <;> rfl, by intro b; cases b <;> rfl, rfl, rfl⟩
/-- What adds to the store, and what does not. -/
theorem vmk :
  (∀ {dst : Option Tmp} {ty : TypeId} {pos : String} {after : Array Edge} {g : Option (Nat × Bool)} {x : Operand}, addsK ⟨dst, .move x, ty, pos, after, g⟩ = false) ∧
  (∀ {dst : Option Tmp} {ty : TypeId} {pos : String} {after : Array Edge} {g : Option (Nat × Bool)} {x : Operand}, addsK ⟨dst, .assign x, ty, pos, after, g⟩ = false) ∧
  (∀ {dst : Option Tmp} {ty : TypeId} {pos : String} {after : Array Edge} {g : Option (Nat × Bool)} {op : BinOp} {t u : TypeId} {x y : Operand}, addsK ⟨dst, .binOp op t x y u, ty, pos, after, g⟩ = false) ∧
  (∀ {dst : Option Tmp} {ty : TypeId} {pos : String} {after : Array Edge} {g : Option (Nat × Bool)} {op : UnOp} {t : TypeId} {x : Operand}, addsK ⟨dst, .unOp op t x, ty, pos, after, g⟩ = false) ∧
  (∀ {dst : Option Tmp} {ty : TypeId} {pos : String} {after : Array Edge} {g : Option (Nat × Bool)} {t : TypeId} {x y : Operand}, addsK ⟨dst, .indexAddr t x y, ty, pos, after, g⟩ = false) ∧
  (∀ {dst : Option Tmp} {ty : TypeId} {pos : String} {after : Array Edge} {g : Option (Nat × Bool)} {t : TypeId} {x y : Operand}, addsK ⟨dst, .index t x y, ty, pos, after, g⟩ = false) ∧
  (∀ {dst : Option Tmp} {ty : TypeId} {pos : String} {after : Array Edge} {g : Option (Nat × Bool)} {t : TypeId} {x : Operand} {f : Nat}, addsK ⟨dst, .fieldAddr t x f, ty, pos, after, g⟩ = false) ∧
  (∀ {dst : Option Tmp} {ty : TypeId} {pos : String} {after : Array Edge} {g : Option (Nat × Bool)} {t : TypeId} {x : Operand} {f : Nat}, addsK ⟨dst, .field t x f, ty, pos, after, g⟩ = false) ∧
  (∀ {dst : Option Tmp} {ty : TypeId} {pos : String} {after : Array Edge} {g : Option (Nat × Bool)} {t : TypeId} {x : Operand}, addsK ⟨dst, .load t x, ty, pos, after, g⟩ = false) ∧
  (∀ {dst : Option Tmp} {ty : TypeId} {pos : String} {after : Array Edge} {g : Option (Nat × Bool)} {t : TypeId} {x y : Operand}, addsK ⟨dst, .store t x y, ty, pos, after, g⟩ = false) ∧
  (∀ {dst : Option Tmp} {ty : TypeId} {pos : String} {after : Array Edge} {g : Option (Nat × Bool)} {t u : TypeId} {x : Operand}, addsK ⟨dst, .convert t u x, ty, pos, after, g⟩ = false) ∧
  (∀ {dst : Option Tmp} {ty : TypeId} {pos : String} {after : Array Edge} {g : Option (Nat × Bool)} {t : TypeId} {x : Operand} {lo hi m : Option Operand}, addsK ⟨dst, .slice t x lo hi m, ty, pos, after, g⟩ = false) ∧
  (∀ {dst : Option Tmp} {ty : TypeId} {pos : String} {after : Array Edge} {g : Option (Nat × Bool)} {t : TypeId} {x k : Operand} {ok : Bool}, addsK ⟨dst, .lookup t x k ok, ty, pos, after, g⟩ = false) ∧
  (∀ {dst : Option Tmp} {ty : TypeId} {pos : String} {after : Array Edge} {g : Option (Nat × Bool)} {c : Call}, addsK ⟨dst, .call c, ty, pos, after, g⟩ = false) ∧
  (∀ {dst : Option Tmp} {ty : TypeId} {pos : String} {after : Array Edge} {g : Option (Nat × Bool)} {t : TypeId} {ps : Array (Nat × Operand)}, addsK ⟨dst, .build t ps, ty, pos, after, g⟩ = false) ∧
  (∀ {dst : Option Tmp} {ty : TypeId} {pos : String} {after : Array Edge} {g : Option (Nat × Bool)} {t : TypeId} {n : Nat} {ps : Array (Nat × Operand)}, addsK ⟨dst, .buildSlice t n ps, ty, pos, after, g⟩ = false) ∧
  (∀ {dst : Option Tmp} {ty : TypeId} {pos : String} {after : Array Edge} {g : Option (Nat × Bool)} {x : Operand} {i : Nat}, addsK ⟨dst, .extract x i, ty, pos, after, g⟩ = false) ∧
  (∀ {dst : Option Tmp} {ty : TypeId} {pos : String} {after : Array Edge} {g : Option (Nat × Bool)} {c a b : Operand}, addsK ⟨dst, .pick c a b, ty, pos, after, g⟩ = false) ∧
  (∀ {dst : Option Tmp} {ty : TypeId} {pos : String} {after : Array Edge} {g : Option (Nat × Bool)} {x : Operand}, addsK ⟨dst, .nilCheck x, ty, pos, after, g⟩ = false) ∧
  (∀ {dst : Option Tmp} {ty : TypeId} {pos : String} {after : Array Edge} {g : Option (Nat × Bool)} {t : TypeId} {m k v : Operand}, addsK ⟨dst, .mapUpdate t m k v, ty, pos, after, g⟩ = false) ∧
  (∀ {dst : Option Tmp} {ty : TypeId} {pos : String} {after : Array Edge} {g : Option (Nat × Bool)} {e : TypeId}, addsK ⟨dst, .alloc e, ty, pos, after, g⟩ = true) ∧
  (∀ {dst : Option Tmp} {ty : TypeId} {pos : String} {after : Array Edge} {g : Option (Nat × Bool)} {e : TypeId} {x : Operand}, addsK ⟨dst, .box e x, ty, pos, after, g⟩ = true) :=
  ⟨rfl, rfl, rfl, rfl, rfl, rfl, rfl, rfl, rfl, rfl, rfl, rfl, rfl, rfl, rfl, rfl, rfl, rfl, rfl, rfl, rfl, rfl⟩
section
variable {C : Cfg} {ops : Array Oper} {base : Nat} {F : Dfs} {Q : Post}
/-- One that adds, or not. -/
def WpX (C : Cfg) (ops : Array Oper) (base : Nat) (F : Dfs) (Q : Post) (rd : List Nat) (cs : List (Nat × Nat)) (i : Nat) (is : List Nat) (T : List V) (S : Store) (o : Oper) : Bool → Prop
  | true => WpA base (fun cs T S => WpD C ops base F Q rd cs is T S) cs i o.dst T S (addO C.P T o)
  | false => WpE C ops F Q (fun rd cs T S => WpD C ops base F Q rd cs is T S) rd cs i o.dst T S (opV C.P S T o)
/-- One operation of a region that draws. -/
def WpO (C : Cfg) (ops : Array Oper) (base : Nat) (F : Dfs) (Q : Post) (rd : List Nat) (cs : List (Nat × Nat)) (i : Nat) (is : List Nat) (T : List V) (S : Store) (o : Oper) : Option Bool → Prop
  | none => False
  | some false => WpD C ops base F Q rd (cs ++ [(i, 0)]) is (putT T o.dst (.tup [])) S
  | some true => WpX C ops base F Q rd cs i is T S o (addsK o)
def WpI (C : Cfg) (ops : Array Oper) (base : Nat) (F : Dfs) (Q : Post) (rd : List Nat) (cs : List (Nat × Nat)) (i : Nat) (is : List Nat) (T : List V) (S : Store) : Option Oper → Prop
  | none => False
  | some o => WpO C ops base F Q rd cs i is T S o (wantedT ops T o)
theorem wpI_eq {rd : List Nat} {cs : List (Nat × Nat)} {i : Nat} {is : List Nat} {T : List V} {S : Store} : WpD C ops base F Q rd cs (i :: is) T S = WpI C ops base F Q rd cs i is T S (ops[i]?) := by
  rw [wd_cons]
  unfold WpI WpO
  cases ops[i]? with
  | none => rfl
  | some o =>
    simp only
    cases wantedT ops T o with
    | none => rfl
    | some b =>
      cases b with
      | false => rfl
      | true => cases addsK o <;> rfl
theorem vmd :
  (∀ {C : Cfg} {ops : Array Oper} {base : Nat} {F : Dfs} {Q : Post} {rd : List Nat} {cs : List (Nat × Nat)} {T : List V} {S : Store}, WpD C ops base F Q rd cs [] T S = (drawOk ops cs = true ∧ Q .norm T S F)) ∧
  (∀ {C : Cfg} {ops : Array Oper} {base : Nat} {F : Dfs} {Q : Post} {rd : List Nat} {cs : List (Nat × Nat)} {i : Nat} {is : List Nat} {T : List V} {S : Store}, WpD C ops base F Q rd cs (i :: is) T S = WpI C ops base F Q rd cs i is T S (ops[i]?)) ∧
  (∀ {C : Cfg} {ops : Array Oper} {base : Nat} {F : Dfs} {Q : Post} {rd : List Nat} {cs : List (Nat × Nat)} {i : Nat} {is : List Nat} {T : List V} {S : Store} {o : Oper}, WpI C ops base F Q rd cs i is T S (some o) = WpO C ops base F Q rd cs i is T S o (wantedT ops T o)) ∧
  (∀ {C : Cfg} {ops : Array Oper} {base : Nat} {F : Dfs} {Q : Post} {rd : List Nat} {cs : List (Nat × Nat)} {i : Nat} {is : List Nat} {T : List V} {S : Store} {o : Oper}, WpO C ops base F Q rd cs i is T S o (some false) = WpD C ops base F Q rd (cs ++ [(i, 0)]) is (putT T o.dst (.tup [])) S) ∧
  (∀ {C : Cfg} {ops : Array Oper} {base : Nat} {F : Dfs} {Q : Post} {rd : List Nat} {cs : List (Nat × Nat)} {i : Nat} {is : List Nat} {T : List V} {S : Store} {o : Oper}, WpO C ops base F Q rd cs i is T S o (some true) = WpX C ops base F Q rd cs i is T S o (addsK o)) ∧
  (∀ {C : Cfg} {ops : Array Oper} {base : Nat} {F : Dfs} {Q : Post} {rd : List Nat} {cs : List (Nat × Nat)} {i : Nat} {is : List Nat} {T : List V} {S : Store} {o : Oper}, WpX C ops base F Q rd cs i is T S o false = WpE C ops F Q (fun rd cs T S => WpD C ops base F Q rd cs is T S) rd cs i o.dst T S (opV C.P S T o)) ∧
  (∀ {C : Cfg} {ops : Array Oper} {base : Nat} {F : Dfs} {Q : Post} {rd : List Nat} {cs : List (Nat × Nat)} {i : Nat} {is : List Nat} {T : List V} {S : Store} {o : Oper}, WpX C ops base F Q rd cs i is T S o true = WpA base (fun cs T S => WpD C ops base F Q rd cs is T S) cs i o.dst T S (addO C.P T o)) ∧
  (∀ {C : Cfg} {ops : Array Oper} {F : Dfs} {Q : Post} {K : List Nat → List (Nat × Nat) → List V → Store → Prop} {rd : List Nat} {cs : List (Nat × Nat)} {i : Nat} {dst : Option Tmp} {T : List V} {S S' : Store} {v : V}, WpE C ops F Q K rd cs i dst T S (some (.val v S' 0)) = K rd (cs ++ [(i, 0)]) (putT T dst v) S') ∧
  (∀ {C : Cfg} {ops : Array Oper} {F : Dfs} {Q : Post} {K : List Nat → List (Nat × Nat) → List V → Store → Prop} {rd : List Nat} {cs : List (Nat × Nat)} {i : Nat} {dst : Option Tmp} {T : List V} {S S' : Store} {v : V}, WpE C ops F Q K rd cs i dst T S (some (.val v S' 1)) = K (i :: rd) (cs ++ [(i, 1)]) (putT T dst v) S') ∧
  (∀ {C : Cfg} {ops : Array Oper} {F : Dfs} {Q : Post} {K : List Nat → List (Nat × Nat) → List V → Store → Prop} {rd : List Nat} {cs : List (Nat × Nat)} {i : Nat} {dst : Option Tmp} {T : List V} {S S' : Store} {c : Nat}, WpE C ops F Q K rd cs i dst T S (some (.skip S' c)) = (bitsOk ops rd i 3 ∧ K rd (cs ++ [(i, 3)]) (putT T dst (.tup [])) S')) ∧
  (num2 0 = 0) ∧ (num2 1 = 1) ∧ (num2 2 = 3) ∧ (num2 3 = 3) ∧
  (∀ {α : Type} {l l' : List α} {a : α}, (a :: l) ++ l' = a :: (l ++ l')) :=
  ⟨rfl, wpI_eq, rfl, rfl, rfl, rfl, rfl, by intros; simp [WpE, bitsOk, num2], by intros; simp [WpE, bitsOk, num2], rfl, rfl, rfl, rfl, rfl, rfl⟩
end
end Go.Vm
end
/-! The value machine: calls apart whose arguments hold slices of the store. -/
section
set_option linter.unusedVariables false
set_option linter.unusedSimpArgs false
namespace Go.Vm
section
variable {C : Cfg} {S : Store}
theorem flat_d {n : Nat} : ∀ l : List D, (l.map V.d).flatMap (frzIds S n) = []
  | [] => rfl
  | x :: r => by
    rw [List.map_cons, List.flatMap_cons, flat_d r]
    cases n <;> rfl
/-- A row of data. -/
def RowD (S : Store) (i : Nat) : Prop := ∃ (xs : List D) (e : TypeId), S[i]? = some (.row (xs.map .d) e)
theorem mark_data {all : List Nat} : ∀ {ids : List Nat} {S1 : Store}, (∀ i ∈ ids, RowD S i) → ∃ S2, mark S all S1 ids = some S2
  | [], S1, _ => ⟨S1, rfl⟩
  | i :: r, S1, h => by
    obtain ⟨xs, e, hi⟩ := h i (by simp)
    obtain ⟨S2, h2⟩ := mark_data (all := all) (ids := r) (S1 := S1.set i (.fz xs e)) (fun j hj => h j (by simp [hj]))
    refine ⟨S2, ?_⟩
    have h3 : allO (frz S frzFuel) (xs.map V.d) = some xs := allO_d (n := 11) xs
    have h4 : (xs.map V.d).flatMap (frzIds S frzFuel) = [] := flat_d xs
    simp only [mark, hi, frzOb, h3, Option.map_some, obIds, h4, List.all_nil, if_true, h2]
theorem own_ids {e : TypeId} {v : V} {ds : List D} {n : Nat} (h : OwnS S v e (ds.map .d)) : ∀ i ∈ frzIds S (n + 1) v, RowD S i := by
  rcases h with ⟨rfl, _⟩ | ⟨id, rfl, h1⟩
  · intro i hi
    simp [frzIds] at hi
  · intro i hi
    have e1 : frzIds S (n + 1) (.rs id 0 (ds.map V.d).length) = (match S[id]? with | some (.row xs e) => id :: xs.flatMap (frzIds S n) | _ => []) := rfl
    rw [e1, h1] at hi
    simp only [flat_d, List.mem_singleton] at hi
    subst hi
    exact ⟨ds, e, h1⟩
theorem own_frzn {e : TypeId} {v : V} {ds : List D} {n : Nat} (ho : OwnS S v e (ds.map .d)) : frz S (n + 2) v = some (.sl ds) := by
  rcases ho with ⟨rfl, h⟩ | ⟨id, rfl, h1⟩
  · have : ds = [] := by simpa using h
    subst this; rfl
  · simp only [List.length_map]
    show (match S[id]? with
      | some (.row xs e) => if 0 + ds.length ≤ xs.length && (allO (frz S (n + 1)) xs).isSome then (allO (frz S (n + 1)) ((xs.drop 0).take ds.length)).map D.sl else none
      | some (.fz xs e) => if 0 + ds.length ≤ xs.length then some (D.sl ((xs.drop 0).take ds.length)) else none
      | _ => none) = _
    have h2 : ((ds.map V.d).drop 0).take ds.length = ds.map V.d := by rw [List.drop_zero, List.take_of_length_le (by simp)]
    simp only [h1, h2, allO_d, List.length_map, Option.isSome_some, Bool.and_true, Option.map_some]
    simp
/-- A call apart that may freeze rows of data. -/
theorem wr_call_mark {ops : Array Oper} {dst : Option Tmp} {l : List Oper} {T : List V} {F : Dfs} {Q : Post} {f : FuncId} {args : List V} {ds : List D} {v : V} (hs : C.shared f = false) (hf : allO (frz S frzFuel) args = some ds) (hi : ∀ i ∈ args.flatMap (frzIds S frzFuel), RowD S i) (he : Ev C f ds (.ret v))
    (hk : ∀ S2, WpL C ops l (putT T dst v) S2 F Q) : WpR C ops dst l T S F Q (some (.enter f args)) := by
  obtain ⟨n, hn⟩ := he
  have hn' : answer C (run C n) f ds = some (.ret v) := hn
  have : ∃ S2 c, callV C (run C n) f args S = some (.ret v, S2, c) := by
    unfold callV
    simp only [hs, Bool.false_eq_true, if_false, hf, hn']
    split
    · exact ⟨S, 1, rfl⟩
    · split
      · exact ⟨S, 1, rfl⟩
      · obtain ⟨S2, h2⟩ := mark_data (S := S) (all := args.flatMap (frzIds S frzFuel)) (S1 := S) hi
        rw [h2]
        exact ⟨S2, 3, rfl⟩
  obtain ⟨S2, c, hc⟩ := this
  exact ⟨n, .ret v, S2, c, hc, hk S2⟩
/-- A call apart of values without slices of the store. -/
theorem wr_call_v {ops : Array Oper} {dst : Option Tmp} {l : List Oper} {T : List V} {F : Dfs} {Q : Post} {f : FuncId} {args : List V} {ds : List D} {v : V} (hs : C.shared f = false) (hf : allO (frz S frzFuel) args = some ds) (hi : (args.flatMap (frzIds S frzFuel)).isEmpty = true) (he : Ev C f ds (.ret v)) :
    WpR C ops dst l T S F Q (some (.enter f args)) = WpL C ops l (putT T dst v) S F Q := by
  obtain ⟨n, hn⟩ := he
  have hn' : answer C (run C n) f ds = some (.ret v) := hn
  have hc : callV C (run C n) f args S = some (.ret v, S, 1) := by
    unfold callV
    simp only [hs, Bool.false_eq_true, if_false, hf, hn', hi, if_true]
  apply propext
  constructor
  · rintro ⟨m, o, S', c, h1, h2⟩
    have := callV_det h1 hc
    simp only [Prod.mk.injEq] at this
    obtain ⟨rfl, rfl, rfl⟩ := this
    exact h2
  · exact fun h => ⟨n, _, _, _, hc, h⟩
end
theorem putRow_of {S : Store} {id : Nat} {x y : V} {e : TypeId} (h : S[id]? = some (.row [x] e)) : putRow S id 0 y = some (S.set id (.row [y] e)) := by
  unfold putRow; rw [h]; rfl
theorem set_at {S : Store} {id : Nat} {o o' : Ob} (h : S[id]? = some o) : (S.set id o')[id]? = some o' := by
  have := getLen h
  simp [this]
theorem own_set {S : Store} {v : V} {e : TypeId} {xs : List V} {id : Nat} {o : Ob} (h : OwnS S v e xs) (hn : NotAt v id) : OwnS (S.set id o) v e xs := by
  rcases h with h | ⟨j, rfl, h1⟩
  · exact .inl h
  · refine .inr ⟨j, rfl, ?_⟩
    rw [List.getElem?_set_ne]
    · exact h1
    · rintro rfl; exact hn _ _ rfl
/-- A byte of a text. -/
theorem idx_str {P : Program} {t : TypeId} {s : List UInt8} {i : Nat} (hu : P.underlying t = some .string) (h : i < s.length) : indexV P t (.d (.str s)) (.d (.int .i64 i)) = some (.d (.int .u8 s[i].toNat)) := by
  have h0 : (0 : Int) ≤ i := by omega
  simp only [indexV, intOf?, hu, h0, if_true, Int.toNat_natCast, List.getElem?_eq_getElem h]
end Go.Vm
end
