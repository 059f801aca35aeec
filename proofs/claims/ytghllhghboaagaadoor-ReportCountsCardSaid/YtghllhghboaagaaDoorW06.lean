/- The value machine: variables in the store, as rules of rewriting. -/
import Derived.Shelf.Strconv.Itoa3
import Derived.Shelf.Strings.OnBuilder
import Derived.Test.YtghllhghboaagaaDoorProg
import Derived.KernelRfl
import Derived.ProofKit
import Derived.Deep.Slices
import Derived.OpenShut
import Derived.Test.YtghllhghboaagaaDoorRows
import Derived.LaidMore
import Derived.Lib.LaidTab
import Derived.Stop.LaidErr
import Derived.MakeChecks
import Derived.Test.YtghllhghboaagaaDoorW05
/-! The value machine: variables in the store, as rules of rewriting. -/
section
set_option linter.unusedVariables false
set_option linter.unusedSimpArgs false
namespace Go.Vm
/-- The element of a row of the store. -/
def rowE (S : Store) (id ix : Nat) : Option V := match S[id]? with | some (.row xs _) => xs[ix]? | _ => none
def loadR (P : Program) (t : TypeId) (off : Nat) : Option V → Option V
  | some x => if off = 0 && fitsT P t x then some x else partV P t x.cells off
  | none => none
def storeR (P : Program) (t : TypeId) (off : Nat) (v x : V) : Option V :=
  if fitsT P t v then
    if off = 0 && (x.cells.length == v.cells.length) && (x.isAgg == v.isAgg) then some v
    else if off + v.cells.length ≤ x.cells.length && x.isAgg then some (.agg (x.cells.take off ++ v.cells ++ x.cells.drop (off + v.cells.length)))
    else none
  else none
def putRow (S : Store) (id ix : Nat) (y : V) : Option Store := match S[id]? with | some (.row xs e) => some (S.set id (.row (xs.set ix y) e)) | _ => none
def storeO (S : Store) (id ix : Nat) : Option V → Option Store | some y => putRow S id ix y | none => none
section
variable {C : Cfg} {P : Program} {S : Store} {id ix off : Nat}
/-- A row is read, not one that stays. -/
theorem loadV_row {t : TypeId} {x : V} (h : rowE S id ix = some x) : loadV P S t (.ref id ix off) = loadR P t off (some x) := by
  unfold rowE at h
  split at h
  · rename_i xs e ho
    simp only [loadV, ho, h, loadR]
  · cases h
theorem storeV_row {t : TypeId} {v x : V} (h : rowE S id ix = some x) : storeV P S t (.ref id ix off) v = storeO S id ix (storeR P t off v x) := by
  unfold rowE at h
  split at h
  · rename_i xs e ho
    simp only [storeV, ho, h, storeR]
    split
    · split
      · simp only [storeO, putRow, ho]
      · split
        · simp only [storeO, putRow, ho]
        · rfl
    · rfl
  · cases h
theorem rowE_zero {x : V} {r : List V} {e : TypeId} {S : Store} : rowE (.row (x :: r) e :: S) 0 0 = some x := rfl
theorem rowE_succ {o : Ob} {S : Store} {i : Nat} : rowE (o :: S) (i + 1) ix = rowE S i ix := by
  unfold rowE
  rw [List.getElem?_cons_succ]
theorem putRow_zero {x y : V} {r : List V} {e : TypeId} {S : Store} : putRow (.row (x :: r) e :: S) 0 0 y = some (.row (y :: r) e :: S) := rfl
theorem putRow_succ {o : Ob} {S : Store} {i : Nat} {y : V} : putRow (o :: S) (i + 1) ix y = (putRow S i ix y).map fun S' => o :: S' := by
  unfold putRow
  rw [List.getElem?_cons_succ]
  cases S[i]? with
  | none => rfl
  | some o => cases o <;> rfl
theorem rowE_of {x : V} {e : TypeId} (h : S[id]? = some (.row [x] e)) : rowE S id 0 = some x := by
  unfold rowE; rw [h]; rfl
theorem storeO_some {y : V} : storeO S id ix (some y) = putRow S id ix y := rfl
end
section
variable {C : Cfg} {ops : Array Oper} {dst : Option Tmp} {ty : TypeId} {pos : String} {after : Array Edge} {l : List Oper} {T : List V} {S : Store} {F : Dfs} {Q : Post}
theorem wl_alloc' {e : TypeId} : WpL C ops (⟨dst, .alloc e, ty, pos, after, none⟩ :: l) T S F Q = match zeroV C.P e with | some z => (if fitsT C.P e z = true then WpL C ops l (putT T dst (.ref S.length 0 0)) (S ++ [.row [z] e]) F Q else False) | none => False := by
  rw [wl_op rfl]
  simp only [opV]
  cases zeroV C.P e with
  | none => rfl
  | some z =>
    simp only
    split <;> rfl
theorem wl_box' {e : TypeId} {x : Operand} : WpL C ops (⟨dst, .box e x, ty, pos, after, none⟩ :: l) T S F Q = if fitsT C.P e (evalO T x) = true then WpL C ops l (putT T dst (.ref S.length 0 0)) (S ++ [.row [evalO T x] e]) F Q else False := by
  rw [wl_op rfl]
  simp only [opV]
  split <;> rfl
end
theorem own_fits {P : Program} {S : Store} {v : V} {e t : TypeId} {xs : List V} (h : OwnS S v e xs) (ha : aggT P t = false) (hs : sz P t = some 1) : fitsT P t v = true := by
  rcases h with ⟨rfl, _⟩ | ⟨id, rfl, _⟩ <;> simp [fitsT, V.one, V.isAgg, V.cells, ha, hs]
theorem own_cells {S : Store} {v : V} {e : TypeId} {xs : List V} (h : OwnS S v e xs) : v.cells = [v] := by
  rcases h with ⟨rfl, _⟩ | ⟨id, rfl, _⟩ <;> rfl
/-- What is read of a row; or as the machine has it. -/
def loadX (P : Program) (S : Store) (t : TypeId) (id ix off : Nat) : Option V → Option V | some x => loadR P t off (some x) | none => loadV P S t (.ref id ix off)
def storeX (P : Program) (S : Store) (t : TypeId) (id ix off : Nat) (v : V) : Option V → Option Store | some x => storeO S id ix (storeR P t off v x) | none => storeV P S t (.ref id ix off) v
theorem loadX_eq {P : Program} {S : Store} {t : TypeId} {id ix off : Nat} : loadV P S t (.ref id ix off) = loadX P S t id ix off (rowE S id ix) := by
  cases h : rowE S id ix with
  | none => rfl
  | some x => exact loadV_row h
theorem storeX_eq {P : Program} {S : Store} {t : TypeId} {id ix off : Nat} {v : V} : storeV P S t (.ref id ix off) v = storeX P S t id ix off v (rowE S id ix) := by
  cases h : rowE S id ix with
  | none => rfl
  | some x => exact storeV_row h
/-- The rules on variables. -/
theorem vmb :
  (∀ {x : V} {r : List V} {e : TypeId} {S : Store}, rowE (.row (x :: r) e :: S) 0 0 = some x) ∧
  (∀ {o : Ob} {S : Store} {i ix : Nat}, rowE (o :: S) (i + 1) ix = rowE S i ix) ∧
  (∀ {x y : V} {r : List V} {e : TypeId} {S : Store}, putRow (.row (x :: r) e :: S) 0 0 y = some (.row (y :: r) e :: S)) ∧
  (∀ {o : Ob} {S : Store} {i ix : Nat} {y : V}, putRow (o :: S) (i + 1) ix y = (putRow S i ix y).map fun S' => o :: S') ∧
  (∀ {S : Store} {id ix : Nat} {y : V}, storeO S id ix (some y) = putRow S id ix y) ∧
  (∀ {C : Cfg} {ops : Array Oper} {dst : Option Tmp} {ty : TypeId} {pos : String} {after : Array Edge} {l : List Oper} {T : List V} {S : Store} {F : Dfs} {Q : Post} {e : TypeId}, WpL C ops (⟨dst, .alloc e, ty, pos, after, none⟩ :: l) T S F Q = match zeroV C.P e with | some z => (if fitsT C.P e z = true then WpL C ops l (putT T dst (.ref S.length 0 0)) (S ++ [.row [z] e]) F Q else False) | none => False) ∧
  (∀ {C : Cfg} {ops : Array Oper} {dst : Option Tmp} {ty : TypeId} {pos : String} {after : Array Edge} {l : List Oper} {T : List V} {S : Store} {F : Dfs} {Q : Post} {e : TypeId} {x : Operand}, WpL C ops (⟨dst, .box e x, ty, pos, after, none⟩ :: l) T S F Q = if fitsT C.P e (evalO T x) = true then WpL C ops l (putT T dst (.ref S.length 0 0)) (S ++ [.row [evalO T x] e]) F Q else False) ∧
  (∀ {P : Program} {S : Store} {t : TypeId} {id ix off : Nat}, loadV P S t (.ref id ix off) = loadX P S t id ix off (rowE S id ix)) ∧
  (∀ {P : Program} {S : Store} {t : TypeId} {id ix off : Nat} {v : V}, storeV P S t (.ref id ix off) v = storeX P S t id ix off v (rowE S id ix)) ∧
  (∀ {P : Program} {S : Store} {t : TypeId} {id ix off : Nat} {x : V}, loadX P S t id ix off (some x) = loadR P t off (some x)) ∧
  (∀ {P : Program} {S : Store} {t : TypeId} {id ix off : Nat} {v x : V}, storeX P S t id ix off v (some x) = storeO S id ix (storeR P t off v x)) ∧
  (∀ {α : Type}, ([] : List α).length = 0) ∧
  (∀ {α : Type} {a : α} {l : List α}, (a :: l).length = l.length + 1) :=
  ⟨rfl, rowE_succ, rfl, putRow_succ, rfl, wl_alloc', wl_box', loadX_eq, storeX_eq, rfl, rfl, rfl, rfl⟩
theorem sb_eql {a b : List UInt8} : strBin .eql a b = some (.bool (decide (a = b))) := by
  have : (a == b) = decide (a = b) := by rw [Bool.eq_iff_iff]; simp
  simp only [strBin, this]
theorem sb_neq {a b : List UInt8} : strBin .neq a b = some (.bool (decide (a ≠ b))) := by
  have : (!(a == b)) = decide (a ≠ b) := by rw [Bool.eq_iff_iff]; simp
  simp only [strBin, this]
/-- Operations, whatever their guard. -/
theorem vmo :
  (∀ {P : Program} {S : Store} {T : List V} {dst : Option Tmp} {ty : TypeId} {pos : String} {after : Array Edge} {g : Option (Nat × Bool)} {x : Operand}, opV P S T ⟨dst, .move x, ty, pos, after, g⟩ = some (.val (evalO T x) S 0)) ∧
  (∀ {P : Program} {S : Store} {T : List V} {dst : Option Tmp} {ty : TypeId} {pos : String} {after : Array Edge} {g : Option (Nat × Bool)} {x : Operand}, opV P S T ⟨dst, .assign x, ty, pos, after, g⟩ = some (.val (evalO T x) S 0)) ∧
  (∀ {P : Program} {S : Store} {T : List V} {dst : Option Tmp} {ty : TypeId} {pos : String} {after : Array Edge} {g : Option (Nat × Bool)} {op : BinOp} {t u : TypeId} {x y : Operand}, opV P S T ⟨dst, .binOp op t x y u, ty, pos, after, g⟩ = (binV P op t (evalO T x) (evalO T y)).map fun v => .val v S 0) ∧
  (∀ {P : Program} {S : Store} {T : List V} {dst : Option Tmp} {ty : TypeId} {pos : String} {after : Array Edge} {g : Option (Nat × Bool)} {op : UnOp} {t : TypeId} {x : Operand}, opV P S T ⟨dst, .unOp op t x, ty, pos, after, g⟩ = (unV op (evalO T x)).map fun v => .val v S 0) ∧
  (∀ {P : Program} {S : Store} {T : List V} {dst : Option Tmp} {ty : TypeId} {pos : String} {after : Array Edge} {g : Option (Nat × Bool)} {t : TypeId} {x y : Operand}, opV P S T ⟨dst, .indexAddr t x y, ty, pos, after, g⟩ = (indexAddrV P S t (evalO T x) (evalO T y)).map fun v => .val v S 1) ∧
  (∀ {P : Program} {S : Store} {T : List V} {dst : Option Tmp} {ty : TypeId} {pos : String} {after : Array Edge} {g : Option (Nat × Bool)} {t : TypeId} {x y : Operand}, opV P S T ⟨dst, .index t x y, ty, pos, after, g⟩ = (indexV P t (evalO T x) (evalO T y)).map fun v => .val v S 0) ∧
  (∀ {P : Program} {S : Store} {T : List V} {dst : Option Tmp} {ty : TypeId} {pos : String} {after : Array Edge} {g : Option (Nat × Bool)} {t : TypeId} {x : Operand} {f : Nat}, opV P S T ⟨dst, .fieldAddr t x f, ty, pos, after, g⟩ = (fieldAddrV P t f (evalO T x)).map fun v => .val v S 0) ∧
  (∀ {P : Program} {S : Store} {T : List V} {dst : Option Tmp} {ty : TypeId} {pos : String} {after : Array Edge} {g : Option (Nat × Bool)} {t : TypeId} {x : Operand} {f : Nat}, opV P S T ⟨dst, .field t x f, ty, pos, after, g⟩ = (fieldV P t f (evalO T x)).map fun v => .val v S 0) ∧
  (∀ {P : Program} {S : Store} {T : List V} {dst : Option Tmp} {ty : TypeId} {pos : String} {after : Array Edge} {g : Option (Nat × Bool)} {t : TypeId} {x : Operand}, opV P S T ⟨dst, .load t x, ty, pos, after, g⟩ = (loadV P S t (evalO T x)).map fun v => .val v S 1) ∧
  (∀ {P : Program} {S : Store} {T : List V} {dst : Option Tmp} {ty : TypeId} {pos : String} {after : Array Edge} {g : Option (Nat × Bool)} {t : TypeId} {x y : Operand}, opV P S T ⟨dst, .store t x y, ty, pos, after, g⟩ = (storeV P S t (evalO T x) (evalO T y)).map fun S' => .skip S' 3) ∧
  (∀ {P : Program} {S : Store} {T : List V} {dst : Option Tmp} {ty : TypeId} {pos : String} {after : Array Edge} {g : Option (Nat × Bool)} {t u : TypeId} {x : Operand}, opV P S T ⟨dst, .convert t u x, ty, pos, after, g⟩ = (convertV P S t u (evalO T x)).map fun r => .val r.1 S r.2) ∧
  (∀ {P : Program} {S : Store} {T : List V} {dst : Option Tmp} {ty : TypeId} {pos : String} {after : Array Edge} {g : Option (Nat × Bool)} {t : TypeId} {x : Operand} {lo hi : Option Operand}, opV P S T ⟨dst, .slice t x lo hi none, ty, pos, after, g⟩ = (sliceV P S t (evalO T x) (lo.map (evalO T)) (hi.map (evalO T))).map fun v => .val v S 1) ∧
  (∀ {P : Program} {S : Store} {T : List V} {dst : Option Tmp} {ty : TypeId} {pos : String} {after : Array Edge} {g : Option (Nat × Bool)} {t : TypeId} {x k : Operand} {ok : Bool}, opV P S T ⟨dst, .lookup t x k ok, ty, pos, after, g⟩ = (lookupV P S t (evalO T x) (evalO T k) ok).map fun v => .val v S 1) ∧
  (∀ {P : Program} {S : Store} {T : List V} {dst : Option Tmp} {ty : TypeId} {pos : String} {after : Array Edge} {g : Option (Nat × Bool)} {b : Builtin} {args : Array Operand} {ts : Array TypeId}, opV P S T ⟨dst, .call { callee := .builtin b, args := args, argTypes := ts }, ty, pos, after, g⟩ = builtinV P S b ts.toList (args.toList.map (evalO T))) ∧
  (∀ {P : Program} {S : Store} {T : List V} {dst : Option Tmp} {ty : TypeId} {pos : String} {after : Array Edge} {g : Option (Nat × Bool)} {t : TypeId} {ps : Array (Nat × Operand)}, opV P S T ⟨dst, .build t ps, ty, pos, after, g⟩ = (buildV P t (ps.toList.map fun p => (p.1, evalO T p.2))).map fun v => .val v S 0) ∧
  (∀ {P : Program} {S : Store} {T : List V} {dst : Option Tmp} {ty : TypeId} {pos : String} {after : Array Edge} {g : Option (Nat × Bool)} {x : Operand} {i : Nat}, opV P S T ⟨dst, .extract x i, ty, pos, after, g⟩ = match evalO T x with | .tup vs => (match vs[i]? with | some v => some (.val v S 0) | none => none) | _ => none) ∧
  (∀ {P : Program} {S : Store} {T : List V} {dst : Option Tmp} {ty : TypeId} {pos : String} {after : Array Edge} {g : Option (Nat × Bool)} {c a b : Operand}, opV P S T ⟨dst, .pick c a b, ty, pos, after, g⟩ = match evalO T c with | .d (.bool true) => some (.val (evalO T a) S 0) | .d (.bool false) => some (.val (evalO T b) S 0) | _ => none) ∧
  (∀ {P : Program} {S : Store} {T : List V} {dst : Option Tmp} {ty : TypeId} {pos : String} {after : Array Edge} {g : Option (Nat × Bool)} {h : FuncId} {args : Array Operand} {ts : Array TypeId}, opV P S T ⟨dst, .call { callee := .value (.func h), args := args, argTypes := ts }, ty, pos, after, g⟩ = if (args.toList.map (evalO T)).all V.one && (bodyOf P h).isSome then some (.enter h ([] ++ args.toList.map (evalO T) ++ [])) else none) :=
  ⟨rfl, rfl, rfl, rfl, rfl, rfl, rfl, rfl, rfl, rfl, rfl, rfl, rfl, rfl, rfl, rfl, rfl, rfl⟩
/-- A guard's word. -/
def wantG (ops : Array Oper) (T : List V) : Option (Nat × Bool) → Option Bool
  | none => some true
  | some (j, want) => (yieldT ops T j).map (· == some want)
def yieldD (T : List V) : Option Tmp → Option (Option Bool)
  | none => some none
  | some d => match T[d]? with
    | none => some none
    | some (.d (.bool b)) => some (some b)
    | some (.tup _) => some none
    | some _ => none
theorem vmg :
  (∀ {ops : Array Oper} {T : List V} {dst : Option Tmp} {op : Op} {ty : TypeId} {pos : String} {after : Array Edge} {g : Option (Nat × Bool)}, wantedT ops T ⟨dst, op, ty, pos, after, g⟩ = wantG ops T g) ∧
  (∀ {ops : Array Oper} {T : List V}, wantG ops T none = some true) ∧
  (∀ {ops : Array Oper} {T : List V} {j : Nat} {b : Bool}, wantG ops T (some (j, b)) = (yieldT ops T j).map (· == some b)) ∧
  (∀ {ops : Array Oper} {T : List V} {j : Nat}, yieldT ops T j = yieldD T ((ops[j]?).bind (·.dst))) ∧
  (∀ {T : List V} {d : Tmp}, yieldD T (some d) = match T[d]? with | none => some none | some (.d (.bool b)) => some (some b) | some (.tup _) => some none | some _ => none) ∧
  (∀ {a : V} {l : List V}, (a :: l)[0]? = some a) ∧
  (∀ {a : V} {l : List V} {n : Nat}, (a :: l)[n + 1]? = l[n]?) ∧
  (∀ {a : Oper} {l : List Oper}, ((a :: l).toArray)[0]? = some a) ∧
  (∀ {a : Oper} {l : List Oper} {n : Nat}, ((a :: l).toArray)[n + 1]? = (l.toArray)[n]?) ∧
  (∀ {α β : Type} {a : α} {f : α → Option β}, (some a).bind f = f a) ∧
  (∀ {b : Bool}, (some b == some true) = b) ∧
  (∀ {b : Bool}, (some b == some false) = !b) ∧
  (((none : Option Bool) == some true) = false) ∧
  (((none : Option Bool) == some false) = false) :=
  ⟨rfl, rfl, rfl, rfl, rfl, rfl, rfl, by simp, by simp, rfl, by intro b; cases b <;> rfl, by intro b; cases b <;> rfl, rfl, rfl⟩
/-- What adds to the store, and what does not. -/
theorem vmk :
  (∀ {dst : Option Tmp} {ty : TypeId} {pos : String} {after : Array Edge} {g : Option (Nat × Bool)} {x : Operand}, addsK ⟨dst, .move x, ty, pos, after, g⟩ = false) ∧
  (∀ {dst : Option Tmp} {ty : TypeId} {pos : String} {after : Array Edge} {g : Option (Nat × Bool)} {x : Operand}, addsK ⟨dst, .assign x, ty, pos, after, g⟩ = false) ∧
  (∀ {dst : Option Tmp} {ty : TypeId} {pos : String} {after : Array Edge} {g : Option (Nat × Bool)} {op : BinOp} {t u : TypeId} {x y : Operand}, addsK ⟨dst, .binOp op t x y u, ty, pos, after, g⟩ = false) ∧
  (∀ {dst : Option Tmp} {ty : TypeId} {pos : String} {after : Array Edge} {g : Option (Nat × Bool)} {op : UnOp} {t : TypeId} {x : Operand}, addsK ⟨dst, .unOp op t x, ty, pos, after, g⟩ = false) ∧
  (∀ {dst : Option Tmp} {ty : TypeId} {pos : String} {after : Array Edge} {g : Option (Nat × Bool)} {t : TypeId} {x y : Operand}, addsK ⟨dst, .indexAddr t x y, ty, pos, after, g⟩ = false) ∧
  (∀ {dst : Option Tmp} {ty : TypeId} {pos : String} {after : Array Edge} {g : Option (Nat × Bool)} {t : TypeId} {x y : Operand}, addsK ⟨dst, .index t x y, ty, pos, after, g⟩ = false) ∧
  (∀ {dst : Option Tmp} {ty : TypeId} {pos : String} {after : Array Edge} {g : Option (Nat × Bool)} {t : TypeId} {x : Operand} {f : Nat}, addsK ⟨dst, .fieldAddr t x f, ty, pos, after, g⟩ = false) ∧
  (∀ {dst : Option Tmp} {ty : TypeId} {pos : String} {after : Array Edge} {g : Option (Nat × Bool)} {t : TypeId} {x : Operand} {f : Nat}, addsK ⟨dst, .field t x f, ty, pos, after, g⟩ = false) ∧
  (∀ {dst : Option Tmp} {ty : TypeId} {pos : String} {after : Array Edge} {g : Option (Nat × Bool)} {t : TypeId} {x : Operand}, addsK ⟨dst, .load t x, ty, pos, after, g⟩ = false) ∧
  (∀ {dst : Option Tmp} {ty : TypeId} {pos : String} {after : Array Edge} {g : Option (Nat × Bool)} {t : TypeId} {x y : Operand}, addsK ⟨dst, .store t x y, ty, pos, after, g⟩ = false) ∧
  (∀ {dst : Option Tmp} {ty : TypeId} {pos : String} {after : Array Edge} {g : Option (Nat × Bool)} {t u : TypeId} {x : Operand}, addsK ⟨dst, .convert t u x, ty, pos, after, g⟩ = false) ∧
  (∀ {dst : Option Tmp} {ty : TypeId} {pos : String} {after : Array Edge} {g : Option (Nat × Bool)} {t : TypeId} {x : Operand} {lo hi m : Option Operand}, addsK ⟨dst, .slice t x lo hi m, ty, pos, after, g⟩ = false) ∧
  (∀ {dst : Option Tmp} {ty : TypeId} {pos : String} {after : Array Edge} {g : Option (Nat × Bool)} {t : TypeId} {x k : Operand} {ok : Bool}, addsK ⟨dst, .lookup t x k ok, ty, pos, after, g⟩ = false) ∧
  (∀ {dst : Option Tmp} {ty : TypeId} {pos : String} {after : Array Edge} {g : Option (Nat × Bool)} {c : Call}, addsK ⟨dst, .call c, ty, pos, after, g⟩ = false) ∧
  (∀ {dst : Option Tmp} {ty : TypeId} {pos : String} {after : Array Edge} {g : Option (Nat × Bool)} {t : TypeId} {ps : Array (Nat × Operand)}, addsK ⟨dst, .build t ps, ty, pos, after, g⟩ = false) ∧
  (∀ {dst : Option Tmp} {ty : TypeId} {pos : String} {after : Array Edge} {g : Option (Nat × Bool)} {t : TypeId} {n : Nat} {ps : Array (Nat × Operand)}, addsK ⟨dst, .buildSlice t n ps, ty, pos, after, g⟩ = false) ∧
  (∀ {dst : Option Tmp} {ty : TypeId} {pos : String} {after : Array Edge} {g : Option (Nat × Bool)} {x : Operand} {i : Nat}, addsK ⟨dst, .extract x i, ty, pos, after, g⟩ = false) ∧
  (∀ {dst : Option Tmp} {ty : TypeId} {pos : String} {after : Array Edge} {g : Option (Nat × Bool)} {c a b : Operand}, addsK ⟨dst, .pick c a b, ty, pos, after, g⟩ = false) ∧
  (∀ {dst : Option Tmp} {ty : TypeId} {pos : String} {after : Array Edge} {g : Option (Nat × Bool)} {x : Operand}, addsK ⟨dst, .nilCheck x, ty, pos, after, g⟩ = false) ∧
  (∀ {dst : Option Tmp} {ty : TypeId} {pos : String} {after : Array Edge} {g : Option (Nat × Bool)} {t : TypeId} {m k v : Operand}, addsK ⟨dst, .mapUpdate t m k v, ty, pos, after, g⟩ = false) ∧
  (∀ {dst : Option Tmp} {ty : TypeId} {pos : String} {after : Array Edge} {g : Option (Nat × Bool)} {e : TypeId}, addsK ⟨dst, .alloc e, ty, pos, after, g⟩ = true) ∧
  (∀ {dst : Option Tmp} {ty : TypeId} {pos : String} {after : Array Edge} {g : Option (Nat × Bool)} {e : TypeId} {x : Operand}, addsK ⟨dst, .box e x, ty, pos, after, g⟩ = true) :=
  ⟨rfl, rfl, rfl, rfl, rfl, rfl, rfl, rfl, rfl, rfl, rfl, rfl, rfl, rfl, rfl, rfl, rfl, rfl, rfl, rfl, rfl, rfl⟩
section
variable {C : Cfg} {ops : Array Oper} {base : Nat} {F : Dfs} {Q : Post}
/-- One that adds, or not. -/
def WpX (C : Cfg) (ops : Array Oper) (base : Nat) (F : Dfs) (Q : Post) (rd : List Nat) (cs : List (Nat × Nat)) (i : Nat) (is : List Nat) (T : List V) (S : Store) (o : Oper) : Bool → Prop
  | true => WpA base (fun cs T S => WpD C ops base F Q rd cs is T S) cs i o.dst T S (addO C.P T o)
  | false => WpE C ops F Q (fun rd cs T S => WpD C ops base F Q rd cs is T S) rd cs i o.dst T S (opV C.P S T o)
/-- One operation of a region that draws. -/
def WpO (C : Cfg) (ops : Array Oper) (base : Nat) (F : Dfs) (Q : Post) (rd : List Nat) (cs : List (Nat × Nat)) (i : Nat) (is : List Nat) (T : List V) (S : Store) (o : Oper) : Option Bool → Prop
  | none => False
  | some false => WpD C ops base F Q rd (cs ++ [(i, 0)]) is (putT T o.dst (.tup [])) S
  | some true => WpX C ops base F Q rd cs i is T S o (addsK o)
def WpI (C : Cfg) (ops : Array Oper) (base : Nat) (F : Dfs) (Q : Post) (rd : List Nat) (cs : List (Nat × Nat)) (i : Nat) (is : List Nat) (T : List V) (S : Store) : Option Oper → Prop
  | none => False
  | some o => WpO C ops base F Q rd cs i is T S o (wantedT ops T o)
theorem wpI_eq {rd : List Nat} {cs : List (Nat × Nat)} {i : Nat} {is : List Nat} {T : List V} {S : Store} : WpD C ops base F Q rd cs (i :: is) T S = WpI C ops base F Q rd cs i is T S (ops[i]?) := by
  rw [wd_cons]
  unfold WpI WpO
  cases ops[i]? with
  | none => rfl
  | some o =>
    simp only
    cases wantedT ops T o with
    | none => rfl
    | some b =>
      cases b with
      | false => rfl
      | true => cases addsK o <;> rfl
theorem vmd :
  (∀ {C : Cfg} {ops : Array Oper} {base : Nat} {F : Dfs} {Q : Post} {rd : List Nat} {cs : List (Nat × Nat)} {T : List V} {S : Store}, WpD C ops base F Q rd cs [] T S = (drawOk ops cs = true ∧ Q .norm T S F)) ∧
  (∀ {C : Cfg} {ops : Array Oper} {base : Nat} {F : Dfs} {Q : Post} {rd : List Nat} {cs : List (Nat × Nat)} {i : Nat} {is : List Nat} {T : List V} {S : Store}, WpD C ops base F Q rd cs (i :: is) T S = WpI C ops base F Q rd cs i is T S (ops[i]?)) ∧
  (∀ {C : Cfg} {ops : Array Oper} {base : Nat} {F : Dfs} {Q : Post} {rd : List Nat} {cs : List (Nat × Nat)} {i : Nat} {is : List Nat} {T : List V} {S : Store} {o : Oper}, WpI C ops base F Q rd cs i is T S (some o) = WpO C ops base F Q rd cs i is T S o (wantedT ops T o)) ∧
  (∀ {C : Cfg} {ops : Array Oper} {base : Nat} {F : Dfs} {Q : Post} {rd : List Nat} {cs : List (Nat × Nat)} {i : Nat} {is : List Nat} {T : List V} {S : Store} {o : Oper}, WpO C ops base F Q rd cs i is T S o (some false) = WpD C ops base F Q rd (cs ++ [(i, 0)]) is (putT T o.dst (.tup [])) S) ∧
  (∀ {C : Cfg} {ops : Array Oper} {base : Nat} {F : Dfs} {Q : Post} {rd : List Nat} {cs : List (Nat × Nat)} {i : Nat} {is : List Nat} {T : List V} {S : Store} {o : Oper}, WpO C ops base F Q rd cs i is T S o (some true) = WpX C ops base F Q rd cs i is T S o (addsK o)) ∧
  (∀ {C : Cfg} {ops : Array Oper} {base : Nat} {F : Dfs} {Q : Post} {rd : List Nat} {cs : List (Nat × Nat)} {i : Nat} {is : List Nat} {T : List V} {S : Store} {o : Oper}, WpX C ops base F Q rd cs i is T S o false = WpE C ops F Q (fun rd cs T S => WpD C ops base F Q rd cs is T S) rd cs i o.dst T S (opV C.P S T o)) ∧
  (∀ {C : Cfg} {ops : Array Oper} {base : Nat} {F : Dfs} {Q : Post} {rd : List Nat} {cs : List (Nat × Nat)} {i : Nat} {is : List Nat} {T : List V} {S : Store} {o : Oper}, WpX C ops base F Q rd cs i is T S o true = WpA base (fun cs T S => WpD C ops base F Q rd cs is T S) cs i o.dst T S (addO C.P T o)) ∧
  (∀ {C : Cfg} {ops : Array Oper} {F : Dfs} {Q : Post} {K : List Nat → List (Nat × Nat) → List V → Store → Prop} {rd : List Nat} {cs : List (Nat × Nat)} {i : Nat} {dst : Option Tmp} {T : List V} {S S' : Store} {v : V}, WpE C ops F Q K rd cs i dst T S (some (.val v S' 0)) = K rd (cs ++ [(i, 0)]) (putT T dst v) S') ∧
  (∀ {C : Cfg} {ops : Array Oper} {F : Dfs} {Q : Post} {K : List Nat → List (Nat × Nat) → List V → Store → Prop} {rd : List Nat} {cs : List (Nat × Nat)} {i : Nat} {dst : Option Tmp} {T : List V} {S S' : Store} {v : V}, WpE C ops F Q K rd cs i dst T S (some (.val v S' 1)) = K (i :: rd) (cs ++ [(i, 1)]) (putT T dst v) S') ∧
  (∀ {C : Cfg} {ops : Array Oper} {F : Dfs} {Q : Post} {K : List Nat → List (Nat × Nat) → List V → Store → Prop} {rd : List Nat} {cs : List (Nat × Nat)} {i : Nat} {dst : Option Tmp} {T : List V} {S S' : Store} {c : Nat}, WpE C ops F Q K rd cs i dst T S (some (.skip S' c)) = (bitsOk ops rd i 3 ∧ K rd (cs ++ [(i, 3)]) (putT T dst (.tup [])) S')) ∧
  (num2 0 = 0) ∧ (num2 1 = 1) ∧ (num2 2 = 3) ∧ (num2 3 = 3) ∧
  (∀ {α : Type} {l l' : List α} {a : α}, (a :: l) ++ l' = a :: (l ++ l')) :=
  ⟨rfl, wpI_eq, rfl, rfl, rfl, rfl, rfl, by intros; simp [WpE, bitsOk, num2], by intros; simp [WpE, bitsOk, num2], rfl, rfl, rfl, rfl, rfl, rfl⟩
end
end Go.Vm
end
/-! The value machine: calls apart whose arguments hold slices of the store. -/
section
set_option linter.unusedVariables false
set_option linter.unusedSimpArgs false
namespace Go.Vm
section
variable {C : Cfg} {S : Store}
theorem flat_d {n : Nat} : ∀ l : List D, (l.map V.d).flatMap (frzIds S n) = []
  | [] => rfl
  | x :: r => by
    rw [List.map_cons, List.flatMap_cons, flat_d r]
    cases n <;> rfl
/-- A row of data. -/
def RowD (S : Store) (i : Nat) : Prop := ∃ (xs : List D) (e : TypeId), S[i]? = some (.row (xs.map .d) e)
theorem mark_data {all : List Nat} : ∀ {ids : List Nat} {S1 : Store}, (∀ i ∈ ids, RowD S i) → ∃ S2, mark S all S1 ids = some S2
  | [], S1, _ => ⟨S1, rfl⟩
  | i :: r, S1, h => by
    obtain ⟨xs, e, hi⟩ := h i (by simp)
    obtain ⟨S2, h2⟩ := mark_data (all := all) (ids := r) (S1 := S1.set i (.fz xs e)) (fun j hj => h j (by simp [hj]))
    refine ⟨S2, ?_⟩
    have h3 : allO (frz S frzFuel) (xs.map V.d) = some xs := allO_d (n := 11) xs
    have h4 : (xs.map V.d).flatMap (frzIds S frzFuel) = [] := flat_d xs
    simp only [mark, hi, frzOb, h3, Option.map_some, obIds, h4, List.all_nil, if_true, h2]
theorem own_ids {e : TypeId} {v : V} {ds : List D} {n : Nat} (h : OwnS S v e (ds.map .d)) : ∀ i ∈ frzIds S (n + 1) v, RowD S i := by
  rcases h with ⟨rfl, _⟩ | ⟨id, rfl, h1⟩
  · intro i hi
    simp [frzIds] at hi
  · intro i hi
    have e1 : frzIds S (n + 1) (.rs id 0 (ds.map V.d).length) = (match S[id]? with | some (.row xs e) => id :: xs.flatMap (frzIds S n) | _ => []) := rfl
    rw [e1, h1] at hi
    simp only [flat_d, List.mem_singleton] at hi
    subst hi
    exact ⟨ds, e, h1⟩
theorem own_frzn {e : TypeId} {v : V} {ds : List D} {n : Nat} (ho : OwnS S v e (ds.map .d)) : frz S (n + 2) v = some (.sl ds) := by
  rcases ho with ⟨rfl, h⟩ | ⟨id, rfl, h1⟩
  · have : ds = [] := by simpa using h
    subst this; rfl
  · simp only [List.length_map]
    show (match S[id]? with
      | some (.row xs e) => if 0 + ds.length ≤ xs.length && (allO (frz S (n + 1)) xs).isSome then (allO (frz S (n + 1)) ((xs.drop 0).take ds.length)).map D.sl else none
      | some (.fz xs e) => if 0 + ds.length ≤ xs.length then some (D.sl ((xs.drop 0).take ds.length)) else none
      | _ => none) = _
    have h2 : ((ds.map V.d).drop 0).take ds.length = ds.map V.d := by rw [List.drop_zero, List.take_of_length_le (by simp)]
    simp only [h1, h2, allO_d, List.length_map, Option.isSome_some, Bool.and_true, Option.map_some]
    simp
/-- A call apart that may freeze rows of data. -/
theorem wr_call_mark {ops : Array Oper} {dst : Option Tmp} {l : List Oper} {T : List V} {F : Dfs} {Q : Post} {f : FuncId} {args : List V} {ds : List D} {v : V} (hs : C.shared f = false) (hf : allO (frz S frzFuel) args = some ds) (hi : ∀ i ∈ args.flatMap (frzIds S frzFuel), RowD S i) (he : Ev C f ds (.ret v))
    (hk : ∀ S2, WpL C ops l (putT T dst v) S2 F Q) : WpR C ops dst l T S F Q (some (.enter f args)) := by
  obtain ⟨n, hn⟩ := he
  have hn' : answer C (run C n) f ds = some (.ret v) := hn
  have : ∃ S2 c, callV C (run C n) f args S = some (.ret v, S2, c) := by
    unfold callV
    simp only [hs, Bool.false_eq_true, if_false, hf, hn']
    split
    · exact ⟨S, 1, rfl⟩
    · split
      · exact ⟨S, 1, rfl⟩
      · obtain ⟨S2, h2⟩ := mark_data (S := S) (all := args.flatMap (frzIds S frzFuel)) (S1 := S) hi
        rw [h2]
        exact ⟨S2, 3, rfl⟩
  obtain ⟨S2, c, hc⟩ := this
  exact ⟨n, .ret v, S2, c, hc, hk S2⟩
/-- A call apart of values without slices of the store. -/
theorem wr_call_v {ops : Array Oper} {dst : Option Tmp} {l : List Oper} {T : List V} {F : Dfs} {Q : Post} {f : FuncId} {args : List V} {ds : List D} {v : V} (hs : C.shared f = false) (hf : allO (frz S frzFuel) args = some ds) (hi : (args.flatMap (frzIds S frzFuel)).isEmpty = true) (he : Ev C f ds (.ret v)) :
    WpR C ops dst l T S F Q (some (.enter f args)) = WpL C ops l (putT T dst v) S F Q := by
  obtain ⟨n, hn⟩ := he
  have hn' : answer C (run C n) f ds = some (.ret v) := hn
  have hc : callV C (run C n) f args S = some (.ret v, S, 1) := by
    unfold callV
    simp only [hs, Bool.false_eq_true, if_false, hf, hn', hi, if_true]
  apply propext
  constructor
  · rintro ⟨m, o, S', c, h1, h2⟩
    have := callV_det h1 hc
    simp only [Prod.mk.injEq] at this
    obtain ⟨rfl, rfl, rfl⟩ := this
    exact h2
  · exact fun h => ⟨n, _, _, _, hc, h⟩
end
theorem putRow_of {S : Store} {id : Nat} {x y : V} {e : TypeId} (h : S[id]? = some (.row [x] e)) : putRow S id 0 y = some (S.set id (.row [y] e)) := by
  unfold putRow; rw [h]; rfl
theorem set_at {S : Store} {id : Nat} {o o' : Ob} (h : S[id]? = some o) : (S.set id o')[id]? = some o' := by
  have := getLen h
  simp [this]
theorem own_set {S : Store} {v : V} {e : TypeId} {xs : List V} {id : Nat} {o : Ob} (h : OwnS S v e xs) (hn : NotAt v id) : OwnS (S.set id o) v e xs := by
  rcases h with h | ⟨j, rfl, h1⟩
  · exact .inl h
  · refine .inr ⟨j, rfl, ?_⟩
    rw [List.getElem?_set_ne]
    · exact h1
    · rintro rfl; exact hn _ _ rfl
/-- A byte of a text. -/
theorem idx_str {P : Program} {t : TypeId} {s : List UInt8} {i : Nat} (hu : P.underlying t = some .string) (h : i < s.length) : indexV P t (.d (.str s)) (.d (.int .i64 i)) = some (.d (.int .u8 s[i].toNat)) := by
  have h0 : (0 : Int) ≤ i := by omega
  simp only [indexV, intOf?, hu, h0, if_true, Int.toNat_natCast, List.getElem?_eq_getElem h]
end Go.Vm
end
/-! Functions of Go's library, as the kit's shelf has them, in this seat's numbers. -/
section
set_option maxRecDepth 100000
namespace Go.Proofs.YtghllhghboaagaaDoor
open Go.Shelf
def lays171_ren : Ren := ⟨fun x => match x with | 171 => 19 | 243 => 26 | 246 => 30 | 283 => 33 | 284 => 34 | 285 => 35 | 286 => 36 | 129 => 40 | 317 => 39 | 318 => 41 | 319 => 42 | 320 => 43 | 337 => 44 | 338 => 45 | n => n, fun x => match x with | 3 => 3 | 9 => 9 | 2 => 2 | 4 => 4 | 171 => 63 | 0 => 0 | 53 => 64 | 37 => 22 | 5 => 5 | 173 => 67 | 212 => 74 | 51 => 75 | 20 => 20 | 213 => 76 | 46 => 50 | 232 => 80 | 233 => 81 | n => n, fun x => match x with | 17 => 0 | 18 => 2 | 19 => 3 | n => n⟩
theorem lays171 : LaysM.n171 Tryd.prog lays171_ren := {
  mixed := by kernel_rfl,
  f129 := Tryd.func40.trans (by kernel_rfl),
  f171 := Tryd.func19.trans (by kernel_rfl),
  f243 := Tryd.func26.trans (by kernel_rfl),
  f246 := Tryd.func30.trans (by kernel_rfl),
  f283 := Tryd.func33.trans (by kernel_rfl),
  f284 := Tryd.func34.trans (by kernel_rfl),
  f285 := Tryd.func35.trans (by kernel_rfl),
  f286 := Tryd.func36.trans (by kernel_rfl),
  f317 := Tryd.func39.trans (by kernel_rfl),
  f318 := Tryd.func41.trans (by kernel_rfl),
  f319 := Tryd.func42.trans (by kernel_rfl),
  f320 := Tryd.func43.trans (by kernel_rfl),
  f337 := Tryd.func44.trans (by kernel_rfl),
  f338 := Tryd.func45.trans (by kernel_rfl),
  t0 := Tryd.underlying0,
  a0 := Tryd.isAgg0,
  z0 := Tryd.sizeOf0,
  v0 := Tryd.zeroValue0,
  t2 := Tryd.underlying2,
  a2 := Tryd.isAgg2,
  z2 := Tryd.sizeOf2,
  v2 := Tryd.zeroValue2,
  t3 := Tryd.underlying3,
  a3 := Tryd.isAgg3,
  z3 := Tryd.sizeOf3,
  v3 := Tryd.zeroValue3,
  t4 := Tryd.underlying4,
  a4 := Tryd.isAgg4,
  z4 := Tryd.sizeOf4,
  v4 := Tryd.zeroValue4,
  t5 := Tryd.underlying5,
  a5 := Tryd.isAgg5,
  z5 := Tryd.sizeOf5,
  v5 := Tryd.zeroValue5,
  t9 := Tryd.underlying9,
  a9 := Tryd.isAgg9,
  z9 := Tryd.sizeOf9,
  v9 := Tryd.zeroValue9,
  t20 := Tryd.underlying20,
  a20 := Tryd.isAgg20,
  z20 := Tryd.sizeOf20,
  v20 := Tryd.zeroValue20,
  t37 := Tryd.underlying22,
  a37 := Tryd.isAgg22,
  z37 := Tryd.sizeOf22,
  v37 := Tryd.zeroValue22,
  t46 := Tryd.underlying50,
  a46 := Tryd.isAgg50,
  z46 := Tryd.sizeOf50,
  v46 := Tryd.zeroValue50,
  t51 := Tryd.underlying75,
  a51 := Tryd.isAgg75,
  z51 := Tryd.sizeOf75,
  v51 := Tryd.zeroValue75,
  t53 := Tryd.underlying64,
  a53 := Tryd.isAgg64,
  z53 := Tryd.sizeOf64,
  v53 := Tryd.zeroValue64,
  t171 := Tryd.underlying63,
  a171 := Tryd.isAgg63,
  z171 := Tryd.sizeOf63,
  v171 := Tryd.zeroValue63,
  t173 := Tryd.underlying67,
  a173 := Tryd.isAgg67,
  z173 := Tryd.sizeOf67,
  v173 := Tryd.zeroValue67,
  t212 := Tryd.underlying74,
  a212 := Tryd.isAgg74,
  z212 := Tryd.sizeOf74,
  v212 := Tryd.zeroValue74,
  t213 := Tryd.underlying76,
  a213 := Tryd.isAgg76,
  z213 := Tryd.sizeOf76,
  t232 := Tryd.underlying80,
  a232 := Tryd.isAgg80,
  z232 := Tryd.sizeOf80,
  v232 := Tryd.zeroValue80,
  t233 := Tryd.underlying81,
  a233 := Tryd.isAgg81,
  z233 := Tryd.sizeOf81,
  v233 := Tryd.zeroValue81,
  g17 := by kernel_rfl,
  g18 := by kernel_rfl,
  g19 := by kernel_rfl,
  i0 := by kernel_rfl,
  i2 := by kernel_rfl,
  i3 := by kernel_rfl,
  i4 := by kernel_rfl,
  i5 := by kernel_rfl,
  i9 := by kernel_rfl,
  i20 := by kernel_rfl,
  i37 := by kernel_rfl,
  i46 := by kernel_rfl,
  i51 := by kernel_rfl,
  i53 := by kernel_rfl,
  i171 := by kernel_rfl,
  i173 := by kernel_rfl,
  i212 := by kernel_rfl,
  i232 := by kernel_rfl,
  i233 := by kernel_rfl,
  m17 := by kernel_rfl,
  m18 := by kernel_rfl,
  m19 := by kernel_rfl }
def lays156_ren : Ren := ⟨fun x => match x with | 156 => 24 | 165 => 27 | 166 => 28 | 169 => 29 | 240 => 31 | 241 => 32 | 276 => 37 | 277 => 38 | n => n, fun x => match x with | 31 => 23 | 9 => 9 | 3 => 3 | 4 => 4 | 0 => 0 | 20 => 20 | 72 => 53 | 76 => 57 | 70 => 51 | 37 => 22 | 75 => 56 | 127 => 62 | 164 => 69 | 5 => 5 | 80 => 59 | n => n, fun x => x⟩
theorem lays156 : Lays.n156 Tryd.prog lays156_ren := {
  mixed := by kernel_rfl,
  f156 := Tryd.func24.trans (by kernel_rfl),
  f165 := Tryd.func27.trans (by kernel_rfl),
  f166 := Tryd.func28.trans (by kernel_rfl),
  f169 := Tryd.func29.trans (by kernel_rfl),
  f240 := Tryd.func31.trans (by kernel_rfl),
  f241 := Tryd.func32.trans (by kernel_rfl),
  f276 := Tryd.func37.trans (by kernel_rfl),
  f277 := Tryd.func38.trans (by kernel_rfl),
  t0 := Tryd.underlying0,
  a0 := Tryd.isAgg0,
  z0 := Tryd.sizeOf0,
  v0 := Tryd.zeroValue0,
  t3 := Tryd.underlying3,
  a3 := Tryd.isAgg3,
  z3 := Tryd.sizeOf3,
  v3 := Tryd.zeroValue3,
  t4 := Tryd.underlying4,
  a4 := Tryd.isAgg4,
  z4 := Tryd.sizeOf4,
  v4 := Tryd.zeroValue4,
  t9 := Tryd.underlying9,
  a9 := Tryd.isAgg9,
  z9 := Tryd.sizeOf9,
  v9 := Tryd.zeroValue9,
  t20 := Tryd.underlying20,
  a20 := Tryd.isAgg20,
  z20 := Tryd.sizeOf20,
  v20 := Tryd.zeroValue20,
  t31 := Tryd.underlying23,
  a31 := Tryd.isAgg23,
  z31 := Tryd.sizeOf23,
  v31 := Tryd.zeroValue23,
  t37 := Tryd.underlying22,
  a37 := Tryd.isAgg22,
  z37 := Tryd.sizeOf22,
  v37 := Tryd.zeroValue22,
  t70 := Tryd.underlying51,
  a70 := Tryd.isAgg51,
  z70 := Tryd.sizeOf51,
  v70 := Tryd.zeroValue51,
  t72 := Tryd.underlying53,
  a72 := Tryd.isAgg53,
  z72 := Tryd.sizeOf53,
  v72 := Tryd.zeroValue53,
  t75 := Tryd.underlying56,
  a75 := Tryd.isAgg56,
  z75 := Tryd.sizeOf56,
  v75 := Tryd.zeroValue56,
  t76 := Tryd.underlying57,
  a76 := Tryd.isAgg57,
  z76 := Tryd.sizeOf57,
  v76 := Tryd.zeroValue57,
  t127 := Tryd.underlying62,
  a127 := Tryd.isAgg62,
  z127 := Tryd.sizeOf62,
  v127 := Tryd.zeroValue62,
  t164 := Tryd.underlying69,
  a164 := Tryd.isAgg69,
  z164 := Tryd.sizeOf69,
  v164 := Tryd.zeroValue69 }

theorem extraJ : Builder.Extra Tryd.prog lays156_ren := { sizeBuilder := by kernel_rfl, liesBuilder := by kernel_rfl, t5 := Tryd.underlying5, a5 := Tryd.isAgg5, z5 := Tryd.sizeOf5, v5 := Tryd.zeroValue5, infoByte := by kernel_rfl, cellsByte := by kernel_rfl, sizeByte := by kernel_rfl, neB5 := by decide }
end Go.Proofs.YtghllhghboaagaaDoor
end
/-! The value machine: arguments that can be read, as data; and what a row's statement asks behind a call. -/
section
set_option linter.unusedVariables false
set_option linter.unusedSimpArgs false
namespace Go.Vm
open Go.ChangeShapes Go.RowKit

/-- The forms of data that a law is handed. -/
inductive Ty where
  | bool
  | int (k : IntKind)
  | str
  | sl (e : Ty)
  | agg (fs : List Ty)
  deriving Inhabited
def Ty.isAgg : Ty → Bool | .agg _ => true | _ => false
def Ty.cells : Ty → List Ty | .agg fs => fs | .bool => [.bool] | .int k => [.int k] | .str => [.str] | .sl e => [.sl e]
def ofFields (P : Program) (g : TypeId → Option Ty) : List Field → Nat → Option (List Ty)
  | [], _ => some []
  | f :: r, off => match g f.type with
    | some x => if f.offset = off ∧ P.cellsOf f.type = x.cells.length then match ofFields P g r (off + x.cells.length) with
      | some l => some (x.cells ++ l)
      | none => none
      else none
    | none => none
def ofType (P : Program) : Nat → TypeId → Option Ty
  | 0, _ => none
  | n + 1, t => match P.underlying t with
    | some .bool => some .bool
    | some (.int k) => some (.int k)
    | some .string => some .str
    | some (.slice e) => match ofType P n e with
      | some x => if P.cellsOf e = x.cells.length ∧ x.cells.length ≠ 0 then some (.sl x) else none
      | none => none
    | some (.struct fs) => match ofFields P (ofType P n) fs.toList 0 with
      | some l => if P.cellsOf t = l.length then some (.agg l) else none
      | none => none
    | some (.array m e) => match ofType P n e with
      | some x => if P.cellsOf e = x.cells.length ∧ P.cellsOf t = m * x.cells.length then some (.agg (List.replicate m x.cells).flatten) else none
      | none => none
    | _ => none

mutual
def HasTy : Ty → D → Prop
  | .bool, x => ∃ b, x = .bool b
  | .int k, x => ∃ n, x = .int k n ∧ k.min ≤ n ∧ n ≤ k.max
  | .str, x => ∃ s, x = .str s ∧ s.length ≤ maxLen
  | .sl e, x => ∃ xs, x = .sl xs ∧ xs.length ≤ maxLen ∧ ∀ y ∈ xs, HasTy e y
  | .agg fs, x => ∃ xs, x = .agg xs ∧ HasL fs xs
def HasL : List Ty → List D → Prop
  | [], xs => xs = []
  | t :: ts, xs => ∃ y r, xs = y :: r ∧ HasTy t y ∧ HasL ts r
end
theorem hasTy_agg {t : Ty} {x : D} (h : HasTy t x) : x.isAgg = t.isAgg := by
  cases t <;> simp only [HasTy] at h <;> obtain ⟨_, rfl, _⟩ := h <;> rfl
theorem hasL_append : ∀ {ts us : List Ty} {xs ys : List D}, HasL ts xs → HasL us ys → HasL (ts ++ us) (xs ++ ys)
  | [], us, xs, ys, h, h' => by simp only [HasL] at h; subst h; exact h'
  | t :: ts, us, xs, ys, h, h' => by
    simp only [HasL] at h
    obtain ⟨y, r, rfl, h1, h2⟩ := h
    simp only [List.cons_append, HasL]
    exact ⟨y, r ++ ys, rfl, h1, hasL_append h2 h'⟩
theorem hasTy_cells {t : Ty} {x : D} (h : HasTy t x) : HasL t.cells x.cells := by
  cases t with
  | agg fs => simp only [HasTy] at h; obtain ⟨xs, rfl, h⟩ := h; exact h
  | _ =>
    have h' := h
    simp only [HasTy] at h
    obtain ⟨_, rfl, _⟩ := h
    simp only [Ty.cells, D.cells, HasL]
    exact ⟨_, [], rfl, h', rfl⟩
section
variable {P : Program} {H : Type} {enc : TypeId × Value → H} {w : World}

theorem mapM_cons_some {α β : Type} {f : α → Option β} {x : α} {r : List α} {ys : List β} (h : (x :: r).mapM f = some ys) : ∃ y zs, f x = some y ∧ r.mapM f = some zs ∧ ys = y :: zs := by
  rw [List.mapM_cons] at h
  cases h1 : f x with
  | none => simp [h1] at h
  | some y =>
    cases h2 : r.mapM f with
    | none => simp [h1, h2] at h
    | some zs => simp [h1, h2] at h; exact ⟨y, zs, rfl, rfl, h.symm⟩
theorem mapM_nil_some {α β : Type} {f : α → Option β} {ys : List β} (h : ([] : List α).mapM f = some ys) : ys = [] := by simpa using h.symm
theorem cells?_spec {base : Nat} {a : Addr} {n : Nat} {us : List Value} (h : w.cells? base a n = some us) : us.length = n ∧ ∀ j v, us[j]? = some v → w.cell? (a.add j) = some v := by
  unfold World.cells? at h
  split at h
  · have key : ∀ (m s : Nat) (us : List Value), (List.range' s m).mapM (fun i => w.cell? (a.add i)) = some us → us.length = m ∧ ∀ j v, us[j]? = some v → w.cell? (a.add (s + j)) = some v := by
      intro m
      induction m with
      | zero => intro s us h; have := mapM_nil_some h; subst this; exact ⟨rfl, fun j v h => by simp at h⟩
      | succ m ih =>
        intro s us h
        rw [List.range'_succ] at h
        obtain ⟨y, zs, h1, h2, rfl⟩ := mapM_cons_some h
        obtain ⟨g1, g2⟩ := ih (s + 1) zs h2
        refine ⟨by simp [g1], fun j v hj => ?_⟩
        cases j with
        | zero => simp at hj; subst hj; exact h1
        | succ j => simp at hj; have := g2 j v hj; rw [show s + (j + 1) = s + 1 + j by omega]; exact this
    rw [List.range_eq_range'] at h
    obtain ⟨g1, g2⟩ := key n 0 us h
    exact ⟨g1, fun j v hj => by simpa using g2 j v hj⟩
  · cases h
theorem cellsAt_of {a : Addr} {us : List Value} (hne : us ≠ []) (h : ∀ j v, us[j]? = some v → w.cell? (a.add j) = some v) : a.spot = none ∧ a.block < w.heap.size ∧ CellsAt w a.block a.off us := by
  have h0 : ∃ v, us[0]? = some v := by cases us with | nil => exact absurd rfl hne | cons x r => exact ⟨x, rfl⟩
  obtain ⟨v, hv⟩ := h0
  have := h 0 v hv
  rw [Addr.add_zero'] at this
  unfold World.cell? at this
  cases hb : w.heap[a.block]? with
  | none => simp [hb] at this
  | some o =>
    cases o with
    | cells c e f =>
      simp only [hb] at this
      split at this
      · cases this
      · rename_i hs
        refine ⟨by simpa using hs, lt_of_heap hb, c, e, f, hb, fun j v hj => ?_⟩
        have := h j v hj
        unfold World.cell? at this
        have hbl : (a.add j).block = a.block := by unfold Addr.add; split <;> rfl
        have hoff : (a.add j).off = a.off + j := by unfold Addr.add; split <;> simp_all
        simp only [hbl, hb] at this
        split at this
        · cases this
        · rw [hoff] at this; exact this
    | _ => simp [hb] at this

theorem addr_add_add (a : Addr) (m n : Nat) : (a.add m).add n = a.add (m + n) := by
  unfold Addr.add
  by_cases h : m = 0 <;> by_cases h' : n = 0 <;> simp [h, h', Nat.add_assoc]
abbrev Old (w : World) (b : Nat) : Prop := b < w.heap.size
theorem repL_append' {A : Nat → Prop} : ∀ {xs ys : List D} {us vs : List Value}, RepL A w xs us → RepL A w ys vs → RepL A w (xs ++ ys) (us ++ vs)
  | [], ys, us, vs, h, h' => by simp only [RepL] at h; subst h; exact h'
  | x :: r, ys, us, vs, h, h' => by
    simp only [RepL] at h
    obtain ⟨v, us', rfl, h1, h2, h3⟩ := h
    simp only [List.cons_append, RepL]
    exact ⟨v, us' ++ vs, rfl, h1, h2, repL_append' h3 h'⟩

theorem hasL_length : ∀ {ts : List Ty} {xs : List D}, HasL ts xs → xs.length = ts.length
  | [], xs, h => by simp only [HasL] at h; simp [h]
  | t :: ts, xs, h => by
    simp only [HasL] at h
    obtain ⟨y, r, rfl, _, h2⟩ := h
    simp [hasL_length h2]
theorem fields_rep {base : Nat} {spare : Nat → Bool} {held : Bool} {g : TypeId → Option Ty} {cs : List Value} {fu : Nat} (ih : ∀ {t : TypeId} {cs : List Value} {z : DataW H × List MemPlace} {T : Ty}, DataW.trod enc P w base spare held fu t cs = some z → g t = some T → ∃ x, HasTy T x ∧ RepC (Old w) w x cs) :
    ∀ {l : List Field} {off : Nat} {ts : List Ty}, ofFields P g l off = some ts → (∀ f ∈ l, ∃ z, DataW.trod enc P w base spare held fu f.type ((cs.drop f.offset).take (P.cellsOf f.type)) = some z) → ∃ xs, HasL ts xs ∧ RepL (Old w) w xs ((cs.drop off).take ts.length)
  | [], off, ts, h, _ => by
    simp only [ofFields, Option.some.injEq] at h; subst h
    exact ⟨[], rfl, by simp [RepL]⟩
  | f :: r, off, ts, h, hz => by
    simp only [ofFields] at h
    cases hg : g f.type with
    | none => simp [hg] at h
    | some T =>
      simp only [hg] at h
      split at h
      · rename_i hc
        obtain ⟨rfl, hc2⟩ := hc
        cases hr : ofFields P g r (f.offset + T.cells.length) with
        | none => simp [hr] at h
        | some l =>
          simp only [hr, Option.some.injEq] at h; subst h
          obtain ⟨z, hz1⟩ := hz f (by simp)
          obtain ⟨x, hx, hrx⟩ := ih hz1 hg
          obtain ⟨xs, h1, h2⟩ := fields_rep ih hr (fun f' hf' => hz f' (by simp [hf']))
          refine ⟨x.cells ++ xs, hasL_append (hasTy_cells hx) h1, ?_⟩
          have e : (cs.drop f.offset).take (T.cells ++ l).length = (cs.drop f.offset).take (P.cellsOf f.type) ++ (cs.drop (f.offset + T.cells.length)).take l.length := by
            rw [List.length_append, List.take_add, hc2, List.drop_drop]
          rw [e]
          exact repL_append' (repC_cells hrx) h2
      · cases h
/-- What can be read reads as data. -/
theorem trod_rep {base : Nat} {spare : Nat → Bool} {held : Bool} : ∀ (n : Nat) (fuel : Nat) {t : TypeId} {cs : List Value} {z : DataW H × List MemPlace} {T : Ty}, DataW.trod enc P w base spare held fuel t cs = some z → ofType P n t = some T → ∃ x, HasTy T x ∧ RepC (Old w) w x cs := by
  intro n
  induction n with
  | zero => intro fuel t cs z T h hT; simp [ofType] at hT
  | succ n ih =>
    intro fuel t cs z T h hT
    simp only [ofType] at hT
    cases hu : P.underlying t with
    | none => simp [hu] at hT
    | some td =>
      simp only [hu] at hT
      cases td with
      | bool =>
        simp only [Option.some.injEq] at hT; subst hT
        obtain ⟨b, rfl, _⟩ := DataW.trod_bool hu h
        exact ⟨.bool b, ⟨b, rfl⟩, by simp [RepC]⟩
      | int k =>
        simp only [Option.some.injEq] at hT; subst hT
        obtain ⟨m, rfl, _, hwf⟩ := DataW.trod_int hu h
        exact ⟨.int k m, ⟨m, rfl, by simpa [Lit.wf] using hwf⟩, by simp [RepC]⟩
      | string =>
        simp only [Option.some.injEq] at hT; subst hT
        obtain ⟨s, rfl, _, hl⟩ := DataW.trod_string hu h
        exact ⟨.str s.data.toList, ⟨_, rfl, hl⟩, by simp [RepC]⟩
      | slice e =>
        simp only at hT
        cases he : ofType P n e with
        | none => simp [he] at hT
        | some E =>
          simp only [he] at hT
          split at hT
          · rename_i hc
            obtain ⟨hc, hne⟩ := hc
            simp only [Option.some.injEq] at hT; subst hT
            rcases Go.Deep.open_slice hu h with ⟨rfl, _⟩ | ⟨a, len, cap, m, fu, D0, Pl, rfl, _, hle, hcap, hm, _, hel⟩
            · refine ⟨.sl [], ⟨[], rfl, by simp, by simp⟩, ?_⟩
              simp only [RepC]
              exact ⟨none, 0, rfl, Nat.le_refl _, .inl trivial⟩
            · have hlm : len ≤ m := by rw [hm]; split <;> omega
              rw [hc] at hel
              -- the elements, from one index on
              have key : ∀ (l s : Nat), s + l ≤ m → ∃ xs us, xs.length = l ∧ us.length = l * E.cells.length ∧ (∀ y ∈ xs, HasTy E y) ∧ RepE (Old w) w E.cells.length xs us ∧ ∀ j v, us[j]? = some v → w.cell? (a.add (s * E.cells.length + j)) = some v := by
                intro l
                induction l with
                | zero => intro s _; exact ⟨[], [], rfl, by simp, by simp, by simp [RepE], fun j v h => by simp at h⟩
                | succ l ihl =>
                  intro s hs
                  obtain ⟨cs', g1, g2⟩ := hel s (by omega)
                  obtain ⟨x, hx, hr⟩ := ih fu g2 he
                  obtain ⟨k1, k2⟩ := cells?_spec g1
                  obtain ⟨xs, us, f1, f2, f3, f4, f5⟩ := ihl (s + 1) (by omega)
                  refine ⟨x :: xs, cs' ++ us, by simp [f1], by simp [k1, f2, Nat.succ_mul]; omega, fun y hy => ?_, ?_, fun j v hj => ?_⟩
                  · rcases List.mem_cons.1 hy with rfl | hy
                    · exact hx
                    · exact f3 y hy
                  · simp only [RepE]
                    exact ⟨cs', us, rfl, k1, hr, f4⟩
                  · rw [List.getElem?_append] at hj
                    split at hj
                    · have := k2 j v hj
                      rwa [addr_add_add] at this
                    · rename_i hlt
                      have := f5 _ v hj
                      rw [show s * E.cells.length + j = (s + 1) * E.cells.length + (j - cs'.length) by rw [Nat.succ_mul]; omega]
                      exact this
              obtain ⟨xs, us, f1, f2, f3, f4, f5⟩ := key len 0 (by omega)
              refine ⟨.sl xs, ⟨xs, rfl, by omega, f3⟩, ?_⟩
              simp only [RepC]
              refine ⟨some a, cap, by rw [f1], by omega, ?_⟩
              by_cases h0 : xs = []
              · exact .inl h0
              · right
                have hne' : us ≠ [] := by
                  intro hn
                  rw [hn] at f2
                  simp only [List.length_nil] at f2
                  have : len ≠ 0 := by
                    intro h00; rw [h00] at f1; exact h0 (List.length_eq_zero_iff.1 f1)
                  have := Nat.mul_ne_zero this hne
                  omega
                obtain ⟨c1, c2, c3⟩ := cellsAt_of hne' (fun j v hj => by simpa using f5 j v hj)
                exact ⟨a, _, us, rfl, c1, c2, c3, f4⟩
          · cases hT
      | struct fs =>
        simp only at hT
        cases hf : ofFields P (ofType P n) fs.toList 0 with
        | none => simp [hf] at hT
        | some l =>
          simp only [hf] at hT
          split at hT
          · rename_i hc
            simp only [Option.some.injEq] at hT; subst hT
            obtain ⟨xs, fu, _, _, hl, hxl, hel⟩ := DataW.trod_struct hu h
            obtain ⟨ys, h1, h2⟩ := fields_rep (fun a b => ih fu a b) hf (fun f hf' => by
              obtain ⟨i, hi⟩ := List.getElem?_of_mem hf'
              have hi' : fs[i]? = some f := by simpa using hi
              have := hel i f hi'
              have hlt : i < xs.length := by
                rw [hxl]
                rcases Nat.lt_or_ge i fs.size with h' | h'
                · exact h'
                · simp [h'] at hi'
              exact ⟨xs[i], by rw [this]; simp [hlt]⟩)
            refine ⟨.agg ys, ⟨ys, rfl, h1⟩, ?_⟩
            simp only [RepC]
            rw [List.drop_zero, List.take_of_length_le (by omega)] at h2
            exact h2
          · cases hT
      | array m e =>
        simp only at hT
        cases he : ofType P n e with
        | none => simp [he] at hT
        | some E =>
          simp only [he] at hT
          split at hT
          · rename_i hc
            obtain ⟨hc, hc2⟩ := hc
            simp only [Option.some.injEq] at hT; subst hT
            obtain ⟨xs, fu, _, _, hl, hxl, hel⟩ := DataW.trod_array hu h
            rw [hc] at hel
            have key : ∀ (l s : Nat), s + l ≤ m → ∃ ys, HasL (List.replicate l E.cells).flatten ys ∧ RepL (Old w) w ys ((cs.drop (s * E.cells.length)).take (l * E.cells.length)) := by
              intro l
              induction l with
              | zero => intro s _; exact ⟨[], by simp [HasL], by simp [RepL]⟩
              | succ l ihl =>
                intro s hs
                have hlt : s < xs.length := by omega
                have h0 := hel s (by omega)
                rw [List.getElem?_eq_getElem hlt] at h0
                obtain ⟨x, hx, hr⟩ := ih fu h0 he
                obtain ⟨ys, f1, f2⟩ := ihl (s + 1) (by omega)
                refine ⟨x.cells ++ ys, by rw [List.replicate_succ, List.flatten_cons]; exact hasL_append (hasTy_cells hx) f1, ?_⟩
                have e : (cs.drop (s * E.cells.length)).take ((l + 1) * E.cells.length) = (cs.drop (s * E.cells.length)).take E.cells.length ++ (cs.drop ((s + 1) * E.cells.length)).take (l * E.cells.length) := by
                  rw [Nat.succ_mul, Nat.add_comm (l * _), List.take_add, List.drop_drop, Nat.succ_mul]
                rw [e]
                exact repL_append' (repC_cells hr) f2
            obtain ⟨ys, f1, f2⟩ := key m 0 (by omega)
            refine ⟨.agg ys, ⟨ys, rfl, f1⟩, ?_⟩
            simp only [RepC]
            rw [Nat.zero_mul, List.drop_zero, List.take_of_length_le (by omega)] at f2
            exact f2
          · cases hT
      | _ => simp at hT

/-- All that is handed. -/
def ofTypes (P : Program) (n : Nat) : List TypeId → Option (List Ty) := allO (ofType P n)
theorem leaf_of_ok {r : Reach} {base : Nat} {t : TypeId} {v : Value} {n : Nat} {T : Ty} (hT : ofType P n t = some T) (hok : Value.okWide P w r base t v) : (T.isAgg = true ∧ ∃ us, v = .agg us) ∨ (T.isAgg = false ∧ v.cells = #[v]) := by
  cases n with
  | zero => simp [ofType] at hT
  | succ n =>
    simp only [ofType] at hT
    unfold Value.okWide at hok
    cases hu : P.underlying t with
    | none => simp [hu] at hT
    | some td =>
      simp only [hu] at hT hok
      cases td with
      | bool =>
        simp only [Option.some.injEq] at hT; subst hT
        refine .inr ⟨rfl, ?_⟩
        simp only [Cell.okWide, hu] at hok
        cases v <;> simp_all [Cell.ok, Value.cells]
      | int k =>
        simp only [Option.some.injEq] at hT; subst hT
        refine .inr ⟨rfl, ?_⟩
        simp only [Cell.okWide, hu] at hok
        cases v <;> simp_all [Cell.ok, Value.cells]
      | string =>
        simp only [Option.some.injEq] at hT; subst hT
        refine .inr ⟨rfl, ?_⟩
        simp only [Cell.okWide, hu] at hok
        cases v <;> simp_all [Cell.ok, Value.cells]
      | slice e =>
        simp only at hT
        cases he : ofType P n e with
        | none => simp [he] at hT
        | some E =>
          simp only [he] at hT
          split at hT
          · simp only [Option.some.injEq] at hT; subst hT
            refine .inr ⟨rfl, ?_⟩
            simp only [Cell.okWide, hu] at hok
            cases v <;> simp_all [Cell.ok, Value.cells]
          · cases hT
      | struct fs =>
        simp only at hT
        cases hf : ofFields P (ofType P n) fs.toList 0 with
        | none => simp [hf] at hT
        | some l =>
          simp only [hf] at hT
          split at hT
          · simp only [Option.some.injEq] at hT; subst hT
            obtain ⟨cs, h, _⟩ := hok
            exact .inl ⟨rfl, cs, h⟩
          · cases hT
      | array m e =>
        simp only at hT
        cases he : ofType P n e with
        | none => simp [he] at hT
        | some E =>
          simp only [he] at hT
          split at hT
          · simp only [Option.some.injEq] at hT; subst hT
            obtain ⟨cs, h, _⟩ := hok
            exact .inl ⟨rfl, cs, h⟩
          · cases hT
      | _ => simp at hT
theorem open_all {base : Nat} {spare : Nat → Bool} {held : Bool} {r : Reach} {b0 : Nat} {n : Nat} : ∀ {ts : List TypeId} {vs : List Value} {ds : List (DataW H)} {ps : List MemPlace} {Ts : List Ty}, DataW.TrodAll enc P w base spare held ts vs ds ps → ofTypes P n ts = some Ts →
    (∀ (j : Nat) t v, ts[j]? = some t → vs[j]? = some v → Value.okWide P w r b0 t v) → ∃ xs, HasL Ts xs ∧ RepS (Old w) w xs vs
  | [], vs, ds, ps, Ts, h, hT, _ => by
    simp only [ofTypes, allO, Option.some.injEq] at hT; subst hT
    cases vs with
    | nil => exact ⟨[], rfl, by simp [RepS]⟩
    | cons v vs => cases ds <;> simp [DataW.TrodAll] at h
  | t :: ts, vs, ds, ps, Ts, h, hT, hok => by
    obtain ⟨T, Ts', h1, h2, rfl⟩ := allO_cons hT
    cases vs with
    | nil => simp [DataW.TrodAll] at h
    | cons v vs =>
      cases ds with
      | nil => simp [DataW.TrodAll] at h
      | cons d ds =>
        obtain ⟨p, q, ⟨fu, hd⟩, hr, rfl⟩ := h
        obtain ⟨x, hx, hrx⟩ := trod_rep n fu hd h1
        obtain ⟨xs, g1, g2⟩ := open_all hr h2 (fun j t v hj hv => hok (j + 1) t v (by simpa using hj) (by simpa using hv))
        refine ⟨x :: xs, by simp only [HasL]; exact ⟨x, xs, rfl, hx, g1⟩, ?_⟩
        simp only [RepS]
        refine ⟨v, vs, rfl, ?_, g2⟩
        rcases leaf_of_ok h1 (hok 0 t v (by simp) (by simp)) with ⟨e1, us, rfl⟩ | ⟨e1, e2⟩
        · exact .inl ⟨by rw [hasTy_agg hx, e1], us, rfl, by simpa [Value.cells] using hrx⟩
        · exact .inr ⟨by rw [hasTy_agg hx, e1], by rw [e2] at hrx; simpa using hrx⟩

theorem trodAll_len {base : Nat} {spare : Nat → Bool} {held : Bool} : ∀ {ts : List TypeId} {vs : List Value} {ds : List (DataW H)} {ps : List MemPlace}, DataW.TrodAll enc P w base spare held ts vs ds ps → ds.length = ts.length
  | [], vs, ds, ps, h => by
    cases vs <;> cases ds <;> simp_all [DataW.TrodAll]
  | t :: ts, vs, ds, ps, h => by
    cases vs with
    | nil => simp [DataW.TrodAll] at h
    | cons v vs =>
      cases ds with
      | nil => simp [DataW.TrodAll] at h
      | cons d ds =>
        obtain ⟨p, q, _, hr, rfl⟩ := h
        simp [trodAll_len hr]
theorem len1 {α : Type} {l : List α} (h : l.length = 1) : ∃ a, l = [a] := List.length_eq_one_iff.1 h
theorem len2 {α : Type} {l : List α} (h : l.length = 2) : ∃ a b, l = [a, b] := by
  match l, h with
  | [a, b], _ => exact ⟨a, b, rfl⟩
theorem len3 {α : Type} {l : List α} (h : l.length = 3) : ∃ a b c, l = [a, b, c] := by
  match l, h with
  | [a, b, c], _ => exact ⟨a, b, c, rfl⟩
theorem trodVars_nil {T : List String} {gs : List (DataW H)} {q : List MemPlace} {own : Nat → Bool} (hT : T = []) (h : DataW.TrodVars enc P w own T gs q) : gs = [] := by
  subst hT
  cases gs with
  | nil => rfl
  | cons g gs => simp [DataW.TrodVars] at h
/-- The arguments read behind the call as they did. -/
theorem below_all {W W' : World} (hl : laidOutB P = true) (hb : Below W.heap.size W W') : ∀ {ts : List TypeId} {vs : List Value} {ds : List (DataW H)} {ps : List MemPlace}, (ts.all fun t => P.readableRec t && decide (t < P.types.size)) = true → DataW.TrodAll enc P W 0 (fun _ => true) true ts vs ds ps → (∀ x ∈ ps, x.block < W.heap.size) → DataW.TrodAll enc P W' 0 (fun b => decide (b < W.heap.size)) true ts vs ds ps
  | [], vs, ds, ps, _, h, _ => by
    cases vs <;> cases ds <;> simp_all [DataW.TrodAll]
  | t :: ts, vs, ds, ps, hr, h, hlt => by
    simp only [List.all_cons, Bool.and_eq_true, decide_eq_true_eq] at hr
    cases vs with
    | nil => simp [DataW.TrodAll] at h
    | cons v vs =>
      cases ds with
      | nil => simp [DataW.TrodAll] at h
      | cons d ds =>
        obtain ⟨p, q, hd, hrest, rfl⟩ := h
        exact ⟨p, q, Below.trod hl hr.1.1 hr.1.2 hd hb (fun x hx => hlt x (by simp [hx])), below_all hl hb (by simpa using hr.2) hrest (fun x hx => hlt x (by simp [hx])), rfl⟩

/-- What a law's row asks behind the call. -/
theorem law_post {f : Func} {s : ChangeSpec} {apart : Bool} {W W' : World} {args : Array Value} {ds gs : List (DataW H)} {before : List MemPlace} {t : TypeId} (hl : laidOutB P = true) (hread : (f.params.toList.all fun t => P.readableRec t && decide (t < P.types.size)) = true)
    (hW : DataW.Whole enc P f.params.toList s.vars apart W args.toList ds gs before) (hv : s.vars = []) (hres : f.resultTypes = #[t]) (hu : P.underlying t = some .bool)
    (hfn : s.fn H (ds ++ gs) = { results := [.lit (.bool true)], args := ds }) (hb : Below W.heap.size W W') : s.post enc P f apart true false false W args (.bool true) W' := by
  have hlt : ∀ x ∈ before, x.block < W.heap.size := fun x hx => by simpa using hW.lt x hx
  have hW0 := hW
  obtain ⟨p, q, hA, hV, rfl, hz, hn⟩ := hW
  refine ⟨ds, gs, p ++ q, [], p, q, hW0, ?_, ?_, ?_, hb.frame _, fun h => by cases h⟩
  · rw [hfn, hres]
    exact trodAll_mk1 (shut_bool hu true)
  · rw [hfn]
    exact below_all hl hb hread hA (fun x hx => hlt x (by simp [hx]))
  · rw [hfn]
    rw [hv] at hV ⊢
    cases gs with
    | nil => exact hV
    | cons g gs => simp [DataW.TrodVars] at hV
/-- A law that the machine answers with true. -/
theorem law_calls {C : Cfg} (hext : ExtOk C) (hcatch : CatchOk C) {n : Nat} {f : FuncId} {xs : List D} {args : Array Value} {W : World} (hrun : runD C n f xs = some (.ret (.d (.bool true)))) (hr : RepS (Old W) W xs args.toList) (hgl : GlobOk C.P (Old W) W) :
    Calls C.P f args W fun e W' => e = .returned (.bool true) ∧ Below W.heap.size W W' := by
  obtain ⟨o', ho, hcalls⟩ := runD_ok hext hcatch n f xs _ hrun
  have ho' : o' = .ret (.bool true) := by
    cases o' with
    | ret x => simp only [OutD.out, Out.ret.injEq, V.d.injEq] at ho; rw [ho]
    | tup xs => simp [OutD.out] at ho
    | pan x => simp [OutD.out] at ho
  subst ho'
  refine (hcalls (Old W) W args (fun b hb => hb) hgl hr).mono fun e W' he => ?_
  cases e with
  | returned v =>
    obtain ⟨A', h1, h2⟩ := he
    have h2 := (repX_leaf rfl).1 h2
    simp only [RepC, List.cons.injEq, and_true] at h2
    exact ⟨by rw [h2], h1.os, h1.tape, h1.output, h1.size, h1.old⟩
  | panicked c => obtain ⟨x, v, h, _⟩ := he; cases h
  | outgrown => exact he.elim
end
end Go.Vm
end
/-! strconv.Itoa and strings.Join as calls apart: what they answer, by the kit's shelf. -/
section
set_option linter.unusedVariables false
set_option linter.unusedSimpArgs false
set_option maxRecDepth 100000
namespace Go.Proofs.YtghllhghboaagaaDoor
open Go.Vm
def itoaX : List D → Option Out := fun ds => match ds with
  | [.int .i64 n] => if -9223372036854775808 ≤ n ∧ n ≤ 9223372036854775807 then some (.ret (.d (.str (Lib.itoa n)))) else Option.none
  | _ => Option.none
def strD : D → Option (List UInt8)
  | .str s => some s
  | _ => Option.none
def joinX : List D → Option Out := fun ds => match ds with
  | [.sl xs, .str sep] => match allO strD xs with
    | some l => if l.length ≤ 140737488355328 ∧ (Lib.join l sep).length ≤ 140737488355328 then some (.ret (.d (.str (Lib.join l sep)))) else Option.none
    | Option.none => Option.none
  | _ => Option.none
theorem allO_str : ∀ {xs : List D} {l : List (List UInt8)}, allO strD xs = some l → xs = l.map .str
  | [], l, h => by cases h; rfl
  | x :: r, l, h => by
    unfold allO at h
    split at h
    · cases h
    · rename_i y hy
      split at h
      · cases h
      · rename_i ys hys
        cases h
        rw [List.map_cons, ← allO_str hys]
        unfold strD at hy
        split at hy
        · cases hy; rfl
        · cases hy
theorem tab_ok {A : Nat → Prop} {w : World} (h : GlobOk Tryd.prog A w) : Lib.TabIs Tryd.prog w "internal/strconv.uint64pow10" .u64 Lib.pow10Tab := by
  have hg : ∃ g, Tryd.prog.globalNamed "internal/strconv.uint64pow10" = some g := ⟨0, by kernel_rfl⟩
  obtain ⟨g, hg⟩ := hg
  obtain ⟨_, t, m, h2⟩ := h _ (List.mem_singleton.2 rfl) g hg
  unfold Lib.TabIs World.var?
  rw [hg]
  show (match w.heap[g]? with | some (.cells cs _ _) => some cs | _ => none) = _
  rw [h2]
  kernel_rfl
theorem iso_of {A : Nat → Prop} {w w' : World} (hlt : ∀ b, A b → b < w.heap.size) (h : RowKit.Below w.heap.size w w') : Iso A w A w' :=
  ⟨h.os, h.tape, h.output, h.size, fun b hb => h.block b hb, fun _ h => h, fun _ h => .inl h, fun b hb => Nat.lt_of_lt_of_le (hlt b hb) h.size⟩
theorem itoaX_ok : ∀ ds o, itoaX ds = some o → ∃ o', o = OutD.out o' ∧ ∀ (A : Nat → Prop) (w : World) (us : Array Value), (∀ b, A b → b < w.heap.size) → GlobOk Tryd.prog A w → RepS A w ds us.toList → Calls Tryd.prog 19 us w (AnsPost A w o') := by
  intro ds o ho
  unfold itoaX at ho
  split at ho
  · rename_i n
    split at ho
    · rename_i hb
      cases ho
      refine ⟨.ret (.str (Lib.itoa n)), rfl, fun A w us hlt hgl hr => ?_⟩
      have hus : us = #[.int .i64 n] := by
        simp only [RepS, RepC, D.isAgg] at hr
        obtain ⟨v, us', h1, h2, h3⟩ := hr
        have h2 : v = .int .i64 n := by simpa using h2
        rw [h3, h2] at h1
        apply Array.toList_inj.1
        rw [h1]
      subst hus
      refine (Any.strconv_Itoa lays171 n hb.1 hb.2 w (tab_ok hgl)).mono fun e w' he => ?_
      obtain ⟨rfl, k, os, rfl⟩ := he
      refine ⟨A, ⟨rfl, rfl, rfl, by simp [Sort.grow, World.drewN], fun b hb => ?_, fun _ h => h, fun _ h => .inl h, fun b hb => ?_⟩, .inr ⟨rfl, rfl⟩⟩
      · simp [Sort.grow, World.drewN, Array.getElem?_append, hb]
      · have := hlt b hb
        simp [Sort.grow, World.drewN]; omega
    · cases ho
  · cases ho
theorem repE_str {A : Nat → Prop} {w : World} {k : Nat} : ∀ {l : List (List UInt8)} {us : List Value}, RepE A w k (l.map .str) us → us = l.map fun s => Value.string ⟨s.toArray⟩
  | [], us, h => by simpa [RepE] using h
  | s :: r, us, h => by
    simp only [List.map_cons, RepE] at h
    obtain ⟨u, ws, rfl, h1, h2, h3⟩ := h
    have h2 : u = [.string ⟨s.toArray⟩] := by simpa [RepC] using h2
    rw [h2, repE_str h3]
    rfl
theorem joinX_ok : ∀ ds o, joinX ds = some o → ∃ o', o = OutD.out o' ∧ ∀ (A : Nat → Prop) (w : World) (us : Array Value), (∀ b, A b → b < w.heap.size) → GlobOk Tryd.prog A w → RepS A w ds us.toList → Calls Tryd.prog 24 us w (AnsPost A w o') := by
  intro ds o ho
  unfold joinX at ho
  split at ho
  · rename_i xs sep
    split at ho
    · rename_i l hl
      split at ho
      · rename_i hb
        cases ho
        refine ⟨.ret (.str (Lib.join l sep)), rfl, fun A w us hlt hgl hr => ?_⟩
        have hx := allO_str hl
        subst hx
        have hjl : (l.map fun s => (⟨s.toArray⟩ : ByteArray)).map (·.data.toList) = l := by
          rw [List.map_map]
          exact (List.map_congr_left fun s _ => rfl).trans (List.map_id l)
        simp only [RepS, RepC, D.isAgg] at hr
        obtain ⟨v, us', h1, h2, v2, us2, h3, h4, h5⟩ := hr
        have h4 : v2 = .string ⟨sep.toArray⟩ := by simpa using h4
        have h2 : ∃ a cap, v = .slice a l.length cap ∧ l.length ≤ cap ∧ (l = [] ∨ ∃ ad k us, a = some ad ∧ ad.spot = none ∧ A ad.block ∧ CellsAt w ad.block ad.off us ∧ RepE A w k (l.map .str) us) := by simpa using h2
        obtain ⟨a, cap, h6, h7, h8⟩ := h2
        have hus : us = #[.slice a l.length cap, .string ⟨sep.toArray⟩] := by
          apply Array.toList_inj.1
          rw [h1, h3, h5, h4, h6]
        subst hus
        rcases h8 with h8 | ⟨ad, k, cs, h8, h9, h10, h11, h12⟩
        · subst h8
          refine (Any.strings_Join_none lays156 extraJ a cap _ w).mono fun e w' he => ?_
          obtain ⟨rfl, rfl⟩ := he
          exact ⟨A, iso_of hlt (RowKit.Below.refl _ _), .inr ⟨rfl, rfl⟩⟩
        · subst h8
          obtain ⟨bk, o, sp⟩ := ad
          simp only at h9 h10 h11
          subst h9
          have hcs := repE_str h12
          subst hcs
          obtain ⟨c, ety, fl, hh, hc⟩ := h11
          have hcell : ∀ (j : Nat) x, (l.map fun s => (⟨s.toArray⟩ : ByteArray))[j]? = some x → w.cell? ⟨bk, o + j, none⟩ = some (.string x) := fun j x hj => by
            have h13 : (l.map fun s => Value.string ⟨s.toArray⟩)[j]? = some (.string x) := by
              rw [List.getElem?_map] at hj ⊢
              obtain ⟨s, hs, rfl⟩ := Option.map_eq_some_iff.1 hj
              rw [hs]
              rfl
            have := hc j _ h13
            simp only [World.cell?, hh]
            exact this
          have hlen : (l.map fun s => (⟨s.toArray⟩ : ByteArray)).length = l.length := by simp
          have := Any.strings_Join lays156 extraJ bk o cap (l.map fun s => (⟨s.toArray⟩ : ByteArray)) ⟨sep.toArray⟩ w hcell (hlt _ h10) (by rw [hlen]; exact hb.1) (by rw [hlen]; exact h7) (by rw [hjl]; exact hb.2)
          rw [hjl, hlen] at this
          refine this.mono fun e w' he => ?_
          obtain ⟨rfl, hbl⟩ := he
          exact ⟨A, iso_of hlt hbl, .inr ⟨rfl, rfl⟩⟩
      · cases ho
    · cases ho
  · cases ho
end Go.Proofs.YtghllhghboaagaaDoor
end
/-! Facts on the program's types, and its functions' bodies: written by mkty.py. -/
section
set_option linter.unusedVariables false
set_option maxRecDepth 100000
namespace Go.Proofs.YtghllhghboaagaaDoor
open Go.Vm
/-- The example is told by what it came to. -/
def worksX : List D → Option Out := fun ds => match ds with | [] => some (.ret (.d (.bool true))) | _ => Option.none
def mask : Nat := 8388608
noncomputable def cfg : Cfg := { P := Tryd.prog, mixed := by kernel_rfl, shared := fun f => Nat.testBit mask f, ext := fun f => match Nat.beq f 24 with | true => some joinX | false => match Nat.beq f 19 with | true => some itoaX | false => match Nat.beq f 6 with | true => some worksX | false => Option.none, catch_ := fun f => Option.none }
theorem hP : cfg.P = Tryd.prog := rfl
def encB (l : List UInt8) : D := .sl (l.map fun b => .int .u8 b.toNat)
theorem fits3 (a : Int) : fitsD Tryd.prog 3 (.int .i64 a) = true := by kernel_rfl
theorem fitsT3 (a : Int) : fitsT Tryd.prog 3 (.d (.int .i64 a)) = true := by kernel_rfl
theorem ff3 {a : Int} : fitsT Tryd.prog 3 (.d (.int .i64 a)) = true := by kernel_rfl
theorem ld3 {S : Store} {a : Int} : loadV Tryd.prog S 3 (.d (.ptr (.int .i64 a))) = some (.d (.int .i64 a)) := by kernel_rfl
theorem fits29 (a : Int) : fitsD Tryd.prog 29 (.int .i64 a) = true := by kernel_rfl
theorem fitsT29 (a : Int) : fitsT Tryd.prog 29 (.d (.int .i64 a)) = true := by kernel_rfl
theorem ff29 {a : Int} : fitsT Tryd.prog 29 (.d (.int .i64 a)) = true := by kernel_rfl
theorem ld29 {S : Store} {a : Int} : loadV Tryd.prog S 29 (.d (.ptr (.int .i64 a))) = some (.d (.int .i64 a)) := by kernel_rfl
theorem fits5 (a : Int) : fitsD Tryd.prog 5 (.int .u8 a) = true := by kernel_rfl
theorem fitsT5 (a : Int) : fitsT Tryd.prog 5 (.d (.int .u8 a)) = true := by kernel_rfl
theorem ff5 {a : Int} : fitsT Tryd.prog 5 (.d (.int .u8 a)) = true := by kernel_rfl
theorem ld5 {S : Store} {a : Int} : loadV Tryd.prog S 5 (.d (.ptr (.int .u8 a))) = some (.d (.int .u8 a)) := by kernel_rfl
theorem fits9 (a : (List UInt8)) : fitsD Tryd.prog 9 (.str a) = true := by kernel_rfl
theorem fitsT9 (a : (List UInt8)) : fitsT Tryd.prog 9 (.d (.str a)) = true := by kernel_rfl
theorem ff9 {a : (List UInt8)} : fitsT Tryd.prog 9 (.d (.str a)) = true := by kernel_rfl
theorem ld9 {S : Store} {a : (List UInt8)} : loadV Tryd.prog S 9 (.d (.ptr (.str a))) = some (.d (.str a)) := by kernel_rfl
theorem fits4 (a : Bool) : fitsD Tryd.prog 4 (.bool a) = true := by kernel_rfl
theorem fitsT4 (a : Bool) : fitsT Tryd.prog 4 (.d (.bool a)) = true := by kernel_rfl
theorem ff4 {a : Bool} : fitsT Tryd.prog 4 (.d (.bool a)) = true := by kernel_rfl
theorem ld4 {S : Store} {a : Bool} : loadV Tryd.prog S 4 (.d (.ptr (.bool a))) = some (.d (.bool a)) := by kernel_rfl
theorem fits22 (a : List D) : fitsD Tryd.prog 22 (.sl a) = true := by kernel_rfl
theorem ff22 {a : List D} : fitsT Tryd.prog 22 (.d (.sl a)) = true := by kernel_rfl
theorem ld22 {S : Store} {a : List D} : loadV Tryd.prog S 22 (.d (.ptr (.sl a))) = some (.d (.sl a)) := by kernel_rfl
theorem fits23 (a : List D) : fitsD Tryd.prog 23 (.sl a) = true := by kernel_rfl
theorem ff23 {a : List D} : fitsT Tryd.prog 23 (.d (.sl a)) = true := by kernel_rfl
theorem ld23 {S : Store} {a : List D} : loadV Tryd.prog S 23 (.d (.ptr (.sl a))) = some (.d (.sl a)) := by kernel_rfl
theorem fits37 (a : List D) : fitsD Tryd.prog 37 (.sl a) = true := by kernel_rfl
theorem ff37 {a : List D} : fitsT Tryd.prog 37 (.d (.sl a)) = true := by kernel_rfl
theorem ld37 {S : Store} {a : List D} : loadV Tryd.prog S 37 (.d (.ptr (.sl a))) = some (.d (.sl a)) := by kernel_rfl
structure Ans where
  err : Int
  ino : Int
  kind : Int
  links : Int
  size : Int
  data : List UInt8
  names : List (List UInt8)
  deriving DecidableEq
def encAns (a : Ans) : D := .agg [.int .i64 a.err, .int .i64 a.ino, .int .i64 a.kind, .int .i64 a.links, .int .i64 a.size, encB a.data, .sl (a.names.map .str)]
theorem fits25 (a : Ans) : fitsD Tryd.prog 25 (encAns a) = true := by kernel_rfl
theorem fitsT25 (a : Ans) : fitsT Tryd.prog 25 (.d (encAns a)) = true := by kernel_rfl
theorem z25 : zeroV Tryd.prog 25 = some (.agg [.d (.int .i64 0), .d (.int .i64 0), .d (.int .i64 0), .d (.int .i64 0), .d (.int .i64 0), .ts [], .ts []]) := by kernel_rfl
theorem zf25 : fitsT Tryd.prog 25 (.agg [.d (.int .i64 0), .d (.int .i64 0), .d (.int .i64 0), .d (.int .i64 0), .d (.int .i64 0), .ts [], .ts []]) = true := by kernel_rfl
theorem zz25  : zeroV Tryd.prog 25 = some (.agg [.d (.int .i64 0), .d (.int .i64 0), .d (.int .i64 0), .d (.int .i64 0), .d (.int .i64 0), .ts [], .ts []]) := z25
theorem zzf25  : fitsT Tryd.prog 25 (.agg [.d (.int .i64 0), .d (.int .i64 0), .d (.int .i64 0), .d (.int .i64 0), .d (.int .i64 0), .ts [], .ts []]) = true := zf25
theorem ff25 {a : Ans} : fitsT Tryd.prog 25 (.d (encAns a)) = true := by kernel_rfl
theorem ffa25 {x0 x1 x2 x3 x4 x5 x6 : V} : fitsT Tryd.prog 25 (.agg [x0, x1, x2, x3, x4, x5, x6]) = true := by kernel_rfl
theorem lr25 {a : Ans} : loadR Tryd.prog 25 0 (some (.d (encAns a))) = some (.d (encAns a)) := by kernel_rfl
theorem lra25 {x0 x1 x2 x3 x4 x5 x6 : V} : loadR Tryd.prog 25 0 (some (.agg [x0, x1, x2, x3, x4, x5, x6])) = some (.agg [x0, x1, x2, x3, x4, x5, x6]) := by kernel_rfl
theorem sr25 {a b : Ans} : storeR Tryd.prog 25 0 (.d (encAns a)) (.d (encAns b)) = some (.d (encAns a)) := by kernel_rfl
theorem srb25 {a : Ans} {x0 x1 x2 x3 x4 x5 x6 : V} : storeR Tryd.prog 25 0 (.d (encAns a)) (.agg [x0, x1, x2, x3, x4, x5, x6]) = some (.d (encAns a)) := by kernel_rfl
theorem src25 {a : Ans} {x0 x1 x2 x3 x4 x5 x6 : V} : storeR Tryd.prog 25 0 (.agg [x0, x1, x2, x3, x4, x5, x6]) (.d (encAns a)) = some (.agg [x0, x1, x2, x3, x4, x5, x6]) := by kernel_rfl
theorem srd25 {x0 x1 x2 x3 x4 x5 x6 y0 y1 y2 y3 y4 y5 y6 : V} : storeR Tryd.prog 25 0 (.agg [x0, x1, x2, x3, x4, x5, x6]) (.agg [y0, y1, y2, y3, y4, y5, y6]) = some (.agg [x0, x1, x2, x3, x4, x5, x6]) := by kernel_rfl
theorem ld25 {S : Store} {a : Ans} : loadV Tryd.prog S 25 (.d (.ptr (encAns a))) = some (.d (encAns a)) := by kernel_rfl
theorem fa25_0 {a : Ans} : fieldAddrV Tryd.prog 25 0 (.d (.ptr (encAns a))) = some (.d (.ptr (.int .i64 a.err))) := by kernel_rfl
theorem fd25_0 {a : Ans} : fieldV Tryd.prog 25 0 (.d (encAns a)) = some (.d (.int .i64 a.err)) := by kernel_rfl
theorem lr25_0 {a : Ans} : loadR Tryd.prog 3 0 (some (.d (encAns a))) = some (.d (.int .i64 a.err)) := by kernel_rfl
theorem lra25_0 {x0 x1 x2 x3 x4 x5 x6 : V} : loadR Tryd.prog 3 0 (some (.agg [x0, x1, x2, x3, x4, x5, x6])) = some x0 := by kernel_rfl
theorem sr25_0 {a : Ans} {v : V} (h1 : fitsT Tryd.prog 3 v = true) (h2 : v.cells = [v]) : storeR Tryd.prog 3 0 v (.d (encAns a)) = some (.agg [v, .d (.int .i64 a.ino), .d (.int .i64 a.kind), .d (.int .i64 a.links), .d (.int .i64 a.size), .d (encB a.data), .d (.sl (a.names.map .str))]) := by simp only [storeR, h1, h2]; rfl
theorem sra25_0 {x0 x1 x2 x3 x4 x5 x6 v : V} (h1 : fitsT Tryd.prog 3 v = true) (h2 : v.cells = [v]) : storeR Tryd.prog 3 0 v (.agg [x0, x1, x2, x3, x4, x5, x6]) = some (.agg [v, x1, x2, x3, x4, x5, x6]) := by simp only [storeR, h1, h2]; rfl
theorem sri25_0 {a : Ans} {x : Int} : storeR Tryd.prog 3 0 (.d (.int .i64 x)) (.d (encAns a)) = some (.agg [.d (.int .i64 x), .d (.int .i64 a.ino), .d (.int .i64 a.kind), .d (.int .i64 a.links), .d (.int .i64 a.size), .d (encB a.data), .d (.sl (a.names.map .str))]) := by kernel_rfl
theorem sria25_0 {x0 x1 x2 x3 x4 x5 x6 : V} {x : Int} : storeR Tryd.prog 3 0 (.d (.int .i64 x)) (.agg [x0, x1, x2, x3, x4, x5, x6]) = some (.agg [.d (.int .i64 x), x1, x2, x3, x4, x5, x6]) := by kernel_rfl
theorem fr25_0 {j x y : Nat} : fieldAddrV Tryd.prog 25 0 (.ref j x y) = some (.ref j x (y + 0)) := by kernel_rfl
theorem fa25_1 {a : Ans} : fieldAddrV Tryd.prog 25 1 (.d (.ptr (encAns a))) = some (.d (.ptr (.int .i64 a.ino))) := by kernel_rfl
theorem fd25_1 {a : Ans} : fieldV Tryd.prog 25 1 (.d (encAns a)) = some (.d (.int .i64 a.ino)) := by kernel_rfl
theorem lr25_1 {a : Ans} : loadR Tryd.prog 3 1 (some (.d (encAns a))) = some (.d (.int .i64 a.ino)) := by kernel_rfl
theorem lra25_1 {x0 x1 x2 x3 x4 x5 x6 : V} : loadR Tryd.prog 3 1 (some (.agg [x0, x1, x2, x3, x4, x5, x6])) = some x1 := by kernel_rfl
theorem sr25_1 {a : Ans} {v : V} (h1 : fitsT Tryd.prog 3 v = true) (h2 : v.cells = [v]) : storeR Tryd.prog 3 1 v (.d (encAns a)) = some (.agg [.d (.int .i64 a.err), v, .d (.int .i64 a.kind), .d (.int .i64 a.links), .d (.int .i64 a.size), .d (encB a.data), .d (.sl (a.names.map .str))]) := by simp only [storeR, h1, h2]; rfl
theorem sra25_1 {x0 x1 x2 x3 x4 x5 x6 v : V} (h1 : fitsT Tryd.prog 3 v = true) (h2 : v.cells = [v]) : storeR Tryd.prog 3 1 v (.agg [x0, x1, x2, x3, x4, x5, x6]) = some (.agg [x0, v, x2, x3, x4, x5, x6]) := by simp only [storeR, h1, h2]; rfl
theorem sri25_1 {a : Ans} {x : Int} : storeR Tryd.prog 3 1 (.d (.int .i64 x)) (.d (encAns a)) = some (.agg [.d (.int .i64 a.err), .d (.int .i64 x), .d (.int .i64 a.kind), .d (.int .i64 a.links), .d (.int .i64 a.size), .d (encB a.data), .d (.sl (a.names.map .str))]) := by kernel_rfl
theorem sria25_1 {x0 x1 x2 x3 x4 x5 x6 : V} {x : Int} : storeR Tryd.prog 3 1 (.d (.int .i64 x)) (.agg [x0, x1, x2, x3, x4, x5, x6]) = some (.agg [x0, .d (.int .i64 x), x2, x3, x4, x5, x6]) := by kernel_rfl
theorem fr25_1 {j x y : Nat} : fieldAddrV Tryd.prog 25 1 (.ref j x y) = some (.ref j x (y + 1)) := by kernel_rfl
theorem fa25_2 {a : Ans} : fieldAddrV Tryd.prog 25 2 (.d (.ptr (encAns a))) = some (.d (.ptr (.int .i64 a.kind))) := by kernel_rfl
theorem fd25_2 {a : Ans} : fieldV Tryd.prog 25 2 (.d (encAns a)) = some (.d (.int .i64 a.kind)) := by kernel_rfl
theorem lr25_2 {a : Ans} : loadR Tryd.prog 3 2 (some (.d (encAns a))) = some (.d (.int .i64 a.kind)) := by kernel_rfl
theorem lra25_2 {x0 x1 x2 x3 x4 x5 x6 : V} : loadR Tryd.prog 3 2 (some (.agg [x0, x1, x2, x3, x4, x5, x6])) = some x2 := by kernel_rfl
theorem sr25_2 {a : Ans} {v : V} (h1 : fitsT Tryd.prog 3 v = true) (h2 : v.cells = [v]) : storeR Tryd.prog 3 2 v (.d (encAns a)) = some (.agg [.d (.int .i64 a.err), .d (.int .i64 a.ino), v, .d (.int .i64 a.links), .d (.int .i64 a.size), .d (encB a.data), .d (.sl (a.names.map .str))]) := by simp only [storeR, h1, h2]; rfl
theorem sra25_2 {x0 x1 x2 x3 x4 x5 x6 v : V} (h1 : fitsT Tryd.prog 3 v = true) (h2 : v.cells = [v]) : storeR Tryd.prog 3 2 v (.agg [x0, x1, x2, x3, x4, x5, x6]) = some (.agg [x0, x1, v, x3, x4, x5, x6]) := by simp only [storeR, h1, h2]; rfl
theorem sri25_2 {a : Ans} {x : Int} : storeR Tryd.prog 3 2 (.d (.int .i64 x)) (.d (encAns a)) = some (.agg [.d (.int .i64 a.err), .d (.int .i64 a.ino), .d (.int .i64 x), .d (.int .i64 a.links), .d (.int .i64 a.size), .d (encB a.data), .d (.sl (a.names.map .str))]) := by kernel_rfl
theorem sria25_2 {x0 x1 x2 x3 x4 x5 x6 : V} {x : Int} : storeR Tryd.prog 3 2 (.d (.int .i64 x)) (.agg [x0, x1, x2, x3, x4, x5, x6]) = some (.agg [x0, x1, .d (.int .i64 x), x3, x4, x5, x6]) := by kernel_rfl
theorem fr25_2 {j x y : Nat} : fieldAddrV Tryd.prog 25 2 (.ref j x y) = some (.ref j x (y + 2)) := by kernel_rfl
theorem fa25_3 {a : Ans} : fieldAddrV Tryd.prog 25 3 (.d (.ptr (encAns a))) = some (.d (.ptr (.int .i64 a.links))) := by kernel_rfl
theorem fd25_3 {a : Ans} : fieldV Tryd.prog 25 3 (.d (encAns a)) = some (.d (.int .i64 a.links)) := by kernel_rfl
theorem lr25_3 {a : Ans} : loadR Tryd.prog 3 3 (some (.d (encAns a))) = some (.d (.int .i64 a.links)) := by kernel_rfl
theorem lra25_3 {x0 x1 x2 x3 x4 x5 x6 : V} : loadR Tryd.prog 3 3 (some (.agg [x0, x1, x2, x3, x4, x5, x6])) = some x3 := by kernel_rfl
theorem sr25_3 {a : Ans} {v : V} (h1 : fitsT Tryd.prog 3 v = true) (h2 : v.cells = [v]) : storeR Tryd.prog 3 3 v (.d (encAns a)) = some (.agg [.d (.int .i64 a.err), .d (.int .i64 a.ino), .d (.int .i64 a.kind), v, .d (.int .i64 a.size), .d (encB a.data), .d (.sl (a.names.map .str))]) := by simp only [storeR, h1, h2]; rfl
theorem sra25_3 {x0 x1 x2 x3 x4 x5 x6 v : V} (h1 : fitsT Tryd.prog 3 v = true) (h2 : v.cells = [v]) : storeR Tryd.prog 3 3 v (.agg [x0, x1, x2, x3, x4, x5, x6]) = some (.agg [x0, x1, x2, v, x4, x5, x6]) := by simp only [storeR, h1, h2]; rfl
theorem sri25_3 {a : Ans} {x : Int} : storeR Tryd.prog 3 3 (.d (.int .i64 x)) (.d (encAns a)) = some (.agg [.d (.int .i64 a.err), .d (.int .i64 a.ino), .d (.int .i64 a.kind), .d (.int .i64 x), .d (.int .i64 a.size), .d (encB a.data), .d (.sl (a.names.map .str))]) := by kernel_rfl
theorem sria25_3 {x0 x1 x2 x3 x4 x5 x6 : V} {x : Int} : storeR Tryd.prog 3 3 (.d (.int .i64 x)) (.agg [x0, x1, x2, x3, x4, x5, x6]) = some (.agg [x0, x1, x2, .d (.int .i64 x), x4, x5, x6]) := by kernel_rfl
theorem fr25_3 {j x y : Nat} : fieldAddrV Tryd.prog 25 3 (.ref j x y) = some (.ref j x (y + 3)) := by kernel_rfl
theorem fa25_4 {a : Ans} : fieldAddrV Tryd.prog 25 4 (.d (.ptr (encAns a))) = some (.d (.ptr (.int .i64 a.size))) := by kernel_rfl
theorem fd25_4 {a : Ans} : fieldV Tryd.prog 25 4 (.d (encAns a)) = some (.d (.int .i64 a.size)) := by kernel_rfl
theorem lr25_4 {a : Ans} : loadR Tryd.prog 3 4 (some (.d (encAns a))) = some (.d (.int .i64 a.size)) := by kernel_rfl
theorem lra25_4 {x0 x1 x2 x3 x4 x5 x6 : V} : loadR Tryd.prog 3 4 (some (.agg [x0, x1, x2, x3, x4, x5, x6])) = some x4 := by kernel_rfl
theorem sr25_4 {a : Ans} {v : V} (h1 : fitsT Tryd.prog 3 v = true) (h2 : v.cells = [v]) : storeR Tryd.prog 3 4 v (.d (encAns a)) = some (.agg [.d (.int .i64 a.err), .d (.int .i64 a.ino), .d (.int .i64 a.kind), .d (.int .i64 a.links), v, .d (encB a.data), .d (.sl (a.names.map .str))]) := by simp only [storeR, h1, h2]; rfl
theorem sra25_4 {x0 x1 x2 x3 x4 x5 x6 v : V} (h1 : fitsT Tryd.prog 3 v = true) (h2 : v.cells = [v]) : storeR Tryd.prog 3 4 v (.agg [x0, x1, x2, x3, x4, x5, x6]) = some (.agg [x0, x1, x2, x3, v, x5, x6]) := by simp only [storeR, h1, h2]; rfl
theorem sri25_4 {a : Ans} {x : Int} : storeR Tryd.prog 3 4 (.d (.int .i64 x)) (.d (encAns a)) = some (.agg [.d (.int .i64 a.err), .d (.int .i64 a.ino), .d (.int .i64 a.kind), .d (.int .i64 a.links), .d (.int .i64 x), .d (encB a.data), .d (.sl (a.names.map .str))]) := by kernel_rfl
theorem sria25_4 {x0 x1 x2 x3 x4 x5 x6 : V} {x : Int} : storeR Tryd.prog 3 4 (.d (.int .i64 x)) (.agg [x0, x1, x2, x3, x4, x5, x6]) = some (.agg [x0, x1, x2, x3, .d (.int .i64 x), x5, x6]) := by kernel_rfl
theorem fr25_4 {j x y : Nat} : fieldAddrV Tryd.prog 25 4 (.ref j x y) = some (.ref j x (y + 4)) := by kernel_rfl
theorem fa25_5 {a : Ans} : fieldAddrV Tryd.prog 25 5 (.d (.ptr (encAns a))) = some (.d (.ptr (encB a.data))) := by kernel_rfl
theorem fd25_5 {a : Ans} : fieldV Tryd.prog 25 5 (.d (encAns a)) = some (.d (encB a.data)) := by kernel_rfl
theorem lr25_5 {a : Ans} : loadR Tryd.prog 22 5 (some (.d (encAns a))) = some (.d (encB a.data)) := by kernel_rfl
theorem lra25_5 {x0 x1 x2 x3 x4 x5 x6 : V} : loadR Tryd.prog 22 5 (some (.agg [x0, x1, x2, x3, x4, x5, x6])) = some x5 := by kernel_rfl
theorem sr25_5 {a : Ans} {v : V} (h1 : fitsT Tryd.prog 22 v = true) (h2 : v.cells = [v]) : storeR Tryd.prog 22 5 v (.d (encAns a)) = some (.agg [.d (.int .i64 a.err), .d (.int .i64 a.ino), .d (.int .i64 a.kind), .d (.int .i64 a.links), .d (.int .i64 a.size), v, .d (.sl (a.names.map .str))]) := by simp only [storeR, h1, h2]; rfl
theorem sra25_5 {x0 x1 x2 x3 x4 x5 x6 v : V} (h1 : fitsT Tryd.prog 22 v = true) (h2 : v.cells = [v]) : storeR Tryd.prog 22 5 v (.agg [x0, x1, x2, x3, x4, x5, x6]) = some (.agg [x0, x1, x2, x3, x4, v, x6]) := by simp only [storeR, h1, h2]; rfl
theorem fr25_5 {j x y : Nat} : fieldAddrV Tryd.prog 25 5 (.ref j x y) = some (.ref j x (y + 5)) := by kernel_rfl
theorem fa25_6 {a : Ans} : fieldAddrV Tryd.prog 25 6 (.d (.ptr (encAns a))) = some (.d (.ptr (.sl (a.names.map .str)))) := by kernel_rfl
theorem fd25_6 {a : Ans} : fieldV Tryd.prog 25 6 (.d (encAns a)) = some (.d (.sl (a.names.map .str))) := by kernel_rfl
theorem lr25_6 {a : Ans} : loadR Tryd.prog 23 6 (some (.d (encAns a))) = some (.d (.sl (a.names.map .str))) := by kernel_rfl
theorem lra25_6 {x0 x1 x2 x3 x4 x5 x6 : V} : loadR Tryd.prog 23 6 (some (.agg [x0, x1, x2, x3, x4, x5, x6])) = some x6 := by kernel_rfl
theorem sr25_6 {a : Ans} {v : V} (h1 : fitsT Tryd.prog 23 v = true) (h2 : v.cells = [v]) : storeR Tryd.prog 23 6 v (.d (encAns a)) = some (.agg [.d (.int .i64 a.err), .d (.int .i64 a.ino), .d (.int .i64 a.kind), .d (.int .i64 a.links), .d (.int .i64 a.size), .d (encB a.data), v]) := by simp only [storeR, h1, h2]; rfl
theorem sra25_6 {x0 x1 x2 x3 x4 x5 x6 v : V} (h1 : fitsT Tryd.prog 23 v = true) (h2 : v.cells = [v]) : storeR Tryd.prog 23 6 v (.agg [x0, x1, x2, x3, x4, x5, x6]) = some (.agg [x0, x1, x2, x3, x4, x5, v]) := by simp only [storeR, h1, h2]; rfl
theorem fr25_6 {j x y : Nat} : fieldAddrV Tryd.prog 25 6 (.ref j x y) = some (.ref j x (y + 6)) := by kernel_rfl
theorem fits31 (a : Ans) : fitsD Tryd.prog 31 (encAns a) = true := by kernel_rfl
theorem fitsT31 (a : Ans) : fitsT Tryd.prog 31 (.d (encAns a)) = true := by kernel_rfl
theorem z31 : zeroV Tryd.prog 31 = some (.agg [.d (.int .i64 0), .d (.int .i64 0), .d (.int .i64 0), .d (.int .i64 0), .d (.int .i64 0), .ts [], .ts []]) := by kernel_rfl
theorem zf31 : fitsT Tryd.prog 31 (.agg [.d (.int .i64 0), .d (.int .i64 0), .d (.int .i64 0), .d (.int .i64 0), .d (.int .i64 0), .ts [], .ts []]) = true := by kernel_rfl
theorem zz31  : zeroV Tryd.prog 31 = some (.agg [.d (.int .i64 0), .d (.int .i64 0), .d (.int .i64 0), .d (.int .i64 0), .d (.int .i64 0), .ts [], .ts []]) := z31
theorem zzf31  : fitsT Tryd.prog 31 (.agg [.d (.int .i64 0), .d (.int .i64 0), .d (.int .i64 0), .d (.int .i64 0), .d (.int .i64 0), .ts [], .ts []]) = true := zf31
theorem ff31 {a : Ans} : fitsT Tryd.prog 31 (.d (encAns a)) = true := by kernel_rfl
theorem ffa31 {x0 x1 x2 x3 x4 x5 x6 : V} : fitsT Tryd.prog 31 (.agg [x0, x1, x2, x3, x4, x5, x6]) = true := by kernel_rfl
theorem lr31 {a : Ans} : loadR Tryd.prog 31 0 (some (.d (encAns a))) = some (.d (encAns a)) := by kernel_rfl
theorem lra31 {x0 x1 x2 x3 x4 x5 x6 : V} : loadR Tryd.prog 31 0 (some (.agg [x0, x1, x2, x3, x4, x5, x6])) = some (.agg [x0, x1, x2, x3, x4, x5, x6]) := by kernel_rfl
theorem sr31 {a b : Ans} : storeR Tryd.prog 31 0 (.d (encAns a)) (.d (encAns b)) = some (.d (encAns a)) := by kernel_rfl
theorem srb31 {a : Ans} {x0 x1 x2 x3 x4 x5 x6 : V} : storeR Tryd.prog 31 0 (.d (encAns a)) (.agg [x0, x1, x2, x3, x4, x5, x6]) = some (.d (encAns a)) := by kernel_rfl
theorem src31 {a : Ans} {x0 x1 x2 x3 x4 x5 x6 : V} : storeR Tryd.prog 31 0 (.agg [x0, x1, x2, x3, x4, x5, x6]) (.d (encAns a)) = some (.agg [x0, x1, x2, x3, x4, x5, x6]) := by kernel_rfl
theorem srd31 {x0 x1 x2 x3 x4 x5 x6 y0 y1 y2 y3 y4 y5 y6 : V} : storeR Tryd.prog 31 0 (.agg [x0, x1, x2, x3, x4, x5, x6]) (.agg [y0, y1, y2, y3, y4, y5, y6]) = some (.agg [x0, x1, x2, x3, x4, x5, x6]) := by kernel_rfl
theorem ld31 {S : Store} {a : Ans} : loadV Tryd.prog S 31 (.d (.ptr (encAns a))) = some (.d (encAns a)) := by kernel_rfl
theorem fa31_0 {a : Ans} : fieldAddrV Tryd.prog 31 0 (.d (.ptr (encAns a))) = some (.d (.ptr (.int .i64 a.err))) := by kernel_rfl
theorem fd31_0 {a : Ans} : fieldV Tryd.prog 31 0 (.d (encAns a)) = some (.d (.int .i64 a.err)) := by kernel_rfl
theorem lr31_0 {a : Ans} : loadR Tryd.prog 29 0 (some (.d (encAns a))) = some (.d (.int .i64 a.err)) := by kernel_rfl
theorem lra31_0 {x0 x1 x2 x3 x4 x5 x6 : V} : loadR Tryd.prog 29 0 (some (.agg [x0, x1, x2, x3, x4, x5, x6])) = some x0 := by kernel_rfl
theorem sr31_0 {a : Ans} {v : V} (h1 : fitsT Tryd.prog 29 v = true) (h2 : v.cells = [v]) : storeR Tryd.prog 29 0 v (.d (encAns a)) = some (.agg [v, .d (.int .i64 a.ino), .d (.int .i64 a.kind), .d (.int .i64 a.links), .d (.int .i64 a.size), .d (encB a.data), .d (.sl (a.names.map .str))]) := by simp only [storeR, h1, h2]; rfl
theorem sra31_0 {x0 x1 x2 x3 x4 x5 x6 v : V} (h1 : fitsT Tryd.prog 29 v = true) (h2 : v.cells = [v]) : storeR Tryd.prog 29 0 v (.agg [x0, x1, x2, x3, x4, x5, x6]) = some (.agg [v, x1, x2, x3, x4, x5, x6]) := by simp only [storeR, h1, h2]; rfl
theorem sri31_0 {a : Ans} {x : Int} : storeR Tryd.prog 29 0 (.d (.int .i64 x)) (.d (encAns a)) = some (.agg [.d (.int .i64 x), .d (.int .i64 a.ino), .d (.int .i64 a.kind), .d (.int .i64 a.links), .d (.int .i64 a.size), .d (encB a.data), .d (.sl (a.names.map .str))]) := by kernel_rfl
theorem sria31_0 {x0 x1 x2 x3 x4 x5 x6 : V} {x : Int} : storeR Tryd.prog 29 0 (.d (.int .i64 x)) (.agg [x0, x1, x2, x3, x4, x5, x6]) = some (.agg [.d (.int .i64 x), x1, x2, x3, x4, x5, x6]) := by kernel_rfl
theorem fr31_0 {j x y : Nat} : fieldAddrV Tryd.prog 31 0 (.ref j x y) = some (.ref j x (y + 0)) := by kernel_rfl
theorem fa31_1 {a : Ans} : fieldAddrV Tryd.prog 31 1 (.d (.ptr (encAns a))) = some (.d (.ptr (.int .i64 a.ino))) := by kernel_rfl
theorem fd31_1 {a : Ans} : fieldV Tryd.prog 31 1 (.d (encAns a)) = some (.d (.int .i64 a.ino)) := by kernel_rfl
theorem lr31_1 {a : Ans} : loadR Tryd.prog 3 1 (some (.d (encAns a))) = some (.d (.int .i64 a.ino)) := by kernel_rfl
theorem lra31_1 {x0 x1 x2 x3 x4 x5 x6 : V} : loadR Tryd.prog 3 1 (some (.agg [x0, x1, x2, x3, x4, x5, x6])) = some x1 := by kernel_rfl
theorem sr31_1 {a : Ans} {v : V} (h1 : fitsT Tryd.prog 3 v = true) (h2 : v.cells = [v]) : storeR Tryd.prog 3 1 v (.d (encAns a)) = some (.agg [.d (.int .i64 a.err), v, .d (.int .i64 a.kind), .d (.int .i64 a.links), .d (.int .i64 a.size), .d (encB a.data), .d (.sl (a.names.map .str))]) := by simp only [storeR, h1, h2]; rfl
theorem sra31_1 {x0 x1 x2 x3 x4 x5 x6 v : V} (h1 : fitsT Tryd.prog 3 v = true) (h2 : v.cells = [v]) : storeR Tryd.prog 3 1 v (.agg [x0, x1, x2, x3, x4, x5, x6]) = some (.agg [x0, v, x2, x3, x4, x5, x6]) := by simp only [storeR, h1, h2]; rfl
theorem sri31_1 {a : Ans} {x : Int} : storeR Tryd.prog 3 1 (.d (.int .i64 x)) (.d (encAns a)) = some (.agg [.d (.int .i64 a.err), .d (.int .i64 x), .d (.int .i64 a.kind), .d (.int .i64 a.links), .d (.int .i64 a.size), .d (encB a.data), .d (.sl (a.names.map .str))]) := by kernel_rfl
theorem sria31_1 {x0 x1 x2 x3 x4 x5 x6 : V} {x : Int} : storeR Tryd.prog 3 1 (.d (.int .i64 x)) (.agg [x0, x1, x2, x3, x4, x5, x6]) = some (.agg [x0, .d (.int .i64 x), x2, x3, x4, x5, x6]) := by kernel_rfl
theorem fr31_1 {j x y : Nat} : fieldAddrV Tryd.prog 31 1 (.ref j x y) = some (.ref j x (y + 1)) := by kernel_rfl
theorem fa31_2 {a : Ans} : fieldAddrV Tryd.prog 31 2 (.d (.ptr (encAns a))) = some (.d (.ptr (.int .i64 a.kind))) := by kernel_rfl
theorem fd31_2 {a : Ans} : fieldV Tryd.prog 31 2 (.d (encAns a)) = some (.d (.int .i64 a.kind)) := by kernel_rfl
theorem lr31_2 {a : Ans} : loadR Tryd.prog 3 2 (some (.d (encAns a))) = some (.d (.int .i64 a.kind)) := by kernel_rfl
theorem lra31_2 {x0 x1 x2 x3 x4 x5 x6 : V} : loadR Tryd.prog 3 2 (some (.agg [x0, x1, x2, x3, x4, x5, x6])) = some x2 := by kernel_rfl
theorem sr31_2 {a : Ans} {v : V} (h1 : fitsT Tryd.prog 3 v = true) (h2 : v.cells = [v]) : storeR Tryd.prog 3 2 v (.d (encAns a)) = some (.agg [.d (.int .i64 a.err), .d (.int .i64 a.ino), v, .d (.int .i64 a.links), .d (.int .i64 a.size), .d (encB a.data), .d (.sl (a.names.map .str))]) := by simp only [storeR, h1, h2]; rfl
theorem sra31_2 {x0 x1 x2 x3 x4 x5 x6 v : V} (h1 : fitsT Tryd.prog 3 v = true) (h2 : v.cells = [v]) : storeR Tryd.prog 3 2 v (.agg [x0, x1, x2, x3, x4, x5, x6]) = some (.agg [x0, x1, v, x3, x4, x5, x6]) := by simp only [storeR, h1, h2]; rfl
theorem sri31_2 {a : Ans} {x : Int} : storeR Tryd.prog 3 2 (.d (.int .i64 x)) (.d (encAns a)) = some (.agg [.d (.int .i64 a.err), .d (.int .i64 a.ino), .d (.int .i64 x), .d (.int .i64 a.links), .d (.int .i64 a.size), .d (encB a.data), .d (.sl (a.names.map .str))]) := by kernel_rfl
theorem sria31_2 {x0 x1 x2 x3 x4 x5 x6 : V} {x : Int} : storeR Tryd.prog 3 2 (.d (.int .i64 x)) (.agg [x0, x1, x2, x3, x4, x5, x6]) = some (.agg [x0, x1, .d (.int .i64 x), x3, x4, x5, x6]) := by kernel_rfl
theorem fr31_2 {j x y : Nat} : fieldAddrV Tryd.prog 31 2 (.ref j x y) = some (.ref j x (y + 2)) := by kernel_rfl
theorem fa31_3 {a : Ans} : fieldAddrV Tryd.prog 31 3 (.d (.ptr (encAns a))) = some (.d (.ptr (.int .i64 a.links))) := by kernel_rfl
theorem fd31_3 {a : Ans} : fieldV Tryd.prog 31 3 (.d (encAns a)) = some (.d (.int .i64 a.links)) := by kernel_rfl
theorem lr31_3 {a : Ans} : loadR Tryd.prog 3 3 (some (.d (encAns a))) = some (.d (.int .i64 a.links)) := by kernel_rfl
theorem lra31_3 {x0 x1 x2 x3 x4 x5 x6 : V} : loadR Tryd.prog 3 3 (some (.agg [x0, x1, x2, x3, x4, x5, x6])) = some x3 := by kernel_rfl
theorem sr31_3 {a : Ans} {v : V} (h1 : fitsT Tryd.prog 3 v = true) (h2 : v.cells = [v]) : storeR Tryd.prog 3 3 v (.d (encAns a)) = some (.agg [.d (.int .i64 a.err), .d (.int .i64 a.ino), .d (.int .i64 a.kind), v, .d (.int .i64 a.size), .d (encB a.data), .d (.sl (a.names.map .str))]) := by simp only [storeR, h1, h2]; rfl
theorem sra31_3 {x0 x1 x2 x3 x4 x5 x6 v : V} (h1 : fitsT Tryd.prog 3 v = true) (h2 : v.cells = [v]) : storeR Tryd.prog 3 3 v (.agg [x0, x1, x2, x3, x4, x5, x6]) = some (.agg [x0, x1, x2, v, x4, x5, x6]) := by simp only [storeR, h1, h2]; rfl
theorem sri31_3 {a : Ans} {x : Int} : storeR Tryd.prog 3 3 (.d (.int .i64 x)) (.d (encAns a)) = some (.agg [.d (.int .i64 a.err), .d (.int .i64 a.ino), .d (.int .i64 a.kind), .d (.int .i64 x), .d (.int .i64 a.size), .d (encB a.data), .d (.sl (a.names.map .str))]) := by kernel_rfl
theorem sria31_3 {x0 x1 x2 x3 x4 x5 x6 : V} {x : Int} : storeR Tryd.prog 3 3 (.d (.int .i64 x)) (.agg [x0, x1, x2, x3, x4, x5, x6]) = some (.agg [x0, x1, x2, .d (.int .i64 x), x4, x5, x6]) := by kernel_rfl
theorem fr31_3 {j x y : Nat} : fieldAddrV Tryd.prog 31 3 (.ref j x y) = some (.ref j x (y + 3)) := by kernel_rfl
theorem fa31_4 {a : Ans} : fieldAddrV Tryd.prog 31 4 (.d (.ptr (encAns a))) = some (.d (.ptr (.int .i64 a.size))) := by kernel_rfl
theorem fd31_4 {a : Ans} : fieldV Tryd.prog 31 4 (.d (encAns a)) = some (.d (.int .i64 a.size)) := by kernel_rfl
theorem lr31_4 {a : Ans} : loadR Tryd.prog 3 4 (some (.d (encAns a))) = some (.d (.int .i64 a.size)) := by kernel_rfl
theorem lra31_4 {x0 x1 x2 x3 x4 x5 x6 : V} : loadR Tryd.prog 3 4 (some (.agg [x0, x1, x2, x3, x4, x5, x6])) = some x4 := by kernel_rfl
theorem sr31_4 {a : Ans} {v : V} (h1 : fitsT Tryd.prog 3 v = true) (h2 : v.cells = [v]) : storeR Tryd.prog 3 4 v (.d (encAns a)) = some (.agg [.d (.int .i64 a.err), .d (.int .i64 a.ino), .d (.int .i64 a.kind), .d (.int .i64 a.links), v, .d (encB a.data), .d (.sl (a.names.map .str))]) := by simp only [storeR, h1, h2]; rfl
theorem sra31_4 {x0 x1 x2 x3 x4 x5 x6 v : V} (h1 : fitsT Tryd.prog 3 v = true) (h2 : v.cells = [v]) : storeR Tryd.prog 3 4 v (.agg [x0, x1, x2, x3, x4, x5, x6]) = some (.agg [x0, x1, x2, x3, v, x5, x6]) := by simp only [storeR, h1, h2]; rfl
theorem sri31_4 {a : Ans} {x : Int} : storeR Tryd.prog 3 4 (.d (.int .i64 x)) (.d (encAns a)) = some (.agg [.d (.int .i64 a.err), .d (.int .i64 a.ino), .d (.int .i64 a.kind), .d (.int .i64 a.links), .d (.int .i64 x), .d (encB a.data), .d (.sl (a.names.map .str))]) := by kernel_rfl
theorem sria31_4 {x0 x1 x2 x3 x4 x5 x6 : V} {x : Int} : storeR Tryd.prog 3 4 (.d (.int .i64 x)) (.agg [x0, x1, x2, x3, x4, x5, x6]) = some (.agg [x0, x1, x2, x3, .d (.int .i64 x), x5, x6]) := by kernel_rfl
theorem fr31_4 {j x y : Nat} : fieldAddrV Tryd.prog 31 4 (.ref j x y) = some (.ref j x (y + 4)) := by kernel_rfl
theorem fa31_5 {a : Ans} : fieldAddrV Tryd.prog 31 5 (.d (.ptr (encAns a))) = some (.d (.ptr (encB a.data))) := by kernel_rfl
theorem fd31_5 {a : Ans} : fieldV Tryd.prog 31 5 (.d (encAns a)) = some (.d (encB a.data)) := by kernel_rfl
theorem lr31_5 {a : Ans} : loadR Tryd.prog 22 5 (some (.d (encAns a))) = some (.d (encB a.data)) := by kernel_rfl
theorem lra31_5 {x0 x1 x2 x3 x4 x5 x6 : V} : loadR Tryd.prog 22 5 (some (.agg [x0, x1, x2, x3, x4, x5, x6])) = some x5 := by kernel_rfl
theorem sr31_5 {a : Ans} {v : V} (h1 : fitsT Tryd.prog 22 v = true) (h2 : v.cells = [v]) : storeR Tryd.prog 22 5 v (.d (encAns a)) = some (.agg [.d (.int .i64 a.err), .d (.int .i64 a.ino), .d (.int .i64 a.kind), .d (.int .i64 a.links), .d (.int .i64 a.size), v, .d (.sl (a.names.map .str))]) := by simp only [storeR, h1, h2]; rfl
theorem sra31_5 {x0 x1 x2 x3 x4 x5 x6 v : V} (h1 : fitsT Tryd.prog 22 v = true) (h2 : v.cells = [v]) : storeR Tryd.prog 22 5 v (.agg [x0, x1, x2, x3, x4, x5, x6]) = some (.agg [x0, x1, x2, x3, x4, v, x6]) := by simp only [storeR, h1, h2]; rfl
theorem fr31_5 {j x y : Nat} : fieldAddrV Tryd.prog 31 5 (.ref j x y) = some (.ref j x (y + 5)) := by kernel_rfl
theorem fa31_6 {a : Ans} : fieldAddrV Tryd.prog 31 6 (.d (.ptr (encAns a))) = some (.d (.ptr (.sl (a.names.map .str)))) := by kernel_rfl
theorem fd31_6 {a : Ans} : fieldV Tryd.prog 31 6 (.d (encAns a)) = some (.d (.sl (a.names.map .str))) := by kernel_rfl
theorem lr31_6 {a : Ans} : loadR Tryd.prog 23 6 (some (.d (encAns a))) = some (.d (.sl (a.names.map .str))) := by kernel_rfl
theorem lra31_6 {x0 x1 x2 x3 x4 x5 x6 : V} : loadR Tryd.prog 23 6 (some (.agg [x0, x1, x2, x3, x4, x5, x6])) = some x6 := by kernel_rfl
theorem sr31_6 {a : Ans} {v : V} (h1 : fitsT Tryd.prog 23 v = true) (h2 : v.cells = [v]) : storeR Tryd.prog 23 6 v (.d (encAns a)) = some (.agg [.d (.int .i64 a.err), .d (.int .i64 a.ino), .d (.int .i64 a.kind), .d (.int .i64 a.links), .d (.int .i64 a.size), .d (encB a.data), v]) := by simp only [storeR, h1, h2]; rfl
theorem sra31_6 {x0 x1 x2 x3 x4 x5 x6 v : V} (h1 : fitsT Tryd.prog 23 v = true) (h2 : v.cells = [v]) : storeR Tryd.prog 23 6 v (.agg [x0, x1, x2, x3, x4, x5, x6]) = some (.agg [x0, x1, x2, x3, x4, x5, v]) := by simp only [storeR, h1, h2]; rfl
theorem fr31_6 {j x y : Nat} : fieldAddrV Tryd.prog 31 6 (.ref j x y) = some (.ref j x (y + 6)) := by kernel_rfl
structure Mend where
  n0 : Int
  n1 : Int
  n2 : Int
  n3 : Int
  n4 : Int
  n5 : Int
  n6 : Int
  n7 : Int
  deriving DecidableEq
def encMend (a : Mend) : D := .agg [.int .i64 a.n0, .int .i64 a.n1, .int .i64 a.n2, .int .i64 a.n3, .int .i64 a.n4, .int .i64 a.n5, .int .i64 a.n6, .int .i64 a.n7]
theorem fits40 (a : Mend) : fitsD Tryd.prog 40 (encMend a) = true := by kernel_rfl
theorem fitsT40 (a : Mend) : fitsT Tryd.prog 40 (.d (encMend a)) = true := by kernel_rfl
theorem z40 : zeroV Tryd.prog 40 = some (.agg [.d (.int .i64 0), .d (.int .i64 0), .d (.int .i64 0), .d (.int .i64 0), .d (.int .i64 0), .d (.int .i64 0), .d (.int .i64 0), .d (.int .i64 0)]) := by kernel_rfl
theorem zf40 : fitsT Tryd.prog 40 (.agg [.d (.int .i64 0), .d (.int .i64 0), .d (.int .i64 0), .d (.int .i64 0), .d (.int .i64 0), .d (.int .i64 0), .d (.int .i64 0), .d (.int .i64 0)]) = true := by kernel_rfl
theorem zz40  : zeroV Tryd.prog 40 = some (.agg [.d (.int .i64 0), .d (.int .i64 0), .d (.int .i64 0), .d (.int .i64 0), .d (.int .i64 0), .d (.int .i64 0), .d (.int .i64 0), .d (.int .i64 0)]) := z40
theorem zzf40  : fitsT Tryd.prog 40 (.agg [.d (.int .i64 0), .d (.int .i64 0), .d (.int .i64 0), .d (.int .i64 0), .d (.int .i64 0), .d (.int .i64 0), .d (.int .i64 0), .d (.int .i64 0)]) = true := zf40
theorem ff40 {a : Mend} : fitsT Tryd.prog 40 (.d (encMend a)) = true := by kernel_rfl
theorem ffa40 {x0 x1 x2 x3 x4 x5 x6 x7 : V} : fitsT Tryd.prog 40 (.agg [x0, x1, x2, x3, x4, x5, x6, x7]) = true := by kernel_rfl
theorem lr40 {a : Mend} : loadR Tryd.prog 40 0 (some (.d (encMend a))) = some (.d (encMend a)) := by kernel_rfl
theorem lra40 {x0 x1 x2 x3 x4 x5 x6 x7 : V} : loadR Tryd.prog 40 0 (some (.agg [x0, x1, x2, x3, x4, x5, x6, x7])) = some (.agg [x0, x1, x2, x3, x4, x5, x6, x7]) := by kernel_rfl
theorem sr40 {a b : Mend} : storeR Tryd.prog 40 0 (.d (encMend a)) (.d (encMend b)) = some (.d (encMend a)) := by kernel_rfl
theorem srb40 {a : Mend} {x0 x1 x2 x3 x4 x5 x6 x7 : V} : storeR Tryd.prog 40 0 (.d (encMend a)) (.agg [x0, x1, x2, x3, x4, x5, x6, x7]) = some (.d (encMend a)) := by kernel_rfl
theorem src40 {a : Mend} {x0 x1 x2 x3 x4 x5 x6 x7 : V} : storeR Tryd.prog 40 0 (.agg [x0, x1, x2, x3, x4, x5, x6, x7]) (.d (encMend a)) = some (.agg [x0, x1, x2, x3, x4, x5, x6, x7]) := by kernel_rfl
theorem srd40 {x0 x1 x2 x3 x4 x5 x6 x7 y0 y1 y2 y3 y4 y5 y6 y7 : V} : storeR Tryd.prog 40 0 (.agg [x0, x1, x2, x3, x4, x5, x6, x7]) (.agg [y0, y1, y2, y3, y4, y5, y6, y7]) = some (.agg [x0, x1, x2, x3, x4, x5, x6, x7]) := by kernel_rfl
theorem ld40 {S : Store} {a : Mend} : loadV Tryd.prog S 40 (.d (.ptr (encMend a))) = some (.d (encMend a)) := by kernel_rfl
theorem fa40_0 {a : Mend} : fieldAddrV Tryd.prog 40 0 (.d (.ptr (encMend a))) = some (.d (.ptr (.int .i64 a.n0))) := by kernel_rfl
theorem fd40_0 {a : Mend} : fieldV Tryd.prog 40 0 (.d (encMend a)) = some (.d (.int .i64 a.n0)) := by kernel_rfl
theorem lr40_0 {a : Mend} : loadR Tryd.prog 3 0 (some (.d (encMend a))) = some (.d (.int .i64 a.n0)) := by kernel_rfl
theorem lra40_0 {x0 x1 x2 x3 x4 x5 x6 x7 : V} : loadR Tryd.prog 3 0 (some (.agg [x0, x1, x2, x3, x4, x5, x6, x7])) = some x0 := by kernel_rfl
theorem sr40_0 {a : Mend} {v : V} (h1 : fitsT Tryd.prog 3 v = true) (h2 : v.cells = [v]) : storeR Tryd.prog 3 0 v (.d (encMend a)) = some (.agg [v, .d (.int .i64 a.n1), .d (.int .i64 a.n2), .d (.int .i64 a.n3), .d (.int .i64 a.n4), .d (.int .i64 a.n5), .d (.int .i64 a.n6), .d (.int .i64 a.n7)]) := by simp only [storeR, h1, h2]; rfl
theorem sra40_0 {x0 x1 x2 x3 x4 x5 x6 x7 v : V} (h1 : fitsT Tryd.prog 3 v = true) (h2 : v.cells = [v]) : storeR Tryd.prog 3 0 v (.agg [x0, x1, x2, x3, x4, x5, x6, x7]) = some (.agg [v, x1, x2, x3, x4, x5, x6, x7]) := by simp only [storeR, h1, h2]; rfl
theorem sri40_0 {a : Mend} {x : Int} : storeR Tryd.prog 3 0 (.d (.int .i64 x)) (.d (encMend a)) = some (.agg [.d (.int .i64 x), .d (.int .i64 a.n1), .d (.int .i64 a.n2), .d (.int .i64 a.n3), .d (.int .i64 a.n4), .d (.int .i64 a.n5), .d (.int .i64 a.n6), .d (.int .i64 a.n7)]) := by kernel_rfl
theorem sria40_0 {x0 x1 x2 x3 x4 x5 x6 x7 : V} {x : Int} : storeR Tryd.prog 3 0 (.d (.int .i64 x)) (.agg [x0, x1, x2, x3, x4, x5, x6, x7]) = some (.agg [.d (.int .i64 x), x1, x2, x3, x4, x5, x6, x7]) := by kernel_rfl
theorem fr40_0 {j x y : Nat} : fieldAddrV Tryd.prog 40 0 (.ref j x y) = some (.ref j x (y + 0)) := by kernel_rfl
theorem fa40_1 {a : Mend} : fieldAddrV Tryd.prog 40 1 (.d (.ptr (encMend a))) = some (.d (.ptr (.int .i64 a.n1))) := by kernel_rfl
theorem fd40_1 {a : Mend} : fieldV Tryd.prog 40 1 (.d (encMend a)) = some (.d (.int .i64 a.n1)) := by kernel_rfl
theorem lr40_1 {a : Mend} : loadR Tryd.prog 3 1 (some (.d (encMend a))) = some (.d (.int .i64 a.n1)) := by kernel_rfl
theorem lra40_1 {x0 x1 x2 x3 x4 x5 x6 x7 : V} : loadR Tryd.prog 3 1 (some (.agg [x0, x1, x2, x3, x4, x5, x6, x7])) = some x1 := by kernel_rfl
theorem sr40_1 {a : Mend} {v : V} (h1 : fitsT Tryd.prog 3 v = true) (h2 : v.cells = [v]) : storeR Tryd.prog 3 1 v (.d (encMend a)) = some (.agg [.d (.int .i64 a.n0), v, .d (.int .i64 a.n2), .d (.int .i64 a.n3), .d (.int .i64 a.n4), .d (.int .i64 a.n5), .d (.int .i64 a.n6), .d (.int .i64 a.n7)]) := by simp only [storeR, h1, h2]; rfl
theorem sra40_1 {x0 x1 x2 x3 x4 x5 x6 x7 v : V} (h1 : fitsT Tryd.prog 3 v = true) (h2 : v.cells = [v]) : storeR Tryd.prog 3 1 v (.agg [x0, x1, x2, x3, x4, x5, x6, x7]) = some (.agg [x0, v, x2, x3, x4, x5, x6, x7]) := by simp only [storeR, h1, h2]; rfl
theorem sri40_1 {a : Mend} {x : Int} : storeR Tryd.prog 3 1 (.d (.int .i64 x)) (.d (encMend a)) = some (.agg [.d (.int .i64 a.n0), .d (.int .i64 x), .d (.int .i64 a.n2), .d (.int .i64 a.n3), .d (.int .i64 a.n4), .d (.int .i64 a.n5), .d (.int .i64 a.n6), .d (.int .i64 a.n7)]) := by kernel_rfl
theorem sria40_1 {x0 x1 x2 x3 x4 x5 x6 x7 : V} {x : Int} : storeR Tryd.prog 3 1 (.d (.int .i64 x)) (.agg [x0, x1, x2, x3, x4, x5, x6, x7]) = some (.agg [x0, .d (.int .i64 x), x2, x3, x4, x5, x6, x7]) := by kernel_rfl
theorem fr40_1 {j x y : Nat} : fieldAddrV Tryd.prog 40 1 (.ref j x y) = some (.ref j x (y + 1)) := by kernel_rfl
theorem fa40_2 {a : Mend} : fieldAddrV Tryd.prog 40 2 (.d (.ptr (encMend a))) = some (.d (.ptr (.int .i64 a.n2))) := by kernel_rfl
theorem fd40_2 {a : Mend} : fieldV Tryd.prog 40 2 (.d (encMend a)) = some (.d (.int .i64 a.n2)) := by kernel_rfl
theorem lr40_2 {a : Mend} : loadR Tryd.prog 3 2 (some (.d (encMend a))) = some (.d (.int .i64 a.n2)) := by kernel_rfl
theorem lra40_2 {x0 x1 x2 x3 x4 x5 x6 x7 : V} : loadR Tryd.prog 3 2 (some (.agg [x0, x1, x2, x3, x4, x5, x6, x7])) = some x2 := by kernel_rfl
theorem sr40_2 {a : Mend} {v : V} (h1 : fitsT Tryd.prog 3 v = true) (h2 : v.cells = [v]) : storeR Tryd.prog 3 2 v (.d (encMend a)) = some (.agg [.d (.int .i64 a.n0), .d (.int .i64 a.n1), v, .d (.int .i64 a.n3), .d (.int .i64 a.n4), .d (.int .i64 a.n5), .d (.int .i64 a.n6), .d (.int .i64 a.n7)]) := by simp only [storeR, h1, h2]; rfl
theorem sra40_2 {x0 x1 x2 x3 x4 x5 x6 x7 v : V} (h1 : fitsT Tryd.prog 3 v = true) (h2 : v.cells = [v]) : storeR Tryd.prog 3 2 v (.agg [x0, x1, x2, x3, x4, x5, x6, x7]) = some (.agg [x0, x1, v, x3, x4, x5, x6, x7]) := by simp only [storeR, h1, h2]; rfl
theorem sri40_2 {a : Mend} {x : Int} : storeR Tryd.prog 3 2 (.d (.int .i64 x)) (.d (encMend a)) = some (.agg [.d (.int .i64 a.n0), .d (.int .i64 a.n1), .d (.int .i64 x), .d (.int .i64 a.n3), .d (.int .i64 a.n4), .d (.int .i64 a.n5), .d (.int .i64 a.n6), .d (.int .i64 a.n7)]) := by kernel_rfl
theorem sria40_2 {x0 x1 x2 x3 x4 x5 x6 x7 : V} {x : Int} : storeR Tryd.prog 3 2 (.d (.int .i64 x)) (.agg [x0, x1, x2, x3, x4, x5, x6, x7]) = some (.agg [x0, x1, .d (.int .i64 x), x3, x4, x5, x6, x7]) := by kernel_rfl
theorem fr40_2 {j x y : Nat} : fieldAddrV Tryd.prog 40 2 (.ref j x y) = some (.ref j x (y + 2)) := by kernel_rfl
theorem fa40_3 {a : Mend} : fieldAddrV Tryd.prog 40 3 (.d (.ptr (encMend a))) = some (.d (.ptr (.int .i64 a.n3))) := by kernel_rfl
theorem fd40_3 {a : Mend} : fieldV Tryd.prog 40 3 (.d (encMend a)) = some (.d (.int .i64 a.n3)) := by kernel_rfl
theorem lr40_3 {a : Mend} : loadR Tryd.prog 3 3 (some (.d (encMend a))) = some (.d (.int .i64 a.n3)) := by kernel_rfl
theorem lra40_3 {x0 x1 x2 x3 x4 x5 x6 x7 : V} : loadR Tryd.prog 3 3 (some (.agg [x0, x1, x2, x3, x4, x5, x6, x7])) = some x3 := by kernel_rfl
theorem sr40_3 {a : Mend} {v : V} (h1 : fitsT Tryd.prog 3 v = true) (h2 : v.cells = [v]) : storeR Tryd.prog 3 3 v (.d (encMend a)) = some (.agg [.d (.int .i64 a.n0), .d (.int .i64 a.n1), .d (.int .i64 a.n2), v, .d (.int .i64 a.n4), .d (.int .i64 a.n5), .d (.int .i64 a.n6), .d (.int .i64 a.n7)]) := by simp only [storeR, h1, h2]; rfl
theorem sra40_3 {x0 x1 x2 x3 x4 x5 x6 x7 v : V} (h1 : fitsT Tryd.prog 3 v = true) (h2 : v.cells = [v]) : storeR Tryd.prog 3 3 v (.agg [x0, x1, x2, x3, x4, x5, x6, x7]) = some (.agg [x0, x1, x2, v, x4, x5, x6, x7]) := by simp only [storeR, h1, h2]; rfl
theorem sri40_3 {a : Mend} {x : Int} : storeR Tryd.prog 3 3 (.d (.int .i64 x)) (.d (encMend a)) = some (.agg [.d (.int .i64 a.n0), .d (.int .i64 a.n1), .d (.int .i64 a.n2), .d (.int .i64 x), .d (.int .i64 a.n4), .d (.int .i64 a.n5), .d (.int .i64 a.n6), .d (.int .i64 a.n7)]) := by kernel_rfl
theorem sria40_3 {x0 x1 x2 x3 x4 x5 x6 x7 : V} {x : Int} : storeR Tryd.prog 3 3 (.d (.int .i64 x)) (.agg [x0, x1, x2, x3, x4, x5, x6, x7]) = some (.agg [x0, x1, x2, .d (.int .i64 x), x4, x5, x6, x7]) := by kernel_rfl
theorem fr40_3 {j x y : Nat} : fieldAddrV Tryd.prog 40 3 (.ref j x y) = some (.ref j x (y + 3)) := by kernel_rfl
theorem fa40_4 {a : Mend} : fieldAddrV Tryd.prog 40 4 (.d (.ptr (encMend a))) = some (.d (.ptr (.int .i64 a.n4))) := by kernel_rfl
theorem fd40_4 {a : Mend} : fieldV Tryd.prog 40 4 (.d (encMend a)) = some (.d (.int .i64 a.n4)) := by kernel_rfl
theorem lr40_4 {a : Mend} : loadR Tryd.prog 3 4 (some (.d (encMend a))) = some (.d (.int .i64 a.n4)) := by kernel_rfl
theorem lra40_4 {x0 x1 x2 x3 x4 x5 x6 x7 : V} : loadR Tryd.prog 3 4 (some (.agg [x0, x1, x2, x3, x4, x5, x6, x7])) = some x4 := by kernel_rfl
theorem sr40_4 {a : Mend} {v : V} (h1 : fitsT Tryd.prog 3 v = true) (h2 : v.cells = [v]) : storeR Tryd.prog 3 4 v (.d (encMend a)) = some (.agg [.d (.int .i64 a.n0), .d (.int .i64 a.n1), .d (.int .i64 a.n2), .d (.int .i64 a.n3), v, .d (.int .i64 a.n5), .d (.int .i64 a.n6), .d (.int .i64 a.n7)]) := by simp only [storeR, h1, h2]; rfl
theorem sra40_4 {x0 x1 x2 x3 x4 x5 x6 x7 v : V} (h1 : fitsT Tryd.prog 3 v = true) (h2 : v.cells = [v]) : storeR Tryd.prog 3 4 v (.agg [x0, x1, x2, x3, x4, x5, x6, x7]) = some (.agg [x0, x1, x2, x3, v, x5, x6, x7]) := by simp only [storeR, h1, h2]; rfl
theorem sri40_4 {a : Mend} {x : Int} : storeR Tryd.prog 3 4 (.d (.int .i64 x)) (.d (encMend a)) = some (.agg [.d (.int .i64 a.n0), .d (.int .i64 a.n1), .d (.int .i64 a.n2), .d (.int .i64 a.n3), .d (.int .i64 x), .d (.int .i64 a.n5), .d (.int .i64 a.n6), .d (.int .i64 a.n7)]) := by kernel_rfl
theorem sria40_4 {x0 x1 x2 x3 x4 x5 x6 x7 : V} {x : Int} : storeR Tryd.prog 3 4 (.d (.int .i64 x)) (.agg [x0, x1, x2, x3, x4, x5, x6, x7]) = some (.agg [x0, x1, x2, x3, .d (.int .i64 x), x5, x6, x7]) := by kernel_rfl
theorem fr40_4 {j x y : Nat} : fieldAddrV Tryd.prog 40 4 (.ref j x y) = some (.ref j x (y + 4)) := by kernel_rfl
theorem fa40_5 {a : Mend} : fieldAddrV Tryd.prog 40 5 (.d (.ptr (encMend a))) = some (.d (.ptr (.int .i64 a.n5))) := by kernel_rfl
theorem fd40_5 {a : Mend} : fieldV Tryd.prog 40 5 (.d (encMend a)) = some (.d (.int .i64 a.n5)) := by kernel_rfl
theorem lr40_5 {a : Mend} : loadR Tryd.prog 3 5 (some (.d (encMend a))) = some (.d (.int .i64 a.n5)) := by kernel_rfl
theorem lra40_5 {x0 x1 x2 x3 x4 x5 x6 x7 : V} : loadR Tryd.prog 3 5 (some (.agg [x0, x1, x2, x3, x4, x5, x6, x7])) = some x5 := by kernel_rfl
theorem sr40_5 {a : Mend} {v : V} (h1 : fitsT Tryd.prog 3 v = true) (h2 : v.cells = [v]) : storeR Tryd.prog 3 5 v (.d (encMend a)) = some (.agg [.d (.int .i64 a.n0), .d (.int .i64 a.n1), .d (.int .i64 a.n2), .d (.int .i64 a.n3), .d (.int .i64 a.n4), v, .d (.int .i64 a.n6), .d (.int .i64 a.n7)]) := by simp only [storeR, h1, h2]; rfl
theorem sra40_5 {x0 x1 x2 x3 x4 x5 x6 x7 v : V} (h1 : fitsT Tryd.prog 3 v = true) (h2 : v.cells = [v]) : storeR Tryd.prog 3 5 v (.agg [x0, x1, x2, x3, x4, x5, x6, x7]) = some (.agg [x0, x1, x2, x3, x4, v, x6, x7]) := by simp only [storeR, h1, h2]; rfl
theorem sri40_5 {a : Mend} {x : Int} : storeR Tryd.prog 3 5 (.d (.int .i64 x)) (.d (encMend a)) = some (.agg [.d (.int .i64 a.n0), .d (.int .i64 a.n1), .d (.int .i64 a.n2), .d (.int .i64 a.n3), .d (.int .i64 a.n4), .d (.int .i64 x), .d (.int .i64 a.n6), .d (.int .i64 a.n7)]) := by kernel_rfl
theorem sria40_5 {x0 x1 x2 x3 x4 x5 x6 x7 : V} {x : Int} : storeR Tryd.prog 3 5 (.d (.int .i64 x)) (.agg [x0, x1, x2, x3, x4, x5, x6, x7]) = some (.agg [x0, x1, x2, x3, x4, .d (.int .i64 x), x6, x7]) := by kernel_rfl
theorem fr40_5 {j x y : Nat} : fieldAddrV Tryd.prog 40 5 (.ref j x y) = some (.ref j x (y + 5)) := by kernel_rfl
theorem fa40_6 {a : Mend} : fieldAddrV Tryd.prog 40 6 (.d (.ptr (encMend a))) = some (.d (.ptr (.int .i64 a.n6))) := by kernel_rfl
theorem fd40_6 {a : Mend} : fieldV Tryd.prog 40 6 (.d (encMend a)) = some (.d (.int .i64 a.n6)) := by kernel_rfl
theorem lr40_6 {a : Mend} : loadR Tryd.prog 3 6 (some (.d (encMend a))) = some (.d (.int .i64 a.n6)) := by kernel_rfl
theorem lra40_6 {x0 x1 x2 x3 x4 x5 x6 x7 : V} : loadR Tryd.prog 3 6 (some (.agg [x0, x1, x2, x3, x4, x5, x6, x7])) = some x6 := by kernel_rfl
theorem sr40_6 {a : Mend} {v : V} (h1 : fitsT Tryd.prog 3 v = true) (h2 : v.cells = [v]) : storeR Tryd.prog 3 6 v (.d (encMend a)) = some (.agg [.d (.int .i64 a.n0), .d (.int .i64 a.n1), .d (.int .i64 a.n2), .d (.int .i64 a.n3), .d (.int .i64 a.n4), .d (.int .i64 a.n5), v, .d (.int .i64 a.n7)]) := by simp only [storeR, h1, h2]; rfl
theorem sra40_6 {x0 x1 x2 x3 x4 x5 x6 x7 v : V} (h1 : fitsT Tryd.prog 3 v = true) (h2 : v.cells = [v]) : storeR Tryd.prog 3 6 v (.agg [x0, x1, x2, x3, x4, x5, x6, x7]) = some (.agg [x0, x1, x2, x3, x4, x5, v, x7]) := by simp only [storeR, h1, h2]; rfl
theorem sri40_6 {a : Mend} {x : Int} : storeR Tryd.prog 3 6 (.d (.int .i64 x)) (.d (encMend a)) = some (.agg [.d (.int .i64 a.n0), .d (.int .i64 a.n1), .d (.int .i64 a.n2), .d (.int .i64 a.n3), .d (.int .i64 a.n4), .d (.int .i64 a.n5), .d (.int .i64 x), .d (.int .i64 a.n7)]) := by kernel_rfl
theorem sria40_6 {x0 x1 x2 x3 x4 x5 x6 x7 : V} {x : Int} : storeR Tryd.prog 3 6 (.d (.int .i64 x)) (.agg [x0, x1, x2, x3, x4, x5, x6, x7]) = some (.agg [x0, x1, x2, x3, x4, x5, .d (.int .i64 x), x7]) := by kernel_rfl
theorem fr40_6 {j x y : Nat} : fieldAddrV Tryd.prog 40 6 (.ref j x y) = some (.ref j x (y + 6)) := by kernel_rfl
theorem fa40_7 {a : Mend} : fieldAddrV Tryd.prog 40 7 (.d (.ptr (encMend a))) = some (.d (.ptr (.int .i64 a.n7))) := by kernel_rfl
theorem fd40_7 {a : Mend} : fieldV Tryd.prog 40 7 (.d (encMend a)) = some (.d (.int .i64 a.n7)) := by kernel_rfl
theorem lr40_7 {a : Mend} : loadR Tryd.prog 3 7 (some (.d (encMend a))) = some (.d (.int .i64 a.n7)) := by kernel_rfl
theorem lra40_7 {x0 x1 x2 x3 x4 x5 x6 x7 : V} : loadR Tryd.prog 3 7 (some (.agg [x0, x1, x2, x3, x4, x5, x6, x7])) = some x7 := by kernel_rfl
theorem sr40_7 {a : Mend} {v : V} (h1 : fitsT Tryd.prog 3 v = true) (h2 : v.cells = [v]) : storeR Tryd.prog 3 7 v (.d (encMend a)) = some (.agg [.d (.int .i64 a.n0), .d (.int .i64 a.n1), .d (.int .i64 a.n2), .d (.int .i64 a.n3), .d (.int .i64 a.n4), .d (.int .i64 a.n5), .d (.int .i64 a.n6), v]) := by simp only [storeR, h1, h2]; rfl
theorem sra40_7 {x0 x1 x2 x3 x4 x5 x6 x7 v : V} (h1 : fitsT Tryd.prog 3 v = true) (h2 : v.cells = [v]) : storeR Tryd.prog 3 7 v (.agg [x0, x1, x2, x3, x4, x5, x6, x7]) = some (.agg [x0, x1, x2, x3, x4, x5, x6, v]) := by simp only [storeR, h1, h2]; rfl
theorem sri40_7 {a : Mend} {x : Int} : storeR Tryd.prog 3 7 (.d (.int .i64 x)) (.d (encMend a)) = some (.agg [.d (.int .i64 a.n0), .d (.int .i64 a.n1), .d (.int .i64 a.n2), .d (.int .i64 a.n3), .d (.int .i64 a.n4), .d (.int .i64 a.n5), .d (.int .i64 a.n6), .d (.int .i64 x)]) := by kernel_rfl
theorem sria40_7 {x0 x1 x2 x3 x4 x5 x6 x7 : V} {x : Int} : storeR Tryd.prog 3 7 (.d (.int .i64 x)) (.agg [x0, x1, x2, x3, x4, x5, x6, x7]) = some (.agg [x0, x1, x2, x3, x4, x5, x6, .d (.int .i64 x)]) := by kernel_rfl
theorem fr40_7 {j x y : Nat} : fieldAddrV Tryd.prog 40 7 (.ref j x y) = some (.ref j x (y + 7)) := by kernel_rfl
theorem zOk22 : zOk Tryd.prog 5 = true := by kernel_rfl
theorem szo22 : (sz Tryd.prog 5).isSome = true := by kernel_rfl
theorem room22 {m : Nat} (h : m ≤ 1000000) : room Tryd.prog 5 m = true := room_of rfl (by decide +kernel) h
theorem ix22 {S : Store} {l : List UInt8} {i : Nat} (h : i < l.length) : indexAddrV Tryd.prog S 22 (.d (.sl (l.map (fun b : UInt8 => D.int .u8 b.toNat)))) (.d (.int .i64 i)) = some (.d (.ptr (.int .u8 (l[i].toNat : Int)))) := ix_map Tryd.underlying22 (fun a => fits5 _) h
theorem len22 {S : Store} {xs : List D} : builtinV Tryd.prog S .len [22] [.d (.sl xs)] = some (.val (.d (.int .i64 xs.length)) S 0) := len_sl Tryd.underlying22
theorem lents22 {S : Store} {xs : List D} : builtinV Tryd.prog S .len [22] [.ts xs] = some (.val (.d (.int .i64 xs.length)) S 0) := len_ts Tryd.underlying22
theorem lenrs22 {S : Store} {i o m : Nat} : builtinV Tryd.prog S .len [22] [.rs i o m] = some (.val (.d (.int .i64 m)) S 0) := len_rs Tryd.underlying22
theorem bs22 {S : Store} {a : Int} : bs1 Tryd.prog S 22 (.d (.int .u8 a)) = some (.val (.ts [.int .u8 a]) S 0) := by kernel_rfl
theorem ap22 {S : Store} {v : V} {xs : List UInt8} (a : UInt8) (ho : OwnS S v 5 (xs.map fun x => .d (.int .u8 x.toNat))) (hl : xs.length < 1000000) : ∃ v' S' c, appendV Tryd.prog S 22 22 v (.ts [.int .u8 a.toNat]) = some (v', S', c) ∧ OwnS S' v' 5 ((xs ++ [a]).map fun x => .d (.int .u8 x.toNat)) ∧ (∀ j o, S[j]? = some o → NotAt v j → S'[j]? = some o ∧ NotAt v' j) ∧ S.length ≤ S'.length := append_enc (enc := fun x : UInt8 => D.int .u8 x.toNat) a Tryd.underlying22 zOk22 szo22 (fits5 _) ho (room22 (by omega))
theorem zOk23 : zOk Tryd.prog 9 = true := by kernel_rfl
theorem szo23 : (sz Tryd.prog 9).isSome = true := by kernel_rfl
theorem room23 {m : Nat} (h : m ≤ 1000000) : room Tryd.prog 9 m = true := room_of rfl (by decide +kernel) h
theorem ix23 {S : Store} {l : List (List UInt8)} {i : Nat} (h : i < l.length) : indexAddrV Tryd.prog S 23 (.d (.sl (l.map (D.str)))) (.d (.int .i64 i)) = some (.d (.ptr ((D.str) l[i]))) := ix_map Tryd.underlying23 (fun a => fits9 a) h
theorem len23 {S : Store} {xs : List D} : builtinV Tryd.prog S .len [23] [.d (.sl xs)] = some (.val (.d (.int .i64 xs.length)) S 0) := len_sl Tryd.underlying23
theorem lents23 {S : Store} {xs : List D} : builtinV Tryd.prog S .len [23] [.ts xs] = some (.val (.d (.int .i64 xs.length)) S 0) := len_ts Tryd.underlying23
theorem lenrs23 {S : Store} {i o m : Nat} : builtinV Tryd.prog S .len [23] [.rs i o m] = some (.val (.d (.int .i64 m)) S 0) := len_rs Tryd.underlying23
theorem bs23 {S : Store} {a : (List UInt8)} : bs1 Tryd.prog S 23 (.d (.str a)) = some (.val (.ts [.str a]) S 0) := by kernel_rfl
theorem ap23 {S : Store} {v : V} {xs : List (List UInt8)} (a : (List UInt8)) (ho : OwnS S v 9 (xs.map fun x => .d (D.str x))) (hl : xs.length < 1000000) : ∃ v' S' c, appendV Tryd.prog S 23 23 v (.ts [D.str a]) = some (v', S', c) ∧ OwnS S' v' 9 ((xs ++ [a]).map fun x => .d (D.str x)) ∧ (∀ j o, S[j]? = some o → NotAt v j → S'[j]? = some o ∧ NotAt v' j) ∧ S.length ≤ S'.length := append_enc a Tryd.underlying23 zOk23 szo23 (fits9 a) ho (room23 (by omega))
theorem zOk37 : zOk Tryd.prog 3 = true := by kernel_rfl
theorem szo37 : (sz Tryd.prog 3).isSome = true := by kernel_rfl
theorem room37 {m : Nat} (h : m ≤ 1000000) : room Tryd.prog 3 m = true := room_of rfl (by decide +kernel) h
theorem ix37 {S : Store} {l : List Int} {i : Nat} (h : i < l.length) : indexAddrV Tryd.prog S 37 (.d (.sl (l.map (D.int .i64)))) (.d (.int .i64 i)) = some (.d (.ptr ((D.int .i64) l[i]))) := ix_map Tryd.underlying37 (fun a => fits3 a) h
theorem len37 {S : Store} {xs : List D} : builtinV Tryd.prog S .len [37] [.d (.sl xs)] = some (.val (.d (.int .i64 xs.length)) S 0) := len_sl Tryd.underlying37
theorem lents37 {S : Store} {xs : List D} : builtinV Tryd.prog S .len [37] [.ts xs] = some (.val (.d (.int .i64 xs.length)) S 0) := len_ts Tryd.underlying37
theorem lenrs37 {S : Store} {i o m : Nat} : builtinV Tryd.prog S .len [37] [.rs i o m] = some (.val (.d (.int .i64 m)) S 0) := len_rs Tryd.underlying37
theorem bs37 {S : Store} {a : Int} : bs1 Tryd.prog S 37 (.d (.int .i64 a)) = some (.val (.ts [.int .i64 a]) S 0) := by kernel_rfl
theorem ap37 {S : Store} {v : V} {xs : List Int} (a : Int) (ho : OwnS S v 3 (xs.map fun x => .d (D.int .i64 x))) (hl : xs.length < 1000000) : ∃ v' S' c, appendV Tryd.prog S 37 37 v (.ts [D.int .i64 a]) = some (v', S', c) ∧ OwnS S' v' 3 ((xs ++ [a]).map fun x => .d (D.int .i64 x)) ∧ (∀ j o, S[j]? = some o → NotAt v j → S'[j]? = some o ∧ NotAt v' j) ∧ S.length ≤ S'.length := append_enc a Tryd.underlying37 zOk37 szo37 (fits3 a) ho (room37 (by omega))
theorem ixstr {s : List UInt8} {i : Nat} (h : i < s.length) : indexV Tryd.prog 9 (.d (.str s)) (.d (.int .i64 i)) = some (.d (.int .u8 s[i].toNat)) := idx_str Tryd.underlying9 h
theorem lenstr {S : Store} {s : List UInt8} : builtinV Tryd.prog S .len [9] [.d (.str s)] = some (.val (.d (.int .i64 s.length)) S 0) := len_str Tryd.underlying9
theorem body3 : bodyOf Tryd.prog 3 = some ⟨Tryd.f3.body.getD .skip, 35, #[.tmp 4]⟩ := by
  unfold bodyOf
  rw [Tryd.func3]
  rfl
theorem bo3  : (bodyOf Tryd.prog 3).isSome = true := by kernel_rfl
theorem sh3  : cfg.shared 3 = false := by kernel_rfl
theorem body4 : bodyOf Tryd.prog 4 = some ⟨Tryd.f4.body.getD .skip, 51, #[.tmp 6]⟩ := by
  unfold bodyOf
  rw [Tryd.func4]
  rfl
theorem bo4  : (bodyOf Tryd.prog 4).isSome = true := by kernel_rfl
theorem sh4  : cfg.shared 4 = false := by kernel_rfl
theorem body5 : bodyOf Tryd.prog 5 = some ⟨Tryd.f5.body.getD .skip, 25, #[.tmp 6]⟩ := by
  unfold bodyOf
  rw [Tryd.func5]
  rfl
theorem bo5  : (bodyOf Tryd.prog 5).isSome = true := by kernel_rfl
theorem sh5  : cfg.shared 5 = false := by kernel_rfl
theorem body6 : bodyOf Tryd.prog 6 = some ⟨Tryd.f6.body.getD .skip, 9, #[.tmp 0]⟩ := by
  unfold bodyOf
  rw [Tryd.func6]
  rfl
theorem bo6  : (bodyOf Tryd.prog 6).isSome = true := by kernel_rfl
theorem sh6  : cfg.shared 6 = false := by kernel_rfl
theorem body7 : bodyOf Tryd.prog 7 = some ⟨Tryd.f7.body.getD .skip, 58, #[.tmp 4]⟩ := by
  unfold bodyOf
  rw [Tryd.func7]
  rfl
theorem bo7  : (bodyOf Tryd.prog 7).isSome = true := by kernel_rfl
theorem sh7  : cfg.shared 7 = false := by kernel_rfl
theorem body8 : bodyOf Tryd.prog 8 = some ⟨Tryd.f8.body.getD .skip, 18, #[.cell 2 31]⟩ := by
  unfold bodyOf
  rw [Tryd.func8]
  rfl
theorem bo8  : (bodyOf Tryd.prog 8).isSome = true := by kernel_rfl
theorem sh8  : cfg.shared 8 = false := by kernel_rfl
theorem body9 : bodyOf Tryd.prog 9 = some ⟨Tryd.f9.body.getD .skip, 77, #[.tmp 4]⟩ := by
  unfold bodyOf
  rw [Tryd.func9]
  rfl
theorem bo9  : (bodyOf Tryd.prog 9).isSome = true := by kernel_rfl
theorem sh9  : cfg.shared 9 = false := by kernel_rfl
theorem body10 : bodyOf Tryd.prog 10 = some ⟨Tryd.f10.body.getD .skip, 8, #[.tmp 2]⟩ := by
  unfold bodyOf
  rw [Tryd.func10]
  rfl
theorem bo10  : (bodyOf Tryd.prog 10).isSome = true := by kernel_rfl
theorem sh10  : cfg.shared 10 = false := by kernel_rfl
theorem body11 : bodyOf Tryd.prog 11 = some ⟨Tryd.f11.body.getD .skip, 7, #[.tmp 2]⟩ := by
  unfold bodyOf
  rw [Tryd.func11]
  rfl
theorem bo11  : (bodyOf Tryd.prog 11).isSome = true := by kernel_rfl
theorem sh11  : cfg.shared 11 = false := by kernel_rfl
theorem body12 : bodyOf Tryd.prog 12 = some ⟨Tryd.f12.body.getD .skip, 43, #[.tmp 2]⟩ := by
  unfold bodyOf
  rw [Tryd.func12]
  rfl
theorem bo12  : (bodyOf Tryd.prog 12).isSome = true := by kernel_rfl
theorem sh12  : cfg.shared 12 = false := by kernel_rfl
theorem body13 : bodyOf Tryd.prog 13 = some ⟨Tryd.f13.body.getD .skip, 34, #[.tmp 2]⟩ := by
  unfold bodyOf
  rw [Tryd.func13]
  rfl
theorem bo13  : (bodyOf Tryd.prog 13).isSome = true := by kernel_rfl
theorem sh13  : cfg.shared 13 = false := by kernel_rfl
theorem body14 : bodyOf Tryd.prog 14 = some ⟨Tryd.f14.body.getD .skip, 23, #[.tmp 2]⟩ := by
  unfold bodyOf
  rw [Tryd.func14]
  rfl
theorem bo14  : (bodyOf Tryd.prog 14).isSome = true := by kernel_rfl
theorem sh14  : cfg.shared 14 = false := by kernel_rfl
theorem body15 : bodyOf Tryd.prog 15 = some ⟨Tryd.f15.body.getD .skip, 42, #[.tmp 2]⟩ := by
  unfold bodyOf
  rw [Tryd.func15]
  rfl
theorem bo15  : (bodyOf Tryd.prog 15).isSome = true := by kernel_rfl
theorem sh15  : cfg.shared 15 = false := by kernel_rfl
theorem body16 : bodyOf Tryd.prog 16 = some ⟨Tryd.f16.body.getD .skip, 18, #[.tmp 2]⟩ := by
  unfold bodyOf
  rw [Tryd.func16]
  rfl
theorem bo16  : (bodyOf Tryd.prog 16).isSome = true := by kernel_rfl
theorem sh16  : cfg.shared 16 = false := by kernel_rfl
theorem body17 : bodyOf Tryd.prog 17 = some ⟨Tryd.f17.body.getD .skip, 20, #[.tmp 2]⟩ := by
  unfold bodyOf
  rw [Tryd.func17]
  rfl
theorem bo17  : (bodyOf Tryd.prog 17).isSome = true := by kernel_rfl
theorem sh17  : cfg.shared 17 = false := by kernel_rfl
theorem body18 : bodyOf Tryd.prog 18 = some ⟨Tryd.f18.body.getD .skip, 5, #[.tmp 2]⟩ := by
  unfold bodyOf
  rw [Tryd.func18]
  rfl
theorem bo18  : (bodyOf Tryd.prog 18).isSome = true := by kernel_rfl
theorem sh18  : cfg.shared 18 = false := by kernel_rfl
theorem body20 : bodyOf Tryd.prog 20 = some ⟨Tryd.f20.body.getD .skip, 31, #[.tmp 2]⟩ := by
  unfold bodyOf
  rw [Tryd.func20]
  rfl
theorem bo20  : (bodyOf Tryd.prog 20).isSome = true := by kernel_rfl
theorem sh20  : cfg.shared 20 = false := by kernel_rfl
theorem body21 : bodyOf Tryd.prog 21 = some ⟨Tryd.f21.body.getD .skip, 30, #[.tmp 2]⟩ := by
  unfold bodyOf
  rw [Tryd.func21]
  rfl
theorem bo21  : (bodyOf Tryd.prog 21).isSome = true := by kernel_rfl
theorem sh21  : cfg.shared 21 = false := by kernel_rfl
theorem body22 : bodyOf Tryd.prog 22 = some ⟨Tryd.f22.body.getD .skip, 39, #[.tmp 2]⟩ := by
  unfold bodyOf
  rw [Tryd.func22]
  rfl
theorem bo22  : (bodyOf Tryd.prog 22).isSome = true := by kernel_rfl
theorem sh22  : cfg.shared 22 = false := by kernel_rfl
theorem bo23  : (bodyOf Tryd.prog 23).isSome = true := by kernel_rfl
theorem sh23  : cfg.shared 23 = true := by kernel_rfl
theorem body25 : bodyOf Tryd.prog 25 = some ⟨Tryd.f25.body.getD .skip, 14, #[.tmp 2]⟩ := by
  unfold bodyOf
  rw [Tryd.func25]
  rfl
theorem bo25  : (bodyOf Tryd.prog 25).isSome = true := by kernel_rfl
theorem sh25  : cfg.shared 25 = false := by kernel_rfl
set_option linter.defProp false
/-- The facts. -/
def ty :=
  And.intro @ff3 <|
  And.intro @ld3 <|
  And.intro @ff29 <|
  And.intro @ld29 <|
  And.intro @ff5 <|
  And.intro @ld5 <|
  And.intro @ff9 <|
  And.intro @ld9 <|
  And.intro @ff4 <|
  And.intro @ld4 <|
  And.intro @ff22 <|
  And.intro @ld22 <|
  And.intro @ff23 <|
  And.intro @ld23 <|
  And.intro @ff37 <|
  And.intro @ld37 <|
  And.intro @zz25 <|
  And.intro @zzf25 <|
  And.intro @ff25 <|
  And.intro @ffa25 <|
  And.intro @lr25 <|
  And.intro @lra25 <|
  And.intro @sr25 <|
  And.intro @srb25 <|
  And.intro @src25 <|
  And.intro @srd25 <|
  And.intro @ld25 <|
  And.intro @fa25_0 <|
  And.intro @fd25_0 <|
  And.intro @lr25_0 <|
  And.intro @lra25_0 <|
  And.intro @sr25_0 <|
  And.intro @sra25_0 <|
  And.intro @sri25_0 <|
  And.intro @sria25_0 <|
  And.intro @fr25_0 <|
  And.intro @fa25_1 <|
  And.intro @fd25_1 <|
  And.intro @lr25_1 <|
  And.intro @lra25_1 <|
  And.intro @sr25_1 <|
  And.intro @sra25_1 <|
  And.intro @sri25_1 <|
  And.intro @sria25_1 <|
  And.intro @fr25_1 <|
  And.intro @fa25_2 <|
  And.intro @fd25_2 <|
  And.intro @lr25_2 <|
  And.intro @lra25_2 <|
  And.intro @sr25_2 <|
  And.intro @sra25_2 <|
  And.intro @sri25_2 <|
  And.intro @sria25_2 <|
  And.intro @fr25_2 <|
  And.intro @fa25_3 <|
  And.intro @fd25_3 <|
  And.intro @lr25_3 <|
  And.intro @lra25_3 <|
  And.intro @sr25_3 <|
  And.intro @sra25_3 <|
  And.intro @sri25_3 <|
  And.intro @sria25_3 <|
  And.intro @fr25_3 <|
  And.intro @fa25_4 <|
  And.intro @fd25_4 <|
  And.intro @lr25_4 <|
  And.intro @lra25_4 <|
  And.intro @sr25_4 <|
  And.intro @sra25_4 <|
  And.intro @sri25_4 <|
  And.intro @sria25_4 <|
  And.intro @fr25_4 <|
  And.intro @fa25_5 <|
  And.intro @fd25_5 <|
  And.intro @lr25_5 <|
  And.intro @lra25_5 <|
  And.intro @sr25_5 <|
  And.intro @sra25_5 <|
  And.intro @fr25_5 <|
  And.intro @fa25_6 <|
  And.intro @fd25_6 <|
  And.intro @lr25_6 <|
  And.intro @lra25_6 <|
  And.intro @sr25_6 <|
  And.intro @sra25_6 <|
  And.intro @fr25_6 <|
  And.intro @zz31 <|
  And.intro @zzf31 <|
  And.intro @ff31 <|
  And.intro @ffa31 <|
  And.intro @lr31 <|
  And.intro @lra31 <|
  And.intro @sr31 <|
  And.intro @srb31 <|
  And.intro @src31 <|
  And.intro @srd31 <|
  And.intro @ld31 <|
  And.intro @fa31_0 <|
  And.intro @fd31_0 <|
  And.intro @lr31_0 <|
  And.intro @lra31_0 <|
  And.intro @sr31_0 <|
  And.intro @sra31_0 <|
  And.intro @sri31_0 <|
  And.intro @sria31_0 <|
  And.intro @fr31_0 <|
  And.intro @fa31_1 <|
  And.intro @fd31_1 <|
  And.intro @lr31_1 <|
  And.intro @lra31_1 <|
  And.intro @sr31_1 <|
  And.intro @sra31_1 <|
  And.intro @sri31_1 <|
  And.intro @sria31_1 <|
  And.intro @fr31_1 <|
  And.intro @fa31_2 <|
  And.intro @fd31_2 <|
  And.intro @lr31_2 <|
  And.intro @lra31_2 <|
  And.intro @sr31_2 <|
  And.intro @sra31_2 <|
  And.intro @sri31_2 <|
  And.intro @sria31_2 <|
  And.intro @fr31_2 <|
  And.intro @fa31_3 <|
  And.intro @fd31_3 <|
  And.intro @lr31_3 <|
  And.intro @lra31_3 <|
  And.intro @sr31_3 <|
  And.intro @sra31_3 <|
  And.intro @sri31_3 <|
  And.intro @sria31_3 <|
  And.intro @fr31_3 <|
  And.intro @fa31_4 <|
  And.intro @fd31_4 <|
  And.intro @lr31_4 <|
  And.intro @lra31_4 <|
  And.intro @sr31_4 <|
  And.intro @sra31_4 <|
  And.intro @sri31_4 <|
  And.intro @sria31_4 <|
  And.intro @fr31_4 <|
  And.intro @fa31_5 <|
  And.intro @fd31_5 <|
  And.intro @lr31_5 <|
  And.intro @lra31_5 <|
  And.intro @sr31_5 <|
  And.intro @sra31_5 <|
  And.intro @fr31_5 <|
  And.intro @fa31_6 <|
  And.intro @fd31_6 <|
  And.intro @lr31_6 <|
  And.intro @lra31_6 <|
  And.intro @sr31_6 <|
  And.intro @sra31_6 <|
  And.intro @fr31_6 <|
  And.intro @zz40 <|
  And.intro @zzf40 <|
  And.intro @ff40 <|
  And.intro @ffa40 <|
  And.intro @lr40 <|
  And.intro @lra40 <|
  And.intro @sr40 <|
  And.intro @srb40 <|
  And.intro @src40 <|
  And.intro @srd40 <|
  And.intro @ld40 <|
  And.intro @fa40_0 <|
  And.intro @fd40_0 <|
  And.intro @lr40_0 <|
  And.intro @lra40_0 <|
  And.intro @sr40_0 <|
  And.intro @sra40_0 <|
  And.intro @sri40_0 <|
  And.intro @sria40_0 <|
  And.intro @fr40_0 <|
  And.intro @fa40_1 <|
  And.intro @fd40_1 <|
  And.intro @lr40_1 <|
  And.intro @lra40_1 <|
  And.intro @sr40_1 <|
  And.intro @sra40_1 <|
  And.intro @sri40_1 <|
  And.intro @sria40_1 <|
  And.intro @fr40_1 <|
  And.intro @fa40_2 <|
  And.intro @fd40_2 <|
  And.intro @lr40_2 <|
  And.intro @lra40_2 <|
  And.intro @sr40_2 <|
  And.intro @sra40_2 <|
  And.intro @sri40_2 <|
  And.intro @sria40_2 <|
  And.intro @fr40_2 <|
  And.intro @fa40_3 <|
  And.intro @fd40_3 <|
  And.intro @lr40_3 <|
  And.intro @lra40_3 <|
  And.intro @sr40_3 <|
  And.intro @sra40_3 <|
  And.intro @sri40_3 <|
  And.intro @sria40_3 <|
  And.intro @fr40_3 <|
  And.intro @fa40_4 <|
  And.intro @fd40_4 <|
  And.intro @lr40_4 <|
  And.intro @lra40_4 <|
  And.intro @sr40_4 <|
  And.intro @sra40_4 <|
  And.intro @sri40_4 <|
  And.intro @sria40_4 <|
  And.intro @fr40_4 <|
  And.intro @fa40_5 <|
  And.intro @fd40_5 <|
  And.intro @lr40_5 <|
  And.intro @lra40_5 <|
  And.intro @sr40_5 <|
  And.intro @sra40_5 <|
  And.intro @sri40_5 <|
  And.intro @sria40_5 <|
  And.intro @fr40_5 <|
  And.intro @fa40_6 <|
  And.intro @fd40_6 <|
  And.intro @lr40_6 <|
  And.intro @lra40_6 <|
  And.intro @sr40_6 <|
  And.intro @sra40_6 <|
  And.intro @sri40_6 <|
  And.intro @sria40_6 <|
  And.intro @fr40_6 <|
  And.intro @fa40_7 <|
  And.intro @fd40_7 <|
  And.intro @lr40_7 <|
  And.intro @lra40_7 <|
  And.intro @sr40_7 <|
  And.intro @sra40_7 <|
  And.intro @sri40_7 <|
  And.intro @sria40_7 <|
  And.intro @fr40_7 <|
  And.intro @ix22 <|
  And.intro @len22 <|
  And.intro @lents22 <|
  And.intro @lenrs22 <|
  And.intro @bs22 <|
  And.intro @ix23 <|
  And.intro @len23 <|
  And.intro @lents23 <|
  And.intro @lenrs23 <|
  And.intro @bs23 <|
  And.intro @ix37 <|
  And.intro @len37 <|
  And.intro @lents37 <|
  And.intro @lenrs37 <|
  And.intro @bs37 <|
  And.intro @ixstr <|
  And.intro @lenstr <|
  And.intro @bo3 <|
  And.intro @sh3 <|
  And.intro @bo4 <|
  And.intro @sh4 <|
  And.intro @bo5 <|
  And.intro @sh5 <|
  And.intro @bo6 <|
  And.intro @sh6 <|
  And.intro @bo7 <|
  And.intro @sh7 <|
  And.intro @bo8 <|
  And.intro @sh8 <|
  And.intro @bo9 <|
  And.intro @sh9 <|
  And.intro @bo10 <|
  And.intro @sh10 <|
  And.intro @bo11 <|
  And.intro @sh11 <|
  And.intro @bo12 <|
  And.intro @sh12 <|
  And.intro @bo13 <|
  And.intro @sh13 <|
  And.intro @bo14 <|
  And.intro @sh14 <|
  And.intro @bo15 <|
  And.intro @sh15 <|
  And.intro @bo16 <|
  And.intro @sh16 <|
  And.intro @bo17 <|
  And.intro @sh17 <|
  And.intro @bo18 <|
  And.intro @sh18 <|
  And.intro @bo20 <|
  And.intro @sh20 <|
  And.intro @bo21 <|
  And.intro @sh21 <|
  And.intro @bo22 <|
  And.intro @sh22 <|
  And.intro @bo23 <|
  And.intro @sh23 <|
  And.intro @bo25 @sh25
end Go.Proofs.YtghllhghboaagaaDoor
end
/-! What the row's condition gives the machine: the library's table of powers of ten. -/
section
set_option linter.unusedVariables false
set_option linter.unusedSimpArgs false
set_option maxRecDepth 100000
namespace Go.Proofs.YtghllhghboaagaaDoor
open Go.ChangeShapes Go.WideShapes Go.ChangeAt Go.RowKit Go.Vm
theorem Tryd.own : ownKnob Tryd.prog.godebug = Option.none := by kernel_rfl
theorem Tryd.laidOut : laidOutB Tryd.prog = true := by kernel_rfl
def laid3 {H : Type} : List (String × DataW H) := [("math/bits.deBruijn32tab", Rows.laid_math_bits_deBruijn32tab), ("math/bits.deBruijn64tab", Rows.laid_math_bits_deBruijn64tab), ("internal/strconv.uint64pow10", Rows.laid_internal_strconv_uint64pow10)]
def pows : List Int := (List.range 20).map fun i => ((10 ^ i : Nat) : Int)
theorem powsD {H : Type} : (Rows.laid_internal_strconv_uint64pow10 : DataW H) = Lib.tabData .u64 pows := by kernel_rfl
theorem door_met (os : Os) (args : Array Value) : laidMetH Tryd.prog laid3 ((World.doorLaid Tryd.prog 400 os).forCall (fun _ _ => 0) ⟨#[], args, []⟩).memory :=
  laidMetH_of_parts3 (fuel := 8) (laidMet_of_run' 8 (by kernel_rfl) (by kernel_rfl)) (by kernel_rfl) (by kernel_rfl)
theorem glob_of_laid {W : World} (h : laidMetH Tryd.prog laid3 W) : GlobOk Tryd.prog (Old W) W := by
  rw [MakeChecks.laidMetH_plain _ _ _ (by kernel_rfl)] at h
  have h3 : laidMet Tryd.prog [("internal/strconv.uint64pow10", Lib.tabData .u64 pows)] W := by
    have := h.tail.tail
    rw [powsD] at this
    exact this
  have ht : Lib.TabIs Tryd.prog W "internal/strconv.uint64pow10" .u64 pows :=
    Lib.tabIs_of_head (g := 0) (t := 74) (e := 64) (n := 20) (by kernel_rfl) (by kernel_rfl) Tryd.underlying74 Tryd.underlying64 (by kernel_rfl) (by kernel_rfl) h3
  intro x hx g hg
  simp only [globTabs, List.mem_cons, List.not_mem_nil, or_false] at hx
  subst hx
  have hv : W.var? Tryd.prog "internal/strconv.uint64pow10" = some (pows.map fun z => Value.int .u64 z).toArray := ht
  unfold World.var? at hv
  rw [show Tryd.prog.globalNamed "internal/strconv.uint64pow10" = some g from hg] at hv
  simp only [Option.bind_some] at hv
  cases ho : W.heap[g]? with
  | none => rw [ho] at hv; cases hv
  | some o =>
    rw [ho] at hv
    split at hv
    · rename_i cs t m he
      cases he
      simp only [Option.some.injEq] at hv
      exact ⟨(Array.getElem?_eq_some_iff.1 ho).1, t, m, by rw [hv]; rfl⟩
    · cases hv
end Go.Proofs.YtghllhghboaagaaDoor
end
/-! The example of the page (escheatlaw47.works) comes to true; what the machine is told of calls is so. -/
section
set_option linter.unusedVariables false
set_option linter.unusedSimpArgs false
set_option maxRecDepth 100000
namespace Go.Proofs.YtghllhghboaagaaDoor
open Go.Vm
def itoaW : List D → Option Out := fun ds => match ds with
  | [.int .i64 0] => some (.ret (.d (.str [48])))
  | [.int .i64 1] => some (.ret (.d (.str [49])))
  | [.int .i64 2] => some (.ret (.d (.str [50])))
  | _ => Option.none
noncomputable def cfgW : Cfg := { P := Tryd.prog, mixed := by kernel_rfl, shared := fun f => Nat.testBit mask f, ext := fun f => match Nat.beq f 19 with | true => some itoaW | false => match Nat.beq f 24 with | true => some joinX | false => Option.none, catch_ := fun _ => Option.none }
theorem itoa0 : Lib.itoa 0 = [48] := by unfold Lib.itoa; rw [if_neg (by decide)]; unfold Lib.decDigits; rfl
theorem itoa1 : Lib.itoa 1 = [49] := by unfold Lib.itoa; rw [if_neg (by decide)]; unfold Lib.decDigits; rfl
theorem itoa2 : Lib.itoa 2 = [50] := by unfold Lib.itoa; rw [if_neg (by decide)]; unfold Lib.decDigits; rfl
theorem itoaW_X {ds : List D} {o : Out} (h : itoaW ds = some o) : itoaX ds = some o := by
  unfold itoaW at h
  split at h
  · cases h; unfold itoaX; simp only; rw [if_pos (by decide), itoa0]
  · cases h; unfold itoaX; simp only; rw [if_pos (by decide), itoa1]
  · cases h; unfold itoaX; simp only; rw [if_pos (by decide), itoa2]
  · cases h
theorem extW : ExtOk cfgW := by
  intro f g h
  have h : (match Nat.beq f 19 with | true => some itoaW | false => match Nat.beq f 24 with | true => some joinX | false => Option.none) = some g := h
  split at h
  · rename_i hf
    cases h
    cases Nat.eq_of_beq_eq_true hf
    exact fun ds o ho => itoaX_ok ds o (itoaW_X ho)
  split at h
  · rename_i hf
    cases h
    cases Nat.eq_of_beq_eq_true hf
    exact joinX_ok
  · cases h
theorem catchW : CatchOk cfgW := fun f post h => by cases h
theorem works_run : runD cfgW 400 6 [] = some (.ret (.d (.bool true))) := by kernel_rfl
theorem extC : ExtOk cfg := by
  intro f g h
  have h : (match Nat.beq f 24 with | true => some joinX | false => match Nat.beq f 19 with | true => some itoaX | false => match Nat.beq f 6 with | true => some worksX | false => Option.none) = some g := h
  split at h
  · rename_i hf
    cases h
    cases Nat.eq_of_beq_eq_true hf
    exact joinX_ok
  split at h
  · rename_i hf
    cases h
    cases Nat.eq_of_beq_eq_true hf
    exact itoaX_ok
  split at h
  · rename_i hf
    cases h
    cases Nat.eq_of_beq_eq_true hf
    intro ds o ho
    unfold worksX at ho
    split at ho
    · cases ho
      exact runD_ok extW catchW 400 6 [] _ works_run
    · cases ho
  · cases h
theorem catchC : CatchOk cfg := fun f post h => by cases h
end Go.Proofs.YtghllhghboaagaaDoor
end
/-! Rules of rewriting for parts of texts and of rows, and for texts put together. -/
section
set_option linter.unusedVariables false
set_option linter.unusedSimpArgs false
namespace Go.Vm
open Go
theorem bound_in {n d : Nat} {i : Int} (h0 : 0 ≤ i) (h1 : i.toNat ≤ n) : boundV n (some (.d (.int .i64 i))) d = some i.toNat := by
  have h2 : i ≤ n := by omega
  simp only [boundV, intOf?, h0, h2, if_true, and_self]
theorem bound_no {n d : Nat} : boundV n none d = some d := rfl
/-- A part of a text. -/
theorem slc_str {P : Program} {S : Store} {t : TypeId} {s : List UInt8} {lo hi : Int} (hu : P.underlying t = some .string) (h0 : 0 ≤ lo) (h1 : lo ≤ hi) (h2 : hi ≤ s.length) :
    sliceV P S t (.d (.str s)) (some (.d (.int .i64 lo))) (some (.d (.int .i64 hi))) = some (.d (.str ((s.take hi.toNat).drop lo.toNat))) := by
  simp only [sliceV, hu, bound_in (n := s.length) (d := s.length) (i := hi) (by omega) (by omega), bound_in (n := hi.toNat) (d := 0) (i := lo) h0 (by omega)]
theorem slc_one {P : Program} {S : Store} {t : TypeId} {s : List UInt8} {i : Nat} (hu : P.underlying t = some .string) (h : i < s.length) :
    sliceV P S t (.d (.str s)) (some (.d (.int .i64 i))) (some (.d (.int .i64 (i + 1)))) = some (.d (.str [s[i]])) := by
  rw [slc_str hu (by omega) (by omega) (by omega)]
  have : ((i : Int) + 1).toNat = i + 1 := by omega
  rw [this, Int.toNat_natCast, List.take_succ_eq_append_getElem h, List.drop_append, List.drop_eq_nil_of_le (by rw [List.length_take]; omega)]
  simp [Nat.min_eq_left (Nat.le_of_lt h)]
/-- A part of a row of data. -/
theorem slc_sl {P : Program} {S : Store} {t e : TypeId} {xs : List D} {lo hi : Int} (hu : P.underlying t = some (.slice e)) (hf : xs.all (fitsD P e) = true) (hz : (sz P e).isSome = true) (h0 : 0 ≤ lo) (h1 : lo ≤ hi) (h2 : hi ≤ xs.length) :
    sliceV P S t (.d (.sl xs)) (some (.d (.int .i64 lo))) (some (.d (.int .i64 hi))) = some (.d (.sl ((xs.take hi.toNat).drop lo.toNat))) := by
  simp only [sliceV, hu, bound_in (n := xs.length) (d := xs.length) (i := hi) (by omega) (by omega), bound_in (n := hi.toNat) (d := 0) (i := lo) h0 (by omega), hf, hz, Bool.and_self, if_true]
theorem slc_hi {P : Program} {S : Store} {t e : TypeId} {xs : List D} {hi : Int} (hu : P.underlying t = some (.slice e)) (hf : xs.all (fitsD P e) = true) (hz : (sz P e).isSome = true) (h1 : 0 ≤ hi) (h2 : hi ≤ xs.length) :
    sliceV P S t (.d (.sl xs)) none (some (.d (.int .i64 hi))) = some (.d (.sl (xs.take hi.toNat))) := by
  simp only [sliceV, hu, bound_in (n := xs.length) (d := xs.length) (i := hi) (by omega) (by omega), bound_no, hf, hz, Bool.and_self, if_true, List.drop_zero]
theorem slc_lo {P : Program} {S : Store} {t e : TypeId} {xs : List D} {lo : Int} (hu : P.underlying t = some (.slice e)) (hf : xs.all (fitsD P e) = true) (hz : (sz P e).isSome = true) (h0 : 0 ≤ lo) (h1 : lo ≤ xs.length) :
    sliceV P S t (.d (.sl xs)) (some (.d (.int .i64 lo))) none = some (.d (.sl (xs.drop lo.toNat))) := by
  simp only [sliceV, hu, bound_in (n := xs.length) (d := 0) (i := lo) (by omega) (by omega), bound_no, hf, hz, Bool.and_self, if_true, List.take_length]
theorem sb_add {a b : List UInt8} (h : a.length + b.length ≤ 9223372036854775807) : strBin .add a b = some (.str (a ++ b)) := by simp only [strBin, h, if_true]
theorem strOf_mk {l : List UInt8} : strOf ⟨l.toArray⟩ = l := rfl
theorem sb_add1 {a : List UInt8} {c : UInt8} (h : a.length < 1000000) : strBin .add a [c] = some (.str (a ++ [c])) := sb_add (by simp; omega)
/-- An element of a slice that was made here. -/
theorem ix_own {α : Type} {enc : α → D} {P : Program} {S : Store} {t e : TypeId} {v : V} {xs : List α} {i : Nat} (hu : P.underlying t = some (.slice e)) (hf : ∀ a, fitsT P e (.d (enc a)) = true) (hz : (sz P e).isSome = true) (ho : OwnS S v e (xs.map fun a => .d (enc a))) (h : i < xs.length) :
    ∃ a, indexAddrV P S t v (.d (.int .i64 i)) = some a ∧ loadV P S e a = some (.d (enc xs[i])) := by
  have h0 : (0 : Int) ≤ i := by omega
  rcases ho with ⟨rfl, h1⟩ | ⟨id, rfl, h1⟩
  · have : xs.length = 0 := by simpa using congrArg List.length h1
    omega
  · refine ⟨.ref id i 0, ?_, ?_⟩
    · have h2 : ((i : Int) < ((xs.map fun a => V.d (enc a)).length : Int)) := by rw [List.length_map]; omega
      have h3 : rowT S id e = true := by simp only [rowT, h1, beq_self_eq_true]
      simp only [indexAddrV, intOf?, hu, h0, h2, h3, hz, and_self, if_true, Int.toNat_natCast, Nat.zero_add]
    · have h2 : (xs.map fun a => V.d (enc a))[i]? = some (.d (enc xs[i])) := by rw [List.getElem?_map, List.getElem?_eq_getElem h]; rfl
      simp only [loadV, h1, h2, hf, decide_true, Bool.and_self, if_true]
section
variable {C : Cfg} {S : Store} {T : List V} {dst : Option Tmp} {ops : Array Oper} {F : Dfs} {Q : Post} {K : List Nat → List (Nat × Nat) → List V → Store → Prop} {rd : List Nat} {cs : List (Nat × Nat)} {i : Nat}
/-- A call apart in a region that draws. -/
theorem we_call_v {f : FuncId} {args : List V} {ds : List D} {v : V} (hs : C.shared f = false) (hf : allO (frz S frzFuel) args = some ds) (hi : (args.flatMap (frzIds S frzFuel)).isEmpty = true) (he : Ev C f ds (.ret v)) :
    WpE C ops F Q K rd cs i dst T S (some (.enter f args)) = K (i :: rd) (cs ++ [(i, 1)]) (putT T dst v) S := by
  obtain ⟨n, hn⟩ := he
  have hn' : answer C (run C n) f ds = some (.ret v) := hn
  have hc : callV C (run C n) f args S = some (.ret v, S, 1) := by
    unfold callV
    simp only [hs, Bool.false_eq_true, if_false, hf, hn', hi, if_true]
  apply propext
  constructor
  · rintro ⟨m, v', S', c, h1, h2, h3⟩
    have := callV_det h1 hc
    simp only [Prod.mk.injEq] at this
    obtain ⟨h4, rfl, rfl⟩ := this
    cases h4
    exact h3
  · exact fun h => ⟨n, _, _, _, hc, fun h => absurd h (by decide), h⟩
theorem we_call_d {f : FuncId} {ds : List D} {v : V} (hs : C.shared f = false) (he : Ev C f ds (.ret v)) :
    WpE C ops F Q K rd cs i dst T S (some (.enter f (ds.map .d))) = K (i :: rd) (cs ++ [(i, 1)]) (putT T dst v) S := by
  have hfz : ∀ ds : List D, allO (frz S frzFuel) (ds.map V.d) = some ds := by
    intro ds
    induction ds with
    | nil => rfl
    | cons x r ih => simp only [List.map_cons, allO, ih, frz_d]
  have hid : ∀ ds : List D, ((ds.map V.d).flatMap (frzIds S frzFuel)).isEmpty = true := by
    intro ds
    induction ds with
    | nil => rfl
    | cons x r ih => simp only [List.map_cons, List.flatMap_cons, frzIds_d, List.nil_append]; exact ih
  exact we_call_v hs (hfz ds) (hid ds) he
end
end Go.Vm
end
