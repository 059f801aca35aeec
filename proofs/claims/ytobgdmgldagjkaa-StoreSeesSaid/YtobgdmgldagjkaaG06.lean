/- The value machine: the bundles of rules. -/
import Derived.Test.YtobgdmgldagjkaaProg
import Derived.Test.YtobgdmgldagjkaaG05
set_option linter.unusedVariables false
set_option linter.unusedSimpArgs false
set_option maxRecDepth 100000
set_option maxHeartbeats 4000000
set_option linter.defProp false
section
namespace Go.Vm
section
variable {C : Cfg} {ops : Array Oper} {dst : Option Tmp} {ty : TypeId} {pos : String} {after : Array Edge} {l : List Oper} {T : List V} {S S' : Store} {F : Dfs} {Q : Post} {k : List Fr}
theorem zn4 {g : FuncId} {args : Array Operand} {ts : Array TypeId} : WpL C ops (⟨dst, .call { callee := .value (.func g), args := args, argTypes := ts }, ty, pos, after, none⟩ :: l) T S F Q = WpR C ops dst l T S F Q (if (args.toList.map (zB T)).all V.one && (zA C.P g).isSome then some (.enter g ([] ++ args.toList.map (zB T) ++ [])) else none) := vG rfl
theorem zrs {c a b : Operand} : WpL C ops (⟨dst, .pick c a b, ty, pos, after, none⟩ :: l) T S F Q = WpR C ops dst l T S F Q (match zB T c with | .d (.bool true) => some (.val (zB T a) S 0) | .d (.bool false) => some (.val (zB T b) S 0) | _ => none) := vG rfl
theorem zei {x : Operand} : WpL C ops (⟨dst, .nilCheck x, ty, pos, after, none⟩ :: l) T S F Q = WpR C ops dst l T S F Q (match zB T x with | .ref i ix off => some (.val (.ref i ix off) S 0) | .d (.ptr x) => some (.val (.d (.ptr x)) S 0) | .fn (.func g) a b => some (.val (.fn (.func g) a b) S 0) | _ => none) := vG rfl
theorem znq {x : Operand} {g : Nat × Bool} : WpL C ops (⟨dst, .move x, ty, pos, after, some g⟩ :: l) T S F Q = WpG C ops dst (.move x) ty pos after l T S F Q ((qO ops T g.1).map (· == some g.2)) := jE rfl
theorem zht {x : Operand} {g : Nat × Bool} : WpL C ops (⟨dst, .assign x, ty, pos, after, some g⟩ :: l) T S F Q = WpG C ops dst (.assign x) ty pos after l T S F Q ((qO ops T g.1).map (· == some g.2)) := jE rfl
theorem ztq {op : BinOp} {t u : TypeId} {x y : Operand} {g : Nat × Bool} : WpL C ops (⟨dst, .binOp op t x y u, ty, pos, after, some g⟩ :: l) T S F Q = WpG C ops dst (.binOp op t x y u) ty pos after l T S F Q ((qO ops T g.1).map (· == some g.2)) := jE rfl
theorem zvc {op : UnOp} {t : TypeId} {x : Operand} {g : Nat × Bool} : WpL C ops (⟨dst, .unOp op t x, ty, pos, after, some g⟩ :: l) T S F Q = WpG C ops dst (.unOp op t x) ty pos after l T S F Q ((qO ops T g.1).map (· == some g.2)) := jE rfl
theorem zkj {t : TypeId} {x y : Operand} {g : Nat × Bool} : WpL C ops (⟨dst, .indexAddr t x y, ty, pos, after, some g⟩ :: l) T S F Q = WpG C ops dst (.indexAddr t x y) ty pos after l T S F Q ((qO ops T g.1).map (· == some g.2)) := jE rfl
theorem ztr {t : TypeId} {x y : Operand} {g : Nat × Bool} : WpL C ops (⟨dst, .index t x y, ty, pos, after, some g⟩ :: l) T S F Q = WpG C ops dst (.index t x y) ty pos after l T S F Q ((qO ops T g.1).map (· == some g.2)) := jE rfl
theorem zb3 {t : TypeId} {x : Operand} {f : Nat} {g : Nat × Bool} : WpL C ops (⟨dst, .fieldAddr t x f, ty, pos, after, some g⟩ :: l) T S F Q = WpG C ops dst (.fieldAddr t x f) ty pos after l T S F Q ((qO ops T g.1).map (· == some g.2)) := jE rfl
theorem zls {t : TypeId} {x : Operand} {f : Nat} {g : Nat × Bool} : WpL C ops (⟨dst, .field t x f, ty, pos, after, some g⟩ :: l) T S F Q = WpG C ops dst (.field t x f) ty pos after l T S F Q ((qO ops T g.1).map (· == some g.2)) := jE rfl
theorem znv {t : TypeId} {x : Operand} {g : Nat × Bool} : WpL C ops (⟨dst, .load t x, ty, pos, after, some g⟩ :: l) T S F Q = WpG C ops dst (.load t x) ty pos after l T S F Q ((qO ops T g.1).map (· == some g.2)) := jE rfl
theorem zez {t u : TypeId} {x : Operand} {g : Nat × Bool} : WpL C ops (⟨dst, .convert t u x, ty, pos, after, some g⟩ :: l) T S F Q = WpG C ops dst (.convert t u x) ty pos after l T S F Q ((qO ops T g.1).map (· == some g.2)) := jE rfl
theorem zil {t : TypeId} {x : Operand} {lo hi : Option Operand} {g : Nat × Bool} : WpL C ops (⟨dst, .slice t x lo hi none, ty, pos, after, some g⟩ :: l) T S F Q = WpG C ops dst (.slice t x lo hi none) ty pos after l T S F Q ((qO ops T g.1).map (· == some g.2)) := jE rfl
theorem zhp {t : TypeId} {x k : Operand} {ok : Bool} {g : Nat × Bool} : WpL C ops (⟨dst, .lookup t x k ok, ty, pos, after, some g⟩ :: l) T S F Q = WpG C ops dst (.lookup t x k ok) ty pos after l T S F Q ((qO ops T g.1).map (· == some g.2)) := jE rfl
theorem zne {c : Call} {g : Nat × Bool} : WpL C ops (⟨dst, .call c, ty, pos, after, some g⟩ :: l) T S F Q = WpG C ops dst (.call c) ty pos after l T S F Q ((qO ops T g.1).map (· == some g.2)) := jE rfl
theorem zet {x : Operand} {i : Nat} {g : Nat × Bool} : WpL C ops (⟨dst, .extract x i, ty, pos, after, some g⟩ :: l) T S F Q = WpG C ops dst (.extract x i) ty pos after l T S F Q ((qO ops T g.1).map (· == some g.2)) := jE rfl
theorem zoy {c a b : Operand} {g : Nat × Bool} : WpL C ops (⟨dst, .pick c a b, ty, pos, after, some g⟩ :: l) T S F Q = WpG C ops dst (.pick c a b) ty pos after l T S F Q ((qO ops T g.1).map (· == some g.2)) := jE rfl
theorem zm5 {t : TypeId} {ps : Array (Nat × Operand)} {g : Nat × Bool} : WpL C ops (⟨dst, .build t ps, ty, pos, after, some g⟩ :: l) T S F Q = WpG C ops dst (.build t ps) ty pos after l T S F Q ((qO ops T g.1).map (· == some g.2)) := jE rfl
theorem zbs {x : Operand} {g : Nat × Bool} : WpL C ops (⟨dst, .nilCheck x, ty, pos, after, some g⟩ :: l) T S F Q = WpG C ops dst (.nilCheck x) ty pos after l T S F Q ((qO ops T g.1).map (· == some g.2)) := jE rfl
theorem z5a {id : Nat} : post C (.block id :: k) Q (.exit id) T S F = post C k Q .norm T S F := by rw [z1a, if_pos rfl]
theorem z74 {id i : Nat} (h : i ≠ id) : post C (.block id :: k) Q (.exit i) T S F = post C k Q (.exit i) T S F := by rw [z1a, if_neg h]
theorem ztj {op : Op} : WpG C ops dst op ty pos after l T S F Q (some true) = WpL C ops (⟨dst, op, ty, pos, after, none⟩ :: l) T S F Q := rfl
theorem zn8 {op : Op} : WpG C ops dst op ty pos after l T S F Q (some false) = WpL C ops l (putT T dst (.tup [])) S F Q := rfl
end
theorem zrm {T : List V} {k : IntKind} {n : Int} : zB T (.const (.int k n)) = .d (.int k n) := rfl
theorem zmr {T : List V} {b : Bool} : zB T (.const (.bool b)) = .d (.bool b) := rfl
theorem zsc {T : List V} {s : ByteArray} : zB T (.const (.string s)) = .d (.str (zk1 s)) := rfl
theorem zr7 {T : List V} : zB T (.const (.slice none 0 0)) = .ts [] := rfl
theorem zo8 {T : List V} : zB T (.const (.map none)) = .d .nilm := rfl
theorem zo7 {T : List V} : zB T (.const (.pointer none)) = .d .nilp := rfl
theorem zqi {k : IntKind} {a b : Int} : qP .eql k a k b = some (.bool (decide (a = b))) := by simp [qP]; rfl
theorem zsa {k : IntKind} {a b : Int} : qP .neq k a k b = some (.bool (decide (a ≠ b))) := by simp [qP]; rfl
def bs1 (P : Program) (S : Store) (t : TypeId) (v : V) : Option Rs :=
 match P.underlying t with
 | some (.slice e) => match zeroV P e, sz P e with
  | some z, some k => if zZ P e z = true ∧ zZ P e v = true ∧ k ≤ 16777216 ∧ k ≠ 0 then
    match asD v with
    | some d => some (.val (.ts [d]) S 0)
    | none => some (.val (.rs S.length 0 1) (S ++ [.row [v] e]) 2)
   else none
  | _, _ => none
 | _ => none
theorem zvy {P : Program} {S : Store} {T : List V} {t : TypeId} {x : Operand} {dst : Option Tmp} {ty : TypeId} {pos : String} {after : Array Edge} {g : Option (Nat × Bool)} : opV P S T ⟨dst, .buildSlice t 1 #[(0, x)], ty, pos, after, g⟩ = bs1 P S t (zB T x) := by
 simp only [opV, bs1]
 cases P.underlying t with
 | none => rfl
 | some td =>
  cases td <;> try rfl
  rename_i e
  cases hz : zeroV P e with
  | none => simp only [hz]
  | some z =>
   cases hk : sz P e with
   | none => simp only [hz, hk]
   | some k =>
    simp only [hz, hk, litV, List.map_cons, List.map_nil, List.foldl_cons, List.foldl_nil, List.replicate_succ, List.replicate_zero, List.set_cons_zero, allO, List.all_cons, List.all_nil, Bool.and_true, Nat.one_mul]
    by_cases h : zZ P e z = true ∧ zZ P e (zB T x) = true ∧ k ≤ 16777216 ∧ k ≠ 0
    ·rw [if_pos h, if_pos (by simp [h])]
     cases asD (zB T x) <;> rfl
    ·rw [if_neg h, if_neg]
     simpa [and_assoc] using h
theorem zz1 {f : V → Bool} {a : V} {l : List V} : (a :: l).all f = (f a && l.all f) := rfl
theorem zzy {f : V → Bool} : ([] : List V).all f = true := rfl
theorem kJ {b : Bool} : unV .not (.d (.bool b)) = some (.d (.bool (!b))) := rfl
theorem zz9 {x : D} : V.one (.d x) = true := rfl
theorem zv9 {xs : List D} : V.one (.ts xs) = true := rfl
theorem zx9 {i o n : Nat} : V.one (.rs i o n) = true := rfl
theorem zqw {xs : List V} : V.one (.agg xs) = true := rfl
theorem zth {i o n : Nat} : V.one (.ref i o n) = true := rfl
theorem zv8 {i : Nat} : V.one (.mr i) = true := rfl
theorem zq9 {f : Fn} {a b : List V} : V.one (.fn f a b) = true := rfl
theorem q0g {p : Prop} [Decidable p] (h : p) : decide p = true := decide_eq_true h
theorem q0h {p : Prop} [Decidable p] (h : ¬ p) : decide p = false := decide_eq_false h
section
variable {C : Cfg}
theorem vmp :
 (∀ {T : List V} {S : Store} {F : Dfs} {k : List Fr} {Q : Post} {a b : Code}, Wp C (.seq a b) T S F (post C k Q) = Wp C a T S F (post C (.seq b :: k) Q)) ∧
 (∀ {T : List V} {S : Store} {F : Dfs} {Q : Post} {id : Nat} {ops : Array Oper}, Wp C (.region id ops false) T S F Q = WpL C ops ops.toList T S F Q) ∧
 (∀ {T : List V} {S : Store} {F : Dfs} {ops : Array Oper} {Q : Post}, WpL C ops [] T S F Q = Q .norm T S F) ∧
 (∀ {T : List V} {S : Store} {F : Dfs} {k : List Fr} {Q : Post} {b : Code}, post C (.seq b :: k) Q .norm T S F = Wp C b T S F (post C k Q)) ∧
 (∀ {T : List V} {S : Store} {F : Dfs} {k : List Fr} {Q : Post} {b : Code} {i : Nat}, post C (.seq b :: k) Q (.exit i) T S F = post C k Q (.exit i) T S F) ∧
 (∀ {T : List V} {S : Store} {F : Dfs} {k : List Fr} {Q : Post} {b : Code}, post C (.seq b :: k) Q .ret T S F = post C k Q .ret T S F) ∧
 (∀ {T : List V} {S : Store} {F : Dfs} {k : List Fr} {Q : Post} {b : Code} {v : V}, post C (.seq b :: k) Q (.pan v) T S F = post C k Q (.pan v) T S F) ∧
 (∀ {T : List V} {S : Store} {F : Dfs} {k : List Fr} {Q : Post} {b : Code}, post C (.loop b :: k) Q .norm T S F = Wp C (.loop b) T S F (post C k Q)) ∧
 (∀ {T : List V} {S : Store} {F : Dfs} {k : List Fr} {Q : Post} {b : Code} {i : Nat}, post C (.loop b :: k) Q (.exit i) T S F = post C k Q (.exit i) T S F) ∧
 (∀ {T : List V} {S : Store} {F : Dfs} {k : List Fr} {Q : Post} {b : Code}, post C (.loop b :: k) Q .ret T S F = post C k Q .ret T S F) ∧
 (∀ {T : List V} {S : Store} {F : Dfs} {k : List Fr} {Q : Post} {b : Code} {v : V}, post C (.loop b :: k) Q (.pan v) T S F = post C k Q (.pan v) T S F) ∧
 (∀ {T : List V} {S : Store} {F : Dfs} {k : List Fr} {Q : Post} {id : Nat}, post C (.block id :: k) Q .norm T S F = post C k Q .norm T S F) ∧
 (∀ {T : List V} {S : Store} {F : Dfs} {k : List Fr} {Q : Post} {id : Nat}, post C (.block id :: k) Q .ret T S F = post C k Q .ret T S F) ∧
 (∀ {T : List V} {S : Store} {F : Dfs} {k : List Fr} {Q : Post} {id : Nat} {v : V}, post C (.block id :: k) Q (.pan v) T S F = post C k Q (.pan v) T S F) ∧
 (∀ {T : List V} {S : Store} {F : Dfs} {k : List Fr} {Q : Post} {id : Nat}, post C (.block id :: k) Q (.exit id) T S F = post C k Q .norm T S F) ∧
 (∀ {T : List V} {S : Store} {F : Dfs} {k : List Fr} {Q : Post} {id i : Nat} (h : i ≠ id), post C (.block id :: k) Q (.exit i) T S F = post C k Q (.exit i) T S F) ∧
 (∀ {T : List V} {S : Store} {F : Dfs} {Q : Post} {x : Ex}, post C [] Q x T S F = Q x T S F) ∧
 (∀ {T : List V} {S : Store} {F : Dfs} {Q : Post}, Wp C .skip T S F Q = Q .norm T S F) ∧
 (∀ {T : List V} {S : Store} {F : Dfs} {Q : Post}, Wp C .ret T S F Q = Q .ret T S F) ∧
 (∀ {T : List V} {S : Store} {F : Dfs} {Q : Post} {id : Nat}, Wp C (.exit id) T S F Q = Q (.exit id) T S F) ∧
 (∀ {T : List V} {S : Store} {F : Dfs} {Q : Post} {l : Nat}, Wp C (.label l) T S F Q = Q .norm T S F) ∧
 (∀ {T : List V} {S : Store} {F : Dfs} {k : List Fr} {Q : Post} {id : Nat} {b : Code}, Wp C (.block id b) T S F (post C k Q) = Wp C b T S F (post C (.block id :: k) Q)) ∧
 (∀ {T : List V} {S : Store} {F : Dfs} {Q : Post} {b : Code}, Wp C (.scope b) T S F Q = Wp C b T S F Q) ∧
 (∀ {T : List V} {S : Store} {F : Dfs} {Q : Post} {c : Operand} {a b : Code}, Wp C (.cond c a b) T S F Q = WpB C (zB T c) a b T S F Q) ∧
 (∀ {ops : Array Oper} {dst : Option Tmp} {ty : TypeId} {pos : String} {after : Array Edge} {l : List Oper} {T : List V} {S : Store} {F : Dfs} {Q : Post} {x : Operand}, WpL C ops (⟨dst, .move x, ty, pos, after, none⟩ :: l) T S F Q = WpL C ops l (putT T dst (zB T x)) S F Q) ∧
 (∀ {ops : Array Oper} {dst : Option Tmp} {ty : TypeId} {pos : String} {after : Array Edge} {l : List Oper} {T : List V} {S : Store} {F : Dfs} {Q : Post} {x : Operand}, WpL C ops (⟨dst, .assign x, ty, pos, after, none⟩ :: l) T S F Q = WpL C ops l (putT T dst (zB T x)) S F Q) ∧
 (∀ {ops : Array Oper} {dst : Option Tmp} {ty : TypeId} {pos : String} {after : Array Edge} {l : List Oper} {T : List V} {S : Store} {F : Dfs} {Q : Post} {op : BinOp} {t u : TypeId} {x y : Operand}, WpL C ops (⟨dst, .binOp op t x y u, ty, pos, after, none⟩ :: l) T S F Q = WpR C ops dst l T S F Q ((binV C.P op t (zB T x) (zB T y)).map fun v => .val v S 0)) ∧
 (∀ {ops : Array Oper} {dst : Option Tmp} {ty : TypeId} {pos : String} {after : Array Edge} {l : List Oper} {T : List V} {S : Store} {F : Dfs} {Q : Post} {op : UnOp} {t : TypeId} {x : Operand}, WpL C ops (⟨dst, .unOp op t x, ty, pos, after, none⟩ :: l) T S F Q = WpR C ops dst l T S F Q ((unV op (zB T x)).map fun v => .val v S 0)) ∧
 (∀ {ops : Array Oper} {dst : Option Tmp} {ty : TypeId} {pos : String} {after : Array Edge} {l : List Oper} {T : List V} {S : Store} {F : Dfs} {Q : Post} {t : TypeId} {x y : Operand}, WpL C ops (⟨dst, .indexAddr t x y, ty, pos, after, none⟩ :: l) T S F Q = WpR C ops dst l T S F Q ((zE C.P S t (zB T x) (zB T y)).map fun v => .val v S 1)) ∧
 (∀ {ops : Array Oper} {dst : Option Tmp} {ty : TypeId} {pos : String} {after : Array Edge} {l : List Oper} {T : List V} {S : Store} {F : Dfs} {Q : Post} {t : TypeId} {x y : Operand}, WpL C ops (⟨dst, .index t x y, ty, pos, after, none⟩ :: l) T S F Q = WpR C ops dst l T S F Q ((z2g C.P t (zB T x) (zB T y)).map fun v => .val v S 0)) ∧
 (∀ {ops : Array Oper} {dst : Option Tmp} {ty : TypeId} {pos : String} {after : Array Edge} {l : List Oper} {T : List V} {S : Store} {F : Dfs} {Q : Post} {t : TypeId} {x : Operand} {f : Nat}, WpL C ops (⟨dst, .fieldAddr t x f, ty, pos, after, none⟩ :: l) T S F Q = WpR C ops dst l T S F Q ((zF C.P t f (zB T x)).map fun v => .val v S 0)) ∧
 (∀ {ops : Array Oper} {dst : Option Tmp} {ty : TypeId} {pos : String} {after : Array Edge} {l : List Oper} {T : List V} {S : Store} {F : Dfs} {Q : Post} {t : TypeId} {x : Operand} {f : Nat}, WpL C ops (⟨dst, .field t x f, ty, pos, after, none⟩ :: l) T S F Q = WpR C ops dst l T S F Q ((za1 C.P t f (zB T x)).map fun v => .val v S 0)) ∧
 (∀ {ops : Array Oper} {dst : Option Tmp} {ty : TypeId} {pos : String} {after : Array Edge} {l : List Oper} {T : List V} {S : Store} {F : Dfs} {Q : Post} {t : TypeId} {x : Operand}, WpL C ops (⟨dst, .load t x, ty, pos, after, none⟩ :: l) T S F Q = WpR C ops dst l T S F Q ((kC C.P S t (zB T x)).map fun v => .val v S 1)) ∧
 (∀ {ops : Array Oper} {dst : Option Tmp} {ty : TypeId} {pos : String} {after : Array Edge} {l : List Oper} {T : List V} {S : Store} {F : Dfs} {Q : Post} {t : TypeId} {x y : Operand}, WpL C ops (⟨dst, .store t x y, ty, pos, after, none⟩ :: l) T S F Q = WpR C ops dst l T S F Q ((z02 C.P S t (zB T x) (zB T y)).map fun S' => .skip S' 3)) ∧
 (∀ {ops : Array Oper} {dst : Option Tmp} {ty : TypeId} {pos : String} {after : Array Edge} {l : List Oper} {T : List V} {S : Store} {F : Dfs} {Q : Post} {t u : TypeId} {x : Operand}, WpL C ops (⟨dst, .convert t u x, ty, pos, after, none⟩ :: l) T S F Q = WpR C ops dst l T S F Q ((qD C.P S t u (zB T x)).map fun r => .val r.1 S r.2)) ∧
 (∀ {ops : Array Oper} {dst : Option Tmp} {ty : TypeId} {pos : String} {after : Array Edge} {l : List Oper} {T : List V} {S : Store} {F : Dfs} {Q : Post} {t : TypeId} {x y : Operand}, WpL C ops (⟨dst, .makeSlice t x y, ty, pos, after, none⟩ :: l) T S F Q = WpR C ops dst l T S F Q ((jG C.P S t (zB T x) (zB T y)).map fun r => .val r.1 r.2 2)) ∧
 (∀ {ops : Array Oper} {dst : Option Tmp} {ty : TypeId} {pos : String} {after : Array Edge} {l : List Oper} {T : List V} {S : Store} {F : Dfs} {Q : Post} {t : TypeId} {x : Operand} {lo hi : Option Operand}, WpL C ops (⟨dst, .slice t x lo hi none, ty, pos, after, none⟩ :: l) T S F Q = WpR C ops dst l T S F Q ((wD C.P S t (zB T x) (lo.map (zB T)) (hi.map (zB T))).map fun v => .val v S 1)) ∧
 (∀ {ops : Array Oper} {dst : Option Tmp} {ty : TypeId} {pos : String} {after : Array Edge} {l : List Oper} {T : List V} {S : Store} {F : Dfs} {Q : Post} {t : TypeId} {x k : Operand} {ok : Bool}, WpL C ops (⟨dst, .lookup t x k ok, ty, pos, after, none⟩ :: l) T S F Q = WpR C ops dst l T S F Q ((wA C.P S t (zB T x) (zB T k) ok).map fun v => .val v S 1)) ∧
 (∀ {ops : Array Oper} {dst : Option Tmp} {ty : TypeId} {pos : String} {after : Array Edge} {l : List Oper} {T : List V} {S : Store} {F : Dfs} {Q : Post} {t : TypeId} {x k v : Operand}, WpL C ops (⟨dst, .mapUpdate t x k v, ty, pos, after, none⟩ :: l) T S F Q = WpR C ops dst l T S F Q ((jO C.P S t (zB T x) (zB T k) (zB T v)).map fun S' => .skip S' 3)) ∧
 (∀ {ops : Array Oper} {dst : Option Tmp} {ty : TypeId} {pos : String} {after : Array Edge} {l : List Oper} {T : List V} {S : Store} {F : Dfs} {Q : Post} {b : Builtin} {args : Array Operand} {ts : Array TypeId}, WpL C ops (⟨dst, .call { callee := .builtin b, args := args, argTypes := ts }, ty, pos, after, none⟩ :: l) T S F Q = WpR C ops dst l T S F Q (zI C.P S b ts.toList (args.toList.map (zB T)))) ∧
 (∀ {ops : Array Oper} {dst : Option Tmp} {ty : TypeId} {pos : String} {after : Array Edge} {l : List Oper} {T : List V} {S : Store} {F : Dfs} {Q : Post} {t : TypeId} {ps : Array (Nat × Operand)}, WpL C ops (⟨dst, .build t ps, ty, pos, after, none⟩ :: l) T S F Q = WpR C ops dst l T S F Q ((wP C.P t (ps.toList.map fun p => (p.1, zB T p.2))).map fun v => .val v S 0)) ∧
 (∀ {ops : Array Oper} {dst : Option Tmp} {ty : TypeId} {pos : String} {after : Array Edge} {l : List Oper} {T : List V} {S : Store} {F : Dfs} {Q : Post} {x : Operand} {i : Nat}, WpL C ops (⟨dst, .extract x i, ty, pos, after, none⟩ :: l) T S F Q = WpR C ops dst l T S F Q (match zB T x with | .tup vs => (match vs[i]? with | some v => some (.val v S 0) | none => none) | _ => none)) ∧
 (∀ {ops : Array Oper} {dst : Option Tmp} {ty : TypeId} {pos : String} {after : Array Edge} {l : List Oper} {T : List V} {S : Store} {F : Dfs} {Q : Post} {g : FuncId} {args : Array Operand} {ts : Array TypeId}, WpL C ops (⟨dst, .call { callee := .value (.func g), args := args, argTypes := ts }, ty, pos, after, none⟩ :: l) T S F Q = WpR C ops dst l T S F Q (if (args.toList.map (zB T)).all V.one && (zA C.P g).isSome then some (.enter g ([] ++ args.toList.map (zB T) ++ [])) else none)) ∧
 (∀ {ops : Array Oper} {dst : Option Tmp} {ty : TypeId} {pos : String} {after : Array Edge} {l : List Oper} {T : List V} {S : Store} {F : Dfs} {Q : Post} {c a b : Operand}, WpL C ops (⟨dst, .pick c a b, ty, pos, after, none⟩ :: l) T S F Q = WpR C ops dst l T S F Q (match zB T c with | .d (.bool true) => some (.val (zB T a) S 0) | .d (.bool false) => some (.val (zB T b) S 0) | _ => none)) ∧
 (∀ {ops : Array Oper} {dst : Option Tmp} {ty : TypeId} {pos : String} {after : Array Edge} {l : List Oper} {T : List V} {S : Store} {F : Dfs} {Q : Post} {x : Operand}, WpL C ops (⟨dst, .nilCheck x, ty, pos, after, none⟩ :: l) T S F Q = WpR C ops dst l T S F Q (match zB T x with | .ref i ix off => some (.val (.ref i ix off) S 0) | .d (.ptr x) => some (.val (.d (.ptr x)) S 0) | .fn (.func g) a b => some (.val (.fn (.func g) a b) S 0) | _ => none)) ∧
 (∀ {ops : Array Oper} {dst : Option Tmp} {ty : TypeId} {pos : String} {after : Array Edge} {l : List Oper} {T : List V} {S : Store} {F : Dfs} {Q : Post} {t : TypeId} {n : Nat} {ps : Array (Nat × Operand)} {d2 : Option Tmp} {c : Call} {ty2 : TypeId} {pos2 : String} {after2 : Array Edge} {g2 : Option (Nat × Bool)}, WpL C ops (⟨dst, .buildSlice t n ps, ty, pos, after, none⟩ :: ⟨d2, .call c, ty2, pos2, after2, g2⟩ :: l) T S F Q = WpR C ops dst (⟨d2, .call c, ty2, pos2, after2, g2⟩ :: l) T S F Q (opV C.P S T ⟨dst, .buildSlice t n ps, ty, pos, after, none⟩)) ∧
 (∀ {ops : Array Oper} {dst : Option Tmp} {ty : TypeId} {pos : String} {after : Array Edge} {l : List Oper} {T : List V} {S : Store} {F : Dfs} {Q : Post} {x : Operand} {g : Nat × Bool}, WpL C ops (⟨dst, .move x, ty, pos, after, some g⟩ :: l) T S F Q = WpG C ops dst (.move x) ty pos after l T S F Q ((qO ops T g.1).map (· == some g.2))) ∧
 (∀ {ops : Array Oper} {dst : Option Tmp} {ty : TypeId} {pos : String} {after : Array Edge} {l : List Oper} {T : List V} {S : Store} {F : Dfs} {Q : Post} {x : Operand} {g : Nat × Bool}, WpL C ops (⟨dst, .assign x, ty, pos, after, some g⟩ :: l) T S F Q = WpG C ops dst (.assign x) ty pos after l T S F Q ((qO ops T g.1).map (· == some g.2))) ∧
 (∀ {ops : Array Oper} {dst : Option Tmp} {ty : TypeId} {pos : String} {after : Array Edge} {l : List Oper} {T : List V} {S : Store} {F : Dfs} {Q : Post} {op : BinOp} {t u : TypeId} {x y : Operand} {g : Nat × Bool}, WpL C ops (⟨dst, .binOp op t x y u, ty, pos, after, some g⟩ :: l) T S F Q = WpG C ops dst (.binOp op t x y u) ty pos after l T S F Q ((qO ops T g.1).map (· == some g.2))) ∧
 (∀ {ops : Array Oper} {dst : Option Tmp} {ty : TypeId} {pos : String} {after : Array Edge} {l : List Oper} {T : List V} {S : Store} {F : Dfs} {Q : Post} {op : UnOp} {t : TypeId} {x : Operand} {g : Nat × Bool}, WpL C ops (⟨dst, .unOp op t x, ty, pos, after, some g⟩ :: l) T S F Q = WpG C ops dst (.unOp op t x) ty pos after l T S F Q ((qO ops T g.1).map (· == some g.2))) ∧
 (∀ {ops : Array Oper} {dst : Option Tmp} {ty : TypeId} {pos : String} {after : Array Edge} {l : List Oper} {T : List V} {S : Store} {F : Dfs} {Q : Post} {t : TypeId} {x y : Operand} {g : Nat × Bool}, WpL C ops (⟨dst, .indexAddr t x y, ty, pos, after, some g⟩ :: l) T S F Q = WpG C ops dst (.indexAddr t x y) ty pos after l T S F Q ((qO ops T g.1).map (· == some g.2))) ∧
 (∀ {ops : Array Oper} {dst : Option Tmp} {ty : TypeId} {pos : String} {after : Array Edge} {l : List Oper} {T : List V} {S : Store} {F : Dfs} {Q : Post} {t : TypeId} {x y : Operand} {g : Nat × Bool}, WpL C ops (⟨dst, .index t x y, ty, pos, after, some g⟩ :: l) T S F Q = WpG C ops dst (.index t x y) ty pos after l T S F Q ((qO ops T g.1).map (· == some g.2))) ∧
 (∀ {ops : Array Oper} {dst : Option Tmp} {ty : TypeId} {pos : String} {after : Array Edge} {l : List Oper} {T : List V} {S : Store} {F : Dfs} {Q : Post} {t : TypeId} {x : Operand} {f : Nat} {g : Nat × Bool}, WpL C ops (⟨dst, .fieldAddr t x f, ty, pos, after, some g⟩ :: l) T S F Q = WpG C ops dst (.fieldAddr t x f) ty pos after l T S F Q ((qO ops T g.1).map (· == some g.2))) ∧
 (∀ {ops : Array Oper} {dst : Option Tmp} {ty : TypeId} {pos : String} {after : Array Edge} {l : List Oper} {T : List V} {S : Store} {F : Dfs} {Q : Post} {t : TypeId} {x : Operand} {f : Nat} {g : Nat × Bool}, WpL C ops (⟨dst, .field t x f, ty, pos, after, some g⟩ :: l) T S F Q = WpG C ops dst (.field t x f) ty pos after l T S F Q ((qO ops T g.1).map (· == some g.2))) ∧
 (∀ {ops : Array Oper} {dst : Option Tmp} {ty : TypeId} {pos : String} {after : Array Edge} {l : List Oper} {T : List V} {S : Store} {F : Dfs} {Q : Post} {t : TypeId} {x : Operand} {g : Nat × Bool}, WpL C ops (⟨dst, .load t x, ty, pos, after, some g⟩ :: l) T S F Q = WpG C ops dst (.load t x) ty pos after l T S F Q ((qO ops T g.1).map (· == some g.2))) ∧
 (∀ {ops : Array Oper} {dst : Option Tmp} {ty : TypeId} {pos : String} {after : Array Edge} {l : List Oper} {T : List V} {S : Store} {F : Dfs} {Q : Post} {t u : TypeId} {x : Operand} {g : Nat × Bool}, WpL C ops (⟨dst, .convert t u x, ty, pos, after, some g⟩ :: l) T S F Q = WpG C ops dst (.convert t u x) ty pos after l T S F Q ((qO ops T g.1).map (· == some g.2))) ∧
 (∀ {ops : Array Oper} {dst : Option Tmp} {ty : TypeId} {pos : String} {after : Array Edge} {l : List Oper} {T : List V} {S : Store} {F : Dfs} {Q : Post} {t : TypeId} {x : Operand} {lo hi : Option Operand} {g : Nat × Bool}, WpL C ops (⟨dst, .slice t x lo hi none, ty, pos, after, some g⟩ :: l) T S F Q = WpG C ops dst (.slice t x lo hi none) ty pos after l T S F Q ((qO ops T g.1).map (· == some g.2))) ∧
 (∀ {ops : Array Oper} {dst : Option Tmp} {ty : TypeId} {pos : String} {after : Array Edge} {l : List Oper} {T : List V} {S : Store} {F : Dfs} {Q : Post} {t : TypeId} {x k : Operand} {ok : Bool} {g : Nat × Bool}, WpL C ops (⟨dst, .lookup t x k ok, ty, pos, after, some g⟩ :: l) T S F Q = WpG C ops dst (.lookup t x k ok) ty pos after l T S F Q ((qO ops T g.1).map (· == some g.2))) ∧
 (∀ {ops : Array Oper} {dst : Option Tmp} {ty : TypeId} {pos : String} {after : Array Edge} {l : List Oper} {T : List V} {S : Store} {F : Dfs} {Q : Post} {c : Call} {g : Nat × Bool}, WpL C ops (⟨dst, .call c, ty, pos, after, some g⟩ :: l) T S F Q = WpG C ops dst (.call c) ty pos after l T S F Q ((qO ops T g.1).map (· == some g.2))) ∧
 (∀ {ops : Array Oper} {dst : Option Tmp} {ty : TypeId} {pos : String} {after : Array Edge} {l : List Oper} {T : List V} {S : Store} {F : Dfs} {Q : Post} {x : Operand} {i : Nat} {g : Nat × Bool}, WpL C ops (⟨dst, .extract x i, ty, pos, after, some g⟩ :: l) T S F Q = WpG C ops dst (.extract x i) ty pos after l T S F Q ((qO ops T g.1).map (· == some g.2))) ∧
 (∀ {ops : Array Oper} {dst : Option Tmp} {ty : TypeId} {pos : String} {after : Array Edge} {l : List Oper} {T : List V} {S : Store} {F : Dfs} {Q : Post} {c a b : Operand} {g : Nat × Bool}, WpL C ops (⟨dst, .pick c a b, ty, pos, after, some g⟩ :: l) T S F Q = WpG C ops dst (.pick c a b) ty pos after l T S F Q ((qO ops T g.1).map (· == some g.2))) ∧
 (∀ {ops : Array Oper} {dst : Option Tmp} {ty : TypeId} {pos : String} {after : Array Edge} {l : List Oper} {T : List V} {S : Store} {F : Dfs} {Q : Post} {t : TypeId} {ps : Array (Nat × Operand)} {g : Nat × Bool}, WpL C ops (⟨dst, .build t ps, ty, pos, after, some g⟩ :: l) T S F Q = WpG C ops dst (.build t ps) ty pos after l T S F Q ((qO ops T g.1).map (· == some g.2))) ∧
 (∀ {ops : Array Oper} {dst : Option Tmp} {ty : TypeId} {pos : String} {after : Array Edge} {l : List Oper} {T : List V} {S : Store} {F : Dfs} {Q : Post} {x : Operand} {g : Nat × Bool}, WpL C ops (⟨dst, .nilCheck x, ty, pos, after, some g⟩ :: l) T S F Q = WpG C ops dst (.nilCheck x) ty pos after l T S F Q ((qO ops T g.1).map (· == some g.2))) :=
 ⟨zut, zj9, zt1, zxh, ze8, zi3, zhw, zss, zdj, zex, ze5, zmy, zdg, zdm, z5a, z74, zyk, zrb, zx5, zto, zox, zms, zom, zt8, ztv, zj6, zvv, q18, zoe, zxq, zd1, zpc, zs1, zpe, zib, zcq, z76, zjq, zd2, zhx, znu, zgv, zn4, zrs, zei, z5g, znq, zht, ztq, zvc, zkj, ztr, zb3, zls, znv, zez, zil, zhp, zne, zet, zoy, zm5, zbs⟩
end
theorem vme :
 (∀ {C : Cfg} {ops : Array Oper} {dst : Option Tmp} {l : List Oper} {T : List V} {S S' : Store} {F : Dfs} {Q : Post} {v : V} {c : Nat}, WpR C ops dst l T S F Q (some (.val v S' c)) = WpL C ops l (putT T dst v) S' F Q) ∧
 (∀ {C : Cfg} {ops : Array Oper} {dst : Option Tmp} {l : List Oper} {T : List V} {S S' : Store} {F : Dfs} {Q : Post} {c : Nat}, WpR C ops dst l T S F Q (some (.skip S' c)) = WpL C ops l (putT T dst (.tup [])) S' F Q) ∧
 (∀ {T : List V} {v : V} {d : Tmp}, putT T (some d) v = T.set d v) ∧
 (∀ {T : List V} {v : V}, putT T none v = T) ∧
 (∀ {T : List V} {t : Tmp}, zB T (.tmp t) = T.getD t .junk) ∧
 (∀ {T : List V} {k : IntKind} {n : Int}, zB T (.const (.int k n)) = .d (.int k n)) ∧
 (∀ {T : List V} {b : Bool}, zB T (.const (.bool b)) = .d (.bool b)) ∧
 (∀ {T : List V} {s : ByteArray}, zB T (.const (.string s)) = .d (.str (zk1 s))) ∧
 (∀ {T : List V}, zB T (.const (.slice none 0 0)) = .ts []) ∧
 (∀ {T : List V}, zB T (.const (.map none)) = .d .nilm) ∧
 (∀ {T : List V}, zB T (.const (.pointer none)) = .d .nilp) ∧
 (∀ {a x : V} {r : List V}, (a :: r).getD 0 x = a) ∧
 (∀ {a x : V} {r : List V} {n : Nat}, (a :: r).getD (n + 1) x = r.getD n x) ∧
 (∀ {a x : V} {r : List V}, (a :: r).set 0 x = x :: r) ∧
 (∀ {a x : V} {r : List V} {n : Nat}, (a :: r).set (n + 1) x = a :: r.set n x) ∧
 (∀ {P : Program} {op : BinOp} {t : TypeId} {k k' : IntKind} {a b : Int}, binV P op t (.d (.int k a)) (.d (.int k' b)) = (qP op k a k' b).map .d) ∧
 (∀ {P : Program} {op : BinOp} {t : TypeId} {a b : List UInt8}, binV P op t (.d (.str a)) (.d (.str b)) = (z4s op a b).map .d) ∧
 (∀ {k : IntKind} {a b : Int}, qP .add k a k b = some (.int k (k.wrap (a + b)))) ∧
 (∀ {k : IntKind} {a b : Int}, qP .sub k a k b = some (.int k (k.wrap (a - b)))) ∧
 (∀ {k : IntKind} {a b : Int}, qP .mul k a k b = some (.int k (k.wrap (a * b)))) ∧
 (∀ {k : IntKind} {a b : Int}, qP .eql k a k b = some (.bool (decide (a = b)))) ∧
 (∀ {k : IntKind} {a b : Int}, qP .neq k a k b = some (.bool (decide (a ≠ b)))) ∧
 (∀ {k : IntKind} {a b : Int}, qP .lss k a k b = some (.bool (decide (a < b)))) ∧
 (∀ {k : IntKind} {a b : Int}, qP .leq k a k b = some (.bool (decide (a ≤ b)))) ∧
 (∀ {k : IntKind} {a b : Int}, qP .gtr k a k b = some (.bool (decide (a > b)))) ∧
 (∀ {k : IntKind} {a b : Int}, qP .geq k a k b = some (.bool (decide (a ≥ b)))) ∧
 (∀ {b : Bool}, unV .not (.d (.bool b)) = some (.d (.bool (!b)))) ∧
 (∀ {x : D}, V.one (.d x) = true) ∧
 (∀ {xs : List D}, V.one (.ts xs) = true) ∧
 (∀ {i o n : Nat}, V.one (.rs i o n) = true) ∧
 (∀ {xs : List V}, V.one (.agg xs) = true) ∧
 (∀ {i o n : Nat}, V.one (.ref i o n) = true) ∧
 (∀ {i : Nat}, V.one (.mr i) = true) ∧
 (∀ {f : Fn} {a b : List V}, V.one (.fn f a b) = true) ∧
 (∀ {C : Cfg} {ops : Array Oper} {dst : Option Tmp} {op : Op} {ty : TypeId} {pos : String} {after : Array Edge} {l : List Oper} {T : List V} {S : Store} {F : Dfs} {Q : Post}, WpG C ops dst op ty pos after l T S F Q (some true) = WpL C ops (⟨dst, op, ty, pos, after, none⟩ :: l) T S F Q) ∧
 (∀ {C : Cfg} {ops : Array Oper} {dst : Option Tmp} {op : Op} {ty : TypeId} {pos : String} {after : Array Edge} {l : List Oper} {T : List V} {S : Store} {F : Dfs} {Q : Post}, WpG C ops dst op ty pos after l T S F Q (some false) = WpL C ops l (putT T dst (.tup [])) S F Q) ∧
 (∀ {C : Cfg} {T : List V} {S : Store} {F : Dfs} {Q : Post} {a b : Code}, WpB C (.d (.bool true)) a b T S F Q = Wp C a T S F Q) ∧
 (∀ {C : Cfg} {T : List V} {S : Store} {F : Dfs} {Q : Post} {a b : Code}, WpB C (.d (.bool false)) a b T S F Q = Wp C b T S F Q) ∧
 (∀ {P : Program} {S : Store} {t tx : TypeId} {s x : V}, zI P S .append [t, tx] [s, x] = (qE P S t tx s x).map fun r => .val r.1 r.2.1 r.2.2) ∧
 (∀ {P : Program} {S : Store} {t tx : TypeId} {s x : V}, zI P S .copy [t, tx] [s, x] = (copyV P S t tx s x).map fun r => .val r.1 r.2 3) ∧
 (∀ {P : Program} {S : Store} {T : List V} {t : TypeId} {x : Operand} {dst : Option Tmp} {ty : TypeId} {pos : String} {after : Array Edge} {g : Option (Nat × Bool)}, opV P S T ⟨dst, .buildSlice t 1 #[(0, x)], ty, pos, after, g⟩ = bs1 P S t (zB T x)) ∧
 (∀ {α β : Type} {a : α} {f : α → β}, (some a).map f = some (f a)) ∧
 (∀ {α β : Type} {f : α → β} {a : α} {l : List α}, (a :: l).map f = f a :: l.map f) ∧
 (∀ {α β : Type} {f : α → β}, ([] : List α).map f = []) ∧
 (∀ {f : V → Bool} {a : V} {l : List V}, (a :: l).all f = (f a && l.all f)) ∧
 (∀ {b : Bool}, (b && true) = b) ∧
 (∀ {b : Bool}, (true && b) = b) ∧
 (∀ {α : Type} {a b : α}, (if True then a else b) = a) ∧
 (∀ {α : Type} {a b : α}, (if true = true then a else b) = a) ∧
 (∀ {α : Type} {l : List α}, [] ++ l = l) ∧
 (∀ {α : Type} {l : List α}, l ++ [] = l) ∧
 ((!true) = false) ∧
 ((!false) = true) ∧
 (∀ {f : V → Bool}, ([] : List V).all f = true) :=
 ⟨zyq, zs5, zmq, zon, zw3, zrm, zmr, zsc, zr7, zo8, zo7, ziq, zmb, zk5, zkd, binI, binS, zyr, zvg, zvn, zqi, zsa, zud, zvu, zul, zy2, kJ, zz9, zv9, zx9, zqw, zth, zv8, zq9, ztj, zn8, zsw, zmx, zjs, zsd, zvy, rfl, rfl, rfl, zz1, (by simp), rfl, (by simp), (by simp), rfl, (by simp), rfl, rfl, zzy⟩
section
variable {C : Cfg} {P : Program} {T : List V} {S : Store} {F : Dfs} {o : Out}
def RetQ (P : Program) (rs : Array ResultVar) (o : Out) : Post := fun x T S F => (x = .norm ∨ x = .ret) ∧ F = [] ∧ ∃ v, qC P rs T S = some v ∧ z7j S (.ret v) = some o
theorem jW {f : FuncId} {c : Code} {n : Nat} {rs : Array ResultVar} {ds : List D} (hx : C.ext f = none) (hc : C.catch_ f = none) (hb : zA C.P f = some ⟨c, n, rs⟩)
  (h : Wp C c (vT n (ds.map .d)) [] [] (post C [] (RetQ C.P rs o))) : Ev C f ds o := zni hx hc hb h
theorem zO {t : Tmp} {v : V} {d : D} (hv : T.getD t (.tup []) = v) (h1 : v.one = true) (h : frz S zH v = some d) : RetQ P #[.tmp t] (.ret (.d d)) .ret T S [] := by
 refine ⟨.inr rfl, rfl, v, ?_, ?_⟩
 ·show jS P T S (.tmp t) = some v
  simp only [jS, hv]
 ·cases v <;> first | (simp [V.one] at h1; done) | (simp only [z7j, h, Option.map_some])
theorem wK {a t : Nat} {v u : V} {d : D} (ha : T.getD a (.tup []) = u) (hv : kC P S t u = some v) (h1 : v.one = true) (h : frz S zH v = some d) : RetQ P #[.cell a t] (.ret (.d d)) .ret T S [] := by
 refine ⟨.inr rfl, rfl, v, ?_, ?_⟩
 ·show jS P T S (.cell a t) = some v
  simp only [jS, ha, hv]
 ·cases v <;> first | (simp [V.one] at h1; done) | (simp only [z7j, h, Option.map_some])
theorem z4v {r1 r2 : ResultVar} {l : List ResultVar} {vs : List V} {ds : List D} (hv : allO (jS P T S) (r1 :: r2 :: l) = some vs) (h1 : vs.all V.one = true) (h : allO (frz S zH) vs = some ds) : RetQ P (r1 :: r2 :: l).toArray (.ret (.tup (ds.map .d))) .ret T S [] := by
 refine ⟨.inr rfl, rfl, .tup vs, ?_, ?_⟩
 ·simp only [qC, hv, h1, if_true]
 ·simp only [z7j, h, Option.map_some]
theorem zbd {t u : Tmp} {v w : V} {d e : D} (hv : T.getD t (.tup []) = v) (hw : T.getD u (.tup []) = w) (h1 : v.one = true) (h2 : w.one = true) (h3 : frz S zH v = some d) (h4 : frz S zH w = some e) : RetQ P #[.tmp t, .tmp u] (.ret (.tup [.d d, .d e])) .ret T S [] :=
 z4v (r1 := .tmp t) (r2 := .tmp u) (l := []) (vs := [v, w]) (ds := [d, e]) (by simp only [allO, jS, hv, hw]) (by simp [h1, h2]) (by simp only [allO, h3, h4])
theorem qF {e : TypeId} {v : V} {xs : List V} (h : OwnS S v e xs) : v.one = true := by
 rcases h with ⟨rfl, _⟩ | ⟨id, rfl, _⟩ <;> rfl
theorem zok {α : Type} {enc : α → D} {e : TypeId} {v : V} {xs : List α} (h : OwnS S v e (xs.map fun x => .d (enc x))) : frz S zH v = some (.sl (xs.map enc)) := zk2 (by simpa [List.map_map, Function.comp_def] using h)
def lpOf : Code → Nat → Code
 | .block i (.loop b), id => if i = id then b else lpOf b id
 | .block _ b, id => lpOf b id
 | .seq a b, id => match lpOf a id with | .skip => lpOf b id | c => c
 | .cond _ a b, id => match lpOf a id with | .skip => lpOf b id | c => c
 | .loop b, id => lpOf b id
 | .scope b, id => lpOf b id
 | _, _ => .skip
theorem zbi {e : TypeId} {k n : Nat} (hb : bytesOf P e = k) (hk : k ≤ 100000000) (h : n ≤ 1000000) : room P e n = true := by
 unfold room
 have : n * k ≤ 1000000 * 100000000 := Nat.mul_le_mul h hk
 rw [hb]; simp; omega
theorem zhe {α : Type} {enc : α → D} {t e : TypeId} {v : V} {xs : List α} (a : α) (hu : P.underlying t = some (.slice e)) (hz : zOk P e = true) (hs : (sz P e).isSome = true) (hf : z0j P e (enc a) = true) (ho : OwnS S v e (xs.map fun x => .d (enc x))) (hr : room P e (xs.length + 1) = true) :
  ∃ v' S' c, qE P S t t v (.ts [enc a]) = some (v', S', c) ∧ OwnS S' v' e ((xs ++ [a]).map fun x => .d (enc x)) ∧ (∀ j o, S[j]? = some o → NotAt v j → S'[j]? = some o ∧ NotAt v' j) ∧ S.length ≤ S'.length := by
 obtain ⟨v', S', c, h1, h2, h3, h4⟩ := zgs hu hz hs ho hf (by simpa using hr)
 exact ⟨v', S', c, h1, by simpa using h2, h3, h4⟩
theorem zj8 {α : Type} {enc : α → D} {t e : TypeId} {l : List α} {i : Nat} (hu : P.underlying t = some (.slice e)) (hf : ∀ a, z0j P e (enc a) = true) (h : i < l.length) : zE P S t (.d (.sl (l.map enc))) (.d (.int .i64 i)) = some (.d (.ptr (enc l[i]))) := zy5 hu (by simp [h]) (hf _)
end
def rowE (S : Store) (id ix : Nat) : Option V := match S[id]? with | some (.row xs _) => xs[ix]? | _ => none
def qL (P : Program) (t : TypeId) (off : Nat) : Option V → Option V
 | some x => if off = 0 && zZ P t x then some x else z7k P t x.cells off
 | none => none
def qI (P : Program) (t : TypeId) (off : Nat) (v x : V) : Option V :=
 if zZ P t v then
  if off = 0 && (x.cells.length == v.cells.length) && (x.isAgg == v.isAgg) then some v
  else if off + v.cells.length ≤ x.cells.length && x.isAgg then some (.agg (x.cells.take off ++ v.cells ++ x.cells.drop (off + v.cells.length)))
  else none
 else none
def jF (S : Store) (id ix : Nat) (y : V) : Option Store := match S[id]? with | some (.row xs e) => some (S.set id (.row (xs.set ix y) e)) | _ => none
def z6a (S : Store) (id ix : Nat) : Option V → Option Store | some y => jF S id ix y | none => none
section
variable {C : Cfg} {P : Program} {S : Store} {id ix off : Nat}
theorem zM {t : TypeId} {x : V} (h : rowE S id ix = some x) : kC P S t (.ref id ix off) = qL P t off (some x) := by
 unfold rowE at h
 split at h
 ·rename_i xs e ho
  simp only [kC, ho, h, qL]
 ·cases h
theorem z60 {t : TypeId} {v x : V} (h : rowE S id ix = some x) : z02 P S t (.ref id ix off) v = z6a S id ix (qI P t off v x) := by
 unfold rowE at h
 split at h
 ·rename_i xs e ho
  simp only [z02, ho, h, qI]
  split
  ·split
   ·simp only [z6a, jF, ho]
   ·split
    ·simp only [z6a, jF, ho]
    ·rfl
  ·rfl
 ·cases h
theorem zmi {o : Ob} {S : Store} {i : Nat} : rowE (o :: S) (i + 1) ix = rowE S i ix := by
 unfold rowE
 rw [List.getElem?_cons_succ]
theorem zf0 {o : Ob} {S : Store} {i : Nat} {y : V} : jF (o :: S) (i + 1) ix y = (jF S i ix y).map fun S' => o :: S' := by
 unfold jF
 rw [List.getElem?_cons_succ]
 cases S[i]? with
 | none => rfl
 | some o => cases o <;> rfl
theorem zK {x : V} {e : TypeId} (h : S[id]? = some (.row [x] e)) : rowE S id 0 = some x := by
 unfold rowE; rw [h]; rfl
end
section
variable {C : Cfg} {ops : Array Oper} {dst : Option Tmp} {ty : TypeId} {pos : String} {after : Array Edge} {l : List Oper} {T : List V} {S : Store} {F : Dfs} {Q : Post}
theorem zki {e : TypeId} : WpL C ops (⟨dst, .alloc e, ty, pos, after, none⟩ :: l) T S F Q = match zeroV C.P e with | some z => (if zZ C.P e z = true then WpL C ops l (putT T dst (.ref S.length 0 0)) (S ++ [.row [z] e]) F Q else False) | none => False := by
 rw [vG rfl]
 simp only [opV]
 cases zeroV C.P e with
 | none => rfl
 | some z =>
  simp only
  split <;> rfl
theorem zsv {e : TypeId} {x : Operand} : WpL C ops (⟨dst, .box e x, ty, pos, after, none⟩ :: l) T S F Q = if zZ C.P e (zB T x) = true then WpL C ops l (putT T dst (.ref S.length 0 0)) (S ++ [.row [zB T x] e]) F Q else False := by
 rw [vG rfl]
 simp only [opV]
 split <;> rfl
end
def zs0 (P : Program) (S : Store) (t : TypeId) (id ix off : Nat) : Option V → Option V | some x => qL P t off (some x) | none => kC P S t (.ref id ix off)
def zj3 (P : Program) (S : Store) (t : TypeId) (id ix off : Nat) (v : V) : Option V → Option Store | some x => z6a S id ix (qI P t off v x) | none => z02 P S t (.ref id ix off) v
theorem zog {P : Program} {S : Store} {t : TypeId} {id ix off : Nat} : kC P S t (.ref id ix off) = zs0 P S t id ix off (rowE S id ix) := by
 cases h : rowE S id ix with
 | none => rfl
 | some x => exact zM h
theorem zj1 {P : Program} {S : Store} {t : TypeId} {id ix off : Nat} {v : V} : z02 P S t (.ref id ix off) v = zj3 P S t id ix off v (rowE S id ix) := by
 cases h : rowE S id ix with
 | none => rfl
 | some x => exact z60 h
theorem vmb :
 (∀ {x : V} {r : List V} {e : TypeId} {S : Store}, rowE (.row (x :: r) e :: S) 0 0 = some x) ∧
 (∀ {o : Ob} {S : Store} {i ix : Nat}, rowE (o :: S) (i + 1) ix = rowE S i ix) ∧
 (∀ {x y : V} {r : List V} {e : TypeId} {S : Store}, jF (.row (x :: r) e :: S) 0 0 y = some (.row (y :: r) e :: S)) ∧
 (∀ {o : Ob} {S : Store} {i ix : Nat} {y : V}, jF (o :: S) (i + 1) ix y = (jF S i ix y).map fun S' => o :: S') ∧
 (∀ {S : Store} {id ix : Nat} {y : V}, z6a S id ix (some y) = jF S id ix y) ∧
 (∀ {C : Cfg} {ops : Array Oper} {dst : Option Tmp} {ty : TypeId} {pos : String} {after : Array Edge} {l : List Oper} {T : List V} {S : Store} {F : Dfs} {Q : Post} {e : TypeId}, WpL C ops (⟨dst, .alloc e, ty, pos, after, none⟩ :: l) T S F Q = match zeroV C.P e with | some z => (if zZ C.P e z = true then WpL C ops l (putT T dst (.ref S.length 0 0)) (S ++ [.row [z] e]) F Q else False) | none => False) ∧
 (∀ {C : Cfg} {ops : Array Oper} {dst : Option Tmp} {ty : TypeId} {pos : String} {after : Array Edge} {l : List Oper} {T : List V} {S : Store} {F : Dfs} {Q : Post} {e : TypeId} {x : Operand}, WpL C ops (⟨dst, .box e x, ty, pos, after, none⟩ :: l) T S F Q = if zZ C.P e (zB T x) = true then WpL C ops l (putT T dst (.ref S.length 0 0)) (S ++ [.row [zB T x] e]) F Q else False) ∧
 (∀ {P : Program} {S : Store} {t : TypeId} {id ix off : Nat}, kC P S t (.ref id ix off) = zs0 P S t id ix off (rowE S id ix)) ∧
 (∀ {P : Program} {S : Store} {t : TypeId} {id ix off : Nat} {v : V}, z02 P S t (.ref id ix off) v = zj3 P S t id ix off v (rowE S id ix)) ∧
 (∀ {P : Program} {S : Store} {t : TypeId} {id ix off : Nat} {x : V}, zs0 P S t id ix off (some x) = qL P t off (some x)) ∧
 (∀ {P : Program} {S : Store} {t : TypeId} {id ix off : Nat} {v x : V}, zj3 P S t id ix off v (some x) = z6a S id ix (qI P t off v x)) ∧
 (∀ {α : Type}, ([] : List α).length = 0) ∧
 (∀ {α : Type} {a : α} {l : List α}, (a :: l).length = l.length + 1) :=
 ⟨rfl, zmi, rfl, zf0, rfl, zki, zsv, zog, zj1, rfl, rfl, rfl, rfl⟩
theorem zwd {a b : List UInt8} : z4s .eql a b = some (.bool (decide (a = b))) := by
 have : (a == b) = decide (a = b) := by rw [Bool.eq_iff_iff]; simp
 simp only [z4s, this]
theorem zua {a b : List UInt8} : z4s .neq a b = some (.bool (decide (a ≠ b))) := by
 have : (!(a == b)) = decide (a ≠ b) := by rw [Bool.eq_iff_iff]; simp
 simp only [z4s, this]
theorem vmo :
 (∀ {P : Program} {S : Store} {T : List V} {dst : Option Tmp} {ty : TypeId} {pos : String} {after : Array Edge} {g : Option (Nat × Bool)} {x : Operand}, opV P S T ⟨dst, .move x, ty, pos, after, g⟩ = some (.val (zB T x) S 0)) ∧
 (∀ {P : Program} {S : Store} {T : List V} {dst : Option Tmp} {ty : TypeId} {pos : String} {after : Array Edge} {g : Option (Nat × Bool)} {x : Operand}, opV P S T ⟨dst, .assign x, ty, pos, after, g⟩ = some (.val (zB T x) S 0)) ∧
 (∀ {P : Program} {S : Store} {T : List V} {dst : Option Tmp} {ty : TypeId} {pos : String} {after : Array Edge} {g : Option (Nat × Bool)} {op : BinOp} {t u : TypeId} {x y : Operand}, opV P S T ⟨dst, .binOp op t x y u, ty, pos, after, g⟩ = (binV P op t (zB T x) (zB T y)).map fun v => .val v S 0) ∧
 (∀ {P : Program} {S : Store} {T : List V} {dst : Option Tmp} {ty : TypeId} {pos : String} {after : Array Edge} {g : Option (Nat × Bool)} {op : UnOp} {t : TypeId} {x : Operand}, opV P S T ⟨dst, .unOp op t x, ty, pos, after, g⟩ = (unV op (zB T x)).map fun v => .val v S 0) ∧
 (∀ {P : Program} {S : Store} {T : List V} {dst : Option Tmp} {ty : TypeId} {pos : String} {after : Array Edge} {g : Option (Nat × Bool)} {t : TypeId} {x y : Operand}, opV P S T ⟨dst, .indexAddr t x y, ty, pos, after, g⟩ = (zE P S t (zB T x) (zB T y)).map fun v => .val v S 1) ∧
 (∀ {P : Program} {S : Store} {T : List V} {dst : Option Tmp} {ty : TypeId} {pos : String} {after : Array Edge} {g : Option (Nat × Bool)} {t : TypeId} {x y : Operand}, opV P S T ⟨dst, .index t x y, ty, pos, after, g⟩ = (z2g P t (zB T x) (zB T y)).map fun v => .val v S 0) ∧
 (∀ {P : Program} {S : Store} {T : List V} {dst : Option Tmp} {ty : TypeId} {pos : String} {after : Array Edge} {g : Option (Nat × Bool)} {t : TypeId} {x : Operand} {f : Nat}, opV P S T ⟨dst, .fieldAddr t x f, ty, pos, after, g⟩ = (zF P t f (zB T x)).map fun v => .val v S 0) ∧
 (∀ {P : Program} {S : Store} {T : List V} {dst : Option Tmp} {ty : TypeId} {pos : String} {after : Array Edge} {g : Option (Nat × Bool)} {t : TypeId} {x : Operand} {f : Nat}, opV P S T ⟨dst, .field t x f, ty, pos, after, g⟩ = (za1 P t f (zB T x)).map fun v => .val v S 0) ∧
 (∀ {P : Program} {S : Store} {T : List V} {dst : Option Tmp} {ty : TypeId} {pos : String} {after : Array Edge} {g : Option (Nat × Bool)} {t : TypeId} {x : Operand}, opV P S T ⟨dst, .load t x, ty, pos, after, g⟩ = (kC P S t (zB T x)).map fun v => .val v S 1) ∧
 (∀ {P : Program} {S : Store} {T : List V} {dst : Option Tmp} {ty : TypeId} {pos : String} {after : Array Edge} {g : Option (Nat × Bool)} {t : TypeId} {x y : Operand}, opV P S T ⟨dst, .store t x y, ty, pos, after, g⟩ = (z02 P S t (zB T x) (zB T y)).map fun S' => .skip S' 3) ∧
 (∀ {P : Program} {S : Store} {T : List V} {dst : Option Tmp} {ty : TypeId} {pos : String} {after : Array Edge} {g : Option (Nat × Bool)} {t u : TypeId} {x : Operand}, opV P S T ⟨dst, .convert t u x, ty, pos, after, g⟩ = (qD P S t u (zB T x)).map fun r => .val r.1 S r.2) ∧
 (∀ {P : Program} {S : Store} {T : List V} {dst : Option Tmp} {ty : TypeId} {pos : String} {after : Array Edge} {g : Option (Nat × Bool)} {t : TypeId} {x : Operand} {lo hi : Option Operand}, opV P S T ⟨dst, .slice t x lo hi none, ty, pos, after, g⟩ = (wD P S t (zB T x) (lo.map (zB T)) (hi.map (zB T))).map fun v => .val v S 1) ∧
 (∀ {P : Program} {S : Store} {T : List V} {dst : Option Tmp} {ty : TypeId} {pos : String} {after : Array Edge} {g : Option (Nat × Bool)} {t : TypeId} {x k : Operand} {ok : Bool}, opV P S T ⟨dst, .lookup t x k ok, ty, pos, after, g⟩ = (wA P S t (zB T x) (zB T k) ok).map fun v => .val v S 1) ∧
 (∀ {P : Program} {S : Store} {T : List V} {dst : Option Tmp} {ty : TypeId} {pos : String} {after : Array Edge} {g : Option (Nat × Bool)} {b : Builtin} {args : Array Operand} {ts : Array TypeId}, opV P S T ⟨dst, .call { callee := .builtin b, args := args, argTypes := ts }, ty, pos, after, g⟩ = zI P S b ts.toList (args.toList.map (zB T))) ∧
 (∀ {P : Program} {S : Store} {T : List V} {dst : Option Tmp} {ty : TypeId} {pos : String} {after : Array Edge} {g : Option (Nat × Bool)} {t : TypeId} {ps : Array (Nat × Operand)}, opV P S T ⟨dst, .build t ps, ty, pos, after, g⟩ = (wP P t (ps.toList.map fun p => (p.1, zB T p.2))).map fun v => .val v S 0) ∧
 (∀ {P : Program} {S : Store} {T : List V} {dst : Option Tmp} {ty : TypeId} {pos : String} {after : Array Edge} {g : Option (Nat × Bool)} {x : Operand} {i : Nat}, opV P S T ⟨dst, .extract x i, ty, pos, after, g⟩ = match zB T x with | .tup vs => (match vs[i]? with | some v => some (.val v S 0) | none => none) | _ => none) ∧
 (∀ {P : Program} {S : Store} {T : List V} {dst : Option Tmp} {ty : TypeId} {pos : String} {after : Array Edge} {g : Option (Nat × Bool)} {c a b : Operand}, opV P S T ⟨dst, .pick c a b, ty, pos, after, g⟩ = match zB T c with | .d (.bool true) => some (.val (zB T a) S 0) | .d (.bool false) => some (.val (zB T b) S 0) | _ => none) ∧
 (∀ {P : Program} {S : Store} {T : List V} {dst : Option Tmp} {ty : TypeId} {pos : String} {after : Array Edge} {g : Option (Nat × Bool)} {h : FuncId} {args : Array Operand} {ts : Array TypeId}, opV P S T ⟨dst, .call { callee := .value (.func h), args := args, argTypes := ts }, ty, pos, after, g⟩ = if (args.toList.map (zB T)).all V.one && (zA P h).isSome then some (.enter h ([] ++ args.toList.map (zB T) ++ [])) else none) :=
 ⟨rfl, rfl, rfl, rfl, rfl, rfl, rfl, rfl, rfl, rfl, rfl, rfl, rfl, rfl, rfl, rfl, rfl, rfl⟩
def ztc (ops : Array Oper) (T : List V) : Option (Nat × Bool) → Option Bool
 | none => some true
 | some (j, want) => (qO ops T j).map (· == some want)
def zpu (T : List V) : Option Tmp → Option (Option Bool)
 | none => some none
 | some d => match T[d]? with
  | none => some none
  | some (.d (.bool b)) => some (some b)
  | some (.tup _) => some none
  | some _ => none
theorem vmg :
 (∀ {ops : Array Oper} {T : List V} {dst : Option Tmp} {op : Op} {ty : TypeId} {pos : String} {after : Array Edge} {g : Option (Nat × Bool)}, qB ops T ⟨dst, op, ty, pos, after, g⟩ = ztc ops T g) ∧
 (∀ {ops : Array Oper} {T : List V}, ztc ops T none = some true) ∧
 (∀ {ops : Array Oper} {T : List V} {j : Nat} {b : Bool}, ztc ops T (some (j, b)) = (qO ops T j).map (· == some b)) ∧
 (∀ {ops : Array Oper} {T : List V} {j : Nat}, qO ops T j = zpu T ((ops[j]?).bind (·.dst))) ∧
 (∀ {T : List V} {d : Tmp}, zpu T (some d) = match T[d]? with | none => some none | some (.d (.bool b)) => some (some b) | some (.tup _) => some none | some _ => none) ∧
 (∀ {a : V} {l : List V}, (a :: l)[0]? = some a) ∧
 (∀ {a : V} {l : List V} {n : Nat}, (a :: l)[n + 1]? = l[n]?) ∧
 (∀ {a : Oper} {l : List Oper}, ((a :: l).toArray)[0]? = some a) ∧
 (∀ {a : Oper} {l : List Oper} {n : Nat}, ((a :: l).toArray)[n + 1]? = (l.toArray)[n]?) ∧
 (∀ {α β : Type} {a : α} {f : α → Option β}, (some a).bind f = f a) ∧
 (∀ {b : Bool}, (some b == some true) = b) ∧
 (∀ {b : Bool}, (some b == some false) = !b) ∧
 (((none : Option Bool) == some true) = false) ∧
 (((none : Option Bool) == some false) = false) :=
 ⟨rfl, rfl, rfl, rfl, rfl, rfl, rfl, by simp, by simp, rfl, by intro b; cases b <;> rfl, by intro b; cases b <;> rfl, rfl, rfl⟩
theorem vmk :
 (∀ {dst : Option Tmp} {ty : TypeId} {pos : String} {after : Array Edge} {g : Option (Nat × Bool)} {x : Operand}, jK ⟨dst, .move x, ty, pos, after, g⟩ = false) ∧
 (∀ {dst : Option Tmp} {ty : TypeId} {pos : String} {after : Array Edge} {g : Option (Nat × Bool)} {x : Operand}, jK ⟨dst, .assign x, ty, pos, after, g⟩ = false) ∧
 (∀ {dst : Option Tmp} {ty : TypeId} {pos : String} {after : Array Edge} {g : Option (Nat × Bool)} {op : BinOp} {t u : TypeId} {x y : Operand}, jK ⟨dst, .binOp op t x y u, ty, pos, after, g⟩ = false) ∧
 (∀ {dst : Option Tmp} {ty : TypeId} {pos : String} {after : Array Edge} {g : Option (Nat × Bool)} {op : UnOp} {t : TypeId} {x : Operand}, jK ⟨dst, .unOp op t x, ty, pos, after, g⟩ = false) ∧
 (∀ {dst : Option Tmp} {ty : TypeId} {pos : String} {after : Array Edge} {g : Option (Nat × Bool)} {t : TypeId} {x y : Operand}, jK ⟨dst, .indexAddr t x y, ty, pos, after, g⟩ = false) ∧
 (∀ {dst : Option Tmp} {ty : TypeId} {pos : String} {after : Array Edge} {g : Option (Nat × Bool)} {t : TypeId} {x y : Operand}, jK ⟨dst, .index t x y, ty, pos, after, g⟩ = false) ∧
 (∀ {dst : Option Tmp} {ty : TypeId} {pos : String} {after : Array Edge} {g : Option (Nat × Bool)} {t : TypeId} {x : Operand} {f : Nat}, jK ⟨dst, .fieldAddr t x f, ty, pos, after, g⟩ = false) ∧
 (∀ {dst : Option Tmp} {ty : TypeId} {pos : String} {after : Array Edge} {g : Option (Nat × Bool)} {t : TypeId} {x : Operand} {f : Nat}, jK ⟨dst, .field t x f, ty, pos, after, g⟩ = false) ∧
 (∀ {dst : Option Tmp} {ty : TypeId} {pos : String} {after : Array Edge} {g : Option (Nat × Bool)} {t : TypeId} {x : Operand}, jK ⟨dst, .load t x, ty, pos, after, g⟩ = false) ∧
 (∀ {dst : Option Tmp} {ty : TypeId} {pos : String} {after : Array Edge} {g : Option (Nat × Bool)} {t : TypeId} {x y : Operand}, jK ⟨dst, .store t x y, ty, pos, after, g⟩ = false) ∧
 (∀ {dst : Option Tmp} {ty : TypeId} {pos : String} {after : Array Edge} {g : Option (Nat × Bool)} {t u : TypeId} {x : Operand}, jK ⟨dst, .convert t u x, ty, pos, after, g⟩ = false) ∧
 (∀ {dst : Option Tmp} {ty : TypeId} {pos : String} {after : Array Edge} {g : Option (Nat × Bool)} {t : TypeId} {x : Operand} {lo hi m : Option Operand}, jK ⟨dst, .slice t x lo hi m, ty, pos, after, g⟩ = false) ∧
 (∀ {dst : Option Tmp} {ty : TypeId} {pos : String} {after : Array Edge} {g : Option (Nat × Bool)} {t : TypeId} {x k : Operand} {ok : Bool}, jK ⟨dst, .lookup t x k ok, ty, pos, after, g⟩ = false) ∧
 (∀ {dst : Option Tmp} {ty : TypeId} {pos : String} {after : Array Edge} {g : Option (Nat × Bool)} {c : Call}, jK ⟨dst, .call c, ty, pos, after, g⟩ = false) ∧
 (∀ {dst : Option Tmp} {ty : TypeId} {pos : String} {after : Array Edge} {g : Option (Nat × Bool)} {t : TypeId} {ps : Array (Nat × Operand)}, jK ⟨dst, .build t ps, ty, pos, after, g⟩ = false) ∧
 (∀ {dst : Option Tmp} {ty : TypeId} {pos : String} {after : Array Edge} {g : Option (Nat × Bool)} {t : TypeId} {n : Nat} {ps : Array (Nat × Operand)}, jK ⟨dst, .buildSlice t n ps, ty, pos, after, g⟩ = false) ∧
 (∀ {dst : Option Tmp} {ty : TypeId} {pos : String} {after : Array Edge} {g : Option (Nat × Bool)} {x : Operand} {i : Nat}, jK ⟨dst, .extract x i, ty, pos, after, g⟩ = false) ∧
 (∀ {dst : Option Tmp} {ty : TypeId} {pos : String} {after : Array Edge} {g : Option (Nat × Bool)} {c a b : Operand}, jK ⟨dst, .pick c a b, ty, pos, after, g⟩ = false) ∧
 (∀ {dst : Option Tmp} {ty : TypeId} {pos : String} {after : Array Edge} {g : Option (Nat × Bool)} {x : Operand}, jK ⟨dst, .nilCheck x, ty, pos, after, g⟩ = false) ∧
 (∀ {dst : Option Tmp} {ty : TypeId} {pos : String} {after : Array Edge} {g : Option (Nat × Bool)} {t : TypeId} {m k v : Operand}, jK ⟨dst, .mapUpdate t m k v, ty, pos, after, g⟩ = false) ∧
 (∀ {dst : Option Tmp} {ty : TypeId} {pos : String} {after : Array Edge} {g : Option (Nat × Bool)} {e : TypeId}, jK ⟨dst, .alloc e, ty, pos, after, g⟩ = true) ∧
 (∀ {dst : Option Tmp} {ty : TypeId} {pos : String} {after : Array Edge} {g : Option (Nat × Bool)} {e : TypeId} {x : Operand}, jK ⟨dst, .box e x, ty, pos, after, g⟩ = true) :=
 ⟨rfl, rfl, rfl, rfl, rfl, rfl, rfl, rfl, rfl, rfl, rfl, rfl, rfl, rfl, rfl, rfl, rfl, rfl, rfl, rfl, rfl, rfl⟩
section
variable {C : Cfg} {ops : Array Oper} {base : Nat} {F : Dfs} {Q : Post}
def WpX (C : Cfg) (ops : Array Oper) (base : Nat) (F : Dfs) (Q : Post) (rd : List Nat) (cs : List (Nat × Nat)) (i : Nat) (is : List Nat) (T : List V) (S : Store) (o : Oper) : Bool → Prop
 | true => WpA base (fun cs T S => WpD C ops base F Q rd cs is T S) cs i o.dst T S (addO C.P T o)
 | false => WpE C ops F Q (fun rd cs T S => WpD C ops base F Q rd cs is T S) rd cs i o.dst T S (opV C.P S T o)
def WpO (C : Cfg) (ops : Array Oper) (base : Nat) (F : Dfs) (Q : Post) (rd : List Nat) (cs : List (Nat × Nat)) (i : Nat) (is : List Nat) (T : List V) (S : Store) (o : Oper) : Option Bool → Prop
 | none => False
 | some false => WpD C ops base F Q rd (cs ++ [(i, 0)]) is (putT T o.dst (.tup [])) S
 | some true => WpX C ops base F Q rd cs i is T S o (jK o)
def WpI (C : Cfg) (ops : Array Oper) (base : Nat) (F : Dfs) (Q : Post) (rd : List Nat) (cs : List (Nat × Nat)) (i : Nat) (is : List Nat) (T : List V) (S : Store) : Option Oper → Prop
 | none => False
 | some o => WpO C ops base F Q rd cs i is T S o (qB ops T o)
theorem zv7 {rd : List Nat} {cs : List (Nat × Nat)} {i : Nat} {is : List Nat} {T : List V} {S : Store} : WpD C ops base F Q rd cs (i :: is) T S = WpI C ops base F Q rd cs i is T S (ops[i]?) := by
 rw [zrp]
 unfold WpI WpO
 cases ops[i]? with
 | none => rfl
 | some o =>
  simp only
  cases qB ops T o with
  | none => rfl
  | some b =>
   cases b with
   | false => rfl
   | true => cases jK o <;> rfl
theorem vmd :
 (∀ {C : Cfg} {ops : Array Oper} {base : Nat} {F : Dfs} {Q : Post} {rd : List Nat} {cs : List (Nat × Nat)} {T : List V} {S : Store}, WpD C ops base F Q rd cs [] T S = (z2k ops cs = true ∧ Q .norm T S F)) ∧
 (∀ {C : Cfg} {ops : Array Oper} {base : Nat} {F : Dfs} {Q : Post} {rd : List Nat} {cs : List (Nat × Nat)} {i : Nat} {is : List Nat} {T : List V} {S : Store}, WpD C ops base F Q rd cs (i :: is) T S = WpI C ops base F Q rd cs i is T S (ops[i]?)) ∧
 (∀ {C : Cfg} {ops : Array Oper} {base : Nat} {F : Dfs} {Q : Post} {rd : List Nat} {cs : List (Nat × Nat)} {i : Nat} {is : List Nat} {T : List V} {S : Store} {o : Oper}, WpI C ops base F Q rd cs i is T S (some o) = WpO C ops base F Q rd cs i is T S o (qB ops T o)) ∧
 (∀ {C : Cfg} {ops : Array Oper} {base : Nat} {F : Dfs} {Q : Post} {rd : List Nat} {cs : List (Nat × Nat)} {i : Nat} {is : List Nat} {T : List V} {S : Store} {o : Oper}, WpO C ops base F Q rd cs i is T S o (some false) = WpD C ops base F Q rd (cs ++ [(i, 0)]) is (putT T o.dst (.tup [])) S) ∧
 (∀ {C : Cfg} {ops : Array Oper} {base : Nat} {F : Dfs} {Q : Post} {rd : List Nat} {cs : List (Nat × Nat)} {i : Nat} {is : List Nat} {T : List V} {S : Store} {o : Oper}, WpO C ops base F Q rd cs i is T S o (some true) = WpX C ops base F Q rd cs i is T S o (jK o)) ∧
 (∀ {C : Cfg} {ops : Array Oper} {base : Nat} {F : Dfs} {Q : Post} {rd : List Nat} {cs : List (Nat × Nat)} {i : Nat} {is : List Nat} {T : List V} {S : Store} {o : Oper}, WpX C ops base F Q rd cs i is T S o false = WpE C ops F Q (fun rd cs T S => WpD C ops base F Q rd cs is T S) rd cs i o.dst T S (opV C.P S T o)) ∧
 (∀ {C : Cfg} {ops : Array Oper} {base : Nat} {F : Dfs} {Q : Post} {rd : List Nat} {cs : List (Nat × Nat)} {i : Nat} {is : List Nat} {T : List V} {S : Store} {o : Oper}, WpX C ops base F Q rd cs i is T S o true = WpA base (fun cs T S => WpD C ops base F Q rd cs is T S) cs i o.dst T S (addO C.P T o)) ∧
 (∀ {C : Cfg} {ops : Array Oper} {F : Dfs} {Q : Post} {K : List Nat → List (Nat × Nat) → List V → Store → Prop} {rd : List Nat} {cs : List (Nat × Nat)} {i : Nat} {dst : Option Tmp} {T : List V} {S S' : Store} {v : V}, WpE C ops F Q K rd cs i dst T S (some (.val v S' 0)) = K rd (cs ++ [(i, 0)]) (putT T dst v) S') ∧
 (∀ {C : Cfg} {ops : Array Oper} {F : Dfs} {Q : Post} {K : List Nat → List (Nat × Nat) → List V → Store → Prop} {rd : List Nat} {cs : List (Nat × Nat)} {i : Nat} {dst : Option Tmp} {T : List V} {S S' : Store} {v : V}, WpE C ops F Q K rd cs i dst T S (some (.val v S' 1)) = K (i :: rd) (cs ++ [(i, 1)]) (putT T dst v) S') ∧
 (∀ {C : Cfg} {ops : Array Oper} {F : Dfs} {Q : Post} {K : List Nat → List (Nat × Nat) → List V → Store → Prop} {rd : List Nat} {cs : List (Nat × Nat)} {i : Nat} {dst : Option Tmp} {T : List V} {S S' : Store} {c : Nat}, WpE C ops F Q K rd cs i dst T S (some (.skip S' c)) = (z3j ops rd i 3 ∧ K rd (cs ++ [(i, 3)]) (putT T dst (.tup [])) S')) ∧
 (num2 0 = 0) ∧ (num2 1 = 1) ∧ (num2 2 = 3) ∧ (num2 3 = 3) ∧
 (∀ {α : Type} {l l' : List α} {a : α}, (a :: l) ++ l' = a :: (l ++ l')) :=
 ⟨rfl, zv7, rfl, rfl, rfl, rfl, rfl, by intros; simp [WpE, z3j, num2], by intros; simp [WpE, z3j, num2], rfl, rfl, rfl, rfl, rfl, rfl⟩
end
section
variable {C : Cfg} {S : Store}
theorem zgd {n : Nat} : ∀ l : List D, (l.map V.d).flatMap (frzIds S n) = []
 | [] => rfl
 | x :: r => by
  rw [List.map_cons, List.flatMap_cons, zgd r]
  cases n <;> rfl
def RowD (S : Store) (i : Nat) : Prop := ∃ (xs : List D) (e : TypeId), S[i]? = some (.row (xs.map .d) e)
theorem zzt {e : TypeId} {v : V} {ds : List D} {n : Nat} (h : OwnS S v e (ds.map .d)) : ∀ i ∈ frzIds S (n + 1) v, RowD S i := by
 rcases h with ⟨rfl, _⟩ | ⟨id, rfl, h1⟩
 ·intro i hi
  simp [frzIds] at hi
 ·intro i hi
  have e1 : frzIds S (n + 1) (.rs id 0 (ds.map V.d).length) = (match S[id]? with | some (.row xs e) => id :: xs.flatMap (frzIds S n) | _ => []) := rfl
  rw [e1, h1] at hi
  simp only [zgd, List.mem_singleton] at hi
  subst hi
  exact ⟨ds, e, h1⟩
theorem zaq {e : TypeId} {v : V} {ds : List D} {n : Nat} (ho : OwnS S v e (ds.map .d)) : frz S (n + 2) v = some (.sl ds) := by
 rcases ho with ⟨rfl, h⟩ | ⟨id, rfl, h1⟩
 ·have : ds = [] := by simpa using h
  subst this; rfl
 ·simp only [List.length_map]
  show (match S[id]? with
   | some (.row xs e) => if 0 + ds.length ≤ xs.length && (allO (frz S (n + 1)) xs).isSome then (allO (frz S (n + 1)) ((xs.drop 0).take ds.length)).map D.sl else none
   | some (.fz xs e) => if 0 + ds.length ≤ xs.length then some (D.sl ((xs.drop 0).take ds.length)) else none
   | _ => none) = _
  have h2 : ((ds.map V.d).drop 0).take ds.length = ds.map V.d := by rw [List.drop_zero, List.take_of_length_le (by simp)]
  simp only [h1, h2, zfi, List.length_map, Option.isSome_some, Bool.and_true, Option.map_some]
  simp
theorem wJ {ops : Array Oper} {dst : Option Tmp} {l : List Oper} {T : List V} {F : Dfs} {Q : Post} {f : FuncId} {args : List V} {ds : List D} {v : V} (hs : C.shared f = false) (hf : allO (frz S zH) args = some ds) (hi : (args.flatMap (frzIds S zH)).isEmpty = true) (he : Ev C f ds (.ret v)) :
  WpR C ops dst l T S F Q (some (.enter f args)) = WpL C ops l (putT T dst v) S F Q := by
 obtain ⟨n, hn⟩ := he
 have hn' : answer C (run C n) f ds = some (.ret v) := hn
 have hc : jM C (run C n) f args S = some (.ret v, S, 1) := by
  unfold jM
  simp only [hs, Bool.false_eq_true, if_false, hf, hn', hi, if_true]
 apply propext
 constructor
 ·rintro ⟨m, o, S', c, h1, h2⟩
  have := wV h1 hc
  simp only [Prod.mk.injEq] at this
  obtain ⟨rfl, rfl, rfl⟩ := this
  exact h2
 ·exact fun h => ⟨n, _, _, _, hc, h⟩
end
theorem qH {S : Store} {id : Nat} {x y : V} {e : TypeId} (h : S[id]? = some (.row [x] e)) : jF S id 0 y = some (S.set id (.row [y] e)) := by
 unfold jF; rw [h]; rfl
theorem zim {S : Store} {id : Nat} {o o' : Ob} (h : S[id]? = some o) : (S.set id o')[id]? = some o' := by
 have := zN h
 simp [this]
theorem zs4 {P : Program} {t : TypeId} {s : List UInt8} {i : Nat} (hu : P.underlying t = some .string) (h : i < s.length) : z2g P t (.d (.str s)) (.d (.int .i64 i)) = some (.d (.int .u8 s[i].toNat)) := by
 have h0 : (0 : Int) ≤ i := by omega
 simp only [z2g, intOf?, hu, h0, if_true, Int.toNat_natCast, List.getElem?_eq_getElem h]
end Go.Vm
end
section
namespace Go.Vm
open Go
theorem zna {n d : Nat} {i : Int} (h0 : 0 ≤ i) (h1 : i.toNat ≤ n) : jR n (some (.d (.int .i64 i))) d = some i.toNat := by
 have h2 : i ≤ n := by omega
 simp only [jR, intOf?, h0, h2, if_true, and_self]
theorem zb2 {n d : Nat} : jR n none d = some d := rfl
theorem zp3 {l : List UInt8} : zk1 ⟨l.toArray⟩ = l := rfl
section
variable {C : Cfg} {S : Store} {T : List V} {dst : Option Tmp} {ops : Array Oper} {F : Dfs} {Q : Post} {K : List Nat → List (Nat × Nat) → List V → Store → Prop} {rd : List Nat} {cs : List (Nat × Nat)} {i : Nat}
theorem z4m {f : FuncId} {args : List V} {ds : List D} {v : V} (hs : C.shared f = false) (hf : allO (frz S zH) args = some ds) (hi : (args.flatMap (frzIds S zH)).isEmpty = true) (he : Ev C f ds (.ret v)) :
  WpE C ops F Q K rd cs i dst T S (some (.enter f args)) = K (i :: rd) (cs ++ [(i, 1)]) (putT T dst v) S := by
 obtain ⟨n, hn⟩ := he
 have hn' : answer C (run C n) f ds = some (.ret v) := hn
 have hc : jM C (run C n) f args S = some (.ret v, S, 1) := by
  unfold jM
  simp only [hs, Bool.false_eq_true, if_false, hf, hn', hi, if_true]
 apply propext
 constructor
 ·rintro ⟨m, v', S', c, h1, h2, h3⟩
  have := wV h1 hc
  simp only [Prod.mk.injEq] at this
  obtain ⟨h4, rfl, rfl⟩ := this
  cases h4
  exact h3
 ·exact fun h => ⟨n, _, _, _, hc, fun h => absurd h (by decide), h⟩
theorem z4x {f : FuncId} {ds : List D} {v : V} (hs : C.shared f = false) (he : Ev C f ds (.ret v)) :
  WpE C ops F Q K rd cs i dst T S (some (.enter f (ds.map .d))) = K (i :: rd) (cs ++ [(i, 1)]) (putT T dst v) S := by
 have hfz : ∀ ds : List D, allO (frz S zH) (ds.map V.d) = some ds := by
  intro ds
  induction ds with
  | nil => rfl
  | cons x r ih => simp only [List.map_cons, allO, ih, zqy]
 have hid : ∀ ds : List D, ((ds.map V.d).flatMap (frzIds S zH)).isEmpty = true := by
  intro ds
  induction ds with
  | nil => rfl
  | cons x r ih => simp only [List.map_cons, List.flatMap_cons, zal, List.nil_append]; exact ih
 exact z4m hs (hfz ds) (hid ds) he
end
end Go.Vm
end
section
namespace Go.Vm
theorem vgd :
 (∀ {a x : V} {r : List V}, (a :: r).getD 0 x = a) ∧
 (∀ {a b x : V} {r : List V}, (a :: b :: r).getD 1 x = b) ∧
 (∀ {a b c x : V} {r : List V}, (a :: b :: c :: r).getD 2 x = c) ∧
 (∀ {a b c d x : V} {r : List V}, (a :: b :: c :: d :: r).getD 3 x = d) ∧
 (∀ {a b c d e x : V} {r : List V}, (a :: b :: c :: d :: e :: r).getD 4 x = e) ∧
 (∀ {a b c d e f x : V} {r : List V}, (a :: b :: c :: d :: e :: f :: r).getD 5 x = f) ∧
 (∀ {a b c d e f g x : V} {r : List V}, (a :: b :: c :: d :: e :: f :: g :: r).getD 6 x = g) ∧
 (∀ {a b c d e f g h x : V} {r : List V}, (a :: b :: c :: d :: e :: f :: g :: h :: r).getD 7 x = h) ∧
 (∀ {a b c d e f g h x : V} {r : List V} {n : Nat}, (a :: b :: c :: d :: e :: f :: g :: h :: r).getD (n + 8) x = r.getD n x) ∧
 (∀ {a b c d e f g h a1 b1 c1 d1 e1 f1 g1 h1 x : V} {r : List V} {n : Nat}, (a :: b :: c :: d :: e :: f :: g :: h :: a1 :: b1 :: c1 :: d1 :: e1 :: f1 :: g1 :: h1 :: r).getD (n + 16) x = r.getD n x) ∧
 (∀ {a b c d e f g h a1 b1 c1 d1 e1 f1 g1 h1 a2 b2 c2 d2 e2 f2 g2 h2 a3 b3 c3 d3 e3 f3 g3 h3 x : V} {r : List V} {n : Nat}, (a :: b :: c :: d :: e :: f :: g :: h :: a1 :: b1 :: c1 :: d1 :: e1 :: f1 :: g1 :: h1 :: a2 :: b2 :: c2 :: d2 :: e2 :: f2 :: g2 :: h2 :: a3 :: b3 :: c3 :: d3 :: e3 :: f3 :: g3 :: h3 :: r).getD (n + 32) x = r.getD n x) ∧
 (∀ {a b c d e f g h a1 b1 c1 d1 e1 f1 g1 h1 a2 b2 c2 d2 e2 f2 g2 h2 a3 b3 c3 d3 e3 f3 g3 h3 a4 b4 c4 d4 e4 f4 g4 h4 a5 b5 c5 d5 e5 f5 g5 h5 a6 b6 c6 d6 e6 f6 g6 h6 a7 b7 c7 d7 e7 f7 g7 h7 x : V} {r : List V} {n : Nat}, (a :: b :: c :: d :: e :: f :: g :: h :: a1 :: b1 :: c1 :: d1 :: e1 :: f1 :: g1 :: h1 :: a2 :: b2 :: c2 :: d2 :: e2 :: f2 :: g2 :: h2 :: a3 :: b3 :: c3 :: d3 :: e3 :: f3 :: g3 :: h3 :: a4 :: b4 :: c4 :: d4 :: e4 :: f4 :: g4 :: h4 :: a5 :: b5 :: c5 :: d5 :: e5 :: f5 :: g5 :: h5 :: a6 :: b6 :: c6 :: d6 :: e6 :: f6 :: g6 :: h6 :: a7 :: b7 :: c7 :: d7 :: e7 :: f7 :: g7 :: h7 :: r).getD (n + 64) x = r.getD n x) :=
 ⟨rfl, rfl, rfl, rfl, rfl, rfl, rfl, rfl, rfl, rfl, rfl, rfl⟩
theorem vst :
 (∀ {a x : V} {r : List V}, (a :: r).set 0 x = x :: r) ∧
 (∀ {a b x : V} {r : List V}, (a :: b :: r).set 1 x = a :: x :: r) ∧
 (∀ {a b c x : V} {r : List V}, (a :: b :: c :: r).set 2 x = a :: b :: x :: r) ∧
 (∀ {a b c d x : V} {r : List V}, (a :: b :: c :: d :: r).set 3 x = a :: b :: c :: x :: r) ∧
 (∀ {a b c d e x : V} {r : List V}, (a :: b :: c :: d :: e :: r).set 4 x = a :: b :: c :: d :: x :: r) ∧
 (∀ {a b c d e f x : V} {r : List V}, (a :: b :: c :: d :: e :: f :: r).set 5 x = a :: b :: c :: d :: e :: x :: r) ∧
 (∀ {a b c d e f g x : V} {r : List V}, (a :: b :: c :: d :: e :: f :: g :: r).set 6 x = a :: b :: c :: d :: e :: f :: x :: r) ∧
 (∀ {a b c d e f g h x : V} {r : List V}, (a :: b :: c :: d :: e :: f :: g :: h :: r).set 7 x = a :: b :: c :: d :: e :: f :: g :: x :: r) ∧
 (∀ {a b c d e f g h x : V} {r : List V} {n : Nat}, (a :: b :: c :: d :: e :: f :: g :: h :: r).set (n + 8) x = a :: b :: c :: d :: e :: f :: g :: h :: r.set n x) ∧
 (∀ {a b c d e f g h a1 b1 c1 d1 e1 f1 g1 h1 x : V} {r : List V} {n : Nat}, (a :: b :: c :: d :: e :: f :: g :: h :: a1 :: b1 :: c1 :: d1 :: e1 :: f1 :: g1 :: h1 :: r).set (n + 16) x = a :: b :: c :: d :: e :: f :: g :: h :: a1 :: b1 :: c1 :: d1 :: e1 :: f1 :: g1 :: h1 :: r.set n x) ∧
 (∀ {a b c d e f g h a1 b1 c1 d1 e1 f1 g1 h1 a2 b2 c2 d2 e2 f2 g2 h2 a3 b3 c3 d3 e3 f3 g3 h3 x : V} {r : List V} {n : Nat}, (a :: b :: c :: d :: e :: f :: g :: h :: a1 :: b1 :: c1 :: d1 :: e1 :: f1 :: g1 :: h1 :: a2 :: b2 :: c2 :: d2 :: e2 :: f2 :: g2 :: h2 :: a3 :: b3 :: c3 :: d3 :: e3 :: f3 :: g3 :: h3 :: r).set (n + 32) x = a :: b :: c :: d :: e :: f :: g :: h :: a1 :: b1 :: c1 :: d1 :: e1 :: f1 :: g1 :: h1 :: a2 :: b2 :: c2 :: d2 :: e2 :: f2 :: g2 :: h2 :: a3 :: b3 :: c3 :: d3 :: e3 :: f3 :: g3 :: h3 :: r.set n x) ∧
 (∀ {a b c d e f g h a1 b1 c1 d1 e1 f1 g1 h1 a2 b2 c2 d2 e2 f2 g2 h2 a3 b3 c3 d3 e3 f3 g3 h3 a4 b4 c4 d4 e4 f4 g4 h4 a5 b5 c5 d5 e5 f5 g5 h5 a6 b6 c6 d6 e6 f6 g6 h6 a7 b7 c7 d7 e7 f7 g7 h7 x : V} {r : List V} {n : Nat}, (a :: b :: c :: d :: e :: f :: g :: h :: a1 :: b1 :: c1 :: d1 :: e1 :: f1 :: g1 :: h1 :: a2 :: b2 :: c2 :: d2 :: e2 :: f2 :: g2 :: h2 :: a3 :: b3 :: c3 :: d3 :: e3 :: f3 :: g3 :: h3 :: a4 :: b4 :: c4 :: d4 :: e4 :: f4 :: g4 :: h4 :: a5 :: b5 :: c5 :: d5 :: e5 :: f5 :: g5 :: h5 :: a6 :: b6 :: c6 :: d6 :: e6 :: f6 :: g6 :: h6 :: a7 :: b7 :: c7 :: d7 :: e7 :: f7 :: g7 :: h7 :: r).set (n + 64) x = a :: b :: c :: d :: e :: f :: g :: h :: a1 :: b1 :: c1 :: d1 :: e1 :: f1 :: g1 :: h1 :: a2 :: b2 :: c2 :: d2 :: e2 :: f2 :: g2 :: h2 :: a3 :: b3 :: c3 :: d3 :: e3 :: f3 :: g3 :: h3 :: a4 :: b4 :: c4 :: d4 :: e4 :: f4 :: g4 :: h4 :: a5 :: b5 :: c5 :: d5 :: e5 :: f5 :: g5 :: h5 :: a6 :: b6 :: c6 :: d6 :: e6 :: f6 :: g6 :: h6 :: a7 :: b7 :: c7 :: d7 :: e7 :: f7 :: g7 :: h7 :: r.set n x) :=
 ⟨rfl, rfl, rfl, rfl, rfl, rfl, rfl, rfl, rfl, rfl, rfl, rfl⟩
theorem vix :
 (∀ {a : V} {r : List V}, (a :: r)[0]? = some a) ∧
 (∀ {a b : V} {r : List V}, (a :: b :: r)[1]? = some b) ∧
 (∀ {a b c : V} {r : List V}, (a :: b :: c :: r)[2]? = some c) ∧
 (∀ {a b c d : V} {r : List V}, (a :: b :: c :: d :: r)[3]? = some d) ∧
 (∀ {a b c d e : V} {r : List V}, (a :: b :: c :: d :: e :: r)[4]? = some e) ∧
 (∀ {a b c d e f : V} {r : List V}, (a :: b :: c :: d :: e :: f :: r)[5]? = some f) ∧
 (∀ {a b c d e f g : V} {r : List V}, (a :: b :: c :: d :: e :: f :: g :: r)[6]? = some g) ∧
 (∀ {a b c d e f g h : V} {r : List V}, (a :: b :: c :: d :: e :: f :: g :: h :: r)[7]? = some h) ∧
 (∀ {a b c d e f g h : V} {r : List V} {n : Nat}, (a :: b :: c :: d :: e :: f :: g :: h :: r)[n + 8]? = r[n]?) ∧
 (∀ {a b c d e f g h a1 b1 c1 d1 e1 f1 g1 h1 : V} {r : List V} {n : Nat}, (a :: b :: c :: d :: e :: f :: g :: h :: a1 :: b1 :: c1 :: d1 :: e1 :: f1 :: g1 :: h1 :: r)[n + 16]? = r[n]?) ∧
 (∀ {a b c d e f g h a1 b1 c1 d1 e1 f1 g1 h1 a2 b2 c2 d2 e2 f2 g2 h2 a3 b3 c3 d3 e3 f3 g3 h3 : V} {r : List V} {n : Nat}, (a :: b :: c :: d :: e :: f :: g :: h :: a1 :: b1 :: c1 :: d1 :: e1 :: f1 :: g1 :: h1 :: a2 :: b2 :: c2 :: d2 :: e2 :: f2 :: g2 :: h2 :: a3 :: b3 :: c3 :: d3 :: e3 :: f3 :: g3 :: h3 :: r)[n + 32]? = r[n]?) ∧
 (∀ {a b c d e f g h a1 b1 c1 d1 e1 f1 g1 h1 a2 b2 c2 d2 e2 f2 g2 h2 a3 b3 c3 d3 e3 f3 g3 h3 a4 b4 c4 d4 e4 f4 g4 h4 a5 b5 c5 d5 e5 f5 g5 h5 a6 b6 c6 d6 e6 f6 g6 h6 a7 b7 c7 d7 e7 f7 g7 h7 : V} {r : List V} {n : Nat}, (a :: b :: c :: d :: e :: f :: g :: h :: a1 :: b1 :: c1 :: d1 :: e1 :: f1 :: g1 :: h1 :: a2 :: b2 :: c2 :: d2 :: e2 :: f2 :: g2 :: h2 :: a3 :: b3 :: c3 :: d3 :: e3 :: f3 :: g3 :: h3 :: a4 :: b4 :: c4 :: d4 :: e4 :: f4 :: g4 :: h4 :: a5 :: b5 :: c5 :: d5 :: e5 :: f5 :: g5 :: h5 :: a6 :: b6 :: c6 :: d6 :: e6 :: f6 :: g6 :: h6 :: a7 :: b7 :: c7 :: d7 :: e7 :: f7 :: g7 :: h7 :: r)[n + 64]? = r[n]?) :=
 ⟨rfl, rfl, rfl, rfl, rfl, rfl, rfl, rfl, rfl, rfl, rfl, rfl⟩
end Go.Vm
end
section
namespace Go.Vm
open Go
theorem vso :
 (∀ {a : Ob} {l : Store}, (a :: l)[0]? = some a) ∧
 (∀ {a : Ob} {l : Store} {n : Nat}, (a :: l)[n + 1]? = l[n]?) ∧
 (∀ {a b : Ob} {l : Store}, (a :: l).set 0 b = b :: l) ∧
 (∀ {a b : Ob} {l : Store} {n : Nat}, (a :: l).set (n + 1) b = a :: l.set n b) ∧
 (∀ {n : Nat}, List.replicate (n + 1) Ob.hole = .hole :: List.replicate n .hole) ∧
 (List.replicate 0 Ob.hole = []) :=
 ⟨rfl, rfl, rfl, rfl, rfl, rfl⟩
def mkO (P : Program) (e : TypeId) (z : V) : V → V → Option (Ob × (Nat → V))
 | .d (.int .i64 l), .d (.int .i64 c) => if 0 ≤ l ∧ l ≤ c ∧ c ≤ 9223372036854775807 then if room P e c.toNat && zZ P e z then
     some (.row (List.replicate c.toNat z) e, fun id => .rs id 0 l.toNat) else none else none
 | _, _ => none
theorem zzl {P : Program} {e : TypeId} {z : V} {n : Int} (hr : room P e n.toNat = true) (hf : zZ P e z = true) (h0 : 0 ≤ n) (h1 : n ≤ 1000000) : mkO P e z (.d (.int .i64 n)) (.d (.int .i64 n)) = some (.row (List.replicate n.toNat z) e, fun id => .rs id 0 n.toNat) := by
 simp only [mkO]
 rw [if_pos ⟨h0, Int.le_refl _, by omega⟩, if_pos (by rw [hr, hf]; rfl)]
section
variable {C : Cfg} {S : Store} {T : List V} {dst : Option Tmp} {ops : Array Oper} {F : Dfs} {Q : Post} {K : List Nat → List (Nat × Nat) → List V → Store → Prop} {rd : List Nat} {cs : List (Nat × Nat)} {i : Nat}
theorem z8x {base : Nat} {K : List (Nat × Nat) → List V → Store → Prop} {ob : Ob} {f : Nat → V} : WpA base K cs i dst T S (some (ob, f)) = (S[base + i]? = some .hole ∧ K (cs ++ [(i, 2)]) (putT T dst (f (base + i))) (S.set (base + i) ob)) := rfl
theorem zu0 {ty : TypeId} {pos : String} {after : Array Edge} {g : Option (Nat × Bool)} {t : TypeId} {l c : Operand} : jK ⟨dst, .makeSlice t l c, ty, pos, after, g⟩ = true := rfl
theorem zqh {P : Program} {ty : TypeId} {pos : String} {after : Array Edge} {g : Option (Nat × Bool)} {t e : TypeId} {l c : Operand} {z : V} (hu : P.underlying t = some (.slice e)) (hz : zeroV P e = some z) : addO P T ⟨dst, .makeSlice t l c, ty, pos, after, g⟩ = mkO P e z (zB T l) (zB T c) := by
 simp only [addO, hu, hz]
 unfold mkO
 split
 ·rename_i heq; simp only [Option.some.injEq] at heq; obtain ⟨h1, h2, h3⟩ := And.intro ‹_› (And.intro ‹_› heq); subst h3; simp_all
 ·rename_i h; split
  ·exfalso; simp_all
  ·rfl
theorem znw {id : Nat} {xs : List D} {e : TypeId} (hr : S[id]? = some (.row (xs.map .d) e)) : mark S [id] S [id] = some (S.set id (.fz xs e)) := by
 have h3 : allO (frz S zH) (xs.map V.d) = some xs := zfi (n := 11) xs
 have h4 : (xs.map V.d).flatMap (frzIds S zH) = [] := zgd xs
 simp only [mark, hr, z3g, h3, Option.map_some, z91, h4, List.all_nil, if_true]
theorem zoz {n : Nat} {f : FuncId} {args : List V} {ds : List D} {v : V} {id : Nat} {xs : List D} {e : TypeId} (hs : C.shared f = false) (hf : allO (frz S zH) args = some ds) (hi : args.flatMap (frzIds S zH) = [id]) (hr : S[id]? = some (.row (xs.map .d) e)) (hp : z0p (.ret v) = false) (hn : answer C (run C n) f ds = some (.ret v)) : jM C (run C n) f args S = some (.ret v, S.set id (.fz xs e), 3) := by
 unfold jM
 simp only [hs, Bool.false_eq_true, if_false, hf, hn, hi, List.isEmpty_cons, hp, znw hr]
theorem zdr {f : FuncId} {args : List V} {ds : List D} {v : V} {id : Nat} {xs : List D} {e : TypeId} (hs : C.shared f = false) (hf : allO (frz S zH) args = some ds) (hi : args.flatMap (frzIds S zH) = [id]) (hr : S[id]? = some (.row (xs.map .d) e)) (hp : z0p (.ret v) = false) (he : Ev C f ds (.ret v)) :
  WpE C ops F Q K rd cs i dst T S (some (.enter f args)) = (z3j ops rd i 3 ∧ K rd (cs ++ [(i, 3)]) (putT T dst v) (S.set id (.fz xs e))) := by
 obtain ⟨n, hn⟩ := he
 have hc : jM C (run C n) f args S = some (.ret v, S.set id (.fz xs e), 3) := zoz hs hf hi hr hp hn
 apply propext
 constructor
 ·rintro ⟨m, v', S', c, h1, h2, h3⟩
  have := wV h1 hc
  simp only [Prod.mk.injEq] at this
  obtain ⟨h4, rfl, rfl⟩ := this
  cases h4
  exact ⟨h2, h3⟩
 ·exact fun h => ⟨n, _, _, _, hc, h.1, h.2⟩
end
section
variable {C : Cfg} {ops : Array Oper} {dst : Option Tmp} {ty : TypeId} {pos : String} {after : Array Edge} {l : List Oper} {T : List V} {S : Store} {F : Dfs} {Q : Post} {t : TypeId} {n : Nat} {ps : Array (Nat × Operand)} {d2 : Option Tmp} {ty2 : TypeId} {pos2 : String} {after2 : Array Edge} {g2 : Option (Nat × Bool)}
theorem zc7 {x : Operand} : WpL C ops (⟨dst, .buildSlice t n ps, ty, pos, after, none⟩ :: ⟨d2, .assign x, ty2, pos2, after2, g2⟩ :: l) T S F Q = WpR C ops dst (⟨d2, .assign x, ty2, pos2, after2, g2⟩ :: l) T S F Q (opV C.P S T ⟨dst, .buildSlice t n ps, ty, pos, after, none⟩) := z6j rfl
theorem zh0 {x : Operand} : WpL C ops (⟨dst, .buildSlice t n ps, ty, pos, after, none⟩ :: ⟨d2, .move x, ty2, pos2, after2, g2⟩ :: l) T S F Q = WpR C ops dst (⟨d2, .move x, ty2, pos2, after2, g2⟩ :: l) T S F Q (opV C.P S T ⟨dst, .buildSlice t n ps, ty, pos, after, none⟩) := z6j rfl
theorem z87 {s : TypeId} {x : Operand} {f : Nat} : WpL C ops (⟨dst, .buildSlice t n ps, ty, pos, after, none⟩ :: ⟨d2, .fieldAddr s x f, ty2, pos2, after2, g2⟩ :: l) T S F Q = WpR C ops dst (⟨d2, .fieldAddr s x f, ty2, pos2, after2, g2⟩ :: l) T S F Q (opV C.P S T ⟨dst, .buildSlice t n ps, ty, pos, after, none⟩) := z6j rfl
theorem zf5 {s : TypeId} {qs : Array (Nat × Operand)} : WpL C ops (⟨dst, .buildSlice t n ps, ty, pos, after, none⟩ :: ⟨d2, .build s qs, ty2, pos2, after2, g2⟩ :: l) T S F Q = WpR C ops dst (⟨d2, .build s qs, ty2, pos2, after2, g2⟩ :: l) T S F Q (opV C.P S T ⟨dst, .buildSlice t n ps, ty, pos, after, none⟩) := z6j rfl
theorem znt {s : TypeId} {m : Nat} {qs : Array (Nat × Operand)} : WpL C ops (⟨dst, .buildSlice t n ps, ty, pos, after, none⟩ :: ⟨d2, .buildSlice s m qs, ty2, pos2, after2, g2⟩ :: l) T S F Q = WpR C ops dst (⟨d2, .buildSlice s m qs, ty2, pos2, after2, g2⟩ :: l) T S F Q (opV C.P S T ⟨dst, .buildSlice t n ps, ty, pos, after, none⟩) := z6j rfl
theorem vbs :
 (∀ {C : Cfg} {ops : Array Oper} {dst : Option Tmp} {ty : TypeId} {pos : String} {after : Array Edge} {l : List Oper} {T : List V} {S : Store} {F : Dfs} {Q : Post} {t : TypeId} {n : Nat} {ps : Array (Nat × Operand)} {d2 : Option Tmp} {ty2 : TypeId} {pos2 : String} {after2 : Array Edge} {g2 : Option (Nat × Bool)} {x : Operand}, WpL C ops (⟨dst, .buildSlice t n ps, ty, pos, after, none⟩ :: ⟨d2, .assign x, ty2, pos2, after2, g2⟩ :: l) T S F Q = WpR C ops dst (⟨d2, .assign x, ty2, pos2, after2, g2⟩ :: l) T S F Q (opV C.P S T ⟨dst, .buildSlice t n ps, ty, pos, after, none⟩)) ∧
 (∀ {C : Cfg} {ops : Array Oper} {dst : Option Tmp} {ty : TypeId} {pos : String} {after : Array Edge} {l : List Oper} {T : List V} {S : Store} {F : Dfs} {Q : Post} {t : TypeId} {n : Nat} {ps : Array (Nat × Operand)} {d2 : Option Tmp} {ty2 : TypeId} {pos2 : String} {after2 : Array Edge} {g2 : Option (Nat × Bool)} {x : Operand}, WpL C ops (⟨dst, .buildSlice t n ps, ty, pos, after, none⟩ :: ⟨d2, .move x, ty2, pos2, after2, g2⟩ :: l) T S F Q = WpR C ops dst (⟨d2, .move x, ty2, pos2, after2, g2⟩ :: l) T S F Q (opV C.P S T ⟨dst, .buildSlice t n ps, ty, pos, after, none⟩)) ∧
 (∀ {C : Cfg} {ops : Array Oper} {dst : Option Tmp} {ty : TypeId} {pos : String} {after : Array Edge} {l : List Oper} {T : List V} {S : Store} {F : Dfs} {Q : Post} {t : TypeId} {n : Nat} {ps : Array (Nat × Operand)} {d2 : Option Tmp} {ty2 : TypeId} {pos2 : String} {after2 : Array Edge} {g2 : Option (Nat × Bool)} {s : TypeId} {x : Operand} {f : Nat}, WpL C ops (⟨dst, .buildSlice t n ps, ty, pos, after, none⟩ :: ⟨d2, .fieldAddr s x f, ty2, pos2, after2, g2⟩ :: l) T S F Q = WpR C ops dst (⟨d2, .fieldAddr s x f, ty2, pos2, after2, g2⟩ :: l) T S F Q (opV C.P S T ⟨dst, .buildSlice t n ps, ty, pos, after, none⟩)) ∧
 (∀ {C : Cfg} {ops : Array Oper} {dst : Option Tmp} {ty : TypeId} {pos : String} {after : Array Edge} {l : List Oper} {T : List V} {S : Store} {F : Dfs} {Q : Post} {t : TypeId} {n : Nat} {ps : Array (Nat × Operand)} {d2 : Option Tmp} {ty2 : TypeId} {pos2 : String} {after2 : Array Edge} {g2 : Option (Nat × Bool)} {s : TypeId} {qs : Array (Nat × Operand)}, WpL C ops (⟨dst, .buildSlice t n ps, ty, pos, after, none⟩ :: ⟨d2, .build s qs, ty2, pos2, after2, g2⟩ :: l) T S F Q = WpR C ops dst (⟨d2, .build s qs, ty2, pos2, after2, g2⟩ :: l) T S F Q (opV C.P S T ⟨dst, .buildSlice t n ps, ty, pos, after, none⟩)) ∧
 (∀ {C : Cfg} {ops : Array Oper} {dst : Option Tmp} {ty : TypeId} {pos : String} {after : Array Edge} {l : List Oper} {T : List V} {S : Store} {F : Dfs} {Q : Post} {t : TypeId} {n : Nat} {ps : Array (Nat × Operand)} {d2 : Option Tmp} {ty2 : TypeId} {pos2 : String} {after2 : Array Edge} {g2 : Option (Nat × Bool)} {s : TypeId} {m : Nat} {qs : Array (Nat × Operand)}, WpL C ops (⟨dst, .buildSlice t n ps, ty, pos, after, none⟩ :: ⟨d2, .buildSlice s m qs, ty2, pos2, after2, g2⟩ :: l) T S F Q = WpR C ops dst (⟨d2, .buildSlice s m qs, ty2, pos2, after2, g2⟩ :: l) T S F Q (opV C.P S T ⟨dst, .buildSlice t n ps, ty, pos, after, none⟩)) :=
 ⟨zc7, zh0, z87, zf5, znt⟩
end
theorem z77 {S : Store} {x : V} {e : TypeId} : rowE (S ++ [.row [x] e]) S.length 0 = some x := zK (e := e) (by simp)
theorem z35 {S : Store} {x y : V} {e : TypeId} : jF (S ++ [.row [x] e]) S.length 0 y = some (S ++ [.row [y] e]) := by
 rw [qH (x := x) (e := e) (by simp)]
 simp
section
variable {C : Cfg} {ops : Array Oper} {base : Nat} {F : Dfs} {Q : Post}
def RQ (P : Program) (rs : Array ResultVar) (R : Out → Store → Prop) : Post := fun x T S F => F = [] ∧ match x with | .norm => ∃ v, qC P rs T S = some v ∧ R (.ret v) S | .ret => ∃ v, qC P rs T S = some v ∧ R (.ret v) S | .pan v => R (.pan v) S | .exit _ => False
theorem qN {f : FuncId} {c : Code} {n : Nat} {rs : Array ResultVar} {args : List V} {S : Store} {R : Out → Store → Prop} (hc : C.catch_ f = none) (hb : zA C.P f = some ⟨c, n, rs⟩) (h : Wp C c (vT n args) S [] (RQ C.P rs R)) : EvS C f args S R := zjr hc hb h
def mfS (fn : Fn) (S : Store) (xs ys : List V) : Option Rs := if xs.all V.one && ys.all V.one then some (.val (.fn fn xs ys) S 0) else none
theorem wE {dst : Option Tmp} {ty : TypeId} {pos : String} {after : Array Edge} {l : List Oper} {T : List V} {S : Store} {fn : Fn} {first caps : Array Operand} : WpL C ops (⟨dst, .makeFunc fn first caps, ty, pos, after, none⟩ :: l) T S F Q = WpR C ops dst l T S F Q (mfS fn S (first.toList.map (zB T)) (caps.toList.map (zB T))) := by
 rw [vG rfl]; rfl
theorem z62 {fn : Fn} {S : Store} {xs ys : List V} (h : (xs.all V.one && ys.all V.one) = true) : mfS fn S xs ys = some (.val (.fn fn xs ys) S 0) := if_pos h
end
theorem zay {P : Program} {T : List V} {dst : Option Tmp} {ty : TypeId} {pos : String} {after : Array Edge} {g : Option (Nat × Bool)} {e : TypeId} {z : V} (hz : zeroV P e = some z) (hf : zZ P e z = true) : addO P T ⟨dst, .alloc e, ty, pos, after, g⟩ = some (.row [z] e, fun id => .ref id 0 0) := by
 simp only [addO, hz, hf, if_true]
section
variable (C : Cfg) (ops : Array Oper) (base : Nat)
abbrev Ws := List (Nat × List V × V)
def WOne (i : Nat) (S' : Store) (w : Nat × List V × V) : Prop := ((befs ops).getD i 0).testBit w.1 = true ∨ ∃ o n v S2, ops[w.1]? = some o ∧ effC C (run C n) ops (base + w.1) o w.2.1 S' = some (v, S2, 1) ∧ z0t w.2.2 v = true
def WAll (ws : Ws) (i : Nat) (S' : Store) : Prop := ∀ w ∈ ws, WOne C ops base i S' w
def WpEw (K : Ws → List (Nat × Nat) → List V → Store → Prop) (ws : Ws) (cs : List (Nat × Nat)) (i : Nat) (dst : Option Tmp) (T : List V) (S : Store) : Option Rs → Prop
 | some (.val v S' c) => (2 < num2 c → WAll C ops base ws i S') ∧ K (if num2 c = 1 then (i, T, v) :: ws else ws) (cs ++ [(i, num2 c)]) (putT T dst v) S'
 | some (.skip S' _) => WAll C ops base ws i S' ∧ K ws (cs ++ [(i, 3)]) (putT T dst (.tup [])) S'
 | some (.enter f args) => ∃ n v S' c, jM C (run C n) f args S = some (.ret v, S', c) ∧ (2 < num2 c → WAll C ops base ws i S') ∧ K (if num2 c = 1 then (i, T, v) :: ws else ws) (cs ++ [(i, num2 c)]) (putT T dst v) S'
 | _ => False
def WpDw (F : Dfs) (Q : Post) : Ws → List (Nat × Nat) → List Nat → List V → Store → Prop
 | ws, cs, [], T, S => z2k ops cs = true ∧ Q .norm T S F
 | ws, cs, i :: is, T, S => match ops[i]? with
  | none => False
  | some o => match qB ops T o with
   | none => False
   | some false => WpDw F Q ws (cs ++ [(i, 0)]) is (putT T o.dst (.tup [])) S
   | some true => if jK o = true then WpA base (fun cs T S => WpDw F Q ws cs is T S) cs i o.dst T S (addO C.P T o)
    else WpEw C ops base (fun ws cs T S => WpDw F Q ws cs is T S) ws cs i o.dst T S (opV C.P S T o)
end
section
variable {C : Cfg} {ops : Array Oper} {base : Nat} {F : Dfs} {Q : Post}
theorem zm4 {i : Nat} {S' : Store} : ∀ {ws : Ws}, WAll C ops base ws i S' → ∃ n, ∀ m, n ≤ m → ws.all (jJ C (run C m) ops (befs ops) base i S') = true
 | [], _ => ⟨0, fun _ _ => rfl⟩
 | w :: ws, h => by
  obtain ⟨n, hn⟩ := zm4 (ws := ws) fun x hx => h x (List.mem_cons_of_mem _ hx)
  rcases h w List.mem_cons_self with h1 | ⟨o, k, v, S2, h1, h2, h3⟩
  ·refine ⟨n, fun m hm => ?_⟩
   simp only [List.all_cons, hn m hm, Bool.and_true, jJ, h1, Bool.true_or]
  ·refine ⟨max n k, fun m hm => ?_⟩
   have he := vO (z8r C (show k ≤ m by omega)) h2
   simp only [List.all_cons, hn m (by omega), Bool.and_true, jJ, h1, he, h3, Bool.or_true]
theorem zpk : ∀ {is : List Nat} {ws : Ws} {cs : List (Nat × Nat)} {T : List V} {S : Store}, WpDw C ops base F Q ws cs is T S → ∃ n T' S' cs', seqC C (run C n) ops (befs ops) base ws is T S = some (T', S', cs') ∧ z2k ops (cs ++ cs') = true ∧ Q .norm T' S' F
 | [], ws, cs, T, S, h => ⟨0, T, S, [], rfl, by simpa [WpDw] using h.1, h.2⟩
 | i :: is, ws, cs, T, S, h => by
  have go : ∀ (n : Nat) (o : Oper) (v : V) (S' : Store) (c : Nat), ops[i]? = some o → effC C (run C n) ops (base + i) o T S = some (v, S', c) → (2 < c → WAll C ops base ws i S') → WpDw C ops base F Q (if c = 1 then (i, T, v) :: ws else ws) (cs ++ [(i, c)]) is (putT T o.dst v) S' →
    ∃ n T' S' cs', seqC C (run C n) ops (befs ops) base ws (i :: is) T S = some (T', S', cs') ∧ z2k ops (cs ++ cs') = true ∧ Q .norm T' S' F := by
   intro n o v S' c ho he hb hd
   obtain ⟨m, T2, S2, cs2, h1, h2, h3⟩ := zpk hd
   have hw : ∃ k, 2 < c → ∀ m, k ≤ m → ws.all (jJ C (run C m) ops (befs ops) base i S') = true := by
    by_cases hc : 2 < c
    ·obtain ⟨k, hk⟩ := zm4 (hb hc)
     exact ⟨k, fun _ => hk⟩
    ·exact ⟨0, fun h => absurd h hc⟩
   obtain ⟨k, hk⟩ := hw
   refine ⟨max (max n m) k, T2, S2, (i, c) :: cs2, ?_, by simpa using h2, h3⟩
   have he' := vO (z8r C (show n ≤ max (max n m) k by omega)) he
   have h1' := z4o (z8r C (show m ≤ max (max n m) k by omega)) h1
   simp only [seqC, ho, he']
   rw [if_neg, h1']
   rintro ⟨hc, hall⟩
   rw [hk hc _ (by omega)] at hall
   cases hall
  simp only [WpDw] at h
  cases ho : ops[i]? with
  | none => simp [ho] at h
  | some o =>
   simp only [ho] at h
   cases hwt : qB ops T o with
   | none => simp [hwt] at h
   | some b =>
    simp only [hwt] at h
    cases b with
    | false => exact go 0 o (.tup []) S 0 ho (by simp [effC, hwt]) (fun hc => by omega) h
    | true =>
     cases hk : jK o with
     | true =>
      simp only [hk, if_true] at h
      cases hadd : addO C.P T o with
      | none => simp [hadd, WpA] at h
      | some q =>
       obtain ⟨ob, f⟩ := q
       simp only [hadd, WpA] at h
       exact go 0 o (f (base + i)) (S.set (base + i) ob) 2 ho (by simp [effC, hwt, hk, hadd, h.1]) (fun hc => by omega) h.2
     | false =>
      simp only [hk, Bool.false_eq_true, if_false] at h
      cases hop : opV C.P S T o with
      | none => simp [hop, WpEw] at h
      | some r =>
       simp only [hop] at h
       cases r with
       | val v S' c => exact go 0 o v S' (num2 c) ho (by simp [effC, hwt, hk, hop]) h.1 h.2
       | skip S' c => exact go 0 o (.tup []) S' 3 ho (by simp [effC, hwt, hk, hop]) (fun _ => h.1) h.2
       | enter f args =>
        obtain ⟨n, v, S', c, h1, h2, h3⟩ := h
        exact go n o v S' (num2 c) ho (by simp [effC, hwt, hk, hop, h1]) h2 h3
       | dfr f args => exact h.elim
       | pan v => exact h.elim
theorem kL {id : Nat} {T : List V} {S : Store} {is : List Nat} {h : Nat} (ho : z21 C.shared ops = is) (hh : vB ops = h) (hd : WpDw C ops S.length F Q [] [] is T (S ++ List.replicate h .hole)) : Wp C (.region id ops true) T S F Q := by
 subst ho; subst hh
 obtain ⟨n, T', S', cs', h1, h2, h3⟩ := zpk hd
 exact ⟨n + 1, .norm, T', S', F, by simp only [exec, h1]; rw [if_pos (by simpa using h2)], h3⟩
theorem qM {i : Nat} {S' : Store} : WAll C ops base [] i S' := fun w hw => by cases hw
theorem zV {i : Nat} {S' : Store} {w : Nat × List V × V} {ws : Ws} (h : ((befs ops).getD i 0).testBit w.1 = true) (hw : WAll C ops base ws i S') : WAll C ops base (w :: ws) i S' := fun x hx => by
 rcases List.mem_cons.1 hx with rfl | hx
 ·exact .inl h
 ·exact hw x hx
theorem qV {i j : Nat} {S' : Store} {T : List V} {v : V} {ws : Ws} {o : Oper} (ho : ops[j]? = some o) (hwt : qB ops T o = some true) (ha : jK o = false) (hop : opV C.P S' T o = some (.val v S' 1)) (hs : z0t v v = true) (hw : WAll C ops base ws i S') : WAll C ops base ((j, T, v) :: ws) i S' := fun x hx => by
 rcases List.mem_cons.1 hx with rfl | hx
 ·exact .inr ⟨o, 0, v, S', ho, by simp [effC, hwt, ha, hop, num2], hs⟩
 ·exact hw x hx
def WpXw (C : Cfg) (ops : Array Oper) (base : Nat) (F : Dfs) (Q : Post) (ws : Ws) (cs : List (Nat × Nat)) (i : Nat) (is : List Nat) (T : List V) (S : Store) (o : Oper) : Bool → Prop
 | true => WpA base (fun cs T S => WpDw C ops base F Q ws cs is T S) cs i o.dst T S (addO C.P T o)
 | false => WpEw C ops base (fun ws cs T S => WpDw C ops base F Q ws cs is T S) ws cs i o.dst T S (opV C.P S T o)
def WpOw (C : Cfg) (ops : Array Oper) (base : Nat) (F : Dfs) (Q : Post) (ws : Ws) (cs : List (Nat × Nat)) (i : Nat) (is : List Nat) (T : List V) (S : Store) (o : Oper) : Option Bool → Prop
 | none => False
 | some false => WpDw C ops base F Q ws (cs ++ [(i, 0)]) is (putT T o.dst (.tup [])) S
 | some true => WpXw C ops base F Q ws cs i is T S o (jK o)
def WpIw (C : Cfg) (ops : Array Oper) (base : Nat) (F : Dfs) (Q : Post) (ws : Ws) (cs : List (Nat × Nat)) (i : Nat) (is : List Nat) (T : List V) (S : Store) : Option Oper → Prop
 | none => False
 | some o => WpOw C ops base F Q ws cs i is T S o (qB ops T o)
section
variable {ws : Ws} {cs : List (Nat × Nat)} {i : Nat} {is : List Nat} {T : List V} {S S' : Store} {o : Oper} {K : Ws → List (Nat × Nat) → List V → Store → Prop} {dst : Option Tmp} {v : V} {c : Nat}
theorem dw1 : WpDw C ops base F Q ws cs [] T S = (z2k ops cs = true ∧ Q .norm T S F) := rfl
theorem dw2 : WpDw C ops base F Q ws cs (i :: is) T S = WpIw C ops base F Q ws cs i is T S (ops[i]?) := by
 show (match ops[i]? with
  | none => False
  | some o => match qB ops T o with
   | none => False
   | some false => WpDw C ops base F Q ws (cs ++ [(i, 0)]) is (putT T o.dst (.tup [])) S
   | some true => if jK o = true then WpA base (fun cs T S => WpDw C ops base F Q ws cs is T S) cs i o.dst T S (addO C.P T o)
    else WpEw C ops base (fun ws cs T S => WpDw C ops base F Q ws cs is T S) ws cs i o.dst T S (opV C.P S T o)) = _
 unfold WpIw WpOw
 cases ops[i]? with
 | none => rfl
 | some o =>
  simp only
  cases qB ops T o with
  | none => rfl
  | some b =>
   cases b with
   | false => rfl
   | true => cases jK o <;> rfl
theorem dw3 : WpIw C ops base F Q ws cs i is T S (some o) = WpOw C ops base F Q ws cs i is T S o (qB ops T o) := rfl
theorem dw4 : WpOw C ops base F Q ws cs i is T S o (some false) = WpDw C ops base F Q ws (cs ++ [(i, 0)]) is (putT T o.dst (.tup [])) S := rfl
theorem dw5 : WpOw C ops base F Q ws cs i is T S o (some true) = WpXw C ops base F Q ws cs i is T S o (jK o) := rfl
theorem dw6 : WpXw C ops base F Q ws cs i is T S o false = WpEw C ops base (fun ws cs T S => WpDw C ops base F Q ws cs is T S) ws cs i o.dst T S (opV C.P S T o) := rfl
theorem dw7 : WpXw C ops base F Q ws cs i is T S o true = WpA base (fun cs T S => WpDw C ops base F Q ws cs is T S) cs i o.dst T S (addO C.P T o) := rfl
theorem dw8 : WpEw C ops base K ws cs i dst T S (some (.val v S' 0)) = K ws (cs ++ [(i, 0)]) (putT T dst v) S' := by simp [WpEw, num2]
theorem dw9 : WpEw C ops base K ws cs i dst T S (some (.val v S' 1)) = K ((i, T, v) :: ws) (cs ++ [(i, 1)]) (putT T dst v) S' := by simp [WpEw, num2]
theorem dw10 : WpEw C ops base K ws cs i dst T S (some (.skip S' c)) = (WAll C ops base ws i S' ∧ K ws (cs ++ [(i, 3)]) (putT T dst (.tup [])) S') := rfl
theorem dw11 : WpEw C ops base K ws cs i dst T S (some (.val v S' 2)) = (WAll C ops base ws i S' ∧ K ws (cs ++ [(i, 3)]) (putT T dst v) S') := by simp [WpEw, num2]
theorem dw12 : WpEw C ops base K ws cs i dst T S (some (.val v S' 3)) = (WAll C ops base ws i S' ∧ K ws (cs ++ [(i, 3)]) (putT T dst v) S') := by simp [WpEw, num2]
end
end
section
variable {C : Cfg} {ops : Array Oper} {base : Nat} {F : Dfs} {Q : Post}
section
variable {K : List (Nat × Nat) → Nat → List Nat → V → Store → Prop} {ws : Ws} {cs : List (Nat × Nat)} {i : Nat} {is : List Nat} {T : List V} {S S' : Store} {o : Oper} {v : V} {c : Nat}
end
end
def cvV (P : Program) (args : List V) : V → Option Rs
 | .fn (.func g) first caps => if args.all V.one && (zA P g).isSome then some (.enter g (first ++ args ++ caps)) else none
 | .d (.fn (.func g) first caps) => if args.all V.one && (zA P g).isSome then some (.enter g (first.map .d ++ args ++ caps.map .d)) else none
 | _ => none
theorem zn6 {P : Program} {S : Store} {T : List V} {dst : Option Tmp} {ty : TypeId} {pos : String} {after : Array Edge} {g : Option (Nat × Bool)} {t : Nat} {args : Array Operand} {ts : Array TypeId} : opV P S T ⟨dst, .call { callee := .value (.tmp t), args := args, argTypes := ts }, ty, pos, after, g⟩ = cvV P (args.toList.map (zB T)) (zB T (.tmp t)) := by
 simp only [opV, cvV]
 rfl
theorem zp6 {P : Program} {args first caps : List V} {g : FuncId} (h1 : args.all V.one = true) (h2 : (zA P g).isSome = true) : cvV P args (.fn (.func g) first caps) = some (.enter g (first ++ args ++ caps)) := by
 simp only [cvV, h1, h2, Bool.and_self, if_true]
section
variable {C : Cfg} {ops : Array Oper} {dst : Option Tmp} {op : Op} {ty : TypeId} {pos : String} {after : Array Edge} {l : List Oper} {T : List V} {S : Store} {F : Dfs} {Q : Post}
end
end Go.Vm
end
section
namespace Go.Vm
def byD (x : UInt8) : D := .int .u8 x.toNat
def blkD (b : List UInt8) : D := .agg (b.map byD)
def blkV (b : List UInt8) : V := .agg (b.map fun x => .d (byD x))
def IsB (v : V) (b : List UInt8) : Prop := v = .d (blkD b) ∨ v = blkV b
structure BT (P : Program) (t e : TypeId) (n : Nat) : Prop where
 u : P.underlying t = some (.array n e)
 sz : sz P t = some n
 agg : aggT P t = true
 se : Go.Vm.sz P e = some 1
 ae : aggT P e = false
 two : 2 ≤ n
theorem IsB.cells {v : V} {b : List UInt8} (h : IsB v b) : v.cells = b.map fun x => .d (byD x) := by
 rcases h with rfl | rfl
 ·simp [blkD, V.cells, D.cells, Function.comp_def]
 ·rfl
theorem IsB.isAgg {v : V} {b : List UInt8} (h : IsB v b) : v.isAgg = true := by rcases h with rfl | rfl <;> rfl
theorem IsB.one {v : V} {b : List UInt8} (h : IsB v b) : v.one = true := by rcases h with rfl | rfl <;> rfl
theorem jL {b : List UInt8} : IsB (.d (blkD b)) b := .inl rfl
theorem isB_v {b : List UInt8} : IsB (blkV b) b := .inr rfl
theorem zbc {S : Store} {n : Nat} : ∀ b : List UInt8, allO (frz S (n + 1)) (b.map fun x => .d (byD x)) = some (b.map byD)
 | [] => rfl
 | x :: r => by
  have h : frz S (n + 1) (.d (byD x)) = some (byD x) := rfl
  rw [List.map_cons]
  simp only [allO, zbc r, h, List.map_cons]
theorem IsB.frz {v : V} {b : List UInt8} (h : IsB v b) {S : Store} {n : Nat} : Go.Vm.frz S (n + 2) v = some (blkD b) := by
 rcases h with rfl | rfl
 ·rfl
 ·show (match allO (Go.Vm.frz S (n + 1)) (b.map fun x => .d (byD x)) with | some ds => if ds.any D.isAgg then none else some (D.agg ds) | none => none) = _
  rw [zbc]
  have : (b.map byD).any D.isAgg = false := by
   rw [List.any_eq_false]
   intro x hx
   obtain ⟨y, _, rfl⟩ := List.mem_map.1 hx
   simp [byD, D.isAgg]
  simp only [this]
  rfl
theorem IsB.frzIds {v : V} {b : List UInt8} (h : IsB v b) {S : Store} {n : Nat} : Go.Vm.frzIds S n v = [] := by
 rcases h with rfl | rfl
 ·cases n <;> rfl
 ·cases n with
  | zero => rfl
  | succ n =>
   show (b.map fun x => V.d (byD x)).flatMap (Go.Vm.frzIds S n) = []
   rw [List.flatMap_eq_nil_iff]
   intro x hx
   obtain ⟨y, _, rfl⟩ := List.mem_map.1 hx
   cases n <;> rfl
section
variable {P : Program} {t e : TypeId} {n : Nat} {v w : V} {b b' : List UInt8}
theorem BT.fits (h : BT P t e n) (hv : IsB v b) (hb : b.length = n) : zZ P t v = true := by
 unfold zZ
 rw [hv.one, hv.isAgg, h.agg, h.sz, hv.cells, List.length_map, hb]
 simp
theorem BT.fitsE (h : BT P t e n) {k : Int} : zZ P e (.d (.int .u8 k)) = true := by
 unfold zZ
 rw [h.ae, h.se]
 rfl
theorem BT.load (h : BT P t e n) (hv : IsB v b) (hb : b.length = n) : qL P t 0 (some v) = some v := by
 show (if decide (0 = 0) && zZ P t v then some v else z7k P t v.cells 0) = _
 rw [h.fits hv hb]
 rfl
theorem BT.store (h : BT P t e n) (hv : IsB v b) (hb : b.length = n) (hw : IsB w b') (hb' : b'.length = n) : qI P t 0 v w = some v := by
 unfold qI
 rw [h.fits hv hb, hv.cells, hw.cells, hv.isAgg, hw.isAgg, List.length_map, List.length_map, hb, hb']
 simp
theorem BT.get (h : BT P t e n) (hv : IsB v b) (hb : b.length = n) {i : Nat} (hi : i < b.length) : qL P e i (some v) = some (.d (.int .u8 (b[i].toNat : Int))) := by
 have h2 := h.two
 show (if decide (i = 0) && zZ P e v then some v else z7k P e v.cells i) = _
 have hf : zZ P e v = false := by
  unfold zZ
  rw [hv.isAgg, h.ae]
  simp
 rw [hf, Bool.and_false, if_neg (by decide)]
 unfold z7k
 rw [h.se, hv.cells, h.ae]
 simp only [List.length_map]
 rw [if_pos (by omega)]
 simp only [Bool.false_eq_true, if_false, if_true, List.getElem?_map, List.getElem?_eq_getElem hi, Option.map_some]
 rfl
theorem BT.put (h : BT P t e n) (hv : IsB v b) (hb : b.length = n) {i : Nat} (hi : i < b.length) {x : UInt8} : qI P e i (.d (.int .u8 (x.toNat : Int))) v = some (blkV (b.set i x)) := by
 have h2 := h.two
 unfold qI
 rw [h.fitsE, hv.cells, hv.isAgg]
 have h1 : (V.d (D.int .u8 (x.toNat : Int))).cells = [V.d (byD x)] := rfl
 rw [h1]
 simp only [List.length_map, List.length_cons, List.length_nil, if_true]
 have hne : (b.length == 0 + 1) = false := by rw [beq_eq_false_iff_ne]; omega
 rw [hne, Bool.and_false, Bool.false_and, if_neg (by decide)]
 rw [if_pos (by simp; omega)]
 unfold blkV
 rw [List.set_eq_take_append_cons_drop, if_pos hi]
 simp [List.map_take, List.map_drop]
theorem BT.ia (h : BT P t e n) {S : Store} {j x o : Nat} {i : Nat} (hi : i < n) : zE P S t (.ref j x o) (.d (.int .i64 (i : Int))) = some (.ref j x (o + i)) := by
 simp only [zE, intOf?, h.u, h.se]
 rw [if_pos ⟨by omega, by omega⟩]
 simp
end
def Dfr (C : Cfg) : Dfs → Store → Store → Prop
  | [], S, S' => S' = S
  | (f, args) :: r, S, S' => ∃ b S1, zA C.P f = some b ∧ Wp C b.code (vT b.ntmps args) S [] (fun x T S2 F => (x = .norm ∨ x = .ret) ∧ F = [] ∧ (∃ v, qC C.P b.results T S2 = some v) ∧ S2 = S1) ∧ Dfr C r S1 S'
theorem zcn {C : Cfg} {n m : Nat} (h : n ≤ m) {f : FuncId} {args : List V} {S S' : Store} (hp : vU C.P (exec C n) f args S = some S') : vU C.P (exec C m) f args S = some S' := by
 unfold vU at hp ⊢
 cases hb : zA C.P f with
 | none => rw [hb] at hp; cases hp
 | some b =>
  rw [hb] at hp
  simp only at hp ⊢
  cases he : exec C n b.code (vT b.ntmps args) S [] with
  | none => rw [he] at hp; cases hp
  | some r => rw [he] at hp; rw [z5l C h _ _ _ _ _ he]; exact hp
theorem zdu {C : Cfg} {n m : Nat} (h : n ≤ m) : ∀ {F : Dfs} {S S' : Store}, dfrV C.P (exec C n) F S = some S' → dfrV C.P (exec C m) F S = some S'
  | [], S, S', hd => hd
  | (f, args) :: r, S, S', hd => by
    unfold dfrV at hd ⊢
    split at hd
    · rename_i S1 h1
      rw [zcn h h1]
      exact zdu h hd
    · cases hd
theorem zle {C : Cfg} : ∀ {F : Dfs} {S S' : Store}, Dfr C F S S' → ∃ n, dfrV C.P (exec C n) F S = some S'
  | [], S, S', h => ⟨0, by cases h; rfl⟩
  | (f, args) :: r, S, S', h => by
    obtain ⟨b, S1, hb, ⟨n, x, T, S2, F, h1, h2, rfl, ⟨v, h3⟩, rfl⟩, h4⟩ := h
    obtain ⟨m, hm⟩ := zle h4
    refine ⟨max n m, ?_⟩
    have hp : vU C.P (exec C n) f args S = some S2 := by
      unfold vU
      rw [hb]
      simp only [h1]
      rcases h2 with rfl | rfl <;> simp only [h3, Option.map_some]
    unfold dfrV
    rw [zcn (Nat.le_max_left n m) hp]
    exact zdu (Nat.le_max_right n m) hm
def RD (C : Cfg) (rs : Array ResultVar) (R : Out → Store → Prop) : Post := fun x T S F => (x = .norm ∨ x = .ret) ∧ ∃ S' v, Dfr C F S S' ∧ qC C.P rs T S' = some v ∧ R (.ret v) S'
theorem zb1 {C : Cfg} {f : FuncId} {c : Code} {n : Nat} {rs : Array ResultVar} {args : List V} {S : Store} {R : Out → Store → Prop} (hc : C.catch_ f = none) (hb : zA C.P f = some ⟨c, n, rs⟩) (h : Wp C c (vT n args) S [] (RD C rs R)) : EvS C f args S R := by
 obtain ⟨k, x, T, S', F, h1, h2, S2, v, h3, h4, h5⟩ := h
 obtain ⟨m, hm⟩ := zle h3
 have he := z5l C (Nat.le_max_left k m) _ _ _ _ _ h1
 have hd := zdu (Nat.le_max_right k m) hm
 refine ⟨max k m + 1, .ret v, S2, ?_, h5⟩
 rcases h2 with rfl | rfl <;> simp only [run, hc, hb, he, endV, hd, h4]
end Go.Vm
end
section
namespace Go.Proofs.Ytobgdmgldagjkaa
open Go.Vm
def layB (b : List UInt8) (k : Nat) (data : List UInt8) : List UInt8 := b.take k ++ data ++ b.drop (k + data.length)
theorem qU {b data : List UInt8} {k : Nat} (h : k + data.length ≤ b.length) : (layB b k data).length = b.length := by unfold layB; simp; omega
theorem z7b {b : List UInt8} {k : Nat} : layB b k [] = b := by unfold layB; simp
theorem z4n {b data : List UInt8} {k : Nat} {x : UInt8} (h : k + data.length < b.length) : layB b k (data ++ [x]) = (layB b k data).set (k + data.length) x := by
 unfold layB
 have h1 : (b.take k ++ data).length = k + data.length := by simp; omega
 rw [List.set_append_right _ _ (by omega), h1, Nat.sub_self, List.length_append, List.length_singleton]
 have : b.drop (k + data.length) = b[k + data.length] :: b.drop (k + data.length + 1) := List.drop_eq_getElem_cons h
 rw [this, List.set_cons_zero]
 simp [Nat.add_assoc]
def leB (n v : Nat) : List UInt8 := (List.range n).map fun i => UInt8.ofNat (v / 256 ^ i % 256)
theorem qK (n v : Nat) : (leB n v).length = n := by simp [leB]
theorem zgj (n v : Nat) : leB (n + 1) v = leB n v ++ [UInt8.ofNat (v / 256 ^ n % 256)] := by unfold leB; rw [List.range_succ, List.map_append]; rfl
def zC (n : Nat) : List UInt8 := List.replicate n 0
theorem z26 (n : Nat) : (zC n).length = n := by simp [zC]
def mixS (h : Nat) (x : UInt8) : Nat := (h ^^^ x.toNat) * 16777619 % 4294967296
def mixL (h : Nat) (s : List UInt8) : Nat := s.foldl mixS h
def zbz (s : List UInt8) : Nat := mixL 2166136261 s
theorem zs9 (h : Nat) (x : UInt8) : mixS h x < 4294967296 := Nat.mod_lt _ (by decide)
theorem zek : ∀ (s : List UInt8) (h : Nat), h < 4294967296 → mixL h s < 4294967296
 | [], h, hh => hh
 | x :: r, h, _ => zek r (mixS h x) (zs9 h x)
theorem zoq (s : List UInt8) : zbz s < 4294967296 := zek s _ (by decide)
theorem z1c {a d : List UInt8} {n : Nat} (h : d.length ≤ n) : layB (a ++ zC n) a.length d = (a ++ d) ++ zC (n - d.length) := by
 unfold layB zC
 rw [List.take_left, List.drop_append, List.drop_eq_nil_of_le (by omega), List.nil_append, List.drop_replicate]
 congr 2
 omega
def magicB : List UInt8 := [101, 115, 99, 104, 101, 97, 116, 49]
def supL (B I M : Nat) : List UInt8 := magicB ++ leB 2 B ++ leB 2 I ++ leB 8 M
theorem z3c (B I M : Nat) : (supL B I M).length = 20 := by simp [supL, magicB, qK]
def supB (B I M : Nat) : List UInt8 := supL B I M ++ leB 4 (zbz (supL B I M)) ++ zC 232
theorem z5e (B I M : Nat) : (supB B I M).length = 256 := by simp [supB, z3c, qK, z26]
theorem zjy (B I M : Nat) : layB (zC 256) 0 magicB = magicB ++ zC 248 ∧ layB (magicB ++ zC 248) 8 (leB 2 B) = (magicB ++ leB 2 B) ++ zC 246 ∧ layB ((magicB ++ leB 2 B) ++ zC 246) 10 (leB 2 I) = (magicB ++ leB 2 B ++ leB 2 I) ++ zC 244 ∧ layB ((magicB ++ leB 2 B ++ leB 2 I) ++ zC 244) 12 (leB 8 M) = supL B I M ++ zC 236 ∧ ((supL B I M ++ zC 236).drop 0).take 20 = supL B I M ∧ layB (supL B I M ++ zC 236) 20 (leB 4 (zbz (supL B I M))) = supB B I M := by
 refine ⟨?_, ?_, ?_, ?_, ?_, ?_⟩
 ·exact z1c (a := []) (n := 256) (d := magicB) (by decide)
 ·exact z1c (a := magicB) (n := 248) (by rw [qK]; omega)
 ·have := z1c (a := magicB ++ leB 2 B) (d := leB 2 I) (n := 246) (by rw [qK]; omega)
  simpa [magicB, qK] using this
 ·have := z1c (a := magicB ++ leB 2 B ++ leB 2 I) (d := leB 8 M) (n := 244) (by rw [qK]; omega)
  simpa [magicB, qK, supL] using this
 ·rw [List.drop_zero, List.take_append_of_le_length (by rw [z3c]; omega), List.take_of_length_le (by rw [z3c]; omega)]
 ·have := z1c (a := supL B I M) (d := leB 4 (zbz (supL B I M))) (n := 236) (by rw [qK]; omega)
  rw [z3c, qK] at this
  exact this
def leN : List UInt8 → Nat
 | [] => 0
 | x :: r => x.toNat + 256 * leN r
theorem z88 : ∀ (n v : Nat), leN (leB n v) = v % 256 ^ n
 | 0, v => by simp [leB, leN, Nat.mod_one]
 | n + 1, v => by
  have h : leB (n + 1) v = UInt8.ofNat (v % 256) :: leB n (v / 256) := by
   unfold leB
   rw [List.range_succ_eq_map, List.map_cons, List.map_map]
   congr 1
   ·simp
   ·apply List.map_congr_left
    intro i _
    simp only [Function.comp_apply]
    rw [Nat.pow_succ, Nat.mul_comm, ← Nat.div_div_eq_div_mul]
  have e : (UInt8.ofNat (v % 256)).toNat = v % 256 := by rw [UInt8.toNat_ofNat']; omega
  have e2 : (256 : Nat) ^ (n + 1) = 256 * 256 ^ n := by rw [Nat.pow_succ, Nat.mul_comm]
  rw [h, leN, z88 n (v / 256), e, e2, Nat.mod_mul]
theorem zgb : ∀ (l : List UInt8) (x : UInt8), leN (l ++ [x]) = leN l + 256 ^ l.length * x.toNat
 | [], x => by simp [leN]
 | y :: r, x => by
  rw [List.cons_append, leN, leN, zgb r x, List.length_cons, Nat.pow_succ]
  rw [Nat.mul_add, Nat.mul_comm (256 ^ r.length) 256, Nat.mul_assoc]
  omega
theorem zqc : ∀ l : List UInt8, leN l < 256 ^ l.length
 | [] => by simp [leN]
 | x :: r => by
  have h1 := zqc r
  have h2 : x.toNat < 256 := x.toNat_lt
  rw [leN, List.length_cons, Nat.pow_succ]
  omega
def zln (b : List UInt8) (i : Nat) : List UInt8 := b.set (i / 8) (b.getD (i / 8) 0 ||| UInt8.ofNat (2 ^ (i % 8)))
def mapB (k : Nat) : List UInt8 := (List.range k).foldl zln (zC 256)
theorem z7t : ∀ (l : List Nat) (b : List UInt8), (l.foldl zln b).length = b.length
 | [], b => rfl
 | i :: r, b => by rw [List.foldl_cons, z7t r, zln, List.length_set]
theorem z1f (k : Nat) : (mapB k).length = 256 := by unfold mapB; rw [z7t, z26]
def zjg : List D → Option Out := fun ds => match ds with | [] => some (.ret (.d (.bool true))) | _ => Option.none
def mask : Nat := 5709055972127551838027656323638468758789338880
noncomputable def cfg : Cfg := { P := Try.prog, mixed := by kernel_rfl, shared := fun f => Nat.testBit mask f, ext := fun f => match Nat.beq f 7 with | true => some zjg | false => Option.none, catch_ := fun f => Option.none }
theorem hP : cfg.P = Try.prog := rfl
def encB (l : List UInt8) : D := .sl (l.map fun b => .int .u8 b.toNat)
theorem zr9 (a : Int) : z0j Try.prog 3 (.int .i64 a) = true := by kernel_rfl
theorem za2 (a : Int) : zZ Try.prog 3 (.d (.int .i64 a)) = true := by kernel_rfl
theorem ld3 {S : Store} {a : Int} : kC Try.prog S 3 (.d (.ptr (.int .i64 a))) = some (.d (.int .i64 a)) := by kernel_rfl
theorem ff29 {a : Int} : zZ Try.prog 29 (.d (.int .i64 a)) = true := by kernel_rfl
theorem q02 (a : Int) : z0j Try.prog 5 (.int .u8 a) = true := by kernel_rfl
theorem zk3 (a : Int) : zZ Try.prog 5 (.d (.int .u8 a)) = true := by kernel_rfl
theorem ld5 {S : Store} {a : Int} : kC Try.prog S 5 (.d (.ptr (.int .u8 a))) = some (.d (.int .u8 a)) := by kernel_rfl
structure Lay where
 blocks : Int
 inodes : Int
 merge : Int
 deriving DecidableEq
def encLay (a : Lay) : D := .agg [.int .i64 a.blocks, .int .i64 a.inodes, .int .u64 a.merge]
theorem z24 : zeroV Try.prog 24 = some (.agg [.d (.int .i64 0), .d (.int .i64 0), .d (.int .u64 0)]) := by kernel_rfl
theorem zf24 : zZ Try.prog 24 (.agg [.d (.int .i64 0), .d (.int .i64 0), .d (.int .u64 0)]) = true := by kernel_rfl
theorem zz24  : zeroV Try.prog 24 = some (.agg [.d (.int .i64 0), .d (.int .i64 0), .d (.int .u64 0)]) := z24
theorem ff24 {a : Lay} : zZ Try.prog 24 (.d (encLay a)) = true := by kernel_rfl
theorem q0o {x0 x1 x2 : V} : zZ Try.prog 24 (.agg [x0, x1, x2]) = true := by kernel_rfl
theorem lr24 {a : Lay} : qL Try.prog 24 0 (some (.d (encLay a))) = some (.d (encLay a)) := by kernel_rfl
theorem q1q {x0 x1 x2 : V} : qL Try.prog 24 0 (some (.agg [x0, x1, x2])) = some (.agg [x0, x1, x2]) := by kernel_rfl
theorem zv6 {a : Lay} {x0 x1 x2 : V} : qI Try.prog 24 0 (.d (encLay a)) (.agg [x0, x1, x2]) = some (.d (encLay a)) := by kernel_rfl
theorem q2v {x0 x1 x2 y0 y1 y2 : V} : qI Try.prog 24 0 (.agg [x0, x1, x2]) (.agg [y0, y1, y2]) = some (.agg [x0, x1, x2]) := by kernel_rfl
theorem z9y {a : Lay} : qL Try.prog 3 0 (some (.d (encLay a))) = some ((.d (.int .i64 a.blocks))) := by kernel_rfl
theorem zaj {j x y : Nat} : zF Try.prog 24 0 (.ref j x y) = some (.ref j x (y + 0)) := by kernel_rfl
theorem zwt {a : Lay} : qL Try.prog 3 1 (some (.d (encLay a))) = some ((.d (.int .i64 a.inodes))) := by kernel_rfl
theorem zve {j x y : Nat} : zF Try.prog 24 1 (.ref j x y) = some (.ref j x (y + 1)) := by kernel_rfl
theorem zwm {a : Lay} : qL Try.prog 22 2 (some (.d (encLay a))) = some ((.d (.int .u64 a.merge))) := by kernel_rfl
theorem zws {j x y : Nat} : zF Try.prog 24 2 (.ref j x y) = some (.ref j x (y + 2)) := by kernel_rfl
theorem zsb : zOk Try.prog 5 = true := by kernel_rfl
theorem zgo {m : Nat} (h : m ≤ 1000000) : room Try.prog 5 m = true := zbi rfl (by decide +kernel) h
theorem ix40 {S : Store} {l : List UInt8} {i : Nat} (h : i < l.length) : zE Try.prog S 40 (.d (.sl (l.map (fun b : UInt8 => D.int .u8 b.toNat)))) (.d (.int .i64 i)) = some (.d (.ptr (.int .u8 (l[i].toNat : Int)))) := zj8 Try.underlying40 (fun a => q02 _) h
theorem zmp {S : Store} {xs : List D} : zI Try.prog S .len [40] [.d (.sl xs)] = some (.val (.d (.int .i64 xs.length)) S 0) := zkk Try.underlying40
theorem zsn : zOk Try.prog 3 = true := by kernel_rfl
theorem q25 : (sz Try.prog 3).isSome = true := by kernel_rfl
theorem zks {m : Nat} (h : m ≤ 1000000) : room Try.prog 3 m = true := zbi rfl (by decide +kernel) h
theorem ix46 {S : Store} {l : List Int} {i : Nat} (h : i < l.length) : zE Try.prog S 46 (.d (.sl (l.map (D.int .i64)))) (.d (.int .i64 i)) = some (.d (.ptr ((D.int .i64) l[i]))) := zj8 Try.underlying46 (fun a => zr9 a) h
theorem zwu {S : Store} {xs : List D} : zI Try.prog S .len [46] [.d (.sl xs)] = some (.val (.d (.int .i64 xs.length)) S 0) := zkk Try.underlying46
theorem bs46 {S : Store} {a : Int} : bs1 Try.prog S 46 (.d (.int .i64 a)) = some (.val (.ts [.int .i64 a]) S 0) := by kernel_rfl
theorem ap46 {S : Store} {v : V} {xs : List Int} (a : Int) (ho : OwnS S v 3 (xs.map fun x => .d (D.int .i64 x))) (hl : xs.length < 1000000) : ∃ v' S' c, qE Try.prog S 46 46 v (.ts [D.int .i64 a]) = some (v', S', c) ∧ OwnS S' v' 3 ((xs ++ [a]).map fun x => .d (D.int .i64 x)) ∧ (∀ j o, S[j]? = some o → NotAt v j → S'[j]? = some o ∧ NotAt v' j) ∧ S.length ≤ S'.length := zhe a Try.underlying46 zsn q25 (zr9 a) ho (zks (by omega))
theorem q1g {s : List UInt8} {i : Nat} (h : i < s.length) : z2g Try.prog 9 (.d (.str s)) (.d (.int .i64 i)) = some (.d (.int .u8 s[i].toNat)) := zs4 Try.underlying9 h
theorem zuk {S : Store} {s : List UInt8} : zI Try.prog S .len [9] [.d (.str s)] = some (.val (.d (.int .i64 s.length)) S 0) := zr5 Try.underlying9
theorem bo7  : (zA Try.prog 7).isSome = true := by kernel_rfl
theorem q1z : zA Try.prog 8 = some ⟨Try.f8.body.getD .skip, 10, #[.tmp 2]⟩ := by
 unfold zA
 rw [Try.func8]
 rfl
theorem bo8  : (zA Try.prog 8).isSome = true := by kernel_rfl
theorem zyj : zA Try.prog 10 = some ⟨Try.f10.body.getD .skip, 64, #[.tmp 4]⟩ := by
 unfold zA
 rw [Try.func10]
 rfl
theorem bo10  : (zA Try.prog 10).isSome = true := by kernel_rfl
theorem zvw : zA Try.prog 11 = some ⟨Try.f11.body.getD .skip, 36, #[.tmp 2]⟩ := by
 unfold zA
 rw [Try.func11]
 rfl
theorem bo11  : (zA Try.prog 11).isSome = true := by kernel_rfl
theorem zuh : zA Try.prog 13 = some ⟨Try.f13.body.getD .skip, 37, #[.tmp 2, .tmp 3]⟩ := by
 unfold zA
 rw [Try.func13]
 rfl
theorem bo13  : (zA Try.prog 13).isSome = true := by kernel_rfl
theorem zyz : zA Try.prog 17 = some ⟨Try.f17.body.getD .skip, 10, #[.cell 2 24]⟩ := by
 unfold zA
 rw [Try.func17]
 rfl
theorem bo17  : (zA Try.prog 17).isSome = true := by kernel_rfl
theorem zuf : zA Try.prog 18 = some ⟨Try.f18.body.getD .skip, 9, #[.tmp 2]⟩ := by
 unfold zA
 rw [Try.func18]
 rfl
theorem bo18  : (zA Try.prog 18).isSome = true := by kernel_rfl
theorem zu8 : zA Try.prog 48 = some ⟨Try.f48.body.getD .skip, 44, #[.cell 2 42, .tmp 3]⟩ := by
 unfold zA
 rw [Try.func48]
 rfl
theorem bo48  : (zA Try.prog 48).isSome = true := by kernel_rfl
theorem zxs : zA Try.prog 49 = some ⟨Try.f49.body.getD .skip, 10, #[.tmp 2]⟩ := by
 unfold zA
 rw [Try.func49]
 rfl
theorem bo49  : (zA Try.prog 49).isSome = true := by kernel_rfl
theorem bo50  : (zA Try.prog 50).isSome = true := by kernel_rfl
theorem zwq : zA Try.prog 51 = some ⟨Try.f51.body.getD .skip, 13, #[.tmp 2]⟩ := by
 unfold zA
 rw [Try.func51]
 rfl
theorem bo51  : (zA Try.prog 51).isSome = true := by kernel_rfl
theorem bo52  : (zA Try.prog 52).isSome = true := by kernel_rfl
theorem zpq : zA Try.prog 53 = some ⟨Try.f53.body.getD .skip, 46, #[.cell 6 29]⟩ := by
 unfold zA
 rw [Try.func53]
 rfl
theorem bo53  : (zA Try.prog 53).isSome = true := by kernel_rfl
theorem zyp : zA Try.prog 54 = some ⟨Try.f54.body.getD .skip, 17, #[.cell 2 42]⟩ := by
 unfold zA
 rw [Try.func54]
 rfl
theorem bo54  : (zA Try.prog 54).isSome = true := by kernel_rfl
theorem zub : zA Try.prog 55 = some ⟨Try.f55.body.getD .skip, 16, #[.tmp 2]⟩ := by
 unfold zA
 rw [Try.func55]
 rfl
theorem bo55  : (zA Try.prog 55).isSome = true := by kernel_rfl
theorem zqb : zA Try.prog 56 = some ⟨Try.f56.body.getD .skip, 21, #[.cell 4 42, .tmp 5]⟩ := by
 unfold zA
 rw [Try.func56]
 rfl
theorem bo56  : (zA Try.prog 56).isSome = true := by kernel_rfl
theorem zym : zA Try.prog 57 = some ⟨Try.f57.body.getD .skip, 35, #[.cell 2 24, .tmp 3]⟩ := by
 unfold zA
 rw [Try.func57]
 rfl
theorem bo57  : (zA Try.prog 57).isSome = true := by kernel_rfl
theorem zw7 : zA Try.prog 58 = some ⟨Try.f58.body.getD .skip, 9, #[.tmp 2]⟩ := by
 unfold zA
 rw [Try.func58]
 rfl
theorem bo58  : (zA Try.prog 58).isSome = true := by kernel_rfl
theorem zv2 : zA Try.prog 67 = some ⟨Try.f67.body.getD .skip, 29, #[.tmp 2]⟩ := by
 unfold zA
 rw [Try.func67]
 rfl
theorem bo67  : (zA Try.prog 67).isSome = true := by kernel_rfl
theorem zyf : zA Try.prog 69 = some ⟨Try.f69.body.getD .skip, 39, #[.tmp 6]⟩ := by
 unfold zA
 rw [Try.func69]
 rfl
theorem bo69  : (zA Try.prog 69).isSome = true := by kernel_rfl
theorem zyi : zA Try.prog 86 = some ⟨Try.f86.body.getD .skip, 6, #[.cell 2 42]⟩ := by
 unfold zA
 rw [Try.func86]
 rfl
theorem bo86  : (zA Try.prog 86).isSome = true := by kernel_rfl
theorem zu4 : zA Try.prog 87 = some ⟨Try.f87.body.getD .skip, 35, #[.cell 8 42]⟩ := by
 unfold zA
 rw [Try.func87]
 rfl
theorem bo87  : (zA Try.prog 87).isSome = true := by kernel_rfl
theorem zys : zA Try.prog 88 = some ⟨Try.f88.body.getD .skip, 42, #[.tmp 8, .tmp 9]⟩ := by
 unfold zA
 rw [Try.func88]
 rfl
theorem bo88  : (zA Try.prog 88).isSome = true := by kernel_rfl
theorem zya : zA Try.prog 89 = some ⟨Try.f89.body.getD .skip, 34, #[.cell 6 42]⟩ := by
 unfold zA
 rw [Try.func89]
 rfl
theorem bo89  : (zA Try.prog 89).isSome = true := by kernel_rfl
theorem zw6 : zA Try.prog 90 = some ⟨Try.f90.body.getD .skip, 5, #[.tmp 2]⟩ := by
 unfold zA
 rw [Try.func90]
 rfl
theorem bo90  : (zA Try.prog 90).isSome = true := by kernel_rfl
theorem zv5 : zA Try.prog 91 = some ⟨Try.f91.body.getD .skip, 12, #[.tmp 2, .tmp 3]⟩ := by
 unfold zA
 rw [Try.func91]
 rfl
theorem bo91  : (zA Try.prog 91).isSome = true := by kernel_rfl
theorem zq3 : zA Try.prog 93 = some ⟨Try.f93.body.getD .skip, 25, #[.tmp 4]⟩ := by
 unfold zA
 rw [Try.func93]
 rfl
theorem bo93  : (zA Try.prog 93).isSome = true := by kernel_rfl
theorem bo94  : (zA Try.prog 94).isSome = true := by kernel_rfl
theorem bo95  : (zA Try.prog 95).isSome = true := by kernel_rfl
theorem bo96  : (zA Try.prog 96).isSome = true := by kernel_rfl
theorem zxk : zA Try.prog 97 = some ⟨Try.f97.body.getD .skip, 39, #[.tmp 6, .tmp 7]⟩ := by
 unfold zA
 rw [Try.func97]
 rfl
theorem bo97  : (zA Try.prog 97).isSome = true := by kernel_rfl
theorem zxg : zA Try.prog 98 = some ⟨Try.f98.body.getD .skip, 35, #[.tmp 6]⟩ := by
 unfold zA
 rw [Try.func98]
 rfl
theorem bo98  : (zA Try.prog 98).isSome = true := by kernel_rfl
theorem zta : zA Try.prog 112 = some ⟨Try.f112.body.getD .skip, 6, #[.tmp 2]⟩ := by
 unfold zA
 rw [Try.func112]
 rfl
theorem zji  : (zA Try.prog 112).isSome = true := by kernel_rfl
theorem zqu : zA Try.prog 116 = some ⟨Try.f116.body.getD .skip, 25, #[.tmp 6]⟩ := by
 unfold zA
 rw [Try.func116]
 rfl
theorem zka  : (zA Try.prog 116).isSome = true := by kernel_rfl
theorem zrl : zA Try.prog 117 = some ⟨Try.f117.body.getD .skip, 20, #[.tmp 4]⟩ := by
 unfold zA
 rw [Try.func117]
 rfl
theorem zy8  : (zA Try.prog 117).isSome = true := by kernel_rfl
theorem bo19  : (zA Try.prog 19).isSome = true := by kernel_rfl
theorem zuw : zA Try.prog 20 = some ⟨Try.f20.body.getD .skip, 9, #[.tmp 2]⟩ := by
 unfold zA
 rw [Try.func20]
 rfl
theorem bo20  : (zA Try.prog 20).isSome = true := by kernel_rfl
theorem zx6 : zA Try.prog 21 = some ⟨Try.f21.body.getD .skip, 9, #[.cell 2 52]⟩ := by
 unfold zA
 rw [Try.func21]
 rfl
theorem bo21  : (zA Try.prog 21).isSome = true := by kernel_rfl
theorem zwy : zA Try.prog 22 = some ⟨Try.f22.body.getD .skip, 26, #[.tmp 2]⟩ := by
 unfold zA
 rw [Try.func22]
 rfl
theorem bo22  : (zA Try.prog 22).isSome = true := by kernel_rfl
theorem zje : zA Try.prog 23 = some ⟨Try.f23.body.getD .skip, 31, #[.tmp 8]⟩ := by
 unfold zA
 rw [Try.func23]
 rfl
theorem bo23  : (zA Try.prog 23).isSome = true := by kernel_rfl
theorem zvx : zA Try.prog 24 = some ⟨Try.f24.body.getD .skip, 16, #[.tmp 8]⟩ := by
 unfold zA
 rw [Try.func24]
 rfl
theorem bo24  : (zA Try.prog 24).isSome = true := by kernel_rfl
theorem zy7 : zA Try.prog 25 = some ⟨Try.f25.body.getD .skip, 49, #[.tmp 8]⟩ := by
 unfold zA
 rw [Try.func25]
 rfl
theorem bo25  : (zA Try.prog 25).isSome = true := by kernel_rfl
theorem zvm : zA Try.prog 27 = some ⟨Try.f27.body.getD .skip, 10, #[.tmp 2]⟩ := by
 unfold zA
 rw [Try.func27]
 rfl
theorem bo27  : (zA Try.prog 27).isSome = true := by kernel_rfl
theorem zwg : zA Try.prog 40 = some ⟨Try.f40.body.getD .skip, 22, #[.tmp 2, .tmp 3]⟩ := by
 unfold zA
 rw [Try.func40]
 rfl
theorem bo40  : (zA Try.prog 40).isSome = true := by kernel_rfl
theorem zxa : zA Try.prog 42 = some ⟨Try.f42.body.getD .skip, 30, #[.cell 4 61]⟩ := by
 unfold zA
 rw [Try.func42]
 rfl
theorem bo42  : (zA Try.prog 42).isSome = true := by kernel_rfl
theorem zue : zA Try.prog 47 = some ⟨Try.f47.body.getD .skip, 14, #[.cell 4 42]⟩ := by
 unfold zA
 rw [Try.func47]
 rfl
theorem bo47  : (zA Try.prog 47).isSome = true := by kernel_rfl
theorem zwl : zA Try.prog 63 = some ⟨Try.f63.body.getD .skip, 20, #[.tmp 2]⟩ := by
 unfold zA
 rw [Try.func63]
 rfl
theorem bo63  : (zA Try.prog 63).isSome = true := by kernel_rfl
theorem zwr : zA Try.prog 64 = some ⟨Try.f64.body.getD .skip, 35, #[.tmp 4]⟩ := by
 unfold zA
 rw [Try.func64]
 rfl
theorem bo64  : (zA Try.prog 64).isSome = true := by kernel_rfl
theorem zuc : zA Try.prog 65 = some ⟨Try.f65.body.getD .skip, 8, #[.cell 4 52]⟩ := by
 unfold zA
 rw [Try.func65]
 rfl
theorem bo65  : (zA Try.prog 65).isSome = true := by kernel_rfl
theorem zus : zA Try.prog 66 = some ⟨Try.f66.body.getD .skip, 42, #[.cell 4 42, .tmp 5]⟩ := by
 unfold zA
 rw [Try.func66]
 rfl
theorem bo66  : (zA Try.prog 66).isSome = true := by kernel_rfl
theorem zq2 : zA Try.prog 68 = some ⟨Try.f68.body.getD .skip, 67, #[.tmp 8, .tmp 9]⟩ := by
 unfold zA
 rw [Try.func68]
 rfl
theorem bo68  : (zA Try.prog 68).isSome = true := by kernel_rfl
theorem zxo : zA Try.prog 83 = some ⟨Try.f83.body.getD .skip, 60, #[.tmp 4]⟩ := by
 unfold zA
 rw [Try.func83]
 rfl
theorem bo83  : (zA Try.prog 83).isSome = true := by kernel_rfl
theorem zy0 : zA Try.prog 85 = some ⟨Try.f85.body.getD .skip, 19, #[.tmp 4]⟩ := by
 unfold zA
 rw [Try.func85]
 rfl
theorem bo85  : (zA Try.prog 85).isSome = true := by kernel_rfl
theorem zwc : zA Try.prog 92 = some ⟨Try.f92.body.getD .skip, 27, #[.cell 4 42]⟩ := by
 unfold zA
 rw [Try.func92]
 rfl
theorem bo92  : (zA Try.prog 92).isSome = true := by kernel_rfl
theorem zrw : zA Try.prog 102 = some ⟨Try.f102.body.getD .skip, 19, #[.cell 3 42]⟩ := by
 unfold zA
 rw [Try.func102]
 rfl
theorem q1t  : (zA Try.prog 102).isSome = true := by kernel_rfl
theorem zkf : zA Try.prog 103 = some ⟨Try.f103.body.getD .skip, 39, #[.tmp 4]⟩ := by
 unfold zA
 rw [Try.func103]
 rfl
theorem zp5  : (zA Try.prog 103).isSome = true := by kernel_rfl
theorem zqt : zA Try.prog 104 = some ⟨Try.f104.body.getD .skip, 25, #[.tmp 2]⟩ := by
 unfold zA
 rw [Try.func104]
 rfl
theorem z96  : (zA Try.prog 104).isSome = true := by kernel_rfl
theorem zre : zA Try.prog 105 = some ⟨Try.f105.body.getD .skip, 72, #[.tmp 4, .tmp 5]⟩ := by
 unfold zA
 rw [Try.func105]
 rfl
theorem zo2  : (zA Try.prog 105).isSome = true := by kernel_rfl
theorem zs3 : zA Try.prog 131 = some ⟨Try.f131.body.getD .skip, 38, #[.tmp 2]⟩ := by
 unfold zA
 rw [Try.func131]
 rfl
theorem zyu  : (zA Try.prog 131).isSome = true := by kernel_rfl
theorem zsu : zA Try.prog 134 = some ⟨Try.f134.body.getD .skip, 24, #[.tmp 4]⟩ := by
 unfold zA
 rw [Try.func134]
 rfl
theorem zuo  : (zA Try.prog 134).isSome = true := by kernel_rfl
theorem zra : zA Try.prog 128 = some ⟨Try.f128.body.getD .skip, 59, #[.tmp 4]⟩ := by
 unfold zA
 rw [Try.func128]
 rfl
theorem zy6  : (zA Try.prog 128).isSome = true := by kernel_rfl
theorem zqz : zA Try.prog 132 = some ⟨Try.f132.body.getD .skip, 21, #[.tmp 2]⟩ := by
 unfold zA
 rw [Try.func132]
 rfl
theorem zu9  : (zA Try.prog 132).isSome = true := by kernel_rfl
theorem zs8 : zA Try.prog 133 = some ⟨Try.f133.body.getD .skip, 62, #[.tmp 6]⟩ := by
 unfold zA
 rw [Try.func133]
 rfl
theorem zu5  : (zA Try.prog 133).isSome = true := by kernel_rfl
theorem zri : zA Try.prog 135 = some ⟨Try.f135.body.getD .skip, 50, #[.tmp 4]⟩ := by
 unfold zA
 rw [Try.func135]
 rfl
theorem zsh  : (zA Try.prog 135).isSome = true := by kernel_rfl
theorem zqn : zA Try.prog 108 = some ⟨Try.f108.body.getD .skip, 21, #[.tmp 4]⟩ := by
 unfold zA
 rw [Try.func108]
 rfl
theorem zyc  : (zA Try.prog 108).isSome = true := by kernel_rfl
theorem zsg : zA Try.prog 123 = some ⟨Try.f123.body.getD .skip, 9, #[.tmp 3]⟩ := by
 unfold zA
 rw [Try.func123]
 rfl
theorem zqx  : (zA Try.prog 123).isSome = true := by kernel_rfl
theorem zqs : zA Try.prog 122 = some ⟨Try.f122.body.getD .skip, 24, #[.tmp 4]⟩ := by
 unfold zA
 rw [Try.func122]
 rfl
theorem zxd  : (zA Try.prog 122).isSome = true := by kernel_rfl
theorem zr2 : zA Try.prog 127 = some ⟨Try.f127.body.getD .skip, 16, #[.cell 2 122]⟩ := by
 unfold zA
 rw [Try.func127]
 rfl
theorem zyv  : (zA Try.prog 127).isSome = true := by kernel_rfl
theorem zqj : zA Try.prog 124 = some ⟨Try.f124.body.getD .skip, 31, #[.cell 6 42, .tmp 7]⟩ := by
 unfold zA
 rw [Try.func124]
 rfl
theorem zvk  : (zA Try.prog 124).isSome = true := by kernel_rfl
theorem zsj : zA Try.prog 130 = some ⟨Try.f130.body.getD .skip, 8, #[.tmp 3]⟩ := by
 unfold zA
 rw [Try.func130]
 rfl
theorem zrg  : (zA Try.prog 130).isSome = true := by kernel_rfl
theorem ztm : zA Try.prog 129 = some ⟨Try.f129.body.getD .skip, 33, #[.cell 8 42]⟩ := by
 unfold zA
 rw [Try.func129]
 rfl
theorem zui  : (zA Try.prog 129).isSome = true := by kernel_rfl
theorem zsk : zA Try.prog 113 = some ⟨Try.f113.body.getD .skip, 23, #[.cell 6 42, .tmp 7, .tmp 8]⟩ := by
 unfold zA
 rw [Try.func113]
 rfl
theorem zw8  : (zA Try.prog 113).isSome = true := by kernel_rfl
theorem zqv : zA Try.prog 136 = some ⟨Try.f136.body.getD .skip, 33, #[.tmp 4]⟩ := by
 unfold zA
 rw [Try.func136]
 rfl
theorem zr0  : (zA Try.prog 136).isSome = true := by kernel_rfl
theorem zxi : zA Try.prog 41 = some ⟨Try.f41.body.getD .skip, 57, #[.tmp 4]⟩ := by
 unfold zA
 rw [Try.func41]
 rfl
theorem bo41  : (zA Try.prog 41).isSome = true := by kernel_rfl
theorem zw0 : zA Try.prog 81 = some ⟨Try.f81.body.getD .skip, 10, #[.cell 2 56]⟩ := by
 unfold zA
 rw [Try.func81]
 rfl
theorem bo81  : (zA Try.prog 81).isSome = true := by kernel_rfl
theorem zwv : zA Try.prog 82 = some ⟨Try.f82.body.getD .skip, 13, #[.cell 2 42]⟩ := by
 unfold zA
 rw [Try.func82]
 rfl
theorem bo82  : (zA Try.prog 82).isSome = true := by kernel_rfl
theorem zjv : zA Try.prog 39 = some ⟨Try.f39.body.getD .skip, 33, #[.tmp 4]⟩ := by
 unfold zA
 rw [Try.func39]
 rfl
theorem bo39  : (zA Try.prog 39).isSome = true := by kernel_rfl
theorem q0c : zA Try.prog 6 = some ⟨Try.f6.body.getD .skip, 136, #[.tmp 4]⟩ := by
 unfold zA
 rw [Try.func6]
 rfl
def ty :=
 And.intro @ld3 <|
 And.intro @ff29 <|
 And.intro @ld5 <|
 And.intro @zz24 <|
 And.intro @ff24 <|
 And.intro @q0o <|
 And.intro @lr24 <|
 And.intro @q1q <|
 And.intro @zv6 <|
 And.intro @q2v <|
 And.intro @z9y <|
 And.intro @zaj <|
 And.intro @zwt <|
 And.intro @zve <|
 And.intro @zwm <|
 And.intro @zws <|
 And.intro @bs46 <|
 And.intro @zuk <|
 And.intro @bo7 <|
 And.intro @bo8 <|
 And.intro @bo10 <|
 And.intro @bo11 <|
 And.intro @bo13 <|
 And.intro @bo17 <|
 And.intro @bo18 <|
 And.intro @bo48 <|
 And.intro @bo49 <|
 And.intro @bo50 <|
 And.intro @bo51 <|
 And.intro @bo52 <|
 And.intro @bo53 <|
 And.intro @bo54 <|
 And.intro @bo55 <|
 And.intro @bo56 <|
 And.intro @bo57 <|
 And.intro @bo58 <|
 And.intro @bo67 <|
 And.intro @bo69 <|
 And.intro @bo86 <|
 And.intro @bo87 <|
 And.intro @bo88 <|
 And.intro @bo89 <|
 And.intro @bo90 <|
 And.intro @bo91 <|
 And.intro @bo93 <|
 And.intro @bo95 <|
 And.intro @bo97 <|
 And.intro @bo98 <|
 And.intro @zji <|
 And.intro @zka <|
 And.intro @zy8 <|
 And.intro @bo19 <|
 And.intro @bo20 <|
 And.intro @bo21 <|
 And.intro @bo22 <|
 And.intro @bo23 <|
 And.intro @bo24 <|
 And.intro @bo25 <|
 And.intro @bo27 <|
 And.intro @bo40 <|
 And.intro @bo42 <|
 And.intro @bo47 <|
 And.intro @bo63 <|
 And.intro @bo64 <|
 And.intro @bo65 <|
 And.intro @bo68 <|
 And.intro @bo83 <|
 And.intro @bo85 <|
 And.intro @bo92 <|
 And.intro @zp5 <|
 And.intro @z96 <|
 And.intro @zo2 <|
 And.intro @zyu <|
 And.intro @zuo <|
 And.intro @zy6 <|
 And.intro @zu9 <|
 And.intro @zu5 <|
 And.intro @zsh <|
 And.intro @zyc <|
 And.intro @zxd <|
 And.intro @zyv <|
 And.intro @zvk <|
 And.intro @zui <|
 And.intro @zw8 <|
 And.intro @zr0 <|
 And.intro @bo41 <|
 And.intro @bo81 <|
 And.intro @bo82 @bo39
def ga :=
 And.intro @vme <| And.intro @vmb <| And.intro @ty <| And.intro hP <| And.intro @q0g <| And.intro @q0h <| And.intro @wrap64 <| And.intro @List.length_map.{0,0} Int.toNat_natCast
def gb :=
 And.intro ga <| And.intro @List.cons_append.{0} <| And.intro @List.nil_append.{0} <| And.intro @Option.map_some.{0,0} <| And.intro @Option.map_none.{0,0} <| And.intro @zwd <| And.intro @zua vmg
def uZ (l : List V) : List V := (.tup []) :: (.tup []) :: (.tup []) :: (.tup []) :: (.tup []) :: (.tup []) :: (.tup []) :: (.tup []) :: (.tup []) :: (.tup []) :: l
def gc := And.intro gb @zp3
def gq := And.intro @vgd <| And.intro @vst @vix
def gp := And.intro @vmp gq
def gd := And.intro @vmd <| And.intro @vmk <| And.intro @vmo vmg
theorem zL {i : Decidable True} : @decide True i = true := decide_eq_true trivial
abbrev InB (n : Int) : Prop := -9223372036854775808 ≤ n ∧ n ≤ 9223372036854775807
theorem nl0 : ((0 : Nat) : Int) = 0 := rfl
theorem nl1 : ((1 : Nat) : Int) = 1 := rfl
theorem nl2 : ((2 : Nat) : Int) = 2 := rfl
theorem nl4 : ((4 : Nat) : Int) = 4 := rfl
theorem nl8 : ((8 : Nat) : Int) = 8 := rfl
theorem nl10 : ((10 : Nat) : Int) = 10 := rfl
theorem nl12 : ((12 : Nat) : Int) = 12 := rfl
theorem nl16 : ((16 : Nat) : Int) = 16 := rfl
theorem nl20 : ((20 : Nat) : Int) = 20 := rfl
theorem zha : ((256 : Nat) : Int) = 256 := rfl
theorem bt42 : BT Try.prog 42 5 256 := ⟨Try.underlying42, by kernel_rfl, by kernel_rfl, by kernel_rfl, by kernel_rfl, by decide⟩
theorem z42 : zeroV Try.prog 42 = some (blkV (zC 256)) := by kernel_rfl
theorem zf42 : zZ Try.prog 42 (blkV (zC 256)) = true := by kernel_rfl
section
variable {b b' : List UInt8}
theorem fd42 (h : b.length = 256) : zZ Try.prog 42 (.d (blkD b)) = true := bt42.fits jL h
theorem z04 (h : b.length = 256) : qL Try.prog 42 0 (some (.d (blkD b))) = some (.d (blkD b)) := bt42.load jL h
theorem zam (h : b.length = 256) : qL Try.prog 42 0 (some (blkV b)) = some (blkV b) := bt42.load isB_v h
theorem ztz (h : b.length = 256) (h' : b'.length = 256) : qI Try.prog 42 0 (.d (blkD b)) (.d (blkD b')) = some (.d (blkD b)) := bt42.store jL h jL h'
theorem z7y (h : b.length = 256) (h' : b'.length = 256) : qI Try.prog 42 0 (.d (blkD b)) (blkV b') = some (.d (blkD b)) := bt42.store jL h isB_v h'
theorem zqk (h : b.length = 256) (h' : b'.length = 256) : qI Try.prog 42 0 (blkV b) (blkV b') = some (blkV b) := bt42.store isB_v h isB_v h'
theorem ia42 {S : Store} {j x : Nat} {i : Nat} (hi : i < 256) : zE Try.prog S 42 (.ref j x 0) (.d (.int .i64 (i : Int))) = some (.ref j x i) := by rw [bt42.ia hi, Nat.zero_add]
theorem zll : (blkV b).one = true := rfl
theorem q0x {S : Store} : Go.Vm.frz S zH (blkV b) = some (blkD b) := isB_v.frz (n := 10)
end
theorem z256 : (zC 256).length = 256 := rfl
theorem zpt {n : Int} : IntKind.u8.wrap n = n % 256 := rfl
theorem cv35 {S : Store} {n : Nat} : qD Try.prog S 3 5 (.d (.int .i64 (n : Int))) = some (.d (.int .u8 ((UInt8.ofNat (n % 256)).toNat : Int)), 0) := by
 have h1 : Try.prog.underlying 3 = some (.int .i64) := by kernel_rfl
 have h2 : Try.prog.underlying 5 = some (.int .u8) := by kernel_rfl
 have e : ((UInt8.ofNat (n % 256)).toNat : Int) = (n : Int) % 256 := by rw [UInt8.toNat_ofNat']; omega
 simp only [qD, h1, h2]
 rw [zpt, e]
theorem cvu {S : Store} {i : Nat} (h : i < 100) : qD Try.prog S 3 170 (.d (.int .i64 (i : Int))) = some (.d (.int .u64 (i : Int)), 0) := by
 have h1 : Try.prog.underlying 3 = some (.int .i64) := by kernel_rfl
 have h2 : Try.prog.underlying 170 = some (.int .u64) := by kernel_rfl
 have e : IntKind.u64.wrap (i : Int) = (i : Int) := by
  have : IntKind.u64.wrap (i : Int) = (i : Int) % 18446744073709551616 := rfl
  rw [this]; omega
 simp only [qD, h1, h2]
 rw [e]
theorem zq6 {K K' : IntKind} {t : TypeId} {v i : Nat} (hK : K.bits = 64) (h : i < 8) : binV Try.prog .shr t (.d (.int K (v : Int))) (.d (.int K' ((8 * i : Nat) : Int))) = some (.d (.int K ((v / 256 ^ i : Nat) : Int))) := by
 have key : ∀ k : Nat, k ≤ 64 → ((v : Int).fdiv (2 ^ (min ((k : Int)).toNat K.bits))) = ((v / 2 ^ k : Nat) : Int) := fun k hk => by
  have e : min ((k : Int)).toNat K.bits = k := by rw [hK]; omega
  rw [e, Int.fdiv_eq_ediv_of_nonneg _ (by exact_mod_cast Nat.zero_le (2 ^ k)), Int.natCast_ediv]
  norm_cast
 simp only [binV, qP]
 rw [if_neg (by omega), key _ (by omega)]
 have e3 : 2 ^ (8 * i) = 256 ^ i := by rw [Nat.pow_mul]
 rw [e3]
 rfl
def MayL (l : Lay) : Prop := 16 ≤ l.blocks ∧ l.blocks ≤ 512 ∧ 8 ≤ l.inodes ∧ l.inodes ≤ 128 ∧ l.inodes.tmod 8 = 0 ∧ 2 + l.inodes.tdiv 8 < l.blocks
instance (l : Lay) : Decidable (MayL l) := by unfold MayL; exact inferInstance
theorem zxe {P : Program} {t : TypeId} {a b c : Int} (hb : ¬ b = 0) (h : a.tmod b = c) : binV P .rem t (.d (.int .i64 a)) (.d (.int .i64 b)) = some (.d (.int .i64 c)) := by
 simp only [binV, qP, hb, if_true, if_false, Option.map_some, h]
theorem rem8 {a : Int} : binV Try.prog .rem 3 (.d (.int .i64 a)) (.d (.int .i64 8)) = some (.d (.int .i64 (a.tmod 8))) := zxe (by decide) rfl
theorem quo8 {a : Int} (h : InB a) : binV Try.prog .quo 3 (.d (.int .i64 a)) (.d (.int .i64 8)) = some (.d (.int .i64 (a.tdiv 8))) := by
 have hb : ¬ (8 : Int) = 0 := by decide
 have h2 : IntKind.i64.wrap (a.tdiv 8) = a.tdiv 8 := wrap64 (by
  rcases Int.le_total 0 a with h0 | h0
  ·rw [Int.tdiv_eq_ediv_of_nonneg h0]; omega
  ·have e : a.tdiv 8 = -((-a).tdiv 8) := by rw [Int.neg_tdiv, Int.neg_neg]
   rw [e, Int.tdiv_eq_ediv_of_nonneg (by omega)]; omega)
 simp only [binV, qP, hb, if_false, Option.map_some, h2]
 rfl
theorem zfu (l : Lay) (hb : InB l.blocks) (hi : InB l.inodes) : Ev cfg 67 [encLay l] (.ret (.d (.int .i64 (if MayL l then 0 else 1)))) := by
 refine jW rfl rfl zv2 ?_
 show Wp cfg (Try.f67.body.getD .skip) ((.d (encLay l)) :: uZ (uZ ((.tup []) :: (.tup []) :: (.tup []) :: (.tup []) :: (.tup []) :: (.tup []) :: (.tup []) :: (.tup []) :: []))) [] [] _
 unfold uZ
 conv => arg 2; whnf
 generalize hp : (if MayL l then (0 : Int) else 1) = p
 have hq := quo8 hi
 have hr := rem8 (a := l.inodes)
 by_cases c1 : l.blocks < 16
 ·rw [if_neg (fun h => by have := h.1; omega)] at hp; subst hp
  simp (maxSteps:=1000000) (disch:=first|assumption|omega|rfl) only [↓gp, gc, Nat.reduceAdd]
  exact zO rfl rfl rfl
 by_cases c2 : l.blocks > 512
 ·rw [if_neg (fun h => by have := h.2.1; omega)] at hp; subst hp
  simp (maxSteps:=1000000) (disch:=first|assumption|omega|rfl) only [↓gp, gc, Nat.reduceAdd]
  exact zO rfl rfl rfl
 by_cases c3 : l.inodes < 8
 ·rw [if_neg (fun h => by have := h.2.2.1; omega)] at hp; subst hp
  simp (maxSteps:=1000000) (disch:=first|assumption|omega|rfl) only [↓gp, gc, Nat.reduceAdd]
  exact zO rfl rfl rfl
 by_cases c4 : l.inodes > 128
 ·rw [if_neg (fun h => by have := h.2.2.2.1; omega)] at hp; subst hp
  simp (maxSteps:=1000000) (disch:=first|assumption|omega|rfl) only [↓gp, gc, Nat.reduceAdd]
  exact zO rfl rfl rfl
 by_cases c5 : l.inodes.tmod 8 = 0
 case neg =>
  rw [if_neg (fun h => c5 h.2.2.2.2.1)] at hp; subst hp
  simp (maxSteps:=1000000) (disch:=first|assumption|omega|rfl) only [↓gp, gc, Nat.reduceAdd, hr]
  exact zO rfl rfl rfl
 have hd : 0 ≤ l.inodes.tdiv 8 ∧ l.inodes.tdiv 8 ≤ 16 := by
  rw [Int.tdiv_eq_ediv_of_nonneg (by omega)]; omega
 have hw : IntKind.i64.wrap (2 + l.inodes.tdiv 8) = 2 + l.inodes.tdiv 8 := wrap64 (by omega)
 by_cases c6 : 2 + l.inodes.tdiv 8 ≥ l.blocks
 ·rw [if_neg (fun h => by have := h.2.2.2.2.2; omega)] at hp; subst hp
  simp (maxSteps:=1000000) (disch:=first|assumption|omega|rfl) only [↓gp, gc, Nat.reduceAdd, hr, hq, hw, c5]
  exact zO rfl rfl rfl
 ·rw [if_pos ⟨by omega, by omega, by omega, by omega, c5, by omega⟩] at hp; subst hp
  simp (maxSteps:=1000000) (disch:=first|assumption|omega|rfl) only [↓gp, gc, Nat.reduceAdd, hr, hq, hw, c5]
  exact zO rfl rfl rfl
theorem zod (a w n : Nat) (ha : a ≤ 1000000) (hw : w ≤ 1000000) (hn : n ≤ 1000000) : Ev cfg 116 [.int .i64 (a : Int), .int .i64 (w : Int), .int .i64 (n : Int)] (.ret (.d (.bool (decide (1 ≤ w ∧ a + w ≤ n))))) := by
 refine jW rfl rfl zqu ?_
 show Wp cfg (Try.f116.body.getD .skip) ((.d (.int .i64 (a : Int))) :: (.d (.int .i64 (w : Int))) :: (.d (.int .i64 (n : Int))) :: uZ (uZ ((.tup []) :: (.tup []) :: []))) [] [] _
 unfold uZ
 conv => arg 2; whnf
 generalize hp : decide (1 ≤ w ∧ a + w ≤ n) = p
 have h0 : (a : Int) ≥ 0 := by omega
 have hwr : IntKind.i64.wrap ((n : Int) - (w : Int)) = (n : Int) - (w : Int) := wrap64 (by omega)
 by_cases c1 : (w : Int) ≥ 1
 case neg =>
  rw [decide_eq_false (by omega)] at hp; subst hp
  simp (maxSteps:=1000000) (disch:=first|assumption|omega|rfl) only [↓gp, gc, Nat.reduceAdd]
  exact zO rfl rfl rfl
 by_cases c2 : (w : Int) ≤ (n : Int)
 case neg =>
  rw [decide_eq_false (by omega)] at hp; subst hp
  simp (maxSteps:=1000000) (disch:=first|assumption|omega|rfl) only [↓gp, gc, Nat.reduceAdd]
  exact zO rfl rfl rfl
 by_cases c3 : (a : Int) ≤ (n : Int) - (w : Int)
 ·rw [decide_eq_true (by omega)] at hp; subst hp
  simp (maxSteps:=1000000) (disch:=first|assumption|omega|rfl) only [↓gp, gc, Nat.reduceAdd, hwr]
  exact zO rfl rfl rfl
 ·rw [decide_eq_false (by omega)] at hp; subst hp
  simp (maxSteps:=1000000) (disch:=first|assumption|omega|rfl) only [↓gp, gc, Nat.reduceAdd, hwr]
  exact zO rfl rfl rfl
end Go.Proofs.Ytobgdmgldagjkaa
end
