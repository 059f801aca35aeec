/- Rules for regions that draw and give up; calls by the store. -/
import Derived.Test.YtobgdmgldagjkaaGreatProg
import Derived.Test.YtobgdmgldagjkaaGreatA05
set_option linter.unusedVariables false
set_option linter.unusedSimpArgs false
set_option maxRecDepth 100000
set_option maxHeartbeats 4000000
set_option linter.defProp false
section
namespace Go.Vm
open Go
section
variable {C : Cfg} {ops : Array Oper} {base : Nat} {F : Dfs} {Q : Post}
def RQ (P : Program) (rs : Array ResultVar) (R : Out → zB → Prop) : Post := fun x T S F => F = [] ∧ match x with | .norm => ∃ v, qG P rs T S = some v ∧ R (.ret v) S | .ret => ∃ v, qG P rs T S = some v ∧ R (.ret v) S | .pan v => R (.pan v) S | .exit _ => False
theorem qH {f : FuncId} {c : Code} {n : Nat} {rs : Array ResultVar} {args : List V} {S : zB} {R : Out → zB → Prop} (hc : C.catch_ f = none) (hb : zC C.P f = some ⟨c, n, rs⟩) (h : Wp C c (vW n args) S [] (RQ C.P rs R)) : EvS C f args S R := zl2 hc hb h
def mfS (fn : Fn) (S : zB) (xs ys : List V) : Option Rs := if xs.all V.one && ys.all V.one then some (.val (.fn fn xs ys) S 0) else none
theorem jS {dst : Option Tmp} {ty : TypeId} {pos : String} {after : Array Edge} {l : List Oper} {T : List V} {S : zB} {fn : Fn} {first caps : Array Operand} : WpL C ops (⟨dst, .makeFunc fn first caps, ty, pos, after, none⟩ :: l) T S F Q = WpR C ops dst l T S F Q (mfS fn S (first.toList.map (zE T)) (caps.toList.map (zE T))) := by
 rw [vS rfl]; rfl
theorem z15 {fn : Fn} {S : zB} {xs ys : List V} (h : (xs.all V.one && ys.all V.one) = true) : mfS fn S xs ys = some (.val (.fn fn xs ys) S 0) := if_pos h
end
theorem z80 {P : Program} {T : List V} {dst : Option Tmp} {ty : TypeId} {pos : String} {after : Array Edge} {g : Option (Nat × Bool)} {e : TypeId} {z : V} (hz : zeroV P e = some z) (hf : qB P e z = true) : addO P T ⟨dst, .alloc e, ty, pos, after, g⟩ = some (.row [z] e, fun id => .ref id 0 0) := by
 simp only [addO, hz, hf, if_true]
section
variable (C : Cfg) (ops : Array Oper) (base : Nat)
abbrev Ws := List (Nat × List V × V)
def WOne (i : Nat) (S' : zB) (w : Nat × List V × V) : Prop := ((befs ops).getD i 0).testBit w.1 = true ∨ ∃ o n v S2, ops[w.1]? = some o ∧ effC C (run C n) ops (base + w.1) o w.2.1 S' = some (v, S2, 1) ∧ wV w.2.2 v = true
def WAll (ws : Ws) (i : Nat) (S' : zB) : Prop := ∀ w ∈ ws, WOne C ops base i S' w
def WpEw (K : Ws → List (Nat × Nat) → List V → zB → Prop) (ws : Ws) (cs : List (Nat × Nat)) (i : Nat) (dst : Option Tmp) (T : List V) (S : zB) : Option Rs → Prop
 | some (.val v S' c) => (2 < num2 c → WAll C ops base ws i S') ∧ K (if num2 c = 1 then (i, T, v) :: ws else ws) (cs ++ [(i, num2 c)]) (putT T dst v) S'
 | some (.skip S' _) => WAll C ops base ws i S' ∧ K ws (cs ++ [(i, 3)]) (putT T dst (.tup [])) S'
 | some (.enter f args) => ∃ n v S' c, jU C (run C n) f args S = some (.ret v, S', c) ∧ (2 < num2 c → WAll C ops base ws i S') ∧ K (if num2 c = 1 then (i, T, v) :: ws else ws) (cs ++ [(i, num2 c)]) (putT T dst v) S'
 | _ => False
def WpDw (F : Dfs) (Q : Post) : Ws → List (Nat × Nat) → List Nat → List V → zB → Prop
 | ws, cs, [], T, S => z2l ops cs = true ∧ Q .norm T S F
 | ws, cs, i :: is, T, S => match ops[i]? with
  | none => False
  | some o => match zY ops T o with
   | none => False
   | some false => WpDw F Q ws (cs ++ [(i, 0)]) is (putT T o.dst (.tup [])) S
   | some true => if jV o = true then WpA base (fun cs T S => WpDw F Q ws cs is T S) cs i o.dst T S (addO C.P T o)
    else WpEw C ops base (fun ws cs T S => WpDw F Q ws cs is T S) ws cs i o.dst T S (opV C.P S T o)
end
section
variable {C : Cfg} {ops : Array Oper} {base : Nat} {F : Dfs} {Q : Post}
theorem zll {i : Nat} {S' : zB} : ∀ {ws : Ws}, WAll C ops base ws i S' → ∃ n, ∀ m, n ≤ m → ws.all (jR C (run C m) ops (befs ops) base i S') = true
 | [], _ => ⟨0, fun _ _ => rfl⟩
 | w :: ws, h => by
  obtain ⟨n, hn⟩ := zll (ws := ws) fun x hx => h x (List.mem_cons_of_mem _ hx)
  rcases h w List.mem_cons_self with h1 | ⟨o, k, v, S2, h1, h2, h3⟩
  ·refine ⟨n, fun m hm => ?_⟩
   simp only [List.all_cons, hn m hm, Bool.and_true, jR, h1, Bool.true_or]
  ·refine ⟨max n k, fun m hm => ?_⟩
   have he := vY (z9c C (show k ≤ m by omega)) h2
   simp only [List.all_cons, hn m (by omega), Bool.and_true, jR, h1, he, h3, Bool.or_true]
theorem zre : ∀ {is : List Nat} {ws : Ws} {cs : List (Nat × Nat)} {T : List V} {S : zB}, WpDw C ops base F Q ws cs is T S → ∃ n T' S' cs', seqC C (run C n) ops (befs ops) base ws is T S = some (T', S', cs') ∧ z2l ops (cs ++ cs') = true ∧ Q .norm T' S' F
 | [], ws, cs, T, S, h => ⟨0, T, S, [], rfl, by simpa [WpDw] using h.1, h.2⟩
 | i :: is, ws, cs, T, S, h => by
  have go : ∀ (n : Nat) (o : Oper) (v : V) (S' : zB) (c : Nat), ops[i]? = some o → effC C (run C n) ops (base + i) o T S = some (v, S', c) → (2 < c → WAll C ops base ws i S') → WpDw C ops base F Q (if c = 1 then (i, T, v) :: ws else ws) (cs ++ [(i, c)]) is (putT T o.dst v) S' →
    ∃ n T' S' cs', seqC C (run C n) ops (befs ops) base ws (i :: is) T S = some (T', S', cs') ∧ z2l ops (cs ++ cs') = true ∧ Q .norm T' S' F := by
   intro n o v S' c ho he hb hd
   obtain ⟨m, T2, S2, cs2, h1, h2, h3⟩ := zre hd
   have hw : ∃ k, 2 < c → ∀ m, k ≤ m → ws.all (jR C (run C m) ops (befs ops) base i S') = true := by
    by_cases hc : 2 < c
    ·obtain ⟨k, hk⟩ := zll (hb hc)
     exact ⟨k, fun _ => hk⟩
    ·exact ⟨0, fun h => absurd h hc⟩
   obtain ⟨k, hk⟩ := hw
   refine ⟨max (max n m) k, T2, S2, (i, c) :: cs2, ?_, by simpa using h2, h3⟩
   have he' := vY (z9c C (show n ≤ max (max n m) k by omega)) he
   have h1' := z5i (z9c C (show m ≤ max (max n m) k by omega)) h1
   simp only [seqC, ho, he']
   rw [if_neg, h1']
   rintro ⟨hc, hall⟩
   rw [hk hc _ (by omega)] at hall
   cases hall
  simp only [WpDw] at h
  cases ho : ops[i]? with
  | none => simp [ho] at h
  | some o =>
   simp only [ho] at h
   cases hwt : zY ops T o with
   | none => simp [hwt] at h
   | some b =>
    simp only [hwt] at h
    cases b with
    | false => exact go 0 o (.tup []) S 0 ho (by simp [effC, hwt]) (fun hc => by omega) h
    | true =>
     cases hk : jV o with
     | true =>
      simp only [hk, if_true] at h
      cases hadd : addO C.P T o with
      | none => simp [hadd, WpA] at h
      | some q =>
       obtain ⟨ob, f⟩ := q
       simp only [hadd, WpA] at h
       exact go 0 o (f (base + i)) (S.set (base + i) ob) 2 ho (by simp [effC, hwt, hk, hadd, h.1]) (fun hc => by omega) h.2
     | false =>
      simp only [hk, Bool.false_eq_true, if_false] at h
      cases hop : opV C.P S T o with
      | none => simp [hop, WpEw] at h
      | some r =>
       simp only [hop] at h
       cases r with
       | val v S' c => exact go 0 o v S' (num2 c) ho (by simp [effC, hwt, hk, hop]) h.1 h.2
       | skip S' c => exact go 0 o (.tup []) S' 3 ho (by simp [effC, hwt, hk, hop]) (fun _ => h.1) h.2
       | enter f args =>
        obtain ⟨n, v, S', c, h1, h2, h3⟩ := h
        exact go n o v S' (num2 c) ho (by simp [effC, hwt, hk, hop, h1]) h2 h3
       | dfr f args => exact h.elim
       | pan v => exact h.elim
theorem qX {id : Nat} {T : List V} {S : zB} {is : List Nat} {h : Nat} (ho : z2e C.shared ops = is) (hh : vL ops = h) (hd : WpDw C ops S.length F Q [] [] is T (S ++ List.replicate h .hole)) : Wp C (.region id ops true) T S F Q := by
 subst ho; subst hh
 obtain ⟨n, T', S', cs', h1, h2, h3⟩ := zre hd
 exact ⟨n + 1, .norm, T', S', F, by simp only [exec, h1]; rw [if_pos (by simpa using h2)], h3⟩
theorem zZ {i : Nat} {S' : zB} : WAll C ops base [] i S' := fun w hw => by cases hw
theorem zS {i : Nat} {S' : zB} {w : Nat × List V × V} {ws : Ws} (h : ((befs ops).getD i 0).testBit w.1 = true) (hw : WAll C ops base ws i S') : WAll C ops base (w :: ws) i S' := fun x hx => by
 rcases List.mem_cons.1 hx with rfl | hx
 ·exact .inl h
 ·exact hw x hx
theorem qE {i j : Nat} {S' : zB} {T : List V} {v : V} {ws : Ws} {o : Oper} (ho : ops[j]? = some o) (hwt : zY ops T o = some true) (ha : jV o = false) (hop : opV C.P S' T o = some (.val v S' 1)) (hs : wV v v = true) (hw : WAll C ops base ws i S') : WAll C ops base ((j, T, v) :: ws) i S' := fun x hx => by
 rcases List.mem_cons.1 hx with rfl | hx
 ·exact .inr ⟨o, 0, v, S', ho, by simp [effC, hwt, ha, hop, num2], hs⟩
 ·exact hw x hx
def WpXw (C : Cfg) (ops : Array Oper) (base : Nat) (F : Dfs) (Q : Post) (ws : Ws) (cs : List (Nat × Nat)) (i : Nat) (is : List Nat) (T : List V) (S : zB) (o : Oper) : Bool → Prop
 | true => WpA base (fun cs T S => WpDw C ops base F Q ws cs is T S) cs i o.dst T S (addO C.P T o)
 | false => WpEw C ops base (fun ws cs T S => WpDw C ops base F Q ws cs is T S) ws cs i o.dst T S (opV C.P S T o)
def WpOw (C : Cfg) (ops : Array Oper) (base : Nat) (F : Dfs) (Q : Post) (ws : Ws) (cs : List (Nat × Nat)) (i : Nat) (is : List Nat) (T : List V) (S : zB) (o : Oper) : Option Bool → Prop
 | none => False
 | some false => WpDw C ops base F Q ws (cs ++ [(i, 0)]) is (putT T o.dst (.tup [])) S
 | some true => WpXw C ops base F Q ws cs i is T S o (jV o)
def WpIw (C : Cfg) (ops : Array Oper) (base : Nat) (F : Dfs) (Q : Post) (ws : Ws) (cs : List (Nat × Nat)) (i : Nat) (is : List Nat) (T : List V) (S : zB) : Option Oper → Prop
 | none => False
 | some o => WpOw C ops base F Q ws cs i is T S o (zY ops T o)
section
variable {ws : Ws} {cs : List (Nat × Nat)} {i : Nat} {is : List Nat} {T : List V} {S S' : zB} {o : Oper} {K : Ws → List (Nat × Nat) → List V → zB → Prop} {dst : Option Tmp} {v : V} {c : Nat}
theorem dw1 : WpDw C ops base F Q ws cs [] T S = (z2l ops cs = true ∧ Q .norm T S F) := rfl
theorem dw2 : WpDw C ops base F Q ws cs (i :: is) T S = WpIw C ops base F Q ws cs i is T S (ops[i]?) := by
 show (match ops[i]? with
  | none => False
  | some o => match zY ops T o with
   | none => False
   | some false => WpDw C ops base F Q ws (cs ++ [(i, 0)]) is (putT T o.dst (.tup [])) S
   | some true => if jV o = true then WpA base (fun cs T S => WpDw C ops base F Q ws cs is T S) cs i o.dst T S (addO C.P T o)
    else WpEw C ops base (fun ws cs T S => WpDw C ops base F Q ws cs is T S) ws cs i o.dst T S (opV C.P S T o)) = _
 unfold WpIw WpOw
 cases ops[i]? with
 | none => rfl
 | some o =>
  simp only
  cases zY ops T o with
  | none => rfl
  | some b =>
   cases b with
   | false => rfl
   | true => cases jV o <;> rfl
theorem dw3 : WpIw C ops base F Q ws cs i is T S (some o) = WpOw C ops base F Q ws cs i is T S o (zY ops T o) := rfl
theorem dw4 : WpOw C ops base F Q ws cs i is T S o (some false) = WpDw C ops base F Q ws (cs ++ [(i, 0)]) is (putT T o.dst (.tup [])) S := rfl
theorem dw5 : WpOw C ops base F Q ws cs i is T S o (some true) = WpXw C ops base F Q ws cs i is T S o (jV o) := rfl
theorem dw6 : WpXw C ops base F Q ws cs i is T S o false = WpEw C ops base (fun ws cs T S => WpDw C ops base F Q ws cs is T S) ws cs i o.dst T S (opV C.P S T o) := rfl
theorem dw7 : WpXw C ops base F Q ws cs i is T S o true = WpA base (fun cs T S => WpDw C ops base F Q ws cs is T S) cs i o.dst T S (addO C.P T o) := rfl
theorem dw8 : WpEw C ops base K ws cs i dst T S (some (.val v S' 0)) = K ws (cs ++ [(i, 0)]) (putT T dst v) S' := by simp [WpEw, num2]
theorem dw9 : WpEw C ops base K ws cs i dst T S (some (.val v S' 1)) = K ((i, T, v) :: ws) (cs ++ [(i, 1)]) (putT T dst v) S' := by simp [WpEw, num2]
theorem dw10 : WpEw C ops base K ws cs i dst T S (some (.skip S' c)) = (WAll C ops base ws i S' ∧ K ws (cs ++ [(i, 3)]) (putT T dst (.tup [])) S') := rfl
theorem dw11 : WpEw C ops base K ws cs i dst T S (some (.val v S' 2)) = (WAll C ops base ws i S' ∧ K ws (cs ++ [(i, 3)]) (putT T dst v) S') := by simp [WpEw, num2]
theorem dw12 : WpEw C ops base K ws cs i dst T S (some (.val v S' 3)) = (WAll C ops base ws i S' ∧ K ws (cs ++ [(i, 3)]) (putT T dst v) S') := by simp [WpEw, num2]
end
end
section
variable {C : Cfg} {ops : Array Oper} {base : Nat} {F : Dfs} {Q : Post}
section
variable {K : List (Nat × Nat) → Nat → List Nat → V → zB → Prop} {ws : Ws} {cs : List (Nat × Nat)} {i : Nat} {is : List Nat} {T : List V} {S S' : zB} {o : Oper} {v : V} {c : Nat}
end
end
def cvV (P : Program) (args : List V) : V → Option Rs
 | .fn (.func g) first caps => if args.all V.one && (zC P g).isSome then some (.enter g (first ++ args ++ caps)) else none
 | .d (.fn (.func g) first caps) => if args.all V.one && (zC P g).isSome then some (.enter g (first.map .d ++ args ++ caps.map .d)) else none
 | _ => none
theorem zpo {P : Program} {S : zB} {T : List V} {dst : Option Tmp} {ty : TypeId} {pos : String} {after : Array Edge} {g : Option (Nat × Bool)} {t : Nat} {args : Array Operand} {ts : Array TypeId} : opV P S T ⟨dst, .call { callee := .value (.tmp t), args := args, argTypes := ts }, ty, pos, after, g⟩ = cvV P (args.toList.map (zE T)) (zE T (.tmp t)) := by
 simp only [opV, cvV]
 rfl
theorem zio {P : Program} {args first caps : List V} {g : FuncId} (h1 : args.all V.one = true) (h2 : (zC P g).isSome = true) : cvV P args (.fn (.func g) first caps) = some (.enter g (first ++ args ++ caps)) := by
 simp only [cvV, h1, h2, Bool.and_self, if_true]
section
variable {C : Cfg} {ops : Array Oper} {dst : Option Tmp} {op : Op} {ty : TypeId} {pos : String} {after : Array Edge} {l : List Oper} {T : List V} {S : zB} {F : Dfs} {Q : Post}
theorem zmg {g : Nat × Bool} (hp0 : wD C.P T ⟨dst, op, ty, pos, after, some g⟩ l = none) (hp1 : wD C.P T ⟨dst, op, ty, pos, after, none⟩ l = none) : WpL C ops (⟨dst, op, ty, pos, after, some g⟩ :: l) T S F Q = WpW (WpL C ops (⟨dst, op, ty, pos, after, none⟩ :: l) T S F Q) (WpL C ops l (putT T dst (.tup [])) S F Q) ((qO ops T g.1).map (· == some g.2)) := by
 obtain ⟨j, w⟩ := g
 have hp : wD C.P T ⟨dst, op, ty, pos, after, some (j, w)⟩ l = none := hp0
 have hp' : wD C.P T ⟨dst, op, ty, pos, after, none⟩ l = none := hp1
 have hopv : opV C.P S T ⟨dst, op, ty, pos, after, some (j, w)⟩ = opV C.P S T ⟨dst, op, ty, pos, after, none⟩ := by cases op <;> rfl
 apply propext
 cases hy : (qO ops T j).map (· == some w) with
 | none =>
  simp only [WpW, iff_false]
  rintro ⟨n, x, T', S', F', h1, h2⟩
  simp [seqV, hp, zY, hy] at h1
 | some b =>
  cases b with
  | false =>
   simp only [WpW]
   constructor
   ·rintro ⟨n, x, T', S', F', h1, h2⟩
    simp only [seqV, hp, zY, hy] at h1
    exact ⟨n, x, T', S', F', h1, h2⟩
   ·rintro ⟨n, x, T', S', F', h1, h2⟩
    exact ⟨n, x, T', S', F', by simp only [seqV, hp, zY, hy]; exact h1, h2⟩
  | true =>
   simp only [WpW]
   constructor
   ·rintro ⟨n, x, T', S', F', h1, h2⟩
    simp only [seqV, hp, zY, hy, hopv] at h1
    exact ⟨n, x, T', S', F', by simp only [seqV, hp', zY]; exact h1, h2⟩
   ·rintro ⟨n, x, T', S', F', h1, h2⟩
    simp only [seqV, hp', zY] at h1
    exact ⟨n, x, T', S', F', by simp only [seqV, hp, zY, hy, hopv]; exact h1, h2⟩
theorem zhi {g : Nat × Bool} (hp0 : wD C.P T ⟨dst, op, ty, pos, after, some g⟩ l = none) (hp1 : wD C.P T ⟨dst, op, ty, pos, after, none⟩ l = none) : WpL C ops (⟨dst, op, ty, pos, after, some g⟩ :: l) T S F Q = WpG C ops dst op ty pos after l T S F Q ((qO ops T g.1).map (· == some g.2)) := by
 rw [zmg hp0 hp1]
 cases (qO ops T g.1).map (· == some g.2) with
 | none => rfl
 | some b => cases b <;> rfl
theorem zew {t : TypeId} {n : Nat} {ps : Array (Nat × Operand)} {c : Call} {d2 : Option Tmp} {ty2 : TypeId} {pos2 : String} {after2 : Array Edge} {g2 : Option (Nat × Bool)} {g : Nat × Bool} : WpL C ops (⟨dst, .buildSlice t n ps, ty, pos, after, some g⟩ :: ⟨d2, .call c, ty2, pos2, after2, g2⟩ :: l) T S F Q = WpG C ops dst (.buildSlice t n ps) ty pos after (⟨d2, .call c, ty2, pos2, after2, g2⟩ :: l) T S F Q ((qO ops T g.1).map (· == some g.2)) := zhi rfl rfl
end
end Go.Vm
end
section
namespace Go.Vm
def byD (x : UInt8) : D := .int .u8 x.toNat
def blkD (b : List UInt8) : D := .agg (b.map byD)
def blkV (b : List UInt8) : V := .agg (b.map fun x => .d (byD x))
def IsB (v : V) (b : List UInt8) : Prop := v = .d (blkD b) ∨ v = blkV b
structure BT (P : Program) (t e : TypeId) (n : Nat) : Prop where
 u : P.underlying t = some (.array n e)
 sz : sz P t = some n
 agg : aggT P t = true
 se : Go.Vm.sz P e = some 1
 ae : aggT P e = false
 two : 2 ≤ n
theorem IsB.cells {v : V} {b : List UInt8} (h : IsB v b) : v.cells = b.map fun x => .d (byD x) := by
 rcases h with rfl | rfl
 ·simp [blkD, V.cells, D.cells, Function.comp_def]
 ·rfl
theorem IsB.isAgg {v : V} {b : List UInt8} (h : IsB v b) : v.isAgg = true := by rcases h with rfl | rfl <;> rfl
theorem IsB.one {v : V} {b : List UInt8} (h : IsB v b) : v.one = true := by rcases h with rfl | rfl <;> rfl
theorem jT {b : List UInt8} : IsB (.d (blkD b)) b := .inl rfl
theorem isB_v {b : List UInt8} : IsB (blkV b) b := .inr rfl
theorem zfv {S : zB} {n : Nat} : ∀ b : List UInt8, allO (frz S (n + 1)) (b.map fun x => .d (byD x)) = some (b.map byD)
 | [] => rfl
 | x :: r => by
  have h : frz S (n + 1) (.d (byD x)) = some (byD x) := rfl
  rw [List.map_cons]
  simp only [allO, zfv r, h, List.map_cons]
theorem IsB.frz {v : V} {b : List UInt8} (h : IsB v b) {S : zB} {n : Nat} : Go.Vm.frz S (n + 2) v = some (blkD b) := by
 rcases h with rfl | rfl
 ·rfl
 ·show (match allO (Go.Vm.frz S (n + 1)) (b.map fun x => .d (byD x)) with | some ds => if ds.any D.isAgg then none else some (D.agg ds) | none => none) = _
  rw [zfv]
  have : (b.map byD).any D.isAgg = false := by
   rw [List.any_eq_false]
   intro x hx
   obtain ⟨y, _, rfl⟩ := List.mem_map.1 hx
   simp [byD, D.isAgg]
  simp only [this]
  rfl
theorem IsB.frzIds {v : V} {b : List UInt8} (h : IsB v b) {S : zB} {n : Nat} : Go.Vm.frzIds S n v = [] := by
 rcases h with rfl | rfl
 ·cases n <;> rfl
 ·cases n with
  | zero => rfl
  | succ n =>
   show (b.map fun x => V.d (byD x)).flatMap (Go.Vm.frzIds S n) = []
   rw [List.flatMap_eq_nil_iff]
   intro x hx
   obtain ⟨y, _, rfl⟩ := List.mem_map.1 hx
   cases n <;> rfl
section
variable {P : Program} {t e : TypeId} {n : Nat} {v w : V} {b b' : List UInt8}
theorem BT.fits (h : BT P t e n) (hv : IsB v b) (hb : b.length = n) : qB P t v = true := by
 unfold qB
 rw [hv.one, hv.isAgg, h.agg, h.sz, hv.cells, List.length_map, hb]
 simp
theorem BT.fitsE (h : BT P t e n) {k : Int} : qB P e (.d (.int .u8 k)) = true := by
 unfold qB
 rw [h.ae, h.se]
 rfl
theorem BT.load (h : BT P t e n) (hv : IsB v b) (hb : b.length = n) : qT P t 0 (some v) = some v := by
 show (if decide (0 = 0) && qB P t v then some v else z6j P t v.cells 0) = _
 rw [h.fits hv hb]
 rfl
theorem BT.store (h : BT P t e n) (hv : IsB v b) (hb : b.length = n) (hw : IsB w b') (hb' : b'.length = n) : qM P t 0 v w = some v := by
 unfold qM
 rw [h.fits hv hb, hv.cells, hw.cells, hv.isAgg, hw.isAgg, List.length_map, List.length_map, hb, hb']
 simp
theorem BT.get (h : BT P t e n) (hv : IsB v b) (hb : b.length = n) {i : Nat} (hi : i < b.length) : qT P e i (some v) = some (.d (.int .u8 (b[i].toNat : Int))) := by
 have h2 := h.two
 show (if decide (i = 0) && qB P e v then some v else z6j P e v.cells i) = _
 have hf : qB P e v = false := by
  unfold qB
  rw [hv.isAgg, h.ae]
  simp
 rw [hf, Bool.and_false, if_neg (by decide)]
 unfold z6j
 rw [h.se, hv.cells, h.ae]
 simp only [List.length_map]
 rw [if_pos (by omega)]
 simp only [Bool.false_eq_true, if_false, if_true, List.getElem?_map, List.getElem?_eq_getElem hi, Option.map_some]
 rfl
theorem BT.put (h : BT P t e n) (hv : IsB v b) (hb : b.length = n) {i : Nat} (hi : i < b.length) {x : UInt8} : qM P e i (.d (.int .u8 (x.toNat : Int))) v = some (blkV (b.set i x)) := by
 have h2 := h.two
 unfold qM
 rw [h.fitsE, hv.cells, hv.isAgg]
 have h1 : (V.d (D.int .u8 (x.toNat : Int))).cells = [V.d (byD x)] := rfl
 rw [h1]
 simp only [List.length_map, List.length_cons, List.length_nil, if_true]
 have hne : (b.length == 0 + 1) = false := by rw [beq_eq_false_iff_ne]; omega
 rw [hne, Bool.and_false, Bool.false_and, if_neg (by decide)]
 rw [if_pos (by simp; omega)]
 unfold blkV
 rw [List.set_eq_take_append_cons_drop, if_pos hi]
 simp [List.map_take, List.map_drop]
theorem BT.ia (h : BT P t e n) {S : zB} {j x o : Nat} {i : Nat} (hi : i < n) : zI P S t (.ref j x o) (.d (.int .i64 (i : Int))) = some (.ref j x (o + i)) := by
 simp only [zI, intOf?, h.u, h.se]
 rw [if_pos ⟨by omega, by omega⟩]
 simp
end
def Dfr (C : Cfg) : Dfs → zB → zB → Prop
  | [], S, S' => S' = S
  | (f, args) :: r, S, S' => ∃ b S1, zC C.P f = some b ∧ Wp C b.code (vW b.ntmps args) S [] (fun x T S2 F => (x = .norm ∨ x = .ret) ∧ F = [] ∧ (∃ v, qG C.P b.results T S2 = some v) ∧ S2 = S1) ∧ Dfr C r S1 S'
theorem zck {C : Cfg} {n m : Nat} (h : n ≤ m) {f : FuncId} {args : List V} {S S' : zB} (hp : z01 C.P (exec C n) f args S = some S') : z01 C.P (exec C m) f args S = some S' := by
 unfold z01 at hp ⊢
 cases hb : zC C.P f with
 | none => rw [hb] at hp; cases hp
 | some b =>
  rw [hb] at hp
  simp only at hp ⊢
  cases he : exec C n b.code (vW b.ntmps args) S [] with
  | none => rw [he] at hp; cases hp
  | some r => rw [he] at hp; rw [z67 C h _ _ _ _ _ he]; exact hp
theorem zfm {C : Cfg} {n m : Nat} (h : n ≤ m) : ∀ {F : Dfs} {S S' : zB}, dfrV C.P (exec C n) F S = some S' → dfrV C.P (exec C m) F S = some S'
  | [], S, S', hd => hd
  | (f, args) :: r, S, S', hd => by
    unfold dfrV at hd ⊢
    split at hd
    · rename_i S1 h1
      rw [zck h h1]
      exact zfm h hd
    · cases hd
theorem znj {C : Cfg} : ∀ {F : Dfs} {S S' : zB}, Dfr C F S S' → ∃ n, dfrV C.P (exec C n) F S = some S'
  | [], S, S', h => ⟨0, by cases h; rfl⟩
  | (f, args) :: r, S, S', h => by
    obtain ⟨b, S1, hb, ⟨n, x, T, S2, F, h1, h2, rfl, ⟨v, h3⟩, rfl⟩, h4⟩ := h
    obtain ⟨m, hm⟩ := znj h4
    refine ⟨max n m, ?_⟩
    have hp : z01 C.P (exec C n) f args S = some S2 := by
      unfold z01
      rw [hb]
      simp only [h1]
      rcases h2 with rfl | rfl <;> simp only [h3, Option.map_some]
    unfold dfrV
    rw [zck (Nat.le_max_left n m) hp]
    exact zfm (Nat.le_max_right n m) hm
def RD (C : Cfg) (rs : Array ResultVar) (R : Out → zB → Prop) : Post := fun x T S F => (x = .norm ∨ x = .ret) ∧ ∃ S' v, Dfr C F S S' ∧ qG C.P rs T S' = some v ∧ R (.ret v) S'
theorem zbp {C : Cfg} {f : FuncId} {c : Code} {n : Nat} {rs : Array ResultVar} {args : List V} {S : zB} {R : Out → zB → Prop} (hc : C.catch_ f = none) (hb : zC C.P f = some ⟨c, n, rs⟩) (h : Wp C c (vW n args) S [] (RD C rs R)) : EvS C f args S R := by
 obtain ⟨k, x, T, S', F, h1, h2, S2, v, h3, h4, h5⟩ := h
 obtain ⟨m, hm⟩ := znj h3
 have he := z67 C (Nat.le_max_left k m) _ _ _ _ _ h1
 have hd := zfm (Nat.le_max_right k m) hm
 refine ⟨max k m + 1, .ret v, S2, ?_, h5⟩
 rcases h2 with rfl | rfl <;> simp only [run, hc, hb, he, endV, hd, h4]
end Go.Vm
end
section
namespace Go.Proofs.YtobgdmgldagjkaaGreat
open Go.Vm
def layB (b : List UInt8) (k : Nat) (data : List UInt8) : List UInt8 := b.take k ++ data ++ b.drop (k + data.length)
theorem jB {b data : List UInt8} {k : Nat} (h : k + data.length ≤ b.length) : (layB b k data).length = b.length := by unfold layB; simp; omega
theorem z7x {b : List UInt8} {k : Nat} : layB b k [] = b := by unfold layB; simp
theorem z5f {b data : List UInt8} {k : Nat} {x : UInt8} (h : k + data.length < b.length) : layB b k (data ++ [x]) = (layB b k data).set (k + data.length) x := by
 unfold layB
 have h1 : (b.take k ++ data).length = k + data.length := by simp; omega
 rw [List.set_append_right _ _ (by omega), h1, Nat.sub_self, List.length_append, List.length_singleton]
 have : b.drop (k + data.length) = b[k + data.length] :: b.drop (k + data.length + 1) := List.drop_eq_getElem_cons h
 rw [this, List.set_cons_zero]
 simp [Nat.add_assoc]
def leB (n v : Nat) : List UInt8 := (List.range n).map fun i => UInt8.ofNat (v / 256 ^ i % 256)
theorem qV (n v : Nat) : (leB n v).length = n := by simp [leB]
theorem zhb (n v : Nat) : leB (n + 1) v = leB n v ++ [UInt8.ofNat (v / 256 ^ n % 256)] := by unfold leB; rw [List.range_succ, List.map_append]; rfl
def zK (n : Nat) : List UInt8 := List.replicate n 0
theorem z2o (n : Nat) : (zK n).length = n := by simp [zK]
def mixS (h : Nat) (x : UInt8) : Nat := (h ^^^ x.toNat) * 16777619 % 4294967296
def mixL (h : Nat) (s : List UInt8) : Nat := s.foldl mixS h
def ze2 (s : List UInt8) : Nat := mixL 2166136261 s
theorem zvf (h : Nat) (x : UInt8) : mixS h x < 4294967296 := Nat.mod_lt _ (by decide)
theorem zfw : ∀ (s : List UInt8) (h : Nat), h < 4294967296 → mixL h s < 4294967296
 | [], h, hh => hh
 | x :: r, h, _ => zfw r (mixS h x) (zvf h x)
theorem zo8 (s : List UInt8) : ze2 s < 4294967296 := zfw s _ (by decide)
theorem z3n {a d : List UInt8} {n : Nat} (h : d.length ≤ n) : layB (a ++ zK n) a.length d = (a ++ d) ++ zK (n - d.length) := by
 unfold layB zK
 rw [List.take_left, List.drop_append, List.drop_eq_nil_of_le (by omega), List.nil_append, List.drop_replicate]
 congr 2
 omega
def magicB : List UInt8 := [101, 115, 99, 104, 101, 97, 116, 49]
def supL (B I M : Nat) : List UInt8 := magicB ++ leB 2 B ++ leB 2 I ++ leB 8 M
theorem z3k (B I M : Nat) : (supL B I M).length = 20 := by simp [supL, magicB, qV]
def supB (B I M : Nat) : List UInt8 := supL B I M ++ leB 4 (ze2 (supL B I M)) ++ zK 232
theorem z4x (B I M : Nat) : (supB B I M).length = 256 := by simp [supB, z3k, qV, z2o]
theorem zl4 (B I M : Nat) : layB (zK 256) 0 magicB = magicB ++ zK 248 ∧ layB (magicB ++ zK 248) 8 (leB 2 B) = (magicB ++ leB 2 B) ++ zK 246 ∧ layB ((magicB ++ leB 2 B) ++ zK 246) 10 (leB 2 I) = (magicB ++ leB 2 B ++ leB 2 I) ++ zK 244 ∧ layB ((magicB ++ leB 2 B ++ leB 2 I) ++ zK 244) 12 (leB 8 M) = supL B I M ++ zK 236 ∧ ((supL B I M ++ zK 236).drop 0).take 20 = supL B I M ∧ layB (supL B I M ++ zK 236) 20 (leB 4 (ze2 (supL B I M))) = supB B I M := by
 refine ⟨?_, ?_, ?_, ?_, ?_, ?_⟩
 ·exact z3n (a := []) (n := 256) (d := magicB) (by decide)
 ·exact z3n (a := magicB) (n := 248) (by rw [qV]; omega)
 ·have := z3n (a := magicB ++ leB 2 B) (d := leB 2 I) (n := 246) (by rw [qV]; omega)
  simpa [magicB, qV] using this
 ·have := z3n (a := magicB ++ leB 2 B ++ leB 2 I) (d := leB 8 M) (n := 244) (by rw [qV]; omega)
  simpa [magicB, qV, supL] using this
 ·rw [List.drop_zero, List.take_append_of_le_length (by rw [z3k]; omega), List.take_of_length_le (by rw [z3k]; omega)]
 ·have := z3n (a := supL B I M) (d := leB 4 (ze2 (supL B I M))) (n := 236) (by rw [qV]; omega)
  rw [z3k, qV] at this
  exact this
def leN : List UInt8 → Nat
 | [] => 0
 | x :: r => x.toNat + 256 * leN r
theorem zbg : ∀ (n v : Nat), leN (leB n v) = v % 256 ^ n
 | 0, v => by simp [leB, leN, Nat.mod_one]
 | n + 1, v => by
  have h : leB (n + 1) v = UInt8.ofNat (v % 256) :: leB n (v / 256) := by
   unfold leB
   rw [List.range_succ_eq_map, List.map_cons, List.map_map]
   congr 1
   ·simp
   ·apply List.map_congr_left
    intro i _
    simp only [Function.comp_apply]
    rw [Nat.pow_succ, Nat.mul_comm, ← Nat.div_div_eq_div_mul]
  have e : (UInt8.ofNat (v % 256)).toNat = v % 256 := by rw [UInt8.toNat_ofNat']; omega
  have e2 : (256 : Nat) ^ (n + 1) = 256 * 256 ^ n := by rw [Nat.pow_succ, Nat.mul_comm]
  rw [h, leN, zbg n (v / 256), e, e2, Nat.mod_mul]
theorem zgn : ∀ (l : List UInt8) (x : UInt8), leN (l ++ [x]) = leN l + 256 ^ l.length * x.toNat
 | [], x => by simp [leN]
 | y :: r, x => by
  rw [List.cons_append, leN, leN, zgn r x, List.length_cons, Nat.pow_succ]
  rw [Nat.mul_add, Nat.mul_comm (256 ^ r.length) 256, Nat.mul_assoc]
  omega
theorem zr7 : ∀ l : List UInt8, leN l < 256 ^ l.length
 | [] => by simp [leN]
 | x :: r => by
  have h1 := zr7 r
  have h2 : x.toNat < 256 := x.toNat_lt
  rw [leN, List.length_cons, Nat.pow_succ]
  omega
def zdo (b : List UInt8) (i : Nat) : List UInt8 := b.set (i / 8) (b.getD (i / 8) 0 ||| UInt8.ofNat (2 ^ (i % 8)))
def mapB (k : Nat) : List UInt8 := (List.range k).foldl zdo (zK 256)
theorem z9b : ∀ (l : List Nat) (b : List UInt8), (l.foldl zdo b).length = b.length
 | [], b => rfl
 | i :: r, b => by rw [List.foldl_cons, z9b r, zdo, List.length_set]
theorem z0z (k : Nat) : (mapB k).length = 256 := by unfold mapB; rw [z9b, z2o]
theorem zkx (k : Nat) : mapB (k + 1) = zdo (mapB k) k := by unfold mapB; rw [List.range_succ, List.foldl_append]; rfl
def mask : Nat := 189675528931834019185291110900057547885337006341120
noncomputable def cfg : Cfg := { P := Tryz.prog, mixed := by kernel_rfl, shared := fun f => Nat.testBit mask f, ext := fun f => Option.none, catch_ := fun f => Option.none }
theorem hP : cfg.P = Tryz.prog := rfl
def encB (l : List UInt8) : D := .sl (l.map fun b => .int .u8 b.toNat)
theorem zwp (a : Int) : z18 Tryz.prog 3 (.int .i64 a) = true := by kernel_rfl
theorem z8a (a : Int) : qB Tryz.prog 3 (.d (.int .i64 a)) = true := by kernel_rfl
theorem ff3 {a : Int} : qB Tryz.prog 3 (.d (.int .i64 a)) = true := by kernel_rfl
theorem ld3 {S : zB} {a : Int} : kF Tryz.prog S 3 (.d (.ptr (.int .i64 a))) = some (.d (.int .i64 a)) := by kernel_rfl
theorem ff47 {a : Int} : qB Tryz.prog 47 (.d (.int .i64 a)) = true := by kernel_rfl
theorem q1j (a : Int) : z18 Tryz.prog 5 (.int .u8 a) = true := by kernel_rfl
theorem zr1 (a : Int) : qB Tryz.prog 5 (.d (.int .u8 a)) = true := by kernel_rfl
theorem ld5 {S : zB} {a : Int} : kF Tryz.prog S 5 (.d (.ptr (.int .u8 a))) = some (.d (.int .u8 a)) := by kernel_rfl
theorem ff4 {a : Bool} : qB Tryz.prog 4 (.d (.bool a)) = true := by kernel_rfl
structure Lay where
 blocks : Int
 inodes : Int
 merge : Int
 deriving DecidableEq
def encLay (a : Lay) : D := .agg [.int .i64 a.blocks, .int .i64 a.inodes, .int .u64 a.merge]
theorem z32 : zeroV Tryz.prog 32 = some (.agg [.d (.int .i64 0), .d (.int .i64 0), .d (.int .u64 0)]) := by kernel_rfl
theorem zf32 : qB Tryz.prog 32 (.agg [.d (.int .i64 0), .d (.int .i64 0), .d (.int .u64 0)]) = true := by kernel_rfl
theorem zz32  : zeroV Tryz.prog 32 = some (.agg [.d (.int .i64 0), .d (.int .i64 0), .d (.int .u64 0)]) := z32
theorem ff32 {a : Lay} : qB Tryz.prog 32 (.d (encLay a)) = true := by kernel_rfl
theorem q2w {x0 x1 x2 : V} : qB Tryz.prog 32 (.agg [x0, x1, x2]) = true := by kernel_rfl
theorem lr32 {a : Lay} : qT Tryz.prog 32 0 (some (.d (encLay a))) = some (.d (encLay a)) := by kernel_rfl
theorem q1w {x0 x1 x2 : V} : qT Tryz.prog 32 0 (some (.agg [x0, x1, x2])) = some (.agg [x0, x1, x2]) := by kernel_rfl
theorem zy4 {a : Lay} {x0 x1 x2 : V} : qM Tryz.prog 32 0 (.d (encLay a)) (.agg [x0, x1, x2]) = some (.d (encLay a)) := by kernel_rfl
theorem q28 {x0 x1 x2 y0 y1 y2 : V} : qM Tryz.prog 32 0 (.agg [x0, x1, x2]) (.agg [y0, y1, y2]) = some (.agg [x0, x1, x2]) := by kernel_rfl
theorem z0q {a : Lay} : qT Tryz.prog 3 0 (some (.d (encLay a))) = some ((.d (.int .i64 a.blocks))) := by kernel_rfl
theorem vF {j x y : Nat} : zT Tryz.prog 32 0 (.ref j x y) = some (.ref j x (y + 0)) := by kernel_rfl
theorem zks {a : Lay} : qT Tryz.prog 3 1 (some (.d (encLay a))) = some ((.d (.int .i64 a.inodes))) := by kernel_rfl
theorem zb6 {j x y : Nat} : zT Tryz.prog 32 1 (.ref j x y) = some (.ref j x (y + 1)) := by kernel_rfl
theorem zzg {a : Lay} : qT Tryz.prog 30 2 (some (.d (encLay a))) = some ((.d (.int .u64 a.merge))) := by kernel_rfl
theorem zy9 {j x y : Nat} : zT Tryz.prog 32 2 (.ref j x y) = some (.ref j x (y + 2)) := by kernel_rfl
theorem zyp : zOk Tryz.prog 5 = true := by kernel_rfl
theorem zjc {m : Nat} (h : m ≤ 1000000) : room Tryz.prog 5 m = true := zc4 rfl (by decide +kernel) h
theorem ix76 {S : zB} {l : List UInt8} {i : Nat} (h : i < l.length) : zI Tryz.prog S 76 (.d (.sl (l.map (fun b : UInt8 => D.int .u8 b.toNat)))) (.d (.int .i64 i)) = some (.d (.ptr (.int .u8 (l[i].toNat : Int)))) := znc Tryz.underlying76 (fun a => q1j _) h
theorem zq2 {S : zB} {xs : List D} : zO Tryz.prog S .len [76] [.d (.sl xs)] = some (.val (.d (.int .i64 xs.length)) S 0) := zmp Tryz.underlying76
theorem bs76 {S : zB} {a : Int} : bs1 Tryz.prog S 76 (.d (.int .u8 a)) = some (.val (.ts [.int .u8 a]) S 0) := by kernel_rfl
theorem zsa : zOk Tryz.prog 3 = true := by kernel_rfl
theorem q3a : (sz Tryz.prog 3).isSome = true := by kernel_rfl
theorem zk2 {m : Nat} (h : m ≤ 1000000) : room Tryz.prog 3 m = true := zc4 rfl (by decide +kernel) h
theorem ix22 {S : zB} {l : List Int} {i : Nat} (h : i < l.length) : zI Tryz.prog S 22 (.d (.sl (l.map (D.int .i64)))) (.d (.int .i64 i)) = some (.d (.ptr ((D.int .i64) l[i]))) := znc Tryz.underlying22 (fun a => zwp a) h
theorem q18 {S : zB} {xs : List D} : zO Tryz.prog S .len [22] [.d (.sl xs)] = some (.val (.d (.int .i64 xs.length)) S 0) := zmp Tryz.underlying22
theorem zts {S : zB} {xs : List D} : zO Tryz.prog S .len [22] [.ts xs] = some (.val (.d (.int .i64 xs.length)) S 0) := znm Tryz.underlying22
theorem bs22 {S : zB} {a : Int} : bs1 Tryz.prog S 22 (.d (.int .i64 a)) = some (.val (.ts [.int .i64 a]) S 0) := by kernel_rfl
theorem ap22 {S : zB} {v : V} {xs : List Int} (a : Int) (ho : OwnS S v 3 (xs.map fun x => .d (D.int .i64 x))) (hl : xs.length < 1000000) : ∃ v' S' c, qN Tryz.prog S 22 22 v (.ts [D.int .i64 a]) = some (v', S', c) ∧ OwnS S' v' 3 ((xs ++ [a]).map fun x => .d (D.int .i64 x)) ∧ (∀ j o, S[j]? = some o → NotAt v j → S'[j]? = some o ∧ NotAt v' j) ∧ S.length ≤ S'.length := zis a Tryz.underlying22 zsa q3a (zwp a) ho (zk2 (by omega))
theorem q29 {s : List UInt8} {i : Nat} (h : i < s.length) : z2n Tryz.prog 9 (.d (.str s)) (.d (.int .i64 i)) = some (.d (.int .u8 s[i].toNat)) := zwh Tryz.underlying9 h
theorem zyq {S : zB} {s : List UInt8} : zO Tryz.prog S .len [9] [.d (.str s)] = some (.val (.d (.int .i64 s.length)) S 0) := zwi Tryz.underlying9
theorem zth : zC Tryz.prog 100 = some ⟨Tryz.f100.body.getD .skip, 10, #[.tmp 2]⟩ := by
 unfold zC
 rw [Tryz.func100]
 rfl
theorem q0p  : (zC Tryz.prog 100).isSome = true := by kernel_rfl
theorem zww : zC Tryz.prog 101 = some ⟨Tryz.f101.body.getD .skip, 64, #[.tmp 4]⟩ := by
 unfold zC
 rw [Tryz.func101]
 rfl
theorem zyg  : (zC Tryz.prog 101).isSome = true := by kernel_rfl
theorem q1a : zC Tryz.prog 63 = some ⟨Tryz.f63.body.getD .skip, 36, #[.tmp 2]⟩ := by
 unfold zC
 rw [Tryz.func63]
 rfl
theorem bo63  : (zC Tryz.prog 63).isSome = true := by kernel_rfl
theorem q0d : zC Tryz.prog 31 = some ⟨Tryz.f31.body.getD .skip, 37, #[.tmp 2, .tmp 3]⟩ := by
 unfold zC
 rw [Tryz.func31]
 rfl
theorem bo31  : (zC Tryz.prog 31).isSome = true := by kernel_rfl
theorem q1c : zC Tryz.prog 73 = some ⟨Tryz.f73.body.getD .skip, 10, #[.cell 2 32]⟩ := by
 unfold zC
 rw [Tryz.func73]
 rfl
theorem bo73  : (zC Tryz.prog 73).isSome = true := by kernel_rfl
theorem zzq : zC Tryz.prog 45 = some ⟨Tryz.f45.body.getD .skip, 9, #[.tmp 2]⟩ := by
 unfold zC
 rw [Tryz.func45]
 rfl
theorem bo45  : (zC Tryz.prog 45).isSome = true := by kernel_rfl
theorem zs1 : zC Tryz.prog 120 = some ⟨Tryz.f120.body.getD .skip, 44, #[.cell 2 42, .tmp 3]⟩ := by
 unfold zC
 rw [Tryz.func120]
 rfl
theorem zva  : (zC Tryz.prog 120).isSome = true := by kernel_rfl
theorem zza : zC Tryz.prog 80 = some ⟨Tryz.f80.body.getD .skip, 10, #[.tmp 2]⟩ := by
 unfold zC
 rw [Tryz.func80]
 rfl
theorem bo80  : (zC Tryz.prog 80).isSome = true := by kernel_rfl
theorem bo77  : (zC Tryz.prog 77).isSome = true := by kernel_rfl
theorem zu9 : zC Tryz.prog 108 = some ⟨Tryz.f108.body.getD .skip, 13, #[.tmp 2]⟩ := by
 unfold zC
 rw [Tryz.func108]
 rfl
theorem za1  : (zC Tryz.prog 108).isSome = true := by kernel_rfl
theorem zlg  : (zC Tryz.prog 136).isSome = true := by kernel_rfl
theorem zrn : zC Tryz.prog 71 = some ⟨Tryz.f71.body.getD .skip, 46, #[.cell 6 47]⟩ := by
 unfold zC
 rw [Tryz.func71]
 rfl
theorem bo71  : (zC Tryz.prog 71).isSome = true := by kernel_rfl
theorem zws : zC Tryz.prog 137 = some ⟨Tryz.f137.body.getD .skip, 17, #[.cell 2 42]⟩ := by
 unfold zC
 rw [Tryz.func137]
 rfl
theorem zsn  : (zC Tryz.prog 137).isSome = true := by kernel_rfl
theorem zwj : zC Tryz.prog 138 = some ⟨Tryz.f138.body.getD .skip, 16, #[.tmp 2]⟩ := by
 unfold zC
 rw [Tryz.func138]
 rfl
theorem zvg  : (zC Tryz.prog 138).isSome = true := by kernel_rfl
theorem zr9 : zC Tryz.prog 78 = some ⟨Tryz.f78.body.getD .skip, 21, #[.cell 4 42, .tmp 5]⟩ := by
 unfold zC
 rw [Tryz.func78]
 rfl
theorem bo78  : (zC Tryz.prog 78).isSome = true := by kernel_rfl
theorem zzl : zC Tryz.prog 79 = some ⟨Tryz.f79.body.getD .skip, 35, #[.cell 2 32, .tmp 3]⟩ := by
 unfold zC
 rw [Tryz.func79]
 rfl
theorem bo79  : (zC Tryz.prog 79).isSome = true := by kernel_rfl
theorem zxt : zC Tryz.prog 81 = some ⟨Tryz.f81.body.getD .skip, 9, #[.tmp 2]⟩ := by
 unfold zC
 rw [Tryz.func81]
 rfl
theorem bo81  : (zC Tryz.prog 81).isSome = true := by kernel_rfl
theorem zz3 : zC Tryz.prog 75 = some ⟨Tryz.f75.body.getD .skip, 29, #[.tmp 2]⟩ := by
 unfold zC
 rw [Tryz.func75]
 rfl
theorem bo75  : (zC Tryz.prog 75).isSome = true := by kernel_rfl
theorem ztb : zC Tryz.prog 107 = some ⟨Tryz.f107.body.getD .skip, 39, #[.tmp 6]⟩ := by
 unfold zC
 rw [Tryz.func107]
 rfl
theorem zqq  : (zC Tryz.prog 107).isSome = true := by kernel_rfl
theorem zuq : zC Tryz.prog 145 = some ⟨Tryz.f145.body.getD .skip, 6, #[.cell 2 42]⟩ := by
 unfold zC
 rw [Tryz.func145]
 rfl
theorem zuz  : (zC Tryz.prog 145).isSome = true := by kernel_rfl
theorem zuj : zC Tryz.prog 146 = some ⟨Tryz.f146.body.getD .skip, 35, #[.cell 8 42]⟩ := by
 unfold zC
 rw [Tryz.func146]
 rfl
theorem zkv  : (zC Tryz.prog 146).isSome = true := by kernel_rfl
theorem zv5 : zC Tryz.prog 147 = some ⟨Tryz.f147.body.getD .skip, 42, #[.tmp 8, .tmp 9]⟩ := by
 unfold zC
 rw [Tryz.func147]
 rfl
theorem q2m  : (zC Tryz.prog 147).isSome = true := by kernel_rfl
theorem zuo : zC Tryz.prog 148 = some ⟨Tryz.f148.body.getD .skip, 34, #[.cell 6 42]⟩ := by
 unfold zC
 rw [Tryz.func148]
 rfl
theorem zv3  : (zC Tryz.prog 148).isSome = true := by kernel_rfl
theorem ztk : zC Tryz.prog 149 = some ⟨Tryz.f149.body.getD .skip, 5, #[.tmp 2]⟩ := by
 unfold zC
 rw [Tryz.func149]
 rfl
theorem q0t  : (zC Tryz.prog 149).isSome = true := by kernel_rfl
theorem zvv : zC Tryz.prog 122 = some ⟨Tryz.f122.body.getD .skip, 12, #[.tmp 2, .tmp 3]⟩ := by
 unfold zC
 rw [Tryz.func122]
 rfl
theorem zvc  : (zC Tryz.prog 122).isSome = true := by kernel_rfl
theorem zki : zC Tryz.prog 111 = some ⟨Tryz.f111.body.getD .skip, 25, #[.tmp 4]⟩ := by
 unfold zC
 rw [Tryz.func111]
 rfl
theorem zhz  : (zC Tryz.prog 111).isSome = true := by kernel_rfl
theorem ztr : zC Tryz.prog 140 = some ⟨Tryz.f140.body.getD .skip, 34, #[.cell 6 42]⟩ := by
 unfold zC
 rw [Tryz.func140]
 rfl
theorem zsv  : (zC Tryz.prog 140).isSome = true := by kernel_rfl
theorem zvm : zC Tryz.prog 118 = some ⟨Tryz.f118.body.getD .skip, 39, #[.tmp 6, .tmp 7]⟩ := by
 unfold zC
 rw [Tryz.func118]
 rfl
theorem zxc  : (zC Tryz.prog 118).isSome = true := by kernel_rfl
theorem zus : zC Tryz.prog 119 = some ⟨Tryz.f119.body.getD .skip, 35, #[.tmp 6]⟩ := by
 unfold zC
 rw [Tryz.func119]
 rfl
theorem z8x  : (zC Tryz.prog 119).isSome = true := by kernel_rfl
theorem ztx : zC Tryz.prog 109 = some ⟨Tryz.f109.body.getD .skip, 6, #[.tmp 2]⟩ := by
 unfold zC
 rw [Tryz.func109]
 rfl
theorem zke  : (zC Tryz.prog 109).isSome = true := by kernel_rfl
theorem zvb : zC Tryz.prog 144 = some ⟨Tryz.f144.body.getD .skip, 25, #[.tmp 6]⟩ := by
 unfold zC
 rw [Tryz.func144]
 rfl
theorem zn3  : (zC Tryz.prog 144).isSome = true := by kernel_rfl
theorem zt2 : zC Tryz.prog 161 = some ⟨Tryz.f161.body.getD .skip, 20, #[.tmp 4]⟩ := by
 unfold zC
 rw [Tryz.func161]
 rfl
theorem zy8  : (zC Tryz.prog 161).isSome = true := by kernel_rfl
theorem znk : zC Tryz.prog 116 = some ⟨Tryz.f116.body.getD .skip, 17, #[.tmp 2, .tmp 3, .tmp 4]⟩ := by
 unfold zC
 rw [Tryz.func116]
 rfl
theorem zin  : (zC Tryz.prog 116).isSome = true := by kernel_rfl
theorem q0q : zC Tryz.prog 25 = some ⟨Tryz.f25.body.getD .skip, 9, #[.tmp 2]⟩ := by
 unfold zC
 rw [Tryz.func25]
 rfl
theorem bo25  : (zC Tryz.prog 25).isSome = true := by kernel_rfl
theorem zy1 : zC Tryz.prog 27 = some ⟨Tryz.f27.body.getD .skip, 9, #[.cell 2 55]⟩ := by
 unfold zC
 rw [Tryz.func27]
 rfl
theorem bo27  : (zC Tryz.prog 27).isSome = true := by kernel_rfl
theorem zmo : zC Tryz.prog 50 = some ⟨Tryz.f50.body.getD .skip, 31, #[.tmp 8]⟩ := by
 unfold zC
 rw [Tryz.func50]
 rfl
theorem bo50  : (zC Tryz.prog 50).isSome = true := by kernel_rfl
theorem zzu : zC Tryz.prog 66 = some ⟨Tryz.f66.body.getD .skip, 16, #[.tmp 8]⟩ := by
 unfold zC
 rw [Tryz.func66]
 rfl
theorem bo66  : (zC Tryz.prog 66).isSome = true := by kernel_rfl
theorem q19 : zC Tryz.prog 16 = some ⟨Tryz.f16.body.getD .skip, 10, #[.tmp 2]⟩ := by
 unfold zC
 rw [Tryz.func16]
 rfl
theorem bo16  : (zC Tryz.prog 16).isSome = true := by kernel_rfl
theorem zxd : zC Tryz.prog 17 = some ⟨Tryz.f17.body.getD .skip, 40, #[.tmp 0]⟩ := by
 unfold zC
 rw [Tryz.func17]
 rfl
theorem bo17  : (zC Tryz.prog 17).isSome = true := by kernel_rfl
theorem zrj : zC Tryz.prog 19 = some ⟨Tryz.f19.body.getD .skip, 57, #[.tmp 6, .tmp 7]⟩ := by
 unfold zC
 rw [Tryz.func19]
 rfl
theorem bo19  : (zC Tryz.prog 19).isSome = true := by kernel_rfl
theorem zzo : zC Tryz.prog 43 = some ⟨Tryz.f43.body.getD .skip, 9, #[.tmp 2, .tmp 3]⟩ := by
 unfold zC
 rw [Tryz.func43]
 rfl
theorem bo43  : (zC Tryz.prog 43).isSome = true := by kernel_rfl
theorem zrd : zC Tryz.prog 23 = some ⟨Tryz.f23.body.getD .skip, 48, #[.tmp 6]⟩ := by
 unfold zC
 rw [Tryz.func23]
 rfl
theorem bo23  : (zC Tryz.prog 23).isSome = true := by kernel_rfl
theorem q0e : zC Tryz.prog 21 = some ⟨Tryz.f21.body.getD .skip, 8, #[.tmp 2]⟩ := by
 unfold zC
 rw [Tryz.func21]
 rfl
theorem bo21  : (zC Tryz.prog 21).isSome = true := by kernel_rfl
theorem zyr : zC Tryz.prog 64 = some ⟨Tryz.f64.body.getD .skip, 8, #[.tmp 2]⟩ := by
 unfold zC
 rw [Tryz.func64]
 rfl
theorem bo64  : (zC Tryz.prog 64).isSome = true := by kernel_rfl
theorem zz8 : zC Tryz.prog 44 = some ⟨Tryz.f44.body.getD .skip, 45, #[.tmp 4]⟩ := by
 unfold zC
 rw [Tryz.func44]
 rfl
theorem bo44  : (zC Tryz.prog 44).isSome = true := by kernel_rfl
theorem zxv : zC Tryz.prog 24 = some ⟨Tryz.f24.body.getD .skip, 9, #[.tmp 2]⟩ := by
 unfold zC
 rw [Tryz.func24]
 rfl
theorem bo24  : (zC Tryz.prog 24).isSome = true := by kernel_rfl
theorem zz1 : zC Tryz.prog 32 = some ⟨Tryz.f32.body.getD .skip, 9, #[.tmp 2]⟩ := by
 unfold zC
 rw [Tryz.func32]
 rfl
theorem bo32  : (zC Tryz.prog 32).isSome = true := by kernel_rfl
theorem q0a : zC Tryz.prog 18 = some ⟨Tryz.f18.body.getD .skip, 12, #[.tmp 2]⟩ := by
 unfold zC
 rw [Tryz.func18]
 rfl
theorem bo18  : (zC Tryz.prog 18).isSome = true := by kernel_rfl
theorem q1d : zC Tryz.prog 53 = some ⟨Tryz.f53.body.getD .skip, 22, #[.tmp 2, .tmp 3]⟩ := by
 unfold zC
 rw [Tryz.func53]
 rfl
theorem bo53  : (zC Tryz.prog 53).isSome = true := by kernel_rfl
theorem zyz : zC Tryz.prog 33 = some ⟨Tryz.f33.body.getD .skip, 30, #[.cell 4 70]⟩ := by
 unfold zC
 rw [Tryz.func33]
 rfl
theorem bo33  : (zC Tryz.prog 33).isSome = true := by kernel_rfl
theorem zzt : zC Tryz.prog 49 = some ⟨Tryz.f49.body.getD .skip, 14, #[.cell 4 42]⟩ := by
 unfold zC
 rw [Tryz.func49]
 rfl
theorem bo49  : (zC Tryz.prog 49).isSome = true := by kernel_rfl
theorem zxq : zC Tryz.prog 98 = some ⟨Tryz.f98.body.getD .skip, 20, #[.tmp 2]⟩ := by
 unfold zC
 rw [Tryz.func98]
 rfl
theorem bo98  : (zC Tryz.prog 98).isSome = true := by kernel_rfl
theorem zs8 : zC Tryz.prog 155 = some ⟨Tryz.f155.body.getD .skip, 35, #[.tmp 4]⟩ := by
 unfold zC
 rw [Tryz.func155]
 rfl
theorem zvr  : (zC Tryz.prog 155).isSome = true := by kernel_rfl
theorem zxs : zC Tryz.prog 72 = some ⟨Tryz.f72.body.getD .skip, 8, #[.cell 4 55]⟩ := by
 unfold zC
 rw [Tryz.func72]
 rfl
theorem bo72  : (zC Tryz.prog 72).isSome = true := by kernel_rfl
theorem q0o : zC Tryz.prog 74 = some ⟨Tryz.f74.body.getD .skip, 42, #[.cell 4 42, .tmp 5]⟩ := by
 unfold zC
 rw [Tryz.func74]
 rfl
theorem bo74  : (zC Tryz.prog 74).isSome = true := by kernel_rfl
theorem zqx : zC Tryz.prog 97 = some ⟨Tryz.f97.body.getD .skip, 67, #[.tmp 8, .tmp 9]⟩ := by
 unfold zC
 rw [Tryz.func97]
 rfl
theorem bo97  : (zC Tryz.prog 97).isSome = true := by kernel_rfl
theorem zz9 : zC Tryz.prog 37 = some ⟨Tryz.f37.body.getD .skip, 10, #[.tmp 2]⟩ := by
 unfold zC
 rw [Tryz.func37]
 rfl
theorem bo37  : (zC Tryz.prog 37).isSome = true := by kernel_rfl
theorem zyn : zC Tryz.prog 65 = some ⟨Tryz.f65.body.getD .skip, 26, #[.tmp 8]⟩ := by
 unfold zC
 rw [Tryz.func65]
 rfl
theorem bo65  : (zC Tryz.prog 65).isSome = true := by kernel_rfl
theorem zxo : zC Tryz.prog 91 = some ⟨Tryz.f91.body.getD .skip, 11, #[.tmp 2, .tmp 3]⟩ := by
 unfold zC
 rw [Tryz.func91]
 rfl
theorem bo91  : (zC Tryz.prog 91).isSome = true := by kernel_rfl
theorem zy3 : zC Tryz.prog 28 = some ⟨Tryz.f28.body.getD .skip, 27, #[.tmp 4]⟩ := by
 unfold zC
 rw [Tryz.func28]
 rfl
theorem bo28  : (zC Tryz.prog 28).isSome = true := by kernel_rfl
theorem zyf : zC Tryz.prog 68 = some ⟨Tryz.f68.body.getD .skip, 6, #[.tmp 3]⟩ := by
 unfold zC
 rw [Tryz.func68]
 rfl
theorem bo68  : (zC Tryz.prog 68).isSome = true := by kernel_rfl
theorem zvu : zC Tryz.prog 105 = some ⟨Tryz.f105.body.getD .skip, 6, #[.tmp 3]⟩ := by
 unfold zC
 rw [Tryz.func105]
 rfl
theorem q30  : (zC Tryz.prog 105).isSome = true := by kernel_rfl
theorem zx8 : zC Tryz.prog 26 = some ⟨Tryz.f26.body.getD .skip, 60, #[.tmp 4]⟩ := by
 unfold zC
 rw [Tryz.func26]
 rfl
theorem bo26  : (zC Tryz.prog 26).isSome = true := by kernel_rfl
theorem zz0 : zC Tryz.prog 96 = some ⟨Tryz.f96.body.getD .skip, 19, #[.tmp 4]⟩ := by
 unfold zC
 rw [Tryz.func96]
 rfl
theorem bo96  : (zC Tryz.prog 96).isSome = true := by kernel_rfl
theorem ztt : zC Tryz.prog 115 = some ⟨Tryz.f115.body.getD .skip, 27, #[.cell 4 42]⟩ := by
 unfold zC
 rw [Tryz.func115]
 rfl
theorem zru  : (zC Tryz.prog 115).isSome = true := by kernel_rfl
theorem ztf : zC Tryz.prog 113 = some ⟨Tryz.f113.body.getD .skip, 19, #[.cell 3 42]⟩ := by
 unfold zC
 rw [Tryz.func113]
 rfl
theorem q1t  : (zC Tryz.prog 113).isSome = true := by kernel_rfl
theorem zjr : zC Tryz.prog 114 = some ⟨Tryz.f114.body.getD .skip, 39, #[.tmp 4]⟩ := by
 unfold zC
 rw [Tryz.func114]
 rfl
theorem znv  : (zC Tryz.prog 114).isSome = true := by kernel_rfl
theorem zwl : zC Tryz.prog 134 = some ⟨Tryz.f134.body.getD .skip, 25, #[.tmp 2]⟩ := by
 unfold zC
 rw [Tryz.func134]
 rfl
theorem z9p  : (zC Tryz.prog 134).isSome = true := by kernel_rfl
theorem zu7 : zC Tryz.prog 135 = some ⟨Tryz.f135.body.getD .skip, 72, #[.tmp 4, .tmp 5]⟩ := by
 unfold zC
 rw [Tryz.func135]
 rfl
theorem zp5  : (zC Tryz.prog 135).isSome = true := by kernel_rfl
theorem zs7 : zC Tryz.prog 130 = some ⟨Tryz.f130.body.getD .skip, 6, #[.tmp 4]⟩ := by
 unfold zC
 rw [Tryz.func130]
 rfl
theorem q2l  : (zC Tryz.prog 130).isSome = true := by kernel_rfl
theorem zt3 : zC Tryz.prog 158 = some ⟨Tryz.f158.body.getD .skip, 38, #[.tmp 2]⟩ := by
 unfold zC
 rw [Tryz.func158]
 rfl
theorem zyx  : (zC Tryz.prog 158).isSome = true := by kernel_rfl
theorem zuy : zC Tryz.prog 166 = some ⟨Tryz.f166.body.getD .skip, 24, #[.tmp 4]⟩ := by
 unfold zC
 rw [Tryz.func166]
 rfl
theorem q14  : (zC Tryz.prog 166).isSome = true := by kernel_rfl
theorem zw8 : zC Tryz.prog 141 = some ⟨Tryz.f141.body.getD .skip, 59, #[.tmp 4]⟩ := by
 unfold zC
 rw [Tryz.func141]
 rfl
theorem zxf  : (zC Tryz.prog 141).isSome = true := by kernel_rfl
theorem zu3 : zC Tryz.prog 159 = some ⟨Tryz.f159.body.getD .skip, 21, #[.tmp 2]⟩ := by
 unfold zC
 rw [Tryz.func159]
 rfl
theorem zzs  : (zC Tryz.prog 159).isSome = true := by kernel_rfl
theorem zut : zC Tryz.prog 160 = some ⟨Tryz.f160.body.getD .skip, 62, #[.tmp 6]⟩ := by
 unfold zC
 rw [Tryz.func160]
 rfl
theorem q10  : (zC Tryz.prog 160).isSome = true := by kernel_rfl
theorem zs3 : zC Tryz.prog 167 = some ⟨Tryz.f167.body.getD .skip, 50, #[.tmp 4]⟩ := by
 unfold zC
 rw [Tryz.func167]
 rfl
theorem zwk  : (zC Tryz.prog 167).isSome = true := by kernel_rfl
theorem zxr : zC Tryz.prog 89 = some ⟨Tryz.f89.body.getD .skip, 21, #[.tmp 4]⟩ := by
 unfold zC
 rw [Tryz.func89]
 rfl
theorem bo89  : (zC Tryz.prog 89).isSome = true := by kernel_rfl
theorem zso : zC Tryz.prog 129 = some ⟨Tryz.f129.body.getD .skip, 9, #[.tmp 3]⟩ := by
 unfold zC
 rw [Tryz.func129]
 rfl
theorem zsf  : (zC Tryz.prog 129).isSome = true := by kernel_rfl
theorem zsc : zC Tryz.prog 128 = some ⟨Tryz.f128.body.getD .skip, 24, #[.tmp 4]⟩ := by
 unfold zC
 rw [Tryz.func128]
 rfl
theorem zyt  : (zC Tryz.prog 128).isSome = true := by kernel_rfl
theorem zxk : zC Tryz.prog 90 = some ⟨Tryz.f90.body.getD .skip, 16, #[.cell 2 80]⟩ := by
 unfold zC
 rw [Tryz.func90]
 rfl
theorem bo90  : (zC Tryz.prog 90).isSome = true := by kernel_rfl
theorem zry : zC Tryz.prog 110 = some ⟨Tryz.f110.body.getD .skip, 31, #[.cell 6 42, .tmp 7]⟩ := by
 unfold zC
 rw [Tryz.func110]
 rfl
theorem zye  : (zC Tryz.prog 110).isSome = true := by kernel_rfl
theorem zw1 : zC Tryz.prog 143 = some ⟨Tryz.f143.body.getD .skip, 8, #[.tmp 3]⟩ := by
 unfold zC
 rw [Tryz.func143]
 rfl
theorem zt0  : (zC Tryz.prog 143).isSome = true := by kernel_rfl
theorem zsr : zC Tryz.prog 142 = some ⟨Tryz.f142.body.getD .skip, 33, #[.cell 8 42]⟩ := by
 unfold zC
 rw [Tryz.func142]
 rfl
theorem zyy  : (zC Tryz.prog 142).isSome = true := by kernel_rfl
theorem zy2 : zC Tryz.prog 70 = some ⟨Tryz.f70.body.getD .skip, 23, #[.cell 6 42, .tmp 7, .tmp 8]⟩ := by
 unfold zC
 rw [Tryz.func70]
 rfl
theorem bo70  : (zC Tryz.prog 70).isSome = true := by kernel_rfl
theorem zrv : zC Tryz.prog 168 = some ⟨Tryz.f168.body.getD .skip, 33, #[.tmp 4]⟩ := by
 unfold zC
 rw [Tryz.func168]
 rfl
theorem zvw  : (zC Tryz.prog 168).isSome = true := by kernel_rfl
theorem zx1 : zC Tryz.prog 20 = some ⟨Tryz.f20.body.getD .skip, 13, #[.cell 2 42]⟩ := by
 unfold zC
 rw [Tryz.func20]
 rfl
theorem bo20  : (zC Tryz.prog 20).isSome = true := by kernel_rfl
theorem q0r : zC Tryz.prog 76 = some ⟨Tryz.f76.body.getD .skip, 23, #[.tmp 4]⟩ := by
 unfold zC
 rw [Tryz.func76]
 rfl
theorem bo76  : (zC Tryz.prog 76).isSome = true := by kernel_rfl
theorem zwn : zC Tryz.prog 106 = some ⟨Tryz.f106.body.getD .skip, 29, #[.cell 6 78]⟩ := by
 unfold zC
 rw [Tryz.func106]
 rfl
theorem zwy  : (zC Tryz.prog 106).isSome = true := by kernel_rfl
theorem bo62  : (zC Tryz.prog 62).isSome = true := by kernel_rfl
theorem q22 : zC Tryz.prog 4 = some ⟨Tryz.f4.body.getD .skip, 135, #[.tmp 4]⟩ := by
 unfold zC
 rw [Tryz.func4]
 rfl
theorem q09 : zC Tryz.prog 39 = some ⟨Tryz.f39.body.getD .skip, 26, #[.tmp 4]⟩ := by
 unfold zC
 rw [Tryz.func39]
 rfl
theorem bo39  : (zC Tryz.prog 39).isSome = true := by kernel_rfl
theorem zxa : zC Tryz.prog 22 = some ⟨Tryz.f22.body.getD .skip, 28, #[.tmp 4]⟩ := by
 unfold zC
 rw [Tryz.func22]
 rfl
theorem bo22  : (zC Tryz.prog 22).isSome = true := by kernel_rfl
theorem q06 : zC Tryz.prog 69 = some ⟨Tryz.f69.body.getD .skip, 19, #[.tmp 4]⟩ := by
 unfold zC
 rw [Tryz.func69]
 rfl
theorem bo69  : (zC Tryz.prog 69).isSome = true := by kernel_rfl
theorem bo67  : (zC Tryz.prog 67).isSome = true := by kernel_rfl
theorem q39  : (zC Tryz.prog 117).isSome = true := by kernel_rfl
theorem zzc  : (zC Tryz.prog 104).isSome = true := by kernel_rfl
theorem q1z  : (zC Tryz.prog 112).isSome = true := by kernel_rfl
def ty :=
 And.intro @ff3 <|
 And.intro @ld3 <|
 And.intro @ff47 <|
 And.intro @ld5 <|
 And.intro @ff4 <|
 And.intro @zz32 <|
 And.intro @ff32 <|
 And.intro @q2w <|
 And.intro @lr32 <|
 And.intro @q1w <|
 And.intro @zy4 <|
 And.intro @q28 <|
 And.intro @z0q <|
 And.intro @vF <|
 And.intro @zks <|
 And.intro @zb6 <|
 And.intro @zzg <|
 And.intro @zy9 <|
 And.intro @bs76 <|
 And.intro @zts <|
 And.intro @bs22 <|
 And.intro @zyq <|
 And.intro @q0p <|
 And.intro @zyg <|
 And.intro @bo63 <|
 And.intro @bo31 <|
 And.intro @bo73 <|
 And.intro @bo45 <|
 And.intro @zva <|
 And.intro @bo80 <|
 And.intro @bo77 <|
 And.intro @za1 <|
 And.intro @zlg <|
 And.intro @bo71 <|
 And.intro @zsn <|
 And.intro @zvg <|
 And.intro @bo78 <|
 And.intro @bo79 <|
 And.intro @bo81 <|
 And.intro @bo75 <|
 And.intro @zqq <|
 And.intro @zuz <|
 And.intro @zkv <|
 And.intro @q2m <|
 And.intro @zv3 <|
 And.intro @q0t <|
 And.intro @zvc <|
 And.intro @zhz <|
 And.intro @zsv <|
 And.intro @zxc <|
 And.intro @z8x <|
 And.intro @zke <|
 And.intro @zn3 <|
 And.intro @zy8 <|
 And.intro @zin <|
 And.intro @bo25 <|
 And.intro @bo27 <|
 And.intro @bo50 <|
 And.intro @bo66 <|
 And.intro @bo16 <|
 And.intro @bo17 <|
 And.intro @bo19 <|
 And.intro @bo43 <|
 And.intro @bo23 <|
 And.intro @bo21 <|
 And.intro @bo64 <|
 And.intro @bo44 <|
 And.intro @bo24 <|
 And.intro @bo32 <|
 And.intro @bo18 <|
 And.intro @bo53 <|
 And.intro @bo33 <|
 And.intro @bo49 <|
 And.intro @bo98 <|
 And.intro @zvr <|
 And.intro @bo72 <|
 And.intro @bo97 <|
 And.intro @bo37 <|
 And.intro @bo65 <|
 And.intro @bo91 <|
 And.intro @bo28 <|
 And.intro @bo26 <|
 And.intro @bo96 <|
 And.intro @zru <|
 And.intro @znv <|
 And.intro @z9p <|
 And.intro @zp5 <|
 And.intro @zyx <|
 And.intro @q14 <|
 And.intro @zxf <|
 And.intro @zzs <|
 And.intro @q10 <|
 And.intro @zwk <|
 And.intro @bo89 <|
 And.intro @zyt <|
 And.intro @bo90 <|
 And.intro @zye <|
 And.intro @zyy <|
 And.intro @bo70 <|
 And.intro @zvw <|
 And.intro @bo20 <|
 And.intro @bo76 <|
 And.intro @zwy <|
 And.intro @bo62 <|
 And.intro @bo39 <|
 And.intro @bo22 <|
 And.intro @bo69 <|
 And.intro @bo67 @zzc
def ga :=
 And.intro @vme <| And.intro @vmb <| And.intro @ty <| And.intro hP <| And.intro @zw6 <| And.intro @zu0 <| And.intro @wrap64 <| And.intro @List.length_map.{0,0} Int.toNat_natCast
def gb :=
 And.intro ga <| And.intro @List.cons_append.{0} <| And.intro @List.nil_append.{0} <| And.intro @Option.map_some.{0,0} <| And.intro @Option.map_none.{0,0} <| And.intro @zlh <| And.intro @zmd vmg
def uZ (l : List V) : List V := (.tup []) :: (.tup []) :: (.tup []) :: (.tup []) :: (.tup []) :: (.tup []) :: (.tup []) :: (.tup []) :: (.tup []) :: (.tup []) :: l
def gc := And.intro gb @zbb
def gq := And.intro @vgd <| And.intro @vst @vix
def gp := And.intro @vmp gq
def gd := And.intro @vmd <| And.intro @vmk <| And.intro @vmo vmg
theorem zN {i : Decidable True} : @decide True i = true := decide_eq_true trivial
abbrev InB (n : Int) : Prop := -9223372036854775808 ≤ n ∧ n ≤ 9223372036854775807
theorem nl0 : ((0 : Nat) : Int) = 0 := rfl
theorem nl1 : ((1 : Nat) : Int) = 1 := rfl
theorem nl2 : ((2 : Nat) : Int) = 2 := rfl
theorem nl4 : ((4 : Nat) : Int) = 4 := rfl
theorem nl8 : ((8 : Nat) : Int) = 8 := rfl
theorem nl10 : ((10 : Nat) : Int) = 10 := rfl
theorem nl12 : ((12 : Nat) : Int) = 12 := rfl
theorem nl16 : ((16 : Nat) : Int) = 16 := rfl
theorem nl20 : ((20 : Nat) : Int) = 20 := rfl
theorem zi3 : ((256 : Nat) : Int) = 256 := rfl
theorem bt42 : BT Tryz.prog 42 5 256 := ⟨Tryz.underlying42, by kernel_rfl, by kernel_rfl, by kernel_rfl, by kernel_rfl, by decide⟩
theorem z42 : zeroV Tryz.prog 42 = some (blkV (zK 256)) := by kernel_rfl
theorem zf42 : qB Tryz.prog 42 (blkV (zK 256)) = true := by kernel_rfl
section
variable {b b' : List UInt8}
theorem fd42 (h : b.length = 256) : qB Tryz.prog 42 (.d (blkD b)) = true := bt42.fits jT h
theorem z08 (h : b.length = 256) : qT Tryz.prog 42 0 (some (.d (blkD b))) = some (.d (blkD b)) := bt42.load jT h
theorem z8z (h : b.length = 256) : qT Tryz.prog 42 0 (some (blkV b)) = some (blkV b) := bt42.load isB_v h
theorem zpq (h : b.length = 256) (h' : b'.length = 256) : qM Tryz.prog 42 0 (.d (blkD b)) (.d (blkD b')) = some (.d (blkD b)) := bt42.store jT h jT h'
theorem z9j (h : b.length = 256) (h' : b'.length = 256) : qM Tryz.prog 42 0 (.d (blkD b)) (blkV b') = some (.d (blkD b)) := bt42.store jT h isB_v h'
theorem zjs (h : b.length = 256) (h' : b'.length = 256) : qM Tryz.prog 42 0 (blkV b) (blkV b') = some (blkV b) := bt42.store isB_v h isB_v h'
theorem ia42 {S : zB} {j x : Nat} {i : Nat} (hi : i < 256) : zI Tryz.prog S 42 (.ref j x 0) (.d (.int .i64 (i : Int))) = some (.ref j x i) := by rw [bt42.ia hi, Nat.zero_add]
theorem zhn : (blkV b).one = true := rfl
theorem zvq {S : zB} : Go.Vm.frz S zJ (blkV b) = some (blkD b) := isB_v.frz (n := 10)
end
theorem z256 : (zK 256).length = 256 := rfl
theorem zrg {n : Int} : IntKind.u8.wrap n = n % 256 := rfl
theorem cv35 {S : zB} {n : Nat} : qI Tryz.prog S 3 5 (.d (.int .i64 (n : Int))) = some (.d (.int .u8 ((UInt8.ofNat (n % 256)).toNat : Int)), 0) := by
 have h1 : Tryz.prog.underlying 3 = some (.int .i64) := by kernel_rfl
 have h2 : Tryz.prog.underlying 5 = some (.int .u8) := by kernel_rfl
 have e : ((UInt8.ofNat (n % 256)).toNat : Int) = (n : Int) % 256 := by rw [UInt8.toNat_ofNat']; omega
 simp only [qI, h1, h2]
 rw [zrg, e]
theorem cvu {S : zB} {i : Nat} (h : i < 100) : qI Tryz.prog S 3 204 (.d (.int .i64 (i : Int))) = some (.d (.int .u64 (i : Int)), 0) := by
 have h1 : Tryz.prog.underlying 3 = some (.int .i64) := by kernel_rfl
 have h2 : Tryz.prog.underlying 204 = some (.int .u64) := by kernel_rfl
 have e : IntKind.u64.wrap (i : Int) = (i : Int) := by
  have : IntKind.u64.wrap (i : Int) = (i : Int) % 18446744073709551616 := rfl
  rw [this]; omega
 simp only [qI, h1, h2]
 rw [e]
theorem zrr {K K' : IntKind} {t : TypeId} {v i : Nat} (hK : K.bits = 64) (h : i < 8) : binV Tryz.prog .shr t (.d (.int K (v : Int))) (.d (.int K' ((8 * i : Nat) : Int))) = some (.d (.int K ((v / 256 ^ i : Nat) : Int))) := by
 have key : ∀ k : Nat, k ≤ 64 → ((v : Int).fdiv (2 ^ (min ((k : Int)).toNat K.bits))) = ((v / 2 ^ k : Nat) : Int) := fun k hk => by
  have e : min ((k : Int)).toNat K.bits = k := by rw [hK]; omega
  rw [e, Int.fdiv_eq_ediv_of_nonneg _ (by exact_mod_cast Nat.zero_le (2 ^ k)), Int.natCast_ediv]
  norm_cast
 simp only [binV, qR]
 rw [if_neg (by omega), key _ (by omega)]
 have e3 : 2 ^ (8 * i) = 256 ^ i := by rw [Nat.pow_mul]
 rw [e3]
 rfl
def MayL (l : Lay) : Prop := 16 ≤ l.blocks ∧ l.blocks ≤ 512 ∧ 8 ≤ l.inodes ∧ l.inodes ≤ 128 ∧ l.inodes.tmod 8 = 0 ∧ 2 + l.inodes.tdiv 8 < l.blocks
instance (l : Lay) : Decidable (MayL l) := by unfold MayL; exact inferInstance
theorem q0u {P : Program} {t : TypeId} {a b c : Int} (hb : ¬ b = 0) (h : a.tmod b = c) : binV P .rem t (.d (.int .i64 a)) (.d (.int .i64 b)) = some (.d (.int .i64 c)) := by
 simp only [binV, qR, hb, if_true, if_false, Option.map_some, h]
theorem rem8 {a : Int} : binV Tryz.prog .rem 3 (.d (.int .i64 a)) (.d (.int .i64 8)) = some (.d (.int .i64 (a.tmod 8))) := q0u (by decide) rfl
theorem quo8 {a : Int} (h : InB a) : binV Tryz.prog .quo 3 (.d (.int .i64 a)) (.d (.int .i64 8)) = some (.d (.int .i64 (a.tdiv 8))) := by
 have hb : ¬ (8 : Int) = 0 := by decide
 have h2 : IntKind.i64.wrap (a.tdiv 8) = a.tdiv 8 := wrap64 (by
  rcases Int.le_total 0 a with h0 | h0
  ·rw [Int.tdiv_eq_ediv_of_nonneg h0]; omega
  ·have e : a.tdiv 8 = -((-a).tdiv 8) := by rw [Int.neg_tdiv, Int.neg_neg]
   rw [e, Int.tdiv_eq_ediv_of_nonneg (by omega)]; omega)
 simp only [binV, qR, hb, if_false, Option.map_some, h2]
 rfl
theorem zgd (l : Lay) (hb : InB l.blocks) (hi : InB l.inodes) : Ev cfg 75 [encLay l] (.ret (.d (.int .i64 (if MayL l then 0 else 1)))) := by
 refine kD rfl rfl zz3 ?_
 show Wp cfg (Tryz.f75.body.getD .skip) ((.d (encLay l)) :: uZ (uZ ((.tup []) :: (.tup []) :: (.tup []) :: (.tup []) :: (.tup []) :: (.tup []) :: (.tup []) :: (.tup []) :: []))) [] [] _
 unfold uZ
 conv => arg 2; whnf
 generalize hp : (if MayL l then (0 : Int) else 1) = p
 have hq := quo8 hi
 have hr := rem8 (a := l.inodes)
 by_cases c1 : l.blocks < 16
 ·rw [if_neg (fun h => by have := h.1; omega)] at hp; subst hp
  simp (maxSteps:=1000000) (disch:=first|assumption|omega|rfl) only [↓gp, gc, Nat.reduceAdd]
  exact zP rfl rfl rfl
 by_cases c2 : l.blocks > 512
 ·rw [if_neg (fun h => by have := h.2.1; omega)] at hp; subst hp
  simp (maxSteps:=1000000) (disch:=first|assumption|omega|rfl) only [↓gp, gc, Nat.reduceAdd]
  exact zP rfl rfl rfl
 by_cases c3 : l.inodes < 8
 ·rw [if_neg (fun h => by have := h.2.2.1; omega)] at hp; subst hp
  simp (maxSteps:=1000000) (disch:=first|assumption|omega|rfl) only [↓gp, gc, Nat.reduceAdd]
  exact zP rfl rfl rfl
 by_cases c4 : l.inodes > 128
 ·rw [if_neg (fun h => by have := h.2.2.2.1; omega)] at hp; subst hp
  simp (maxSteps:=1000000) (disch:=first|assumption|omega|rfl) only [↓gp, gc, Nat.reduceAdd]
  exact zP rfl rfl rfl
 by_cases c5 : l.inodes.tmod 8 = 0
 case neg =>
  rw [if_neg (fun h => c5 h.2.2.2.2.1)] at hp; subst hp
  simp (maxSteps:=1000000) (disch:=first|assumption|omega|rfl) only [↓gp, gc, Nat.reduceAdd, hr]
  exact zP rfl rfl rfl
 have hd : 0 ≤ l.inodes.tdiv 8 ∧ l.inodes.tdiv 8 ≤ 16 := by
  rw [Int.tdiv_eq_ediv_of_nonneg (by omega)]; omega
 have hw : IntKind.i64.wrap (2 + l.inodes.tdiv 8) = 2 + l.inodes.tdiv 8 := wrap64 (by omega)
 by_cases c6 : 2 + l.inodes.tdiv 8 ≥ l.blocks
 ·rw [if_neg (fun h => by have := h.2.2.2.2.2; omega)] at hp; subst hp
  simp (maxSteps:=1000000) (disch:=first|assumption|omega|rfl) only [↓gp, gc, Nat.reduceAdd, hr, hq, hw, c5]
  exact zP rfl rfl rfl
 ·rw [if_pos ⟨by omega, by omega, by omega, by omega, c5, by omega⟩] at hp; subst hp
  simp (maxSteps:=1000000) (disch:=first|assumption|omega|rfl) only [↓gp, gc, Nat.reduceAdd, hr, hq, hw, c5]
  exact zP rfl rfl rfl
theorem znr (a w n : Nat) (ha : a ≤ 1000000) (hw : w ≤ 1000000) (hn : n ≤ 1000000) : Ev cfg 144 [.int .i64 (a : Int), .int .i64 (w : Int), .int .i64 (n : Int)] (.ret (.d (.bool (decide (1 ≤ w ∧ a + w ≤ n))))) := by
 refine kD rfl rfl zvb ?_
 show Wp cfg (Tryz.f144.body.getD .skip) ((.d (.int .i64 (a : Int))) :: (.d (.int .i64 (w : Int))) :: (.d (.int .i64 (n : Int))) :: uZ (uZ ((.tup []) :: (.tup []) :: []))) [] [] _
 unfold uZ
 conv => arg 2; whnf
 generalize hp : decide (1 ≤ w ∧ a + w ≤ n) = p
 have h0 : (a : Int) ≥ 0 := by omega
 have hwr : IntKind.i64.wrap ((n : Int) - (w : Int)) = (n : Int) - (w : Int) := wrap64 (by omega)
 by_cases c1 : (w : Int) ≥ 1
 case neg =>
  rw [decide_eq_false (by omega)] at hp; subst hp
  simp (maxSteps:=1000000) (disch:=first|assumption|omega|rfl) only [↓gp, gc, Nat.reduceAdd]
  exact zP rfl rfl rfl
 by_cases c2 : (w : Int) ≤ (n : Int)
 case neg =>
  rw [decide_eq_false (by omega)] at hp; subst hp
  simp (maxSteps:=1000000) (disch:=first|assumption|omega|rfl) only [↓gp, gc, Nat.reduceAdd]
  exact zP rfl rfl rfl
 by_cases c3 : (a : Int) ≤ (n : Int) - (w : Int)
 ·rw [decide_eq_true (by omega)] at hp; subst hp
  simp (maxSteps:=1000000) (disch:=first|assumption|omega|rfl) only [↓gp, gc, Nat.reduceAdd, hwr]
  exact zP rfl rfl rfl
 ·rw [decide_eq_false (by omega)] at hp; subst hp
  simp (maxSteps:=1000000) (disch:=first|assumption|omega|rfl) only [↓gp, gc, Nat.reduceAdd, hwr]
  exact zP rfl rfl rfl
section
variable {ops : Array Oper} {dst : Option Tmp} {k : List Oper} {T : List V} {S : zB} {F : Dfs} {Q : Post}
theorem z3a {a w n : Nat} (ha : a ≤ 1000000) (hw : w ≤ 1000000) (hn : n ≤ 1000000) : WpR cfg ops dst k T S F Q (some (.enter 144 [.d (.int .i64 (a : Int)), .d (.int .i64 (w : Int)), .d (.int .i64 (n : Int))])) = WpL cfg ops k (putT T dst (.d (.bool (decide (1 ≤ w ∧ a + w ≤ n))))) S F Q :=
 qA (ds := [.int .i64 (a : Int), .int .i64 (w : Int), .int .i64 (n : Int)]) rfl (znr a w n ha hw hn)
end
theorem zx4 (b : List UInt8) (hb : b.length = 256) (k0 w v : Nat) (hk0 : k0 + w ≤ 256) (hw4 : w ≤ 4) (z : V) (R : Post) : ∀ (k i : Nat) (u : V) (g0 g5 g6 g7 g9 gI gE gG gB gC gA gD gL gM gN gJ gH gO gP gT gQ gU gR gS gV gW gX gY : V), w - i = k → i ≤ w → IsB u (layB b k0 (leB i v)) →
 (∀ u i' g0 g5 g6 g7 g9 gI gE gG gB gC gA gD gL gM gN gJ gH gO gP gT gQ gU gR gS gV gW gX gY, IsB u (layB b k0 (leB w v)) → R (.exit 0) (g0 :: (.d (.int .i64 (k0 : Int))) :: (.d (.int .i64 (w : Int))) :: (.d (.int .i64 (v : Int))) :: (.ref 0 0 0) :: g5 :: g6 :: g7 :: (.ref 1 0 0) :: g9 :: gI :: gE :: gG :: gB :: gC :: gA :: gD :: gL :: gM :: (.d (.int .i64 (w : Int))) :: i' :: gN :: gJ :: gH :: gO :: gP :: gT :: gQ :: gU :: gR :: gS :: gV :: gW :: gX :: gY :: []) [.row [u] 42, .row [z] 42] []) →
 Wp cfg (.loop (lpOf (Tryz.f146.body.getD .skip) 0)) (g0 :: (.d (.int .i64 (k0 : Int))) :: (.d (.int .i64 (w : Int))) :: (.d (.int .i64 (v : Int))) :: (.ref 0 0 0) :: g5 :: g6 :: g7 :: (.ref 1 0 0) :: g9 :: gI :: gE :: gG :: gB :: gC :: gA :: gD :: gL :: gM :: (.d (.int .i64 (w : Int))) :: (.d (.int .i64 (i : Int))) :: gN :: gJ :: gH :: gO :: gP :: gT :: gQ :: gU :: gR :: gS :: gV :: gW :: gX :: gY :: []) [.row [u] 42, .row [z] 42] [] R := by
 intro k
 induction k with
 | zero =>
  intro i u g0 g5 g6 g7 g9 gI gE gG gB gC gA gD gL gM gN gJ gH gO gP gT gQ gU gR gS gV gW gX gY hk hi hu hR
  have hie : i = w := by omega
  subst hie
  rw [zR]
  refine zL ?_
  conv => arg 2; whnf
  simp (maxSteps:=1000000) (disch:=first|assumption|omega|rfl) only [↓gp, gc, Nat.reduceAdd]
  exact hR _ _ _ _ _ _ _ _ _ _ _ _ _ _ _ _ _ _ _ _ _ _ _ _ _ _ _ _ _ _ hu
 | succ k ih =>
  intro i u g0 g5 g6 g7 g9 gI gE gG gB gC gA gD gL gM gN gJ gH gO gP gT gQ gU gR gS gV gW gX gY hk hi hu hR
  have hlt : i < w := by omega
  have hl : (layB b k0 (leB i v)).length = 256 := by rw [jB (by rw [qV]; omega), hb]
  have h1 : IntKind.i64.wrap ((k0 : Int) + (i : Int)) = ((k0 + i : Nat) : Int) := by rw [wrap64 (by omega)]; omega
  have h2 : IntKind.i64.wrap (8 * (i : Int)) = ((8 * i : Nat) : Int) := by rw [wrap64 (by omega)]; omega
  have h3 : IntKind.i64.wrap ((i : Int) + 1) = ((i + 1 : Nat) : Int) := by rw [wrap64 (by omega)]; omega
  have hcv := fun S => cvu (S := S) (i := 8 * i) (by omega)
  have hsh := fun K' => zrr (K := .i64) (K' := K') (t := 3) (v := v) (i := i) rfl (by omega)
  have hia := fun S j x => ia42 (S := S) (j := j) (x := x) (i := k0 + i) (by omega)
  have hc5 := fun S => cv35 (S := S) (n := v / 256 ^ i)
  have hp := bt42.put hu hl (i := k0 + i) (by omega) (x := UInt8.ofNat (v / 256 ^ i % 256))
  have e : (layB b k0 (leB i v)).set (k0 + i) (UInt8.ofNat (v / 256 ^ i % 256)) = layB b k0 (leB (i + 1) v) := by
   rw [zhb, z5f (by rw [qV]; omega), qV]
  rw [e] at hp
  rw [zR]
  refine zL ?_
  conv => arg 2; whnf
  simp (maxSteps:=1000000) (disch:=first|assumption|omega|rfl) only [↓gp, gc, Nat.reduceAdd, h1, h2, h3, hcv, hsh, hia, hc5, hp]
  exact ih (i + 1) _ _ _ _ _ _ _ _ _ _ _ _ _ _ _ _ _ _ _ _ _ _ _ _ _ _ _ _ _ (by omega) (by omega) isB_v hR
theorem zwg (b : List UInt8) (hb : b.length = 256) (k0 w v : Nat) (hk0 : k0 + w ≤ 256) (hw1 : 1 ≤ w) (hw4 : w ≤ 4) : Ev cfg 146 [blkD b, .int .i64 (k0 : Int), .int .i64 (w : Int), .int .i64 (v : Int)] (.ret (.d (blkD (layB b k0 (leB w v))))) := by
 refine kD rfl rfl zuj ?_
 show Wp cfg (Tryz.f146.body.getD .skip) ((.d (blkD b)) :: (.d (.int .i64 (k0 : Int))) :: (.d (.int .i64 (w : Int))) :: (.d (.int .i64 (v : Int))) :: uZ (uZ (uZ ((.tup []) :: [])))) [] [] _
 unfold uZ
 conv => arg 2; whnf
 have c4 : ¬ (w : Int) > 4 := by omega
 have ct := fun {ops dst k T S F Q} => z3a (ops := ops) (dst := dst) (k := k) (T := T) (S := S) (F := F) (Q := Q) (a := k0) (w := w) (n := 256) (by omega) (by omega) (by omega)
 rw [decide_eq_true (show 1 ≤ w ∧ k0 + w ≤ 256 from ⟨hw1, hk0⟩)] at ct
 simp only [nl0, nl1, nl2, nl4, nl8, nl10, nl12, nl16, nl20, zi3] at ct
 have hll : (layB b k0 (leB w v)).length = 256 := by rw [jB (by rw [qV]; omega), hb]
 have hf := fd42 hb
 simp (maxSteps:=1000000) (disch:=first|assumption|omega|rfl) only [↓gp, gc, Nat.reduceAdd, z42, zf42, hf, ct, zn3]
 refine zx4 b hb k0 w v hk0 hw4 _ _ w 0 _ _ _ _ _ _ _ _ _ _ _ _ _ _ _ _ _ _ _ _ _ _ _ _ _ _ _ _ _ rfl (Nat.zero_le _) (by rw [show leB 0 v = [] from rfl, z7x]; exact jT) ?_
 intro u i' g0 g5 g6 g7 g9 gI gE gG gB gC gA gD gL gM gN gJ gH gO gP gT gQ gU gR gS gV gW gX gY hu
 have hld := bt42.load hu hll
 have hst := bt42.store hu hll (w := blkV (zK 256)) isB_v z256
 simp (maxSteps:=1000000) (disch:=first|assumption|omega|rfl) only [↓gp, gc, Nat.reduceAdd, hld, hst]
 exact wK (u := .ref 1 0 0) (v := u) rfl ((zG rfl).trans hld) hu.one (hu.frz (n := 10))
theorem q2s (b : List UInt8) (hb : b.length = 256) (k0 : Nat) (d : List UInt8) (hk0 : k0 + d.length ≤ 256) (z : V) (R : Post) : ∀ (k i : Nat) (u : V) (g0 g4 g5 g7 g8 g9 gI gE gG gB gC gA gF gK gN gJ gH gO gP gT gQ gU gR gS gV gW gX : V), d.length - i = k → i ≤ d.length → IsB u (layB b k0 (d.take i)) →
 (∀ u i' g0 g4 g5 g7 g8 g9 gI gE gG gB gC gA gF gK gN gJ gH gO gP gT gQ gU gR gS gV gW gX, IsB u (layB b k0 d) → R (.exit 0) (g0 :: (.d (.int .i64 (k0 : Int))) :: (.d (encB d)) :: (.ref 0 0 0) :: g4 :: g5 :: (.ref 1 0 0) :: g7 :: g8 :: g9 :: gI :: gE :: gG :: gB :: gC :: gA :: (.d (encB d)) :: (.d (.int .i64 d.length)) :: i' :: gF :: gK :: gN :: gJ :: gH :: gO :: gP :: gT :: gQ :: gU :: gR :: gS :: gV :: gW :: gX :: []) [.row [u] 42, .row [z] 42] []) →
 Wp cfg (.loop (lpOf (Tryz.f148.body.getD .skip) 0)) (g0 :: (.d (.int .i64 (k0 : Int))) :: (.d (encB d)) :: (.ref 0 0 0) :: g4 :: g5 :: (.ref 1 0 0) :: g7 :: g8 :: g9 :: gI :: gE :: gG :: gB :: gC :: gA :: (.d (encB d)) :: (.d (.int .i64 d.length)) :: (.d (.int .i64 (i : Int))) :: gF :: gK :: gN :: gJ :: gH :: gO :: gP :: gT :: gQ :: gU :: gR :: gS :: gV :: gW :: gX :: []) [.row [u] 42, .row [z] 42] [] R := by
 intro k
 induction k with
 | zero =>
  intro i u g0 g4 g5 g7 g8 g9 gI gE gG gB gC gA gF gK gN gJ gH gO gP gT gQ gU gR gS gV gW gX hk hi hu hR
  have hie : i = d.length := by omega
  subst hie
  rw [List.take_length] at hu
  rw [zR]
  refine zL ?_
  conv => arg 2; whnf
  simp (maxSteps:=1000000) (disch:=first|assumption|omega|rfl) only [↓gp, gc, Nat.reduceAdd]
  exact hR _ _ _ _ _ _ _ _ _ _ _ _ _ _ _ _ _ _ _ _ _ _ _ _ _ _ _ _ _ hu
 | succ k ih =>
  intro i u g0 g4 g5 g7 g8 g9 gI gE gG gB gC gA gF gK gN gJ gH gO gP gT gQ gU gR gS gV gW gX hk hi hu hR
  have hlt : i < d.length := by omega
  have htl : (d.take i).length = i := by rw [List.length_take]; omega
  have hl : (layB b k0 (d.take i)).length = 256 := by rw [jB (by rw [htl]; omega), hb]
  have h1 : IntKind.i64.wrap ((k0 : Int) + (i : Int)) = ((k0 + i : Nat) : Int) := by rw [wrap64 (by omega)]; omega
  have h2 : IntKind.i64.wrap (256 - (k0 : Int)) = 256 - (k0 : Int) := wrap64 (by omega)
  have h4 : ¬ (i : Int) ≥ 256 - (k0 : Int) := by omega
  have h3 : IntKind.i64.wrap ((i : Int) + 1) = ((i + 1 : Nat) : Int) := by rw [wrap64 (by omega)]; omega
  have hix := fun S => ix76 (S := S) (l := d) hlt
  have hia := fun S j x => ia42 (S := S) (j := j) (x := x) (i := k0 + i) (by omega)
  have hp := bt42.put hu hl (i := k0 + i) (by omega) (x := d[i])
  have e : (layB b k0 (d.take i)).set (k0 + i) d[i] = layB b k0 (d.take (i + 1)) := by
   rw [List.take_add_one, List.getElem?_eq_getElem hlt]
   show _ = layB b k0 (d.take i ++ [d[i]])
   rw [z5f (by rw [htl]; omega), htl]
  rw [e] at hp
  rw [zR]
  refine zL ?_
  conv => arg 2; whnf
  simp (maxSteps:=1000000) (disch:=first|assumption|omega|rfl) only [↓gp, gc, Nat.reduceAdd, encB, h1, h2, h3, hix, hia, hp]
  exact ih (i + 1) _ _ _ _ _ _ _ _ _ _ _ _ _ _ _ _ _ _ _ _ _ _ _ _ _ _ _ _ (by omega) (by omega) isB_v hR
theorem zx6 (b : List UInt8) (hb : b.length = 256) (k0 : Nat) (hk : k0 < 256) (d : List UInt8) (hk0 : k0 + d.length ≤ 256) : Ev cfg 148 [blkD b, .int .i64 (k0 : Int), encB d] (.ret (.d (blkD (layB b k0 d)))) := by
 refine kD rfl rfl zuo ?_
 show Wp cfg (Tryz.f148.body.getD .skip) ((.d (blkD b)) :: (.d (.int .i64 (k0 : Int))) :: (.d (encB d)) :: uZ (uZ (uZ ((.tup []) :: [])))) [] [] _
 unfold uZ
 conv => arg 2; whnf
 have c1 : ¬ (k0 : Int) < 0 := by omega
 have c2 : ¬ (k0 : Int) ≥ 256 := by omega
 have hll : (layB b k0 d).length = 256 := by rw [jB (by omega), hb]
 have hf := fd42 hb
 have hln : ∀ S : zB, zO Tryz.prog S .len [76] [.d (encB d)] = some (.val (.d (.int .i64 d.length)) S 0) := fun S => by rw [encB, zq2, List.length_map]
 simp (maxSteps:=1000000) (disch:=first|assumption|omega|rfl) only [↓gp, gc, Nat.reduceAdd, z42, zf42, hf, hln]
 refine q2s b hb k0 d hk0 _ _ d.length 0 _ _ _ _ _ _ _ _ _ _ _ _ _ _ _ _ _ _ _ _ _ _ _ _ _ _ _ _ rfl (Nat.zero_le _) (by rw [List.take_zero, z7x]; exact jT) ?_
 intro u i' g0 g4 g5 g7 g8 g9 gI gE gG gB gC gA gF gK gN gJ gH gO gP gT gQ gU gR gS gV gW gX hu
 have hld := bt42.load hu hll
 have hst := bt42.store hu hll (w := blkV (zK 256)) isB_v z256
 simp (maxSteps:=1000000) (disch:=first|assumption|omega|rfl) only [↓gp, gc, Nat.reduceAdd, hld, hst]
 exact wK (u := .ref 1 0 0) (v := u) rfl ((zG rfl).trans hld) hu.one (hu.frz (n := 10))
theorem bd42 : wY Tryz.prog 42 [] = some (blkV (zK 256)) := by kernel_rfl
section
variable {ops : Array Oper} {dst : Option Tmp} {k : List Oper} {T : List V} {S : zB} {F : Dfs} {Q : Post}
theorem zh6 {u : V} {b d : List UInt8} (hu : IsB u b) (hb : b.length = 256) {k0 : Nat} (hk : k0 < 256) (hk0 : k0 + d.length ≤ 256) : WpR cfg ops dst k T S F Q (some (.enter 148 [u, .d (.int .i64 (k0 : Int)), .d (encB d)])) = WpL cfg ops k (putT T dst (.d (blkD (layB b k0 d)))) S F Q :=
 kW (ds := [blkD b, .int .i64 (k0 : Int), encB d]) rfl (by simp only [allO, hu.frz (n := 10), zJ]; rfl) (by rw [List.flatMap_cons, hu.frzIds]; rfl) (zx6 b hb k0 hk d hk0)
theorem z02 {u : V} {b : List UInt8} (hu : IsB u b) (hb : b.length = 256) {k0 w v : Nat} (hk0 : k0 + w ≤ 256) (hw1 : 1 ≤ w) (hw4 : w ≤ 4) : WpR cfg ops dst k T S F Q (some (.enter 146 [u, .d (.int .i64 (k0 : Int)), .d (.int .i64 (w : Int)), .d (.int .i64 (v : Int))])) = WpL cfg ops k (putT T dst (.d (blkD (layB b k0 (leB w v))))) S F Q :=
 kW (ds := [blkD b, .int .i64 (k0 : Int), .int .i64 (w : Int), .int .i64 (v : Int)]) rfl (by simp only [allO, hu.frz (n := 10), zJ]; rfl) (by rw [List.flatMap_cons, hu.frzIds]; rfl) (zwg b hb k0 w v hk0 hw1 hw4)
end
theorem zxi (d : List UInt8) (hd : d.length ≤ 256) : Ev cfg 145 [encB d] (.ret (.d (blkD (layB (zK 256) 0 d)))) := by
 refine kD rfl rfl zuq ?_
 show Wp cfg (Tryz.f145.body.getD .skip) ((.d (encB d)) :: (.tup []) :: (.tup []) :: (.tup []) :: (.tup []) :: (.tup []) :: []) [] [] _
 conv => arg 2; whnf
 have hll : (layB (zK 256) 0 d).length = 256 := by rw [jB (by rw [z256]; omega), z256]
 have hc := fun {ops dst k T S F Q} => zh6 (ops := ops) (dst := dst) (k := k) (T := T) (S := S) (F := F) (Q := Q) (u := blkV (zK 256)) (b := zK 256) (d := d) isB_v z256 (k0 := 0) (by omega) (by omega)
 have hst := z9j hll z256
 have h1 : (blkV (zK 256)).one = true := rfl
 simp only [nl0, nl1, nl2, nl4, nl8, nl10, nl12, nl16, nl20, zi3] at hc
 simp (maxSteps:=1000000) (disch:=first|assumption|omega|rfl) only [↓gp, gc, Nat.reduceAdd, z42, zf42, bd42, hc, zv3, hst, h1]
 exact wK (u := .ref 0 0 0) (v := .d (blkD (layB (zK 256) 0 d))) rfl ((zG rfl).trans (z08 hll)) rfl rfl
def rowY (d : List UInt8) : Ob := .row (d.map fun x => V.d (byD x)) 5
section
variable {S : zB} {id n i : Nat} {d : List UInt8}
theorem ixY (hS : S[id]? = some (rowY d)) (hi : i < n) : zI Tryz.prog S 76 (.rs id 0 n) (.d (.int .i64 (i : Int))) = some (.ref id i 0) := by
 have h1 : rowT S id 5 = true := by unfold rowT; rw [hS]; rfl
 have h2 : (sz Tryz.prog 5).isSome = true := by kernel_rfl
 simp only [zI, intOf?, Tryz.underlying76]
 rw [if_pos ⟨⟨by omega, by omega⟩, h1, h2⟩]
 simp
theorem zri (hS : S[id]? = some (rowY d)) (hi : i < d.length) : rowE S id i = some (.d (.int .u8 (d[i].toNat : Int))) := by
 unfold rowE
 rw [hS]
 simp only [rowY, List.getElem?_map, List.getElem?_eq_getElem hi, Option.map_some]
 rfl
theorem zzf (hS : S[id]? = some (rowY d)) {x : UInt8} : jQ S id i (.d (.int .u8 (x.toNat : Int))) = some (S.set id (rowY (d.set i x))) := by
 unfold jQ
 rw [hS]
 simp only [rowY, List.map_set]
 rfl
theorem ztu (hS : S[id]? = some (rowY d)) (hn : n = d.length) : Go.Vm.frz S zJ (.rs id 0 n) = some (encB d) := by
 subst hn
 show (match S[id]? with
  | some (.row xs e) => if 0 + d.length ≤ xs.length && (allO (Go.Vm.frz S 11) xs).isSome then (allO (Go.Vm.frz S 11) ((xs.drop 0).take d.length)).map D.sl else none
  | some (.fz xs e) => if 0 + d.length ≤ xs.length then some (D.sl ((xs.drop 0).take d.length)) else none
  | _ => none) = _
 rw [hS]
 have h2 : ((d.map fun x => V.d (byD x)).drop 0).take d.length = d.map fun x => V.d (byD x) := by rw [List.drop_zero, List.take_of_length_le (by simp)]
 simp only [rowY, zfv, h2, List.length_map, Nat.zero_add, Nat.le_refl, decide_true, Option.isSome_some, Bool.and_self, if_true, Option.map_some]
 rfl
theorem mk40 (h : n ≤ 1000000) : jO Tryz.prog S 76 (.d (.int .i64 (n : Int))) (.d (.int .i64 (n : Int))) = some (.rs S.length 0 n, S ++ [rowY (zK n)]) := by
 have hz : zeroV Tryz.prog 5 = some (.d (.int .u8 0)) := by kernel_rfl
 have hf : qB Tryz.prog 5 (.d (.int .u8 0)) = true := by kernel_rfl
 have hr : room Tryz.prog 5 n = true := zjc h
 have e : List.replicate n (V.d (.int .u8 0)) = (zK n).map fun x => V.d (byD x) := by unfold zK; rw [List.map_replicate]; rfl
 simp only [jO, Tryz.underlying76, hz, Int.toNat_natCast, hr, hf, Bool.and_self, if_true]
 rw [if_pos ⟨by omega, Int.le_refl _, by omega⟩, e]
 rfl
end
theorem st5 {a b : Int} : qM Tryz.prog 5 0 (.d (.int .u8 a)) (.d (.int .u8 b)) = some (.d (.int .u8 a)) := by kernel_rfl
theorem min_le {S : zB} {a b : Int} (h : a ≤ b) : zO Tryz.prog S .min [3, 3] [.d (.int .i64 a), .d (.int .i64 b)] = some (.val (.d (.int .i64 a)) S 0) := by
 simp only [zO, zd3, zog, if_true]
 rw [if_neg (by omega)]
 rfl
theorem max_le {S : zB} {a b : Int} (h : a ≤ b) : zO Tryz.prog S .max [3, 3] [.d (.int .i64 a), .d (.int .i64 b)] = some (.val (.d (.int .i64 b)) S 0) := by
 simp only [zO, zd3, zo2, if_true]
 by_cases hh : b > a
 ·rw [if_pos hh]; rfl
 ·have : a = b := by omega
  subst this; rw [if_neg hh]; rfl
def wM (t : List UInt8) (i : Nat) : List UInt8 := t.take i ++ zK (t.length - i)
theorem z5o {t : List UInt8} {i : Nat} (h : i ≤ t.length) : (wM t i).length = t.length := by unfold wM; simp [zK]; omega
theorem z5q {t : List UInt8} {i : Nat} (h : i < t.length) : (wM t i).set i t[i] = wM t (i + 1) := by
 unfold wM zK
 obtain ⟨m, hm⟩ : ∃ m, t.length - i = m + 1 := ⟨t.length - i - 1, by omega⟩
 have h1 : (t.take i).length = i := by rw [List.length_take]; omega
 rw [List.set_append_right _ _ (by omega), h1, Nat.sub_self, hm, List.replicate_succ, List.set_cons_zero, List.take_add_one, List.getElem?_eq_getElem h]
 have : t.length - (i + 1) = m := by omega
 rw [this, List.append_assoc]
 rfl
theorem q2i (b : List UInt8) (hb : b.length = 256) (k0 : Nat) (t : List UInt8) (ht : t = (b.drop k0).take t.length) (hk0 : k0 + t.length ≤ 256) (x6 : V) (R : Post) : ∀ (k i : Nat) (g0 g2 g4 g5 g8 g9 gI gE gG gB gC gA gD gL gM gF gK gN gJ gH gO gQ gU gR gS gV gW gX gY gZ gh gj gk : V), t.length - i = k → i ≤ t.length →
 (∀ i' g0 g2 g4 g5 g8 g9 gI gE gG gB gC gA gD gL gM gF gK gN gJ gH gO gQ gU gR gS gV gW gX gY gZ gh gj gk, R (.exit 0) (g0 :: (.d (.int .i64 (k0 : Int))) :: g2 :: (.ref 0 0 0) :: g4 :: g5 :: x6 :: (.rs 1 0 t.length) :: g8 :: g9 :: gI :: gE :: gG :: gB :: gC :: gA :: gD :: gL :: gM :: gF :: gK :: gN :: gJ :: gH :: gO :: (.d (.int .i64 (t.length : Int))) :: i' :: gQ :: gU :: gR :: gS :: gV :: gW :: gX :: gY :: gZ :: gh :: gj :: gk :: []) [.row [.d (blkD b)] 42, rowY t] []) →
 Wp cfg (.loop (lpOf (Tryz.f107.body.getD .skip) 0)) (g0 :: (.d (.int .i64 (k0 : Int))) :: g2 :: (.ref 0 0 0) :: g4 :: g5 :: x6 :: (.rs 1 0 t.length) :: g8 :: g9 :: gI :: gE :: gG :: gB :: gC :: gA :: gD :: gL :: gM :: gF :: gK :: gN :: gJ :: gH :: gO :: (.d (.int .i64 (t.length : Int))) :: (.d (.int .i64 (i : Int))) :: gQ :: gU :: gR :: gS :: gV :: gW :: gX :: gY :: gZ :: gh :: gj :: gk :: []) [.row [.d (blkD b)] 42, rowY (wM t i)] [] R := by
 intro k
 induction k with
 | zero =>
  intro i g0 g2 g4 g5 g8 g9 gI gE gG gB gC gA gD gL gM gF gK gN gJ gH gO gQ gU gR gS gV gW gX gY gZ gh gj gk hk hi hR
  have hie : i = t.length := by omega
  subst hie
  have e : wM t t.length = t := by unfold wM zK; simp
  rw [e]
  rw [zR]
  refine zL ?_
  conv => arg 2; whnf
  simp (maxSteps:=1000000) (disch:=first|assumption|omega|rfl) only [↓gp, gc, Nat.reduceAdd]
  exact hR _ _ _ _ _ _ _ _ _ _ _ _ _ _ _ _ _ _ _ _ _ _ _ _ _ _ _ _ _ _ _ _ _ _
 | succ k ih =>
  intro i g0 g2 g4 g5 g8 g9 gI gE gG gB gC gA gD gL gM gF gK gN gJ gH gO gQ gU gR gS gV gW gX gY gZ gh gj gk hk hi hR
  have hlt : i < t.length := by omega
  have hl := z5o (t := t) (i := i) (by omega)
  have h1 : IntKind.i64.wrap ((k0 : Int) + (i : Int)) = ((k0 + i : Nat) : Int) := by rw [wrap64 (by omega)]; omega
  have h3 : IntKind.i64.wrap ((i : Int) + 1) = ((i + 1 : Nat) : Int) := by rw [wrap64 (by omega)]; omega
  have hia := fun S j x => ia42 (S := S) (j := j) (x := x) (i := k0 + i) (by omega)
  have hg := bt42.get (v := .d (blkD b)) jT hb (i := k0 + i) (by omega)
  have he : b[k0 + i] = t[i] := by
   have : t[i] = ((b.drop k0).take t.length)[i]'(by rw [← ht]; exact hlt) := by congr 1
   rw [this]; simp
  rw [he] at hg
  have hS : ([.row [.d (blkD b)] 42, rowY (wM t i)] : zB)[1]? = some (rowY (wM t i)) := rfl
  have hix := ixY (n := t.length) (i := i) hS hlt
  have hrw := zri (i := i) hS (by omega)
  have hpt := zzf (i := i) hS (x := t[i])
  rw [z5q hlt] at hpt
  have hpt : jQ [.row [.d (blkD b)] 42, rowY (wM t i)] 1 i (.d (.int .u8 (t[i].toNat : Int))) = some [.row [.d (blkD b)] 42, rowY (wM t (i + 1))] := hpt
  rw [zR]
  refine zL ?_
  conv => arg 2; whnf
  simp (maxSteps:=1000000) (disch:=first|assumption|omega|rfl) only [↓gp, gc, Nat.reduceAdd, h1, h3, hia, hg, hix, hrw, st5, hpt]
  exact ih (i + 1) _ _ _ _ _ _ _ _ _ _ _ _ _ _ _ _ _ _ _ _ _ _ _ _ _ _ _ _ _ _ _ _ _ (by omega) (by omega) hR
theorem zr8 (b : List UInt8) (hb : b.length = 256) (k0 n : Nat) (hn : 1 ≤ n) (hk0 : k0 + n ≤ 256) : Ev cfg 107 [blkD b, .int .i64 (k0 : Int), .int .i64 (n : Int)] (.ret (.d (encB ((b.drop k0).take n)))) := by
 refine kD rfl rfl ztb ?_
 show Wp cfg (Tryz.f107.body.getD .skip) ((.d (blkD b)) :: (.d (.int .i64 (k0 : Int))) :: (.d (.int .i64 (n : Int))) :: uZ (uZ (uZ ((.tup []) :: (.tup []) :: (.tup []) :: (.tup []) :: (.tup []) :: (.tup []) :: [])))) [] [] _
 unfold uZ
 conv => arg 2; whnf
 have hl : ((b.drop k0).take n).length = n := by rw [List.length_take, List.length_drop]; omega
 have c1 : ¬ (k0 : Int) < 0 := by omega
 have c2 : ¬ (k0 : Int) ≥ 256 := by omega
 have c3 : ¬ (n : Int) < 1 := by omega
 have h1 : IntKind.i64.wrap (256 - (k0 : Int)) = 256 - (k0 : Int) := wrap64 (by omega)
 have hmin := fun S => min_le (S := S) (a := (n : Int)) (b := 256 - (k0 : Int)) (by omega)
 have hf := fd42 hb
 have hmk := fun S => mk40 (S := S) (n := n) (by omega)
 simp (maxSteps:=1000000) (disch:=first|assumption|omega|rfl) only [↓gp, gc, Nat.reduceAdd, hf, h1, hmin, hmk]
 have ht : (b.drop k0).take n = (b.drop k0).take ((b.drop k0).take n).length := by rw [hl]
 generalize (b.drop k0).take n = t at *
 subst hl
 have e0 : zK t.length = wM t 0 := by unfold wM; simp
 rw [e0]
 refine q2i b hb k0 t ht hk0 _ _ t.length 0 _ _ _ _ _ _ _ _ _ _ _ _ _ _ _ _ _ _ _ _ _ _ _ _ _ _ _ _ _ _ _ _ _ rfl (Nat.zero_le _) ?_
 intro i' g0 g2 g4 g5 g8 g9 gI gE gG gB gC gA gD gL gM gF gK gN gJ gH gO gQ gU gR gS gV gW gX gY gZ gh gj gk
 simp (maxSteps:=1000000) (disch:=first|assumption|omega|rfl) only [↓gp, gc, Nat.reduceAdd]
 exact zP rfl rfl (ztu rfl rfl)
theorem zpk {S : zB} {b : List UInt8} (h0 : b ≠ []) (hl : b.length ≤ 100000) : qN Tryz.prog S 76 76 (.ts []) (.d (encB b)) = some (.rs S.length 0 b.length, S ++ [rowY b], 2) := by
 have hall : ((b.map byD).map V.d).all (qB Tryz.prog 5) = true := by
  rw [List.all_eq_true]
  intro y hy
  obtain ⟨z, hz, rfl⟩ := List.mem_map.1 hy
  obtain ⟨a, _, rfl⟩ := List.mem_map.1 hz
  exact zr1 _
 have h5 : (sz Tryz.prog 5).isSome = true := by kernel_rfl
 have src : srcV Tryz.prog S 5 76 (.d (encB b)) = some ((b.map byD).map V.d) := by
  have : encB b = .sl (b.map byD) := rfl
  rw [this]
  simp only [srcV, Tryz.underlying76, kK, hall, h5, Bool.and_self, if_true]
 cases b with
 | nil => exact absurd rfl h0
 | cons a r =>
  have src1 : srcV Tryz.prog S 5 76 (.d (encB (a :: r))) = some (.d (byD a) :: (r.map byD).map .d) := src
  have hl2 : ((r.map byD).map V.d).length = r.length := by simp
  have hr : room Tryz.prog 5 (r.length + 1) = true := zjc (by simp at hl; omega)
  simp only [qN, Tryz.underlying76, src1, zyp, if_true, List.all_nil, List.length_nil, hr, Bool.and_self, List.map_nil, List.nil_append, List.length_cons, List.cons_append, List.map_cons, List.map_map, Function.comp_def, Nat.zero_add, List.length_map, Bool.and_true, rowY]
theorem q2z {S : zB} {n : Nat} : qI Tryz.prog S 30 5 (.d (.int .u64 (n : Int))) = some (.d (.int .u8 ((UInt8.ofNat (n % 256)).toNat : Int)), 0) := by
 have h1 : Tryz.prog.underlying 30 = some (.int .u64) := by kernel_rfl
 have h2 : Tryz.prog.underlying 5 = some (.int .u8) := by kernel_rfl
 have e : ((UInt8.ofNat (n % 256)).toNat : Int) = (n : Int) % 256 := by rw [UInt8.toNat_ofNat']; omega
 simp only [qI, h1, h2]
 rw [zrg, e]
theorem q1x (b : List UInt8) (hb : b.length ≤ 1000) (k0 w v : Nat) (hk0 : k0 + w ≤ b.length) (hw8 : w ≤ 8) (x8 x9 : V) (R : Post) : ∀ (k i : Nat) (g0 g2 g4 g5 g6 g7 gE gG gB gC gA gD gL gM gF gK gN gJ gH gO gQ gU gR gS gV gW gX gY gZ gh gj gk gn gr gz : V), w - i = k → i ≤ w →
 (∀ i' g0 g2 g4 g5 g6 g7 gE gG gB gC gA gD gL gM gF gK gN gJ gH gO gQ gU gR gS gV gW gX gY gZ gh gj gk gn gr gz, R (.exit 0) (g0 :: (.d (.int .i64 (k0 : Int))) :: g2 :: (.d (.int .u64 (v : Int))) :: g4 :: g5 :: g6 :: g7 :: x8 :: x9 :: (.rs 0 0 b.length) :: gE :: gG :: gB :: gC :: gA :: gD :: gL :: gM :: gF :: gK :: gN :: gJ :: gH :: gO :: (.d (.int .i64 (w : Int))) :: i' :: gQ :: gU :: gR :: gS :: gV :: gW :: gX :: gY :: gZ :: gh :: gj :: gk :: gn :: gr :: gz :: []) [rowY (layB b k0 (leB w v))] []) →
 Wp cfg (.loop (lpOf (Tryz.f147.body.getD .skip) 0)) (g0 :: (.d (.int .i64 (k0 : Int))) :: g2 :: (.d (.int .u64 (v : Int))) :: g4 :: g5 :: g6 :: g7 :: x8 :: x9 :: (.rs 0 0 b.length) :: gE :: gG :: gB :: gC :: gA :: gD :: gL :: gM :: gF :: gK :: gN :: gJ :: gH :: gO :: (.d (.int .i64 (w : Int))) :: (.d (.int .i64 (i : Int))) :: gQ :: gU :: gR :: gS :: gV :: gW :: gX :: gY :: gZ :: gh :: gj :: gk :: gn :: gr :: gz :: []) [rowY (layB b k0 (leB i v))] [] R := by
 intro k
 induction k with
 | zero =>
  intro i g0 g2 g4 g5 g6 g7 gE gG gB gC gA gD gL gM gF gK gN gJ gH gO gQ gU gR gS gV gW gX gY gZ gh gj gk gn gr gz hk hi hR
  have hie : i = w := by omega
  subst hie
  rw [zR]
  refine zL ?_
  conv => arg 2; whnf
  simp (maxSteps:=1000000) (disch:=first|assumption|omega|rfl) only [↓gp, gc, Nat.reduceAdd]
  exact hR _ _ _ _ _ _ _ _ _ _ _ _ _ _ _ _ _ _ _ _ _ _ _ _ _ _ _ _ _ _ _ _ _ _ _ _
 | succ k ih =>
  intro i g0 g2 g4 g5 g6 g7 gE gG gB gC gA gD gL gM gF gK gN gJ gH gO gQ gU gR gS gV gW gX gY gZ gh gj gk gn gr gz hk hi hR
  have hlt : i < w := by omega
  have hl : (layB b k0 (leB i v)).length = b.length := by rw [jB (by rw [qV]; omega)]
  have h1 : IntKind.i64.wrap ((k0 : Int) + (i : Int)) = ((k0 + i : Nat) : Int) := by rw [wrap64 (by omega)]; omega
  have h2 : IntKind.i64.wrap (8 * (i : Int)) = ((8 * i : Nat) : Int) := by rw [wrap64 (by omega)]; omega
  have h3 : IntKind.i64.wrap ((i : Int) + 1) = ((i + 1 : Nat) : Int) := by rw [wrap64 (by omega)]; omega
  have hcv := fun S => cvu (S := S) (i := 8 * i) (by omega)
  have hsh := fun K' => zrr (K := .u64) (K' := K') (t := 30) (v := v) (i := i) rfl (by omega)
  have hc5 := fun S => q2z (S := S) (n := v / 256 ^ i)
  have hS : ([rowY (layB b k0 (leB i v))] : zB)[0]? = some (rowY (layB b k0 (leB i v))) := rfl
  have hix := ixY (n := b.length) (i := k0 + i) hS (by omega)
  have hrw := zri (i := k0 + i) hS (by omega)
  have hpt := zzf (i := k0 + i) hS (x := UInt8.ofNat (v / 256 ^ i % 256))
  have e : (layB b k0 (leB i v)).set (k0 + i) (UInt8.ofNat (v / 256 ^ i % 256)) = layB b k0 (leB (i + 1) v) := by
   rw [zhb, z5f (by rw [qV]; omega), qV]
  rw [e] at hpt
  have hpt : jQ [rowY (layB b k0 (leB i v))] 0 (k0 + i) (.d (.int .u8 ((UInt8.ofNat (v / 256 ^ i % 256)).toNat : Int))) = some [rowY (layB b k0 (leB (i + 1) v))] := hpt
  rw [zR]
  refine zL ?_
  conv => arg 2; whnf
  simp (maxSteps:=1000000) (disch:=first|assumption|omega|rfl) only [↓gp, gc, Nat.reduceAdd, h1, h2, h3, hcv, hsh, hc5, hix, hrw, st5, hpt]
  exact ih (i + 1) _ _ _ _ _ _ _ _ _ _ _ _ _ _ _ _ _ _ _ _ _ _ _ _ _ _ _ _ _ _ _ _ _ _ _ (by omega) (by omega) hR
theorem zgk {S : zB} {T : List V} {dst : Option Tmp} {ty : TypeId} {pos : String} {after : Array Edge} {g : Option (Nat × Bool)} : opV Tryz.prog S T ⟨dst, .buildSlice 76 0 #[], ty, pos, after, g⟩ = some (.val (.ts []) S 0) := by kernel_rfl
theorem q07 (b : List UInt8) (hb0 : b ≠ []) (hb : b.length ≤ 1000) (k0 w v : Nat) (hk0 : k0 + w ≤ b.length) (hw1 : 1 ≤ w) (hw8 : w ≤ 8) : Ev cfg 147 [encB b, .int .i64 (k0 : Int), .int .i64 (w : Int), .int .u64 (v : Int)] (.ret (.tup [.d (encB (layB b k0 (leB w v))), .d (.bool true)])) := by
 refine kD rfl rfl zv5 ?_
 show Wp cfg (Tryz.f147.body.getD .skip) ((.d (encB b)) :: (.d (.int .i64 (k0 : Int))) :: (.d (.int .i64 (w : Int))) :: (.d (.int .u64 (v : Int))) :: uZ (uZ (uZ ((.tup []) :: (.tup []) :: (.tup []) :: (.tup []) :: (.tup []) :: (.tup []) :: (.tup []) :: (.tup []) :: [])))) [] [] _
 unfold uZ
 conv => arg 2; whnf
 have c4 : ¬ (w : Int) > 8 := by omega
 have ct := fun {ops dst k T S F Q} => z3a (ops := ops) (dst := dst) (k := k) (T := T) (S := S) (F := F) (Q := Q) (a := k0) (w := w) (n := b.length) (by omega) (by omega) (by omega)
 rw [decide_eq_true (show 1 ≤ w ∧ k0 + w ≤ b.length from ⟨hw1, hk0⟩)] at ct
 have hln : ∀ S : zB, zO Tryz.prog S .len [76] [.d (encB b)] = some (.val (.d (.int .i64 b.length)) S 0) := fun S => by rw [encB, zq2, List.length_map]
 have hap := fun S => zpk (S := S) hb0 (by omega)
 have hll : (layB b k0 (leB w v)).length = b.length := by rw [jB (by rw [qV]; omega)]
 simp (maxSteps:=1000000) (disch:=first|assumption|omega|rfl) only [↓gp, gc, Nat.reduceAdd, ↓vbs, ct, zn3, hln, zgk, hap]
 have e0 : rowY b = rowY (layB b k0 (leB 0 v)) := by rw [show leB 0 v = [] from rfl, z7x]
 rw [e0]
 refine q1x b hb k0 w v hk0 hw8 _ _ _ w 0 _ _ _ _ _ _ _ _ _ _ _ _ _ _ _ _ _ _ _ _ _ _ _ _ _ _ _ _ _ _ _ _ _ _ _ rfl (Nat.zero_le _) ?_
 intro i' g0 g2 g4 g5 g6 g7 gE gG gB gC gA gD gL gM gF gK gN gJ gH gO gQ gU gR gS gV gW gX gY gZ gh gj gk gn gr gz
 simp (maxSteps:=1000000) (disch:=first|assumption|omega|rfl) only [↓gp, gc, Nat.reduceAdd]
 exact zby rfl rfl rfl rfl (ztu rfl hll.symm) rfl
theorem u64_in {n : Int} (h0 : 0 ≤ n) (h1 : n < 18446744073709551616) : IntKind.u64.wrap n = n := by
 have : IntKind.u64.wrap n = n % 18446744073709551616 := rfl
 rw [this]
 omega
theorem zqy {a x i : Nat} (ha : a < 256 ^ i) : a ||| x * 256 ^ i = a + x * 256 ^ i := by
 have e : (256 : Nat) ^ i = 2 ^ (8 * i) := by rw [Nat.pow_mul]
 rw [e] at ha ⊢
 have := Nat.shiftLeft_add_eq_or_of_lt (i := 8 * i) (b := a) ha x
 rw [Nat.shiftLeft_eq] at this
 rw [Nat.or_comm, ← this, Nat.add_comm]
theorem q38 {a x i : Nat} {t : TypeId} (ha : a < 256 ^ i) (h : a + x * 256 ^ i < 18446744073709551616) : binV Tryz.prog .or t (.d (.int .u64 (a : Int))) (.d (.int .u64 ((x * 256 ^ i : Nat) : Int))) = some (.d (.int .u64 ((a + x * 256 ^ i : Nat) : Int))) := by
 have e1 : BitVec.ofInt IntKind.u64.bits (a : Int) = BitVec.ofNat 64 a := BitVec.ofInt_natCast ..
 have e2 : BitVec.ofInt IntKind.u64.bits ((x * 256 ^ i : Nat) : Int) = BitVec.ofNat 64 (x * 256 ^ i) := BitVec.ofInt_natCast ..
 have e3 : (BitVec.ofNat 64 a ||| BitVec.ofNat 64 (x * 256 ^ i)).toNat = a + x * 256 ^ i := by
  rw [BitVec.toNat_or, BitVec.toNat_ofNat, BitVec.toNat_ofNat, Nat.mod_eq_of_lt (by omega), Nat.mod_eq_of_lt (by omega), zqy ha]
 simp only [binV, qR, e1, e2]
 show some (V.d (.int .u64 (IntKind.u64.wrap (((BitVec.ofNat 64 a ||| BitVec.ofNat 64 (x * 256 ^ i)).toNat : Nat) : Int)))) = _
 rw [e3, u64_in (by omega) (by omega)]
theorem zwz {a x i : Nat} {t : TypeId} (ha : a < 256 ^ i) (h : a + x * 256 ^ i < 9223372036854775808) : binV Tryz.prog .or t (.d (.int .i64 (a : Int))) (.d (.int .i64 ((x * 256 ^ i : Nat) : Int))) = some (.d (.int .i64 ((a + x * 256 ^ i : Nat) : Int))) := by
 have e1 : BitVec.ofInt IntKind.i64.bits (a : Int) = BitVec.ofNat 64 a := BitVec.ofInt_natCast ..
 have e2 : BitVec.ofInt IntKind.i64.bits ((x * 256 ^ i : Nat) : Int) = BitVec.ofNat 64 (x * 256 ^ i) := BitVec.ofInt_natCast ..
 have e3 : (BitVec.ofNat 64 a ||| BitVec.ofNat 64 (x * 256 ^ i)).toNat = a + x * 256 ^ i := by
  rw [BitVec.toNat_or, BitVec.toNat_ofNat, BitVec.toNat_ofNat, Nat.mod_eq_of_lt (by omega), Nat.mod_eq_of_lt (by omega), zqy ha]
 simp only [binV, qR, e1, e2]
 show some (V.d (.int .i64 (IntKind.i64.wrap (((BitVec.ofNat 64 a ||| BitVec.ofNat 64 (x * 256 ^ i)).toNat : Nat) : Int)))) = _
 rw [e3, wrap64 (by omega)]
theorem zyk {x i : Nat} {K' : IntKind} {t : TypeId} (hi : i < 8) (h : x * 256 ^ i < 18446744073709551616) : binV Tryz.prog .shl t (.d (.int .u64 (x : Int))) (.d (.int K' ((8 * i : Nat) : Int))) = some (.d (.int .u64 ((x * 256 ^ i : Nat) : Int))) := by
 have e : min ((8 * i : Nat) : Int).toNat IntKind.u64.bits = 8 * i := by show min ((8 * i : Nat) : Int).toNat 64 = 8 * i; omega
 have e2 : (x : Int) * 2 ^ (8 * i) = ((x * 256 ^ i : Nat) : Int) := by
  have : (256 : Nat) ^ i = 2 ^ (8 * i) := by rw [Nat.pow_mul]
  rw [this]; push_cast; rfl
 simp only [binV, qR]
 rw [if_neg (by omega), e, e2, u64_in (by omega) (by omega)]
 rfl
theorem zwq {x i : Nat} {K' : IntKind} {t : TypeId} (hi : i < 8) (h : x * 256 ^ i < 9223372036854775808) : binV Tryz.prog .shl t (.d (.int .i64 (x : Int))) (.d (.int K' ((8 * i : Nat) : Int))) = some (.d (.int .i64 ((x * 256 ^ i : Nat) : Int))) := by
 have e : min ((8 * i : Nat) : Int).toNat IntKind.i64.bits = 8 * i := by show min ((8 * i : Nat) : Int).toNat 64 = 8 * i; omega
 have e2 : (x : Int) * 2 ^ (8 * i) = ((x * 256 ^ i : Nat) : Int) := by
  have : (256 : Nat) ^ i = 2 ^ (8 * i) := by rw [Nat.pow_mul]
  rw [this]; push_cast; rfl
 simp only [binV, qR]
 rw [if_neg (by omega), e, e2, wrap64 (by omega)]
 rfl
theorem q1r {S : zB} {x : UInt8} : qI Tryz.prog S 5 30 (.d (.int .u8 (x.toNat : Int))) = some (.d (.int .u64 (x.toNat : Int)), 0) := by
 have h1 : Tryz.prog.underlying 5 = some (.int .u8) := by kernel_rfl
 have h2 : Tryz.prog.underlying 30 = some (.int .u64) := by kernel_rfl
 have : x.toNat < 256 := x.toNat_lt
 simp only [qI, h1, h2]
 rw [u64_in (by omega) (by omega)]
theorem cv53 {S : zB} {x : UInt8} : qI Tryz.prog S 5 3 (.d (.int .u8 (x.toNat : Int))) = some (.d (.int .i64 (x.toNat : Int)), 0) := by
 have h1 : Tryz.prog.underlying 5 = some (.int .u8) := by kernel_rfl
 have h2 : Tryz.prog.underlying 3 = some (.int .i64) := by kernel_rfl
 have : x.toNat < 256 := x.toNat_lt
 simp only [qI, h1, h2]
 rw [wrap64 (by omega)]
theorem zgt {t : List UInt8} {i : Nat} (h : i < t.length) : leN (t.take (i + 1)) = leN (t.take i) + t[i].toNat * 256 ^ i := by
 rw [List.take_add_one, List.getElem?_eq_getElem h]
 show leN (t.take i ++ [t[i]]) = _
 rw [zgn, List.length_take, Nat.min_eq_left (by omega), Nat.mul_comm]
theorem z1w {t : List UInt8} {i : Nat} (h : i ≤ t.length) : leN (t.take i) < 256 ^ i := by
 have := zr7 (t.take i)
 rwa [List.length_take, Nat.min_eq_left h] at this
theorem zrc {i w : Nat} (h : i ≤ w) : (256 : Nat) ^ i ≤ 256 ^ w := Nat.pow_le_pow_right (by decide) h
theorem q2t (b : List UInt8) (hb : b.length ≤ 1000) (k0 : Nat) (t : List UInt8) (ht : t = (b.drop k0).take t.length) (hk0 : k0 + t.length ≤ b.length) (hw8 : t.length ≤ 8) (x6 x7 : V) (R : Post) (S : zB) : ∀ (k i : Nat) (g2 g3 g4 g5 g9 gI gE gG gB gC gA gD gL gM gF gJ gH gO gP gT gQ gU gR gS gV gW gX gY gZ gh gj gk : V), t.length - i = k → i ≤ t.length →
 (∀ i' g2 g3 g4 g5 g9 gI gE gG gB gC gA gD gL gM gF gJ gH gO gP gT gQ gU gR gS gV gW gX gY gZ gh gj gk, R (.exit 0) ((.d (encB b)) :: (.d (.int .i64 (k0 : Int))) :: g2 :: g3 :: g4 :: g5 :: x6 :: x7 :: (.d (.int .u64 (leN t : Int))) :: g9 :: gI :: gE :: gG :: gB :: gC :: gA :: gD :: gL :: gM :: gF :: (.d (.int .i64 (t.length : Int))) :: i' :: gJ :: gH :: gO :: gP :: gT :: gQ :: gU :: gR :: gS :: gV :: gW :: gX :: gY :: gZ :: gh :: gj :: gk :: []) S []) →
 Wp cfg (.loop (lpOf (Tryz.f118.body.getD .skip) 0)) ((.d (encB b)) :: (.d (.int .i64 (k0 : Int))) :: g2 :: g3 :: g4 :: g5 :: x6 :: x7 :: (.d (.int .u64 (leN (t.take i) : Int))) :: g9 :: gI :: gE :: gG :: gB :: gC :: gA :: gD :: gL :: gM :: gF :: (.d (.int .i64 (t.length : Int))) :: (.d (.int .i64 (i : Int))) :: gJ :: gH :: gO :: gP :: gT :: gQ :: gU :: gR :: gS :: gV :: gW :: gX :: gY :: gZ :: gh :: gj :: gk :: []) S [] R := by
 intro k
 induction k with
 | zero =>
  intro i g2 g3 g4 g5 g9 gI gE gG gB gC gA gD gL gM gF gJ gH gO gP gT gQ gU gR gS gV gW gX gY gZ gh gj gk hk hi hR
  have hie : i = t.length := by omega
  subst hie
  rw [List.take_length]
  rw [zR]
  refine zL ?_
  conv => arg 2; whnf
  simp (maxSteps:=1000000) (disch:=first|assumption|omega|rfl) only [↓gp, gc, Nat.reduceAdd]
  exact hR _ _ _ _ _ _ _ _ _ _ _ _ _ _ _ _ _ _ _ _ _ _ _ _ _ _ _ _ _ _ _ _ _
 | succ k ih =>
  intro i g2 g3 g4 g5 g9 gI gE gG gB gC gA gD gL gM gF gJ gH gO gP gT gQ gU gR gS gV gW gX gY gZ gh gj gk hk hi hR
  have hlt : i < t.length := by omega
  have h1 : IntKind.i64.wrap ((k0 : Int) + (i : Int)) = ((k0 + i : Nat) : Int) := by rw [wrap64 (by omega)]; omega
  have h2 : IntKind.i64.wrap (8 * (i : Int)) = ((8 * i : Nat) : Int) := by rw [wrap64 (by omega)]; omega
  have h3 : IntKind.i64.wrap ((i : Int) + 1) = ((i + 1 : Nat) : Int) := by rw [wrap64 (by omega)]; omega
  have hcv := fun S => cvu (S := S) (i := 8 * i) (by omega)
  have he : b[k0 + i] = t[i] := by
   have : t[i] = ((b.drop k0).take t.length)[i]'(by rw [← ht]; exact hlt) := by congr 1
   rw [this]; simp
  have hix : ∀ S : zB, zI Tryz.prog S 76 (.d (encB b)) (.d (.int .i64 ((k0 + i : Nat) : Int))) = some (.d (.ptr (.int .u8 (t[i].toNat : Int)))) := fun S => by rw [encB, ix76 (l := b) (i := k0 + i) (by omega), he]
  have hn := zgt hlt
  have hlow := z1w (t := t) (i := i) (by omega)
  have hhi := z1w (t := t) (i := i + 1) (by omega)
  have hp := zrc (i := i + 1) (w := 8) (by omega)
  have hp8 : (256 : Nat) ^ 8 = 18446744073709551616 := by decide
  rw [hn] at hhi
  have hcx := fun S => q1r (S := S) (x := t[i])
  have hsh := fun K' => zyk (K' := K') (t := 30) (x := t[i].toNat) (i := i) (by omega) (by omega)
  have hor := q38 (t := 30) (a := leN (t.take i)) (x := t[i].toNat) (i := i) hlow (by omega)
  rw [← hn] at hor
  rw [zR]
  refine zL ?_
  conv => arg 2; whnf
  simp (maxSteps:=1000000) (disch:=first|assumption|omega|rfl) only [↓gp, gc, Nat.reduceAdd, h1, h2, h3, hcv, hix, hcx, hsh, hor]
  exact ih (i + 1) _ _ _ _ _ _ _ _ _ _ _ _ _ _ _ _ _ _ _ _ _ _ _ _ _ _ _ _ _ _ _ _ (by omega) (by omega) hR
theorem zwx (b : List UInt8) (hb : b.length ≤ 1000) (k0 w : Nat) (hk0 : k0 + w ≤ b.length) (hw1 : 1 ≤ w) (hw8 : w ≤ 8) : Ev cfg 118 [encB b, .int .i64 (k0 : Int), .int .i64 (w : Int)] (.ret (.tup [.d (.int .u64 (leN ((b.drop k0).take w) : Int)), .d (.bool true)])) := by
 refine kD rfl rfl zvm ?_
 show Wp cfg (Tryz.f118.body.getD .skip) ((.d (encB b)) :: (.d (.int .i64 (k0 : Int))) :: (.d (.int .i64 (w : Int))) :: uZ (uZ (uZ ((.tup []) :: (.tup []) :: (.tup []) :: (.tup []) :: (.tup []) :: (.tup []) :: [])))) [] [] _
 unfold uZ
 conv => arg 2; whnf
 have c4 : ¬ (w : Int) > 8 := by omega
 have ct := fun {ops dst k T S F Q} => z3a (ops := ops) (dst := dst) (k := k) (T := T) (S := S) (F := F) (Q := Q) (a := k0) (w := w) (n := b.length) (by omega) (by omega) (by omega)
 rw [decide_eq_true (show 1 ≤ w ∧ k0 + w ≤ b.length from ⟨hw1, hk0⟩)] at ct
 have hln : ∀ S : zB, zO Tryz.prog S .len [76] [.d (encB b)] = some (.val (.d (.int .i64 b.length)) S 0) := fun S => by rw [encB, zq2, List.length_map]
 simp (maxSteps:=1000000) (disch:=first|assumption|omega|rfl) only [↓gp, gc, Nat.reduceAdd, ct, zn3, hln]
 have hl : ((b.drop k0).take w).length = w := by rw [List.length_take, List.length_drop]; omega
 have ht : (b.drop k0).take w = (b.drop k0).take ((b.drop k0).take w).length := by rw [hl]
 generalize (b.drop k0).take w = t at *
 subst hl
 refine q2t b hb k0 t ht hk0 hw8 _ _ _ _ t.length 0 _ _ _ _ _ _ _ _ _ _ _ _ _ _ _ _ _ _ _ _ _ _ _ _ _ _ _ _ _ _ _ _ rfl (Nat.zero_le _) ?_
 intro i' g2 g3 g4 g5 g9 gI gE gG gB gC gA gD gL gM gF gJ gH gO gP gT gQ gU gR gS gV gW gX gY gZ gh gj gk
 simp (maxSteps:=1000000) (disch:=first|assumption|omega|rfl) only [↓gp, gc, Nat.reduceAdd]
 exact zby rfl rfl rfl rfl rfl rfl
theorem at_l (b : List UInt8) (hb : b.length = 256) (k0 : Nat) (t : List UInt8) (ht : t = (b.drop k0).take t.length) (hk0 : k0 + t.length ≤ b.length) (hw4 : t.length ≤ 4) (x6 : V) (R : Post) : ∀ (k i : Nat) (g0 g2 g4 g5 g8 g9 gI gE gG gB gC gA gD gF gK gN gJ gH gO gP gT gQ gU gR gS gV gW gX gY : V), t.length - i = k → i ≤ t.length →
 (∀ i' g0 g2 g4 g5 g8 g9 gI gE gG gB gC gA gD gF gK gN gJ gH gO gP gT gQ gU gR gS gV gW gX gY, R (.exit 0) (g0 :: (.d (.int .i64 (k0 : Int))) :: g2 :: (.ref 0 0 0) :: g4 :: g5 :: x6 :: (.d (.int .i64 (leN t : Int))) :: g8 :: g9 :: gI :: gE :: gG :: gB :: gC :: gA :: gD :: (.d (.int .i64 (t.length : Int))) :: i' :: gF :: gK :: gN :: gJ :: gH :: gO :: gP :: gT :: gQ :: gU :: gR :: gS :: gV :: gW :: gX :: gY :: []) [.row [.d (blkD b)] 42] []) →
 Wp cfg (.loop (lpOf (Tryz.f119.body.getD .skip) 0)) (g0 :: (.d (.int .i64 (k0 : Int))) :: g2 :: (.ref 0 0 0) :: g4 :: g5 :: x6 :: (.d (.int .i64 (leN (t.take i) : Int))) :: g8 :: g9 :: gI :: gE :: gG :: gB :: gC :: gA :: gD :: (.d (.int .i64 (t.length : Int))) :: (.d (.int .i64 (i : Int))) :: gF :: gK :: gN :: gJ :: gH :: gO :: gP :: gT :: gQ :: gU :: gR :: gS :: gV :: gW :: gX :: gY :: []) [.row [.d (blkD b)] 42] [] R := by
 intro k
 induction k with
 | zero =>
  intro i g0 g2 g4 g5 g8 g9 gI gE gG gB gC gA gD gF gK gN gJ gH gO gP gT gQ gU gR gS gV gW gX gY hk hi hR
  have hie : i = t.length := by omega
  subst hie
  rw [List.take_length]
  rw [zR]
  refine zL ?_
  conv => arg 2; whnf
  simp (maxSteps:=1000000) (disch:=first|assumption|omega|rfl) only [↓gp, gc, Nat.reduceAdd]
  exact hR _ _ _ _ _ _ _ _ _ _ _ _ _ _ _ _ _ _ _ _ _ _ _ _ _ _ _ _ _ _
 | succ k ih =>
  intro i g0 g2 g4 g5 g8 g9 gI gE gG gB gC gA gD gF gK gN gJ gH gO gP gT gQ gU gR gS gV gW gX gY hk hi hR
  have hlt : i < t.length := by omega
  have h1 : IntKind.i64.wrap ((k0 : Int) + (i : Int)) = ((k0 + i : Nat) : Int) := by rw [wrap64 (by omega)]; omega
  have h2 : IntKind.i64.wrap (8 * (i : Int)) = ((8 * i : Nat) : Int) := by rw [wrap64 (by omega)]; omega
  have h3 : IntKind.i64.wrap ((i : Int) + 1) = ((i + 1 : Nat) : Int) := by rw [wrap64 (by omega)]; omega
  have hcv := fun S => cvu (S := S) (i := 8 * i) (by omega)
  have hia := fun S j x => ia42 (S := S) (j := j) (x := x) (i := k0 + i) (by omega)
  have hg := bt42.get (v := .d (blkD b)) jT hb (i := k0 + i) (by omega)
  have he : b[k0 + i] = t[i] := by
   have : t[i] = ((b.drop k0).take t.length)[i]'(by rw [← ht]; exact hlt) := by congr 1
   rw [this]; simp
  rw [he] at hg
  have hn := zgt hlt
  have hlow := z1w (t := t) (i := i) (by omega)
  have hhi := z1w (t := t) (i := i + 1) (by omega)
  have hp := zrc (i := i + 1) (w := 4) (by omega)
  have hp8 : (256 : Nat) ^ 4 = 4294967296 := by decide
  rw [hn] at hhi
  have hcx := fun S => cv53 (S := S) (x := t[i])
  have hsh := fun K' => zwq (K' := K') (t := 3) (x := t[i].toNat) (i := i) (by omega) (by omega)
  have hor := zwz (t := 3) (a := leN (t.take i)) (x := t[i].toNat) (i := i) hlow (by omega)
  rw [← hn] at hor
  rw [zR]
  refine zL ?_
  conv => arg 2; whnf
  simp (maxSteps:=1000000) (disch:=first|assumption|omega|rfl) only [↓gp, gc, Nat.reduceAdd, h1, h2, h3, hcv, hia, hg, hcx, hsh, hor]
  exact ih (i + 1) _ _ _ _ _ _ _ _ _ _ _ _ _ _ _ _ _ _ _ _ _ _ _ _ _ _ _ _ _ (by omega) (by omega) hR
theorem q0g (b : List UInt8) (hb : b.length = 256) (k0 w : Nat) (hk0 : k0 + w ≤ 256) (hw1 : 1 ≤ w) (hw4 : w ≤ 4) : Ev cfg 119 [blkD b, .int .i64 (k0 : Int), .int .i64 (w : Int)] (.ret (.d (.int .i64 (leN ((b.drop k0).take w) : Int)))) := by
 refine kD rfl rfl zus ?_
 show Wp cfg (Tryz.f119.body.getD .skip) ((.d (blkD b)) :: (.d (.int .i64 (k0 : Int))) :: (.d (.int .i64 (w : Int))) :: uZ (uZ (uZ ((.tup []) :: (.tup []) :: [])))) [] [] _
 unfold uZ
 conv => arg 2; whnf
 have c4 : ¬ (w : Int) > 4 := by omega
 have hf := fd42 hb
 have ct := fun {ops dst k T S F Q} => z3a (ops := ops) (dst := dst) (k := k) (T := T) (S := S) (F := F) (Q := Q) (a := k0) (w := w) (n := 256) (by omega) (by omega) (by omega)
 rw [decide_eq_true (show 1 ≤ w ∧ k0 + w ≤ 256 from ⟨hw1, hk0⟩)] at ct
 simp only [zi3] at ct
 simp (maxSteps:=1000000) (disch:=first|assumption|omega|rfl) only [↓gp, gc, Nat.reduceAdd, hf, ct, zn3]
 have hl : ((b.drop k0).take w).length = w := by rw [List.length_take, List.length_drop]; omega
 have ht : (b.drop k0).take w = (b.drop k0).take ((b.drop k0).take w).length := by rw [hl]
 generalize (b.drop k0).take w = t at *
 subst hl
 refine at_l b hb k0 t ht (by omega) hw4 _ _ t.length 0 _ _ _ _ _ _ _ _ _ _ _ _ _ _ _ _ _ _ _ _ _ _ _ _ _ _ _ _ _ rfl (Nat.zero_le _) ?_
 intro i' g0 g2 g4 g5 g8 g9 gI gE gG gB gC gA gD gF gK gN gJ gH gO gP gT gQ gU gR gS gV gW gX gY
 simp (maxSteps:=1000000) (disch:=first|assumption|omega|rfl) only [↓gp, gc, Nat.reduceAdd]
 exact zP rfl rfl rfl
theorem zfn {n : Int} : IntKind.u32.wrap n = n % 4294967296 := rfl
theorem zya {h : Nat} {x : UInt8} (hh : h < 4294967296) : binV Tryz.prog .xor 210 (.d (.int .u32 (h : Int))) (.d (.int .u32 (x.toNat : Int))) = some (.d (.int .u32 ((h ^^^ x.toNat : Nat) : Int))) := by
 have hx : x.toNat < 256 := x.toNat_lt
 have e1 : BitVec.ofInt IntKind.u32.bits (h : Int) = BitVec.ofNat 32 h := BitVec.ofInt_natCast ..
 have e2 : BitVec.ofInt IntKind.u32.bits (x.toNat : Int) = BitVec.ofNat 32 x.toNat := BitVec.ofInt_natCast ..
 have e3 : (BitVec.ofNat 32 h ^^^ BitVec.ofNat 32 x.toNat).toNat = h ^^^ x.toNat := by
  rw [BitVec.toNat_xor, BitVec.toNat_ofNat, BitVec.toNat_ofNat, Nat.mod_eq_of_lt (by omega), Nat.mod_eq_of_lt (by omega)]
 have hlt : h ^^^ x.toNat < 4294967296 := Nat.xor_lt_two_pow (n := 32) hh (by omega)
 simp only [binV, qR, e1, e2]
 show some (V.d (.int .u32 (IntKind.u32.wrap (((BitVec.ofNat 32 h ^^^ BitVec.ofNat 32 x.toNat).toNat : Nat) : Int)))) = _
 rw [e3, zfn]
 congr 3
 omega
theorem q1f {h : Nat} {x : UInt8} : binV Tryz.prog .mul 210 (.d (.int .u32 ((h ^^^ x.toNat : Nat) : Int))) (.d (.int .u32 16777619)) = some (.d (.int .u32 (mixS h x : Int))) := by
 have : IntKind.u32.wrap (((h ^^^ x.toNat : Nat) : Int) * 16777619) = (mixS h x : Int) := by
  rw [zfn]; unfold mixS; omega
 simp only [binV, qR, this]
 rfl
theorem zzz {S : zB} {x : UInt8} : qI Tryz.prog S 5 210 (.d (.int .u8 (x.toNat : Int))) = some (.d (.int .u32 (x.toNat : Int)), 0) := by
 have h1 : Tryz.prog.underlying 5 = some (.int .u8) := by kernel_rfl
 have h2 : Tryz.prog.underlying 210 = some (.int .u32) := by kernel_rfl
 have hx : x.toNat < 256 := x.toNat_lt
 simp only [qI, h1, h2]
 have : IntKind.u32.wrap (x.toNat : Int) = (x.toNat : Int) := by rw [zfn]; omega
 rw [this]
theorem zl9 {s : List UInt8} {x : UInt8} {h : Nat} : mixL h (s ++ [x]) = mixS (mixL h s) x := by
 unfold mixL
 rw [List.foldl_append, List.foldl_cons, List.foldl_nil]
theorem zjv {s : List UInt8} {i h : Nat} (hi : i < s.length) : mixL h (s.take (i + 1)) = mixS (mixL h (s.take i)) s[i] := by
 rw [List.take_succ_eq_append_getElem hi, zl9]
theorem zzr (s : List UInt8) (hs : s.length ≤ 1000000) (h : Nat) (hh : h < 4294967296) (x4 : V) (R : Post) (S : zB) : ∀ (k i : Nat) (g2 g3 g5 g6 g9 gI gE gG gB gC gA gD gL gM gF : V), s.length - i = k → i ≤ s.length →
 (∀ i' g2 g3 g5 g6 g9 gI gE gG gB gC gA gD gL gM gF, R (.exit 0) ((.d (.int .u32 (mixL h s : Int))) :: (.d (.str s)) :: g2 :: g3 :: x4 :: g5 :: g6 :: (.d (.int .i64 (s.length : Int))) :: i' :: g9 :: gI :: gE :: gG :: gB :: gC :: gA :: gD :: gL :: gM :: gF :: []) S []) →
 Wp cfg (.loop (lpOf (Tryz.f161.body.getD .skip) 0)) ((.d (.int .u32 (mixL h (s.take i) : Int))) :: (.d (.str s)) :: g2 :: g3 :: x4 :: g5 :: g6 :: (.d (.int .i64 (s.length : Int))) :: (.d (.int .i64 (i : Int))) :: g9 :: gI :: gE :: gG :: gB :: gC :: gA :: gD :: gL :: gM :: gF :: []) S [] R := by
 intro k
 induction k with
 | zero =>
  intro i g2 g3 g5 g6 g9 gI gE gG gB gC gA gD gL gM gF hk hi hR
  have hie : i = s.length := by omega
  subst hie
  rw [List.take_length]
  rw [zR]
  refine zL ?_
  conv => arg 2; whnf
  simp (maxSteps:=1000000) (disch:=first|assumption|omega|rfl) only [↓gp, gc, Nat.reduceAdd]
  exact hR _ _ _ _ _ _ _ _ _ _ _ _ _ _ _ _
 | succ k ih =>
  intro i g2 g3 g5 g6 g9 gI gE gG gB gC gA gD gL gM gF hk hi hR
  have hlt : i < s.length := by omega
  have h3 : IntKind.i64.wrap ((i : Int) + 1) = ((i + 1 : Nat) : Int) := by rw [wrap64 (by omega)]; omega
  have hix := q29 hlt
  have hcx := fun S => zzz (S := S) (x := s[i])
  have hlt2 := zfw (s.take i) h hh
  have hxo := zya (x := s[i]) hlt2
  have hmu := q1f (h := mixL h (s.take i)) (x := s[i])
  rw [← zjv hlt] at hmu
  rw [zR]
  refine zL ?_
  conv => arg 2; whnf
  simp (maxSteps:=1000000) (disch:=first|assumption|omega|rfl) only [↓gp, gc, Nat.reduceAdd, h3, hix, hcx, hxo, hmu]
  exact ih (i + 1) _ _ _ _ _ _ _ _ _ _ _ _ _ _ _ (by omega) (by omega) hR
theorem zt4 (s : List UInt8) (hs : s.length ≤ 1000000) (h : Nat) (hh : h < 4294967296) : Ev cfg 161 [.int .u32 (h : Int), .str s] (.ret (.d (.int .u32 (mixL h s : Int)))) := by
 refine kD rfl rfl zt2 ?_
 show Wp cfg (Tryz.f161.body.getD .skip) ((.d (.int .u32 (h : Int))) :: (.d (.str s)) :: uZ ((.tup []) :: (.tup []) :: (.tup []) :: (.tup []) :: (.tup []) :: (.tup []) :: (.tup []) :: (.tup []) :: [])) [] [] _
 unfold uZ
 conv => arg 2; whnf
 simp (maxSteps:=1000000) (disch:=first|assumption|omega|rfl) only [↓gp, gc, Nat.reduceAdd]
 refine zzr s hs h hh _ _ _ s.length 0 _ _ _ _ _ _ _ _ _ _ _ _ _ _ _ rfl (Nat.zero_le _) ?_
 intro i' g2 g3 g5 g6 g9 gI gE gG gB gC gA gD gL gM gF
 simp (maxSteps:=1000000) (disch:=first|assumption|omega|rfl) only [↓gp, gc, Nat.reduceAdd]
 exact zP rfl rfl rfl
section
variable {ops : Array Oper} {dst : Option Tmp} {k : List Oper} {T : List V} {S : zB} {F : Dfs} {Q : Post}
theorem zmw {s : List UInt8} (hs : s.length ≤ 1000000) : WpR cfg ops dst k T S F Q (some (.enter 161 [.d (.int .u32 2166136261), .d (.str s)])) = WpL cfg ops k (putT T dst (.d (.int .u32 (ze2 s : Int)))) S F Q :=
 qA (ds := [.int .u32 2166136261, .str s]) rfl (zt4 s hs 2166136261 (by decide))
end
theorem zx7 (s : List UInt8) (hs : s.length ≤ 1000000) : Ev cfg 149 [.str s] (.ret (.d (.int .u32 (ze2 s : Int)))) := by
 refine kD rfl rfl ztk ?_
 show Wp cfg (Tryz.f149.body.getD .skip) ((.d (.str s)) :: (.tup []) :: (.tup []) :: (.tup []) :: (.tup []) :: []) [] [] _
 conv => arg 2; whnf
 simp (maxSteps:=1000000) (disch:=first|assumption|omega|rfl) only [↓gp, gc, Nat.reduceAdd, zmw hs, zy8]
 exact zP rfl rfl rfl
section
variable {ops : Array Oper} {dst : Option Tmp} {k : List Oper} {T : List V} {S : zB} {F : Dfs} {Q : Post}
theorem zqk {o o2 : Oper} {T2 : List V} (h : wD cfg.P T o (o2 :: k) = some T2) : WpL cfg ops (o :: o2 :: k) T S F Q = WpL cfg ops k T2 S F Q := by
 have e : ∀ n, seqV cfg (run cfg n) ops (o :: o2 :: k) T S F = seqV cfg (run cfg n) ops k T2 S F := fun n => by
  conv => lhs; unfold seqV
  simp only [h]
 unfold WpL
 simp only [e]
theorem zoj {d : Nat} {dst2 : Option Tmp} {ty ty2 : TypeId} {pos pos2 : String} {af af2 : Array Edge} (hd : Nat.ble (d + 1) T.length = true) :
  WpL cfg ops (⟨some d, .buildSlice 76 8 #[(0, .const (.int .u8 101)), (1, .const (.int .u8 115)), (2, .const (.int .u8 99)), (3, .const (.int .u8 104)), (4, .const (.int .u8 101)), (5, .const (.int .u8 97)), (6, .const (.int .u8 116)), (7, .const (.int .u8 49))], ty, pos, af, none⟩ :: ⟨dst2, .convert 76 76 (.tmp d), ty2, pos2, af2, none⟩ :: k) T S F Q = WpL cfg ops k (putT (putT T (some d) .junk) dst2 (.ts (magicB.map byD))) S F Q := by
 refine zqk ?_
 have hd' : d < T.length := Nat.le_of_ble_eq_true hd
 have hu : Tryz.prog.underlying 76 = some (.slice 5) := Tryz.underlying76
 unfold wD
 simp only
 rw [if_pos ⟨rfl, rfl, trivial, trivial, trivial, hd'⟩]
 rfl
end
theorem zat {ops : Array Oper} {dst : Option Tmp} {k : List Oper} {T : List V} {S : zB} {F : Dfs} {Q : Post} {l : Lay} (hb : InB l.blocks) (hi : InB l.inodes) : WpR cfg ops dst k T S F Q (some (.enter 75 [.d (encLay l)])) = WpL cfg ops k (putT T dst (.d (.int .i64 (if MayL l then 0 else 1)))) S F Q :=
 qA (ds := [encLay l]) rfl (zgd l hb hi)
theorem zug {ops : Array Oper} {dst : Option Tmp} {k : List Oper} {T : List V} {S : zB} {F : Dfs} {Q : Post} : WpR cfg ops dst k T S F Q (some (.enter 145 [.ts (magicB.map byD)])) = WpL cfg ops k (putT T dst (.d (blkD (magicB ++ zK 248)))) S F Q :=
 kW (ds := [encB magicB]) rfl (by kernel_rfl) (by kernel_rfl) (by rw [← (zl4 0 0 0).1]; exact zxi magicB (by decide))
theorem zgg {ops : Array Oper} {dst : Option Tmp} {k : List Oper} {T : List V} {S : zB} {F : Dfs} {Q : Post} {b : List UInt8} (hb : b.length = 256) {k0 n : Nat} (hn : 1 ≤ n) (hk0 : k0 + n ≤ 256) : WpR cfg ops dst k T S F Q (some (.enter 107 [.d (blkD b), .d (.int .i64 (k0 : Int)), .d (.int .i64 (n : Int))])) = WpL cfg ops k (putT T dst (.d (encB ((b.drop k0).take n)))) S F Q :=
 qA (ds := [blkD b, .int .i64 (k0 : Int), .int .i64 (n : Int)]) rfl (zr8 b hb k0 n hn hk0)
theorem zpn {ops : Array Oper} {dst : Option Tmp} {k : List Oper} {T : List V} {S : zB} {F : Dfs} {Q : Post} {s : List UInt8} (hs : s.length ≤ 1000000) : WpR cfg ops dst k T S F Q (some (.enter 149 [.d (.str s)])) = WpL cfg ops k (putT T dst (.d (.int .u32 (ze2 s : Int)))) S F Q :=
 qA (ds := [.str s]) rfl (zx7 s hs)
theorem zow {l : List UInt8} : z70 (l.map fun b => V.d (.int .u8 b.toNat)) = some l := by
 induction l with
 | nil => rfl
 | cons b r ih =>
  simp only [List.map_cons, z70, ih]
  rw [Int.toNat_natCast, UInt8.ofNat_toNat]
theorem z2y {P : Program} {T : List V} {S : zB} {t a u : Nat} {v w x : V} {d e : D} (hv : T.getD t (.tup []) = v) (ha : T.getD a (.tup []) = w) (hl : kF P S u w = some x) (h1 : v.one = true) (h2 : x.one = true) (h3 : Go.Vm.frz S zJ v = some d) (h4 : Go.Vm.frz S zJ x = some e) : RetQ P #[.cell a u, .tmp t] (.ret (.tup [.d e, .d d])) .ret T S [] :=
 z58 (r1 := .cell a u) (r2 := .tmp t) (l := []) (vs := [x, v]) (ds := [e, d]) (by simp only [allO, jY, hv, ha, hl]) (by simp [h1, h2]) (by simp only [allO, h3, h4])
theorem ze9 : ∀ l : List UInt8, eqLs Tryz.prog 5 l.length (l.map byD) (l.map byD) = some true
 | [] => rfl
 | x :: r => by
  have h : vK Tryz.prog 5 (byD x) (byD x) = some true := by
   have h5 : Tryz.prog.underlying 5 = some (.int .u8) := by kernel_rfl
   simp [vK, h5, byD]
  simp only [List.length_cons, List.map_cons, eqLs, h, ze9 r]
theorem q2x {b : List UInt8} (hb : b.length = 256) : binV Tryz.prog .neq 42 (.d (blkD b)) (.d (blkD b)) = some (.d (.bool false)) := by
 have h1 : ptrT Tryz.prog 42 = false := by kernel_rfl
 have h2 : mapT Tryz.prog 42 = false := by kernel_rfl
 have h3 : fnT Tryz.prog 42 = false := by kernel_rfl
 have h4 : Tryz.prog.eqGuardType Tryz.prog.depth 42 = false := by kernel_rfl
 have h5 : sz Tryz.prog 5 = some 1 := by kernel_rfl
 have h6 := ze9 b
 rw [hb] at h6
 have h7 : eqD Tryz.prog 8 42 (.agg (b.map byD)) (.agg (b.map byD)) = some true := by
  simp only [eqD, Tryz.underlying42, h5, h6]
  rfl
 have h8 : eqV Tryz.prog 42 (.d (.agg (b.map byD))) (.d (.agg (b.map byD))) = some true := by
  simp only [eqV, h1, h2, h3, asD, h4, h7, Bool.false_eq_true, if_false]
 show (eqV Tryz.prog 42 (.d (.agg (b.map byD))) (.d (.agg (b.map byD)))).map (fun b => V.d (.bool (!b))) = _
 rw [h8]
 rfl
theorem q2a {S : zB} {l : List UInt8} : qI Tryz.prog S 76 9 (.d (encB l)) = some (.d (.str l), 1) := by
 have hu : Tryz.prog.underlying 9 = some .string := by kernel_rfl
 have h5 : Tryz.prog.underlying 5 = some (.int .u8) := by kernel_rfl
 unfold encB
 simp only [qI, Tryz.underlying76, hu, h5, kK, List.map_map, Function.comp_def, zow, Option.map_some]
theorem zy0 {S : zB} {h : Nat} (hh : h < 4294967296) : qI Tryz.prog S 210 3 (.d (.int .u32 (h : Int))) = some (.d (.int .i64 (h : Int)), 0) := by
 have h1 : Tryz.prog.underlying 210 = some (.int .u32) := by kernel_rfl
 have h2 : Tryz.prog.underlying 3 = some (.int .i64) := by kernel_rfl
 simp only [qI, h1, h2]
 rw [wrap64 (by omega)]
theorem zq3 {n v : Nat} : layB (zK n) 0 (leB n v) = leB n v := by
 have := z3n (a := []) (n := n) (d := leB n v) (by rw [qV]; omega)
 rw [qV, Nat.sub_self] at this
 simpa [zK] using this
theorem q0s {ops : Array Oper} {F : Dfs} {Q : Post} {K : List Nat → List (Nat × Nat) → List V → zB → Prop} {rd : List Nat} {cs : List (Nat × Nat)} {i id : Nat} {dst : Option Tmp} {T : List V} {S : zB} {M : Nat} (hr : S[id]? = some (.row (List.replicate 8 (.d (.int .u8 0))) 5)) :
  WpE cfg ops F Q K rd cs i dst T S (some (.enter 147 [.rs id 0 8, .d (.int .i64 0), .d (.int .i64 8), .d (.int .u64 (M : Int))])) = (z3z ops rd i 3 ∧ K rd (cs ++ [(i, 3)]) (putT T dst (.tup [.d (encB (leB 8 M)), .d (.bool true)])) (S.set id (.fz ((zK 8).map byD) 5))) := by
 have hr' : S[id]? = some (rowY (zK 8)) := hr
 have hr2 : S[id]? = some (.row (((zK 8).map byD).map .d) 5) := hr
 refine zfc (ds := [encB (zK 8), .int .i64 ((0 : Nat) : Int), .int .i64 ((8 : Nat) : Int), .int .u64 (M : Int)]) rfl ?_ ?_ hr2 rfl ?_
 ·have h1 : Go.Vm.frz S zJ (.rs id 0 8) = some (encB (zK 8)) := ztu hr' rfl
  simp only [allO, zrs, h1]
  rfl
 ·have h1 : frzIds S zJ (.rs id 0 8) = [id] := by
   show (match S[id]? with | some (.row xs e) => id :: xs.flatMap (frzIds S 11) | _ => []) = _
   rw [hr2]
   simp only [zgj]
  simp only [List.flatMap_cons, h1, List.flatMap_nil, zbx, List.append_nil]
 ·have := q07 (zK 8) (by decide) (by decide) 0 8 M (by decide) (by omega) (by omega)
  rw [zq3] at this
  exact this
theorem zl3 (l : Lay) (B I M : Nat) (hl : l = ⟨(B : Int), (I : Int), (M : Int)⟩) (hB : B ≤ 512) (hI : I ≤ 128) (hM : M < 18446744073709551616) (hm : MayL l) : Ev cfg 120 [encLay l] (.ret (.tup [.d (blkD (supB B I M)), .d (.int .i64 0)])) := by
 refine kD rfl rfl zs1 ?_
 show Wp cfg (Tryz.f120.body.getD .skip) ((.d (encLay l)) :: uZ (uZ (uZ (uZ ((.tup []) :: (.tup []) :: (.tup []) :: []))))) [] [] _
 unfold uZ
 conv => arg 2; whnf
 have hc := fun {ops dst k T S F Q} => zat (ops := ops) (dst := dst) (k := k) (T := T) (S := S) (F := F) (Q := Q) (l := l) (by subst hl; unfold InB; simp only; omega) (by subst hl; unfold InB; simp only; omega)
 rw [if_pos hm] at hc
 subst hl
 obtain ⟨w1, w2, w3, w4, w5, w6⟩ := zl4 B I M
 have l1 : (magicB ++ zK 248).length = 256 := by decide
 have l2 : ((magicB ++ leB 2 B) ++ zK 246).length = 256 := by simp [magicB, qV, z2o]
 have l3 : ((magicB ++ leB 2 B ++ leB 2 I) ++ zK 244).length = 256 := by simp [magicB, qV, z2o]
 have l4 : (supL B I M ++ zK 236).length = 256 := by rw [List.length_append, z3k, z2o]
 have l5 := z4x B I M
 have hx := zo8 (supL B I M)
 have c1 := fun {ops dst k T S F Q} => z02 (ops := ops) (dst := dst) (k := k) (T := T) (S := S) (F := F) (Q := Q) (u := .d (blkD (magicB ++ zK 248))) (b := magicB ++ zK 248) jT l1 (k0 := 8) (w := 2) (v := B) (by omega) (by omega) (by omega)
 have c2 := fun {ops dst k T S F Q} => z02 (ops := ops) (dst := dst) (k := k) (T := T) (S := S) (F := F) (Q := Q) (u := .d (blkD ((magicB ++ leB 2 B) ++ zK 246))) jT l2 (k0 := 10) (w := 2) (v := I) (by omega) (by omega) (by omega)
 have c3 := fun {ops dst k T S F Q} => zh6 (ops := ops) (dst := dst) (k := k) (T := T) (S := S) (F := F) (Q := Q) (u := .d (blkD ((magicB ++ leB 2 B ++ leB 2 I) ++ zK 244))) (d := leB 8 M) jT l3 (k0 := 12) (by omega) (by rw [qV]; omega)
 have c4 := fun {ops dst k T S F Q} => zgg (ops := ops) (dst := dst) (k := k) (T := T) (S := S) (F := F) (Q := Q) l4 (k0 := 0) (n := 20) (by omega) (by omega)
 have c5 := fun {ops dst k T S F Q} => zpn (ops := ops) (dst := dst) (k := k) (T := T) (S := S) (F := F) (Q := Q) (s := supL B I M) (by rw [z3k]; omega)
 have c6 := fun {ops dst k T S F Q} => z02 (ops := ops) (dst := dst) (k := k) (T := T) (S := S) (F := F) (Q := Q) (u := .d (blkD (supL B I M ++ zK 236))) jT l4 (k0 := 20) (w := 4) (v := ze2 (supL B I M)) (by omega) (by omega) (by omega)
 rw [w2] at c1
 rw [w3] at c2
 rw [w4] at c3
 rw [w5] at c4
 rw [w6] at c6
 simp only [nl0, nl1, nl2, nl4, nl8, nl10, nl12, nl16, nl20, zi3] at c1 c2 c3 c4 c5 c6
 have l0 := z256
 have hcv := fun S => zy0 (S := S) hx
 simp (maxSteps:=1000000) (disch:=first|assumption|omega|rfl) only [↓gp, gc, Nat.reduceAdd, z42, zf42, hc, bo75]
 rw [zoj (by kernel_rfl)]
 simp (maxSteps:=1000000) (disch:=first|assumption|omega|rfl) only [↓gp, gc, Nat.reduceAdd, z42, zf42, zug, zuz, c1, c2, zkv, zpq, z9j, z08, z8z]
 have hroom : room Tryz.prog 5 (8 : Int).toNat = true := by kernel_rfl
 have hz0 : qB Tryz.prog 5 (.d (.int .u8 0)) = true := by kernel_rfl
 have z5 : zeroV Tryz.prog 5 = some (.d (.int .u8 0)) := by kernel_rfl
 refine wU (is := [1, 2, 0, 3, 4, 5, 6, 7, 8]) (h := 9) (by kernel_rfl) (by kernel_rfl) ?_
 simp (maxSteps:=1000000) (disch:=first|assumption|omega|rfl) only [List.replicate_zero, eq_self, gd, ga, Nat.reduceAdd, ↓gq, vso, z6g, zv4, zub Tryz.underlying76 z5, q2d hroom hz0, true_and]
 rw [show Int.toNat 8 = 8 from rfl, q0s rfl]
 refine ⟨fun _ => by kernel_rfl, ?_⟩
 simp (maxSteps:=1000000) (disch:=first|assumption|omega|rfl) only [List.replicate_zero, eq_self, gd, ga, Nat.reduceAdd, ↓gq, vso]
 refine ⟨by kernel_rfl, ?_⟩
 simp (maxSteps:=1000000) (disch:=first|assumption|omega|rfl) only [↓gp, gc, Nat.reduceAdd, c3, zv3, c4, zqq, c5, q0t, c6, zkv, q2a, hcv, zpq, z9j, z08, z8z]
 exact z2y rfl rfl ((zG rfl).trans (z08 l5)) rfl rfl rfl rfl
section
variable {ops : Array Oper} {dst : Option Tmp} {k : List Oper} {T : List V} {S : zB} {F : Dfs} {Q : Post}
theorem zm3 {b : List UInt8} (hb : b.length = 8) : WpR cfg ops dst k T S F Q (some (.enter 118 [.d (encB b), .d (.int .i64 0), .d (.int .i64 8)])) = WpL cfg ops k (putT T dst (.tup [.d (.int .u64 (leN b : Int)), .d (.bool true)])) S F Q := by
 have := zwx b (by omega) 0 8 (by omega) (by omega) (by omega)
 rw [List.drop_zero, List.take_of_length_le (by omega)] at this
 exact qA (ds := [encB b, .int .i64 0, .int .i64 8]) rfl this
theorem znn {l : Lay} {v : V} (h : Ev cfg 120 [encLay l] (.ret v)) : WpR cfg ops dst k T S F Q (some (.enter 120 [.d (encLay l)])) = WpL cfg ops k (putT T dst v) S F Q :=
 qA (ds := [encLay l]) rfl h
theorem bd24 {a b : Int} {c : Int} : wY Tryz.prog 32 [(0, .d (.int .i64 a)), (1, .d (.int .i64 b)), (2, .d (.int .u64 c))] = some (.agg [.d (.int .i64 a), .d (.int .i64 b), .d (.int .u64 c)]) := by kernel_rfl
end
theorem st24 {a b a' b' : Int} {c c' : Int} : qM Tryz.prog 32 0 (.agg [.d (.int .i64 a), .d (.int .i64 b), .d (.int .u64 c)]) (.agg [.d (.int .i64 a'), .d (.int .i64 b'), .d (.int .u64 c')]) = some (.agg [.d (.int .i64 a), .d (.int .i64 b), .d (.int .u64 c)]) := by kernel_rfl
theorem zwe {ops : Array Oper} {dst : Option Tmp} {k : List Oper} {T : List V} {S : zB} {F : Dfs} {Q : Post} {a b : Int} {c : Int} {v : V} (h : Ev cfg 120 [.agg [.int .i64 a, .int .i64 b, .int .u64 c]] (.ret v)) : WpR cfg ops dst k T S F Q (some (.enter 120 [.agg [.d (.int .i64 a), .d (.int .i64 b), .d (.int .u64 c)]])) = WpL cfg ops k (putT T dst v) S F Q :=
 kW (ds := [.agg [.int .i64 a, .int .i64 b, .int .u64 c]]) rfl rfl rfl h
theorem zhv {ops : Array Oper} {F : Dfs} {Q : Post} {K : List Nat → List (Nat × Nat) → List V → zB → Prop} {rd : List Nat} {cs : List (Nat × Nat)} {i : Nat} {dst : Option Tmp} {T : List V} {S : zB} {b : List UInt8} (hb : b.length = 256) {k0 w : Nat} (hk0 : k0 + w ≤ 256) (hw1 : 1 ≤ w) (hw4 : w ≤ 4) :
  WpE cfg ops F Q K rd cs i dst T S (some (.enter 119 [.d (blkD b), .d (.int .i64 (k0 : Int)), .d (.int .i64 (w : Int))])) = K (i :: rd) (cs ++ [(i, 1)]) (putT T dst (.d (.int .i64 (leN ((b.drop k0).take w) : Int)))) S :=
 zcd (ds := [blkD b, .int .i64 (k0 : Int), .int .i64 (w : Int)]) rfl rfl rfl (q0g b hb k0 w hk0 hw1 hw4)
theorem zuh (B I M : Nat) (hB : B ≤ 512) (hI : I ≤ 128) (hM : M < 18446744073709551616) (hm : MayL ⟨(B : Int), (I : Int), (M : Int)⟩) : Ev cfg 79 [blkD (supB B I M)] (.ret (.tup [.d (encLay ⟨(B : Int), (I : Int), (M : Int)⟩), .d (.int .i64 0)])) := by
 refine kD rfl rfl zzl ?_
 show Wp cfg (Tryz.f79.body.getD .skip) ((.d (blkD (supB B I M))) :: uZ (uZ (uZ ((.tup []) :: (.tup []) :: (.tup []) :: (.tup []) :: [])))) [] [] _
 unfold uZ
 conv => arg 2; whnf
 have l5 := z4x B I M
 have hf := fd42 l5
 have hp := zl3 _ B I M rfl hB hI hM hm
 have l0 := z256
 have e1 : ((supB B I M).drop 12).take 8 = leB 8 M := by
  unfold supB supL
  simp [magicB, qV, List.drop_append, List.take_append]
 have c1 := fun {ops dst k T S F Q} => zgg (ops := ops) (dst := dst) (k := k) (T := T) (S := S) (F := F) (Q := Q) l5 (k0 := 12) (n := 8) (by omega) (by omega)
 rw [e1] at c1
 have c2 := fun {ops dst k T S F Q} => zm3 (ops := ops) (dst := dst) (k := k) (T := T) (S := S) (F := F) (Q := Q) (qV 8 M)
 rw [zbg, Nat.mod_eq_of_lt (by omega)] at c2
 simp only [nl0, nl1, nl2, nl4, nl8, nl10, nl12, nl16, nl20, zi3] at c1 c2
 simp (maxSteps:=1000000) (disch:=first|assumption|omega|rfl) only [↓gp, gc, Nat.reduceAdd, hf, c1, c2, zqq, zxc, z08]
 have a1 : ((supB B I M).drop 8).take 2 = leB 2 B := by
  unfold supB supL
  simp [magicB, qV, List.drop_append, List.take_append]
 have a2 : ((supB B I M).drop 10).take 2 = leB 2 I := by
  unfold supB supL
  simp [magicB, qV, List.drop_append, List.take_append]
 have d1 := fun {ops F Q K rd cs i dst T S} => zhv (ops := ops) (F := F) (Q := Q) (K := K) (rd := rd) (cs := cs) (i := i) (dst := dst) (T := T) (S := S) l5 (k0 := 8) (w := 2) (by omega) (by omega) (by omega)
 have d2 := fun {ops F Q K rd cs i dst T S} => zhv (ops := ops) (F := F) (Q := Q) (K := K) (rd := rd) (cs := cs) (i := i) (dst := dst) (T := T) (S := S) l5 (k0 := 10) (w := 2) (by omega) (by omega) (by omega)
 rw [a1, zbg, Nat.mod_eq_of_lt (by omega)] at d1
 rw [a2, zbg, Nat.mod_eq_of_lt (by omega)] at d2
 simp only [nl0, nl1, nl2, nl4, nl8, nl10, nl12, nl16, nl20, zi3] at d1 d2
 refine wU (is := [0, 2, 4, 1, 3, 5, 6, 7]) (h := 8) (by kernel_rfl) (by kernel_rfl) ?_
 simp (maxSteps:=1000000) (disch:=first|assumption|omega|rfl) only [List.replicate_zero, eq_self, gd, ga, Nat.reduceAdd, ↓gq, vso, d1, d2, z8x, z08, bd24, z80 z32 zf32, z6g, true_and, st24]
 refine ⟨fun _ => by kernel_rfl, ?_⟩
 refine ⟨by kernel_rfl, ?_⟩
 simp (maxSteps:=1000000) (disch:=first|assumption|omega|rfl) only [↓gp, gc, Nat.reduceAdd, zwe hp, zva, z42, zf42, z9j, z08, q2x, st24]
 exact z2y rfl rfl (x := .agg [.d (.int .i64 (B : Int)), .d (.int .i64 (I : Int)), .d (.int .u64 (M : Int))]) ((zG rfl).trans (by kernel_rfl)) rfl rfl rfl rfl
theorem zgx : Ev cfg 77 [] (.ret (.d (.int .i64 1))) := ⟨50, by kernel_rfl⟩
theorem zw5 (l : Lay) (hb : InB l.blocks) (hi : InB l.inodes) (hm : MayL l) : Ev cfg 109 [encLay l] (.ret (.d (.bool true))) := by
 refine kD rfl rfl ztx ?_
 show Wp cfg (Tryz.f109.body.getD .skip) ((.d (encLay l)) :: (.tup []) :: (.tup []) :: (.tup []) :: (.tup []) :: (.tup []) :: []) [] [] _
 conv => arg 2; whnf
 have hc := fun {ops dst k T S F Q} => zat (ops := ops) (dst := dst) (k := k) (T := T) (S := S) (F := F) (Q := Q) (l := l) hb hi
 rw [if_pos hm] at hc
 simp (maxSteps:=1000000) (disch:=first|assumption|omega|rfl) only [↓gp, gc, Nat.reduceAdd, hc, bo75]
 exact zP rfl rfl rfl
theorem zh0 (l : Lay) (hb : InB l.blocks) (hi : InB l.inodes) (hm : MayL l) : Ev cfg 122 [encLay l] (.ret (.tup [.d (.int .i64 2), .d (.int .i64 (l.inodes.tdiv 8))])) := by
 refine kD rfl rfl zvv ?_
 show Wp cfg (Tryz.f122.body.getD .skip) ((.d (encLay l)) :: uZ ((.tup []) :: [])) [] [] _
 unfold uZ
 conv => arg 2; whnf
 have hc := fun {ops dst k T S F Q} => qA (C := cfg) (ops := ops) (dst := dst) (l := k) (T := T) (S := S) (F := F) (Q := Q) (ds := [encLay l]) rfl (zw5 l hb hi hm)
 have hc : ∀ {ops dst k T S F Q}, WpR cfg ops dst k T S F Q (some (.enter 109 [.d (encLay l)])) = WpL cfg ops k (putT T dst (.d (.bool true))) S F Q := hc
 have hq := quo8 hi
 have hM := fun {ops F Q K rd cs i dst T S} => z59 (C := cfg) (ops := ops) (F := F) (Q := Q) (K := K) (rd := rd) (cs := cs) (i := i) (dst := dst) (T := T) (S := S) (ds := []) rfl zgx
 simp only [List.map_nil] at hM
 simp (maxSteps:=1000000) (disch:=first|assumption|omega|rfl) only [↓gp, gc, Nat.reduceAdd, hc, zke]
 refine wU (is := [2, 3, 4, 0, 1, 5, 6]) (h := 0) (by kernel_rfl) (by kernel_rfl) ?_
 simp (maxSteps:=1000000) (disch:=first|assumption|omega|rfl) only [List.replicate_zero, eq_self, gd, ga, Nat.reduceAdd, ↓gq, vso, hM, bo77, hq]
 refine ⟨by kernel_rfl, ?_⟩
 simp (maxSteps:=1000000) (disch:=first|assumption|omega|rfl) only [↓gp, gc, Nat.reduceAdd]
 exact zby rfl rfl rfl rfl rfl rfl
theorem zbn (l : Lay) (hb : InB l.blocks) (hi : InB l.inodes) (hm : MayL l) : Ev cfg 108 [encLay l] (.ret (.d (.int .i64 (2 + l.inodes.tdiv 8)))) := by
 refine kD rfl rfl zu9 ?_
 show Wp cfg (Tryz.f108.body.getD .skip) ((.d (encLay l)) :: uZ ((.tup []) :: (.tup []) :: [])) [] [] _
 unfold uZ
 conv => arg 2; whnf
 have hc : ∀ {ops dst k T S F Q}, WpR cfg ops dst k T S F Q (some (.enter 122 [.d (encLay l)])) = WpL cfg ops k (putT T dst (.tup [.d (.int .i64 2), .d (.int .i64 (l.inodes.tdiv 8))])) S F Q := fun {ops dst k T S F Q} => qA (C := cfg) (ops := ops) (dst := dst) (l := k) (T := T) (S := S) (F := F) (Q := Q) (ds := [encLay l]) rfl (zh0 l hb hi hm)
 have hd : 0 ≤ l.inodes.tdiv 8 ∧ l.inodes.tdiv 8 ≤ 16 := by
  have h1 := hm.2.2.1
  have h2 := hm.2.2.2.1
  rw [Int.tdiv_eq_ediv_of_nonneg (by omega)]; omega
 have hw : IntKind.i64.wrap (2 + l.inodes.tdiv 8) = 2 + l.inodes.tdiv 8 := wrap64 (by omega)
 simp (maxSteps:=1000000) (disch:=first|assumption|omega|rfl) only [↓gp, gc, Nat.reduceAdd, hc, zvc, hw]
 exact zP rfl rfl rfl
def upto (n : Nat) : List Int := (List.range n).map fun i : Nat => (i : Int)
theorem zkw (n : Nat) : upto (n + 1) = upto n ++ [(n : Int)] := by unfold upto; rw [List.range_succ, List.map_append]; rfl
theorem z7u (n : Nat) : (upto n).length = n := by unfold upto; simp
def encI (l : List Int) : D := .sl (l.map (D.int .i64))
theorem q27 (l : Lay) (n : Nat) (hn : n ≤ 1000) (R : Post) : ∀ (k i : Nat) (S : zB) (v3 g0 g1 g2 g4 g5 g8 g9 gI gE gG gB gC gA : V), n - i = k → i ≤ n → OwnS S v3 3 ((upto i).map fun x => .d (D.int .i64 x)) →
 (∀ S v3 i' g0 g1 g2 g4 g5 g8 g9 gI gE gG gB gC gA, OwnS S v3 3 ((upto n).map fun x => .d (D.int .i64 x)) → R (.exit 0) (g0 :: g1 :: g2 :: v3 :: g4 :: g5 :: (.d (.int .i64 (n : Int))) :: i' :: g8 :: g9 :: gI :: gE :: gG :: gB :: gC :: gA :: []) S []) →
 Wp cfg (.loop (lpOf (Tryz.f138.body.getD .skip) 0)) (g0 :: g1 :: g2 :: v3 :: g4 :: g5 :: (.d (.int .i64 (n : Int))) :: (.d (.int .i64 (i : Int))) :: g8 :: g9 :: gI :: gE :: gG :: gB :: gC :: gA :: []) S [] R := by
 intro k
 induction k with
 | zero =>
  intro i S v3 g0 g1 g2 g4 g5 g8 g9 gI gE gG gB gC gA hk hi ho hR
  have hie : i = n := by omega
  subst hie
  rw [zR]
  refine zL ?_
  conv => arg 2; whnf
  simp (maxSteps:=1000000) (disch:=first|assumption|omega|rfl) only [↓gp, gc, Nat.reduceAdd]
  exact hR _ _ _ _ _ _ _ _ _ _ _ _ _ _ _ _ ho
 | succ k ih =>
  intro i S v3 g0 g1 g2 g4 g5 g8 g9 gI gE gG gB gC gA hk hi ho hR
  have hlt : i < n := by omega
  have h3 : IntKind.i64.wrap ((i : Int) + 1) = ((i + 1 : Nat) : Int) := by rw [wrap64 (by omega)]; omega
  obtain ⟨v', S', c, ha, ho', hfr, hlen⟩ := ap22 (i : Int) ho (by rw [z7u]; omega)
  rw [← zkw] at ho'
  rw [zR]
  refine zL ?_
  conv => arg 2; whnf
  simp (maxSteps:=1000000) (disch:=first|assumption|omega|rfl) only [↓gp, gc, Nat.reduceAdd, ha, h3]
  exact ih (i + 1) S' v' _ _ _ _ _ _ _ _ _ _ _ _ _ (by omega) (by omega) ho' hR
theorem zxy (l : Lay) (n : Nat) (hb : InB l.blocks) (hi : InB l.inodes) (hm : MayL l) (hn : 2 + l.inodes.tdiv 8 = (n : Int)) (hn1 : n ≤ 1000) : Ev cfg 138 [encLay l] (.ret (.d (encI (upto n)))) := by
 refine kD rfl rfl zwj ?_
 show Wp cfg (Tryz.f138.body.getD .skip) ((.d (encLay l)) :: uZ ((.tup []) :: (.tup []) :: (.tup []) :: (.tup []) :: (.tup []) :: [])) [] [] _
 unfold uZ
 conv => arg 2; whnf
 have hc : ∀ {ops dst k T S F Q}, WpR cfg ops dst k T S F Q (some (.enter 108 [.d (encLay l)])) = WpL cfg ops k (putT T dst (.d (.int .i64 (2 + l.inodes.tdiv 8)))) S F Q := fun {ops dst k T S F Q} => qA (C := cfg) (ops := ops) (dst := dst) (l := k) (T := T) (S := S) (F := F) (Q := Q) (ds := [encLay l]) rfl (zbn l hb hi hm)
 rw [hn] at hc
 simp (maxSteps:=1000000) (disch:=first|assumption|omega|rfl) only [↓gp, gc, Nat.reduceAdd, hc, za1]
 refine q27 l n hn1 _ n 0 _ _ _ _ _ _ _ _ _ _ _ _ _ _ _ rfl (by omega) OwnS.nil ?_
 intro S v3 i' g0 g1 g2 g4 g5 g8 g9 gI gE gG gB gC gA ho
 simp (maxSteps:=1000000) (disch:=first|assumption|omega|rfl) only [↓gp, gc, Nat.reduceAdd]
 exact zP rfl (qL ho) (zpr (enc := D.int .i64) ho)
theorem zql : ∀ k, k < 18 → Ev cfg 140 [blkD (mapB k), .int .i64 (k : Int), .bool true] (.ret (.d (blkD (mapB (k + 1)))))
 | 0, _ => ⟨200, by kernel_rfl⟩
 | 1, _ => ⟨200, by kernel_rfl⟩
 | 2, _ => ⟨200, by kernel_rfl⟩
 | 3, _ => ⟨200, by kernel_rfl⟩
 | 4, _ => ⟨200, by kernel_rfl⟩
 | 5, _ => ⟨200, by kernel_rfl⟩
 | 6, _ => ⟨200, by kernel_rfl⟩
 | 7, _ => ⟨200, by kernel_rfl⟩
 | 8, _ => ⟨200, by kernel_rfl⟩
 | 9, _ => ⟨200, by kernel_rfl⟩
 | 10, _ => ⟨200, by kernel_rfl⟩
 | 11, _ => ⟨200, by kernel_rfl⟩
 | 12, _ => ⟨200, by kernel_rfl⟩
 | 13, _ => ⟨200, by kernel_rfl⟩
 | 14, _ => ⟨200, by kernel_rfl⟩
 | 15, _ => ⟨200, by kernel_rfl⟩
 | 16, _ => ⟨200, by kernel_rfl⟩
 | 17, _ => ⟨200, by kernel_rfl⟩
 | n + 18, h => by omega
theorem zua {ops : Array Oper} {dst : Option Tmp} {k : List Oper} {T : List V} {S : zB} {F : Dfs} {Q : Post} {u : V} {i : Nat} (hu : IsB u (mapB i)) (hi : i < 18) : WpR cfg ops dst k T S F Q (some (.enter 140 [u, .d (.int .i64 (i : Int)), .d (.bool true)])) = WpL cfg ops k (putT T dst (.d (blkD (mapB (i + 1))))) S F Q :=
 kW (ds := [blkD (mapB i), .int .i64 (i : Int), .bool true]) rfl (by simp only [allO, hu.frz (n := 10), zJ]; rfl) (by rw [List.flatMap_cons, hu.frzIds]; rfl) (zql i hi)
theorem zzh (n : Nat) (hn : n ≤ 18) (R : Post) : ∀ (k i : Nat) (u : V) (g0 g1 g4 g5 g9 gI gE gG gB gC gA gD : V), n - i = k → i ≤ n → IsB u (mapB i) →
 (∀ u i' g0 g1 g4 g5 g9 gI gE gG gB gC gA gD, IsB u (mapB n) → R (.exit 0) (g0 :: g1 :: (.ref 0 0 0) :: (.ref 1 0 0) :: g4 :: g5 :: (.d (encI (upto n))) :: (.d (.int .i64 (n : Int))) :: i' :: g9 :: gI :: gE :: gG :: gB :: gC :: gA :: gD :: []) [.row [blkV (zK 256)] 42, .row [u] 42] []) →
 Wp cfg (.loop (lpOf (Tryz.f137.body.getD .skip) 0)) (g0 :: g1 :: (.ref 0 0 0) :: (.ref 1 0 0) :: g4 :: g5 :: (.d (encI (upto n))) :: (.d (.int .i64 (n : Int))) :: (.d (.int .i64 (i : Int))) :: g9 :: gI :: gE :: gG :: gB :: gC :: gA :: gD :: []) [.row [blkV (zK 256)] 42, .row [u] 42] [] R := by
 intro k
 induction k with
 | zero =>
  intro i u g0 g1 g4 g5 g9 gI gE gG gB gC gA gD hk hi hu hR
  have hie : i = n := by omega
  subst hie
  rw [zR]
  refine zL ?_
  conv => arg 2; whnf
  simp (maxSteps:=1000000) (disch:=first|assumption|omega|rfl) only [↓gp, gc, Nat.reduceAdd]
  exact hR _ _ _ _ _ _ _ _ _ _ _ _ _ _ hu
 | succ k ih =>
  intro i u g0 g1 g4 g5 g9 gI gE gG gB gC gA gD hk hi hu hR
  have hlt : i < n := by omega
  have h3 : IntKind.i64.wrap ((i : Int) + 1) = ((i + 1 : Nat) : Int) := by rw [wrap64 (by omega)]; omega
  have hix : ∀ S : zB, zI Tryz.prog S 22 (.d (encI (upto n))) (.d (.int .i64 (i : Int))) = some (.d (.ptr (.int .i64 (i : Int)))) := fun S => by
   have := ix22 (S := S) (l := upto n) (i := i) (by rw [z7u]; omega)
   have e : (upto n)[i]'(by rw [z7u]; omega) = (i : Int) := by simp [upto]
   rw [e] at this
   exact this
  have hld := bt42.load hu (z0z i)
  have hcw := fun {ops dst k T S F Q} => zua (ops := ops) (dst := dst) (k := k) (T := T) (S := S) (F := F) (Q := Q) hu (by omega)
  have hst := bt42.store (jT (b := mapB (i + 1))) (z0z _) hu (z0z i)
  rw [zR]
  refine zL ?_
  conv => arg 2; whnf
  simp (maxSteps:=1000000) (disch:=first|assumption|omega|rfl) only [↓gp, gc, Nat.reduceAdd, h3, hix, hld, hcw, zsv, hst, hu.one, if_true, eq_self]
  exact ih (i + 1) _ _ _ _ _ _ _ _ _ _ _ _ _ (by omega) (by omega) jT hR
theorem zsu (n : Nat) (hn : n ≤ 18) : Ev cfg 137 [encI (upto n)] (.ret (.d (blkD (mapB n)))) := by
 refine kD rfl rfl zws ?_
 show Wp cfg (Tryz.f137.body.getD .skip) ((.d (encI (upto n))) :: uZ ((.tup []) :: (.tup []) :: (.tup []) :: (.tup []) :: (.tup []) :: (.tup []) :: [])) [] [] _
 unfold uZ
 conv => arg 2; whnf
 have hln : ∀ S : zB, zO Tryz.prog S .len [22] [.d (encI (upto n))] = some (.val (.d (.int .i64 n)) S 0) := fun S => by rw [encI, q18, List.length_map, z7u]
 simp (maxSteps:=1000000) (disch:=first|assumption|omega|rfl) only [↓gp, gc, Nat.reduceAdd, z42, zf42, hln]
 refine zzh n hn _ n 0 _ _ _ _ _ _ _ _ _ _ _ _ _ rfl (Nat.zero_le _) isB_v ?_
 intro u i' g0 g1 g4 g5 g9 gI gE gG gB gC gA gD hu
 have hld := bt42.load hu (z0z n)
 have hst := bt42.store hu (z0z n) (w := blkV (zK 256)) isB_v z256
 simp (maxSteps:=1000000) (disch:=first|assumption|omega|rfl) only [↓gp, gc, Nat.reduceAdd, hld, hst]
 exact wK (u := .ref 0 0 0) (v := u) rfl ((zG rfl).trans hld) hu.one (hu.frz (n := 10))
def rootB : List UInt8 := [2, 0, 1, 0, 0, 0, 0, 0, 1, 0] ++ zK 246
def q0n : D := .agg [.int .i64 2, .int .i64 1, .int .i64 0, .int .i64 1, .int .i64 0, .int .i64 0, .int .i64 0, .int .i64 0, .int .i64 0, .int .i64 0, .int .i64 0]
theorem zoz : Ev cfg 136 [blkD (zK 256), .int .i64 0, q0n] (.ret (.tup [.d (blkD rootB), .d (.int .i64 0)])) := ⟨1000, by kernel_rfl⟩
end Go.Proofs.YtobgdmgldagjkaaGreat
end
