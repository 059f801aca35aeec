/- The value machine: a quicker one for runs by the kernel: temporaries in a tree, operations told apart first. -/
import Derived.Test.YtljefklfoieecaaVmKe
set_option linter.unusedSimpArgs false
set_option linter.unusedVariables false
namespace Go.Vm
/-- Temporaries: number 0 at the root, odd ones to the left. -/
inductive Tr where
  | e
  | n (l : Tr) (v : V) (r : Tr)
def Tr.get? : Tr → Nat → Option V
  | .e, _ => none
  | .n l v r, k => match k with
    | 0 => some v
    | k + 1 => if k % 2 = 0 then l.get? (k / 2) else r.get? (k / 2)
noncomputable def Tr.get (E : Tr) : Nat → V := Tr.rec (fun _ => .junk) (fun _ v _ gl gr k => Nat.rec v (fun p _ => Nat.rec (gl (p / 2)) (fun _ _ => gr (p / 2)) (p % 2)) k) E
noncomputable def Tr.set (E : Tr) : Nat → V → Tr := Tr.rec (fun _ _ => .e) (fun l v r sl sr k x => Nat.rec (.n l x r) (fun p _ => Nat.rec (.n (sl (p / 2) x) v r) (fun _ _ => .n l v (sr (p / 2) x)) (p % 2)) k) E
theorem Tr.get_0 {l r : Tr} {v : V} {k : Nat} (h : k % 2 = 0) : (Tr.n l v r).get (k + 1) = l.get (k / 2) := by
  show Nat.rec (motive := fun _ => V) (l.get (k / 2)) (fun _ _ => r.get (k / 2)) (k % 2) = _
  rw [h]
  rfl
theorem Tr.get_1 {l r : Tr} {v : V} {k : Nat} (h : k % 2 = 1) : (Tr.n l v r).get (k + 1) = r.get (k / 2) := by
  show Nat.rec (motive := fun _ => V) (l.get (k / 2)) (fun _ _ => r.get (k / 2)) (k % 2) = _
  rw [h]
  rfl
theorem Tr.set_0 {l r : Tr} {v x : V} {k : Nat} (h : k % 2 = 0) : (Tr.n l v r).set (k + 1) x = .n (l.set (k / 2) x) v r := by
  show Nat.rec (motive := fun _ => Tr) (.n (l.set (k / 2) x) v r) (fun _ _ => .n l v (r.set (k / 2) x)) (k % 2) = _
  rw [h]
  rfl
theorem Tr.set_1 {l r : Tr} {v x : V} {k : Nat} (h : k % 2 = 1) : (Tr.n l v r).set (k + 1) x = .n l v (r.set (k / 2) x) := by
  show Nat.rec (motive := fun _ => Tr) (.n (l.set (k / 2) x) v r) (fun _ _ => .n l v (r.set (k / 2) x)) (k % 2) = _
  rw [h]
  rfl
/-- The tree of the places o, o + s, o + 2s .. below n. -/
def Tr.mk (L : List V) (n : Nat) : Nat → Nat → Nat → Tr
  | 0, _, _ => .e
  | fuel + 1, s, o => match Nat.blt o n with
    | true => .n (Tr.mk L n fuel (2 * s) (o + s)) (L.getD o (.tup [])) (Tr.mk L n fuel (2 * s) (o + 2 * s))
    | false => .e
noncomputable def putE (E : Tr) : Option Tmp → V → Tr
  | some d, v => E.set d v
  | none, _ => E
noncomputable def evalE (E : Tr) : Operand → V
  | .tmp t => E.get t
  | .const v => (ofVal v).getD .junk
  | .global _ => .junk
  | .func f => .fn (.func f) [] []
/-- The tree holds the list. -/
def Holds (E : Tr) (T : List V) : Prop := ∀ k, E.get? k = T[k]?
theorem Tr.get_eq : ∀ (E : Tr) (k : Nat), E.get k = (E.get? k).getD .junk
  | .e, k => rfl
  | .n l v r, 0 => rfl
  | .n l v r, k + 1 => by
    rcases Nat.mod_two_eq_zero_or_one k with h | h
    · rw [Tr.get_0 h]; simp only [Tr.get?, h, if_true]; exact Tr.get_eq l _
    · rw [Tr.get_1 h]; simp only [Tr.get?, h]; exact Tr.get_eq r _
theorem Tr.get?_set : ∀ (E : Tr) (d k : Nat) (x : V), (E.set d x).get? k = if k = d then (E.get? d).map fun _ => x else E.get? k
  | .e, d, k, x => by
    have : (Tr.e).set d x = .e := rfl
    simp [this, Tr.get?]
  | .n l v r, 0, 0, x => rfl
  | .n l v r, 0, k + 1, x => by
    have : (Tr.n l v r).set 0 x = .n l x r := rfl
    simp [this, Tr.get?]
  | .n l v r, d + 1, 0, x => by
    rcases Nat.mod_two_eq_zero_or_one d with h | h
    · rw [Tr.set_0 h]; simp [Tr.get?]
    · rw [Tr.set_1 h]; simp [Tr.get?]
  | .n l v r, d + 1, k + 1, x => by
    rcases Nat.mod_two_eq_zero_or_one d with h | h
    · rw [Tr.set_0 h]
      simp only [h, Tr.get?, if_true]
      rcases Nat.mod_two_eq_zero_or_one k with h' | h'
      · simp only [h', if_true, Tr.get?_set l]
        have : (k / 2 = d / 2) ↔ (k + 1 = d + 1) := by omega
        simp only [this]
      · have hne : ¬ (k + 1 = d + 1) := by omega
        simp only [h', hne, if_false]
        rfl
    · rw [Tr.set_1 h]
      simp only [h, Tr.get?]
      rcases Nat.mod_two_eq_zero_or_one k with h' | h'
      · have hne : ¬ (k + 1 = d + 1) := by omega
        simp only [h', hne, if_true, if_false]
      · have : (k / 2 = d / 2) ↔ (k + 1 = d + 1) := by omega
        simp only [h', Tr.get?_set r, this]
        rfl
theorem Tr.get?_mk (L : List V) (n : Nat) : ∀ (fuel s o k : Nat), 0 < s → n ≤ o + fuel → (Tr.mk L n fuel s o).get? k = if s * k + o < n then some (L.getD (s * k + o) (.tup [])) else none
  | 0, s, o, k, hs, h => by
    have : n ≤ o := by omega
    have h2 : ¬ (s * k + o < n) := by omega
    simp [Tr.mk, Tr.get?, h2]
  | fuel + 1, s, o, k, hs, h => by
    simp only [Tr.mk]
    cases hb : Nat.blt o n with
    | false =>
      have : ¬ o < n := by
        intro h'
        rw [show Nat.blt o n = true from by simp [Nat.blt]; omega] at hb; cases hb
      have h2 : ¬ (s * k + o < n) := by omega
      simp [Tr.get?, h2]
    | true =>
      have : o < n := by simp [Nat.blt] at hb; omega
      simp only
      cases k with
      | zero => simp [Tr.get?, this]
      | succ k =>
        simp only [Tr.get?]
        rcases Nat.mod_two_eq_zero_or_one k with h' | h'
        · have e : 2 * s * (k / 2) + (o + s) = s * (k + 1) + o := by
            have : k = 2 * (k / 2) := by omega
            rw [Nat.mul_add, Nat.mul_one, Nat.add_assoc, Nat.add_comm o s, ← Nat.add_assoc, Nat.mul_assoc, Nat.mul_left_comm, ← this]
            omega
          simp only [h', if_true, Tr.get?_mk L n fuel (2 * s) (o + s) (k / 2) (by omega) (by omega), e]
        · have e : 2 * s * (k / 2) + (o + 2 * s) = s * (k + 1) + o := by
            have h2 : k = 2 * (k / 2) + 1 := by omega
            have h3 : s * k = 2 * s * (k / 2) + s := by
              conv => lhs; rw [h2]
              rw [Nat.mul_add, Nat.mul_one, Nat.mul_left_comm, Nat.mul_assoc]
            rw [Nat.mul_add, Nat.mul_one, h3]; omega
          simp only [h', Tr.get?_mk L n fuel (2 * s) (o + 2 * s) (k / 2) (by omega) (by omega), e]
          rfl
theorem holds_start (n : Nat) (args : List V) (h : args.length ≤ n) : Holds (Tr.mk args n n 1 0) (startT n args) := fun k => by
  rw [Tr.get?_mk args n n 1 0 k (by omega) (by omega)]
  simp only [Nat.one_mul, Nat.add_zero, startT]
  rw [List.getElem?_append]
  by_cases hk : k < n
  · rw [if_pos hk]
    by_cases hl : k < args.length
    · rw [if_pos hl, List.getD_eq_getElem?_getD]; simp [hl]
    · rw [if_neg hl, List.getD_eq_getElem?_getD, List.getElem?_eq_none (by omega), List.getElem?_replicate, if_pos (by omega)]; rfl
  · rw [if_neg hk, if_neg (by omega), List.getElem?_replicate, if_neg (by omega)]
theorem Holds.put {E : Tr} {T : List V} (h : Holds E T) (d : Option Tmp) (v : V) : Holds (putE E d v) (putT T d v) := by
  cases d with
  | none => exact h
  | some d =>
    intro k
    simp only [putE, putT]
    rw [Tr.get?_set, List.getElem?_set, h k, h d]
    by_cases hk : k = d
    · subst hk
      simp only [if_true]
      by_cases hl : k < T.length
      · simp [hl]
      · simp [hl]
    · rw [if_neg hk, if_neg (fun h => hk h.symm)]
theorem Holds.set {E : Tr} {T : List V} (h : Holds E T) (d : Nat) (v : V) : Holds (E.set d v) (T.set d v) := h.put (some d) v
theorem Holds.get {E : Tr} {T : List V} (h : Holds E T) (k : Nat) : E.get k = T.getD k .junk := by rw [Tr.get_eq, h k, List.getD_eq_getElem?_getD]
theorem Holds.eval {E : Tr} {T : List V} (h : Holds E T) : evalE E = evalO T := by
  funext x
  cases x <;> simp only [evalE, evalO]
  exact h.get _

noncomputable def opK : Op → Program → Store → (Operand → V) → Option Rs
  | .move x => fun P S ev => (some (.val (ev x) S 0))
  | .assign x => fun P S ev => (some (.val (ev x) S 0))
  | .pick c a b => fun P S ev => (match ev c with
    | .d (.bool true) => some (.val (ev a) S 0)
    | .d (.bool false) => some (.val (ev b) S 0)
    | _ => none)
  | .alloc e => fun P S ev => (match zeroV P e with
    | some z => if fitsT P e z then some (.val (.ref S.length 0 0) (S ++ [.row [z] e]) 2) else none
    | none => none)
  | .box e x => fun P S ev => (if fitsT P e (ev x) then some (.val (.ref S.length 0 0) (S ++ [.row [ev x] e]) 2) else none)
  | .build t parts => fun P S ev => ((buildV P t (parts.toList.map fun p => (p.1, ev p.2))).map fun v => .val v S 0)
  | .buildSlice t len parts => fun P S ev => (match P.underlying t with
    | some (.slice e) => match zeroV P e, sz P e with
      | some z, some k => if fitsT P e z && (parts.toList.all fun p => p.1 < len && fitsT P e (ev p.2)) && len * k ≤ 16777216 && k ≠ 0 then
          match allO asD (litV z len (parts.toList.map fun p => (p.1, ev p.2))) with
          | some ds => some (.val (.ts ds) S 0)
          | none => some (.val (.rs S.length 0 len) (S ++ [.row (litV z len (parts.toList.map fun p => (p.1, ev p.2))) e]) 2)
        else none
      | _, _ => none
    | _ => none)
  | .load t a => fun P S ev => ((loadK P S t (ev a)).map fun v => .val v S 1)
  | .store t a x => fun P S ev => ((storeK P S t (ev a) (ev x)).map fun S' => .skip S' 3)
  | .nilCheck x => fun P S ev => (match ev x with
    | .ref i ix off => some (.val (.ref i ix off) S 0)
    | .d (.ptr x) => some (.val (.d (.ptr x)) S 0)
    | .fn (.func g) a b => some (.val (.fn (.func g) a b) S 0)
    | _ => none)
  | .binOp op t x y _ => fun P S ev => ((binV P op t (ev x) (ev y)).map fun v => .val v S 0)
  | .unOp op _ x => fun P S ev => ((unV op (ev x)).map fun v => .val v S 0)
  | .convert src dst x => fun P S ev => ((convertV P S src dst (ev x)).map fun r => .val r.1 S r.2)
  | .makeInterface t x => fun P S ev => (match P.underlying t with
    | some (.interface _) => none
    | some _ => if (ev x).one then some (.val (.iface t (ev x)) S 0) else none
    | none => none)
  | .makeFunc fn first caps => fun P S ev => (if (first.toList.map (ev)).all V.one && (caps.toList.map (ev)).all V.one then some (.val (.fn fn (first.toList.map (ev)) (caps.toList.map (ev))) S 0) else none)
  | .makeMap t r => fun P S ev => (match r with
    | none => some (.val (.mr S.length) (S ++ [.mp [] 0]) 2)
    | some _ => none)
  | .makeSlice t l c => fun P S ev => ((makeSliceV P S t (ev l) (ev c)).map fun r => .val r.1 r.2 2)
  | .slice t x lo hi none => fun P S ev => ((sliceV P S t (ev x) (lo.map (ev)) (hi.map (ev))).map fun v => .val v S 1)
  | .fieldAddr s x f => fun P S ev => ((fieldAddrV P s f (ev x)).map fun v => .val v S 0)
  | .indexAddr t x ix => fun P S ev => ((indexK P S t (ev x) (ev ix)).map fun v => .val v S 1)
  | .field s x f => fun P S ev => ((fieldV P s f (ev x)).map fun v => .val v S 0)
  | .index t x ix => fun P S ev => ((indexV P t (ev x) (ev ix)).map fun v => .val v S 0)
  | .lookup t x k ok => fun P S ev => ((lookupV P S t (ev x) (ev k) ok).map fun v => .val v S 1)
  | .mapUpdate t m k x => fun P S ev => ((mapUpdateV P S t (ev m) (ev k) (ev x)).map fun S' => .skip S' 3)
  | .mapEntry t m k => fun P S ev => ((mapEntryV P S t (ev m) (ev k)).map fun r => .val r.1 r.2 3)
  | .entryStore t m st x => fun P S ev => ((entryStoreV S (ev m) (ev st) (ev x)).map fun S' => .skip S' 3)
  | .range t x => fun P S ev => (match P.underlying t with
    | some .string => match ev x with
      | .d (.str s) => some (.val (.it S.length) (S ++ [.iter s 0]) 2)
      | _ => none
    | _ => none)
  | .next it true => fun P S ev => (match ev it with
    | .it id => match S[id]? with
      | some (.iter s pos) =>
        if pos < s.length then
          let r := Utf8.decode ⟨s.toArray⟩ pos
          some (.val (.tup [.d (.bool true), .d (.int .i64 pos), .d (.int .i32 r.1)]) (S.set id (.iter s (pos + r.2))) 3)
        else some (.val (.tup [.d (.bool false)]) S 3)
      | _ => none
    | _ => none)
  | .extract t ix => fun P S ev => (match ev t with
    | .tup vs => match vs[ix]? with
      | some v => some (.val v S 0)
      | none => none
    | _ => none)
  | .call c => fun P S ev => (match c.callee with
    | .builtin b => builtinV P S b c.argTypes.toList (c.args.toList.map (ev))
    | .value f => match ev f with
      | .fn (.func g) first caps => if (c.args.toList.map (ev)).all V.one && (bodyOf P g).isSome then some (.enter g (first ++ c.args.toList.map (ev) ++ caps)) else none
      | .d (.fn (.func g) first caps) => if (c.args.toList.map (ev)).all V.one && (bodyOf P g).isSome then some (.enter g (first.map .d ++ c.args.toList.map (ev) ++ caps.map .d)) else none
      | _ => none
    | .invoke _ _ => none)
  | .defer c => fun P S ev => (match c.callee with
    | .value f => match ev f with
      | .fn (.func g) first caps => if (c.args.toList.map (ev)).all V.one && (bodyOf P g).isSome then some (.dfr g (first ++ c.args.toList.map (ev) ++ caps)) else none
      | _ => none
    | _ => none)
  | .panic x => fun P S ev => (match ev x with
    | .iface t v => some (.pan (.iface t v))
    | .d (.iface t v) => some (.pan (.d (.iface t v)))
    | _ => none)
  | _ => fun P S ev => (none)
theorem opK_eq {P : Program} {S : Store} {T : List V} {o : Oper} : opK o.op P S (evalO T) = opV P S T o := by
  obtain ⟨dst, op, ty, pos, after, g⟩ := o
  cases op <;> try rfl
  case load t a => simp only [opK, loadK_eq]; rfl
  case store t a x => simp only [opK, storeK_eq]; rfl
  case indexAddr t x y => simp only [opK, indexK_eq]; rfl
  case slice t x lo hi m => cases m <;> rfl
  case next it b => cases b <;> rfl
end Go.Vm
