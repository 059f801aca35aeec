/- What a call by the store leaves as it was: frames. -/
import Derived.ProofKit
import Derived.Deep.Slices
import Derived.OpenShut
import Derived.Test.YtobgdmgldagjkaaProg
import Derived.Test.YtobgdmgldagjkaaK06
/-! What a call by the store leaves as it was: frames. -/
section
set_option linter.unusedVariables false
set_option linter.unusedSimpArgs false
namespace Go.Vm
def Keep (S S' : Store) : Prop := ∀ (j : Nat) (o : Ob), S[j]? = some o → S'[j]? = some o
theorem Keep.refl {S : Store} : Keep S S := fun _ _ h => h
theorem Keep.trans {S S' S'' : Store} (h : Keep S S') (h' : Keep S' S'') : Keep S S'' := fun j o hj => h' j o (h j o hj)
theorem Keep.app {S S' l : Store} (h : Keep S S') : Keep S (S' ++ l) := fun j o hj => by
  have := h j o hj
  rw [List.getElem?_append_left (getLen this)]; exact this
theorem Keep.len {S S' : Store} (h : Keep S S') : S.length ≤ S'.length := by
  cases hl : S.length with
  | zero => omega
  | succ n =>
    obtain ⟨o, ho⟩ : ∃ o, S[n]? = some o := ⟨S[n], List.getElem?_eq_getElem (by omega)⟩
    have := getLen (h n o ho)
    omega
theorem Keep.set {S S' : Store} {i : Nat} {o : Ob} (h : Keep S S') (hi : S.length ≤ i) : Keep S (S'.set i o) := fun j q hj => by
  have := getLen hj
  rw [List.getElem?_set_ne (by omega)]
  exact h j q hj
/-- What is left as it was: all but rows of these types, these maps, and a row r (of type b). -/
def calm (ts ms : List Nat) (b r j : Nat) : Ob → Bool
  | .row _ e => !ts.contains e && (e != b || j != r)
  | .mp _ _ => !ms.contains j
  | _ => true
def Frm (ts ms : List Nat) (b r : Nat) (S S' : Store) : Prop := S.length ≤ S'.length ∧ ∀ (j : Nat) (o : Ob), S[j]? = some o → calm ts ms b r j o = true → S'[j]? = some o
section
variable {ts ms ts' ms' : List Nat} {b r : Nat} {S S' S'' l : Store}
theorem Frm.refl : Frm ts ms b r S S := ⟨Nat.le_refl _, fun _ _ h _ => h⟩
theorem Frm.trans (h : Frm ts ms b r S S') (h' : Frm ts ms b r S' S'') : Frm ts ms b r S S'' := ⟨Nat.le_trans h.1 h'.1, fun j o hj hc => h'.2 j o (h.2 j o hj hc) hc⟩
theorem Frm.app (h : Frm ts ms b r S S') : Frm ts ms b r S (S' ++ l) := ⟨by have := h.1; simp; omega, fun j o hj hc => by
  have := h.2 j o hj hc
  rw [List.getElem?_append_left (getLen this)]; exact this⟩
theorem Frm.keep (h : Keep S S') : Frm ts ms b r S S' := ⟨h.len, fun j o hj _ => h j o hj⟩
theorem Frm.set (h : Frm ts ms b r S S') {i : Nat} {o : Ob} (hi : ∀ p, S[i]? = some p → calm ts ms b r i p = false) : Frm ts ms b r S (S'.set i o) := ⟨by rw [List.length_set]; exact h.1, fun j q hj hc => by
  rw [List.getElem?_set_ne (by rintro rfl; rw [hi q hj] at hc; cases hc)]
  exact h.2 j q hj hc⟩
theorem Frm.setn (h : Frm ts ms b r S S') {i : Nat} {o : Ob} (hi : S.length ≤ i) : Frm ts ms b r S (S'.set i o) := h.set fun p hp => by have := getLen hp; omega
theorem Frm.row (h : Frm ts ms b r S S') {j : Nat} {xs : List V} {e : TypeId} (hj : S[j]? = some (.row xs e)) (hc : (!ts.contains e && (e != b || j != r)) = true) : S'[j]? = some (.row xs e) := h.2 j _ hj hc
theorem Frm.mp (h : Frm ts ms b r S S') {j : Nat} {es : List (D × V × Nat)} {c : Nat} (hj : S[j]? = some (.mp es c)) (hc : (!ms.contains j) = true) : S'[j]? = some (.mp es c) := h.2 j _ hj hc
theorem Frm.hole (h : Frm ts ms b r S S') {j : Nat} (hj : S[j]? = some .hole) : S'[j]? = some .hole := h.2 j _ hj rfl
theorem Frm.own (h : Frm ts ms b r S S') {v : V} {e : TypeId} {xs : List V} (ho : OwnS S v e xs) (hc : (!ts.contains e && (e != b)) = true) : OwnS S' v e xs := by
  rcases ho with ho | ⟨id, h1, h2⟩
  · exact .inl ho
  · refine .inr ⟨id, h1, h.row h2 ?_⟩
    rw [Bool.and_eq_true] at hc ⊢
    exact ⟨hc.1, by rw [hc.2]; rfl⟩
theorem Frm.map (h : Frm ts ms b r S S') {m : Nat} {f : Int → Option V} (hm : MpI S m f) (hc : (!ms.contains m) = true) : MpI S' m f := by
  obtain ⟨L, c, h1, h2⟩ := hm
  exact ⟨L, c, h.mp h1 hc, h2⟩
theorem Frm.mono (h : Frm ts ms b r S S') (h1 : ∀ e, ts.contains e = true → ts'.contains e = true) (h2 : ∀ m, ms.contains m = true → ms'.contains m = true) : Frm ts' ms' b r S S' := ⟨h.1, fun j o hj hc => h.2 j o hj (by
  cases o with
  | row xs e =>
    simp only [calm, Bool.and_eq_true] at hc ⊢
    refine ⟨?_, hc.2⟩
    cases hh : ts.contains e with
    | false => rfl
    | true => rw [h1 e hh] at hc; exact absurd hc.1 (by decide)
  | mp es c =>
    simp only [calm] at hc ⊢
    cases hh : ms.contains j with
    | false => rfl
    | true => rw [h2 j hh] at hc; exact absurd hc (by decide)
  | _ => rfl)⟩
end
theorem Keep.own {S S' : Store} (h : Keep S S') {v : V} {e : TypeId} {xs : List V} (ho : OwnS S v e xs) : OwnS S' v e xs := by
  rcases ho with ho | ⟨id, h1, h2⟩
  · exact .inl ho
  · exact .inr ⟨id, h1, h _ _ h2⟩
theorem Keep.map {S S' : Store} (h : Keep S S') {m : Nat} {f : Int → Option V} (hm : MpI S m f) : MpI S' m f := by
  obtain ⟨L, c, h1, h2⟩ := hm
  exact ⟨L, c, h _ _ h1, h2⟩
/-- How many of the first numbers a map tells. -/
def cntI (f : Int → Option V) : Nat → Nat
  | 0 => 0
  | n + 1 => cntI f n + if (f (n : Int)).isSome then 1 else 0
theorem cntI_le {f : Int → Option V} : ∀ n, cntI f n ≤ n
  | 0 => Nat.le_refl _
  | n + 1 => by have := cntI_le (f := f) n; unfold cntI; split <;> omega
theorem cntI_out {f : Int → Option V} {k : Int} {v : Option V} : ∀ n : Nat, (n : Int) ≤ k → cntI (updI f k v) n = cntI f n
  | 0, _ => rfl
  | n + 1, h => by
    unfold cntI
    rw [cntI_out n (by omega)]
    have : updI f k v (n : Int) = f n := if_neg (by omega)
    rw [this]
theorem cntI_upd {f : Int → Option V} {k : Nat} {v : V} (hk : f (k : Int) = none) : ∀ n : Nat, k < n → cntI (updI f k (some v)) n = cntI f n + 1
  | 0, h => by omega
  | n + 1, h => by
    unfold cntI
    by_cases e : n = k
    · subst e
      rw [cntI_out n (Int.le_refl _), hk]
      have : updI f (n : Int) (some v) (n : Int) = some v := if_pos rfl
      rw [this]; rfl
    · rw [cntI_upd hk n (by omega)]
      have : updI f (k : Int) (some v) (n : Int) = f n := if_neg (by omega)
      rw [this]; omega
theorem getE {S : Store} {j : Nat} {o : Ob} (h : S[j]? = some o) {q : Ob} (h' : S[j]? = some q) : o = q := by rw [h] at h'; exact Option.some.inj h'
end Go.Vm
namespace Go.Vm
theorem take_keep {S : Store} {B : Nat} : Keep (S.take B) S := fun j o h => by
  rw [List.getElem?_take] at h
  split at h
  · exact h
  · cases h
theorem Keep.take {S S' : Store} {B : Nat} (h : Keep S S') : Keep (S.take B) (S'.take B) := fun j o hj => by
  rw [List.getElem?_take] at hj ⊢
  split at hj
  · rename_i hl
    rw [if_pos hl]
    exact h j o hj
  · cases hj
theorem take_app {S l : Store} {B : Nat} (h : B ≤ S.length) : (S ++ l).take B = S.take B := List.take_append_of_le_length h
theorem take_setn {S : Store} {B i : Nat} {o : Ob} (h : B ≤ i) : (S.set i o).take B = S.take B := List.take_set_of_le h
theorem take_at {S : Store} {B j : Nat} {o : Ob} (h : S[j]? = some o) (hj : j < B) : (S.take B)[j]? = some o := by rw [List.getElem?_take, if_pos hj]; exact h
theorem lt_take {S : Store} {B j : Nat} {o : Ob} (h : (S.take B)[j]? = some o) : j < B := by
  have := getLen h
  rw [List.length_take] at this
  omega
end Go.Vm
end
/-! Calls apart that answer plain data; slices by their rows. -/
section
set_option linter.unusedVariables false
set_option linter.unusedSimpArgs false
namespace Go.Vm
section
variable {C : Cfg} {S : Store} {ops : Array Oper} {T : List V} {F : Dfs} {Q : Post}
theorem callV_pl {f : FuncId} {args : List V} {ds : List D} {o : Out} (hs : C.shared f = false) (hf : allO (frz S frzFuel) args = some ds) (hp : plainOut o = true) (he : Ev C f ds o) : ∃ n, callV C (run C n) f args S = some (o, S, 1) := by
  obtain ⟨n, hn⟩ := he
  have hn' : answer C (run C n) f ds = some o := hn
  refine ⟨n, ?_⟩
  unfold callV
  simp only [hs, Bool.false_eq_true, if_false, hf, hn', hp, if_true]
  split <;> rfl
theorem wr_pl {dst : Option Tmp} {l : List Oper} {f : FuncId} {args : List V} {ds : List D} {v : V} (hs : C.shared f = false) (hf : allO (frz S frzFuel) args = some ds) (hp : plainOut (.ret v) = true) (he : Ev C f ds (.ret v)) :
    WpR C ops dst l T S F Q (some (.enter f args)) = WpL C ops l (putT T dst v) S F Q := by
  obtain ⟨n, hc⟩ := callV_pl hs hf hp he
  apply propext
  constructor
  · rintro ⟨m, o, S2, c, h1, h2⟩
    have := callV_det h1 hc
    simp only [Prod.mk.injEq] at this
    obtain ⟨rfl, rfl, rfl⟩ := this
    exact h2
  · exact fun h => ⟨n, _, _, _, hc, h⟩
theorem own_ix {P : Program} {t e : TypeId} {v : V} {xs : List V} {i : Nat} (hu : P.underlying t = some (.slice e)) (hz : (sz P e).isSome = true) (ho : OwnS S v e xs) (hi : i < xs.length) : ∃ id, indexAddrV P S t v (.d (.int .i64 (i : Int))) = some (.ref id i 0) ∧ rowE S id i = some xs[i] ∧ S[id]? = some (.row xs e) := by
  rcases ho with ⟨rfl, rfl⟩ | ⟨id, rfl, h1⟩
  · exact absurd hi (by simp)
  · refine ⟨id, ?_, ?_, h1⟩
    · have h3 : rowT S id e = true := by simp only [rowT, h1, beq_self_eq_true]
      simp only [indexAddrV, intOf?, hu, h3, hz]
      rw [if_pos ⟨⟨by omega, by omega⟩, trivial, trivial⟩, Nat.zero_add, Int.toNat_natCast]
    · unfold rowE
      rw [h1]
      exact List.getElem?_eq_getElem hi
theorem wl_callv {dst : Option Tmp} {ty : TypeId} {pos : String} {after : Array Edge} {l : List Oper} {t : Nat} {args : Array Operand} {ts : Array TypeId} : WpL C ops (⟨dst, .call { callee := .value (.tmp t), args := args, argTypes := ts }, ty, pos, after, none⟩ :: l) T S F Q = WpR C ops dst l T S F Q (cvV C.P (args.toList.map (evalO T)) (evalO T (.tmp t))) := by rw [wl_op rfl, op_callv]
theorem res_cell {P : Program} {a : Tmp} {t : TypeId} {x v : V} (h : T.getD a (.tup []) = x) (hl : loadV P S t x = some v) : resultsV P #[.cell a t] T S = some v := by
  simp only [resultsV, resultV, h, hl]
theorem res_ct {P : Program} {a u : Tmp} {t : TypeId} {x v w : V} (h : T.getD a (.tup []) = x) (hl : loadV P S t x = some v) (h2 : T.getD u (.tup []) = w) (o1 : v.one = true) (o2 : w.one = true) : resultsV P #[.cell a t, .tmp u] T S = some (.tup [v, w]) := by
  simp only [resultsV, allO, resultV, h, hl, h2, List.all_cons, List.all_nil, o1, o2, Bool.and_self, if_true]
theorem res_tt {P : Program} {a u : Tmp} {v w : V} (h : T.getD a (.tup []) = v) (h2 : T.getD u (.tup []) = w) (o1 : v.one = true) (o2 : w.one = true) : resultsV P #[.tmp a, .tmp u] T S = some (.tup [v, w]) := by
  simp only [resultsV, allO, resultV, h, h2, List.all_cons, List.all_nil, o1, o2, Bool.and_self, if_true]
end
end Go.Vm
namespace Go.Vm
/-- One element is appended, that stands in a row of its own. -/
theorem app_row1 {P : Program} {S : Store} {t e : TypeId} {v y : V} {xs : List V} {x : Nat} (hu : P.underlying t = some (.slice e)) (hz : zOk P e = true) (hs : (sz P e).isSome = true) (ho : OwnS S v e xs) (hx : S[x]? = some (.row [y] e)) (hf : fitsT P e y = true) (hr : room P e (xs.length + 1) = true) :
    (v = .ts [] ∧ xs = [] ∧ appendV P S t t v (.rs x 0 1) = some (.rs S.length 0 1, S ++ [.row [y] e], 2)) ∨ ∃ id, v = .rs id 0 xs.length ∧ S[id]? = some (.row xs e) ∧ appendV P S t t v (.rs x 0 1) = some (.rs S.length 0 (xs.length + 1), S.set id .dead ++ [.row (xs ++ [y]) e], 3) := by
  have src : srcV P S e t (.rs x 0 1) = some [y] := by
    have el : elemsV S (.rs x 0 1) = some [y] := by simp [elemsV, hx]
    simp only [srcV, hu, el, List.all_cons, hf, List.all_nil, Bool.and_self, hs, if_true]
  rcases ho with ⟨rfl, rfl⟩ | ⟨id, rfl, h1⟩
  · refine .inl ⟨rfl, rfl, ?_⟩
    have hr1 : room P e 1 = true := by simpa using hr
    simp only [appendV, hu, src, hz, if_true, List.all_nil, List.length_nil, Nat.zero_add, hr1, Bool.and_self, List.map_nil, List.nil_append]
  · refine .inr ⟨id, rfl, h1, ?_⟩
    simp only [appendV, hu, src, hz, if_true, h1, List.length_nil, Nat.zero_add, hr, decide_true, Nat.le_refl, Bool.and_self, List.take_length]
end Go.Vm
namespace Go.Vm
section
variable {C : Cfg} {ops : Array Oper} {F : Dfs} {Q : Post} {K : List Nat → List (Nat × Nat) → List V → Store → Prop} {rd : List Nat} {cs : List (Nat × Nat)} {i : Nat} {dst : Option Tmp} {T : List V} {S S' : Store} {v : V}
theorem we_2 : WpE C ops F Q K rd cs i dst T S (some (.val v S' 2)) = (bitsOk ops rd i 3 ∧ K rd (cs ++ [(i, 3)]) (putT T dst v) S') := by simp [WpE, num2]
theorem we_3 : WpE C ops F Q K rd cs i dst T S (some (.val v S' 3)) = (bitsOk ops rd i 3 ∧ K rd (cs ++ [(i, 3)]) (putT T dst v) S') := by simp [WpE, num2]
end
end Go.Vm
namespace Go.Vm
section
variable {P : Program} {e : TypeId} {cs : List V} {i : Nat} {v : V}
/-- A cell of an array. -/
theorem arr_get (hs : sz P e = some 1) (ha : aggT P e = false) (hi : i < cs.length) : loadR P e i (some (.agg cs)) = some cs[i] := by
  have hf : fitsT P e (.agg cs) = false := by
    unfold fitsT
    rw [ha]
    simp [V.isAgg]
  show (if decide (i = 0) && fitsT P e (.agg cs) then some (.agg cs) else partV P e cs i) = _
  rw [hf, Bool.and_false, if_neg (by decide)]
  unfold partV
  rw [hs, ha]
  simp only
  rw [if_pos (by omega)]
  simp only [Bool.false_eq_true, if_false, if_true, List.getElem?_eq_getElem hi]
theorem arr_put (hf : fitsT P e v = true) (hv : v.cells = [v]) (hn : v.isAgg = false) (hi : i < cs.length) : storeR P e i v (.agg cs) = some (.agg (cs.set i v)) := by
  unfold storeR
  rw [hf, hv, hn]
  simp only [V.cells, V.isAgg, if_true]
  have h1 : (false == true) = false := rfl
  have h2 : (true == false) = false := rfl
  simp only [h1, h2, Bool.and_false, List.length_cons, List.length_nil, Bool.and_true]
  rw [if_neg (by simp), if_pos (by simp; omega), List.set_eq_take_append_cons_drop, if_pos hi]
  simp
end
end Go.Vm
end
/-! The value machine: arguments that can be read, as data; and what a row's statement asks behind a call. -/
section
set_option linter.unusedVariables false
set_option linter.unusedSimpArgs false
namespace Go.Vm
open Go.ChangeShapes Go.RowKit

/-- The forms of data that a law is handed. -/
inductive Ty where
  | bool
  | int (k : IntKind)
  | str
  | sl (e : Ty)
  | agg (fs : List Ty)
  deriving Inhabited
def Ty.isAgg : Ty → Bool | .agg _ => true | _ => false
def Ty.cells : Ty → List Ty | .agg fs => fs | .bool => [.bool] | .int k => [.int k] | .str => [.str] | .sl e => [.sl e]
def ofFields (P : Program) (g : TypeId → Option Ty) : List Field → Nat → Option (List Ty)
  | [], _ => some []
  | f :: r, off => match g f.type with
    | some x => if f.offset = off ∧ P.cellsOf f.type = x.cells.length then match ofFields P g r (off + x.cells.length) with
      | some l => some (x.cells ++ l)
      | none => none
      else none
    | none => none
def ofType (P : Program) : Nat → TypeId → Option Ty
  | 0, _ => none
  | n + 1, t => match P.underlying t with
    | some .bool => some .bool
    | some (.int k) => some (.int k)
    | some .string => some .str
    | some (.slice e) => match ofType P n e with
      | some x => if P.cellsOf e = x.cells.length ∧ x.cells.length ≠ 0 then some (.sl x) else none
      | none => none
    | some (.struct fs) => match ofFields P (ofType P n) fs.toList 0 with
      | some l => if P.cellsOf t = l.length then some (.agg l) else none
      | none => none
    | some (.array m e) => match ofType P n e with
      | some x => if P.cellsOf e = x.cells.length ∧ P.cellsOf t = m * x.cells.length then some (.agg (List.replicate m x.cells).flatten) else none
      | none => none
    | _ => none

mutual
def HasTy : Ty → D → Prop
  | .bool, x => ∃ b, x = .bool b
  | .int k, x => ∃ n, x = .int k n ∧ k.min ≤ n ∧ n ≤ k.max
  | .str, x => ∃ s, x = .str s ∧ s.length ≤ maxLen
  | .sl e, x => ∃ xs, x = .sl xs ∧ xs.length ≤ maxLen ∧ ∀ y ∈ xs, HasTy e y
  | .agg fs, x => ∃ xs, x = .agg xs ∧ HasL fs xs
def HasL : List Ty → List D → Prop
  | [], xs => xs = []
  | t :: ts, xs => ∃ y r, xs = y :: r ∧ HasTy t y ∧ HasL ts r
end
theorem hasTy_agg {t : Ty} {x : D} (h : HasTy t x) : x.isAgg = t.isAgg := by
  cases t <;> simp only [HasTy] at h <;> obtain ⟨_, rfl, _⟩ := h <;> rfl
theorem hasL_append : ∀ {ts us : List Ty} {xs ys : List D}, HasL ts xs → HasL us ys → HasL (ts ++ us) (xs ++ ys)
  | [], us, xs, ys, h, h' => by simp only [HasL] at h; subst h; exact h'
  | t :: ts, us, xs, ys, h, h' => by
    simp only [HasL] at h
    obtain ⟨y, r, rfl, h1, h2⟩ := h
    simp only [List.cons_append, HasL]
    exact ⟨y, r ++ ys, rfl, h1, hasL_append h2 h'⟩
theorem hasTy_cells {t : Ty} {x : D} (h : HasTy t x) : HasL t.cells x.cells := by
  cases t with
  | agg fs => simp only [HasTy] at h; obtain ⟨xs, rfl, h⟩ := h; exact h
  | _ =>
    have h' := h
    simp only [HasTy] at h
    obtain ⟨_, rfl, _⟩ := h
    simp only [Ty.cells, D.cells, HasL]
    exact ⟨_, [], rfl, h', rfl⟩
section
variable {P : Program} {H : Type} {enc : TypeId × Value → H} {w : World}

theorem mapM_cons_some {α β : Type} {f : α → Option β} {x : α} {r : List α} {ys : List β} (h : (x :: r).mapM f = some ys) : ∃ y zs, f x = some y ∧ r.mapM f = some zs ∧ ys = y :: zs := by
  rw [List.mapM_cons] at h
  cases h1 : f x with
  | none => simp [h1] at h
  | some y =>
    cases h2 : r.mapM f with
    | none => simp [h1, h2] at h
    | some zs => simp [h1, h2] at h; exact ⟨y, zs, rfl, rfl, h.symm⟩
theorem mapM_nil_some {α β : Type} {f : α → Option β} {ys : List β} (h : ([] : List α).mapM f = some ys) : ys = [] := by simpa using h.symm
theorem cells?_spec {base : Nat} {a : Addr} {n : Nat} {us : List Value} (h : w.cells? base a n = some us) : us.length = n ∧ ∀ j v, us[j]? = some v → w.cell? (a.add j) = some v := by
  unfold World.cells? at h
  split at h
  · have key : ∀ (m s : Nat) (us : List Value), (List.range' s m).mapM (fun i => w.cell? (a.add i)) = some us → us.length = m ∧ ∀ j v, us[j]? = some v → w.cell? (a.add (s + j)) = some v := by
      intro m
      induction m with
      | zero => intro s us h; have := mapM_nil_some h; subst this; exact ⟨rfl, fun j v h => by simp at h⟩
      | succ m ih =>
        intro s us h
        rw [List.range'_succ] at h
        obtain ⟨y, zs, h1, h2, rfl⟩ := mapM_cons_some h
        obtain ⟨g1, g2⟩ := ih (s + 1) zs h2
        refine ⟨by simp [g1], fun j v hj => ?_⟩
        cases j with
        | zero => simp at hj; subst hj; exact h1
        | succ j => simp at hj; have := g2 j v hj; rw [show s + (j + 1) = s + 1 + j by omega]; exact this
    rw [List.range_eq_range'] at h
    obtain ⟨g1, g2⟩ := key n 0 us h
    exact ⟨g1, fun j v hj => by simpa using g2 j v hj⟩
  · cases h
theorem cellsAt_of {a : Addr} {us : List Value} (hne : us ≠ []) (h : ∀ j v, us[j]? = some v → w.cell? (a.add j) = some v) : a.spot = none ∧ a.block < w.heap.size ∧ CellsAt w a.block a.off us := by
  have h0 : ∃ v, us[0]? = some v := by cases us with | nil => exact absurd rfl hne | cons x r => exact ⟨x, rfl⟩
  obtain ⟨v, hv⟩ := h0
  have := h 0 v hv
  rw [Addr.add_zero'] at this
  unfold World.cell? at this
  cases hb : w.heap[a.block]? with
  | none => simp [hb] at this
  | some o =>
    cases o with
    | cells c e f =>
      simp only [hb] at this
      split at this
      · cases this
      · rename_i hs
        refine ⟨by simpa using hs, lt_of_heap hb, c, e, f, hb, fun j v hj => ?_⟩
        have := h j v hj
        unfold World.cell? at this
        have hbl : (a.add j).block = a.block := by unfold Addr.add; split <;> rfl
        have hoff : (a.add j).off = a.off + j := by unfold Addr.add; split <;> simp_all
        simp only [hbl, hb] at this
        split at this
        · cases this
        · rw [hoff] at this; exact this
    | _ => simp [hb] at this

theorem addr_add_add (a : Addr) (m n : Nat) : (a.add m).add n = a.add (m + n) := by
  unfold Addr.add
  by_cases h : m = 0 <;> by_cases h' : n = 0 <;> simp [h, h', Nat.add_assoc]
abbrev Old (w : World) (b : Nat) : Prop := b < w.heap.size
theorem repL_append' {A : Nat → Prop} : ∀ {xs ys : List D} {us vs : List Value}, RepL A w xs us → RepL A w ys vs → RepL A w (xs ++ ys) (us ++ vs)
  | [], ys, us, vs, h, h' => by simp only [RepL] at h; subst h; exact h'
  | x :: r, ys, us, vs, h, h' => by
    simp only [RepL] at h
    obtain ⟨v, us', rfl, h1, h2, h3⟩ := h
    simp only [List.cons_append, RepL]
    exact ⟨v, us' ++ vs, rfl, h1, h2, repL_append' h3 h'⟩

theorem hasL_length : ∀ {ts : List Ty} {xs : List D}, HasL ts xs → xs.length = ts.length
  | [], xs, h => by simp only [HasL] at h; simp [h]
  | t :: ts, xs, h => by
    simp only [HasL] at h
    obtain ⟨y, r, rfl, _, h2⟩ := h
    simp [hasL_length h2]
theorem fields_rep {base : Nat} {spare : Nat → Bool} {held : Bool} {g : TypeId → Option Ty} {cs : List Value} {fu : Nat} (ih : ∀ {t : TypeId} {cs : List Value} {z : DataW H × List MemPlace} {T : Ty}, DataW.trod enc P w base spare held fu t cs = some z → g t = some T → ∃ x, HasTy T x ∧ RepC (Old w) w x cs) :
    ∀ {l : List Field} {off : Nat} {ts : List Ty}, ofFields P g l off = some ts → (∀ f ∈ l, ∃ z, DataW.trod enc P w base spare held fu f.type ((cs.drop f.offset).take (P.cellsOf f.type)) = some z) → ∃ xs, HasL ts xs ∧ RepL (Old w) w xs ((cs.drop off).take ts.length)
  | [], off, ts, h, _ => by
    simp only [ofFields, Option.some.injEq] at h; subst h
    exact ⟨[], rfl, by simp [RepL]⟩
  | f :: r, off, ts, h, hz => by
    simp only [ofFields] at h
    cases hg : g f.type with
    | none => simp [hg] at h
    | some T =>
      simp only [hg] at h
      split at h
      · rename_i hc
        obtain ⟨rfl, hc2⟩ := hc
        cases hr : ofFields P g r (f.offset + T.cells.length) with
        | none => simp [hr] at h
        | some l =>
          simp only [hr, Option.some.injEq] at h; subst h
          obtain ⟨z, hz1⟩ := hz f (by simp)
          obtain ⟨x, hx, hrx⟩ := ih hz1 hg
          obtain ⟨xs, h1, h2⟩ := fields_rep ih hr (fun f' hf' => hz f' (by simp [hf']))
          refine ⟨x.cells ++ xs, hasL_append (hasTy_cells hx) h1, ?_⟩
          have e : (cs.drop f.offset).take (T.cells ++ l).length = (cs.drop f.offset).take (P.cellsOf f.type) ++ (cs.drop (f.offset + T.cells.length)).take l.length := by
            rw [List.length_append, List.take_add, hc2, List.drop_drop]
          rw [e]
          exact repL_append' (repC_cells hrx) h2
      · cases h
/-- What can be read reads as data. -/
theorem trod_rep {base : Nat} {spare : Nat → Bool} {held : Bool} : ∀ (n : Nat) (fuel : Nat) {t : TypeId} {cs : List Value} {z : DataW H × List MemPlace} {T : Ty}, DataW.trod enc P w base spare held fuel t cs = some z → ofType P n t = some T → ∃ x, HasTy T x ∧ RepC (Old w) w x cs := by
  intro n
  induction n with
  | zero => intro fuel t cs z T h hT; simp [ofType] at hT
  | succ n ih =>
    intro fuel t cs z T h hT
    simp only [ofType] at hT
    cases hu : P.underlying t with
    | none => simp [hu] at hT
    | some td =>
      simp only [hu] at hT
      cases td with
      | bool =>
        simp only [Option.some.injEq] at hT; subst hT
        obtain ⟨b, rfl, _⟩ := DataW.trod_bool hu h
        exact ⟨.bool b, ⟨b, rfl⟩, by simp [RepC]⟩
      | int k =>
        simp only [Option.some.injEq] at hT; subst hT
        obtain ⟨m, rfl, _, hwf⟩ := DataW.trod_int hu h
        exact ⟨.int k m, ⟨m, rfl, by simpa [Lit.wf] using hwf⟩, by simp [RepC]⟩
      | string =>
        simp only [Option.some.injEq] at hT; subst hT
        obtain ⟨s, rfl, _, hl⟩ := DataW.trod_string hu h
        exact ⟨.str s.data.toList, ⟨_, rfl, hl⟩, by simp [RepC]⟩
      | slice e =>
        simp only at hT
        cases he : ofType P n e with
        | none => simp [he] at hT
        | some E =>
          simp only [he] at hT
          split at hT
          · rename_i hc
            obtain ⟨hc, hne⟩ := hc
            simp only [Option.some.injEq] at hT; subst hT
            rcases Go.Deep.open_slice hu h with ⟨rfl, _⟩ | ⟨a, len, cap, m, fu, D0, Pl, rfl, _, hle, hcap, hm, _, hel⟩
            · refine ⟨.sl [], ⟨[], rfl, by simp, by simp⟩, ?_⟩
              simp only [RepC]
              exact ⟨none, 0, rfl, Nat.le_refl _, .inl trivial⟩
            · have hlm : len ≤ m := by rw [hm]; split <;> omega
              rw [hc] at hel
              -- the elements, from one index on
              have key : ∀ (l s : Nat), s + l ≤ m → ∃ xs us, xs.length = l ∧ us.length = l * E.cells.length ∧ (∀ y ∈ xs, HasTy E y) ∧ RepE (Old w) w E.cells.length xs us ∧ ∀ j v, us[j]? = some v → w.cell? (a.add (s * E.cells.length + j)) = some v := by
                intro l
                induction l with
                | zero => intro s _; exact ⟨[], [], rfl, by simp, by simp, by simp [RepE], fun j v h => by simp at h⟩
                | succ l ihl =>
                  intro s hs
                  obtain ⟨cs', g1, g2⟩ := hel s (by omega)
                  obtain ⟨x, hx, hr⟩ := ih fu g2 he
                  obtain ⟨k1, k2⟩ := cells?_spec g1
                  obtain ⟨xs, us, f1, f2, f3, f4, f5⟩ := ihl (s + 1) (by omega)
                  refine ⟨x :: xs, cs' ++ us, by simp [f1], by simp [k1, f2, Nat.succ_mul]; omega, fun y hy => ?_, ?_, fun j v hj => ?_⟩
                  · rcases List.mem_cons.1 hy with rfl | hy
                    · exact hx
                    · exact f3 y hy
                  · simp only [RepE]
                    exact ⟨cs', us, rfl, k1, hr, f4⟩
                  · rw [List.getElem?_append] at hj
                    split at hj
                    · have := k2 j v hj
                      rwa [addr_add_add] at this
                    · rename_i hlt
                      have := f5 _ v hj
                      rw [show s * E.cells.length + j = (s + 1) * E.cells.length + (j - cs'.length) by rw [Nat.succ_mul]; omega]
                      exact this
              obtain ⟨xs, us, f1, f2, f3, f4, f5⟩ := key len 0 (by omega)
              refine ⟨.sl xs, ⟨xs, rfl, by omega, f3⟩, ?_⟩
              simp only [RepC]
              refine ⟨some a, cap, by rw [f1], by omega, ?_⟩
              by_cases h0 : xs = []
              · exact .inl h0
              · right
                have hne' : us ≠ [] := by
                  intro hn
                  rw [hn] at f2
                  simp only [List.length_nil] at f2
                  have : len ≠ 0 := by
                    intro h00; rw [h00] at f1; exact h0 (List.length_eq_zero_iff.1 f1)
                  have := Nat.mul_ne_zero this hne
                  omega
                obtain ⟨c1, c2, c3⟩ := cellsAt_of hne' (fun j v hj => by simpa using f5 j v hj)
                exact ⟨a, _, us, rfl, c1, c2, c3, f4⟩
          · cases hT
      | struct fs =>
        simp only at hT
        cases hf : ofFields P (ofType P n) fs.toList 0 with
        | none => simp [hf] at hT
        | some l =>
          simp only [hf] at hT
          split at hT
          · rename_i hc
            simp only [Option.some.injEq] at hT; subst hT
            obtain ⟨xs, fu, _, _, hl, hxl, hel⟩ := DataW.trod_struct hu h
            obtain ⟨ys, h1, h2⟩ := fields_rep (fun a b => ih fu a b) hf (fun f hf' => by
              obtain ⟨i, hi⟩ := List.getElem?_of_mem hf'
              have hi' : fs[i]? = some f := by simpa using hi
              have := hel i f hi'
              have hlt : i < xs.length := by
                rw [hxl]
                rcases Nat.lt_or_ge i fs.size with h' | h'
                · exact h'
                · simp [h'] at hi'
              exact ⟨xs[i], by rw [this]; simp [hlt]⟩)
            refine ⟨.agg ys, ⟨ys, rfl, h1⟩, ?_⟩
            simp only [RepC]
            rw [List.drop_zero, List.take_of_length_le (by omega)] at h2
            exact h2
          · cases hT
      | array m e =>
        simp only at hT
        cases he : ofType P n e with
        | none => simp [he] at hT
        | some E =>
          simp only [he] at hT
          split at hT
          · rename_i hc
            obtain ⟨hc, hc2⟩ := hc
            simp only [Option.some.injEq] at hT; subst hT
            obtain ⟨xs, fu, _, _, hl, hxl, hel⟩ := DataW.trod_array hu h
            rw [hc] at hel
            have key : ∀ (l s : Nat), s + l ≤ m → ∃ ys, HasL (List.replicate l E.cells).flatten ys ∧ RepL (Old w) w ys ((cs.drop (s * E.cells.length)).take (l * E.cells.length)) := by
              intro l
              induction l with
              | zero => intro s _; exact ⟨[], by simp [HasL], by simp [RepL]⟩
              | succ l ihl =>
                intro s hs
                have hlt : s < xs.length := by omega
                have h0 := hel s (by omega)
                rw [List.getElem?_eq_getElem hlt] at h0
                obtain ⟨x, hx, hr⟩ := ih fu h0 he
                obtain ⟨ys, f1, f2⟩ := ihl (s + 1) (by omega)
                refine ⟨x.cells ++ ys, by rw [List.replicate_succ, List.flatten_cons]; exact hasL_append (hasTy_cells hx) f1, ?_⟩
                have e : (cs.drop (s * E.cells.length)).take ((l + 1) * E.cells.length) = (cs.drop (s * E.cells.length)).take E.cells.length ++ (cs.drop ((s + 1) * E.cells.length)).take (l * E.cells.length) := by
                  rw [Nat.succ_mul, Nat.add_comm (l * _), List.take_add, List.drop_drop, Nat.succ_mul]
                rw [e]
                exact repL_append' (repC_cells hr) f2
            obtain ⟨ys, f1, f2⟩ := key m 0 (by omega)
            refine ⟨.agg ys, ⟨ys, rfl, f1⟩, ?_⟩
            simp only [RepC]
            rw [Nat.zero_mul, List.drop_zero, List.take_of_length_le (by omega)] at f2
            exact f2
          · cases hT
      | _ => simp at hT

/-- All that is handed. -/
def ofTypes (P : Program) (n : Nat) : List TypeId → Option (List Ty) := allO (ofType P n)
theorem leaf_of_ok {r : Reach} {base : Nat} {t : TypeId} {v : Value} {n : Nat} {T : Ty} (hT : ofType P n t = some T) (hok : Value.okWide P w r base t v) : (T.isAgg = true ∧ ∃ us, v = .agg us) ∨ (T.isAgg = false ∧ v.cells = #[v]) := by
  cases n with
  | zero => simp [ofType] at hT
  | succ n =>
    simp only [ofType] at hT
    unfold Value.okWide at hok
    cases hu : P.underlying t with
    | none => simp [hu] at hT
    | some td =>
      simp only [hu] at hT hok
      cases td with
      | bool =>
        simp only [Option.some.injEq] at hT; subst hT
        refine .inr ⟨rfl, ?_⟩
        simp only [Cell.okWide, hu] at hok
        cases v <;> simp_all [Cell.ok, Value.cells]
      | int k =>
        simp only [Option.some.injEq] at hT; subst hT
        refine .inr ⟨rfl, ?_⟩
        simp only [Cell.okWide, hu] at hok
        cases v <;> simp_all [Cell.ok, Value.cells]
      | string =>
        simp only [Option.some.injEq] at hT; subst hT
        refine .inr ⟨rfl, ?_⟩
        simp only [Cell.okWide, hu] at hok
        cases v <;> simp_all [Cell.ok, Value.cells]
      | slice e =>
        simp only at hT
        cases he : ofType P n e with
        | none => simp [he] at hT
        | some E =>
          simp only [he] at hT
          split at hT
          · simp only [Option.some.injEq] at hT; subst hT
            refine .inr ⟨rfl, ?_⟩
            simp only [Cell.okWide, hu] at hok
            cases v <;> simp_all [Cell.ok, Value.cells]
          · cases hT
      | struct fs =>
        simp only at hT
        cases hf : ofFields P (ofType P n) fs.toList 0 with
        | none => simp [hf] at hT
        | some l =>
          simp only [hf] at hT
          split at hT
          · simp only [Option.some.injEq] at hT; subst hT
            obtain ⟨cs, h, _⟩ := hok
            exact .inl ⟨rfl, cs, h⟩
          · cases hT
      | array m e =>
        simp only at hT
        cases he : ofType P n e with
        | none => simp [he] at hT
        | some E =>
          simp only [he] at hT
          split at hT
          · simp only [Option.some.injEq] at hT; subst hT
            obtain ⟨cs, h, _⟩ := hok
            exact .inl ⟨rfl, cs, h⟩
          · cases hT
      | _ => simp at hT
theorem open_all {base : Nat} {spare : Nat → Bool} {held : Bool} {r : Reach} {b0 : Nat} {n : Nat} : ∀ {ts : List TypeId} {vs : List Value} {ds : List (DataW H)} {ps : List MemPlace} {Ts : List Ty}, DataW.TrodAll enc P w base spare held ts vs ds ps → ofTypes P n ts = some Ts →
    (∀ (j : Nat) t v, ts[j]? = some t → vs[j]? = some v → Value.okWide P w r b0 t v) → ∃ xs, HasL Ts xs ∧ RepS (Old w) w xs vs
  | [], vs, ds, ps, Ts, h, hT, _ => by
    simp only [ofTypes, allO, Option.some.injEq] at hT; subst hT
    cases vs with
    | nil => exact ⟨[], rfl, by simp [RepS]⟩
    | cons v vs => cases ds <;> simp [DataW.TrodAll] at h
  | t :: ts, vs, ds, ps, Ts, h, hT, hok => by
    obtain ⟨T, Ts', h1, h2, rfl⟩ := allO_cons hT
    cases vs with
    | nil => simp [DataW.TrodAll] at h
    | cons v vs =>
      cases ds with
      | nil => simp [DataW.TrodAll] at h
      | cons d ds =>
        obtain ⟨p, q, ⟨fu, hd⟩, hr, rfl⟩ := h
        obtain ⟨x, hx, hrx⟩ := trod_rep n fu hd h1
        obtain ⟨xs, g1, g2⟩ := open_all hr h2 (fun j t v hj hv => hok (j + 1) t v (by simpa using hj) (by simpa using hv))
        refine ⟨x :: xs, by simp only [HasL]; exact ⟨x, xs, rfl, hx, g1⟩, ?_⟩
        simp only [RepS]
        refine ⟨v, vs, rfl, ?_, g2⟩
        rcases leaf_of_ok h1 (hok 0 t v (by simp) (by simp)) with ⟨e1, us, rfl⟩ | ⟨e1, e2⟩
        · exact .inl ⟨by rw [hasTy_agg hx, e1], us, rfl, by simpa [Value.cells] using hrx⟩
        · exact .inr ⟨by rw [hasTy_agg hx, e1], by rw [e2] at hrx; simpa using hrx⟩

theorem trodAll_len {base : Nat} {spare : Nat → Bool} {held : Bool} : ∀ {ts : List TypeId} {vs : List Value} {ds : List (DataW H)} {ps : List MemPlace}, DataW.TrodAll enc P w base spare held ts vs ds ps → ds.length = ts.length
  | [], vs, ds, ps, h => by
    cases vs <;> cases ds <;> simp_all [DataW.TrodAll]
  | t :: ts, vs, ds, ps, h => by
    cases vs with
    | nil => simp [DataW.TrodAll] at h
    | cons v vs =>
      cases ds with
      | nil => simp [DataW.TrodAll] at h
      | cons d ds =>
        obtain ⟨p, q, _, hr, rfl⟩ := h
        simp [trodAll_len hr]
theorem len1 {α : Type} {l : List α} (h : l.length = 1) : ∃ a, l = [a] := List.length_eq_one_iff.1 h
theorem len2 {α : Type} {l : List α} (h : l.length = 2) : ∃ a b, l = [a, b] := by
  match l, h with
  | [a, b], _ => exact ⟨a, b, rfl⟩
theorem len3 {α : Type} {l : List α} (h : l.length = 3) : ∃ a b c, l = [a, b, c] := by
  match l, h with
  | [a, b, c], _ => exact ⟨a, b, c, rfl⟩
theorem trodVars_nil {T : List String} {gs : List (DataW H)} {q : List MemPlace} {own : Nat → Bool} (hT : T = []) (h : DataW.TrodVars enc P w own T gs q) : gs = [] := by
  subst hT
  cases gs with
  | nil => rfl
  | cons g gs => simp [DataW.TrodVars] at h
/-- The arguments read behind the call as they did. -/
theorem below_all {W W' : World} (hl : laidOutB P = true) (hb : Below W.heap.size W W') : ∀ {ts : List TypeId} {vs : List Value} {ds : List (DataW H)} {ps : List MemPlace}, (ts.all fun t => P.readableRec t && decide (t < P.types.size)) = true → DataW.TrodAll enc P W 0 (fun _ => true) true ts vs ds ps → (∀ x ∈ ps, x.block < W.heap.size) → DataW.TrodAll enc P W' 0 (fun b => decide (b < W.heap.size)) true ts vs ds ps
  | [], vs, ds, ps, _, h, _ => by
    cases vs <;> cases ds <;> simp_all [DataW.TrodAll]
  | t :: ts, vs, ds, ps, hr, h, hlt => by
    simp only [List.all_cons, Bool.and_eq_true, decide_eq_true_eq] at hr
    cases vs with
    | nil => simp [DataW.TrodAll] at h
    | cons v vs =>
      cases ds with
      | nil => simp [DataW.TrodAll] at h
      | cons d ds =>
        obtain ⟨p, q, hd, hrest, rfl⟩ := h
        exact ⟨p, q, Below.trod hl hr.1.1 hr.1.2 hd hb (fun x hx => hlt x (by simp [hx])), below_all hl hb (by simpa using hr.2) hrest (fun x hx => hlt x (by simp [hx])), rfl⟩

/-- What a law's row asks behind the call. -/
theorem law_post {f : Func} {s : ChangeSpec} {apart : Bool} {W W' : World} {args : Array Value} {ds gs : List (DataW H)} {before : List MemPlace} {t : TypeId} (hl : laidOutB P = true) (hread : (f.params.toList.all fun t => P.readableRec t && decide (t < P.types.size)) = true)
    (hW : DataW.Whole enc P f.params.toList s.vars apart W args.toList ds gs before) (hv : s.vars = []) (hres : f.resultTypes = #[t]) (hu : P.underlying t = some .bool)
    (hfn : s.fn H (ds ++ gs) = { results := [.lit (.bool true)], args := ds }) (hb : Below W.heap.size W W') : s.post enc P f apart true false false W args (.bool true) W' := by
  have hlt : ∀ x ∈ before, x.block < W.heap.size := fun x hx => by simpa using hW.lt x hx
  have hW0 := hW
  obtain ⟨p, q, hA, hV, rfl, hz, hn⟩ := hW
  refine ⟨ds, gs, p ++ q, [], p, q, hW0, ?_, ?_, ?_, hb.frame _, fun h => by cases h⟩
  · rw [hfn, hres]
    exact trodAll_mk1 (shut_bool hu true)
  · rw [hfn]
    exact below_all hl hb hread hA (fun x hx => hlt x (by simp [hx]))
  · rw [hfn]
    rw [hv] at hV ⊢
    cases gs with
    | nil => exact hV
    | cons g gs => simp [DataW.TrodVars] at hV
/-- A law that the machine answers with true. -/
theorem law_calls {C : Cfg} (hext : ExtOk C) (hcatch : CatchOk C) {n : Nat} {f : FuncId} {xs : List D} {args : Array Value} {W : World} (hrun : runD C n f xs = some (.ret (.d (.bool true)))) (hr : RepS (Old W) W xs args.toList) (hgl : GlobOk C.P (Old W) W) :
    Calls C.P f args W fun e W' => e = .returned (.bool true) ∧ Below W.heap.size W W' := by
  obtain ⟨o', ho, hcalls⟩ := runD_ok hext hcatch n f xs _ hrun
  have ho' : o' = .ret (.bool true) := by
    cases o' with
    | ret x => simp only [OutD.out, Out.ret.injEq, V.d.injEq] at ho; rw [ho]
    | tup xs => simp [OutD.out] at ho
    | pan x => simp [OutD.out] at ho
  subst ho'
  refine (hcalls (Old W) W args (fun b hb => hb) hgl hr).mono fun e W' he => ?_
  cases e with
  | returned v =>
    obtain ⟨A', h1, h2⟩ := he
    have h2 := (repX_leaf rfl).1 h2
    simp only [RepC, List.cons.injEq, and_true] at h2
    exact ⟨by rw [h2], h1.os, h1.tape, h1.output, h1.size, h1.old⟩
  | panicked c => obtain ⟨x, v, h, _⟩ := he; cases h
  | outgrown => exact he.elim
end
end Go.Vm
end
/-! Plain: bytes laid into blocks, numbers as bytes. -/
section
set_option linter.unusedVariables false
set_option linter.unusedSimpArgs false
set_option maxRecDepth 100000
namespace Go.Proofs.Ytobgdmgldagjkaa
open Go.Vm
/-- The bytes of a list with others from a place on. -/
def layB (b : List UInt8) (k : Nat) (data : List UInt8) : List UInt8 := b.take k ++ data ++ b.drop (k + data.length)
theorem layB_len {b data : List UInt8} {k : Nat} (h : k + data.length ≤ b.length) : (layB b k data).length = b.length := by unfold layB; simp; omega
theorem layB_nil {b : List UInt8} {k : Nat} : layB b k [] = b := by unfold layB; simp
theorem layB_snoc {b data : List UInt8} {k : Nat} {x : UInt8} (h : k + data.length < b.length) : layB b k (data ++ [x]) = (layB b k data).set (k + data.length) x := by
  unfold layB
  have h1 : (b.take k ++ data).length = k + data.length := by simp; omega
  rw [List.set_append_right _ _ (by omega), h1, Nat.sub_self, List.length_append, List.length_singleton]
  have : b.drop (k + data.length) = b[k + data.length] :: b.drop (k + data.length + 1) := List.drop_eq_getElem_cons h
  rw [this, List.set_cons_zero]
  simp [Nat.add_assoc]
/-- A number's lowest bytes, the least part ahead. -/
def leB (n v : Nat) : List UInt8 := (List.range n).map fun i => UInt8.ofNat (v / 256 ^ i % 256)
theorem leB_len (n v : Nat) : (leB n v).length = n := by simp [leB]
theorem leB_snoc (n v : Nat) : leB (n + 1) v = leB n v ++ [UInt8.ofNat (v / 256 ^ n % 256)] := by unfold leB; rw [List.range_succ, List.map_append]; rfl
theorem leB_take (n m v : Nat) (h : m ≤ n) : (leB n v).take m = leB m v := by
  unfold leB
  rw [← List.map_take, List.take_range, Nat.min_eq_left h]
def zeros (n : Nat) : List UInt8 := List.replicate n 0
theorem zeros_len (n : Nat) : (zeros n).length = n := by simp [zeros]
/-- A hash goes on by a byte. -/
def mixS (h : Nat) (x : UInt8) : Nat := (h ^^^ x.toNat) * 16777619 % 4294967296
def mixL (h : Nat) (s : List UInt8) : Nat := s.foldl mixS h
def hashL (s : List UInt8) : Nat := mixL 2166136261 s
theorem mixS_lt (h : Nat) (x : UInt8) : mixS h x < 4294967296 := Nat.mod_lt _ (by decide)
theorem mixL_lt : ∀ (s : List UInt8) (h : Nat), h < 4294967296 → mixL h s < 4294967296
  | [], h, hh => hh
  | x :: r, h, _ => mixL_lt r (mixS h x) (mixS_lt h x)
theorem hashL_lt (s : List UInt8) : hashL s < 4294967296 := mixL_lt s _ (by decide)
theorem xor_low (h b : Nat) (hb : b < 256) : h ^^^ b = h - h % 256 + (h % 256 ^^^ b) := by
  have h1 : (h ^^^ b) % 2 ^ 8 = (h % 2 ^ 8) ^^^ (b % 2 ^ 8) := Nat.xor_mod_two_pow ..
  have h2 : (h ^^^ b) / 2 ^ 8 = (h / 2 ^ 8) ^^^ (b / 2 ^ 8) := Nat.xor_div_two_pow ..
  rw [show (2 : Nat) ^ 8 = 256 from rfl] at h1 h2
  rw [Nat.mod_eq_of_lt hb] at h1
  rw [Nat.div_eq_of_lt hb, Nat.xor_zero] at h2
  omega
/-! The first block of a device. -/
theorem layB_end {a d : List UInt8} {n : Nat} (h : d.length ≤ n) : layB (a ++ zeros n) a.length d = (a ++ d) ++ zeros (n - d.length) := by
  unfold layB zeros
  rw [List.take_left, List.drop_append, List.drop_eq_nil_of_le (by omega), List.nil_append, List.drop_replicate]
  congr 2
  omega
def magicB : List UInt8 := [101, 115, 99, 104, 101, 97, 116, 49]
/-- Its first twenty bytes. -/
def supL (B I M : Nat) : List UInt8 := magicB ++ leB 2 B ++ leB 2 I ++ leB 8 M
theorem supL_len (B I M : Nat) : (supL B I M).length = 20 := by simp [supL, magicB, leB_len]
def supB (B I M : Nat) : List UInt8 := supL B I M ++ leB 4 (hashL (supL B I M)) ++ zeros 232
theorem supB_len (B I M : Nat) : (supB B I M).length = 256 := by simp [supB, supL_len, leB_len, zeros_len]
theorem sup_way (B I M : Nat) : layB (zeros 256) 0 magicB = magicB ++ zeros 248 ∧ layB (magicB ++ zeros 248) 8 (leB 2 B) = (magicB ++ leB 2 B) ++ zeros 246 ∧ layB ((magicB ++ leB 2 B) ++ zeros 246) 10 (leB 2 I) = (magicB ++ leB 2 B ++ leB 2 I) ++ zeros 244 ∧ layB ((magicB ++ leB 2 B ++ leB 2 I) ++ zeros 244) 12 (leB 8 M) = supL B I M ++ zeros 236 ∧ ((supL B I M ++ zeros 236).drop 0).take 20 = supL B I M ∧ layB (supL B I M ++ zeros 236) 20 (leB 4 (hashL (supL B I M))) = supB B I M := by
  refine ⟨?_, ?_, ?_, ?_, ?_, ?_⟩
  · exact layB_end (a := []) (n := 256) (d := magicB) (by decide)
  · exact layB_end (a := magicB) (n := 248) (by rw [leB_len]; omega)
  · have := layB_end (a := magicB ++ leB 2 B) (d := leB 2 I) (n := 246) (by rw [leB_len]; omega)
    simpa [magicB, leB_len] using this
  · have := layB_end (a := magicB ++ leB 2 B ++ leB 2 I) (d := leB 8 M) (n := 244) (by rw [leB_len]; omega)
    simpa [magicB, leB_len, supL] using this
  · rw [List.drop_zero, List.take_append_of_le_length (by rw [supL_len]; omega), List.take_of_length_le (by rw [supL_len]; omega)]
  · have := layB_end (a := supL B I M) (d := leB 4 (hashL (supL B I M))) (n := 236) (by rw [leB_len]; omega)
    rw [supL_len, leB_len] at this
    exact this
/-- Bytes as a number. -/
def leN : List UInt8 → Nat
  | [] => 0
  | x :: r => x.toNat + 256 * leN r
theorem leN_leB : ∀ (n v : Nat), leN (leB n v) = v % 256 ^ n
  | 0, v => by simp [leB, leN, Nat.mod_one]
  | n + 1, v => by
    have h : leB (n + 1) v = UInt8.ofNat (v % 256) :: leB n (v / 256) := by
      unfold leB
      rw [List.range_succ_eq_map, List.map_cons, List.map_map]
      congr 1
      · simp
      · apply List.map_congr_left
        intro i _
        simp only [Function.comp_apply]
        rw [Nat.pow_succ, Nat.mul_comm, ← Nat.div_div_eq_div_mul]
    have e : (UInt8.ofNat (v % 256)).toNat = v % 256 := by rw [UInt8.toNat_ofNat']; omega
    have e2 : (256 : Nat) ^ (n + 1) = 256 * 256 ^ n := by rw [Nat.pow_succ, Nat.mul_comm]
    rw [h, leN, leN_leB n (v / 256), e, e2, Nat.mod_mul]
theorem leN_snoc : ∀ (l : List UInt8) (x : UInt8), leN (l ++ [x]) = leN l + 256 ^ l.length * x.toNat
  | [], x => by simp [leN]
  | y :: r, x => by
    rw [List.cons_append, leN, leN, leN_snoc r x, List.length_cons, Nat.pow_succ]
    rw [Nat.mul_add, Nat.mul_comm (256 ^ r.length) 256, Nat.mul_assoc]
    omega
theorem leN_lt : ∀ l : List UInt8, leN l < 256 ^ l.length
  | [] => by simp [leN]
  | x :: r => by
    have h1 := leN_lt r
    have h2 : x.toNat < 256 := x.toNat_lt
    rw [leN, List.length_cons, Nat.pow_succ]
    omega
/-! Maps of bits. -/
def setBit (b : List UInt8) (i : Nat) : List UInt8 := b.set (i / 8) (b.getD (i / 8) 0 ||| UInt8.ofNat (2 ^ (i % 8)))
def addBit (b : List UInt8) (i : Nat) : List UInt8 := b.set (i / 8) (b.getD (i / 8) 0 + UInt8.ofNat (2 ^ (i % 8)))
def mapB (k : Nat) : List UInt8 := (List.range k).foldl setBit (zeros 256)
theorem setBits_len : ∀ (l : List Nat) (b : List UInt8), (l.foldl setBit b).length = b.length
  | [], b => rfl
  | i :: r, b => by rw [List.foldl_cons, setBits_len r, setBit, List.length_set]
theorem mapB_len (k : Nat) : (mapB k).length = 256 := by unfold mapB; rw [setBits_len, zeros_len]
theorem mapB_succ (k : Nat) : mapB (k + 1) = setBit (mapB k) k := by unfold mapB; rw [List.range_succ, List.foldl_append]; rfl
theorem bits_all : ∀ k : Fin 64, (List.range k.val).foldl addBit (zeros 256) = (List.range k.val).foldl setBit (zeros 256) := by decide +kernel
def rootI : List UInt8 := [2, 0, 1, 0, 0, 0, 0, 0, 1, 0] ++ zeros 22
end Go.Proofs.Ytobgdmgldagjkaa
end
/-! Facts on the program's types, and its functions' bodies: written by mkty.py. -/
section
set_option linter.unusedVariables false
set_option maxRecDepth 100000
namespace Go.Proofs.Ytobgdmgldagjkaa
open Go.Vm
/-- The example is told by what it came to. -/
def worksX : List D → Option Out := fun ds => match ds with | [] => some (.ret (.d (.bool true))) | _ => Option.none
def mask : Nat := 5709053249868616470519948616641609304643647232
noncomputable def cfg : Cfg := { P := Try.prog, mixed := by kernel_rfl, shared := fun f => Nat.testBit mask f, ext := fun f => match Nat.beq f 28 with | true => some worksX | false => Option.none, catch_ := fun f => Option.none }
theorem hP : cfg.P = Try.prog := rfl
def encB (l : List UInt8) : D := .sl (l.map fun b => .int .u8 b.toNat)
theorem fits3 (a : Int) : fitsD Try.prog 3 (.int .i64 a) = true := by kernel_rfl
theorem fitsT3 (a : Int) : fitsT Try.prog 3 (.d (.int .i64 a)) = true := by kernel_rfl
theorem ff3 {a : Int} : fitsT Try.prog 3 (.d (.int .i64 a)) = true := by kernel_rfl
theorem ld3 {S : Store} {a : Int} : loadV Try.prog S 3 (.d (.ptr (.int .i64 a))) = some (.d (.int .i64 a)) := by kernel_rfl
theorem fits29 (a : Int) : fitsD Try.prog 29 (.int .i64 a) = true := by kernel_rfl
theorem fitsT29 (a : Int) : fitsT Try.prog 29 (.d (.int .i64 a)) = true := by kernel_rfl
theorem ff29 {a : Int} : fitsT Try.prog 29 (.d (.int .i64 a)) = true := by kernel_rfl
theorem ld29 {S : Store} {a : Int} : loadV Try.prog S 29 (.d (.ptr (.int .i64 a))) = some (.d (.int .i64 a)) := by kernel_rfl
theorem fits5 (a : Int) : fitsD Try.prog 5 (.int .u8 a) = true := by kernel_rfl
theorem fitsT5 (a : Int) : fitsT Try.prog 5 (.d (.int .u8 a)) = true := by kernel_rfl
theorem ff5 {a : Int} : fitsT Try.prog 5 (.d (.int .u8 a)) = true := by kernel_rfl
theorem ld5 {S : Store} {a : Int} : loadV Try.prog S 5 (.d (.ptr (.int .u8 a))) = some (.d (.int .u8 a)) := by kernel_rfl
theorem fits9 (a : (List UInt8)) : fitsD Try.prog 9 (.str a) = true := by kernel_rfl
theorem fitsT9 (a : (List UInt8)) : fitsT Try.prog 9 (.d (.str a)) = true := by kernel_rfl
theorem ff9 {a : (List UInt8)} : fitsT Try.prog 9 (.d (.str a)) = true := by kernel_rfl
theorem ld9 {S : Store} {a : (List UInt8)} : loadV Try.prog S 9 (.d (.ptr (.str a))) = some (.d (.str a)) := by kernel_rfl
theorem fits4 (a : Bool) : fitsD Try.prog 4 (.bool a) = true := by kernel_rfl
theorem fitsT4 (a : Bool) : fitsT Try.prog 4 (.d (.bool a)) = true := by kernel_rfl
theorem ff4 {a : Bool} : fitsT Try.prog 4 (.d (.bool a)) = true := by kernel_rfl
theorem ld4 {S : Store} {a : Bool} : loadV Try.prog S 4 (.d (.ptr (.bool a))) = some (.d (.bool a)) := by kernel_rfl
theorem fits22 (a : Int) : fitsD Try.prog 22 (.int .u64 a) = true := by kernel_rfl
theorem fitsT22 (a : Int) : fitsT Try.prog 22 (.d (.int .u64 a)) = true := by kernel_rfl
theorem ff22 {a : Int} : fitsT Try.prog 22 (.d (.int .u64 a)) = true := by kernel_rfl
theorem ld22 {S : Store} {a : Int} : loadV Try.prog S 22 (.d (.ptr (.int .u64 a))) = some (.d (.int .u64 a)) := by kernel_rfl
theorem fits40 (a : List D) : fitsD Try.prog 40 (.sl a) = true := by kernel_rfl
theorem ff40 {a : List D} : fitsT Try.prog 40 (.d (.sl a)) = true := by kernel_rfl
theorem ld40 {S : Store} {a : List D} : loadV Try.prog S 40 (.d (.ptr (.sl a))) = some (.d (.sl a)) := by kernel_rfl
theorem fits46 (a : List D) : fitsD Try.prog 46 (.sl a) = true := by kernel_rfl
theorem ff46 {a : List D} : fitsT Try.prog 46 (.d (.sl a)) = true := by kernel_rfl
theorem ld46 {S : Store} {a : List D} : loadV Try.prog S 46 (.d (.ptr (.sl a))) = some (.d (.sl a)) := by kernel_rfl
theorem fits153 (a : List D) : fitsD Try.prog 153 (.sl a) = true := by kernel_rfl
theorem ff153 {a : List D} : fitsT Try.prog 153 (.d (.sl a)) = true := by kernel_rfl
theorem ld153 {S : Store} {a : List D} : loadV Try.prog S 153 (.d (.ptr (.sl a))) = some (.d (.sl a)) := by kernel_rfl
structure Lay where
  blocks : Int
  inodes : Int
  merge : Int
  deriving DecidableEq
def encLay (a : Lay) : D := .agg [.int .i64 a.blocks, .int .i64 a.inodes, .int .u64 a.merge]
theorem fits24 (a : Lay) : fitsD Try.prog 24 (encLay a) = true := by kernel_rfl
theorem fitsT24 (a : Lay) : fitsT Try.prog 24 (.d (encLay a)) = true := by kernel_rfl
theorem z24 : zeroV Try.prog 24 = some (.agg [.d (.int .i64 0), .d (.int .i64 0), .d (.int .u64 0)]) := by kernel_rfl
theorem zf24 : fitsT Try.prog 24 (.agg [.d (.int .i64 0), .d (.int .i64 0), .d (.int .u64 0)]) = true := by kernel_rfl
theorem zz24  : zeroV Try.prog 24 = some (.agg [.d (.int .i64 0), .d (.int .i64 0), .d (.int .u64 0)]) := z24
theorem zzf24  : fitsT Try.prog 24 (.agg [.d (.int .i64 0), .d (.int .i64 0), .d (.int .u64 0)]) = true := zf24
theorem ff24 {a : Lay} : fitsT Try.prog 24 (.d (encLay a)) = true := by kernel_rfl
theorem ffa24 {x0 x1 x2 : V} : fitsT Try.prog 24 (.agg [x0, x1, x2]) = true := by kernel_rfl
theorem lr24 {a : Lay} : loadR Try.prog 24 0 (some (.d (encLay a))) = some (.d (encLay a)) := by kernel_rfl
theorem lra24 {x0 x1 x2 : V} : loadR Try.prog 24 0 (some (.agg [x0, x1, x2])) = some (.agg [x0, x1, x2]) := by kernel_rfl
theorem sr24 {a b : Lay} : storeR Try.prog 24 0 (.d (encLay a)) (.d (encLay b)) = some (.d (encLay a)) := by kernel_rfl
theorem srb24 {a : Lay} {x0 x1 x2 : V} : storeR Try.prog 24 0 (.d (encLay a)) (.agg [x0, x1, x2]) = some (.d (encLay a)) := by kernel_rfl
theorem src24 {a : Lay} {x0 x1 x2 : V} : storeR Try.prog 24 0 (.agg [x0, x1, x2]) (.d (encLay a)) = some (.agg [x0, x1, x2]) := by kernel_rfl
theorem srd24 {x0 x1 x2 y0 y1 y2 : V} : storeR Try.prog 24 0 (.agg [x0, x1, x2]) (.agg [y0, y1, y2]) = some (.agg [x0, x1, x2]) := by kernel_rfl
theorem ld24 {S : Store} {a : Lay} : loadV Try.prog S 24 (.d (.ptr (encLay a))) = some (.d (encLay a)) := by kernel_rfl
theorem fa24_0 {a : Lay} : fieldAddrV Try.prog 24 0 (.d (.ptr (encLay a))) = some (.d (.ptr (.int .i64 a.blocks))) := by kernel_rfl
theorem fd24_0 {a : Lay} : fieldV Try.prog 24 0 (.d (encLay a)) = some (.d (.int .i64 a.blocks)) := by kernel_rfl
theorem lr24_0 {a : Lay} : loadR Try.prog 3 0 (some (.d (encLay a))) = some ((.d (.int .i64 a.blocks))) := by kernel_rfl
theorem lra24_0 {x0 x1 x2 : V} : loadR Try.prog 3 0 (some (.agg [x0, x1, x2])) = some x0 := by kernel_rfl
theorem sr24_0 {a : Lay} {v : V} (h1 : fitsT Try.prog 3 v = true) (h2 : v.cells = [v]) : storeR Try.prog 3 0 v (.d (encLay a)) = some (.agg [v, .d (.int .i64 a.inodes), .d (.int .u64 a.merge)]) := by simp only [storeR, h1, h2]; rfl
theorem sra24_0 {x0 x1 x2 v : V} (h1 : fitsT Try.prog 3 v = true) (h2 : v.cells = [v]) : storeR Try.prog 3 0 v (.agg [x0, x1, x2]) = some (.agg [v, x1, x2]) := by simp only [storeR, h1, h2]; rfl
theorem sri24_0 {a : Lay} {x : Int} : storeR Try.prog 3 0 (.d (.int .i64 x)) (.d (encLay a)) = some (.agg [.d (.int .i64 x), .d (.int .i64 a.inodes), .d (.int .u64 a.merge)]) := by kernel_rfl
theorem sria24_0 {x0 x1 x2 : V} {x : Int} : storeR Try.prog 3 0 (.d (.int .i64 x)) (.agg [x0, x1, x2]) = some (.agg [.d (.int .i64 x), x1, x2]) := by kernel_rfl
theorem fr24_0 {j x y : Nat} : fieldAddrV Try.prog 24 0 (.ref j x y) = some (.ref j x (y + 0)) := by kernel_rfl
theorem fa24_1 {a : Lay} : fieldAddrV Try.prog 24 1 (.d (.ptr (encLay a))) = some (.d (.ptr (.int .i64 a.inodes))) := by kernel_rfl
theorem fd24_1 {a : Lay} : fieldV Try.prog 24 1 (.d (encLay a)) = some (.d (.int .i64 a.inodes)) := by kernel_rfl
theorem lr24_1 {a : Lay} : loadR Try.prog 3 1 (some (.d (encLay a))) = some ((.d (.int .i64 a.inodes))) := by kernel_rfl
theorem lra24_1 {x0 x1 x2 : V} : loadR Try.prog 3 1 (some (.agg [x0, x1, x2])) = some x1 := by kernel_rfl
theorem sr24_1 {a : Lay} {v : V} (h1 : fitsT Try.prog 3 v = true) (h2 : v.cells = [v]) : storeR Try.prog 3 1 v (.d (encLay a)) = some (.agg [.d (.int .i64 a.blocks), v, .d (.int .u64 a.merge)]) := by simp only [storeR, h1, h2]; rfl
theorem sra24_1 {x0 x1 x2 v : V} (h1 : fitsT Try.prog 3 v = true) (h2 : v.cells = [v]) : storeR Try.prog 3 1 v (.agg [x0, x1, x2]) = some (.agg [x0, v, x2]) := by simp only [storeR, h1, h2]; rfl
theorem sri24_1 {a : Lay} {x : Int} : storeR Try.prog 3 1 (.d (.int .i64 x)) (.d (encLay a)) = some (.agg [.d (.int .i64 a.blocks), .d (.int .i64 x), .d (.int .u64 a.merge)]) := by kernel_rfl
theorem sria24_1 {x0 x1 x2 : V} {x : Int} : storeR Try.prog 3 1 (.d (.int .i64 x)) (.agg [x0, x1, x2]) = some (.agg [x0, .d (.int .i64 x), x2]) := by kernel_rfl
theorem fr24_1 {j x y : Nat} : fieldAddrV Try.prog 24 1 (.ref j x y) = some (.ref j x (y + 1)) := by kernel_rfl
theorem fa24_2 {a : Lay} : fieldAddrV Try.prog 24 2 (.d (.ptr (encLay a))) = some (.d (.ptr (.int .u64 a.merge))) := by kernel_rfl
theorem fd24_2 {a : Lay} : fieldV Try.prog 24 2 (.d (encLay a)) = some (.d (.int .u64 a.merge)) := by kernel_rfl
theorem lr24_2 {a : Lay} : loadR Try.prog 22 2 (some (.d (encLay a))) = some ((.d (.int .u64 a.merge))) := by kernel_rfl
theorem lra24_2 {x0 x1 x2 : V} : loadR Try.prog 22 2 (some (.agg [x0, x1, x2])) = some x2 := by kernel_rfl
theorem sr24_2 {a : Lay} {v : V} (h1 : fitsT Try.prog 22 v = true) (h2 : v.cells = [v]) : storeR Try.prog 22 2 v (.d (encLay a)) = some (.agg [.d (.int .i64 a.blocks), .d (.int .i64 a.inodes), v]) := by simp only [storeR, h1, h2]; rfl
theorem sra24_2 {x0 x1 x2 v : V} (h1 : fitsT Try.prog 22 v = true) (h2 : v.cells = [v]) : storeR Try.prog 22 2 v (.agg [x0, x1, x2]) = some (.agg [x0, x1, v]) := by simp only [storeR, h1, h2]; rfl
theorem fr24_2 {j x y : Nat} : fieldAddrV Try.prog 24 2 (.ref j x y) = some (.ref j x (y + 2)) := by kernel_rfl
theorem zOk40 : zOk Try.prog 5 = true := by kernel_rfl
theorem szo40 : (sz Try.prog 5).isSome = true := by kernel_rfl
theorem room40 {m : Nat} (h : m ≤ 1000000) : room Try.prog 5 m = true := room_of rfl (by decide +kernel) h
theorem ix40 {S : Store} {l : List UInt8} {i : Nat} (h : i < l.length) : indexAddrV Try.prog S 40 (.d (.sl (l.map (fun b : UInt8 => D.int .u8 b.toNat)))) (.d (.int .i64 i)) = some (.d (.ptr (.int .u8 (l[i].toNat : Int)))) := ix_map Try.underlying40 (fun a => fits5 _) h
theorem len40 {S : Store} {xs : List D} : builtinV Try.prog S .len [40] [.d (.sl xs)] = some (.val (.d (.int .i64 xs.length)) S 0) := len_sl Try.underlying40
theorem lents40 {S : Store} {xs : List D} : builtinV Try.prog S .len [40] [.ts xs] = some (.val (.d (.int .i64 xs.length)) S 0) := len_ts Try.underlying40
theorem lenrs40 {S : Store} {i o m : Nat} : builtinV Try.prog S .len [40] [.rs i o m] = some (.val (.d (.int .i64 m)) S 0) := len_rs Try.underlying40
theorem bs40 {S : Store} {a : Int} : bs1 Try.prog S 40 (.d (.int .u8 a)) = some (.val (.ts [.int .u8 a]) S 0) := by kernel_rfl
theorem ap40 {S : Store} {v : V} {xs : List UInt8} (a : UInt8) (ho : OwnS S v 5 (xs.map fun x => .d (.int .u8 x.toNat))) (hl : xs.length < 1000000) : ∃ v' S' c, appendV Try.prog S 40 40 v (.ts [.int .u8 a.toNat]) = some (v', S', c) ∧ OwnS S' v' 5 ((xs ++ [a]).map fun x => .d (.int .u8 x.toNat)) ∧ (∀ j o, S[j]? = some o → NotAt v j → S'[j]? = some o ∧ NotAt v' j) ∧ S.length ≤ S'.length := append_enc (enc := fun x : UInt8 => D.int .u8 x.toNat) a Try.underlying40 zOk40 szo40 (fits5 _) ho (room40 (by omega))
theorem zOk46 : zOk Try.prog 3 = true := by kernel_rfl
theorem szo46 : (sz Try.prog 3).isSome = true := by kernel_rfl
theorem room46 {m : Nat} (h : m ≤ 1000000) : room Try.prog 3 m = true := room_of rfl (by decide +kernel) h
theorem ix46 {S : Store} {l : List Int} {i : Nat} (h : i < l.length) : indexAddrV Try.prog S 46 (.d (.sl (l.map (D.int .i64)))) (.d (.int .i64 i)) = some (.d (.ptr ((D.int .i64) l[i]))) := ix_map Try.underlying46 (fun a => fits3 a) h
theorem len46 {S : Store} {xs : List D} : builtinV Try.prog S .len [46] [.d (.sl xs)] = some (.val (.d (.int .i64 xs.length)) S 0) := len_sl Try.underlying46
theorem lents46 {S : Store} {xs : List D} : builtinV Try.prog S .len [46] [.ts xs] = some (.val (.d (.int .i64 xs.length)) S 0) := len_ts Try.underlying46
theorem lenrs46 {S : Store} {i o m : Nat} : builtinV Try.prog S .len [46] [.rs i o m] = some (.val (.d (.int .i64 m)) S 0) := len_rs Try.underlying46
theorem bs46 {S : Store} {a : Int} : bs1 Try.prog S 46 (.d (.int .i64 a)) = some (.val (.ts [.int .i64 a]) S 0) := by kernel_rfl
theorem ap46 {S : Store} {v : V} {xs : List Int} (a : Int) (ho : OwnS S v 3 (xs.map fun x => .d (D.int .i64 x))) (hl : xs.length < 1000000) : ∃ v' S' c, appendV Try.prog S 46 46 v (.ts [D.int .i64 a]) = some (v', S', c) ∧ OwnS S' v' 3 ((xs ++ [a]).map fun x => .d (D.int .i64 x)) ∧ (∀ j o, S[j]? = some o → NotAt v j → S'[j]? = some o ∧ NotAt v' j) ∧ S.length ≤ S'.length := append_enc a Try.underlying46 zOk46 szo46 (fits3 a) ho (room46 (by omega))
theorem zOk153 : zOk Try.prog 4 = true := by kernel_rfl
theorem szo153 : (sz Try.prog 4).isSome = true := by kernel_rfl
theorem room153 {m : Nat} (h : m ≤ 1000000) : room Try.prog 4 m = true := room_of rfl (by decide +kernel) h
theorem ix153 {S : Store} {l : List Bool} {i : Nat} (h : i < l.length) : indexAddrV Try.prog S 153 (.d (.sl (l.map (D.bool)))) (.d (.int .i64 i)) = some (.d (.ptr ((D.bool) l[i]))) := ix_map Try.underlying153 (fun a => fits4 a) h
theorem len153 {S : Store} {xs : List D} : builtinV Try.prog S .len [153] [.d (.sl xs)] = some (.val (.d (.int .i64 xs.length)) S 0) := len_sl Try.underlying153
theorem lents153 {S : Store} {xs : List D} : builtinV Try.prog S .len [153] [.ts xs] = some (.val (.d (.int .i64 xs.length)) S 0) := len_ts Try.underlying153
theorem lenrs153 {S : Store} {i o m : Nat} : builtinV Try.prog S .len [153] [.rs i o m] = some (.val (.d (.int .i64 m)) S 0) := len_rs Try.underlying153
theorem bs153 {S : Store} {a : Bool} : bs1 Try.prog S 153 (.d (.bool a)) = some (.val (.ts [.bool a]) S 0) := by kernel_rfl
theorem ap153 {S : Store} {v : V} {xs : List Bool} (a : Bool) (ho : OwnS S v 4 (xs.map fun x => .d (D.bool x))) (hl : xs.length < 1000000) : ∃ v' S' c, appendV Try.prog S 153 153 v (.ts [D.bool a]) = some (v', S', c) ∧ OwnS S' v' 4 ((xs ++ [a]).map fun x => .d (D.bool x)) ∧ (∀ j o, S[j]? = some o → NotAt v j → S'[j]? = some o ∧ NotAt v' j) ∧ S.length ≤ S'.length := append_enc a Try.underlying153 zOk153 szo153 (fits4 a) ho (room153 (by omega))
theorem ixstr {s : List UInt8} {i : Nat} (h : i < s.length) : indexV Try.prog 9 (.d (.str s)) (.d (.int .i64 i)) = some (.d (.int .u8 s[i].toNat)) := idx_str Try.underlying9 h
theorem lenstr {S : Store} {s : List UInt8} : builtinV Try.prog S .len [9] [.d (.str s)] = some (.val (.d (.int .i64 s.length)) S 0) := len_str Try.underlying9
theorem body3 : bodyOf Try.prog 3 = some ⟨Try.f3.body.getD .skip, 132, #[.tmp 6]⟩ := by
  unfold bodyOf
  rw [Try.func3]
  rfl
theorem bo3  : (bodyOf Try.prog 3).isSome = true := by kernel_rfl
theorem sh3  : cfg.shared 3 = false := by kernel_rfl
theorem body7 : bodyOf Try.prog 7 = some ⟨Try.f7.body.getD .skip, 36, #[.tmp 0]⟩ := by
  unfold bodyOf
  rw [Try.func7]
  rfl
theorem bo7  : (bodyOf Try.prog 7).isSome = true := by kernel_rfl
theorem sh7  : cfg.shared 7 = false := by kernel_rfl
theorem body8 : bodyOf Try.prog 8 = some ⟨Try.f8.body.getD .skip, 10, #[.tmp 2]⟩ := by
  unfold bodyOf
  rw [Try.func8]
  rfl
theorem bo8  : (bodyOf Try.prog 8).isSome = true := by kernel_rfl
theorem sh8  : cfg.shared 8 = true := by kernel_rfl
theorem bo9  : (bodyOf Try.prog 9).isSome = true := by kernel_rfl
theorem sh9  : cfg.shared 9 = true := by kernel_rfl
theorem body10 : bodyOf Try.prog 10 = some ⟨Try.f10.body.getD .skip, 64, #[.tmp 4]⟩ := by
  unfold bodyOf
  rw [Try.func10]
  rfl
theorem bo10  : (bodyOf Try.prog 10).isSome = true := by kernel_rfl
theorem sh10  : cfg.shared 10 = true := by kernel_rfl
theorem body11 : bodyOf Try.prog 11 = some ⟨Try.f11.body.getD .skip, 36, #[.tmp 2]⟩ := by
  unfold bodyOf
  rw [Try.func11]
  rfl
theorem bo11  : (bodyOf Try.prog 11).isSome = true := by kernel_rfl
theorem sh11  : cfg.shared 11 = false := by kernel_rfl
theorem bo12  : (bodyOf Try.prog 12).isSome = true := by kernel_rfl
theorem sh12  : cfg.shared 12 = true := by kernel_rfl
theorem body13 : bodyOf Try.prog 13 = some ⟨Try.f13.body.getD .skip, 37, #[.tmp 2, .tmp 3]⟩ := by
  unfold bodyOf
  rw [Try.func13]
  rfl
theorem bo13  : (bodyOf Try.prog 13).isSome = true := by kernel_rfl
theorem sh13  : cfg.shared 13 = true := by kernel_rfl
theorem body14 : bodyOf Try.prog 14 = some ⟨Try.f14.body.getD .skip, 46, #[.tmp 2]⟩ := by
  unfold bodyOf
  rw [Try.func14]
  rfl
theorem bo14  : (bodyOf Try.prog 14).isSome = true := by kernel_rfl
theorem sh14  : cfg.shared 14 = false := by kernel_rfl
theorem body15 : bodyOf Try.prog 15 = some ⟨Try.f15.body.getD .skip, 11, #[.tmp 2]⟩ := by
  unfold bodyOf
  rw [Try.func15]
  rfl
theorem bo15  : (bodyOf Try.prog 15).isSome = true := by kernel_rfl
theorem sh15  : cfg.shared 15 = true := by kernel_rfl
theorem body16 : bodyOf Try.prog 16 = some ⟨Try.f16.body.getD .skip, 26, #[.tmp 4]⟩ := by
  unfold bodyOf
  rw [Try.func16]
  rfl
theorem bo16  : (bodyOf Try.prog 16).isSome = true := by kernel_rfl
theorem sh16  : cfg.shared 16 = false := by kernel_rfl
theorem body17 : bodyOf Try.prog 17 = some ⟨Try.f17.body.getD .skip, 10, #[.cell 2 24]⟩ := by
  unfold bodyOf
  rw [Try.func17]
  rfl
theorem bo17  : (bodyOf Try.prog 17).isSome = true := by kernel_rfl
theorem sh17  : cfg.shared 17 = true := by kernel_rfl
theorem body18 : bodyOf Try.prog 18 = some ⟨Try.f18.body.getD .skip, 9, #[.tmp 2]⟩ := by
  unfold bodyOf
  rw [Try.func18]
  rfl
theorem bo18  : (bodyOf Try.prog 18).isSome = true := by kernel_rfl
theorem sh18  : cfg.shared 18 = true := by kernel_rfl
theorem body48 : bodyOf Try.prog 48 = some ⟨Try.f48.body.getD .skip, 44, #[.cell 2 42, .tmp 3]⟩ := by
  unfold bodyOf
  rw [Try.func48]
  rfl
theorem bo48  : (bodyOf Try.prog 48).isSome = true := by kernel_rfl
theorem sh48  : cfg.shared 48 = false := by kernel_rfl
theorem body49 : bodyOf Try.prog 49 = some ⟨Try.f49.body.getD .skip, 10, #[.tmp 2]⟩ := by
  unfold bodyOf
  rw [Try.func49]
  rfl
theorem bo49  : (bodyOf Try.prog 49).isSome = true := by kernel_rfl
theorem sh49  : cfg.shared 49 = true := by kernel_rfl
theorem body50 : bodyOf Try.prog 50 = some ⟨Try.f50.body.getD .skip, 1, #[.tmp 0]⟩ := by
  unfold bodyOf
  rw [Try.func50]
  rfl
theorem bo50  : (bodyOf Try.prog 50).isSome = true := by kernel_rfl
theorem sh50  : cfg.shared 50 = false := by kernel_rfl
theorem body51 : bodyOf Try.prog 51 = some ⟨Try.f51.body.getD .skip, 13, #[.tmp 2]⟩ := by
  unfold bodyOf
  rw [Try.func51]
  rfl
theorem bo51  : (bodyOf Try.prog 51).isSome = true := by kernel_rfl
theorem sh51  : cfg.shared 51 = false := by kernel_rfl
theorem body52 : bodyOf Try.prog 52 = some ⟨Try.f52.body.getD .skip, 23, #[.cell 6 42, .tmp 7]⟩ := by
  unfold bodyOf
  rw [Try.func52]
  rfl
theorem bo52  : (bodyOf Try.prog 52).isSome = true := by kernel_rfl
theorem sh52  : cfg.shared 52 = false := by kernel_rfl
theorem body53 : bodyOf Try.prog 53 = some ⟨Try.f53.body.getD .skip, 46, #[.cell 6 29]⟩ := by
  unfold bodyOf
  rw [Try.func53]
  rfl
theorem bo53  : (bodyOf Try.prog 53).isSome = true := by kernel_rfl
theorem sh53  : cfg.shared 53 = true := by kernel_rfl
theorem body54 : bodyOf Try.prog 54 = some ⟨Try.f54.body.getD .skip, 17, #[.cell 2 42]⟩ := by
  unfold bodyOf
  rw [Try.func54]
  rfl
theorem bo54  : (bodyOf Try.prog 54).isSome = true := by kernel_rfl
theorem sh54  : cfg.shared 54 = false := by kernel_rfl
theorem body55 : bodyOf Try.prog 55 = some ⟨Try.f55.body.getD .skip, 16, #[.tmp 2]⟩ := by
  unfold bodyOf
  rw [Try.func55]
  rfl
theorem bo55  : (bodyOf Try.prog 55).isSome = true := by kernel_rfl
theorem sh55  : cfg.shared 55 = false := by kernel_rfl
theorem body56 : bodyOf Try.prog 56 = some ⟨Try.f56.body.getD .skip, 21, #[.cell 4 42, .tmp 5]⟩ := by
  unfold bodyOf
  rw [Try.func56]
  rfl
theorem bo56  : (bodyOf Try.prog 56).isSome = true := by kernel_rfl
theorem sh56  : cfg.shared 56 = true := by kernel_rfl
theorem body57 : bodyOf Try.prog 57 = some ⟨Try.f57.body.getD .skip, 35, #[.cell 2 24, .tmp 3]⟩ := by
  unfold bodyOf
  rw [Try.func57]
  rfl
theorem bo57  : (bodyOf Try.prog 57).isSome = true := by kernel_rfl
theorem sh57  : cfg.shared 57 = false := by kernel_rfl
theorem body58 : bodyOf Try.prog 58 = some ⟨Try.f58.body.getD .skip, 9, #[.tmp 2]⟩ := by
  unfold bodyOf
  rw [Try.func58]
  rfl
theorem bo58  : (bodyOf Try.prog 58).isSome = true := by kernel_rfl
theorem sh58  : cfg.shared 58 = true := by kernel_rfl
theorem body59 : bodyOf Try.prog 59 = some ⟨Try.f59.body.getD .skip, 31, #[.tmp 2]⟩ := by
  unfold bodyOf
  rw [Try.func59]
  rfl
theorem bo59  : (bodyOf Try.prog 59).isSome = true := by kernel_rfl
theorem sh59  : cfg.shared 59 = false := by kernel_rfl
theorem body60 : bodyOf Try.prog 60 = some ⟨Try.f60.body.getD .skip, 32, #[.tmp 2]⟩ := by
  unfold bodyOf
  rw [Try.func60]
  rfl
theorem bo60  : (bodyOf Try.prog 60).isSome = true := by kernel_rfl
theorem sh60  : cfg.shared 60 = false := by kernel_rfl
theorem body61 : bodyOf Try.prog 61 = some ⟨Try.f61.body.getD .skip, 46, #[.tmp 6]⟩ := by
  unfold bodyOf
  rw [Try.func61]
  rfl
theorem bo61  : (bodyOf Try.prog 61).isSome = true := by kernel_rfl
theorem sh61  : cfg.shared 61 = false := by kernel_rfl
theorem body62 : bodyOf Try.prog 62 = some ⟨Try.f62.body.getD .skip, 47, #[.tmp 2]⟩ := by
  unfold bodyOf
  rw [Try.func62]
  rfl
theorem bo62  : (bodyOf Try.prog 62).isSome = true := by kernel_rfl
theorem sh62  : cfg.shared 62 = false := by kernel_rfl
theorem body67 : bodyOf Try.prog 67 = some ⟨Try.f67.body.getD .skip, 29, #[.tmp 2]⟩ := by
  unfold bodyOf
  rw [Try.func67]
  rfl
theorem bo67  : (bodyOf Try.prog 67).isSome = true := by kernel_rfl
theorem sh67  : cfg.shared 67 = false := by kernel_rfl
theorem body69 : bodyOf Try.prog 69 = some ⟨Try.f69.body.getD .skip, 39, #[.tmp 6]⟩ := by
  unfold bodyOf
  rw [Try.func69]
  rfl
theorem bo69  : (bodyOf Try.prog 69).isSome = true := by kernel_rfl
theorem sh69  : cfg.shared 69 = false := by kernel_rfl
theorem body86 : bodyOf Try.prog 86 = some ⟨Try.f86.body.getD .skip, 6, #[.cell 2 42]⟩ := by
  unfold bodyOf
  rw [Try.func86]
  rfl
theorem bo86  : (bodyOf Try.prog 86).isSome = true := by kernel_rfl
theorem sh86  : cfg.shared 86 = false := by kernel_rfl
theorem body87 : bodyOf Try.prog 87 = some ⟨Try.f87.body.getD .skip, 35, #[.cell 8 42]⟩ := by
  unfold bodyOf
  rw [Try.func87]
  rfl
theorem bo87  : (bodyOf Try.prog 87).isSome = true := by kernel_rfl
theorem sh87  : cfg.shared 87 = false := by kernel_rfl
theorem body88 : bodyOf Try.prog 88 = some ⟨Try.f88.body.getD .skip, 42, #[.tmp 8, .tmp 9]⟩ := by
  unfold bodyOf
  rw [Try.func88]
  rfl
theorem bo88  : (bodyOf Try.prog 88).isSome = true := by kernel_rfl
theorem sh88  : cfg.shared 88 = false := by kernel_rfl
theorem body89 : bodyOf Try.prog 89 = some ⟨Try.f89.body.getD .skip, 34, #[.cell 6 42]⟩ := by
  unfold bodyOf
  rw [Try.func89]
  rfl
theorem bo89  : (bodyOf Try.prog 89).isSome = true := by kernel_rfl
theorem sh89  : cfg.shared 89 = false := by kernel_rfl
theorem body90 : bodyOf Try.prog 90 = some ⟨Try.f90.body.getD .skip, 5, #[.tmp 2]⟩ := by
  unfold bodyOf
  rw [Try.func90]
  rfl
theorem bo90  : (bodyOf Try.prog 90).isSome = true := by kernel_rfl
theorem sh90  : cfg.shared 90 = false := by kernel_rfl
theorem body91 : bodyOf Try.prog 91 = some ⟨Try.f91.body.getD .skip, 12, #[.tmp 2, .tmp 3]⟩ := by
  unfold bodyOf
  rw [Try.func91]
  rfl
theorem bo91  : (bodyOf Try.prog 91).isSome = true := by kernel_rfl
theorem sh91  : cfg.shared 91 = false := by kernel_rfl
theorem body93 : bodyOf Try.prog 93 = some ⟨Try.f93.body.getD .skip, 25, #[.tmp 4]⟩ := by
  unfold bodyOf
  rw [Try.func93]
  rfl
theorem bo93  : (bodyOf Try.prog 93).isSome = true := by kernel_rfl
theorem sh93  : cfg.shared 93 = true := by kernel_rfl
theorem bo94  : (bodyOf Try.prog 94).isSome = true := by kernel_rfl
theorem sh94  : cfg.shared 94 = true := by kernel_rfl
theorem body95 : bodyOf Try.prog 95 = some ⟨Try.f95.body.getD .skip, 34, #[.cell 6 42]⟩ := by
  unfold bodyOf
  rw [Try.func95]
  rfl
theorem bo95  : (bodyOf Try.prog 95).isSome = true := by kernel_rfl
theorem sh95  : cfg.shared 95 = false := by kernel_rfl
theorem bo96  : (bodyOf Try.prog 96).isSome = true := by kernel_rfl
theorem sh96  : cfg.shared 96 = true := by kernel_rfl
theorem body97 : bodyOf Try.prog 97 = some ⟨Try.f97.body.getD .skip, 39, #[.tmp 6, .tmp 7]⟩ := by
  unfold bodyOf
  rw [Try.func97]
  rfl
theorem bo97  : (bodyOf Try.prog 97).isSome = true := by kernel_rfl
theorem sh97  : cfg.shared 97 = false := by kernel_rfl
theorem body98 : bodyOf Try.prog 98 = some ⟨Try.f98.body.getD .skip, 35, #[.tmp 6]⟩ := by
  unfold bodyOf
  rw [Try.func98]
  rfl
theorem bo98  : (bodyOf Try.prog 98).isSome = true := by kernel_rfl
theorem sh98  : cfg.shared 98 = false := by kernel_rfl
theorem body99 : bodyOf Try.prog 99 = some ⟨Try.f99.body.getD .skip, 21, #[.tmp 4]⟩ := by
  unfold bodyOf
  rw [Try.func99]
  rfl
theorem bo99  : (bodyOf Try.prog 99).isSome = true := by kernel_rfl
theorem sh99  : cfg.shared 99 = false := by kernel_rfl
theorem body100 : bodyOf Try.prog 100 = some ⟨Try.f100.body.getD .skip, 5, #[.tmp 2]⟩ := by
  unfold bodyOf
  rw [Try.func100]
  rfl
theorem bo100  : (bodyOf Try.prog 100).isSome = true := by kernel_rfl
theorem sh100  : cfg.shared 100 = false := by kernel_rfl
theorem body101 : bodyOf Try.prog 101 = some ⟨Try.f101.body.getD .skip, 42, #[.tmp 2]⟩ := by
  unfold bodyOf
  rw [Try.func101]
  rfl
theorem bo101  : (bodyOf Try.prog 101).isSome = true := by kernel_rfl
theorem sh101  : cfg.shared 101 = false := by kernel_rfl
theorem body112 : bodyOf Try.prog 112 = some ⟨Try.f112.body.getD .skip, 6, #[.tmp 2]⟩ := by
  unfold bodyOf
  rw [Try.func112]
  rfl
theorem bo112  : (bodyOf Try.prog 112).isSome = true := by kernel_rfl
theorem sh112  : cfg.shared 112 = false := by kernel_rfl
theorem body116 : bodyOf Try.prog 116 = some ⟨Try.f116.body.getD .skip, 25, #[.tmp 6]⟩ := by
  unfold bodyOf
  rw [Try.func116]
  rfl
theorem bo116  : (bodyOf Try.prog 116).isSome = true := by kernel_rfl
theorem sh116  : cfg.shared 116 = false := by kernel_rfl
theorem body117 : bodyOf Try.prog 117 = some ⟨Try.f117.body.getD .skip, 20, #[.tmp 4]⟩ := by
  unfold bodyOf
  rw [Try.func117]
  rfl
theorem bo117  : (bodyOf Try.prog 117).isSome = true := by kernel_rfl
theorem sh117  : cfg.shared 117 = false := by kernel_rfl
theorem body118 : bodyOf Try.prog 118 = some ⟨Try.f118.body.getD .skip, 17, #[.tmp 2, .tmp 3, .tmp 4]⟩ := by
  unfold bodyOf
  rw [Try.func118]
  rfl
theorem bo118  : (bodyOf Try.prog 118).isSome = true := by kernel_rfl
theorem sh118  : cfg.shared 118 = false := by kernel_rfl
theorem body119 : bodyOf Try.prog 119 = some ⟨Try.f119.body.getD .skip, 29, #[.tmp 4]⟩ := by
  unfold bodyOf
  rw [Try.func119]
  rfl
theorem bo119  : (bodyOf Try.prog 119).isSome = true := by kernel_rfl
theorem sh119  : cfg.shared 119 = false := by kernel_rfl
theorem body5 : bodyOf Try.prog 5 = some ⟨Try.f5.body.getD .skip, 148, #[.tmp 6]⟩ := by
  unfold bodyOf
  rw [Try.func5]
  rfl
theorem bo5  : (bodyOf Try.prog 5).isSome = true := by kernel_rfl
theorem sh5  : cfg.shared 5 = false := by kernel_rfl
theorem bo19  : (bodyOf Try.prog 19).isSome = true := by kernel_rfl
theorem sh19  : cfg.shared 19 = true := by kernel_rfl
theorem body20 : bodyOf Try.prog 20 = some ⟨Try.f20.body.getD .skip, 9, #[.tmp 2]⟩ := by
  unfold bodyOf
  rw [Try.func20]
  rfl
theorem bo20  : (bodyOf Try.prog 20).isSome = true := by kernel_rfl
theorem sh20  : cfg.shared 20 = true := by kernel_rfl
theorem body21 : bodyOf Try.prog 21 = some ⟨Try.f21.body.getD .skip, 9, #[.cell 2 52]⟩ := by
  unfold bodyOf
  rw [Try.func21]
  rfl
theorem bo21  : (bodyOf Try.prog 21).isSome = true := by kernel_rfl
theorem sh21  : cfg.shared 21 = true := by kernel_rfl
theorem body22 : bodyOf Try.prog 22 = some ⟨Try.f22.body.getD .skip, 26, #[.tmp 2]⟩ := by
  unfold bodyOf
  rw [Try.func22]
  rfl
theorem bo22  : (bodyOf Try.prog 22).isSome = true := by kernel_rfl
theorem sh22  : cfg.shared 22 = true := by kernel_rfl
theorem body23 : bodyOf Try.prog 23 = some ⟨Try.f23.body.getD .skip, 31, #[.tmp 8]⟩ := by
  unfold bodyOf
  rw [Try.func23]
  rfl
theorem bo23  : (bodyOf Try.prog 23).isSome = true := by kernel_rfl
theorem sh23  : cfg.shared 23 = true := by kernel_rfl
theorem body24 : bodyOf Try.prog 24 = some ⟨Try.f24.body.getD .skip, 16, #[.tmp 8]⟩ := by
  unfold bodyOf
  rw [Try.func24]
  rfl
theorem bo24  : (bodyOf Try.prog 24).isSome = true := by kernel_rfl
theorem sh24  : cfg.shared 24 = true := by kernel_rfl
theorem body25 : bodyOf Try.prog 25 = some ⟨Try.f25.body.getD .skip, 49, #[.tmp 8]⟩ := by
  unfold bodyOf
  rw [Try.func25]
  rfl
theorem bo25  : (bodyOf Try.prog 25).isSome = true := by kernel_rfl
theorem sh25  : cfg.shared 25 = true := by kernel_rfl
theorem body26 : bodyOf Try.prog 26 = some ⟨Try.f26.body.getD .skip, 44, #[.tmp 4]⟩ := by
  unfold bodyOf
  rw [Try.func26]
  rfl
theorem bo26  : (bodyOf Try.prog 26).isSome = true := by kernel_rfl
theorem sh26  : cfg.shared 26 = true := by kernel_rfl
theorem body27 : bodyOf Try.prog 27 = some ⟨Try.f27.body.getD .skip, 10, #[.tmp 2]⟩ := by
  unfold bodyOf
  rw [Try.func27]
  rfl
theorem bo27  : (bodyOf Try.prog 27).isSome = true := by kernel_rfl
theorem sh27  : cfg.shared 27 = false := by kernel_rfl
theorem body28 : bodyOf Try.prog 28 = some ⟨Try.f28.body.getD .skip, 40, #[.tmp 0]⟩ := by
  unfold bodyOf
  rw [Try.func28]
  rfl
theorem bo28  : (bodyOf Try.prog 28).isSome = true := by kernel_rfl
theorem sh28  : cfg.shared 28 = false := by kernel_rfl
theorem body29 : bodyOf Try.prog 29 = some ⟨Try.f29.body.getD .skip, 57, #[.tmp 6, .tmp 7]⟩ := by
  unfold bodyOf
  rw [Try.func29]
  rfl
theorem bo29  : (bodyOf Try.prog 29).isSome = true := by kernel_rfl
theorem sh29  : cfg.shared 29 = true := by kernel_rfl
theorem body30 : bodyOf Try.prog 30 = some ⟨Try.f30.body.getD .skip, 9, #[.tmp 2, .tmp 3]⟩ := by
  unfold bodyOf
  rw [Try.func30]
  rfl
theorem bo30  : (bodyOf Try.prog 30).isSome = true := by kernel_rfl
theorem sh30  : cfg.shared 30 = true := by kernel_rfl
theorem body31 : bodyOf Try.prog 31 = some ⟨Try.f31.body.getD .skip, 9, #[.tmp 2, .tmp 3]⟩ := by
  unfold bodyOf
  rw [Try.func31]
  rfl
theorem bo31  : (bodyOf Try.prog 31).isSome = true := by kernel_rfl
theorem sh31  : cfg.shared 31 = true := by kernel_rfl
theorem body32 : bodyOf Try.prog 32 = some ⟨Try.f32.body.getD .skip, 48, #[.tmp 6]⟩ := by
  unfold bodyOf
  rw [Try.func32]
  rfl
theorem bo32  : (bodyOf Try.prog 32).isSome = true := by kernel_rfl
theorem sh32  : cfg.shared 32 = true := by kernel_rfl
theorem body33 : bodyOf Try.prog 33 = some ⟨Try.f33.body.getD .skip, 8, #[.tmp 2]⟩ := by
  unfold bodyOf
  rw [Try.func33]
  rfl
theorem bo33  : (bodyOf Try.prog 33).isSome = true := by kernel_rfl
theorem sh33  : cfg.shared 33 = true := by kernel_rfl
theorem body34 : bodyOf Try.prog 34 = some ⟨Try.f34.body.getD .skip, 8, #[.tmp 2]⟩ := by
  unfold bodyOf
  rw [Try.func34]
  rfl
theorem bo34  : (bodyOf Try.prog 34).isSome = true := by kernel_rfl
theorem sh34  : cfg.shared 34 = true := by kernel_rfl
theorem body35 : bodyOf Try.prog 35 = some ⟨Try.f35.body.getD .skip, 45, #[.tmp 4]⟩ := by
  unfold bodyOf
  rw [Try.func35]
  rfl
theorem bo35  : (bodyOf Try.prog 35).isSome = true := by kernel_rfl
theorem sh35  : cfg.shared 35 = true := by kernel_rfl
theorem body36 : bodyOf Try.prog 36 = some ⟨Try.f36.body.getD .skip, 9, #[.tmp 2]⟩ := by
  unfold bodyOf
  rw [Try.func36]
  rfl
theorem bo36  : (bodyOf Try.prog 36).isSome = true := by kernel_rfl
theorem sh36  : cfg.shared 36 = true := by kernel_rfl
theorem body37 : bodyOf Try.prog 37 = some ⟨Try.f37.body.getD .skip, 9, #[.tmp 2]⟩ := by
  unfold bodyOf
  rw [Try.func37]
  rfl
theorem bo37  : (bodyOf Try.prog 37).isSome = true := by kernel_rfl
theorem sh37  : cfg.shared 37 = true := by kernel_rfl
theorem body38 : bodyOf Try.prog 38 = some ⟨Try.f38.body.getD .skip, 12, #[.tmp 2]⟩ := by
  unfold bodyOf
  rw [Try.func38]
  rfl
theorem bo38  : (bodyOf Try.prog 38).isSome = true := by kernel_rfl
theorem sh38  : cfg.shared 38 = true := by kernel_rfl
theorem body40 : bodyOf Try.prog 40 = some ⟨Try.f40.body.getD .skip, 22, #[.tmp 2, .tmp 3]⟩ := by
  unfold bodyOf
  rw [Try.func40]
  rfl
theorem bo40  : (bodyOf Try.prog 40).isSome = true := by kernel_rfl
theorem sh40  : cfg.shared 40 = true := by kernel_rfl
theorem body42 : bodyOf Try.prog 42 = some ⟨Try.f42.body.getD .skip, 30, #[.cell 4 61]⟩ := by
  unfold bodyOf
  rw [Try.func42]
  rfl
theorem bo42  : (bodyOf Try.prog 42).isSome = true := by kernel_rfl
theorem sh42  : cfg.shared 42 = true := by kernel_rfl
theorem body46 : bodyOf Try.prog 46 = some ⟨Try.f46.body.getD .skip, 21, #[.tmp 2]⟩ := by
  unfold bodyOf
  rw [Try.func46]
  rfl
theorem bo46  : (bodyOf Try.prog 46).isSome = true := by kernel_rfl
theorem sh46  : cfg.shared 46 = true := by kernel_rfl
theorem body47 : bodyOf Try.prog 47 = some ⟨Try.f47.body.getD .skip, 14, #[.cell 4 42]⟩ := by
  unfold bodyOf
  rw [Try.func47]
  rfl
theorem bo47  : (bodyOf Try.prog 47).isSome = true := by kernel_rfl
theorem sh47  : cfg.shared 47 = true := by kernel_rfl
theorem body63 : bodyOf Try.prog 63 = some ⟨Try.f63.body.getD .skip, 20, #[.tmp 2]⟩ := by
  unfold bodyOf
  rw [Try.func63]
  rfl
theorem bo63  : (bodyOf Try.prog 63).isSome = true := by kernel_rfl
theorem sh63  : cfg.shared 63 = true := by kernel_rfl
theorem body64 : bodyOf Try.prog 64 = some ⟨Try.f64.body.getD .skip, 35, #[.tmp 4]⟩ := by
  unfold bodyOf
  rw [Try.func64]
  rfl
theorem bo64  : (bodyOf Try.prog 64).isSome = true := by kernel_rfl
theorem sh64  : cfg.shared 64 = true := by kernel_rfl
theorem body65 : bodyOf Try.prog 65 = some ⟨Try.f65.body.getD .skip, 8, #[.cell 4 52]⟩ := by
  unfold bodyOf
  rw [Try.func65]
  rfl
theorem bo65  : (bodyOf Try.prog 65).isSome = true := by kernel_rfl
theorem sh65  : cfg.shared 65 = true := by kernel_rfl
theorem body66 : bodyOf Try.prog 66 = some ⟨Try.f66.body.getD .skip, 42, #[.cell 4 42, .tmp 5]⟩ := by
  unfold bodyOf
  rw [Try.func66]
  rfl
theorem bo66  : (bodyOf Try.prog 66).isSome = true := by kernel_rfl
theorem sh66  : cfg.shared 66 = true := by kernel_rfl
theorem body68 : bodyOf Try.prog 68 = some ⟨Try.f68.body.getD .skip, 67, #[.tmp 8, .tmp 9]⟩ := by
  unfold bodyOf
  rw [Try.func68]
  rfl
theorem bo68  : (bodyOf Try.prog 68).isSome = true := by kernel_rfl
theorem sh68  : cfg.shared 68 = true := by kernel_rfl
theorem body72 : bodyOf Try.prog 72 = some ⟨Try.f72.body.getD .skip, 10, #[.tmp 2]⟩ := by
  unfold bodyOf
  rw [Try.func72]
  rfl
theorem bo72  : (bodyOf Try.prog 72).isSome = true := by kernel_rfl
theorem sh72  : cfg.shared 72 = true := by kernel_rfl
theorem body73 : bodyOf Try.prog 73 = some ⟨Try.f73.body.getD .skip, 26, #[.tmp 8]⟩ := by
  unfold bodyOf
  rw [Try.func73]
  rfl
theorem bo73  : (bodyOf Try.prog 73).isSome = true := by kernel_rfl
theorem sh73  : cfg.shared 73 = true := by kernel_rfl
theorem body74 : bodyOf Try.prog 74 = some ⟨Try.f74.body.getD .skip, 11, #[.tmp 2, .tmp 3]⟩ := by
  unfold bodyOf
  rw [Try.func74]
  rfl
theorem bo74  : (bodyOf Try.prog 74).isSome = true := by kernel_rfl
theorem sh74  : cfg.shared 74 = true := by kernel_rfl
theorem bo75  : (bodyOf Try.prog 75).isSome = true := by kernel_rfl
theorem sh75  : cfg.shared 75 = true := by kernel_rfl
theorem bo76  : (bodyOf Try.prog 76).isSome = true := by kernel_rfl
theorem sh76  : cfg.shared 76 = true := by kernel_rfl
theorem body78 : bodyOf Try.prog 78 = some ⟨Try.f78.body.getD .skip, 27, #[.tmp 4]⟩ := by
  unfold bodyOf
  rw [Try.func78]
  rfl
theorem bo78  : (bodyOf Try.prog 78).isSome = true := by kernel_rfl
theorem sh78  : cfg.shared 78 = true := by kernel_rfl
theorem body79 : bodyOf Try.prog 79 = some ⟨Try.f79.body.getD .skip, 6, #[.tmp 3]⟩ := by
  unfold bodyOf
  rw [Try.func79]
  rfl
theorem bo79  : (bodyOf Try.prog 79).isSome = true := by kernel_rfl
theorem sh79  : cfg.shared 79 = true := by kernel_rfl
theorem body80 : bodyOf Try.prog 80 = some ⟨Try.f80.body.getD .skip, 6, #[.tmp 3]⟩ := by
  unfold bodyOf
  rw [Try.func80]
  rfl
theorem bo80  : (bodyOf Try.prog 80).isSome = true := by kernel_rfl
theorem sh80  : cfg.shared 80 = true := by kernel_rfl
theorem body83 : bodyOf Try.prog 83 = some ⟨Try.f83.body.getD .skip, 60, #[.tmp 4]⟩ := by
  unfold bodyOf
  rw [Try.func83]
  rfl
theorem bo83  : (bodyOf Try.prog 83).isSome = true := by kernel_rfl
theorem sh83  : cfg.shared 83 = true := by kernel_rfl
theorem body85 : bodyOf Try.prog 85 = some ⟨Try.f85.body.getD .skip, 19, #[.tmp 4]⟩ := by
  unfold bodyOf
  rw [Try.func85]
  rfl
theorem bo85  : (bodyOf Try.prog 85).isSome = true := by kernel_rfl
theorem sh85  : cfg.shared 85 = true := by kernel_rfl
theorem body92 : bodyOf Try.prog 92 = some ⟨Try.f92.body.getD .skip, 27, #[.cell 4 42]⟩ := by
  unfold bodyOf
  rw [Try.func92]
  rfl
theorem bo92  : (bodyOf Try.prog 92).isSome = true := by kernel_rfl
theorem sh92  : cfg.shared 92 = false := by kernel_rfl
theorem body102 : bodyOf Try.prog 102 = some ⟨Try.f102.body.getD .skip, 19, #[.cell 3 42]⟩ := by
  unfold bodyOf
  rw [Try.func102]
  rfl
theorem bo102  : (bodyOf Try.prog 102).isSome = true := by kernel_rfl
theorem sh102  : cfg.shared 102 = true := by kernel_rfl
theorem body103 : bodyOf Try.prog 103 = some ⟨Try.f103.body.getD .skip, 39, #[.tmp 4]⟩ := by
  unfold bodyOf
  rw [Try.func103]
  rfl
theorem bo103  : (bodyOf Try.prog 103).isSome = true := by kernel_rfl
theorem sh103  : cfg.shared 103 = true := by kernel_rfl
theorem body104 : bodyOf Try.prog 104 = some ⟨Try.f104.body.getD .skip, 25, #[.tmp 2]⟩ := by
  unfold bodyOf
  rw [Try.func104]
  rfl
theorem bo104  : (bodyOf Try.prog 104).isSome = true := by kernel_rfl
theorem sh104  : cfg.shared 104 = false := by kernel_rfl
theorem body105 : bodyOf Try.prog 105 = some ⟨Try.f105.body.getD .skip, 72, #[.tmp 4, .tmp 5]⟩ := by
  unfold bodyOf
  rw [Try.func105]
  rfl
theorem bo105  : (bodyOf Try.prog 105).isSome = true := by kernel_rfl
theorem sh105  : cfg.shared 105 = true := by kernel_rfl
theorem body110 : bodyOf Try.prog 110 = some ⟨Try.f110.body.getD .skip, 6, #[.tmp 4]⟩ := by
  unfold bodyOf
  rw [Try.func110]
  rfl
theorem bo110  : (bodyOf Try.prog 110).isSome = true := by kernel_rfl
theorem sh110  : cfg.shared 110 = true := by kernel_rfl
set_option linter.defProp false
/-- The facts. -/
def ty :=
  And.intro @ff3 <|
  And.intro @ld3 <|
  And.intro @ff29 <|
  And.intro @ld29 <|
  And.intro @ff5 <|
  And.intro @ld5 <|
  And.intro @ff9 <|
  And.intro @ld9 <|
  And.intro @ff4 <|
  And.intro @ld4 <|
  And.intro @ff22 <|
  And.intro @ld22 <|
  And.intro @ff40 <|
  And.intro @ld40 <|
  And.intro @ff46 <|
  And.intro @ld46 <|
  And.intro @ff153 <|
  And.intro @ld153 <|
  And.intro @zz24 <|
  And.intro @zzf24 <|
  And.intro @ff24 <|
  And.intro @ffa24 <|
  And.intro @lr24 <|
  And.intro @lra24 <|
  And.intro @sr24 <|
  And.intro @srb24 <|
  And.intro @src24 <|
  And.intro @srd24 <|
  And.intro @ld24 <|
  And.intro @fa24_0 <|
  And.intro @fd24_0 <|
  And.intro @lr24_0 <|
  And.intro @lra24_0 <|
  And.intro @sr24_0 <|
  And.intro @sra24_0 <|
  And.intro @sri24_0 <|
  And.intro @sria24_0 <|
  And.intro @fr24_0 <|
  And.intro @fa24_1 <|
  And.intro @fd24_1 <|
  And.intro @lr24_1 <|
  And.intro @lra24_1 <|
  And.intro @sr24_1 <|
  And.intro @sra24_1 <|
  And.intro @sri24_1 <|
  And.intro @sria24_1 <|
  And.intro @fr24_1 <|
  And.intro @fa24_2 <|
  And.intro @fd24_2 <|
  And.intro @lr24_2 <|
  And.intro @lra24_2 <|
  And.intro @sr24_2 <|
  And.intro @sra24_2 <|
  And.intro @fr24_2 <|
  And.intro @ix40 <|
  And.intro @len40 <|
  And.intro @lents40 <|
  And.intro @lenrs40 <|
  And.intro @bs40 <|
  And.intro @ix46 <|
  And.intro @len46 <|
  And.intro @lents46 <|
  And.intro @lenrs46 <|
  And.intro @bs46 <|
  And.intro @ix153 <|
  And.intro @len153 <|
  And.intro @lents153 <|
  And.intro @lenrs153 <|
  And.intro @bs153 <|
  And.intro @ixstr <|
  And.intro @lenstr <|
  And.intro @bo3 <|
  And.intro @sh3 <|
  And.intro @bo7 <|
  And.intro @sh7 <|
  And.intro @bo8 <|
  And.intro @sh8 <|
  And.intro @bo9 <|
  And.intro @sh9 <|
  And.intro @bo10 <|
  And.intro @sh10 <|
  And.intro @bo11 <|
  And.intro @sh11 <|
  And.intro @bo12 <|
  And.intro @sh12 <|
  And.intro @bo13 <|
  And.intro @sh13 <|
  And.intro @bo14 <|
  And.intro @sh14 <|
  And.intro @bo15 <|
  And.intro @sh15 <|
  And.intro @bo16 <|
  And.intro @sh16 <|
  And.intro @bo17 <|
  And.intro @sh17 <|
  And.intro @bo18 <|
  And.intro @sh18 <|
  And.intro @bo48 <|
  And.intro @sh48 <|
  And.intro @bo49 <|
  And.intro @sh49 <|
  And.intro @bo50 <|
  And.intro @sh50 <|
  And.intro @bo51 <|
  And.intro @sh51 <|
  And.intro @bo52 <|
  And.intro @sh52 <|
  And.intro @bo53 <|
  And.intro @sh53 <|
  And.intro @bo54 <|
  And.intro @sh54 <|
  And.intro @bo55 <|
  And.intro @sh55 <|
  And.intro @bo56 <|
  And.intro @sh56 <|
  And.intro @bo57 <|
  And.intro @sh57 <|
  And.intro @bo58 <|
  And.intro @sh58 <|
  And.intro @bo59 <|
  And.intro @sh59 <|
  And.intro @bo60 <|
  And.intro @sh60 <|
  And.intro @bo61 <|
  And.intro @sh61 <|
  And.intro @bo62 <|
  And.intro @sh62 <|
  And.intro @bo67 <|
  And.intro @sh67 <|
  And.intro @bo69 <|
  And.intro @sh69 <|
  And.intro @bo86 <|
  And.intro @sh86 <|
  And.intro @bo87 <|
  And.intro @sh87 <|
  And.intro @bo88 <|
  And.intro @sh88 <|
  And.intro @bo89 <|
  And.intro @sh89 <|
  And.intro @bo90 <|
  And.intro @sh90 <|
  And.intro @bo91 <|
  And.intro @sh91 <|
  And.intro @bo93 <|
  And.intro @sh93 <|
  And.intro @bo94 <|
  And.intro @sh94 <|
  And.intro @bo95 <|
  And.intro @sh95 <|
  And.intro @bo96 <|
  And.intro @sh96 <|
  And.intro @bo97 <|
  And.intro @sh97 <|
  And.intro @bo98 <|
  And.intro @sh98 <|
  And.intro @bo99 <|
  And.intro @sh99 <|
  And.intro @bo100 <|
  And.intro @sh100 <|
  And.intro @bo101 <|
  And.intro @sh101 <|
  And.intro @bo112 <|
  And.intro @sh112 <|
  And.intro @bo116 <|
  And.intro @sh116 <|
  And.intro @bo117 <|
  And.intro @sh117 <|
  And.intro @bo118 <|
  And.intro @sh118 <|
  And.intro @bo119 <|
  And.intro @sh119 <|
  And.intro @bo5 <|
  And.intro @sh5 <|
  And.intro @bo19 <|
  And.intro @sh19 <|
  And.intro @bo20 <|
  And.intro @sh20 <|
  And.intro @bo21 <|
  And.intro @sh21 <|
  And.intro @bo22 <|
  And.intro @sh22 <|
  And.intro @bo23 <|
  And.intro @sh23 <|
  And.intro @bo24 <|
  And.intro @sh24 <|
  And.intro @bo25 <|
  And.intro @sh25 <|
  And.intro @bo26 <|
  And.intro @sh26 <|
  And.intro @bo27 <|
  And.intro @sh27 <|
  And.intro @bo28 <|
  And.intro @sh28 <|
  And.intro @bo29 <|
  And.intro @sh29 <|
  And.intro @bo30 <|
  And.intro @sh30 <|
  And.intro @bo31 <|
  And.intro @sh31 <|
  And.intro @bo32 <|
  And.intro @sh32 <|
  And.intro @bo33 <|
  And.intro @sh33 <|
  And.intro @bo34 <|
  And.intro @sh34 <|
  And.intro @bo35 <|
  And.intro @sh35 <|
  And.intro @bo36 <|
  And.intro @sh36 <|
  And.intro @bo37 <|
  And.intro @sh37 <|
  And.intro @bo38 <|
  And.intro @sh38 <|
  And.intro @bo40 <|
  And.intro @sh40 <|
  And.intro @bo42 <|
  And.intro @sh42 <|
  And.intro @bo46 <|
  And.intro @sh46 <|
  And.intro @bo47 <|
  And.intro @sh47 <|
  And.intro @bo63 <|
  And.intro @sh63 <|
  And.intro @bo64 <|
  And.intro @sh64 <|
  And.intro @bo65 <|
  And.intro @sh65 <|
  And.intro @bo66 <|
  And.intro @sh66 <|
  And.intro @bo68 <|
  And.intro @sh68 <|
  And.intro @bo72 <|
  And.intro @sh72 <|
  And.intro @bo73 <|
  And.intro @sh73 <|
  And.intro @bo74 <|
  And.intro @sh74 <|
  And.intro @bo75 <|
  And.intro @sh75 <|
  And.intro @bo76 <|
  And.intro @sh76 <|
  And.intro @bo78 <|
  And.intro @sh78 <|
  And.intro @bo79 <|
  And.intro @sh79 <|
  And.intro @bo80 <|
  And.intro @sh80 <|
  And.intro @bo83 <|
  And.intro @sh83 <|
  And.intro @bo85 <|
  And.intro @sh85 <|
  And.intro @bo92 <|
  And.intro @sh92 <|
  And.intro @bo102 <|
  And.intro @sh102 <|
  And.intro @bo103 <|
  And.intro @sh103 <|
  And.intro @bo104 <|
  And.intro @sh104 <|
  And.intro @bo105 <|
  And.intro @sh105 <|
  And.intro @bo110 @sh110
end Go.Proofs.Ytobgdmgldagjkaa
end
/-! Blocks in this program: what is read and laid; super.Check, num.there, num.With. -/
section
set_option linter.unusedVariables false
set_option linter.unusedSimpArgs false
set_option maxRecDepth 100000
set_option maxHeartbeats 4000000
namespace Go.Proofs.Ytobgdmgldagjkaa
open Go.Vm
theorem dec_True {i : Decidable True} : @decide True i = true := decide_eq_true trivial
theorem dne {α : Type} {a : α} {i : Decidable (a ≠ a)} : @decide (a ≠ a) i = false := decide_eq_false (fun h => h rfl)
theorem deq {α : Type} {a : α} {i : Decidable (a = a)} : @decide (a = a) i = true := decide_eq_true rfl
abbrev InB (n : Int) : Prop := -9223372036854775808 ≤ n ∧ n ≤ 9223372036854775807
theorem nl0 : ((0 : Nat) : Int) = 0 := rfl
theorem nl1 : ((1 : Nat) : Int) = 1 := rfl
theorem nl2 : ((2 : Nat) : Int) = 2 := rfl
theorem nl4 : ((4 : Nat) : Int) = 4 := rfl
theorem nl8 : ((8 : Nat) : Int) = 8 := rfl
theorem nl10 : ((10 : Nat) : Int) = 10 := rfl
theorem nl12 : ((12 : Nat) : Int) = 12 := rfl
theorem nl16 : ((16 : Nat) : Int) = 16 := rfl
theorem nl20 : ((20 : Nat) : Int) = 20 := rfl
theorem nl255 : ((255 : Nat) : Int) = 255 := rfl
theorem nl256 : ((256 : Nat) : Int) = 256 := rfl
theorem nl2048 : ((2048 : Nat) : Int) = 2048 := rfl
theorem bt42 : BT Try.prog 42 5 256 := ⟨Try.underlying42, by kernel_rfl, by kernel_rfl, by kernel_rfl, by kernel_rfl, by decide⟩
theorem z42 : zeroV Try.prog 42 = some (blkV (zeros 256)) := by kernel_rfl
theorem zf42 : fitsT Try.prog 42 (blkV (zeros 256)) = true := by kernel_rfl
section
variable {b b' : List UInt8}
theorem fd42 (h : b.length = 256) : fitsT Try.prog 42 (.d (blkD b)) = true := bt42.fits isB_d h
theorem fv42 (h : b.length = 256) : fitsT Try.prog 42 (blkV b) = true := bt42.fits isB_v h
theorem ldd42 (h : b.length = 256) : loadR Try.prog 42 0 (some (.d (blkD b))) = some (.d (blkD b)) := bt42.load isB_d h
theorem ldv42 (h : b.length = 256) : loadR Try.prog 42 0 (some (blkV b)) = some (blkV b) := bt42.load isB_v h
theorem sdd42 (h : b.length = 256) (h' : b'.length = 256) : storeR Try.prog 42 0 (.d (blkD b)) (.d (blkD b')) = some (.d (blkD b)) := bt42.store isB_d h isB_d h'
theorem sdv42 (h : b.length = 256) (h' : b'.length = 256) : storeR Try.prog 42 0 (.d (blkD b)) (blkV b') = some (.d (blkD b)) := bt42.store isB_d h isB_v h'
theorem svd42 (h : b.length = 256) (h' : b'.length = 256) : storeR Try.prog 42 0 (blkV b) (.d (blkD b')) = some (blkV b) := bt42.store isB_v h isB_d h'
theorem svv42 (h : b.length = 256) (h' : b'.length = 256) : storeR Try.prog 42 0 (blkV b) (blkV b') = some (blkV b) := bt42.store isB_v h isB_v h'
theorem ia42 {S : Store} {j x : Nat} {i : Nat} (hi : i < 256) : indexAddrV Try.prog S 42 (.ref j x 0) (.d (.int .i64 (i : Int))) = some (.ref j x i) := by rw [bt42.ia hi, Nat.zero_add]
theorem one_v : (blkV b).one = true := rfl
theorem frz_v {S : Store} : Go.Vm.frz S frzFuel (blkV b) = some (blkD b) := isB_v.frz (n := 10)
end
theorem z256 : (zeros 256).length = 256 := rfl
theorem u8_mod {n : Int} : IntKind.u8.wrap n = n % 256 := rfl
theorem cv35 {S : Store} {n : Nat} : convertV Try.prog S 3 5 (.d (.int .i64 (n : Int))) = some (.d (.int .u8 ((UInt8.ofNat (n % 256)).toNat : Int)), 0) := by
  have h1 : Try.prog.underlying 3 = some (.int .i64) := by kernel_rfl
  have h2 : Try.prog.underlying 5 = some (.int .u8) := by kernel_rfl
  have e : ((UInt8.ofNat (n % 256)).toNat : Int) = (n : Int) % 256 := by rw [UInt8.toNat_ofNat']; omega
  simp only [convertV, h1, h2]
  rw [u8_mod, e]
theorem cvu {S : Store} {i : Nat} (h : i < 100) : convertV Try.prog S 3 170 (.d (.int .i64 (i : Int))) = some (.d (.int .u64 (i : Int)), 0) := by
  have h1 : Try.prog.underlying 3 = some (.int .i64) := by kernel_rfl
  have h2 : Try.prog.underlying 170 = some (.int .u64) := by kernel_rfl
  have e : IntKind.u64.wrap (i : Int) = (i : Int) := by
    have : IntKind.u64.wrap (i : Int) = (i : Int) % 18446744073709551616 := rfl
    rw [this]; omega
  simp only [convertV, h1, h2]
  rw [e]
theorem shr_at {K K' : IntKind} {t : TypeId} {v i : Nat} (hK : K.bits = 64) (h : i < 8) : binV Try.prog .shr t (.d (.int K (v : Int))) (.d (.int K' ((8 * i : Nat) : Int))) = some (.d (.int K ((v / 256 ^ i : Nat) : Int))) := by
  have key : ∀ k : Nat, k ≤ 64 → ((v : Int).fdiv (2 ^ (min ((k : Int)).toNat K.bits))) = ((v / 2 ^ k : Nat) : Int) := fun k hk => by
    have e : min ((k : Int)).toNat K.bits = k := by rw [hK]; omega
    rw [e, Int.fdiv_eq_ediv_of_nonneg _ (by exact_mod_cast Nat.zero_le (2 ^ k)), Int.natCast_ediv]
    norm_cast
  simp only [binV, intBin]
  rw [if_neg (by omega), key _ (by omega)]
  have e3 : 2 ^ (8 * i) = 256 ^ i := by rw [Nat.pow_mul]
  rw [e3]
  rfl
/-- A layout that may be. -/
def MayL (l : Lay) : Prop := 16 ≤ l.blocks ∧ l.blocks ≤ 512 ∧ 8 ≤ l.inodes ∧ l.inodes ≤ 128 ∧ l.inodes.tmod 8 = 0 ∧ 2 + l.inodes.tdiv 8 < l.blocks
instance (l : Lay) : Decidable (MayL l) := by unfold MayL; exact inferInstance
theorem bv_rem {P : Program} {t : TypeId} {a b c : Int} (hb : ¬ b = 0) (h : a.tmod b = c) : binV P .rem t (.d (.int .i64 a)) (.d (.int .i64 b)) = some (.d (.int .i64 c)) := by
  simp only [binV, intBin, hb, if_true, if_false, Option.map_some, h]
theorem rem8 {a : Int} : binV Try.prog .rem 3 (.d (.int .i64 a)) (.d (.int .i64 8)) = some (.d (.int .i64 (a.tmod 8))) := bv_rem (by decide) rfl
theorem quo8 {a : Int} (h : InB a) : binV Try.prog .quo 3 (.d (.int .i64 a)) (.d (.int .i64 8)) = some (.d (.int .i64 (a.tdiv 8))) := by
  have hb : ¬ (8 : Int) = 0 := by decide
  have h2 : IntKind.i64.wrap (a.tdiv 8) = a.tdiv 8 := wrap64 (by
    rcases Int.le_total 0 a with h0 | h0
    · rw [Int.tdiv_eq_ediv_of_nonneg h0]; omega
    · have e : a.tdiv 8 = -((-a).tdiv 8) := by rw [Int.neg_tdiv, Int.neg_neg]
      rw [e, Int.tdiv_eq_ediv_of_nonneg (by omega)]; omega)
  simp only [binV, intBin, hb, if_false, Option.map_some, h2]
  rfl
theorem check_ok (l : Lay) (hb : InB l.blocks) (hi : InB l.inodes) : Ev cfg 67 [encLay l] (.ret (.d (.int .i64 (if MayL l then 0 else 1)))) := by
  refine ev_of rfl rfl body67 ?_
  show Wp cfg (Try.f67.body.getD .skip) ((.d (encLay l)) :: (.tup []) :: (.tup []) :: (.tup []) :: (.tup []) :: (.tup []) :: (.tup []) :: (.tup []) :: (.tup []) :: (.tup []) :: (.tup []) :: (.tup []) :: (.tup []) :: (.tup []) :: (.tup []) :: (.tup []) :: (.tup []) :: (.tup []) :: (.tup []) :: (.tup []) :: (.tup []) :: (.tup []) :: (.tup []) :: (.tup []) :: (.tup []) :: (.tup []) :: (.tup []) :: (.tup []) :: (.tup []) :: []) [] [] _
  conv => arg 2; whnf
  generalize hp : (if MayL l then (0 : Int) else 1) = p
  have hq := quo8 hi
  have hr := rem8 (a := l.inodes)
  by_cases c1 : l.blocks < 16
  · rw [if_neg (fun h => by have := h.1; omega)] at hp; subst hp
    simp (maxSteps := 1000000) (disch := first | assumption | omega | rfl) only [↓vmp, vme, vmb, ty, hP, dec_t, dec_f, wrap64, List.length_map, Int.toNat_natCast, Nat.reduceAdd, List.cons_append, List.nil_append, Option.map_some, Option.map_none, strOf_mk, sb_eql, sb_neq, vmg, ↓vgd, ↓vst, ↓vix]
    exact retQ_one rfl rfl rfl
  by_cases c2 : l.blocks > 512
  · rw [if_neg (fun h => by have := h.2.1; omega)] at hp; subst hp
    simp (maxSteps := 1000000) (disch := first | assumption | omega | rfl) only [↓vmp, vme, vmb, ty, hP, dec_t, dec_f, wrap64, List.length_map, Int.toNat_natCast, Nat.reduceAdd, List.cons_append, List.nil_append, Option.map_some, Option.map_none, strOf_mk, sb_eql, sb_neq, vmg, ↓vgd, ↓vst, ↓vix]
    exact retQ_one rfl rfl rfl
  by_cases c3 : l.inodes < 8
  · rw [if_neg (fun h => by have := h.2.2.1; omega)] at hp; subst hp
    simp (maxSteps := 1000000) (disch := first | assumption | omega | rfl) only [↓vmp, vme, vmb, ty, hP, dec_t, dec_f, wrap64, List.length_map, Int.toNat_natCast, Nat.reduceAdd, List.cons_append, List.nil_append, Option.map_some, Option.map_none, strOf_mk, sb_eql, sb_neq, vmg, ↓vgd, ↓vst, ↓vix]
    exact retQ_one rfl rfl rfl
  by_cases c4 : l.inodes > 128
  · rw [if_neg (fun h => by have := h.2.2.2.1; omega)] at hp; subst hp
    simp (maxSteps := 1000000) (disch := first | assumption | omega | rfl) only [↓vmp, vme, vmb, ty, hP, dec_t, dec_f, wrap64, List.length_map, Int.toNat_natCast, Nat.reduceAdd, List.cons_append, List.nil_append, Option.map_some, Option.map_none, strOf_mk, sb_eql, sb_neq, vmg, ↓vgd, ↓vst, ↓vix]
    exact retQ_one rfl rfl rfl
  by_cases c5 : l.inodes.tmod 8 = 0
  case neg =>
    rw [if_neg (fun h => c5 h.2.2.2.2.1)] at hp; subst hp
    simp (maxSteps := 1000000) (disch := first | assumption | omega | rfl) only [↓vmp, vme, vmb, ty, hP, dec_t, dec_f, wrap64, List.length_map, Int.toNat_natCast, Nat.reduceAdd, List.cons_append, List.nil_append, Option.map_some, Option.map_none, strOf_mk, sb_eql, sb_neq, vmg, ↓vgd, ↓vst, ↓vix, hr]
    exact retQ_one rfl rfl rfl
  have hd : 0 ≤ l.inodes.tdiv 8 ∧ l.inodes.tdiv 8 ≤ 16 := by
    rw [Int.tdiv_eq_ediv_of_nonneg (by omega)]; omega
  have hw : IntKind.i64.wrap (2 + l.inodes.tdiv 8) = 2 + l.inodes.tdiv 8 := wrap64 (by omega)
  by_cases c6 : 2 + l.inodes.tdiv 8 ≥ l.blocks
  · rw [if_neg (fun h => by have := h.2.2.2.2.2; omega)] at hp; subst hp
    simp (maxSteps := 1000000) (disch := first | assumption | omega | rfl) only [↓vmp, vme, vmb, ty, hP, dec_t, dec_f, wrap64, List.length_map, Int.toNat_natCast, Nat.reduceAdd, List.cons_append, List.nil_append, Option.map_some, Option.map_none, strOf_mk, sb_eql, sb_neq, vmg, ↓vgd, ↓vst, ↓vix, hr, hq, hw, c5, dne]
    exact retQ_one rfl rfl rfl
  · rw [if_pos ⟨by omega, by omega, by omega, by omega, c5, by omega⟩] at hp; subst hp
    simp (maxSteps := 1000000) (disch := first | assumption | omega | rfl) only [↓vmp, vme, vmb, ty, hP, dec_t, dec_f, wrap64, List.length_map, Int.toNat_natCast, Nat.reduceAdd, List.cons_append, List.nil_append, Option.map_some, Option.map_none, strOf_mk, sb_eql, sb_neq, vmg, ↓vgd, ↓vst, ↓vix, hr, hq, hw, c5, dne]
    exact retQ_one rfl rfl rfl
theorem there_ok (a w n : Nat) (ha : a ≤ 1000000) (hw : w ≤ 1000000) (hn : n ≤ 1000000) : Ev cfg 116 [.int .i64 (a : Int), .int .i64 (w : Int), .int .i64 (n : Int)] (.ret (.d (.bool (decide (1 ≤ w ∧ a + w ≤ n))))) := by
  refine ev_of rfl rfl body116 ?_
  show Wp cfg (Try.f116.body.getD .skip) ((.d (.int .i64 (a : Int))) :: (.d (.int .i64 (w : Int))) :: (.d (.int .i64 (n : Int))) :: (.tup []) :: (.tup []) :: (.tup []) :: (.tup []) :: (.tup []) :: (.tup []) :: (.tup []) :: (.tup []) :: (.tup []) :: (.tup []) :: (.tup []) :: (.tup []) :: (.tup []) :: (.tup []) :: (.tup []) :: (.tup []) :: (.tup []) :: (.tup []) :: (.tup []) :: (.tup []) :: (.tup []) :: (.tup []) :: []) [] [] _
  conv => arg 2; whnf
  generalize hp : decide (1 ≤ w ∧ a + w ≤ n) = p
  have h0 : (a : Int) ≥ 0 := by omega
  have hwr : IntKind.i64.wrap ((n : Int) - (w : Int)) = (n : Int) - (w : Int) := wrap64 (by omega)
  by_cases c1 : (w : Int) ≥ 1
  case neg =>
    rw [decide_eq_false (by omega)] at hp; subst hp
    simp (maxSteps := 1000000) (disch := first | assumption | omega | rfl) only [↓vmp, vme, vmb, ty, hP, dec_t, dec_f, wrap64, List.length_map, Int.toNat_natCast, Nat.reduceAdd, List.cons_append, List.nil_append, Option.map_some, Option.map_none, strOf_mk, sb_eql, sb_neq, vmg, ↓vgd, ↓vst, ↓vix]
    exact retQ_one rfl rfl rfl
  by_cases c2 : (w : Int) ≤ (n : Int)
  case neg =>
    rw [decide_eq_false (by omega)] at hp; subst hp
    simp (maxSteps := 1000000) (disch := first | assumption | omega | rfl) only [↓vmp, vme, vmb, ty, hP, dec_t, dec_f, wrap64, List.length_map, Int.toNat_natCast, Nat.reduceAdd, List.cons_append, List.nil_append, Option.map_some, Option.map_none, strOf_mk, sb_eql, sb_neq, vmg, ↓vgd, ↓vst, ↓vix]
    exact retQ_one rfl rfl rfl
  by_cases c3 : (a : Int) ≤ (n : Int) - (w : Int)
  · rw [decide_eq_true (by omega)] at hp; subst hp
    simp (maxSteps := 1000000) (disch := first | assumption | omega | rfl) only [↓vmp, vme, vmb, ty, hP, dec_t, dec_f, wrap64, List.length_map, Int.toNat_natCast, Nat.reduceAdd, List.cons_append, List.nil_append, Option.map_some, Option.map_none, strOf_mk, sb_eql, sb_neq, vmg, ↓vgd, ↓vst, ↓vix, hwr]
    exact retQ_one rfl rfl rfl
  · rw [decide_eq_false (by omega)] at hp; subst hp
    simp (maxSteps := 1000000) (disch := first | assumption | omega | rfl) only [↓vmp, vme, vmb, ty, hP, dec_t, dec_f, wrap64, List.length_map, Int.toNat_natCast, Nat.reduceAdd, List.cons_append, List.nil_append, Option.map_some, Option.map_none, strOf_mk, sb_eql, sb_neq, vmg, ↓vgd, ↓vst, ↓vix, hwr]
    exact retQ_one rfl rfl rfl
end Go.Proofs.Ytobgdmgldagjkaa
end
/-! num.With, num.Lay, num.Of: numbers and bytes laid into a block. -/
section
set_option linter.unusedVariables false
set_option linter.unusedSimpArgs false
set_option maxRecDepth 100000
set_option maxHeartbeats 4000000
namespace Go.Proofs.Ytobgdmgldagjkaa
open Go.Vm
section
variable {ops : Array Oper} {dst : Option Tmp} {k : List Oper} {T : List V} {S : Store} {F : Dfs} {Q : Post}
theorem call_there {a w n : Nat} (ha : a ≤ 1000000) (hw : w ≤ 1000000) (hn : n ≤ 1000000) : WpR cfg ops dst k T S F Q (some (.enter 116 [.d (.int .i64 (a : Int)), .d (.int .i64 (w : Int)), .d (.int .i64 (n : Int))])) = WpL cfg ops k (putT T dst (.d (.bool (decide (1 ≤ w ∧ a + w ≤ n))))) S F Q :=
  wr_call_d (ds := [.int .i64 (a : Int), .int .i64 (w : Int), .int .i64 (n : Int)]) rfl (there_ok a w n ha hw hn)
end
theorem with_l (b : List UInt8) (hb : b.length = 256) (k0 w v : Nat) (hk0 : k0 + w ≤ 256) (hw4 : w ≤ 4) (z : V) (R : Post) : ∀ (k i : Nat) (u : V) (g0 g5 g6 g7 g9 g10 g11 g12 g13 g14 g15 g16 g17 g18 g21 g22 g23 g24 g25 g26 g27 g28 g29 g30 g31 g32 g33 g34 : V), w - i = k → i ≤ w → IsB u (layB b k0 (leB i v)) →
   (∀ u i' g0 g5 g6 g7 g9 g10 g11 g12 g13 g14 g15 g16 g17 g18 g21 g22 g23 g24 g25 g26 g27 g28 g29 g30 g31 g32 g33 g34, IsB u (layB b k0 (leB w v)) → R (.exit 0) (g0 :: (.d (.int .i64 (k0 : Int))) :: (.d (.int .i64 (w : Int))) :: (.d (.int .i64 (v : Int))) :: (.ref 0 0 0) :: g5 :: g6 :: g7 :: (.ref 1 0 0) :: g9 :: g10 :: g11 :: g12 :: g13 :: g14 :: g15 :: g16 :: g17 :: g18 :: (.d (.int .i64 (w : Int))) :: i' :: g21 :: g22 :: g23 :: g24 :: g25 :: g26 :: g27 :: g28 :: g29 :: g30 :: g31 :: g32 :: g33 :: g34 :: []) [.row [u] 42, .row [z] 42] []) →
   Wp cfg (.loop (lpOf (Try.f87.body.getD .skip) 0)) (g0 :: (.d (.int .i64 (k0 : Int))) :: (.d (.int .i64 (w : Int))) :: (.d (.int .i64 (v : Int))) :: (.ref 0 0 0) :: g5 :: g6 :: g7 :: (.ref 1 0 0) :: g9 :: g10 :: g11 :: g12 :: g13 :: g14 :: g15 :: g16 :: g17 :: g18 :: (.d (.int .i64 (w : Int))) :: (.d (.int .i64 (i : Int))) :: g21 :: g22 :: g23 :: g24 :: g25 :: g26 :: g27 :: g28 :: g29 :: g30 :: g31 :: g32 :: g33 :: g34 :: []) [.row [u] 42, .row [z] 42] [] R := by
  intro k
  induction k with
  | zero =>
    intro i u g0 g5 g6 g7 g9 g10 g11 g12 g13 g14 g15 g16 g17 g18 g21 g22 g23 g24 g25 g26 g27 g28 g29 g30 g31 g32 g33 g34 hk hi hu hR
    have hie : i = w := by omega
    subst hie
    rw [wk_of]
    refine wk_loop ?_
    conv => arg 2; whnf
    simp (maxSteps := 1000000) (disch := first | assumption | omega | rfl) only [↓vmp, vme, vmb, ty, hP, dec_t, dec_f, wrap64, List.length_map, Int.toNat_natCast, Nat.reduceAdd, List.cons_append, List.nil_append, Option.map_some, Option.map_none, strOf_mk, sb_eql, sb_neq, vmg, ↓vgd, ↓vst, ↓vix]
    exact hR _ _ _ _ _ _ _ _ _ _ _ _ _ _ _ _ _ _ _ _ _ _ _ _ _ _ _ _ _ _ hu
  | succ k ih =>
    intro i u g0 g5 g6 g7 g9 g10 g11 g12 g13 g14 g15 g16 g17 g18 g21 g22 g23 g24 g25 g26 g27 g28 g29 g30 g31 g32 g33 g34 hk hi hu hR
    have hlt : i < w := by omega
    have hl : (layB b k0 (leB i v)).length = 256 := by rw [layB_len (by rw [leB_len]; omega), hb]
    have h1 : IntKind.i64.wrap ((k0 : Int) + (i : Int)) = ((k0 + i : Nat) : Int) := by rw [wrap64 (by omega)]; omega
    have h2 : IntKind.i64.wrap (8 * (i : Int)) = ((8 * i : Nat) : Int) := by rw [wrap64 (by omega)]; omega
    have h3 : IntKind.i64.wrap ((i : Int) + 1) = ((i + 1 : Nat) : Int) := by rw [wrap64 (by omega)]; omega
    have hcv := fun S => cvu (S := S) (i := 8 * i) (by omega)
    have hsh := fun K' => shr_at (K := .i64) (K' := K') (t := 3) (v := v) (i := i) rfl (by omega)
    have hia := fun S j x => ia42 (S := S) (j := j) (x := x) (i := k0 + i) (by omega)
    have hc5 := fun S => cv35 (S := S) (n := v / 256 ^ i)
    have hp := bt42.put hu hl (i := k0 + i) (by omega) (x := UInt8.ofNat (v / 256 ^ i % 256))
    have e : (layB b k0 (leB i v)).set (k0 + i) (UInt8.ofNat (v / 256 ^ i % 256)) = layB b k0 (leB (i + 1) v) := by
      rw [leB_snoc, layB_snoc (by rw [leB_len]; omega), leB_len]
    rw [e] at hp
    rw [wk_of]
    refine wk_loop ?_
    conv => arg 2; whnf
    simp (maxSteps := 1000000) (disch := first | assumption | omega | rfl) only [↓vmp, vme, vmb, ty, hP, dec_t, dec_f, wrap64, List.length_map, Int.toNat_natCast, Nat.reduceAdd, List.cons_append, List.nil_append, Option.map_some, Option.map_none, strOf_mk, sb_eql, sb_neq, vmg, ↓vgd, ↓vst, ↓vix, h1, h2, h3, hcv, hsh, hia, hc5, hp]
    exact ih (i + 1) _ _ _ _ _ _ _ _ _ _ _ _ _ _ _ _ _ _ _ _ _ _ _ _ _ _ _ _ _ (by omega) (by omega) isB_v hR
theorem with_ok (b : List UInt8) (hb : b.length = 256) (k0 w v : Nat) (hk0 : k0 + w ≤ 256) (hw1 : 1 ≤ w) (hw4 : w ≤ 4) : Ev cfg 87 [blkD b, .int .i64 (k0 : Int), .int .i64 (w : Int), .int .i64 (v : Int)] (.ret (.d (blkD (layB b k0 (leB w v))))) := by
  refine ev_of rfl rfl body87 ?_
  show Wp cfg (Try.f87.body.getD .skip) ((.d (blkD b)) :: (.d (.int .i64 (k0 : Int))) :: (.d (.int .i64 (w : Int))) :: (.d (.int .i64 (v : Int))) :: (.tup []) :: (.tup []) :: (.tup []) :: (.tup []) :: (.tup []) :: (.tup []) :: (.tup []) :: (.tup []) :: (.tup []) :: (.tup []) :: (.tup []) :: (.tup []) :: (.tup []) :: (.tup []) :: (.tup []) :: (.tup []) :: (.tup []) :: (.tup []) :: (.tup []) :: (.tup []) :: (.tup []) :: (.tup []) :: (.tup []) :: (.tup []) :: (.tup []) :: (.tup []) :: (.tup []) :: (.tup []) :: (.tup []) :: (.tup []) :: (.tup []) :: []) [] [] _
  conv => arg 2; whnf
  have c4 : ¬ (w : Int) > 4 := by omega
  have ct := fun {ops dst k T S F Q} => call_there (ops := ops) (dst := dst) (k := k) (T := T) (S := S) (F := F) (Q := Q) (a := k0) (w := w) (n := 256) (by omega) (by omega) (by omega)
  rw [decide_eq_true (show 1 ≤ w ∧ k0 + w ≤ 256 from ⟨hw1, hk0⟩)] at ct
  simp only [nl0, nl1, nl2, nl4, nl8, nl10, nl12, nl16, nl20, nl256] at ct
  have hll : (layB b k0 (leB w v)).length = 256 := by rw [layB_len (by rw [leB_len]; omega), hb]
  have hf := fd42 hb
  simp (maxSteps := 1000000) (disch := first | assumption | omega | rfl) only [↓vmp, vme, vmb, ty, hP, dec_t, dec_f, wrap64, List.length_map, Int.toNat_natCast, Nat.reduceAdd, List.cons_append, List.nil_append, Option.map_some, Option.map_none, strOf_mk, sb_eql, sb_neq, vmg, ↓vgd, ↓vst, ↓vix, z42, zf42, hf, ct, bo116]
  refine with_l b hb k0 w v hk0 hw4 _ _ w 0 _ _ _ _ _ _ _ _ _ _ _ _ _ _ _ _ _ _ _ _ _ _ _ _ _ _ _ _ _ rfl (Nat.zero_le _) (by rw [show leB 0 v = [] from rfl, layB_nil]; exact isB_d) ?_
  intro u i' g0 g5 g6 g7 g9 g10 g11 g12 g13 g14 g15 g16 g17 g18 g21 g22 g23 g24 g25 g26 g27 g28 g29 g30 g31 g32 g33 g34 hu
  have hld := bt42.load hu hll
  have hst := bt42.store hu hll (w := blkV (zeros 256)) isB_v z256
  simp (maxSteps := 1000000) (disch := first | assumption | omega | rfl) only [↓vmp, vme, vmb, ty, hP, dec_t, dec_f, wrap64, List.length_map, Int.toNat_natCast, Nat.reduceAdd, List.cons_append, List.nil_append, Option.map_some, Option.map_none, strOf_mk, sb_eql, sb_neq, vmg, ↓vgd, ↓vst, ↓vix, hld, hst]
  exact retQ_cell (u := .ref 1 0 0) (v := u) rfl ((loadV_row rfl).trans hld) hu.one (hu.frz (n := 10))
theorem lay_l (b : List UInt8) (hb : b.length = 256) (k0 : Nat) (d : List UInt8) (hk0 : k0 + d.length ≤ 256) (z : V) (R : Post) : ∀ (k i : Nat) (u : V) (g0 g4 g5 g7 g8 g9 g10 g11 g12 g13 g14 g15 g19 g20 g21 g22 g23 g24 g25 g26 g27 g28 g29 g30 g31 g32 g33 : V), d.length - i = k → i ≤ d.length → IsB u (layB b k0 (d.take i)) →
   (∀ u i' g0 g4 g5 g7 g8 g9 g10 g11 g12 g13 g14 g15 g19 g20 g21 g22 g23 g24 g25 g26 g27 g28 g29 g30 g31 g32 g33, IsB u (layB b k0 d) → R (.exit 0) (g0 :: (.d (.int .i64 (k0 : Int))) :: (.d (encB d)) :: (.ref 0 0 0) :: g4 :: g5 :: (.ref 1 0 0) :: g7 :: g8 :: g9 :: g10 :: g11 :: g12 :: g13 :: g14 :: g15 :: (.d (encB d)) :: (.d (.int .i64 d.length)) :: i' :: g19 :: g20 :: g21 :: g22 :: g23 :: g24 :: g25 :: g26 :: g27 :: g28 :: g29 :: g30 :: g31 :: g32 :: g33 :: []) [.row [u] 42, .row [z] 42] []) →
   Wp cfg (.loop (lpOf (Try.f89.body.getD .skip) 0)) (g0 :: (.d (.int .i64 (k0 : Int))) :: (.d (encB d)) :: (.ref 0 0 0) :: g4 :: g5 :: (.ref 1 0 0) :: g7 :: g8 :: g9 :: g10 :: g11 :: g12 :: g13 :: g14 :: g15 :: (.d (encB d)) :: (.d (.int .i64 d.length)) :: (.d (.int .i64 (i : Int))) :: g19 :: g20 :: g21 :: g22 :: g23 :: g24 :: g25 :: g26 :: g27 :: g28 :: g29 :: g30 :: g31 :: g32 :: g33 :: []) [.row [u] 42, .row [z] 42] [] R := by
  intro k
  induction k with
  | zero =>
    intro i u g0 g4 g5 g7 g8 g9 g10 g11 g12 g13 g14 g15 g19 g20 g21 g22 g23 g24 g25 g26 g27 g28 g29 g30 g31 g32 g33 hk hi hu hR
    have hie : i = d.length := by omega
    subst hie
    rw [List.take_length] at hu
    rw [wk_of]
    refine wk_loop ?_
    conv => arg 2; whnf
    simp (maxSteps := 1000000) (disch := first | assumption | omega | rfl) only [↓vmp, vme, vmb, ty, hP, dec_t, dec_f, wrap64, List.length_map, Int.toNat_natCast, Nat.reduceAdd, List.cons_append, List.nil_append, Option.map_some, Option.map_none, strOf_mk, sb_eql, sb_neq, vmg, ↓vgd, ↓vst, ↓vix]
    exact hR _ _ _ _ _ _ _ _ _ _ _ _ _ _ _ _ _ _ _ _ _ _ _ _ _ _ _ _ _ hu
  | succ k ih =>
    intro i u g0 g4 g5 g7 g8 g9 g10 g11 g12 g13 g14 g15 g19 g20 g21 g22 g23 g24 g25 g26 g27 g28 g29 g30 g31 g32 g33 hk hi hu hR
    have hlt : i < d.length := by omega
    have htl : (d.take i).length = i := by rw [List.length_take]; omega
    have hl : (layB b k0 (d.take i)).length = 256 := by rw [layB_len (by rw [htl]; omega), hb]
    have h1 : IntKind.i64.wrap ((k0 : Int) + (i : Int)) = ((k0 + i : Nat) : Int) := by rw [wrap64 (by omega)]; omega
    have h2 : IntKind.i64.wrap (256 - (k0 : Int)) = 256 - (k0 : Int) := wrap64 (by omega)
    have h4 : ¬ (i : Int) ≥ 256 - (k0 : Int) := by omega
    have h3 : IntKind.i64.wrap ((i : Int) + 1) = ((i + 1 : Nat) : Int) := by rw [wrap64 (by omega)]; omega
    have hix := fun S => ix40 (S := S) (l := d) hlt
    have hia := fun S j x => ia42 (S := S) (j := j) (x := x) (i := k0 + i) (by omega)
    have hp := bt42.put hu hl (i := k0 + i) (by omega) (x := d[i])
    have e : (layB b k0 (d.take i)).set (k0 + i) d[i] = layB b k0 (d.take (i + 1)) := by
      rw [List.take_add_one, List.getElem?_eq_getElem hlt]
      show _ = layB b k0 (d.take i ++ [d[i]])
      rw [layB_snoc (by rw [htl]; omega), htl]
    rw [e] at hp
    rw [wk_of]
    refine wk_loop ?_
    conv => arg 2; whnf
    simp (maxSteps := 1000000) (disch := first | assumption | omega | rfl) only [↓vmp, vme, vmb, ty, hP, dec_t, dec_f, wrap64, List.length_map, Int.toNat_natCast, Nat.reduceAdd, List.cons_append, List.nil_append, Option.map_some, Option.map_none, strOf_mk, sb_eql, sb_neq, vmg, ↓vgd, ↓vst, ↓vix, encB, h1, h2, h3, hix, hia, hp]
    exact ih (i + 1) _ _ _ _ _ _ _ _ _ _ _ _ _ _ _ _ _ _ _ _ _ _ _ _ _ _ _ _ (by omega) (by omega) isB_v hR
theorem lay_ok (b : List UInt8) (hb : b.length = 256) (k0 : Nat) (hk : k0 < 256) (d : List UInt8) (hk0 : k0 + d.length ≤ 256) : Ev cfg 89 [blkD b, .int .i64 (k0 : Int), encB d] (.ret (.d (blkD (layB b k0 d)))) := by
  refine ev_of rfl rfl body89 ?_
  show Wp cfg (Try.f89.body.getD .skip) ((.d (blkD b)) :: (.d (.int .i64 (k0 : Int))) :: (.d (encB d)) :: (.tup []) :: (.tup []) :: (.tup []) :: (.tup []) :: (.tup []) :: (.tup []) :: (.tup []) :: (.tup []) :: (.tup []) :: (.tup []) :: (.tup []) :: (.tup []) :: (.tup []) :: (.tup []) :: (.tup []) :: (.tup []) :: (.tup []) :: (.tup []) :: (.tup []) :: (.tup []) :: (.tup []) :: (.tup []) :: (.tup []) :: (.tup []) :: (.tup []) :: (.tup []) :: (.tup []) :: (.tup []) :: (.tup []) :: (.tup []) :: (.tup []) :: []) [] [] _
  conv => arg 2; whnf
  have c1 : ¬ (k0 : Int) < 0 := by omega
  have c2 : ¬ (k0 : Int) ≥ 256 := by omega
  have hll : (layB b k0 d).length = 256 := by rw [layB_len (by omega), hb]
  have hf := fd42 hb
  have hln : ∀ S : Store, builtinV Try.prog S .len [40] [.d (encB d)] = some (.val (.d (.int .i64 d.length)) S 0) := fun S => by rw [encB, len40, List.length_map]
  simp (maxSteps := 1000000) (disch := first | assumption | omega | rfl) only [↓vmp, vme, vmb, ty, hP, dec_t, dec_f, wrap64, List.length_map, Int.toNat_natCast, Nat.reduceAdd, List.cons_append, List.nil_append, Option.map_some, Option.map_none, strOf_mk, sb_eql, sb_neq, vmg, ↓vgd, ↓vst, ↓vix, z42, zf42, hf, hln]
  refine lay_l b hb k0 d hk0 _ _ d.length 0 _ _ _ _ _ _ _ _ _ _ _ _ _ _ _ _ _ _ _ _ _ _ _ _ _ _ _ _ rfl (Nat.zero_le _) (by rw [List.take_zero, layB_nil]; exact isB_d) ?_
  intro u i' g0 g4 g5 g7 g8 g9 g10 g11 g12 g13 g14 g15 g19 g20 g21 g22 g23 g24 g25 g26 g27 g28 g29 g30 g31 g32 g33 hu
  have hld := bt42.load hu hll
  have hst := bt42.store hu hll (w := blkV (zeros 256)) isB_v z256
  simp (maxSteps := 1000000) (disch := first | assumption | omega | rfl) only [↓vmp, vme, vmb, ty, hP, dec_t, dec_f, wrap64, List.length_map, Int.toNat_natCast, Nat.reduceAdd, List.cons_append, List.nil_append, Option.map_some, Option.map_none, strOf_mk, sb_eql, sb_neq, vmg, ↓vgd, ↓vst, ↓vix, hld, hst]
  exact retQ_cell (u := .ref 1 0 0) (v := u) rfl ((loadV_row rfl).trans hld) hu.one (hu.frz (n := 10))
theorem bd42 : buildV Try.prog 42 [] = some (blkV (zeros 256)) := by kernel_rfl
section
variable {ops : Array Oper} {dst : Option Tmp} {k : List Oper} {T : List V} {S : Store} {F : Dfs} {Q : Post}
/-- A call that is handed a block, whatever its form. -/
theorem call_lay {u : V} {b d : List UInt8} (hu : IsB u b) (hb : b.length = 256) {k0 : Nat} (hk : k0 < 256) (hk0 : k0 + d.length ≤ 256) : WpR cfg ops dst k T S F Q (some (.enter 89 [u, .d (.int .i64 (k0 : Int)), .d (encB d)])) = WpL cfg ops k (putT T dst (.d (blkD (layB b k0 d)))) S F Q :=
  wr_call_v (ds := [blkD b, .int .i64 (k0 : Int), encB d]) rfl (by simp only [allO, hu.frz (n := 10), frzFuel]; rfl) (by rw [List.flatMap_cons, hu.frzIds]; rfl) (lay_ok b hb k0 hk d hk0)
theorem call_with {u : V} {b : List UInt8} (hu : IsB u b) (hb : b.length = 256) {k0 w v : Nat} (hk0 : k0 + w ≤ 256) (hw1 : 1 ≤ w) (hw4 : w ≤ 4) : WpR cfg ops dst k T S F Q (some (.enter 87 [u, .d (.int .i64 (k0 : Int)), .d (.int .i64 (w : Int)), .d (.int .i64 (v : Int))])) = WpL cfg ops k (putT T dst (.d (blkD (layB b k0 (leB w v))))) S F Q :=
  wr_call_v (ds := [blkD b, .int .i64 (k0 : Int), .int .i64 (w : Int), .int .i64 (v : Int)]) rfl (by simp only [allO, hu.frz (n := 10), frzFuel]; rfl) (by rw [List.flatMap_cons, hu.frzIds]; rfl) (with_ok b hb k0 w v hk0 hw1 hw4)
end
theorem Of_ok (d : List UInt8) (hd : d.length ≤ 256) : Ev cfg 86 [encB d] (.ret (.d (blkD (layB (zeros 256) 0 d)))) := by
  refine ev_of rfl rfl body86 ?_
  show Wp cfg (Try.f86.body.getD .skip) ((.d (encB d)) :: (.tup []) :: (.tup []) :: (.tup []) :: (.tup []) :: (.tup []) :: []) [] [] _
  conv => arg 2; whnf
  have hll : (layB (zeros 256) 0 d).length = 256 := by rw [layB_len (by rw [z256]; omega), z256]
  have hc := fun {ops dst k T S F Q} => call_lay (ops := ops) (dst := dst) (k := k) (T := T) (S := S) (F := F) (Q := Q) (u := blkV (zeros 256)) (b := zeros 256) (d := d) isB_v z256 (k0 := 0) (by omega) (by omega)
  have hst := sdv42 hll z256
  have h1 : (blkV (zeros 256)).one = true := rfl
  simp only [nl0, nl1, nl2, nl4, nl8, nl10, nl12, nl16, nl20, nl256] at hc
  simp (maxSteps := 1000000) (disch := first | assumption | omega | rfl) only [↓vmp, vme, vmb, ty, hP, dec_t, dec_f, wrap64, List.length_map, Int.toNat_natCast, Nat.reduceAdd, List.cons_append, List.nil_append, Option.map_some, Option.map_none, strOf_mk, sb_eql, sb_neq, vmg, ↓vgd, ↓vst, ↓vix, z42, zf42, bd42, hc, bo89, hst, h1]
  exact retQ_cell (u := .ref 0 0 0) (v := .d (blkD (layB (zeros 256) 0 d))) rfl ((loadV_row rfl).trans (ldd42 hll)) rfl rfl
end Go.Proofs.Ytobgdmgldagjkaa
end
/-! num.Cut, num.Put: bytes of a block, and a number among bytes. -/
section
set_option linter.unusedVariables false
set_option linter.unusedSimpArgs false
set_option maxRecDepth 100000
set_option maxHeartbeats 4000000
namespace Go.Proofs.Ytobgdmgldagjkaa
open Go.Vm
/-- A row of bytes. -/
def rowY (d : List UInt8) : Ob := .row (d.map fun x => V.d (byD x)) 5
section
variable {S : Store} {id n i : Nat} {d : List UInt8}
theorem ixY (hS : S[id]? = some (rowY d)) (hi : i < n) : indexAddrV Try.prog S 40 (.rs id 0 n) (.d (.int .i64 (i : Int))) = some (.ref id i 0) := by
  have h1 : rowT S id 5 = true := by unfold rowT; rw [hS]; rfl
  have h2 : (sz Try.prog 5).isSome = true := by kernel_rfl
  simp only [indexAddrV, intOf?, Try.underlying40]
  rw [if_pos ⟨⟨by omega, by omega⟩, h1, h2⟩]
  simp
theorem rowE_Y (hS : S[id]? = some (rowY d)) (hi : i < d.length) : rowE S id i = some (.d (.int .u8 (d[i].toNat : Int))) := by
  unfold rowE
  rw [hS]
  simp only [rowY, List.getElem?_map, List.getElem?_eq_getElem hi, Option.map_some]
  rfl
theorem put_Y (hS : S[id]? = some (rowY d)) {x : UInt8} : putRow S id i (.d (.int .u8 (x.toNat : Int))) = some (S.set id (rowY (d.set i x))) := by
  unfold putRow
  rw [hS]
  simp only [rowY, List.map_set]
  rfl
theorem frz_Y (hS : S[id]? = some (rowY d)) (hn : n = d.length) : Go.Vm.frz S frzFuel (.rs id 0 n) = some (encB d) := by
  subst hn
  show (match S[id]? with
    | some (.row xs e) => if 0 + d.length ≤ xs.length && (allO (Go.Vm.frz S 11) xs).isSome then (allO (Go.Vm.frz S 11) ((xs.drop 0).take d.length)).map D.sl else none
    | some (.fz xs e) => if 0 + d.length ≤ xs.length then some (D.sl ((xs.drop 0).take d.length)) else none
    | _ => none) = _
  rw [hS]
  have h2 : ((d.map fun x => V.d (byD x)).drop 0).take d.length = d.map fun x => V.d (byD x) := by rw [List.drop_zero, List.take_of_length_le (by simp)]
  simp only [rowY, allO_by, h2, List.length_map, Nat.zero_add, Nat.le_refl, decide_true, Option.isSome_some, Bool.and_self, if_true, Option.map_some]
  rfl
theorem mk40 (h : n ≤ 1000000) : makeSliceV Try.prog S 40 (.d (.int .i64 (n : Int))) (.d (.int .i64 (n : Int))) = some (.rs S.length 0 n, S ++ [rowY (zeros n)]) := by
  have hz : zeroV Try.prog 5 = some (.d (.int .u8 0)) := by kernel_rfl
  have hf : fitsT Try.prog 5 (.d (.int .u8 0)) = true := by kernel_rfl
  have hr : room Try.prog 5 n = true := room40 h
  have e : List.replicate n (V.d (.int .u8 0)) = (zeros n).map fun x => V.d (byD x) := by unfold zeros; rw [List.map_replicate]; rfl
  simp only [makeSliceV, Try.underlying40, hz, Int.toNat_natCast, hr, hf, Bool.and_self, if_true]
  rw [if_pos ⟨by omega, Int.le_refl _, by omega⟩, e]
  rfl
end
theorem st5 {a b : Int} : storeR Try.prog 5 0 (.d (.int .u8 a)) (.d (.int .u8 b)) = some (.d (.int .u8 a)) := by kernel_rfl
theorem ldr5 {a : Int} : loadR Try.prog 5 0 (some (.d (.int .u8 a))) = some (.d (.int .u8 a)) := by kernel_rfl
theorem min_le {S : Store} {a b : Int} (h : a ≤ b) : builtinV Try.prog S .min [3, 3] [.d (.int .i64 a), .d (.int .i64 b)] = some (.val (.d (.int .i64 a)) S 0) := by
  simp only [builtinV, foldV, min2V, if_true]
  rw [if_neg (by omega)]
  rfl
theorem min_ge {S : Store} {a b : Int} (h : b ≤ a) : builtinV Try.prog S .min [3, 3] [.d (.int .i64 a), .d (.int .i64 b)] = some (.val (.d (.int .i64 b)) S 0) := by
  simp only [builtinV, foldV, min2V, if_true]
  by_cases hh : b < a
  · rw [if_pos hh]; rfl
  · have : a = b := by omega
    subst this; rw [if_neg hh]; rfl
theorem max_le {S : Store} {a b : Int} (h : a ≤ b) : builtinV Try.prog S .max [3, 3] [.d (.int .i64 a), .d (.int .i64 b)] = some (.val (.d (.int .i64 b)) S 0) := by
  simp only [builtinV, foldV, max2V, if_true]
  by_cases hh : b > a
  · rw [if_pos hh]; rfl
  · have : a = b := by omega
    subst this; rw [if_neg hh]; rfl
theorem max_ge {S : Store} {a b : Int} (h : b ≤ a) : builtinV Try.prog S .max [3, 3] [.d (.int .i64 a), .d (.int .i64 b)] = some (.val (.d (.int .i64 a)) S 0) := by
  simp only [builtinV, foldV, max2V, if_true]
  rw [if_neg (by omega)]
  rfl
def fillB (t : List UInt8) (i : Nat) : List UInt8 := t.take i ++ zeros (t.length - i)
theorem fillB_len {t : List UInt8} {i : Nat} (h : i ≤ t.length) : (fillB t i).length = t.length := by unfold fillB; simp [zeros]; omega
theorem fillB_set {t : List UInt8} {i : Nat} (h : i < t.length) : (fillB t i).set i t[i] = fillB t (i + 1) := by
  unfold fillB zeros
  obtain ⟨m, hm⟩ : ∃ m, t.length - i = m + 1 := ⟨t.length - i - 1, by omega⟩
  have h1 : (t.take i).length = i := by rw [List.length_take]; omega
  rw [List.set_append_right _ _ (by omega), h1, Nat.sub_self, hm, List.replicate_succ, List.set_cons_zero, List.take_add_one, List.getElem?_eq_getElem h]
  have : t.length - (i + 1) = m := by omega
  rw [this, List.append_assoc]
  rfl
theorem cut_l (b : List UInt8) (hb : b.length = 256) (k0 : Nat) (t : List UInt8) (ht : t = (b.drop k0).take t.length) (hk0 : k0 + t.length ≤ 256) (x6 : V) (R : Post) : ∀ (k i : Nat) (g0 g2 g4 g5 g8 g9 g10 g11 g12 g13 g14 g15 g16 g17 g18 g19 g20 g21 g22 g23 g24 g27 g28 g29 g30 g31 g32 g33 g34 g35 g36 g37 g38 : V), t.length - i = k → i ≤ t.length →
   (∀ i' g0 g2 g4 g5 g8 g9 g10 g11 g12 g13 g14 g15 g16 g17 g18 g19 g20 g21 g22 g23 g24 g27 g28 g29 g30 g31 g32 g33 g34 g35 g36 g37 g38, R (.exit 0) (g0 :: (.d (.int .i64 (k0 : Int))) :: g2 :: (.ref 0 0 0) :: g4 :: g5 :: x6 :: (.rs 1 0 t.length) :: g8 :: g9 :: g10 :: g11 :: g12 :: g13 :: g14 :: g15 :: g16 :: g17 :: g18 :: g19 :: g20 :: g21 :: g22 :: g23 :: g24 :: (.d (.int .i64 (t.length : Int))) :: i' :: g27 :: g28 :: g29 :: g30 :: g31 :: g32 :: g33 :: g34 :: g35 :: g36 :: g37 :: g38 :: []) [.row [.d (blkD b)] 42, rowY t] []) →
   Wp cfg (.loop (lpOf (Try.f69.body.getD .skip) 0)) (g0 :: (.d (.int .i64 (k0 : Int))) :: g2 :: (.ref 0 0 0) :: g4 :: g5 :: x6 :: (.rs 1 0 t.length) :: g8 :: g9 :: g10 :: g11 :: g12 :: g13 :: g14 :: g15 :: g16 :: g17 :: g18 :: g19 :: g20 :: g21 :: g22 :: g23 :: g24 :: (.d (.int .i64 (t.length : Int))) :: (.d (.int .i64 (i : Int))) :: g27 :: g28 :: g29 :: g30 :: g31 :: g32 :: g33 :: g34 :: g35 :: g36 :: g37 :: g38 :: []) [.row [.d (blkD b)] 42, rowY (fillB t i)] [] R := by
  intro k
  induction k with
  | zero =>
    intro i g0 g2 g4 g5 g8 g9 g10 g11 g12 g13 g14 g15 g16 g17 g18 g19 g20 g21 g22 g23 g24 g27 g28 g29 g30 g31 g32 g33 g34 g35 g36 g37 g38 hk hi hR
    have hie : i = t.length := by omega
    subst hie
    have e : fillB t t.length = t := by unfold fillB zeros; simp
    rw [e]
    rw [wk_of]
    refine wk_loop ?_
    conv => arg 2; whnf
    simp (maxSteps := 1000000) (disch := first | assumption | omega | rfl) only [↓vmp, vme, vmb, ty, hP, dec_t, dec_f, wrap64, List.length_map, Int.toNat_natCast, Nat.reduceAdd, List.cons_append, List.nil_append, Option.map_some, Option.map_none, strOf_mk, sb_eql, sb_neq, vmg, ↓vgd, ↓vst, ↓vix]
    exact hR _ _ _ _ _ _ _ _ _ _ _ _ _ _ _ _ _ _ _ _ _ _ _ _ _ _ _ _ _ _ _ _ _ _
  | succ k ih =>
    intro i g0 g2 g4 g5 g8 g9 g10 g11 g12 g13 g14 g15 g16 g17 g18 g19 g20 g21 g22 g23 g24 g27 g28 g29 g30 g31 g32 g33 g34 g35 g36 g37 g38 hk hi hR
    have hlt : i < t.length := by omega
    have hl := fillB_len (t := t) (i := i) (by omega)
    have h1 : IntKind.i64.wrap ((k0 : Int) + (i : Int)) = ((k0 + i : Nat) : Int) := by rw [wrap64 (by omega)]; omega
    have h3 : IntKind.i64.wrap ((i : Int) + 1) = ((i + 1 : Nat) : Int) := by rw [wrap64 (by omega)]; omega
    have hia := fun S j x => ia42 (S := S) (j := j) (x := x) (i := k0 + i) (by omega)
    have hg := bt42.get (v := .d (blkD b)) isB_d hb (i := k0 + i) (by omega)
    have he : b[k0 + i] = t[i] := by
      have : t[i] = ((b.drop k0).take t.length)[i]'(by rw [← ht]; exact hlt) := by congr 1
      rw [this]; simp
    rw [he] at hg
    have hS : ([.row [.d (blkD b)] 42, rowY (fillB t i)] : Store)[1]? = some (rowY (fillB t i)) := rfl
    have hix := ixY (n := t.length) (i := i) hS hlt
    have hrw := rowE_Y (i := i) hS (by omega)
    have hpt := put_Y (i := i) hS (x := t[i])
    rw [fillB_set hlt] at hpt
    have hpt : putRow [.row [.d (blkD b)] 42, rowY (fillB t i)] 1 i (.d (.int .u8 (t[i].toNat : Int))) = some [.row [.d (blkD b)] 42, rowY (fillB t (i + 1))] := hpt
    rw [wk_of]
    refine wk_loop ?_
    conv => arg 2; whnf
    simp (maxSteps := 1000000) (disch := first | assumption | omega | rfl) only [↓vmp, vme, vmb, ty, hP, dec_t, dec_f, wrap64, List.length_map, Int.toNat_natCast, Nat.reduceAdd, List.cons_append, List.nil_append, Option.map_some, Option.map_none, strOf_mk, sb_eql, sb_neq, vmg, ↓vgd, ↓vst, ↓vix, h1, h3, hia, hg, hix, hrw, st5, hpt]
    exact ih (i + 1) _ _ _ _ _ _ _ _ _ _ _ _ _ _ _ _ _ _ _ _ _ _ _ _ _ _ _ _ _ _ _ _ _ (by omega) (by omega) hR
theorem cut_ok (b : List UInt8) (hb : b.length = 256) (k0 n : Nat) (hn : 1 ≤ n) (hk0 : k0 + n ≤ 256) : Ev cfg 69 [blkD b, .int .i64 (k0 : Int), .int .i64 (n : Int)] (.ret (.d (encB ((b.drop k0).take n)))) := by
  refine ev_of rfl rfl body69 ?_
  show Wp cfg (Try.f69.body.getD .skip) ((.d (blkD b)) :: (.d (.int .i64 (k0 : Int))) :: (.d (.int .i64 (n : Int))) :: (.tup []) :: (.tup []) :: (.tup []) :: (.tup []) :: (.tup []) :: (.tup []) :: (.tup []) :: (.tup []) :: (.tup []) :: (.tup []) :: (.tup []) :: (.tup []) :: (.tup []) :: (.tup []) :: (.tup []) :: (.tup []) :: (.tup []) :: (.tup []) :: (.tup []) :: (.tup []) :: (.tup []) :: (.tup []) :: (.tup []) :: (.tup []) :: (.tup []) :: (.tup []) :: (.tup []) :: (.tup []) :: (.tup []) :: (.tup []) :: (.tup []) :: (.tup []) :: (.tup []) :: (.tup []) :: (.tup []) :: (.tup []) :: []) [] [] _
  conv => arg 2; whnf
  have hl : ((b.drop k0).take n).length = n := by rw [List.length_take, List.length_drop]; omega
  have c1 : ¬ (k0 : Int) < 0 := by omega
  have c2 : ¬ (k0 : Int) ≥ 256 := by omega
  have c3 : ¬ (n : Int) < 1 := by omega
  have h1 : IntKind.i64.wrap (256 - (k0 : Int)) = 256 - (k0 : Int) := wrap64 (by omega)
  have hmin := fun S => min_le (S := S) (a := (n : Int)) (b := 256 - (k0 : Int)) (by omega)
  have hf := fd42 hb
  have hmk := fun S => mk40 (S := S) (n := n) (by omega)
  simp (maxSteps := 1000000) (disch := first | assumption | omega | rfl) only [↓vmp, vme, vmb, ty, hP, dec_t, dec_f, wrap64, List.length_map, Int.toNat_natCast, Nat.reduceAdd, List.cons_append, List.nil_append, Option.map_some, Option.map_none, strOf_mk, sb_eql, sb_neq, vmg, ↓vgd, ↓vst, ↓vix, hf, h1, hmin, hmk]
  have ht : (b.drop k0).take n = (b.drop k0).take ((b.drop k0).take n).length := by rw [hl]
  generalize (b.drop k0).take n = t at *
  subst hl
  have e0 : zeros t.length = fillB t 0 := by unfold fillB; simp
  rw [e0]
  refine cut_l b hb k0 t ht hk0 _ _ t.length 0 _ _ _ _ _ _ _ _ _ _ _ _ _ _ _ _ _ _ _ _ _ _ _ _ _ _ _ _ _ _ _ _ _ rfl (Nat.zero_le _) ?_
  intro i' g0 g2 g4 g5 g8 g9 g10 g11 g12 g13 g14 g15 g16 g17 g18 g19 g20 g21 g22 g23 g24 g27 g28 g29 g30 g31 g32 g33 g34 g35 g36 g37 g38
  simp (maxSteps := 1000000) (disch := first | assumption | omega | rfl) only [↓vmp, vme, vmb, ty, hP, dec_t, dec_f, wrap64, List.length_map, Int.toNat_natCast, Nat.reduceAdd, List.cons_append, List.nil_append, Option.map_some, Option.map_none, strOf_mk, sb_eql, sb_neq, vmg, ↓vgd, ↓vst, ↓vix]
  exact retQ_one rfl rfl (frz_Y rfl rfl)
theorem app_newS {S : Store} {b : List UInt8} (h0 : b ≠ []) (hl : b.length ≤ 100000) : appendV Try.prog S 40 40 (.ts []) (.d (encB b)) = some (.rs S.length 0 b.length, S ++ [rowY b], 2) := by
  have hall : ((b.map byD).map V.d).all (fitsT Try.prog 5) = true := by
    rw [List.all_eq_true]
    intro y hy
    obtain ⟨z, hz, rfl⟩ := List.mem_map.1 hy
    obtain ⟨a, _, rfl⟩ := List.mem_map.1 hz
    exact fitsT5 _
  have h5 : (sz Try.prog 5).isSome = true := by kernel_rfl
  have src : srcV Try.prog S 5 40 (.d (encB b)) = some ((b.map byD).map V.d) := by
    have : encB b = .sl (b.map byD) := rfl
    rw [this]
    simp only [srcV, Try.underlying40, elemsV, hall, h5, Bool.and_self, if_true]
  cases b with
  | nil => exact absurd rfl h0
  | cons a r =>
    have src1 : srcV Try.prog S 5 40 (.d (encB (a :: r))) = some (.d (byD a) :: (r.map byD).map .d) := src
    have hl2 : ((r.map byD).map V.d).length = r.length := by simp
    have hr : room Try.prog 5 (r.length + 1) = true := room40 (by simp at hl; omega)
    simp only [appendV, Try.underlying40, src1, zOk40, if_true, List.all_nil, List.length_nil, hr, Bool.and_self, List.map_nil, List.nil_append, List.length_cons, List.cons_append, List.map_cons, List.map_map, Function.comp_def, Nat.zero_add, List.length_map, Bool.and_true, rowY]
theorem cv225 {S : Store} {n : Nat} : convertV Try.prog S 22 5 (.d (.int .u64 (n : Int))) = some (.d (.int .u8 ((UInt8.ofNat (n % 256)).toNat : Int)), 0) := by
  have h1 : Try.prog.underlying 22 = some (.int .u64) := by kernel_rfl
  have h2 : Try.prog.underlying 5 = some (.int .u8) := by kernel_rfl
  have e : ((UInt8.ofNat (n % 256)).toNat : Int) = (n : Int) % 256 := by rw [UInt8.toNat_ofNat']; omega
  simp only [convertV, h1, h2]
  rw [u8_mod, e]
theorem put_l (b : List UInt8) (hb : b.length ≤ 1000) (k0 w v : Nat) (hk0 : k0 + w ≤ b.length) (hw8 : w ≤ 8) (x8 x9 : V) (R : Post) : ∀ (k i : Nat) (g0 g2 g4 g5 g6 g7 g11 g12 g13 g14 g15 g16 g17 g18 g19 g20 g21 g22 g23 g24 g27 g28 g29 g30 g31 g32 g33 g34 g35 g36 g37 g38 g39 g40 g41 : V), w - i = k → i ≤ w →
   (∀ i' g0 g2 g4 g5 g6 g7 g11 g12 g13 g14 g15 g16 g17 g18 g19 g20 g21 g22 g23 g24 g27 g28 g29 g30 g31 g32 g33 g34 g35 g36 g37 g38 g39 g40 g41, R (.exit 0) (g0 :: (.d (.int .i64 (k0 : Int))) :: g2 :: (.d (.int .u64 (v : Int))) :: g4 :: g5 :: g6 :: g7 :: x8 :: x9 :: (.rs 0 0 b.length) :: g11 :: g12 :: g13 :: g14 :: g15 :: g16 :: g17 :: g18 :: g19 :: g20 :: g21 :: g22 :: g23 :: g24 :: (.d (.int .i64 (w : Int))) :: i' :: g27 :: g28 :: g29 :: g30 :: g31 :: g32 :: g33 :: g34 :: g35 :: g36 :: g37 :: g38 :: g39 :: g40 :: g41 :: []) [rowY (layB b k0 (leB w v))] []) →
   Wp cfg (.loop (lpOf (Try.f88.body.getD .skip) 0)) (g0 :: (.d (.int .i64 (k0 : Int))) :: g2 :: (.d (.int .u64 (v : Int))) :: g4 :: g5 :: g6 :: g7 :: x8 :: x9 :: (.rs 0 0 b.length) :: g11 :: g12 :: g13 :: g14 :: g15 :: g16 :: g17 :: g18 :: g19 :: g20 :: g21 :: g22 :: g23 :: g24 :: (.d (.int .i64 (w : Int))) :: (.d (.int .i64 (i : Int))) :: g27 :: g28 :: g29 :: g30 :: g31 :: g32 :: g33 :: g34 :: g35 :: g36 :: g37 :: g38 :: g39 :: g40 :: g41 :: []) [rowY (layB b k0 (leB i v))] [] R := by
  intro k
  induction k with
  | zero =>
    intro i g0 g2 g4 g5 g6 g7 g11 g12 g13 g14 g15 g16 g17 g18 g19 g20 g21 g22 g23 g24 g27 g28 g29 g30 g31 g32 g33 g34 g35 g36 g37 g38 g39 g40 g41 hk hi hR
    have hie : i = w := by omega
    subst hie
    rw [wk_of]
    refine wk_loop ?_
    conv => arg 2; whnf
    simp (maxSteps := 1000000) (disch := first | assumption | omega | rfl) only [↓vmp, vme, vmb, ty, hP, dec_t, dec_f, wrap64, List.length_map, Int.toNat_natCast, Nat.reduceAdd, List.cons_append, List.nil_append, Option.map_some, Option.map_none, strOf_mk, sb_eql, sb_neq, vmg, ↓vgd, ↓vst, ↓vix]
    exact hR _ _ _ _ _ _ _ _ _ _ _ _ _ _ _ _ _ _ _ _ _ _ _ _ _ _ _ _ _ _ _ _ _ _ _ _
  | succ k ih =>
    intro i g0 g2 g4 g5 g6 g7 g11 g12 g13 g14 g15 g16 g17 g18 g19 g20 g21 g22 g23 g24 g27 g28 g29 g30 g31 g32 g33 g34 g35 g36 g37 g38 g39 g40 g41 hk hi hR
    have hlt : i < w := by omega
    have hl : (layB b k0 (leB i v)).length = b.length := by rw [layB_len (by rw [leB_len]; omega)]
    have h1 : IntKind.i64.wrap ((k0 : Int) + (i : Int)) = ((k0 + i : Nat) : Int) := by rw [wrap64 (by omega)]; omega
    have h2 : IntKind.i64.wrap (8 * (i : Int)) = ((8 * i : Nat) : Int) := by rw [wrap64 (by omega)]; omega
    have h3 : IntKind.i64.wrap ((i : Int) + 1) = ((i + 1 : Nat) : Int) := by rw [wrap64 (by omega)]; omega
    have hcv := fun S => cvu (S := S) (i := 8 * i) (by omega)
    have hsh := fun K' => shr_at (K := .u64) (K' := K') (t := 22) (v := v) (i := i) rfl (by omega)
    have hc5 := fun S => cv225 (S := S) (n := v / 256 ^ i)
    have hS : ([rowY (layB b k0 (leB i v))] : Store)[0]? = some (rowY (layB b k0 (leB i v))) := rfl
    have hix := ixY (n := b.length) (i := k0 + i) hS (by omega)
    have hrw := rowE_Y (i := k0 + i) hS (by omega)
    have hpt := put_Y (i := k0 + i) hS (x := UInt8.ofNat (v / 256 ^ i % 256))
    have e : (layB b k0 (leB i v)).set (k0 + i) (UInt8.ofNat (v / 256 ^ i % 256)) = layB b k0 (leB (i + 1) v) := by
      rw [leB_snoc, layB_snoc (by rw [leB_len]; omega), leB_len]
    rw [e] at hpt
    have hpt : putRow [rowY (layB b k0 (leB i v))] 0 (k0 + i) (.d (.int .u8 ((UInt8.ofNat (v / 256 ^ i % 256)).toNat : Int))) = some [rowY (layB b k0 (leB (i + 1) v))] := hpt
    rw [wk_of]
    refine wk_loop ?_
    conv => arg 2; whnf
    simp (maxSteps := 1000000) (disch := first | assumption | omega | rfl) only [↓vmp, vme, vmb, ty, hP, dec_t, dec_f, wrap64, List.length_map, Int.toNat_natCast, Nat.reduceAdd, List.cons_append, List.nil_append, Option.map_some, Option.map_none, strOf_mk, sb_eql, sb_neq, vmg, ↓vgd, ↓vst, ↓vix, h1, h2, h3, hcv, hsh, hc5, hix, hrw, st5, hpt]
    exact ih (i + 1) _ _ _ _ _ _ _ _ _ _ _ _ _ _ _ _ _ _ _ _ _ _ _ _ _ _ _ _ _ _ _ _ _ _ _ (by omega) (by omega) hR
theorem bs0_40 {S : Store} {T : List V} {dst : Option Tmp} {ty : TypeId} {pos : String} {after : Array Edge} {g : Option (Nat × Bool)} : opV Try.prog S T ⟨dst, .buildSlice 40 0 #[], ty, pos, after, g⟩ = some (.val (.ts []) S 0) := by kernel_rfl
theorem put_ok (b : List UInt8) (hb0 : b ≠ []) (hb : b.length ≤ 1000) (k0 w v : Nat) (hk0 : k0 + w ≤ b.length) (hw1 : 1 ≤ w) (hw8 : w ≤ 8) : Ev cfg 88 [encB b, .int .i64 (k0 : Int), .int .i64 (w : Int), .int .u64 (v : Int)] (.ret (.tup [.d (encB (layB b k0 (leB w v))), .d (.bool true)])) := by
  refine ev_of rfl rfl body88 ?_
  show Wp cfg (Try.f88.body.getD .skip) ((.d (encB b)) :: (.d (.int .i64 (k0 : Int))) :: (.d (.int .i64 (w : Int))) :: (.d (.int .u64 (v : Int))) :: (.tup []) :: (.tup []) :: (.tup []) :: (.tup []) :: (.tup []) :: (.tup []) :: (.tup []) :: (.tup []) :: (.tup []) :: (.tup []) :: (.tup []) :: (.tup []) :: (.tup []) :: (.tup []) :: (.tup []) :: (.tup []) :: (.tup []) :: (.tup []) :: (.tup []) :: (.tup []) :: (.tup []) :: (.tup []) :: (.tup []) :: (.tup []) :: (.tup []) :: (.tup []) :: (.tup []) :: (.tup []) :: (.tup []) :: (.tup []) :: (.tup []) :: (.tup []) :: (.tup []) :: (.tup []) :: (.tup []) :: (.tup []) :: (.tup []) :: (.tup []) :: []) [] [] _
  conv => arg 2; whnf
  have c4 : ¬ (w : Int) > 8 := by omega
  have ct := fun {ops dst k T S F Q} => call_there (ops := ops) (dst := dst) (k := k) (T := T) (S := S) (F := F) (Q := Q) (a := k0) (w := w) (n := b.length) (by omega) (by omega) (by omega)
  rw [decide_eq_true (show 1 ≤ w ∧ k0 + w ≤ b.length from ⟨hw1, hk0⟩)] at ct
  have hln : ∀ S : Store, builtinV Try.prog S .len [40] [.d (encB b)] = some (.val (.d (.int .i64 b.length)) S 0) := fun S => by rw [encB, len40, List.length_map]
  have hap := fun S => app_newS (S := S) hb0 (by omega)
  have hll : (layB b k0 (leB w v)).length = b.length := by rw [layB_len (by rw [leB_len]; omega)]
  simp (maxSteps := 1000000) (disch := first | assumption | omega | rfl) only [↓vmp, vme, vmb, ty, hP, dec_t, dec_f, wrap64, List.length_map, Int.toNat_natCast, Nat.reduceAdd, List.cons_append, List.nil_append, Option.map_some, Option.map_none, strOf_mk, sb_eql, sb_neq, vmg, ↓vgd, ↓vst, ↓vix, ↓vbs, ct, bo116, hln, bs0_40, hap]
  have e0 : rowY b = rowY (layB b k0 (leB 0 v)) := by rw [show leB 0 v = [] from rfl, layB_nil]
  rw [e0]
  refine put_l b hb k0 w v hk0 hw8 _ _ _ w 0 _ _ _ _ _ _ _ _ _ _ _ _ _ _ _ _ _ _ _ _ _ _ _ _ _ _ _ _ _ _ _ _ _ _ _ rfl (Nat.zero_le _) ?_
  intro i' g0 g2 g4 g5 g6 g7 g11 g12 g13 g14 g15 g16 g17 g18 g19 g20 g21 g22 g23 g24 g27 g28 g29 g30 g31 g32 g33 g34 g35 g36 g37 g38 g39 g40 g41
  simp (maxSteps := 1000000) (disch := first | assumption | omega | rfl) only [↓vmp, vme, vmb, ty, hP, dec_t, dec_f, wrap64, List.length_map, Int.toNat_natCast, Nat.reduceAdd, List.cons_append, List.nil_append, Option.map_some, Option.map_none, strOf_mk, sb_eql, sb_neq, vmg, ↓vgd, ↓vst, ↓vix]
  exact retQ_two rfl rfl rfl rfl (frz_Y rfl hll.symm) rfl
end Go.Proofs.Ytobgdmgldagjkaa
end
