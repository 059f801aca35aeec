/- The value machine: arguments that can be read, as data; and what a row's statement asks behind a call. -/
import Derived.ProofKit
import Derived.Deep.Slices
import Derived.OpenShut
import Derived.WalkKit
import Derived.Defers
import Derived.Recover
import Derived.Laws.Pointers
import Derived.OneCell
import Derived.Test.YtghllhghboaagaaC08
set_option linter.unusedVariables false
set_option linter.unusedSimpArgs false
set_option maxRecDepth 100000
set_option maxHeartbeats 4000000
set_option linter.defProp false
section
namespace Go.Vm
open Go.ChangeShapes Go.RowKit
inductive Ty where
 | bool
 | int (k : IntKind)
 | str
 | sl (e : Ty)
 | agg (fs : List Ty)
 deriving Inhabited
def Ty.isAgg : Ty → Bool | .agg _ => true | _ => false
def Ty.cells : Ty → List Ty | .agg fs => fs | .bool => [.bool] | .int k => [.int k] | .str => [.str] | .sl e => [.sl e]
def z21 (P : Program) (g : TypeId → Option Ty) : List Field → Nat → Option (List Ty)
 | [], _ => some []
 | f :: r, off => match g f.type with
  | some x => if f.offset = off ∧ P.cellsOf f.type = x.cells.length then match z21 P g r (off + x.cells.length) with
   | some l => some (x.cells ++ l)
   | none => none
   else none
  | none => none
def ofType (P : Program) : Nat → TypeId → Option Ty
 | 0, _ => none
 | n + 1, t => match P.underlying t with
  | some .bool => some .bool
  | some (.int k) => some (.int k)
  | some .string => some .str
  | some (.slice e) => match ofType P n e with
   | some x => if P.cellsOf e = x.cells.length ∧ x.cells.length ≠ 0 then some (.sl x) else none
   | none => none
  | some (.struct fs) => match z21 P (ofType P n) fs.toList 0 with
   | some l => if P.cellsOf t = l.length then some (.agg l) else none
   | none => none
  | some (.array m e) => match ofType P n e with
   | some x => if P.cellsOf e = x.cells.length ∧ P.cellsOf t = m * x.cells.length then some (.agg (List.replicate m x.cells).flatten) else none
   | none => none
  | _ => none
mutual
def HasTy : Ty → D → Prop
 | .bool, x => ∃ b, x = .bool b
 | .int k, x => ∃ n, x = .int k n ∧ k.min ≤ n ∧ n ≤ k.max
 | .str, x => ∃ s, x = .str s ∧ s.length ≤ maxLen
 | .sl e, x => ∃ xs, x = .sl xs ∧ xs.length ≤ maxLen ∧ ∀ y ∈ xs, HasTy e y
 | .agg fs, x => ∃ xs, x = .agg xs ∧ HasL fs xs
def HasL : List Ty → List D → Prop
 | [], xs => xs = []
 | t :: ts, xs => ∃ y r, xs = y :: r ∧ HasTy t y ∧ HasL ts r
end
theorem zcm {t : Ty} {x : D} (h : HasTy t x) : x.isAgg = t.isAgg := by
 cases t <;> simp only [HasTy] at h <;> obtain ⟨_, rfl, _⟩ := h <;> rfl
theorem z59 : ∀ {ts us : List Ty} {xs ys : List D}, HasL ts xs → HasL us ys → HasL (ts ++ us) (xs ++ ys)
 | [], us, xs, ys, h, h' => by simp only [HasL] at h; subst h; exact h'
 | t :: ts, us, xs, ys, h, h' => by
  simp only [HasL] at h
  obtain ⟨y, r, rfl, h1, h2⟩ := h
  simp only [List.cons_append, HasL]
  exact ⟨y, r ++ ys, rfl, h1, z59 h2 h'⟩
theorem z8e {t : Ty} {x : D} (h : HasTy t x) : HasL t.cells x.cells := by
 cases t with
 | agg fs => simp only [HasTy] at h; obtain ⟨xs, rfl, h⟩ := h; exact h
 | _ =>
  have h' := h
  simp only [HasTy] at h
  obtain ⟨_, rfl, _⟩ := h
  simp only [Ty.cells, D.cells, HasL]
  exact ⟨_, [], rfl, h', rfl⟩
section
variable {P : Program} {H : Type} {enc : TypeId × Value → H} {w : World}
theorem za6 {α β : Type} {f : α → Option β} {x : α} {r : List α} {ys : List β} (h : (x :: r).mapM f = some ys) : ∃ y zs, f x = some y ∧ r.mapM f = some zs ∧ ys = y :: zs := by
 rw [List.mapM_cons] at h
 cases h1 : f x with
 | none => simp [h1] at h
 | some y =>
  cases h2 : r.mapM f with
  | none => simp [h1, h2] at h
  | some zs => simp [h1, h2] at h; exact ⟨y, zs, rfl, rfl, h.symm⟩
theorem zc4 {α β : Type} {f : α → Option β} {ys : List β} (h : ([] : List α).mapM f = some ys) : ys = [] := by simpa using h.symm
theorem cells?_spec {base : Nat} {a : Addr} {n : Nat} {us : List Value} (h : w.cells? base a n = some us) : us.length = n ∧ ∀ j v, us[j]? = some v → w.cell? (a.add j) = some v := by
 unfold World.cells? at h
 split at h
 ·have key : ∀ (m s : Nat) (us : List Value), (List.range' s m).mapM (fun i => w.cell? (a.add i)) = some us → us.length = m ∧ ∀ j v, us[j]? = some v → w.cell? (a.add (s + j)) = some v := by
   intro m
   induction m with
   | zero => intro s us h; have := zc4 h; subst this; exact ⟨rfl, fun j v h => by simp at h⟩
   | succ m ih =>
    intro s us h
    rw [List.range'_succ] at h
    obtain ⟨y, zs, h1, h2, rfl⟩ := za6 h
    obtain ⟨g1, g2⟩ := ih (s + 1) zs h2
    refine ⟨by simp [g1], fun j v hj => ?_⟩
    cases j with
    | zero => simp at hj; subst hj; exact h1
    | succ j => simp at hj; have := g2 j v hj; rw [show s + (j + 1) = s + 1 + j by omega]; exact this
  rw [List.range_eq_range'] at h
  obtain ⟨g1, g2⟩ := key n 0 us h
  exact ⟨g1, fun j v hj => by simpa using g2 j v hj⟩
 ·cases h
theorem zi0 {a : Addr} {us : List Value} (hne : us ≠ []) (h : ∀ j v, us[j]? = some v → w.cell? (a.add j) = some v) : a.spot = none ∧ a.block < w.heap.size ∧ CellsAt w a.block a.off us := by
 have h0 : ∃ v, us[0]? = some v := by cases us with | nil => exact absurd rfl hne | cons x r => exact ⟨x, rfl⟩
 obtain ⟨v, hv⟩ := h0
 have := h 0 v hv
 rw [Addr.add_zero'] at this
 unfold World.cell? at this
 cases hb : w.heap[a.block]? with
 | none => simp [hb] at this
 | some o =>
  cases o with
  | cells c e f =>
   simp only [hb] at this
   split at this
   ·cases this
   ·rename_i hs
    refine ⟨by simpa using hs, wE hb, c, e, f, hb, fun j v hj => ?_⟩
    have := h j v hj
    unfold World.cell? at this
    have hbl : (a.add j).block = a.block := by unfold Addr.add; split <;> rfl
    have hoff : (a.add j).off = a.off + j := by unfold Addr.add; split <;> simp_all
    simp only [hbl, hb] at this
    split at this
    ·cases this
    ·rw [hoff] at this; exact this
  | _ => simp [hb] at this
theorem zec (a : Addr) (m n : Nat) : (a.add m).add n = a.add (m + n) := by
 unfold Addr.add
 by_cases h : m = 0 <;> by_cases h' : n = 0 <;> simp [h, h', Nat.add_assoc]
abbrev Old (w : World) (b : Nat) : Prop := b < w.heap.size
theorem z3i {A : Nat → Prop} : ∀ {xs ys : List D} {us vs : List Value}, RepL A w xs us → RepL A w ys vs → RepL A w (xs ++ ys) (us ++ vs)
 | [], ys, us, vs, h, h' => by simp only [RepL] at h; subst h; exact h'
 | x :: r, ys, us, vs, h, h' => by
  simp only [RepL] at h
  obtain ⟨v, us', rfl, h1, h2, h3⟩ := h
  simp only [List.cons_append, RepL]
  exact ⟨v, us' ++ vs, rfl, h1, h2, z3i h3 h'⟩
theorem zan {base : Nat} {spare : Nat → Bool} {held : Bool} {g : TypeId → Option Ty} {cs : List Value} {fu : Nat} (ih : ∀ {t : TypeId} {cs : List Value} {z : DataW H × List MemPlace} {T : Ty}, DataW.trod enc P w base spare held fu t cs = some z → g t = some T → ∃ x, HasTy T x ∧ RepC (Old w) w x cs) :
  ∀ {l : List Field} {off : Nat} {ts : List Ty}, z21 P g l off = some ts → (∀ f ∈ l, ∃ z, DataW.trod enc P w base spare held fu f.type ((cs.drop f.offset).take (P.cellsOf f.type)) = some z) → ∃ xs, HasL ts xs ∧ RepL (Old w) w xs ((cs.drop off).take ts.length)
 | [], off, ts, h, _ => by
  simp only [z21, Option.some.injEq] at h; subst h
  exact ⟨[], rfl, by simp [RepL]⟩
 | f :: r, off, ts, h, hz => by
  simp only [z21] at h
  cases hg : g f.type with
  | none => simp [hg] at h
  | some T =>
   simp only [hg] at h
   split at h
   ·rename_i hc
    obtain ⟨rfl, hc2⟩ := hc
    cases hr : z21 P g r (f.offset + T.cells.length) with
    | none => simp [hr] at h
    | some l =>
     simp only [hr, Option.some.injEq] at h; subst h
     obtain ⟨z, hz1⟩ := hz f (by simp)
     obtain ⟨x, hx, hrx⟩ := ih hz1 hg
     obtain ⟨xs, h1, h2⟩ := zan ih hr (fun f' hf' => hz f' (by simp [hf']))
     refine ⟨x.cells ++ xs, z59 (z8e hx) h1, ?_⟩
     have e : (cs.drop f.offset).take (T.cells ++ l).length = (cs.drop f.offset).take (P.cellsOf f.type) ++ (cs.drop (f.offset + T.cells.length)).take l.length := by
      rw [List.length_append, List.take_add, hc2, List.drop_drop]
     rw [e]
     exact z3i (vO hrx) h2
   ·cases h
theorem zmt {base : Nat} {spare : Nat → Bool} {held : Bool} : ∀ (n : Nat) (fuel : Nat) {t : TypeId} {cs : List Value} {z : DataW H × List MemPlace} {T : Ty}, DataW.trod enc P w base spare held fuel t cs = some z → ofType P n t = some T → ∃ x, HasTy T x ∧ RepC (Old w) w x cs := by
 intro n
 induction n with
 | zero => intro fuel t cs z T h hT; simp [ofType] at hT
 | succ n ih =>
  intro fuel t cs z T h hT
  simp only [ofType] at hT
  cases hu : P.underlying t with
  | none => simp [hu] at hT
  | some td =>
   simp only [hu] at hT
   cases td with
   | bool =>
    simp only [Option.some.injEq] at hT; subst hT
    obtain ⟨b, rfl, _⟩ := DataW.trod_bool hu h
    exact ⟨.bool b, ⟨b, rfl⟩, by simp [RepC]⟩
   | int k =>
    simp only [Option.some.injEq] at hT; subst hT
    obtain ⟨m, rfl, _, hwf⟩ := DataW.trod_int hu h
    exact ⟨.int k m, ⟨m, rfl, by simpa [Lit.wf] using hwf⟩, by simp [RepC]⟩
   | string =>
    simp only [Option.some.injEq] at hT; subst hT
    obtain ⟨s, rfl, _, hl⟩ := DataW.trod_string hu h
    exact ⟨.str s.data.toList, ⟨_, rfl, hl⟩, by simp [RepC]⟩
   | slice e =>
    simp only at hT
    cases he : ofType P n e with
    | none => simp [he] at hT
    | some E =>
     simp only [he] at hT
     split at hT
     ·rename_i hc
      obtain ⟨hc, hne⟩ := hc
      simp only [Option.some.injEq] at hT; subst hT
      rcases Go.Deep.open_slice hu h with ⟨rfl, _⟩ | ⟨a, len, cap, m, fu, D0, Pl, rfl, _, hle, hcap, hm, _, hel⟩
      ·refine ⟨.sl [], ⟨[], rfl, by simp, by simp⟩, ?_⟩
       simp only [RepC]
       exact ⟨none, 0, rfl, Nat.le_refl _, .inl trivial⟩
      ·have hlm : len ≤ m := by rw [hm]; split <;> omega
       rw [hc] at hel
       have key : ∀ (l s : Nat), s + l ≤ m → ∃ xs us, xs.length = l ∧ us.length = l * E.cells.length ∧ (∀ y ∈ xs, HasTy E y) ∧ RepE (Old w) w E.cells.length xs us ∧ ∀ j v, us[j]? = some v → w.cell? (a.add (s * E.cells.length + j)) = some v := by
        intro l
        induction l with
        | zero => intro s _; exact ⟨[], [], rfl, by simp, by simp, by simp [RepE], fun j v h => by simp at h⟩
        | succ l ihl =>
         intro s hs
         obtain ⟨cs', g1, g2⟩ := hel s (by omega)
         obtain ⟨x, hx, hr⟩ := ih fu g2 he
         obtain ⟨k1, k2⟩ := cells?_spec g1
         obtain ⟨xs, us, f1, f2, f3, f4, f5⟩ := ihl (s + 1) (by omega)
         refine ⟨x :: xs, cs' ++ us, by simp [f1], by simp [k1, f2, Nat.succ_mul]; omega, fun y hy => ?_, ?_, fun j v hj => ?_⟩
         ·rcases List.mem_cons.1 hy with rfl | hy
          ·exact hx
          ·exact f3 y hy
         ·simp only [RepE]
          exact ⟨cs', us, rfl, k1, hr, f4⟩
         ·rw [List.getElem?_append] at hj
          split at hj
          ·have := k2 j v hj
           rwa [zec] at this
          ·rename_i hlt
           have := f5 _ v hj
           rw [show s * E.cells.length + j = (s + 1) * E.cells.length + (j - cs'.length) by rw [Nat.succ_mul]; omega]
           exact this
       obtain ⟨xs, us, f1, f2, f3, f4, f5⟩ := key len 0 (by omega)
       refine ⟨.sl xs, ⟨xs, rfl, by omega, f3⟩, ?_⟩
       simp only [RepC]
       refine ⟨some a, cap, by rw [f1], by omega, ?_⟩
       by_cases h0 : xs = []
       ·exact .inl h0
       ·right
        have hne' : us ≠ [] := by
         intro hn
         rw [hn] at f2
         simp only [List.length_nil] at f2
         have : len ≠ 0 := by
          intro h00; rw [h00] at f1; exact h0 (List.length_eq_zero_iff.1 f1)
         have := Nat.mul_ne_zero this hne
         omega
        obtain ⟨c1, c2, c3⟩ := zi0 hne' (fun j v hj => by simpa using f5 j v hj)
        exact ⟨a, _, us, rfl, c1, c2, c3, f4⟩
     ·cases hT
   | struct fs =>
    simp only at hT
    cases hf : z21 P (ofType P n) fs.toList 0 with
    | none => simp [hf] at hT
    | some l =>
     simp only [hf] at hT
     split at hT
     ·rename_i hc
      simp only [Option.some.injEq] at hT; subst hT
      obtain ⟨xs, fu, _, _, hl, hxl, hel⟩ := DataW.trod_struct hu h
      obtain ⟨ys, h1, h2⟩ := zan (fun a b => ih fu a b) hf (fun f hf' => by
       obtain ⟨i, hi⟩ := List.getElem?_of_mem hf'
       have hi' : fs[i]? = some f := by simpa using hi
       have := hel i f hi'
       have hlt : i < xs.length := by
        rw [hxl]
        rcases Nat.lt_or_ge i fs.size with h' | h'
        ·exact h'
        ·simp [h'] at hi'
       exact ⟨xs[i], by rw [this]; simp [hlt]⟩)
      refine ⟨.agg ys, ⟨ys, rfl, h1⟩, ?_⟩
      simp only [RepC]
      rw [List.drop_zero, List.take_of_length_le (by omega)] at h2
      exact h2
     ·cases hT
   | array m e =>
    simp only at hT
    cases he : ofType P n e with
    | none => simp [he] at hT
    | some E =>
     simp only [he] at hT
     split at hT
     ·rename_i hc
      obtain ⟨hc, hc2⟩ := hc
      simp only [Option.some.injEq] at hT; subst hT
      obtain ⟨xs, fu, _, _, hl, hxl, hel⟩ := DataW.trod_array hu h
      rw [hc] at hel
      have key : ∀ (l s : Nat), s + l ≤ m → ∃ ys, HasL (List.replicate l E.cells).flatten ys ∧ RepL (Old w) w ys ((cs.drop (s * E.cells.length)).take (l * E.cells.length)) := by
       intro l
       induction l with
       | zero => intro s _; exact ⟨[], by simp [HasL], by simp [RepL]⟩
       | succ l ihl =>
        intro s hs
        have hlt : s < xs.length := by omega
        have h0 := hel s (by omega)
        rw [List.getElem?_eq_getElem hlt] at h0
        obtain ⟨x, hx, hr⟩ := ih fu h0 he
        obtain ⟨ys, f1, f2⟩ := ihl (s + 1) (by omega)
        refine ⟨x.cells ++ ys, by rw [List.replicate_succ, List.flatten_cons]; exact z59 (z8e hx) f1, ?_⟩
        have e : (cs.drop (s * E.cells.length)).take ((l + 1) * E.cells.length) = (cs.drop (s * E.cells.length)).take E.cells.length ++ (cs.drop ((s + 1) * E.cells.length)).take (l * E.cells.length) := by
         rw [Nat.succ_mul, Nat.add_comm (l * _), List.take_add, List.drop_drop, Nat.succ_mul]
        rw [e]
        exact z3i (vO hr) f2
      obtain ⟨ys, f1, f2⟩ := key m 0 (by omega)
      refine ⟨.agg ys, ⟨ys, rfl, f1⟩, ?_⟩
      simp only [RepC]
      rw [Nat.zero_mul, List.drop_zero, List.take_of_length_le (by omega)] at f2
      exact f2
     ·cases hT
   | _ => simp at hT
def zlx (P : Program) (n : Nat) : List TypeId → Option (List Ty) := allO (ofType P n)
theorem zj2 {r : Reach} {base : Nat} {t : TypeId} {v : Value} {n : Nat} {T : Ty} (hT : ofType P n t = some T) (hok : Value.okWide P w r base t v) : (T.isAgg = true ∧ ∃ us, v = .agg us) ∨ (T.isAgg = false ∧ v.cells = #[v]) := by
 cases n with
 | zero => simp [ofType] at hT
 | succ n =>
  simp only [ofType] at hT
  unfold Value.okWide at hok
  cases hu : P.underlying t with
  | none => simp [hu] at hT
  | some td =>
   simp only [hu] at hT hok
   cases td with
   | bool =>
    simp only [Option.some.injEq] at hT; subst hT
    refine .inr ⟨rfl, ?_⟩
    simp only [Cell.okWide, hu] at hok
    cases v <;> simp_all [Cell.ok, Value.cells]
   | int k =>
    simp only [Option.some.injEq] at hT; subst hT
    refine .inr ⟨rfl, ?_⟩
    simp only [Cell.okWide, hu] at hok
    cases v <;> simp_all [Cell.ok, Value.cells]
   | string =>
    simp only [Option.some.injEq] at hT; subst hT
    refine .inr ⟨rfl, ?_⟩
    simp only [Cell.okWide, hu] at hok
    cases v <;> simp_all [Cell.ok, Value.cells]
   | slice e =>
    simp only at hT
    cases he : ofType P n e with
    | none => simp [he] at hT
    | some E =>
     simp only [he] at hT
     split at hT
     ·simp only [Option.some.injEq] at hT; subst hT
      refine .inr ⟨rfl, ?_⟩
      simp only [Cell.okWide, hu] at hok
      cases v <;> simp_all [Cell.ok, Value.cells]
     ·cases hT
   | struct fs =>
    simp only at hT
    cases hf : z21 P (ofType P n) fs.toList 0 with
    | none => simp [hf] at hT
    | some l =>
     simp only [hf] at hT
     split at hT
     ·simp only [Option.some.injEq] at hT; subst hT
      obtain ⟨cs, h, _⟩ := hok
      exact .inl ⟨rfl, cs, h⟩
     ·cases hT
   | array m e =>
    simp only at hT
    cases he : ofType P n e with
    | none => simp [he] at hT
    | some E =>
     simp only [he] at hT
     split at hT
     ·simp only [Option.some.injEq] at hT; subst hT
      obtain ⟨cs, h, _⟩ := hok
      exact .inl ⟨rfl, cs, h⟩
     ·cases hT
   | _ => simp at hT
theorem open_all {base : Nat} {spare : Nat → Bool} {held : Bool} {r : Reach} {b0 : Nat} {n : Nat} : ∀ {ts : List TypeId} {vs : List Value} {ds : List (DataW H)} {ps : List MemPlace} {Ts : List Ty}, DataW.TrodAll enc P w base spare held ts vs ds ps → zlx P n ts = some Ts →
  (∀ (j : Nat) t v, ts[j]? = some t → vs[j]? = some v → Value.okWide P w r b0 t v) → ∃ xs, HasL Ts xs ∧ RepS (Old w) w xs vs
 | [], vs, ds, ps, Ts, h, hT, _ => by
  simp only [zlx, allO, Option.some.injEq] at hT; subst hT
  cases vs with
  | nil => exact ⟨[], rfl, by simp [RepS]⟩
  | cons v vs => cases ds <;> simp [DataW.TrodAll] at h
 | t :: ts, vs, ds, ps, Ts, h, hT, hok => by
  obtain ⟨T, Ts', h1, h2, rfl⟩ := vT hT
  cases vs with
  | nil => simp [DataW.TrodAll] at h
  | cons v vs =>
   cases ds with
   | nil => simp [DataW.TrodAll] at h
   | cons d ds =>
    obtain ⟨p, q, ⟨fu, hd⟩, hr, rfl⟩ := h
    obtain ⟨x, hx, hrx⟩ := zmt n fu hd h1
    obtain ⟨xs, g1, g2⟩ := open_all hr h2 (fun j t v hj hv => hok (j + 1) t v (by simpa using hj) (by simpa using hv))
    refine ⟨x :: xs, by simp only [HasL]; exact ⟨x, xs, rfl, hx, g1⟩, ?_⟩
    simp only [RepS]
    refine ⟨v, vs, rfl, ?_, g2⟩
    rcases zj2 h1 (hok 0 t v (by simp) (by simp)) with ⟨e1, us, rfl⟩ | ⟨e1, e2⟩
    ·exact .inl ⟨by rw [zcm hx, e1], us, rfl, by simpa [Value.cells] using hrx⟩
    ·exact .inr ⟨by rw [zcm hx, e1], by rw [e2] at hrx; simpa using hrx⟩
theorem trodAll_len {base : Nat} {spare : Nat → Bool} {held : Bool} : ∀ {ts : List TypeId} {vs : List Value} {ds : List (DataW H)} {ps : List MemPlace}, DataW.TrodAll enc P w base spare held ts vs ds ps → ds.length = ts.length
 | [], vs, ds, ps, h => by
  cases vs <;> cases ds <;> simp_all [DataW.TrodAll]
 | t :: ts, vs, ds, ps, h => by
  cases vs with
  | nil => simp [DataW.TrodAll] at h
  | cons v vs =>
   cases ds with
   | nil => simp [DataW.TrodAll] at h
   | cons d ds =>
    obtain ⟨p, q, _, hr, rfl⟩ := h
    simp [trodAll_len hr]
theorem trodVars_nil {T : List String} {gs : List (DataW H)} {q : List MemPlace} {own : Nat → Bool} (hT : T = []) (h : DataW.TrodVars enc P w own T gs q) : gs = [] := by
 subst hT
 cases gs with
 | nil => rfl
 | cons g gs => simp [DataW.TrodVars] at h
theorem zef {W W' : World} (hl : laidOutB P = true) (hb : Below W.heap.size W W') : ∀ {ts : List TypeId} {vs : List Value} {ds : List (DataW H)} {ps : List MemPlace}, (ts.all fun t => P.readableRec t && decide (t < P.types.size)) = true → DataW.TrodAll enc P W 0 (fun _ => true) true ts vs ds ps → (∀ x ∈ ps, x.block < W.heap.size) → DataW.TrodAll enc P W' 0 (fun b => decide (b < W.heap.size)) true ts vs ds ps
 | [], vs, ds, ps, _, h, _ => by
  cases vs <;> cases ds <;> simp_all [DataW.TrodAll]
 | t :: ts, vs, ds, ps, hr, h, hlt => by
  simp only [List.all_cons, Bool.and_eq_true, decide_eq_true_eq] at hr
  cases vs with
  | nil => simp [DataW.TrodAll] at h
  | cons v vs =>
   cases ds with
   | nil => simp [DataW.TrodAll] at h
   | cons d ds =>
    obtain ⟨p, q, hd, hrest, rfl⟩ := h
    exact ⟨p, q, Below.trod hl hr.1.1 hr.1.2 hd hb (fun x hx => hlt x (by simp [hx])), zef hl hb (by simpa using hr.2) hrest (fun x hx => hlt x (by simp [hx])), rfl⟩
theorem law_post {f : Func} {s : ChangeSpec} {apart : Bool} {W W' : World} {args : Array Value} {ds gs : List (DataW H)} {before : List MemPlace} {t : TypeId} (hl : laidOutB P = true) (hread : (f.params.toList.all fun t => P.readableRec t && decide (t < P.types.size)) = true)
  (hW : DataW.Whole enc P f.params.toList s.vars apart W args.toList ds gs before) (hv : s.vars = []) (hres : f.resultTypes = #[t]) (hu : P.underlying t = some .bool)
  (hfn : s.fn H (ds ++ gs) = { results := [.lit (.bool true)], args := ds }) (hb : Below W.heap.size W W') : s.post enc P f apart true false false W args (.bool true) W' := by
 have hlt : ∀ x ∈ before, x.block < W.heap.size := fun x hx => by simpa using hW.lt x hx
 have hW0 := hW
 obtain ⟨p, q, hA, hV, rfl, hz, hn⟩ := hW
 refine ⟨ds, gs, p ++ q, [], p, q, hW0, ?_, ?_, ?_, hb.frame _, fun h => by cases h⟩
 ·rw [hfn, hres]
  exact trodAll_mk1 (shut_bool hu true)
 ·rw [hfn]
  exact zef hl hb hread hA (fun x hx => hlt x (by simp [hx]))
 ·rw [hfn]
  rw [hv] at hV ⊢
  cases gs with
  | nil => exact hV
  | cons g gs => simp [DataW.TrodVars] at hV
theorem law_calls {C : Cfg} (hext : z3z C) (hcatch : z3x C) {n : Nat} {f : FuncId} {xs : List D} {args : Array Value} {W : World} (hrun : runD C n f xs = some (.ret (.d (.bool true)))) (hr : RepS (Old W) W xs args.toList) :
  Calls C.P f args W fun e W' => e = .returned (.bool true) ∧ Below W.heap.size W W' := by
 obtain ⟨o', ho, hcalls⟩ := z4y hext hcatch n f xs _ hrun
 have ho' : o' = .ret (.bool true) := by
  cases o' with
  | ret x => simp only [OutD.out, Out.ret.injEq, V.d.injEq] at ho; rw [ho]
  | tup xs => simp [OutD.out] at ho
  | pan x => simp [OutD.out] at ho
 subst ho'
 refine (hcalls (Old W) W args (fun b hb => hb) hr).mono fun e W' he => ?_
 cases e with
 | returned v =>
  obtain ⟨A', h1, h2⟩ := he
  have h2 := (zJ rfl).1 h2
  simp only [RepC, List.cons.injEq, and_true] at h2
  exact ⟨by rw [h2], h1.os, h1.tape, h1.output, h1.size, h1.old⟩
 | panicked c => obtain ⟨x, v, h, _⟩ := he; cases h
 | outgrown => exact he.elim
end
end Go.Vm
end
section
namespace Go.Proofs.Ytghllhghboaagaa
open Go.RowKit Go.Vm
theorem zei (p : Addr) (w : World) :
  CallsD Try.prog 75 #[.pointer (some p)] .returning w fun e u' w' => e = .returned (.tuple #[]) ∧ u' = .returning ∧ w' = w := by
 have hb0 : ∀ w : World, (binOp BinOp.neq 20 .nilIface .nilIface).run Try.prog w = .ok (.bool false) w := fun _ => by kernel_rfl
 refine callsD_of_wpS Try.func75 rfl fun c₀ cs hu => ?_
 apply wpS_seq
 apply wpS_region
 simp [wpOpsS, go_sem, recoverD, hu, Try.ntmps75, Exit.thenS]
 apply wpS_seq
 apply wpS_region
 simp [wpOpsS, go_sem, Exit.thenS, hb0]
 refine wpS_cond (t := false) (by simp [Act.eval, Array.replicate]) ?_
 simp only [Bool.false_eq_true, if_false]
 refine wpS_of_wp (wp_skip ?_)
 cases c₀
 simp_all [bodyPostS, results, Try.results75]
theorem zfd (p : Addr) (n : Int) (u0 : Value) (older : List PanicEntry) (w : World) (hc : w.cell? p = some u0) (hz : w.frozen? p = false) :
  CallsD Try.prog 75 #[.pointer (some p)] (.panicking ({ v := .iface 41 (.int .i64 n), recovered := false } :: older)) w fun e u' w' =>
   e = .returned (.tuple #[]) ∧ u' = .panicking ({ v := .iface 41 (.int .i64 n), recovered := true } :: older) ∧ w' = (w.setCell p (.int .i64 1)).setCell p (.int .i64 n) := by
 have hb1 : ∀ (w : World) (v : Value), (binOp BinOp.neq 20 (.iface 41 v) .nilIface).run Try.prog w = .ok (.bool true) w := fun _ _ => by kernel_rfl
 have hta : ∀ (w : World) (v : Value), (Instr.typeAssert (.iface 41 v) 20 41 true).run Try.prog w = .ok (.tuple #[v, .bool true]) w := fun _ _ => by kernel_rfl
 refine callsD_of_wpS Try.func75 rfl fun c₀ cs hu => ?_
 apply wpS_seq
 apply wpS_region
 simp [wpOpsS, go_sem, recoverD, hu, Try.ntmps75, Exit.thenS]
 apply wpS_seq
 apply wpS_region
 simp [wpOpsS, go_sem, Exit.thenS, hb1]
 refine wpS_cond (t := true) (by simp [Act.eval, Array.replicate]) ?_
 simp only [if_true]
 apply wpS_seq
 apply wpS_region
 simp [wpOpsS, go_sem, hc, hz, Exit.thenS]
 apply wpS_seq
 apply wpS_region
 simp [wpOpsS, go_sem, Exit.thenS, hta]
 apply wpS_seq
 apply wpS_region
 simp [wpOpsS, go_sem, Exit.thenS]
 refine wpS_cond (t := true) (by simp [Act.eval, Array.replicate]) ?_
 simp only [if_true]
 have hc2 : (w.setCell p (.int .i64 1)).cell? p = some (.int .i64 1) := World.cell?_setCell_same _ _ _ hc
 have hz2 : (w.setCell p (.int .i64 1)).frozen? p = false := by simp [go_sem, hz]
 apply wpS_region
 simp [wpOpsS, go_sem, hc2, hz2, bodyPostS, results, Try.results75]
theorem zhp (g : FuncId) (hb : (zC Try.prog g).isSome = true) (fa ca : Array Value) (w : World) (R : Ending → World → Prop)
  (hg : Calls Try.prog g (fa ++ ca) (w.alloc (.cells #[.int .i64 0] 41)) fun e w' => match e with
   | .returned _ => ∃ u0, w'.cell? ⟨w.heap.size, 0, Option.none⟩ = some u0 ∧ w'.frozen? ⟨w.heap.size, 0, Option.none⟩ = false ∧ R (.returned (.int .i64 0)) (w'.setCell ⟨w.heap.size, 0, Option.none⟩ (.int .i64 0))
   | .panicked c => ∃ n u0, c = [{ v := .iface 41 (.int .i64 n), recovered := false }] ∧ w'.cell? ⟨w.heap.size, 0, Option.none⟩ = some u0 ∧ w'.frozen? ⟨w.heap.size, 0, Option.none⟩ = false ∧ R (.returned (.int .i64 n)) ((w'.setCell ⟨w.heap.size, 0, Option.none⟩ (.int .i64 1)).setCell ⟨w.heap.size, 0, Option.none⟩ (.int .i64 n))
   | .outgrown => False) :
  Calls Try.prog 42 #[.func (.func g) fa ca] w R := by
 have hmf : ∀ (fn : Fn) (first cap : Array Value) (w : World), (Instr.makeFunc fn first cap).run Try.prog w = .ok (.func fn first cap) w := fun _ _ _ _ => rfl
 have hcf : ∀ (us : Array Value) (w : World), (callFunc g us).run Try.prog w = .ok (.enter g us) w := fun us w => z24 hb us w
 go_enter_defers Try.func42, Try.ntmps42
 set_option maxRecDepth 20000 in go_wp2
 refine hg.mono ?_
 rintro e w' he
 cases e with
 | returned v =>
  obtain ⟨u0, hc, hz, hR⟩ := he
  have hc2 : (w'.setCell ⟨w.heap.size, 0, Option.none⟩ (.int .i64 0)).cell? ⟨w.heap.size, 0, Option.none⟩ = some (.int .i64 0) := World.cell?_setCell_same _ _ _ hc
  go_wp2
  refine leaves_cons (f := 75) (args := #[.pointer (some ⟨w.heap.size, 0, Option.none⟩)]) (by simp) (by simp [go_sem]) ?_
  refine (zei ⟨w.heap.size, 0, Option.none⟩ _).mono ?_
  rintro e u' w'' ⟨rfl, rfl, rfl⟩
  simp [Leaves, settle, results, Try.results42, go_sem, hc2]
  exact hR
 | panicked c =>
  obtain ⟨n, u0, rfl, hc, hz, hR⟩ := he
  have hc1 : (w'.setCell ⟨w.heap.size, 0, Option.none⟩ (.int .i64 1)).cell? ⟨w.heap.size, 0, Option.none⟩ = some (.int .i64 1) := World.cell?_setCell_same _ _ _ hc
  have hc2 : ((w'.setCell ⟨w.heap.size, 0, Option.none⟩ (.int .i64 1)).setCell ⟨w.heap.size, 0, Option.none⟩ (.int .i64 n)).cell? ⟨w.heap.size, 0, Option.none⟩ = some (.int .i64 n) := World.cell?_setCell_same _ _ _ hc1
  refine leaves_cons (f := 75) (args := #[.pointer (some ⟨w.heap.size, 0, Option.none⟩)]) (by simp) (by simp [go_sem]) ?_
  refine (zfd ⟨w.heap.size, 0, Option.none⟩ n u0 [] _ hc hz).mono ?_
  rintro e u' w'' ⟨rfl, rfl, rfl⟩
  simp [Leaves, settle, results, Try.results42, go_sem, hc2]
  exact hR
 | outgrown => exact he.elim
end Go.Proofs.Ytghllhghboaagaa
namespace Go.Vm
section
variable {P : Program} {S S' : zA} {ρ ρ' : Nat → Nat} {A A' : Nat → Prop} {w w' w3 : World}
theorem aside {b0 : Nat} (h : Inv P S' ρ' A' w') (hs : Step S ρ A w S' ρ' A' w') (hb0 : w.heap.size ≤ b0) (ho : ¬ zga S' ρ' b0) (ha : ¬ A' b0) (hsz : w3.heap.size = w'.heap.size) (hold : ∀ b, b ≠ b0 → w3.heap[b]? = w'.heap[b]?) (h1 : w3.os = w'.os) (h2 : w3.tape = w'.tape) (h3 : w3.output = w'.output) :
  Inv P S' ρ' A' w3 ∧ Step S ρ A w S' ρ' A' w3 := by
 have hA : ∀ b, A' b → w3.heap[b]? = w'.heap[b]? := fun b hb => hold b (fun hh => ha (hh ▸ hb))
 have hlive : ∀ id o, S'[id]? = some o → o.live = true → ρ' id ≠ b0 := fun id o hi hl hh => ho ⟨id, o, hi, hl, hh⟩
 have hle : SLe S' ρ' w' S' ρ' w3 := by
  intro id o hi hne
  refine ⟨o, hi, o.le_refl, ?_⟩
  have hok := h.ok id o hi
  have fin : ρ' id ≠ b0 → o = .dead ∨ (ρ' id = ρ' id ∧ ∀ c e f, w'.heap[ρ' id]? = some (.cells c e f) → ∃ c' e' f', w3.heap[ρ' id]? = some (.cells c' e' f') ∧ c'.size = c.size) := fun hne => .inr ⟨rfl, fun c e f hc => ⟨c, e, f, (hold _ hne).trans hc, rfl⟩⟩
  cases o with
  | dead => exact .inl rfl
  | hole => exact absurd rfl hne
  | row xs e => exact fin (hlive id _ hi rfl)
  | mp es c => exact fin (hlive id _ hi rfl)
  | iter s p => exact fin (hlive id _ hi rfl)
  | mit a b c d => exact fin (hlive id _ hi rfl)
  | fz xs e => simp only [ObOk] at hok; obtain ⟨_, _, _, _, _, _, hh, _⟩ := hok; exact fin (fun hx => ha (hx ▸ hh))
  | fm es => simp only [ObOk] at hok; obtain ⟨_, _, hh, _⟩ := hok; exact fin (fun hx => ha (hx ▸ hh))
 refine ⟨⟨fun id o hi => (h.ok id o hi).mono (fun _ h => h) hA hle (fun hl => hold _ (hlive id o hi hl)), h.inj, h.own, fun b hb => by rw [hsz]; exact h.lt b hb⟩,
  ⟨h1.trans hs.os, h2.trans hs.tape, h3.trans hs.output, by rw [hsz]; exact hs.size, fun b hb hn => (hold b (by omega)).trans (hs.keep b hb hn), fun b hb => (hA b (hs.amono b hb)).trans (hs.keepA b hb), hs.amono, hs.anew, hs.onew, hs.sle.trans hle⟩⟩
end
end Go.Vm
namespace Go.Proofs.Ytghllhghboaagaa
open Go.RowKit Go.Vm
theorem zbf {C : Cfg} (hP : C.P = Try.prog) (hc : ∀ f, C.catch_ f = if f = 42 then some z2f else Option.none) : z3x C := by
 intro f post hf S S' g o v hv ρ A w fa ca hI hb hcalls
 rw [hc] at hf
 split at hf
 ·rename_i hf42
  subst hf42
  simp only [Option.some.injEq] at hf
  subst hf
  have hb : (zC Try.prog g).isSome = true := by
   rcases hb with hb | hb
   ·rw [hP] at hb; exact hb
   ·rw [hc] at hb
    split at hb
    ·rename_i h; rw [h]; kernel_rfl
    ·cases hb
  obtain ⟨hI1, hs1⟩ := hI.world (w' := w.alloc (.cells #[.int .i64 0] 41)) (by simp) (fun b hb => wF _ hb) rfl rfl rfl
  have hg := hcalls ρ A _ hI1 hs1
  rw [hP] at hg hI hI1 ⊢
  have hno : ¬ zga S ρ w.heap.size := by
   rintro ⟨id, o', h1, h2, h3⟩
   have := (hI.ok id o' h1).lt (by rintro rfl; cases h2) (by rintro rfl; cases h2)
   omega
  have hnA : ¬ A w.heap.size := fun hh => by have := hI.lt _ hh; omega
  refine zhp g hb fa ca w _ (hg.mono fun e w' he => ?_)
  have key : ∀ {ρ' : Nat → Nat} {A' : Nat → Prop}, Go.Vm.Inv Try.prog S' ρ' A' w' → Step S ρ A (w.alloc (.cells #[.int .i64 0] 41)) S' ρ' A' w' →
    w'.heap[w.heap.size]? = some (.cells #[.int .i64 0] 41 (0, 0)) ∧ (∀ w3 : World, w3.heap.size = w'.heap.size → (∀ b, b ≠ w.heap.size → w3.heap[b]? = w'.heap[b]?) → w3.os = w'.os → w3.tape = w'.tape → w3.output = w'.output → Go.Vm.Inv Try.prog S' ρ' A' w3 ∧ Step S ρ A w S' ρ' A' w3) := fun {ρ' A'} hI2 hs2 => by
   have hlt : w.heap.size < (w.alloc (.cells #[.int .i64 0] 41)).heap.size := by simp
   refine ⟨(hs2.keep _ hlt hno).trans (jY _), fun w3 a b c d e => aside hI2 (hs1.trans hs2) (Nat.le_refl _) (fun hh => ?_) (fun hh => ?_) a b c d e⟩
   ·rcases hs2.onew _ hh with hh | hh
    ·exact hno hh
    ·omega
   ·rcases hs2.anew _ hh with hh | hh | hh
    ·exact hnA hh
    ·exact hno hh
    ·omega
  cases e with
  | returned x =>
   obtain ⟨y, rfl, ρ', A', hI2, hs2, hr⟩ := he
   obtain ⟨hcell, hset⟩ := key hI2 hs2
   have hv : v = .d (.int .i64 0) := by simpa [z2f] using hv.symm
   subst hv
   refine ⟨_, cell_of_one hcell, free_of_one hcell, _, rfl, ρ', A', ?_⟩
   obtain ⟨k1, k2⟩ := hset (w'.setCell ⟨w.heap.size, 0, Option.none⟩ (.int .i64 0)) (by simp [World.setCell]) (fun b hb => Below.heap_setCell _ _ _ _ hb) rfl rfl rfl
   exact ⟨k1, k2, zY (kL.2 ((zJ rfl).2 (by simp [RepC])))⟩
  | panicked c =>
   obtain ⟨y, u, rfl, rfl, ρ', A', hI2, hs2, hr⟩ := he
   obtain ⟨hcell, hset⟩ := key hI2 hs2
   have hn : ∃ n, v = .d (.int .i64 n) ∧ u = .iface 41 (.int .i64 n) := by
    unfold z2f at hv
    split at hv
    ·rename_i heq; cases heq
    ·rename_i n heq
     cases heq
     simp only [Option.some.injEq] at hv
     have hq := (zP rfl).1 hr
     simp only [zW, List.cons.injEq, and_true] at hq
     obtain ⟨v', h0, hq⟩ := hq
     rcases hq with ⟨h1, _⟩ | ⟨_, hq⟩
     ·cases h1
     ·simp only [RepC, List.cons.injEq, and_true] at hq
      exact ⟨n, hv.symm, by rw [h0, hq]⟩
    ·rename_i n heq
     cases heq
     simp only [Option.some.injEq] at hv
     have hq := (zJ rfl).1 (kL.1 hr)
     simp only [RepC, List.cons.injEq, and_true] at hq
     obtain ⟨v', h0, hq⟩ := hq
     rcases hq with ⟨h1, _⟩ | ⟨_, hq⟩
     ·cases h1
     ·exact ⟨n, hv.symm, by rw [h0, hq]⟩
    ·cases hv
   obtain ⟨n, rfl, rfl⟩ := hn
   refine ⟨n, _, rfl, cell_of_one hcell, free_of_one hcell, _, rfl, ρ', A', ?_⟩
   obtain ⟨k1, k2⟩ := hset ((w'.setCell ⟨w.heap.size, 0, Option.none⟩ (.int .i64 1)).setCell ⟨w.heap.size, 0, Option.none⟩ (.int .i64 n)) (by simp [World.setCell]) (fun b hb => (Below.heap_setCell _ _ _ _ hb).trans (Below.heap_setCell _ _ _ _ hb)) rfl rfl rfl
   exact ⟨k1, k2, zY (kL.2 ((zJ rfl).2 (by simp [RepC])))⟩
  | outgrown => exact he.elim
 ·cases hf
end Go.Proofs.Ytghllhghboaagaa
end
section
namespace Go.Proofs.Ytghllhghboaagaa
open Go.Vm
def zxj : Nat := 2556217590065053753436426387587072
noncomputable def cfgE (e : FuncId → Option (List D → Option Out)) : Cfg := { P := Try.prog, mixed := by kernel_rfl, shared := fun f => Nat.testBit zxj f, ext := e, catch_ := fun f => match Nat.beq f 42 with | true => some z2f | false => Option.none }
noncomputable def zf1 : Cfg := cfgE fun _ => Option.none
def ex1 : Opn := ⟨2, [47, 97], [], 0, 0, []⟩
def ex2 : Opn := ⟨1, [47, 97, 47, 98], [], 0, 0, []⟩
def ex3 : Opn := ⟨6, [47, 97], [47, 97, 47, 98, 47, 99], 0, 0, []⟩
def ex4 : Opn := ⟨6, [47, 97], [47, 97, 47, 99], 0, 0, []⟩
def tr1 : List Node := [⟨1, 2, 1, 1, 0, [], [⟨[97], 2⟩]⟩, ⟨2, 2, 1, 1, 0, [], []⟩]
def tr2 : List Node := [⟨1, 2, 1, 1, 0, [], [⟨[97], 2⟩]⟩, ⟨2, 2, 1, 1, 0, [], [⟨[98], 3⟩]⟩, ⟨3, 1, 1, 0, 0, [], []⟩]
def stO (t : List Node) (a : Ans) : Out := .ret (.tup [.d (.sl (t.map zB)), .d (zT a)])
def zjy : List (List D × Out) := [([.sl (newN.map zB), encOpn ex1], stO tr1 ⟨0, 2, 0, 0, 0, [], []⟩), ([.sl (tr1.map zB), encOpn ex2], stO tr2 ⟨0, 3, 0, 0, 0, [], []⟩), ([.sl (tr2.map zB), encOpn ex3], stO tr2 ⟨6, 0, 0, 0, 0, [], []⟩), ([.sl (tr2.map zB), encOpn ex4], stO tr2 ⟨9, 0, 0, 0, 0, [], []⟩)]
theorem st1 : runD zf1 400 19 [.sl (newN.map zB), encOpn ex1] = some (stO tr1 ⟨0, 2, 0, 0, 0, [], []⟩) := by kernel_rfl
theorem st2 : runD zf1 400 19 [.sl (tr1.map zB), encOpn ex2] = some (stO tr2 ⟨0, 3, 0, 0, 0, [], []⟩) := by kernel_rfl
theorem st3 : runD zf1 400 19 [.sl (tr2.map zB), encOpn ex3] = some (stO tr2 ⟨6, 0, 0, 0, 0, [], []⟩) := by kernel_rfl
theorem st4 : runD zf1 400 19 [.sl (tr2.map zB), encOpn ex4] = some (stO tr2 ⟨9, 0, 0, 0, 0, [], []⟩) := by kernel_rfl
theorem rt2 : runD zf1 400 26 [.sl (tr2.map zB)] = some (.ret (.d (.bool true))) := by kernel_rfl
def tabl (l : List (List D × Out)) (ds : List D) : Option Out := match l with
  | [] => Option.none
  | (k, o) :: r => if all2 (z4n 9) ds k = true then some o else tabl r ds
theorem zfg {ds : List D} {o : Out} : ∀ {l : List (List D × Out)}, tabl l ds = some o → (ds, o) ∈ l
  | [], h => by cases h
  | (k, o') :: r, h => by
    unfold tabl at h
    split at h
    · rename_i hk
      cases h
      rw [zf0 (fun _ _ h => zh3 h) hk]
      exact List.mem_cons_self
    · exact List.mem_cons_of_mem _ (zfg h)
def zn4 (f : FuncId) : Option (List D → Option Out) := match Nat.beq f 19 with
 | true => some (tabl zjy)
 | false => match Nat.beq f 26 with
  | true => some (tabl [([.sl (tr2.map zB)], .ret (.d (.bool true)))])
  | false => Option.none
theorem zr2 : runD (cfgE zn4) 400 16 [] = some (.ret (.d (.bool true))) := by kernel_rfl
theorem c42 (f : FuncId) : (match Nat.beq f 42 with | true => some z2f | false => Option.none) = if f = 42 then some z2f else Option.none := by
 by_cases h : f = 42
 ·subst h; rfl
 ·rw [if_neg h]
  have : Nat.beq f 42 = false := Bool.eq_false_iff.2 fun hh => h (Nat.eq_of_beq_eq_true hh)
  rw [this]
theorem ext0 : z3z zf1 := fun f g h => by cases h
theorem zfm {e : FuncId → Option (List D → Option Out)} : z3x (cfgE e) := zbf rfl c42
theorem zpb : z3x cfg := zbf rfl c42
theorem extE : z3z (cfgE zn4) := by
 intro f g h
 have h : zn4 f = some g := h
 unfold zn4 at h
 split at h
 ·rename_i hf
  have hf := Nat.eq_of_beq_eq_true hf
  subst hf
  cases h
  intro ds o ho
  have hm := zfg ho
  simp only [zjy, List.mem_cons, List.not_mem_nil, or_false, Prod.mk.injEq] at hm
  have : runD zf1 400 19 ds = some o := by
   rcases hm with ⟨rfl, rfl⟩ | ⟨rfl, rfl⟩ | ⟨rfl, rfl⟩ | ⟨rfl, rfl⟩
   ·exact st1
   ·exact st2
   ·exact st3
   ·exact st4
  exact z4y ext0 zfm 400 19 ds _ this
 ·split at h
  ·rename_i hf
   have hf := Nat.eq_of_beq_eq_true hf
   subst hf
   cases h
   intro ds o ho
   have hm := zfg ho
   simp only [List.mem_cons, List.not_mem_nil, or_false, Prod.mk.injEq] at hm
   obtain ⟨rfl, rfl⟩ := hm
   exact z4y ext0 zfm 400 26 _ _ rt2
  ·cases h
theorem extC : z3z cfg := by
 intro f g h
 have hf : f = 16 ∧ g = ze7 := by
  have h : (match Nat.beq f 16 with | true => some ze7 | false => Option.none) = some g := h
  by_cases e : f = 16
  ·subst e
   exact ⟨rfl, by simpa using h.symm⟩
  ·have : Nat.beq f 16 = false := Bool.eq_false_iff.2 fun hh => e (Nat.eq_of_beq_eq_true hh)
   rw [this] at h; cases h
 obtain ⟨rfl, rfl⟩ := hf
 intro ds o ho
 cases ds with
 | nil =>
  have ho : o = .ret (.d (.bool true)) := by simpa [ze7] using ho.symm
  subst ho
  exact z4y extE zfm 400 16 [] _ zr2
 | cons x r => simp [ze7] at ho
theorem ziv : Ev cfg 16 [] (.ret (.d (.bool true))) := ⟨0, rfl⟩
end Go.Proofs.Ytghllhghboaagaa
end
section
namespace Go.Proofs.Ytghllhghboaagaa
open Go.Vm
open Classical in
noncomputable def evx (C : Cfg) (f : FuncId) (ds : List D) : Option Out := if h : ∃ o, Ev C f ds o then some h.choose else Option.none
theorem zv4 {C : Cfg} {f : FuncId} {ds : List D} {o o' : Out} (h : Ev C f ds o) (h' : Ev C f ds o') : o = o' := by
 obtain ⟨n, hn⟩ := h
 obtain ⟨m, hm⟩ := h'
 have a := zll (Nat.le_max_left n m) hn
 have b := zll (Nat.le_max_right n m) hm
 rw [a] at b
 exact Option.some.inj b
theorem zly {C : Cfg} {f : FuncId} {ds : List D} {o : Out} (h : Ev C f ds o) : evx C f ds = some o := by
 have hx : ∃ o, Ev C f ds o := ⟨o, h⟩
 unfold evx
 rw [dif_pos hx]
 exact congrArg some (zv4 hx.choose_spec h)
theorem zjj {C : Cfg} {f : FuncId} {ds : List D} {o : Out} (h : evx C f ds = some o) : Ev C f ds o := by
 unfold evx at h
 split at h
 ·rename_i hx
  cases h
  exact hx.choose_spec
 ·cases h
def q1b : Nat := 2515652770819961680892785565106176
def zmx : Nat := 48725319946272567620579285270528
noncomputable def cfgS : Cfg := { P := Try.prog, mixed := by kernel_rfl, shared := fun f => Nat.testBit q1b f, ext := fun f => match Nat.testBit zmx f with | true => some (evx cfg f) | false => Option.none, catch_ := fun f => match Nat.beq f 42 with | true => some z2f | false => Option.none }
theorem hPS : cfgS.P = Try.prog := rfl
theorem lift {f : FuncId} {ds : List D} {o : Out} (hm : Nat.testBit zmx f = true) (h : Ev cfg f ds o) : Ev cfgS f ds o := by
 refine ⟨0, ?_⟩
 have hx : cfgS.ext f = some (evx cfg f) := by
  show (match Nat.testBit zmx f with | true => some (evx cfg f) | false => Option.none) = _
  rw [hm]
 unfold runD answer
 simp only [hx]
 exact zly h
theorem extS : z3z cfgS := by
 intro f g h
 have h : (match Nat.testBit zmx f with | true => some (evx cfg f) | false => Option.none) = some g := h
 split at h
 ·cases h
  intro ds o ho
  obtain ⟨n, hn⟩ := zjj ho
  exact z4y extC zpb n f ds o hn
 ·cases h
theorem zy4 : z3x cfgS := zbf rfl c42
theorem zwt : zC Try.prog 19 = some ⟨Try.f19.body.getD .skip, 38, #[.tmp 4, .cell 5 44]⟩ := by
 unfold zC
 rw [Try.func19]
 rfl
theorem bo19 : (zC Try.prog 19).isSome = true := by kernel_rfl
theorem zv6 : zC Try.prog 39 = some ⟨Try.f39.body.getD .skip, 17, #[.tmp 2]⟩ := by
 unfold zC
 rw [Try.func39]
 rfl
theorem bo39 : (zC Try.prog 39).isSome = true := by kernel_rfl
theorem zpp : zC Try.prog 41 = some ⟨Try.f41.body.getD .skip, 26, #[.tmp 2]⟩ := by
 unfold zC
 rw [Try.func41]
 rfl
theorem zze : zC Try.prog 43 = some ⟨Try.f43.body.getD .skip, 9, #[]⟩ := by
 unfold zC
 rw [Try.func43]
 rfl
theorem zxu : zC Try.prog 44 = some ⟨Try.f44.body.getD .skip, 48, #[.tmp 4]⟩ := by
 unfold zC
 rw [Try.func44]
 rfl
theorem zw4 : zC Try.prog 76 = some ⟨Try.f76.body.getD .skip, 55, #[]⟩ := by
 unfold zC
 rw [Try.func76]
 rfl
theorem zyq : zC Try.prog 77 = some ⟨Try.f77.body.getD .skip, 48, #[]⟩ := by
 unfold zC
 rw [Try.func77]
 rfl
theorem zy9 : zC Try.prog 78 = some ⟨Try.f78.body.getD .skip, 59, #[]⟩ := by
 unfold zC
 rw [Try.func78]
 rfl
theorem zyh : zC Try.prog 79 = some ⟨Try.f79.body.getD .skip, 130, #[]⟩ := by
 unfold zC
 rw [Try.func79]
 rfl
theorem zuj : zC Try.prog 80 = some ⟨Try.f80.body.getD .skip, 54, #[]⟩ := by
 unfold zC
 rw [Try.func80]
 rfl
theorem zxx : zC Try.prog 81 = some ⟨Try.f81.body.getD .skip, 46, #[]⟩ := by
 unfold zC
 rw [Try.func81]
 rfl
theorem zua : zC Try.prog 82 = some ⟨Try.f82.body.getD .skip, 29, #[]⟩ := by
 unfold zC
 rw [Try.func82]
 rfl
theorem zyb : zC Try.prog 83 = some ⟨Try.f83.body.getD .skip, 36, #[]⟩ := by
 unfold zC
 rw [Try.func83]
 rfl
theorem zzc : zC Try.prog 84 = some ⟨Try.f84.body.getD .skip, 31, #[]⟩ := by
 unfold zC
 rw [Try.func84]
 rfl
theorem zws : zC Try.prog 85 = some ⟨Try.f85.body.getD .skip, 10, #[]⟩ := by
 unfold zC
 rw [Try.func85]
 rfl
theorem zwo : zC Try.prog 86 = some ⟨Try.f86.body.getD .skip, 4, #[]⟩ := by
 unfold zC
 rw [Try.func86]
 rfl
theorem zri : zC Try.prog 106 = some ⟨Try.f106.body.getD .skip, 55, #[]⟩ := by
 unfold zC
 rw [Try.func106]
 rfl
theorem zqq : zC Try.prog 107 = some ⟨Try.f107.body.getD .skip, 14, #[.cell 4 32]⟩ := by
 unfold zC
 rw [Try.func107]
 rfl
theorem ztb : zC Try.prog 108 = some ⟨Try.f108.body.getD .skip, 73, #[]⟩ := by
 unfold zC
 rw [Try.func108]
 rfl
theorem zsp : zC Try.prog 109 = some ⟨Try.f109.body.getD .skip, 27, #[.tmp 6]⟩ := by
 unfold zC
 rw [Try.func109]
 rfl
theorem zqp : zC Try.prog 110 = some ⟨Try.f110.body.getD .skip, 23, #[.cell 4 32]⟩ := by
 unfold zC
 rw [Try.func110]
 rfl
abbrev encU (b : UInt8) : D := .int .u8 b.toNat
def SlE {α : Type} (enc : α → D) (S : zA) (v : V) (e : TypeId) (xs : List α) : Prop := (v = .ts [] ∧ xs = []) ∨ ∃ id ys, v = .rs id 0 xs.length ∧ S[id]? = some (.row ((xs ++ ys).map fun a => .d (enc a)) e)
def Keep (S S' : zA) : Prop := ∀ (j : Nat) (o : Ob), S[j]? = some o → S'[j]? = some o
theorem Keep.refl {S : zA} : Keep S S := fun _ _ h => h
theorem Keep.trans {S S' S'' : zA} (h : Keep S S') (h' : Keep S' S'') : Keep S S'' := fun j o hj => h' j o (h j o hj)
theorem Keep.app {S l : zA} : Keep S (S ++ l) := fun j o hj => by rw [List.getElem?_append_left (qN hj)]; exact hj
theorem Keep.len {S S' : zA} (h : Keep S S') : S.length ≤ S'.length := by
 cases hl : S.length with
 | zero => omega
 | succ n =>
  obtain ⟨o, ho⟩ : ∃ o, S[n]? = some o := ⟨S[n], List.getElem?_eq_getElem (by omega)⟩
  have := qN (h n o ho)
  omega
theorem Keep.set {S S' : zA} {i : Nat} {o : Ob} (h : Keep S S') (hi : S.length ≤ i) : Keep S (S'.set i o) := fun j q hj => by
 have := qN hj
 rw [List.getElem?_set_ne (by omega)]
 exact h j q hj
section
variable {α : Type} {enc : α → D} {S S' : zA} {v : V} {e : TypeId} {xs : List α}
theorem SlE.of (h : OwnS S v e (xs.map fun a => .d (enc a))) : SlE enc S v e xs := by
 rcases h with ⟨h1, h2⟩ | ⟨id, h1, h2⟩
 ·exact .inl ⟨h1, by simpa using h2⟩
 ·exact .inr ⟨id, [], by simpa using h1, by simpa using h2⟩
theorem SlE.keep (h : SlE enc S v e xs) (hk : Keep S S') : SlE enc S' v e xs := by
 rcases h with h | ⟨id, ys, h1, h2⟩
 ·exact .inl h
 ·exact .inr ⟨id, ys, h1, hk _ _ h2⟩
theorem zn0 {n : Nat} (l : List α) : allO (frz S (n + 1)) (l.map fun a => .d (enc a)) = some (l.map enc) := by
 have := zac (S := S) (n := n) (l.map enc)
 rw [List.map_map] at this
 exact this
theorem SlE.frz (h : SlE enc S v e xs) {n : Nat} : Go.Vm.frz S (n + 2) v = some (.sl (xs.map enc)) := by
 rcases h with ⟨rfl, rfl⟩ | ⟨id, ys, rfl, h1⟩
 ·rfl
 ·show (match S[id]? with
   | some (.row zs e) => if 0 + xs.length ≤ zs.length && (allO (Go.Vm.frz S (n + 1)) zs).isSome then (allO (Go.Vm.frz S (n + 1)) ((zs.drop 0).take xs.length)).map D.sl else none
   | some (.fz zs e) => if 0 + xs.length ≤ zs.length then some (D.sl ((zs.drop 0).take xs.length)) else none
   | _ => none) = _
  have h2 : (((xs ++ ys).map fun a => V.d (enc a)).drop 0).take xs.length = xs.map fun a => V.d (enc a) := by
   rw [List.drop_zero, ← List.map_take, List.take_append_of_le_length (Nat.le_refl _), List.take_length]
  simp only [h1, h2, zn0, Option.isSome_some, Bool.and_true, Option.map_some]
  rw [if_pos (by simp)]
theorem SlE.len {t e' : TypeId} (hu : Try.prog.underlying t = some (.slice e')) (h : SlE enc S v e xs) : qB Try.prog S .len [t] [v] = some (.val (.d (.int .i64 xs.length)) S 0) := by
 rcases h with ⟨rfl, rfl⟩ | ⟨id, ys, rfl, h1⟩
 ·exact zq1 hu
 ·exact zp3 hu
theorem SlE.ix {t : TypeId} {i : Nat} (hu : Try.prog.underlying t = some (.slice e)) (hz : (sz Try.prog e).isSome = true) (h : SlE enc S v e xs) (hi : i < xs.length) :
  ∃ id, qM Try.prog S t v (.d (.int .i64 i)) = some (.ref id i 0) ∧ rowE S id i = some (.d (enc xs[i])) ∧ id < S.length := by
 rcases h with ⟨rfl, rfl⟩ | ⟨id, ys, rfl, h1⟩
 ·exact absurd hi (by simp)
 ·refine ⟨id, ?_, ?_, qN h1⟩
  ·have h0 : (0 : Int) ≤ i := by omega
   have h2 : (i : Int) < xs.length := by omega
   have h3 : rowT S id e = true := by simp only [rowT, h1, beq_self_eq_true]
   simp only [qM, intOf?, hu, h0, h2, h3, hz, and_self, if_true, Int.toNat_natCast, Nat.zero_add]
  ·have h2 : ((xs ++ ys).map fun a => V.d (enc a))[i]? = some (.d (enc xs[i])) := by
    rw [List.getElem?_map, List.getElem?_append_left hi, List.getElem?_eq_getElem hi]; rfl
   simp only [rowE, h1, h2]
def idOf : V → Option Nat | .rs i _ _ => some i | _ => Option.none
theorem SlE.lt (h : SlE enc S v e xs) {i : Nat} (hi : idOf v = some i) : i < S.length := by
 rcases h with ⟨rfl, _⟩ | ⟨id, ys, rfl, h1⟩
 ·cases hi
 ·cases hi; exact qN h1
theorem SlE.frame (h : SlE enc S v e xs) {k : Nat} (hk : idOf v ≠ some k) (hf : ∀ (j : Nat) (ys : List V) (u : TypeId), j ≠ k → S[j]? = some (.row ys u) → S'[j]? = some (.row ys u)) : SlE enc S' v e xs := by
 rcases h with h | ⟨id, ys, rfl, h1⟩
 ·exact .inl h
 ·exact .inr ⟨id, ys, rfl, hf _ _ _ (fun hh => hk (by rw [hh]; rfl)) h1⟩
end
end Go.Proofs.Ytghllhghboaagaa
end
section
namespace Go.Proofs.Ytghllhghboaagaa
open Go.Vm
theorem z27 {t : List Node} {x : Int} : hasN t x = true ↔ ∃ n ∈ t, n.ino = x := by
 unfold hasN
 rw [List.find?_isSome]
 simp
theorem z5o {t : List Node} {n : Node} {x : Int} : hasN (qT t n) x = true ↔ x = n.ino ∨ hasN t x = true := by
 rw [z27, z27]
 constructor
 ·rintro ⟨m, hm, rfl⟩
  rcases wV.1 hm with rfl | ⟨h1, _⟩
  ·exact .inl rfl
  ·exact .inr ⟨m, h1, rfl⟩
 ·rintro (rfl | ⟨m, hm, rfl⟩)
  ·exact ⟨n, wV.2 (.inl rfl), rfl⟩
  ·by_cases h : m.ino = n.ino
   ·exact ⟨n, wV.2 (.inl rfl), h.symm⟩
   ·exact ⟨m, wV.2 (.inr ⟨hm, h⟩), rfl⟩
theorem zbz {t : List Node} {i x : Int} : hasN (t.filter (fun n => n.ino ≠ i)) x = true ↔ x ≠ i ∧ hasN t x = true := by
 rw [z27, z27]
 constructor
 ·rintro ⟨m, hm, rfl⟩
  obtain ⟨h1, h2⟩ := List.mem_filter.1 hm
  exact ⟨by simpa using h2, m, h1, rfl⟩
 ·rintro ⟨h, m, hm, rfl⟩
  exact ⟨m, List.mem_filter.2 ⟨hm, by simpa using h⟩, rfl⟩
theorem zr5 {t : List Node} {x : Int} (h : hasN t x = false) : getN t x = zM :=
 z1t fun n hn he => by rw [z27.2 ⟨n, hn, he⟩] at h; cases h
theorem zfs {i : Int} : ∀ {t : List Node}, Srt t → (t.filter (fun n => n.ino ≠ i)).length + (if hasN t i = true then 1 else 0) = t.length
 | [], _ => rfl
 | n :: r, h => by
  obtain ⟨h1, h2⟩ := Srt.cons.1 h
  have ih := zfs (i := i) h2
  by_cases hn : n.ino = i
  ·have e1 : r.filter (fun m => m.ino ≠ i) = r := List.filter_eq_self.2 fun m hm => by have := h1 m hm; simp; omega
   have e2 : hasN (n :: r) i = true := z27.2 ⟨n, by simp, hn⟩
   rw [List.filter_cons_of_neg (by simpa using hn), e1, if_pos e2, List.length_cons]
  ·have e2 : hasN (n :: r) i = hasN r i := by
    unfold hasN
    rw [List.find?_cons_of_neg (by simpa using hn)]
   rw [List.filter_cons_of_pos (by simpa using hn), e2, List.length_cons, List.length_cons]
   omega
theorem zni {t : List Node} {n : Node} (h : Srt t) : (qT t n).length + (if hasN t n.ino = true then 1 else 0) = t.length + 1 := by
 have go : ∀ l : List Node, (wG n false l).length = (l.filter (fun m => m.ino ≠ n.ino)).length + 1 := fun l => by
  induction l with
  | nil => rfl
  | cons y r ih =>
   by_cases hy : n.ino ≤ y.ino
   ·have e : wG n false (y :: r) = n :: (y :: r).filter (fun m => m.ino ≠ n.ino) := by
     rw [← z2q]
     simp [wG, hy]
    rw [e, List.length_cons]
   ·have e : wG n false (y :: r) = y :: wG n false r := by
     have : y.ino ≠ n.ino := by omega
     simp [wG, hy, this]
    have hne : y.ino ≠ n.ino := by omega
    rw [e, List.length_cons, ih, List.filter_cons_of_pos (by simpa using hne), List.length_cons]
 have := zfs (i := n.ino) h
 unfold qT
 rw [go]
 omega
abbrev Ents := List (Int × V × Nat)
def mkE (e : Int × V × Nat) : D × V × Nat := (.int .i64 e.1, e.2)
theorem zgu {x : Int} : ∀ {L : Ents} {i : Nat}, (findD Try.prog 3 (.d (.int .i64 x)) (L.map mkE) i = some Option.none ∧ ∀ e ∈ L, e.1 ≠ x) ∨ ∃ j e, findD Try.prog 3 (.d (.int .i64 x)) (L.map mkE) i = some (some (i + j, e.2)) ∧ L[j]? = some e ∧ e.1 = x
 | [], i => .inl ⟨rfl, fun e he => by cases he⟩
 | e :: r, i => by
  by_cases h : e.1 = x
  ·refine .inr ⟨0, e, ?_, rfl, h⟩
   simp only [List.map_cons, mkE, findD, eqI, h, beq_self_eq_true, Nat.add_zero]
  ·have h1 : (x == e.1) = false := by rw [beq_eq_false_iff_ne]; exact fun hh => h hh.symm
   rcases zgu (x := x) (L := r) (i := i + 1) with ⟨h2, h3⟩ | ⟨j, q, h2, h3, h4⟩
   ·refine .inl ⟨?_, ?_⟩
    ·simp only [List.map_cons, mkE, findD, eqI, h1]
     exact h2
    ·intro q hq
     rcases List.mem_cons.1 hq with rfl | hq
     ·exact h
     ·exact h3 q hq
   ·refine .inr ⟨j + 1, q, ?_, h3, h4⟩
    simp only [List.map_cons, mkE, findD, eqI, h1]
    rw [show i + (j + 1) = i + 1 + j by omega]
    exact h2
theorem zg2 {x : Int} : ∀ {L : Ents} {i : Nat}, findD Try.prog 3 (.d (.int .i64 x)) ((L.map mkE).map fun e => (e.1, e.2.1)) i = (findD Try.prog 3 (.d (.int .i64 x)) (L.map mkE) i).map fun q => q.map fun p => (p.1, p.2.1)
 | [], i => rfl
 | e :: r, i => by
  have ih := zg2 (x := x) (L := r) (i := i + 1)
  by_cases h : e.1 = x
  ·simp only [List.map_cons, mkE, findD, eqI, h, beq_self_eq_true, Option.map_some]
  ·have h1 : (x == e.1) = false := by rw [beq_eq_false_iff_ne]; exact fun hh => h hh.symm
   simp only [List.map_cons, mkE, findD, eqI, h1]
   exact ih
structure St (g : Int → Prop) (S : zA) (m : Nat) (A B : Int → V) (t : List Node) : Prop where
 mp : ∃ (L : Ents) (c : Nat), S[m]? = some (.mp (L.map mkE) c) ∧ L.length = t.length ∧ (L.map (·.1)).Nodup ∧ (∀ e ∈ L, hasN t e.1 = true ∧ e.2.1 = zD (getN t e.1) (A e.1) (B e.1)) ∧ (∀ x, hasN t x = true → ∃ e ∈ L, e.1 = x)
 da : ∀ x, g x → SlE encU S (A x) 5 (getN t x).data
 na : ∀ x, g x → SlE zI S (B x) 88 (getN t x).names
 z : ∀ x, hasN t x = false → A x = .ts [] ∧ B x = .ts []
 sa : ∀ x y i, g x → g y → x ≠ y → idOf (A x) = some i → idOf (A y) ≠ some i
 sb : ∀ x y i, g x → g y → x ≠ y → idOf (B x) = some i → idOf (B y) ≠ some i
section
variable {g : Int → Prop} {S S' : zA} {m : Nat} {A B : Int → V} {t : List Node}
theorem St.keep (h : St g S m A B t) (hk : Keep S S') : St g S' m A B t := by
 obtain ⟨L, c, h1, h2⟩ := h.mp
 exact ⟨⟨L, c, hk _ _ h1, h2⟩, fun x hx => (h.da x hx).keep hk, fun x hx => (h.na x hx).keep hk, h.z, h.sa, h.sb⟩
theorem zj8 : zD zM (.ts []) (.ts []) = .agg [.d (.int .i64 0), .d (.int .i64 0), .d (.int .i64 0), .d (.int .i64 0), .d (.int .i64 0), .ts [], .ts []] := rfl
theorem St.look (h : St g S m A B t) (x : Int) : wO Try.prog S 125 (.mr m) (.d (.int .i64 x)) true = some (.tup [zD (getN t x) (A x) (B x), .d (.bool (hasN t x))]) ∧ wO Try.prog S 125 (.mr m) (.d (.int .i64 x)) false = some (zD (getN t x) (A x) (B x)) := by
 obtain ⟨L, c, h1, _, _, h4, h5⟩ := h.mp
 have he : kV S (.mr m) = some ((L.map mkE).map fun e => (e.1, e.2.1)) := by simp only [kV, h1]
 rcases zgu (x := x) (L := L) (i := 0) with ⟨h2, h3⟩ | ⟨j, e, h2, h3, rfl⟩
 ·have hn : hasN t x = false := by
   cases hh : hasN t x with
   | false => rfl
   | true => obtain ⟨e, he, hx⟩ := h5 x hh; exact absurd hx (h3 e he)
  obtain ⟨z1, z2⟩ := h.z x hn
  rw [zr5 hn, z1, z2, zj8, hn]
  constructor <;> simp only [wO, Try.underlying125, keyI, if_true, he, z32, zg2, h2, Option.map_some, Option.map_none, Bool.false_eq_true, if_false]
 ·obtain ⟨q1, q2⟩ := h4 e (List.mem_of_getElem? h3)
  rw [q1, ← q2]
  constructor <;> simp only [wO, Try.underlying125, keyI, if_true, he, z32, zg2, h2, Option.map_some, Bool.false_eq_true, if_false]
theorem zha {L : Ents} (hn : (L.map (·.1)).Nodup) {a b : Int × V × Nat} (ha : a ∈ L) (hb : b ∈ L) (he : a.1 = b.1) : a = b := by
 induction L with
 | nil => cases ha
 | cons x r ih =>
  rw [List.map_cons, List.nodup_cons] at hn
  rcases List.mem_cons.1 ha with e | ha <;> rcases List.mem_cons.1 hb with e' | hb
  ·rw [e, e']
  ·exact absurd (List.mem_map.2 ⟨b, hb, by rw [← he, e]⟩) hn.1
  ·exact absurd (List.mem_map.2 ⟨a, ha, by rw [he, e']⟩) hn.1
  ·exact ih hn.2 ha hb
theorem St.upd {x : Int} {n : Node} {a b : V} (hs : Srt t) (h : St (fun y => g y ∧ y ≠ x) S m A B t) (hx : n.ino = x) (ha : SlE encU S a 5 n.data) (hb : SlE zI S b 88 n.names)
  (sa : ∀ y i, g y → y ≠ x → idOf a = some i → idOf (A y) ≠ some i) (sb : ∀ y i, g y → y ≠ x → idOf b = some i → idOf (B y) ≠ some i) :
  ∃ o, jG Try.prog S 125 (.mr m) (.d (.int .i64 x)) (zD n a b) = some (S.set m o) ∧ St g (S.set m o) m (fun y => if y = x then a else A y) (fun y => if y = x then b else B y) (qT t n) := by
 obtain ⟨L, c, h1, h2, h3, h4, h5⟩ := h.mp
 have hg : ∀ y, getN (qT t n) y = if y = x then n else getN t y := fun y => by rw [jF hs.uniq]; unfold Proofs.Ytghllhghboaagaa.upd; rw [hx]
 have ho : V.one (zD n a b) = true := rfl
 have hd : asD (.d (.int .i64 x)) = some (.int .i64 x) := rfl
 have row : ∀ (o : Ob) (j : Nat) (ys : List V) (u : TypeId), j ≠ m → S[j]? = some (.row ys u) → (S.set m o)[j]? = some (.row ys u) := fun o j ys u hj hr => by rw [List.getElem?_set_ne (Ne.symm hj)]; exact hr
 have sl : ∀ {α : Type} {enc : α → D} {v : V} {e : TypeId} {xs : List α} (o : Ob), SlE enc S v e xs → SlE enc (S.set m o) v e xs := fun {α enc v e xs} o hv => hv.frame (k := m) (by
  intro hh
  rcases hv with ⟨rfl, _⟩ | ⟨id, ys, rfl, q⟩
  ·cases hh
  ·cases hh; rw [h1] at q; cases q) (fun j ys u => row o j ys u)
 have fin : ∀ (L' : Ents) (c' : Nat), L'.length = (qT t n).length → (L'.map (·.1)).Nodup → (∀ e ∈ L', (e.1 = x ∧ e.2.1 = zD n a b) ∨ (e.1 ≠ x ∧ e ∈ L)) → (∀ y, y = x ∨ hasN t y = true → ∃ e ∈ L', e.1 = y) → St g (S.set m (.mp (L'.map mkE) c')) m (fun y => if y = x then a else A y) (fun y => if y = x then b else B y) (qT t n) := by
  intro L' c' k1 k2 k3 k4
  refine ⟨⟨L', c', ?_, k1, k2, ?_, ?_⟩, ?_, ?_, ?_, ?_, ?_⟩
  ·rw [List.getElem?_set_self (qN h1)]
  ·intro e he
   rcases k3 e he with ⟨e1, e2⟩ | ⟨e1, e2⟩
   ·refine ⟨z5o.2 (.inl (e1.trans hx.symm)), ?_⟩
    rw [e2, hg, if_pos e1, if_pos e1, if_pos e1]
   ·refine ⟨z5o.2 (.inr (h4 e e2).1), ?_⟩
    rw [(h4 e e2).2, hg, if_neg e1, if_neg e1, if_neg e1]
  ·intro y hy
   rcases z5o.1 hy with e | e
   ·exact k4 y (.inl (e.trans hx))
   ·exact k4 y (.inr e)
  ·intro y hy
   rw [hg]
   by_cases e : y = x
   ·simp only [e, if_true]; exact sl _ ha
   ·simp only [e, if_false]; exact sl _ (h.da y ⟨hy, e⟩)
  ·intro y hy
   rw [hg]
   by_cases e : y = x
   ·simp only [e, if_true]; exact sl _ hb
   ·simp only [e, if_false]; exact sl _ (h.na y ⟨hy, e⟩)
  ·intro y hy
   have hn : ¬ (y = n.ino ∨ hasN t y = true) := fun hh => by rw [z5o.2 hh] at hy; cases hy
   have e : y ≠ x := fun hh => hn (.inl (hh.trans hx.symm))
   simp only [e, if_false]
   exact h.z y (Bool.eq_false_iff.2 fun hh => hn (.inr hh))
  ·intro y w i hy hw hne hi
   by_cases e : y = x <;> by_cases e' : w = x
   ·exact absurd (e.trans e'.symm) hne
   ·simp only [e, e', if_true, if_false] at hi ⊢; exact sa w i hw e' hi
   ·simp only [e, e', if_true, if_false] at hi ⊢; exact fun hh => sa y i hy e hh hi
   ·simp only [e, e', if_false] at hi ⊢; exact h.sa y w i ⟨hy, e⟩ ⟨hw, e'⟩ hne hi
  ·intro y w i hy hw hne hi
   by_cases e : y = x <;> by_cases e' : w = x
   ·exact absurd (e.trans e'.symm) hne
   ·simp only [e, e', if_true, if_false] at hi ⊢; exact sb w i hw e' hi
   ·simp only [e, e', if_true, if_false] at hi ⊢; exact fun hh => sb y i hy e hh hi
   ·simp only [e, e', if_false] at hi ⊢; exact h.sb y w i ⟨hy, e⟩ ⟨hw, e'⟩ hne hi
 have hl := zni (n := n) hs
 rw [hx] at hl
 rcases zgu (x := x) (L := L) (i := 0) with ⟨h6, h7⟩ | ⟨j, e, h6, h7, h8⟩
 ·have hn : ¬ hasN t x = true := fun hh => by obtain ⟨e, he, hx⟩ := h5 x hh; exact absurd hx (h7 e he)
  rw [if_neg hn] at hl
  refine ⟨.mp ((L ++ [(x, zD n a b, c)]).map mkE) (c + 1), ?_, fin _ _ ?_ ?_ ?_ ?_⟩
  ·simp only [jG, Try.underlying125, keyI, ho, Bool.and_self, if_true, hd, h1, h6, List.map_append, List.map_cons, List.map_nil, mkE]
  ·simp only [List.length_append, List.length_cons, List.length_nil]; omega
  ·rw [List.map_append, List.nodup_append]
   refine ⟨h3, by simp, ?_⟩
   intro p hp q hq
   simp only [List.map_cons, List.map_nil, List.mem_singleton] at hq
   obtain ⟨e, he, rfl⟩ := List.mem_map.1 hp
   rw [hq]; exact h7 e he
  ·intro e he
   rcases List.mem_append.1 he with he | he
   ·exact .inr ⟨h7 e he, he⟩
   ·rw [List.mem_singleton.1 he]; exact .inl ⟨rfl, rfl⟩
  ·rintro y (rfl | hy)
   ·exact ⟨_, List.mem_append.2 (.inr (List.mem_singleton.2 rfl)), rfl⟩
   ·obtain ⟨e, he, he2⟩ := h5 y hy
    exact ⟨e, List.mem_append.2 (.inl he), he2⟩
 ·have hmem := List.mem_of_getElem? h7
  have hn : hasN t x = true := by rw [← h8]; exact (h4 e hmem).1
  have hj := (List.getElem?_eq_some_iff.1 h7)
  obtain ⟨hj1, hj2⟩ := hj
  rw [if_pos hn] at hl
  have hset : (L.map mkE)[j]? = some (mkE e) := by rw [List.getElem?_map, h7]; rfl
  have hsm : zf5 (mkE e).1 (.int .i64 x) = true := by
   show zf5 (.int .i64 e.1) (.int .i64 x) = true
   rw [h8]; simp [zf5, kO]
  have hkeys : (L.set j (x, zD n a b, e.2.2)).map (·.1) = L.map (·.1) := by
   refine List.ext_getElem? fun k => ?_
   by_cases hk : j = k
   ·subst hk
    rw [List.getElem?_map, List.getElem?_set_self hj1, List.getElem?_map, h7]
    exact congrArg some h8.symm
   ·rw [List.getElem?_map, List.getElem?_set_ne hk, List.getElem?_map]
  have hnd : ((L.set j (x, zD n a b, e.2.2)).map (·.1)).Nodup := by rw [hkeys]; exact h3
  have hmine : (x, zD n a b, e.2.2) ∈ L.set j (x, zD n a b, e.2.2) := List.mem_of_getElem? (i := j) (List.getElem?_set_self hj1)
  refine ⟨.mp ((L.set j (x, zD n a b, e.2.2)).map mkE) c, ?_, fin _ _ ?_ hnd ?_ ?_⟩
  ·simp only [jG, Try.underlying125, keyI, ho, Bool.and_self, if_true, hd, h1, h6, Nat.zero_add, hset, hsm, List.map_set]
   rfl
  ·rw [List.length_set]; omega
  ·intro q hq
   by_cases hqx : q.1 = x
   ·have := zha hnd hq hmine hqx
    rw [this]; exact .inl ⟨rfl, rfl⟩
   ·rcases List.mem_or_eq_of_mem_set hq with h9 | h9
    ·exact .inr ⟨hqx, h9⟩
    ·rw [h9] at hqx; exact absurd rfl hqx
  ·rintro y hy
   by_cases hyx : y = x
   ·exact ⟨_, hmine, hyx.symm⟩
   ·rcases hy with hy | hy
    ·exact absurd hy hyx
    ·obtain ⟨q, hq, hq2⟩ := h5 y hy
     obtain ⟨k, hk⟩ := List.getElem?_of_mem hq
     have hkj : k ≠ j := fun hh => by rw [hh, h7] at hk; cases hk; exact hyx (hq2.symm.trans h8)
     exact ⟨q, List.mem_of_getElem? (i := k) (by rw [List.getElem?_set_ne (Ne.symm hkj)]; exact hk), hq2⟩
theorem St.del {x : Int} (hs : Srt t) (h : St g S m A B t) : ∃ o, z2b Try.prog S 125 (.mr m) (.d (.int .i64 x)) = some (S.set m o) ∧ St g (S.set m o) m (fun y => if y = x then .ts [] else A y) (fun y => if y = x then .ts [] else B y) (t.filter (fun n => n.ino ≠ x)) := by
 obtain ⟨L, c, h1, h2, h3, h4, h5⟩ := h.mp
 have hg : ∀ y, getN (t.filter (fun n => n.ino ≠ x)) y = if y = x then zM else getN t y := fun y => by rw [z1s hs.uniq]; rfl
 have row : ∀ (o : Ob) (j : Nat) (ys : List V) (u : TypeId), j ≠ m → S[j]? = some (.row ys u) → (S.set m o)[j]? = some (.row ys u) := fun o j ys u hj hr => by rw [List.getElem?_set_ne (Ne.symm hj)]; exact hr
 have sl : ∀ {α : Type} {enc : α → D} {v : V} {e : TypeId} {xs : List α} (o : Ob), SlE enc S v e xs → SlE enc (S.set m o) v e xs := fun {α enc v e xs} o hv => hv.frame (k := m) (by
  intro hh
  rcases hv with ⟨rfl, _⟩ | ⟨id, ys, rfl, q⟩
  ·cases hh
  ·cases hh; rw [h1] at q; cases q) (fun j ys u => row o j ys u)
 have hl := zfs (i := x) hs
 have fin : ∀ (L' : Ents) (c' : Nat), L'.length = (t.filter (fun n => n.ino ≠ x)).length → (L'.map (·.1)).Nodup → (∀ e ∈ L', e.1 ≠ x ∧ e ∈ L) → (∀ y, y ≠ x → hasN t y = true → ∃ e ∈ L', e.1 = y) → St g (S.set m (.mp (L'.map mkE) c')) m (fun y => if y = x then .ts [] else A y) (fun y => if y = x then .ts [] else B y) (t.filter (fun n => n.ino ≠ x)) := by
  intro L' c' k1 k2 k3 k4
  refine ⟨⟨L', c', ?_, k1, k2, ?_, ?_⟩, ?_, ?_, ?_, ?_, ?_⟩
  ·rw [List.getElem?_set_self (qN h1)]
  ·intro e he
   obtain ⟨e1, e2⟩ := k3 e he
   refine ⟨zbz.2 ⟨e1, (h4 e e2).1⟩, ?_⟩
   rw [(h4 e e2).2, hg, if_neg e1, if_neg e1, if_neg e1]
  ·intro y hy
   obtain ⟨e1, e2⟩ := zbz.1 hy
   exact k4 y e1 e2
  ·intro y hy
   rw [hg]
   by_cases e : y = x
   ·simp only [e, if_true]; exact .inl ⟨rfl, rfl⟩
   ·simp only [e, if_false]; exact sl _ (h.da y hy)
  ·intro y hy
   rw [hg]
   by_cases e : y = x
   ·simp only [e, if_true]; exact .inl ⟨rfl, rfl⟩
   ·simp only [e, if_false]; exact sl _ (h.na y hy)
  ·intro y hy
   by_cases e : y = x
   ·rw [if_pos e, if_pos e]; exact ⟨rfl, rfl⟩
   ·simp only [e, if_false]
    exact h.z y (Bool.eq_false_iff.2 fun hh => by rw [zbz.2 ⟨e, hh⟩] at hy; cases hy)
  ·intro y w i hy hw hne hi
   by_cases e : y = x
   ·simp only [e, if_true] at hi; cases hi
   ·by_cases e' : w = x
    ·simp only [e', if_true]; exact fun hh => by cases hh
    ·simp only [e, e', if_false] at hi ⊢; exact h.sa y w i hy hw hne hi
  ·intro y w i hy hw hne hi
   by_cases e : y = x
   ·simp only [e, if_true] at hi; cases hi
   ·by_cases e' : w = x
    ·simp only [e', if_true]; exact fun hh => by cases hh
    ·simp only [e, e', if_false] at hi ⊢; exact h.sb y w i hy hw hne hi
 rcases zgu (x := x) (L := L) (i := 0) with ⟨h6, h7⟩ | ⟨j, e, h6, h7, h8⟩
 ·have hn : ¬ hasN t x = true := fun hh => by obtain ⟨e, he, hx⟩ := h5 x hh; exact absurd hx (h7 e he)
  rw [if_neg hn] at hl
  refine ⟨.mp (L.map mkE) c, ?_, fin L c (by omega) h3 (fun e he => ⟨h7 e he, he⟩) (fun y _ hy => h5 y hy)⟩
  simp only [z2b, Try.underlying125, keyI, if_true, h1, h6]
 ·have hmem := List.mem_of_getElem? h7
  have hn : hasN t x = true := by rw [← h8]; exact (h4 e hmem).1
  obtain ⟨hj1, hj2⟩ := List.getElem?_eq_some_iff.1 h7
  rw [if_pos hn] at hl
  have hsub : (L.eraseIdx j).Sublist L := List.eraseIdx_sublist ..
  have hsplit : L = L.take j ++ e :: L.drop (j + 1) := by
   rw [← hj2, ← List.drop_eq_getElem_cons hj1, List.take_append_drop]
  refine ⟨.mp ((L.eraseIdx j).map mkE) c, ?_, fin _ _ ?_ ((hsub.map _).nodup h3) ?_ ?_⟩
  ·have hmap : (L.map mkE).eraseIdx j = (L.eraseIdx j).map mkE := by simp only [List.eraseIdx_eq_take_drop_succ, List.map_append, List.map_take, List.map_drop]
   simp only [z2b, Try.underlying125, keyI, if_true, h1, h6, Nat.zero_add, hmap]
  ·rw [List.length_eraseIdx, if_pos hj1]; omega
  ·intro q hq
   have hq1 := hsub.mem hq
   refine ⟨fun hqx => ?_, hq1⟩
   have hqe := zha h3 hq1 hmem (hqx.trans h8.symm)
   rw [hqe, List.eraseIdx_eq_take_drop_succ] at hq
   rw [hsplit, List.map_append, List.map_cons, List.nodup_append] at h3
   obtain ⟨k1, k2, k3⟩ := h3
   rw [List.nodup_cons] at k2
   rcases List.mem_append.1 hq with hq | hq
   ·exact k3 _ (List.mem_map.2 ⟨e, hq, rfl⟩) _ (by simp) rfl
   ·exact k2.1 (List.mem_map.2 ⟨e, hq, rfl⟩)
  ·intro y hyx hy
   obtain ⟨q, hq, hq2⟩ := h5 y hy
   refine ⟨q, ?_, hq2⟩
   rw [List.eraseIdx_eq_take_drop_succ]
   rw [hsplit] at hq
   rcases List.mem_append.1 hq with hq | hq
   ·exact List.mem_append.2 (.inl hq)
   ·rcases List.mem_cons.1 hq with rfl | hq
    ·exact absurd (hq2.symm.trans h8) hyx
    ·exact List.mem_append.2 (.inr hq)
theorem St.frame {x : Int} {k : Nat} (h : St g S m A B t) (hx : g x) (hk : idOf (A x) = some k ∨ idOf (B x) = some k) (hf : ∀ (j : Nat) (o : Ob), j ≠ k → S[j]? = some o → S'[j]? = some o) : St (fun y => g y ∧ y ≠ x) S' m A B t := by
 have hrow : (∃ ys, S[k]? = some (.row ys 5) ∧ idOf (A x) = some k) ∨ (∃ ys, S[k]? = some (.row ys 88) ∧ idOf (B x) = some k) := by
  rcases hk with hk | hk
  ·rcases h.da x hx with ⟨h1, _⟩ | ⟨id, ys, h1, h2⟩
   ·rw [h1] at hk; cases hk
   ·rw [h1] at hk; cases hk; exact .inl ⟨_, h2, by rw [h1]; rfl⟩
  ·rcases h.na x hx with ⟨h1, _⟩ | ⟨id, ys, h1, h2⟩
   ·rw [h1] at hk; cases hk
   ·rw [h1] at hk; cases hk; exact .inr ⟨_, h2, by rw [h1]; rfl⟩
 obtain ⟨L, c, h1, h2⟩ := h.mp
 have hm : m ≠ k := by
  rintro rfl
  rcases hrow with ⟨ys, q, _⟩ | ⟨ys, q, _⟩ <;> (rw [h1] at q; cases q)
 refine ⟨⟨L, c, hf _ _ hm h1, h2⟩, ?_, ?_, h.z, fun y w i hy hw => h.sa y w i hy.1 hw.1, fun y w i hy hw => h.sb y w i hy.1 hw.1⟩
 ·rintro y ⟨hy, hne⟩
  refine (h.da y hy).frame (k := k) ?_ (fun j ys u hj hr => hf j _ hj hr)
  rcases hrow with ⟨ys, q, hi⟩ | ⟨ys, q, hi⟩
  ·exact h.sa x y k hx hy (Ne.symm hne) hi
  ·intro hh
   rcases h.da y hy with ⟨e1, _⟩ | ⟨id, zs, e1, e2⟩
   ·rw [e1] at hh; cases hh
   ·rw [e1] at hh; cases hh; rw [q] at e2; cases e2
 ·rintro y ⟨hy, hne⟩
  refine (h.na y hy).frame (k := k) ?_ (fun j ys u hj hr => hf j _ hj hr)
  rcases hrow with ⟨ys, q, hi⟩ | ⟨ys, q, hi⟩
  ·intro hh
   rcases h.na y hy with ⟨e1, _⟩ | ⟨id, zs, e1, e2⟩
   ·rw [e1] at hh; cases hh
   ·rw [e1] at hh; cases hh; rw [q] at e2; cases e2
  ·exact h.sb x y k hx hy (Ne.symm hne) hi
theorem St.less {g' : Int → Prop} (h : St g S m A B t) (hg : ∀ x, g' x → g x) : St g' S m A B t :=
 ⟨h.mp, fun x hx => h.da x (hg x hx), fun x hx => h.na x (hg x hx), h.z, fun x y i hx hy => h.sa x y i (hg x hx) (hg y hy), fun x y i hx hy => h.sb x y i (hg x hx) (hg y hy)⟩
theorem St.nodeF (h : St g S m A B t) {x : Int} (hx : g x) {n : Nat} : frz S (n + 3) (zD (getN t x) (A x) (B x)) = some (zB (getN t x)) := by
 have e1 : frz S (n + 2) (A x) = some (encB (getN t x).data) := (h.da x hx).frz
 have e2 : frz S (n + 2) (B x) = some (.sl ((getN t x).names.map zI)) := (h.na x hx).frz
 generalize getN t x = y at *
 show (match allO (frz S (n + 2)) [.d (.int .i64 y.ino), .d (.int .i64 y.kind), .d (.int .i64 y.links), .d (.int .i64 y.parent), .d (.int .i64 y.size), A x, B x] with | some ds => if ds.any D.isAgg then none else some (D.agg ds) | none => none) = _
 have h2 : ∀ x : D, frz S (n + 2) (.d x) = some x := fun _ => rfl
 simp only [allO, e1, e2, h2]
 rfl
end
structure Tree (S : zA) (a m : Nat) (A B : Int → V) (t : List Node) : Prop where
 cell : S[a]? = some (.row [.agg [.mr m]] 127)
 st : St (fun _ => True) S m A B t
theorem Tree.keep {S S' : zA} {a m : Nat} {A B : Int → V} {t : List Node} (h : Tree S a m A B t) (hk : Keep S S') : Tree S' a m A B t := ⟨hk _ _ h.cell, h.st.keep hk⟩
theorem Tree.ne {S : zA} {a m : Nat} {A B : Int → V} {t : List Node} (h : Tree S a m A B t) : a ≠ m := by
 rintro rfl
 obtain ⟨L, c, h1, _⟩ := h.st.mp
 have := h.cell
 rw [h1] at this; cases this
theorem Tree.row {S : zA} {a m : Nat} {A B : Int → V} {t : List Node} (h : Tree S a m A B t) : rowE S a 0 = some (.agg [.mr m]) := zE h.cell
theorem zdv {n : Node} : ∀ {l : List Node}, Srt (l ++ [n]) → qT l n = l ++ [n]
 | [], _ => rfl
 | x :: r, h => by
  obtain ⟨h1, h2⟩ := Srt.cons.1 (show Srt (x :: (r ++ [n])) from h)
  have hx : x.ino < n.ino := h1 n (by simp)
  have ih := zdv h2
  unfold qT at ih ⊢
  have a1 : ¬ n.ino ≤ x.ino := by omega
  have a2 : x.ino ≠ n.ino := by omega
  simp [wG, a1, a2, ih]
theorem zzu (S0 : zA) (a m : Nat) (ha0 : S0.length ≤ a) (hm0 : S0.length ≤ m) (t : List Node) (k0 : Nat) (hk0 : k0 < 300000) (hS : Small k0 t) (hsr : Srt t) (R : Post) (g1 g2 : V) : ∀ (k i : Nat) (S : zA) (A B : Int → V) (v5 g6 g7 g8 gF gA gB gG gH gC gD gE gK gL gO gM gN gP gQ gV gR gS gT gU gW gX : V), t.length - i = k → i ≤ t.length → Keep S0 S → Tree S a m A B (t.take i) →
 (∀ S A B v5 i' g6 g7 g8 gF gA gB gG gH gC gD gE gK gL gO gM gN gP gQ gV gR gS gT gU gW gX, Keep S0 S → Tree S a m A B t → R (.exit 0) ((.d (.sl (t.map zB))) :: g1 :: g2 :: (.ref a 0 0) :: (.tup []) :: v5 :: g6 :: g7 :: g8 :: (.d (.sl (t.map zB))) :: (.d (.int .i64 t.length)) :: i' :: gF :: gA :: gB :: gG :: gH :: gC :: gD :: gE :: gK :: gL :: gO :: gM :: gN :: gP :: gQ :: gV :: gR :: gS :: gT :: gU :: gW :: gX :: []) S []) →
 Wp cfgS (.loop (lpOf (Try.f40.body.getD .skip) 0)) ((.d (.sl (t.map zB))) :: g1 :: g2 :: (.ref a 0 0) :: (.tup []) :: v5 :: g6 :: g7 :: g8 :: (.d (.sl (t.map zB))) :: (.d (.int .i64 t.length)) :: (.d (.int .i64 i)) :: gF :: gA :: gB :: gG :: gH :: gC :: gD :: gE :: gK :: gL :: gO :: gM :: gN :: gP :: gQ :: gV :: gR :: gS :: gT :: gU :: gW :: gX :: []) S [] R := by
 have hlt0 : t.length < 400000 := Nat.lt_of_le_of_lt hS.len (by omega)
 intro k
 induction k with
 | zero =>
  intro i S A B v5 g6 g7 g8 gF gA gB gG gH gC gD gE gK gL gO gM gN gP gQ gV gR gS gT gU gW gX hk hi hK hT hR
  have hie : i = t.length := by omega
  rw [qK]
  refine zS ?_
  conv => arg 2; whnf
  simp (maxSteps:=1000000) (disch:=first|assumption|omega|rfl) only [↓gp, gc, Nat.reduceAdd, hPS]
  rw [hie, List.take_length] at hT
  exact hR _ _ _ _ _ _ _ _ _ _ _ _ _ _ _ _ _ _ _ _ _ _ _ _ _ _ _ _ _ _ hK hT
 | succ k ih =>
  intro i S A B v5 g6 g7 g8 gF gA gB gG gH gC gD gE gK gL gO gM gN gP gQ gV gR gS gT gU gW gX hk hi hK hT hR
  have hlt : i < t.length := by omega
  have htk : t.take (i + 1) = t.take i ++ [t[i]] := by rw [List.take_succ_eq_append_getElem hlt]
  have hmem := List.getElem_mem hlt
  have hd := hS.siz _ hmem
  have hn := hS.nms _ hmem
  have hsk : Srt (t.take (i + 1)) := by unfold Srt at hsr ⊢; exact hsr.sublist ((List.take_sublist _ _).map _)
  have hsi : Srt (t.take i) := by unfold Srt at hsr ⊢; exact hsr.sublist ((List.take_sublist _ _).map _)
  rw [htk] at hsk
  have hws := zdv hsk
  have hb : S[a]? = some (.row [.agg [.mr m]] 127) := hT.cell
  have hSa : a < S.length := qN hb
  have hne := hT.ne
  rw [qK]
  refine zS ?_
  conv => arg 2; whnf
  generalize hN : t[i] = n at *
  have hbS : (S ++ [.row [.d (zB n)] 32])[S.length]? = some (.row [.d (zB n)] 32) := by simp
  obtain ⟨v1, S1, c1, ha1, ho1, hf1, hl1⟩ := apB (S := S ++ [.row [.d (zB n)] 32]) (l := n.data) (by omega)
  have hb2 : S1[S.length]? = some (.row [.d (zB n)] 32) := (hf1 S.length _ hbS).1
  have hr2 := zE hb2
  have hst1 := zpj (a := n) (v := v1) (z1z ho1 (by kernel_rfl) (by kernel_rfl)) (z0z ho1)
  have hpr1 := fun y => qD (y := y) hb2
  have hb3 : ∀ y : V, (S1.set S.length (.row [y] 32))[S.length]? = some (.row [y] 32) := fun y => jR hb2
  have hr3 : ∀ y, rowE (S1.set S.length (.row [y] 32)) S.length 0 = some y := fun y => zE (hb3 y)
  obtain ⟨v2, S2, c2, ha2, ho2, hf2, hl2⟩ := apE (S := S1.set S.length (.row [zD n v1 (.d (.sl (n.names.map zI)))] 32)) (l := n.names) (by omega)
  have hb4 : S2[S.length]? = some (.row [zD n v1 (.d (.sl (n.names.map zI)))] 32) := (hf2 S.length _ (hb3 _)).1
  have hr4 := zE hb4
  have hst2 := fun (x0 x1 x2 x3 x4 x5 x6 : V) => zff (x0 := x0) (x1 := x1) (x2 := x2) (x3 := x3) (x4 := x4) (x5 := x5) (x6 := x6) (v := v2) (z1z ho2 (by kernel_rfl) (by kernel_rfl)) (z0z ho2)
  have hpr2 := fun y => qD (y := y) hb4
  have hr5 : ∀ y, rowE (S2.set S.length (.row [y] 32)) S.length 0 = some y := fun y => zE (jR hb4)
  have hkeep : Keep S (S2.set S.length (.row [zD n v1 v2] 32)) := fun j o hj => by
   have hjl := qN hj
   have h1 : (S ++ [.row [.d (zB n)] 32])[j]? = some o := by rw [List.getElem?_append_left hjl]; exact hj
   have h2 := (hf1 j o h1).1
   have h3 : (S1.set S.length (.row [zD n v1 (.d (.sl (n.names.map zI)))] 32))[j]? = some o := by rw [List.getElem?_set_ne (by omega)]; exact h2
   have h4 := (hf2 j o h3).1
   rw [List.getElem?_set_ne (by omega)]; exact h4
  have hv1 : OwnS (S2.set S.length (.row [zD n v1 v2] 32)) v1 5 (n.data.map fun b => .d (.int .u8 b.toNat)) := vC (z0f (vC ho1 (hf1 S.length _ hbS).2) (fun j o hj => (hf2 j o hj).1)) (hf1 S.length _ hbS).2
  have hv2 : OwnS (S2.set S.length (.row [zD n v1 v2] 32)) v2 88 (n.names.map fun x => .d (zI x)) := vC ho2 (hf2 S.length _ (hb3 _)).2
  have hold : ∀ j, j < S.length → ∃ o, S[j]? = some o := fun j hj => ⟨S[j], List.getElem?_eq_getElem hj⟩
  have hsa : ∀ y i', idOf v1 = some i' → idOf (A y) ≠ some i' := fun y i' hv hh => by
   obtain ⟨o, ho⟩ := hold i' ((hT.st.da y trivial).lt hh)
   have h1 : (S ++ [.row [.d (zB n)] 32])[i']? = some o := Keep.app _ _ ho
   cases v1 <;> simp only [idOf, reduceCtorEq] at hv
   cases hv
   exact (hf1 _ _ h1).2 _ _ rfl
  have hsb : ∀ y i', idOf v2 = some i' → idOf (B y) ≠ some i' := fun y i' hv hh => by
   have hlt := (hT.st.na y trivial).lt hh
   obtain ⟨o, ho⟩ := hold i' hlt
   have h1 : (S ++ [.row [.d (zB n)] 32])[i']? = some o := Keep.app _ _ ho
   have h2 : (S1.set S.length (.row [zD n v1 (.d (.sl (n.names.map zI)))] 32))[i']? = some o := by rw [List.getElem?_set_ne (by omega)]; exact (hf1 _ _ h1).1
   cases v2 <;> simp only [idOf, reduceCtorEq] at hv
   cases hv
   exact (hf2 _ _ h2).2 _ _ rfl
  obtain ⟨o, hup, hst⟩ := ((hT.st.keep hkeep).less (g' := fun y => True ∧ y ≠ n.ino) (fun _ _ => trivial)).upd (g := fun _ => True) (n := n) (a := v1) (b := v2) hsi rfl (.of hv1) (.of hv2) (fun y i' _ _ => hsa y i') (fun y i' _ _ => hsb y i')
  have hb6 := hkeep a _ hb
  have hr6 : rowE (S2.set S.length (.row [zD n v1 v2] 32)) a 0 = some (.agg [.mr m]) := zE hb6
  have hr7 : rowE (S2.set S.length (.row [zD n v1 v2] 32)) S.length 0 = some (zD n v1 v2) := zE (jR hb4)
  rw [hws] at hst
  have hb7 : ((S2.set S.length (.row [zD n v1 v2] 32)).set m o)[a]? = some (.row [.agg [.mr m]] 127) := by rw [List.getElem?_set_ne (Ne.symm hne)]; exact hb6
  have hK7 : Keep S0 ((S2.set S.length (.row [zD n v1 v2] 32)).set m o) := (hK.trans hkeep).set hm0
  unfold zD at ha2 hr4 hpr2 hr6 hr7 hup
  simp (maxSteps:=1000000) (disch:=first|assumption|omega|rfl) only [↓gp, gc, Nat.reduceAdd, ↓vbs, hPS, hN, zR, zN, zcp, zpe, ha1, hr2, hst1, hpr1, hr3, ha2, hr4, hst2, hpr2]
  refine qS (is := [0, 1, 2, 3, 4, 5, 6, 7]) (h := 0) (by kernel_rfl) (by kernel_rfl) ?_
  simp (maxSteps:=1000000) (disch:=first|assumption|omega|rfl) only [List.replicate_zero, eq_self, gd, ga, Nat.reduceAdd, ↓gq, hPS, List.append_nil, qL, qG, jC, vD, wU, hr6, hr7, hup, Option.map_some]
  refine ⟨fun _ => by kernel_rfl, ?_⟩
  refine ⟨by kernel_rfl, ?_⟩
  simp (maxSteps:=1000000) (disch:=first|assumption|omega|rfl) only [↓gp, gc, Nat.reduceAdd, hPS]
  exact ih (i + 1) _ _ _ _ _ _ _ _ _ _ _ _ _ _ _ _ _ _ _ _ _ _ _ _ _ _ _ _ _ (by omega) (by omega) hK7 (by rw [htk]; exact ⟨hb7, hst⟩) hR
theorem ztj (S0 : zA) (t : List Node) (k0 : Nat) (hk0 : k0 < 300000) (hS : Small k0 t) (hsr : Srt t) : EvS cfgS 40 [.d (.sl (t.map zB))] S0 fun o S => ∃ a m A B, o = .ret (.ref a 0 0) ∧ Keep S0 S ∧ Tree S a m A B t ∧ S0.length ≤ a ∧ S0.length ≤ m := by
 refine vE rfl zpf ?_
 show Wp cfgS (Try.f40.body.getD .skip) ((.d (.sl (t.map zB))) :: uZ (uZ (uZ ((.tup []) :: (.tup []) :: (.tup []) :: [])))) S0 [] _
 unfold uZ
 conv => arg 2; whnf
 rw [qK]
 simp (maxSteps:=1000000) (disch:=first|assumption|omega|rfl) only [↓gp, gc, Nat.reduceAdd, hPS, ↓zai, zyx, zy1]
 have hst0 : ∀ S : zA, S[S0.length]? = some (.mp [] 0) → St (fun _ => True) S S0.length (fun _ => .ts []) (fun _ => .ts []) [] := fun S h => by
  refine ⟨⟨[], 0, h, rfl, .nil, ?_, ?_⟩, fun x _ => .inl ⟨rfl, rfl⟩, fun x _ => .inl ⟨rfl, rfl⟩, fun _ _ => ⟨rfl, rfl⟩, ?_, ?_⟩
  ·intro e he; cases he
  ·intro x hx; cases hx
  ·intro x y i _ _ _ hi; cases hi
  ·intro x y i _ _ _ hi; cases hi
 refine zzu S0 (S0 ++ [Ob.mp [] 0]).length S0.length (by simp) (by omega) t k0 hk0 hS hsr _ _ _ t.length 0 _ (fun _ => .ts []) (fun _ => .ts []) _ _ _ _ _ _ _ _ _ _ _ _ _ _ _ _ _ _ _ _ _ _ _ _ _ _ rfl (by omega) ?_ ?_ ?_
 ·exact Keep.app.trans Keep.app
 ·refine ⟨?_, hst0 _ ?_⟩
  ·simp
  ·simp
 ·intro S A B v5 i' g6 g7 g8 gF gA gB gG gH gC gD gE gK gL gO gM gN gP gQ gV gR gS gT gU gW gX hK hT
  simp (maxSteps:=1000000) (disch:=first|assumption|omega|rfl) only [↓gp, gc, Nat.reduceAdd, hPS]
  exact ⟨rfl, _, rfl, _, _, A, B, rfl, hK, hT, by simp, by omega⟩
end Go.Proofs.Ytghllhghboaagaa
end
section
namespace Go.Vm
section
variable {C : Cfg} {ops : Array Oper} {S : zA} {F : Dfs} {Q : Post}
theorem zft {f : FuncId} {args : List V} {ds : List D} {o : Out} (hs : C.shared f = false) (hf : allO (frz S zO) args = some ds) (hp : z31 o = true) (he : Ev C f ds o) : ∃ n, kE C (run C n) f args S = some (o, S, 1) := by
 obtain ⟨n, hn⟩ := he
 have hn' : answer C (run C n) f ds = some o := hn
 refine ⟨n, ?_⟩
 unfold kE
 simp only [hs, Bool.false_eq_true, if_false, hf, hn', hp, if_true]
 split <;> rfl
theorem zbq {dst : Option Tmp} {l : List Oper} {T : List V} {f : FuncId} {args : List V} {ds : List D} {v : V} (hs : C.shared f = false) (hf : allO (frz S zO) args = some ds) (hp : z31 (.ret v) = true) (he : Ev C f ds (.ret v)) :
  WpR C ops dst l T S F Q (some (.enter f args)) = WpL C ops l (putT T dst v) S F Q := by
 obtain ⟨n, hc⟩ := zft hs hf hp he
 apply propext
 constructor
 ·rintro ⟨m, o, S', c, h1, h2⟩
  have := z2k h1 hc
  simp only [Prod.mk.injEq] at this
  obtain ⟨rfl, rfl, rfl⟩ := this
  exact h2
 ·exact fun h => ⟨n, _, _, _, hc, h⟩
theorem z07 {l : zA} {i k : Nat} (h : i < S.length) : rowE (S ++ l) i k = rowE S i k := by unfold rowE; rw [List.getElem?_append_left h]
end
end Go.Vm
namespace Go.Proofs.Ytghllhghboaagaa
open Go.Vm
section
variable {n n' : Node} {a b a' b' : V}
theorem lv : kA Try.prog 32 0 (some (zD n a b)) = some (zD n a b) := by kernel_rfl
theorem lv0 : kA Try.prog 3 0 (some (zD n a b)) = some (.d (.int .i64 n.ino)) := by kernel_rfl
theorem lv1 : kA Try.prog 3 1 (some (zD n a b)) = some (.d (.int .i64 n.kind)) := by kernel_rfl
theorem lv2 : kA Try.prog 3 2 (some (zD n a b)) = some (.d (.int .i64 n.links)) := by kernel_rfl
theorem lv4 : kA Try.prog 3 4 (some (zD n a b)) = some (.d (.int .i64 n.size)) := by kernel_rfl
theorem lv5 : kA Try.prog 29 5 (some (zD n a b)) = some a := by kernel_rfl
theorem lv6 : kA Try.prog 30 6 (some (zD n a b)) = some b := by kernel_rfl
theorem sv : qW Try.prog 32 0 (zD n a b) (zD n' a' b') = some (zD n a b) := by kernel_rfl
theorem svz {x0 x1 x2 x3 x4 x5 x6 : V} : qW Try.prog 32 0 (zD n a b) (.agg [x0, x1, x2, x3, x4, x5, x6]) = some (zD n a b) := by kernel_rfl
theorem le1 {e : Ent} : kA Try.prog 3 1 (some (.d (zI e))) = some (.d (.int .i64 e.ino)) := by kernel_rfl
theorem kM : V.one (zD n a b) = true := rfl
end
theorem zvi {S : zA} {t : List Node} {g : Int → Prop} {m : Nat} {A B : Int → V} (h : St g S m A B t) {x : Int} (hx : g x) {s : List UInt8} : allO (frz S zO) [zD (getN t x) (A x) (B x), .d (.str s)] = some [zB (getN t x), .str s] := by
 have := h.nodeF hx (n := 9)
 simp only [allO]
 rw [show frz S zO (zD (getN t x) (A x) (B x)) = some (zB (getN t x)) from this]
 rfl
section
variable {ops : Array Oper} {dst : Option Tmp} {k : List Oper} {T : List V} {S : zA} {F : Dfs} {Q : Post}
theorem z0c {t : List Node} {g : Int → Prop} {m : Nat} {A B : Int → V} (h : St g S m A B t) {x : Int} (hx : g x) {s : List UInt8} (hl : (getN t x).names.length < 1000000) :
  WpR cfgS ops dst k T S F Q (some (.enter 105 [zD (getN t x) (A x) (B x), .d (.str s)])) = WpL cfgS ops k (putT T dst (.tup [.d (.int .i64 (vX (getN t x) s).1), .d (.bool (vX (getN t x) s).2)])) S F Q :=
 zbq rfl (zvi h hx) rfl (lift rfl (zot (getN t x) s hl))
theorem jJ {e : Int} : WpR cfgS ops dst k T S F Q (some (.enter 102 [.d (.bool false), .d (.int .i64 e)])) = WpL cfgS ops k (putT T dst (.tup [])) S F Q :=
 zX (ds := [.bool false, .int .i64 e]) rfl (lift rfl (zy2 e))
theorem jX {e : Int} (he : e ≠ 0) : WpR cfgS ops dst k T S F Q (some (.enter 102 [.d (.bool true), .d (.int .i64 e)])) = Q (.pan (.d (.iface 41 (.int .i64 e)))) T S F :=
 zcc (ds := [.bool true, .int .i64 e]) rfl (lift rfl (zuv e he))
theorem zgx {e : Int} (he : e = 0) : WpR cfgS ops dst k T S F Q (some (.enter 98 [.d (.int .i64 e)])) = WpL cfgS ops k (putT T dst (.tup [])) S F Q := by
 subst he
 exact zX (ds := [.int .i64 0]) rfl (lift rfl ztw)
theorem zc3 {e : Int} (he : e ≠ 0) : WpR cfgS ops dst k T S F Q (some (.enter 98 [.d (.int .i64 e)])) = Q (.pan (.d (.iface 41 (.int .i64 e)))) T S F :=
 zcc (ds := [.int .i64 e]) rfl (lift rfl (zpd e he))
end
theorem zwa (S0 : zA) (a m : Nat) (A B : Int → V) (t : List Node) (hT0 : Tree S0 a m A B t) (hT : Told t) (k0 : Nat) (hk0 : k0 < 300000) (hS : Small k0 t) (ps : List (List UInt8)) (hl : ps.length < 1000000) (z : V) (i4 i5 : Nat) (h45 : i4 ≠ i5) (hi4 : S0.length ≤ i4) (hi5 : S0.length ≤ i5) (R : Post) (g2 g3 g6 : V) : ∀ (k i : Nat) (d : Int) (S : zA) (g7 g8 g9 gI gJ gF gA gB gD gE gK gL gO gM gN gP gQ gV gR gS gT gU gW gX gY gZ gf gg gh gi gj gk gm gn gr gz hC : V), ps.length - i = k → i ≤ ps.length → Keep S0 S → S[i4]? = some (.row [z] 32) → S[i5]? = some (.row [zD (getN t d) (A d) (B d)] 32) →
 (∀ d' i' S g7 g8 g9 gI gJ gF gA gB gD gE gK gL gO gM gN gP gQ gV gR gS gT gU gW gX gY gZ gf gg gh gi gj gk gm gn gr gz hC, goN t (ps.drop i) d = (d', 0) → Keep S0 S → S[i4]? = some (.row [z] 32) → S[i5]? = some (.row [zD (getN t d') (A d') (B d')] 32) → R (.exit 0) ((.ref a 0 0) :: (.d (.sl (ps.map .str))) :: g2 :: g3 :: (.ref i4 0 0) :: (.ref i5 0 0) :: g6 :: g7 :: g8 :: g9 :: gI :: gJ :: gF :: gA :: gB :: (.d (.sl (ps.map .str))) :: (.d (.int .i64 ps.length)) :: i' :: gD :: gE :: gK :: gL :: gO :: gM :: gN :: gP :: gQ :: gV :: gR :: gS :: gT :: gU :: gW :: gX :: gY :: gZ :: gf :: gg :: gh :: gi :: gj :: gk :: gm :: gn :: gr :: gz :: hC :: []) S []) →
 (∀ T S e, (goN t (ps.drop i) d).2 = e → e ≠ 0 → Keep S0 S → R (.pan (.d (.iface 41 (.int .i64 e)))) T S []) →
 Wp cfgS (.loop (lpOf (Try.f99.body.getD .skip) 0)) ((.ref a 0 0) :: (.d (.sl (ps.map .str))) :: g2 :: g3 :: (.ref i4 0 0) :: (.ref i5 0 0) :: g6 :: g7 :: g8 :: g9 :: gI :: gJ :: gF :: gA :: gB :: (.d (.sl (ps.map .str))) :: (.d (.int .i64 ps.length)) :: (.d (.int .i64 i)) :: gD :: gE :: gK :: gL :: gO :: gM :: gN :: gP :: gQ :: gV :: gR :: gS :: gT :: gU :: gW :: gX :: gY :: gZ :: gf :: gg :: gh :: gi :: gj :: gk :: gm :: gn :: gr :: gz :: hC :: []) S [] R := by
 intro k
 induction k with
 | zero =>
  intro i d S g7 g8 g9 gI gJ gF gA gB gD gE gK gL gO gM gN gP gQ gV gR gS gT gU gW gX gY gZ gf gg gh gi gj gk gm gn gr gz hC hk hi hK h4 h5 hE hR
  have hie : i = ps.length := by omega
  rw [qK]
  refine zS ?_
  conv => arg 2; whnf
  simp (maxSteps:=1000000) (disch:=first|assumption|omega|rfl) only [↓gp, gc, Nat.reduceAdd, hPS]
  exact hE d _ _ _ _ _ _ _ _ _ _ _ _ _ _ _ _ _ _ _ _ _ _ _ _ _ _ _ _ _ _ _ _ _ _ _ _ _ _ _ (by rw [hie, List.drop_length]; rfl) hK h4 h5
 | succ k ih =>
  intro i d S g7 g8 g9 gI gJ gF gA gB gD gE gK gL gO gM gN gP gQ gV gR gS gT gU gW gX gY gZ gf gg gh gi gj gk gm gn gr gz hC hk hi hK h4 h5 hE hR
  have hlt : i < ps.length := by omega
  have hdr : ps.drop i = ps[i] :: ps.drop (i + 1) := List.drop_eq_getElem_cons hlt
  rw [hdr] at hE hR
  have hgn : (getN t d).names.length < 1000000 := Nat.lt_of_le_of_lt (hS.gnms d) (by omega)
  have hTS := hT0.keep hK
  have hr5 := zE h5
  have hpr5 := fun y => qD (y := y) h5
  have hra := hTS.row
  rw [qK]
  refine zS ?_
  conv => arg 2; whnf
  by_cases hc : (getN t d).kind = 2
  ·rcases z15 (s := ps[i]) (l := (getN t d).names) (i := 0) with ⟨h1, h2⟩ | ⟨j, hj, h1, h2⟩
   ·have hf : vX (getN t d) ps[i] = (0, false) := by unfold vX; rw [h1]
    have e : goN t (ps[i] :: ps.drop (i + 1)) d = (0, 4) := by simp only [goN, ne_eq, hc, not_true_eq_false, if_false, h2]; rfl
    have h40 : (4 : Int) ≠ 0 := by omega
    simp (maxSteps:=1000000) (disch:=first|assumption|omega|rfl) only [↓gp, gc, Nat.reduceAdd, hPS, hr5, lv, lv1, kM, jJ, z0c hTS.st trivial hgn, hf, z0g, Bool.not_false, jX h40]
    exact hR _ _ 4 (by rw [e]) (by omega) hK
   ·rw [Nat.zero_add] at h1
    have hf : vX (getN t d) ps[i] = (((j : Nat) : Int), true) := by unfold vX; rw [h1]
    have hge := hT.ge2 d _ (List.getElem_mem hj)
    have hhas := hT.has d _ (List.getElem_mem hj)
    have e : goN t (ps[i] :: ps.drop (i + 1)) d = goN t (ps.drop (i + 1)) (qQ (getN t d).names ps[i]) := by
     simp only [goN, ne_eq, hc, not_true_eq_false, if_false]
     rw [if_neg (by rw [h2]; omega)]
    rw [e, h2] at hE hR
    have hlk := fun x => (hTS.st.look x).2
    obtain ⟨id, hix, hre, _⟩ := (hTS.st.na d trivial).ix (t := 30) Try.underlying30 (by kernel_rfl) hj
    simp (maxSteps:=1000000) (disch:=first|assumption|omega|rfl) only [↓gp, gc, Nat.reduceAdd, hPS, hr5, lv, lv1, kM, jJ, z0c hTS.st trivial hgn, hf, z0g, Bool.not_true]
    refine qS (is := [0, 1, 2, 3, 4, 5, 6, 7, 8, 9, 10, 11]) (h := 0) (by kernel_rfl) (by kernel_rfl) ?_
    simp (maxSteps:=1000000) (disch:=first|assumption|omega|rfl) only [List.replicate_zero, eq_self, gd, ga, Nat.reduceAdd, ↓gq, hPS, List.append_nil, qL, qG, vD, wU, hra, hr5, lv6, hix, hre, le1, hlk, sv, hpr5]
    refine ⟨fun _ => by kernel_rfl, ?_⟩
    refine ⟨by kernel_rfl, ?_⟩
    simp (maxSteps:=1000000) (disch:=first|assumption|omega|rfl) only [↓gp, gc, Nat.reduceAdd, hPS]
    exact ih (i + 1) _ _ _ _ _ _ _ _ _ _ _ _ _ _ _ _ _ _ _ _ _ _ _ _ _ _ _ _ _ _ _ _ _ _ _ _ _ _ _ (by omega) (by omega) (hK.set hi5) (by rw [List.getElem?_set_ne (Ne.symm h45)]; exact h4) (jR h5) hE hR
  ·have e : goN t (ps[i] :: ps.drop (i + 1)) d = (0, 6) := by simp only [goN, ne_eq, hc, not_false_eq_true, if_true]
   have h6 : (6 : Int) ≠ 0 := by omega
   simp (maxSteps:=1000000) (disch:=first|assumption|omega|rfl) only [↓gp, gc, Nat.reduceAdd, hPS, hr5, lv, lv1, jX h6]
   exact hR _ _ 6 (by rw [e]) (by omega) hK
section
variable {t : List Node} {A B : Int → V}
def EndS (S0 : zA) (t : List Node) (A B : Int → V) (q : Int × Int) : Out → zA → Prop := fun o S => Keep S0 S ∧ o = if q.2 = 0 then .ret (zD (getN t q.1) (A q.1) (B q.1)) else panD q.2
theorem z5t {S : zA} {i : Nat} {n : Node} {a b : V} (h : S[i]? = some (.row [zD n a b] 32)) : jV Try.prog S 32 (.ref i 0 0) = some (zD n a b) := (jS (zE h)).trans lv
theorem zagg : V.agg [.d (.int .i64 0), .d (.int .i64 0), .d (.int .i64 0), .d (.int .i64 0), .d (.int .i64 0), .ts [], .ts []] = zD zM (.ts []) (.ts []) := rfl
theorem z32v : zeroV Try.prog 32 = some (zD zM (.ts []) (.ts [])) := z32
theorem kX : qI Try.prog 32 (zD zM (.ts []) (.ts [])) = true := by kernel_rfl
theorem qY {S : zA} {o : Ob} : (S ++ [o])[S.length]? = some o := by simp
theorem qO {S l : zA} {i : Nat} {o : Ob} (h : S[i]? = some o) : (S ++ l)[i]? = some o := Keep.app _ _ h
theorem zh8 {ops : Array Oper} {dst : Option Tmp} {k : List Oper} {T : List V} {S : zA} {F : Dfs} {Q : Post} {s : List UInt8} (hl : s.length < 900000) :
  WpR cfgS ops dst k T S F Q (some (.enter 97 [.d (.str s)])) = WpL cfgS ops k (putT T dst (.tup [.d (.sl ((zQ s).1.map .str)), .d (.int .i64 (zQ s).2)])) S F Q :=
 zX (ds := [.str s]) rfl (lift rfl (ze6 s hl))
theorem zr9 {ops : Array Oper} {dst : Option Tmp} {k : List Oper} {T : List V} {S : zA} {F : Dfs} {Q : Post} {s : List UInt8} (hl : s.length < 900000) :
  WpR cfgS ops dst k T S F Q (some (.enter 101 [.d (.str s)])) = WpL cfgS ops k (putT T dst (.tup [.d (.sl ((upN s).1.map .str)), .d (.str (upN s).2.1), .d (.int .i64 (upN s).2.2)])) S F Q :=
 zX (ds := [.str s]) rfl (lift rfl (q0m s hl))
theorem go1S (S0 : zA) (a m : Nat) (hT0 : Tree S0 a m A B t) (hT : Told t) (k0 : Nat) (hk0 : k0 < 300000) (hS : Small k0 t) (ps : List (List UInt8)) (hl : ps.length < 1000000) : EvS cfgS 99 [.ref a 0 0, .d (.sl (ps.map .str))] S0 (EndS S0 t A B (goN t ps 1)) := by
 refine vE rfl zxd ?_
 show Wp cfgS (Try.f99.body.getD .skip) ((.ref a 0 0) :: (.d (.sl (ps.map .str))) :: uZ (uZ (uZ (uZ ((.tup []) :: (.tup []) :: (.tup []) :: (.tup []) :: (.tup []) :: []))))) S0 [] _
 unfold uZ
 conv => arg 2; whnf
 rw [qK]
 have hra := hT0.row
 have hra1 : ∀ l, rowE (S0 ++ l) a 0 = some (.agg [.mr m]) := fun l => (z07 (qN hT0.cell)).trans hra
 have hlk := fun x => ((hT0.keep (Keep.app (l := [Ob.row [zD zM (.ts []) (.ts [])] 32]))).st.look x).2
 have z32' : zeroV Try.prog 32 = some (zD zM (.ts []) (.ts [])) := z32
 have zf32 : qI Try.prog 32 (zD zM (.ts []) (.ts [])) = true := by kernel_rfl
 simp (maxSteps:=1000000) (disch:=first|assumption|omega|rfl) only [↓gp, gc, Nat.reduceAdd, hPS, zagg, zf32, qG, vD, wU, hra, hra1, hlk, svz, sv, zR, zN]
 refine zwa S0 a m A B t hT0 hT k0 hk0 hS ps hl (zD zM (.ts []) (.ts [])) S0.length (S0 ++ [Ob.row [zD zM (.ts []) (.ts [])] 32]).length (by simp) (by omega) (by simp) _ _ _ _ ps.length 0 1 _ _ _ _ _ _ _ _ _ _ _ _ _ _ _ _ _ _ _ _ _ _ _ _ _ _ _ _ _ _ _ _ _ _ _ _ _ _ rfl (by omega) (Keep.app.trans Keep.app) (qO qY) qY ?_ ?_
 ·intro d' i' S g7 g8 g9 gI gJ gF gA gB gD gE gK gL gO gM gN gP gQ gV gR gS gT gU gW gX gY gZ gf gg gh gi gj gk gm gn gr gz hC hg hK h4 h5
  have hr4 := zE h4
  have hr5 := zE h5
  have hpr4 := fun y => qD (y := y) h4
  simp (maxSteps:=1000000) (disch:=first|assumption|omega|rfl) only [↓gp, gc, Nat.reduceAdd, hPS, hr4, hr5, lv, sv, hpr4]
  rw [List.drop_zero] at hg
  rw [hg]
  refine ⟨rfl, _, z5t (jR h4), hK.set (by omega), ?_⟩
  rw [if_pos rfl]
 ·intro T S e he h0 hK
  rw [List.drop_zero] at he
  refine ⟨rfl, hK, ?_⟩
  rw [if_neg (by rw [he]; exact h0), he]
  rfl
theorem z9r {ops : Array Oper} {dst : Option Tmp} {l : List Oper} {T : List V} {S : zA} {F : Dfs} {Q : Post} {f : FuncId} {args : List V} {q : Int × Int} (hs : cfgS.shared f = true) (he : EvS cfgS f args S (EndS S t A B q))
  (h0 : q.2 = 0 → ∀ S', Keep S S' → WpL cfgS ops l (putT T dst (zD (getN t q.1) (A q.1) (B q.1))) S' F Q) (h1 : q.2 ≠ 0 → ∀ S', Keep S S' → Q (.pan (.d (.iface 41 (.int .i64 q.2)))) T S' F) : WpR cfgS ops dst l T S F Q (some (.enter f args)) := by
 refine jK hs he ?_ ?_
 ·rintro v S' ⟨hK, hv⟩
  split at hv
  ·rename_i h; cases hv; exact h0 h S' hK
  ·cases hv
 ·rintro v S' ⟨hK, hv⟩
  split at hv
  ·cases hv
  ·rename_i h; cases hv; exact h1 h S' hK
theorem EvS.weak {C : Cfg} {f : FuncId} {args : List V} {S : zA} {R R' : Out → zA → Prop} (h : EvS C f args S R) (hR : ∀ o S', R o S' → R' o S') : EvS C f args S R' := by
 obtain ⟨n, o, S', h1, h2⟩ := h
 exact ⟨n, o, S', h1, hR _ _ h2⟩
theorem zol (S0 : zA) (a m : Nat) (hT0 : Tree S0 a m A B t) (hT : Told t) (k0 : Nat) (hk0 : k0 < 300000) (hS : Small k0 t) (s : List UInt8) (hl : s.length < 900000) : EvS cfgS 60 [.ref a 0 0, .d (.str s)] S0 (EndS S0 t A B (zH t s)) := by
 have hn := z2t s
 have hn' : (zQ s).1.length < 1000000 := by omega
 refine vE rfl zyd ?_
 show Wp cfgS (Try.f60.body.getD .skip) ((.ref a 0 0) :: (.d (.str s)) :: uZ ((.tup []) :: (.tup []) :: (.tup []) :: (.tup []) :: (.tup []) :: [])) S0 [] _
 unfold uZ
 conv => arg 2; whnf
 rw [qK]
 by_cases h : (zQ s).2 = 0
 ·have hr : zH t s = goN t (zQ s).1 1 := if_neg (by simp [h])
  rw [hr]
  have hTk := hT0.keep (Keep.app (l := [Ob.row [zD zM (.ts []) (.ts [])] 32]))
  simp (maxSteps:=1000000) (disch:=first|assumption|omega|rfl) only [↓gp, gc, Nat.reduceAdd, hPS, zagg, z32v, kX, zh8, zgx h]
  refine z9r rfl (go1S _ a m hTk hT k0 hk0 hS _ hn') ?_ ?_
  ·intro h0 S' hK
   have h4 := hK _ _ (qY (S := S0) (o := Ob.row [zD zM (.ts []) (.ts [])] 32))
   have hr4 := zE h4
   have hpr4 := fun y => qD (y := y) h4
   simp (maxSteps:=1000000) (disch:=first|assumption|omega|rfl) only [↓gp, gc, Nat.reduceAdd, hPS, hr4, sv, hpr4]
   refine ⟨rfl, _, z5t (jR h4), (Keep.app.trans hK).set (by omega), ?_⟩
   rw [if_pos h0]
  ·intro h0 S' hK
   refine ⟨rfl, Keep.app.trans hK, ?_⟩
   rw [if_neg h0]
   rfl
 ·have hr : zH t s = (0, (zQ s).2) := if_pos h
  rw [hr]
  simp (maxSteps:=1000000) (disch:=first|assumption|omega|rfl) only [↓gp, gc, Nat.reduceAdd, hPS, zagg, z32v, kX, zh8, zc3 h]
  refine ⟨rfl, Keep.app, ?_⟩
  rw [if_neg h]
  rfl
theorem q0j (S0 : zA) (a m : Nat) (hT0 : Tree S0 a m A B t) (hT : Told t) (k0 : Nat) (hk0 : k0 < 300000) (hS : Small k0 t) (s : List UInt8) (hl : s.length < 900000) : EvS cfgS 107 [.ref a 0 0, .d (.str s)] S0 (EndS S0 t A B (if (zH t s).2 ≠ 0 then zH t s else if (getN t (zH t s).1).kind = 2 then (0, 7) else zH t s)) := by
 refine vE rfl zqq ?_
 show Wp cfgS (Try.f107.body.getD .skip) ((.ref a 0 0) :: (.d (.str s)) :: uZ ((.tup []) :: (.tup []) :: [])) S0 [] _
 unfold uZ
 conv => arg 2; whnf
 rw [qK]
 have hTk := hT0.keep (Keep.app (l := [Ob.row [zD zM (.ts []) (.ts [])] 32]))
 simp (maxSteps:=1000000) (disch:=first|assumption|omega|rfl) only [↓gp, gc, Nat.reduceAdd, hPS, zagg, z32v, kX]
 refine z9r rfl (zol _ a m hTk hT k0 hk0 hS s hl) ?_ ?_
 ·intro h0 S' hK
  have h4 := hK _ _ (qY (S := S0) (o := Ob.row [zD zM (.ts []) (.ts [])] 32))
  have hlt := qN h4
  have hr4 := zE h4
  have hr4' : ∀ l, rowE (S' ++ l) S0.length 0 = some (zD zM (.ts []) (.ts [])) := fun l => (z07 hlt).trans hr4
  have hpr4 := fun (l : zA) y => qD (y := y) (qO (l := l) h4)
  rw [if_neg (by simp [h0])]
  by_cases hc : (getN t (zH t s).1).kind = 2
  ·have h7 : (7 : Int) ≠ 0 := by omega
   rw [if_pos hc]
   simp (maxSteps:=1000000) (disch:=first|assumption|omega|rfl) only [↓gp, gc, Nat.reduceAdd, hPS, zagg, z32v, kX, svz, sv, lv, lv1, zR, zN, jX h7]
   refine ⟨rfl, (Keep.app.trans hK).trans Keep.app, ?_⟩
   rfl
  ·rw [if_neg hc]
   simp (maxSteps:=1000000) (disch:=first|assumption|omega|rfl) only [↓gp, gc, Nat.reduceAdd, hPS, zagg, z32v, kX, svz, sv, lv, lv1, zR, zN, jJ, hr4', hpr4]
   refine ⟨rfl, _, z5t (jR (qO h4)), ((Keep.app.trans hK).trans Keep.app).set (by omega), ?_⟩
   rw [if_pos h0]
 ·intro h0 S' hK
  refine ⟨rfl, Keep.app.trans hK, ?_⟩
  rw [if_pos h0, if_neg h0]
  rfl
end
end Go.Proofs.Ytghllhghboaagaa
end
section
namespace Go.Proofs.Ytghllhghboaagaa
open Go.Vm
variable {t : List Node} {A B : Int → V}
def zq0 (S0 : zA) (t : List Node) (A B : Int → V) (q : Int × List UInt8 × Int) : Out → zA → Prop := fun o S => Keep S0 S ∧ o = if q.2.2 = 0 then .ret (.tup [zD (getN t q.1) (A q.1) (B q.1), .d (.str q.2.1)]) else panD q.2.2
theorem z5z {ops : Array Oper} {dst : Option Tmp} {l : List Oper} {T : List V} {S : zA} {F : Dfs} {Q : Post} {f : FuncId} {args : List V} {q : Int × List UInt8 × Int} (hs : cfgS.shared f = true) (he : EvS cfgS f args S (zq0 S t A B q))
  (h0 : q.2.2 = 0 → ∀ S', Keep S S' → WpL cfgS ops l (putT T dst (.tup [zD (getN t q.1) (A q.1) (B q.1), .d (.str q.2.1)])) S' F Q) (h1 : q.2.2 ≠ 0 → ∀ S', Keep S S' → Q (.pan (.d (.iface 41 (.int .i64 q.2.2)))) T S' F) : WpR cfgS ops dst l T S F Q (some (.enter f args)) := by
 refine jK hs he ?_ ?_
 ·rintro v S' ⟨hK, hv⟩
  split at hv
  ·rename_i h; cases hv; exact h0 h S' hK
  ·cases hv
 ·rintro v S' ⟨hK, hv⟩
  split at hv
  ·cases hv
  ·rename_i h; cases hv; exact h1 h S' hK
theorem zvs {S : zA} {T : List V} {x y : Nat} {v w u : V} (hx : T.getD x (.tup []) = u) (hl : jV Try.prog S 32 u = some v) (hy : T.getD y (.tup []) = w) (h1 : v.one = true) (h2 : w.one = true) : jQ Try.prog #[.cell x 32, .tmp y] T S = some (.tup [v, w]) := by
 simp only [jQ, allO, wT, hx, hl, hy, List.all_cons, List.all_nil, h1, h2, Bool.and_self, if_true]
theorem zci (S0 : zA) (a m : Nat) (hT0 : Tree S0 a m A B t) (hT : Told t) (k0 : Nat) (hk0 : k0 < 300000) (hS : Small k0 t) (s : List UInt8) (hl : s.length < 900000) : EvS cfgS 64 [.ref a 0 0, .d (.str s)] S0 (zq0 S0 t A B (zK t s)) := by
 have hn := z2t s
 generalize hr : zK t s = r
 unfold zK at hr
 have hu : upN s = upN s := rfl
 conv at hu => rhs; unfold upN
 refine vE rfl zzf ?_
 show Wp cfgS (Try.f64.body.getD .skip) ((.ref a 0 0) :: (.d (.str s)) :: uZ (uZ ((.tup []) :: (.tup []) :: (.tup []) :: (.tup []) :: (.tup []) :: []))) S0 [] _
 unfold uZ
 conv => arg 2; whnf
 rw [qK]
 have hTk := hT0.keep (Keep.app (l := [Ob.row [zD zM (.ts []) (.ts [])] 32]))
 by_cases h : (zQ s).2 = 0
 ·rw [if_neg (by simp [h])] at hr hu
  by_cases h0 : (zQ s).1.length = 0
  ·rw [if_pos h0] at hr hu
   subst hr
   have h15 : (upN s).2.2 ≠ 0 := by rw [hu]; simp
   have e15 : (upN s).2.2 = 15 := by rw [hu]
   simp (maxSteps:=1000000) (disch:=first|assumption|omega|rfl) only [↓gp, gc, Nat.reduceAdd, hPS, zagg, z32v, kX, zr9, zc3 h15]
   rw [e15]
   exact ⟨rfl, Keep.app, rfl⟩
  ·rw [if_neg h0] at hr hu
   have e0 : (upN s).2.2 = 0 := by rw [hu]
   have e1 : (upN s).1 = (zQ s).1.take ((zQ s).1.length - 1) := by rw [hu]
   have e2 : (upN s).2.1 = (zQ s).1.getD ((zQ s).1.length - 1) [] := by rw [hu]
   rw [← e1, ← e2] at hr
   have hul : (upN s).1.length < 1000000 := by rw [e1, List.length_take]; omega
   simp (maxSteps:=1000000) (disch:=first|assumption|omega|rfl) only [↓gp, gc, Nat.reduceAdd, hPS, zagg, z32v, kX, zr9, zgx e0]
   refine z9r rfl (go1S _ a m hTk hT k0 hk0 hS _ hul) ?_ ?_
   ·intro h2 S' hK
    rw [if_neg (by simp [h2])] at hr
    have h4 := hK _ _ (qY (S := S0) (o := Ob.row [zD zM (.ts []) (.ts [])] 32))
    have hlt := qN h4
    have hr4 := zE h4
    have hr4' : ∀ l, rowE (S' ++ l) S0.length 0 = some (zD zM (.ts []) (.ts [])) := fun l => (z07 hlt).trans hr4
    have hpr4 := fun (l : zA) y => qD (y := y) (qO (l := l) h4)
    by_cases h3 : (getN t (goN t (upN s).1 1).1).kind = 2
    ·rw [if_neg (by simp [h3])] at hr
     subst hr
     simp (maxSteps:=1000000) (disch:=first|assumption|omega|rfl) only [↓gp, gc, Nat.reduceAdd, hPS, zagg, z32v, kX, svz, sv, lv, lv1, zR, zN, jJ, hr4', hpr4]
     exact ⟨rfl, _, zvs rfl (z5t (jR (qO h4))) rfl rfl rfl, ((Keep.app.trans hK).trans Keep.app).set (by omega), rfl⟩
    ·rw [if_pos h3] at hr
     subst hr
     have h6 : (6 : Int) ≠ 0 := by omega
     simp (maxSteps:=1000000) (disch:=first|assumption|omega|rfl) only [↓gp, gc, Nat.reduceAdd, hPS, zagg, z32v, kX, svz, sv, lv, lv1, zR, zN, jX h6]
     exact ⟨rfl, (Keep.app.trans hK).trans Keep.app, rfl⟩
   ·intro h2 S' hK
    rw [if_pos h2] at hr
    subst hr
    refine ⟨rfl, Keep.app.trans hK, ?_⟩
    rw [if_neg h2]
    rfl
 ·rw [if_pos h] at hr hu
  subst hr
  have he : (upN s).2.2 ≠ 0 := by rw [hu]; exact h
  have e15 : (upN s).2.2 = (zQ s).2 := by rw [hu]
  simp (maxSteps:=1000000) (disch:=first|assumption|omega|rfl) only [↓gp, gc, Nat.reduceAdd, hPS, zagg, z32v, kX, zr9, zc3 he]
  rw [e15]
  refine ⟨rfl, Keep.app, ?_⟩
  rw [if_neg h]
  rfl
theorem fv3 {n : Node} {a b : V} : z6a Try.prog 32 3 (zD n a b) = some (.d (.int .i64 n.parent)) := by kernel_rfl
theorem St.lenm {g : Int → Prop} {S : zA} {m : Nat} (h : St g S m A B t) : qB Try.prog S .len [125] [.mr m] = some (.val (.d (.int .i64 t.length)) S 1) := by
 obtain ⟨L, c, h1, h2, _⟩ := h.mp
 simp only [qB, Try.underlying125, kV, h1, List.length_map, h2]
theorem zsu (S0 : zA) (a m : Nat) (hT0 : Tree S0 a m A B t) (hl : t.length < 400000) (R : Post) (g1 g2 : V) : ∀ (k : Nat) (i : Int) (S : zA) (v4 v5 g6 g7 g8 g9 gI gJ gF gA gB gG gH gC gD gE : V), jA t - i = k → 2 ≤ i → Keep S0 S →
 (∀ (S : zA) (g4 g5 g6 g7 g8 g9 gI gJ gF gA gB gG gH gC gD gE : V), Keep S0 S → R .ret ((.ref a 0 0) :: g1 :: (.d (.int .i64 (jA t))) :: (.d (.int .i64 (jA t))) :: g4 :: g5 :: g6 :: g7 :: g8 :: g9 :: gI :: gJ :: gF :: gA :: gB :: gG :: gH :: gC :: gD :: gE :: []) S []) →
 Wp cfgS (.loop (lpOf (Try.f66.body.getD .skip) 0)) ((.ref a 0 0) :: g1 :: g2 :: (.d (.int .i64 i)) :: v4 :: v5 :: g6 :: g7 :: g8 :: g9 :: gI :: gJ :: gF :: gA :: gB :: gG :: gH :: gC :: gD :: gE :: []) S [] R := by
 obtain ⟨hn1, hn2, hn3⟩ := z1h t
 intro k
 induction k with
 | zero =>
  intro i S v4 v5 g6 g7 g8 g9 gI gJ gF gA gB gG gH gC gD gE hk hi hK hR
  have hie : i = jA t := by omega
  have hno : hasN t i = false := by
   rw [hie]
   unfold hasN
   rw [List.find?_eq_none.2 (fun n hn => by simpa using hn1 n hn)]
   rfl
  have hTS := hT0.keep hK
  have hra := hTS.row
  have hlk := fun x => (hTS.st.look x).1
  rw [qK]
  refine zS ?_
  conv => arg 2; whnf
  simp (maxSteps:=1000000) (disch:=first|assumption|omega|rfl) only [↓gp, gc, Nat.reduceAdd, hPS, zagg, z32v, kX, qG, vD, wU, hra, hlk, hno, svz, sv, zR, zN, z0g, Bool.not_false]
  rw [hie]
  exact hR _ _ _ _ _ _ _ _ _ _ _ _ _ _ _ _ _ (hK.trans Keep.app)
 | succ k ih =>
  intro i S v4 v5 g6 g7 g8 g9 gI gJ gF gA gB gG gH gC gD gE hk hi hK hR
  have hyes : hasN t i = true := z9g (t := t) (k := t.length + 1) (i := 2) hi (by show i < jA t; omega)
  have hTS := hT0.keep hK
  have hra := hTS.row
  have hlk := fun x => (hTS.st.look x).1
  rw [qK]
  refine zS ?_
  conv => arg 2; whnf
  simp (maxSteps:=1000000) (disch:=first|assumption|omega|rfl) only [↓gp, gc, Nat.reduceAdd, hPS, zagg, z32v, kX, qG, vD, wU, hra, hlk, hyes, svz, sv, zR, zN, z0g, Bool.not_true]
  exact ih (i + 1) _ _ _ _ _ _ _ _ _ _ _ _ _ _ _ _ _ (by omega) (by omega) (hK.trans Keep.app) hR
theorem q1q (S0 : zA) (a m : Nat) (hT0 : Tree S0 a m A B t) (hl : t.length < 400000) : EvS cfgS 66 [.ref a 0 0] S0 fun o S => Keep S0 S ∧ o = .ret (.d (.int .i64 (jA t))) := by
 refine vE rfl zx7 ?_
 show Wp cfgS (Try.f66.body.getD .skip) ((.ref a 0 0) :: uZ ((.tup []) :: (.tup []) :: (.tup []) :: (.tup []) :: (.tup []) :: (.tup []) :: (.tup []) :: (.tup []) :: (.tup []) :: [])) S0 [] _
 unfold uZ
 conv => arg 2; whnf
 rw [qK]
 obtain ⟨hn1, hn2, hn3⟩ := z1h t
 simp (maxSteps:=1000000) (disch:=first|assumption|omega|rfl) only [↓gp, gc, Nat.reduceAdd, hPS]
 refine zsu S0 a m hT0 hl _ _ _ (jA t - 2).toNat 2 _ _ _ _ _ _ _ _ _ _ _ _ _ _ _ _ _ (by omega) (by omega) Keep.refl ?_
 intro S g4 g5 g6 g7 g8 g9 gI gJ gF gA gB gG gH gC gD gE hK
 simp (maxSteps:=1000000) (disch:=first|assumption|omega|rfl) only [↓gp, gc, Nat.reduceAdd, hPS]
 exact ⟨rfl, _, rfl, hK, rfl⟩
theorem zoo (S0 : zA) (a m : Nat) (hT0 : Tree S0 a m A B t) (hl : t.length < 400000) (top : Int) (R : Post) (g3 g4 g5 g6 : V) : ∀ (k i : Nat) (d : Int) (g8 g9 gI gJ gF gA gB gG gH gC gD gE gK gL gO gM gN gP gQ : V), t.length + 1 - i = k → i ≤ t.length + 1 →
 (∀ v1 v7 g8 g9 gI gJ gF gA gB gG gH gC gD gE gK gL gO gM gN gP gQ, wJ t top k d = false → R (.exit 0) ((.ref a 0 0) :: v1 :: (.d (.int .i64 top)) :: g3 :: g4 :: g5 :: g6 :: v7 :: g8 :: g9 :: gI :: gJ :: gF :: gA :: gB :: gG :: gH :: gC :: gD :: gE :: gK :: gL :: gO :: gM :: gN :: gP :: gQ :: []) S0 []) →
 (∀ v1 v7 g8 g9 gI gJ gF gA gB gG gH gC gD gE gK gL gO gM gN gP gQ, wJ t top k d = true → R .ret ((.ref a 0 0) :: v1 :: (.d (.int .i64 top)) :: g3 :: g4 :: g5 :: (.d (.bool true)) :: v7 :: g8 :: g9 :: gI :: gJ :: gF :: gA :: gB :: gG :: gH :: gC :: gD :: gE :: gK :: gL :: gO :: gM :: gN :: gP :: gQ :: []) S0 []) →
 Wp cfgS (.loop (lpOf (Try.f109.body.getD .skip) 0)) ((.ref a 0 0) :: (.d (.int .i64 d)) :: (.d (.int .i64 top)) :: g3 :: g4 :: g5 :: g6 :: (.d (.int .i64 i)) :: g8 :: g9 :: gI :: gJ :: gF :: gA :: gB :: gG :: gH :: gC :: gD :: gE :: gK :: gL :: gO :: gM :: gN :: gP :: gQ :: []) S0 [] R := by
 have hra := hT0.row
 have hlk := fun x => (hT0.st.look x).2
 have hlm := hT0.st.lenm
 intro k
 induction k with
 | zero =>
  intro i d g8 g9 gI gJ gF gA gB gG gH gC gD gE gK gL gO gM gN gP gQ hk hi hE hR
  have hie : i = t.length + 1 := by omega
  subst hie
  have hx : ¬ ((t.length + 1 : Nat) : Int) ≤ (t.length : Int) := by omega
  rw [qK]
  refine zS ?_
  conv => arg 2; whnf
  simp (maxSteps:=1000000) (disch:=first|assumption|omega|rfl) only [↓gp, gc, Nat.reduceAdd, hPS, qG, vD, wU, hra, hlm]
  exact hE _ _ _ _ _ _ _ _ _ _ _ _ _ _ _ _ _ _ _ _ _ rfl
 | succ k ih =>
  intro i d g8 g9 gI gJ gF gA gB gG gH gC gD gE gK gL gO gM gN gP gQ hk hi hE hR
  have hx : (i : Int) ≤ (t.length : Int) := by omega
  rw [qK]
  refine zS ?_
  conv => arg 2; whnf
  by_cases hd : d = top
  ·simp (maxSteps:=1000000) (disch:=first|assumption|omega|rfl) only [↓gp, gc, Nat.reduceAdd, hPS, qG, vD, wU, hra, hlm]
   exact hR _ _ _ _ _ _ _ _ _ _ _ _ _ _ _ _ _ _ _ _ _ (by simp [wJ, hd])
  ·have e : wJ t top (k + 1) d = wJ t top k (getN t d).parent := by simp only [wJ, hd, if_false]
   rw [e] at hE hR
   simp (maxSteps:=1000000) (disch:=first|assumption|omega|rfl) only [↓gp, gc, Nat.reduceAdd, hPS, qG, vD, wU, hra, hlm, hlk, fv3]
   exact ih (i + 1) _ _ _ _ _ _ _ _ _ _ _ _ _ _ _ _ _ _ _ _ (by omega) (by omega) hE hR
theorem zp5 (S0 : zA) (a m : Nat) (hT0 : Tree S0 a m A B t) (hl : t.length < 400000) (d top : Int) : EvS cfgS 109 [.ref a 0 0, .d (.int .i64 d), .d (.int .i64 top)] S0 fun o S => S = S0 ∧ o = .ret (.d (.bool (wJ t top (t.length + 1) d))) := by
 refine vE rfl zsp ?_
 show Wp cfgS (Try.f109.body.getD .skip) ((.ref a 0 0) :: (.d (.int .i64 d)) :: (.d (.int .i64 top)) :: uZ (uZ ((.tup []) :: (.tup []) :: (.tup []) :: (.tup []) :: []))) S0 [] _
 unfold uZ
 conv => arg 2; whnf
 rw [qK]
 simp (maxSteps:=1000000) (disch:=first|assumption|omega|rfl) only [↓gp, gc, Nat.reduceAdd, hPS]
 refine zoo S0 a m hT0 hl top _ _ _ _ _ (t.length + 1) 0 d _ _ _ _ _ _ _ _ _ _ _ _ _ _ _ _ _ _ _ rfl (by omega) ?_ ?_
 ·intro v1 v7 g8 g9 gI gJ gF gA gB gG gH gC gD gE gK gL gO gM gN gP gQ h
  simp (maxSteps:=1000000) (disch:=first|assumption|omega|rfl) only [↓gp, gc, Nat.reduceAdd, hPS]
  exact ⟨rfl, _, rfl, rfl, by rw [h]; rfl⟩
 ·intro v1 v7 g8 g9 gI gJ gF gA gB gG gH gC gD gE gK gL gO gM gN gP gQ h
  simp (maxSteps:=1000000) (disch:=first|assumption|omega|rfl) only [↓gp, gc, Nat.reduceAdd, hPS]
  exact ⟨rfl, _, rfl, rfl, by rw [h]; rfl⟩
end Go.Proofs.Ytghllhghboaagaa
end
section
namespace Go.Vm
open Go
section
variable (C : Cfg) (ops : Array Oper) (base : Nat)
abbrev Ws := List (Nat × List V × V)
def WOne (i : Nat) (S' : zA) (w : Nat × List V × V) : Prop := ((befs ops).getD i 0).testBit w.1 = true ∨ ∃ o n v S2, ops[w.1]? = some o ∧ effC C (run C n) ops (base + w.1) o w.2.1 S' = some (v, S2, 1) ∧ z3h w.2.2 v = true
def WAll (ws : Ws) (i : Nat) (S' : zA) : Prop := ∀ w ∈ ws, WOne C ops base i S' w
def WpEw (K : Ws → List (Nat × Nat) → List V → zA → Prop) (ws : Ws) (cs : List (Nat × Nat)) (i : Nat) (dst : Option Tmp) (T : List V) (S : zA) : Option Rs → Prop
 | some (.val v S' c) => (2 < num2 c → WAll C ops base ws i S') ∧ K (if num2 c = 1 then (i, T, v) :: ws else ws) (cs ++ [(i, num2 c)]) (putT T dst v) S'
 | some (.skip S' _) => WAll C ops base ws i S' ∧ K ws (cs ++ [(i, 3)]) (putT T dst (.tup [])) S'
 | some (.enter f args) => ∃ n v S' c, kE C (run C n) f args S = some (.ret v, S', c) ∧ (2 < num2 c → WAll C ops base ws i S') ∧ K (if num2 c = 1 then (i, T, v) :: ws else ws) (cs ++ [(i, num2 c)]) (putT T dst v) S'
 | _ => False
def WpDw (F : Dfs) (Q : Post) : Ws → List (Nat × Nat) → List Nat → List V → zA → Prop
 | ws, cs, [], T, S => z3q ops cs = true ∧ Q .norm T S F
 | ws, cs, i :: is, T, S => match ops[i]? with
  | none => False
  | some o => match qE ops T o with
   | none => False
   | some false => WpDw F Q ws (cs ++ [(i, 0)]) is (putT T o.dst (.tup [])) S
   | some true => if kR o = true then WpA base (fun cs T S => WpDw F Q ws cs is T S) cs i o.dst T S (addO C.P T o)
    else WpEw C ops base (fun ws cs T S => WpDw F Q ws cs is T S) ws cs i o.dst T S (opV C.P S T o)
end
section
variable {C : Cfg} {ops : Array Oper} {base : Nat} {F : Dfs} {Q : Post}
theorem zgm {i : Nat} {S' : zA} : ∀ {ws : Ws}, WAll C ops base ws i S' → ∃ n, ∀ m, n ≤ m → ws.all (kI C (run C m) ops (befs ops) base i S') = true
 | [], _ => ⟨0, fun _ _ => rfl⟩
 | w :: ws, h => by
  obtain ⟨n, hn⟩ := zgm (ws := ws) fun x hx => h x (List.mem_cons_of_mem _ hx)
  rcases h w List.mem_cons_self with h1 | ⟨o, k, v, S2, h1, h2, h3⟩
  ·refine ⟨n, fun m hm => ?_⟩
   simp only [List.all_cons, hn m hm, Bool.and_true, kI, h1, Bool.true_or]
  ·refine ⟨max n k, fun m hm => ?_⟩
   have he := z05 (z4t C (show k ≤ m by omega)) h2
   simp only [List.all_cons, hn m (by omega), Bool.and_true, kI, h1, he, h3, Bool.or_true]
theorem zph : ∀ {is : List Nat} {ws : Ws} {cs : List (Nat × Nat)} {T : List V} {S : zA}, WpDw C ops base F Q ws cs is T S → ∃ n T' S' cs', seqC C (run C n) ops (befs ops) base ws is T S = some (T', S', cs') ∧ z3q ops (cs ++ cs') = true ∧ Q .norm T' S' F
 | [], ws, cs, T, S, h => ⟨0, T, S, [], rfl, by simpa [WpDw] using h.1, h.2⟩
 | i :: is, ws, cs, T, S, h => by
  have go : ∀ (n : Nat) (o : Oper) (v : V) (S' : zA) (c : Nat), ops[i]? = some o → effC C (run C n) ops (base + i) o T S = some (v, S', c) → (2 < c → WAll C ops base ws i S') → WpDw C ops base F Q (if c = 1 then (i, T, v) :: ws else ws) (cs ++ [(i, c)]) is (putT T o.dst v) S' →
    ∃ n T' S' cs', seqC C (run C n) ops (befs ops) base ws (i :: is) T S = some (T', S', cs') ∧ z3q ops (cs ++ cs') = true ∧ Q .norm T' S' F := by
   intro n o v S' c ho he hb hd
   obtain ⟨m, T2, S2, cs2, h1, h2, h3⟩ := zph hd
   have hw : ∃ k, 2 < c → ∀ m, k ≤ m → ws.all (kI C (run C m) ops (befs ops) base i S') = true := by
    by_cases hc : 2 < c
    ·obtain ⟨k, hk⟩ := zgm (hb hc)
     exact ⟨k, fun _ => hk⟩
    ·exact ⟨0, fun h => absurd h hc⟩
   obtain ⟨k, hk⟩ := hw
   refine ⟨max (max n m) k, T2, S2, (i, c) :: cs2, ?_, by simpa using h2, h3⟩
   have he' := z05 (z4t C (show n ≤ max (max n m) k by omega)) he
   have h1' := z6j (z4t C (show m ≤ max (max n m) k by omega)) h1
   simp only [seqC, ho, he']
   rw [if_neg, h1']
   rintro ⟨hc, hall⟩
   rw [hk hc _ (by omega)] at hall
   cases hall
  simp only [WpDw] at h
  cases ho : ops[i]? with
  | none => simp [ho] at h
  | some o =>
   simp only [ho] at h
   cases hwt : qE ops T o with
   | none => simp [hwt] at h
   | some b =>
    simp only [hwt] at h
    cases b with
    | false => exact go 0 o (.tup []) S 0 ho (by simp [effC, hwt]) (fun hc => by omega) h
    | true =>
     cases hk : kR o with
     | true =>
      simp only [hk, if_true] at h
      cases hadd : addO C.P T o with
      | none => simp [hadd, WpA] at h
      | some q =>
       obtain ⟨ob, f⟩ := q
       simp only [hadd, WpA] at h
       exact go 0 o (f (base + i)) (S.set (base + i) ob) 2 ho (by simp [effC, hwt, hk, hadd, h.1]) (fun hc => by omega) h.2
     | false =>
      simp only [hk, Bool.false_eq_true, if_false] at h
      cases hop : opV C.P S T o with
      | none => simp [hop, WpEw] at h
      | some r =>
       simp only [hop] at h
       cases r with
       | val v S' c => exact go 0 o v S' (num2 c) ho (by simp [effC, hwt, hk, hop]) h.1 h.2
       | skip S' c => exact go 0 o (.tup []) S' 3 ho (by simp [effC, hwt, hk, hop]) (fun _ => h.1) h.2
       | enter f args =>
        obtain ⟨n, v, S', c, h1, h2, h3⟩ := h
        exact go n o v S' (num2 c) ho (by simp [effC, hwt, hk, hop, h1]) h2 h3
       | dfr f args => exact h.elim
       | pan v => exact h.elim
theorem vG {id : Nat} {T : List V} {S : zA} {is : List Nat} {h : Nat} (ho : z2a C.shared ops = is) (hh : z01 ops = h) (hd : WpDw C ops S.length F Q [] [] is T (S ++ List.replicate h .hole)) : Wp C (.region id ops true) T S F Q := by
 subst ho; subst hh
 obtain ⟨n, T', S', cs', h1, h2, h3⟩ := zph hd
 exact ⟨n + 1, .norm, T', S', F, by simp only [exec, h1]; rw [if_pos (by simpa using h2)], h3⟩
theorem qV {i : Nat} {S' : zA} : WAll C ops base [] i S' := fun w hw => by cases hw
theorem zG {i : Nat} {S' : zA} {w : Nat × List V × V} {ws : Ws} (h : ((befs ops).getD i 0).testBit w.1 = true) (hw : WAll C ops base ws i S') : WAll C ops base (w :: ws) i S' := fun x hx => by
 rcases List.mem_cons.1 hx with rfl | hx
 ·exact .inl h
 ·exact hw x hx
theorem jT {i j : Nat} {S' : zA} {T : List V} {v : V} {ws : Ws} {o : Oper} (ho : ops[j]? = some o) (hwt : qE ops T o = some true) (ha : kR o = false) (hop : opV C.P S' T o = some (.val v S' 1)) (hs : z3h v v = true) (hw : WAll C ops base ws i S') : WAll C ops base ((j, T, v) :: ws) i S' := fun x hx => by
 rcases List.mem_cons.1 hx with rfl | hx
 ·exact .inr ⟨o, 0, v, S', ho, by simp [effC, hwt, ha, hop, num2], hs⟩
 ·exact hw x hx
def WpXw (C : Cfg) (ops : Array Oper) (base : Nat) (F : Dfs) (Q : Post) (ws : Ws) (cs : List (Nat × Nat)) (i : Nat) (is : List Nat) (T : List V) (S : zA) (o : Oper) : Bool → Prop
 | true => WpA base (fun cs T S => WpDw C ops base F Q ws cs is T S) cs i o.dst T S (addO C.P T o)
 | false => WpEw C ops base (fun ws cs T S => WpDw C ops base F Q ws cs is T S) ws cs i o.dst T S (opV C.P S T o)
def WpOw (C : Cfg) (ops : Array Oper) (base : Nat) (F : Dfs) (Q : Post) (ws : Ws) (cs : List (Nat × Nat)) (i : Nat) (is : List Nat) (T : List V) (S : zA) (o : Oper) : Option Bool → Prop
 | none => False
 | some false => WpDw C ops base F Q ws (cs ++ [(i, 0)]) is (putT T o.dst (.tup [])) S
 | some true => WpXw C ops base F Q ws cs i is T S o (kR o)
def WpIw (C : Cfg) (ops : Array Oper) (base : Nat) (F : Dfs) (Q : Post) (ws : Ws) (cs : List (Nat × Nat)) (i : Nat) (is : List Nat) (T : List V) (S : zA) : Option Oper → Prop
 | none => False
 | some o => WpOw C ops base F Q ws cs i is T S o (qE ops T o)
section
variable {ws : Ws} {cs : List (Nat × Nat)} {i : Nat} {is : List Nat} {T : List V} {S S' : zA} {o : Oper} {K : Ws → List (Nat × Nat) → List V → zA → Prop} {dst : Option Tmp} {v : V} {c : Nat}
theorem dw1 : WpDw C ops base F Q ws cs [] T S = (z3q ops cs = true ∧ Q .norm T S F) := rfl
theorem dw2 : WpDw C ops base F Q ws cs (i :: is) T S = WpIw C ops base F Q ws cs i is T S (ops[i]?) := by
 show (match ops[i]? with
  | none => False
  | some o => match qE ops T o with
   | none => False
   | some false => WpDw C ops base F Q ws (cs ++ [(i, 0)]) is (putT T o.dst (.tup [])) S
   | some true => if kR o = true then WpA base (fun cs T S => WpDw C ops base F Q ws cs is T S) cs i o.dst T S (addO C.P T o)
    else WpEw C ops base (fun ws cs T S => WpDw C ops base F Q ws cs is T S) ws cs i o.dst T S (opV C.P S T o)) = _
 unfold WpIw WpOw
 cases ops[i]? with
 | none => rfl
 | some o =>
  simp only
  cases qE ops T o with
  | none => rfl
  | some b =>
   cases b with
   | false => rfl
   | true => cases kR o <;> rfl
theorem dw3 : WpIw C ops base F Q ws cs i is T S (some o) = WpOw C ops base F Q ws cs i is T S o (qE ops T o) := rfl
theorem dw4 : WpOw C ops base F Q ws cs i is T S o (some false) = WpDw C ops base F Q ws (cs ++ [(i, 0)]) is (putT T o.dst (.tup [])) S := rfl
theorem dw5 : WpOw C ops base F Q ws cs i is T S o (some true) = WpXw C ops base F Q ws cs i is T S o (kR o) := rfl
theorem dw6 : WpXw C ops base F Q ws cs i is T S o false = WpEw C ops base (fun ws cs T S => WpDw C ops base F Q ws cs is T S) ws cs i o.dst T S (opV C.P S T o) := rfl
theorem dw7 : WpXw C ops base F Q ws cs i is T S o true = WpA base (fun cs T S => WpDw C ops base F Q ws cs is T S) cs i o.dst T S (addO C.P T o) := rfl
theorem dw8 : WpEw C ops base K ws cs i dst T S (some (.val v S' 0)) = K ws (cs ++ [(i, 0)]) (putT T dst v) S' := by simp [WpEw, num2]
theorem dw9 : WpEw C ops base K ws cs i dst T S (some (.val v S' 1)) = K ((i, T, v) :: ws) (cs ++ [(i, 1)]) (putT T dst v) S' := by simp [WpEw, num2]
theorem dw10 : WpEw C ops base K ws cs i dst T S (some (.skip S' c)) = (WAll C ops base ws i S' ∧ K ws (cs ++ [(i, 3)]) (putT T dst (.tup [])) S') := rfl
theorem dw11 : WpEw C ops base K ws cs i dst T S (some (.val v S' 2)) = (WAll C ops base ws i S' ∧ K ws (cs ++ [(i, 3)]) (putT T dst v) S') := by simp [WpEw, num2]
theorem dw12 : WpEw C ops base K ws cs i dst T S (some (.val v S' 3)) = (WAll C ops base ws i S' ∧ K ws (cs ++ [(i, 3)]) (putT T dst v) S') := by simp [WpEw, num2]
end
end
end Go.Vm
end
section
namespace Go.Proofs.Ytghllhghboaagaa
open Go.Vm
def KeepL (S S' : zA) : Prop := ∀ (j : Nat) (ys : List V) (e : TypeId), e ≠ 5 → e ≠ 88 → S[j]? = some (.row ys e) → S'[j]? = some (.row ys e)
theorem Keep.toL {S S' : zA} (h : Keep S S') : KeepL S S' := fun j ys e _ _ hj => h j _ hj
theorem KeepL.refl {S : zA} : KeepL S S := fun _ _ _ _ _ h => h
theorem KeepL.trans {S S' S'' : zA} (h : KeepL S S') (h' : KeepL S' S'') : KeepL S S'' := fun j ys e h1 h2 hj => h' j ys e h1 h2 (h j ys e h1 h2 hj)
theorem KeepL.set {S S' : zA} {i : Nat} {o : Ob} (h : KeepL S S') (hi : S.length ≤ i) : KeepL S (S'.set i o) := fun j ys e h1 h2 hj => by
 have := qN hj
 rw [List.getElem?_set_ne (by omega)]
 exact h j ys e h1 h2 hj
section
variable {α : Type} {enc : α → D} {S S' : zA} {v : V} {e : TypeId} {xs : List α}
theorem SlE.cells (h : SlE enc S v e xs) : v.cells = [v] := by
 rcases h with ⟨rfl, _⟩ | ⟨id, ys, rfl, _⟩ <;> rfl
theorem SlE.one (h : SlE enc S v e xs) : v.one = true := by
 rcases h with ⟨rfl, _⟩ | ⟨id, ys, rfl, _⟩ <;> rfl
theorem SlE.same (h : SlE enc S v e xs) : z3h v v = true := by
 rcases h with ⟨rfl, _⟩ | ⟨id, ys, rfl, _⟩ <;> simp [z3h, wL, wN, z0d]
theorem SlE.row (h : SlE enc S v e xs) {i : Nat} (hi : idOf v = some i) : ∃ ys, S[i]? = some (.row ys e) := by
 rcases h with ⟨rfl, _⟩ | ⟨id, ys, rfl, h1⟩
 ·cases hi
 ·cases hi; exact ⟨_, h1⟩
theorem SlE.frame2 (h : SlE enc S v e xs) (hf : ∀ (j : Nat) (o : Ob), S[j]? = some o → idOf v = some j → S'[j]? = some o) : SlE enc S' v e xs := by
 rcases h with h | ⟨id, ys, rfl, h1⟩
 ·exact .inl h
 ·exact .inr ⟨id, ys, rfl, hf _ _ h1 rfl⟩
end
section
variable {S S' : zA} {m : Nat} {A B : Int → V} {t : List Node} {x : Int}
abbrev All : Int → Prop := fun _ => True
theorem St.apart (h : St All S m A B t) (x y : Int) (i : Nat) (hi : idOf (A x) = some i) : idOf (B y) ≠ some i := fun hj => by
 obtain ⟨ys, h1⟩ := (h.da x trivial).row hi
 obtain ⟨zs, h2⟩ := (h.na y trivial).row hj
 rw [h1] at h2
 cases h2
theorem St.out (h : St All S m A B t) (hf : ∀ (j : Nat) (o : Ob), S[j]? = some o → idOf (A x) ≠ some j → idOf (B x) ≠ some j → S'[j]? = some o) : St (fun y => True ∧ y ≠ x) S' m A B t := by
 obtain ⟨L, c, h1, h2⟩ := h.mp
 have hm : ∀ v : V, (∀ i, idOf v = some i → ∃ ys e, S[i]? = some (.row ys e)) → idOf v ≠ some m := fun v hv hh => by
  obtain ⟨ys, e, q⟩ := hv m hh
  rw [h1] at q; cases q
 refine ⟨⟨L, c, hf _ _ h1 (hm _ fun i hi => by obtain ⟨ys, q⟩ := (h.da x trivial).row hi; exact ⟨ys, 5, q⟩) (hm _ fun i hi => by obtain ⟨ys, q⟩ := (h.na x trivial).row hi; exact ⟨ys, 88, q⟩), h2⟩, ?_, ?_, h.z, fun y w i _ _ => h.sa y w i trivial trivial, fun y w i _ _ => h.sb y w i trivial trivial⟩
 ·rintro y ⟨_, hne⟩
  exact (h.da y trivial).frame2 fun j o ho hj => hf j o ho (h.sa y x j trivial trivial hne hj) (h.apart y x j hj)
 ·rintro y ⟨_, hne⟩
  exact (h.na y trivial).frame2 fun j o ho hj => hf j o ho (fun hh => h.apart x y j hh hj) (h.sb y x j trivial trivial hne hj)
theorem St.renew {n : Node} {a b : V} (hs : Srt t) (h : St All S m A B t) (hx : n.ino = x) (hf : ∀ (j : Nat) (o : Ob), S[j]? = some o → idOf (A x) ≠ some j → idOf (B x) ≠ some j → S'[j]? = some o)
  (ha : SlE encU S' a 5 n.data) (hb : SlE zI S' b 88 n.names) (ha2 : ∀ i, idOf a = some i → idOf (A x) = some i ∨ S.length ≤ i) (hb2 : ∀ i, idOf b = some i → idOf (B x) = some i ∨ S.length ≤ i) :
  ∃ o, jG Try.prog S' 125 (.mr m) (.d (.int .i64 x)) (zD n a b) = some (S'.set m o) ∧ St All (S'.set m o) m (fun y => if y = x then a else A y) (fun y => if y = x then b else B y) (qT t n) := by
 refine (h.out hf).upd hs hx ha hb ?_ ?_
 ·intro y i _ hne hi
  rcases ha2 i hi with hq | hq
  ·exact h.sa x y i trivial trivial (Ne.symm hne) hq
  ·intro hj
   have := (h.da y trivial).lt hj
   omega
 ·intro y i _ hne hi
  rcases hb2 i hi with hq | hq
  ·exact h.sb x y i trivial trivial (Ne.symm hne) hq
  ·intro hj
   have := (h.na y trivial).lt hj
   omega
theorem St.keepL (h : St All S m A B t) (hf : ∀ (j : Nat) (o : Ob), S[j]? = some o → idOf (A x) ≠ some j → idOf (B x) ≠ some j → S'[j]? = some o) {o : Ob} : KeepL S (S'.set m o) := fun j ys e h1 h2 hj => by
 obtain ⟨L, c, hm, _⟩ := h.mp
 have hne : m ≠ j := by rintro rfl; rw [hm] at hj; cases hj
 rw [List.getElem?_set_ne hne]
 refine hf j _ hj (fun hh => ?_) (fun hh => ?_)
 ·obtain ⟨zs, q⟩ := (h.da x trivial).row hh
  rw [hj] at q; cases q; exact h1 rfl
 ·obtain ⟨zs, q⟩ := (h.na x trivial).row hh
  rw [hj] at q; cases q; exact h2 rfl
end
section
variable {S : zA} {v : V} {l : List Ent} {k : Nat}
theorem z62 {xs : List V} {id k n : Nat} {zs : List V} (h : S[id]? = some (.row zs 88)) (hx : (zs.drop k).take n = xs) (hl : k + n ≤ zs.length) (hf : xs.all (qI Try.prog 88) = true) : srcV Try.prog S 88 30 (.rs id k n) = some xs := by
 have hz : (sz Try.prog 88).isSome = true := by kernel_rfl
 simp only [srcV, Try.underlying30, vH, h, hl, hx, if_true, hf, hz, Bool.and_self]
theorem zbo {l : List Ent} : (l.map fun a => V.d (zI a)).all (qI Try.prog 88) = true := by
 rw [List.all_eq_true]
 intro x hx
 obtain ⟨a, _, rfl⟩ := List.mem_map.1 hx
 exact zg4 a
theorem sz88 : (sz Try.prog 88).isSome = true := by kernel_rfl
theorem zlo : zOk Try.prog 88 = true := by kernel_rfl
theorem zen {n : Nat} (h : n ≤ 1000000) : room Try.prog 88 n = true := z38 (P := Try.prog) (e := 88) rfl (by decide) h
theorem bnd {y d k : Nat} (h : k ≤ y) : wK y (some (.d (.int .i64 (k : Int)))) d = some k := by
 have := z3a (n := y) (d := d) (i := (k : Int)) (by omega) (by omega)
 rw [this, Int.toNat_natCast]
theorem zc6 (h : SlE zI S v 88 l) (hk : k ≤ l.length) : ∃ va, jL Try.prog S 30 v none (some (.d (.int .i64 k))) = some va ∧ ((v = .ts [] ∧ l = [] ∧ va = .ts []) ∨ ∃ id ys, v = .rs id 0 l.length ∧ S[id]? = some (.row ((l ++ ys).map fun a => .d (zI a)) 88) ∧ va = .rs id 0 k) := by
 rcases h with ⟨rfl, rfl⟩ | ⟨id, ys, rfl, h1⟩
 ·have : k = 0 := by simpa using hk
  subst this
  refine ⟨.ts [], ?_, .inl ⟨rfl, rfl, rfl⟩⟩
  have h1 := bnd (y := ([] : List D).length) (d := ([] : List D).length) (k := 0) (by simp)
  simp only [jL, Try.underlying30, h1, z1f, List.all_nil, sz88, Bool.and_self, if_true]
  rfl
 ·refine ⟨.rs id 0 k, ?_, .inr ⟨id, ys, rfl, h1, rfl⟩⟩
  have h3 : rowT S id 88 = true := by simp only [rowT, h1, beq_self_eq_true]
  simp only [jL, Try.underlying30, bnd hk, z1f, h3, sz88, Bool.and_self, if_true, Nat.zero_add, Nat.sub_zero]
theorem zhn (h : SlE zI S v 88 l) (hk : k ≤ l.length) : ∃ vb, jL Try.prog S 30 v (some (.d (.int .i64 k))) none = some vb ∧ ((v = .ts [] ∧ l = [] ∧ vb = .ts []) ∨ ∃ id ys, v = .rs id 0 l.length ∧ S[id]? = some (.row ((l ++ ys).map fun a => .d (zI a)) 88) ∧ vb = .rs id k (l.length - k)) := by
 rcases h with ⟨rfl, rfl⟩ | ⟨id, ys, rfl, h1⟩
 ·have : k = 0 := by simpa using hk
  subst this
  refine ⟨.ts [], ?_, .inl ⟨rfl, rfl, rfl⟩⟩
  have h1 := bnd (y := ([] : List D).length) (d := 0) (k := 0) (by simp)
  simp only [jL, Try.underlying30, z1f, h1, List.all_nil, sz88, Bool.and_self, if_true]
  rfl
 ·refine ⟨.rs id k (l.length - k), ?_, .inr ⟨id, ys, rfl, h1, rfl⟩⟩
  have h3 : rowT S id 88 = true := by simp only [rowT, h1, beq_self_eq_true]
  simp only [jL, Try.underlying30, z1f, bnd hk, h3, sz88, Bool.and_self, if_true, Nat.zero_add]
theorem zrm {e : Ent} (h : SlE zI S v 88 l) (hk : k ≤ l.length) (hl : l.length < 900000) : ∃ va vb v6 S1 v7 S2 c1 c2, jL Try.prog S 30 v none (some (.d (.int .i64 k))) = some va ∧ jL Try.prog S 30 v (some (.d (.int .i64 k))) none = some vb ∧ jL Try.prog S1 30 v none (some (.d (.int .i64 k))) = some va ∧ z3h va va = true ∧
  qF Try.prog S 30 30 (.ts [zI e]) vb = some (v6, S1, c1) ∧ qF Try.prog S1 30 30 va v6 = some (v7, S2, c2) ∧ (c1 = 1 ∧ c2 = 2 ∨ c1 = 1 ∧ c2 = 3 ∨ c1 = 2 ∧ c2 = 3) ∧ Keep S S1 ∧ SlE zI S2 v7 88 (l.take k ++ e :: l.drop k) ∧ (∀ (j : Nat) (o : Ob), S[j]? = some o → idOf v ≠ some j → S2[j]? = some o) ∧ (∀ i, idOf v7 = some i → S.length ≤ i) := by
 obtain ⟨va, ha, hva⟩ := zc6 h hk
 obtain ⟨vb, hb, hvb⟩ := zhn h hk
 have hfe : ([zI e].map V.d).all (qI Try.prog 88) = true := by rw [List.map_cons, List.map_nil, List.all_cons, List.all_nil, zg4 e]; rfl
 have hfd : [zI e].all (vW Try.prog 88) = true := by rw [List.all_cons, List.all_nil, zgo e]; rfl
 have src1 : srcV Try.prog S 88 30 (.ts [zI e]) = some [.d (zI e)] := by
  simp only [srcV, Try.underlying30, vH]
  rw [if_pos (by rw [hfe, sz88]; rfl)]
  rfl
 rcases hva with ⟨rfl, rfl, rfl⟩ | ⟨id, ys, rfl, hrow, rfl⟩
 ·rcases hvb with ⟨_, _, rfl⟩ | ⟨id, ys, q, _⟩
  ·have hk0 : k = 0 := by simpa using hk
   subst hk0
   refine ⟨_, _, .ts [zI e], S, .rs S.length 0 1, S ++ [.row [.d (zI e)] 88], 1, 2, ha, hb, ha, rfl, ?_, ?_, .inl ⟨rfl, rfl⟩, Keep.refl, ?_, fun j o hj _ => Keep.app _ _ hj, ?_⟩
   ·simp only [qF, Try.underlying30, srcV, vH, List.map_nil, List.all_nil, sz88, Bool.and_self, if_true]
   ·have := zen (n := 0 + (0 + 1)) (by omega)
    simp only [qF, Try.underlying30, src1, zlo, if_true, List.all_nil, List.length_nil, this, Bool.and_self, List.map_nil, List.nil_append]
   ·exact .inr ⟨S.length, [], rfl, by simp⟩
   ·intro i hi; cases hi; omega
  ·cases q
 ·rcases hvb with ⟨q, _⟩ | ⟨id', ys', q, hrow', rfl⟩
  ·cases q
  ·cases q
   have hlen : ((l ++ ys).map fun a => V.d (zI a)).length = l.length + ys.length := by simp
   have htk : ((l ++ ys).map fun a => V.d (zI a)).take k = (l.take k).map fun a => V.d (zI a) := by rw [← List.map_take, List.take_append_of_le_length hk]
   have hid := qN hrow
   by_cases hkl : k = l.length
   ·subst hkl
    have srcb : srcV Try.prog S 88 30 (.rs id l.length (l.length - l.length)) = some [] := z62 hrow (by simp) (by rw [hlen]; omega) rfl
    refine ⟨_, _, .ts [zI e], S, .rs S.length 0 (l.length + 1), S.set id .dead ++ [.row ((l.take l.length).map (fun a => V.d (zI a)) ++ [.d (zI e)]) 88], 1, 3, ha, hb, ha, by simp [z3h, wL, wN], ?_, ?_, .inr (.inl ⟨rfl, rfl⟩), Keep.refl, ?_, ?_, ?_⟩
    ·simp only [qF, Try.underlying30, srcb]
    ·have h1 := zen (n := l.length + (0 + 1)) (by omega)
     have h2 : l.length ≤ l.length + ys.length := by omega
     simp only [qF, Try.underlying30, src1, zlo, if_true, hrow, hlen, h1, h2, htk, List.length_nil, decide_true, Bool.and_self, Nat.zero_add]
    ·refine .inr ⟨S.length, [], by simp, ?_⟩
     rw [List.getElem?_append_right (by simp)]
     simp
    ·intro j o hj hn
     have hjl := qN hj
     rw [List.getElem?_append_left (by simpa using hjl), List.getElem?_set_ne]
     ·exact hj
     ·rintro rfl; exact hn rfl
    ·intro i hi; cases hi; omega
   ·have hkl' : k < l.length := by omega
    have hdr : l.drop k = l[k] :: l.drop (k + 1) := List.drop_eq_getElem_cons hkl'
    have srcb : srcV Try.prog S 88 30 (.rs id k (l.length - k)) = some ((l.drop k).map fun a => .d (zI a)) := by
     refine z62 hrow ?_ (by rw [hlen]; omega) zbo
     rw [← List.map_drop, ← List.map_take, List.drop_append_of_le_length hk, List.take_append_of_le_length (by rw [List.length_drop]; omega), List.take_of_length_le (by rw [List.length_drop]; omega)]
    have hl3 : ((l.drop (k + 1)).map fun a => V.d (zI a)).length = l.length - (k + 1) := by rw [List.length_map, List.length_drop]
    have hS1row : (S ++ [Ob.row ([zI e].map V.d ++ (l.drop k).map fun a => V.d (zI a)) 88])[S.length]? = some (.row ([zI e].map V.d ++ (l.drop k).map fun a => V.d (zI a)) 88) := qY
    have srcc : srcV Try.prog (S ++ [Ob.row ([zI e].map V.d ++ (l.drop k).map fun a => V.d (zI a)) 88]) 88 30 (.rs S.length 0 (1 + (l.length - (k + 1) + 1))) = some (.d (zI e) :: (l.drop k).map fun a => .d (zI a)) := by
     refine z62 hS1row ?_ ?_ ?_
     ·rw [List.drop_zero, List.take_of_length_le (by simp; omega)]; rfl
     ·simp; omega
     ·rw [List.all_cons, zg4 e, zbo]; rfl
    have hrow2 : (S ++ [Ob.row ([zI e].map V.d ++ (l.drop k).map fun a => V.d (zI a)) 88])[id]? = some (.row ((l ++ ys).map fun a => .d (zI a)) 88) := qO hrow
    refine ⟨_, _, .rs S.length 0 (1 + (l.length - (k + 1) + 1)), S ++ [Ob.row ([zI e].map V.d ++ (l.drop k).map fun a => V.d (zI a)) 88], .rs (S.length + 1) 0 (k + (l.length - k + 1)), (S ++ [Ob.row ([zI e].map V.d ++ (l.drop k).map fun a => V.d (zI a)) 88]).set id .dead ++ [Ob.row ((l.take k).map (fun a => V.d (zI a)) ++ .d (zI e) :: (l.drop k).map fun a => V.d (zI a)) 88], 2, 3, ha, hb, ?_, by simp [z3h, wL, wN], ?_, ?_, .inr (.inr ⟨rfl, rfl⟩), Keep.app, ?_, ?_, ?_⟩
    ·obtain ⟨va2, q1, q2⟩ := zc6 (h.keep (Keep.app (l := [Ob.row ([zI e].map V.d ++ (l.drop k).map fun a => V.d (zI a)) 88]))) hk
     rcases q2 with ⟨q2, _⟩ | ⟨id2, _, q2, _, q3⟩
     ·cases q2
     ·cases q2; rw [q1, q3]
    ·have h1 := zen (n := 1 + (l.length - (k + 1) + 1)) (by omega)
     simp only [qF, Try.underlying30, srcb, hdr, List.map_cons, zlo, if_true, hfd, hl3, List.length_cons, List.length_nil, Nat.zero_add, h1, Bool.and_self]
    ·have h1 := zen (n := k + (l.length - k + 1)) (by omega)
     have h2 : k ≤ l.length + ys.length := by omega
     have hl4 : ((l.drop k).map fun a => V.d (zI a)).length = l.length - k := by rw [List.length_map, List.length_drop]
     simp only [qF, Try.underlying30, srcc, zlo, if_true, hrow2, hlen, hl4, h1, h2, htk, decide_true, Bool.and_self, List.length_append, List.length_cons, List.length_nil, Nat.zero_add]
    ·refine .inr ⟨S.length + 1, [], by simp [List.length_take, List.length_drop]; omega, ?_⟩
     rw [List.getElem?_append_right (by simp)]
     simp
    ·intro j o hj hn
     have hjl := qN hj
     rw [List.getElem?_append_left (by simp; omega), List.getElem?_set_ne]
     ·exact qO hj
     ·rintro rfl; exact hn rfl
    ·intro i hi; cases hi; omega
theorem zod (h : SlE zI S v 88 l) (hk : k < l.length) (hl : l.length < 900000) : ∃ va vb v7 S2 c, jL Try.prog S 30 v none (some (.d (.int .i64 k))) = some va ∧ jL Try.prog S 30 v (some (.d (.int .i64 ((k + 1 : Nat) : Int)))) none = some vb ∧
  qF Try.prog S 30 30 va vb = some (v7, S2, c) ∧ (c = 1 ∧ S2 = S ∨ c = 3) ∧ SlE zI S2 v7 88 (l.take k ++ l.drop (k + 1)) ∧ (∀ (j : Nat) (o : Ob), S[j]? = some o → idOf v ≠ some j → S2[j]? = some o) ∧ (∀ i, idOf v7 = some i → idOf v = some i ∨ S.length ≤ i) := by
 obtain ⟨va, ha, hva⟩ := zc6 h (Nat.le_of_lt hk)
 obtain ⟨vb, hb, hvb⟩ := zhn h (k := k + 1) hk
 rcases hva with ⟨rfl, rfl, rfl⟩ | ⟨id, ys, rfl, hrow, rfl⟩
 ·exact absurd hk (by simp)
 ·rcases hvb with ⟨q, _⟩ | ⟨id', ys', q, hrow', rfl⟩
  ·cases q
  ·cases q
   have hlen : ((l ++ ys).map fun a => V.d (zI a)).length = l.length + ys.length := by simp
   have htk : ((l ++ ys).map fun a => V.d (zI a)).take k = (l.take k).map fun a => V.d (zI a) := by rw [← List.map_take, List.take_append_of_le_length (Nat.le_of_lt hk)]
   have hid := qN hrow
   by_cases hkl : k + 1 = l.length
   ·have srcb : srcV Try.prog S 88 30 (.rs id (k + 1) (l.length - (k + 1))) = some [] := z62 hrow (by rw [hkl, Nat.sub_self, List.take_zero]) (by rw [hlen]; omega) rfl
    have hd : l.drop (k + 1) = [] := by rw [hkl, List.drop_length]
    refine ⟨_, _, .rs id 0 k, S, 1, ha, hb, ?_, .inl ⟨rfl, rfl⟩, ?_, fun j o hj _ => hj, fun i hi => .inl hi⟩
    ·simp only [qF, Try.underlying30, srcb]
    ·refine .inr ⟨id, l.drop k ++ ys, ?_, ?_⟩
     ·rw [hd, List.append_nil, List.length_take, Nat.min_eq_left (Nat.le_of_lt hk)]
     ·rw [hd, List.append_nil, ← List.append_assoc, List.take_append_drop]
      exact hrow
   ·have hkl' : k + 1 < l.length := by omega
    have hdr : l.drop (k + 1) = l[k + 1] :: l.drop (k + 2) := List.drop_eq_getElem_cons hkl'
    have srcb : srcV Try.prog S 88 30 (.rs id (k + 1) (l.length - (k + 1))) = some ((l.drop (k + 1)).map fun a => .d (zI a)) := by
     refine z62 hrow ?_ (by rw [hlen]; omega) zbo
     rw [← List.map_drop, ← List.map_take, List.drop_append_of_le_length hk, List.take_append_of_le_length (by rw [List.length_drop]; omega), List.take_of_length_le (by rw [List.length_drop]; omega)]
    have hl3 : ((l.drop (k + 2)).map fun a => V.d (zI a)).length = l.length - (k + 2) := by rw [List.length_map, List.length_drop]
    refine ⟨_, _, .rs S.length 0 (k + (l.length - (k + 2) + 1)), S.set id .dead ++ [Ob.row ((l.take k).map (fun a => V.d (zI a)) ++ (l.drop (k + 1)).map fun a => V.d (zI a)) 88], 3, ha, hb, ?_, .inr rfl, ?_, ?_, ?_⟩
    ·have h1 := zen (n := k + (l.length - (k + 2) + 1)) (by omega)
     have h2 : k ≤ l.length + ys.length := by omega
     simp only [qF, Try.underlying30, srcb, hdr, List.map_cons, zlo, if_true, hrow, hlen, hl3, h1, h2, htk, decide_true, Bool.and_self]
    ·refine .inr ⟨S.length, [], by simp [List.length_take, List.length_drop]; omega, ?_⟩
     rw [List.getElem?_append_right (by simp)]
     simp
    ·intro j o hj hn
     have hjl := qN hj
     rw [List.getElem?_append_left (by simpa using hjl), List.getElem?_set_ne]
     ·exact hj
     ·rintro rfl; exact hn rfl
    ·intro i hi; cases hi; exact .inr (Nat.le_refl _)
end
end Go.Proofs.Ytghllhghboaagaa
end
