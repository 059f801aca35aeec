/- The value machine: what single operations come to. Third part: numbers, texts, comparisons. -/
import Derived.Test.YtljefklfoieecaaVmI
import Derived.ChangeKeysEq
set_option linter.unusedVariables false
set_option linter.unusedSimpArgs false
namespace Go.Vm
section
variable {P : Program} {S : Store} {ρ : Nat → Nat} {A : Nat → Prop} {w : World}

theorem intBin_run {op : BinOp} {t : TypeId} {k k' : IntKind} {a b : Int} {z : D} (h : intBin op k a k' b = some z) : ∃ v, (binOp op t (.int k a) (.int k' b)).run P w = .ok v w ∧ RepX A w z v := by
  have mi : ∀ n, RepX A w (.int k n) (.int k n) := fun n => (repX_leaf rfl).2 (by simp [RepC])
  have mb : ∀ b, RepX A w (.bool b) (.bool b) := fun n => (repX_leaf rfl).2 (by simp [RepC])
  cases op
  case shl =>
    simp only [intBin] at h
    split at h
    · cases h
    · rename_i hb
      simp only [Option.some.injEq] at h; subst h
      exact ⟨_, by simp [binOp_shl, Op.shift, hb], mi _⟩
  case shr =>
    simp only [intBin] at h
    split at h
    · cases h
    · rename_i hb
      simp only [Option.some.injEq] at h; subst h
      exact ⟨_, by simp [binOp_shr, Op.shift, hb], mi _⟩
  all_goals
    simp only [intBin] at h
    by_cases hk : k = k'
    · subst hk
      simp only [if_true, reduceCtorEq] at h
      first
        | (simp only [Option.some.injEq] at h; subst h; first
            | exact ⟨_, by rw [binOp_add]; rfl, mi _⟩
            | exact ⟨_, by rw [binOp_sub]; rfl, mi _⟩
            | exact ⟨_, by rw [binOp_mul]; rfl, mi _⟩
            | exact ⟨_, by rw [binOp_and]; rfl, mi _⟩
            | exact ⟨_, by rw [binOp_or]; rfl, mi _⟩
            | exact ⟨_, by rw [binOp_xor]; rfl, mi _⟩
            | exact ⟨_, by rw [binOp_andNot]; rfl, mi _⟩
            | exact ⟨_, by rw [binOp_eql]; rfl, mb _⟩
            | exact ⟨_, by rw [binOp_neq]; rfl, mb _⟩
            | exact ⟨_, by rw [binOp_lss]; rfl, mb _⟩
            | exact ⟨_, by rw [binOp_leq]; rfl, mb _⟩
            | exact ⟨_, by rw [binOp_gtr]; rfl, mb _⟩
            | exact ⟨_, by rw [binOp_geq]; rfl, mb _⟩)
        | (by_cases hb : b = 0
           · simp [hb] at h
           · simp only [hb, if_false, Option.some.injEq] at h
             subst h
             first
               | exact ⟨_, by rw [binOp_quo]; simp only [Op.intDiv, hb, if_false]; rfl, mi _⟩
               | exact ⟨_, by rw [binOp_rem]; simp only [Op.intDiv, hb, if_false]; rfl, mi _⟩)
    · simp [hk] at h

theorem bytes_append (a b : List UInt8) : (⟨a.toArray⟩ : ByteArray) ++ ⟨b.toArray⟩ = ⟨(a ++ b).toArray⟩ := by
  ext1
  simp
theorem strBin_run {op : BinOp} {t : TypeId} {a b : List UInt8} {z : D} (h : strBin op a b = some z) : ∃ v, (binOp op t (.string ⟨a.toArray⟩) (.string ⟨b.toArray⟩)).run P w = .ok v w ∧ RepX A w z v := by
  have ms : ∀ s, RepX A w (.str s) (.string ⟨s.toArray⟩) := fun n => (repX_leaf rfl).2 (by simp [RepC])
  have mb : ∀ b, RepX A w (.bool b) (.bool b) := fun n => (repX_leaf rfl).2 (by simp [RepC])
  have ea : (⟨a.toArray⟩ : ByteArray).toList = a := by rw [ByteArray.toList_eq]
  have eb : (⟨b.toArray⟩ : ByteArray).toList = b := by rw [ByteArray.toList_eq]
  have sa : (⟨a.toArray⟩ : ByteArray).size = a.length := by simp [ByteArray.size]
  have sb : (⟨b.toArray⟩ : ByteArray).size = b.length := by simp [ByteArray.size]
  cases op <;> simp only [strBin] at h
  case add =>
    split at h
    · rename_i hle
      simp only [Option.some.injEq] at h; subst h
      have hle' : ¬ (9223372036854775807 < (a.length : Int) + (b.length : Int)) := by omega
      exact ⟨_, by simp [binOp, Op.stringOp, sa, sb, hle', bytes_append], ms _⟩
    · cases h
  all_goals
    first
      | (simp only [Option.some.injEq] at h; subst h; exact ⟨_, by simp only [binOp, Op.stringOp, ea, eb]; rfl, mb _⟩)
      | cases h

def flatT : TypeDesc → Bool | .struct _ => false | .array _ _ => false | _ => true
theorem run_part_leaf {t : TypeId} {d : TypeDesc} (hu : P.underlying t = some d) (hd : flatT d = true) {us : Array Value} {off : Nat} {v : Value} (hv : us[off]? = some v) : (part t us off).run P w = .ok v w := by
  have : (isAgg t).run P w = .ok false w := by
    simp only [isAgg, Sem.run_bind, run_underlying hu, Result.andThen_ok]
    cases d <;> first | rfl | simp [flatT] at hd
  simp [part, this, hv]
theorem eqLeaf_run {t : TypeId} {x y : D} {b : Bool} {u v : Value} (h : eqLeaf P t x y = some b) (hx : RepX A w x u) (hy : RepX A w y v) (d : Nat) :
    (Op.equalIn (d + 1) t u v).run P w = .ok b w ∧ (∃ td, P.underlying t = some td ∧ flatT td = true) ∧ x.isAgg = false ∧ y.isAgg = false := by
  unfold eqLeaf at h
  split at h
  · rename_i a c hu
    simp only [Option.some.injEq] at h; subst h
    have h1 := (repX_leaf rfl).1 hx
    have h2 := (repX_leaf rfl).1 hy
    simp only [RepC, List.cons.injEq, and_true] at h1 h2
    subst h1; subst h2
    exact ⟨run_equalIn_bool w d t a c hu, ⟨_, hu, rfl⟩, rfl, rfl⟩
  · rename_i k0 k a k' c hu
    split at h
    · rename_i hk
      subst hk
      simp only [Option.some.injEq] at h; subst h
      have h1 := (repX_leaf rfl).1 hx
      have h2 := (repX_leaf rfl).1 hy
      simp only [RepC, List.cons.injEq, and_true] at h1 h2
      subst h1; subst h2
      exact ⟨run_equalIn_int w d t k _ a c hu, ⟨_, hu, rfl⟩, rfl, rfl⟩
    · cases h
  · rename_i a c hu
    simp only [Option.some.injEq] at h; subst h
    have h1 := (repX_leaf rfl).1 hx
    have h2 := (repX_leaf rfl).1 hy
    simp only [RepC, List.cons.injEq, and_true] at h1 h2
    subst h1; subst h2
    exact ⟨by rw [run_equalIn_string w d t _ _ hu, ByteArray.toList_eq, ByteArray.toList_eq], ⟨_, hu, rfl⟩, rfl, rfl⟩
  · cases h
theorem eqFs_run {g : TypeId → D → D → Option Bool} {d : Nat} (hg : ∀ {t : TypeId} {x y : D} {b : Bool} {u v : Value}, g t x y = some b → RepX A w x u → RepX A w y v → (Op.equalIn d t u v).run P w = .ok b w) {us vs : Array Value} {xs ys : List D} (hx : RepL A w xs us.toList) (hy : RepL A w ys vs.toList) : ∀ {fs : List Field} {b : Bool}, eqFs P g fs xs ys = some b → (Op.eqFields d us vs fs).run P w = .ok b w
  | [], b, h => by simp only [eqFs, Option.some.injEq] at h; subst h; simp [Op.eqFields]
  | f :: fs, b, h => by
    simp only [eqFs] at h
    split at h
    · rename_i hn
      cases h1 : partD P f.type xs f.offset with
      | none => simp [h1] at h
      | some x =>
        cases h2 : partD P f.type ys f.offset with
        | none => simp [h1, h2] at h
        | some y =>
          simp only [h1, h2] at h
          obtain ⟨u, hu, gu⟩ := run_part_D h1 hx
          obtain ⟨v, hv, gv⟩ := run_part_D h2 hy
          cases he : g f.type x y with
          | none => simp [he] at h
          | some r =>
            have e1 := hg he gu gv
            have ih := fun (b : Bool) (hb : eqFs P g fs xs ys = some b) => eqFs_run hg hx hy hb
            cases r with
            | true =>
              simp only [he] at h
              simp [Op.eqFields, hn, hu, hv, e1, ih b h]
            | false =>
              simp only [he, Option.some.injEq] at h; subst h
              simp [Op.eqFields, hn, hu, hv, e1]
    · cases h
theorem eqLs_run {e : TypeId} {us vs : Array Value} {xs ys : List D} (hx : RepL A w xs us.toList) (hy : RepL A w ys vs.toList) (d : Nat) : ∀ {n i : Nat} {b : Bool}, eqLs P e n (xs.drop i) (ys.drop i) = some b → (Op.eqItems (d + 1) e 1 us vs (List.range' i n)).run P w = .ok b w
  | 0, i, b, h => by simp only [eqLs, Option.some.injEq] at h; subst h; simp [Op.eqItems]
  | n + 1, i, b, h => by
    cases h1 : xs.drop i with
    | nil => rw [h1] at h; simp [eqLs] at h
    | cons x xr =>
      cases h2 : ys.drop i with
      | nil => rw [h1, h2] at h; simp [eqLs] at h
      | cons y yr =>
        rw [h1, h2] at h
        simp only [eqLs] at h
        have g1 : xs[i]? = some x := by
          have : (xs.drop i)[0]? = some x := by rw [h1]; rfl
          simpa using this
        have g2 : ys[i]? = some y := by
          have : (ys.drop i)[0]? = some y := by rw [h2]; rfl
          simpa using this
        have t1 : xs.drop (i + 1) = xr := by rw [← List.drop_drop, h1]; rfl
        have t2 : ys.drop (i + 1) = yr := by rw [← List.drop_drop, h2]; rfl
        obtain ⟨u, hu, gu1, gu2⟩ := repL_get hx _ x g1
        obtain ⟨v, hv, gv1, gv2⟩ := repL_get hy _ y g2
        have hu' : us[i]? = some u := by simpa using hu
        have hv' : vs[i]? = some v := by simpa using hv
        cases he : eqLeaf P e x y with
        | none => simp [he] at h
        | some r =>
          obtain ⟨e1, ⟨td, htd, hd⟩, _, _⟩ := eqLeaf_run he ((repX_leaf gu1).2 gu2) ((repX_leaf gv1).2 gv2) d
          have ih := fun (b : Bool) (hb : eqLs P e n (xs.drop (i + 1)) (ys.drop (i + 1)) = some b) => eqLs_run hx hy d hb
          rw [List.range'_succ]
          cases r with
          | true =>
            simp only [he] at h
            rw [← t1, ← t2] at h
            simp [Op.eqItems, run_part_leaf htd hd hu', run_part_leaf htd hd hv', e1, ih b h]
          | false =>
            simp only [he, Option.some.injEq] at h; subst h
            simp [Op.eqItems, run_part_leaf htd hd hu', run_part_leaf htd hd hv', e1]
theorem eqD_run : ∀ (n m : Nat) {t : TypeId} {x y : D} {b : Bool} {u v : Value}, eqD P n t x y = some b → RepX A w x u → RepX A w y v → (Op.equalIn (n + m) t u v).run P w = .ok b w
  | 0, m, t, x, y, b, u, v, h, _, _ => by simp [eqD] at h
  | n + 1, m, t, x, y, b, u, v, h, hx, hy => by
    rw [show n + 1 + m = n + m + 1 by omega]
    simp only [eqD] at h
    split at h
    · rename_i xs ys
      obtain ⟨us, rfl, gx⟩ := repX_agg.1 hx
      obtain ⟨vs, rfl, gy⟩ := repX_agg.1 hy
      split at h
      · rename_i fs hu
        split at h
        · cases h
        · rename_i hs
          simp only [Bool.not_eq_true] at hs
          have hf : P.underlying t = some (.struct (P.fieldsOf t)) := by
            rw [hu]; simp [Program.fieldsOf, hu]
          have hf' : P.fieldsOf t = fs := by simp [Program.fieldsOf, hu]
          refine (run_equalIn_struct w (n + m) t us vs hf hs).trans ?_
          rw [hf']
          exact eqFs_run (fun a b c => eqD_run n m a b c) gx gy h
      · rename_i k e hu
        split at h
        · rename_i hc
          simp only [Bool.and_eq_true, beq_iff_eq, ne_eq, decide_eq_true_eq, Bool.not_eq_true', decide_eq_false_iff_not] at hc
          obtain ⟨i, td, hi, hsz, _⟩ := sz_info hc.1
          have hce : P.cellsOf e = 1 := by simp [Program.cellsOf, hi, ← hsz]
          refine (run_equalIn_array w (n + m) us vs hu hi).trans ?_
          rw [hce, List.range_eq_range']
          obtain ⟨n', rfl⟩ : ∃ n', n = n' + 1 := ⟨n - 1, by omega⟩
          rw [show n' + 1 + m = n' + m + 1 by omega]
          exact eqLs_run gx gy (n' + m) (i := 0) h
        · cases h
      · cases h
    · exact (eqLeaf_run h hx hy (n + m)).1
theorem asD_repX {v : V} {x : D} {u : Value} (h : asD v = some x) (hr : RepV P S ρ A w v u) : RepX A w x u := by
  have hone : v.one = true := by
    cases v <;> simp_all [asD, leafD, V.one]
  rcases (repV_one hone).1 hr with ⟨g, us, rfl, h1⟩ | ⟨g, h1⟩
  · obtain ⟨e1, e2⟩ := asD_rep h h1
    exact .inl ⟨e2.trans g, us, rfl, e1⟩
  · obtain ⟨e1, e2⟩ := asD_rep h h1
    exact .inr ⟨e2.trans g, e1⟩
theorem asD_scalar {x : V} {y : D} (hy : (match y with | .agg _ | .sl _ | .iface _ _ => false | _ => true) = true) (h : asD x = some y) : x = .d y := by
  cases x with
  | d z => simp only [asD, Option.some.injEq] at h; rw [h]
  | agg xs =>
    simp only [asD] at h
    obtain ⟨ds, _, rfl⟩ := Option.map_eq_some_iff.1 h
    simp at hy
  | ts xs => simp only [asD, leafD, Option.some.injEq] at h; subst h; simp at hy
  | iface t v => cases v <;> simp only [asD, leafD, Option.some.injEq, reduceCtorEq] at h; subst h; simp at hy
  | _ => simp [asD, leafD] at h
theorem eq_ptr_nil {t e : TypeId} (hu : P.underlying t = some (.pointer e)) (a : Addr) (d : Nat) : (Op.equalIn (d + 1) t (.pointer (some a)) (.pointer none)).run P w = .ok false w := by
  simp [Op.equalIn, run_underlying hu]
theorem eq_nil_ptr {t e : TypeId} (hu : P.underlying t = some (.pointer e)) (a : Option Addr) (d : Nat) : (Op.equalIn (d + 1) t (.pointer none) (.pointer a)).run P w = .ok a.isNone w := by
  simp [Op.equalIn, run_underlying hu]
theorem eq_map_nil {t k e : TypeId} (hu : P.underlying t = some (.map k e)) (a : Nat) (d : Nat) : (Op.equalIn (d + 1) t (.map (some a)) (.map none)).run P w = .ok false w := by
  simp [Op.equalIn, run_underlying hu]
theorem eq_nil_map {t k e : TypeId} (hu : P.underlying t = some (.map k e)) (a : Option Nat) (d : Nat) : (Op.equalIn (d + 1) t (.map none) (.map a)).run P w = .ok a.isNone w := by
  simp [Op.equalIn, run_underlying hu]
theorem eq_fn_nil {t : TypeId} {x : Array TypeId} {y : Array TypeId} {z : Bool} (hu : P.underlying t = some (.func x y z)) (f : Fn) (a b : Array Value) (d : Nat) : (Op.equalIn (d + 1) t (.func f a b) .nilFunc).run P w = .ok false w := by
  simp [Op.equalIn, run_underlying hu]
theorem eq_nil_fn {t : TypeId} {x : Array TypeId} {y : Array TypeId} {z : Bool} (hu : P.underlying t = some (.func x y z)) (f : Fn) (a b : Array Value) (d : Nat) : (Op.equalIn (d + 1) t .nilFunc (.func f a b)).run P w = .ok false w := by
  simp [Op.equalIn, run_underlying hu]
theorem eq_nil_nil {t : TypeId} {x : Array TypeId} {y : Array TypeId} {z : Bool} (hu : P.underlying t = some (.func x y z)) (d : Nat) : (Op.equalIn (d + 1) t .nilFunc .nilFunc).run P w = .ok true w := by
  simp [Op.equalIn, run_underlying hu]
/-- Two values held against each other. -/
theorem eqV_run {t : TypeId} {x y : V} {b : Bool} {u v : Value} (h : eqV P t x y = some b) (hx : RepV P S ρ A w x u) (hy : RepV P S ρ A w y v) :
    (Op.equal t u v).run P w = .ok b w ∧ (∀ op ox oy, (eqGuard op t ox oy u v).run P w = .ok () w) := by
  unfold eqV at h
  split at h
  · rename_i hp
    unfold ptrT at hp
    cases hu : P.underlying t with
    | none => simp [hu] at hp
    | some td =>
      simp only [hu] at hp
      cases td <;> simp only [Bool.false_eq_true] at hp
      rename_i e
      have nil : ∀ {z : Value}, RepV P S ρ A w (.d .nilp) z → z = .pointer none := fun hz => by
        have := (repX_leaf rfl).1 (repV_d.1 hz)
        simpa [RepC] using this
      have ptr : ∀ {x : D} {z : Value}, RepV P S ρ A w (.d (.ptr x)) z → ∃ a, z = .pointer (some a) := fun hz => by
        have := (repX_leaf rfl).1 (repV_d.1 hz)
        simp only [RepC, List.cons.injEq, and_true] at this
        obtain ⟨a, _, h, _⟩ := this
        exact ⟨a, h⟩
      have ref : ∀ {i j k : Nat} {z : Value}, RepV P S ρ A w (.ref i j k) z → ∃ a, z = .pointer (some a) := fun hz => by
        have := (repW_leaf rfl).1 ((repV_one rfl).1 hz)
        simp only [RepVC, List.cons.injEq, and_true] at this
        obtain ⟨a, h, _⟩ := this
        exact ⟨a, h⟩
      unfold eqPtr at h
      split at h <;> simp only [Option.some.injEq, reduceCtorEq] at h <;> subst h
      · obtain ⟨a, rfl⟩ := ref hx; rw [nil hy]
        exact ⟨eq_ptr_nil hu a 9999, fun op ox oy => by rw [eqGuard_at_pointer]; rfl⟩
      · obtain ⟨a, rfl⟩ := ref hy; rw [nil hx]
        exact ⟨eq_nil_ptr hu (some a) 9999, fun op ox oy => by rw [eqGuard_at_pointer]; rfl⟩
      · obtain ⟨a, rfl⟩ := ptr hx; rw [nil hy]
        exact ⟨eq_ptr_nil hu a 9999, fun op ox oy => by rw [eqGuard_at_pointer]; rfl⟩
      · obtain ⟨a, rfl⟩ := ptr hy; rw [nil hx]
        exact ⟨eq_nil_ptr hu (some a) 9999, fun op ox oy => by rw [eqGuard_at_pointer]; rfl⟩
      · rw [nil hx, nil hy]
        exact ⟨eq_nil_ptr hu none 9999, fun op ox oy => by rw [eqGuard_at_pointer]; rfl⟩
  split at h
  · rename_i hm
    unfold mapT at hm
    cases hu : P.underlying t with
    | none => simp [hu] at hm
    | some td =>
      simp only [hu] at hm
      cases td <;> simp only [Bool.false_eq_true] at hm
      have nil : ∀ {z : Value}, RepV P S ρ A w (.d .nilm) z → z = .map none := fun hz => by
        have := (repX_leaf rfl).1 (repV_d.1 hz)
        simpa [RepC] using this
      have ref : ∀ {i : Nat} {z : Value}, RepV P S ρ A w (.mr i) z → ∃ a, z = .map (some a) := fun hz => by
        have := (repW_leaf rfl).1 ((repV_one rfl).1 hz)
        simp only [RepVC, List.cons.injEq, and_true] at this
        obtain ⟨a, h, _⟩ := this
        exact ⟨a, h⟩
      have mp : ∀ {e : D × D} {es : List (D × D)} {z : Value}, RepV P S ρ A w (.d (.map (e :: es))) z → ∃ a, z = .map (some a) := fun hz => by
        have := (repX_leaf rfl).1 (repV_d.1 hz)
        simp only [RepC, List.cons.injEq, and_true] at this
        obtain ⟨r, rfl, h | ⟨b, _, _, rfl, _⟩⟩ := this
        · simp at h
        · exact ⟨b, rfl⟩
      have hg : ∀ (m n : Option Nat) op ox oy, (eqGuard op t ox oy (.map m) (.map n)).run P w = .ok () w := fun m n op ox oy => by
        unfold eqGuard; split <;> rfl
      have e1 : ∀ a, (Op.equal t (.map (some a)) (.map none)).run P w = .ok false w := fun a => eq_map_nil hu a 9999
      have e2 : ∀ a, (Op.equal t (.map none) (.map a)).run P w = .ok a.isNone w := fun a => eq_nil_map hu a 9999
      unfold eqMap at h
      split at h <;> simp only [Option.some.injEq, reduceCtorEq] at h <;> subst h
      · obtain ⟨a, rfl⟩ := ref hx; rw [nil hy]; exact ⟨e1 a, hg _ _⟩
      · obtain ⟨a, rfl⟩ := ref hy; rw [nil hx]; exact ⟨e2 (some a), hg _ _⟩
      · rw [nil hx, nil hy]; exact ⟨e2 none, hg _ _⟩
      · obtain ⟨a, rfl⟩ := mp hx; rw [nil hy]; exact ⟨e1 a, hg _ _⟩
      · obtain ⟨a, rfl⟩ := mp hy; rw [nil hx]; exact ⟨e2 (some a), hg _ _⟩
  split at h
  · rename_i hm
    unfold fnT at hm
    cases hu : P.underlying t with
    | none => simp [hu] at hm
    | some td =>
      simp only [hu] at hm
      cases td <;> simp only [Bool.false_eq_true] at hm
      have nil : ∀ {z : Value}, RepV P S ρ A w (.d .nilf) z → z = .nilFunc := fun hz => by
        have := (repX_leaf rfl).1 (repV_d.1 hz)
        simpa [RepC] using this
      have ref : ∀ {f : Fn} {a b : List V} {z : Value}, RepV P S ρ A w (.fn f a b) z → ∃ fa ca, z = .func f fa ca := fun hz => by
        have := (repW_leaf rfl).1 ((repV_one rfl).1 hz)
        simp only [RepVC, List.cons.injEq, and_true] at this
        obtain ⟨a, b, h, _⟩ := this
        exact ⟨a, b, h⟩
      have dfn : ∀ {f : Fn} {a b : List D} {z : Value}, RepV P S ρ A w (.d (.fn f a b)) z → ∃ fa ca, z = .func f fa ca := fun hz => by
        have := (repX_leaf rfl).1 (repV_d.1 hz)
        simp only [RepC, List.cons.injEq, and_true] at this
        obtain ⟨a, b, h, _⟩ := this
        exact ⟨a, b, h⟩
      have hg1 : ∀ f a b op ox oy, (eqGuard op t ox oy (.func f a b) .nilFunc).run P w = .ok () w := fun f a b op ox oy => by
        unfold eqGuard; split <;> rfl
      have hg2 : ∀ f a b op ox oy, (eqGuard op t ox oy .nilFunc (.func f a b)).run P w = .ok () w := fun f a b op ox oy => by
        unfold eqGuard; split <;> rfl
      have hg3 : ∀ op ox oy, (eqGuard op t ox oy .nilFunc .nilFunc).run P w = .ok () w := fun op ox oy => by
        unfold eqGuard; split <;> rfl
      have e1 : ∀ f a b, (Op.equal t (.func f a b) .nilFunc).run P w = .ok false w := fun f a b => eq_fn_nil hu f a b 9999
      have e2 : ∀ f a b, (Op.equal t .nilFunc (.func f a b)).run P w = .ok false w := fun f a b => eq_nil_fn hu f a b 9999
      have e3 : (Op.equal t .nilFunc .nilFunc).run P w = .ok true w := eq_nil_nil hu 9999
      unfold eqFn at h
      split at h <;> simp only [Option.some.injEq, reduceCtorEq] at h <;> subst h
      · obtain ⟨a, b, rfl⟩ := ref hx; rw [nil hy]; exact ⟨e1 _ _ _, hg1 _ _ _⟩
      · obtain ⟨a, b, rfl⟩ := dfn hx; rw [nil hy]; exact ⟨e1 _ _ _, hg1 _ _ _⟩
      · obtain ⟨a, b, rfl⟩ := ref hy; rw [nil hx]; exact ⟨e2 _ _ _, hg2 _ _ _⟩
      · obtain ⟨a, b, rfl⟩ := dfn hy; rw [nil hx]; exact ⟨e2 _ _ _, hg2 _ _ _⟩
      · rw [nil hx, nil hy]; exact ⟨e3, hg3⟩
  · split at h
    · rename_i xs ys h1 h2
      have gx := repX_agg.1 (asD_repX h1 hx)
      have gy := repX_agg.1 (asD_repX h2 hy)
      obtain ⟨us, rfl, gx⟩ := gx
      obtain ⟨vs, rfl, gy⟩ := gy
      split at h
      · cases h
      · rename_i hs
        simp only [Bool.not_eq_true] at hs
        exact ⟨eqD_run 8 9992 h (repX_agg.2 ⟨us, rfl, gx⟩) (repX_agg.2 ⟨vs, rfl, gy⟩), fun op ox oy => run_eqGuard_agg w op t ox oy us vs hs⟩
    · rename_i x' y' _ h1 h2
      obtain ⟨e1, _, g1, g2⟩ := eqLeaf_run h (asD_repX h1 hx) (asD_repX h2 hy) 9999
      refine ⟨e1, fun op ox oy => ?_⟩
      have := (repX_leaf g1).1 (asD_repX h1 hx)
      unfold eqLeaf at h
      split at h
      · simp only [RepC, List.cons.injEq, and_true] at this; subst this; rw [eqGuard_at_bool]; rfl
      · simp only [RepC, List.cons.injEq, and_true] at this; subst this; rw [eqGuard_at_int]; rfl
      · simp only [RepC, List.cons.injEq, and_true] at this; subst this; rw [eqGuard_at_string]; rfl
      · cases h
    · cases h

theorem binV_run {op : BinOp} {t : TypeId} {x y z : V} {u v : Value} (ox oy : Operand) (h : binV P op t x y = some z) (hx : RepV P S ρ A w x u) (hy : RepV P S ρ A w y v) :
    ∃ r, (do eqGuard op t ox oy u v; binOp op t u v).run P w = .ok r w ∧ RepW P S ρ A w z r := by
  unfold binV at h
  split at h
  · obtain ⟨z', hz, rfl⟩ := Option.map_eq_some_iff.1 h
    rw [rep_int hx, rep_int hy]
    obtain ⟨r, h1, h2⟩ := intBin_run (P := P) (A := A) (w := w) (t := t) hz
    exact ⟨r, by simp [eqGuard_at_int, h1], repW_d.2 h2⟩
  · obtain ⟨z', hz, rfl⟩ := Option.map_eq_some_iff.1 h
    rw [rep_str hx, rep_str hy]
    obtain ⟨r, h1, h2⟩ := strBin_run (P := P) (A := A) (w := w) (t := t) hz
    exact ⟨r, by simp [eqGuard_at_string, h1], repW_d.2 h2⟩
  · rename_i hni hns
    have notnum : ∀ b, eqV P t x y = some b → binOp .eql t u v = (do pure (.bool (← Op.equal t u v))) ∧ binOp .neq t u v = (do pure (.bool (!(← Op.equal t u v)))) := by
      intro b hb
      have hb' := hb
      unfold eqV at hb
      split at hb
      · unfold eqPtr at hb
        have nil : ∀ {z : Value}, RepV P S ρ A w (.d .nilp) z → z = .pointer none := fun hz => by
          have := (repX_leaf rfl).1 (repV_d.1 hz)
          simpa [RepC] using this
        split at hb
        · rw [nil hy]; exact ⟨by cases u <;> rfl, by cases u <;> rfl⟩
        · rw [nil hx]; exact ⟨by cases v <;> rfl, by cases v <;> rfl⟩
        · rw [nil hy]; exact ⟨by cases u <;> rfl, by cases u <;> rfl⟩
        · rw [nil hx]; exact ⟨by cases v <;> rfl, by cases v <;> rfl⟩
        · rw [nil hx]; exact ⟨by cases v <;> rfl, by cases v <;> rfl⟩
        · cases hb
      split at hb
      · unfold eqMap at hb
        have nil : ∀ {z : Value}, RepV P S ρ A w (.d .nilm) z → z = .map none := fun hz => by
          have := (repX_leaf rfl).1 (repV_d.1 hz)
          simpa [RepC] using this
        split at hb
        · rw [nil hy]; exact ⟨by cases u <;> rfl, by cases u <;> rfl⟩
        · rw [nil hx]; exact ⟨by cases v <;> rfl, by cases v <;> rfl⟩
        · rw [nil hx]; exact ⟨by cases v <;> rfl, by cases v <;> rfl⟩
        · rw [nil hy]; exact ⟨by cases u <;> rfl, by cases u <;> rfl⟩
        · rw [nil hx]; exact ⟨by cases v <;> rfl, by cases v <;> rfl⟩
        · cases hb
      split at hb
      · unfold eqFn at hb
        have nil : ∀ {z : Value}, RepV P S ρ A w (.d .nilf) z → z = .nilFunc := fun hz => by
          have := (repX_leaf rfl).1 (repV_d.1 hz)
          simpa [RepC] using this
        split at hb
        · rw [nil hy]; exact ⟨by cases u <;> rfl, by cases u <;> rfl⟩
        · rw [nil hy]; exact ⟨by cases u <;> rfl, by cases u <;> rfl⟩
        · rw [nil hx]; exact ⟨by cases v <;> rfl, by cases v <;> rfl⟩
        · rw [nil hx]; exact ⟨by cases v <;> rfl, by cases v <;> rfl⟩
        · rw [nil hx]; exact ⟨by cases v <;> rfl, by cases v <;> rfl⟩
        · cases hb
      · split at hb
        · rename_i xs ys h1 h2
          obtain ⟨us, rfl, gx⟩ := repX_agg.1 (asD_repX h1 hx)
          obtain ⟨vs, rfl, gy⟩ := repX_agg.1 (asD_repX h2 hy)
          exact ⟨rfl, rfl⟩
        · rename_i x' y' _ h1 h2
          have gx := asD_repX h1 hx
          have gy := asD_repX h2 hy
          unfold eqLeaf at hb
          split at hb
          · have := (repX_leaf rfl).1 gx
            simp only [RepC, List.cons.injEq, and_true] at this; subst this
            have := (repX_leaf rfl).1 gy
            simp only [RepC, List.cons.injEq, and_true] at this; subst this
            exact ⟨rfl, rfl⟩
          · exact absurd (asD_scalar rfl h2) (hni _ _ _ _ (asD_scalar rfl h1))
          · exact absurd (asD_scalar rfl h2) (hns _ _ (asD_scalar rfl h1))
          · cases hb
        · cases hb
    split at h
    · obtain ⟨b, hb, rfl⟩ := Option.map_eq_some_iff.1 h
      obtain ⟨h1, h2⟩ := eqV_run hb hx hy
      refine ⟨.bool b, ?_, mk_bool⟩
      simp [h2, (notnum b hb).1, h1]
    · obtain ⟨b, hb, rfl⟩ := Option.map_eq_some_iff.1 h
      obtain ⟨h1, h2⟩ := eqV_run hb hx hy
      refine ⟨.bool (!b), ?_, mk_bool⟩
      simp [h2, (notnum b hb).2, h1]
    · cases h
theorem unV_run {op : UnOp} {x z : V} {u : Value} (h : unV op x = some z) (hx : RepV P S ρ A w x u) : ∃ r, (Op.unary op u).run P w = .ok r w ∧ RepW P S ρ A w z r := by
  unfold unV at h
  split at h
  · simp only [Option.some.injEq] at h; subst h
    rw [rep_bool hx]
    exact ⟨_, by simp [Op.unary], mk_bool⟩
  · simp only [Option.some.injEq] at h; subst h
    rw [rep_int hx]
    exact ⟨_, by simp [Op.unary, Op.intArith], mk_int⟩
  · cases h
theorem max2V_run {x y z : V} {u v : Value} (h : max2V x y = some z) (hx : RepV P S ρ A w x u) (hy : RepV P S ρ A w y v) : ∃ r, (Builtin.max2 u v).run P w = .ok r w ∧ RepW P S ρ A w z r := by
  unfold max2V at h
  split at h
  · split at h
    · rename_i hk
      subst hk
      simp only [Option.some.injEq] at h; subst h
      rw [rep_int hx, rep_int hy]
      exact ⟨_, by simp [Builtin.max2], mk_int⟩
    · cases h
  · cases h
theorem min2V_run {x y z : V} {u v : Value} (h : min2V x y = some z) (hx : RepV P S ρ A w x u) (hy : RepV P S ρ A w y v) : ∃ r, (Builtin.min2 u v).run P w = .ok r w ∧ RepW P S ρ A w z r := by
  unfold min2V at h
  split at h
  · split at h
    · rename_i hk
      subst hk
      simp only [Option.some.injEq] at h; subst h
      rw [rep_int hx, rep_int hy]
      exact ⟨_, by simp [Builtin.min2], mk_int⟩
    · cases h
  · cases h
theorem foldV_run {f : V → V → Option V} {g : Value → Value → Sem Value} (hf : ∀ {x y z : V} {u v : Value}, f x y = some z → RepV P S ρ A w x u → RepV P S ρ A w y v → ∃ r, (g u v).run P w = .ok r w ∧ RepW P S ρ A w z r) :
    ∀ {ys : List V} {x z : V} {u : Value} {vs : List Value}, foldV f x ys = some z → RepV P S ρ A w x u → RepT P S ρ A w ys vs → ∃ r, (vs.foldlM g u).run P w = .ok r w ∧ RepV P S ρ A w z r
  | [], x, z, u, vs, h, hx, hy => by
    simp only [foldV, Option.some.injEq] at h; subst h
    simp only [RepT] at hy; subst hy
    exact ⟨u, by simp, hx⟩
  | y :: r, x, z, u, vs, h, hx, hy => by
    simp only [RepT] at hy
    obtain ⟨v, ws, rfl, h2, h3⟩ := hy
    simp only [foldV] at h
    cases h1 : f x y with
    | none => simp [h1] at h
    | some q =>
      simp only [h1] at h
      obtain ⟨r1, e1, e2⟩ := hf h1 hx h2
      obtain ⟨r2, e3, e4⟩ := foldV_run hf h (repV_of_repW e2) h3
      exact ⟨r2, by simp [e1, e3], e4⟩
end
end Go.Vm
