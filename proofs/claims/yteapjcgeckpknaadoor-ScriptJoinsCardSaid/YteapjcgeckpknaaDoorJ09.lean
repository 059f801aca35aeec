/- Calls that are alike, steps that are the same, both ways. -/
import Derived.Test.YteapjcgeckpknaaDoorJ08
/-! Calls that are alike, steps that are the same, both ways. -/
section
set_option linter.unusedVariables false
set_option linter.unusedSimpArgs false
set_option maxRecDepth 100000
set_option maxHeartbeats 4000000
namespace Go.Proofs.YteapjcgeckpknaaDoor
open Go.Vm
theorem bytesD_B {l : List UInt8} : bytesD (l.map fun b => V.d (.int .u8 b.toNat)) = some l := by
  induction l with
  | nil => rfl
  | cons b r ih =>
    simp only [List.map_cons, bytesD, ih]
    rw [Int.toNat_natCast, UInt8.ofNat_toNat]
theorem cv239 {S : Store} {l : List UInt8} : convertV Tryd.prog S 23 9 (.d (encB l)) = some (.d (.str l), 1) := by
  have hu : Tryd.prog.underlying 9 = some .string := by kernel_rfl
  have h5 : Tryd.prog.underlying 5 = some (.int .u8) := by kernel_rfl
  unfold encB
  simp only [convertV, Tryd.underlying23, hu, h5, elemsV, List.map_map, Function.comp_def, bytesD_B, Option.map_some]
theorem opn_eq {x y : Opn} : x = y ↔ x.does = y.does ∧ x.a = y.a ∧ x.b = y.b ∧ x.off = y.off ∧ x.n = y.n ∧ x.data = y.data := by
  cases x; cases y; simp
theorem step_eq {x y : Step} : x = y ↔ x.does = y.does ∧ x.n = y.n ∧ x.w = y.w ∧ x.o = y.o := by
  constructor
  · rintro rfl; exact ⟨rfl, rfl, rfl, rfl⟩
  · cases x; cases y; rintro ⟨h1, h2, h3, h4⟩; simp only at h1 h2 h3 h4; subst h1 h2 h3 h4; rfl
section
variable {ops : Array Oper} {dst : Option Tmp} {k : List Oper} {T : List V} {S : Store} {F : Dfs} {Q : Post}
theorem call_same01 {a b : List UInt8} (hl : a.length ≤ 1000000) (hl' : b.length ≤ 1000000) : WpR cfg ops dst k T S F Q (some (.enter 46 [.d (encB a), .d (encB b)])) = WpL cfg ops k (putT T dst (.d (.bool (decide (a = b))))) S F Q :=
  wr_call_d (ds := [encB a, encB b]) rfl (same01_ok a b hl hl')
end
theorem ralike_ok (x y : Opn) (hl : x.data.length ≤ 1000000) (hl' : y.data.length ≤ 1000000) : Ev cfg 22 [encOpn x, encOpn y] (.ret (.d (.bool (decide (x = y))))) := by
  refine ev_of rfl rfl body22 ?_
  show Wp cfg (Tryd.f22.body.getD .skip) ((.d (encOpn x)) :: (.d (encOpn y)) :: (.tup []) :: (.tup []) :: (.tup []) :: (.tup []) :: (.tup []) :: (.tup []) :: (.tup []) :: (.tup []) :: (.tup []) :: (.tup []) :: (.tup []) :: (.tup []) :: (.tup []) :: (.tup []) :: (.tup []) :: (.tup []) :: (.tup []) :: (.tup []) :: (.tup []) :: (.tup []) :: (.tup []) :: (.tup []) :: (.tup []) :: (.tup []) :: (.tup []) :: (.tup []) :: (.tup []) :: (.tup []) :: (.tup []) :: (.tup []) :: (.tup []) :: (.tup []) :: (.tup []) :: (.tup []) :: (.tup []) :: (.tup []) :: (.tup []) :: (.tup []) :: (.tup []) :: (.tup []) :: (.tup []) :: (.tup []) :: (.tup []) :: []) [] [] _
  conv => arg 2; whnf
  generalize hp : decide (x = y) = p
  by_cases h0 : x.does = y.does
  case neg =>
    have hp : p = false := by rw [← hp]; exact decide_eq_false (fun h => h0 (by rw [h]))
    subst hp
    simp (maxSteps := 1000000) (disch := first | assumption | omega | rfl) only [↓vmp, vme, vmb, ty, hP, dec_t, dec_f, wrap64, List.length_map, Int.toNat_natCast, Nat.reduceAdd, List.cons_append, List.nil_append, Option.map_some, Option.map_none, strOf_mk, sb_eql, sb_neq, vmg, ↓vgd, ↓vst, ↓vix, call_same01 hl hl', bo46, dec_True]
    exact retQ_one rfl rfl rfl
  by_cases h1 : x.a = y.a
  case neg =>
    have hp : p = false := by rw [← hp]; exact decide_eq_false (fun h => h1 (by rw [h]))
    subst hp
    simp (maxSteps := 1000000) (disch := first | assumption | omega | rfl) only [↓vmp, vme, vmb, ty, hP, dec_t, dec_f, wrap64, List.length_map, Int.toNat_natCast, Nat.reduceAdd, List.cons_append, List.nil_append, Option.map_some, Option.map_none, strOf_mk, sb_eql, sb_neq, vmg, ↓vgd, ↓vst, ↓vix, call_same01 hl hl', bo46, dec_True]
    exact retQ_one rfl rfl rfl
  by_cases h2 : x.b = y.b
  case neg =>
    have hp : p = false := by rw [← hp]; exact decide_eq_false (fun h => h2 (by rw [h]))
    subst hp
    simp (maxSteps := 1000000) (disch := first | assumption | omega | rfl) only [↓vmp, vme, vmb, ty, hP, dec_t, dec_f, wrap64, List.length_map, Int.toNat_natCast, Nat.reduceAdd, List.cons_append, List.nil_append, Option.map_some, Option.map_none, strOf_mk, sb_eql, sb_neq, vmg, ↓vgd, ↓vst, ↓vix, call_same01 hl hl', bo46, dec_True]
    exact retQ_one rfl rfl rfl
  by_cases h3 : x.off = y.off
  case neg =>
    have hp : p = false := by rw [← hp]; exact decide_eq_false (fun h => h3 (by rw [h]))
    subst hp
    simp (maxSteps := 1000000) (disch := first | assumption | omega | rfl) only [↓vmp, vme, vmb, ty, hP, dec_t, dec_f, wrap64, List.length_map, Int.toNat_natCast, Nat.reduceAdd, List.cons_append, List.nil_append, Option.map_some, Option.map_none, strOf_mk, sb_eql, sb_neq, vmg, ↓vgd, ↓vst, ↓vix, call_same01 hl hl', bo46, dec_True]
    exact retQ_one rfl rfl rfl
  by_cases h4 : x.n = y.n
  case neg =>
    have hp : p = false := by rw [← hp]; exact decide_eq_false (fun h => h4 (by rw [h]))
    subst hp
    simp (maxSteps := 1000000) (disch := first | assumption | omega | rfl) only [↓vmp, vme, vmb, ty, hP, dec_t, dec_f, wrap64, List.length_map, Int.toNat_natCast, Nat.reduceAdd, List.cons_append, List.nil_append, Option.map_some, Option.map_none, strOf_mk, sb_eql, sb_neq, vmg, ↓vgd, ↓vst, ↓vix, call_same01 hl hl', bo46, dec_True]
    exact retQ_one rfl rfl rfl
  by_cases h5 : x.data = y.data
  case neg =>
    have hp : p = false := by rw [← hp]; exact decide_eq_false (fun h => h5 (by rw [h]))
    subst hp
    have hq : decide (x.data = y.data) = false := decide_eq_false h5
    simp (maxSteps := 1000000) (disch := first | assumption | omega | rfl) only [↓vmp, vme, vmb, ty, hP, dec_t, dec_f, wrap64, List.length_map, Int.toNat_natCast, Nat.reduceAdd, List.cons_append, List.nil_append, Option.map_some, Option.map_none, strOf_mk, sb_eql, sb_neq, vmg, ↓vgd, ↓vst, ↓vix, call_same01 hl hl', bo46, dec_True, hq]
    exact retQ_one rfl rfl rfl
  have hp : p = true := by rw [← hp]; exact decide_eq_true (opn_eq.2 ⟨h0, h1, h2, h3, h4, h5⟩)
  subst hp
  have hq : decide (x.data = y.data) = true := decide_eq_true h5
  simp (maxSteps := 1000000) (disch := first | assumption | omega | rfl) only [↓vmp, vme, vmb, ty, hP, dec_t, dec_f, wrap64, List.length_map, Int.toNat_natCast, Nat.reduceAdd, List.cons_append, List.nil_append, Option.map_some, Option.map_none, strOf_mk, sb_eql, sb_neq, vmg, ↓vgd, ↓vst, ↓vix, call_same01 hl hl', bo46, dec_True, hq]
  exact retQ_one rfl rfl rfl
theorem alike_ok (x y : Opn) : Ev cfg 34 [encOpn x, encOpn y] (.ret (.d (.bool (decide (x = y))))) := by
  refine ev_of rfl rfl body34 ?_
  show Wp cfg (Tryd.f34.body.getD .skip) ((.d (encOpn x)) :: (.d (encOpn y)) :: (.tup []) :: (.tup []) :: (.tup []) :: (.tup []) :: (.tup []) :: (.tup []) :: (.tup []) :: (.tup []) :: (.tup []) :: (.tup []) :: (.tup []) :: (.tup []) :: (.tup []) :: (.tup []) :: (.tup []) :: (.tup []) :: (.tup []) :: (.tup []) :: (.tup []) :: (.tup []) :: (.tup []) :: (.tup []) :: (.tup []) :: (.tup []) :: (.tup []) :: (.tup []) :: (.tup []) :: (.tup []) :: (.tup []) :: (.tup []) :: (.tup []) :: (.tup []) :: (.tup []) :: (.tup []) :: (.tup []) :: (.tup []) :: (.tup []) :: (.tup []) :: (.tup []) :: (.tup []) :: (.tup []) :: (.tup []) :: (.tup []) :: (.tup []) :: (.tup []) :: []) [] [] _
  conv => arg 2; whnf
  generalize hp : decide (x = y) = p
  by_cases h0 : x.does = y.does
  case neg =>
    have hp : p = false := by rw [← hp]; exact decide_eq_false (fun h => h0 (by rw [h]))
    subst hp
    simp (maxSteps := 1000000) (disch := first | assumption | omega | rfl) only [↓vmp, vme, vmb, ty, hP, dec_t, dec_f, wrap64, List.length_map, Int.toNat_natCast, Nat.reduceAdd, List.cons_append, List.nil_append, Option.map_some, Option.map_none, strOf_mk, sb_eql, sb_neq, vmg, ↓vgd, ↓vst, ↓vix, cv239, dec_True]
    exact retQ_one rfl rfl rfl
  by_cases h1 : x.a = y.a
  case neg =>
    have hp : p = false := by rw [← hp]; exact decide_eq_false (fun h => h1 (by rw [h]))
    subst hp
    simp (maxSteps := 1000000) (disch := first | assumption | omega | rfl) only [↓vmp, vme, vmb, ty, hP, dec_t, dec_f, wrap64, List.length_map, Int.toNat_natCast, Nat.reduceAdd, List.cons_append, List.nil_append, Option.map_some, Option.map_none, strOf_mk, sb_eql, sb_neq, vmg, ↓vgd, ↓vst, ↓vix, cv239, dec_True]
    exact retQ_one rfl rfl rfl
  by_cases h2 : x.b = y.b
  case neg =>
    have hp : p = false := by rw [← hp]; exact decide_eq_false (fun h => h2 (by rw [h]))
    subst hp
    simp (maxSteps := 1000000) (disch := first | assumption | omega | rfl) only [↓vmp, vme, vmb, ty, hP, dec_t, dec_f, wrap64, List.length_map, Int.toNat_natCast, Nat.reduceAdd, List.cons_append, List.nil_append, Option.map_some, Option.map_none, strOf_mk, sb_eql, sb_neq, vmg, ↓vgd, ↓vst, ↓vix, cv239, dec_True]
    exact retQ_one rfl rfl rfl
  by_cases h3 : x.off = y.off
  case neg =>
    have hp : p = false := by rw [← hp]; exact decide_eq_false (fun h => h3 (by rw [h]))
    subst hp
    simp (maxSteps := 1000000) (disch := first | assumption | omega | rfl) only [↓vmp, vme, vmb, ty, hP, dec_t, dec_f, wrap64, List.length_map, Int.toNat_natCast, Nat.reduceAdd, List.cons_append, List.nil_append, Option.map_some, Option.map_none, strOf_mk, sb_eql, sb_neq, vmg, ↓vgd, ↓vst, ↓vix, cv239, dec_True]
    exact retQ_one rfl rfl rfl
  by_cases h4 : x.n = y.n
  case neg =>
    have hp : p = false := by rw [← hp]; exact decide_eq_false (fun h => h4 (by rw [h]))
    subst hp
    simp (maxSteps := 1000000) (disch := first | assumption | omega | rfl) only [↓vmp, vme, vmb, ty, hP, dec_t, dec_f, wrap64, List.length_map, Int.toNat_natCast, Nat.reduceAdd, List.cons_append, List.nil_append, Option.map_some, Option.map_none, strOf_mk, sb_eql, sb_neq, vmg, ↓vgd, ↓vst, ↓vix, cv239, dec_True]
    exact retQ_one rfl rfl rfl
  by_cases h5 : x.data = y.data
  case neg =>
    have hp : p = false := by rw [← hp]; exact decide_eq_false (fun h => h5 (by rw [h]))
    subst hp
    have hq : decide (x.data = y.data) = false := decide_eq_false h5
    simp (maxSteps := 1000000) (disch := first | assumption | omega | rfl) only [↓vmp, vme, vmb, ty, hP, dec_t, dec_f, wrap64, List.length_map, Int.toNat_natCast, Nat.reduceAdd, List.cons_append, List.nil_append, Option.map_some, Option.map_none, strOf_mk, sb_eql, sb_neq, vmg, ↓vgd, ↓vst, ↓vix, cv239, dec_True, hq]
    exact retQ_one rfl rfl rfl
  have hp : p = true := by rw [← hp]; exact decide_eq_true (opn_eq.2 ⟨h0, h1, h2, h3, h4, h5⟩)
  subst hp
  have hq : decide (x.data = y.data) = true := decide_eq_true h5
  simp (maxSteps := 1000000) (disch := first | assumption | omega | rfl) only [↓vmp, vme, vmb, ty, hP, dec_t, dec_f, wrap64, List.length_map, Int.toNat_natCast, Nat.reduceAdd, List.cons_append, List.nil_append, Option.map_some, Option.map_none, strOf_mk, sb_eql, sb_neq, vmg, ↓vgd, ↓vst, ↓vix, cv239, dec_True, hq]
  exact retQ_one rfl rfl rfl
section
variable {ops : Array Oper} {dst : Option Tmp} {k : List Oper} {T : List V} {S : Store} {F : Dfs} {Q : Post}
theorem call_ralike {x y : Opn} (hl : x.data.length ≤ 1000000) (hl' : y.data.length ≤ 1000000) : WpR cfg ops dst k T S F Q (some (.enter 22 [.agg [.d (.int .i64 x.does), .d (.str x.a), .d (.str x.b), .d (.int .i64 x.off), .d (.int .i64 x.n), .d (encB x.data)], .agg [.d (.int .i64 y.does), .d (.str y.a), .d (.str y.b), .d (.int .i64 y.off), .d (.int .i64 y.n), .d (encB y.data)]])) = WpL cfg ops k (putT T dst (.d (.bool (decide (x = y))))) S F Q :=
  wr_call_v (ds := [encOpn x, encOpn y]) rfl rfl rfl (ralike_ok x y hl hl')
theorem call_alike {x y : Opn} : WpR cfg ops dst k T S F Q (some (.enter 34 [.agg [.d (.int .i64 x.does), .d (.str x.a), .d (.str x.b), .d (.int .i64 x.off), .d (.int .i64 x.n), .d (encB x.data)], .agg [.d (.int .i64 y.does), .d (.str y.a), .d (.str y.b), .d (.int .i64 y.off), .d (.int .i64 y.n), .d (encB y.data)]])) = WpL cfg ops k (putT T dst (.d (.bool (decide (x = y))))) S F Q :=
  wr_call_v (ds := [encOpn x, encOpn y]) rfl rfl rfl (alike_ok x y)
end
theorem rsame_ok (x y : Step) (hl : x.o.data.length ≤ 1000000) (hl' : y.o.data.length ≤ 1000000) : Ev cfg 9 [encStep x, encStep y] (.ret (.d (.bool (decide (x = y))))) := by
  refine ev_of rfl rfl body9 ?_
  show Wp cfg (Tryd.f9.body.getD .skip) ((.d (encStep x)) :: (.d (encStep y)) :: (.tup []) :: (.tup []) :: (.tup []) :: (.tup []) :: (.tup []) :: (.tup []) :: (.tup []) :: (.tup []) :: (.tup []) :: (.tup []) :: (.tup []) :: (.tup []) :: (.tup []) :: (.tup []) :: (.tup []) :: (.tup []) :: (.tup []) :: (.tup []) :: (.tup []) :: (.tup []) :: (.tup []) :: (.tup []) :: (.tup []) :: (.tup []) :: (.tup []) :: (.tup []) :: (.tup []) :: (.tup []) :: (.tup []) :: []) [] [] _
  conv => arg 2; whnf
  generalize hp : decide (x = y) = p
  by_cases h0 : x.does = y.does
  case neg =>
    have hp : p = false := by rw [← hp]; exact decide_eq_false (fun h => h0 (by rw [h]))
    subst hp
    simp (maxSteps := 1000000) (disch := first | assumption | omega | rfl) only [↓vmp, vme, vmb, ty, hP, dec_t, dec_f, wrap64, List.length_map, Int.toNat_natCast, Nat.reduceAdd, List.cons_append, List.nil_append, Option.map_some, Option.map_none, strOf_mk, sb_eql, sb_neq, vmg, ↓vgd, ↓vst, ↓vix, call_ralike hl hl', bo22, dec_True]
    exact retQ_one rfl rfl rfl
  by_cases h1 : x.n = y.n
  case neg =>
    have hp : p = false := by rw [← hp]; exact decide_eq_false (fun h => h1 (by rw [h]))
    subst hp
    simp (maxSteps := 1000000) (disch := first | assumption | omega | rfl) only [↓vmp, vme, vmb, ty, hP, dec_t, dec_f, wrap64, List.length_map, Int.toNat_natCast, Nat.reduceAdd, List.cons_append, List.nil_append, Option.map_some, Option.map_none, strOf_mk, sb_eql, sb_neq, vmg, ↓vgd, ↓vst, ↓vix, call_ralike hl hl', bo22, dec_True]
    exact retQ_one rfl rfl rfl
  by_cases h2 : x.w = y.w
  case neg =>
    have hp : p = false := by rw [← hp]; exact decide_eq_false (fun h => h2 (by rw [h]))
    subst hp
    simp (maxSteps := 1000000) (disch := first | assumption | omega | rfl) only [↓vmp, vme, vmb, ty, hP, dec_t, dec_f, wrap64, List.length_map, Int.toNat_natCast, Nat.reduceAdd, List.cons_append, List.nil_append, Option.map_some, Option.map_none, strOf_mk, sb_eql, sb_neq, vmg, ↓vgd, ↓vst, ↓vix, call_ralike hl hl', bo22, dec_True]
    exact retQ_one rfl rfl rfl
  by_cases h3 : x.o = y.o
  case neg =>
    have hp : p = false := by rw [← hp]; exact decide_eq_false (fun h => h3 (by rw [h]))
    subst hp
    have hq : decide (x.o = y.o) = false := decide_eq_false h3
    simp (maxSteps := 1000000) (disch := first | assumption | omega | rfl) only [↓vmp, vme, vmb, ty, hP, dec_t, dec_f, wrap64, List.length_map, Int.toNat_natCast, Nat.reduceAdd, List.cons_append, List.nil_append, Option.map_some, Option.map_none, strOf_mk, sb_eql, sb_neq, vmg, ↓vgd, ↓vst, ↓vix, call_ralike hl hl', bo22, dec_True, hq]
    exact retQ_one rfl rfl rfl
  have hp : p = true := by rw [← hp]; exact decide_eq_true (step_eq.2 ⟨h0, h1, h2, h3⟩)
  subst hp
  have hq : decide (x.o = y.o) = true := decide_eq_true h3
  simp (maxSteps := 1000000) (disch := first | assumption | omega | rfl) only [↓vmp, vme, vmb, ty, hP, dec_t, dec_f, wrap64, List.length_map, Int.toNat_natCast, Nat.reduceAdd, List.cons_append, List.nil_append, Option.map_some, Option.map_none, strOf_mk, sb_eql, sb_neq, vmg, ↓vgd, ↓vst, ↓vix, call_ralike hl hl', bo22, dec_True, hq]
  exact retQ_one rfl rfl rfl
theorem same_ok (x y : Step) : Ev cfg 16 [encStep x, encStep y] (.ret (.d (.bool (decide (x = y))))) := by
  refine ev_of rfl rfl body16 ?_
  show Wp cfg (Tryd.f16.body.getD .skip) ((.d (encStep x)) :: (.d (encStep y)) :: (.tup []) :: (.tup []) :: (.tup []) :: (.tup []) :: (.tup []) :: (.tup []) :: (.tup []) :: (.tup []) :: (.tup []) :: (.tup []) :: (.tup []) :: (.tup []) :: (.tup []) :: (.tup []) :: (.tup []) :: (.tup []) :: (.tup []) :: (.tup []) :: (.tup []) :: (.tup []) :: (.tup []) :: (.tup []) :: (.tup []) :: (.tup []) :: (.tup []) :: (.tup []) :: (.tup []) :: (.tup []) :: (.tup []) :: []) [] [] _
  conv => arg 2; whnf
  generalize hp : decide (x = y) = p
  by_cases h0 : x.does = y.does
  case neg =>
    have hp : p = false := by rw [← hp]; exact decide_eq_false (fun h => h0 (by rw [h]))
    subst hp
    simp (maxSteps := 1000000) (disch := first | assumption | omega | rfl) only [↓vmp, vme, vmb, ty, hP, dec_t, dec_f, wrap64, List.length_map, Int.toNat_natCast, Nat.reduceAdd, List.cons_append, List.nil_append, Option.map_some, Option.map_none, strOf_mk, sb_eql, sb_neq, vmg, ↓vgd, ↓vst, ↓vix, call_alike, bo34, dec_True]
    exact retQ_one rfl rfl rfl
  by_cases h1 : x.n = y.n
  case neg =>
    have hp : p = false := by rw [← hp]; exact decide_eq_false (fun h => h1 (by rw [h]))
    subst hp
    simp (maxSteps := 1000000) (disch := first | assumption | omega | rfl) only [↓vmp, vme, vmb, ty, hP, dec_t, dec_f, wrap64, List.length_map, Int.toNat_natCast, Nat.reduceAdd, List.cons_append, List.nil_append, Option.map_some, Option.map_none, strOf_mk, sb_eql, sb_neq, vmg, ↓vgd, ↓vst, ↓vix, call_alike, bo34, dec_True]
    exact retQ_one rfl rfl rfl
  by_cases h2 : x.w = y.w
  case neg =>
    have hp : p = false := by rw [← hp]; exact decide_eq_false (fun h => h2 (by rw [h]))
    subst hp
    simp (maxSteps := 1000000) (disch := first | assumption | omega | rfl) only [↓vmp, vme, vmb, ty, hP, dec_t, dec_f, wrap64, List.length_map, Int.toNat_natCast, Nat.reduceAdd, List.cons_append, List.nil_append, Option.map_some, Option.map_none, strOf_mk, sb_eql, sb_neq, vmg, ↓vgd, ↓vst, ↓vix, call_alike, bo34, dec_True]
    exact retQ_one rfl rfl rfl
  by_cases h3 : x.o = y.o
  case neg =>
    have hp : p = false := by rw [← hp]; exact decide_eq_false (fun h => h3 (by rw [h]))
    subst hp
    have hq : decide (x.o = y.o) = false := decide_eq_false h3
    simp (maxSteps := 1000000) (disch := first | assumption | omega | rfl) only [↓vmp, vme, vmb, ty, hP, dec_t, dec_f, wrap64, List.length_map, Int.toNat_natCast, Nat.reduceAdd, List.cons_append, List.nil_append, Option.map_some, Option.map_none, strOf_mk, sb_eql, sb_neq, vmg, ↓vgd, ↓vst, ↓vix, call_alike, bo34, dec_True, hq]
    exact retQ_one rfl rfl rfl
  have hp : p = true := by rw [← hp]; exact decide_eq_true (step_eq.2 ⟨h0, h1, h2, h3⟩)
  subst hp
  have hq : decide (x.o = y.o) = true := decide_eq_true h3
  simp (maxSteps := 1000000) (disch := first | assumption | omega | rfl) only [↓vmp, vme, vmb, ty, hP, dec_t, dec_f, wrap64, List.length_map, Int.toNat_natCast, Nat.reduceAdd, List.cons_append, List.nil_append, Option.map_some, Option.map_none, strOf_mk, sb_eql, sb_neq, vmg, ↓vgd, ↓vst, ↓vix, call_alike, bo34, dec_True, hq]
  exact retQ_one rfl rfl rfl
end Go.Proofs.YteapjcgeckpknaaDoor
end
/-! A step of the program's as the document has it. -/
section
set_option linter.unusedVariables false
set_option linter.unusedSimpArgs false
set_option maxRecDepth 100000
set_option maxHeartbeats 4000000
namespace Go.Proofs.YteapjcgeckpknaaDoor
open Go.Vm
theorem bd33o {o : Opn} : buildV Tryd.prog 33 [(0, .d (.int .i64 o.does)), (1, .d (.str o.a)), (2, .d (.str o.b)), (3, .d (.int .i64 o.off)), (4, .d (.int .i64 o.n)), (5, .d (encB o.data))] = some (.agg [.d (.int .i64 o.does), .d (.str o.a), .d (.str o.b), .d (.int .i64 o.off), .d (.int .i64 o.n), .d (encB o.data)]) := by kernel_rfl
theorem bd35s {s : Step} : buildV Tryd.prog 35 [(0, .d (.int .i64 s.does)), (1, .d (encOpn s.o)), (2, .d (.int .u64 s.w)), (3, .d (.int .i64 s.n))] = some (.agg [.d (.int .i64 s.does), .d (.int .i64 s.o.does), .d (.str s.o.a), .d (.str s.o.b), .d (.int .i64 s.o.off), .d (.int .i64 s.o.n), .d (encB s.o.data), .d (.int .u64 s.w), .d (.int .i64 s.n)]) := by kernel_rfl
theorem Of_ok (o : Opn) : Ev cfg 23 [encOpn o] (.ret (.d (encOpn o))) := by
  refine ev_of rfl rfl body23 ?_
  show Wp cfg (Tryd.f23.body.getD .skip) ((.d (encOpn o)) :: (.tup []) :: (.tup []) :: (.tup []) :: (.tup []) :: (.tup []) :: (.tup []) :: (.tup []) :: (.tup []) :: (.tup []) :: (.tup []) :: (.tup []) :: (.tup []) :: (.tup []) :: (.tup []) :: (.tup []) :: []) [] [] _
  conv => arg 2; whnf
  simp (maxSteps := 1000000) (disch := first | assumption | omega | rfl) only [↓vmp, vme, vmb, ty, hP, dec_t, dec_f, wrap64, List.length_map, Int.toNat_natCast, Nat.reduceAdd, List.cons_append, List.nil_append, Option.map_some, Option.map_none, strOf_mk, sb_eql, sb_neq, vmg, ↓vgd, ↓vst, ↓vix, bd33o]
  exact retQ_cell (u := .ref 1 0 0) (v := .agg [.d (.int .i64 o.does), .d (.str o.a), .d (.str o.b), .d (.int .i64 o.off), .d (.int .i64 o.n), .d (encB o.data)]) rfl (by kernel_rfl) rfl (by kernel_rfl)
section
variable {ops : Array Oper} {F : Dfs} {Q : Post} {K : List Nat → List (Nat × Nat) → List V → Store → Prop} {rd : List Nat} {cs : List (Nat × Nat)} {i : Nat} {dst : Option Tmp} {T : List V} {S : Store}
theorem dr_OfA {o : Opn} : WpE cfg ops F Q K rd cs i dst T S (some (.enter 23 [.agg [.d (.int .i64 o.does), .d (.str o.a), .d (.str o.b), .d (.int .i64 o.off), .d (.int .i64 o.n), .d (encB o.data)]])) = K (i :: rd) (cs ++ [(i, 1)]) (putT T dst (.d (encOpn o))) S :=
  we_call_v (ds := [encOpn o]) rfl rfl rfl (Of_ok o)
end
theorem of_ok (s : Step) : Ev cfg 10 [encStep s] (.ret (.d (encStep s))) := by
  refine ev_of rfl rfl body10 ?_
  show Wp cfg (Tryd.f10.body.getD .skip) ((.d (encStep s)) :: (.tup []) :: (.tup []) :: (.tup []) :: (.tup []) :: (.tup []) :: (.tup []) :: (.tup []) :: (.tup []) :: (.tup []) :: (.tup []) :: (.tup []) :: (.tup []) :: []) [] [] _
  conv => arg 2; whnf
  simp (maxSteps := 1000000) (disch := first | assumption | omega | rfl) only [↓vmp, vme, vmb, ty, hP, dec_t, dec_f, wrap64, List.length_map, Int.toNat_natCast, Nat.reduceAdd, List.cons_append, List.nil_append, Option.map_some, Option.map_none, strOf_mk, sb_eql, sb_neq, vmg, ↓vgd, ↓vst, ↓vix]
  refine wk_draw (is := [0, 1, 2, 3, 5, 6, 7, 8, 4, 9, 10]) (h := 0) (by kernel_rfl) (by kernel_rfl) ?_
  simp (maxSteps := 1000000) (disch := first | assumption | omega | rfl) only [List.replicate_zero, eq_self, vmd, vmk, vmo, vmg, vme, vmb, ty, hP, dec_t, dec_f, wrap64, List.length_map, Int.toNat_natCast, Nat.reduceAdd, ↓vgd, ↓vst, ↓vix, List.append_nil, dr_OfA, bo23, bd35s]
  first | refine ⟨by kernel_rfl, ?_⟩ | refine ⟨fun _ => by kernel_rfl, ?_⟩
  first | refine ⟨by kernel_rfl, ?_⟩ | skip
  simp (maxSteps := 1000000) (disch := first | assumption | omega | rfl) only [↓vmp, vme, vmb, ty, hP, dec_t, dec_f, wrap64, List.length_map, Int.toNat_natCast, Nat.reduceAdd, List.cons_append, List.nil_append, Option.map_some, Option.map_none, strOf_mk, sb_eql, sb_neq, vmg, ↓vgd, ↓vst, ↓vix]
  exact retQ_cell (u := .ref 1 0 0) (v := .agg [.d (.int .i64 s.does), .d (.int .i64 s.o.does), .d (.str s.o.a), .d (.str s.o.b), .d (.int .i64 s.o.off), .d (.int .i64 s.o.n), .d (encB s.o.data), .d (.int .u64 s.w), .d (.int .i64 s.n)]) rfl (by kernel_rfl) rfl (by kernel_rfl)
end Go.Proofs.YteapjcgeckpknaaDoor
end
/-! Digits as bytes. -/
section
set_option linter.unusedVariables false
set_option linter.unusedSimpArgs false
set_option maxRecDepth 100000
set_option maxHeartbeats 4000000
namespace Go.Proofs.YteapjcgeckpknaaDoor
open Go.Vm
def digL : List UInt8 := [48, 49, 50, 51, 52, 53, 54, 55, 56, 57, 97, 98, 99, 100, 101, 102]
/-- The digit's number; -1: none. -/
def dg (c : UInt8) : Int := Lib.indexByte digL c
theorem dg_all : ∀ c : Fin 256, -1 ≤ dg (UInt8.ofNat c.val) ∧ dg (UInt8.ofNat c.val) ≤ 15 := by decide +kernel
theorem dg_lt (c : UInt8) : -1 ≤ dg c ∧ dg c ≤ 15 := by
  have := dg_all ⟨c.toNat, c.toNat_lt⟩
  simpa using this
def unhexP : List UInt8 → Option (List UInt8)
  | x :: y :: r => if dg x < 0 ∨ dg y < 0 then Option.none else (unhexP r).map (UInt8.ofNat (dg x * 16 + dg y).toNat :: ·)
  | _ => some []
theorem index_ev (s : List UInt8) (c : Nat) (h : c < 256) : Ev cfg 38 [.str s, .int .u8 (c : Int)] (.ret (.d (.int .i64 (Lib.indexByte s c.toUInt8)))) := by
  refine ⟨0, ?_⟩
  have hx : cfg.ext 38 = some indexByteX := rfl
  unfold runD answer
  simp only [hx]
  unfold indexByteX
  simp only
  rw [if_pos (by omega), Int.toNat_natCast]
section
variable {ops : Array Oper} {F : Dfs} {Q : Post} {K : List Nat → List (Nat × Nat) → List V → Store → Prop} {rd : List Nat} {cs : List (Nat × Nat)} {i : Nat} {dst : Option Tmp} {T : List V} {S : Store}
theorem dr_index {c : UInt8} : WpE cfg ops F Q K rd cs i dst T S (some (.enter 38 [.d (.str [48, 49, 50, 51, 52, 53, 54, 55, 56, 57, 97, 98, 99, 100, 101, 102]), .d (.int .u8 (c.toNat : Int))])) = K (i :: rd) (cs ++ [(i, 1)]) (putT T dst (.d (.int .i64 (dg c)))) S := by
  have h := index_ev digL c.toNat c.toNat_lt
  rw [show c.toNat.toUInt8 = c from UInt8.ofNat_toNat] at h
  exact we_call_d (ds := [.str digL, .int .u8 (c.toNat : Int)]) rfl h
end
theorem bo38 : (bodyOf Tryd.prog 38).isSome = true := by kernel_rfl
theorem or_all : ∀ a b : Fin 16, IntKind.i64.wrap (((BitVec.ofInt 64 ((a.val : Int) * 16) ||| BitVec.ofInt 64 (b.val : Int)).toNat : Nat) : Int) = (a.val : Int) * 16 + b.val := by decide +kernel
theorem shl_at {a : Int} (h0 : 0 ≤ a) (h1 : a ≤ 15) (K : IntKind) : binV Tryd.prog .shl 3 (.d (.int .i64 a)) (.d (.int K 4)) = some (.d (.int .i64 (a * 16))) := by
  simp only [binV, intBin]
  rw [if_neg (by decide)]
  have : IntKind.i64.wrap (a * 2 ^ min (4 : Int).toNat IntKind.i64.bits) = a * 16 := by
    rw [show (2 : Int) ^ min (4 : Int).toNat IntKind.i64.bits = 16 from rfl]
    exact wrap64 (by omega)
  rw [this]
  rfl
theorem or_at {a b : Int} (h0 : 0 ≤ a) (h1 : a ≤ 15) (h2 : 0 ≤ b) (h3 : b ≤ 15) : binV Tryd.prog .or 3 (.d (.int .i64 (a * 16))) (.d (.int .i64 b)) = some (.d (.int .i64 (a * 16 + b))) := by
  obtain ⟨x, rfl⟩ : ∃ x : Nat, a = x := ⟨a.toNat, by omega⟩
  obtain ⟨y, rfl⟩ : ∃ y : Nat, b = y := ⟨b.toNat, by omega⟩
  simp only [binV, intBin]
  rw [if_pos trivial]
  have := or_all ⟨x, by omega⟩ ⟨y, by omega⟩
  have h : IntKind.i64.wrap (((BitVec.ofInt IntKind.i64.bits ((x : Int) * 16) ||| BitVec.ofInt IntKind.i64.bits (y : Int)).toNat : Nat) : Int) = (x : Int) * 16 + y := this
  rw [h]
  rfl
theorem cv35 {S : Store} {n : Int} (h0 : 0 ≤ n) (h1 : n ≤ 255) : convertV Tryd.prog S 3 5 (.d (.int .i64 n)) = some (.d (.int .u8 ((UInt8.ofNat n.toNat).toNat : Int)), 0) := by
  have h3 : Tryd.prog.underlying 3 = some (.int .i64) := by kernel_rfl
  have h5 : Tryd.prog.underlying 5 = some (.int .u8) := by kernel_rfl
  simp only [convertV, h3, h5]
  have : IntKind.u8.wrap n = ((UInt8.ofNat n.toNat).toNat : Int) := by
    rw [u8_mod, UInt8.toNat_ofNat']
    omega
  rw [this]
end Go.Proofs.YteapjcgeckpknaaDoor
end
/-! script.unhex: digits as bytes. -/
section
set_option linter.unusedVariables false
set_option linter.unusedSimpArgs false
set_option maxRecDepth 100000
set_option maxHeartbeats 4000000
namespace Go.Proofs.YteapjcgeckpknaaDoor
open Go.Vm
theorem unhexP_short {l : List UInt8} (h : l.length ≤ 1) : unhexP l = some [] := by
  match l, h with
  | [], _ => rfl
  | [x], _ => rfl
theorem unhex_l (s : List UInt8) (hl : s.length ≤ 90000) (R : Post) (x2 x3 : V) : ∀ (k i : Nat) (acc : List UInt8) (v : V) (S : Store) (g1 g6 g7 g8 g9 g10 g11 g12 g13 g14 g15 g16 g17 g18 g19 g20 g21 g22 g23 g24 g25 g26 g27 g28 g29 g30 g31 g32 g33 g34 g35 g36 g37 g38 g39 g40 g41 g42 g43 g44 g45 g46 g47 g48 g49 : V), s.length - i ≤ k → acc.length ≤ i → i ≤ s.length + 1 → SlE encU S v 5 acc →
   (∀ l, unhexP (s.drop i) = some l → ∀ S v i' g1 g6 g7 g8 g9 g10 g11 g12 g13 g14 g15 g16 g17 g18 g19 g20 g21 g22 g23 g24 g25 g26 g27 g28 g29 g30 g31 g32 g33 g34 g35 g36 g37 g38 g39 g40 g41 g42 g43 g44 g45 g46 g47 g48 g49, SlE encU S v 5 (acc ++ l) → R (.exit 0) ((.d (.str s)) :: g1 :: x2 :: x3 :: v :: i' :: g6 :: g7 :: g8 :: g9 :: g10 :: g11 :: g12 :: g13 :: g14 :: g15 :: g16 :: g17 :: g18 :: g19 :: g20 :: g21 :: g22 :: g23 :: g24 :: g25 :: g26 :: g27 :: g28 :: g29 :: g30 :: g31 :: g32 :: g33 :: g34 :: g35 :: g36 :: g37 :: g38 :: g39 :: g40 :: g41 :: g42 :: g43 :: g44 :: g45 :: g46 :: g47 :: g48 :: g49 :: []) S []) →
   (unhexP (s.drop i) = Option.none → ∀ S v i' g1 g6 g7 g8 g9 g10 g11 g12 g13 g14 g15 g16 g17 g18 g19 g20 g21 g22 g23 g24 g25 g26 g27 g28 g29 g30 g31 g32 g33 g34 g35 g36 g37 g38 g39 g40 g41 g42 g43 g44 g45 g46 g47 g48 g49, R .ret ((.d (.str s)) :: g1 :: (.ts []) :: (.d (.bool false)) :: v :: i' :: g6 :: g7 :: g8 :: g9 :: g10 :: g11 :: g12 :: g13 :: g14 :: g15 :: g16 :: g17 :: g18 :: g19 :: g20 :: g21 :: g22 :: g23 :: g24 :: g25 :: g26 :: g27 :: g28 :: g29 :: g30 :: g31 :: g32 :: g33 :: g34 :: g35 :: g36 :: g37 :: g38 :: g39 :: g40 :: g41 :: g42 :: g43 :: g44 :: g45 :: g46 :: g47 :: g48 :: g49 :: []) S []) →
   Wp cfg (.loop (lpOf (Tryd.f44.body.getD .skip) 0)) ((.d (.str s)) :: g1 :: x2 :: x3 :: v :: (.d (.int .i64 (i : Int))) :: g6 :: g7 :: g8 :: g9 :: g10 :: g11 :: g12 :: g13 :: g14 :: g15 :: g16 :: g17 :: g18 :: g19 :: g20 :: g21 :: g22 :: g23 :: g24 :: g25 :: g26 :: g27 :: g28 :: g29 :: g30 :: g31 :: g32 :: g33 :: g34 :: g35 :: g36 :: g37 :: g38 :: g39 :: g40 :: g41 :: g42 :: g43 :: g44 :: g45 :: g46 :: g47 :: g48 :: g49 :: []) S [] R := by
  intro k
  induction k with
  | zero =>
    intro i acc v S g1 g6 g7 g8 g9 g10 g11 g12 g13 g14 g15 g16 g17 g18 g19 g20 g21 g22 g23 g24 g25 g26 g27 g28 g29 g30 g31 g32 g33 g34 g35 g36 g37 g38 g39 g40 g41 g42 g43 g44 g45 g46 g47 g48 g49 hk ha hi hv hE hR
    have hn : ¬ ((i : Int) + 1 < s.length) := by omega
    rw [wk_of]
    refine wk_loop ?_
    conv => arg 2; whnf
    simp (maxSteps := 1000000) (disch := first | assumption | omega | rfl) only [↓vmp, vme, vmb, ty, hP, dec_t, dec_f, wrap64, List.length_map, Int.toNat_natCast, Nat.reduceAdd, List.cons_append, List.nil_append, Option.map_some, Option.map_none, strOf_mk, sb_eql, sb_neq, vmg, ↓vgd, ↓vst, ↓vix]
    exact hE [] (unhexP_short (by rw [List.length_drop]; omega)) _ _ _ _ _ _ _ _ _ _ _ _ _ _ _ _ _ _ _ _ _ _ _ _ _ _ _ _ _ _ _ _ _ _ _ _ _ _ _ _ _ _ _ _ _ _ _ _ (by rw [List.append_nil]; exact hv)
  | succ k ih =>
    intro i acc v S g1 g6 g7 g8 g9 g10 g11 g12 g13 g14 g15 g16 g17 g18 g19 g20 g21 g22 g23 g24 g25 g26 g27 g28 g29 g30 g31 g32 g33 g34 g35 g36 g37 g38 g39 g40 g41 g42 g43 g44 g45 g46 g47 g48 g49 hk ha hi hv hE hR
    by_cases hn : (i : Int) + 1 < s.length
    · have h1 : i < s.length := by omega
      have h2 : i + 1 < s.length := by omega
      have hx := ixstr h1
      have hy := ixstr h2
      rw [show (((i + 1 : Nat)) : Int) = (i : Int) + 1 by omega] at hy
      rw [List.drop_eq_getElem_cons h1, List.drop_eq_getElem_cons h2] at hE hR
      unfold unhexP at hE hR
      have da := dg_lt s[i]
      have db := dg_lt s[i + 1]
      rw [wk_of]
      refine wk_loop ?_
      conv => arg 2; whnf
      simp (maxSteps := 1000000) (disch := first | assumption | omega | rfl) only [↓vmp, vme, vmb, ty, hP, dec_t, dec_f, wrap64, List.length_map, Int.toNat_natCast, Nat.reduceAdd, List.cons_append, List.nil_append, Option.map_some, Option.map_none, strOf_mk, sb_eql, sb_neq, vmg, ↓vgd, ↓vst, ↓vix]
      refine wk_draw (is := [0, 1, 2, 4, 5, 6, 7, 3, 8, 9, 10]) (h := 0) (by kernel_rfl) (by kernel_rfl) ?_
      simp (maxSteps := 1000000) (disch := first | assumption | omega | rfl) only [List.replicate_zero, eq_self, vmd, vmk, vmo, vmg, vme, vmb, ty, hP, dec_t, dec_f, wrap64, List.length_map, Int.toNat_natCast, Nat.reduceAdd, ↓vgd, ↓vst, ↓vix, List.append_nil, strOf_mk, op_index, hx, hy, dr_index, bo38]
      refine ⟨by kernel_rfl, ?_⟩
      generalize s[i] = x at *
      generalize s[i + 1] = y at *
      by_cases hc : dg x < 0
      · rw [if_pos (.inl hc)] at hR
        simp (maxSteps := 1000000) (disch := first | assumption | omega | rfl) only [↓vmp, vme, vmb, ty, hP, dec_t, dec_f, wrap64, List.length_map, Int.toNat_natCast, Nat.reduceAdd, List.cons_append, List.nil_append, Option.map_some, Option.map_none, strOf_mk, sb_eql, sb_neq, vmg, ↓vgd, ↓vst, ↓vix]
        exact hR rfl _ _ _ _ _ _ _ _ _ _ _ _ _ _ _ _ _ _ _ _ _ _ _ _ _ _ _ _ _ _ _ _ _ _ _ _ _ _ _ _ _ _ _ _ _ _ _ _
      · by_cases hd : dg y < 0
        · rw [if_pos (.inr hd)] at hR
          simp (maxSteps := 1000000) (disch := first | assumption | omega | rfl) only [↓vmp, vme, vmb, ty, hP, dec_t, dec_f, wrap64, List.length_map, Int.toNat_natCast, Nat.reduceAdd, List.cons_append, List.nil_append, Option.map_some, Option.map_none, strOf_mk, sb_eql, sb_neq, vmg, ↓vgd, ↓vst, ↓vix]
          exact hR rfl _ _ _ _ _ _ _ _ _ _ _ _ _ _ _ _ _ _ _ _ _ _ _ _ _ _ _ _ _ _ _ _ _ _ _ _ _ _ _ _ _ _ _ _ _ _ _ _
        · rw [if_neg (fun hh => hh.elim hc hd)] at hE hR
          have hs := fun K => shl_at (a := dg x) (by omega) da.2 K
          have ho := or_at (a := dg x) (b := dg y) (by omega) da.2 (by omega) db.2
          have hcv := fun S => cv35 (S := S) (n := dg x * 16 + dg y) (by omega) (by omega)
          obtain ⟨v', S', c, e1, hc', e2, -⟩ := app_byte (UInt8.ofNat (dg x * 16 + dg y).toNat) (by omega) hv
          have e3 := e2.one
          simp (maxSteps := 1000000) (disch := first | assumption | omega | rfl) only [↓vmp, vme, vmb, ty, hP, dec_t, dec_f, wrap64, List.length_map, Int.toNat_natCast, Nat.reduceAdd, List.cons_append, List.nil_append, Option.map_some, Option.map_none, strOf_mk, sb_eql, sb_neq, vmg, ↓vgd, ↓vst, ↓vix, ↓vbs, hs, ho, hcv, bs23, e1, e3]
          refine ih (i + 2) _ _ _ _ _ _ _ _ _ _ _ _ _ _ _ _ _ _ _ _ _ _ _ _ _ _ _ _ _ _ _ _ _ _ _ _ _ _ _ _ _ _ _ _ _ _ _ _ (by omega) (by simp; omega) (by omega) e2 ?_ ?_
          · intro l hlx S v i' g1 g6 g7 g8 g9 g10 g11 g12 g13 g14 g15 g16 g17 g18 g19 g20 g21 g22 g23 g24 g25 g26 g27 g28 g29 g30 g31 g32 g33 g34 g35 g36 g37 g38 g39 g40 g41 g42 g43 g44 g45 g46 g47 g48 g49 hv'
            exact hE _ (by rw [hlx]; rfl) _ _ _ _ _ _ _ _ _ _ _ _ _ _ _ _ _ _ _ _ _ _ _ _ _ _ _ _ _ _ _ _ _ _ _ _ _ _ _ _ _ _ _ _ _ _ _ _ (by rw [List.append_assoc] at hv'; exact hv')
          · intro hnx S v i' g1 g6 g7 g8 g9 g10 g11 g12 g13 g14 g15 g16 g17 g18 g19 g20 g21 g22 g23 g24 g25 g26 g27 g28 g29 g30 g31 g32 g33 g34 g35 g36 g37 g38 g39 g40 g41 g42 g43 g44 g45 g46 g47 g48 g49
            exact hR (by rw [hnx]; rfl) _ _ _ _ _ _ _ _ _ _ _ _ _ _ _ _ _ _ _ _ _ _ _ _ _ _ _ _ _ _ _ _ _ _ _ _ _ _ _ _ _ _ _ _ _ _ _ _
    · rw [wk_of]
      refine wk_loop ?_
      conv => arg 2; whnf
      simp (maxSteps := 1000000) (disch := first | assumption | omega | rfl) only [↓vmp, vme, vmb, ty, hP, dec_t, dec_f, wrap64, List.length_map, Int.toNat_natCast, Nat.reduceAdd, List.cons_append, List.nil_append, Option.map_some, Option.map_none, strOf_mk, sb_eql, sb_neq, vmg, ↓vgd, ↓vst, ↓vix]
      exact hE [] (unhexP_short (by rw [List.length_drop]; omega)) _ _ _ _ _ _ _ _ _ _ _ _ _ _ _ _ _ _ _ _ _ _ _ _ _ _ _ _ _ _ _ _ _ _ _ _ _ _ _ _ _ _ _ _ _ _ _ _ (by rw [List.append_nil]; exact hv)
end Go.Proofs.YteapjcgeckpknaaDoor
end
/-! script.unhex: what it answers. -/
section
set_option linter.unusedVariables false
set_option linter.unusedSimpArgs false
set_option maxRecDepth 100000
set_option maxHeartbeats 4000000
namespace Go.Proofs.YteapjcgeckpknaaDoor
open Go.Vm
def unhexS (s : List UInt8) : List UInt8 × Bool := if s = [45] then ([], true) else match unhexP s with
  | Option.none => ([], false)
  | some l => (l, decide ((s.length : Int) > 0) && decide (((s.length % 2 : Nat) : Int) = 0))
theorem rem2 {n : Nat} : binV Tryd.prog .rem 3 (.d (.int .i64 (n : Int))) (.d (.int .i64 2)) = some (.d (.int .i64 ((n % 2 : Nat) : Int))) := by
  simp only [binV, intBin]
  rfl
theorem unhex_ok (s : List UInt8) (hl : s.length ≤ 90000) : Ev cfg 44 [.str s] (.ret (.tup [.d (encB (unhexS s).1), .d (.bool (unhexS s).2)])) := by
  refine ev_of rfl rfl body44 ?_
  show Wp cfg (Tryd.f44.body.getD .skip) ((.d (.str s)) :: (.tup []) :: (.tup []) :: (.tup []) :: (.tup []) :: (.tup []) :: (.tup []) :: (.tup []) :: (.tup []) :: (.tup []) :: (.tup []) :: (.tup []) :: (.tup []) :: (.tup []) :: (.tup []) :: (.tup []) :: (.tup []) :: (.tup []) :: (.tup []) :: (.tup []) :: (.tup []) :: (.tup []) :: (.tup []) :: (.tup []) :: (.tup []) :: (.tup []) :: (.tup []) :: (.tup []) :: (.tup []) :: (.tup []) :: (.tup []) :: (.tup []) :: (.tup []) :: (.tup []) :: (.tup []) :: (.tup []) :: (.tup []) :: (.tup []) :: (.tup []) :: (.tup []) :: (.tup []) :: (.tup []) :: (.tup []) :: (.tup []) :: (.tup []) :: (.tup []) :: (.tup []) :: (.tup []) :: (.tup []) :: (.tup []) :: []) [] [] _
  conv => arg 2; whnf
  by_cases hs : s = [45]
  · have e : unhexS s = ([], true) := by unfold unhexS; rw [if_pos hs]
    rw [e]
    simp (maxSteps := 1000000) (disch := first | assumption | omega | rfl) only [↓vmp, vme, vmb, ty, hP, dec_t, dec_f, wrap64, List.length_map, Int.toNat_natCast, Nat.reduceAdd, List.cons_append, List.nil_append, Option.map_some, Option.map_none, strOf_mk, sb_eql, sb_neq, vmg, ↓vgd, ↓vst, ↓vix, dec_True]
    exact retQ_two rfl rfl rfl rfl rfl rfl
  · have e : unhexS s = match unhexP s with
        | Option.none => ([], false)
        | some l => (l, decide ((s.length : Int) > 0) && decide (((s.length % 2 : Nat) : Int) = 0)) := by unfold unhexS; rw [if_neg hs]
    rw [e]
    simp (maxSteps := 1000000) (disch := first | assumption | omega | rfl) only [↓vmp, vme, vmb, ty, hP, dec_t, dec_f, wrap64, List.length_map, Int.toNat_natCast, Nat.reduceAdd, List.cons_append, List.nil_append, Option.map_some, Option.map_none, strOf_mk, sb_eql, sb_neq, vmg, ↓vgd, ↓vst, ↓vix]
    refine unhex_l s hl _ _ _ s.length 0 [] _ _ _ _ _ _ _ _ _ _ _ _ _ _ _ _ _ _ _ _ _ _ _ _ _ _ _ _ _ _ _ _ _ _ _ _ _ _ _ _ _ _ _ _ _ _ _ (by omega) (Nat.zero_le _) (Nat.zero_le _) (.inl ⟨rfl, rfl⟩) ?_ ?_
    · intro l hlx S v i' g1 g6 g7 g8 g9 g10 g11 g12 g13 g14 g15 g16 g17 g18 g19 g20 g21 g22 g23 g24 g25 g26 g27 g28 g29 g30 g31 g32 g33 g34 g35 g36 g37 g38 g39 g40 g41 g42 g43 g44 g45 g46 g47 g48 g49 hv
      rw [List.drop_zero] at hlx
      rw [List.nil_append] at hv
      rw [hlx]
      have hrm := rem2 (n := s.length)
      have h1 := hv.one
      by_cases h0 : (s.length : Int) > 0
      · by_cases h2 : ((s.length % 2 : Nat) : Int) = 0
        · rw [decide_eq_true h0, decide_eq_true h2]
          simp (maxSteps := 1000000) (disch := first | assumption | omega | rfl) only [↓vmp, vme, vmb, ty, hP, dec_t, dec_f, wrap64, List.length_map, Int.toNat_natCast, Nat.reduceAdd, List.cons_append, List.nil_append, Option.map_some, Option.map_none, strOf_mk, sb_eql, sb_neq, vmg, ↓vgd, ↓vst, ↓vix, hrm, h1]
          exact retQ_two rfl rfl h1 rfl hv.frz rfl
        · rw [decide_eq_true h0, decide_eq_false h2]
          simp (maxSteps := 1000000) (disch := first | assumption | omega | rfl) only [↓vmp, vme, vmb, ty, hP, dec_t, dec_f, wrap64, List.length_map, Int.toNat_natCast, Nat.reduceAdd, List.cons_append, List.nil_append, Option.map_some, Option.map_none, strOf_mk, sb_eql, sb_neq, vmg, ↓vgd, ↓vst, ↓vix, hrm, h1]
          exact retQ_two rfl rfl h1 rfl hv.frz rfl
      · rw [decide_eq_false h0]
        simp (maxSteps := 1000000) (disch := first | assumption | omega | rfl) only [↓vmp, vme, vmb, ty, hP, dec_t, dec_f, wrap64, List.length_map, Int.toNat_natCast, Nat.reduceAdd, List.cons_append, List.nil_append, Option.map_some, Option.map_none, strOf_mk, sb_eql, sb_neq, vmg, ↓vgd, ↓vst, ↓vix, hrm, h1]
        exact retQ_two rfl rfl h1 rfl hv.frz rfl
    · intro hlx S v i' g1 g6 g7 g8 g9 g10 g11 g12 g13 g14 g15 g16 g17 g18 g19 g20 g21 g22 g23 g24 g25 g26 g27 g28 g29 g30 g31 g32 g33 g34 g35 g36 g37 g38 g39 g40 g41 g42 g43 g44 g45 g46 g47 g48 g49
      rw [List.drop_zero] at hlx
      rw [hlx]
      simp (maxSteps := 1000000) (disch := first | assumption | omega | rfl) only [↓vmp, vme, vmb, ty, hP, dec_t, dec_f, wrap64, List.length_map, Int.toNat_natCast, Nat.reduceAdd, List.cons_append, List.nil_append, Option.map_some, Option.map_none, strOf_mk, sb_eql, sb_neq, vmg, ↓vgd, ↓vst, ↓vix]
      exact retQ_two rfl rfl rfl rfl rfl rfl
end Go.Proofs.YteapjcgeckpknaaDoor
end
/-! script.unweight: digits as a weight. -/
section
set_option linter.unusedVariables false
set_option linter.unusedSimpArgs false
set_option maxRecDepth 100000
set_option maxHeartbeats 4000000
namespace Go.Proofs.YteapjcgeckpknaaDoor
open Go.Vm
def orB (b : Int) (x : UInt8) : Int := IntKind.u64.wrap (((BitVec.ofInt IntKind.u64.bits (IntKind.u64.wrap (b * 256)) ||| BitVec.ofInt IntKind.u64.bits (x.toNat : Int)).toNat : Nat) : Int)
def foldB (b : Int) (l : List UInt8) : Int := l.foldl orB b
theorem orB_in (b : Int) (x : UInt8) : 0 ≤ orB b x ∧ orB b x < 18446744073709551616 := by
  unfold orB
  generalize ((BitVec.ofInt IntKind.u64.bits (IntKind.u64.wrap (b * 256)) ||| BitVec.ofInt IntKind.u64.bits (x.toNat : Int)).toNat : Int) = n
  have : IntKind.u64.wrap n = n % 18446744073709551616 := rfl
  rw [this]
  omega
theorem foldB_in : ∀ (l : List UInt8) (b : Int), 0 ≤ b ∧ b < 18446744073709551616 → 0 ≤ foldB b l ∧ foldB b l < 18446744073709551616
  | [], b, h => h
  | x :: r, b, h => foldB_in r (orB b x) (orB_in b x)
def unweightS (s : List UInt8) : Int × Bool := if (unhexS s).2 = true ∧ (unhexS s).1.length = 8 then (foldB 0 (unhexS s).1, true) else (0, false)
theorem unweightS_in (s : List UInt8) : 0 ≤ (unweightS s).1 ∧ (unweightS s).1 < 18446744073709551616 := by
  unfold unweightS
  split
  · exact foldB_in _ 0 (by decide)
  · decide
theorem shl8 {b : Int} (K : IntKind) : binV Tryd.prog .shl 26 (.d (.int .u64 b)) (.d (.int K 8)) = some (.d (.int .u64 (IntKind.u64.wrap (b * 256)))) := by
  simp only [binV, intBin]
  rw [if_neg (by decide)]
  rfl
theorem or26 {m x : Int} : binV Tryd.prog .or 26 (.d (.int .u64 m)) (.d (.int .u64 x)) = some (.d (.int .u64 (IntKind.u64.wrap (((BitVec.ofInt IntKind.u64.bits m ||| BitVec.ofInt IntKind.u64.bits x).toNat : Nat) : Int)))) := by
  simp only [binV, intBin]
  rw [if_pos trivial]
  rfl
theorem cv526 {S : Store} {x : UInt8} : convertV Tryd.prog S 5 26 (.d (.int .u8 (x.toNat : Int))) = some (.d (.int .u64 (x.toNat : Int)), 0) := by
  have h1 : Tryd.prog.underlying 5 = some (.int .u8) := by kernel_rfl
  have h2 : Tryd.prog.underlying 26 = some (.int .u64) := by kernel_rfl
  have h3 := x.toNat_lt
  simp only [convertV, h1, h2]
  rw [u64_in (by omega) (by omega)]
section
variable {ops : Array Oper} {dst : Option Tmp} {k : List Oper} {T : List V} {S : Store} {F : Dfs} {Q : Post}
theorem call_unhex {s : List UInt8} (h : s.length ≤ 90000) : WpR cfg ops dst k T S F Q (some (.enter 44 [.d (.str s)])) = WpL cfg ops k (putT T dst (.tup [.d (encB (unhexS s).1), .d (.bool (unhexS s).2)])) S F Q :=
  wr_call_d (ds := [.str s]) rfl (unhex_ok s h)
end
theorem unweight_l (l : List UInt8) (hl : l.length = 8) (R : Post) : ∀ (k i : Nat) (b : Int) (g0 g1 g2 g3 g4 g5 g7 g8 g9 g10 g11 g12 g13 g14 g15 g16 g17 g18 g19 g20 g24 g25 g26 g27 g28 g29 g30 g31 g32 g33 : V), l.length - i = k → i ≤ l.length →
   (∀ i' g0 g1 g2 g3 g4 g5 g7 g8 g9 g10 g11 g12 g13 g14 g15 g16 g17 g18 g19 g20 g24 g25 g26 g27 g28 g29 g30 g31 g32 g33, R (.exit 0) (g0 :: g1 :: g2 :: g3 :: g4 :: g5 :: (.d (.int .u64 (foldB b (l.drop i)))) :: g7 :: g8 :: g9 :: g10 :: g11 :: g12 :: g13 :: g14 :: g15 :: g16 :: g17 :: g18 :: g19 :: g20 :: (.d (encB l)) :: (.d (.int .i64 (l.length : Int))) :: i' :: g24 :: g25 :: g26 :: g27 :: g28 :: g29 :: g30 :: g31 :: g32 :: g33 :: []) [] []) →
   Wp cfg (.loop (lpOf (Tryd.f42.body.getD .skip) 0)) (g0 :: g1 :: g2 :: g3 :: g4 :: g5 :: (.d (.int .u64 b)) :: g7 :: g8 :: g9 :: g10 :: g11 :: g12 :: g13 :: g14 :: g15 :: g16 :: g17 :: g18 :: g19 :: g20 :: (.d (encB l)) :: (.d (.int .i64 (l.length : Int))) :: (.d (.int .i64 (i : Int))) :: g24 :: g25 :: g26 :: g27 :: g28 :: g29 :: g30 :: g31 :: g32 :: g33 :: []) [] [] R := by
  intro k
  induction k with
  | zero =>
    intro i b g0 g1 g2 g3 g4 g5 g7 g8 g9 g10 g11 g12 g13 g14 g15 g16 g17 g18 g19 g20 g24 g25 g26 g27 g28 g29 g30 g31 g32 g33 hk hi hR
    have hie : i = l.length := by omega
    rw [hie, List.drop_length] at hR
    rw [wk_of]
    refine wk_loop ?_
    conv => arg 2; whnf
    simp (maxSteps := 1000000) (disch := first | assumption | omega | rfl) only [↓vmp, vme, vmb, ty, hP, dec_t, dec_f, wrap64, List.length_map, Int.toNat_natCast, Nat.reduceAdd, List.cons_append, List.nil_append, Option.map_some, Option.map_none, strOf_mk, sb_eql, sb_neq, vmg, ↓vgd, ↓vst, ↓vix]
    exact hR _ _ _ _ _ _ _ _ _ _ _ _ _ _ _ _ _ _ _ _ _ _ _ _ _ _ _ _ _ _ _
  | succ k ih =>
    intro i b g0 g1 g2 g3 g4 g5 g7 g8 g9 g10 g11 g12 g13 g14 g15 g16 g17 g18 g19 g20 g24 g25 g26 g27 g28 g29 g30 g31 g32 g33 hk hi hR
    have hlt : i < l.length := by omega
    have hix := fun S => ix23 (S := S) hlt
    have e : foldB b (l.drop i) = foldB (orB b l[i]) (l.drop (i + 1)) := by rw [List.drop_eq_getElem_cons hlt]; rfl
    rw [e] at hR
    have hsh := fun K => shl8 (b := b) K
    have hor := or26 (m := IntKind.u64.wrap (b * 256)) (x := (l[i].toNat : Int))
    have hcv := fun S => cv526 (S := S) (x := l[i])
    rw [wk_of]
    refine wk_loop ?_
    conv => arg 2; whnf
    simp (maxSteps := 1000000) (disch := first | assumption | omega | rfl) only [↓vmp, vme, vmb, ty, hP, dec_t, dec_f, wrap64, List.length_map, Int.toNat_natCast, Nat.reduceAdd, List.cons_append, List.nil_append, Option.map_some, Option.map_none, strOf_mk, sb_eql, sb_neq, vmg, ↓vgd, ↓vst, ↓vix, encB, hix, hsh, hor, hcv]
    exact ih (i + 1) (orB b l[i]) _ _ _ _ _ _ _ _ _ _ _ _ _ _ _ _ _ _ _ _ _ _ _ _ _ _ _ _ _ _ (by omega) (by omega) hR
theorem unweight_ok (s : List UInt8) (hl : s.length ≤ 90000) : Ev cfg 42 [.str s] (.ret (.tup [.d (.int .u64 (unweightS s).1), .d (.bool (unweightS s).2)])) := by
  refine ev_of rfl rfl body42 ?_
  show Wp cfg (Tryd.f42.body.getD .skip) ((.d (.str s)) :: (.tup []) :: (.tup []) :: (.tup []) :: (.tup []) :: (.tup []) :: (.tup []) :: (.tup []) :: (.tup []) :: (.tup []) :: (.tup []) :: (.tup []) :: (.tup []) :: (.tup []) :: (.tup []) :: (.tup []) :: (.tup []) :: (.tup []) :: (.tup []) :: (.tup []) :: (.tup []) :: (.tup []) :: (.tup []) :: (.tup []) :: (.tup []) :: (.tup []) :: (.tup []) :: (.tup []) :: (.tup []) :: (.tup []) :: (.tup []) :: (.tup []) :: (.tup []) :: (.tup []) :: []) [] [] _
  conv => arg 2; whnf
  have hcl := fun {ops dst k T S F Q} => call_unhex (ops := ops) (dst := dst) (k := k) (T := T) (S := S) (F := F) (Q := Q) hl
  unfold unweightS
  generalize unhexS s = u at *
  obtain ⟨l, ok⟩ := u
  cases ok with
  | false =>
    rw [if_neg (fun h => by cases h.1)]
    simp (maxSteps := 1000000) (disch := first | assumption | omega | rfl) only [↓vmp, vme, vmb, ty, hP, dec_t, dec_f, wrap64, List.length_map, Int.toNat_natCast, Nat.reduceAdd, List.cons_append, List.nil_append, Option.map_some, Option.map_none, strOf_mk, sb_eql, sb_neq, vmg, ↓vgd, ↓vst, ↓vix, encB, hcl, bo44]
    exact retQ_two rfl rfl rfl rfl rfl rfl
  | true =>
    by_cases h8 : l.length = 8
    · have h8' : (l.length : Int) = 8 := by omega
      rw [if_pos ⟨rfl, h8⟩]
      simp (maxSteps := 1000000) (disch := first | assumption | omega | rfl) only [↓vmp, vme, vmb, ty, hP, dec_t, dec_f, wrap64, List.length_map, Int.toNat_natCast, Nat.reduceAdd, List.cons_append, List.nil_append, Option.map_some, Option.map_none, strOf_mk, sb_eql, sb_neq, vmg, ↓vgd, ↓vst, ↓vix, encB, hcl, bo44, dne]
      refine unweight_l l h8 _ l.length 0 0 _ _ _ _ _ _ _ _ _ _ _ _ _ _ _ _ _ _ _ _ _ _ _ _ _ _ _ _ _ _ rfl (Nat.zero_le _) ?_
      intro i' g0 g1 g2 g3 g4 g5 g7 g8 g9 g10 g11 g12 g13 g14 g15 g16 g17 g18 g19 g20 g24 g25 g26 g27 g28 g29 g30 g31 g32 g33
      rw [List.drop_zero]
      simp (maxSteps := 1000000) (disch := first | assumption | omega | rfl) only [↓vmp, vme, vmb, ty, hP, dec_t, dec_f, wrap64, List.length_map, Int.toNat_natCast, Nat.reduceAdd, List.cons_append, List.nil_append, Option.map_some, Option.map_none, strOf_mk, sb_eql, sb_neq, vmg, ↓vgd, ↓vst, ↓vix]
      exact retQ_two rfl rfl rfl rfl rfl rfl
    · have h8' : (l.length : Int) ≠ 8 := by omega
      rw [if_neg (fun h => h8 h.2)]
      simp (maxSteps := 1000000) (disch := first | assumption | omega | rfl) only [↓vmp, vme, vmb, ty, hP, dec_t, dec_f, wrap64, List.length_map, Int.toNat_natCast, Nat.reduceAdd, List.cons_append, List.nil_append, Option.map_some, Option.map_none, strOf_mk, sb_eql, sb_neq, vmg, ↓vgd, ↓vst, ↓vix, encB, hcl, bo44]
      exact retQ_two rfl rfl rfl rfl rfl rfl
end Go.Proofs.YteapjcgeckpknaaDoor
end
/-! The two closures of script.guess: a word of a line, and its number. -/
section
set_option linter.unusedVariables false
set_option linter.unusedSimpArgs false
set_option maxRecDepth 100000
set_option maxHeartbeats 4000000
namespace Go.Proofs.YteapjcgeckpknaaDoor
open Go.Vm
theorem body39' : bodyOf Tryd.prog 39 = some ⟨Tryd.f39.body.getD .skip, 12, #[.tmp 3]⟩ := by
  unfold bodyOf
  rw [Tryd.func39]
  rfl
def atS (l : List (List UInt8)) (i : Nat) : List UInt8 := l.getD i []
theorem lr56 {l : List (List UInt8)} : loadR Tryd.prog 56 0 (some (.d (.sl (l.map .str)))) = some (.d (.sl (l.map .str))) := by kernel_rfl
theorem at_ok (l : List (List UInt8)) (hl : l.length ≤ 1000000) (i : Nat) (hi : i ≤ 1000) (S : Store) (a : Nat) (h : rowE S a 0 = some (.d (.sl (l.map .str)))) : EvS cfg 39 [.d (.int .i64 (i : Int)), .ref a 0 0] S (fun o S' => o = .ret (.d (.str (atS l i))) ∧ S' = S) := by
  refine evS_of rfl body39' ?_
  show Wp cfg (Tryd.f39.body.getD .skip) [.d (.int .i64 (i : Int)), .ref a 0 0, .tup [], .tup [], .tup [], .tup [], .tup [], .tup [], .tup [], .tup [], .tup [], .tup []] S [] _
  conv => arg 2; whnf
  rw [wk_of]
  by_cases hc : (i : Int) < l.length
  · have hlt : i < l.length := by omega
    have hix := fun S => ix56 (S := S) hlt
    have e : atS l i = l[i] := by unfold atS; rw [List.getD_eq_getElem?_getD, List.getElem?_eq_getElem hlt]; rfl
    rw [e]
    simp (maxSteps := 1000000) (disch := first | assumption | omega | rfl) only [↓vmp, vme, vmb, ty, hP, dec_t, dec_f, wrap64, List.length_map, Int.toNat_natCast, Nat.reduceAdd, List.cons_append, List.nil_append, Option.map_some, Option.map_none, strOf_mk, sb_eql, sb_neq, vmg, ↓vgd, ↓vst, ↓vix, h, lr56, hix]
    exact ⟨rfl, _, rfl, rfl, rfl⟩
  · have e : atS l i = [] := by unfold atS; rw [List.getD_eq_getElem?_getD, List.getElem?_eq_none (by omega)]; rfl
    rw [e]
    simp (maxSteps := 1000000) (disch := first | assumption | omega | rfl) only [↓vmp, vme, vmb, ty, hP, dec_t, dec_f, wrap64, List.length_map, Int.toNat_natCast, Nat.reduceAdd, List.cons_append, List.nil_append, Option.map_some, Option.map_none, strOf_mk, sb_eql, sb_neq, vmg, ↓vgd, ↓vst, ↓vix, h, lr56]
    exact ⟨rfl, _, rfl, rfl, rfl⟩
end Go.Proofs.YteapjcgeckpknaaDoor
end
/-! The closure num of script.guess: a word's number. -/
section
set_option linter.unusedVariables false
set_option linter.unusedSimpArgs false
set_option maxRecDepth 100000
set_option maxHeartbeats 4000000
namespace Go.Proofs.YteapjcgeckpknaaDoor
open Go.Vm
theorem body40' : bodyOf Tryd.prog 40 = some ⟨Tryd.f40.body.getD .skip, 14, #[.tmp 3]⟩ := by
  unfold bodyOf
  rw [Tryd.func40]
  rfl
theorem bo39' : (bodyOf Tryd.prog 39).isSome = true := by kernel_rfl
theorem bo40' : (bodyOf Tryd.prog 40).isSome = true := by kernel_rfl
theorem bo41 : (bodyOf Tryd.prog 41).isSome = true := by kernel_rfl
/-- The number that Atoi tells, whatever it says besides. -/
def numS (s : List UInt8) : Int := match Lib.atoiAll s with
  | .ok v => v
  | .range => Lib.atoiSat s
  | _ => 0
def numE (s : List UInt8) : D := match Lib.atoiAll s with
  | .ok _ => .nili
  | .range => errD rngS s
  | _ => errD synS s
theorem atoi_ev (s : List UInt8) (h : s.length ≤ 281474976710656) : Ev cfg 41 [.str s] (.ret (.tup [.d (.int .i64 (numS s)), .d (numE s)])) := by
  refine ⟨0, ?_⟩
  have hx : cfg.ext 41 = some atoiX := rfl
  unfold runD answer
  simp only [hx]
  unfold atoiX numS numE
  simp only
  rw [if_pos h]
  cases Lib.atoiAll s <;> rfl
theorem wl_callv {C : Cfg} {ops : Array Oper} {dst : Option Tmp} {ty : TypeId} {pos : String} {after : Array Edge} {l : List Oper} {T : List V} {S : Store} {F : Dfs} {Q : Post} {t : Nat} {args : Array Operand} {ts : Array TypeId} : WpL C ops (⟨dst, .call { callee := .value (.tmp t), args := args, argTypes := ts }, ty, pos, after, none⟩ :: l) T S F Q = WpR C ops dst l T S F Q (cvV C.P (args.toList.map (evalO T)) (evalO T (.tmp t))) := by rw [wl_op rfl, op_callv]
theorem cv39 {x : V} {a : Nat} (h : x.one = true) : cvV Tryd.prog [x] (.fn (.func 39) [] [.ref a 0 0]) = some (.enter 39 [x, .ref a 0 0]) := cv_fn (by simp [h]) bo39'
theorem lr62 {f : FuncId} {a : Nat} : loadR Tryd.prog 62 0 (some (.fn (.func f) [] [.ref a 0 0])) = some (.fn (.func f) [] [.ref a 0 0]) := by kernel_rfl
section
variable {ops : Array Oper} {dst : Option Tmp} {k : List Oper} {T : List V} {S : Store} {F : Dfs} {Q : Post}
theorem call_atoi {s : List UInt8} (h : s.length ≤ 281474976710656) : WpR cfg ops dst k T S F Q (some (.enter 41 [.d (.str s)])) = WpL cfg ops k (putT T dst (.tup [.d (.int .i64 (numS s)), .d (numE s)])) S F Q :=
  wr_call_d (ds := [.str s]) rfl (atoi_ev s h)
end
theorem num_at_ok (l : List (List UInt8)) (hl : l.length ≤ 1000000) (hB : ∀ s ∈ l, s.length ≤ 1000000) (i : Nat) (hi : i ≤ 1000) (S : Store) (a b : Nat) (h : rowE S a 0 = some (.d (.sl (l.map .str)))) (h' : rowE S b 0 = some (.fn (.func 39) [] [.ref a 0 0])) : EvS cfg 40 [.d (.int .i64 (i : Int)), .ref b 0 0] S (fun o S' => o = .ret (.d (.int .i64 (numS (atS l i)))) ∧ S' = S) := by
  have hb : (atS l i).length ≤ 281474976710656 := by
    unfold atS
    rw [List.getD_eq_getElem?_getD]
    cases hg : l[i]? with
    | none => simp
    | some s => have := hB s (List.mem_of_getElem? hg); simp; omega
  refine evS_of rfl body40' ?_
  show Wp cfg (Tryd.f40.body.getD .skip) [.d (.int .i64 (i : Int)), .ref b 0 0, .tup [], .tup [], .tup [], .tup [], .tup [], .tup [], .tup [], .tup [], .tup [], .tup [], .tup [], .tup []] S [] _
  conv => arg 2; whnf
  rw [wk_of]
  have hcv := cv39 (x := .d (.int .i64 (i : Int))) (a := a) rfl
  simp (maxSteps := 1000000) (disch := first | assumption | omega | rfl) only [↓vmp, vme, vmb, ty, hP, dec_t, dec_f, wrap64, List.length_map, Int.toNat_natCast, Nat.reduceAdd, List.cons_append, List.nil_append, Option.map_some, Option.map_none, strOf_mk, sb_eql, sb_neq, vmg, ↓vgd, ↓vst, ↓vix, h', lr62, ↓wl_callv, hcv]
  refine wr_callS rfl (at_ok l hl i hi S a h) ?_ (by rintro v S' ⟨hv, _⟩; cases hv)
  rintro v S' ⟨hv, rfl⟩
  cases hv
  simp (maxSteps := 1000000) (disch := first | assumption | omega | rfl) only [↓vmp, vme, vmb, ty, hP, dec_t, dec_f, wrap64, List.length_map, Int.toNat_natCast, Nat.reduceAdd, List.cons_append, List.nil_append, Option.map_some, Option.map_none, strOf_mk, sb_eql, sb_neq, vmg, ↓vgd, ↓vst, ↓vix, call_atoi hb, bo41]
  exact ⟨rfl, _, rfl, rfl, rfl⟩
end Go.Proofs.YteapjcgeckpknaaDoor
end
/-! script.guess: the step that a line's words would tell (its three short ways). -/
section
set_option linter.unusedVariables false
set_option linter.unusedSimpArgs false
set_option maxRecDepth 100000
set_option maxHeartbeats 4000000
namespace Go.Proofs.YteapjcgeckpknaaDoor
open Go.Vm
theorem z62 : zeroV Tryd.prog 62 = some (.d .nilf) := by kernel_rfl
theorem zf62 : fitsT Tryd.prog 62 (.d .nilf) = true := by kernel_rfl
theorem sr62 {f : FuncId} {a : Nat} : storeR Tryd.prog 62 0 (.fn (.func f) [] [.ref a 0 0]) (.d .nilf) = some (.fn (.func f) [] [.ref a 0 0]) := by kernel_rfl
theorem mfS_r1 {fn : Fn} {S : Store} {a b c : Nat} : mfS fn S [] [.ref a b c] = some (.val (.fn fn [] [.ref a b c]) S 0) := rfl
theorem cv40 {x : V} {a : Nat} (h : x.one = true) : cvV Tryd.prog [x] (.fn (.func 40) [] [.ref a 0 0]) = some (.enter 40 [x, .ref a 0 0]) := cv_fn (by simp [h]) bo40'
theorem bd28w {w : Int} : buildV Tryd.prog 28 [(0, .d (.int .i64 1)), (2, .d (.int .u64 w))] = some (.agg [.d (.int .i64 1), .d (.int .i64 0), .d (.str []), .d (.str []), .d (.int .i64 0), .d (.int .i64 0), .ts [], .d (.int .u64 w), .d (.int .i64 0)]) := by kernel_rfl
theorem bd28n {n : Int} : buildV Tryd.prog 28 [(0, .d (.int .i64 2)), (3, .d (.int .i64 n))] = some (.agg [.d (.int .i64 2), .d (.int .i64 0), .d (.str []), .d (.str []), .d (.int .i64 0), .d (.int .i64 0), .ts [], .d (.int .u64 0), .d (.int .i64 n)]) := by kernel_rfl
theorem bd28o : buildV Tryd.prog 28 [(0, .d (.int .i64 3))] = some (.agg [.d (.int .i64 3), .d (.int .i64 0), .d (.str []), .d (.str []), .d (.int .i64 0), .d (.int .i64 0), .ts [], .d (.int .u64 0), .d (.int .i64 0)]) := by kernel_rfl
theorem fz56 {l : List (List UInt8)} : fitsT Tryd.prog 56 (.d (.sl (l.map .str))) = true := by kernel_rfl
section
variable {ops : Array Oper} {dst : Option Tmp} {k : List Oper} {T : List V} {S : Store} {F : Dfs} {Q : Post}
theorem call_unweight {s : List UInt8} (h : s.length ≤ 90000) : WpR cfg ops dst k T S F Q (some (.enter 42 [.d (.str s)])) = WpL cfg ops k (putT T dst (.tup [.d (.int .u64 (unweightS s).1), .d (.bool (unweightS s).2)])) S F Q :=
  wr_call_d (ds := [.str s]) rfl (unweight_ok s h)
end
abbrev gS (l : List (List UInt8)) : Store := [.row [.d (.sl (l.map .str))] 56, .row [.agg [.d (.int .i64 0), .d (.int .i64 0), .d (.str []), .d (.str []), .d (.int .i64 0), .d (.int .i64 0), .ts [], .d (.int .u64 0), .d (.int .i64 0)]] 28, .row [.fn (.func 39) [] [.ref 0 0 0]] 62]
theorem guess_pick (l : List (List UInt8)) (hl : l.length ≤ 90000) (hB : ∀ s ∈ l, s.length ≤ 90000) (h : atS l 0 = [112, 105, 99, 107]) (h1 : (atS l 1).length ≤ 90000) : Ev cfg 20 [.sl (l.map .str)] (.ret (.d (encStep ⟨1, noOpn, (unweightS (atS l 1)).1, 0⟩))) := by
  refine ev_of rfl rfl body20 ?_
  show Wp cfg (Tryd.f20.body.getD .skip) ((.d (.sl (l.map .str))) :: (.tup []) :: (.tup []) :: (.tup []) :: (.tup []) :: (.tup []) :: (.tup []) :: (.tup []) :: (.tup []) :: (.tup []) :: (.tup []) :: (.tup []) :: (.tup []) :: (.tup []) :: (.tup []) :: (.tup []) :: (.tup []) :: (.tup []) :: (.tup []) :: (.tup []) :: (.tup []) :: (.tup []) :: (.tup []) :: (.tup []) :: (.tup []) :: (.tup []) :: (.tup []) :: (.tup []) :: (.tup []) :: (.tup []) :: (.tup []) :: (.tup []) :: (.tup []) :: (.tup []) :: (.tup []) :: (.tup []) :: (.tup []) :: (.tup []) :: (.tup []) :: (.tup []) :: (.tup []) :: (.tup []) :: (.tup []) :: (.tup []) :: (.tup []) :: (.tup []) :: (.tup []) :: (.tup []) :: (.tup []) :: (.tup []) :: (.tup []) :: (.tup []) :: (.tup []) :: (.tup []) :: (.tup []) :: (.tup []) :: (.tup []) :: []) [] [] _
  conv => arg 2; whnf
  have c0 := cv39 (x := .d (.int .i64 0)) (a := 0) rfl
  have c1 := cv39 (x := .d (.int .i64 1)) (a := 0) rfl
  simp (maxSteps := 1000000) (disch := first | assumption | omega | rfl) only [↓vmp, vme, vmb, ty, hP, dec_t, dec_f, wrap64, List.length_map, Int.toNat_natCast, Nat.reduceAdd, List.cons_append, List.nil_append, Option.map_some, Option.map_none, strOf_mk, sb_eql, sb_neq, vmg, ↓vgd, ↓vst, ↓vix, fz56, z62, zf62, sr62, lr62, ↓wl_makeFunc, mfS_r1, ↓wl_callv, c0]
  refine wr_callS rfl (at_ok l (by omega) 0 (by omega) _ 0 rfl) ?_ (by rintro v S' ⟨hv, _⟩; cases hv)
  rintro v S' ⟨hv, rfl⟩
  cases hv
  rw [h]
  simp (maxSteps := 1000000) (disch := first | assumption | omega | rfl) only [↓vmp, vme, vmb, ty, hP, dec_t, dec_f, wrap64, List.length_map, Int.toNat_natCast, Nat.reduceAdd, List.cons_append, List.nil_append, Option.map_some, Option.map_none, strOf_mk, sb_eql, sb_neq, vmg, ↓vgd, ↓vst, ↓vix, lr62, ↓wl_callv, c1, dec_True, deq]
  refine wr_callS rfl (at_ok l (by omega) 1 (by omega) _ 0 rfl) ?_ (by rintro v S' ⟨hv, _⟩; cases hv)
  rintro v S' ⟨hv, rfl⟩
  cases hv
  simp (maxSteps := 1000000) (disch := first | assumption | omega | rfl) only [↓vmp, vme, vmb, ty, hP, dec_t, dec_f, wrap64, List.length_map, Int.toNat_natCast, Nat.reduceAdd, List.cons_append, List.nil_append, Option.map_some, Option.map_none, strOf_mk, sb_eql, sb_neq, vmg, ↓vgd, ↓vst, ↓vix, call_unweight h1, bo42, bd28w]
  exact retQ_cell (u := .ref 1 0 0) (v := .agg [.d (.int .i64 1), .d (.int .i64 0), .d (.str []), .d (.str []), .d (.int .i64 0), .d (.int .i64 0), .ts [], .d (.int .u64 (unweightS (atS l 1)).1), .d (.int .i64 0)]) rfl (by kernel_rfl) rfl (by kernel_rfl)
theorem guess_fuse (l : List (List UInt8)) (hl : l.length ≤ 90000) (hB : ∀ s ∈ l, s.length ≤ 90000) (h : atS l 0 = [102, 117, 115, 101]) : Ev cfg 20 [.sl (l.map .str)] (.ret (.d (encStep ⟨2, noOpn, 0, numS (atS l 1)⟩))) := by
  refine ev_of rfl rfl body20 ?_
  show Wp cfg (Tryd.f20.body.getD .skip) ((.d (.sl (l.map .str))) :: (.tup []) :: (.tup []) :: (.tup []) :: (.tup []) :: (.tup []) :: (.tup []) :: (.tup []) :: (.tup []) :: (.tup []) :: (.tup []) :: (.tup []) :: (.tup []) :: (.tup []) :: (.tup []) :: (.tup []) :: (.tup []) :: (.tup []) :: (.tup []) :: (.tup []) :: (.tup []) :: (.tup []) :: (.tup []) :: (.tup []) :: (.tup []) :: (.tup []) :: (.tup []) :: (.tup []) :: (.tup []) :: (.tup []) :: (.tup []) :: (.tup []) :: (.tup []) :: (.tup []) :: (.tup []) :: (.tup []) :: (.tup []) :: (.tup []) :: (.tup []) :: (.tup []) :: (.tup []) :: (.tup []) :: (.tup []) :: (.tup []) :: (.tup []) :: (.tup []) :: (.tup []) :: (.tup []) :: (.tup []) :: (.tup []) :: (.tup []) :: (.tup []) :: (.tup []) :: (.tup []) :: (.tup []) :: (.tup []) :: (.tup []) :: []) [] [] _
  conv => arg 2; whnf
  have c0 := cv39 (x := .d (.int .i64 0)) (a := 0) rfl
  have c1 := cv40 (x := .d (.int .i64 1)) (a := 2) rfl
  simp (maxSteps := 1000000) (disch := first | assumption | omega | rfl) only [↓vmp, vme, vmb, ty, hP, dec_t, dec_f, wrap64, List.length_map, Int.toNat_natCast, Nat.reduceAdd, List.cons_append, List.nil_append, Option.map_some, Option.map_none, strOf_mk, sb_eql, sb_neq, vmg, ↓vgd, ↓vst, ↓vix, fz56, z62, zf62, sr62, lr62, ↓wl_makeFunc, mfS_r1, ↓wl_callv, c0]
  refine wr_callS rfl (at_ok l (by omega) 0 (by omega) _ 0 rfl) ?_ (by rintro v S' ⟨hv, _⟩; cases hv)
  rintro v S' ⟨hv, rfl⟩
  cases hv
  rw [h]
  have d1 : ¬ ([102, 117, 115, 101] : List UInt8) = [112, 105, 99, 107] := by decide
  simp (maxSteps := 1000000) (disch := first | assumption | omega | rfl) only [↓vmp, vme, vmb, ty, hP, dec_t, dec_f, wrap64, List.length_map, Int.toNat_natCast, Nat.reduceAdd, List.cons_append, List.nil_append, Option.map_some, Option.map_none, strOf_mk, sb_eql, sb_neq, vmg, ↓vgd, ↓vst, ↓vix, lr62, ↓wl_callv, c1, dec_True, deq]
  refine wr_callS rfl (num_at_ok l (by omega) (fun s hs => by have := hB s hs; omega) 1 (by omega) _ 0 2 rfl rfl) ?_ (by rintro v S' ⟨hv, _⟩; cases hv)
  rintro v S' ⟨hv, rfl⟩
  cases hv
  simp (maxSteps := 1000000) (disch := first | assumption | omega | rfl) only [↓vmp, vme, vmb, ty, hP, dec_t, dec_f, wrap64, List.length_map, Int.toNat_natCast, Nat.reduceAdd, List.cons_append, List.nil_append, Option.map_some, Option.map_none, strOf_mk, sb_eql, sb_neq, vmg, ↓vgd, ↓vst, ↓vix, bd28n]
  exact retQ_cell (u := .ref 1 0 0) (v := .agg [.d (.int .i64 2), .d (.int .i64 0), .d (.str []), .d (.str []), .d (.int .i64 0), .d (.int .i64 0), .ts [], .d (.int .u64 0), .d (.int .i64 (numS (atS l 1)))]) rfl (by kernel_rfl) rfl (by kernel_rfl)
theorem guess_open (l : List (List UInt8)) (hl : l.length ≤ 90000) (h : atS l 0 = [111, 112, 101, 110]) : Ev cfg 20 [.sl (l.map .str)] (.ret (.d (encStep ⟨3, noOpn, 0, 0⟩))) := by
  refine ev_of rfl rfl body20 ?_
  show Wp cfg (Tryd.f20.body.getD .skip) ((.d (.sl (l.map .str))) :: (.tup []) :: (.tup []) :: (.tup []) :: (.tup []) :: (.tup []) :: (.tup []) :: (.tup []) :: (.tup []) :: (.tup []) :: (.tup []) :: (.tup []) :: (.tup []) :: (.tup []) :: (.tup []) :: (.tup []) :: (.tup []) :: (.tup []) :: (.tup []) :: (.tup []) :: (.tup []) :: (.tup []) :: (.tup []) :: (.tup []) :: (.tup []) :: (.tup []) :: (.tup []) :: (.tup []) :: (.tup []) :: (.tup []) :: (.tup []) :: (.tup []) :: (.tup []) :: (.tup []) :: (.tup []) :: (.tup []) :: (.tup []) :: (.tup []) :: (.tup []) :: (.tup []) :: (.tup []) :: (.tup []) :: (.tup []) :: (.tup []) :: (.tup []) :: (.tup []) :: (.tup []) :: (.tup []) :: (.tup []) :: (.tup []) :: (.tup []) :: (.tup []) :: (.tup []) :: (.tup []) :: (.tup []) :: (.tup []) :: (.tup []) :: []) [] [] _
  conv => arg 2; whnf
  have c0 := cv39 (x := .d (.int .i64 0)) (a := 0) rfl
  simp (maxSteps := 1000000) (disch := first | assumption | omega | rfl) only [↓vmp, vme, vmb, ty, hP, dec_t, dec_f, wrap64, List.length_map, Int.toNat_natCast, Nat.reduceAdd, List.cons_append, List.nil_append, Option.map_some, Option.map_none, strOf_mk, sb_eql, sb_neq, vmg, ↓vgd, ↓vst, ↓vix, fz56, z62, zf62, sr62, lr62, ↓wl_makeFunc, mfS_r1, ↓wl_callv, c0]
  refine wr_callS rfl (at_ok l (by omega) 0 (by omega) _ 0 rfl) ?_ (by rintro v S' ⟨hv, _⟩; cases hv)
  rintro v S' ⟨hv, rfl⟩
  cases hv
  rw [h]
  have d1 : ¬ ([111, 112, 101, 110] : List UInt8) = [112, 105, 99, 107] := by decide
  have d2 : ¬ ([111, 112, 101, 110] : List UInt8) = [102, 117, 115, 101] := by decide
  simp (maxSteps := 1000000) (disch := first | assumption | omega | rfl) only [↓vmp, vme, vmb, ty, hP, dec_t, dec_f, wrap64, List.length_map, Int.toNat_natCast, Nat.reduceAdd, List.cons_append, List.nil_append, Option.map_some, Option.map_none, strOf_mk, sb_eql, sb_neq, vmg, ↓vgd, ↓vst, ↓vix, bd28o, dec_True, deq]
  exact retQ_cell (u := .ref 1 0 0) (v := .agg [.d (.int .i64 3), .d (.int .i64 0), .d (.str []), .d (.str []), .d (.int .i64 0), .d (.int .i64 0), .ts [], .d (.int .u64 0), .d (.int .i64 0)]) rfl (by kernel_rfl) rfl (by kernel_rfl)
end Go.Proofs.YteapjcgeckpknaaDoor
end
/-! script.guess: the way of a call. -/
section
set_option linter.unusedVariables false
set_option linter.unusedSimpArgs false
set_option maxRecDepth 100000
set_option maxHeartbeats 4000000
namespace Go.Proofs.YteapjcgeckpknaaDoor
open Go.Vm
theorem dw_callS {C : Cfg} {ops : Array Oper} {base : Nat} {K : Ws → List (Nat × Nat) → List V → Store → Prop} {ws : Ws} {cs : List (Nat × Nat)} {i : Nat} {dst : Option Tmp} {T : List V} {S : Store} {f : FuncId} {args : List V} {R : Out → Store → Prop} (hs : C.shared f = true) (he : EvS C f args S R)
    (hk : ∀ v S', R (.ret v) S' → WAll C ops base ws i S' ∧ K ws (cs ++ [(i, 3)]) (putT T dst v) S') (hp : ∀ v S', ¬ R (.pan v) S') : WpEw C ops base K ws cs i dst T S (some (.enter f args)) := by
  obtain ⟨n, out, S', hn, hR⟩ := he
  have hc : callV C (run C n) f args S = some (out, S', 3) := by
    unfold callV
    simp only [hs, if_true, hn, Option.map_some]
  cases out with
  | ret v =>
    obtain ⟨h1, h2⟩ := hk v S' hR
    exact ⟨n, v, S', 3, hc, fun _ => h1, by simpa [num2] using h2⟩
  | pan v => exact absurd hR (hp v S')

theorem dw_call_v {C : Cfg} {ops : Array Oper} {base : Nat} {K : Ws → List (Nat × Nat) → List V → Store → Prop} {ws : Ws} {cs : List (Nat × Nat)} {i : Nat} {dst : Option Tmp} {T : List V} {S : Store} {f : FuncId} {args : List V} {ds : List D} {v : V} (hs : C.shared f = false) (hf : allO (frz S frzFuel) args = some ds) (hi : (args.flatMap (frzIds S frzFuel)).isEmpty = true) (he : Ev C f ds (.ret v))
    (hk : K ((i, T, v) :: ws) (cs ++ [(i, 1)]) (putT T dst v) S) : WpEw C ops base K ws cs i dst T S (some (.enter f args)) := by
  obtain ⟨n, hn⟩ := he
  have hn' : answer C (run C n) f ds = some (.ret v) := hn
  have hc : callV C (run C n) f args S = some (.ret v, S, 1) := by
    unfold callV
    simp only [hs, Bool.false_eq_true, if_false, hf, hn', hi, if_true]
  exact ⟨n, v, S, 1, hc, fun h => absurd h (by decide), by simpa [num2] using hk⟩
theorem bo43' : (bodyOf Tryd.prog 43).isSome = true := by kernel_rfl
theorem ld1 {S : Store} {t : TypeId} {y : V} {i f : Nat} (h : loadV Tryd.prog S t (.ref i 0 f) = some y) : (loadV Tryd.prog S t (.ref i 0 f)).map (fun v => Rs.val v S 1) = some (.val y S 1) := by rw [h]; rfl
theorem sameV_fn : sameV (.fn (.func 39) [] [.ref 0 0 0]) (.fn (.func 39) [] [.ref 0 0 0]) = true := rfl
theorem bd25g {a e f : Int} {b c : List UInt8} : buildV Tryd.prog 25 [(0, .d (.int .i64 a)), (1, .d (.str b)), (2, .d (.str c)), (3, .d (.int .i64 e)), (4, .d (.int .i64 f))] = some (.agg [.d (.int .i64 a), .d (.str b), .d (.str c), .d (.int .i64 e), .d (.int .i64 f), .ts []]) := by kernel_rfl
theorem bd28c {a e f : Int} {b c d : List UInt8} : buildV Tryd.prog 28 [(1, .agg [.d (.int .i64 a), .d (.str b), .d (.str c), .d (.int .i64 e), .d (.int .i64 f), .d (encB d)])] = some (.agg [.d (.int .i64 0), .d (.int .i64 a), .d (.str b), .d (.str c), .d (.int .i64 e), .d (.int .i64 f), .d (encB d), .d (.int .u64 0), .d (.int .i64 0)]) := by kernel_rfl
def guessO (l : List (List UInt8)) : Opn := ⟨doN (atS l 0), atS l 1, atS l 2, numS (atS l 2), if doN (atS l 0) = 9 then numS (atS l 2) else numS (atS l 3), (unhexS (atS l 3)).1⟩
theorem guess_call (l : List (List UInt8)) (hl : l.length ≤ 90000) (hB : ∀ s ∈ l, s.length ≤ 90000) (h1 : ¬ atS l 0 = [112, 105, 99, 107]) (h2 : ¬ atS l 0 = [102, 117, 115, 101]) (h3 : ¬ atS l 0 = [111, 112, 101, 110]) : Ev cfg 20 [.sl (l.map .str)] (.ret (.d (encStep ⟨0, guessO l, 0, 0⟩))) := by
  refine ev_of rfl rfl body20 ?_
  show Wp cfg (Tryd.f20.body.getD .skip) ((.d (.sl (l.map .str))) :: (.tup []) :: (.tup []) :: (.tup []) :: (.tup []) :: (.tup []) :: (.tup []) :: (.tup []) :: (.tup []) :: (.tup []) :: (.tup []) :: (.tup []) :: (.tup []) :: (.tup []) :: (.tup []) :: (.tup []) :: (.tup []) :: (.tup []) :: (.tup []) :: (.tup []) :: (.tup []) :: (.tup []) :: (.tup []) :: (.tup []) :: (.tup []) :: (.tup []) :: (.tup []) :: (.tup []) :: (.tup []) :: (.tup []) :: (.tup []) :: (.tup []) :: (.tup []) :: (.tup []) :: (.tup []) :: (.tup []) :: (.tup []) :: (.tup []) :: (.tup []) :: (.tup []) :: (.tup []) :: (.tup []) :: (.tup []) :: (.tup []) :: (.tup []) :: (.tup []) :: (.tup []) :: (.tup []) :: (.tup []) :: (.tup []) :: (.tup []) :: (.tup []) :: (.tup []) :: (.tup []) :: (.tup []) :: (.tup []) :: (.tup []) :: []) [] [] _
  conv => arg 2; whnf
  have c0 := cv39 (x := .d (.int .i64 0)) (a := 0) rfl
  simp (maxSteps := 1000000) (disch := first | assumption | omega | rfl) only [↓vmp, vme, vmb, ty, hP, dec_t, dec_f, wrap64, List.length_map, Int.toNat_natCast, Nat.reduceAdd, List.cons_append, List.nil_append, Option.map_some, Option.map_none, strOf_mk, sb_eql, sb_neq, vmg, ↓vgd, ↓vst, ↓vix, fz56, z62, zf62, sr62, lr62, ↓wl_makeFunc, mfS_r1, ↓wl_callv, c0]
  refine wr_callS rfl (at_ok l (by omega) 0 (by omega) _ 0 rfl) ?_ (by rintro v S' ⟨hv, _⟩; cases hv)
  rintro v S' ⟨hv, rfl⟩
  cases hv
  simp (maxSteps := 1000000) (disch := first | assumption | omega | rfl) only [↓vmp, vme, vmb, ty, hP, dec_t, dec_f, wrap64, List.length_map, Int.toNat_natCast, Nat.reduceAdd, List.cons_append, List.nil_append, Option.map_some, Option.map_none, strOf_mk, sb_eql, sb_neq, vmg, ↓vgd, ↓vst, ↓vix]
  refine wk_draww (is := [0, 3, 5, 7, 9, 1, 2, 4, 6, 8, 10, 11, 12, 13]) (h := 14) (by kernel_rfl) (by kernel_rfl) ?_
  simp (maxSteps := 1000000) (disch := first | assumption | omega | rfl) only [List.replicate_zero, eq_self, vmd, dw1, dw2, dw3, dw4, dw5, dw6, dw7, dw8, dw9, dw10, dw11, dw12, vmk, vmo, vmg, vme, vmb, ty, hP, dec_t, dec_f, wrap64, List.length_map, Int.toNat_natCast, Nat.reduceAdd, ↓vgd, ↓vst, ↓vix, List.append_nil, lr62, op_callv, c0]
  refine dw_callS rfl (at_ok l (by omega) 0 (by omega) _ 0 rfl) ?_ (by rintro v S' ⟨hv, _⟩; cases hv)
  rintro v S' ⟨hv, rfl⟩
  cases hv
  refine ⟨?_, ?_⟩
  · exact wall_read rfl (by kernel_rfl) rfl (by kernel_rfl) rfl (wall_read rfl (by kernel_rfl) rfl (by kernel_rfl) rfl (wall_bit (by kernel_rfl) wall_nil))
  · simp (maxSteps := 1000000) (disch := first | assumption | omega | rfl) only [List.replicate_zero, eq_self, vmd, dw1, dw2, dw3, dw4, dw5, dw6, dw7, dw8, dw9, dw10, dw11, dw12, vmk, vmo, vmg, vme, vmb, ty, hP, dec_t, dec_f, wrap64, List.length_map, Int.toNat_natCast, Nat.reduceAdd, ↓vgd, ↓vst, ↓vix, List.append_nil, lr62, op_callv, c0, bo43']
    refine dw_call_v (ds := [.str (atS l 0)]) rfl rfl rfl (do_ok (atS l 0)) ?_
    have c1 := cv39 (x := .d (.int .i64 1)) (a := 0) rfl
    simp (maxSteps := 1000000) (disch := first | assumption | omega | rfl) only [List.replicate_zero, eq_self, vmd, dw1, dw2, dw3, dw4, dw5, dw6, dw7, dw8, dw9, dw10, dw11, dw12, vmk, vmo, vmg, vme, vmb, ty, hP, dec_t, dec_f, wrap64, List.length_map, Int.toNat_natCast, Nat.reduceAdd, ↓vgd, ↓vst, ↓vix, List.append_nil, lr62, op_callv, c1]
    refine dw_callS rfl (at_ok l (by omega) 1 (by omega) _ 0 rfl) ?_ (by rintro v S' ⟨hv, _⟩; cases hv)
    rintro v S' ⟨hv, rfl⟩
    cases hv
    refine ⟨wall_bit (by kernel_rfl) (wall_read rfl (by kernel_rfl) rfl (by kernel_rfl) rfl (wall_bit (by kernel_rfl) (wall_bit (by kernel_rfl) wall_nil))), ?_⟩
    have c2 := cv39 (x := .d (.int .i64 2)) (a := 0) rfl
    have n2 := cv40 (x := .d (.int .i64 2)) (a := 2) rfl
    have n3 := cv40 (x := .d (.int .i64 3)) (a := 2) rfl
    simp (maxSteps := 1000000) (disch := first | assumption | omega | rfl) only [List.replicate_zero, eq_self, vmd, dw1, dw2, dw3, dw4, dw5, dw6, dw7, dw8, dw9, dw10, dw11, dw12, vmk, vmo, vmg, vme, vmb, ty, hP, dec_t, dec_f, wrap64, List.length_map, Int.toNat_natCast, Nat.reduceAdd, ↓vgd, ↓vst, ↓vix, List.append_nil, lr62, op_callv, c2]
    refine dw_callS rfl (at_ok l (by omega) 2 (by omega) _ 0 rfl) ?_ (by rintro v S' ⟨hv, _⟩; cases hv)
    rintro v S' ⟨hv, rfl⟩
    cases hv
    refine ⟨wall_bit (by kernel_rfl) (wall_bit (by kernel_rfl) (wall_bit (by kernel_rfl) (wall_bit (by kernel_rfl) wall_nil))), ?_⟩
    simp (maxSteps := 1000000) (disch := first | assumption | omega | rfl) only [List.replicate_zero, eq_self, vmd, dw1, dw2, dw3, dw4, dw5, dw6, dw7, dw8, dw9, dw10, dw11, dw12, vmk, vmo, vmg, vme, vmb, ty, hP, dec_t, dec_f, wrap64, List.length_map, Int.toNat_natCast, Nat.reduceAdd, ↓vgd, ↓vst, ↓vix, List.append_nil, lr62, op_callv, n2]
    refine dw_callS rfl (num_at_ok l (by omega) (fun s hs => by have := hB s hs; omega) 2 (by omega) _ 0 2 rfl rfl) ?_ (by rintro v S' ⟨hv, _⟩; cases hv)
    rintro v S' ⟨hv, rfl⟩
    cases hv
    refine ⟨wall_bit (by kernel_rfl) (wall_bit (by kernel_rfl) (wall_bit (by kernel_rfl) (wall_bit (by kernel_rfl) wall_nil))), ?_⟩
    simp (maxSteps := 1000000) (disch := first | assumption | omega | rfl) only [List.replicate_zero, eq_self, vmd, dw1, dw2, dw3, dw4, dw5, dw6, dw7, dw8, dw9, dw10, dw11, dw12, vmk, vmo, vmg, vme, vmb, ty, hP, dec_t, dec_f, wrap64, List.length_map, Int.toNat_natCast, Nat.reduceAdd, ↓vgd, ↓vst, ↓vix, List.append_nil, lr62, op_callv, n3]
    refine dw_callS rfl (num_at_ok l (by omega) (fun s hs => by have := hB s hs; omega) 3 (by omega) _ 0 2 rfl rfl) ?_ (by rintro v S' ⟨hv, _⟩; cases hv)
    rintro v S' ⟨hv, rfl⟩
    cases hv
    refine ⟨wall_bit (by kernel_rfl) (wall_bit (by kernel_rfl) (wall_bit (by kernel_rfl) (wall_bit (by kernel_rfl) wall_nil))), ?_⟩
    simp (maxSteps := 1000000) (disch := first | assumption | omega | rfl) only [List.replicate_zero, eq_self, vmd, dw1, dw2, dw3, dw4, dw5, dw6, dw7, dw8, dw9, dw10, dw11, dw12, vmk, vmo, vmg, vme, vmb, ty, hP, dec_t, dec_f, wrap64, List.length_map, Int.toNat_natCast, Nat.reduceAdd, ↓vgd, ↓vst, ↓vix, List.append_nil, bd25g, ad_alloc z25 zf25, wa_some]
    refine ⟨rfl, ?_⟩
    refine ⟨wall_bit (by kernel_rfl) (wall_bit (by kernel_rfl) (wall_bit (by kernel_rfl) (wall_bit (by kernel_rfl) wall_nil))), ?_⟩
    refine ⟨by kernel_rfl, ?_⟩
    have c3 := cv39 (x := .d (.int .i64 3)) (a := 0) rfl
    have hb3 : (atS l 3).length ≤ 90000 := by
      unfold atS
      rw [List.getD_eq_getElem?_getD]
      cases hg : l[3]? with
      | none => simp
      | some s => have := hB s (List.mem_of_getElem? hg); simpa using this
    by_cases h9 : doN (atS l 0) = 9
    · simp (maxSteps := 1000000) (disch := first | assumption | omega | rfl) only [↓vmp, vme, vmb, ty, hP, dec_t, dec_f, wrap64, List.length_map, Int.toNat_natCast, Nat.reduceAdd, List.cons_append, List.nil_append, Option.map_some, Option.map_none, strOf_mk, sb_eql, sb_neq, vmg, ↓vgd, ↓vst, ↓vix, List.replicate, List.set_cons_succ, List.set_cons_zero, lr62, ↓wl_callv, n2, dec_True]
      refine wr_callS rfl (num_at_ok l (by omega) (fun s hs => by have := hB s hs; omega) 2 (by omega) _ 0 2 rfl rfl) ?_ (by rintro v S' ⟨hv, _⟩; cases hv)
      rintro v S' ⟨hv, rfl⟩
      cases hv
      simp (maxSteps := 1000000) (disch := first | assumption | omega | rfl) only [↓vmp, vme, vmb, ty, hP, dec_t, dec_f, wrap64, List.length_map, Int.toNat_natCast, Nat.reduceAdd, List.cons_append, List.nil_append, Option.map_some, Option.map_none, strOf_mk, sb_eql, sb_neq, vmg, ↓vgd, ↓vst, ↓vix, lr62, ↓wl_callv, c3, dec_True]
      refine wr_callS rfl (at_ok l (by omega) 3 (by omega) _ 0 rfl) ?_ (by rintro v S' ⟨hv, _⟩; cases hv)
      rintro v S' ⟨hv, rfl⟩
      cases hv
      simp (maxSteps := 1000000) (disch := first | assumption | omega | rfl) only [↓vmp, vme, vmb, ty, hP, dec_t, dec_f, wrap64, List.length_map, Int.toNat_natCast, Nat.reduceAdd, List.cons_append, List.nil_append, Option.map_some, Option.map_none, strOf_mk, sb_eql, sb_neq, vmg, ↓vgd, ↓vst, ↓vix, call_unhex hb3, bo44, st23_5, bd28c]
      unfold guessO
      rw [if_pos h9]
      exact retQ_cell (u := .ref 1 0 0) (v := .agg [.d (.int .i64 0), .d (.int .i64 (doN (atS l 0))), .d (.str (atS l 1)), .d (.str (atS l 2)), .d (.int .i64 (numS (atS l 2))), .d (.int .i64 (numS (atS l 2))), .d (encB (unhexS (atS l 3)).1), .d (.int .u64 0), .d (.int .i64 0)]) rfl (by kernel_rfl) rfl (by kernel_rfl)
    · simp (maxSteps := 1000000) (disch := first | assumption | omega | rfl) only [↓vmp, vme, vmb, ty, hP, dec_t, dec_f, wrap64, List.length_map, Int.toNat_natCast, Nat.reduceAdd, List.cons_append, List.nil_append, Option.map_some, Option.map_none, strOf_mk, sb_eql, sb_neq, vmg, ↓vgd, ↓vst, ↓vix, List.replicate, List.set_cons_succ, List.set_cons_zero, lr62, ↓wl_callv, c3, dec_True]
      refine wr_callS rfl (at_ok l (by omega) 3 (by omega) _ 0 rfl) ?_ (by rintro v S' ⟨hv, _⟩; cases hv)
      rintro v S' ⟨hv, rfl⟩
      cases hv
      simp (maxSteps := 1000000) (disch := first | assumption | omega | rfl) only [↓vmp, vme, vmb, ty, hP, dec_t, dec_f, wrap64, List.length_map, Int.toNat_natCast, Nat.reduceAdd, List.cons_append, List.nil_append, Option.map_some, Option.map_none, strOf_mk, sb_eql, sb_neq, vmg, ↓vgd, ↓vst, ↓vix, call_unhex hb3, bo44, st23_5, bd28c]
      unfold guessO
      rw [if_neg h9]
      exact retQ_cell (u := .ref 1 0 0) (v := .agg [.d (.int .i64 0), .d (.int .i64 (doN (atS l 0))), .d (.str (atS l 1)), .d (.str (atS l 2)), .d (.int .i64 (numS (atS l 2))), .d (.int .i64 (numS (atS l 3))), .d (encB (unhexS (atS l 3)).1), .d (.int .u64 0), .d (.int .i64 0)]) rfl (by kernel_rfl) rfl (by kernel_rfl)
end Go.Proofs.YteapjcgeckpknaaDoor
end
/-! script.guess, all ways together. -/
section
set_option linter.unusedVariables false
set_option linter.unusedSimpArgs false
set_option maxRecDepth 100000
namespace Go.Proofs.YteapjcgeckpknaaDoor
open Go.Vm
def guessS (l : List (List UInt8)) : Step := if atS l 0 = [112, 105, 99, 107] then ⟨1, noOpn, (unweightS (atS l 1)).1, 0⟩ else if atS l 0 = [102, 117, 115, 101] then ⟨2, noOpn, 0, numS (atS l 1)⟩ else if atS l 0 = [111, 112, 101, 110] then ⟨3, noOpn, 0, 0⟩ else ⟨0, guessO l, 0, 0⟩
theorem at_len {l : List (List UInt8)} {B : Nat} (hB : ∀ s ∈ l, s.length ≤ B) (i : Nat) : (atS l i).length ≤ B := by
  unfold atS
  rw [List.getD_eq_getElem?_getD]
  cases hg : l[i]? with
  | none => simp
  | some s => have := hB s (List.mem_of_getElem? hg); simpa using this
theorem guess_ok (l : List (List UInt8)) (hl : l.length ≤ 90000) (hB : ∀ s ∈ l, s.length ≤ 90000) : Ev cfg 20 [.sl (l.map .str)] (.ret (.d (encStep (guessS l)))) := by
  unfold guessS
  by_cases h1 : atS l 0 = [112, 105, 99, 107]
  · rw [if_pos h1]; exact guess_pick l hl hB h1 (at_len hB 1)
  rw [if_neg h1]
  by_cases h2 : atS l 0 = [102, 117, 115, 101]
  · rw [if_pos h2]; exact guess_fuse l hl hB h2
  rw [if_neg h2]
  by_cases h3 : atS l 0 = [111, 112, 101, 110]
  · rw [if_pos h3]; exact guess_open l hl h3
  · rw [if_neg h3]; exact guess_call l hl hB h1 h2 h3
end Go.Proofs.YteapjcgeckpknaaDoor
end
/-! Plain: texts cut at blanks, numbers, bytes and weights as digits, and back. -/
section
set_option linter.unusedVariables false
set_option linter.unusedSimpArgs false
set_option maxRecDepth 100000
set_option maxHeartbeats 4000000
namespace Go.Proofs.YteapjcgeckpknaaDoor
open Go.Vm
/-! Splitting. -/
theorem index_word {w s : List UInt8} (h : (32 : UInt8) ∉ w) : Lib.index (w ++ 32 :: s) [32] = (w.length : Int) := by
  induction w with
  | nil => unfold Lib.index; simp [List.isPrefixOf]
  | cons b r ih =>
    have hb : b ≠ 32 := fun e => h (by rw [e]; simp)
    have ih := ih (fun e => h (List.mem_cons_of_mem _ e))
    have hp : ([32] : List UInt8).isPrefixOf (b :: (r ++ 32 :: s)) = false := by simp [List.isPrefixOf, Ne.symm hb]
    rw [List.cons_append, Lib.index, hp, ih, if_neg (by simp), if_neg (by simp <;> omega), List.length_cons]
    omega
theorem index_last {w : List UInt8} (h : (32 : UInt8) ∉ w) : Lib.index w [32] = -1 := by
  induction w with
  | nil => rfl
  | cons b r ih =>
    have hb : b ≠ 32 := fun e => h (by rw [e]; simp)
    have ih := ih (fun e => h (List.mem_cons_of_mem _ e))
    have hp : ([32] : List UInt8).isPrefixOf (b :: r) = false := by simp [List.isPrefixOf, Ne.symm hb]
    rw [Lib.index, hp, ih, if_neg (by simp)]
    try rfl
theorem splitL_eq (s : List UInt8) : splitL s [32] = Lib.splitK [32] 0 (Lib.count s [32]) s := by
  unfold splitL
  rw [Lib.splitB_data]
theorem split_word {w s : List UInt8} (h : (32 : UInt8) ∉ w) : splitL (w ++ 32 :: s) [32] = w :: splitL s [32] := by
  have hi := index_word (s := s) h
  have hd : List.drop (w.length + 1) (w ++ 32 :: s) = s := by rw [List.drop_append]; simp
  have hc : Lib.count (w ++ 32 :: s) [32] = Lib.count s [32] + 1 := by
    rw [Lib.count_hit (by simp) hi, List.length_singleton, hd]; omega
  rw [splitL_eq, splitL_eq, hc, Lib.splitK, hi, if_neg (by simp <;> omega), Int.toNat_natCast, List.length_singleton, hd, Nat.add_zero, List.take_left]
theorem split_last {w : List UInt8} (h : (32 : UInt8) ∉ w) : splitL w [32] = [w] := by
  rw [splitL_eq, Lib.count_miss (index_last h)]
  rfl
theorem split_join : ∀ (ws : List (List UInt8)), ws ≠ [] → (∀ w ∈ ws, (32 : UInt8) ∉ w) → splitL (Lib.join ws [32]) [32] = ws
  | [], h, _ => absurd rfl h
  | [w], _, hw => by
    have e : Lib.join [w] [32] = w := by rw [Lib.join_cons]; simp [Lib.joinTail]
    rw [e]
    exact split_last (hw w (by simp))
  | w :: x :: r, _, hw => by
    have ih := split_join (x :: r) (by simp) (fun y hy => hw y (List.mem_cons_of_mem _ hy))
    have e : Lib.join (w :: x :: r) [32] = w ++ 32 :: Lib.join (x :: r) [32] := by rw [Lib.join_cons, Lib.join_cons]; simp [Lib.joinTail]
    rw [e, split_word (hw w (by simp)), ih]
theorem splitK_le {sep : List UInt8} : ∀ (k : Nat) (s x : List UInt8), x ∈ Lib.splitK sep 0 k s → x.length ≤ s.length
  | 0, s, x, h => by simp [Lib.splitK] at h; rw [h]; omega
  | k + 1, s, x, h => by
    unfold Lib.splitK at h
    split at h
    · simp at h; rw [h]; omega
    · rcases List.mem_cons.1 h with rfl | h
      · rw [List.length_take]; omega
      · have := splitK_le k _ x h
        rw [List.length_drop] at this
        omega
theorem splitK_many {sep : List UInt8} : ∀ (k : Nat) (s : List UInt8), (Lib.splitK sep 0 k s).length ≤ k + 1
  | 0, s => by simp [Lib.splitK]
  | k + 1, s => by
    unfold Lib.splitK
    split
    · simp
    · have := splitK_many (sep := sep) k (s.drop ((Lib.index s sep).toNat + sep.length))
      simp; omega
theorem splitL_len (s : List UInt8) : (splitL s [32]).length ≤ s.length + 1 := by
  rw [splitL_eq]
  refine Nat.le_trans (splitK_many _ _) ?_
  rw [Lib.count_one]
  have := List.count_le_length (a := (32 : UInt8)) (l := s)
  omega
theorem splitL_B (s x : List UInt8) (h : x ∈ splitL s [32]) : x.length ≤ s.length := by
  rw [splitL_eq] at h
  exact splitK_le _ _ _ h
/-! Numbers. -/
def thenP (b : List UInt8) : Lib.NumEnd Nat → Lib.NumEnd Nat
  | .ok v => Lib.parseUint10 v b
  | e => e
theorem parse_app : ∀ (a b : List UInt8) (acc : Nat), Lib.parseUint10 acc (a ++ b) = thenP b (Lib.parseUint10 acc a)
  | [], b, acc => rfl
  | c :: r, b, acc => by
    simp only [List.cons_append, Lib.parseUint10]
    split
    · split
      · rfl
      · split
        · rfl
        · exact parse_app r b _
    · rfl
theorem parse_dec : ∀ (k u : Nat), u ≤ k → u < 18446744073709551616 → Lib.parseUint10 0 (Lib.decDigits u) = .ok u
  | k, u, hk, hu => by
    by_cases h : u < 10
    · rw [Lib.decDigits_one h]
      have e : (UInt8.ofNat (48 + u)).toNat = 48 + u := by rw [UInt8.toNat_ofNat']; omega
      simp only [Lib.parseUint10, e]
      rw [if_pos (by omega), if_neg (by omega), if_neg (by omega)]
      congr 1
      omega
    · have e : (UInt8.ofNat (48 + u % 10)).toNat = 48 + u % 10 := by rw [UInt8.toNat_ofNat']; omega
      rw [Lib.decDigits, dif_neg h, parse_app]
      have ih : Lib.parseUint10 0 (Lib.decDigits (u / 10)) = .ok (u / 10) := match k, hk with
        | 0, hk => by omega
        | k + 1, hk => parse_dec k (u / 10) (by omega) (by omega)
      rw [ih]
      simp only [thenP, Lib.parseUint10, e]
      rw [if_pos (by omega), if_neg (by omega), if_neg (by omega)]
      congr 1
      omega
theorem dec_digit : ∀ (k u : Nat), u ≤ k → ∀ c ∈ Lib.decDigits u, 48 ≤ c.toNat ∧ c.toNat ≤ 57
  | k, u, hk => fun c hc => by
    by_cases h : u < 10
    · rw [Lib.decDigits_one h] at hc
      cases List.mem_singleton.1 hc
      rw [UInt8.toNat_ofNat']
      omega
    · rw [Lib.decDigits, dif_neg h] at hc
      rcases List.mem_append.1 hc with hc | hc
      · exact match k, hk with
        | 0, hk => by omega
        | k + 1, hk => dec_digit k (u / 10) (by omega) c hc
      · cases List.mem_singleton.1 hc
        rw [UInt8.toNat_ofNat']
        omega
theorem dec_ne (u : Nat) : Lib.decDigits u ≠ [] := by
  intro h
  have h1 := Lib.decDigits_length u
  have h2 := Lib.nDigits_pos u
  rw [h] at h1
  simp at h1
  omega
theorem mag_dec (u : Nat) (hu : u < 18446744073709551616) : Lib.parseMag (Lib.decDigits u) = .ok u := by
  unfold Lib.parseMag
  rw [if_neg (dec_ne u), parse_dec u u (Nat.le_refl _) hu]
theorem atoi_itoa (n : Int) (h : InB n) : Lib.atoiAll (Lib.itoa n) = .ok n := by
  obtain ⟨h0, h1⟩ := h
  unfold Lib.itoa
  by_cases hn : n < 0
  · rw [if_pos hn, Lib.atoiAll_minus, mag_dec _ (by omega)]
    simp only [Lib.signed]
    rw [if_neg (by omega)]
    congr 1
    omega
  · rw [if_neg hn]
    have hm := mag_dec n.toNat (by omega)
    cases hd : Lib.decDigits n.toNat with
    | nil => exact absurd hd (dec_ne _)
    | cons c r =>
      have hc := dec_digit _ n.toNat (Nat.le_refl _) c (by rw [hd]; simp)
      rw [hd] at hm
      rw [Lib.atoiAll_plain c r (by omega) (by omega), hm]
      simp only [Lib.signless]
      rw [if_neg (by omega)]
      congr 1
      omega
theorem num_itoa (n : Int) (h : InB n) : numS (Lib.itoa n) = n := by
  unfold numS
  rw [atoi_itoa n h]
theorem itoa_word (n : Int) : (32 : UInt8) ∉ Lib.itoa n := by
  unfold Lib.itoa
  intro h
  split at h
  · rcases List.mem_cons.1 h with h | h
    · exact absurd h (by decide)
    · have := dec_digit _ _ (Nat.le_refl _) _ h
      exact absurd this (by decide)
  · have := dec_digit _ _ (Nat.le_refl _) _ h
    exact absurd this (by decide)
theorem numS_in (s : List UInt8) : InB (numS s) := by
  unfold numS
  rcases h : Lib.atoiAll s with v | _ | _
  · exact Lib.atoiAll_bounds h
  · exact show InB 0 from ⟨by decide, by decide⟩
  · exact Lib.atoiSat_bounds s
/-! Bytes. -/
theorem hexB_all : ∀ d : Fin 16, dg (hexB d.val) = (d.val : Int) ∧ hexB d.val ≠ 32 := by decide +kernel
theorem dg_hexB {d : Nat} (h : d < 16) : dg (hexB d) = (d : Int) := (hexB_all ⟨d, h⟩).1
theorem hexL_cons (x : UInt8) (r : List UInt8) : hexL (x :: r) = hexB (x.toNat / 16) :: hexB (x.toNat % 16) :: hexL r := rfl
theorem unhexP_hex : ∀ b : List UInt8, unhexP (hexL b) = some b
  | [] => rfl
  | x :: r => by
    have hx := x.toNat_lt
    have hx : x.toNat < 256 := hx
    rw [hexL_cons, unhexP, dg_hexB (by omega), dg_hexB (by omega), if_neg (by omega), unhexP_hex r, Option.map_some]
    congr 2
    have e : (((x.toNat / 16 : Nat) : Int) * 16 + ((x.toNat % 16 : Nat) : Int)).toNat = x.toNat := by omega
    rw [e, UInt8.ofNat_toNat]
theorem unhex_hex (b : List UInt8) : unhexS (hexS b) = (b, true) := by
  unfold hexS
  by_cases h : b.length = 0
  · rw [if_pos h, List.length_eq_zero_iff.1 h]
    rfl
  · have hl := hexL_len b
    rw [if_neg h]
    unfold unhexS
    rw [if_neg (fun e => by rw [e] at hl; simp at hl; omega), unhexP_hex]
    simp only [hl]
    rw [decide_eq_true (by omega), decide_eq_true (by omega)]
    rfl
theorem hex_word (b : List UInt8) : (32 : UInt8) ∉ hexS b := by
  unfold hexS
  split
  · decide
  · intro h
    unfold hexL at h
    obtain ⟨x, _, hx⟩ := List.mem_flatMap.1 h
    have h256 : x.toNat < 256 := x.toNat_lt
    simp at hx
    rcases hx with hx | hx
    · exact (hexB_all ⟨x.toNat / 16, by omega⟩).2 hx.symm
    · exact (hexB_all ⟨x.toNat % 16, by omega⟩).2 hx.symm
theorem unhexP_len : ∀ (n : Nat) (s l : List UInt8), s.length ≤ n → unhexP s = some l → l.length ≤ s.length
  | _, [], l, _, h => by cases h; simp
  | _, [x], l, _, h => by cases h; simp
  | 0, x :: y :: r, l, hn, _ => by simp at hn
  | n + 1, x :: y :: r, l, hn, h => by
    unfold unhexP at h
    split at h
    · cases h
    · obtain ⟨l', h1, h2⟩ := Option.map_eq_some_iff.1 h
      have := unhexP_len n r l' (by simp at hn; omega) h1
      rw [← h2]
      simp; omega
theorem unhexS_len (s : List UInt8) : (unhexS s).1.length ≤ s.length := by
  unfold unhexS
  split
  · simp
  · split
    · simp
    · rename_i l h
      exact unhexP_len _ s l (Nat.le_refl _) h
theorem orB_add {b : Int} {x : UInt8} (h0 : 0 ≤ b) (h1 : b * 256 + (x.toNat : Int) < 18446744073709551616) : orB b x = b * 256 + (x.toNat : Int) := by
  have hx : x.toNat < 256 := x.toNat_lt
  obtain ⟨n, rfl⟩ : ∃ n : Nat, b = n := ⟨b.toNat, by omega⟩
  have w1 : IntKind.u64.wrap ((n : Int) * 256) = ((n * 256 : Nat) : Int) := by
    have : IntKind.u64.wrap ((n : Int) * 256) = ((n : Int) * 256) % 18446744073709551616 := rfl
    rw [this]
    omega
  unfold orB
  rw [w1]
  have e1 : BitVec.ofInt IntKind.u64.bits ((n * 256 : Nat) : Int) = BitVec.ofNat 64 (n * 256) := BitVec.ofInt_natCast ..
  have e2 : BitVec.ofInt IntKind.u64.bits (x.toNat : Int) = BitVec.ofNat 64 x.toNat := BitVec.ofInt_natCast ..
  rw [e1, e2]
  show IntKind.u64.wrap (((BitVec.ofNat 64 (n * 256) ||| BitVec.ofNat 64 x.toNat).toNat : Nat) : Int) = _
  have e3 : (BitVec.ofNat 64 (n * 256) ||| BitVec.ofNat 64 x.toNat).toNat = n * 256 + x.toNat := by
    rw [BitVec.toNat_or, BitVec.toNat_ofNat, BitVec.toNat_ofNat, Nat.mod_eq_of_lt (by omega), Nat.mod_eq_of_lt (by omega)]
    have := Nat.shiftLeft_add_eq_or_of_lt (i := 8) (b := x.toNat) (by omega) n
    rw [Nat.shiftLeft_eq] at this
    exact this.symm
  rw [e3]
  have : IntKind.u64.wrap ((n * 256 + x.toNat : Nat) : Int) = ((n * 256 + x.toNat : Nat) : Int) % 18446744073709551616 := rfl
  rw [this]
  omega
theorem fold_be (w : Nat) (hw : w < 18446744073709551616) : foldB 0 (beL w) = (w : Int) := by
  have step : ∀ i, i < 8 → orB ((w / 256 ^ (8 - i) : Nat) : Int) (beB w i) = ((w / 256 ^ (8 - (i + 1)) : Nat) : Int) := by
    intro i hi
    have e := beB_nat w i
    have e2 : 8 - (i + 1) = 7 - i := by omega
    have e3 : w / 256 ^ (8 - i) = w / 256 ^ (7 - i) / 256 := by
      rw [Nat.div_div_eq_div_mul, ← Nat.pow_succ]
      congr 2
      omega
    have hle : w / 256 ^ (7 - i) ≤ w := Nat.div_le_self _ _
    have e4 : ((w / 256 ^ (8 - i) : Nat) : Int) * 256 + ((beB w i).toNat : Int) = ((w / 256 ^ (7 - i) : Nat) : Int) := by
      rw [e, e3]
      omega
    have hlt : ((w / 256 ^ (7 - i) : Nat) : Int) < 18446744073709551616 := by
      have := Int.ofNat_le.2 hle
      exact Int.lt_of_le_of_lt (Int.ofNat_le.2 hle) (by omega)
    rw [orB_add (Int.natCast_nonneg _) (by rw [e4]; exact hlt), e4, e2]
  have h0 : (0 : Int) = ((w / 256 ^ (8 - 0) : Nat) : Int) := by
    rw [Nat.div_eq_of_lt (by omega)]
    rfl
  have hb : beL w = [beB w 0, beB w 1, beB w 2, beB w 3, beB w 4, beB w 5, beB w 6, beB w 7] := rfl
  unfold foldB
  rw [hb, h0]
  simp only [List.foldl_cons, List.foldl_nil]
  rw [step 0 (by omega), step 1 (by omega), step 2 (by omega), step 3 (by omega), step 4 (by omega), step 5 (by omega), step 6 (by omega), step 7 (by omega)]
  simp
theorem unweight_wgt (w : Nat) (hw : w < 18446744073709551616) : unweightS (wgtS w) = ((w : Int), true) := by
  unfold unweightS wgtS
  rw [unhex_hex]
  simp only
  rw [if_pos ⟨trivial, beL_len w⟩, fold_be w hw]
end Go.Proofs.YteapjcgeckpknaaDoor
end
/-! Plain: what is read of the line of a step is what counts of the step. -/
section
set_option linter.unusedVariables false
set_option linter.unusedSimpArgs false
set_option maxRecDepth 100000
set_option maxHeartbeats 4000000
namespace Go.Proofs.YteapjcgeckpknaaDoor
open Go.Vm
/-! What is read of a line is what counts of the step. -/
theorem names_all : ∀ k : Fin 14, (32 : UInt8) ∉ onL.getD k.val [] ∧ (1 ≤ k.val → doN (onL.getD k.val []) = (k.val : Int)) ∧ onL.getD k.val [] ≠ [112, 105, 99, 107] ∧ onL.getD k.val [] ≠ [102, 117, 115, 101] ∧ onL.getD k.val [] ≠ [111, 112, 101, 110] := by decide +kernel
theorem nameO_at {n : Int} (h0 : 0 ≤ n) (h1 : n ≤ 13) : ∃ k : Fin 14, nameO n = onL.getD k.val [] ∧ n = (k.val : Int) :=
  ⟨⟨n.toNat, by omega⟩, by unfold nameO; rw [if_pos ⟨h0, h1⟩], by simp only; omega⟩
theorem path_word {s : List UInt8} (h : pathB s = true) : (32 : UInt8) ∉ s := by
  intro hm
  unfold pathB at h
  have : s.any pbad = true := List.any_eq_true.2 ⟨32, hm, by decide⟩
  rw [this] at h
  cases h
theorem rest_word (o : Opn) : ∀ w ∈ restO o, (32 : UInt8) ∉ w := by
  intro w hw
  unfold restO at hw
  split at hw
  · simp at hw; rcases hw with rfl | rfl
    · exact itoa_word _
    · exact hex_word _
  split at hw
  · simp at hw; rcases hw with rfl | rfl <;> exact itoa_word _
  split at hw
  · simp at hw; subst hw; exact itoa_word _
  · cases hw
theorem words_word {o : Opn} (hm : May o) (hp : (pathsO o).all pathB = true) : ∀ w ∈ wordsO o, (32 : UInt8) ∉ w := by
  intro w hw
  unfold wordsO at hw
  rcases List.mem_append.1 hw with hw | hw
  · rcases List.mem_cons.1 hw with rfl | hw
    · obtain ⟨k, hk, _⟩ := nameO_at (n := o.does) (by have := hm.1; omega) hm.2.1
      rw [hk]
      exact (names_all k).1
    · exact path_word (List.all_eq_true.1 hp w hw)
  · exact rest_word o w hw
theorem guess_words {o : Opn} (hB : OpB o) (hm : May o) : guessS (wordsO o) = ⟨0, guessO (wordsO o), 0, 0⟩ ∧ plainO (guessO (wordsO o)) = plainO o := by
  obtain ⟨k, hk, hk'⟩ := nameO_at (n := o.does) (by have := hm.1; omega) hm.2.1
  obtain ⟨_, n2, n3, n4, n5⟩ := names_all k
  have n2 := n2 (by have := hm.1; omega)
  rw [← hk] at n2 n3 n4 n5
  rw [← hk'] at n2
  have h0 : atS (wordsO o) 0 = nameO o.does := rfl
  refine ⟨by unfold guessS; rw [h0, if_neg n3, if_neg n4, if_neg n5], ?_⟩
  obtain ⟨d, a, b, off, n, data⟩ := o
  obtain ⟨ho, hn, _, _⟩ := hB
  simp only at ho hn n2 h0
  have g0 : (guessO (wordsO ⟨d, a, b, off, n, data⟩)).does = d := by unfold guessO; rw [h0]; exact n2
  unfold plainO
  simp only [g0]
  unfold guessO
  simp only [h0, n2]
  unfold wordsO pathsO restO
  simp only
  by_cases h13 : d = 13
  · subst h13; simp
  by_cases h3 : d = 3
  · subst h3; simp [atS]
  by_cases h6 : d = 6
  · subst h6; simp [atS]
  by_cases h7 : d = 7
  · subst h7; simp [atS, num_itoa _ ho, unhex_hex]
  by_cases h8 : d = 8
  · subst h8; simp [atS, num_itoa _ ho, num_itoa _ hn]
  by_cases h9 : d = 9
  · subst h9; simp [atS, num_itoa _ hn]
  · simp [h13, h3, h6, h7, h8, h9, atS]
theorem plainO_idem (o : Opn) : plainO (plainO o) = plainO o := by
  obtain ⟨d, a, b, off, n, data⟩ := o
  unfold plainO
  simp only
  congr 1 <;> split <;> simp_all
theorem plainS_idem (s : Step) : plainS (plainS s) = plainS s := by
  obtain ⟨d, o, w, n⟩ := s
  unfold plainS
  simp only
  congr 1 <;> split <;> simp_all [plainO_idem]
theorem callS_plain {o : Opn} {t : List UInt8} (h : callS o = some t) : callS (plainO o) = some t := by
  unfold callS at h ⊢
  split at h
  case isFalse => cases h
  case isTrue hh =>
    obtain ⟨hm, hp⟩ := hh
    have e1 : pathsO (plainO o) = pathsO o := by
      obtain ⟨d, a, b, off, n, data⟩ := o
      unfold plainO pathsO
      simp only
      by_cases h13 : d = 13
      · simp [h13]
      by_cases h36 : d = 3 ∨ d = 6
      · simp [h13, h36]
      · simp [h13, h36]
    have e2 : restO (plainO o) = restO o := by
      obtain ⟨d, a, b, off, n, data⟩ := o
      unfold plainO restO
      simp only
      by_cases h7 : d = 7
      · simp [h7]
      by_cases h8 : d = 8
      · simp [h7, h8]
      by_cases h9 : d = 9
      · simp [h7, h8, h9]
      · simp [h7, h8, h9]
    have e3 : wordsO (plainO o) = wordsO o := by
      unfold wordsO
      rw [e1, e2]
      rfl
    have e4 : May (plainO o) := ⟨hm.1, hm.2.1, by
      have := hm.2.2
      unfold plainO
      simp only
      split
      · exact this
      · simp⟩
    rw [if_pos ⟨e4, by rw [e1]; exact hp⟩, e3]
    exact h
theorem line_plain {s : Step} {t : List UInt8} (h : lineS s = some t) : lineS (plainS s) = some t := by
  unfold lineS at h ⊢
  unfold plainS
  simp only
  by_cases h0 : s.does = 0
  · rw [if_pos h0] at h ⊢
    rw [if_pos h0]
    exact callS_plain h
  rw [if_neg h0] at h ⊢
  by_cases h1 : s.does = 1
  · rw [if_pos h1] at h ⊢
    rw [if_pos h1]
    exact h
  rw [if_neg h1] at h ⊢
  by_cases h2 : s.does = 2
  · rw [if_pos h2] at h ⊢
    rw [if_pos h2]
    exact h
  rw [if_neg h2] at h ⊢
  exact h
theorem guess_line {s : Step} (hB : StepB s) {t : List UInt8} (h : lineS s = some t) : plainS (guessS (splitL t [32])) = plainS s := by
  have sp : ∀ (a b : List UInt8), (32 : UInt8) ∉ a → (32 : UInt8) ∉ b → splitL (a ++ [32] ++ b) [32] = [a, b] := fun a b ha hb => by
    have : a ++ [32] ++ b = a ++ 32 :: b := by simp
    rw [this, split_word ha, split_last hb]
  unfold lineS at h
  by_cases h0 : s.does = 0
  · rw [if_pos h0] at h
    unfold callS at h
    split at h
    case isFalse => cases h
    case isTrue hh =>
      obtain ⟨hm, hp⟩ := hh
      cases h
      rw [split_join _ (by unfold wordsO; simp) (words_word hm hp)]
      obtain ⟨g1, g2⟩ := guess_words hB.o hm
      rw [g1]
      unfold plainS
      simp [h0, g2]
  rw [if_neg h0] at h
  by_cases h1 : s.does = 1
  · rw [if_pos h1] at h
    cases h
    rw [sp [112, 105, 99, 107] (wgtS s.w.toNat) (by decide) (hex_word _)]
    have hw := hB.w0
    have hw1 := hB.w1
    have e : unweightS (wgtS s.w.toNat) = (s.w, true) := by rw [unweight_wgt _ (by omega)]; congr 1; omega
    have g : guessS [[112, 105, 99, 107], wgtS s.w.toNat] = ⟨1, noOpn, s.w, 0⟩ := by
      have : guessS [[112, 105, 99, 107], wgtS s.w.toNat] = ⟨1, noOpn, (unweightS (wgtS s.w.toNat)).1, 0⟩ := rfl
      rw [this, e]
    rw [g]
    unfold plainS
    simp [h1]
  rw [if_neg h1] at h
  by_cases h2 : s.does = 2
  · rw [if_pos h2] at h
    cases h
    rw [sp [102, 117, 115, 101] (Lib.itoa s.n) (by decide) (itoa_word _)]
    have g : guessS [[102, 117, 115, 101], Lib.itoa s.n] = ⟨2, noOpn, 0, s.n⟩ := by
      have : guessS [[102, 117, 115, 101], Lib.itoa s.n] = ⟨2, noOpn, 0, numS (Lib.itoa s.n)⟩ := rfl
      rw [this, num_itoa _ hB.n]
    rw [g]
    unfold plainS
    simp [h2]
  rw [if_neg h2] at h
  by_cases h3 : s.does = 3
  · rw [if_pos h3] at h
    cases h
    rw [split_last (by decide)]
    have g : guessS [[111, 112, 101, 110]] = ⟨3, noOpn, 0, 0⟩ := rfl
    rw [g]
    unfold plainS
    simp [h3]
  · rw [if_neg h3] at h
    cases h
/-- What is read of a text; none: it is no step's line. -/
def parseS (t : List UInt8) : Option Step := if lineS (plainS (guessS (splitL t [32]))) = some t then some (plainS (guessS (splitL t [32]))) else Option.none
theorem parse_line {s : Step} (hB : StepB s) {t : List UInt8} (h : lineS s = some t) : parseS t = some (plainS s) := by
  unfold parseS
  rw [guess_line hB h, if_pos (line_plain h)]
theorem parse_some {t : List UInt8} {x : Step} (h : parseS t = some x) : lineS x = some t ∧ plainS x = x := by
  unfold parseS at h
  split at h
  · cases h
    exact ⟨by assumption, plainS_idem _⟩
  · cases h
theorem atS_len {l : List (List UInt8)} {B : Nat} (hB : ∀ s ∈ l, s.length ≤ B) (i : Nat) : (atS l i).length ≤ B := at_len hB i
theorem guess_B (t : List UInt8) (ht : t.length ≤ 90000) : StepB (plainS (guessS (splitL t [32]))) ∧ (guessS (splitL t [32])).o.data.length ≤ 90000 := by
  have hB : ∀ s ∈ splitL t [32], s.length ≤ 90000 := fun s hs => Nat.le_trans (splitL_B t s hs) ht
  generalize splitL t [32] = l at hB
  have z : InB 0 := ⟨by decide, by decide⟩
  have hu := unweightS_in (atS l 1)
  have hno : OpB noOpn := ⟨z, z, by simp [noOpn], by simp [noOpn]⟩
  have hd : (unhexS (atS l 3)).1.length ≤ 90000 := Nat.le_trans (unhexS_len _) (atS_len hB 3)
  have ho : OpB (plainO (guessO l)) := by
    have h1 := atS_len hB 1
    have h2 := atS_len hB 2
    refine ⟨?_, ?_, ?_, ?_⟩ <;> unfold plainO guessO <;> simp only
    · split
      · exact numS_in _
      · exact z
    · split
      · split <;> exact numS_in _
      · exact z
    · split
      · simp
      · omega
    · split
      · omega
      · simp
  unfold guessS
  split
  · refine ⟨⟨?_, ?_, ?_, ?_⟩, by simp [noOpn]⟩ <;> first | (simp [plainS, hno, hu.1, hu.2]; done) | exact z
  split
  · refine ⟨⟨?_, ?_, ?_, ?_⟩, by simp [noOpn]⟩ <;> first | (simp [plainS, hno]; done) | exact numS_in _
  split
  · refine ⟨⟨?_, ?_, ?_, ?_⟩, by simp [noOpn]⟩ <;> first | (simp [plainS, hno]; done) | exact z
  · refine ⟨⟨?_, ?_, ?_, ?_⟩, hd⟩ <;> first | (simp [plainS, ho]; done) | exact z
end Go.Proofs.YteapjcgeckpknaaDoor
end
/-! script.Parse. -/
section
set_option linter.unusedVariables false
set_option linter.unusedSimpArgs false
set_option maxRecDepth 100000
set_option maxHeartbeats 4000000
namespace Go.Proofs.YteapjcgeckpknaaDoor
open Go.Vm
theorem split_ev (s : List UInt8) (h : s.length ≤ 90000) : Ev cfg 21 [.str s, .str [32]] (.ret (.d (.sl ((splitL s [32]).map .str)))) := by
  refine ⟨0, ?_⟩
  have hx : cfg.ext 21 = some splitX := rfl
  unfold runD answer
  simp only [hx]
  unfold splitX
  simp only
  rw [if_pos ⟨by omega, by simp⟩]
theorem retQ_ct {P : Program} {T : List V} {S : Store} {a t b : Nat} {u v w : V} {d e : D} (ha : T.getD a (.tup []) = u) (hv : loadV P S t u = some v) (hw : T.getD b (.tup []) = w) (h1 : v.one = true) (h2 : w.one = true) (h3 : Go.Vm.frz S frzFuel v = some d) (h4 : Go.Vm.frz S frzFuel w = some e) : RetQ P #[.cell a t, .tmp b] (.ret (.tup [.d d, .d e])) .ret T S [] :=
  retQ_many (r1 := .cell a t) (r2 := .tmp b) (l := []) (vs := [v, w]) (ds := [d, e]) (by simp only [allO, resultV, ha, hv, hw]) (by simp [h1, h2]) (by simp only [allO, h3, h4])
def parseO (t : List UInt8) : Out := match parseS t with
  | some x => .ret (.tup [.d (encStep x), .d (.int .i64 0)])
  | Option.none => .ret (.tup [.d (encStep ⟨0, noOpn, 0, 0⟩), .d (.int .i64 14)])
theorem bo21 : (bodyOf Tryd.prog 21).isSome = true := by kernel_rfl
theorem bd28z : buildV Tryd.prog 28 [] = some (.agg [.d (.int .i64 0), .d (.int .i64 0), .d (.str []), .d (.str []), .d (.int .i64 0), .d (.int .i64 0), .ts [], .d (.int .u64 0), .d (.int .i64 0)]) := by kernel_rfl
section
variable {ops : Array Oper} {dst : Option Tmp} {k : List Oper} {T : List V} {S : Store} {F : Dfs} {Q : Post}
theorem call_split {s : List UInt8} (h : s.length ≤ 90000) : WpR cfg ops dst k T S F Q (some (.enter 21 [.d (.str s), .d (.str [32])])) = WpL cfg ops k (putT T dst (.d (.sl ((splitL s [32]).map .str)))) S F Q :=
  wr_call_d (ds := [.str s, .str [32]]) rfl (split_ev s h)
theorem call_guess {l : List (List UInt8)} (hl : l.length ≤ 90000) (hB : ∀ s ∈ l, s.length ≤ 90000) : WpR cfg ops dst k T S F Q (some (.enter 20 [.d (.sl (l.map .str))])) = WpL cfg ops k (putT T dst (.d (encStep (guessS l)))) S F Q :=
  wr_call_d (ds := [.sl (l.map .str)]) rfl (guess_ok l hl hB)
theorem call_plainD {s : Step} (h : s.o.data.length ≤ 100000) : WpR cfg ops dst k T S F Q (some (.enter 17 [.d (encStep s)])) = WpL cfg ops k (putT T dst (.d (encStep (plainS s)))) S F Q :=
  wr_call_d (ds := [encStep s]) rfl (plains_ok s h)
theorem call_lineS {s : Step} {l : List UInt8} (h : StepB s) (hc : lineS s = some l) : WpR cfg ops dst k T S F Q (some (.enter 15 [.d (encStep s)])) = WpL cfg ops k (putT T dst (.tup [.d (.str l), .d (.int .i64 0)])) S F Q :=
  wr_call_plain (ds := [encStep s]) rfl rfl rfl (by have := line_step_ok s h; unfold lineO at this; rw [hc] at this; exact this)
theorem call_lineN {s : Step} (h : StepB s) (hc : lineS s = Option.none) : WpR cfg ops dst k T S F Q (some (.enter 15 [.d (encStep s)])) = WpL cfg ops k (putT T dst (.tup [.d (.str []), .d (.int .i64 1)])) S F Q :=
  wr_call_plain (ds := [encStep s]) rfl rfl rfl (by have := line_step_ok s h; unfold lineO at this; rw [hc] at this; exact this)
theorem call_lineSA {s : Step} {l : List UInt8} (h : StepB s) (hc : lineS s = some l) : WpR cfg ops dst k T S F Q (some (.enter 15 [.agg [.d (.int .i64 s.does), .d (.int .i64 s.o.does), .d (.str s.o.a), .d (.str s.o.b), .d (.int .i64 s.o.off), .d (.int .i64 s.o.n), .d (encB s.o.data), .d (.int .u64 s.w), .d (.int .i64 s.n)]])) = WpL cfg ops k (putT T dst (.tup [.d (.str l), .d (.int .i64 0)])) S F Q :=
  wr_call_plain (ds := [encStep s]) rfl rfl rfl (by have := line_step_ok s h; unfold lineO at this; rw [hc] at this; exact this)
theorem call_lineNA {s : Step} (h : StepB s) (hc : lineS s = Option.none) : WpR cfg ops dst k T S F Q (some (.enter 15 [.agg [.d (.int .i64 s.does), .d (.int .i64 s.o.does), .d (.str s.o.a), .d (.str s.o.b), .d (.int .i64 s.o.off), .d (.int .i64 s.o.n), .d (encB s.o.data), .d (.int .u64 s.w), .d (.int .i64 s.n)]])) = WpL cfg ops k (putT T dst (.tup [.d (.str []), .d (.int .i64 1)])) S F Q :=
  wr_call_plain (ds := [encStep s]) rfl rfl rfl (by have := line_step_ok s h; unfold lineO at this; rw [hc] at this; exact this)
end
theorem parse_ok (t : List UInt8) (ht : t.length ≤ 80000) : Ev cfg 8 [.str t] (parseO t) := by
  have hl : (splitL t [32]).length ≤ 90000 := by have := splitL_len t; omega
  have hB : ∀ s ∈ splitL t [32], s.length ≤ 90000 := fun s hs => by have := splitL_B t s hs; omega
  obtain ⟨hx, hd⟩ := guess_B t (by omega)
  refine ev_of rfl rfl body8 ?_
  show Wp cfg (Tryd.f8.body.getD .skip) ((.d (.str t)) :: (.tup []) :: (.tup []) :: (.tup []) :: (.tup []) :: (.tup []) :: (.tup []) :: (.tup []) :: (.tup []) :: (.tup []) :: (.tup []) :: (.tup []) :: (.tup []) :: (.tup []) :: (.tup []) :: (.tup []) :: (.tup []) :: (.tup []) :: (.tup []) :: (.tup []) :: (.tup []) :: (.tup []) :: (.tup []) :: (.tup []) :: (.tup []) :: []) [] [] _
  conv => arg 2; whnf
  unfold parseO parseS
  have cg := fun {ops dst k T S F Q} => call_guess (ops := ops) (dst := dst) (k := k) (T := T) (S := S) (F := F) (Q := Q) hl hB
  have cp := fun {ops dst k T S F Q} => call_plainD (ops := ops) (dst := dst) (k := k) (T := T) (S := S) (F := F) (Q := Q) (s := guessS (splitL t [32])) (by omega)
  have ct := fun {ops dst k T S F Q} => call_split (ops := ops) (dst := dst) (k := k) (T := T) (S := S) (F := F) (Q := Q) (s := t) (by omega)
  generalize splitL t [32] = l at *
  generalize guessS l = g at *
  generalize plainS g = x at *
  cases hc : lineS x with
  | none =>
    rw [if_neg (by simp)]
    simp (maxSteps := 1000000) (disch := first | assumption | omega | rfl) only [↓vmp, vme, vmb, ty, hP, dec_t, dec_f, wrap64, List.length_map, Int.toNat_natCast, Nat.reduceAdd, List.cons_append, List.nil_append, Option.map_some, Option.map_none, strOf_mk, sb_eql, sb_neq, vmg, ↓vgd, ↓vst, ↓vix, ct, cg, cp, call_lineN hx hc, bo20, bo17, bo15, bo21, bd28z, dec_True]
    refine retQ_ct (u := .ref 0 0 0) (v := .agg [.d (.int .i64 0), .d (.int .i64 0), .d (.str []), .d (.str []), .d (.int .i64 0), .d (.int .i64 0), .ts [], .d (.int .u64 0), .d (.int .i64 0)]) (w := .d (.int .i64 14)) ?_ ?_ ?_ ?_ ?_ ?_ ?_ <;> first | rfl | kernel_rfl
  | some s =>
    by_cases hs : s = t
    · subst hs
      rw [if_pos rfl]
      simp (maxSteps := 1000000) (disch := first | assumption | omega | rfl) only [↓vmp, vme, vmb, ty, hP, dec_t, dec_f, wrap64, List.length_map, Int.toNat_natCast, Nat.reduceAdd, List.cons_append, List.nil_append, Option.map_some, Option.map_none, strOf_mk, sb_eql, sb_neq, vmg, ↓vgd, ↓vst, ↓vix, ct, cg, cp, call_lineS hx hc, bo20, bo17, bo15, bo21, bd28z, dec_True, dne]
      refine retQ_ct (u := .ref 0 0 0) (v := .d (encStep x)) (w := .d (.int .i64 0)) ?_ ?_ ?_ ?_ ?_ ?_ ?_ <;> first | rfl | kernel_rfl
    · rw [if_neg (by simpa using hs)]
      simp (maxSteps := 1000000) (disch := first | assumption | omega | rfl) only [↓vmp, vme, vmb, ty, hP, dec_t, dec_f, wrap64, List.length_map, Int.toNat_natCast, Nat.reduceAdd, List.cons_append, List.nil_append, Option.map_some, Option.map_none, strOf_mk, sb_eql, sb_neq, vmg, ↓vgd, ↓vst, ↓vix, ct, cg, cp, call_lineS hx hc, bo20, bo17, bo15, bo21, bd28z, dec_True]
      refine retQ_ct (u := .ref 0 0 0) (v := .agg [.d (.int .i64 0), .d (.int .i64 0), .d (.str []), .d (.str []), .d (.int .i64 0), .d (.int .i64 0), .ts [], .d (.int .u64 0), .d (.int .i64 0)]) (w := .d (.int .i64 14)) ?_ ?_ ?_ ?_ ?_ ?_ ?_ <;> first | rfl | kernel_rfl
end Go.Proofs.YteapjcgeckpknaaDoor
end
/-! The example of the page (escheatlaw46.works) comes to true; what the machine is told of calls is so. -/
section
set_option linter.unusedVariables false
set_option linter.unusedSimpArgs false
set_option maxRecDepth 100000
set_option maxHeartbeats 4000000
namespace Go.Proofs.YteapjcgeckpknaaDoor
open Go.Vm
def exW : List UInt8 := [51, 102, 101, 48, 48, 48, 48, 48, 48, 48, 48, 48, 48, 48, 48, 48]
def exT : List UInt8 := [112, 105, 99, 107] ++ 32 :: exW
def itoaW : List D → Option Out := fun ds => match ds with
  | [.int .i64 3] => some (.ret (.d (.str [51])))
  | _ => Option.none
def splitW : List D → Option Out := fun ds => match ds with
  | [.str s, .str sep] => if s = exT ∧ sep = [32] then some (.ret (.d (.sl [.str [112, 105, 99, 107], .str exW]))) else Option.none
  | _ => Option.none
noncomputable def cfgW : Cfg := { P := Tryd.prog, mixed := by kernel_rfl, shared := fun f => Nat.testBit mask f, ext := fun f => match Nat.beq f 58 with | true => some itoaW | false => match Nat.beq f 57 with | true => some joinX | false => match Nat.beq f 21 with | true => some splitW | false => match Nat.beq f 38 with | true => some indexByteX | false => Option.none, catch_ := fun _ => Option.none }
theorem itoa3 : Lib.itoa 3 = [51] := by unfold Lib.itoa; rw [if_neg (by decide)]; unfold Lib.decDigits; rfl
theorem itoaW_X {ds : List D} {o : Out} (h : itoaW ds = some o) : itoaX ds = some o := by
  unfold itoaW at h
  split at h
  · cases h; unfold itoaX; simp only; rw [if_pos (by decide), itoa3]
  · cases h
theorem splitW_X {ds : List D} {o : Out} (h : splitW ds = some o) : splitX ds = some o := by
  unfold splitW at h
  split at h
  · split at h
    · rename_i hh
      cases h
      obtain ⟨rfl, rfl⟩ := hh
      unfold splitX
      simp only
      rw [if_pos (by decide)]
      have : splitL exT [32] = [[112, 105, 99, 107], exW] := by unfold exT; rw [split_word (by decide), split_last (by decide)]
      rw [this]
      rfl
    · cases h
  · cases h
theorem extW : ExtOk cfgW := by
  intro f g h
  have h : (match Nat.beq f 58 with | true => some itoaW | false => match Nat.beq f 57 with | true => some joinX | false => match Nat.beq f 21 with | true => some splitW | false => match Nat.beq f 38 with | true => some indexByteX | false => Option.none) = some g := h
  split at h
  · rename_i hf
    cases h
    cases Nat.eq_of_beq_eq_true hf
    exact fun ds o ho => itoaX_ok ds o (itoaW_X ho)
  split at h
  · rename_i hf
    cases h
    cases Nat.eq_of_beq_eq_true hf
    exact joinX_ok
  split at h
  · rename_i hf
    cases h
    cases Nat.eq_of_beq_eq_true hf
    exact fun ds o ho => splitX_ok ds o (splitW_X ho)
  split at h
  · rename_i hf
    cases h
    cases Nat.eq_of_beq_eq_true hf
    exact indexByteX_ok
  · cases h
theorem catchW : CatchOk cfgW := fun f post h => by cases h
theorem works_run : runD cfgW 2000 7 [] = some (.ret (.d (.bool true))) := by kernel_rfl
theorem extC : ExtOk cfg := by
  intro f g h
  have h : (match Nat.beq f 41 with | true => some atoiX | false => match Nat.beq f 38 with | true => some indexByteX | false => match Nat.beq f 21 with | true => some splitX | false => match Nat.beq f 57 with | true => some joinX | false => match Nat.beq f 58 with | true => some itoaX | false => match Nat.beq f 7 with | true => some worksX | false => Option.none) = some g := h
  split at h
  · rename_i hf
    cases h
    cases Nat.eq_of_beq_eq_true hf
    exact atoiX_ok
  split at h
  · rename_i hf
    cases h
    cases Nat.eq_of_beq_eq_true hf
    exact indexByteX_ok
  split at h
  · rename_i hf
    cases h
    cases Nat.eq_of_beq_eq_true hf
    exact splitX_ok
  split at h
  · rename_i hf
    cases h
    cases Nat.eq_of_beq_eq_true hf
    exact joinX_ok
  split at h
  · rename_i hf
    cases h
    cases Nat.eq_of_beq_eq_true hf
    exact itoaX_ok
  split at h
  · rename_i hf
    cases h
    cases Nat.eq_of_beq_eq_true hf
    intro ds o ho
    unfold worksX at ho
    split at ho
    · cases ho
      exact runD_ok extW catchW 2000 7 [] _ works_run
    · cases ho
  · cases h
theorem catchC : CatchOk cfg := fun f post h => by cases h
end Go.Proofs.YteapjcgeckpknaaDoor
end
/-! The statement's own code: escheatlaw46.ScriptParses comes to true. -/
section
set_option linter.unusedVariables false
set_option linter.unusedSimpArgs false
set_option maxRecDepth 100000
set_option maxHeartbeats 4000000
namespace Go.Proofs.YteapjcgeckpknaaDoor
open Go.Vm
theorem bd35z : buildV Tryd.prog 35 [] = some (.agg [.d (.int .i64 0), .d (.int .i64 0), .d (.str []), .d (.str []), .d (.int .i64 0), .d (.int .i64 0), .ts [], .d (.int .u64 0), .d (.int .i64 0)]) := by kernel_rfl
theorem works_ev : Ev cfg 7 [] (.ret (.d (.bool true))) := ⟨0, rfl⟩
section
variable {ops : Array Oper} {dst : Option Tmp} {k : List Oper} {T : List V} {S : Store} {F : Dfs} {Q : Post}
theorem call_works : WpR cfg ops dst k T S F Q (some (.enter 7 [])) = WpL cfg ops k (putT T dst (.d (.bool true))) S F Q :=
  wr_call_d (ds := []) rfl works_ev
theorem call_parseS {t : List UInt8} {x : Step} (h : t.length ≤ 80000) (hc : parseS t = some x) : WpR cfg ops dst k T S F Q (some (.enter 8 [.d (.str t)])) = WpL cfg ops k (putT T dst (.tup [.d (encStep x), .d (.int .i64 0)])) S F Q :=
  wr_call_d (ds := [.str t]) rfl (by have := parse_ok t h; unfold parseO at this; rw [hc] at this; exact this)
theorem call_parseN {t : List UInt8} (h : t.length ≤ 80000) (hc : parseS t = Option.none) : WpR cfg ops dst k T S F Q (some (.enter 8 [.d (.str t)])) = WpL cfg ops k (putT T dst (.tup [.d (encStep ⟨0, noOpn, 0, 0⟩), .d (.int .i64 14)])) S F Q :=
  wr_call_d (ds := [.str t]) rfl (by have := parse_ok t h; unfold parseO at this; rw [hc] at this; exact this)
theorem call_ofD {s : Step} : WpR cfg ops dst k T S F Q (some (.enter 10 [.d (encStep s)])) = WpL cfg ops k (putT T dst (.d (encStep s))) S F Q :=
  wr_call_d (ds := [encStep s]) rfl (of_ok s)
theorem call_rlineS {s : Step} {l : List UInt8} (h : StepB s) (hc : lineS s = some l) : WpR cfg ops dst k T S F Q (some (.enter 11 [.d (encStep s)])) = WpL cfg ops k (putT T dst (.tup [.d (.str l), .d (.bool true)])) S F Q :=
  wr_call_plain (ds := [encStep s]) rfl rfl rfl (by have := rline_ok s h; unfold rlineO at this; rw [hc] at this; exact this)
theorem call_rsameZ : WpR cfg ops dst k T S F Q (some (.enter 9 [.d (encStep ⟨0, noOpn, 0, 0⟩), .agg [.d (.int .i64 0), .d (.int .i64 0), .d (.str []), .d (.str []), .d (.int .i64 0), .d (.int .i64 0), .ts [], .d (.int .u64 0), .d (.int .i64 0)]])) = WpL cfg ops k (putT T dst (.d (.bool true))) S F Q :=
  wr_call_v (ds := [encStep ⟨0, noOpn, 0, 0⟩, encStep ⟨0, noOpn, 0, 0⟩]) rfl rfl rfl (by have := rsame_ok ⟨0, noOpn, 0, 0⟩ ⟨0, noOpn, 0, 0⟩ (by simp [noOpn]) (by simp [noOpn]); rw [decide_eq_true rfl] at this; exact this)
end
section
variable {ops : Array Oper} {F : Dfs} {Q : Post} {K : List Nat → List (Nat × Nat) → List V → Store → Prop} {rd : List Nat} {cs : List (Nat × Nat)} {i : Nat} {dst : Option Tmp} {T : List V} {S : Store}
theorem dr_works : WpE cfg ops F Q K rd cs i dst T S (some (.enter 7 [])) = K (i :: rd) (cs ++ [(i, 1)]) (putT T dst (.d (.bool true))) S :=
  we_call_d (ds := []) rfl works_ev
theorem dr_ofD {s : Step} : WpE cfg ops F Q K rd cs i dst T S (some (.enter 10 [.d (encStep s)])) = K (i :: rd) (cs ++ [(i, 1)]) (putT T dst (.d (encStep s))) S :=
  we_call_d (ds := [encStep s]) rfl (of_ok s)
theorem dr_rplain {s : Step} : WpE cfg ops F Q K rd cs i dst T S (some (.enter 12 [.d (encStep s)])) = K (i :: rd) (cs ++ [(i, 1)]) (putT T dst (.d (encStep (plainS s)))) S :=
  we_call_d (ds := [encStep s]) rfl (rplains_ok s)
theorem dr_rsame {x y : Step} (hl : x.o.data.length ≤ 1000000) (hl' : y.o.data.length ≤ 1000000) : WpE cfg ops F Q K rd cs i dst T S (some (.enter 9 [.d (encStep x), .d (encStep y)])) = K (i :: rd) (cs ++ [(i, 1)]) (putT T dst (.d (.bool (decide (x = y))))) S :=
  we_call_d (ds := [encStep x, encStep y]) rfl (rsame_ok x y hl hl')
end
theorem parses_ok (s : List UInt8) : Ev cfg 3 [.str s] (.ret (.d (.bool true))) := by
  refine ev_of rfl rfl body3 ?_
  show Wp cfg (Tryd.f3.body.getD .skip) ((.d (.str s)) :: (.tup []) :: (.tup []) :: (.tup []) :: (.tup []) :: (.tup []) :: (.tup []) :: (.tup []) :: (.tup []) :: (.tup []) :: (.tup []) :: (.tup []) :: (.tup []) :: (.tup []) :: (.tup []) :: (.tup []) :: (.tup []) :: (.tup []) :: (.tup []) :: (.tup []) :: (.tup []) :: (.tup []) :: (.tup []) :: (.tup []) :: (.tup []) :: (.tup []) :: (.tup []) :: (.tup []) :: (.tup []) :: (.tup []) :: (.tup []) :: (.tup []) :: (.tup []) :: (.tup []) :: (.tup []) :: (.tup []) :: (.tup []) :: (.tup []) :: (.tup []) :: (.tup []) :: (.tup []) :: (.tup []) :: (.tup []) :: (.tup []) :: (.tup []) :: (.tup []) :: (.tup []) :: (.tup []) :: (.tup []) :: (.tup []) :: (.tup []) :: (.tup []) :: []) [] [] _
  conv => arg 2; whnf
  by_cases hl : (s.length : Int) > 3000
  · simp (maxSteps := 1000000) (disch := first | assumption | omega | rfl) only [↓vmp, vme, vmb, ty, hP, dec_t, dec_f, wrap64, List.length_map, Int.toNat_natCast, Nat.reduceAdd, List.cons_append, List.nil_append, Option.map_some, Option.map_none, strOf_mk, sb_eql, sb_neq, vmg, ↓vgd, ↓vst, ↓vix, call_works, bo7, dec_True]
    exact retQ_one rfl rfl rfl
  have hl' : s.length ≤ 80000 := by omega
  cases hp : parseS s with
  | none =>
    simp (maxSteps := 1000000) (disch := first | assumption | omega | rfl) only [↓vmp, vme, vmb, ty, hP, dec_t, dec_f, wrap64, List.length_map, Int.toNat_natCast, Nat.reduceAdd, List.cons_append, List.nil_append, Option.map_some, Option.map_none, strOf_mk, sb_eql, sb_neq, vmg, ↓vgd, ↓vst, ↓vix, call_parseN hl' hp, call_ofD, call_rsameZ, call_works, bo7, bo8, bo9, bo10, bd35z, dec_True]
    exact retQ_one rfl rfl rfl
  | some x =>
    obtain ⟨h1, h2⟩ := parse_some hp
    obtain ⟨hB, hd⟩ := guess_B s (by omega)
    have hx : x = plainS (guessS (splitL s [32])) := by
      unfold parseS at hp
      split at hp
      · cases hp; rfl
      · cases hp
    have hB : StepB x := by rw [hx]; exact hB
    have hd : x.o.data.length ≤ 1000000 := by
      rw [hx]
      unfold plainS plainO noOpn
      simp only
      split
      · simp only
        split
        · omega
        · simp
      · simp
    have h2l : (plainS x).o.data.length ≤ 1000000 := by rw [h2]; exact hd
    have hs : decide (x = plainS x) = true := decide_eq_true h2.symm
    simp (maxSteps := 1000000) (disch := first | assumption | omega | rfl) only [↓vmp, vme, vmb, ty, hP, dec_t, dec_f, wrap64, List.length_map, Int.toNat_natCast, Nat.reduceAdd, List.cons_append, List.nil_append, Option.map_some, Option.map_none, strOf_mk, sb_eql, sb_neq, vmg, ↓vgd, ↓vst, ↓vix, call_parseS hl' hp, call_ofD, call_rlineS hB h1, bo8, bo10, bo11, dec_True]
    refine wk_draw (is := [0, 1, 2, 3, 4, 5, 6, 7, 9, 8, 10, 11, 12, 13, 14, 15, 16, 17]) (h := 0) (by kernel_rfl) (by kernel_rfl) ?_
    simp (maxSteps := 1000000) (disch := first | assumption | omega | rfl) only [List.replicate_zero, eq_self, vmd, vmk, vmo, vmg, vme, vmb, ty, hP, dec_t, dec_f, wrap64, List.length_map, Int.toNat_natCast, Nat.reduceAdd, ↓vgd, ↓vst, ↓vix, List.append_nil, dr_ofD, dr_rplain, dr_rsame hd h2l, dr_works, hs, bo7, bo9, bo10, bo12, deq, dec_True, sb_eql]
    refine ⟨by kernel_rfl, ?_⟩
    simp (maxSteps := 1000000) (disch := first | assumption | omega | rfl) only [↓vmp, vme, vmb, ty, hP, dec_t, dec_f, wrap64, List.length_map, Int.toNat_natCast, Nat.reduceAdd, List.cons_append, List.nil_append, Option.map_some, Option.map_none, strOf_mk, sb_eql, sb_neq, vmg, ↓vgd, ↓vst, ↓vix]
    exact retQ_one rfl rfl rfl
end Go.Proofs.YteapjcgeckpknaaDoor
end
/-! More than is gone through here: the document's Much, of calls and of steps. -/
section
set_option linter.unusedVariables false
set_option linter.unusedSimpArgs false
set_option maxRecDepth 100000
set_option maxHeartbeats 4000000
namespace Go.Proofs.YteapjcgeckpknaaDoor
open Go.Vm
theorem ldB {S : Store} {l : List UInt8} : loadV Tryd.prog S 23 (.d (.ptr (encB l))) = some (.d (encB l)) := ld23
theorem lenB {S : Store} {l : List UInt8} : builtinV Tryd.prog S .len [23] [.d (encB l)] = some (.val (.d (.int .i64 l.length)) S 0) := by
  rw [encB, len23, List.length_map]
def badO (o : Opn) : Bool := decide ((o.a.length : Int) > 300 ∨ (o.b.length : Int) > 300 ∨ (o.data.length : Int) > 1100)
theorem much_l (l : List Opn) (hl : l.length < 1000000) (R : Post) (S : Store) (g1 g4 : V) : ∀ (k i : Nat) (g6 g7 g8 g9 g10 g11 g12 g13 g14 g15 g16 g17 g18 g19 g20 g21 g22 g23 g24 g25 g26 g27 g28 g29 g30 g31 g32 g33 g34 g35 g36 g37 g38 g39 g40 : V), l.length - i = k → i ≤ l.length →
   (∀ i' g6 g7 g8 g9 g10 g11 g12 g13 g14 g15 g16 g17 g18 g19 g20 g21 g22 g23 g24 g25 g26 g27 g28 g29 g30 g31 g32 g33 g34 g35 g36 g37 g38 g39 g40, (l.drop i).any badO = false → R (.exit 0) ((.d (.sl (l.map encOpn))) :: g1 :: (.tup []) :: (.tup []) :: g4 :: i' :: g6 :: g7 :: g8 :: g9 :: g10 :: g11 :: g12 :: g13 :: g14 :: g15 :: g16 :: g17 :: g18 :: g19 :: g20 :: g21 :: g22 :: g23 :: g24 :: g25 :: g26 :: g27 :: g28 :: g29 :: g30 :: g31 :: g32 :: g33 :: g34 :: g35 :: g36 :: g37 :: g38 :: g39 :: g40 :: []) S []) →
   (∀ i' g6 g7 g8 g9 g10 g11 g12 g13 g14 g15 g16 g17 g18 g19 g20 g21 g22 g23 g24 g25 g26 g27 g28 g29 g30 g31 g32 g33 g34 g35 g36 g37 g38 g39 g40, (l.drop i).any badO = true → R .ret ((.d (.sl (l.map encOpn))) :: g1 :: (.tup []) :: (.tup []) :: (.d (.bool true)) :: i' :: g6 :: g7 :: g8 :: g9 :: g10 :: g11 :: g12 :: g13 :: g14 :: g15 :: g16 :: g17 :: g18 :: g19 :: g20 :: g21 :: g22 :: g23 :: g24 :: g25 :: g26 :: g27 :: g28 :: g29 :: g30 :: g31 :: g32 :: g33 :: g34 :: g35 :: g36 :: g37 :: g38 :: g39 :: g40 :: []) S []) →
   Wp cfg (.loop (lpOf (Tryd.f51.body.getD .skip) 0)) ((.d (.sl (l.map encOpn))) :: g1 :: (.tup []) :: (.tup []) :: g4 :: (.d (.int .i64 i)) :: g6 :: g7 :: g8 :: g9 :: g10 :: g11 :: g12 :: g13 :: g14 :: g15 :: g16 :: g17 :: g18 :: g19 :: g20 :: g21 :: g22 :: g23 :: g24 :: g25 :: g26 :: g27 :: g28 :: g29 :: g30 :: g31 :: g32 :: g33 :: g34 :: g35 :: g36 :: g37 :: g38 :: g39 :: g40 :: []) S [] R := by
  intro k
  induction k with
  | zero =>
    intro i g6 g7 g8 g9 g10 g11 g12 g13 g14 g15 g16 g17 g18 g19 g20 g21 g22 g23 g24 g25 g26 g27 g28 g29 g30 g31 g32 g33 g34 g35 g36 g37 g38 g39 g40 hk hi hE hR
    have hie : i = l.length := by omega
    rw [wk_of]
    refine wk_loop ?_
    conv => arg 2; whnf
    simp (maxSteps := 1000000) (disch := first | assumption | omega | rfl) only [↓vmp, vme, vmb, ty, hP, dec_t, dec_f, wrap64, List.length_map, Int.toNat_natCast, Nat.reduceAdd, List.cons_append, List.nil_append, Option.map_some, Option.map_none, strOf_mk, sb_eql, sb_neq, vmg, ↓vgd, ↓vst, ↓vix]
    exact hE _ _ _ _ _ _ _ _ _ _ _ _ _ _ _ _ _ _ _ _ _ _ _ _ _ _ _ _ _ _ _ _ _ _ _ _ (by rw [hie, List.drop_length]; rfl)
  | succ k ih =>
    intro i g6 g7 g8 g9 g10 g11 g12 g13 g14 g15 g16 g17 g18 g19 g20 g21 g22 g23 g24 g25 g26 g27 g28 g29 g30 g31 g32 g33 g34 g35 g36 g37 g38 g39 g40 hk hi hE hR
    have hlt : i < l.length := by omega
    have hdr : l.drop i = l[i] :: l.drop (i + 1) := List.drop_eq_getElem_cons hlt
    rw [hdr, List.any_cons] at hE hR
    rw [wk_of]
    refine wk_loop ?_
    conv => arg 2; whnf
    by_cases c1 : (l[i].a.length : Int) > 300
    · skip
      have hb : badO l[i] = true := decide_eq_true (.inl c1)
      simp (maxSteps := 1000000) (disch := first | assumption | omega | rfl) only [↓vmp, vme, vmb, ty, hP, dec_t, dec_f, wrap64, List.length_map, Int.toNat_natCast, Nat.reduceAdd, List.cons_append, List.nil_append, Option.map_some, Option.map_none, strOf_mk, sb_eql, sb_neq, vmg, ↓vgd, ↓vst, ↓vix, ldB, lenB]
      exact hR _ _ _ _ _ _ _ _ _ _ _ _ _ _ _ _ _ _ _ _ _ _ _ _ _ _ _ _ _ _ _ _ _ _ _ _ (by rw [hb]; rfl)
    · by_cases c2 : (l[i].b.length : Int) > 300
      · have hb : badO l[i] = true := decide_eq_true (.inr (.inl c2))
        simp (maxSteps := 1000000) (disch := first | assumption | omega | rfl) only [↓vmp, vme, vmb, ty, hP, dec_t, dec_f, wrap64, List.length_map, Int.toNat_natCast, Nat.reduceAdd, List.cons_append, List.nil_append, Option.map_some, Option.map_none, strOf_mk, sb_eql, sb_neq, vmg, ↓vgd, ↓vst, ↓vix, ldB, lenB]
        exact hR _ _ _ _ _ _ _ _ _ _ _ _ _ _ _ _ _ _ _ _ _ _ _ _ _ _ _ _ _ _ _ _ _ _ _ _ (by rw [hb]; rfl)
      · by_cases c3 : (l[i].data.length : Int) > 1100
        · have hb : badO l[i] = true := decide_eq_true (.inr (.inr c3))
          simp (maxSteps := 1000000) (disch := first | assumption | omega | rfl) only [↓vmp, vme, vmb, ty, hP, dec_t, dec_f, wrap64, List.length_map, Int.toNat_natCast, Nat.reduceAdd, List.cons_append, List.nil_append, Option.map_some, Option.map_none, strOf_mk, sb_eql, sb_neq, vmg, ↓vgd, ↓vst, ↓vix, ldB, lenB]
          exact hR _ _ _ _ _ _ _ _ _ _ _ _ _ _ _ _ _ _ _ _ _ _ _ _ _ _ _ _ _ _ _ _ _ _ _ _ (by rw [hb]; rfl)
        · have hb : badO l[i] = false := decide_eq_false (by omega)
          rw [hb, Bool.false_or] at hE hR
          simp (maxSteps := 1000000) (disch := first | assumption | omega | rfl) only [↓vmp, vme, vmb, ty, hP, dec_t, dec_f, wrap64, List.length_map, Int.toNat_natCast, Nat.reduceAdd, List.cons_append, List.nil_append, Option.map_some, Option.map_none, strOf_mk, sb_eql, sb_neq, vmg, ↓vgd, ↓vst, ↓vix, ldB, lenB]
          exact ih (i + 1) _ _ _ _ _ _ _ _ _ _ _ _ _ _ _ _ _ _ _ _ _ _ _ _ _ _ _ _ _ _ _ _ _ _ _ (by omega) (by omega) hE hR
def muchN (l : List Opn) (m : Int) : Bool := decide ((l.length : Int) > m) || l.any badO
theorem much_ok (l : List Opn) (m : Int) (hm : m ≤ 1000) : Ev cfg 51 [.sl (l.map encOpn), .int .i64 m] (.ret (.d (.bool (muchN l m)))) := by
  refine ev_of rfl rfl body51 ?_
  show Wp cfg (Tryd.f51.body.getD .skip) ((.d (.sl (l.map encOpn))) :: (.d (.int .i64 m)) :: (.tup []) :: (.tup []) :: (.tup []) :: (.tup []) :: (.tup []) :: (.tup []) :: (.tup []) :: (.tup []) :: (.tup []) :: (.tup []) :: (.tup []) :: (.tup []) :: (.tup []) :: (.tup []) :: (.tup []) :: (.tup []) :: (.tup []) :: (.tup []) :: (.tup []) :: (.tup []) :: (.tup []) :: (.tup []) :: (.tup []) :: (.tup []) :: (.tup []) :: (.tup []) :: (.tup []) :: (.tup []) :: (.tup []) :: (.tup []) :: (.tup []) :: (.tup []) :: (.tup []) :: (.tup []) :: (.tup []) :: (.tup []) :: (.tup []) :: (.tup []) :: (.tup []) :: []) [] [] _
  conv => arg 2; whnf
  unfold muchN
  by_cases c : (l.length : Int) > m
  · skip
    simp (maxSteps := 1000000) (disch := first | assumption | omega | rfl) only [↓vmp, vme, vmb, ty, hP, dec_t, dec_f, wrap64, List.length_map, Int.toNat_natCast, Nat.reduceAdd, List.cons_append, List.nil_append, Option.map_some, Option.map_none, strOf_mk, sb_eql, sb_neq, vmg, ↓vgd, ↓vst, ↓vix]
    exact retQ_one rfl rfl rfl
  · rw [decide_eq_false c, Bool.false_or]
    have hl : l.length < 1000000 := by omega
    simp (maxSteps := 1000000) (disch := first | assumption | omega | rfl) only [↓vmp, vme, vmb, ty, hP, dec_t, dec_f, wrap64, List.length_map, Int.toNat_natCast, Nat.reduceAdd, List.cons_append, List.nil_append, Option.map_some, Option.map_none, strOf_mk, sb_eql, sb_neq, vmg, ↓vgd, ↓vst, ↓vix]
    refine much_l l hl _ _ _ _ l.length 0 _ _ _ _ _ _ _ _ _ _ _ _ _ _ _ _ _ _ _ _ _ _ _ _ _ _ _ _ _ _ _ _ _ _ _ rfl (by omega) ?_ ?_
    · intro i' g6 g7 g8 g9 g10 g11 g12 g13 g14 g15 g16 g17 g18 g19 g20 g21 g22 g23 g24 g25 g26 g27 g28 g29 g30 g31 g32 g33 g34 g35 g36 g37 g38 g39 g40 h
      rw [List.drop_zero] at h
      simp (maxSteps := 1000000) (disch := first | assumption | omega | rfl) only [↓vmp, vme, vmb, ty, hP, dec_t, dec_f, wrap64, List.length_map, Int.toNat_natCast, Nat.reduceAdd, List.cons_append, List.nil_append, Option.map_some, Option.map_none, strOf_mk, sb_eql, sb_neq, vmg, ↓vgd, ↓vst, ↓vix]
      rw [h]
      exact retQ_one rfl rfl rfl
    · intro i' g6 g7 g8 g9 g10 g11 g12 g13 g14 g15 g16 g17 g18 g19 g20 g21 g22 g23 g24 g25 g26 g27 g28 g29 g30 g31 g32 g33 g34 g35 g36 g37 g38 g39 g40 h
      rw [List.drop_zero] at h
      simp (maxSteps := 1000000) (disch := first | assumption | omega | rfl) only [↓vmp, vme, vmb, ty, hP, dec_t, dec_f, wrap64, List.length_map, Int.toNat_natCast, Nat.reduceAdd, List.cons_append, List.nil_append, Option.map_some, Option.map_none, strOf_mk, sb_eql, sb_neq, vmg, ↓vgd, ↓vst, ↓vix]
      rw [h]
      exact retQ_one rfl rfl rfl
def badS (s : Step) : Bool := badO s.o
def muchS (l : List Step) (m : Int) : Bool := decide ((l.length : Int) > m) || l.any badS
theorem much_one (o : Opn) : muchN [o] 1 = badO o := by unfold muchN; simp
section
variable {ops : Array Oper} {dst : Option Tmp} {k : List Oper} {T : List V} {S : Store} {F : Dfs} {Q : Post}
theorem call_much1 {o : Opn} : WpR cfg ops dst k T S F Q (some (.enter 51 [.ts [encOpn o], .d (.int .i64 1)])) = WpL cfg ops k (putT T dst (.d (.bool (badO o)))) S F Q := by
  rw [← much_one]
  exact wr_call_plain (ds := [.sl ([o].map encOpn), .int .i64 1]) rfl rfl rfl (much_ok [o] 1 (by omega))
end
theorem muchS_l (l : List Step) (hl : l.length < 1000000) (R : Post) (S : Store) (g1 g4 : V) : ∀ (k i : Nat) (g6 g7 g8 g9 g10 g11 g12 g13 g14 g15 g16 g17 g18 g19 g20 g21 g22 : V), l.length - i = k → i ≤ l.length →
   (∀ i' g6 g7 g8 g9 g10 g11 g12 g13 g14 g15 g16 g17 g18 g19 g20 g21 g22, (l.drop i).any badS = false → R (.exit 0) ((.d (.sl (l.map encStep))) :: g1 :: (.tup []) :: (.tup []) :: g4 :: i' :: g6 :: g7 :: g8 :: g9 :: g10 :: g11 :: g12 :: g13 :: g14 :: g15 :: g16 :: g17 :: g18 :: g19 :: g20 :: g21 :: g22 :: []) S []) →
   (∀ i' g6 g7 g8 g9 g10 g11 g12 g13 g14 g15 g16 g17 g18 g19 g20 g21 g22, (l.drop i).any badS = true → R .ret ((.d (.sl (l.map encStep))) :: g1 :: (.tup []) :: (.tup []) :: (.d (.bool true)) :: i' :: g6 :: g7 :: g8 :: g9 :: g10 :: g11 :: g12 :: g13 :: g14 :: g15 :: g16 :: g17 :: g18 :: g19 :: g20 :: g21 :: g22 :: []) S []) →
   Wp cfg (.loop (lpOf (Tryd.f28.body.getD .skip) 0)) ((.d (.sl (l.map encStep))) :: g1 :: (.tup []) :: (.tup []) :: g4 :: (.d (.int .i64 i)) :: g6 :: g7 :: g8 :: g9 :: g10 :: g11 :: g12 :: g13 :: g14 :: g15 :: g16 :: g17 :: g18 :: g19 :: g20 :: g21 :: g22 :: []) S [] R := by
  intro k
  induction k with
  | zero =>
    intro i g6 g7 g8 g9 g10 g11 g12 g13 g14 g15 g16 g17 g18 g19 g20 g21 g22 hk hi hE hR
    have hie : i = l.length := by omega
    rw [wk_of]
    refine wk_loop ?_
    conv => arg 2; whnf
    simp (maxSteps := 1000000) (disch := first | assumption | omega | rfl) only [↓vmp, vme, vmb, ty, hP, dec_t, dec_f, wrap64, List.length_map, Int.toNat_natCast, Nat.reduceAdd, List.cons_append, List.nil_append, Option.map_some, Option.map_none, strOf_mk, sb_eql, sb_neq, vmg, ↓vgd, ↓vst, ↓vix]
    exact hE _ _ _ _ _ _ _ _ _ _ _ _ _ _ _ _ _ _ (by rw [hie, List.drop_length]; rfl)
  | succ k ih =>
    intro i g6 g7 g8 g9 g10 g11 g12 g13 g14 g15 g16 g17 g18 g19 g20 g21 g22 hk hi hE hR
    have hlt : i < l.length := by omega
    have hdr : l.drop i = l[i] :: l.drop (i + 1) := List.drop_eq_getElem_cons hlt
    rw [hdr, List.any_cons] at hE hR
    rw [wk_of]
    refine wk_loop ?_
    conv => arg 2; whnf
    cases hb : badS l[i] with
    | true =>
      have hb' : badO l[i].o = true := hb
      simp (maxSteps := 1000000) (disch := first | assumption | omega | rfl) only [↓vmp, vme, vmb, ty, hP, dec_t, dec_f, wrap64, List.length_map, Int.toNat_natCast, Nat.reduceAdd, List.cons_append, List.nil_append, Option.map_some, Option.map_none, strOf_mk, sb_eql, sb_neq, vmg, ↓vgd, ↓vst, ↓vix, ↓vbs, bs90, call_much1, bo51, hb']
      exact hR _ _ _ _ _ _ _ _ _ _ _ _ _ _ _ _ _ _ (by rw [hb]; rfl)
    | false =>
      have hb' : badO l[i].o = false := hb
      rw [hb, Bool.false_or] at hE hR
      simp (maxSteps := 1000000) (disch := first | assumption | omega | rfl) only [↓vmp, vme, vmb, ty, hP, dec_t, dec_f, wrap64, List.length_map, Int.toNat_natCast, Nat.reduceAdd, List.cons_append, List.nil_append, Option.map_some, Option.map_none, strOf_mk, sb_eql, sb_neq, vmg, ↓vgd, ↓vst, ↓vix, ↓vbs, bs90, call_much1, bo51, hb']
      exact ih (i + 1) _ _ _ _ _ _ _ _ _ _ _ _ _ _ _ _ _ (by omega) (by omega) hE hR
theorem much44_ok (l : List Step) (m : Int) (hm : m ≤ 1000) : Ev cfg 28 [.sl (l.map encStep), .int .i64 m] (.ret (.d (.bool (muchS l m)))) := by
  refine ev_of rfl rfl body28 ?_
  show Wp cfg (Tryd.f28.body.getD .skip) ((.d (.sl (l.map encStep))) :: (.d (.int .i64 m)) :: (.tup []) :: (.tup []) :: (.tup []) :: (.tup []) :: (.tup []) :: (.tup []) :: (.tup []) :: (.tup []) :: (.tup []) :: (.tup []) :: (.tup []) :: (.tup []) :: (.tup []) :: (.tup []) :: (.tup []) :: (.tup []) :: (.tup []) :: (.tup []) :: (.tup []) :: (.tup []) :: (.tup []) :: []) [] [] _
  conv => arg 2; whnf
  unfold muchS
  by_cases c : (l.length : Int) > m
  · skip
    simp (maxSteps := 1000000) (disch := first | assumption | omega | rfl) only [↓vmp, vme, vmb, ty, hP, dec_t, dec_f, wrap64, List.length_map, Int.toNat_natCast, Nat.reduceAdd, List.cons_append, List.nil_append, Option.map_some, Option.map_none, strOf_mk, sb_eql, sb_neq, vmg, ↓vgd, ↓vst, ↓vix]
    exact retQ_one rfl rfl rfl
  · rw [decide_eq_false c, Bool.false_or]
    have hl : l.length < 1000000 := by omega
    simp (maxSteps := 1000000) (disch := first | assumption | omega | rfl) only [↓vmp, vme, vmb, ty, hP, dec_t, dec_f, wrap64, List.length_map, Int.toNat_natCast, Nat.reduceAdd, List.cons_append, List.nil_append, Option.map_some, Option.map_none, strOf_mk, sb_eql, sb_neq, vmg, ↓vgd, ↓vst, ↓vix]
    refine muchS_l l hl _ _ _ _ l.length 0 _ _ _ _ _ _ _ _ _ _ _ _ _ _ _ _ _ rfl (by omega) ?_ ?_
    · intro i' g6 g7 g8 g9 g10 g11 g12 g13 g14 g15 g16 g17 g18 g19 g20 g21 g22 h
      rw [List.drop_zero] at h
      simp (maxSteps := 1000000) (disch := first | assumption | omega | rfl) only [↓vmp, vme, vmb, ty, hP, dec_t, dec_f, wrap64, List.length_map, Int.toNat_natCast, Nat.reduceAdd, List.cons_append, List.nil_append, Option.map_some, Option.map_none, strOf_mk, sb_eql, sb_neq, vmg, ↓vgd, ↓vst, ↓vix]
      rw [h]
      exact retQ_one rfl rfl rfl
    · intro i' g6 g7 g8 g9 g10 g11 g12 g13 g14 g15 g16 g17 g18 g19 g20 g21 g22 h
      rw [List.drop_zero] at h
      simp (maxSteps := 1000000) (disch := first | assumption | omega | rfl) only [↓vmp, vme, vmb, ty, hP, dec_t, dec_f, wrap64, List.length_map, Int.toNat_natCast, Nat.reduceAdd, List.cons_append, List.nil_append, Option.map_some, Option.map_none, strOf_mk, sb_eql, sb_neq, vmg, ↓vgd, ↓vst, ↓vix]
      rw [h]
      exact retQ_one rfl rfl rfl
section
variable {ops : Array Oper} {dst : Option Tmp} {k : List Oper} {T : List V} {S : Store} {F : Dfs} {Q : Post}
theorem call_much44 {l : List Step} {m : Int} (hm : m ≤ 1000) : WpR cfg ops dst k T S F Q (some (.enter 28 [.d (.sl (l.map encStep)), .d (.int .i64 m)])) = WpL cfg ops k (putT T dst (.d (.bool (muchS l m)))) S F Q :=
  wr_call_d (ds := [.sl (l.map encStep), .int .i64 m]) rfl (much44_ok l m hm)
end
theorem much46_ok (l : List Step) (m : Int) (hm : m ≤ 1000) : Ev cfg 13 [.sl (l.map encStep), .int .i64 m] (.ret (.d (.bool (muchS l m)))) := by
  refine ev_of rfl rfl body13 ?_
  show Wp cfg (Tryd.f13.body.getD .skip) ((.d (.sl (l.map encStep))) :: (.d (.int .i64 m)) :: (.tup []) :: (.tup []) :: (.tup []) :: (.tup []) :: (.tup []) :: (.tup []) :: []) [] [] _
  conv => arg 2; whnf
  simp (maxSteps := 1000000) (disch := first | assumption | omega | rfl) only [↓vmp, vme, vmb, ty, hP, dec_t, dec_f, wrap64, List.length_map, Int.toNat_natCast, Nat.reduceAdd, List.cons_append, List.nil_append, Option.map_some, Option.map_none, strOf_mk, sb_eql, sb_neq, vmg, ↓vgd, ↓vst, ↓vix, call_much44 hm, bo28]
  exact retQ_one rfl rfl rfl
end Go.Proofs.YteapjcgeckpknaaDoor
end
/-! A call as the program has it: escheatlaw27.To. -/
section
set_option linter.unusedVariables false
set_option linter.unusedSimpArgs false
set_option maxRecDepth 100000
set_option maxHeartbeats 4000000
namespace Go.Proofs.YteapjcgeckpknaaDoor
open Go.Vm
theorem app_newS {S : Store} {b : List UInt8} (h0 : b ≠ []) (hl : b.length ≤ 100000) : appendV Tryd.prog S 23 23 (.ts []) (.d (encB b)) = some (.rs S.length 0 b.length, S ++ [.row (b.map fun a => .d (encU a)) 5], 2) := by
  have hall : ((b.map encU).map V.d).all (fitsT Tryd.prog 5) = true := by
    rw [List.all_eq_true]
    intro y hy
    obtain ⟨z, hz, rfl⟩ := List.mem_map.1 hy
    obtain ⟨a, _, rfl⟩ := List.mem_map.1 hz
    exact fitsT5 _
  have src : srcV Tryd.prog S 5 23 (.d (encB b)) = some ((b.map encU).map V.d) := by
    unfold encB
    simp only [srcV, Tryd.underlying23, elemsV, hall, nil5, Bool.and_self, if_true]
  cases b with
  | nil => exact absurd rfl h0
  | cons a r =>
    have src1 : srcV Tryd.prog S 5 23 (.d (encB (a :: r))) = some (.d (encU a) :: (r.map encU).map .d) := src
    have hl2 : ((r.map encU).map V.d).length = r.length := by simp
    have hr : room Tryd.prog 5 (r.length + 1) = true := room23 (by simp at hl; omega)
    simp only [appendV, Tryd.underlying23, src1, zOk23, if_true, List.all_nil, List.length_nil, hr, Bool.and_self, List.map_nil, List.nil_append, List.length_cons, List.length_nil, List.cons_append, List.map_cons, List.map_map, Function.comp_def, Nat.zero_add, List.length_map, Bool.and_true]
theorem bd25ts {a d e : Int} {b c : List UInt8} : buildV Tryd.prog 25 [(0, .d (.int .i64 a)), (1, .d (.str b)), (2, .d (.str c)), (3, .d (.int .i64 d)), (4, .d (.int .i64 e)), (5, .ts [])] = some (.agg [.d (.int .i64 a), .d (.str b), .d (.str c), .d (.int .i64 d), .d (.int .i64 e), .ts []]) := by kernel_rfl
theorem bd25rs {a d e : Int} {b c : List UInt8} {i n : Nat} : buildV Tryd.prog 25 [(0, .d (.int .i64 a)), (1, .d (.str b)), (2, .d (.str c)), (3, .d (.int .i64 d)), (4, .d (.int .i64 e)), (5, .rs i 0 n)] = some (.agg [.d (.int .i64 a), .d (.str b), .d (.str c), .d (.int .i64 d), .d (.int .i64 e), .rs i 0 n]) := by kernel_rfl
theorem sameV_int {x : Int} : sameV (.d (.int .i64 x)) (.d (.int .i64 x)) = true := by simp [sameV, sameCell, sameCell0, sameF, sameLeaf]
theorem sameV_str {x : List UInt8} : sameV (.d (.str x)) (.d (.str x)) = true := by simp [sameV, sameCell, sameCell0, sameF, sameLeaf]
abbrev S27 (o : Opn) : Store := [.row [.d (encOpn o)] 33, .row [.agg [.d (.int .i64 0), .d (.str []), .d (.str []), .d (.int .i64 0), .d (.int .i64 0), .ts []]] 25]
theorem rd27 {o : Opn} {x : Ob} (t : TypeId) (f : Nat) {y : V} (h : loadR Tryd.prog t f (some (.d (encOpn o))) = some y) : (loadV Tryd.prog (S27 o ++ [x]) t (.ref 0 0 f)).map (fun v => Rs.val v (S27 o ++ [x]) 1) = some (.val y (S27 o ++ [x]) 1) := ld1 ((loadV_row (x := .d (encOpn o)) rfl).trans h)
theorem To27_ok (o : Opn) (hl : o.data.length ≤ 100000) : Ev cfg 29 [encOpn o] (.ret (.d (encOpn o))) := by
  refine ev_of rfl rfl body29 ?_
  show Wp cfg (Tryd.f29.body.getD .skip) ((.d (encOpn o)) :: (.tup []) :: (.tup []) :: (.tup []) :: (.tup []) :: (.tup []) :: (.tup []) :: (.tup []) :: (.tup []) :: (.tup []) :: (.tup []) :: (.tup []) :: (.tup []) :: (.tup []) :: (.tup []) :: (.tup []) :: (.tup []) :: (.tup []) :: []) [] [] _
  conv => arg 2; whnf
  simp (maxSteps := 1000000) (disch := first | assumption | omega | rfl) only [↓vmp, vme, vmb, ty, hP, dec_t, dec_f, wrap64, List.length_map, Int.toNat_natCast, Nat.reduceAdd, List.cons_append, List.nil_append, Option.map_some, Option.map_none, strOf_mk, sb_eql, sb_neq, vmg, ↓vgd, ↓vst, ↓vix]
  refine wk_draww (is := [0, 1, 2, 3, 4, 5, 6, 7, 8, 9, 10, 11, 12, 13, 14, 15]) (h := 0) (by kernel_rfl) (by kernel_rfl) ?_
  by_cases hd : o.data = []
  · have he : encB o.data = encB [] := by rw [hd]
    have hn := fun S => app_nil (S := S)
    simp (maxSteps := 1000000) (disch := first | assumption | omega | rfl) only [List.replicate_zero, eq_self, vmd, dw1, dw2, dw3, dw4, dw5, dw6, dw7, dw8, dw9, dw10, dw11, dw12, vmk, vmo, vmg, vme, vmb, ty, hP, dec_t, dec_f, wrap64, List.length_map, Int.toNat_natCast, Nat.reduceAdd, ↓vgd, ↓vst, ↓vix, List.append_nil, bs0_23, he, hn, bd25ts]
    refine ⟨wall_bit (by kernel_rfl) (wall_bit (by kernel_rfl) (wall_bit (by kernel_rfl) (wall_bit (by kernel_rfl) (wall_bit (by kernel_rfl) (wall_bit (by kernel_rfl) (wall_bit (by kernel_rfl) wall_nil)))))), by kernel_rfl, ?_⟩
    simp (maxSteps := 1000000) (disch := first | assumption | omega | rfl) only [↓vmp, vme, vmb, ty, hP, dec_t, dec_f, wrap64, List.length_map, Int.toNat_natCast, Nat.reduceAdd, List.cons_append, List.nil_append, Option.map_some, Option.map_none, strOf_mk, sb_eql, sb_neq, vmg, ↓vgd, ↓vst, ↓vix]
    exact retQ_cell (u := .ref 1 0 0) (v := .agg [.d (.int .i64 o.does), .d (.str o.a), .d (.str o.b), .d (.int .i64 o.off), .d (.int .i64 o.n), .ts []]) rfl (by kernel_rfl) rfl (by unfold encOpn; rw [he]; kernel_rfl)
  · have hn := fun S => app_newS (S := S) hd hl
    simp (maxSteps := 1000000) (disch := first | assumption | omega | rfl) only [List.replicate_zero, eq_self, vmd, dw1, dw2, dw3, dw4, dw5, dw6, dw7, dw8, dw9, dw10, dw11, dw12, vmk, vmo, vmg, vme, vmb, ty, hP, dec_t, dec_f, wrap64, List.length_map, Int.toNat_natCast, Nat.reduceAdd, ↓vgd, ↓vst, ↓vix, List.append_nil, bs0_23, hn, bd25rs]
    refine ⟨wall_bit (by kernel_rfl) (wall_read rfl (by kernel_rfl) rfl (rd27 3 4 lr33_4) sameV_int (wall_read rfl (by kernel_rfl) rfl (rd27 3 3 lr33_3) sameV_int (wall_read rfl (by kernel_rfl) rfl (rd27 9 2 lr33_2) sameV_str (wall_read rfl (by kernel_rfl) rfl (rd27 9 1 lr33_1) sameV_str (wall_read rfl (by kernel_rfl) rfl (rd27 3 0 lr33_0) sameV_int wall_nil))))), ?_⟩
    refine ⟨wall_bit (by kernel_rfl) (wall_bit (by kernel_rfl) (wall_bit (by kernel_rfl) (wall_bit (by kernel_rfl) (wall_bit (by kernel_rfl) (wall_bit (by kernel_rfl) wall_nil))))), by kernel_rfl, ?_⟩
    simp (maxSteps := 1000000) (disch := first | assumption | omega | rfl) only [↓vmp, vme, vmb, ty, hP, dec_t, dec_f, wrap64, List.length_map, Int.toNat_natCast, Nat.reduceAdd, List.cons_append, List.nil_append, Option.map_some, Option.map_none, strOf_mk, sb_eql, sb_neq, vmg, ↓vgd, ↓vst, ↓vix]
    refine retQ_cell (u := .ref 1 0 0) (v := .agg [.d (.int .i64 o.does), .d (.str o.a), .d (.str o.b), .d (.int .i64 o.off), .d (.int .i64 o.n), .rs 2 0 o.data.length]) rfl (by kernel_rfl) rfl ?_
    exact frz_agg6 (SlE.frz (enc := encU) (xs := o.data) (e := 5) (.inr ⟨2, [], rfl, by simp⟩)) rfl
end Go.Proofs.YteapjcgeckpknaaDoor
end
