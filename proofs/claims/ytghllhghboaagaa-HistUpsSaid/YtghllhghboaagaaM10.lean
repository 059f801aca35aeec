/- The document's model: Remove. -/
import Derived.Test.YtghllhghboaagaaM09
/-! The document's model: Remove. -/
section
set_option linter.unusedVariables false
set_option linter.unusedSimpArgs false
set_option maxRecDepth 10000
set_option maxHeartbeats 2000000
namespace Go.Proofs.Ytghllhghboaagaa
open Go.Vm
def removeN (t : List Node) (o : Opn) : List Node × Ans :=
  if (whereN t o.a).2.2 ≠ 0 then (t, failN (whereN t o.a).2.2)
  else if nameN (getN t (whereN t o.a).1).names (whereN t o.a).2.1 < 0 then (t, failN 4)
  else if o.does = 4 ∧ (getN t (nameN (getN t (whereN t o.a).1).names (whereN t o.a).2.1)).kind = 2 then (t, failN 7)
  else if o.does = 5 ∧ (getN t (nameN (getN t (whereN t o.a).1).names (whereN t o.a).2.1)).kind ≠ 2 then (t, failN 6)
  else if o.does = 5 ∧ 0 < (getN t (nameN (getN t (whereN t o.a).1).names (whereN t o.a).2.1)).names.length then (t, failN 8)
  else (losesN (dropN t (whereN t o.a).1 (whereN t o.a).2.1) (nameN (getN t (whereN t o.a).1).names (whereN t o.a).2.1), okN)
theorem remove_ok (t : List Node) (k0 : Nat) (hk0 : k0 < 200000) (hS : Small k0 t) (o : Opn) (ha : o.a.length < 1000000) : Ev cfg 49 [.sl (t.map encNode), encOpn o] (.ret (.tup [.d (.sl ((removeN t o).1.map encNode)), .d (encAns (removeN t o).2)])) := by
  refine ev_of rfl rfl body49 ?_
  show Wp cfg (Try.f49.body.getD .skip) ((.d (.sl (t.map encNode))) :: (.d (encOpn o)) :: (.tup []) :: (.tup []) :: (.tup []) :: (.tup []) :: (.tup []) :: (.tup []) :: (.tup []) :: (.tup []) :: (.tup []) :: (.tup []) :: (.tup []) :: (.tup []) :: (.tup []) :: (.tup []) :: (.tup []) :: (.tup []) :: (.tup []) :: (.tup []) :: (.tup []) :: (.tup []) :: (.tup []) :: (.tup []) :: (.tup []) :: (.tup []) :: (.tup []) :: (.tup []) :: (.tup []) :: (.tup []) :: (.tup []) :: (.tup []) :: (.tup []) :: (.tup []) :: (.tup []) :: (.tup []) :: (.tup []) :: (.tup []) :: (.tup []) :: (.tup []) :: (.tup []) :: (.tup []) :: (.tup []) :: (.tup []) :: (.tup []) :: (.tup []) :: (.tup []) :: (.tup []) :: (.tup []) :: (.tup []) :: (.tup []) :: (.tup []) :: (.tup []) :: (.tup []) :: (.tup []) :: (.tup []) :: (.tup []) :: (.tup []) :: (.tup []) :: (.tup []) :: (.tup []) :: (.tup []) :: (.tup []) :: (.tup []) :: (.tup []) :: (.tup []) :: (.tup []) :: (.tup []) :: (.tup []) :: (.tup []) :: (.tup []) :: (.tup []) :: (.tup []) :: (.tup []) :: []) [] [] _
  conv => arg 2; whnf
  have hk1 : k0 < 300000 := by omega
  have hlt : t.length < 400000 := Nat.lt_of_le_of_lt hS.len (by omega)
  have hlt' : t.length < 1000000 := by omega
  simp (maxSteps := 1000000) (disch := first | assumption | omega | rfl) only [↓vmp, vme, vmb, ty, hP, dec_t, dec_f, wrap64, List.length_map, Int.toNat_natCast, Nat.reduceAdd, List.cons_append, List.nil_append, Option.map_some, Option.map_none, strOf_mk, sb_eql, sb_neq, vmg, ↓vgd, ↓vst, ↓vix, call_where hS hk1]
  generalize hr : removeN t o = r
  unfold removeN at hr
  generalize whereN t o.a = w at hr ⊢
  obtain ⟨d, s, e⟩ := w
  simp only at hr
  have hgn : (getN t d).names.length < 1000000 := Nat.lt_of_le_of_lt (hS.gnms _) (by omega)
  have hgn' : (getN t d).names.length < 400000 := Nat.lt_of_le_of_lt (hS.gnms _) (by omega)
  by_cases h1 : e = 0
  · simp (maxSteps := 1000000) (disch := first | assumption | omega | rfl) only [↓vmp, vme, vmb, ty, hP, dec_t, dec_f, wrap64, List.length_map, Int.toNat_natCast, Nat.reduceAdd, List.cons_append, List.nil_append, Option.map_some, Option.map_none, strOf_mk, sb_eql, sb_neq, vmg, ↓vgd, ↓vst, ↓vix, call_get, call_name]
    rw [if_neg (by simp [h1])] at hr
    generalize nameN (getN t d).names s = ino at hr ⊢
    have hS2 := hS.drop (dir := d) (s := s)
    have hdl : (dropN t d s).length < 400000 := Nat.lt_of_le_of_lt hS2.len (by omega)
    have hl1 : -1000000 ≤ (getN (dropN t d s) ino).links := by have := (hS2.glnk ino).1; omega
    have hl2 : (getN (dropN t d s) ino).links ≤ 1000000 := by have := (hS2.glnk ino).2; omega
    by_cases h2 : ino < 0
    · skip
      simp (maxSteps := 1000000) (disch := first | assumption | omega | rfl) only [↓vmp, vme, vmb, ty, hP, dec_t, dec_f, wrap64, List.length_map, Int.toNat_natCast, Nat.reduceAdd, List.cons_append, List.nil_append, Option.map_some, Option.map_none, strOf_mk, sb_eql, sb_neq, vmg, ↓vgd, ↓vst, ↓vix, call_fail]
      rw [if_pos h2] at hr
      subst hr
      exact retQ_tc rfl rfl (x := .d (encAns (failN 4))) (by kernel_rfl) rfl rfl rfl rfl
    · simp (maxSteps := 1000000) (disch := first | assumption | omega | rfl) only [↓vmp, vme, vmb, ty, hP, dec_t, dec_f, wrap64, List.length_map, Int.toNat_natCast, Nat.reduceAdd, List.cons_append, List.nil_append, Option.map_some, Option.map_none, strOf_mk, sb_eql, sb_neq, vmg, ↓vgd, ↓vst, ↓vix, call_get]
      rw [if_neg h2] at hr
      by_cases d4 : o.does = 4
      · have d5 : ¬ o.does = 5 := by omega
        by_cases k2 : (getN t ino).kind = 2
        · skip
          simp (maxSteps := 1000000) (disch := first | assumption | omega | rfl) only [↓vmp, vme, vmb, ty, hP, dec_t, dec_f, wrap64, List.length_map, Int.toNat_natCast, Nat.reduceAdd, List.cons_append, List.nil_append, Option.map_some, Option.map_none, strOf_mk, sb_eql, sb_neq, vmg, ↓vgd, ↓vst, ↓vix, call_fail]
          rw [if_pos ⟨d4, k2⟩] at hr
          subst hr
          exact retQ_tc rfl rfl (x := .d (encAns (failN 7))) (by kernel_rfl) rfl rfl rfl rfl
        · skip
          simp (maxSteps := 1000000) (disch := first | assumption | omega | rfl) only [↓vmp, vme, vmb, ty, hP, dec_t, dec_f, wrap64, List.length_map, Int.toNat_natCast, Nat.reduceAdd, List.cons_append, List.nil_append, Option.map_some, Option.map_none, strOf_mk, sb_eql, sb_neq, vmg, ↓vgd, ↓vst, ↓vix, call_drop, call_loses, bd52_0]
          rw [if_neg (fun h => k2 h.2), if_neg (fun h => d5 h.1), if_neg (fun h => d5 h.1)] at hr
          subst hr
          exact retQ_tc rfl rfl (x := .agg [.d (.int .i64 0), .d (.int .i64 0), .d (.int .i64 0), .d (.int .i64 0), .d (.int .i64 0), .ts [], .ts []]) (by kernel_rfl) rfl rfl rfl rfl
      · by_cases d5 : o.does = 5
        · simp (maxSteps := 1000000) (disch := first | assumption | omega | rfl) only [↓vmp, vme, vmb, ty, hP, dec_t, dec_f, wrap64, List.length_map, Int.toNat_natCast, Nat.reduceAdd, List.cons_append, List.nil_append, Option.map_some, Option.map_none, strOf_mk, sb_eql, sb_neq, vmg, ↓vgd, ↓vst, ↓vix]
          rw [if_neg (fun h => d4 h.1)] at hr
          by_cases k2 : (getN t ino).kind = 2
          · simp (maxSteps := 1000000) (disch := first | assumption | omega | rfl) only [↓vmp, vme, vmb, ty, hP, dec_t, dec_f, wrap64, List.length_map, Int.toNat_natCast, Nat.reduceAdd, List.cons_append, List.nil_append, Option.map_some, Option.map_none, strOf_mk, sb_eql, sb_neq, vmg, ↓vgd, ↓vst, ↓vix]
            rw [if_neg (fun h => h.2 k2)] at hr
            by_cases z : (getN t ino).names.length > 0
            · skip
              simp (maxSteps := 1000000) (disch := first | assumption | omega | rfl) only [↓vmp, vme, vmb, ty, hP, dec_t, dec_f, wrap64, List.length_map, Int.toNat_natCast, Nat.reduceAdd, List.cons_append, List.nil_append, Option.map_some, Option.map_none, strOf_mk, sb_eql, sb_neq, vmg, ↓vgd, ↓vst, ↓vix, call_fail]
              rw [if_pos ⟨d5, z⟩] at hr
              subst hr
              exact retQ_tc rfl rfl (x := .d (encAns (failN 8))) (by kernel_rfl) rfl rfl rfl rfl
            · skip
              simp (maxSteps := 1000000) (disch := first | assumption | omega | rfl) only [↓vmp, vme, vmb, ty, hP, dec_t, dec_f, wrap64, List.length_map, Int.toNat_natCast, Nat.reduceAdd, List.cons_append, List.nil_append, Option.map_some, Option.map_none, strOf_mk, sb_eql, sb_neq, vmg, ↓vgd, ↓vst, ↓vix, call_drop, call_loses, bd52_0]
              rw [if_neg (fun h => z h.2)] at hr
              subst hr
              exact retQ_tc rfl rfl (x := .agg [.d (.int .i64 0), .d (.int .i64 0), .d (.int .i64 0), .d (.int .i64 0), .d (.int .i64 0), .ts [], .ts []]) (by kernel_rfl) rfl rfl rfl rfl
          · skip
            simp (maxSteps := 1000000) (disch := first | assumption | omega | rfl) only [↓vmp, vme, vmb, ty, hP, dec_t, dec_f, wrap64, List.length_map, Int.toNat_natCast, Nat.reduceAdd, List.cons_append, List.nil_append, Option.map_some, Option.map_none, strOf_mk, sb_eql, sb_neq, vmg, ↓vgd, ↓vst, ↓vix, call_fail]
            rw [if_pos ⟨d5, k2⟩] at hr
            subst hr
            exact retQ_tc rfl rfl (x := .d (encAns (failN 6))) (by kernel_rfl) rfl rfl rfl rfl
        · skip
          simp (maxSteps := 1000000) (disch := first | assumption | omega | rfl) only [↓vmp, vme, vmb, ty, hP, dec_t, dec_f, wrap64, List.length_map, Int.toNat_natCast, Nat.reduceAdd, List.cons_append, List.nil_append, Option.map_some, Option.map_none, strOf_mk, sb_eql, sb_neq, vmg, ↓vgd, ↓vst, ↓vix, call_drop, call_loses, bd52_0]
          rw [if_neg (fun h => d4 h.1), if_neg (fun h => d5 h.1), if_neg (fun h => d5 h.1)] at hr
          subst hr
          exact retQ_tc rfl rfl (x := .agg [.d (.int .i64 0), .d (.int .i64 0), .d (.int .i64 0), .d (.int .i64 0), .d (.int .i64 0), .ts [], .ts []]) (by kernel_rfl) rfl rfl rfl rfl
  · skip
    simp (maxSteps := 1000000) (disch := first | assumption | omega | rfl) only [↓vmp, vme, vmb, ty, hP, dec_t, dec_f, wrap64, List.length_map, Int.toNat_natCast, Nat.reduceAdd, List.cons_append, List.nil_append, Option.map_some, Option.map_none, strOf_mk, sb_eql, sb_neq, vmg, ↓vgd, ↓vst, ↓vix, call_fail]
    rw [if_pos h1] at hr
    subst hr
    exact retQ_tc rfl rfl (x := .d (encAns (failN e))) (by kernel_rfl) rfl rfl rfl rfl
theorem call_remove {ops : Array Oper} {dst : Option Tmp} {l : List Oper} {T : List V} {S : Store} {F : Dfs} {Q : Post} {t : List Node} {o : Opn} {k0 : Nat} (hS : Small k0 t) (hk0 : k0 < 200000) (ha : o.a.length < 1000000) :
    WpR cfg ops dst l T S F Q (some (.enter 49 [.d (.sl (t.map encNode)), .d (encOpn o)])) = WpL cfg ops l (putT T dst (.tup [.d (.sl ((removeN t o).1.map encNode)), .d (encAns (removeN t o).2)])) S F Q :=
  wr_call_d (ds := [.sl (t.map encNode), encOpn o]) rfl (remove_ok t k0 hk0 hS o ha)
end Go.Proofs.Ytghllhghboaagaa
end
/-! The document's model: Rename. -/
section
set_option linter.unusedVariables false
set_option linter.unusedSimpArgs false
set_option maxRecDepth 10000
set_option maxHeartbeats 2000000
namespace Go.Proofs.Ytghllhghboaagaa
open Go.Vm
def moved (n : Node) (p : Int) : Node := ⟨n.ino, n.kind, n.links, p, n.size, n.data, n.names⟩
/-- The tree behind a renaming that is done. -/
def renamed (t : List Node) (f : Int) (old : List UInt8) (d : Int) (s : List UInt8) (ino was kind : Int) : List Node :=
  let t1 := if 0 ≤ was then losesN (dropN t d s) was else t
  let t2 := putN (dropN t1 f old) d s ino
  if kind = 2 then withN t2 (moved (getN t2 ino) d) else t2
def renameA (t : List Node) (f : Int) (old : List UInt8) (ino : Int) (d : Int) (s : List UInt8) (was : Int) : List Node × Ans :=
  if was = ino then (t, okN)
  else if (getN t ino).kind = 2 ∧ belowN t ino (t.length + 1) d = true then (t, failN 9)
  else if 0 ≤ was ∧ (getN t ino).kind = 2 then (t, failN 5)
  else if 0 ≤ was ∧ (getN t was).kind = 2 then (t, failN 7)
  else (renamed t f old d s ino was (getN t ino).kind, okN)
def renameN (t : List Node) (o : Opn) : List Node × Ans :=
  if (whereN t o.a).2.2 ≠ 0 then (t, failN (whereN t o.a).2.2)
  else if nameN (getN t (whereN t o.a).1).names (whereN t o.a).2.1 < 0 then (t, failN 4)
  else if (whereN t o.b).2.2 ≠ 0 then (t, failN (whereN t o.b).2.2)
  else renameA t (whereN t o.a).1 (whereN t o.a).2.1 (nameN (getN t (whereN t o.a).1).names (whereN t o.a).2.1) (whereN t o.b).1 (whereN t o.b).2.1 (nameN (getN t (whereN t o.b).1).names (whereN t o.b).2.1)
theorem rename_ok (t : List Node) (k0 : Nat) (hk0 : k0 < 200000) (hS : Small k0 t) (o : Opn) (ha : o.a.length < 1000000) (hb : o.b.length < 1000000) : Ev cfg 50 [.sl (t.map encNode), encOpn o] (.ret (.tup [.d (.sl ((renameN t o).1.map encNode)), .d (encAns (renameN t o).2)])) := by
  refine ev_of rfl rfl body50 ?_
  show Wp cfg (Try.f50.body.getD .skip) ((.d (.sl (t.map encNode))) :: (.d (encOpn o)) :: (.tup []) :: (.tup []) :: (.tup []) :: (.tup []) :: (.tup []) :: (.tup []) :: (.tup []) :: (.tup []) :: (.tup []) :: (.tup []) :: (.tup []) :: (.tup []) :: (.tup []) :: (.tup []) :: (.tup []) :: (.tup []) :: (.tup []) :: (.tup []) :: (.tup []) :: (.tup []) :: (.tup []) :: (.tup []) :: (.tup []) :: (.tup []) :: (.tup []) :: (.tup []) :: (.tup []) :: (.tup []) :: (.tup []) :: (.tup []) :: (.tup []) :: (.tup []) :: (.tup []) :: (.tup []) :: (.tup []) :: (.tup []) :: (.tup []) :: (.tup []) :: (.tup []) :: (.tup []) :: (.tup []) :: (.tup []) :: (.tup []) :: (.tup []) :: (.tup []) :: (.tup []) :: (.tup []) :: (.tup []) :: (.tup []) :: (.tup []) :: (.tup []) :: (.tup []) :: (.tup []) :: (.tup []) :: (.tup []) :: (.tup []) :: (.tup []) :: (.tup []) :: (.tup []) :: (.tup []) :: (.tup []) :: (.tup []) :: (.tup []) :: (.tup []) :: (.tup []) :: (.tup []) :: (.tup []) :: (.tup []) :: (.tup []) :: (.tup []) :: (.tup []) :: (.tup []) :: (.tup []) :: (.tup []) :: (.tup []) :: (.tup []) :: (.tup []) :: (.tup []) :: (.tup []) :: (.tup []) :: (.tup []) :: (.tup []) :: (.tup []) :: (.tup []) :: (.tup []) :: (.tup []) :: (.tup []) :: (.tup []) :: (.tup []) :: (.tup []) :: (.tup []) :: (.tup []) :: (.tup []) :: (.tup []) :: (.tup []) :: (.tup []) :: (.tup []) :: (.tup []) :: (.tup []) :: (.tup []) :: (.tup []) :: (.tup []) :: (.tup []) :: (.tup []) :: (.tup []) :: (.tup []) :: (.tup []) :: (.tup []) :: (.tup []) :: (.tup []) :: (.tup []) :: (.tup []) :: (.tup []) :: (.tup []) :: (.tup []) :: (.tup []) :: (.tup []) :: (.tup []) :: (.tup []) :: (.tup []) :: (.tup []) :: (.tup []) :: (.tup []) :: (.tup []) :: []) [] [] _
  conv => arg 2; whnf
  have hk1 : k0 < 300000 := by omega
  have hlt : t.length < 400000 := Nat.lt_of_le_of_lt hS.len (by omega)
  have hlt' : t.length < 1000000 := by omega
  have hln := whereN_len t o.b
  simp (maxSteps := 1000000) (disch := first | assumption | omega | rfl) only [↓vmp, vme, vmb, ty, hP, dec_t, dec_f, wrap64, List.length_map, Int.toNat_natCast, Nat.reduceAdd, List.cons_append, List.nil_append, Option.map_some, Option.map_none, strOf_mk, sb_eql, sb_neq, vmg, ↓vgd, ↓vst, ↓vix, call_where hS hk1]
  generalize hr : renameN t o = r
  unfold renameN at hr
  generalize whereN t o.a = w at hr ⊢
  obtain ⟨f, old, e⟩ := w
  simp only at hr
  have hgf : (getN t f).names.length < 1000000 := Nat.lt_of_le_of_lt (hS.gnms _) (by omega)
  by_cases h1 : e = 0
  · simp (maxSteps := 1000000) (disch := first | assumption | omega | rfl) only [↓vmp, vme, vmb, ty, hP, dec_t, dec_f, wrap64, List.length_map, Int.toNat_natCast, Nat.reduceAdd, List.cons_append, List.nil_append, Option.map_some, Option.map_none, strOf_mk, sb_eql, sb_neq, vmg, ↓vgd, ↓vst, ↓vix, call_get, call_name]
    rw [if_neg (by simp [h1])] at hr
    generalize nameN (getN t f).names old = ino at hr ⊢
    by_cases h2 : ino < 0
    · skip
      simp (maxSteps := 1000000) (disch := first | assumption | omega | rfl) only [↓vmp, vme, vmb, ty, hP, dec_t, dec_f, wrap64, List.length_map, Int.toNat_natCast, Nat.reduceAdd, List.cons_append, List.nil_append, Option.map_some, Option.map_none, strOf_mk, sb_eql, sb_neq, vmg, ↓vgd, ↓vst, ↓vix, call_fail]
      rw [if_pos h2] at hr
      subst hr
      exact retQ_tc rfl rfl (x := .d (encAns (failN 4))) (by kernel_rfl) rfl rfl rfl rfl
    · simp (maxSteps := 1000000) (disch := first | assumption | omega | rfl) only [↓vmp, vme, vmb, ty, hP, dec_t, dec_f, wrap64, List.length_map, Int.toNat_natCast, Nat.reduceAdd, List.cons_append, List.nil_append, Option.map_some, Option.map_none, strOf_mk, sb_eql, sb_neq, vmg, ↓vgd, ↓vst, ↓vix, call_where hS hk1]
      rw [if_neg h2] at hr
      generalize whereN t o.b = w at hr hln ⊢
      obtain ⟨d, s, e2⟩ := w
      simp only at hr hln
      have hgd : (getN t d).names.length < 1000000 := Nat.lt_of_le_of_lt (hS.gnms _) (by omega)
      by_cases h3 : e2 = 0
      · simp (maxSteps := 1000000) (disch := first | assumption | omega | rfl) only [↓vmp, vme, vmb, ty, hP, dec_t, dec_f, wrap64, List.length_map, Int.toNat_natCast, Nat.reduceAdd, List.cons_append, List.nil_append, Option.map_some, Option.map_none, strOf_mk, sb_eql, sb_neq, vmg, ↓vgd, ↓vst, ↓vix, call_get, call_name]
        rw [if_neg (by simp [h3])] at hr
        generalize nameN (getN t d).names s = was at hr ⊢
        unfold renameA at hr
        by_cases h4 : was = ino
        · simp (maxSteps := 1000000) (disch := first | assumption | omega | rfl) only [↓vmp, vme, vmb, ty, hP, dec_t, dec_f, wrap64, List.length_map, Int.toNat_natCast, Nat.reduceAdd, List.cons_append, List.nil_append, Option.map_some, Option.map_none, strOf_mk, sb_eql, sb_neq, vmg, ↓vgd, ↓vst, ↓vix, bd52_0]
          rw [if_pos h4] at hr
          subst hr
          exact retQ_tc rfl rfl (x := .agg [.d (.int .i64 0), .d (.int .i64 0), .d (.int .i64 0), .d (.int .i64 0), .d (.int .i64 0), .ts [], .ts []]) (by kernel_rfl) rfl rfl rfl rfl
        · simp (maxSteps := 1000000) (disch := first | assumption | omega | rfl) only [↓vmp, vme, vmb, ty, hP, dec_t, dec_f, wrap64, List.length_map, Int.toNat_natCast, Nat.reduceAdd, List.cons_append, List.nil_append, Option.map_some, Option.map_none, strOf_mk, sb_eql, sb_neq, vmg, ↓vgd, ↓vst, ↓vix, call_get]
          rw [if_neg h4] at hr
          have hsl : s.length < 1000000 := by omega
          have hgd4 : (getN t d).names.length < 400000 := Nat.lt_of_le_of_lt (hS.gnms _) (by omega)
          have hgf4 : (getN t f).names.length < 400000 := Nat.lt_of_le_of_lt (hS.gnms _) (by omega)
          by_cases k : (getN t ino).kind = 2
          · simp (maxSteps := 1000000) (disch := first | assumption | omega | rfl) only [↓vmp, vme, vmb, ty, hP, dec_t, dec_f, wrap64, List.length_map, Int.toNat_natCast, Nat.reduceAdd, List.cons_append, List.nil_append, Option.map_some, Option.map_none, strOf_mk, sb_eql, sb_neq, vmg, ↓vgd, ↓vst, ↓vix, call_below]
            cases hbl : belowN t ino (t.length + 1) d with
            | true =>
              simp (maxSteps := 1000000) (disch := first | assumption | omega | rfl) only [↓vmp, vme, vmb, ty, hP, dec_t, dec_f, wrap64, List.length_map, Int.toNat_natCast, Nat.reduceAdd, List.cons_append, List.nil_append, Option.map_some, Option.map_none, strOf_mk, sb_eql, sb_neq, vmg, ↓vgd, ↓vst, ↓vix, call_fail]
              rw [if_pos ⟨k, hbl⟩] at hr
              subst hr
              exact retQ_tc rfl rfl (x := .d (encAns (failN 9))) (by kernel_rfl) rfl rfl rfl rfl
            | false =>
              simp (maxSteps := 1000000) (disch := first | assumption | omega | rfl) only [↓vmp, vme, vmb, ty, hP, dec_t, dec_f, wrap64, List.length_map, Int.toNat_natCast, Nat.reduceAdd, List.cons_append, List.nil_append, Option.map_some, Option.map_none, strOf_mk, sb_eql, sb_neq, vmg, ↓vgd, ↓vst, ↓vix]
              rw [if_neg (fun h => by rw [hbl] at h; exact Bool.noConfusion h.2)] at hr
              by_cases w : was ≥ 0
              · skip
                simp (maxSteps := 1000000) (disch := first | assumption | omega | rfl) only [↓vmp, vme, vmb, ty, hP, dec_t, dec_f, wrap64, List.length_map, Int.toNat_natCast, Nat.reduceAdd, List.cons_append, List.nil_append, Option.map_some, Option.map_none, strOf_mk, sb_eql, sb_neq, vmg, ↓vgd, ↓vst, ↓vix, call_fail]
                rw [if_pos ⟨w, k⟩] at hr
                subst hr
                exact retQ_tc rfl rfl (x := .d (encAns (failN 5))) (by kernel_rfl) rfl rfl rfl rfl
              · rw [if_neg (fun h => w h.1), if_neg (fun h => w h.1)] at hr
                simp only [renamed, if_neg w, if_pos k] at hr
                have hS2 := hS.drop (dir := f) (s := old)
                have hl2 : (dropN t f old).length < 400000 := Nat.lt_of_le_of_lt hS2.len (by omega)
                have hn2 : (getN (dropN t f old) d).names.length < 400000 := Nat.lt_of_le_of_lt (hS2.gnms _) (by omega)
                have hm2 : ∀ e ∈ (getN (dropN t f old) d).names, e.name.length < 1000000 := fun e he => Nat.lt_of_le_of_lt (hS2.gnam _ e he) (by omega)
                have hS3 := hS2.put (dir := d) (s := s) (ino := ino) (by omega)
                have hl3 : (putN (dropN t f old) d s ino).length < 400000 := Nat.lt_of_le_of_lt hS3.len (by omega)
                have hl3' : (putN (dropN t f old) d s ino).length < 1000000 := by omega
                simp (maxSteps := 1000000) (disch := first | assumption | omega | rfl) only [↓vmp, vme, vmb, ty, hP, dec_t, dec_f, wrap64, List.length_map, Int.toNat_natCast, Nat.reduceAdd, List.cons_append, List.nil_append, Option.map_some, Option.map_none, strOf_mk, sb_eql, sb_neq, vmg, ↓vgd, ↓vst, ↓vix, call_drop, call_put, call_get, call_withA, bd52_0]
                subst hr
                exact retQ_tc rfl rfl (x := .agg [.d (.int .i64 0), .d (.int .i64 0), .d (.int .i64 0), .d (.int .i64 0), .d (.int .i64 0), .ts [], .ts []]) (by kernel_rfl) rfl rfl rfl rfl
          · simp (maxSteps := 1000000) (disch := first | assumption | omega | rfl) only [↓vmp, vme, vmb, ty, hP, dec_t, dec_f, wrap64, List.length_map, Int.toNat_natCast, Nat.reduceAdd, List.cons_append, List.nil_append, Option.map_some, Option.map_none, strOf_mk, sb_eql, sb_neq, vmg, ↓vgd, ↓vst, ↓vix]
            rw [if_neg (fun h => k h.1), if_neg (fun h => k h.2)] at hr
            by_cases w : was ≥ 0
            · simp (maxSteps := 1000000) (disch := first | assumption | omega | rfl) only [↓vmp, vme, vmb, ty, hP, dec_t, dec_f, wrap64, List.length_map, Int.toNat_natCast, Nat.reduceAdd, List.cons_append, List.nil_append, Option.map_some, Option.map_none, strOf_mk, sb_eql, sb_neq, vmg, ↓vgd, ↓vst, ↓vix]
              by_cases m : (getN t was).kind = 2
              · skip
                simp (maxSteps := 1000000) (disch := first | assumption | omega | rfl) only [↓vmp, vme, vmb, ty, hP, dec_t, dec_f, wrap64, List.length_map, Int.toNat_natCast, Nat.reduceAdd, List.cons_append, List.nil_append, Option.map_some, Option.map_none, strOf_mk, sb_eql, sb_neq, vmg, ↓vgd, ↓vst, ↓vix, call_fail]
                rw [if_pos ⟨w, m⟩] at hr
                subst hr
                exact retQ_tc rfl rfl (x := .d (encAns (failN 7))) (by kernel_rfl) rfl rfl rfl rfl
              · rw [if_neg (fun h => m h.2)] at hr
                simp only [renamed, if_pos w, if_neg k] at hr
                have hS0 := hS.drop (dir := d) (s := s)
                have hl0 : (dropN t d s).length < 400000 := Nat.lt_of_le_of_lt hS0.len (by omega)
                have hk1' : -1000000 ≤ (getN (dropN t d s) was).links := by have := (hS0.glnk was).1; omega
                have hk2' : (getN (dropN t d s) was).links ≤ 1000000 := by have := (hS0.glnk was).2; omega
                have hS1 := hS0.loses (ino := was)
                have hl1 : (losesN (dropN t d s) was).length < 400000 := Nat.lt_of_le_of_lt hS1.len (by omega)
                have hn1 : (getN (losesN (dropN t d s) was) f).names.length < 400000 := Nat.lt_of_le_of_lt (hS1.gnms _) (by omega)
                have hS2 := hS1.drop (dir := f) (s := old)
                have hl2 : (dropN (losesN (dropN t d s) was) f old).length < 400000 := Nat.lt_of_le_of_lt hS2.len (by omega)
                have hn2 : (getN (dropN (losesN (dropN t d s) was) f old) d).names.length < 400000 := Nat.lt_of_le_of_lt (hS2.gnms _) (by omega)
                have hm2 : ∀ e ∈ (getN (dropN (losesN (dropN t d s) was) f old) d).names, e.name.length < 1000000 := fun e he => Nat.lt_of_le_of_lt (hS2.gnam _ e he) (by omega)
                simp (maxSteps := 1000000) (disch := first | assumption | omega | rfl) only [↓vmp, vme, vmb, ty, hP, dec_t, dec_f, wrap64, List.length_map, Int.toNat_natCast, Nat.reduceAdd, List.cons_append, List.nil_append, Option.map_some, Option.map_none, strOf_mk, sb_eql, sb_neq, vmg, ↓vgd, ↓vst, ↓vix, call_drop, call_put, call_loses, bd52_0]
                subst hr
                exact retQ_tc rfl rfl (x := .agg [.d (.int .i64 0), .d (.int .i64 0), .d (.int .i64 0), .d (.int .i64 0), .d (.int .i64 0), .ts [], .ts []]) (by kernel_rfl) rfl rfl rfl rfl
            · rw [if_neg (fun h => w h.1)] at hr
              simp only [renamed, if_neg w, if_neg k] at hr
              have hS2 := hS.drop (dir := f) (s := old)
              have hl2 : (dropN t f old).length < 400000 := Nat.lt_of_le_of_lt hS2.len (by omega)
              have hn2 : (getN (dropN t f old) d).names.length < 400000 := Nat.lt_of_le_of_lt (hS2.gnms _) (by omega)
              have hm2 : ∀ e ∈ (getN (dropN t f old) d).names, e.name.length < 1000000 := fun e he => Nat.lt_of_le_of_lt (hS2.gnam _ e he) (by omega)
              simp (maxSteps := 1000000) (disch := first | assumption | omega | rfl) only [↓vmp, vme, vmb, ty, hP, dec_t, dec_f, wrap64, List.length_map, Int.toNat_natCast, Nat.reduceAdd, List.cons_append, List.nil_append, Option.map_some, Option.map_none, strOf_mk, sb_eql, sb_neq, vmg, ↓vgd, ↓vst, ↓vix, call_drop, call_put, bd52_0]
              subst hr
              exact retQ_tc rfl rfl (x := .agg [.d (.int .i64 0), .d (.int .i64 0), .d (.int .i64 0), .d (.int .i64 0), .d (.int .i64 0), .ts [], .ts []]) (by kernel_rfl) rfl rfl rfl rfl
      · skip
        simp (maxSteps := 1000000) (disch := first | assumption | omega | rfl) only [↓vmp, vme, vmb, ty, hP, dec_t, dec_f, wrap64, List.length_map, Int.toNat_natCast, Nat.reduceAdd, List.cons_append, List.nil_append, Option.map_some, Option.map_none, strOf_mk, sb_eql, sb_neq, vmg, ↓vgd, ↓vst, ↓vix, call_fail]
        rw [if_pos h3] at hr
        subst hr
        exact retQ_tc rfl rfl (x := .d (encAns (failN e2))) (by kernel_rfl) rfl rfl rfl rfl
  · skip
    simp (maxSteps := 1000000) (disch := first | assumption | omega | rfl) only [↓vmp, vme, vmb, ty, hP, dec_t, dec_f, wrap64, List.length_map, Int.toNat_natCast, Nat.reduceAdd, List.cons_append, List.nil_append, Option.map_some, Option.map_none, strOf_mk, sb_eql, sb_neq, vmg, ↓vgd, ↓vst, ↓vix, call_fail]
    rw [if_pos h1] at hr
    subst hr
    exact retQ_tc rfl rfl (x := .d (encAns (failN e))) (by kernel_rfl) rfl rfl rfl rfl
theorem call_rename {ops : Array Oper} {dst : Option Tmp} {l : List Oper} {T : List V} {S : Store} {F : Dfs} {Q : Post} {t : List Node} {o : Opn} {k0 : Nat} (hS : Small k0 t) (hk0 : k0 < 200000) (ha : o.a.length < 1000000) (hb : o.b.length < 1000000) :
    WpR cfg ops dst l T S F Q (some (.enter 50 [.d (.sl (t.map encNode)), .d (encOpn o)])) = WpL cfg ops l (putT T dst (.tup [.d (.sl ((renameN t o).1.map encNode)), .d (encAns (renameN t o).2)])) S F Q :=
  wr_call_d (ds := [.sl (t.map encNode), encOpn o]) rfl (rename_ok t k0 hk0 hS o ha hb)
end Go.Proofs.Ytghllhghboaagaa
end
/-! Rules of rewriting: slices that are made in regions that draw, and calls apart that are handed one of them. -/
section
set_option linter.unusedVariables false
set_option linter.unusedSimpArgs false
namespace Go.Vm
open Go
/-- A store that is told object by object. -/
theorem vso :
  (∀ {a : Ob} {l : Store}, (a :: l)[0]? = some a) ∧
  (∀ {a : Ob} {l : Store} {n : Nat}, (a :: l)[n + 1]? = l[n]?) ∧
  (∀ {a b : Ob} {l : Store}, (a :: l).set 0 b = b :: l) ∧
  (∀ {a b : Ob} {l : Store} {n : Nat}, (a :: l).set (n + 1) b = a :: l.set n b) ∧
  (∀ {n : Nat}, List.replicate (n + 1) Ob.hole = .hole :: List.replicate n .hole) ∧
  (List.replicate 0 Ob.hole = []) :=
  ⟨rfl, rfl, rfl, rfl, rfl, rfl⟩
def mkO (P : Program) (e : TypeId) (z : V) : V → V → Option (Ob × (Nat → V))
  | .d (.int .i64 l), .d (.int .i64 c) => if 0 ≤ l ∧ l ≤ c ∧ c ≤ 9223372036854775807 then if room P e c.toNat && fitsT P e z then
          some (.row (List.replicate c.toNat z) e, fun id => .rs id 0 l.toNat) else none else none
  | _, _ => none
theorem mk_in {P : Program} {e : TypeId} {z : V} {n : Int} (hr : room P e n.toNat = true) (hf : fitsT P e z = true) (h0 : 0 ≤ n) (h1 : n ≤ 1000000) : mkO P e z (.d (.int .i64 n)) (.d (.int .i64 n)) = some (.row (List.replicate n.toNat z) e, fun id => .rs id 0 n.toNat) := by
  simp only [mkO]
  rw [if_pos ⟨h0, Int.le_refl _, by omega⟩, if_pos (by rw [hr, hf]; rfl)]
section
variable {C : Cfg} {S : Store} {T : List V} {dst : Option Tmp} {ops : Array Oper} {F : Dfs} {Q : Post} {K : List Nat → List (Nat × Nat) → List V → Store → Prop} {rd : List Nat} {cs : List (Nat × Nat)} {i : Nat}
theorem wa_some {base : Nat} {K : List (Nat × Nat) → List V → Store → Prop} {ob : Ob} {f : Nat → V} : WpA base K cs i dst T S (some (ob, f)) = (S[base + i]? = some .hole ∧ K (cs ++ [(i, 2)]) (putT T dst (f (base + i))) (S.set (base + i) ob)) := rfl
theorem ak_make {ty : TypeId} {pos : String} {after : Array Edge} {g : Option (Nat × Bool)} {t : TypeId} {l c : Operand} : addsK ⟨dst, .makeSlice t l c, ty, pos, after, g⟩ = true := rfl
theorem ad_make {P : Program} {ty : TypeId} {pos : String} {after : Array Edge} {g : Option (Nat × Bool)} {t e : TypeId} {l c : Operand} {z : V} (hu : P.underlying t = some (.slice e)) (hz : zeroV P e = some z) : addO P T ⟨dst, .makeSlice t l c, ty, pos, after, g⟩ = mkO P e z (evalO T l) (evalO T c) := by
  simp only [addO, hu, hz]
  unfold mkO
  split
  · rename_i heq; simp only [Option.some.injEq] at heq; obtain ⟨h1, h2, h3⟩ := And.intro ‹_› (And.intro ‹_› heq); subst h3; simp_all
  · rename_i h; split
    · exfalso; simp_all
    · rfl
theorem mark_one {id : Nat} {xs : List D} {e : TypeId} (hr : S[id]? = some (.row (xs.map .d) e)) : mark S [id] S [id] = some (S.set id (.fz xs e)) := by
  have h3 : allO (frz S frzFuel) (xs.map V.d) = some xs := allO_d (n := 11) xs
  have h4 : (xs.map V.d).flatMap (frzIds S frzFuel) = [] := flat_d xs
  simp only [mark, hr, frzOb, h3, Option.map_some, obIds, h4, List.all_nil, if_true]
theorem call_row {n : Nat} {f : FuncId} {args : List V} {ds : List D} {v : V} {id : Nat} {xs : List D} {e : TypeId} (hs : C.shared f = false) (hf : allO (frz S frzFuel) args = some ds) (hi : args.flatMap (frzIds S frzFuel) = [id]) (hr : S[id]? = some (.row (xs.map .d) e)) (hp : plainOut (.ret v) = false) (hn : answer C (run C n) f ds = some (.ret v)) : callV C (run C n) f args S = some (.ret v, S.set id (.fz xs e), 3) := by
  unfold callV
  simp only [hs, Bool.false_eq_true, if_false, hf, hn, hi, List.isEmpty_cons, hp, mark_one hr]
/-- A call apart that is handed a row of data, in a region that draws. -/
theorem we_call_row {f : FuncId} {args : List V} {ds : List D} {v : V} {id : Nat} {xs : List D} {e : TypeId} (hs : C.shared f = false) (hf : allO (frz S frzFuel) args = some ds) (hi : args.flatMap (frzIds S frzFuel) = [id]) (hr : S[id]? = some (.row (xs.map .d) e)) (hp : plainOut (.ret v) = false) (he : Ev C f ds (.ret v)) :
    WpE C ops F Q K rd cs i dst T S (some (.enter f args)) = (bitsOk ops rd i 3 ∧ K rd (cs ++ [(i, 3)]) (putT T dst v) (S.set id (.fz xs e))) := by
  obtain ⟨n, hn⟩ := he
  have hc : callV C (run C n) f args S = some (.ret v, S.set id (.fz xs e), 3) := call_row hs hf hi hr hp hn
  apply propext
  constructor
  · rintro ⟨m, v', S', c, h1, h2, h3⟩
    have := callV_det h1 hc
    simp only [Prod.mk.injEq] at this
    obtain ⟨h4, rfl, rfl⟩ := this
    cases h4
    exact ⟨h2, h3⟩
  · exact fun h => ⟨n, _, _, _, hc, h.1, h.2⟩
theorem rep_map {n : Nat} {x : D} : List.replicate n (V.d x) = (List.replicate n x).map .d := by simp
end
section
variable {C : Cfg} {ops : Array Oper} {dst : Option Tmp} {ty : TypeId} {pos : String} {after : Array Edge} {l : List Oper} {T : List V} {S : Store} {F : Dfs} {Q : Post} {t : TypeId} {n : Nat} {ps : Array (Nat × Operand)} {d2 : Option Tmp} {ty2 : TypeId} {pos2 : String} {after2 : Array Edge} {g2 : Option (Nat × Bool)}
theorem wl_bs_assign {x : Operand} : WpL C ops (⟨dst, .buildSlice t n ps, ty, pos, after, none⟩ :: ⟨d2, .assign x, ty2, pos2, after2, g2⟩ :: l) T S F Q = WpR C ops dst (⟨d2, .assign x, ty2, pos2, after2, g2⟩ :: l) T S F Q (opV C.P S T ⟨dst, .buildSlice t n ps, ty, pos, after, none⟩) := wl_op' rfl
theorem wl_bs_move {x : Operand} : WpL C ops (⟨dst, .buildSlice t n ps, ty, pos, after, none⟩ :: ⟨d2, .move x, ty2, pos2, after2, g2⟩ :: l) T S F Q = WpR C ops dst (⟨d2, .move x, ty2, pos2, after2, g2⟩ :: l) T S F Q (opV C.P S T ⟨dst, .buildSlice t n ps, ty, pos, after, none⟩) := wl_op' rfl
theorem wl_bs_fieldAddr {s : TypeId} {x : Operand} {f : Nat} : WpL C ops (⟨dst, .buildSlice t n ps, ty, pos, after, none⟩ :: ⟨d2, .fieldAddr s x f, ty2, pos2, after2, g2⟩ :: l) T S F Q = WpR C ops dst (⟨d2, .fieldAddr s x f, ty2, pos2, after2, g2⟩ :: l) T S F Q (opV C.P S T ⟨dst, .buildSlice t n ps, ty, pos, after, none⟩) := wl_op' rfl
theorem wl_bs_build {s : TypeId} {qs : Array (Nat × Operand)} : WpL C ops (⟨dst, .buildSlice t n ps, ty, pos, after, none⟩ :: ⟨d2, .build s qs, ty2, pos2, after2, g2⟩ :: l) T S F Q = WpR C ops dst (⟨d2, .build s qs, ty2, pos2, after2, g2⟩ :: l) T S F Q (opV C.P S T ⟨dst, .buildSlice t n ps, ty, pos, after, none⟩) := wl_op' rfl
theorem wl_bs_bs {s : TypeId} {m : Nat} {qs : Array (Nat × Operand)} : WpL C ops (⟨dst, .buildSlice t n ps, ty, pos, after, none⟩ :: ⟨d2, .buildSlice s m qs, ty2, pos2, after2, g2⟩ :: l) T S F Q = WpR C ops dst (⟨d2, .buildSlice s m qs, ty2, pos2, after2, g2⟩ :: l) T S F Q (opV C.P S T ⟨dst, .buildSlice t n ps, ty, pos, after, none⟩) := wl_op' rfl
/-- Literals of slices, ahead of other operations. -/
theorem vbs :
  (∀ {C : Cfg} {ops : Array Oper} {dst : Option Tmp} {ty : TypeId} {pos : String} {after : Array Edge} {l : List Oper} {T : List V} {S : Store} {F : Dfs} {Q : Post} {t : TypeId} {n : Nat} {ps : Array (Nat × Operand)} {d2 : Option Tmp} {ty2 : TypeId} {pos2 : String} {after2 : Array Edge} {g2 : Option (Nat × Bool)} {x : Operand}, WpL C ops (⟨dst, .buildSlice t n ps, ty, pos, after, none⟩ :: ⟨d2, .assign x, ty2, pos2, after2, g2⟩ :: l) T S F Q = WpR C ops dst (⟨d2, .assign x, ty2, pos2, after2, g2⟩ :: l) T S F Q (opV C.P S T ⟨dst, .buildSlice t n ps, ty, pos, after, none⟩)) ∧
  (∀ {C : Cfg} {ops : Array Oper} {dst : Option Tmp} {ty : TypeId} {pos : String} {after : Array Edge} {l : List Oper} {T : List V} {S : Store} {F : Dfs} {Q : Post} {t : TypeId} {n : Nat} {ps : Array (Nat × Operand)} {d2 : Option Tmp} {ty2 : TypeId} {pos2 : String} {after2 : Array Edge} {g2 : Option (Nat × Bool)} {x : Operand}, WpL C ops (⟨dst, .buildSlice t n ps, ty, pos, after, none⟩ :: ⟨d2, .move x, ty2, pos2, after2, g2⟩ :: l) T S F Q = WpR C ops dst (⟨d2, .move x, ty2, pos2, after2, g2⟩ :: l) T S F Q (opV C.P S T ⟨dst, .buildSlice t n ps, ty, pos, after, none⟩)) ∧
  (∀ {C : Cfg} {ops : Array Oper} {dst : Option Tmp} {ty : TypeId} {pos : String} {after : Array Edge} {l : List Oper} {T : List V} {S : Store} {F : Dfs} {Q : Post} {t : TypeId} {n : Nat} {ps : Array (Nat × Operand)} {d2 : Option Tmp} {ty2 : TypeId} {pos2 : String} {after2 : Array Edge} {g2 : Option (Nat × Bool)} {s : TypeId} {x : Operand} {f : Nat}, WpL C ops (⟨dst, .buildSlice t n ps, ty, pos, after, none⟩ :: ⟨d2, .fieldAddr s x f, ty2, pos2, after2, g2⟩ :: l) T S F Q = WpR C ops dst (⟨d2, .fieldAddr s x f, ty2, pos2, after2, g2⟩ :: l) T S F Q (opV C.P S T ⟨dst, .buildSlice t n ps, ty, pos, after, none⟩)) ∧
  (∀ {C : Cfg} {ops : Array Oper} {dst : Option Tmp} {ty : TypeId} {pos : String} {after : Array Edge} {l : List Oper} {T : List V} {S : Store} {F : Dfs} {Q : Post} {t : TypeId} {n : Nat} {ps : Array (Nat × Operand)} {d2 : Option Tmp} {ty2 : TypeId} {pos2 : String} {after2 : Array Edge} {g2 : Option (Nat × Bool)} {s : TypeId} {qs : Array (Nat × Operand)}, WpL C ops (⟨dst, .buildSlice t n ps, ty, pos, after, none⟩ :: ⟨d2, .build s qs, ty2, pos2, after2, g2⟩ :: l) T S F Q = WpR C ops dst (⟨d2, .build s qs, ty2, pos2, after2, g2⟩ :: l) T S F Q (opV C.P S T ⟨dst, .buildSlice t n ps, ty, pos, after, none⟩)) ∧
  (∀ {C : Cfg} {ops : Array Oper} {dst : Option Tmp} {ty : TypeId} {pos : String} {after : Array Edge} {l : List Oper} {T : List V} {S : Store} {F : Dfs} {Q : Post} {t : TypeId} {n : Nat} {ps : Array (Nat × Operand)} {d2 : Option Tmp} {ty2 : TypeId} {pos2 : String} {after2 : Array Edge} {g2 : Option (Nat × Bool)} {s : TypeId} {m : Nat} {qs : Array (Nat × Operand)}, WpL C ops (⟨dst, .buildSlice t n ps, ty, pos, after, none⟩ :: ⟨d2, .buildSlice s m qs, ty2, pos2, after2, g2⟩ :: l) T S F Q = WpR C ops dst (⟨d2, .buildSlice s m qs, ty2, pos2, after2, g2⟩ :: l) T S F Q (opV C.P S T ⟨dst, .buildSlice t n ps, ty, pos, after, none⟩)) :=
  ⟨wl_bs_assign, wl_bs_move, wl_bs_fieldAddr, wl_bs_build, wl_bs_bs⟩
end
theorem append_all {P : Program} {S : Store} {t e : TypeId} {xs : List D} (hu : P.underlying t = some (.slice e)) (hz : zOk P e = true) (hs : (sz P e).isSome = true) (hf : ∀ x ∈ xs, fitsD P e x = true) (hr : room P e xs.length = true) :
    ∃ v' S' c, appendV P S t t (.ts []) (.d (.sl xs)) = some (v', S', c) ∧ OwnS S' v' e (xs.map .d) ∧ (∀ j o, S[j]? = some o → S'[j]? = some o ∧ NotAt v' j) ∧ S.length ≤ S'.length := by
  have hft : (xs.map V.d).all (fitsT P e) = true := by
    rw [List.all_map, List.all_eq_true]
    intro x hx
    have h := hf x hx
    unfold fitsD at h
    show fitsT P e (.d x) = true
    unfold fitsT
    simp only [Bool.and_eq_true] at h ⊢
    refine ⟨⟨rfl, h.1⟩, ?_⟩
    simpa [V.cells] using h.2
  have hsrc : srcV P S e t (.d (.sl xs)) = some (xs.map .d) := by
    simp only [srcV, hu, elemsV, hft, hs, Bool.and_self, if_true]
  cases xs with
  | nil => exact ⟨.ts [], S, 1, by simp only [appendV, hu, hsrc, List.map_nil], .inl ⟨rfl, rfl⟩, fun j o hj => ⟨hj, fun off l h => by cases h⟩, Nat.le_refl _⟩
  | cons y r =>
    refine ⟨.rs S.length 0 (r.length + 1), S ++ [.row ((y :: r).map .d) e], 2, ?_, .inr ⟨S.length, by simp, by simp⟩, fun j o hj => ⟨?_, ?_⟩, by simp⟩
    · have hr1 : room P e (0 + (r.length + 1)) = true := by simpa using hr
      simp only [appendV, hu, hsrc, hz, if_true, List.map_cons, List.all_nil, Bool.true_and, List.length_nil, List.length_map, List.map_nil, List.nil_append]
      rw [if_pos hr1, Nat.zero_add]
    · rw [List.getElem?_append_left (getLen hj)]; exact hj
    · intro off l h
      have := getLen hj
      cases h; omega
theorem rowE_app {S : Store} {x : V} {e : TypeId} : rowE (S ++ [.row [x] e]) S.length 0 = some x := rowE_of (e := e) (by simp)
theorem putRow_app {S : Store} {x y : V} {e : TypeId} : putRow (S ++ [.row [x] e]) S.length 0 y = some (S ++ [.row [y] e]) := by
  rw [putRow_of (x := x) (e := e) (by simp)]
  simp
end Go.Vm
end
/-! The document's model: rows of bytes: parts, and bytes laid over others. -/
section
set_option linter.unusedVariables false
set_option linter.unusedSimpArgs false
set_option maxRecDepth 10000
set_option maxHeartbeats 2000000
namespace Go.Proofs.Ytghllhghboaagaa
open Go.Vm
theorem ffB {l : List UInt8} : fitsT Try.prog 29 (.d (encB l)) = true := by kernel_rfl
theorem ldB {S : Store} {l : List UInt8} : loadV Try.prog S 29 (.d (.ptr (encB l))) = some (.d (encB l)) := by kernel_rfl
theorem lenB {S : Store} {l : List UInt8} : builtinV Try.prog S .len [29] [.d (encB l)] = some (.val (.d (.int .i64 l.length)) S 0) := by
  unfold encB; rw [len29, List.length_map]
theorem ixB {S : Store} {l : List UInt8} {i : Nat} (h : i < l.length) : indexAddrV Try.prog S 29 (.d (encB l)) (.d (.int .i64 i)) = some (.d (.ptr (.int .u8 (l[i].toNat : Int)))) := ix29 h
def layA (at_ : Int) (data : List UInt8) : Nat → List UInt8 → List UInt8
  | _, [] => []
  | i, x :: r => (if 0 ≤ at_ ∧ at_ ≤ i ∧ (i : Int) - at_ < data.length then data.getD ((i : Int) - at_).toNat 0 else x) :: layA at_ data (i + 1) r
def layN (b : List UInt8) (at_ : Int) (data : List UInt8) : List UInt8 := layA at_ data 0 b
theorem len_layA {a : Int} {d : List UInt8} : ∀ {i : Nat} {l : List UInt8}, (layA a d i l).length = l.length
  | _, [] => rfl
  | i, x :: r => by simp [layA, len_layA]
theorem len_layN {b d : List UInt8} {a : Int} : (layN b a d).length = b.length := len_layA
theorem lay_l (b data : List UInt8) (at_ : Int) (hl : b.length < 1000000) (hd : data.length < 1000000) (h1 : 0 ≤ at_) (h2 : at_ ≤ 1000000) (R : Post) (g6 : V) : ∀ (k i : Nat) (xs : List UInt8) (S : Store) (v7 g9 g10 g11 g12 g13 g14 g15 g16 g17 g18 g19 g20 g21 g22 g23 g24 g25 g26 g27 g28 g29 g30 g31 g32 g33 g34 g35 g36 g37 g38 g39 g40 g41 g42 g43 g44 g45 : V),
   b.length - i = k → i ≤ b.length → xs.length = i → OwnS S v7 5 (xs.map fun x => .d (.int .u8 x.toNat)) →
   (∀ S v7 i' ys g9 g10 g11 g12 g13 g14 g15 g16 g17 g18 g19 g20 g21 g22 g23 g24 g25 g26 g27 g28 g29 g30 g31 g32 g33 g34 g35 g36 g37 g38 g39 g40 g41 g42 g43 g44 g45, ys = xs ++ layA at_ data i (b.drop i) → OwnS S v7 5 (ys.map fun x => .d (.int .u8 x.toNat)) → R (.exit 0) ((.d (encB b)) :: (.d (.int .i64 at_)) :: (.d (encB data)) :: (.tup []) :: (.tup []) :: (.tup []) :: g6 :: v7 :: i' :: g9 :: g10 :: g11 :: g12 :: g13 :: g14 :: g15 :: g16 :: g17 :: g18 :: g19 :: g20 :: g21 :: g22 :: g23 :: g24 :: g25 :: g26 :: g27 :: g28 :: g29 :: g30 :: g31 :: g32 :: g33 :: g34 :: g35 :: g36 :: g37 :: g38 :: g39 :: g40 :: g41 :: g42 :: g43 :: g44 :: g45 :: []) S []) →
   Wp cfg (.loop (lpOf (Try.f94.body.getD .skip) 0)) ((.d (encB b)) :: (.d (.int .i64 at_)) :: (.d (encB data)) :: (.tup []) :: (.tup []) :: (.tup []) :: g6 :: v7 :: (.d (.int .i64 i)) :: g9 :: g10 :: g11 :: g12 :: g13 :: g14 :: g15 :: g16 :: g17 :: g18 :: g19 :: g20 :: g21 :: g22 :: g23 :: g24 :: g25 :: g26 :: g27 :: g28 :: g29 :: g30 :: g31 :: g32 :: g33 :: g34 :: g35 :: g36 :: g37 :: g38 :: g39 :: g40 :: g41 :: g42 :: g43 :: g44 :: g45 :: []) S [] R := by
  intro k
  induction k with
  | zero =>
    intro i xs S v7 g9 g10 g11 g12 g13 g14 g15 g16 g17 g18 g19 g20 g21 g22 g23 g24 g25 g26 g27 g28 g29 g30 g31 g32 g33 g34 g35 g36 g37 g38 g39 g40 g41 g42 g43 g44 g45 hk hi hxl ho hR
    have hie : i = b.length := by omega
    rw [wk_of]
    refine wk_loop ?_
    conv => arg 2; whnf
    simp (maxSteps := 1000000) (disch := first | assumption | omega | rfl) only [↓vmp, vme, vmb, ty, hP, dec_t, dec_f, wrap64, List.length_map, Int.toNat_natCast, Nat.reduceAdd, List.cons_append, List.nil_append, Option.map_some, Option.map_none, strOf_mk, sb_eql, sb_neq, vmg, ↓vgd, ↓vst, ↓vix, lenB]
    exact hR _ _ _ xs _ _ _ _ _ _ _ _ _ _ _ _ _ _ _ _ _ _ _ _ _ _ _ _ _ _ _ _ _ _ _ _ _ _ _ _ _ (by rw [hie, List.drop_length]; simp [layA]) ho
  | succ k ih =>
    intro i xs S v7 g9 g10 g11 g12 g13 g14 g15 g16 g17 g18 g19 g20 g21 g22 g23 g24 g25 g26 g27 g28 g29 g30 g31 g32 g33 g34 g35 g36 g37 g38 g39 g40 g41 g42 g43 g44 g45 hk hi hxl ho hR
    have hlt : i < b.length := by omega
    have hdr : b.drop i = b[i] :: b.drop (i + 1) := List.drop_eq_getElem_cons hlt
    rw [hdr] at hR
    rw [wk_of]
    refine wk_loop ?_
    conv => arg 2; whnf
    by_cases c1 : (i : Int) ≥ at_
    · by_cases c2 : (i : Int) - at_ < data.length
      · obtain ⟨j, hj⟩ : ∃ j : Nat, (i : Int) - at_ = j := ⟨((i : Int) - at_).toNat, by omega⟩
        have hjl : j < data.length := by omega
        have hix := ixB (S := S) hjl
        rw [← hj] at hix
        obtain ⟨v', S', c, ha, ho', hfr, hlen⟩ := ap29 data[j] ho (by omega)
        simp (maxSteps := 1000000) (disch := first | assumption | omega | rfl) only [↓vmp, vme, vmb, ty, hP, dec_t, dec_f, wrap64, List.length_map, Int.toNat_natCast, Nat.reduceAdd, List.cons_append, List.nil_append, Option.map_some, Option.map_none, strOf_mk, sb_eql, sb_neq, vmg, ↓vgd, ↓vst, ↓vix, lenB, ixB, hix, ld5, ha]
        exact ih (i + 1) (xs ++ [data[j]]) S' v' _ _ _ _ _ _ _ _ _ _ _ _ _ _ _ _ _ _ _ _ _ _ _ _ _ _ _ _ _ _ _ _ _ _ _ _ _ (by omega) (by omega) (by simp; omega) ho' (fun S v7 i' ys g9 g10 g11 g12 g13 g14 g15 g16 g17 g18 g19 g20 g21 g22 g23 g24 g25 g26 g27 g28 g29 g30 g31 g32 g33 g34 g35 g36 g37 g38 g39 g40 g41 g42 g43 g44 g45 hy => hR S v7 i' ys g9 g10 g11 g12 g13 g14 g15 g16 g17 g18 g19 g20 g21 g22 g23 g24 g25 g26 g27 g28 g29 g30 g31 g32 g33 g34 g35 g36 g37 g38 g39 g40 g41 g42 g43 g44 g45 (by
          rw [hy]; simp only [layA]; rw [if_pos ⟨h1, c1, c2⟩, hj, Int.toNat_natCast, List.getD_eq_getElem?_getD, List.getElem?_eq_getElem hjl]; simp))
      · obtain ⟨v', S', c, ha, ho', hfr, hlen⟩ := ap29 b[i] ho (by omega)
        simp (maxSteps := 1000000) (disch := first | assumption | omega | rfl) only [↓vmp, vme, vmb, ty, hP, dec_t, dec_f, wrap64, List.length_map, Int.toNat_natCast, Nat.reduceAdd, List.cons_append, List.nil_append, Option.map_some, Option.map_none, strOf_mk, sb_eql, sb_neq, vmg, ↓vgd, ↓vst, ↓vix, lenB, ixB, ld5, ha]
        exact ih (i + 1) (xs ++ [b[i]]) S' v' _ _ _ _ _ _ _ _ _ _ _ _ _ _ _ _ _ _ _ _ _ _ _ _ _ _ _ _ _ _ _ _ _ _ _ _ _ (by omega) (by omega) (by simp; omega) ho' (fun S v7 i' ys g9 g10 g11 g12 g13 g14 g15 g16 g17 g18 g19 g20 g21 g22 g23 g24 g25 g26 g27 g28 g29 g30 g31 g32 g33 g34 g35 g36 g37 g38 g39 g40 g41 g42 g43 g44 g45 hy => hR S v7 i' ys g9 g10 g11 g12 g13 g14 g15 g16 g17 g18 g19 g20 g21 g22 g23 g24 g25 g26 g27 g28 g29 g30 g31 g32 g33 g34 g35 g36 g37 g38 g39 g40 g41 g42 g43 g44 g45 (by
          rw [hy]; simp only [layA]; rw [if_neg (fun h => c2 h.2.2)]; simp))
    · obtain ⟨v', S', c, ha, ho', hfr, hlen⟩ := ap29 b[i] ho (by omega)
      simp (maxSteps := 1000000) (disch := first | assumption | omega | rfl) only [↓vmp, vme, vmb, ty, hP, dec_t, dec_f, wrap64, List.length_map, Int.toNat_natCast, Nat.reduceAdd, List.cons_append, List.nil_append, Option.map_some, Option.map_none, strOf_mk, sb_eql, sb_neq, vmg, ↓vgd, ↓vst, ↓vix, lenB, ixB, ld5, ha]
      exact ih (i + 1) (xs ++ [b[i]]) S' v' _ _ _ _ _ _ _ _ _ _ _ _ _ _ _ _ _ _ _ _ _ _ _ _ _ _ _ _ _ _ _ _ _ _ _ _ _ (by omega) (by omega) (by simp; omega) ho' (fun S v7 i' ys g9 g10 g11 g12 g13 g14 g15 g16 g17 g18 g19 g20 g21 g22 g23 g24 g25 g26 g27 g28 g29 g30 g31 g32 g33 g34 g35 g36 g37 g38 g39 g40 g41 g42 g43 g44 g45 hy => hR S v7 i' ys g9 g10 g11 g12 g13 g14 g15 g16 g17 g18 g19 g20 g21 g22 g23 g24 g25 g26 g27 g28 g29 g30 g31 g32 g33 g34 g35 g36 g37 g38 g39 g40 g41 g42 g43 g44 g45 (by
        rw [hy]; simp only [layA]; rw [if_neg (fun h => c1 h.2.1)]; simp))
theorem lay_ok (b data : List UInt8) (at_ : Int) (hl : b.length < 1000000) (hd : data.length < 1000000) (h1 : 0 ≤ at_) (h2 : at_ ≤ 1000000) : Ev cfg 94 [encB b, .int .i64 at_, encB data] (.ret (.d (encB (layN b at_ data)))) := by
  refine ev_of rfl rfl body94 ?_
  show Wp cfg (Try.f94.body.getD .skip) ((.d (encB b)) :: (.d (.int .i64 at_)) :: (.d (encB data)) :: (.tup []) :: (.tup []) :: (.tup []) :: (.tup []) :: (.tup []) :: (.tup []) :: (.tup []) :: (.tup []) :: (.tup []) :: (.tup []) :: (.tup []) :: (.tup []) :: (.tup []) :: (.tup []) :: (.tup []) :: (.tup []) :: (.tup []) :: (.tup []) :: (.tup []) :: (.tup []) :: (.tup []) :: (.tup []) :: (.tup []) :: (.tup []) :: (.tup []) :: (.tup []) :: (.tup []) :: (.tup []) :: (.tup []) :: (.tup []) :: (.tup []) :: (.tup []) :: (.tup []) :: (.tup []) :: (.tup []) :: (.tup []) :: (.tup []) :: (.tup []) :: (.tup []) :: (.tup []) :: (.tup []) :: (.tup []) :: (.tup []) :: []) [] [] _
  conv => arg 2; whnf
  simp (maxSteps := 1000000) (disch := first | assumption | omega | rfl) only [↓vmp, vme, vmb, ty, hP, dec_t, dec_f, wrap64, List.length_map, Int.toNat_natCast, Nat.reduceAdd, List.cons_append, List.nil_append, Option.map_some, Option.map_none, strOf_mk, sb_eql, sb_neq, vmg, ↓vgd, ↓vst, ↓vix]
  refine lay_l b data at_ hl hd h1 h2 _ _ b.length 0 [] [] _ _ _ _ _ _ _ _ _ _ _ _ _ _ _ _ _ _ _ _ _ _ _ _ _ _ _ _ _ _ _ _ _ _ _ _ _ _ rfl (by omega) rfl OwnS.nil ?_
  intro S v7 i' ys g9 g10 g11 g12 g13 g14 g15 g16 g17 g18 g19 g20 g21 g22 g23 g24 g25 g26 g27 g28 g29 g30 g31 g32 g33 g34 g35 g36 g37 g38 g39 g40 g41 g42 g43 g44 g45 hy ho
  simp (maxSteps := 1000000) (disch := first | assumption | omega | rfl) only [↓vmp, vme, vmb, ty, hP, dec_t, dec_f, wrap64, List.length_map, Int.toNat_natCast, Nat.reduceAdd, List.cons_append, List.nil_append, Option.map_some, Option.map_none, strOf_mk, sb_eql, sb_neq, vmg, ↓vgd, ↓vst, ↓vix]
  rw [List.nil_append, List.drop_zero] at hy
  change ys = layN b at_ data at hy
  subst hy
  exact retQ_one rfl (own_one ho) (own_frz' (enc := fun x : UInt8 => D.int .u8 x.toNat) ho)
def partN (b : List UInt8) (off n : Int) : List UInt8 := if off < 0 ∨ n < 1 ∨ b.length ≤ off then [] else (b.take (if (b.length : Int) - off < n then (b.length : Int) else off + n).toNat).drop off.toNat
theorem part_ok (b : List UInt8) (off n : Int) (hl : b.length < 1000000) : Ev cfg 93 [encB b, .int .i64 off, .int .i64 n] (.ret (.d (encB (partN b off n)))) := by
  refine ev_of rfl rfl body93 ?_
  show Wp cfg (Try.f93.body.getD .skip) ((.d (encB b)) :: (.d (.int .i64 off)) :: (.d (.int .i64 n)) :: (.tup []) :: (.tup []) :: (.tup []) :: (.tup []) :: (.tup []) :: (.tup []) :: (.tup []) :: (.tup []) :: (.tup []) :: (.tup []) :: (.tup []) :: (.tup []) :: (.tup []) :: (.tup []) :: (.tup []) :: (.tup []) :: (.tup []) :: (.tup []) :: (.tup []) :: (.tup []) :: (.tup []) :: (.tup []) :: (.tup []) :: (.tup []) :: (.tup []) :: (.tup []) :: (.tup []) :: (.tup []) :: (.tup []) :: (.tup []) :: (.tup []) :: (.tup []) :: []) [] [] _
  conv => arg 2; whnf
  generalize hr : partN b off n = r
  unfold partN at hr
  by_cases c1 : off < 0
  · skip
    simp (maxSteps := 1000000) (disch := first | assumption | omega | rfl) only [↓vmp, vme, vmb, ty, hP, dec_t, dec_f, wrap64, List.length_map, Int.toNat_natCast, Nat.reduceAdd, List.cons_append, List.nil_append, Option.map_some, Option.map_none, strOf_mk, sb_eql, sb_neq, vmg, ↓vgd, ↓vst, ↓vix]
    rw [if_pos (.inl c1)] at hr; subst hr
    exact retQ_one rfl rfl rfl
  · by_cases c2 : n < 1
    · skip
      simp (maxSteps := 1000000) (disch := first | assumption | omega | rfl) only [↓vmp, vme, vmb, ty, hP, dec_t, dec_f, wrap64, List.length_map, Int.toNat_natCast, Nat.reduceAdd, List.cons_append, List.nil_append, Option.map_some, Option.map_none, strOf_mk, sb_eql, sb_neq, vmg, ↓vgd, ↓vst, ↓vix]
      rw [if_pos (.inr (.inl c2))] at hr; subst hr
      exact retQ_one rfl rfl rfl
    · by_cases c3 : off ≥ b.length
      · skip
        simp (maxSteps := 1000000) (disch := first | assumption | omega | rfl) only [↓vmp, vme, vmb, ty, hP, dec_t, dec_f, wrap64, List.length_map, Int.toNat_natCast, Nat.reduceAdd, List.cons_append, List.nil_append, Option.map_some, Option.map_none, strOf_mk, sb_eql, sb_neq, vmg, ↓vgd, ↓vst, ↓vix, lenB]
        rw [if_pos (.inr (.inr c3))] at hr; subst hr
        exact retQ_one rfl rfl rfl
      · rw [if_neg (by omega)] at hr
        have hsl := fun (hi : Int) (h2 : hi ≤ b.length) (h1 : off ≤ hi) => slc_sl (S := []) (P := Try.prog) (t := 29) (e := 5) (xs := b.map fun b => .int .u8 b.toNat) (lo := off) (hi := hi) Try.underlying29 (by simp only [List.all_map, List.all_eq_true]; intro x _; exact fits5 _) szo29 (by omega) h1 (by simp only [List.length_map]; omega)
        by_cases c4 : n > (b.length : Int) - off
        · have h2 := hsl (off + ((b.length : Int) - off)) (by omega) (by omega)
          change sliceV _ _ _ (.d (encB b)) _ _ = _ at h2
          simp (maxSteps := 1000000) (disch := first | assumption | omega | rfl) only [↓vmp, vme, vmb, ty, hP, dec_t, dec_f, wrap64, List.length_map, Int.toNat_natCast, Nat.reduceAdd, List.cons_append, List.nil_append, Option.map_some, Option.map_none, strOf_mk, sb_eql, sb_neq, vmg, ↓vgd, ↓vst, ↓vix, lenB, h2]
          rw [if_pos (by omega)] at hr; subst hr
          rw [show off + ((b.length : Int) - off) = b.length by omega, ← List.map_take, ← List.map_drop]
          exact retQ_one rfl rfl rfl
        · have h2 := hsl (off + n) (by omega) (by omega)
          change sliceV _ _ _ (.d (encB b)) _ _ = _ at h2
          simp (maxSteps := 1000000) (disch := first | assumption | omega | rfl) only [↓vmp, vme, vmb, ty, hP, dec_t, dec_f, wrap64, List.length_map, Int.toNat_natCast, Nat.reduceAdd, List.cons_append, List.nil_append, Option.map_some, Option.map_none, strOf_mk, sb_eql, sb_neq, vmg, ↓vgd, ↓vst, ↓vix, lenB, h2]
          rw [if_neg (by omega)] at hr; subst hr
          rw [← List.map_take, ← List.map_drop]
          exact retQ_one rfl rfl rfl
theorem call_lay {ops : Array Oper} {dst : Option Tmp} {l : List Oper} {T : List V} {S : Store} {F : Dfs} {Q : Post} {b data : List UInt8} {at_ : Int} (hl : b.length < 1000000) (hd : data.length < 1000000) (h1 : 0 ≤ at_) (h2 : at_ ≤ 1000000) :
    WpR cfg ops dst l T S F Q (some (.enter 94 [.d (encB b), .d (.int .i64 at_), .d (encB data)])) = WpL cfg ops l (putT T dst (.d (encB (layN b at_ data)))) S F Q :=
  wr_call_d (ds := [encB b, .int .i64 at_, encB data]) rfl (lay_ok b data at_ hl hd h1 h2)
theorem call_part {ops : Array Oper} {dst : Option Tmp} {l : List Oper} {T : List V} {S : Store} {F : Dfs} {Q : Post} {b : List UInt8} {off n : Int} (hl : b.length < 1000000) :
    WpR cfg ops dst l T S F Q (some (.enter 93 [.d (encB b), .d (.int .i64 off), .d (.int .i64 n)])) = WpL cfg ops l (putT T dst (.d (encB (partN b off n)))) S F Q :=
  wr_call_d (ds := [encB b, .int .i64 off, .int .i64 n]) rfl (part_ok b off n hl)
theorem dr_lay0 {ops : Array Oper} {F : Dfs} {Q : Post} {K : List Nat → List (Nat × Nat) → List V → Store → Prop} {rd : List Nat} {cs : List (Nat × Nat)} {i id n : Nat} {dst : Option Tmp} {T : List V} {S : Store} {data : List UInt8} (hn : n < 1000000) (hd : data.length < 1000000) (hr : S[id]? = some (.row (List.replicate n (.d (.int .u8 0))) 5)) :
    WpE cfg ops F Q K rd cs i dst T S (some (.enter 94 [.rs id 0 n, .d (.int .i64 0), .d (encB data)])) = (bitsOk ops rd i 3 ∧ K rd (cs ++ [(i, 3)]) (putT T dst (.d (encB (layN (List.replicate n 0) 0 data)))) (S.set id (.fz (List.replicate n (.int .u8 0)) 5))) := by
  have hr' : S[id]? = some (.row ((List.replicate n (D.int .u8 0)).map .d) 5) := by rw [hr, rep_map]
  have hrb : encB (List.replicate n 0) = .sl (List.replicate n (D.int .u8 0)) := by simp [encB]
  refine we_call_row (ds := [encB (List.replicate n 0), .int .i64 0, encB data]) rfl ?_ ?_ hr' rfl (lay_ok _ data 0 (by simp; exact hn) hd (by omega) (by omega))
  · have h1 : frz S frzFuel (.rs id 0 n) = some (encB (List.replicate n 0)) := by
      rw [hrb]
      have := own_frz (S := S) (v := .rs id 0 n) (e := 5) (ds := List.replicate n (D.int .u8 0)) (.inr ⟨id, by simp, hr'⟩)
      exact this
    simp only [allO, frz_d, h1]
  · have h1 : frzIds S frzFuel (.rs id 0 n) = [id] := by
      show (match S[id]? with | some (.row xs e) => id :: xs.flatMap (frzIds S 11) | _ => []) = _
      rw [hr']
      simp only [flat_d]
    simp only [List.flatMap_cons, h1, List.flatMap_nil, frzIds_d, List.append_nil]
end Go.Proofs.Ytghllhghboaagaa
end
/-! The document's model: Bytes. -/
section
set_option linter.unusedVariables false
set_option linter.unusedSimpArgs false
set_option maxRecDepth 10000
set_option maxHeartbeats 4000000
namespace Go.Proofs.Ytghllhghboaagaa
open Go.Vm
def cutN (n : Node) (m : Int) : Node := ⟨n.ino, n.kind, n.links, n.parent, m, layN (List.replicate m.toNat 0) 0 n.data, n.names⟩
def sizeW (n : Node) (o : Opn) : Int := if n.size > o.off + o.data.length then n.size else o.off + o.data.length
def writeN (n : Node) (o : Opn) : Node := ⟨n.ino, n.kind, n.links, n.parent, sizeW n o, layN (layN (List.replicate (sizeW n o).toNat 0) 0 n.data) o.off o.data, n.names⟩
def readA (l : List UInt8) : Ans := ⟨0, 0, 0, 0, 0, l, []⟩
/-- Of a file. -/
def bytesA (t : List Node) (n : Node) (o : Opn) : List Node × Ans :=
  if n.kind = 2 then (t, failN 7)
  else if o.does = 7 then
    if o.off < 0 then (t, failN 1)
    else if o.off > 34304 - o.data.length then (t, failN 11)
    else if o.data.length = 0 then (t, okN)
    else (withN t (writeN n o), okN)
  else if o.does = 8 then
    if o.off < 0 then (t, failN 1)
    else if o.n < 0 then (t, failN 1)
    else (t, readA (partN n.data o.off o.n))
  else if o.n < 0 then (t, failN 1)
  else if o.n > 34304 then (t, failN 11)
  else (withN t (cutN n o.n), okN)
def bytesN (t : List Node) (o : Opn) : List Node × Ans :=
  if (resolveN t o.a).2 ≠ 0 then (t, failN (resolveN t o.a).2) else bytesA t (getN t (resolveN t o.a).1) o
theorem z5 : zeroV Try.prog 5 = some (.d (.int .u8 0)) := by kernel_rfl
theorem bd52_5 {l : List UInt8} : buildV Try.prog 52 [(5, .d (encB l))] = some (.agg [.d (.int .i64 0), .d (.int .i64 0), .d (.int .i64 0), .d (.int .i64 0), .d (.int .i64 0), .d (encB l), .ts []]) := by kernel_rfl
theorem srB {a : Node} {l : List UInt8} : storeR Try.prog 29 5 (.d (encB l)) (.d (encNode a)) = some (.agg [.d (.int .i64 a.ino), .d (.int .i64 a.kind), .d (.int .i64 a.links), .d (.int .i64 a.parent), .d (.int .i64 a.size), .d (encB l), .d (.sl (a.names.map encEnt))]) := by kernel_rfl
theorem bytes_ok (t : List Node) (k0 : Nat) (hk0 : k0 < 200000) (hS : Small k0 t) (o : Opn) (ha : o.a.length < 1000000) (hd : o.data.length ≤ 1024) (hdo : o.does = 7 ∨ o.does = 8 ∨ o.does = 9) : Ev cfg 51 [.sl (t.map encNode), encOpn o] (.ret (.tup [.d (.sl ((bytesN t o).1.map encNode)), .d (encAns (bytesN t o).2)])) := by
  refine ev_of rfl rfl body51 ?_
  show Wp cfg (Try.f51.body.getD .skip) ((.d (.sl (t.map encNode))) :: (.d (encOpn o)) :: (.tup []) :: (.tup []) :: (.tup []) :: (.tup []) :: (.tup []) :: (.tup []) :: (.tup []) :: (.tup []) :: (.tup []) :: (.tup []) :: (.tup []) :: (.tup []) :: (.tup []) :: (.tup []) :: (.tup []) :: (.tup []) :: (.tup []) :: (.tup []) :: (.tup []) :: (.tup []) :: (.tup []) :: (.tup []) :: (.tup []) :: (.tup []) :: (.tup []) :: (.tup []) :: (.tup []) :: (.tup []) :: (.tup []) :: (.tup []) :: (.tup []) :: (.tup []) :: (.tup []) :: (.tup []) :: (.tup []) :: (.tup []) :: (.tup []) :: (.tup []) :: (.tup []) :: (.tup []) :: (.tup []) :: (.tup []) :: (.tup []) :: (.tup []) :: (.tup []) :: (.tup []) :: (.tup []) :: (.tup []) :: (.tup []) :: (.tup []) :: (.tup []) :: (.tup []) :: (.tup []) :: (.tup []) :: (.tup []) :: (.tup []) :: (.tup []) :: (.tup []) :: (.tup []) :: (.tup []) :: (.tup []) :: (.tup []) :: (.tup []) :: (.tup []) :: (.tup []) :: (.tup []) :: (.tup []) :: (.tup []) :: (.tup []) :: (.tup []) :: (.tup []) :: (.tup []) :: (.tup []) :: (.tup []) :: (.tup []) :: (.tup []) :: (.tup []) :: (.tup []) :: (.tup []) :: (.tup []) :: (.tup []) :: (.tup []) :: (.tup []) :: (.tup []) :: (.tup []) :: (.tup []) :: (.tup []) :: (.tup []) :: (.tup []) :: (.tup []) :: (.tup []) :: (.tup []) :: (.tup []) :: (.tup []) :: (.tup []) :: (.tup []) :: (.tup []) :: (.tup []) :: (.tup []) :: (.tup []) :: (.tup []) :: (.tup []) :: (.tup []) :: (.tup []) :: (.tup []) :: (.tup []) :: (.tup []) :: (.tup []) :: (.tup []) :: (.tup []) :: (.tup []) :: (.tup []) :: (.tup []) :: (.tup []) :: (.tup []) :: (.tup []) :: (.tup []) :: (.tup []) :: (.tup []) :: (.tup []) :: (.tup []) :: (.tup []) :: (.tup []) :: (.tup []) :: (.tup []) :: (.tup []) :: (.tup []) :: (.tup []) :: (.tup []) :: (.tup []) :: (.tup []) :: (.tup []) :: (.tup []) :: (.tup []) :: (.tup []) :: (.tup []) :: (.tup []) :: (.tup []) :: (.tup []) :: (.tup []) :: (.tup []) :: (.tup []) :: (.tup []) :: (.tup []) :: (.tup []) :: []) [] [] _
  conv => arg 2; whnf
  have hk1 : k0 < 300000 := by omega
  have hlt : t.length < 400000 := Nat.lt_of_le_of_lt hS.len (by omega)
  have hlt' : t.length < 1000000 := by omega
  simp (maxSteps := 1000000) (disch := first | assumption | omega | rfl) only [↓vmp, vme, vmb, ty, hP, dec_t, dec_f, wrap64, List.length_map, Int.toNat_natCast, Nat.reduceAdd, List.cons_append, List.nil_append, Option.map_some, Option.map_none, strOf_mk, sb_eql, sb_neq, vmg, ↓vgd, ↓vst, ↓vix, call_resolve hS hk1]
  generalize hr : bytesN t o = r
  unfold bytesN at hr
  generalize resolveN t o.a = w at hr ⊢
  obtain ⟨ino, e⟩ := w
  simp only at hr
  have hsz := hS.gsiz ino
  obtain ⟨hs0, hs1, hs2⟩ := hsz
  by_cases h1 : e = 0
  · simp (maxSteps := 1000000) (disch := first | assumption | omega | rfl) only [↓vmp, vme, vmb, ty, hP, dec_t, dec_f, wrap64, List.length_map, Int.toNat_natCast, Nat.reduceAdd, List.cons_append, List.nil_append, Option.map_some, Option.map_none, strOf_mk, sb_eql, sb_neq, vmg, ↓vgd, ↓vst, ↓vix, call_get]
    rw [if_neg (by simp [h1])] at hr
    generalize getN t ino = n at hr hs0 hs1 hs2 ⊢
    have hdl : n.data.length < 1000000 := by omega
    unfold bytesA at hr
    by_cases k : n.kind = 2
    · skip
      simp (maxSteps := 1000000) (disch := first | assumption | omega | rfl) only [↓vmp, vme, vmb, ty, hP, dec_t, dec_f, wrap64, List.length_map, Int.toNat_natCast, Nat.reduceAdd, List.cons_append, List.nil_append, Option.map_some, Option.map_none, strOf_mk, sb_eql, sb_neq, vmg, ↓vgd, ↓vst, ↓vix, call_fail]
      rw [if_pos k] at hr
      subst hr
      exact retQ_tc rfl rfl (x := .d (encAns (failN 7))) (by kernel_rfl) rfl rfl rfl rfl
    · rw [if_neg k] at hr
      by_cases d7 : o.does = 7
      · have d8 : ¬ o.does = 8 := by omega
        have d9 : ¬ o.does = 9 := by omega
        rw [if_pos d7] at hr
        by_cases c1 : o.off < 0
        · skip
          simp (maxSteps := 1000000) (disch := first | assumption | omega | rfl) only [↓vmp, vme, vmb, ty, hP, dec_t, dec_f, wrap64, List.length_map, Int.toNat_natCast, Nat.reduceAdd, List.cons_append, List.nil_append, Option.map_some, Option.map_none, strOf_mk, sb_eql, sb_neq, vmg, ↓vgd, ↓vst, ↓vix, call_fail]
          rw [if_pos c1] at hr
          subst hr
          exact retQ_tc rfl rfl (x := .d (encAns (failN 1))) (by kernel_rfl) rfl rfl rfl rfl
        · rw [if_neg c1] at hr
          by_cases c2 : o.off > 34304 - o.data.length
          · skip
            simp (maxSteps := 1000000) (disch := first | assumption | omega | rfl) only [↓vmp, vme, vmb, ty, hP, dec_t, dec_f, wrap64, List.length_map, Int.toNat_natCast, Nat.reduceAdd, List.cons_append, List.nil_append, Option.map_some, Option.map_none, strOf_mk, sb_eql, sb_neq, vmg, ↓vgd, ↓vst, ↓vix, call_fail, lenB, ffB]
            rw [if_pos c2] at hr
            subst hr
            exact retQ_tc rfl rfl (x := .d (encAns (failN 11))) (by kernel_rfl) rfl rfl rfl rfl
          · rw [if_neg c2] at hr
            by_cases c3 : o.data.length = 0
            · skip
              simp (maxSteps := 1000000) (disch := first | assumption | omega | rfl) only [↓vmp, vme, vmb, ty, hP, dec_t, dec_f, wrap64, List.length_map, Int.toNat_natCast, Nat.reduceAdd, List.cons_append, List.nil_append, Option.map_some, Option.map_none, strOf_mk, sb_eql, sb_neq, vmg, ↓vgd, ↓vst, ↓vix, call_fail, lenB, ffB, bd52_0]
              rw [if_pos c3] at hr
              subst hr
              exact retQ_tc rfl rfl (x := .agg [.d (.int .i64 0), .d (.int .i64 0), .d (.int .i64 0), .d (.int .i64 0), .d (.int .i64 0), .ts [], .ts []]) (by kernel_rfl) rfl rfl rfl rfl
            · rw [if_neg c3] at hr
              have hz0 : fitsT Try.prog 5 (.d (.int .u8 0)) = true := fitsT5 0
              by_cases c4 : n.size > o.off + o.data.length
              · have hsw : sizeW n o = n.size := if_pos c4
                have hroom : room Try.prog 5 n.size.toNat = true := room29 (by omega)
                have hsn : n.size.toNat < 1000000 := by omega
                have hbl : (layN (List.replicate n.size.toNat 0) 0 n.data).length < 1000000 := by rw [len_layN, List.length_replicate]; omega
                simp (maxSteps := 1000000) (disch := first | assumption | omega | rfl) only [↓vmp, vme, vmb, ty, hP, dec_t, dec_f, wrap64, List.length_map, Int.toNat_natCast, Nat.reduceAdd, List.cons_append, List.nil_append, Option.map_some, Option.map_none, strOf_mk, sb_eql, sb_neq, vmg, ↓vgd, ↓vst, ↓vix, lenB, ffB]
                refine wk_draw (is := [0, 2, 3, 1, 4, 5]) (h := 6) (by kernel_rfl) (by kernel_rfl) ?_
                simp (maxSteps := 1000000) (disch := first | assumption | omega | rfl) only [List.replicate_zero, eq_self, vmd, vmk, vmo, vmg, vme, vmb, ty, hP, dec_t, dec_f, wrap64, List.length_map, Int.toNat_natCast, Nat.reduceAdd, ↓vgd, ↓vst, ↓vix, vso, wa_some, ak_make, ad_make Try.underlying29 z5, mk_in hroom hz0, true_and]
                rw [dr_lay0 hsn hdl rfl]
                refine ⟨fun _ => by kernel_rfl, ?_⟩
                simp (maxSteps := 1000000) (disch := first | assumption | omega | rfl) only [List.replicate_zero, eq_self, vmd, vmk, vmo, vmg, vme, vmb, ty, hP, dec_t, dec_f, wrap64, List.length_map, Int.toNat_natCast, Nat.reduceAdd, ↓vgd, ↓vst, ↓vix, vso]
                refine ⟨by kernel_rfl, ?_⟩
                simp (maxSteps := 1000000) (disch := first | assumption | omega | rfl) only [↓vmp, vme, vmb, ty, hP, dec_t, dec_f, wrap64, List.length_map, Int.toNat_natCast, Nat.reduceAdd, List.cons_append, List.nil_append, Option.map_some, Option.map_none, strOf_mk, sb_eql, sb_neq, vmg, ↓vgd, ↓vst, ↓vix, call_lay, ffB, srB, call_withA, bd52_0]
                subst hr
                unfold writeN
                rw [hsw]
                exact retQ_tc rfl rfl (x := .agg [.d (.int .i64 0), .d (.int .i64 0), .d (.int .i64 0), .d (.int .i64 0), .d (.int .i64 0), .ts [], .ts []]) (by kernel_rfl) rfl rfl rfl rfl
              · have hsw : sizeW n o = o.off + o.data.length := if_neg c4
                have hroom : room Try.prog 5 (o.off + o.data.length).toNat = true := room29 (by omega)
                have hsn : (o.off + o.data.length).toNat < 1000000 := by omega
                have hbl : (layN (List.replicate (o.off + o.data.length).toNat 0) 0 n.data).length < 1000000 := by rw [len_layN, List.length_replicate]; omega
                simp (maxSteps := 1000000) (disch := first | assumption | omega | rfl) only [↓vmp, vme, vmb, ty, hP, dec_t, dec_f, wrap64, List.length_map, Int.toNat_natCast, Nat.reduceAdd, List.cons_append, List.nil_append, Option.map_some, Option.map_none, strOf_mk, sb_eql, sb_neq, vmg, ↓vgd, ↓vst, ↓vix, lenB, ffB]
                refine wk_draw (is := [0, 2, 3, 1, 4, 5]) (h := 6) (by kernel_rfl) (by kernel_rfl) ?_
                simp (maxSteps := 1000000) (disch := first | assumption | omega | rfl) only [List.replicate_zero, eq_self, vmd, vmk, vmo, vmg, vme, vmb, ty, hP, dec_t, dec_f, wrap64, List.length_map, Int.toNat_natCast, Nat.reduceAdd, ↓vgd, ↓vst, ↓vix, vso, wa_some, ak_make, ad_make Try.underlying29 z5, mk_in hroom hz0, true_and]
                rw [dr_lay0 hsn hdl rfl]
                refine ⟨fun _ => by kernel_rfl, ?_⟩
                simp (maxSteps := 1000000) (disch := first | assumption | omega | rfl) only [List.replicate_zero, eq_self, vmd, vmk, vmo, vmg, vme, vmb, ty, hP, dec_t, dec_f, wrap64, List.length_map, Int.toNat_natCast, Nat.reduceAdd, ↓vgd, ↓vst, ↓vix, vso]
                refine ⟨by kernel_rfl, ?_⟩
                simp (maxSteps := 1000000) (disch := first | assumption | omega | rfl) only [↓vmp, vme, vmb, ty, hP, dec_t, dec_f, wrap64, List.length_map, Int.toNat_natCast, Nat.reduceAdd, List.cons_append, List.nil_append, Option.map_some, Option.map_none, strOf_mk, sb_eql, sb_neq, vmg, ↓vgd, ↓vst, ↓vix, call_lay, ffB, srB, call_withA, bd52_0]
                subst hr
                unfold writeN
                rw [hsw]
                exact retQ_tc rfl rfl (x := .agg [.d (.int .i64 0), .d (.int .i64 0), .d (.int .i64 0), .d (.int .i64 0), .d (.int .i64 0), .ts [], .ts []]) (by kernel_rfl) rfl rfl rfl rfl
      · rw [if_neg d7] at hr
        by_cases d8 : o.does = 8
        · have d9 : ¬ o.does = 9 := by omega
          rw [if_pos d8] at hr
          by_cases c1 : o.off < 0
          · skip
            simp (maxSteps := 1000000) (disch := first | assumption | omega | rfl) only [↓vmp, vme, vmb, ty, hP, dec_t, dec_f, wrap64, List.length_map, Int.toNat_natCast, Nat.reduceAdd, List.cons_append, List.nil_append, Option.map_some, Option.map_none, strOf_mk, sb_eql, sb_neq, vmg, ↓vgd, ↓vst, ↓vix, call_fail]
            rw [if_pos c1] at hr
            subst hr
            exact retQ_tc rfl rfl (x := .d (encAns (failN 1))) (by kernel_rfl) rfl rfl rfl rfl
          · rw [if_neg c1] at hr
            by_cases c2 : o.n < 0
            · skip
              simp (maxSteps := 1000000) (disch := first | assumption | omega | rfl) only [↓vmp, vme, vmb, ty, hP, dec_t, dec_f, wrap64, List.length_map, Int.toNat_natCast, Nat.reduceAdd, List.cons_append, List.nil_append, Option.map_some, Option.map_none, strOf_mk, sb_eql, sb_neq, vmg, ↓vgd, ↓vst, ↓vix, call_fail]
              rw [if_pos c2] at hr
              subst hr
              exact retQ_tc rfl rfl (x := .d (encAns (failN 1))) (by kernel_rfl) rfl rfl rfl rfl
            · rw [if_neg c2] at hr
              simp (maxSteps := 1000000) (disch := first | assumption | omega | rfl) only [↓vmp, vme, vmb, ty, hP, dec_t, dec_f, wrap64, List.length_map, Int.toNat_natCast, Nat.reduceAdd, List.cons_append, List.nil_append, Option.map_some, Option.map_none, strOf_mk, sb_eql, sb_neq, vmg, ↓vgd, ↓vst, ↓vix, call_part, bd52_5]
              subst hr
              exact retQ_tc rfl rfl (x := .agg [.d (.int .i64 0), .d (.int .i64 0), .d (.int .i64 0), .d (.int .i64 0), .d (.int .i64 0), .d (encB (partN n.data o.off o.n)), .ts []]) (by kernel_rfl) rfl rfl rfl rfl
        · have d9 : o.does = 9 := by omega
          rw [if_neg d8] at hr
          by_cases c2 : o.n < 0
          · skip
            simp (maxSteps := 1000000) (disch := first | assumption | omega | rfl) only [↓vmp, vme, vmb, ty, hP, dec_t, dec_f, wrap64, List.length_map, Int.toNat_natCast, Nat.reduceAdd, List.cons_append, List.nil_append, Option.map_some, Option.map_none, strOf_mk, sb_eql, sb_neq, vmg, ↓vgd, ↓vst, ↓vix, call_fail]
            rw [if_pos c2] at hr
            subst hr
            exact retQ_tc rfl rfl (x := .d (encAns (failN 1))) (by kernel_rfl) rfl rfl rfl rfl
          · rw [if_neg c2] at hr
            by_cases c3 : o.n > 34304
            · skip
              simp (maxSteps := 1000000) (disch := first | assumption | omega | rfl) only [↓vmp, vme, vmb, ty, hP, dec_t, dec_f, wrap64, List.length_map, Int.toNat_natCast, Nat.reduceAdd, List.cons_append, List.nil_append, Option.map_some, Option.map_none, strOf_mk, sb_eql, sb_neq, vmg, ↓vgd, ↓vst, ↓vix, call_fail]
              rw [if_pos c3] at hr
              subst hr
              exact retQ_tc rfl rfl (x := .d (encAns (failN 11))) (by kernel_rfl) rfl rfl rfl rfl
            · rw [if_neg c3] at hr
              have hz0 : fitsT Try.prog 5 (.d (.int .u8 0)) = true := fitsT5 0
              have hroom : room Try.prog 5 o.n.toNat = true := room29 (by omega)
              have hsn : o.n.toNat < 1000000 := by omega
              simp (maxSteps := 1000000) (disch := first | assumption | omega | rfl) only [↓vmp, vme, vmb, ty, hP, dec_t, dec_f, wrap64, List.length_map, Int.toNat_natCast, Nat.reduceAdd, List.cons_append, List.nil_append, Option.map_some, Option.map_none, strOf_mk, sb_eql, sb_neq, vmg, ↓vgd, ↓vst, ↓vix]
              refine wk_draw (is := [0, 2, 3, 1, 4, 5]) (h := 6) (by kernel_rfl) (by kernel_rfl) ?_
              simp (maxSteps := 1000000) (disch := first | assumption | omega | rfl) only [List.replicate_zero, eq_self, vmd, vmk, vmo, vmg, vme, vmb, ty, hP, dec_t, dec_f, wrap64, List.length_map, Int.toNat_natCast, Nat.reduceAdd, ↓vgd, ↓vst, ↓vix, vso, wa_some, ak_make, ad_make Try.underlying29 z5, mk_in hroom hz0, true_and]
              rw [dr_lay0 hsn hdl rfl]
              refine ⟨fun _ => by kernel_rfl, ?_⟩
              simp (maxSteps := 1000000) (disch := first | assumption | omega | rfl) only [List.replicate_zero, eq_self, vmd, vmk, vmo, vmg, vme, vmb, ty, hP, dec_t, dec_f, wrap64, List.length_map, Int.toNat_natCast, Nat.reduceAdd, ↓vgd, ↓vst, ↓vix, vso]
              refine ⟨by kernel_rfl, ?_⟩
              simp (maxSteps := 1000000) (disch := first | assumption | omega | rfl) only [↓vmp, vme, vmb, ty, hP, dec_t, dec_f, wrap64, List.length_map, Int.toNat_natCast, Nat.reduceAdd, List.cons_append, List.nil_append, Option.map_some, Option.map_none, strOf_mk, sb_eql, sb_neq, vmg, ↓vgd, ↓vst, ↓vix, ffB, srB, call_withA, bd52_0]
              subst hr
              exact retQ_tc rfl rfl (x := .agg [.d (.int .i64 0), .d (.int .i64 0), .d (.int .i64 0), .d (.int .i64 0), .d (.int .i64 0), .ts [], .ts []]) (by kernel_rfl) rfl rfl rfl rfl
  · skip
    simp (maxSteps := 1000000) (disch := first | assumption | omega | rfl) only [↓vmp, vme, vmb, ty, hP, dec_t, dec_f, wrap64, List.length_map, Int.toNat_natCast, Nat.reduceAdd, List.cons_append, List.nil_append, Option.map_some, Option.map_none, strOf_mk, sb_eql, sb_neq, vmg, ↓vgd, ↓vst, ↓vix, call_fail]
    rw [if_pos h1] at hr
    subst hr
    exact retQ_tc rfl rfl (x := .d (encAns (failN e))) (by kernel_rfl) rfl rfl rfl rfl
theorem call_bytes {ops : Array Oper} {dst : Option Tmp} {l : List Oper} {T : List V} {S : Store} {F : Dfs} {Q : Post} {t : List Node} {o : Opn} {k0 : Nat} (hS : Small k0 t) (hk0 : k0 < 200000) (ha : o.a.length < 1000000) (hd : o.data.length ≤ 1024) (hdo : o.does = 7 ∨ o.does = 8 ∨ o.does = 9) :
    WpR cfg ops dst l T S F Q (some (.enter 51 [.d (.sl (t.map encNode)), .d (encOpn o)])) = WpL cfg ops l (putT T dst (.tup [.d (.sl ((bytesN t o).1.map encNode)), .d (encAns (bytesN t o).2)])) S F Q :=
  wr_call_d (ds := [.sl (t.map encNode), encOpn o]) rfl (bytes_ok t k0 hk0 hS o ha hd hdo)
end Go.Proofs.Ytghllhghboaagaa
end
/-! The document's model: Look, May, New. -/
section
set_option linter.unusedVariables false
set_option linter.unusedSimpArgs false
set_option maxRecDepth 10000
set_option maxHeartbeats 4000000
namespace Go.Proofs.Ytghllhghboaagaa
open Go.Vm
def mayN (o : Opn) : Bool := decide (o.does ≥ 1 ∧ o.does ≤ 13 ∧ o.data.length ≤ 1024)
theorem may_ok (o : Opn) : Ev cfg 45 [encOpn o] (.ret (.d (.bool (mayN o)))) := by
  refine ev_of rfl rfl body45 ?_
  show Wp cfg (Try.f45.body.getD .skip) ((.d (encOpn o)) :: (.tup []) :: (.tup []) :: (.tup []) :: (.tup []) :: (.tup []) :: (.tup []) :: (.tup []) :: (.tup []) :: (.tup []) :: (.tup []) :: (.tup []) :: (.tup []) :: (.tup []) :: (.tup []) :: (.tup []) :: (.tup []) :: []) [] [] _
  conv => arg 2; whnf
  by_cases c1 : o.does ≥ 1
  · by_cases c2 : o.does ≤ 13
    · by_cases c3 : (o.data.length : Int) ≤ 1024
      · have e : mayN o = true := decide_eq_true ⟨c1, c2, by omega⟩
        simp (maxSteps := 1000000) (disch := first | assumption | omega | rfl) only [↓vmp, vme, vmb, ty, hP, dec_t, dec_f, wrap64, List.length_map, Int.toNat_natCast, Nat.reduceAdd, List.cons_append, List.nil_append, Option.map_some, Option.map_none, strOf_mk, sb_eql, sb_neq, vmg, ↓vgd, ↓vst, ↓vix, lenB]
        rw [e]
        exact retQ_one rfl rfl rfl
      · have e : mayN o = false := decide_eq_false (fun h => c3 (by omega))
        simp (maxSteps := 1000000) (disch := first | assumption | omega | rfl) only [↓vmp, vme, vmb, ty, hP, dec_t, dec_f, wrap64, List.length_map, Int.toNat_natCast, Nat.reduceAdd, List.cons_append, List.nil_append, Option.map_some, Option.map_none, strOf_mk, sb_eql, sb_neq, vmg, ↓vgd, ↓vst, ↓vix, lenB]
        rw [e]
        exact retQ_one rfl rfl rfl
    · have e : mayN o = false := decide_eq_false (fun h => c2 h.2.1)
      simp (maxSteps := 1000000) (disch := first | assumption | omega | rfl) only [↓vmp, vme, vmb, ty, hP, dec_t, dec_f, wrap64, List.length_map, Int.toNat_natCast, Nat.reduceAdd, List.cons_append, List.nil_append, Option.map_some, Option.map_none, strOf_mk, sb_eql, sb_neq, vmg, ↓vgd, ↓vst, ↓vix, lenB]
      rw [e]
      exact retQ_one rfl rfl rfl
  · have e : mayN o = false := decide_eq_false (fun h => c1 h.1)
    simp (maxSteps := 1000000) (disch := first | assumption | omega | rfl) only [↓vmp, vme, vmb, ty, hP, dec_t, dec_f, wrap64, List.length_map, Int.toNat_natCast, Nat.reduceAdd, List.cons_append, List.nil_append, Option.map_some, Option.map_none, strOf_mk, sb_eql, sb_neq, vmg, ↓vgd, ↓vst, ↓vix, lenB]
    rw [e]
    exact retQ_one rfl rfl rfl
theorem call_may {ops : Array Oper} {dst : Option Tmp} {l : List Oper} {T : List V} {S : Store} {F : Dfs} {Q : Post} {o : Opn} :
    WpR cfg ops dst l T S F Q (some (.enter 45 [.d (encOpn o)])) = WpL cfg ops l (putT T dst (.d (.bool (mayN o)))) S F Q :=
  wr_call_d (ds := [encOpn o]) rfl (may_ok o)
def newN : List Node := [⟨1, 2, 1, 1, 0, [], []⟩]
theorem bd91n : buildV Try.prog 91 [(0, .d (.int .i64 1)), (1, .d (.int .i64 2)), (2, .d (.int .i64 1)), (3, .d (.int .i64 1))] = some (.agg [.d (.int .i64 1), .d (.int .i64 2), .d (.int .i64 1), .d (.int .i64 1), .d (.int .i64 0), .ts [], .ts []]) := by kernel_rfl
theorem bsn27 {S : Store} : bs1 Try.prog S 27 (.agg [.d (.int .i64 1), .d (.int .i64 2), .d (.int .i64 1), .d (.int .i64 1), .d (.int .i64 0), .ts [], .ts []]) = some (.val (.ts (newN.map encNode)) S 0) := by kernel_rfl
theorem new_ok : Ev cfg 18 [] (.ret (.d (.sl (newN.map encNode)))) := by
  refine ev_of rfl rfl body18 ?_
  show Wp cfg (Try.f18.body.getD .skip) ((.tup []) :: (.tup []) :: (.tup []) :: []) [] [] _
  conv => arg 2; whnf
  simp (maxSteps := 1000000) (disch := first | assumption | omega | rfl) only [↓vmp, vme, vmb, ty, hP, dec_t, dec_f, wrap64, List.length_map, Int.toNat_natCast, Nat.reduceAdd, List.cons_append, List.nil_append, Option.map_some, Option.map_none, strOf_mk, sb_eql, sb_neq, vmg, ↓vgd, ↓vst, ↓vix, ↓vbs, bd91n, bsn27]
  exact retQ_one rfl rfl rfl
theorem call_new {ops : Array Oper} {dst : Option Tmp} {l : List Oper} {T : List V} {S : Store} {F : Dfs} {Q : Post} :
    WpR cfg ops dst l T S F Q (some (.enter 18 [])) = WpL cfg ops l (putT T dst (.d (.sl (newN.map encNode)))) S F Q :=
  wr_call_d (ds := []) rfl new_ok
def namesA (l : List (List UInt8)) : Ans := ⟨0, 0, 0, 0, 0, [], l⟩
def lookA (n : Node) (ino : Int) (o : Opn) : Ans :=
  if o.does = 11 then ⟨0, ino, n.kind, n.links, n.size, [], []⟩
  else if o.does = 12 then okN
  else if n.kind ≠ 2 then failN 6
  else namesA (n.names.map (·.name))
def lookN (t : List Node) (o : Opn) : Ans := if (resolveN t o.a).2 ≠ 0 then failN (resolveN t o.a).2 else lookA (getN t (resolveN t o.a).1) (resolveN t o.a).1 o
theorem bd52_st {a b c d : Int} : buildV Try.prog 52 [(1, .d (.int .i64 a)), (2, .d (.int .i64 b)), (3, .d (.int .i64 c)), (4, .d (.int .i64 d))] = some (.agg [.d (.int .i64 0), .d (.int .i64 a), .d (.int .i64 b), .d (.int .i64 c), .d (.int .i64 d), .ts [], .ts []]) := by kernel_rfl
theorem bd52_6 {S : Store} {v : V} {e : TypeId} {xs : List V} (h : OwnS S v e xs) : buildV Try.prog 52 [(6, v)] = some (.agg [.d (.int .i64 0), .d (.int .i64 0), .d (.int .i64 0), .d (.int .i64 0), .d (.int .i64 0), .ts [], v]) := by
  rcases h with ⟨rfl, _⟩ | ⟨id, rfl, _⟩ <;> kernel_rfl
theorem frz_ans {S : Store} {v : V} {g : List (List UInt8)} (h : OwnS S v 9 (g.map fun x => .d (.str x))) :
    frz S frzFuel (.agg [.d (.int .i64 0), .d (.int .i64 0), .d (.int .i64 0), .d (.int .i64 0), .d (.int .i64 0), .ts [], v]) = some (encAns (namesA g)) := by
  have h1 : frz S 11 v = some (.sl (g.map .str)) := own_frzn (n := 9) (own_map h)
  show (match allO (frz S 11) [.d (.int .i64 0), .d (.int .i64 0), .d (.int .i64 0), .d (.int .i64 0), .d (.int .i64 0), .ts [], v] with | some ds => if ds.any D.isAgg then none else some (D.agg ds) | none => none) = _
  have h2 : ∀ x : D, frz S 11 (.d x) = some x := fun _ => rfl
  have h3 : frz S 11 (.ts []) = some (.sl []) := rfl
  simp only [allO, h1, h2, h3]
  rfl
theorem look_l (n : Node) (hn : n.names.length < 400000) (a : V) (R : Post) (g0 g1 g2 g3 g5 g6 : V) : ∀ (k i : Nat) (xs : List (List UInt8)) (S : Store) (v8 g10 g11 g12 g13 g14 g15 g16 g17 g18 g19 g20 g21 g22 g23 g24 g25 g26 g27 g28 g29 g30 g31 g32 g33 g34 g35 g36 g37 g38 g39 g40 g41 g42 g43 g44 g45 g46 g47 g48 g49 g50 g51 g52 g53 g54 g55 g56 g57 g58 g59 g60 : V),
   n.names.length - i = k → i ≤ n.names.length → xs.length = i → OwnS S v8 9 (xs.map fun x => .d (.str x)) → S[2]? = some (.row [.d (encNode n)] 91) → S[1]? = some (.row [a] 52) → NotAt v8 2 → NotAt v8 1 →
   (∀ S v8 i' ys g10 g11 g12 g13 g14 g15 g16 g17 g18 g19 g20 g21 g22 g23 g24 g25 g26 g27 g28 g29 g30 g31 g32 g33 g34 g35 g36 g37 g38 g39 g40 g41 g42 g43 g44 g45 g46 g47 g48 g49 g50 g51 g52 g53 g54 g55 g56 g57 g58 g59 g60, ys = xs ++ (n.names.drop i).map (·.name) → OwnS S v8 9 (ys.map fun x => .d (.str x)) → S[1]? = some (.row [a] 52) → NotAt v8 1 → R (.exit 0) (g0 :: g1 :: g2 :: g3 :: (.ref 1 0 0) :: g5 :: g6 :: (.ref 2 0 0) :: v8 :: i' :: g10 :: g11 :: g12 :: g13 :: g14 :: g15 :: g16 :: g17 :: g18 :: g19 :: g20 :: g21 :: g22 :: g23 :: g24 :: g25 :: g26 :: g27 :: g28 :: g29 :: g30 :: g31 :: g32 :: g33 :: g34 :: g35 :: g36 :: g37 :: g38 :: g39 :: g40 :: g41 :: g42 :: g43 :: g44 :: g45 :: g46 :: g47 :: g48 :: g49 :: g50 :: g51 :: g52 :: g53 :: g54 :: g55 :: g56 :: g57 :: g58 :: g59 :: g60 :: []) S []) →
   Wp cfg (.loop (lpOf (Try.f52.body.getD .skip) 0)) (g0 :: g1 :: g2 :: g3 :: (.ref 1 0 0) :: g5 :: g6 :: (.ref 2 0 0) :: v8 :: (.d (.int .i64 i)) :: g10 :: g11 :: g12 :: g13 :: g14 :: g15 :: g16 :: g17 :: g18 :: g19 :: g20 :: g21 :: g22 :: g23 :: g24 :: g25 :: g26 :: g27 :: g28 :: g29 :: g30 :: g31 :: g32 :: g33 :: g34 :: g35 :: g36 :: g37 :: g38 :: g39 :: g40 :: g41 :: g42 :: g43 :: g44 :: g45 :: g46 :: g47 :: g48 :: g49 :: g50 :: g51 :: g52 :: g53 :: g54 :: g55 :: g56 :: g57 :: g58 :: g59 :: g60 :: []) S [] R := by
  intro k
  induction k with
  | zero =>
    intro i xs S v8 g10 g11 g12 g13 g14 g15 g16 g17 g18 g19 g20 g21 g22 g23 g24 g25 g26 g27 g28 g29 g30 g31 g32 g33 g34 g35 g36 g37 g38 g39 g40 g41 g42 g43 g44 g45 g46 g47 g48 g49 g50 g51 g52 g53 g54 g55 g56 g57 g58 g59 g60 hk hi hxl ho hb hc hna hnc hR
    have hie : i = n.names.length := by omega
    have hr : rowE S 2 0 = some (.d (encNode n)) := rowE_of hb
    rw [wk_of]
    refine wk_loop ?_
    conv => arg 2; whnf
    simp (maxSteps := 1000000) (disch := first | assumption | omega | rfl) only [↓vmp, vme, vmb, ty, hP, dec_t, dec_f, wrap64, List.length_map, Int.toNat_natCast, Nat.reduceAdd, List.cons_append, List.nil_append, Option.map_some, Option.map_none, strOf_mk, sb_eql, sb_neq, vmg, ↓vgd, ↓vst, ↓vix, hr]
    exact hR _ _ _ xs _ _ _ _ _ _ _ _ _ _ _ _ _ _ _ _ _ _ _ _ _ _ _ _ _ _ _ _ _ _ _ _ _ _ _ _ _ _ _ _ _ _ _ _ _ _ _ _ _ _ _ (by rw [hie, List.drop_length]; simp) ho hc hnc
  | succ k ih =>
    intro i xs S v8 g10 g11 g12 g13 g14 g15 g16 g17 g18 g19 g20 g21 g22 g23 g24 g25 g26 g27 g28 g29 g30 g31 g32 g33 g34 g35 g36 g37 g38 g39 g40 g41 g42 g43 g44 g45 g46 g47 g48 g49 g50 g51 g52 g53 g54 g55 g56 g57 g58 g59 g60 hk hi hxl ho hb hc hna hnc hR
    have hlt : i < n.names.length := by omega
    have hdr : n.names.drop i = n.names[i] :: n.names.drop (i + 1) := List.drop_eq_getElem_cons hlt
    rw [hdr] at hR
    have hr : rowE S 2 0 = some (.d (encNode n)) := rowE_of hb
    obtain ⟨v', S', c, ha, ho', hfr, hlen⟩ := ap42 n.names[i].name ho (by omega)
    obtain ⟨hb', hna'⟩ := hfr _ _ hb hna
    obtain ⟨hc', hnc'⟩ := hfr _ _ hc hnc
    rw [wk_of]
    refine wk_loop ?_
    conv => arg 2; whnf
    simp (maxSteps := 1000000) (disch := first | assumption | omega | rfl) only [↓vmp, vme, vmb, ty, hP, dec_t, dec_f, wrap64, List.length_map, Int.toNat_natCast, Nat.reduceAdd, List.cons_append, List.nil_append, Option.map_some, Option.map_none, strOf_mk, sb_eql, sb_neq, vmg, ↓vgd, ↓vst, ↓vix, hr, ha]
    exact ih (i + 1) (xs ++ [n.names[i].name]) S' v' _ _ _ _ _ _ _ _ _ _ _ _ _ _ _ _ _ _ _ _ _ _ _ _ _ _ _ _ _ _ _ _ _ _ _ _ _ _ _ _ _ _ _ _ _ _ _ _ _ _ _ (by omega) (by omega) (by simp; omega) ho' hb' hc' hna' hnc' (fun S v8 i' ys g10 g11 g12 g13 g14 g15 g16 g17 g18 g19 g20 g21 g22 g23 g24 g25 g26 g27 g28 g29 g30 g31 g32 g33 g34 g35 g36 g37 g38 g39 g40 g41 g42 g43 g44 g45 g46 g47 g48 g49 g50 g51 g52 g53 g54 g55 g56 g57 g58 g59 g60 hy => hR S v8 i' ys g10 g11 g12 g13 g14 g15 g16 g17 g18 g19 g20 g21 g22 g23 g24 g25 g26 g27 g28 g29 g30 g31 g32 g33 g34 g35 g36 g37 g38 g39 g40 g41 g42 g43 g44 g45 g46 g47 g48 g49 g50 g51 g52 g53 g54 g55 g56 g57 g58 g59 g60 (by rw [hy, List.map_cons, List.append_assoc]; rfl))
theorem look_ok (t : List Node) (k0 : Nat) (hk0 : k0 < 200000) (hS : Small k0 t) (o : Opn) (ha : o.a.length < 1000000) : Ev cfg 52 [.sl (t.map encNode), encOpn o] (.ret (.d (encAns (lookN t o)))) := by
  refine ev_of rfl rfl body52 ?_
  show Wp cfg (Try.f52.body.getD .skip) ((.d (.sl (t.map encNode))) :: (.d (encOpn o)) :: (.tup []) :: (.tup []) :: (.tup []) :: (.tup []) :: (.tup []) :: (.tup []) :: (.tup []) :: (.tup []) :: (.tup []) :: (.tup []) :: (.tup []) :: (.tup []) :: (.tup []) :: (.tup []) :: (.tup []) :: (.tup []) :: (.tup []) :: (.tup []) :: (.tup []) :: (.tup []) :: (.tup []) :: (.tup []) :: (.tup []) :: (.tup []) :: (.tup []) :: (.tup []) :: (.tup []) :: (.tup []) :: (.tup []) :: (.tup []) :: (.tup []) :: (.tup []) :: (.tup []) :: (.tup []) :: (.tup []) :: (.tup []) :: (.tup []) :: (.tup []) :: (.tup []) :: (.tup []) :: (.tup []) :: (.tup []) :: (.tup []) :: (.tup []) :: (.tup []) :: (.tup []) :: (.tup []) :: (.tup []) :: (.tup []) :: (.tup []) :: (.tup []) :: (.tup []) :: (.tup []) :: (.tup []) :: (.tup []) :: (.tup []) :: (.tup []) :: (.tup []) :: (.tup []) :: []) [] [] _
  conv => arg 2; whnf
  have hk1 : k0 < 300000 := by omega
  have hlt : t.length < 400000 := Nat.lt_of_le_of_lt hS.len (by omega)
  have hlt' : t.length < 1000000 := by omega
  simp (maxSteps := 1000000) (disch := first | assumption | omega | rfl) only [↓vmp, vme, vmb, ty, hP, dec_t, dec_f, wrap64, List.length_map, Int.toNat_natCast, Nat.reduceAdd, List.cons_append, List.nil_append, Option.map_some, Option.map_none, strOf_mk, sb_eql, sb_neq, vmg, ↓vgd, ↓vst, ↓vix, call_resolve hS hk1]
  generalize hr : lookN t o = r
  unfold lookN at hr
  generalize resolveN t o.a = w at hr ⊢
  obtain ⟨ino, e⟩ := w
  simp only at hr
  have hgn : (getN t ino).names.length < 400000 := Nat.lt_of_le_of_lt (hS.gnms _) (by omega)
  by_cases h1 : e = 0
  · simp (maxSteps := 1000000) (disch := first | assumption | omega | rfl) only [↓vmp, vme, vmb, ty, hP, dec_t, dec_f, wrap64, List.length_map, Int.toNat_natCast, Nat.reduceAdd, List.cons_append, List.nil_append, Option.map_some, Option.map_none, strOf_mk, sb_eql, sb_neq, vmg, ↓vgd, ↓vst, ↓vix, call_get]
    rw [if_neg (by simp [h1])] at hr
    generalize getN t ino = n at hr hgn ⊢
    unfold lookA at hr
    by_cases d1 : o.does = 11
    · skip
      simp (maxSteps := 1000000) (disch := first | assumption | omega | rfl) only [↓vmp, vme, vmb, ty, hP, dec_t, dec_f, wrap64, List.length_map, Int.toNat_natCast, Nat.reduceAdd, List.cons_append, List.nil_append, Option.map_some, Option.map_none, strOf_mk, sb_eql, sb_neq, vmg, ↓vgd, ↓vst, ↓vix, bd52_st]
      rw [if_pos d1] at hr
      subst hr
      exact retQ_cell rfl (v := .agg [.d (.int .i64 0), .d (.int .i64 ino), .d (.int .i64 n.kind), .d (.int .i64 n.links), .d (.int .i64 n.size), .ts [], .ts []]) (by kernel_rfl) rfl rfl
    · rw [if_neg d1] at hr
      by_cases d2 : o.does = 12
      · skip
        simp (maxSteps := 1000000) (disch := first | assumption | omega | rfl) only [↓vmp, vme, vmb, ty, hP, dec_t, dec_f, wrap64, List.length_map, Int.toNat_natCast, Nat.reduceAdd, List.cons_append, List.nil_append, Option.map_some, Option.map_none, strOf_mk, sb_eql, sb_neq, vmg, ↓vgd, ↓vst, ↓vix, bd52_0]
        rw [if_pos d2] at hr
        subst hr
        exact retQ_cell rfl (v := .agg [.d (.int .i64 0), .d (.int .i64 0), .d (.int .i64 0), .d (.int .i64 0), .d (.int .i64 0), .ts [], .ts []]) (by kernel_rfl) rfl rfl
      · rw [if_neg d2] at hr
        by_cases k2 : n.kind = 2
        · rw [if_neg (by simp [k2])] at hr
          simp (maxSteps := 1000000) (disch := first | assumption | omega | rfl) only [↓vmp, vme, vmb, ty, hP, dec_t, dec_f, wrap64, List.length_map, Int.toNat_natCast, Nat.reduceAdd, List.cons_append, List.nil_append, Option.map_some, Option.map_none, strOf_mk, sb_eql, sb_neq, vmg, ↓vgd, ↓vst, ↓vix]
          refine look_l n hgn _ _ _ _ _ _ _ _ n.names.length 0 [] _ _ _ _ _ _ _ _ _ _ _ _ _ _ _ _ _ _ _ _ _ _ _ _ _ _ _ _ _ _ _ _ _ _ _ _ _ _ _ _ _ _ _ _ _ _ _ _ _ _ _ _ _ rfl (by omega) rfl OwnS.nil rfl rfl NotAt.ts NotAt.ts ?_
          intro S v8 i' ys g10 g11 g12 g13 g14 g15 g16 g17 g18 g19 g20 g21 g22 g23 g24 g25 g26 g27 g28 g29 g30 g31 g32 g33 g34 g35 g36 g37 g38 g39 g40 g41 g42 g43 g44 g45 g46 g47 g48 g49 g50 g51 g52 g53 g54 g55 g56 g57 g58 g59 g60 hy ho hc hnc
          have hr1 : rowE S 1 0 = some _ := rowE_of hc
          have hpr := fun y => putRow_of (y := y) hc
          have hbd := bd52_6 ho
          simp (maxSteps := 1000000) (disch := first | assumption | omega | rfl) only [↓vmp, vme, vmb, ty, hP, dec_t, dec_f, wrap64, List.length_map, Int.toNat_natCast, Nat.reduceAdd, List.cons_append, List.nil_append, Option.map_some, Option.map_none, strOf_mk, sb_eql, sb_neq, vmg, ↓vgd, ↓vst, ↓vix, hr1, hbd, hpr]
          rw [List.nil_append, List.drop_zero] at hy
          have ho2 := fun y => own_set (o := .row [y] 52) ho hnc
          subst hr
          rw [← hy]
          have hld : loadV Try.prog (S.set 1 (.row [(.agg [.d (.int .i64 0), .d (.int .i64 0), .d (.int .i64 0), .d (.int .i64 0), .d (.int .i64 0), .ts [], v8])] 52)) 52 (.ref 1 0 0) = some (.agg [.d (.int .i64 0), .d (.int .i64 0), .d (.int .i64 0), .d (.int .i64 0), .d (.int .i64 0), .ts [], v8]) := by rw [loadV_row (rowE_of (set_at hc))]; kernel_rfl
          exact retQ_cell rfl hld rfl (frz_ans (ho2 _))
        · skip
          simp (maxSteps := 1000000) (disch := first | assumption | omega | rfl) only [↓vmp, vme, vmb, ty, hP, dec_t, dec_f, wrap64, List.length_map, Int.toNat_natCast, Nat.reduceAdd, List.cons_append, List.nil_append, Option.map_some, Option.map_none, strOf_mk, sb_eql, sb_neq, vmg, ↓vgd, ↓vst, ↓vix, call_fail]
          rw [if_pos k2] at hr
          subst hr
          exact retQ_cell rfl (v := .d (encAns (failN 6))) (by kernel_rfl) rfl rfl
  · skip
    simp (maxSteps := 1000000) (disch := first | assumption | omega | rfl) only [↓vmp, vme, vmb, ty, hP, dec_t, dec_f, wrap64, List.length_map, Int.toNat_natCast, Nat.reduceAdd, List.cons_append, List.nil_append, Option.map_some, Option.map_none, strOf_mk, sb_eql, sb_neq, vmg, ↓vgd, ↓vst, ↓vix, call_fail]
    rw [if_pos h1] at hr
    subst hr
    exact retQ_cell rfl (v := .d (encAns (failN e))) (by kernel_rfl) rfl rfl
theorem call_look {ops : Array Oper} {dst : Option Tmp} {l : List Oper} {T : List V} {S : Store} {F : Dfs} {Q : Post} {t : List Node} {o : Opn} {k0 : Nat} (hS : Small k0 t) (hk0 : k0 < 200000) (ha : o.a.length < 1000000) :
    WpR cfg ops dst l T S F Q (some (.enter 52 [.d (.sl (t.map encNode)), .d (encOpn o)])) = WpL cfg ops l (putT T dst (.d (encAns (lookN t o)))) S F Q :=
  wr_call_d (ds := [.sl (t.map encNode), encOpn o]) rfl (look_ok t k0 hk0 hS o ha)
end Go.Proofs.Ytghllhghboaagaa
end
/-! The document's model: Step, and a script played. -/
section
set_option linter.unusedVariables false
set_option linter.unusedSimpArgs false
set_option maxRecDepth 10000
set_option maxHeartbeats 4000000
namespace Go.Proofs.Ytghllhghboaagaa
open Go.Vm
def stepN (t : List Node) (o : Opn) : List Node × Ans :=
  if mayN o = false then (t, failN 1)
  else if o.does < 3 then makeN t o
  else if o.does = 3 then linkN t o
  else if o.does < 6 then removeN t o
  else if o.does = 6 then renameN t o
  else if o.does < 10 then bytesN t o
  else if o.does < 13 then (t, lookN t o)
  else (t, okN)
theorem step_ok (t : List Node) (k0 : Nat) (hk0 : k0 < 190000) (hS : Small k0 t) (o : Opn) (ha : o.a.length < 1000000) (hb : o.b.length < 1000000) : Ev cfg 21 [.sl (t.map encNode), encOpn o] (.ret (.tup [.d (.sl ((stepN t o).1.map encNode)), .d (encAns (stepN t o).2)])) := by
  refine ev_of rfl rfl body21 ?_
  show Wp cfg (Try.f21.body.getD .skip) ((.d (.sl (t.map encNode))) :: (.d (encOpn o)) :: (.tup []) :: (.tup []) :: (.tup []) :: (.tup []) :: (.tup []) :: (.tup []) :: (.tup []) :: (.tup []) :: (.tup []) :: (.tup []) :: (.tup []) :: (.tup []) :: (.tup []) :: (.tup []) :: (.tup []) :: (.tup []) :: (.tup []) :: (.tup []) :: (.tup []) :: (.tup []) :: (.tup []) :: (.tup []) :: (.tup []) :: (.tup []) :: (.tup []) :: (.tup []) :: (.tup []) :: (.tup []) :: (.tup []) :: (.tup []) :: (.tup []) :: (.tup []) :: (.tup []) :: (.tup []) :: (.tup []) :: (.tup []) :: (.tup []) :: (.tup []) :: (.tup []) :: (.tup []) :: (.tup []) :: (.tup []) :: (.tup []) :: (.tup []) :: (.tup []) :: (.tup []) :: (.tup []) :: (.tup []) :: (.tup []) :: (.tup []) :: (.tup []) :: (.tup []) :: (.tup []) :: (.tup []) :: (.tup []) :: (.tup []) :: (.tup []) :: (.tup []) :: []) [] [] _
  conv => arg 2; whnf
  have hk1 : k0 < 200000 := by omega
  generalize hr : stepN t o = r
  unfold stepN at hr
  cases hm : mayN o with
  | false =>
    simp (maxSteps := 1000000) (disch := first | assumption | omega | rfl) only [↓vmp, vme, vmb, ty, hP, dec_t, dec_f, wrap64, List.length_map, Int.toNat_natCast, Nat.reduceAdd, List.cons_append, List.nil_append, Option.map_some, Option.map_none, strOf_mk, sb_eql, sb_neq, vmg, ↓vgd, ↓vst, ↓vix, call_may, hm, call_fail, un_not, Bool.not_false]
    rw [if_pos hm] at hr
    subst hr
    exact retQ_tc rfl rfl (x := .d (encAns (failN 1))) (by kernel_rfl) rfl rfl rfl rfl
  | true =>
    rw [if_neg (by rw [hm]; exact Bool.noConfusion)] at hr
    have hm2 := of_decide_eq_true hm
    have hd : o.data.length ≤ 1024 := hm2.2.2
    by_cases d1 : o.does < 3
    · simp (maxSteps := 1000000) (disch := first | assumption | omega | rfl) only [↓vmp, vme, vmb, ty, hP, dec_t, dec_f, wrap64, List.length_map, Int.toNat_natCast, Nat.reduceAdd, List.cons_append, List.nil_append, Option.map_some, Option.map_none, strOf_mk, sb_eql, sb_neq, vmg, ↓vgd, ↓vst, ↓vix, call_may, hm, un_not, Bool.not_true, call_make hS hk1]
      rw [if_pos d1] at hr
      subst hr
      exact retQ_tc rfl rfl (x := .d (encAns (makeN t o).2)) (by kernel_rfl) rfl rfl rfl rfl
    · rw [if_neg d1] at hr
      by_cases d2 : o.does = 3
      · simp (maxSteps := 1000000) (disch := first | assumption | omega | rfl) only [↓vmp, vme, vmb, ty, hP, dec_t, dec_f, wrap64, List.length_map, Int.toNat_natCast, Nat.reduceAdd, List.cons_append, List.nil_append, Option.map_some, Option.map_none, strOf_mk, sb_eql, sb_neq, vmg, ↓vgd, ↓vst, ↓vix, call_may, hm, un_not, Bool.not_true, call_link hS hk1]
        rw [if_pos d2] at hr
        subst hr
        exact retQ_tc rfl rfl (x := .d (encAns (linkN t o).2)) (by kernel_rfl) rfl rfl rfl rfl
      · rw [if_neg d2] at hr
        by_cases d3 : o.does < 6
        · simp (maxSteps := 1000000) (disch := first | assumption | omega | rfl) only [↓vmp, vme, vmb, ty, hP, dec_t, dec_f, wrap64, List.length_map, Int.toNat_natCast, Nat.reduceAdd, List.cons_append, List.nil_append, Option.map_some, Option.map_none, strOf_mk, sb_eql, sb_neq, vmg, ↓vgd, ↓vst, ↓vix, call_may, hm, un_not, Bool.not_true, call_remove hS hk1]
          rw [if_pos d3] at hr
          subst hr
          exact retQ_tc rfl rfl (x := .d (encAns (removeN t o).2)) (by kernel_rfl) rfl rfl rfl rfl
        · rw [if_neg d3] at hr
          by_cases d4 : o.does = 6
          · simp (maxSteps := 1000000) (disch := first | assumption | omega | rfl) only [↓vmp, vme, vmb, ty, hP, dec_t, dec_f, wrap64, List.length_map, Int.toNat_natCast, Nat.reduceAdd, List.cons_append, List.nil_append, Option.map_some, Option.map_none, strOf_mk, sb_eql, sb_neq, vmg, ↓vgd, ↓vst, ↓vix, call_may, hm, un_not, Bool.not_true, call_rename hS hk1]
            rw [if_pos d4] at hr
            subst hr
            exact retQ_tc rfl rfl (x := .d (encAns (renameN t o).2)) (by kernel_rfl) rfl rfl rfl rfl
          · rw [if_neg d4] at hr
            by_cases d5 : o.does < 10
            · have h789 : o.does = 7 ∨ o.does = 8 ∨ o.does = 9 := by omega
              simp (maxSteps := 1000000) (disch := first | assumption | omega | rfl) only [↓vmp, vme, vmb, ty, hP, dec_t, dec_f, wrap64, List.length_map, Int.toNat_natCast, Nat.reduceAdd, List.cons_append, List.nil_append, Option.map_some, Option.map_none, strOf_mk, sb_eql, sb_neq, vmg, ↓vgd, ↓vst, ↓vix, call_may, hm, un_not, Bool.not_true, call_bytes hS hk1]
              rw [if_pos d5] at hr
              subst hr
              exact retQ_tc rfl rfl (x := .d (encAns (bytesN t o).2)) (by kernel_rfl) rfl rfl rfl rfl
            · rw [if_neg d5] at hr
              by_cases d6 : o.does < 13
              · simp (maxSteps := 1000000) (disch := first | assumption | omega | rfl) only [↓vmp, vme, vmb, ty, hP, dec_t, dec_f, wrap64, List.length_map, Int.toNat_natCast, Nat.reduceAdd, List.cons_append, List.nil_append, Option.map_some, Option.map_none, strOf_mk, sb_eql, sb_neq, vmg, ↓vgd, ↓vst, ↓vix, call_may, hm, un_not, Bool.not_true, call_look hS hk1]
                rw [if_pos d6] at hr
                subst hr
                exact retQ_tc rfl rfl (x := .d (encAns (lookN t o))) (by kernel_rfl) rfl rfl rfl rfl
              · rw [if_neg d6] at hr
                simp (maxSteps := 1000000) (disch := first | assumption | omega | rfl) only [↓vmp, vme, vmb, ty, hP, dec_t, dec_f, wrap64, List.length_map, Int.toNat_natCast, Nat.reduceAdd, List.cons_append, List.nil_append, Option.map_some, Option.map_none, strOf_mk, sb_eql, sb_neq, vmg, ↓vgd, ↓vst, ↓vix, call_may, hm, un_not, Bool.not_true, bd52_0]
                subst hr
                exact retQ_tc rfl rfl (x := .agg [.d (.int .i64 0), .d (.int .i64 0), .d (.int .i64 0), .d (.int .i64 0), .d (.int .i64 0), .ts [], .ts []]) (by kernel_rfl) rfl rfl rfl rfl
theorem call_step {ops : Array Oper} {dst : Option Tmp} {l : List Oper} {T : List V} {S : Store} {F : Dfs} {Q : Post} {t : List Node} {o : Opn} {k0 : Nat} (hS : Small k0 t) (hk0 : k0 < 190000) (ha : o.a.length < 1000000) (hb : o.b.length < 1000000) :
    WpR cfg ops dst l T S F Q (some (.enter 21 [.d (.sl (t.map encNode)), .d (encOpn o)])) = WpL cfg ops l (putT T dst (.tup [.d (.sl ((stepN t o).1.map encNode)), .d (encAns (stepN t o).2)])) S F Q :=
  wr_call_d (ds := [.sl (t.map encNode), encOpn o]) rfl (step_ok t k0 hk0 hS o ha hb)
/-! What a step adds. -/
theorem Small.make {k : Nat} {t : List Node} {o : Opn} (h : Small k t) : Small (k + 5) (makeN t o).1 := by
  unfold makeN
  split
  · exact h.mono (by omega)
  · split
    · exact h.mono (by omega)
    · have hmk : SmallN (k + 1) (makeNode t o) := by unfold makeNode; split <;> exact ⟨Nat.zero_le _, fun e he => by simp at he, ⟨by simp; omega, by simp; omega⟩, by simp⟩
      exact ((h.with hmk).put (by have := whereN_len t o.a; omega)).mono (by omega)
theorem SmallN.more {k : Nat} {n : Node} (h : SmallN k n) : SmallN (k + 1) (more n) :=
  ⟨Nat.le_succ_of_le h.nms, h.nam, ⟨by have := h.lnk.1; show -((k + 1 : Nat) : Int) ≤ n.links + 1; omega, by have := h.lnk.2; show n.links + 1 ≤ ((k + 1 : Nat) : Int); omega⟩, h.siz⟩
theorem Small.link {k : Nat} {t : List Node} {o : Opn} (h : Small k t) : Small (k + 5) (linkN t o).1 := by
  unfold linkN
  split
  · exact h.mono (by omega)
  · split
    · exact h.mono (by omega)
    · split
      · exact h.mono (by omega)
      · split
        · exact h.mono (by omega)
        · exact ((h.with (h.get _).more).put (by have := whereN_len t o.b; omega)).mono (by omega)
theorem Small.remove {k : Nat} {t : List Node} {o : Opn} (h : Small k t) : Small (k + 5) (removeN t o).1 := by
  unfold removeN
  repeat' split
  all_goals first | exact h.mono (by omega) | exact (h.drop.loses).mono (by omega)
theorem SmallN.moved {k : Nat} {n : Node} {p : Int} (h : SmallN k n) : SmallN k (moved n p) := ⟨h.nms, h.nam, h.lnk, h.siz⟩
theorem Small.rename {k : Nat} {t : List Node} {o : Opn} (h : Small k t) : Small (k + 5) (renameN t o).1 := by
  unfold renameN
  split
  · exact h.mono (by omega)
  · split
    · exact h.mono (by omega)
    · split
      · exact h.mono (by omega)
      · unfold renameA
        split
        · exact h.mono (by omega)
        · split
          · exact h.mono (by omega)
          · split
            · exact h.mono (by omega)
            · split
              · exact h.mono (by omega)
              · unfold renamed
                have hln := whereN_len t o.b
                generalize whereN t o.a = w1 at *
                generalize whereN t o.b = w2 at *
                have h1 : Small (k + 2) (if 0 ≤ nameN (getN t w2.1).names w2.2.1 then losesN (dropN t w2.1 w2.2.1) (nameN (getN t w2.1).names w2.2.1) else t) := by
                  split
                  · exact h.drop.loses
                  · exact h.mono (by omega)
                have h2 := (h1.drop (dir := w1.1) (s := w1.2.1)).put (dir := w2.1) (s := w2.2.1) (ino := nameN (getN t w1.1).names w1.2.1) (by omega)
                simp only
                split
                · exact h2.with ((h2.get _).moved.mono (by omega))
                · exact h2.mono (by omega)
theorem Small.bytes {k : Nat} {t : List Node} {o : Opn} (h : Small k t) (hd : o.data.length ≤ 1024) : Small (k + 5) (bytesN t o).1 := by
  unfold bytesN
  split
  · exact h.mono (by omega)
  · have hg := (h.get (resolveN t o.a).1).mono (Nat.le_succ k)
    generalize getN t (resolveN t o.a).1 = n at hg ⊢
    unfold bytesA
    split
    · exact h.mono (by omega)
    · split
      · split
        · exact h.mono (by omega)
        · split
          · exact h.mono (by omega)
          · split
            · exact h.mono (by omega)
            · rename_i c1 c2 c3
              have hs := hg.siz
              have hw : 0 ≤ sizeW n o ∧ sizeW n o ≤ 34304 := by unfold sizeW; split <;> omega
              refine (h.with (n := writeN n o) ⟨hg.nms, hg.nam, hg.lnk, hw.1, hw.2, ?_⟩).mono (by omega)
              show ((layN (layN (List.replicate (sizeW n o).toNat 0) 0 n.data) o.off o.data).length : Int) = sizeW n o
              rw [len_layN, len_layN, List.length_replicate]
              omega
      · split
        · split
          · exact h.mono (by omega)
          · split <;> exact h.mono (by omega)
        · split
          · exact h.mono (by omega)
          · split
            · exact h.mono (by omega)
            · rename_i c1 c2
              refine (h.with (n := cutN n o.n) ⟨hg.nms, hg.nam, hg.lnk, by show 0 ≤ o.n; omega, by show o.n ≤ 34304; omega, ?_⟩).mono (by omega)
              show ((layN (List.replicate o.n.toNat 0) 0 n.data).length : Int) = o.n
              rw [len_layN, List.length_replicate]
              omega
theorem Small.step {k : Nat} {t : List Node} {o : Opn} (h : Small k t) : Small (k + 5) (stepN t o).1 := by
  unfold stepN
  split
  · exact h.mono (by omega)
  · rename_i hm
    have hd : o.data.length ≤ 1024 := by
      cases hm' : mayN o with
      | false => exact absurd hm' hm
      | true => exact (of_decide_eq_true hm').2.2
    repeat' split
    · exact h.make
    · exact h.link
    · exact h.remove
    · exact h.rename
    · exact h.bytes hd
    · exact h.mono (by omega)
    · exact h.mono (by omega)
theorem Small.new : Small 1 newN := ⟨by simp [newN], fun n hn => by simp [newN] at hn; subst hn; simp, fun n hn => by simp [newN] at hn; subst hn; simp, fun n hn => by simp [newN] at hn; subst hn; simp, fun n hn => by simp [newN] at hn; subst hn; simp⟩
def playN (l : List Opn) : List Node := l.foldl (fun t o => (stepN t o).1) newN
theorem Small.playA {l : List Opn} {k : Nat} {t : List Node} (h : Small k t) : Small (k + 5 * l.length) (l.foldl (fun t o => (stepN t o).1) t) := by
  induction l generalizing k t with
  | nil => exact h
  | cons o r ih => exact (ih h.step).mono (by simp only [List.length_cons]; omega)
/-- A script that is not large. -/
structure Script (l : List Opn) : Prop where
  len : l.length ≤ 1000
  a : ∀ o ∈ l, o.a.length ≤ 300
  b : ∀ o ∈ l, o.b.length ≤ 300
  data : ∀ o ∈ l, o.data.length ≤ 1100
theorem bdz52 : zeroV Try.prog 52 = some (.agg [.d (.int .i64 0), .d (.int .i64 0), .d (.int .i64 0), .d (.int .i64 0), .d (.int .i64 0), .ts [], .ts []]) := z52
theorem play_l (l : List Opn) (hl : Script l) (R : Post) (g1 g2 : V) : ∀ (k i : Nat) (t : List Node) (S : Store) (g5 g6 g7 g8 g9 g10 g11 g12 g13 g14 g15 g16 g17 g18 g19 g20 g21 g22 g23 g24 : V),
   l.length - i = k → i ≤ l.length → Small (1 + 5 * i) t →
   (∀ S i' g5 g6 g7 g8 g9 g10 g11 g12 g13 g14 g15 g16 g17 g18 g19 g20 g21 g22 g23 g24, R (.exit 0) ((.d (.sl (l.map encOpn))) :: g1 :: g2 :: (.d (.sl (((l.drop i).foldl (fun t o => (stepN t o).1) t).map encNode))) :: i' :: g5 :: g6 :: g7 :: g8 :: g9 :: g10 :: g11 :: g12 :: g13 :: g14 :: g15 :: g16 :: g17 :: g18 :: g19 :: g20 :: g21 :: g22 :: g23 :: g24 :: []) S []) →
   Wp cfg (.loop (lpOf (Try.f13.body.getD .skip) 0)) ((.d (.sl (l.map encOpn))) :: g1 :: g2 :: (.d (.sl (t.map encNode))) :: (.d (.int .i64 i)) :: g5 :: g6 :: g7 :: g8 :: g9 :: g10 :: g11 :: g12 :: g13 :: g14 :: g15 :: g16 :: g17 :: g18 :: g19 :: g20 :: g21 :: g22 :: g23 :: g24 :: []) S [] R := by
  intro k
  have hlen := hl.len
  induction k with
  | zero =>
    intro i t S g5 g6 g7 g8 g9 g10 g11 g12 g13 g14 g15 g16 g17 g18 g19 g20 g21 g22 g23 g24 hk hi hS hR
    have hie : i = l.length := by omega
    rw [wk_of]
    refine wk_loop ?_
    conv => arg 2; whnf
    simp (maxSteps := 1000000) (disch := first | assumption | omega | rfl) only [↓vmp, vme, vmb, ty, hP, dec_t, dec_f, wrap64, List.length_map, Int.toNat_natCast, Nat.reduceAdd, List.cons_append, List.nil_append, Option.map_some, Option.map_none, strOf_mk, sb_eql, sb_neq, vmg, ↓vgd, ↓vst, ↓vix]
    rw [hie, List.drop_length] at hR
    exact hR _ _ _ _ _ _ _ _ _ _ _ _ _ _ _ _ _ _ _ _ _ _
  | succ k ih =>
    intro i t S g5 g6 g7 g8 g9 g10 g11 g12 g13 g14 g15 g16 g17 g18 g19 g20 g21 g22 g23 g24 hk hi hS hR
    have hlt : i < l.length := by omega
    have hdr : l.drop i = l[i] :: l.drop (i + 1) := List.drop_eq_getElem_cons hlt
    rw [hdr] at hR
    have ha := hl.a _ (List.getElem_mem hlt)
    have hb := hl.b _ (List.getElem_mem hlt)
    have ha' : l[i].a.length < 1000000 := by omega
    have hb' : l[i].b.length < 1000000 := by omega
    have hk0 : 1 + 5 * i < 190000 := by omega
    rw [wk_of]
    refine wk_loop ?_
    conv => arg 2; whnf
    simp (maxSteps := 1000000) (disch := first | assumption | omega | rfl) only [↓vmp, vme, vmb, ty, hP, dec_t, dec_f, wrap64, List.length_map, Int.toNat_natCast, Nat.reduceAdd, List.cons_append, List.nil_append, Option.map_some, Option.map_none, strOf_mk, sb_eql, sb_neq, vmg, ↓vgd, ↓vst, ↓vix, call_step hS hk0, rowE_app, putRow_app]
    exact ih (i + 1) (stepN t l[i]).1 _ _ _ _ _ _ _ _ _ _ _ _ _ _ _ _ _ _ _ _ _ (by omega) (by omega) (by rw [show 1 + 5 * (i + 1) = 1 + 5 * i + 5 by omega]; exact hS.step) hR
theorem play_ok (l : List Opn) (hl : Script l) : Ev cfg 13 [.sl (l.map encOpn)] (.ret (.d (.sl ((playN l).map encNode)))) := by
  refine ev_of rfl rfl body13 ?_
  show Wp cfg (Try.f13.body.getD .skip) ((.d (.sl (l.map encOpn))) :: (.tup []) :: (.tup []) :: (.tup []) :: (.tup []) :: (.tup []) :: (.tup []) :: (.tup []) :: (.tup []) :: (.tup []) :: (.tup []) :: (.tup []) :: (.tup []) :: (.tup []) :: (.tup []) :: (.tup []) :: (.tup []) :: (.tup []) :: (.tup []) :: (.tup []) :: (.tup []) :: (.tup []) :: (.tup []) :: (.tup []) :: (.tup []) :: []) [] [] _
  conv => arg 2; whnf
  simp (maxSteps := 1000000) (disch := first | assumption | omega | rfl) only [↓vmp, vme, vmb, ty, hP, dec_t, dec_f, wrap64, List.length_map, Int.toNat_natCast, Nat.reduceAdd, List.cons_append, List.nil_append, Option.map_some, Option.map_none, strOf_mk, sb_eql, sb_neq, vmg, ↓vgd, ↓vst, ↓vix, call_new]
  refine play_l l hl _ _ _ l.length 0 newN _ _ _ _ _ _ _ _ _ _ _ _ _ _ _ _ _ _ _ _ _ rfl (by omega) Small.new ?_
  intro S i' g5 g6 g7 g8 g9 g10 g11 g12 g13 g14 g15 g16 g17 g18 g19 g20 g21 g22 g23 g24
  simp (maxSteps := 1000000) (disch := first | assumption | omega | rfl) only [↓vmp, vme, vmb, ty, hP, dec_t, dec_f, wrap64, List.length_map, Int.toNat_natCast, Nat.reduceAdd, List.cons_append, List.nil_append, Option.map_some, Option.map_none, strOf_mk, sb_eql, sb_neq, vmg, ↓vgd, ↓vst, ↓vix]
  exact retQ_one rfl rfl rfl
theorem call_play {ops : Array Oper} {dst : Option Tmp} {k : List Oper} {T : List V} {S : Store} {F : Dfs} {Q : Post} {l : List Opn} (hl : Script l) :
    WpR cfg ops dst k T S F Q (some (.enter 13 [.d (.sl (l.map encOpn))])) = WpL cfg ops k (putT T dst (.d (.sl ((playN l).map encNode)))) S F Q :=
  wr_call_d (ds := [.sl (l.map encOpn)]) rfl (play_ok l hl)
end Go.Proofs.Ytghllhghboaagaa
end
/-! Trees that are right, as functions from numbers to nodes: what the steps keep. Plain. -/
section
set_option linter.unusedVariables false
set_option linter.unusedSimpArgs false
namespace Go.Proofs.Ytghllhghboaagaa
open Go.Vm
def upd (g : Int → Node) (m : Node) : Int → Node := fun x => if x = m.ino then m else g x
def del (g : Int → Node) (i : Int) : Int → Node := fun x => if x = i then zeroNode else g x
/-- The parents lead to the root, and not by way of i. -/
inductive Up (g : Int → Node) (i : Int) : Int → Prop
  | root : i ≠ 1 → Up g i 1
  | step {x : Int} : x ≠ i → (g x).kind = 2 → x ≠ 1 → Up g i (g x).parent → Up g i x
theorem Up.mono {g g' : Int → Node} {i x : Int} (h : ∀ x, (g x).kind = 2 → x ≠ i → (g' x).kind = 2 ∧ (g' x).parent = (g x).parent) (hx : Up g i x) : Up g' i x := by
  induction hx with
  | root h1 => exact .root h1
  | step h1 h2 h3 _ ih => exact .step h1 (h _ h2 h1).1 h3 (by rw [(h _ h2 h1).2]; exact ih)
/-- A tree that is right, but that directory i may not be told. -/
structure Inv (g : Int → Node) (i : Int) : Prop where
  root : (g 1).kind = 2
  ge2 : ∀ x, ∀ e ∈ (g x).names, 2 ≤ e.ino
  un : ∀ x, ∀ e ∈ (g x).names, ∀ e' ∈ (g x).names, e.name = e'.name → e.ino = e'.ino
  ln : ∀ x, (g x).kind = 2 → (g x).links = 1
  told : ∀ x, (g x).kind = 2 → x ≠ 1 → x ≠ i → (g (g x).parent).kind = 2 ∧ ∃ e ∈ (g (g x).parent).names, e.ino = x
  way : ∀ x, (g x).kind = 2 → Up g 0 x
  pos : ∀ x, (g x).kind = 2 → 1 ≤ x
theorem Inv.any {g : Int → Node} {i : Int} (h : Inv g 1) : Inv g i :=
  ⟨h.root, h.ge2, h.un, h.ln, fun x h1 h2 _ => h.told x h1 h2 h2, h.way, h.pos⟩
theorem Inv.file {g : Int → Node} {i : Int} {m : Node} (h : Inv g i) (hm : m.kind ≠ 2) (hg : (g m.ino).kind ≠ 2) (h2 : ∀ e ∈ m.names, 2 ≤ e.ino) (hu : ∀ e ∈ m.names, ∀ e' ∈ m.names, e.name = e'.name → e.ino = e'.ino) : Inv (upd g m) i := by
  have hk : ∀ x, (upd g m x).kind = 2 → x ≠ m.ino ∧ (g x).kind = 2 := fun x hx => by unfold upd at hx; grind
  have he : ∀ x, x ≠ m.ino → upd g m x = g x := fun x hx => by simp [upd, hx]
  have hs : upd g m m.ino = m := by simp [upd]
  refine ⟨?_, ?_, ?_, ?_, ?_, ?_, ?_⟩
  · rw [he]; exact h.root
    intro h1; rw [← h1] at hg; exact hg h.root
  · intro x e hx
    by_cases hxm : x = m.ino
    · rw [hxm, hs] at hx; exact h2 e hx
    · rw [he x hxm] at hx; exact h.ge2 x e hx
  · intro x
    by_cases hxm : x = m.ino
    · rw [hxm, hs]; exact hu
    · rw [he x hxm]; exact h.un x
  · intro x hx
    obtain ⟨h1, h3⟩ := hk x hx
    rw [he x h1]; exact h.ln x h3
  · intro x hx n1 ni
    obtain ⟨h1, h3⟩ := hk x hx
    rw [he x h1]
    obtain ⟨h4, h5⟩ := h.told x h3 n1 ni
    have h6 : (g x).parent ≠ m.ino := fun hh => by rw [hh] at h4; exact hg h4
    rw [he _ h6]; exact ⟨h4, h5⟩
  · intro x hx
    obtain ⟨h1, h3⟩ := hk x hx
    refine (h.way x h3).mono fun y hy _ => ?_
    have : y ≠ m.ino := fun hh => by rw [hh] at hy; exact hg hy
    rw [he y this]; exact ⟨hy, rfl⟩
  · intro x hx
    exact h.pos x (hk x hx).2
theorem Inv.delFile {g : Int → Node} {i j : Int} (h : Inv g i) (hg : (g j).kind ≠ 2) : Inv (del g j) i := by
  have he : ∀ x, x ≠ j → del g j x = g x := fun x hx => by simp [del, hx]
  have hs : del g j j = zeroNode := by simp [del]
  have hk : ∀ x, (del g j x).kind = 2 → x ≠ j ∧ (g x).kind = 2 := fun x hx => by
    by_cases hxj : x = j
    · rw [hxj, hs] at hx; exact absurd hx (by simp [zeroNode])
    · rw [he x hxj] at hx; exact ⟨hxj, hx⟩
  refine ⟨?_, ?_, ?_, ?_, ?_, ?_, ?_⟩
  · rw [he]; exact h.root
    intro h1; rw [← h1] at hg; exact hg h.root
  · intro x e hx
    by_cases hxm : x = j
    · rw [hxm, hs] at hx; simp [zeroNode] at hx
    · rw [he x hxm] at hx; exact h.ge2 x e hx
  · intro x
    by_cases hxm : x = j
    · rw [hxm, hs]; simp [zeroNode]
    · rw [he x hxm]; exact h.un x
  · intro x hx
    obtain ⟨h1, h3⟩ := hk x hx
    rw [he x h1]; exact h.ln x h3
  · intro x hx n1 ni
    obtain ⟨h1, h3⟩ := hk x hx
    rw [he x h1]
    obtain ⟨h4, h5⟩ := h.told x h3 n1 ni
    have h6 : (g x).parent ≠ j := fun hh => by rw [hh] at h4; exact hg h4
    rw [he _ h6]; exact ⟨h4, h5⟩
  · intro x hx
    obtain ⟨h1, h3⟩ := hk x hx
    refine (h.way x h3).mono fun y hy _ => ?_
    have : y ≠ j := fun hh => by rw [hh] at hy; exact hg hy
    rw [he y this]; exact ⟨hy, rfl⟩
  · intro x hx
    exact h.pos x (hk x hx).2
/-- An empty directory goes. -/
theorem Inv.delDir {g : Int → Node} {j : Int} (h : Inv g j) (hj : j ≠ 1) (hn : (g j).names = []) : Inv (del g j) 1 := by
  have he : ∀ x, x ≠ j → del g j x = g x := fun x hx => by simp [del, hx]
  have hs : del g j j = zeroNode := by simp [del]
  have hk : ∀ x, (del g j x).kind = 2 → x ≠ j ∧ (g x).kind = 2 := fun x hx => by
    by_cases hxj : x = j
    · rw [hxj, hs] at hx; exact absurd hx (by simp [zeroNode])
    · rw [he x hxj] at hx; exact ⟨hxj, hx⟩
  have hp : ∀ x, (g x).kind = 2 → x ≠ 1 → x ≠ j → (g x).parent ≠ j := fun x h1 h2 h3 hh => by
    obtain ⟨_, e, h5, _⟩ := h.told x h1 h2 h3
    rw [hh, hn] at h5
    simp at h5
  refine ⟨?_, ?_, ?_, ?_, ?_, ?_, ?_⟩
  · rw [he _ (fun h1 => hj h1.symm)]; exact h.root
  · intro x e hx
    by_cases hxm : x = j
    · rw [hxm, hs] at hx; simp [zeroNode] at hx
    · rw [he x hxm] at hx; exact h.ge2 x e hx
  · intro x
    by_cases hxm : x = j
    · rw [hxm, hs]; simp [zeroNode]
    · rw [he x hxm]; exact h.un x
  · intro x hx
    obtain ⟨h1, h3⟩ := hk x hx
    rw [he x h1]; exact h.ln x h3
  · intro x hx n1 ni
    obtain ⟨h1, h3⟩ := hk x hx
    rw [he x h1, he _ (hp x h3 n1 h1)]
    exact h.told x h3 n1 h1
  · intro x hx
    obtain ⟨h1, h3⟩ := hk x hx
    have hw := h.way x h3
    clear hx h3
    induction hw with
    | root h0 => exact .root h0
    | step h4 h5 h6 _ ih => exact .step h4 (by rw [he _ h1]; exact h5) h6 (by rw [he _ h1]; exact ih (hp _ h5 h6 h1))
  · intro x hx
    exact h.pos x (hk x hx).2
/-- The names of a directory change. -/
theorem Inv.names {g : Int → Node} {i j d : Int} {m : Node} (h : Inv g i) (hd : (g d).kind = 2) (hi : m.ino = d) (hk : m.kind = 2) (hl : m.links = (g d).links) (hp : m.parent = (g d).parent)
    (h2 : ∀ e ∈ m.names, 2 ≤ e.ino) (hu : ∀ e ∈ m.names, ∀ e' ∈ m.names, e.name = e'.name → e.ino = e'.ino)
    (ht : ∀ x, (g x).kind = 2 → x ≠ 1 → x ≠ j → (g (g x).parent).kind = 2 ∧ ∃ e ∈ (if (g x).parent = d then m.names else (g (g x).parent).names), e.ino = x) : Inv (upd g m) j := by
  have he : ∀ x, x ≠ d → upd g m x = g x := fun x hx => by simp [upd, hi, hx]
  have hs : upd g m d = m := by simp [upd, hi]
  have hkk : ∀ x, (upd g m x).kind = (g x).kind := fun x => by
    by_cases hx : x = d
    · rw [hx, hs, hk, hd]
    · rw [he x hx]
  have hpp : ∀ x, (upd g m x).parent = (g x).parent := fun x => by
    by_cases hx : x = d
    · rw [hx, hs, hp]
    · rw [he x hx]
  have hnn : ∀ x, (upd g m x).names = if x = d then m.names else (g x).names := fun x => by
    by_cases hx : x = d
    · rw [if_pos hx, hx, hs]
    · rw [if_neg hx, he x hx]
  refine ⟨?_, ?_, ?_, ?_, ?_, ?_, ?_⟩
  · rw [hkk]; exact h.root
  · intro x e hx
    rw [hnn] at hx
    split at hx
    · exact h2 e hx
    · exact h.ge2 x e hx
  · intro x
    rw [hnn]
    split
    · exact hu
    · exact h.un x
  · intro x hx
    rw [hkk] at hx
    by_cases hxd : x = d
    · rw [hxd, hs, hl]; exact h.ln d hd
    · rw [he x hxd]; exact h.ln x hx
  · intro x hx n1 nj
    rw [hkk] at hx
    rw [hpp, hkk, hnn]
    exact ht x hx n1 nj
  · intro x hx
    rw [hkk] at hx
    exact (h.way x hx).mono fun y hy _ => ⟨by rw [hkk]; exact hy, hpp y⟩
  · intro x hx
    rw [hkk] at hx
    exact h.pos x hx
/-- A directory is new: it is not told yet. -/
theorem Inv.newDir {g : Int → Node} {m : Node} (h : Inv g 1) (hg : (g m.ino).kind ≠ 2) (hm : m.kind = 2) (hl : m.links = 1) (hn : m.names = []) (hp : (g m.parent).kind = 2) (h2 : 2 ≤ m.ino) : Inv (upd g m) m.ino := by
  have he : ∀ x, x ≠ m.ino → upd g m x = g x := fun x hx => by simp [upd, hx]
  have hs : upd g m m.ino = m := by simp [upd]
  have hmono : ∀ x, Up g 0 x → Up (upd g m) 0 x := fun x hx => hx.mono fun y hy _ => by
    have : y ≠ m.ino := fun hh => by rw [hh] at hy; exact hg hy
    rw [he y this]; exact ⟨hy, rfl⟩
  refine ⟨?_, ?_, ?_, ?_, ?_, ?_, ?_⟩
  · rw [he _ (by omega)]; exact h.root
  · intro x e hx
    by_cases hxm : x = m.ino
    · rw [hxm, hs, hn] at hx; simp at hx
    · rw [he x hxm] at hx; exact h.ge2 x e hx
  · intro x
    by_cases hxm : x = m.ino
    · rw [hxm, hs, hn]; simp
    · rw [he x hxm]; exact h.un x
  · intro x hx
    by_cases hxm : x = m.ino
    · rw [hxm, hs, hl]
    · rw [he x hxm] at hx ⊢; exact h.ln x hx
  · intro x hx n1 ni
    rw [he x ni] at hx ⊢
    obtain ⟨h4, h5⟩ := h.told x hx n1 n1
    have h6 : (g x).parent ≠ m.ino := fun hh => by rw [hh] at h4; exact hg h4
    rw [he _ h6]; exact ⟨h4, h5⟩
  · intro x hx
    by_cases hxm : x = m.ino
    · rw [hxm]
      refine .step (by omega) (by rw [hs]; exact hm) (by omega) ?_
      rw [hs]
      exact hmono _ (h.way _ hp)
    · rw [he x hxm] at hx; exact hmono _ (h.way x hx)
  · intro x hx
    by_cases hxm : x = m.ino
    · omega
    · rw [he x hxm] at hx; exact h.pos x hx
/-- A directory has another parent, that tells it. -/
theorem Inv.move {g : Int → Node} {i d : Int} {m : Node} (h : Inv g i) (hi : m.ino = i) (hk : m.kind = 2) (hki : (g i).kind = 2) (h1 : i ≠ 1) (hl : m.links = (g i).links) (hp : m.parent = d) (hn : m.names = (g i).names)
    (hd : (g d).kind = 2) (hid : d ≠ i) (ht : ∃ e ∈ (g d).names, e.ino = i) (hu : Up g i d) : Inv (upd g m) 1 := by
  have he : ∀ x, x ≠ i → upd g m x = g x := fun x hx => by simp [upd, hi, hx]
  have hs : upd g m i = m := by simp [upd, hi]
  have hkk : ∀ x, (upd g m x).kind = (g x).kind := fun x => by
    by_cases hx : x = i
    · rw [hx, hs, hk, hki]
    · rw [he x hx]
  have hnn : ∀ x, (upd g m x).names = (g x).names := fun x => by
    by_cases hx : x = i
    · rw [hx, hs, hn]
    · rw [he x hx]
  have hpi := h.pos i hki
  have hup : ∀ x, Up g i x → Up (upd g m) 0 x := fun x hx => by
    induction hx with
    | root _ => exact .root (by omega)
    | step a b c _ ih =>
      have := h.pos _ b
      exact .step (by omega) (by rw [hkk]; exact b) c (by rw [he _ a]; exact ih)
  refine ⟨?_, ?_, ?_, ?_, ?_, ?_, ?_⟩
  · rw [hkk]; exact h.root
  · intro x e hx
    rw [hnn] at hx; exact h.ge2 x e hx
  · intro x
    rw [hnn]; exact h.un x
  · intro x hx
    rw [hkk] at hx
    by_cases hxi : x = i
    · rw [hxi, hs, hl]; exact h.ln i hki
    · rw [he x hxi]; exact h.ln x hx
  · intro x hx n1 _
    rw [hkk] at hx
    by_cases hxi : x = i
    · rw [hxi, hs, hp, hkk, hnn]; exact ⟨hd, ht⟩
    · rw [he x hxi, hkk, hnn]; exact h.told x hx n1 hxi
  · intro x hx
    rw [hkk] at hx
    have hw := h.way x hx
    clear hx
    induction hw with
    | root h0 => exact .root h0
    | @step x a b c _ ih =>
      by_cases hxi : x = i
      · refine .step a (by rw [hkk]; exact b) c ?_
        rw [hxi, hs, hp]
        exact hup _ hu
      · exact .step a (by rw [hkk]; exact b) c (by rw [he _ hxi]; exact ih)
  · intro x hx
    rw [hkk] at hx; exact h.pos x hx
end Go.Proofs.Ytghllhghboaagaa
end
/-! Each step of the document's model keeps a tree right. Plain. -/
section
set_option linter.unusedVariables false
set_option linter.unusedSimpArgs false
namespace Go.Proofs.Ytghllhghboaagaa
open Go.Vm
/-- One node has a number. -/
def Uniq (t : List Node) : Prop := ∀ n ∈ t, ∀ m ∈ t, n.ino = m.ino → n = m
theorem getN_mem {t : List Node} (hu : Uniq t) {n : Node} (hn : n ∈ t) : getN t n.ino = n := by
  rcases getN_cases t n.ino with ⟨_, h⟩ | ⟨h1, h2⟩
  · exact absurd rfl (h n hn)
  · exact hu _ h1 _ hn h2
theorem getN_none {t : List Node} {x : Int} (h : ∀ n ∈ t, n.ino ≠ x) : getN t x = zeroNode := by
  rcases getN_cases t x with ⟨h1, _⟩ | ⟨h1, h2⟩
  · exact h1
  · exact absurd h2 (h _ h1)
theorem uniq_with {t : List Node} {m : Node} (hu : Uniq t) : Uniq (withN t m) := by
  intro n hn n' hn' he
  rw [mem_withN] at hn hn'
  rcases hn with rfl | ⟨h1, h2⟩ <;> rcases hn' with rfl | ⟨h3, h4⟩
  · rfl
  · exact absurd he.symm h4
  · exact absurd he h2
  · exact hu _ h1 _ h3 he
theorem getN_with {t : List Node} {m : Node} (hu : Uniq t) : getN (withN t m) = upd (getN t) m := by
  funext x
  unfold upd
  split
  · rename_i hx
    rw [hx]
    exact getN_mem (uniq_with hu) (mem_withN.2 (.inl rfl))
  · rename_i hx
    rcases getN_cases t x with ⟨h1, h2⟩ | ⟨h1, h2⟩
    · rw [h1]
      refine getN_none fun n hn => ?_
      rcases mem_withN.1 hn with rfl | ⟨h3, _⟩
      · exact fun h => hx h.symm
      · exact h2 n h3
    · have h3 : getN t x ∈ withN t m := mem_withN.2 (.inr ⟨h1, by rw [h2]; exact hx⟩)
      have := getN_mem (uniq_with hu) h3
      rw [h2] at this
      exact this
theorem uniq_filter {t : List Node} {p : Node → Bool} (hu : Uniq t) : Uniq (t.filter p) :=
  fun n hn m hm => hu n (List.mem_filter.1 hn).1 m (List.mem_filter.1 hm).1
theorem getN_filter {t : List Node} {i : Int} (hu : Uniq t) : getN (t.filter (fun n => n.ino ≠ i)) = del (getN t) i := by
  funext x
  unfold del
  split
  · rename_i hx
    refine getN_none fun n hn => ?_
    have := (List.mem_filter.1 hn).2
    rw [hx]
    simpa using this
  · rename_i hx
    rcases getN_cases t x with ⟨h1, h2⟩ | ⟨h1, h2⟩
    · rw [h1]
      exact getN_none fun n hn => h2 n (List.mem_filter.1 hn).1
    · have h3 : getN t x ∈ t.filter (fun n => n.ino ≠ i) := List.mem_filter.2 ⟨h1, by rw [h2]; simpa using hx⟩
      have := getN_mem (uniq_filter hu) h3
      rw [h2] at this
      exact this
theorem dir_ino {t : List Node} {d : Int} (h : (getN t d).kind = 2) : (getN t d).ino = d := by
  rcases getN_cases t d with ⟨h1, _⟩ | ⟨_, h2⟩
  · rw [h1] at h; simp [zeroNode] at h
  · exact h2
theorem file_ino {t : List Node} {i x : Int} (h : Inv (getN t) i) (hx : (getN t x).kind ≠ 2) : (getN t (getN t x).ino).kind ≠ 2 := by
  rcases getN_cases t x with ⟨h1, _⟩ | ⟨_, h2⟩
  · rw [h1]
    intro hh
    have := h.pos _ hh
    simp [zeroNode] at this
  · rw [h2]; exact hx
/-- A tree that is right. -/
structure TInv (t : List Node) (i : Int) : Prop where
  uniq : Uniq t
  inv : Inv (getN t) i
theorem nameN_some {l : List Ent} {s : List UInt8} (h : 0 ≤ nameN l s) : ∃ e ∈ l, e.name = s ∧ e.ino = nameN l s := by
  unfold nameN at h ⊢
  cases hf : l.find? (fun e => decide (e.name = s)) with
  | none => rw [hf] at h; simp at h
  | some e =>
    refine ⟨e, List.mem_of_find?_eq_some hf, ?_, rfl⟩
    have := List.find?_some hf
    simpa using this
theorem nameN_none {l : List Ent} {s : List UInt8} (h2 : ∀ e ∈ l, 2 ≤ e.ino) (h : nameN l s < 0) : ∀ e ∈ l, e.name ≠ s := by
  unfold nameN at h
  cases hf : l.find? (fun e => decide (e.name = s)) with
  | none =>
    intro e he hs
    have := List.find?_eq_none.1 hf e he
    simp [hs] at this
  | some e =>
    rw [hf] at h
    have := h2 e (List.mem_of_find?_eq_some hf)
    simp only at h
    omega
/-- A name goes that tells no directory, or the one that is let off. -/
theorem TInv.drop {t : List Node} {i d : Int} {s : List UInt8} (h : TInv t i) (hd : (getN t d).kind = 2) (hs : ∀ e ∈ (getN t d).names, e.name = s → (getN t e.ino).kind ≠ 2 ∨ e.ino = i) : TInv (dropN t d s) i := by
  refine ⟨uniq_with h.uniq, ?_⟩
  unfold dropN
  rw [getN_with h.uniq]
  refine h.inv.names hd (dir_ino hd) hd rfl rfl ?_ ?_ ?_
  · intro e he
    exact h.inv.ge2 d e (List.mem_filter.1 he).1
  · intro e he e' he'
    exact h.inv.un d e (List.mem_filter.1 he).1 e' (List.mem_filter.1 he').1
  · intro x hx n1 ni
    obtain ⟨h1, e, h2, h3⟩ := h.inv.told x hx n1 ni
    refine ⟨h1, e, ?_, h3⟩
    split
    · rename_i hp
      rw [hp] at h2
      refine List.mem_filter.2 ⟨h2, ?_⟩
      rw [decide_eq_true_eq]
      intro hes
      rcases hs e h2 hes with h4 | h4
      · rw [h3] at h4; exact h4 hx
      · rw [h3] at h4; exact ni h4
    · exact h2
/-- A name comes. -/
theorem TInv.put {t : List Node} {i j d x : Int} {s : List UInt8} (h : TInv t i) (hd : (getN t d).kind = 2) (hs : ∀ e ∈ (getN t d).names, e.name ≠ s) (h2 : 2 ≤ x) (hj : i ≠ j → (x = i ∧ (getN t i).parent = d)) : TInv (putN t d s x) j := by
  refine ⟨uniq_with h.uniq, ?_⟩
  unfold putN
  rw [getN_with h.uniq]
  refine h.inv.names hd (dir_ino hd) hd rfl rfl ?_ ?_ ?_
  · intro e he
    rcases mem_putA.1 he with ⟨_, rfl⟩ | he
    · exact h2
    · exact h.inv.ge2 d e he
  · intro e he e' he'
    rcases mem_putA.1 he with ⟨_, rfl⟩ | he <;> rcases mem_putA.1 he' with ⟨_, rfl⟩ | he'
    · exact fun _ => rfl
    · exact fun hh => absurd hh.symm (hs _ he')
    · exact fun hh => absurd hh (hs _ he)
    · exact h.inv.un d e he e' he'
  · intro y hy n1 nj
    by_cases hyi : y = i
    · have hij : i ≠ j := fun hh => nj (hyi.trans hh)
      obtain ⟨hx, hp⟩ := hj hij
      rw [hyi, hp, if_pos rfl]
      exact ⟨hd, ⟨s, x⟩, mem_putA.2 (.inl ⟨rfl, rfl⟩), hx⟩
    · obtain ⟨h1, e, h3, h4⟩ := h.inv.told y hy n1 hyi
      refine ⟨h1, e, ?_, h4⟩
      split
      · rename_i hp
        rw [hp] at h3
        exact mem_putA.2 (.inr h3)
      · exact h3
theorem TInv.loses {t : List Node} {i x : Int} (h : TInv t i) (hx : (getN t x).kind ≠ 2) : TInv (losesN t x) i := by
  unfold losesN
  split
  · refine ⟨uniq_filter h.uniq, ?_⟩
    rw [getN_filter h.uniq]
    exact h.inv.delFile hx
  · refine ⟨uniq_with h.uniq, ?_⟩
    rw [getN_with h.uniq]
    exact h.inv.file hx (file_ino h.inv hx) (h.inv.ge2 x) (h.inv.un x)
theorem TInv.with {t : List Node} {i : Int} {m : Node} (h : TInv t i) (hm : m.kind ≠ 2) (hg : (getN t m.ino).kind ≠ 2) (h2 : ∀ e ∈ m.names, 2 ≤ e.ino) (hu : ∀ e ∈ m.names, ∀ e' ∈ m.names, e.name = e'.name → e.ino = e'.ino) : TInv (withN t m) i := by
  refine ⟨uniq_with h.uniq, ?_⟩
  rw [getN_with h.uniq]
  exact h.inv.file hm hg h2 hu
theorem whereN_dir {t : List Node} {s : List UInt8} (h : (whereN t s).2.2 = 0) : (getN t (whereN t s).1).kind = 2 := by
  unfold whereN at h ⊢
  by_cases h1 : (splitN s).2 ≠ 0
  · rw [if_pos h1] at h; exact absurd h h1
  · rw [if_neg h1] at h ⊢
    by_cases h2 : (splitN s).1.length = 0
    · rw [if_pos h2] at h; simp at h
    · rw [if_neg h2] at h ⊢
      split at h
      · rename_i h3; exact absurd h h3
      · split at h
        · simp at h
        · rename_i h3 h4
          rw [if_neg h3, if_neg h4]
          simpa using h4
theorem goN_ge {t : List Node} (h2 : ∀ x, ∀ e ∈ (getN t x).names, 2 ≤ e.ino) : ∀ {ps : List (List UInt8)} {d : Int}, (goN t ps d).2 = 0 → (goN t ps d).1 = d ∨ 2 ≤ (goN t ps d).1
  | [], d, _ => .inl rfl
  | p :: r, d, h => by
    unfold goN at h ⊢
    split at h
    · simp at h
    · split at h
      · simp at h
      · rename_i h3 h4
        rw [if_neg h3, if_neg h4]
        obtain ⟨e, h5, _, h6⟩ := nameN_some (l := (getN t d).names) (s := p) (by omega)
        have h7 := h2 d e h5
        rcases goN_ge h2 h with h8 | h8
        · right; rw [h8]; omega
        · exact .inr h8
theorem resolveN_ge {t : List Node} {s : List UInt8} (h2 : ∀ x, ∀ e ∈ (getN t x).names, 2 ≤ e.ino) (h : (resolveN t s).2 = 0) : (resolveN t s).1 = 1 ∨ 2 ≤ (resolveN t s).1 := by
  unfold resolveN at h ⊢
  split at h
  · rename_i h1; exact absurd h h1
  · rename_i h1
    rw [if_neg h1]
    exact goN_ge h2 h
theorem TInv.make {t : List Node} {o : Opn} (h : TInv t 1) : TInv (makeN t o).1 1 := by
  unfold makeN
  split
  · exact h
  · rename_i h1
    split
    · exact h
    · rename_i h2
      have hd := whereN_dir (t := t) (s := o.a) (by simpa using h1)
      obtain ⟨hn1, hn2, _⟩ := nextN_spec t
      have hz : getN t (nextN t) = zeroNode := getN_none hn1
      have hnd : (whereN t o.a).1 ≠ nextN t := fun hh => by rw [hh, hz] at hd; simp [zeroNode] at hd
      have hkz : (getN t (nextN t)).kind ≠ 2 := by rw [hz]; simp [zeroNode]
      have hfresh := nameN_none (h.inv.ge2 (whereN t o.a).1) (Int.not_le.1 h2)
      have hi : (makeNode t o).ino = nextN t := by unfold makeNode; split <;> rfl
      have hgd : getN (withN t (makeNode t o)) (whereN t o.a).1 = getN t (whereN t o.a).1 := by
        rw [getN_with h.uniq]
        unfold upd
        rw [hi, if_neg hnd]
      by_cases ho : o.does = 2
      · have hm : makeNode t o = ⟨nextN t, 2, 1, (whereN t o.a).1, 0, [], []⟩ := by unfold makeNode; rw [if_pos ho]
        have h3 : TInv (withN t (makeNode t o)) (nextN t) := by
          refine ⟨uniq_with h.uniq, ?_⟩
          rw [getN_with h.uniq]
          have := h.inv.newDir (m := makeNode t o) (by rw [hi]; exact hkz) (by rw [hm]) (by rw [hm]) (by rw [hm]) (by rw [hm]; exact hd) (by rw [hi]; exact hn2)
          rw [hi] at this
          exact this
        have hgi : getN (withN t (makeNode t o)) (nextN t) = makeNode t o := by
          rw [getN_with h.uniq]
          unfold upd
          rw [hi, if_pos rfl]
        exact h3.put (by rw [hgd]; exact hd) (by rw [hgd]; exact hfresh) hn2 (fun _ => ⟨rfl, by rw [hgi, hm]⟩)
      · have hm : (makeNode t o).kind ≠ 2 := by unfold makeNode; rw [if_neg ho]; simp
        have hn : (makeNode t o).names = [] := by unfold makeNode; rw [if_neg ho]
        have h3 : TInv (withN t (makeNode t o)) 1 := h.with hm (by rw [hi]; exact hkz) (by rw [hn]; simp) (by rw [hn]; simp)
        exact h3.put (by rw [hgd]; exact hd) (by rw [hgd]; exact hfresh) hn2 (fun hh => absurd rfl hh)
theorem TInv.link {t : List Node} {o : Opn} (h : TInv t 1) : TInv (linkN t o).1 1 := by
  unfold linkN
  split
  · exact h
  · rename_i h1
    split
    · exact h
    · rename_i h2
      split
      · exact h
      · rename_i h3
        split
        · exact h
        · rename_i h4
          have hd := whereN_dir (t := t) (s := o.b) (by simpa using h3)
          have hge := resolveN_ge (t := t) (s := o.a) h.inv.ge2 (by simpa using h1)
          have hfresh := nameN_none (h.inv.ge2 (whereN t o.b).1) (Int.not_le.1 h4)
          have hfi := file_ino h.inv h2
          have h5 : TInv (withN t (more (getN t (resolveN t o.a).1))) 1 := h.with h2 hfi (h.inv.ge2 _) (h.inv.un _)
          have hgd : getN (withN t (more (getN t (resolveN t o.a).1))) (whereN t o.b).1 = getN t (whereN t o.b).1 := by
            rw [getN_with h.uniq]
            unfold upd
            rw [if_neg]
            intro hh
            have hh : (whereN t o.b).1 = (getN t (resolveN t o.a).1).ino := hh
            rw [hh] at hd
            exact hfi hd
          refine h5.put (by rw [hgd]; exact hd) (by rw [hgd]; exact hfresh) ?_ (fun hh => absurd rfl hh)
          rcases hge with hg | hg
          · rw [hg] at h2; exact absurd h.inv.root h2
          · exact hg
theorem TInv.bytes {t : List Node} {o : Opn} (h : TInv t 1) : TInv (bytesN t o).1 1 := by
  unfold bytesN
  split
  · exact h
  · unfold bytesA
    split
    · exact h
    · rename_i hk
      have hfi := file_ino h.inv hk
      have hw : ∀ m : Node, m.ino = (getN t (resolveN t o.a).1).ino → m.kind = (getN t (resolveN t o.a).1).kind → m.names = (getN t (resolveN t o.a).1).names → TInv (withN t m) 1 := fun m a b c =>
        h.with (by rw [b]; exact hk) (by rw [a]; exact hfi) (by rw [c]; exact h.inv.ge2 _) (by rw [c]; exact h.inv.un _)
      repeat' split
      all_goals first | exact h | exact hw _ rfl rfl rfl
theorem getN_drop {t : List Node} {d y : Int} {s : List UInt8} (hu : Uniq t) (hd : (getN t d).kind = 2) : getN (dropN t d s) y = if y = d then { getN t d with names := (getN t d).names.filter (fun e => decide (e.name ≠ s)) } else getN t y := by
  unfold dropN
  rw [getN_with hu]
  unfold upd
  have : (getN t d).ino = d := dir_ino hd
  simp only [this]
theorem drop_kind {t : List Node} {d y : Int} {s : List UInt8} (hu : Uniq t) (hd : (getN t d).kind = 2) : (getN (dropN t d s) y).kind = (getN t y).kind ∧ (getN (dropN t d s) y).parent = (getN t y).parent ∧ (getN (dropN t d s) y).links = (getN t y).links := by
  rw [getN_drop hu hd]
  split
  · rename_i h; rw [h]; exact ⟨rfl, rfl, rfl⟩
  · exact ⟨rfl, rfl, rfl⟩
theorem drop_names {t : List Node} {d y : Int} {s : List UInt8} (hu : Uniq t) (hd : (getN t d).kind = 2) : ∀ e ∈ (getN (dropN t d s) y).names, e ∈ (getN t y).names ∧ (y = d → e.name ≠ s) := by
  rw [getN_drop hu hd]
  split
  · rename_i h
    rw [h]
    intro e he
    exact ⟨(List.mem_filter.1 he).1, fun _ => by have := (List.mem_filter.1 he).2; simpa using this⟩
  · rename_i h
    exact fun e he => ⟨he, fun hh => absurd hh h⟩
theorem getN_loses {t : List Node} {x y : Int} (hu : Uniq t) (hy : y ≠ x) : getN (losesN t x) y = getN t y := by
  unfold losesN
  split
  · rw [getN_filter hu]; simp [del, hy]
  · rename_i hl
    rw [getN_with hu]
    unfold upd
    rw [if_neg]
    rcases getN_cases t x with ⟨h1, _⟩ | ⟨_, h2⟩
    · rw [h1] at hl; simp [zeroNode] at hl
    · intro hh
      have hh : y = (getN t x).ino := hh
      exact hy (hh.trans h2)
theorem TInv.remove {t : List Node} {o : Opn} (h : TInv t 1) (hdo : o.does = 4 ∨ o.does = 5) : TInv (removeN t o).1 1 := by
  unfold removeN
  split
  · exact h
  · rename_i h1
    split
    · exact h
    · rename_i h2
      have hd := whereN_dir (t := t) (s := o.a) (by simpa using h1)
      generalize whereN t o.a = w at *
      obtain ⟨e0, he0, hs0, hi0⟩ := nameN_some (l := (getN t w.1).names) (s := w.2.1) (by omega)
      have hge : 2 ≤ nameN (getN t w.1).names w.2.1 := by rw [← hi0]; exact h.inv.ge2 _ e0 he0
      have hall : ∀ e ∈ (getN t w.1).names, e.name = w.2.1 → e.ino = nameN (getN t w.1).names w.2.1 := fun e he hs => by
        rw [← hi0]; exact h.inv.un _ e he e0 he0 (hs.trans hs0.symm)
      generalize nameN (getN t w.1).names w.2.1 = ino at *
      split
      · exact h
      · rename_i h3
        split
        · exact h
        · rename_i h4
          split
          · exact h
          · rename_i h5
            rcases hdo with d4 | d5
            · have hk : (getN t ino).kind ≠ 2 := fun hh => h3 ⟨d4, hh⟩
              have hD := h.drop (d := w.1) (s := w.2.1) hd (fun e he hs => .inl (by rw [hall e he hs]; exact hk))
              exact hD.loses (by rw [(drop_kind h.uniq hd).1]; exact hk)
            · have hk : (getN t ino).kind = 2 := Decidable.byContradiction fun hh => h4 ⟨d5, hh⟩
              have hn : (getN t ino).names = [] := by
                have : ¬ 0 < (getN t ino).names.length := fun hh => h5 ⟨d5, hh⟩
                exact List.length_eq_zero_iff.1 (by omega)
              have hne : ino ≠ w.1 := fun hh => by rw [← hh, hn] at he0; simp at he0
              have hD : TInv (dropN t w.1 w.2.1) ino := TInv.drop ⟨h.uniq, h.inv.any⟩ hd (fun e he hs => .inr (hall e he hs))
              have hg : getN (dropN t w.1 w.2.1) ino = getN t ino := by rw [getN_drop h.uniq hd, if_neg hne]
              unfold losesN
              rw [if_pos (by rw [hg, h.inv.ln ino hk]; omega)]
              refine ⟨uniq_filter hD.uniq, ?_⟩
              rw [getN_filter hD.uniq]
              exact hD.inv.delDir (by omega) (by rw [hg]; exact hn)
end Go.Proofs.Ytghllhghboaagaa
end
