/- The document's model: Make, Link. -/
import Derived.Test.YtghllhghboaagaaM07
/-! The document's model: Make, Link. -/
section
set_option linter.unusedVariables false
set_option linter.unusedSimpArgs false
set_option maxRecDepth 10000
namespace Go.Proofs.Ytghllhghboaagaa
open Go.Vm
theorem retQ_tc {P : Program} {T : List V} {S : Store} {t a u : Nat} {v w x : V} {d e : D} (hv : T.getD t (.tup []) = v) (ha : T.getD a (.tup []) = w) (hl : loadV P S u w = some x) (h1 : v.one = true) (h2 : x.one = true) (h3 : frz S frzFuel v = some d) (h4 : frz S frzFuel x = some e) : RetQ P #[.tmp t, .cell a u] (.ret (.tup [.d d, .d e])) .ret T S [] :=
  retQ_many (r1 := .tmp t) (r2 := .cell a u) (l := []) (vs := [v, x]) (ds := [d, e]) (by simp only [allO, resultV, hv, ha, hl]) (by simp [h1, h2]) (by simp only [allO, h3, h4])
theorem dr_with0 {ops : Array Oper} {F : Dfs} {Q : Post} {K : List Nat → List (Nat × Nat) → List V → Store → Prop} {rd : List Nat} {cs : List (Nat × Nat)} {i : Nat} {dst : Option Tmp} {T : List V} {S : Store} {t : List Node} {a b c d e : Int} (hl : t.length < 400000) :
    WpE cfg ops F Q K rd cs i dst T S (some (.enter 89 [.d (.sl (t.map encNode)), .agg [.d (.int .i64 a), .d (.int .i64 b), .d (.int .i64 c), .d (.int .i64 d), .d (.int .i64 e), .ts [], .ts []]])) = K (i :: rd) (cs ++ [(i, 1)]) (putT T dst (.d (.sl ((withN t ⟨a, b, c, d, e, [], []⟩).map encNode)))) S :=
  we_call_v (ds := [.sl (t.map encNode), encNode ⟨a, b, c, d, e, [], []⟩]) rfl rfl rfl (with_ok t _ hl)
theorem bd91 {n : Int} : buildV Try.prog 91 [(0, .d (.int .i64 n)), (1, .d (.int .i64 1)), (2, .d (.int .i64 1))] = some (.agg [.d (.int .i64 n), .d (.int .i64 1), .d (.int .i64 1), .d (.int .i64 0), .d (.int .i64 0), .ts [], .ts []]) := by kernel_rfl
theorem bd52_1 {e : Int} : buildV Try.prog 52 [(1, .d (.int .i64 e))] = some (.agg [.d (.int .i64 0), .d (.int .i64 e), .d (.int .i64 0), .d (.int .i64 0), .d (.int .i64 0), .ts [], .ts []]) := by kernel_rfl
theorem bd52_0 : buildV Try.prog 52 [] = some (.agg [.d (.int .i64 0), .d (.int .i64 0), .d (.int .i64 0), .d (.int .i64 0), .d (.int .i64 0), .ts [], .ts []]) := by kernel_rfl
def okN : Ans := ⟨0, 0, 0, 0, 0, [], []⟩
def makeNode (t : List Node) (o : Opn) : Node := if o.does = 2 then ⟨nextN t, 2, 1, (whereN t o.a).1, 0, [], []⟩ else ⟨nextN t, 1, 1, 0, 0, [], []⟩
def makeN (t : List Node) (o : Opn) : List Node × Ans :=
  if (whereN t o.a).2.2 ≠ 0 then (t, failN (whereN t o.a).2.2)
  else if 0 ≤ nameN (getN t (whereN t o.a).1).names (whereN t o.a).2.1 then (t, failN 5)
  else (putN (withN t (makeNode t o)) (whereN t o.a).1 (whereN t o.a).2.1 (nextN t), { okN with ino := nextN t })
theorem make_ok (t : List Node) (k0 : Nat) (hk0 : k0 < 200000) (hS : Small k0 t) (o : Opn) (ha : o.a.length < 1000000) : Ev cfg 47 [.sl (t.map encNode), encOpn o] (.ret (.tup [.d (.sl ((makeN t o).1.map encNode)), .d (encAns (makeN t o).2)])) := by
  refine ev_of rfl rfl body47 ?_
  show Wp cfg (Try.f47.body.getD .skip) ((.d (.sl (t.map encNode))) :: (.d (encOpn o)) :: (.tup []) :: (.tup []) :: (.tup []) :: (.tup []) :: (.tup []) :: (.tup []) :: (.tup []) :: (.tup []) :: (.tup []) :: (.tup []) :: (.tup []) :: (.tup []) :: (.tup []) :: (.tup []) :: (.tup []) :: (.tup []) :: (.tup []) :: (.tup []) :: (.tup []) :: (.tup []) :: (.tup []) :: (.tup []) :: (.tup []) :: (.tup []) :: (.tup []) :: (.tup []) :: (.tup []) :: (.tup []) :: (.tup []) :: (.tup []) :: (.tup []) :: (.tup []) :: (.tup []) :: (.tup []) :: (.tup []) :: (.tup []) :: (.tup []) :: (.tup []) :: (.tup []) :: (.tup []) :: (.tup []) :: (.tup []) :: (.tup []) :: (.tup []) :: (.tup []) :: (.tup []) :: (.tup []) :: (.tup []) :: (.tup []) :: []) [] [] _
  conv => arg 2; whnf
  have hk1 : k0 < 300000 := by omega
  have hlt : t.length < 400000 := Nat.lt_of_le_of_lt hS.len (by omega)
  have hlt' : t.length < 1000000 := by omega
  have hgn : (getN t (whereN t o.a).1).names.length < 1000000 := Nat.lt_of_le_of_lt (hS.gnms _) (by omega)
  by_cases h1 : (whereN t o.a).2.2 = 0
  · by_cases h2 : 0 ≤ nameN (getN t (whereN t o.a).1).names (whereN t o.a).2.1
    · have h2' : nameN (getN t (whereN t o.a).1).names (whereN t o.a).2.1 ≥ 0 := h2
      have e : makeN t o = (t, failN 5) := by unfold makeN; rw [if_neg (by simp [h1]), if_pos h2]
      simp (maxSteps := 1000000) (disch := first | assumption | omega | rfl) only [↓vmp, vme, vmb, ty, hP, dec_t, dec_f, wrap64, List.length_map, Int.toNat_natCast, Nat.reduceAdd, List.cons_append, List.nil_append, Option.map_some, Option.map_none, strOf_mk, sb_eql, sb_neq, vmg, call_where hS hk1, call_get, call_name, call_fail]
      rw [e]
      exact retQ_tc rfl rfl (x := .d (encAns (failN 5))) (by kernel_rfl) rfl rfl rfl rfl
    · have h2' : ¬ nameN (getN t (whereN t o.a).1).names (whereN t o.a).2.1 ≥ 0 := h2
      have e : makeN t o = (putN (withN t (makeNode t o)) (whereN t o.a).1 (whereN t o.a).2.1 (nextN t), { okN with ino := nextN t }) := by unfold makeN; rw [if_neg (by simp [h1]), if_neg h2]
      have hwn : (withN t (makeNode t o)).length < 400000 := Nat.lt_of_le_of_lt len_withN (by have := hS.len; omega)
      have hnl := whereN_len t o.a
      have hnl' : (whereN t o.a).2.1.length < 1000000 := by omega
      have hmk : SmallN (k0 + 1) (makeNode t o) := by unfold makeNode; split <;> exact ⟨Nat.zero_le _, fun e he => by simp at he, ⟨by simp; omega, by simp; omega⟩, by simp⟩
      have hS2 := hS.with hmk
      have hgn2 : (getN (withN t (makeNode t o)) (whereN t o.a).1).names.length < 400000 := Nat.lt_of_le_of_lt (hS2.gnms _) (by omega)
      have hgm2 : ∀ e ∈ (getN (withN t (makeNode t o)) (whereN t o.a).1).names, e.name.length < 1000000 := fun e he => Nat.lt_of_le_of_lt (hS2.gnam _ e he) (by omega)
      by_cases h3 : o.does = 2
      · have em : makeNode t o = ⟨nextN t, 2, 1, (whereN t o.a).1, 0, [], []⟩ := by unfold makeNode; rw [if_pos h3]
        rw [em] at hwn hgn2 hgm2 e
        simp (maxSteps := 1000000) (disch := first | assumption | omega | rfl) only [↓vmp, vme, vmb, ty, hP, dec_t, dec_f, wrap64, List.length_map, Int.toNat_natCast, Nat.reduceAdd, List.cons_append, List.nil_append, Option.map_some, Option.map_none, strOf_mk, sb_eql, sb_neq, vmg, call_where hS hk1, call_get, call_name, call_next, bd91]
        refine wk_draw (is := [0, 1, 3, 4, 5, 6, 8, 9, 10, 2, 7, 11, 12]) (h := 0) (by kernel_rfl) (by kernel_rfl) ?_
        simp (maxSteps := 1000000) (disch := first | assumption | omega | rfl) only [List.replicate_zero, eq_self, vmd, vmk, vmo, vmg, vme, vmb, ty, hP, dec_t, dec_f, wrap64, List.length_map, Int.toNat_natCast, Nat.reduceAdd, bd52_1, dr_with0, dr_put]
        refine ⟨fun _ => by kernel_rfl, ?_⟩
        refine ⟨by kernel_rfl, ?_⟩
        simp (maxSteps := 1000000) (disch := first | assumption | omega | rfl) only [↓vmp, vme, vmb, ty, hP, dec_t, dec_f, wrap64, List.length_map, Int.toNat_natCast, Nat.reduceAdd, List.cons_append, List.nil_append, Option.map_some, Option.map_none, strOf_mk, sb_eql, sb_neq, vmg]
        rw [e]
        exact retQ_tc rfl rfl (x := .agg [.d (.int .i64 0), .d (.int .i64 (nextN t)), .d (.int .i64 0), .d (.int .i64 0), .d (.int .i64 0), .ts [], .ts []]) (by kernel_rfl) rfl rfl rfl rfl
      · have em : makeNode t o = ⟨nextN t, 1, 1, 0, 0, [], []⟩ := by unfold makeNode; rw [if_neg h3]
        rw [em] at hwn hgn2 hgm2 e
        simp (maxSteps := 1000000) (disch := first | assumption | omega | rfl) only [↓vmp, vme, vmb, ty, hP, dec_t, dec_f, wrap64, List.length_map, Int.toNat_natCast, Nat.reduceAdd, List.cons_append, List.nil_append, Option.map_some, Option.map_none, strOf_mk, sb_eql, sb_neq, vmg, call_where hS hk1, call_get, call_name, call_next, bd91]
        refine wk_draw (is := [0, 1, 3, 4, 5, 6, 8, 9, 10, 2, 7, 11, 12]) (h := 0) (by kernel_rfl) (by kernel_rfl) ?_
        simp (maxSteps := 1000000) (disch := first | assumption | omega | rfl) only [List.replicate_zero, eq_self, vmd, vmk, vmo, vmg, vme, vmb, ty, hP, dec_t, dec_f, wrap64, List.length_map, Int.toNat_natCast, Nat.reduceAdd, bd52_1, dr_with0, dr_put]
        refine ⟨fun _ => by kernel_rfl, ?_⟩
        refine ⟨by kernel_rfl, ?_⟩
        simp (maxSteps := 1000000) (disch := first | assumption | omega | rfl) only [↓vmp, vme, vmb, ty, hP, dec_t, dec_f, wrap64, List.length_map, Int.toNat_natCast, Nat.reduceAdd, List.cons_append, List.nil_append, Option.map_some, Option.map_none, strOf_mk, sb_eql, sb_neq, vmg]
        rw [e]
        exact retQ_tc rfl rfl (x := .agg [.d (.int .i64 0), .d (.int .i64 (nextN t)), .d (.int .i64 0), .d (.int .i64 0), .d (.int .i64 0), .ts [], .ts []]) (by kernel_rfl) rfl rfl rfl rfl
  · have e : makeN t o = (t, failN (whereN t o.a).2.2) := by unfold makeN; rw [if_pos h1]
    simp (maxSteps := 1000000) (disch := first | assumption | omega | rfl) only [↓vmp, vme, vmb, ty, hP, dec_t, dec_f, wrap64, List.length_map, Int.toNat_natCast, Nat.reduceAdd, List.cons_append, List.nil_append, Option.map_some, Option.map_none, strOf_mk, sb_eql, sb_neq, vmg, call_where hS hk1, call_fail]
    rw [e]
    exact retQ_tc rfl rfl (x := .d (encAns (failN (whereN t o.a).2.2))) (by kernel_rfl) rfl rfl rfl rfl
end Go.Proofs.Ytghllhghboaagaa
end
/-! The document's model: Link, Remove. -/
section
set_option linter.unusedVariables false
set_option linter.unusedSimpArgs false
set_option maxRecDepth 10000
namespace Go.Proofs.Ytghllhghboaagaa
open Go.Vm
theorem call_make {ops : Array Oper} {dst : Option Tmp} {l : List Oper} {T : List V} {S : Store} {F : Dfs} {Q : Post} {t : List Node} {o : Opn} {k0 : Nat} (hS : Small k0 t) (hk0 : k0 < 200000) (ha : o.a.length < 1000000) :
    WpR cfg ops dst l T S F Q (some (.enter 47 [.d (.sl (t.map encNode)), .d (encOpn o)])) = WpL cfg ops l (putT T dst (.tup [.d (.sl ((makeN t o).1.map encNode)), .d (encAns (makeN t o).2)])) S F Q :=
  wr_call_d (ds := [.sl (t.map encNode), encOpn o]) rfl (make_ok t k0 hk0 hS o ha)
def more (n : Node) : Node := ⟨n.ino, n.kind, n.links + 1, n.parent, n.size, n.data, n.names⟩
def linkN (t : List Node) (o : Opn) : List Node × Ans :=
  if (resolveN t o.a).2 ≠ 0 then (t, failN (resolveN t o.a).2)
  else if (getN t (resolveN t o.a).1).kind = 2 then (t, failN 7)
  else if (whereN t o.b).2.2 ≠ 0 then (t, failN (whereN t o.b).2.2)
  else if 0 ≤ nameN (getN t (whereN t o.b).1).names (whereN t o.b).2.1 then (t, failN 5)
  else (putN (withN t (more (getN t (resolveN t o.a).1))) (whereN t o.b).1 (whereN t o.b).2.1 (resolveN t o.a).1, okN)
theorem link_ok (t : List Node) (k0 : Nat) (hk0 : k0 < 200000) (hS : Small k0 t) (o : Opn) (ha : o.a.length < 1000000) (hb : o.b.length < 1000000) : Ev cfg 48 [.sl (t.map encNode), encOpn o] (.ret (.tup [.d (.sl ((linkN t o).1.map encNode)), .d (encAns (linkN t o).2)])) := by
  refine ev_of rfl rfl body48 ?_
  show Wp cfg (Try.f48.body.getD .skip) ((.d (.sl (t.map encNode))) :: (.d (encOpn o)) :: (.tup []) :: (.tup []) :: (.tup []) :: (.tup []) :: (.tup []) :: (.tup []) :: (.tup []) :: (.tup []) :: (.tup []) :: (.tup []) :: (.tup []) :: (.tup []) :: (.tup []) :: (.tup []) :: (.tup []) :: (.tup []) :: (.tup []) :: (.tup []) :: (.tup []) :: (.tup []) :: (.tup []) :: (.tup []) :: (.tup []) :: (.tup []) :: (.tup []) :: (.tup []) :: (.tup []) :: (.tup []) :: (.tup []) :: (.tup []) :: (.tup []) :: (.tup []) :: (.tup []) :: (.tup []) :: (.tup []) :: (.tup []) :: (.tup []) :: (.tup []) :: (.tup []) :: (.tup []) :: (.tup []) :: (.tup []) :: (.tup []) :: (.tup []) :: (.tup []) :: (.tup []) :: (.tup []) :: (.tup []) :: (.tup []) :: (.tup []) :: (.tup []) :: (.tup []) :: (.tup []) :: (.tup []) :: (.tup []) :: (.tup []) :: (.tup []) :: (.tup []) :: (.tup []) :: (.tup []) :: (.tup []) :: (.tup []) :: (.tup []) :: []) [] [] _
  conv => arg 2; whnf
  have hk1 : k0 < 300000 := by omega
  have hlt : t.length < 400000 := Nat.lt_of_le_of_lt hS.len (by omega)
  have hlt' : t.length < 1000000 := by omega
  have hgn : (getN t (whereN t o.b).1).names.length < 1000000 := Nat.lt_of_le_of_lt (hS.gnms _) (by omega)
  by_cases h1 : (resolveN t o.a).2 = 0
  · by_cases h2 : (getN t (resolveN t o.a).1).kind = 2
    · have e : linkN t o = (t, failN 7) := by unfold linkN; rw [if_neg (by simp [h1]), if_pos h2]
      simp (maxSteps := 1000000) (disch := first | assumption | omega | rfl) only [↓vmp, vme, vmb, ty, hP, dec_t, dec_f, wrap64, List.length_map, Int.toNat_natCast, Nat.reduceAdd, List.cons_append, List.nil_append, Option.map_some, Option.map_none, strOf_mk, sb_eql, sb_neq, vmg, call_resolve hS hk1, call_get, call_fail]
      rw [e]
      exact retQ_tc rfl rfl (x := .d (encAns (failN 7))) (by kernel_rfl) rfl rfl rfl rfl
    · by_cases h3 : (whereN t o.b).2.2 = 0
      · by_cases h4 : 0 ≤ nameN (getN t (whereN t o.b).1).names (whereN t o.b).2.1
        · have h4' : nameN (getN t (whereN t o.b).1).names (whereN t o.b).2.1 ≥ 0 := h4
          have e : linkN t o = (t, failN 5) := by unfold linkN; rw [if_neg (by simp [h1]), if_neg h2, if_neg (by simp [h3]), if_pos h4]
          simp (maxSteps := 1000000) (disch := first | assumption | omega | rfl) only [↓vmp, vme, vmb, ty, hP, dec_t, dec_f, wrap64, List.length_map, Int.toNat_natCast, Nat.reduceAdd, List.cons_append, List.nil_append, Option.map_some, Option.map_none, strOf_mk, sb_eql, sb_neq, vmg, call_resolve hS hk1, call_where hS hk1, call_get, call_name, call_fail]
          rw [e]
          exact retQ_tc rfl rfl (x := .d (encAns (failN 5))) (by kernel_rfl) rfl rfl rfl rfl
        · have h4' : ¬ nameN (getN t (whereN t o.b).1).names (whereN t o.b).2.1 ≥ 0 := h4
          have e : linkN t o = (putN (withN t (more (getN t (resolveN t o.a).1))) (whereN t o.b).1 (whereN t o.b).2.1 (resolveN t o.a).1, okN) := by unfold linkN; rw [if_neg (by simp [h1]), if_neg h2, if_neg (by simp [h3]), if_neg h4]
          have hg := hS.get (resolveN t o.a).1
          have hmk : SmallN (k0 + 1) (more (getN t (resolveN t o.a).1)) := ⟨Nat.le_succ_of_le hg.nms, hg.nam, ⟨by have := hg.lnk.1; simp only [more]; omega, by have := hg.lnk.2; simp only [more]; omega⟩, hg.siz⟩
          have hS2 := hS.with hmk
          have hwn : (withN t (more (getN t (resolveN t o.a).1))).length < 400000 := Nat.lt_of_le_of_lt hS2.len (by omega)
          have hnl := whereN_len t o.b
          have hnl' : (whereN t o.b).2.1.length < 1000000 := by omega
          have hgn2 : (getN (withN t (more (getN t (resolveN t o.a).1))) (whereN t o.b).1).names.length < 400000 := Nat.lt_of_le_of_lt (hS2.gnms _) (by omega)
          have hgm2 : ∀ e ∈ (getN (withN t (more (getN t (resolveN t o.a).1))) (whereN t o.b).1).names, e.name.length < 1000000 := fun e he => Nat.lt_of_le_of_lt (hS2.gnam _ e he) (by omega)
          have hl1 := hg.lnk.1
          have hl2 := hg.lnk.2
          unfold more at hwn hgn2 hgm2 e
          simp (maxSteps := 1000000) (disch := first | assumption | omega | rfl) only [↓vmp, vme, vmb, ty, hP, dec_t, dec_f, wrap64, List.length_map, Int.toNat_natCast, Nat.reduceAdd, List.cons_append, List.nil_append, Option.map_some, Option.map_none, strOf_mk, sb_eql, sb_neq, vmg, call_resolve hS hk1, call_where hS hk1, call_get, call_name, call_withA, call_put, bd52_0]
          rw [e]
          exact retQ_tc rfl rfl (x := .agg [.d (.int .i64 0), .d (.int .i64 0), .d (.int .i64 0), .d (.int .i64 0), .d (.int .i64 0), .ts [], .ts []]) (by kernel_rfl) rfl rfl rfl rfl
      · have e : linkN t o = (t, failN (whereN t o.b).2.2) := by unfold linkN; rw [if_neg (by simp [h1]), if_neg h2, if_pos h3]
        simp (maxSteps := 1000000) (disch := first | assumption | omega | rfl) only [↓vmp, vme, vmb, ty, hP, dec_t, dec_f, wrap64, List.length_map, Int.toNat_natCast, Nat.reduceAdd, List.cons_append, List.nil_append, Option.map_some, Option.map_none, strOf_mk, sb_eql, sb_neq, vmg, call_resolve hS hk1, call_where hS hk1, call_get, call_fail]
        rw [e]
        exact retQ_tc rfl rfl (x := .d (encAns (failN (whereN t o.b).2.2))) (by kernel_rfl) rfl rfl rfl rfl
  · have e : linkN t o = (t, failN (resolveN t o.a).2) := by unfold linkN; rw [if_pos h1]
    simp (maxSteps := 1000000) (disch := first | assumption | omega | rfl) only [↓vmp, vme, vmb, ty, hP, dec_t, dec_f, wrap64, List.length_map, Int.toNat_natCast, Nat.reduceAdd, List.cons_append, List.nil_append, Option.map_some, Option.map_none, strOf_mk, sb_eql, sb_neq, vmg, call_resolve hS hk1, call_fail]
    rw [e]
    exact retQ_tc rfl rfl (x := .d (encAns (failN (resolveN t o.a).2))) (by kernel_rfl) rfl rfl rfl rfl
theorem call_link {ops : Array Oper} {dst : Option Tmp} {l : List Oper} {T : List V} {S : Store} {F : Dfs} {Q : Post} {t : List Node} {o : Opn} {k0 : Nat} (hS : Small k0 t) (hk0 : k0 < 200000) (ha : o.a.length < 1000000) (hb : o.b.length < 1000000) :
    WpR cfg ops dst l T S F Q (some (.enter 48 [.d (.sl (t.map encNode)), .d (encOpn o)])) = WpL cfg ops l (putT T dst (.tup [.d (.sl ((linkN t o).1.map encNode)), .d (encAns (linkN t o).2)])) S F Q :=
  wr_call_d (ds := [.sl (t.map encNode), encOpn o]) rfl (link_ok t k0 hk0 hS o ha hb)
end Go.Proofs.Ytghllhghboaagaa
end
