/- Steps as the program has them: escheatlaw44.To. -/
import Derived.Test.YteapjcgeckpknaaDoorW09
/-! Steps as the program has them: escheatlaw44.To. -/
section
set_option linter.unusedVariables false
set_option linter.unusedSimpArgs false
set_option maxRecDepth 100000
set_option maxHeartbeats 4000000
namespace Go.Proofs.YteapjcgeckpknaaDoor
open Go.Vm
theorem bd28s {s : Step} : buildV Tryd.prog 28 [(0, .d (.int .i64 s.does)), (1, .d (encOpn s.o)), (2, .d (.int .u64 s.w)), (3, .d (.int .i64 s.n))] = some (.agg [.d (.int .i64 s.does), .d (.int .i64 s.o.does), .d (.str s.o.a), .d (.str s.o.b), .d (.int .i64 s.o.off), .d (.int .i64 s.o.n), .d (encB s.o.data), .d (.int .u64 s.w), .d (.int .i64 s.n)]) := by kernel_rfl
theorem bs43s {S : Store} {s : Step} : bs1 Tryd.prog S 43 (.agg [.d (.int .i64 s.does), .d (.int .i64 s.o.does), .d (.str s.o.a), .d (.str s.o.b), .d (.int .i64 s.o.off), .d (.int .i64 s.o.n), .d (encB s.o.data), .d (.int .u64 s.w), .d (.int .i64 s.n)]) = some (.val (.ts [encStep s]) S 0) := by kernel_rfl
theorem nil28 : (sz Tryd.prog 28).isSome = true := by kernel_rfl
theorem app_step {S : Store} {v : V} {l : List Step} (x : Step) (hl : l.length ≤ 100000) (h : SlE encStep S v 28 l) : ∃ v' S' c, appendV Tryd.prog S 43 43 v (.ts [encStep x]) = some (v', S', c) ∧ (c = 1 ∨ c = 2 ∨ c = 3) ∧ SlE encStep S' v' 28 (l ++ [x]) ∧ (∀ (j : Nat) (o : Ob), S[j]? = some o → idOf v ≠ some j → S'[j]? = some o) ∧ (∀ i, idOf v' = some i → idOf v = some i ∨ S.length ≤ i) := by
  obtain ⟨v', S', c, h1, h2⟩ := app_data (t := 43) (enc := encStep) (ds := [x]) Tryd.underlying43 zOk43 nil28 (fun a => fitsT28 _) (room43 (by simp; omega)) h
  exact ⟨v', S', c, by rw [app_ts]; exact h1, h2⟩
section
variable {ops : Array Oper} {F : Dfs} {Q : Post} {K : List Nat → List (Nat × Nat) → List V → Store → Prop} {rd : List Nat} {cs : List (Nat × Nat)} {i : Nat} {dst : Option Tmp} {T : List V} {S : Store}
theorem dr_to27 {o : Opn} (h : o.data.length ≤ 100000) : WpE cfg ops F Q K rd cs i dst T S (some (.enter 29 [.d (encOpn o)])) = K (i :: rd) (cs ++ [(i, 1)]) (putT T dst (.d (encOpn o))) S :=
  we_call_d (ds := [encOpn o]) rfl (To27_ok o h)
theorem dr_to27A {o : Opn} (h : o.data.length ≤ 100000) : WpE cfg ops F Q K rd cs i dst T S (some (.enter 29 [.agg [.d (.int .i64 o.does), .d (.str o.a), .d (.str o.b), .d (.int .i64 o.off), .d (.int .i64 o.n), .d (encB o.data)]])) = K (i :: rd) (cs ++ [(i, 1)]) (putT T dst (.d (encOpn o))) S :=
  we_call_v (ds := [encOpn o]) rfl rfl rfl (To27_ok o h)
end
theorem to44_l (l : List Step) (hl : l.length ≤ 1000) (hB : ∀ s ∈ l, s.o.data.length ≤ 100000) (R : Post) (x2 : V) : ∀ (k i : Nat) (v : V) (S : Store) (g5 g6 g7 g8 g9 g10 g11 g12 g13 g14 g15 g16 g17 g18 g19 g20 g21 g22 g23 g24 g25 g26 g27 g28 g29 g30 g31 g32 g33 g34 g35 g36 : V), l.length - i = k → i ≤ l.length → SlE encStep S v 28 (l.take i) →
   (∀ S v i' g5 g6 g7 g8 g9 g10 g11 g12 g13 g14 g15 g16 g17 g18 g19 g20 g21 g22 g23 g24 g25 g26 g27 g28 g29 g30 g31 g32 g33 g34 g35 g36, SlE encStep S v 28 l → R (.exit 0) ((.d (.sl (l.map encStep))) :: (.tup []) :: x2 :: v :: i' :: g5 :: g6 :: g7 :: g8 :: g9 :: g10 :: g11 :: g12 :: g13 :: g14 :: g15 :: g16 :: g17 :: g18 :: g19 :: g20 :: g21 :: g22 :: g23 :: g24 :: g25 :: g26 :: g27 :: g28 :: g29 :: g30 :: g31 :: g32 :: g33 :: g34 :: g35 :: g36 :: []) S []) →
   Wp cfg (.loop (lpOf (Tryd.f14.body.getD .skip) 0)) ((.d (.sl (l.map encStep))) :: (.tup []) :: x2 :: v :: (.d (.int .i64 (i : Int))) :: g5 :: g6 :: g7 :: g8 :: g9 :: g10 :: g11 :: g12 :: g13 :: g14 :: g15 :: g16 :: g17 :: g18 :: g19 :: g20 :: g21 :: g22 :: g23 :: g24 :: g25 :: g26 :: g27 :: g28 :: g29 :: g30 :: g31 :: g32 :: g33 :: g34 :: g35 :: g36 :: []) S [] R := by
  intro k
  induction k with
  | zero =>
    intro i v S g5 g6 g7 g8 g9 g10 g11 g12 g13 g14 g15 g16 g17 g18 g19 g20 g21 g22 g23 g24 g25 g26 g27 g28 g29 g30 g31 g32 g33 g34 g35 g36 hk hi hI hE
    have hie : i = l.length := by omega
    rw [hie, List.take_length] at hI
    rw [wk_of]
    refine wk_loop ?_
    conv => arg 2; whnf
    simp (maxSteps := 1000000) (disch := first | assumption | omega | rfl) only [↓vmp, vme, vmb, ty, hP, dec_t, dec_f, wrap64, List.length_map, Int.toNat_natCast, Nat.reduceAdd, List.cons_append, List.nil_append, Option.map_some, Option.map_none, strOf_mk, sb_eql, sb_neq, vmg, ↓vgd, ↓vst, ↓vix]
    exact hE _ _ _ _ _ _ _ _ _ _ _ _ _ _ _ _ _ _ _ _ _ _ _ _ _ _ _ _ _ _ _ _ _ _ _ hI
  | succ k ih =>
    intro i v S g5 g6 g7 g8 g9 g10 g11 g12 g13 g14 g15 g16 g17 g18 g19 g20 g21 g22 g23 g24 g25 g26 g27 g28 g29 g30 g31 g32 g33 g34 g35 g36 hk hi hI hE
    have hlt : i < l.length := by omega
    have hb := hB _ (List.getElem_mem hlt)
    obtain ⟨v', S', c, e1, hc, e2, _, _⟩ := app_step l[i] (by simp; omega) hI
    rw [← take_snoc hlt] at e2
    have e3 := e2.one
    rw [wk_of]
    refine wk_loop ?_
    conv => arg 2; whnf
    simp (maxSteps := 1000000) (disch := first | assumption | omega | rfl) only [↓vmp, vme, vmb, ty, hP, dec_t, dec_f, wrap64, List.length_map, Int.toNat_natCast, Nat.reduceAdd, List.cons_append, List.nil_append, Option.map_some, Option.map_none, strOf_mk, sb_eql, sb_neq, vmg, ↓vgd, ↓vst, ↓vix]
    rcases hc with rfl | rfl | rfl
    all_goals
      refine wk_draw (is := [0, 1, 2, 3, 4, 5, 6, 7, 8, 9, 10, 12, 13, 14, 15, 16, 17, 18, 19, 20, 21, 11, 22, 23, 24, 25]) (h := 0) (by kernel_rfl) (by kernel_rfl) ?_
      simp (maxSteps := 1000000) (disch := first | assumption | omega | rfl) only [List.replicate_zero, eq_self, vmd, vmk, vmo, vmg, vme, vmb, ty, hP, dec_t, dec_f, wrap64, List.length_map, Int.toNat_natCast, Nat.reduceAdd, ↓vgd, ↓vst, ↓vix, vso, List.append_nil, Option.map_some, dr_to27 hb, dr_to27A hb, bo29, bd28s, op_bs1, bs43s, e1, e3]
      first | refine ⟨by kernel_rfl, ?_⟩ | refine ⟨fun _ => by kernel_rfl, by kernel_rfl, ?_⟩
      simp (maxSteps := 1000000) (disch := first | assumption | omega | rfl) only [↓vmp, vme, vmb, ty, hP, dec_t, dec_f, wrap64, List.length_map, Int.toNat_natCast, Nat.reduceAdd, List.cons_append, List.nil_append, Option.map_some, Option.map_none, strOf_mk, sb_eql, sb_neq, vmg, ↓vgd, ↓vst, ↓vix]
      exact ih (i + 1) _ _ _ _ _ _ _ _ _ _ _ _ _ _ _ _ _ _ _ _ _ _ _ _ _ _ _ _ _ _ _ _ _ _ (by omega) (by omega) e2 hE
theorem to44_ok (l : List Step) (hl : l.length ≤ 1000) (hB : ∀ s ∈ l, s.o.data.length ≤ 100000) : Ev cfg 14 [.sl (l.map encStep)] (.ret (.d (.sl (l.map encStep)))) := by
  refine ev_of rfl rfl body14 ?_
  show Wp cfg (Tryd.f14.body.getD .skip) ((.d (.sl (l.map encStep))) :: (.tup []) :: (.tup []) :: (.tup []) :: (.tup []) :: (.tup []) :: (.tup []) :: (.tup []) :: (.tup []) :: (.tup []) :: (.tup []) :: (.tup []) :: (.tup []) :: (.tup []) :: (.tup []) :: (.tup []) :: (.tup []) :: (.tup []) :: (.tup []) :: (.tup []) :: (.tup []) :: (.tup []) :: (.tup []) :: (.tup []) :: (.tup []) :: (.tup []) :: (.tup []) :: (.tup []) :: (.tup []) :: (.tup []) :: (.tup []) :: (.tup []) :: (.tup []) :: (.tup []) :: (.tup []) :: (.tup []) :: (.tup []) :: []) [] [] _
  conv => arg 2; whnf
  simp (maxSteps := 1000000) (disch := first | assumption | omega | rfl) only [↓vmp, vme, vmb, ty, hP, dec_t, dec_f, wrap64, List.length_map, Int.toNat_natCast, Nat.reduceAdd, List.cons_append, List.nil_append, Option.map_some, Option.map_none, strOf_mk, sb_eql, sb_neq, vmg, ↓vgd, ↓vst, ↓vix]
  refine to44_l l hl hB _ _ l.length 0 _ _ _ _ _ _ _ _ _ _ _ _ _ _ _ _ _ _ _ _ _ _ _ _ _ _ _ _ _ _ _ _ _ _ rfl (by omega) (.inl ⟨rfl, rfl⟩) ?_
  intro S v i' g5 g6 g7 g8 g9 g10 g11 g12 g13 g14 g15 g16 g17 g18 g19 g20 g21 g22 g23 g24 g25 g26 g27 g28 g29 g30 g31 g32 g33 g34 g35 g36 hI
  have h1 := hI.one
  simp (maxSteps := 1000000) (disch := first | assumption | omega | rfl) only [↓vmp, vme, vmb, ty, hP, dec_t, dec_f, wrap64, List.length_map, Int.toNat_natCast, Nat.reduceAdd, List.cons_append, List.nil_append, Option.map_some, Option.map_none, strOf_mk, sb_eql, sb_neq, vmg, ↓vgd, ↓vst, ↓vix, h1]
  exact retQ_one rfl h1 hI.frz
end Go.Proofs.YteapjcgeckpknaaDoor
end
/-! The statement's own code: escheatlaw46.ScriptLines comes to true. -/
section
set_option linter.unusedVariables false
set_option linter.unusedSimpArgs false
set_option maxRecDepth 100000
set_option maxHeartbeats 4000000
namespace Go.Proofs.YteapjcgeckpknaaDoor
open Go.Vm
/-- A step as the statement takes it. -/
structure StepI (s : Step) : Prop where
  off : InB s.o.off
  on : InB s.o.n
  w0 : 0 ≤ s.w
  w1 : s.w < 18446744073709551616
  n : InB s.n
structure StepL (s : Step) : Prop where
  b : StepB s
  a : s.o.a.length ≤ 300
  b' : s.o.b.length ≤ 300
  d : s.o.data.length ≤ 1100
theorem stepL_of {s : Step} (h : StepI s) (hb : badS s = false) : StepL s := by
  have hb : ¬ ((s.o.a.length : Int) > 300 ∨ (s.o.b.length : Int) > 300 ∨ (s.o.data.length : Int) > 1100) := of_decide_eq_false hb
  have h1 : s.o.a.length ≤ 300 := by omega
  have h2 : s.o.b.length ≤ 300 := by omega
  exact ⟨⟨⟨h.off, h.on, by omega, by omega⟩, h.w0, h.w1, h.n⟩, h1, h2, by omega⟩
theorem line_len {s : Step} (h : StepL s) {l : List UInt8} (hl : lineS s = some l) : l.length ≤ 12000 := by
  have i0 := itoa_len _ h.b.n
  have i1 := itoa_len _ h.b.o.off
  have i2 := itoa_len _ h.b.o.n
  have i3 := wgtS_len s.w.toNat
  have i4 := hexS_len s.o.data
  have i5 := h.d
  have i6 := h.a
  have i7 := h.b'
  have i8 := nameO_len s.o.does
  have i9 := paths_len s.o
  unfold lineS at hl
  split at hl
  · unfold callS at hl
    split at hl
    · cases hl
      have hw : (wordsO s.o).length ≤ 5 ∧ ∀ x ∈ wordsO s.o, x.length ≤ 2205 := by
        have hp : ∀ x ∈ pathsO s.o, x.length ≤ 300 := by
          intro x hx
          unfold pathsO at hx
          split at hx
          · cases hx
          split at hx
          · simp at hx; rcases hx with rfl | rfl <;> omega
          · simp at hx; subst hx; omega
        have hr : (restO s.o).length ≤ 2 ∧ ∀ x ∈ restO s.o, x.length ≤ 2205 := by
          unfold restO
          split
          · exact ⟨by simp, fun x hx => by simp at hx; rcases hx with rfl | rfl <;> omega⟩
          split
          · exact ⟨by simp, fun x hx => by simp at hx; rcases hx with rfl | rfl <;> omega⟩
          split
          · exact ⟨by simp, fun x hx => by simp at hx; subst hx; omega⟩
          · exact ⟨by simp, fun x hx => by cases hx⟩
        unfold wordsO
        refine ⟨by simp; omega, fun x hx => ?_⟩
        rcases List.mem_append.1 hx with hx | hx
        · rcases List.mem_cons.1 hx with rfl | hx
          · omega
          · have := hp x hx; omega
        · exact hr.2 x hx
      have h3 : (Lib.join (wordsO s.o) [32]).length ≤ (wordsO s.o).length * (2205 + 1) := join_len2 (sep := [32]) hw.2
      omega
    · cases hl
  split at hl
  · cases hl; simp; omega
  split at hl
  · cases hl; simp; omega
  split at hl
  · cases hl; simp
  · cases hl
theorem bn4 {a b : Bool} : binV Tryd.prog .neq 4 (.d (.bool a)) (.d (.bool b)) = some (.d (.bool (!(a == b)))) := by cases a <;> cases b <;> kernel_rfl
theorem bs2_42 {S : Store} {a b : Step} : bs2V Tryd.prog S 42 (.d (encStep a)) (.d (encStep b)) = some (.val (.ts [encStep a, encStep b]) S 0) := by kernel_rfl
theorem ix43_0 {S : Store} {a b : Step} : indexAddrV Tryd.prog S 43 (.d (.sl [encStep a, encStep b])) (.d (.int .i64 0)) = some (.d (.ptr (encStep a))) := by kernel_rfl
theorem ix43_1 {S : Store} {a b : Step} : indexAddrV Tryd.prog S 43 (.d (.sl [encStep a, encStep b])) (.d (.int .i64 1)) = some (.d (.ptr (encStep b))) := by kernel_rfl
section
variable {ops : Array Oper} {dst : Option Tmp} {k : List Oper} {T : List V} {S : Store} {F : Dfs} {Q : Post}
theorem call_much2 {a b : Step} : WpR cfg ops dst k T S F Q (some (.enter 13 [.ts [encStep a, encStep b], .d (.int .i64 2)])) = WpL cfg ops k (putT T dst (.d (.bool (badS a || badS b)))) S F Q :=
  wr_call_plain (ds := [.sl ([a, b].map encStep), .int .i64 2]) rfl rfl rfl (by have := much46_ok [a, b] 2 (by omega); have e : muchS [a, b] 2 = (badS a || badS b) := by unfold muchS; simp
                                                                                rw [e] at this; exact this)
theorem call_to2 {a b : Step} (ha : a.o.data.length ≤ 100000) (hb : b.o.data.length ≤ 100000) : WpR cfg ops dst k T S F Q (some (.enter 14 [.ts [encStep a, encStep b]])) = WpL cfg ops k (putT T dst (.d (.sl [encStep a, encStep b]))) S F Q :=
  wr_call_v (ds := [.sl ([a, b].map encStep)]) rfl rfl rfl (to44_ok [a, b] (by simp) (by simp; exact ⟨ha, hb⟩))
theorem call_rlineN {s : Step} (h : StepB s) (hc : lineS s = Option.none) : WpR cfg ops dst k T S F Q (some (.enter 11 [.d (encStep s)])) = WpL cfg ops k (putT T dst (.tup [.d (.str []), .d (.bool false)])) S F Q :=
  wr_call_d (ds := [encStep s]) rfl (by have := rline_ok s h; unfold rlineO at this; rw [hc] at this; exact this)
end
section
variable {ops : Array Oper} {F : Dfs} {Q : Post} {K : List Nat → List (Nat × Nat) → List V → Store → Prop} {rd : List Nat} {cs : List (Nat × Nat)} {i : Nat} {dst : Option Tmp} {T : List V} {S : Store}
theorem dr_same {x y : Step} : WpE cfg ops F Q K rd cs i dst T S (some (.enter 16 [.d (encStep x), .d (encStep y)])) = K (i :: rd) (cs ++ [(i, 1)]) (putT T dst (.d (.bool (decide (x = y))))) S :=
  we_call_d (ds := [encStep x, encStep y]) rfl (same_ok x y)
theorem dr_plain {s : Step} (h : s.o.data.length ≤ 100000) : WpE cfg ops F Q K rd cs i dst T S (some (.enter 17 [.d (encStep s)])) = K (i :: rd) (cs ++ [(i, 1)]) (putT T dst (.d (encStep (plainS s)))) S :=
  we_call_d (ds := [encStep s]) rfl (plains_ok s h)
end
theorem plainS_data (s : Step) : (plainS s).o.data.length ≤ s.o.data.length := by
  unfold plainS plainO noOpn
  simp only
  split
  · simp only
    split
    · exact Nat.le_refl _
    · simp
  · simp
theorem lines_ok (a b : Step) (hia : StepI a) (hib : StepI b) : Ev cfg 4 [encStep a, encStep b] (.ret (.d (.bool true))) := by
  refine ev_of rfl rfl body4 ?_
  show Wp cfg (Tryd.f4.body.getD .skip) ((.d (encStep a)) :: (.d (encStep b)) :: (.tup []) :: (.tup []) :: (.tup []) :: (.tup []) :: (.tup []) :: (.tup []) :: (.tup []) :: (.tup []) :: (.tup []) :: (.tup []) :: (.tup []) :: (.tup []) :: (.tup []) :: (.tup []) :: (.tup []) :: (.tup []) :: (.tup []) :: (.tup []) :: (.tup []) :: (.tup []) :: (.tup []) :: (.tup []) :: (.tup []) :: (.tup []) :: (.tup []) :: (.tup []) :: (.tup []) :: (.tup []) :: (.tup []) :: (.tup []) :: (.tup []) :: (.tup []) :: (.tup []) :: (.tup []) :: (.tup []) :: (.tup []) :: (.tup []) :: (.tup []) :: (.tup []) :: (.tup []) :: (.tup []) :: (.tup []) :: (.tup []) :: (.tup []) :: (.tup []) :: (.tup []) :: (.tup []) :: (.tup []) :: (.tup []) :: (.tup []) :: (.tup []) :: (.tup []) :: (.tup []) :: (.tup []) :: (.tup []) :: (.tup []) :: (.tup []) :: (.tup []) :: (.tup []) :: (.tup []) :: (.tup []) :: (.tup []) :: (.tup []) :: (.tup []) :: (.tup []) :: (.tup []) :: (.tup []) :: (.tup []) :: (.tup []) :: (.tup []) :: (.tup []) :: (.tup []) :: (.tup []) :: (.tup []) :: (.tup []) :: (.tup []) :: (.tup []) :: (.tup []) :: (.tup []) :: (.tup []) :: (.tup []) :: (.tup []) :: (.tup []) :: (.tup []) :: (.tup []) :: (.tup []) :: (.tup []) :: (.tup []) :: (.tup []) :: (.tup []) :: (.tup []) :: (.tup []) :: []) [] [] _
  conv => arg 2; whnf
  cases hm : (badS a || badS b) with
  | true =>
    simp (maxSteps := 1000000) (disch := first | assumption | omega | rfl) only [↓vmp, vme, vmb, ty, hP, dec_t, dec_f, wrap64, List.length_map, Int.toNat_natCast, Nat.reduceAdd, List.cons_append, List.nil_append, Option.map_some, Option.map_none, strOf_mk, sb_eql, sb_neq, vmg, ↓vgd, ↓vst, ↓vix, op_bs2, bs2_42, call_much2, hm, call_works, bo13, bo7]
    exact retQ_one rfl rfl rfl
  | false =>
    obtain ⟨ba, bb⟩ := Bool.or_eq_false_iff.1 hm
    have ha := stepL_of hia ba
    have hb := stepL_of hib bb
    have hda : a.o.data.length ≤ 100000 := by have := ha.d; omega
    have hdb : b.o.data.length ≤ 100000 := by have := hb.d; omega
    have hda1 : a.o.data.length ≤ 1000000 := by omega
    have hdb1 : b.o.data.length ≤ 1000000 := by omega
    have hp1 : (plainS a).o.data.length ≤ 1000000 := by have := plainS_data a; omega
    cases hc : lineS a with
    | none =>
      simp (maxSteps := 1000000) (disch := first | assumption | omega | rfl) only [↓vmp, vme, vmb, ty, hP, dec_t, dec_f, wrap64, List.length_map, Int.toNat_natCast, Nat.reduceAdd, List.cons_append, List.nil_append, Option.map_some, Option.map_none, strOf_mk, sb_eql, sb_neq, vmg, ↓vgd, ↓vst, ↓vix, op_bs2, bs2_42, call_much2, hm, call_to2 hda hdb, ix43_0, ix43_1, call_lineN ha.b hc, call_rlineN ha.b hc, bo13, bo14, bo15, bo11]
      refine wk_draw (is := [0, 1, 2, 3, 4, 5, 6, 7, 8, 9, 10, 11, 12, 13, 14, 15, 16, 17, 18, 19, 20, 21, 22, 23, 25, 26, 24, 27, 28, 29, 30, 31, 32, 33, 36, 34, 35, 37, 38, 39, 40]) (h := 0) (by kernel_rfl) (by kernel_rfl) ?_
      simp (maxSteps := 1000000) (disch := first | assumption | omega | rfl) only [List.replicate_zero, eq_self, vmd, vmk, vmo, vmg, vme, vmb, ty, hP, dec_t, dec_f, wrap64, List.length_map, Int.toNat_natCast, Nat.reduceAdd, ↓vgd, ↓vst, ↓vix, List.append_nil, ix43_0, ix43_1, dr_same, dr_rsame hda1 hdb1, dr_rsame hp1 hp1, dr_plain hda, dr_rplain, dr_ofD, bo16, bo9, bo17, bo10, bo12, deq, dne, dec_True, sb_eql, sb_neq, bn4, beq_self_eq_true, Bool.not_true, Bool.not_false]
      refine ⟨by kernel_rfl, ?_⟩
      simp (maxSteps := 1000000) (disch := first | assumption | omega | rfl) only [↓vmp, vme, vmb, ty, hP, dec_t, dec_f, wrap64, List.length_map, Int.toNat_natCast, Nat.reduceAdd, List.cons_append, List.nil_append, Option.map_some, Option.map_none, strOf_mk, sb_eql, sb_neq, vmg, ↓vgd, ↓vst, ↓vix, call_works, bo7]
      exact retQ_one rfl rfl rfl
    | some l =>
      have hl := line_len ha hc
      have hp := parse_line ha.b hc
      simp (maxSteps := 1000000) (disch := first | assumption | omega | rfl) only [↓vmp, vme, vmb, ty, hP, dec_t, dec_f, wrap64, List.length_map, Int.toNat_natCast, Nat.reduceAdd, List.cons_append, List.nil_append, Option.map_some, Option.map_none, strOf_mk, sb_eql, sb_neq, vmg, ↓vgd, ↓vst, ↓vix, op_bs2, bs2_42, call_much2, hm, call_to2 hda hdb, ix43_0, ix43_1, call_lineS ha.b hc, call_rlineS ha.b hc, bo13, bo14, bo15, bo11]
      refine wk_draw (is := [0, 1, 2, 3, 4, 5, 6, 7, 8, 9, 10, 11, 12, 13, 14, 15, 16, 17, 18, 19, 20, 21, 22, 23, 25, 26, 24, 27, 28, 29, 30, 31, 32, 33, 36, 34, 35, 37, 38, 39, 40]) (h := 0) (by kernel_rfl) (by kernel_rfl) ?_
      simp (maxSteps := 1000000) (disch := first | assumption | omega | rfl) only [List.replicate_zero, eq_self, vmd, vmk, vmo, vmg, vme, vmb, ty, hP, dec_t, dec_f, wrap64, List.length_map, Int.toNat_natCast, Nat.reduceAdd, ↓vgd, ↓vst, ↓vix, List.append_nil, ix43_0, ix43_1, dr_same, dr_rsame hda1 hdb1, dr_rsame hp1 hp1, dr_plain hda, dr_rplain, dr_ofD, bo16, bo9, bo17, bo10, bo12, deq, dne, dec_True, sb_eql, sb_neq, bn4, beq_self_eq_true, Bool.not_true, Bool.not_false]
      refine ⟨by kernel_rfl, ?_⟩
      simp (maxSteps := 1000000) (disch := first | assumption | omega | rfl) only [↓vmp, vme, vmb, ty, hP, dec_t, dec_f, wrap64, List.length_map, Int.toNat_natCast, Nat.reduceAdd, List.cons_append, List.nil_append, Option.map_some, Option.map_none, strOf_mk, sb_eql, sb_neq, vmg, ↓vgd, ↓vst, ↓vix, call_parseS (show l.length ≤ 80000 by omega) hp, bo8]
      refine wk_draw (is := [0, 1, 2, 3, 5, 4, 6, 7, 8, 9, 10, 11, 12]) (h := 0) (by kernel_rfl) (by kernel_rfl) ?_
      simp (maxSteps := 1000000) (disch := first | assumption | omega | rfl) only [List.replicate_zero, eq_self, vmd, vmk, vmo, vmg, vme, vmb, ty, hP, dec_t, dec_f, wrap64, List.length_map, Int.toNat_natCast, Nat.reduceAdd, ↓vgd, ↓vst, ↓vix, List.append_nil, dr_rsame hp1 hp1, dr_rplain, dr_ofD, dr_works, bo7, bo9, bo10, bo12, deq, dne, dec_True, sb_eql, sb_neq, bn4, beq_self_eq_true, Bool.not_true, Bool.not_false]
      refine ⟨by kernel_rfl, ?_⟩
      simp (maxSteps := 1000000) (disch := first | assumption | omega | rfl) only [↓vmp, vme, vmb, ty, hP, dec_t, dec_f, wrap64, List.length_map, Int.toNat_natCast, Nat.reduceAdd, List.cons_append, List.nil_append, Option.map_some, Option.map_none, strOf_mk, sb_eql, sb_neq, vmg, ↓vgd, ↓vst, ↓vix]
      exact retQ_one rfl rfl rfl
end Go.Proofs.YteapjcgeckpknaaDoor
end
