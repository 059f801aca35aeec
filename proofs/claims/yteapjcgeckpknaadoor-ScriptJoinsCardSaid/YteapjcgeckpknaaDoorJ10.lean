/- Steps as the program has them: escheatlaw44.To. -/
import Derived.Shelf.Strings.BuilderK
import Derived.WalkKit
import Derived.BigCall
import Derived.Test.YteapjcgeckpknaaDoorJ09
/-! Steps as the program has them: escheatlaw44.To. -/
section
set_option linter.unusedVariables false
set_option linter.unusedSimpArgs false
set_option maxRecDepth 100000
set_option maxHeartbeats 4000000
namespace Go.Proofs.YteapjcgeckpknaaDoor
open Go.Vm
theorem bd28s {s : Step} : buildV Tryd.prog 28 [(0, .d (.int .i64 s.does)), (1, .d (encOpn s.o)), (2, .d (.int .u64 s.w)), (3, .d (.int .i64 s.n))] = some (.agg [.d (.int .i64 s.does), .d (.int .i64 s.o.does), .d (.str s.o.a), .d (.str s.o.b), .d (.int .i64 s.o.off), .d (.int .i64 s.o.n), .d (encB s.o.data), .d (.int .u64 s.w), .d (.int .i64 s.n)]) := by kernel_rfl
theorem bs43s {S : Store} {s : Step} : bs1 Tryd.prog S 43 (.agg [.d (.int .i64 s.does), .d (.int .i64 s.o.does), .d (.str s.o.a), .d (.str s.o.b), .d (.int .i64 s.o.off), .d (.int .i64 s.o.n), .d (encB s.o.data), .d (.int .u64 s.w), .d (.int .i64 s.n)]) = some (.val (.ts [encStep s]) S 0) := by kernel_rfl
theorem nil28 : (sz Tryd.prog 28).isSome = true := by kernel_rfl
theorem app_step {S : Store} {v : V} {l : List Step} (x : Step) (hl : l.length ≤ 100000) (h : SlE encStep S v 28 l) : ∃ v' S' c, appendV Tryd.prog S 43 43 v (.ts [encStep x]) = some (v', S', c) ∧ (c = 1 ∨ c = 2 ∨ c = 3) ∧ SlE encStep S' v' 28 (l ++ [x]) ∧ (∀ (j : Nat) (o : Ob), S[j]? = some o → idOf v ≠ some j → S'[j]? = some o) ∧ (∀ i, idOf v' = some i → idOf v = some i ∨ S.length ≤ i) := by
  obtain ⟨v', S', c, h1, h2⟩ := app_data (t := 43) (enc := encStep) (ds := [x]) Tryd.underlying43 zOk43 nil28 (fun a => fitsT28 _) (room43 (by simp; omega)) h
  exact ⟨v', S', c, by rw [app_ts]; exact h1, h2⟩
section
variable {ops : Array Oper} {F : Dfs} {Q : Post} {K : List Nat → List (Nat × Nat) → List V → Store → Prop} {rd : List Nat} {cs : List (Nat × Nat)} {i : Nat} {dst : Option Tmp} {T : List V} {S : Store}
theorem dr_to27 {o : Opn} (h : o.data.length ≤ 100000) : WpE cfg ops F Q K rd cs i dst T S (some (.enter 29 [.d (encOpn o)])) = K (i :: rd) (cs ++ [(i, 1)]) (putT T dst (.d (encOpn o))) S :=
  we_call_d (ds := [encOpn o]) rfl (To27_ok o h)
theorem dr_to27A {o : Opn} (h : o.data.length ≤ 100000) : WpE cfg ops F Q K rd cs i dst T S (some (.enter 29 [.agg [.d (.int .i64 o.does), .d (.str o.a), .d (.str o.b), .d (.int .i64 o.off), .d (.int .i64 o.n), .d (encB o.data)]])) = K (i :: rd) (cs ++ [(i, 1)]) (putT T dst (.d (encOpn o))) S :=
  we_call_v (ds := [encOpn o]) rfl rfl rfl (To27_ok o h)
end
theorem to44_l (l : List Step) (hl : l.length ≤ 1000) (hB : ∀ s ∈ l, s.o.data.length ≤ 100000) (R : Post) (x2 : V) : ∀ (k i : Nat) (v : V) (S : Store) (g5 g6 g7 g8 g9 g10 g11 g12 g13 g14 g15 g16 g17 g18 g19 g20 g21 g22 g23 g24 g25 g26 g27 g28 g29 g30 g31 g32 g33 g34 g35 g36 : V), l.length - i = k → i ≤ l.length → SlE encStep S v 28 (l.take i) →
   (∀ S v i' g5 g6 g7 g8 g9 g10 g11 g12 g13 g14 g15 g16 g17 g18 g19 g20 g21 g22 g23 g24 g25 g26 g27 g28 g29 g30 g31 g32 g33 g34 g35 g36, SlE encStep S v 28 l → R (.exit 0) ((.d (.sl (l.map encStep))) :: (.tup []) :: x2 :: v :: i' :: g5 :: g6 :: g7 :: g8 :: g9 :: g10 :: g11 :: g12 :: g13 :: g14 :: g15 :: g16 :: g17 :: g18 :: g19 :: g20 :: g21 :: g22 :: g23 :: g24 :: g25 :: g26 :: g27 :: g28 :: g29 :: g30 :: g31 :: g32 :: g33 :: g34 :: g35 :: g36 :: []) S []) →
   Wp cfg (.loop (lpOf (Tryd.f14.body.getD .skip) 0)) ((.d (.sl (l.map encStep))) :: (.tup []) :: x2 :: v :: (.d (.int .i64 (i : Int))) :: g5 :: g6 :: g7 :: g8 :: g9 :: g10 :: g11 :: g12 :: g13 :: g14 :: g15 :: g16 :: g17 :: g18 :: g19 :: g20 :: g21 :: g22 :: g23 :: g24 :: g25 :: g26 :: g27 :: g28 :: g29 :: g30 :: g31 :: g32 :: g33 :: g34 :: g35 :: g36 :: []) S [] R := by
  intro k
  induction k with
  | zero =>
    intro i v S g5 g6 g7 g8 g9 g10 g11 g12 g13 g14 g15 g16 g17 g18 g19 g20 g21 g22 g23 g24 g25 g26 g27 g28 g29 g30 g31 g32 g33 g34 g35 g36 hk hi hI hE
    have hie : i = l.length := by omega
    rw [hie, List.take_length] at hI
    rw [wk_of]
    refine wk_loop ?_
    conv => arg 2; whnf
    simp (maxSteps := 1000000) (disch := first | assumption | omega | rfl) only [↓vmp, vme, vmb, ty, hP, dec_t, dec_f, wrap64, List.length_map, Int.toNat_natCast, Nat.reduceAdd, List.cons_append, List.nil_append, Option.map_some, Option.map_none, strOf_mk, sb_eql, sb_neq, vmg, ↓vgd, ↓vst, ↓vix]
    exact hE _ _ _ _ _ _ _ _ _ _ _ _ _ _ _ _ _ _ _ _ _ _ _ _ _ _ _ _ _ _ _ _ _ _ _ hI
  | succ k ih =>
    intro i v S g5 g6 g7 g8 g9 g10 g11 g12 g13 g14 g15 g16 g17 g18 g19 g20 g21 g22 g23 g24 g25 g26 g27 g28 g29 g30 g31 g32 g33 g34 g35 g36 hk hi hI hE
    have hlt : i < l.length := by omega
    have hb := hB _ (List.getElem_mem hlt)
    obtain ⟨v', S', c, e1, hc, e2, _, _⟩ := app_step l[i] (by simp; omega) hI
    rw [← take_snoc hlt] at e2
    have e3 := e2.one
    rw [wk_of]
    refine wk_loop ?_
    conv => arg 2; whnf
    simp (maxSteps := 1000000) (disch := first | assumption | omega | rfl) only [↓vmp, vme, vmb, ty, hP, dec_t, dec_f, wrap64, List.length_map, Int.toNat_natCast, Nat.reduceAdd, List.cons_append, List.nil_append, Option.map_some, Option.map_none, strOf_mk, sb_eql, sb_neq, vmg, ↓vgd, ↓vst, ↓vix]
    rcases hc with rfl | rfl | rfl
    all_goals
      refine wk_draw (is := [0, 1, 2, 3, 4, 5, 6, 7, 8, 9, 10, 12, 13, 14, 15, 16, 17, 18, 19, 20, 21, 11, 22, 23, 24, 25]) (h := 0) (by kernel_rfl) (by kernel_rfl) ?_
      simp (maxSteps := 1000000) (disch := first | assumption | omega | rfl) only [List.replicate_zero, eq_self, vmd, vmk, vmo, vmg, vme, vmb, ty, hP, dec_t, dec_f, wrap64, List.length_map, Int.toNat_natCast, Nat.reduceAdd, ↓vgd, ↓vst, ↓vix, vso, List.append_nil, Option.map_some, dr_to27 hb, dr_to27A hb, bo29, bd28s, op_bs1, bs43s, e1, e3]
      first | refine ⟨by kernel_rfl, ?_⟩ | refine ⟨fun _ => by kernel_rfl, by kernel_rfl, ?_⟩
      simp (maxSteps := 1000000) (disch := first | assumption | omega | rfl) only [↓vmp, vme, vmb, ty, hP, dec_t, dec_f, wrap64, List.length_map, Int.toNat_natCast, Nat.reduceAdd, List.cons_append, List.nil_append, Option.map_some, Option.map_none, strOf_mk, sb_eql, sb_neq, vmg, ↓vgd, ↓vst, ↓vix]
      exact ih (i + 1) _ _ _ _ _ _ _ _ _ _ _ _ _ _ _ _ _ _ _ _ _ _ _ _ _ _ _ _ _ _ _ _ _ _ (by omega) (by omega) e2 hE
theorem to44_ok (l : List Step) (hl : l.length ≤ 1000) (hB : ∀ s ∈ l, s.o.data.length ≤ 100000) : Ev cfg 14 [.sl (l.map encStep)] (.ret (.d (.sl (l.map encStep)))) := by
  refine ev_of rfl rfl body14 ?_
  show Wp cfg (Tryd.f14.body.getD .skip) ((.d (.sl (l.map encStep))) :: (.tup []) :: (.tup []) :: (.tup []) :: (.tup []) :: (.tup []) :: (.tup []) :: (.tup []) :: (.tup []) :: (.tup []) :: (.tup []) :: (.tup []) :: (.tup []) :: (.tup []) :: (.tup []) :: (.tup []) :: (.tup []) :: (.tup []) :: (.tup []) :: (.tup []) :: (.tup []) :: (.tup []) :: (.tup []) :: (.tup []) :: (.tup []) :: (.tup []) :: (.tup []) :: (.tup []) :: (.tup []) :: (.tup []) :: (.tup []) :: (.tup []) :: (.tup []) :: (.tup []) :: (.tup []) :: (.tup []) :: (.tup []) :: []) [] [] _
  conv => arg 2; whnf
  simp (maxSteps := 1000000) (disch := first | assumption | omega | rfl) only [↓vmp, vme, vmb, ty, hP, dec_t, dec_f, wrap64, List.length_map, Int.toNat_natCast, Nat.reduceAdd, List.cons_append, List.nil_append, Option.map_some, Option.map_none, strOf_mk, sb_eql, sb_neq, vmg, ↓vgd, ↓vst, ↓vix]
  refine to44_l l hl hB _ _ l.length 0 _ _ _ _ _ _ _ _ _ _ _ _ _ _ _ _ _ _ _ _ _ _ _ _ _ _ _ _ _ _ _ _ _ _ rfl (by omega) (.inl ⟨rfl, rfl⟩) ?_
  intro S v i' g5 g6 g7 g8 g9 g10 g11 g12 g13 g14 g15 g16 g17 g18 g19 g20 g21 g22 g23 g24 g25 g26 g27 g28 g29 g30 g31 g32 g33 g34 g35 g36 hI
  have h1 := hI.one
  simp (maxSteps := 1000000) (disch := first | assumption | omega | rfl) only [↓vmp, vme, vmb, ty, hP, dec_t, dec_f, wrap64, List.length_map, Int.toNat_natCast, Nat.reduceAdd, List.cons_append, List.nil_append, Option.map_some, Option.map_none, strOf_mk, sb_eql, sb_neq, vmg, ↓vgd, ↓vst, ↓vix, h1]
  exact retQ_one rfl h1 hI.frz
end Go.Proofs.YteapjcgeckpknaaDoor
end
/-! The statement's own code: escheatlaw46.ScriptLines comes to true. -/
section
set_option linter.unusedVariables false
set_option linter.unusedSimpArgs false
set_option maxRecDepth 100000
set_option maxHeartbeats 4000000
namespace Go.Proofs.YteapjcgeckpknaaDoor
open Go.Vm
/-- A step as the statement takes it. -/
structure StepI (s : Step) : Prop where
  off : InB s.o.off
  on : InB s.o.n
  w0 : 0 ≤ s.w
  w1 : s.w < 18446744073709551616
  n : InB s.n
structure StepL (s : Step) : Prop where
  b : StepB s
  a : s.o.a.length ≤ 300
  b' : s.o.b.length ≤ 300
  d : s.o.data.length ≤ 1100
theorem stepL_of {s : Step} (h : StepI s) (hb : badS s = false) : StepL s := by
  have hb : ¬ ((s.o.a.length : Int) > 300 ∨ (s.o.b.length : Int) > 300 ∨ (s.o.data.length : Int) > 1100) := of_decide_eq_false hb
  have h1 : s.o.a.length ≤ 300 := by omega
  have h2 : s.o.b.length ≤ 300 := by omega
  exact ⟨⟨⟨h.off, h.on, by omega, by omega⟩, h.w0, h.w1, h.n⟩, h1, h2, by omega⟩
theorem line_len {s : Step} (h : StepL s) {l : List UInt8} (hl : lineS s = some l) : l.length ≤ 12000 := by
  have i0 := itoa_len _ h.b.n
  have i1 := itoa_len _ h.b.o.off
  have i2 := itoa_len _ h.b.o.n
  have i3 := wgtS_len s.w.toNat
  have i4 := hexS_len s.o.data
  have i5 := h.d
  have i6 := h.a
  have i7 := h.b'
  have i8 := nameO_len s.o.does
  have i9 := paths_len s.o
  unfold lineS at hl
  split at hl
  · unfold callS at hl
    split at hl
    · cases hl
      have hw : (wordsO s.o).length ≤ 5 ∧ ∀ x ∈ wordsO s.o, x.length ≤ 2205 := by
        have hp : ∀ x ∈ pathsO s.o, x.length ≤ 300 := by
          intro x hx
          unfold pathsO at hx
          split at hx
          · cases hx
          split at hx
          · simp at hx; rcases hx with rfl | rfl <;> omega
          · simp at hx; subst hx; omega
        have hr : (restO s.o).length ≤ 2 ∧ ∀ x ∈ restO s.o, x.length ≤ 2205 := by
          unfold restO
          split
          · exact ⟨by simp, fun x hx => by simp at hx; rcases hx with rfl | rfl <;> omega⟩
          split
          · exact ⟨by simp, fun x hx => by simp at hx; rcases hx with rfl | rfl <;> omega⟩
          split
          · exact ⟨by simp, fun x hx => by simp at hx; subst hx; omega⟩
          · exact ⟨by simp, fun x hx => by cases hx⟩
        unfold wordsO
        refine ⟨by simp; omega, fun x hx => ?_⟩
        rcases List.mem_append.1 hx with hx | hx
        · rcases List.mem_cons.1 hx with rfl | hx
          · omega
          · have := hp x hx; omega
        · exact hr.2 x hx
      have h3 : (Lib.join (wordsO s.o) [32]).length ≤ (wordsO s.o).length * (2205 + 1) := join_len2 (sep := [32]) hw.2
      omega
    · cases hl
  split at hl
  · cases hl; simp; omega
  split at hl
  · cases hl; simp; omega
  split at hl
  · cases hl; simp
  · cases hl
theorem bn4 {a b : Bool} : binV Tryd.prog .neq 4 (.d (.bool a)) (.d (.bool b)) = some (.d (.bool (!(a == b)))) := by cases a <;> cases b <;> kernel_rfl
theorem bs2_42 {S : Store} {a b : Step} : bs2V Tryd.prog S 42 (.d (encStep a)) (.d (encStep b)) = some (.val (.ts [encStep a, encStep b]) S 0) := by kernel_rfl
theorem ix43_0 {S : Store} {a b : Step} : indexAddrV Tryd.prog S 43 (.d (.sl [encStep a, encStep b])) (.d (.int .i64 0)) = some (.d (.ptr (encStep a))) := by kernel_rfl
theorem ix43_1 {S : Store} {a b : Step} : indexAddrV Tryd.prog S 43 (.d (.sl [encStep a, encStep b])) (.d (.int .i64 1)) = some (.d (.ptr (encStep b))) := by kernel_rfl
section
variable {ops : Array Oper} {dst : Option Tmp} {k : List Oper} {T : List V} {S : Store} {F : Dfs} {Q : Post}
theorem call_much2 {a b : Step} : WpR cfg ops dst k T S F Q (some (.enter 13 [.ts [encStep a, encStep b], .d (.int .i64 2)])) = WpL cfg ops k (putT T dst (.d (.bool (badS a || badS b)))) S F Q :=
  wr_call_plain (ds := [.sl ([a, b].map encStep), .int .i64 2]) rfl rfl rfl (by have := much46_ok [a, b] 2 (by omega); have e : muchS [a, b] 2 = (badS a || badS b) := by unfold muchS; simp
                                                                                rw [e] at this; exact this)
theorem call_to2 {a b : Step} (ha : a.o.data.length ≤ 100000) (hb : b.o.data.length ≤ 100000) : WpR cfg ops dst k T S F Q (some (.enter 14 [.ts [encStep a, encStep b]])) = WpL cfg ops k (putT T dst (.d (.sl [encStep a, encStep b]))) S F Q :=
  wr_call_v (ds := [.sl ([a, b].map encStep)]) rfl rfl rfl (to44_ok [a, b] (by simp) (by simp; exact ⟨ha, hb⟩))
theorem call_rlineN {s : Step} (h : StepB s) (hc : lineS s = Option.none) : WpR cfg ops dst k T S F Q (some (.enter 11 [.d (encStep s)])) = WpL cfg ops k (putT T dst (.tup [.d (.str []), .d (.bool false)])) S F Q :=
  wr_call_d (ds := [encStep s]) rfl (by have := rline_ok s h; unfold rlineO at this; rw [hc] at this; exact this)
end
section
variable {ops : Array Oper} {F : Dfs} {Q : Post} {K : List Nat → List (Nat × Nat) → List V → Store → Prop} {rd : List Nat} {cs : List (Nat × Nat)} {i : Nat} {dst : Option Tmp} {T : List V} {S : Store}
theorem dr_same {x y : Step} : WpE cfg ops F Q K rd cs i dst T S (some (.enter 16 [.d (encStep x), .d (encStep y)])) = K (i :: rd) (cs ++ [(i, 1)]) (putT T dst (.d (.bool (decide (x = y))))) S :=
  we_call_d (ds := [encStep x, encStep y]) rfl (same_ok x y)
theorem dr_plain {s : Step} (h : s.o.data.length ≤ 100000) : WpE cfg ops F Q K rd cs i dst T S (some (.enter 17 [.d (encStep s)])) = K (i :: rd) (cs ++ [(i, 1)]) (putT T dst (.d (encStep (plainS s)))) S :=
  we_call_d (ds := [encStep s]) rfl (plains_ok s h)
end
theorem plainS_data (s : Step) : (plainS s).o.data.length ≤ s.o.data.length := by
  unfold plainS plainO noOpn
  simp only
  split
  · simp only
    split
    · exact Nat.le_refl _
    · simp
  · simp
theorem lines_ok (a b : Step) (hia : StepI a) (hib : StepI b) : Ev cfg 4 [encStep a, encStep b] (.ret (.d (.bool true))) := by
  refine ev_of rfl rfl body4 ?_
  show Wp cfg (Tryd.f4.body.getD .skip) ((.d (encStep a)) :: (.d (encStep b)) :: (.tup []) :: (.tup []) :: (.tup []) :: (.tup []) :: (.tup []) :: (.tup []) :: (.tup []) :: (.tup []) :: (.tup []) :: (.tup []) :: (.tup []) :: (.tup []) :: (.tup []) :: (.tup []) :: (.tup []) :: (.tup []) :: (.tup []) :: (.tup []) :: (.tup []) :: (.tup []) :: (.tup []) :: (.tup []) :: (.tup []) :: (.tup []) :: (.tup []) :: (.tup []) :: (.tup []) :: (.tup []) :: (.tup []) :: (.tup []) :: (.tup []) :: (.tup []) :: (.tup []) :: (.tup []) :: (.tup []) :: (.tup []) :: (.tup []) :: (.tup []) :: (.tup []) :: (.tup []) :: (.tup []) :: (.tup []) :: (.tup []) :: (.tup []) :: (.tup []) :: (.tup []) :: (.tup []) :: (.tup []) :: (.tup []) :: (.tup []) :: (.tup []) :: (.tup []) :: (.tup []) :: (.tup []) :: (.tup []) :: (.tup []) :: (.tup []) :: (.tup []) :: (.tup []) :: (.tup []) :: (.tup []) :: (.tup []) :: (.tup []) :: (.tup []) :: (.tup []) :: (.tup []) :: (.tup []) :: (.tup []) :: (.tup []) :: (.tup []) :: (.tup []) :: (.tup []) :: (.tup []) :: (.tup []) :: (.tup []) :: (.tup []) :: (.tup []) :: (.tup []) :: (.tup []) :: (.tup []) :: (.tup []) :: (.tup []) :: (.tup []) :: (.tup []) :: (.tup []) :: (.tup []) :: (.tup []) :: (.tup []) :: (.tup []) :: (.tup []) :: (.tup []) :: (.tup []) :: []) [] [] _
  conv => arg 2; whnf
  cases hm : (badS a || badS b) with
  | true =>
    simp (maxSteps := 1000000) (disch := first | assumption | omega | rfl) only [↓vmp, vme, vmb, ty, hP, dec_t, dec_f, wrap64, List.length_map, Int.toNat_natCast, Nat.reduceAdd, List.cons_append, List.nil_append, Option.map_some, Option.map_none, strOf_mk, sb_eql, sb_neq, vmg, ↓vgd, ↓vst, ↓vix, op_bs2, bs2_42, call_much2, hm, call_works, bo13, bo7]
    exact retQ_one rfl rfl rfl
  | false =>
    obtain ⟨ba, bb⟩ := Bool.or_eq_false_iff.1 hm
    have ha := stepL_of hia ba
    have hb := stepL_of hib bb
    have hda : a.o.data.length ≤ 100000 := by have := ha.d; omega
    have hdb : b.o.data.length ≤ 100000 := by have := hb.d; omega
    have hda1 : a.o.data.length ≤ 1000000 := by omega
    have hdb1 : b.o.data.length ≤ 1000000 := by omega
    have hp1 : (plainS a).o.data.length ≤ 1000000 := by have := plainS_data a; omega
    cases hc : lineS a with
    | none =>
      simp (maxSteps := 1000000) (disch := first | assumption | omega | rfl) only [↓vmp, vme, vmb, ty, hP, dec_t, dec_f, wrap64, List.length_map, Int.toNat_natCast, Nat.reduceAdd, List.cons_append, List.nil_append, Option.map_some, Option.map_none, strOf_mk, sb_eql, sb_neq, vmg, ↓vgd, ↓vst, ↓vix, op_bs2, bs2_42, call_much2, hm, call_to2 hda hdb, ix43_0, ix43_1, call_lineN ha.b hc, call_rlineN ha.b hc, bo13, bo14, bo15, bo11]
      refine wk_draw (is := [0, 1, 2, 3, 4, 5, 6, 7, 8, 9, 10, 11, 12, 13, 14, 15, 16, 17, 18, 19, 20, 21, 22, 23, 25, 26, 24, 27, 28, 29, 30, 31, 32, 33, 36, 34, 35, 37, 38, 39, 40]) (h := 0) (by kernel_rfl) (by kernel_rfl) ?_
      simp (maxSteps := 1000000) (disch := first | assumption | omega | rfl) only [List.replicate_zero, eq_self, vmd, vmk, vmo, vmg, vme, vmb, ty, hP, dec_t, dec_f, wrap64, List.length_map, Int.toNat_natCast, Nat.reduceAdd, ↓vgd, ↓vst, ↓vix, List.append_nil, ix43_0, ix43_1, dr_same, dr_rsame hda1 hdb1, dr_rsame hp1 hp1, dr_plain hda, dr_rplain, dr_ofD, bo16, bo9, bo17, bo10, bo12, deq, dne, dec_True, sb_eql, sb_neq, bn4, beq_self_eq_true, Bool.not_true, Bool.not_false]
      refine ⟨by kernel_rfl, ?_⟩
      simp (maxSteps := 1000000) (disch := first | assumption | omega | rfl) only [↓vmp, vme, vmb, ty, hP, dec_t, dec_f, wrap64, List.length_map, Int.toNat_natCast, Nat.reduceAdd, List.cons_append, List.nil_append, Option.map_some, Option.map_none, strOf_mk, sb_eql, sb_neq, vmg, ↓vgd, ↓vst, ↓vix, call_works, bo7]
      exact retQ_one rfl rfl rfl
    | some l =>
      have hl := line_len ha hc
      have hp := parse_line ha.b hc
      simp (maxSteps := 1000000) (disch := first | assumption | omega | rfl) only [↓vmp, vme, vmb, ty, hP, dec_t, dec_f, wrap64, List.length_map, Int.toNat_natCast, Nat.reduceAdd, List.cons_append, List.nil_append, Option.map_some, Option.map_none, strOf_mk, sb_eql, sb_neq, vmg, ↓vgd, ↓vst, ↓vix, op_bs2, bs2_42, call_much2, hm, call_to2 hda hdb, ix43_0, ix43_1, call_lineS ha.b hc, call_rlineS ha.b hc, bo13, bo14, bo15, bo11]
      refine wk_draw (is := [0, 1, 2, 3, 4, 5, 6, 7, 8, 9, 10, 11, 12, 13, 14, 15, 16, 17, 18, 19, 20, 21, 22, 23, 25, 26, 24, 27, 28, 29, 30, 31, 32, 33, 36, 34, 35, 37, 38, 39, 40]) (h := 0) (by kernel_rfl) (by kernel_rfl) ?_
      simp (maxSteps := 1000000) (disch := first | assumption | omega | rfl) only [List.replicate_zero, eq_self, vmd, vmk, vmo, vmg, vme, vmb, ty, hP, dec_t, dec_f, wrap64, List.length_map, Int.toNat_natCast, Nat.reduceAdd, ↓vgd, ↓vst, ↓vix, List.append_nil, ix43_0, ix43_1, dr_same, dr_rsame hda1 hdb1, dr_rsame hp1 hp1, dr_plain hda, dr_rplain, dr_ofD, bo16, bo9, bo17, bo10, bo12, deq, dne, dec_True, sb_eql, sb_neq, bn4, beq_self_eq_true, Bool.not_true, Bool.not_false]
      refine ⟨by kernel_rfl, ?_⟩
      simp (maxSteps := 1000000) (disch := first | assumption | omega | rfl) only [↓vmp, vme, vmb, ty, hP, dec_t, dec_f, wrap64, List.length_map, Int.toNat_natCast, Nat.reduceAdd, List.cons_append, List.nil_append, Option.map_some, Option.map_none, strOf_mk, sb_eql, sb_neq, vmg, ↓vgd, ↓vst, ↓vix, call_parseS (show l.length ≤ 80000 by omega) hp, bo8]
      refine wk_draw (is := [0, 1, 2, 3, 5, 4, 6, 7, 8, 9, 10, 11, 12]) (h := 0) (by kernel_rfl) (by kernel_rfl) ?_
      simp (maxSteps := 1000000) (disch := first | assumption | omega | rfl) only [List.replicate_zero, eq_self, vmd, vmk, vmo, vmg, vme, vmb, ty, hP, dec_t, dec_f, wrap64, List.length_map, Int.toNat_natCast, Nat.reduceAdd, ↓vgd, ↓vst, ↓vix, List.append_nil, dr_rsame hp1 hp1, dr_rplain, dr_ofD, dr_works, bo7, bo9, bo10, bo12, deq, dne, dec_True, sb_eql, sb_neq, bn4, beq_self_eq_true, Bool.not_true, Bool.not_false]
      refine ⟨by kernel_rfl, ?_⟩
      simp (maxSteps := 1000000) (disch := first | assumption | omega | rfl) only [↓vmp, vme, vmb, ty, hP, dec_t, dec_f, wrap64, List.length_map, Int.toNat_natCast, Nat.reduceAdd, List.cons_append, List.nil_append, Option.map_some, Option.map_none, strOf_mk, sb_eql, sb_neq, vmg, ↓vgd, ↓vst, ↓vix]
      exact retQ_one rfl rfl rfl
end Go.Proofs.YteapjcgeckpknaaDoor
end
/-! script.Print: its walk, over the shelf's Builder. -/
section
set_option linter.unusedVariables false
set_option linter.unusedSimpArgs false
set_option maxRecDepth 100000
set_option maxHeartbeats 4000000
namespace Go.Proofs.YteapjcgeckpknaaDoor
open Go.Vm Go.RowKit
open Go.Shelf in
theorem lays166 : Lays.n166 Tryd.prog lays156_ren := { lays156 with }
open Go.Shelf in
theorem lays169 : Lays.n169 Tryd.prog lays156_ren := { lays156 with }
theorem kept_F {w w' : World} {T e : TypeId} {B b : Nat} {bs : List Value} (h : Lib.IsBuilderF T e B b bs w) (hk : ∀ k, k < w.heap.size → w'.heap[k]? = w.heap[k]?) : Lib.IsBuilderF T e B b bs w' := by
  have at_ : ∀ p, Lib.BuilderAtF T e B b p bs w → Lib.BuilderAtF T e B b p bs w' := by
    rintro p ⟨hB, v, hb, ⟨hl, ho⟩, hne⟩
    refine ⟨hB, v, (hk b (Array.getElem?_eq_some_iff.1 hb).1).trans hb, ⟨hl, ?_⟩, hne⟩
    rcases ho with ho | ⟨g, cap, cur, fz, hv, hg, hh, hr⟩
    · exact .inl ho
    · exact .inr ⟨g, cap, cur, fz, hv, hg, (hk g (Array.getElem?_eq_some_iff.1 hh).1).trans hh, hr⟩
  exact h.imp (at_ _) (at_ _)
theorem writeString (B b : Nat) (bs : List Value) (s : ByteArray) (w : World) (h : Lib.IsBuilderF 71 5 B b bs w) (hlen : bs.length + s.size ≤ 140737488355328) (hBw : B ≤ w.heap.size) :
    Calls Tryd.prog 36 #[.pointer (some ⟨b, 0, none⟩), .string s] w fun e w' => e = .returned (.tuple #[.int .i64 s.size, .nilIface]) ∧ Lib.BuilderAtF 71 5 B b (.pointer (some ⟨b, 0, none⟩)) (bs ++ Lib.strCells s) w' ∧ Below B w w' :=
  (Any.Builder_WriteString_k lays166 extraJ B b bs s w h hlen hBw).mono fun e w' ⟨h1, h2, h3, _⟩ => ⟨h1, h2, h3⟩
theorem builderString (B b : Nat) (l : List UInt8) (w : World) (h : Lib.IsBuilderF 71 5 B b (Lib.byteCells l) w) (hBw : B ≤ w.heap.size) :
    Calls Tryd.prog 37 #[.pointer (some ⟨b, 0, none⟩)] w fun e w' => e = .returned (.string ⟨l.toArray⟩) ∧ Below B w w' :=
  (Any.Builder_String_any_k lays169 extraJ B b l w h hBw).mono fun e w' ⟨h1, _, h3, _⟩ => ⟨h1, h3⟩
/-- A step's line and what is said of it. -/
def lineT (s : Step) : List UInt8 := (lineS s).getD []
def lineE (s : Step) : Int := if (lineS s).isSome then 0 else 1
theorem line_calls (s : Step) (h : StepB s) (A : Nat → Prop) (w : World) (us : Array Value) (hlt : ∀ b, A b → b < w.heap.size) (hgl : GlobOk Tryd.prog A w) (hr : RepS A w [encStep s] us.toList) :
    Calls Tryd.prog 15 us w fun e w' => e = .returned (.tuple #[.string ⟨(lineT s).toArray⟩, .int .i64 (lineE s)]) ∧ Below w.heap.size w w' := by
  obtain ⟨n, hn⟩ := line_step_ok s h
  obtain ⟨o', ho, hc⟩ := runD_ok extC catchC n _ _ _ hn
  have ho : lineO s = OutD.out o' := ho
  have hl : lineO s = .ret (.tup [.d (.str (lineT s)), .d (.int .i64 (lineE s))]) := by
    unfold lineO lineT lineE
    cases lineS s <;> rfl
  rw [hl] at ho
  have ho : o' = .tup [.str (lineT s), .int .i64 (lineE s)] := by
    cases o' with
    | ret x => cases ho
    | pan x => cases ho
    | tup xs =>
      simp only [OutD.out, Out.ret.injEq, V.tup.injEq] at ho
      match xs, ho with
      | [a, b], ho =>
        simp only [List.map_cons, List.map_nil, List.cons.injEq, V.d.injEq, and_true] at ho
        rw [← ho.1, ← ho.2]
  subst ho
  refine (hc A w us hlt hgl hr).mono fun e w' he => ?_
  cases e with
  | panicked c => obtain ⟨_, _, h0, _⟩ := he; cases h0
  | outgrown => exact he.elim
  | returned v =>
    obtain ⟨A', hI, us', rfl, hs⟩ := he
    simp only [RepS, RepC, D.isAgg] at hs
    obtain ⟨v1, r1, h1, h2, v2, r2, h3, h4, h5⟩ := hs
    have h2 : v1 = .string ⟨(lineT s).toArray⟩ := by simpa using h2
    have h4 : v2 = .int .i64 (lineE s) := by simpa using h4
    refine ⟨?_, hI.os, hI.tape, hI.output, hI.size, hI.old⟩
    have : us' = #[.string ⟨(lineT s).toArray⟩, .int .i64 (lineE s)] := by
      apply Array.toList_inj.1
      rw [h1, h3, h5, h2, h4]
    rw [this]
/-- The text of steps, each with its line's end. -/
def textL (l : List Step) : List UInt8 := l.flatMap fun s => lineT s ++ [10]
theorem textL_snoc (l : List Step) (s : Step) : textL (l ++ [s]) = textL l ++ (lineT s ++ [10]) := by unfold textL; simp
theorem lineT_len {s : Step} (h : StepB s) : (lineT s).length ≤ 700000 := by
  have l1 := itoa_len _ h.n
  have l2 := wgtS_len s.w.toNat
  unfold lineT lineS
  split
  · unfold callS
    split
    · rename_i hh
      have := words_join h.o hh.1
      simp; omega
    · simp
  split
  · simp; omega
  split
  · simp; omega
  split <;> simp
theorem textL_len : ∀ {l : List Step}, (∀ s ∈ l, StepB s) → (textL l).length ≤ l.length * 700001
  | [], _ => by simp [textL]
  | s :: r, h => by
    have h1 := lineT_len (h s (by simp))
    have h2 := textL_len (l := r) fun x hx => h x (by simp [hx])
    have e : textL (s :: r) = (lineT s ++ [10]) ++ textL r := by unfold textL; simp
    rw [e, List.length_append, List.length_append]
    simp only [List.length_cons, List.length_nil]
    omega
def printS (l : List Step) : Option (List UInt8) := if l.all (fun s => (lineS s).isSome) then some (textL l) else Option.none
theorem repE_at {A : Nat → Prop} {w : World} {k : Nat} {enc : Step → D} : ∀ {l : List Step} {us : List Value}, RepE A w k (l.map enc) us → ∀ i (h : i < l.length), ∃ g, g.length = k ∧ RepC A w (enc l[i]) g ∧ ∀ j v, g[j]? = some v → us[i * k + j]? = some v
  | [], _, _, i, h => by simp at h
  | s :: r, us, hr, i, h => by
    simp only [List.map_cons, RepE] at hr
    obtain ⟨u, ws, rfl, h1, h2, h3⟩ := hr
    cases i with
    | zero => exact ⟨u, h1, h2, fun j v hj => by
        rw [Nat.zero_mul, Nat.zero_add, List.getElem?_append_left (List.getElem?_eq_some_iff.1 hj).1]; exact hj⟩
    | succ i =>
      obtain ⟨g, g1, g2, g3⟩ := repE_at h3 i (by simpa using h)
      refine ⟨g, g1, g2, fun j v hj => ?_⟩
      have e : (i + 1) * k + j = u.length + (i * k + j) := by rw [h1, Nat.succ_mul]; omega
      rw [e, List.getElem?_append_right (by omega), Nat.add_sub_cancel_left]
      exact g3 j v hj
theorem step_shape {A : Nat → Prop} {w : World} {s : Step} {g : List Value} (h : RepC A w (encStep s) g) : ∃ a n cap, g = [.int .i64 s.does, .int .i64 s.o.does, .string ⟨s.o.a.toArray⟩, .string ⟨s.o.b.toArray⟩, .int .i64 s.o.off, .int .i64 s.o.n, .slice a n cap, .int .u64 s.w, .int .i64 s.n] := by
  unfold encStep encB at h
  simp only [RepC, RepL] at h
  obtain ⟨v0, _, rfl, _, e0, v1, _, rfl, _, e1, v2, _, rfl, _, e2, v3, _, rfl, _, e3, v4, _, rfl, _, e4, v5, _, rfl, _, e5, v6, _, rfl, _, e6, v7, _, rfl, _, e7, v8, _, rfl, _, e8, rfl⟩ := h
  simp only [List.cons.injEq, and_true] at e0 e1 e2 e3 e4 e5 e7 e8
  obtain ⟨a, cap, e6, _⟩ := e6
  simp only [List.cons.injEq, and_true] at e6
  exact ⟨a, _, cap, by rw [e0, e1, e2, e3, e4, e5, e6, e7, e8]⟩
theorem print_calls (l : List Step) (hl : l.length ≤ 100000) (hB : ∀ s ∈ l, StepB s) (A : Nat → Prop) (w : World) (us : Array Value) (hlt : ∀ b, A b → b < w.heap.size) (hgl : GlobOk Tryd.prog A w) (hr : RepS A w [.sl (l.map encStep)] us.toList) :
    Calls Tryd.prog 18 us w fun e w' => e = .returned (.tuple #[.string ⟨((printS l).getD []).toArray⟩, .int .i64 (if (printS l).isSome then 0 else 1)]) ∧ Below w.heap.size w w' := by
  simp only [RepS, RepC, D.isAgg] at hr
  obtain ⟨v, us', h1, h2, h3⟩ := hr
  have h2 : ∃ a cap, v = .slice a l.length cap ∧ l.length ≤ cap ∧ (l = [] ∨ ∃ ad k us, a = some ad ∧ ad.spot = none ∧ A ad.block ∧ CellsAt w ad.block ad.off us ∧ RepE A w k (l.map encStep) us) := by simpa using h2
  obtain ⟨a, cap, h6, h7, h8⟩ := h2
  have hus : us = #[.slice a l.length cap] := by
    apply Array.toList_inj.1
    rw [h1, h3, h6]
  subst hus
  clear h1 h3 h6
  generalize hpt : (printS l).getD [] = pt
  generalize hpe : (if (printS l).isSome then (0 : Int) else 1) = pe
  go_enter Tryd.func18, Tryd.ntmps18
  go_wp2
  go_loopw [11] (fun i wr => ∃ (k : Nat), k ≤ l.length ∧ i = .int .i64 k ∧ (∀ s ∈ l.take k, (lineS s).isSome = true) ∧ Lib.IsBuilderF 71 5 w.heap.size w.heap.size (Lib.byteCells (textL (l.take k))) wr ∧ Below w.heap.size w wr) (fun i wr => l.length - (intOf i).toNat)
  case atStart => exact ⟨0, by omega, rfl, by simp, Lib.IsBuilderF.of (Lib.fresh_isBuilder 71 5 w), (Below.refl _ w).alloc (Nat.le_refl _) _⟩
  case round =>
    obtain ⟨k, hk, rfl, hS, hI, hb⟩ := hrel
    by_cases hlt' : k < l.length
    · rcases h8 with rfl | ⟨⟨bk, o, sp⟩, kk, us, rfl, hsp, hA, hc, hE⟩
      · simp at hlt'
      simp only at hsp hA hc
      subst hsp
      obtain ⟨g, g1, g2, g3⟩ := repE_at hE k hlt'
      have hSB := hB _ (List.getElem_mem hlt')
      have htk : l.take (k + 1) = l.take k ++ [l[k]] := take_snoc hlt'
      generalize hS0 : l[k] = S at *
      obtain ⟨sa, sn, scap, hg⟩ := step_shape g2
      subst hg
      have hkk : kk = 9 := g1.symm
      subst hkk
      have hcell : ∀ (j : Nat) v, ([.int .i64 S.does, .int .i64 S.o.does, .string ⟨S.o.a.toArray⟩, .string ⟨S.o.b.toArray⟩, .int .i64 S.o.off, .int .i64 S.o.n, .slice sa sn scap, .int .u64 S.w, .int .i64 S.n] : List Value)[j]? = some v → wr.cell? ⟨bk, o + k * 9 + j, Option.none⟩ = some v := fun j v hj => by
        obtain ⟨c, e, f, hh, hc⟩ := hc
        have := hc _ _ (g3 j v hj)
        have hh' : wr.heap[bk]? = some (.cells c e f) := (hb.block bk (hlt bk hA)).trans hh
        simp only [World.cell?, hh', Option.isSome_none, Bool.false_eq_true, if_false]
        rw [Nat.add_assoc]; exact this
      have c0 := hcell 0 _ rfl
      rw [Nat.add_zero] at c0
      have c1 := hcell 1 _ rfl
      have c2 := hcell 2 _ rfl
      have c3 := hcell 3 _ rfl
      have c4 := hcell 4 _ rfl
      have c5 := hcell 5 _ rfl
      have c6 := hcell 6 _ rfl
      have c7 := hcell 7 _ rfl
      have c8 := hcell 8 _ rfl
      have hAw : ∀ b, A b → (wr.alloc (.cells (#[.int .i64 S.does, .int .i64 S.o.does, .string ⟨S.o.a.toArray⟩, .string ⟨S.o.b.toArray⟩, .int .i64 S.o.off, .int .i64 S.o.n, .slice sa sn scap, .int .u64 S.w, .int .i64 S.n] : Array Value) 28)).heap[b]? = w.heap[b]? := fun b hb' => by
        have h1 := hlt b hb'
        have h2 := hb.size
        rw [alloc_heap, Array.getElem?_push, if_neg (by omega)]
        exact hb.block b h1
      have hline := line_calls S hSB A (wr.alloc (.cells (#[.int .i64 S.does, .int .i64 S.o.does, .string ⟨S.o.a.toArray⟩, .string ⟨S.o.b.toArray⟩, .int .i64 S.o.off, .int .i64 S.o.n, .slice sa sn scap, .int .u64 S.w, .int .i64 S.n] : Array Value) 28)) #[.agg (#[.int .i64 S.does, .int .i64 S.o.does, .string ⟨S.o.a.toArray⟩, .string ⟨S.o.b.toArray⟩, .int .i64 S.o.off, .int .i64 S.o.n, .slice sa sn scap, .int .u64 S.w, .int .i64 S.n] : Array Value)] (fun b hb' => by
        have h1 := hlt b hb'
        have h2 := hb.size
        rw [alloc_heap, Array.size_push]; omega) (hgl.step (fun _ h => h) hAw) (by
        simp only [RepS]
        exact ⟨_, _, rfl, .inl ⟨rfl, _, rfl, repC_mono (fun _ h => h) hAw _ _ g2⟩, rfl⟩)
      have hI1 := hI.alloc (.cells (#[.int .i64 S.does, .int .i64 S.o.does, .string ⟨S.o.a.toArray⟩, .string ⟨S.o.b.toArray⟩, .int .i64 S.o.off, .int .i64 S.o.n, .slice sa sn scap, .int .u64 S.w, .int .i64 S.n] : Array Value) 28)
      have hb1 := hb.alloc (o := .cells (#[.int .i64 S.does, .int .i64 S.o.does, .string ⟨S.o.a.toArray⟩, .string ⟨S.o.b.toArray⟩, .int .i64 S.o.off, .int .i64 S.o.n, .slice sa sn scap, .int .u64 S.w, .int .i64 S.n] : Array Value) 28) (by have := hb.size; omega)
      have hsz1 := hb1.size
      clear hcell hc g3 hE hAw
      go_wp2_with (go_at_call 15; refine hline.mono ?_)
      rintro e W1 ⟨rfl, b1⟩
      have hI2 := kept_F hI1 b1.block
      have hb2 := hb1.trans (b1.mono hsz1)
      have hs2 : w.heap.size ≤ W1.heap.size := hb2.size
      have htl : (textL (l.take k)).length ≤ 70000100000 := by
        have h1 := textL_len (l := l.take k) fun x hx => hB x (List.mem_of_mem_take hx)
        have h2 : (l.take k).length ≤ 100000 := by rw [List.length_take]; omega
        have h3 : (l.take k).length * 700001 ≤ 100000 * 700001 := Nat.mul_le_mul_right _ h2
        omega
      have hln := lineT_len hSB
      clear c0 c1 c2 c3 c4 c5 c6 c7 c8
      have hmem : S ∈ l := by rw [← hS0]; exact List.getElem_mem hlt'
      cases hLS : lineS S with
      | none =>
        have e1 : lineE S = 1 := by unfold lineE; rw [hLS]; rfl
        have e2 : lineT S = [] := by unfold lineT; rw [hLS]; rfl
        have e3 : printS l = Option.none := by
          unfold printS
          rw [if_neg]
          intro hall
          have := List.all_eq_true.1 hall S hmem
          rw [hLS] at this
          cases this
        rw [e3] at hpt hpe
        subst hpt
        subst hpe
        rw [e1, e2]
        go_wp2
        go_ret2
        exact ⟨rfl, hb2⟩
      | some t =>
        have e1 : lineE S = 0 := by unfold lineE; rw [hLS]; rfl
        have e2 : lineT S = t := by unfold lineT; rw [hLS]; rfl
        rw [e2] at hln
        rw [e1, e2]
        have hz : (⟨t.toArray⟩ : ByteArray).size = t.length := by simp [ByteArray.size]
        have hz1 : (⟨#[10]⟩ : ByteArray).size = 1 := rfl
        have hlen1 : (Lib.byteCells (textL (l.take k))).length + (⟨t.toArray⟩ : ByteArray).size ≤ 140737488355328 := by rw [Lib.byteCells_length, hz]; omega
        have hlen2 : (Lib.byteCells (textL (l.take k)) ++ Lib.strCells ⟨t.toArray⟩).length + (⟨#[10]⟩ : ByteArray).size ≤ 140737488355328 := by rw [List.length_append, Lib.byteCells_length, Lib.strCells_length, hz, hz1]; omega
        clear hz hz1
        go_wp2_with (go_at_call 36; refine (writeString w.heap.size w.heap.size _ ⟨t.toArray⟩ W1 hI2 hlen1 hs2).mono ?_)
        rintro e W2 ⟨rfl, h2, b2⟩
        have hs3 : w.heap.size ≤ W2.heap.size := Nat.le_trans hs2 b2.size
        go_wp2_with (go_at_call 36; refine (writeString w.heap.size w.heap.size _ ⟨#[10]⟩ W2 (.inr h2) hlen2 hs3).mono ?_)
        rintro e W3 ⟨rfl, h3, b3⟩
        go_wp2
        go_roundw
        case rel =>
          refine ⟨k + 1, by omega, by go_num, ?_, ?_, hb2.trans (b2.trans b3)⟩
          · intro s hs
            rw [htk] at hs
            rcases List.mem_append.1 hs with hs | hs
            · exact hS s hs
            · cases List.mem_singleton.1 hs
              rw [hLS]; rfl
          · rw [htk, textL_snoc, e2]
            rw [Lib.strCells_eq, Lib.strCells_eq, ← Lib.byteCells_append, ← Lib.byteCells_append, List.append_assoc] at h3
            exact .inr h3
        case measure =>
          simp [intOf]; omega
    · have hke : k = l.length := by omega
      subst hke
      rw [List.take_length] at hI hS
      have hs2 := hb.size
      have e3 : printS l = some (textL l) := by
        unfold printS
        rw [if_pos (List.all_eq_true.2 hS)]
      go_wp2_with (go_at_call 37; refine (builderString w.heap.size w.heap.size (textL l) wr hI hs2).mono ?_)
      rintro e W1 ⟨rfl, b1⟩
      rw [e3] at hpt hpe
      subst hpt
      subst hpe
      go_wp2
      go_ret2
      exact ⟨rfl, hb.trans b1⟩
end Go.Proofs.YteapjcgeckpknaaDoor
end
/-! The machine for the statements on scripts: Print is told by its walk, the others by what the first machine answers. -/
section
set_option linter.unusedVariables false
set_option linter.unusedSimpArgs false
set_option maxRecDepth 100000
set_option maxHeartbeats 4000000
namespace Go.Proofs.YteapjcgeckpknaaDoor
open Go.Vm
open Classical in
noncomputable def evx (C : Cfg) (f : FuncId) (ds : List D) : Option Out := if h : ∃ o, Ev C f ds o then some h.choose else Option.none
theorem ev_det {C : Cfg} {f : FuncId} {ds : List D} {o o' : Out} (h : Ev C f ds o) (h' : Ev C f ds o') : o = o' := by
  obtain ⟨n, hn⟩ := h
  obtain ⟨m, hm⟩ := h'
  have a := runD_le (Nat.le_max_left n m) hn
  have b := runD_le (Nat.le_max_right n m) hm
  rw [a] at b
  exact Option.some.inj b
theorem evx_of {C : Cfg} {f : FuncId} {ds : List D} {o : Out} (h : Ev C f ds o) : evx C f ds = some o := by
  have hx : ∃ o, Ev C f ds o := ⟨o, h⟩
  unfold evx
  rw [dif_pos hx]
  exact congrArg some (ev_det hx.choose_spec h)
theorem ev_evx {C : Cfg} {f : FuncId} {ds : List D} {o : Out} (h : evx C f ds = some o) : Ev C f ds o := by
  unfold evx at h
  split at h
  · rename_i hx
    cases h
    exact hx.choose_spec
  · cases h
def byteD : D → Option UInt8
  | .int .u8 x => if 0 ≤ x ∧ x ≤ 255 then some (UInt8.ofNat x.toNat) else Option.none
  | _ => Option.none
def stepD : D → Option Step
  | .agg [.int .i64 d, .int .i64 od, .str a, .str b, .int .i64 off, .int .i64 n, .sl bs, .int .u64 w, .int .i64 m] => (allO byteD bs).map fun l => ⟨d, ⟨od, a, b, off, n, l⟩, w, m⟩
  | _ => Option.none
theorem byteD_of {x : D} {b : UInt8} (h : byteD x = some b) : x = .int .u8 b.toNat := by
  unfold byteD at h
  split at h
  · split at h
    · cases h
      rename_i n hn
      congr 1
      rw [UInt8.toNat_ofNat']
      omega
    · cases h
  · cases h
theorem byteD_enc (b : UInt8) : byteD (.int .u8 b.toNat) = some b := by
  have : b.toNat < 256 := b.toNat_lt
  show (if 0 ≤ (b.toNat : Int) ∧ (b.toNat : Int) ≤ 255 then some (UInt8.ofNat (b.toNat : Int).toNat) else Option.none) = _
  rw [if_pos ⟨by omega, by omega⟩]
  congr 1
  rw [Int.toNat_natCast, UInt8.ofNat_toNat]
theorem allO_of {α : Type} {f : D → Option α} {enc : α → D} (hf : ∀ x a, f x = some a → x = enc a) : ∀ {xs : List D} {l : List α}, allO f xs = some l → xs = l.map enc
  | [], l, h => by cases h; rfl
  | x :: r, l, h => by
    unfold allO at h
    split at h
    · cases h
    · rename_i y hy
      split at h
      · cases h
      · rename_i ys hys
        cases h
        rw [List.map_cons, ← allO_of hf hys, ← hf _ _ hy]
theorem allO_all {α : Type} {f : D → Option α} {enc : α → D} (hf : ∀ a, f (enc a) = some a) : ∀ l : List α, allO f (l.map enc) = some l
  | [] => rfl
  | a :: r => by simp only [List.map_cons, allO, hf, allO_all hf r]
theorem stepD_of {x : D} {s : Step} (h : stepD x = some s) : x = encStep s := by
  unfold stepD at h
  split at h
  · obtain ⟨l, h1, rfl⟩ := Option.map_eq_some_iff.1 h
    rw [allO_of (enc := fun b : UInt8 => D.int .u8 b.toNat) (fun x a => byteD_of) h1]
    rfl
  · cases h
theorem stepD_enc (s : Step) : stepD (encStep s) = some s := by
  unfold encStep stepD encB
  simp only
  rw [allO_all byteD_enc]
  rfl
def printO (l : List Step) : Out := .ret (.tup [.d (.str ((printS l).getD [])), .d (.int .i64 (if (printS l).isSome then 0 else 1))])
open Classical in
noncomputable def printX : List D → Option Out := fun ds => match ds with
  | [.sl xs] => match allO stepD xs with
    | some l => if l.length ≤ 100000 ∧ ∀ s ∈ l, StepB s then some (printO l) else Option.none
    | Option.none => Option.none
  | _ => Option.none
theorem printX_of {l : List Step} (h1 : l.length ≤ 100000) (h2 : ∀ s ∈ l, StepB s) : printX [.sl (l.map encStep)] = some (printO l) := by
  unfold printX
  simp only [allO_all stepD_enc]
  rw [if_pos ⟨h1, h2⟩]
theorem printX_ok : ∀ ds o, printX ds = some o → ∃ o', o = OutD.out o' ∧ ∀ (A : Nat → Prop) (w : World) (us : Array Value), (∀ b, A b → b < w.heap.size) → GlobOk Tryd.prog A w → RepS A w ds us.toList → Calls Tryd.prog 18 us w (AnsPost A w o') := by
  intro ds o ho
  unfold printX at ho
  split at ho
  · rename_i xs
    split at ho
    · rename_i l hl
      have hx := allO_of (enc := encStep) (fun x a => stepD_of) hl
      subst hx
      split at ho
      · rename_i hh
        cases ho
        refine ⟨.tup [.str ((printS l).getD []), .int .i64 (if (printS l).isSome then 0 else 1)], rfl, fun A w us hlt hgl hr => ?_⟩
        refine (print_calls l hh.1 hh.2 A w us hlt hgl hr).mono fun e w' he => ?_
        obtain ⟨rfl, hb⟩ := he
        refine ⟨A, iso_of hlt hb, _, rfl, ?_⟩
        simp only [RepS]
        exact ⟨_, _, rfl, .inr ⟨rfl, rfl⟩, _, _, rfl, .inr ⟨rfl, rfl⟩, rfl⟩
      · cases ho
    · cases ho
  · cases ho
def maskP : Nat := 274877939584
noncomputable def cfgP : Cfg := { P := Tryd.prog, mixed := by kernel_rfl, shared := fun _ => false, ext := fun f => match Nat.beq f 18 with | true => some printX | false => match Nat.testBit maskP f with | true => some (evx cfg f) | false => Option.none, catch_ := fun _ => Option.none }
theorem liftP {f : FuncId} {ds : List D} {o : Out} (h9 : Nat.beq f 18 = false) (hm : Nat.testBit maskP f = true) (h : Ev cfg f ds o) : Ev cfgP f ds o := by
  refine ⟨0, ?_⟩
  have hx : cfgP.ext f = some (evx cfg f) := by
    show (match Nat.beq f 18 with | true => some printX | false => match Nat.testBit maskP f with | true => some (evx cfg f) | false => Option.none) = _
    rw [h9, hm]
  unfold runD answer
  simp only [hx]
  exact evx_of h
theorem print_ev {l : List Step} (h1 : l.length ≤ 100000) (h2 : ∀ s ∈ l, StepB s) : Ev cfgP 18 [.sl (l.map encStep)] (printO l) := by
  refine ⟨0, ?_⟩
  have hx : cfgP.ext 18 = some printX := rfl
  unfold runD answer
  simp only [hx]
  exact printX_of h1 h2
theorem extP : ExtOk cfgP := by
  intro f g h
  have h : (match Nat.beq f 18 with | true => some printX | false => match Nat.testBit maskP f with | true => some (evx cfg f) | false => Option.none) = some g := h
  split at h
  · rename_i hf
    cases h
    cases Nat.eq_of_beq_eq_true hf
    exact printX_ok
  · split at h
    · cases h
      intro ds o ho
      obtain ⟨n, hn⟩ := ev_evx ho
      exact runD_ok extC catchC n f ds o hn
    · cases h
theorem catchP : CatchOk cfgP := fun f post h => by cases h
end Go.Proofs.YteapjcgeckpknaaDoor
end
/-! Plain: the text of steps is read as what counts of them, and what is read is a text of steps. -/
section
set_option linter.unusedVariables false
set_option linter.unusedSimpArgs false
set_option maxRecDepth 100000
set_option maxHeartbeats 4000000
namespace Go.Proofs.YteapjcgeckpknaaDoor
open Go.Vm
/-! No line holds a line's end. -/
theorem hexB_nl : ∀ d : Fin 16, hexB d.val ≠ 10 := by decide +kernel
theorem hex_nl (b : List UInt8) : (10 : UInt8) ∉ hexS b := by
  unfold hexS
  split
  · decide
  · intro h
    unfold hexL at h
    obtain ⟨x, _, hx⟩ := List.mem_flatMap.1 h
    have h256 : x.toNat < 256 := x.toNat_lt
    simp at hx
    rcases hx with hx | hx
    · exact hexB_nl ⟨x.toNat / 16, by omega⟩ hx.symm
    · exact hexB_nl ⟨x.toNat % 16, by omega⟩ hx.symm
theorem itoa_nl (n : Int) : (10 : UInt8) ∉ Lib.itoa n := by
  unfold Lib.itoa
  intro h
  split at h
  · rcases List.mem_cons.1 h with h | h
    · exact absurd h (by decide)
    · have := dec_digit _ _ (Nat.le_refl _) _ h
      exact absurd this (by decide)
  · have := dec_digit _ _ (Nat.le_refl _) _ h
    exact absurd this (by decide)
theorem path_nl {s : List UInt8} (h : pathB s = true) : (10 : UInt8) ∉ s := by
  intro hm
  unfold pathB at h
  have : s.any pbad = true := List.any_eq_true.2 ⟨10, hm, by decide⟩
  rw [this] at h
  cases h
theorem names_nl : ∀ k : Fin 14, (10 : UInt8) ∉ onL.getD k.val [] := by decide +kernel
theorem join_nl {l : List (List UInt8)} (h : ∀ w ∈ l, (10 : UInt8) ∉ w) : (10 : UInt8) ∉ Lib.join l [32] := by
  have tl : ∀ {l : List (List UInt8)}, (∀ w ∈ l, (10 : UInt8) ∉ w) → (10 : UInt8) ∉ Lib.joinTail [32] l := by
    intro l
    induction l with
    | nil => intro _ h; cases h
    | cons w r ih =>
      intro h hm
      have e : Lib.joinTail [32] (w :: r) = [32] ++ w ++ Lib.joinTail [32] r := by simp [Lib.joinTail]
      rw [e] at hm
      rcases List.mem_append.1 hm with hm | hm
      · rcases List.mem_append.1 hm with hm | hm
        · simp at hm
        · exact h w (by simp) hm
      · exact ih (fun x hx => h x (by simp [hx])) hm
  cases l with
  | nil => intro h; cases h
  | cons w r =>
    rw [Lib.join_cons]
    intro hm
    rcases List.mem_append.1 hm with hm | hm
    · exact h w (by simp) hm
    · exact tl (fun x hx => h x (by simp [hx])) hm
theorem line_nl {s : Step} {t : List UInt8} (h : lineS s = some t) : (10 : UInt8) ∉ t := by
  unfold lineS at h
  split at h
  · unfold callS at h
    split at h
    · rename_i hh
      obtain ⟨hm, hp⟩ := hh
      cases h
      refine join_nl fun w hw => ?_
      unfold wordsO at hw
      rcases List.mem_append.1 hw with hw | hw
      · rcases List.mem_cons.1 hw with rfl | hw
        · obtain ⟨k, hk, _⟩ := nameO_at (n := s.o.does) (by have := hm.1; omega) hm.2.1
          rw [hk]
          exact names_nl k
        · exact path_nl (List.all_eq_true.1 hp w hw)
      · unfold restO at hw
        split at hw
        · simp at hw; rcases hw with rfl | rfl
          · exact itoa_nl _
          · exact hex_nl _
        split at hw
        · simp at hw; rcases hw with rfl | rfl <;> exact itoa_nl _
        split at hw
        · simp at hw; subst hw; exact itoa_nl _
        · cases hw
    · cases h
  split at h
  · cases h
    have := hex_nl (beL s.w.toNat)
    simp only [List.mem_append, not_or]
    exact ⟨⟨by decide, by decide⟩, this⟩
  split at h
  · cases h
    have := itoa_nl s.n
    simp only [List.mem_append, not_or]
    exact ⟨⟨by decide, by decide⟩, this⟩
  split at h
  · cases h; decide
  · cases h
/-! Reading. -/
theorem ib_word {w s : List UInt8} (h : (10 : UInt8) ∉ w) : Lib.indexByte (w ++ 10 :: s) 10 = (w.length : Int) := by
  induction w with
  | nil => simp [Lib.indexByte]
  | cons b r ih =>
    have hb : b ≠ 10 := fun e => h (by rw [e]; simp)
    have ih := ih (fun e => h (List.mem_cons_of_mem _ e))
    rw [List.cons_append, Lib.indexByte, if_neg (by simpa using hb), ih, if_neg (by simp <;> omega), List.length_cons]
    omega
theorem ib_none {w : List UInt8} (h : (10 : UInt8) ∉ w) : Lib.indexByte w 10 = -1 := by
  induction w with
  | nil => rfl
  | cons b r ih =>
    have hb : b ≠ 10 := fun e => h (by rw [e]; simp)
    have ih := ih (fun e => h (List.mem_cons_of_mem _ e))
    rw [Lib.indexByte, if_neg (by simpa using hb), ih, if_pos (by simp)]
theorem ib_cases : ∀ s : List UInt8, Lib.indexByte s 10 = -1 ∨ ∃ i : Nat, Lib.indexByte s 10 = (i : Int) ∧ i < s.length ∧ s = s.take i ++ 10 :: s.drop (i + 1)
  | [] => .inl rfl
  | b :: r => by
    by_cases hb : b = 10
    · subst hb
      exact .inr ⟨0, by simp [Lib.indexByte], by simp, by simp⟩
    · rcases ib_cases r with h | ⟨i, h, hi, he⟩
      · exact .inl (by rw [Lib.indexByte, if_neg (by simpa using hb), h, if_pos (by simp)])
      · refine .inr ⟨i + 1, by rw [Lib.indexByte, if_neg (by simpa using hb), h, if_neg (by simp <;> omega)]; omega, by simp; omega, ?_⟩
        rw [List.take_succ_cons, List.drop_succ_cons, List.cons_append, ← he]
def readN : Nat → List UInt8 → Option (List Step)
  | _, [] => some []
  | 0, _ :: _ => Option.none
  | n + 1, s => if Lib.indexByte s 10 < 0 then Option.none else match parseS (s.take (Lib.indexByte s 10).toNat) with
    | Option.none => Option.none
    | some x => (readN n (s.drop ((Lib.indexByte s 10).toNat + 1))).map (x :: ·)
def readS (s : List UInt8) : Option (List Step) := readN s.length s
theorem readN_ne {n : Nat} {s : List UInt8} (h : s ≠ []) : readN (n + 1) s = if Lib.indexByte s 10 < 0 then Option.none else match parseS (s.take (Lib.indexByte s 10).toNat) with
    | Option.none => Option.none
    | some x => (readN n (s.drop ((Lib.indexByte s 10).toNat + 1))).map (x :: ·) := by
  cases s with
  | nil => exact absurd rfl h
  | cons a r => rfl
theorem readN_le : ∀ (n m : Nat) (s : List UInt8), s.length ≤ n → s.length ≤ m → readN n s = readN m s
  | n, m, [], _, _ => by cases n <;> cases m <;> rfl
  | 0, _, a :: r, h, _ => by simp at h
  | _, 0, a :: r, _, h => by simp at h
  | n + 1, m + 1, a :: r, h1, h2 => by
    rw [readN_ne (by simp), readN_ne (by simp)]
    split
    · rfl
    · have hd : ((a :: r).drop ((Lib.indexByte (a :: r) 10).toNat + 1)).length ≤ r.length := by simp <;> omega
      have := readN_le n m ((a :: r).drop ((Lib.indexByte (a :: r) 10).toNat + 1)) (by simp at h1; omega) (by simp at h2; omega)
      rw [this]
theorem readS_nil : readS [] = some [] := rfl
theorem readS_step {s : List UInt8} (h : s ≠ []) : readS s = if Lib.indexByte s 10 < 0 then Option.none else match parseS (s.take (Lib.indexByte s 10).toNat) with
    | Option.none => Option.none
    | some x => (readS (s.drop ((Lib.indexByte s 10).toNat + 1))).map (x :: ·) := by
  unfold readS
  cases s with
  | nil => exact absurd rfl h
  | cons a r =>
    rw [List.length_cons, readN_ne h]
    split
    · rfl
    · have hd : ((a :: r).drop ((Lib.indexByte (a :: r) 10).toNat + 1)).length ≤ r.length := by simp <;> omega
      rw [readN_le _ _ _ hd (Nat.le_refl _)]
theorem readS_line {w s : List UInt8} (h : (10 : UInt8) ∉ w) : readS (w ++ 10 :: s) = match parseS w with
    | Option.none => Option.none
    | some x => (readS s).map (x :: ·) := by
  rw [readS_step (by simp), ib_word h, if_neg (by omega), Int.toNat_natCast, List.take_left]
  have : List.drop (w.length + 1) (w ++ 10 :: s) = s := by rw [List.drop_append]; simp
  rw [this]
theorem readS_cut {w : List UInt8} (h : (10 : UInt8) ∉ w) (h0 : w ≠ []) : readS w = Option.none := by
  rw [readS_step h0, ib_none h, if_pos (by decide)]
theorem textL_cons (s : Step) (l : List Step) : textL (s :: l) = lineT s ++ 10 :: textL l := by unfold textL; simp
theorem textL_app (a b : List Step) : textL (a ++ b) = textL a ++ textL b := by unfold textL; simp
/-- The text of steps that have lines is read as what counts of them; whatever stands behind. -/
theorem read_text : ∀ (l : List Step) (r : List UInt8), (∀ s ∈ l, StepB s) → (∀ s ∈ l, (lineS s).isSome = true) → readS (textL l ++ r) = (readS r).map (l.map plainS ++ ·)
  | [], r, _, _ => by
    show readS r = (readS r).map fun x => [] ++ x
    cases readS r <;> rfl
  | s :: l, r, hB, hL => by
    obtain ⟨t, ht⟩ := Option.isSome_iff_exists.1 (hL s (by simp))
    have e : lineT s = t := by unfold lineT; rw [ht]; rfl
    rw [textL_cons, e, List.append_assoc, List.cons_append, readS_line (line_nl ht), parse_line (hB s (by simp)) ht]
    simp only
    rw [read_text l r (fun x hx => hB x (by simp [hx])) (fun x hx => hL x (by simp [hx]))]
    cases readS r <;> rfl
theorem guess_B' {t : List UInt8} (ht : t.length ≤ 90000) {x : Step} (h : parseS t = some x) : StepB x := by
  unfold parseS at h
  split at h
  · cases h; exact (guess_B t ht).1
  · cases h
/-- What is read is a text of steps. -/
theorem read_back : ∀ (n : Nat) (s : List UInt8), s.length ≤ n → s.length ≤ 90000 → ∀ l, readS s = some l → (∀ x ∈ l, StepB x ∧ (lineS x).isSome = true) ∧ textL l = s ∧ l.length ≤ s.length
  | n, [], _, _, l, h => by
    rw [readS_nil] at h
    cases h
    exact ⟨by simp, rfl, Nat.le_refl _⟩
  | 0, a :: r, hn, _, _, _ => by simp at hn
  | n + 1, a :: r, hn, hs, l, h => by
    rw [readS_step (by simp)] at h
    rcases ib_cases (a :: r) with hi | ⟨i, hi, hlt, he⟩
    · rw [hi, if_pos (by decide)] at h; cases h
    · rw [hi, if_neg (by omega), Int.toNat_natCast] at h
      generalize a :: r = s at *
      have htl : (s.take i).length ≤ 90000 := by rw [List.length_take]; omega
      cases hp : parseS (s.take i) with
      | none => rw [hp] at h; cases h
      | some x =>
        rw [hp] at h
        simp only at h
        obtain ⟨l', h1, rfl⟩ := Option.map_eq_some_iff.1 h
        have hd : (s.drop (i + 1)).length = s.length - (i + 1) := List.length_drop ..
        obtain ⟨g1, g2, g3⟩ := read_back n (s.drop (i + 1)) (by omega) (by omega) l' h1
        have hx := (parse_some hp).1
        refine ⟨?_, ?_, by simp only [List.length_cons]; omega⟩
        · intro y hy
          rcases List.mem_cons.1 hy with rfl | hy
          · exact ⟨guess_B' htl hp, by rw [hx]; rfl⟩
          · exact g1 y hy
        · have e : lineT x = s.take i := by unfold lineT; rw [hx]; rfl
          rw [textL_cons, e, g2, ← he]
/-- A text of steps that is cut: whole lines, and a piece without a line's end. -/
theorem text_cut : ∀ (l : List Step) (n : Nat), (∀ s ∈ l, (lineS s).isSome = true) → ∃ j r, j ≤ l.length ∧ (textL l).take n = textL (l.take j) ++ r ∧ (10 : UInt8) ∉ r
  | [], n, _ => ⟨0, [], Nat.le_refl _, by simp [textL], by simp⟩
  | s :: l, n, hL => by
    obtain ⟨t, ht⟩ := Option.isSome_iff_exists.1 (hL s (by simp))
    have e : lineT s = t := by unfold lineT; rw [ht]; rfl
    have hnl := line_nl ht
    rw [textL_cons, e]
    by_cases hn : n ≤ t.length
    · refine ⟨0, t.take n, Nat.zero_le _, ?_, fun h => hnl (List.mem_of_mem_take h)⟩
      rw [List.take_append_of_le_length hn]
      rfl
    · obtain ⟨j, r, h1, h2, h3⟩ := text_cut l (n - t.length - 1) fun x hx => hL x (by simp [hx])
      refine ⟨j + 1, r, by simp; omega, ?_, h3⟩
      rw [List.take_succ_cons, textL_cons, e, List.append_assoc, List.cons_append, ← h2, List.take_append, List.take_of_length_le (by omega)]
      congr 1
      obtain ⟨m, hm⟩ : ∃ m, n - t.length = m + 1 := ⟨n - t.length - 1, by omega⟩
      rw [hm, List.take_succ_cons]
      rfl
end Go.Proofs.YteapjcgeckpknaaDoor
end
/-! script.Read: what it answers. -/
section
set_option linter.unusedVariables false
set_option linter.unusedSimpArgs false
set_option maxRecDepth 100000
set_option maxHeartbeats 4000000
namespace Go.Proofs.YteapjcgeckpknaaDoor
open Go.Vm
theorem hPP : cfgP.P = Tryd.prog := rfl
section
variable {ops : Array Oper} {dst : Option Tmp} {k : List Oper} {T : List V} {S : Store} {F : Dfs} {Q : Post}
theorem cp_parseS {t : List UInt8} {x : Step} (h : t.length ≤ 80000) (hc : parseS t = some x) : WpR cfgP ops dst k T S F Q (some (.enter 8 [.d (.str t)])) = WpL cfgP ops k (putT T dst (.tup [.d (encStep x), .d (.int .i64 0)])) S F Q :=
  wr_call_d (ds := [.str t]) rfl (liftP rfl rfl (by have := parse_ok t h; unfold parseO at this; rw [hc] at this; exact this))
theorem cp_parseN {t : List UInt8} (h : t.length ≤ 80000) (hc : parseS t = Option.none) : WpR cfgP ops dst k T S F Q (some (.enter 8 [.d (.str t)])) = WpL cfgP ops k (putT T dst (.tup [.d (encStep ⟨0, noOpn, 0, 0⟩), .d (.int .i64 14)])) S F Q :=
  wr_call_d (ds := [.str t]) rfl (liftP rfl rfl (by have := parse_ok t h; unfold parseO at this; rw [hc] at this; exact this))
theorem cp_index {s : List UInt8} : WpR cfgP ops dst k T S F Q (some (.enter 38 [.d (.str s), .d (.int .u8 10)])) = WpL cfgP ops k (putT T dst (.d (.int .i64 (Lib.indexByte s 10)))) S F Q :=
  wr_call_d (ds := [.str s, .int .u8 10]) rfl (liftP rfl rfl (index_ev s 10 (by decide)))
end
theorem sl_take {S : Store} {s : List UInt8} {i : Nat} (h : i ≤ s.length) : sliceV Tryd.prog S 9 (.d (.str s)) Option.none (some (.d (.int .i64 (i : Int)))) = some (.d (.str (s.take i))) := by
  simp only [sliceV, Tryd.underlying9, bound_in (n := s.length) (d := s.length) (i := (i : Int)) (by omega) (by omega), bound_no, Int.toNat_natCast, List.drop_zero]
theorem sl_drop {S : Store} {s : List UInt8} {i : Nat} (h : i ≤ s.length) : sliceV Tryd.prog S 9 (.d (.str s)) (some (.d (.int .i64 (i : Int)))) Option.none = some (.d (.str (s.drop i))) := by
  simp only [sliceV, Tryd.underlying9, bound_in (n := s.length) (d := 0) (i := (i : Int)) (by omega) (by omega), bound_no, Int.toNat_natCast, List.take_length]
theorem read_l (R : Post) (x1 x2 x3 : V) : ∀ (n : Nat) (s : List UInt8) (acc : List Step) (v : V) (S : Store) (g5 g6 g7 g8 g9 g10 g11 g12 g13 g14 g15 g16 g17 g18 g19 g20 g21 g22 g23 g24 g25 g26 g27 g28 g29 g30 g31 g32 : V), s.length ≤ n → acc.length + s.length ≤ 80000 → SlE encStep S v 28 acc →
   (∀ l, readS s = some l → ∀ S v g5 g6 g7 g8 g9 g10 g11 g12 g13 g14 g15 g16 g17 g18 g19 g20 g21 g22 g23 g24 g25 g26 g27 g28 g29 g30 g31 g32, SlE encStep S v 28 (acc ++ l) → R (.exit 0) ((.d (.str [])) :: x1 :: x2 :: x3 :: v :: g5 :: g6 :: g7 :: g8 :: g9 :: g10 :: g11 :: g12 :: g13 :: g14 :: g15 :: g16 :: g17 :: g18 :: g19 :: g20 :: g21 :: g22 :: g23 :: g24 :: g25 :: g26 :: g27 :: g28 :: g29 :: g30 :: g31 :: g32 :: []) S []) →
   (readS s = Option.none → ∀ S v s' g5 g6 g7 g8 g9 g10 g11 g12 g13 g14 g15 g16 g17 g18 g19 g20 g21 g22 g23 g24 g25 g26 g27 g28 g29 g30 g31 g32, R .ret (s' :: x1 :: (.ts []) :: (.d (.int .i64 14)) :: v :: g5 :: g6 :: g7 :: g8 :: g9 :: g10 :: g11 :: g12 :: g13 :: g14 :: g15 :: g16 :: g17 :: g18 :: g19 :: g20 :: g21 :: g22 :: g23 :: g24 :: g25 :: g26 :: g27 :: g28 :: g29 :: g30 :: g31 :: g32 :: []) S []) →
   Wp cfgP (.loop (lpOf (Tryd.f19.body.getD .skip) 0)) ((.d (.str s)) :: x1 :: x2 :: x3 :: v :: g5 :: g6 :: g7 :: g8 :: g9 :: g10 :: g11 :: g12 :: g13 :: g14 :: g15 :: g16 :: g17 :: g18 :: g19 :: g20 :: g21 :: g22 :: g23 :: g24 :: g25 :: g26 :: g27 :: g28 :: g29 :: g30 :: g31 :: g32 :: []) S [] R := by
  intro n
  induction n with
  | zero =>
    intro s acc v S g5 g6 g7 g8 g9 g10 g11 g12 g13 g14 g15 g16 g17 g18 g19 g20 g21 g22 g23 g24 g25 g26 g27 g28 g29 g30 g31 g32 hn hl hI hE hR
    have hs : s = [] := List.length_eq_zero_iff.1 (by omega)
    subst hs
    rw [wk_of]
    refine wk_loop ?_
    conv => arg 2; whnf
    simp (maxSteps := 1000000) (disch := first | assumption | omega | rfl) only [↓vmp, vme, vmb, ty, hP, dec_t, dec_f, wrap64, List.length_map, Int.toNat_natCast, Nat.reduceAdd, List.cons_append, List.nil_append, Option.map_some, Option.map_none, strOf_mk, sb_eql, sb_neq, vmg, ↓vgd, ↓vst, ↓vix, hPP, dne]
    exact hE [] readS_nil _ _ _ _ _ _ _ _ _ _ _ _ _ _ _ _ _ _ _ _ _ _ _ _ _ _ _ _ _ _ (by rw [List.append_nil]; exact hI)
  | succ n ih =>
    intro s acc v S g5 g6 g7 g8 g9 g10 g11 g12 g13 g14 g15 g16 g17 g18 g19 g20 g21 g22 g23 g24 g25 g26 g27 g28 g29 g30 g31 g32 hn hl hI hE hR
    by_cases hs : s = []
    · subst hs
      rw [wk_of]
      refine wk_loop ?_
      conv => arg 2; whnf
      simp (maxSteps := 1000000) (disch := first | assumption | omega | rfl) only [↓vmp, vme, vmb, ty, hP, dec_t, dec_f, wrap64, List.length_map, Int.toNat_natCast, Nat.reduceAdd, List.cons_append, List.nil_append, Option.map_some, Option.map_none, strOf_mk, sb_eql, sb_neq, vmg, ↓vgd, ↓vst, ↓vix, hPP, dne]
      exact hE [] readS_nil _ _ _ _ _ _ _ _ _ _ _ _ _ _ _ _ _ _ _ _ _ _ _ _ _ _ _ _ _ _ (by rw [List.append_nil]; exact hI)
    have hst := readS_step hs
    rw [wk_of]
    refine wk_loop ?_
    conv => arg 2; whnf
    rcases ib_cases s with hi | ⟨i, hi, hlt, he⟩
    · rw [hi, if_pos (by decide)] at hst
      simp (maxSteps := 1000000) (disch := first | assumption | omega | rfl) only [↓vmp, vme, vmb, ty, hP, dec_t, dec_f, wrap64, List.length_map, Int.toNat_natCast, Nat.reduceAdd, List.cons_append, List.nil_append, Option.map_some, Option.map_none, strOf_mk, sb_eql, sb_neq, vmg, ↓vgd, ↓vst, ↓vix, hPP, cp_index, bo38, hi]
      exact hR hst _ _ _ _ _ _ _ _ _ _ _ _ _ _ _ _ _ _ _ _ _ _ _ _ _ _ _ _ _ _ _
    · rw [hi, if_neg (by omega), Int.toNat_natCast] at hst
      have hnn : ¬ (i : Int) < 0 := by omega
      have hti := fun S => sl_take (S := S) (s := s) (i := i) (by omega)
      have hdi := fun S => sl_drop (S := S) (s := s) (i := i + 1) (by omega)
      have hci : ((i + 1 : Nat) : Int) = (i : Int) + 1 := by omega
      rw [hci] at hdi
      have htl : (s.take i).length ≤ 80000 := by rw [List.length_take]; omega
      have hdl : (s.drop (i + 1)).length = s.length - (i + 1) := List.length_drop ..
      have hwr : IntKind.i64.wrap ((i : Int) + 1) = (i : Int) + 1 := wrap64 (by omega)
      cases hp : parseS (s.take i) with
      | none =>
        rw [hp] at hst
        simp (maxSteps := 1000000) (disch := first | assumption | omega | rfl) only [↓vmp, vme, vmb, ty, hP, dec_t, dec_f, wrap64, List.length_map, Int.toNat_natCast, Nat.reduceAdd, List.cons_append, List.nil_append, Option.map_some, Option.map_none, strOf_mk, sb_eql, sb_neq, vmg, ↓vgd, ↓vst, ↓vix, hPP, cp_index, bo38, hi, hti, cp_parseN htl hp, bo8, rowE_app, putRow_app]
        exact hR hst _ _ _ _ _ _ _ _ _ _ _ _ _ _ _ _ _ _ _ _ _ _ _ _ _ _ _ _ _ _ _
      | some x =>
        rw [hp] at hst
        simp only at hst
        have hI1 : SlE encStep (S ++ [.row [.d (encStep x)] 28]) v 28 acc := hI.keep Keep.app
        obtain ⟨v', S', c, e1, hc, e2, _, _⟩ := app_step x (by omega) hI1
        have e3 := e2.one
        simp (maxSteps := 1000000) (disch := first | assumption | omega | rfl) only [↓vmp, vme, vmb, ty, hP, dec_t, dec_f, wrap64, List.length_map, Int.toNat_natCast, Nat.reduceAdd, List.cons_append, List.nil_append, Option.map_some, Option.map_none, strOf_mk, sb_eql, sb_neq, vmg, ↓vgd, ↓vst, ↓vix, ↓vbs, hPP, cp_index, bo38, hi, hti, cp_parseS htl hp, bo8, rowE_app, putRow_app, bs43, e1, e3, hdi, hwr]
        refine ih (s.drop (i + 1)) (acc ++ [x]) _ _ _ _ _ _ _ _ _ _ _ _ _ _ _ _ _ _ _ _ _ _ _ _ _ _ _ _ _ _ (by omega) (by simp; omega) e2 ?_ ?_
        · intro l hl' S v g5 g6 g7 g8 g9 g10 g11 g12 g13 g14 g15 g16 g17 g18 g19 g20 g21 g22 g23 g24 g25 g26 g27 g28 g29 g30 g31 g32 hI'
          exact hE (x :: l) (by rw [hst, hl']; rfl) _ _ _ _ _ _ _ _ _ _ _ _ _ _ _ _ _ _ _ _ _ _ _ _ _ _ _ _ _ _ (by rw [List.append_assoc] at hI'; exact hI')
        · intro hn' S v s' g5 g6 g7 g8 g9 g10 g11 g12 g13 g14 g15 g16 g17 g18 g19 g20 g21 g22 g23 g24 g25 g26 g27 g28 g29 g30 g31 g32
          exact hR (by rw [hst, hn']; rfl) _ _ _ _ _ _ _ _ _ _ _ _ _ _ _ _ _ _ _ _ _ _ _ _ _ _ _ _ _ _ _
def readO (s : List UInt8) : Out := match readS s with
  | some l => .ret (.tup [.d (.sl (l.map encStep)), .d (.int .i64 0)])
  | Option.none => .ret (.tup [.d (.sl []), .d (.int .i64 14)])
theorem read_ok (s : List UInt8) (hs : s.length ≤ 80000) : Ev cfgP 19 [.str s] (readO s) := by
  refine ev_of rfl rfl body19 ?_
  show Wp cfgP (Tryd.f19.body.getD .skip) ((.d (.str s)) :: (.tup []) :: (.tup []) :: (.tup []) :: (.tup []) :: (.tup []) :: (.tup []) :: (.tup []) :: (.tup []) :: (.tup []) :: (.tup []) :: (.tup []) :: (.tup []) :: (.tup []) :: (.tup []) :: (.tup []) :: (.tup []) :: (.tup []) :: (.tup []) :: (.tup []) :: (.tup []) :: (.tup []) :: (.tup []) :: (.tup []) :: (.tup []) :: (.tup []) :: (.tup []) :: (.tup []) :: (.tup []) :: (.tup []) :: (.tup []) :: (.tup []) :: (.tup []) :: []) [] [] _
  conv => arg 2; whnf
  simp (maxSteps := 1000000) (disch := first | assumption | omega | rfl) only [↓vmp, vme, vmb, ty, hP, dec_t, dec_f, wrap64, List.length_map, Int.toNat_natCast, Nat.reduceAdd, List.cons_append, List.nil_append, Option.map_some, Option.map_none, strOf_mk, sb_eql, sb_neq, vmg, ↓vgd, ↓vst, ↓vix, hPP]
  refine read_l _ _ _ _ s.length s [] _ _ _ _ _ _ _ _ _ _ _ _ _ _ _ _ _ _ _ _ _ _ _ _ _ _ _ _ _ _ (Nat.le_refl _) (by simpa using hs) (.inl ⟨rfl, rfl⟩) ?_ ?_
  · intro l hl S v g5 g6 g7 g8 g9 g10 g11 g12 g13 g14 g15 g16 g17 g18 g19 g20 g21 g22 g23 g24 g25 g26 g27 g28 g29 g30 g31 g32 hI
    rw [List.nil_append] at hI
    unfold readO
    rw [hl]
    have h1 := hI.one
    simp (maxSteps := 1000000) (disch := first | assumption | omega | rfl) only [↓vmp, vme, vmb, ty, hP, dec_t, dec_f, wrap64, List.length_map, Int.toNat_natCast, Nat.reduceAdd, List.cons_append, List.nil_append, Option.map_some, Option.map_none, strOf_mk, sb_eql, sb_neq, vmg, ↓vgd, ↓vst, ↓vix, hPP, h1]
    exact retQ_two rfl rfl h1 rfl hI.frz rfl
  · intro hn S v s' g5 g6 g7 g8 g9 g10 g11 g12 g13 g14 g15 g16 g17 g18 g19 g20 g21 g22 g23 g24 g25 g26 g27 g28 g29 g30 g31 g32
    unfold readO
    rw [hn]
    simp (maxSteps := 1000000) (disch := first | assumption | omega | rfl) only [↓vmp, vme, vmb, ty, hP, dec_t, dec_f, wrap64, List.length_map, Int.toNat_natCast, Nat.reduceAdd, List.cons_append, List.nil_append, Option.map_some, Option.map_none, strOf_mk, sb_eql, sb_neq, vmg, ↓vgd, ↓vst, ↓vix, hPP]
    exact retQ_two rfl rfl rfl rfl rfl rfl
end Go.Proofs.YteapjcgeckpknaaDoor
end
/-! How long the texts of scripts are; the rules of calls for the statements on scripts. -/
section
set_option linter.unusedVariables false
set_option linter.unusedSimpArgs false
set_option maxRecDepth 100000
set_option maxHeartbeats 4000000
namespace Go.Proofs.YteapjcgeckpknaaDoor
open Go.Vm
theorem line_len2 {s : Step} (h : StepL s) : (lineT s).length ≤ 2700 := by
  have i0 := itoa_len _ h.b.n
  have i1 := itoa_len _ h.b.o.off
  have i2 := itoa_len _ h.b.o.n
  have i3 := wgtS_len s.w.toNat
  have i4 := hexS_len s.o.data
  have i6 := h.a
  have i7 := h.b'
  have i8 := nameO_len s.o.does
  unfold lineT
  cases hl : lineS s with
  | none => simp
  | some l =>
    show l.length ≤ 2700
    unfold lineS at hl
    split at hl
    · unfold callS at hl
      split at hl
      · rename_i hh
        have i5 := hh.1.2.2
        cases hl
        unfold wordsO pathsO restO
        by_cases h13 : s.o.does = 13
        · simp [h13, Lib.join_cons, Lib.joinTail]; rw [h13] at i8; omega
        by_cases h36 : s.o.does = 3 ∨ s.o.does = 6
        · have h7 : ¬ s.o.does = 7 := by omega
          have h8 : ¬ s.o.does = 8 := by omega
          have h9 : ¬ s.o.does = 9 := by omega
          simp [h13, h36, h7, h8, h9, Lib.join_cons, Lib.joinTail]; omega
        by_cases h7 : s.o.does = 7
        · rw [h7] at i8
          simp [h7, Lib.join_cons, Lib.joinTail]; omega
        by_cases h8 : s.o.does = 8
        · rw [h8] at i8
          simp [h8, Lib.join_cons, Lib.joinTail]; omega
        by_cases h9 : s.o.does = 9
        · rw [h9] at i8
          simp [h9, Lib.join_cons, Lib.joinTail]; omega
        · simp [h13, h36, h7, h8, h9, Lib.join_cons, Lib.joinTail]; omega
      · cases hl
    split at hl
    · cases hl; simp; omega
    split at hl
    · cases hl; simp; omega
    split at hl
    · cases hl; simp
    · cases hl
theorem text_len2 : ∀ {l : List Step}, (∀ s ∈ l, StepL s) → (textL l).length ≤ l.length * 2701
  | [], _ => by simp [textL]
  | s :: r, h => by
    have h1 := line_len2 (h s (by simp))
    have h2 := text_len2 (l := r) fun x hx => h x (by simp [hx])
    rw [textL_cons, List.length_append, List.length_cons, List.length_cons]
    omega
/-- Steps that are not too much. -/
theorem steps_of {l : List Step} {m : Int} (hI : ∀ s ∈ l, StepI s) (h : muchS l m = false) : (l.length : Int) ≤ m ∧ ∀ s ∈ l, StepL s := by
  unfold muchS at h
  rw [Bool.or_eq_false_iff] at h
  have h1 := of_decide_eq_false h.1
  refine ⟨by omega, fun s hs => stepL_of (hI s hs) ?_⟩
  have := List.any_eq_false.1 h.2 s hs
  simpa using this
section
variable {ops : Array Oper} {dst : Option Tmp} {k : List Oper} {T : List V} {S : Store} {F : Dfs} {Q : Post}
theorem cp_works : WpR cfgP ops dst k T S F Q (some (.enter 7 [])) = WpL cfgP ops k (putT T dst (.d (.bool true))) S F Q :=
  wr_call_d (ds := []) rfl (liftP rfl rfl works_ev)
theorem cp_much {l : List Step} {m : Int} (hm : m ≤ 1000) : WpR cfgP ops dst k T S F Q (some (.enter 13 [.d (.sl (l.map encStep)), .d (.int .i64 m)])) = WpL cfgP ops k (putT T dst (.d (.bool (muchS l m)))) S F Q :=
  wr_call_d (ds := [.sl (l.map encStep), .int .i64 m]) rfl (liftP rfl rfl (much46_ok l m hm))
theorem cp_to {l : List Step} (h : l.length ≤ 1000) (hB : ∀ s ∈ l, s.o.data.length ≤ 100000) : WpR cfgP ops dst k T S F Q (some (.enter 14 [.d (.sl (l.map encStep))])) = WpL cfgP ops k (putT T dst (.d (.sl (l.map encStep)))) S F Q :=
  wr_call_d (ds := [.sl (l.map encStep)]) rfl (liftP rfl rfl (to44_ok l h hB))
theorem cp_print {l : List Step} (h : l.length ≤ 100000) (hB : ∀ s ∈ l, StepB s) : WpR cfgP ops dst k T S F Q (some (.enter 18 [.d (.sl (l.map encStep))])) = WpL cfgP ops k (putT T dst (.tup [.d (.str ((printS l).getD [])), .d (.int .i64 (if (printS l).isSome then 0 else 1))])) S F Q :=
  wr_call_d (ds := [.sl (l.map encStep)]) rfl (print_ev h hB)
theorem cp_printS {l : List Step} {t : List UInt8} (h : l.length ≤ 100000) (hB : ∀ s ∈ l, StepB s) (hp : printS l = some t) : WpR cfgP ops dst k T S F Q (some (.enter 18 [.d (.sl (l.map encStep))])) = WpL cfgP ops k (putT T dst (.tup [.d (.str t), .d (.int .i64 0)])) S F Q := by
  rw [cp_print h hB, hp]; rfl
theorem cp_printN {l : List Step} (h : l.length ≤ 100000) (hB : ∀ s ∈ l, StepB s) (hp : printS l = Option.none) : WpR cfgP ops dst k T S F Q (some (.enter 18 [.d (.sl (l.map encStep))])) = WpL cfgP ops k (putT T dst (.tup [.d (.str []), .d (.int .i64 1)])) S F Q := by
  rw [cp_print h hB, hp]; rfl
theorem cp_readS {s : List UInt8} {l : List Step} (h : s.length ≤ 80000) (hr : readS s = some l) : WpR cfgP ops dst k T S F Q (some (.enter 19 [.d (.str s)])) = WpL cfgP ops k (putT T dst (.tup [.d (.sl (l.map encStep)), .d (.int .i64 0)])) S F Q :=
  wr_call_d (ds := [.str s]) rfl (by have := read_ok s h; unfold readO at this; rw [hr] at this; exact this)
theorem cp_readN {s : List UInt8} (h : s.length ≤ 80000) (hr : readS s = Option.none) : WpR cfgP ops dst k T S F Q (some (.enter 19 [.d (.str s)])) = WpL cfgP ops k (putT T dst (.tup [.d (.sl []), .d (.int .i64 14)])) S F Q :=
  wr_call_d (ds := [.str s]) rfl (by have := read_ok s h; unfold readO at this; rw [hr] at this; exact this)
theorem cp_rline {s : Step} (h : StepB s) : WpR cfgP ops dst k T S F Q (some (.enter 11 [.d (encStep s)])) = WpL cfgP ops k (putT T dst (.tup [.d (.str (lineT s)), .d (.bool (lineS s).isSome)])) S F Q :=
  wr_call_d (ds := [encStep s]) rfl (liftP rfl rfl (by
    have := rline_ok s h
    unfold rlineO at this
    unfold lineT
    cases hl : lineS s with
    | none => rw [hl] at this; exact this
    | some t => rw [hl] at this; exact this))
end
section
variable {ops : Array Oper} {F : Dfs} {Q : Post} {K : List Nat → List (Nat × Nat) → List V → Store → Prop} {rd : List Nat} {cs : List (Nat × Nat)} {i : Nat} {dst : Option Tmp} {T : List V} {S : Store}
theorem dp_of {s : Step} : WpE cfgP ops F Q K rd cs i dst T S (some (.enter 10 [.d (encStep s)])) = K (i :: rd) (cs ++ [(i, 1)]) (putT T dst (.d (encStep s))) S :=
  we_call_d (ds := [encStep s]) rfl (liftP rfl rfl (of_ok s))
theorem dp_rplain {s : Step} : WpE cfgP ops F Q K rd cs i dst T S (some (.enter 12 [.d (encStep s)])) = K (i :: rd) (cs ++ [(i, 1)]) (putT T dst (.d (encStep (plainS s)))) S :=
  we_call_d (ds := [encStep s]) rfl (liftP rfl rfl (rplains_ok s))
theorem dp_rsame {x y : Step} (hl : x.o.data.length ≤ 1000000) (hl' : y.o.data.length ≤ 1000000) : WpE cfgP ops F Q K rd cs i dst T S (some (.enter 9 [.d (encStep x), .d (encStep y)])) = K (i :: rd) (cs ++ [(i, 1)]) (putT T dst (.d (.bool (decide (x = y))))) S :=
  we_call_d (ds := [encStep x, encStep y]) rfl (liftP rfl rfl (rsame_ok x y hl hl'))
end
end Go.Proofs.YteapjcgeckpknaaDoor
end
/-! The statement's own code: escheatlaw46.ScriptLists comes to true. -/
section
set_option linter.unusedVariables false
set_option linter.unusedSimpArgs false
set_option maxRecDepth 100000
set_option maxHeartbeats 4000000
namespace Go.Proofs.YteapjcgeckpknaaDoor
open Go.Vm
def okL (s : Step) : Bool := (lineS s).isSome
theorem first_l (l : List Step) (hB : ∀ s ∈ l, StepL s) (hl : l.length ≤ 1000) (R : Post) (S : Store) (x1 x4 x5 x6 : V) : ∀ (k i : Nat) (g2 g3 g10 g11 g12 g13 g14 g15 g16 g17 g18 g19 g20 g21 g22 g23 g24 g25 g26 g27 g28 g29 g30 g31 g32 g33 g34 g35 g36 g37 g38 g39 g40 g41 g42 g43 g44 g45 g46 g47 g48 g49 g50 g51 g52 g53 g54 g55 g56 g57 g58 g59 g60 g61 g62 g63 g64 g65 g66 g67 g68 g69 g70 g71 g72 g73 g74 g75 g76 g77 g78 g79 g80 g81 g82 g83 g84 g85 g86 g87 g88 g89 g90 g91 g92 g93 g94 g95 g96 g97 g98 g99 g100 g101 g102 g103 g104 g105 g106 g107 g108 g109 g110 g111 g112 g113 g114 g115 g116 g117 g118 g119 g120 g121 g122 g123 g124 g125 g126 g127 g128 g129 g130 g131 g132 g133 g134 g135 g136 g137 g138 g139 g140 g141 g142 g143 g144 g145 g146 g147 g148 g149 g150 g151 g152 g153 : V), l.length - i = k → i ≤ l.length →
   (∀ i' g2 g3 g10 g11 g12 g13 g14 g15 g16 g17 g18 g19 g20 g21 g22 g23 g24 g25 g26 g27 g28 g29 g30 g31 g32 g33 g34 g35 g36 g37 g38 g39 g40 g41 g42 g43 g44 g45 g46 g47 g48 g49 g50 g51 g52 g53 g54 g55 g56 g57 g58 g59 g60 g61 g62 g63 g64 g65 g66 g67 g68 g69 g70 g71 g72 g73 g74 g75 g76 g77 g78 g79 g80 g81 g82 g83 g84 g85 g86 g87 g88 g89 g90 g91 g92 g93 g94 g95 g96 g97 g98 g99 g100 g101 g102 g103 g104 g105 g106 g107 g108 g109 g110 g111 g112 g113 g114 g115 g116 g117 g118 g119 g120 g121 g122 g123 g124 g125 g126 g127 g128 g129 g130 g131 g132 g133 g134 g135 g136 g137 g138 g139 g140 g141 g142 g143 g144 g145 g146 g147 g148 g149 g150 g151 g152 g153, R (.exit 0) ((.d (.sl (l.map encStep))) :: x1 :: g2 :: g3 :: x4 :: x5 :: x6 :: (.d (.str (textL l))) :: (.d (.bool (l.all okL))) :: i' :: g10 :: g11 :: g12 :: g13 :: g14 :: g15 :: g16 :: g17 :: g18 :: g19 :: g20 :: g21 :: g22 :: g23 :: g24 :: g25 :: g26 :: g27 :: g28 :: g29 :: g30 :: g31 :: g32 :: g33 :: g34 :: g35 :: g36 :: g37 :: g38 :: g39 :: g40 :: g41 :: g42 :: g43 :: g44 :: g45 :: g46 :: g47 :: g48 :: g49 :: g50 :: g51 :: g52 :: g53 :: g54 :: g55 :: g56 :: g57 :: g58 :: g59 :: g60 :: g61 :: g62 :: g63 :: g64 :: g65 :: g66 :: g67 :: g68 :: g69 :: g70 :: g71 :: g72 :: g73 :: g74 :: g75 :: g76 :: g77 :: g78 :: g79 :: g80 :: g81 :: g82 :: g83 :: g84 :: g85 :: g86 :: g87 :: g88 :: g89 :: g90 :: g91 :: g92 :: g93 :: g94 :: g95 :: g96 :: g97 :: g98 :: g99 :: g100 :: g101 :: g102 :: g103 :: g104 :: g105 :: g106 :: g107 :: g108 :: g109 :: g110 :: g111 :: g112 :: g113 :: g114 :: g115 :: g116 :: g117 :: g118 :: g119 :: g120 :: g121 :: g122 :: g123 :: g124 :: g125 :: g126 :: g127 :: g128 :: g129 :: g130 :: g131 :: g132 :: g133 :: g134 :: g135 :: g136 :: g137 :: g138 :: g139 :: g140 :: g141 :: g142 :: g143 :: g144 :: g145 :: g146 :: g147 :: g148 :: g149 :: g150 :: g151 :: g152 :: g153 :: []) S []) →
   Wp cfgP (.loop (lpOf (Tryd.f5.body.getD .skip) 0)) ((.d (.sl (l.map encStep))) :: x1 :: g2 :: g3 :: x4 :: x5 :: x6 :: (.d (.str (textL (l.take i)))) :: (.d (.bool ((l.take i).all okL))) :: (.d (.int .i64 (i : Int))) :: g10 :: g11 :: g12 :: g13 :: g14 :: g15 :: g16 :: g17 :: g18 :: g19 :: g20 :: g21 :: g22 :: g23 :: g24 :: g25 :: g26 :: g27 :: g28 :: g29 :: g30 :: g31 :: g32 :: g33 :: g34 :: g35 :: g36 :: g37 :: g38 :: g39 :: g40 :: g41 :: g42 :: g43 :: g44 :: g45 :: g46 :: g47 :: g48 :: g49 :: g50 :: g51 :: g52 :: g53 :: g54 :: g55 :: g56 :: g57 :: g58 :: g59 :: g60 :: g61 :: g62 :: g63 :: g64 :: g65 :: g66 :: g67 :: g68 :: g69 :: g70 :: g71 :: g72 :: g73 :: g74 :: g75 :: g76 :: g77 :: g78 :: g79 :: g80 :: g81 :: g82 :: g83 :: g84 :: g85 :: g86 :: g87 :: g88 :: g89 :: g90 :: g91 :: g92 :: g93 :: g94 :: g95 :: g96 :: g97 :: g98 :: g99 :: g100 :: g101 :: g102 :: g103 :: g104 :: g105 :: g106 :: g107 :: g108 :: g109 :: g110 :: g111 :: g112 :: g113 :: g114 :: g115 :: g116 :: g117 :: g118 :: g119 :: g120 :: g121 :: g122 :: g123 :: g124 :: g125 :: g126 :: g127 :: g128 :: g129 :: g130 :: g131 :: g132 :: g133 :: g134 :: g135 :: g136 :: g137 :: g138 :: g139 :: g140 :: g141 :: g142 :: g143 :: g144 :: g145 :: g146 :: g147 :: g148 :: g149 :: g150 :: g151 :: g152 :: g153 :: []) S [] R := by
  intro k
  induction k with
  | zero =>
    intro i g2 g3 g10 g11 g12 g13 g14 g15 g16 g17 g18 g19 g20 g21 g22 g23 g24 g25 g26 g27 g28 g29 g30 g31 g32 g33 g34 g35 g36 g37 g38 g39 g40 g41 g42 g43 g44 g45 g46 g47 g48 g49 g50 g51 g52 g53 g54 g55 g56 g57 g58 g59 g60 g61 g62 g63 g64 g65 g66 g67 g68 g69 g70 g71 g72 g73 g74 g75 g76 g77 g78 g79 g80 g81 g82 g83 g84 g85 g86 g87 g88 g89 g90 g91 g92 g93 g94 g95 g96 g97 g98 g99 g100 g101 g102 g103 g104 g105 g106 g107 g108 g109 g110 g111 g112 g113 g114 g115 g116 g117 g118 g119 g120 g121 g122 g123 g124 g125 g126 g127 g128 g129 g130 g131 g132 g133 g134 g135 g136 g137 g138 g139 g140 g141 g142 g143 g144 g145 g146 g147 g148 g149 g150 g151 g152 g153 hk hi hE
    have hie : i = l.length := by omega
    rw [hie, List.take_length]
    rw [wk_of]
    refine wk_loop ?_
    conv => arg 2; whnf
    simp (maxSteps := 1000000) (disch := first | assumption | omega | rfl) only [↓vmp, vme, vmb, ty, hP, dec_t, dec_f, wrap64, List.length_map, Int.toNat_natCast, Nat.reduceAdd, List.cons_append, List.nil_append, Option.map_some, Option.map_none, strOf_mk, sb_eql, sb_neq, vmg, ↓vgd, ↓vst, ↓vix, hPP]
    exact hE _ _ _ _ _ _ _ _ _ _ _ _ _ _ _ _ _ _ _ _ _ _ _ _ _ _ _ _ _ _ _ _ _ _ _ _ _ _ _ _ _ _ _ _ _ _ _ _ _ _ _ _ _ _ _ _ _ _ _ _ _ _ _ _ _ _ _ _ _ _ _ _ _ _ _ _ _ _ _ _ _ _ _ _ _ _ _ _ _ _ _ _ _ _ _ _ _ _ _ _ _ _ _ _ _ _ _ _ _ _ _ _ _ _ _ _ _ _ _ _ _ _ _ _ _ _ _ _ _ _ _ _ _ _ _ _ _ _ _ _ _ _ _ _ _ _ _
  | succ k ih =>
    intro i g2 g3 g10 g11 g12 g13 g14 g15 g16 g17 g18 g19 g20 g21 g22 g23 g24 g25 g26 g27 g28 g29 g30 g31 g32 g33 g34 g35 g36 g37 g38 g39 g40 g41 g42 g43 g44 g45 g46 g47 g48 g49 g50 g51 g52 g53 g54 g55 g56 g57 g58 g59 g60 g61 g62 g63 g64 g65 g66 g67 g68 g69 g70 g71 g72 g73 g74 g75 g76 g77 g78 g79 g80 g81 g82 g83 g84 g85 g86 g87 g88 g89 g90 g91 g92 g93 g94 g95 g96 g97 g98 g99 g100 g101 g102 g103 g104 g105 g106 g107 g108 g109 g110 g111 g112 g113 g114 g115 g116 g117 g118 g119 g120 g121 g122 g123 g124 g125 g126 g127 g128 g129 g130 g131 g132 g133 g134 g135 g136 g137 g138 g139 g140 g141 g142 g143 g144 g145 g146 g147 g148 g149 g150 g151 g152 g153 hk hi hE
    have hlt : i < l.length := by omega
    have hs := hB _ (List.getElem_mem hlt)
    have htk : l.take (i + 1) = l.take i ++ [l[i]] := take_snoc hlt
    have hln := line_len2 hs
    have htl : (textL (l.take i)).length ≤ 2701000 := by
      have h1 := text_len2 (l := l.take i) fun x hx => hB x (List.mem_of_mem_take hx)
      have h2 : (l.take i).length ≤ 1000 := by rw [List.length_take]; omega
      omega
    have a1 : strBin .add (textL (l.take i)) (lineT l[i]) = some (.str (textL (l.take i) ++ lineT l[i])) := sb_add (by omega)
    have a2 : strBin .add (textL (l.take i) ++ lineT l[i]) [10] = some (.str (textL (l.take i) ++ lineT l[i] ++ [10])) := sb_add (by simp; omega)
    have e1 : textL (l.take (i + 1)) = textL (l.take i) ++ lineT l[i] ++ [10] := by rw [htk, textL_snoc, List.append_assoc]
    have e2 : (l.take (i + 1)).all okL = ((l.take i).all okL && (lineS l[i]).isSome) := by rw [htk, List.all_append]; simp [okL]
    have ih := fun g2 g3 g10 g11 g12 g13 g14 g15 g16 g17 g18 g19 g20 g21 g22 g23 g24 g25 g26 g27 g28 g29 g30 g31 g32 g33 g34 g35 g36 g37 g38 g39 g40 g41 g42 g43 g44 g45 g46 g47 g48 g49 g50 g51 g52 g53 g54 g55 g56 g57 g58 g59 g60 g61 g62 g63 g64 g65 g66 g67 g68 g69 g70 g71 g72 g73 g74 g75 g76 g77 g78 g79 g80 g81 g82 g83 g84 g85 g86 g87 g88 g89 g90 g91 g92 g93 g94 g95 g96 g97 g98 g99 g100 g101 g102 g103 g104 g105 g106 g107 g108 g109 g110 g111 g112 g113 g114 g115 g116 g117 g118 g119 g120 g121 g122 g123 g124 g125 g126 g127 g128 g129 g130 g131 g132 g133 g134 g135 g136 g137 g138 g139 g140 g141 g142 g143 g144 g145 g146 g147 g148 g149 g150 g151 g152 g153 => ih (i + 1) g2 g3 g10 g11 g12 g13 g14 g15 g16 g17 g18 g19 g20 g21 g22 g23 g24 g25 g26 g27 g28 g29 g30 g31 g32 g33 g34 g35 g36 g37 g38 g39 g40 g41 g42 g43 g44 g45 g46 g47 g48 g49 g50 g51 g52 g53 g54 g55 g56 g57 g58 g59 g60 g61 g62 g63 g64 g65 g66 g67 g68 g69 g70 g71 g72 g73 g74 g75 g76 g77 g78 g79 g80 g81 g82 g83 g84 g85 g86 g87 g88 g89 g90 g91 g92 g93 g94 g95 g96 g97 g98 g99 g100 g101 g102 g103 g104 g105 g106 g107 g108 g109 g110 g111 g112 g113 g114 g115 g116 g117 g118 g119 g120 g121 g122 g123 g124 g125 g126 g127 g128 g129 g130 g131 g132 g133 g134 g135 g136 g137 g138 g139 g140 g141 g142 g143 g144 g145 g146 g147 g148 g149 g150 g151 g152 g153 (by omega) (by omega) hE
    rw [e1, e2] at ih
    rw [wk_of]
    refine wk_loop ?_
    conv => arg 2; whnf
    cases hb : (l.take i).all okL with
    | true =>
      rw [hb] at ih
      simp only [Bool.true_and] at ih
      simp (maxSteps := 1000000) (disch := first | assumption | omega | rfl) only [↓vmp, vme, vmb, ty, hP, dec_t, dec_f, wrap64, List.length_map, Int.toNat_natCast, Nat.reduceAdd, List.cons_append, List.nil_append, Option.map_some, Option.map_none, strOf_mk, sb_eql, sb_neq, vmg, ↓vgd, ↓vst, ↓vix, hPP, cp_rline hs.b, bo11, a1, a2]
      exact ih _ _ _ _ _ _ _ _ _ _ _ _ _ _ _ _ _ _ _ _ _ _ _ _ _ _ _ _ _ _ _ _ _ _ _ _ _ _ _ _ _ _ _ _ _ _ _ _ _ _ _ _ _ _ _ _ _ _ _ _ _ _ _ _ _ _ _ _ _ _ _ _ _ _ _ _ _ _ _ _ _ _ _ _ _ _ _ _ _ _ _ _ _ _ _ _ _ _ _ _ _ _ _ _ _ _ _ _ _ _ _ _ _ _ _ _ _ _ _ _ _ _ _ _ _ _ _ _ _ _ _ _ _ _ _ _ _ _ _ _ _ _ _ _ _ _
    | false =>
      rw [hb] at ih
      simp only [Bool.false_and] at ih
      simp (maxSteps := 1000000) (disch := first | assumption | omega | rfl) only [↓vmp, vme, vmb, ty, hP, dec_t, dec_f, wrap64, List.length_map, Int.toNat_natCast, Nat.reduceAdd, List.cons_append, List.nil_append, Option.map_some, Option.map_none, strOf_mk, sb_eql, sb_neq, vmg, ↓vgd, ↓vst, ↓vix, hPP, cp_rline hs.b, bo11, a1, a2]
      exact ih _ _ _ _ _ _ _ _ _ _ _ _ _ _ _ _ _ _ _ _ _ _ _ _ _ _ _ _ _ _ _ _ _ _ _ _ _ _ _ _ _ _ _ _ _ _ _ _ _ _ _ _ _ _ _ _ _ _ _ _ _ _ _ _ _ _ _ _ _ _ _ _ _ _ _ _ _ _ _ _ _ _ _ _ _ _ _ _ _ _ _ _ _ _ _ _ _ _ _ _ _ _ _ _ _ _ _ _ _ _ _ _ _ _ _ _ _ _ _ _ _ _ _ _ _ _ _ _ _ _ _ _ _ _ _ _ _ _ _ _ _ _ _ _ _ _
theorem second_l (l m : List Step) (hB : ∀ s ∈ l, StepL s) (hl : l.length ≤ 1000) (hm : m = l.map plainS) (R : Post) (S : Store) (x1 x4 : V) : ∀ (k i : Nat) (g2 g3 g5 g6 g7 g9 g10 g11 g13 g15 g16 g17 g18 g19 g20 g21 g22 g23 g24 g25 g26 g27 g28 g29 g30 g31 g32 g33 g34 g35 g36 g37 g38 g39 g40 g41 g42 g43 g44 g45 g46 g47 g48 g49 g50 g51 g52 g53 g54 g55 g56 g57 g58 g59 g60 g61 g62 g63 g64 g65 g66 g67 g68 g69 g70 g71 g72 g73 g74 g75 g76 g77 g78 g79 g80 g81 g82 g83 g84 g85 g86 g87 g88 g89 g90 g91 g92 g93 g94 g95 g96 g97 g98 g99 g100 g101 g102 g103 g104 g105 g106 g107 g108 g109 g110 g111 g112 g113 g114 g115 g116 g117 g118 g119 g120 g121 g122 g123 g124 g125 g126 g127 g128 g129 g130 g131 g132 g133 g134 g135 g136 g137 g138 g139 g140 g141 g142 g143 g144 g145 g146 g147 g148 g149 g150 g151 g152 g153 : V), l.length - i = k → i ≤ l.length →
   (∀ i' g2 g3 g5 g6 g7 g9 g10 g11 g13 g15 g16 g17 g18 g19 g20 g21 g22 g23 g24 g25 g26 g27 g28 g29 g30 g31 g32 g33 g34 g35 g36 g37 g38 g39 g40 g41 g42 g43 g44 g45 g46 g47 g48 g49 g50 g51 g52 g53 g54 g55 g56 g57 g58 g59 g60 g61 g62 g63 g64 g65 g66 g67 g68 g69 g70 g71 g72 g73 g74 g75 g76 g77 g78 g79 g80 g81 g82 g83 g84 g85 g86 g87 g88 g89 g90 g91 g92 g93 g94 g95 g96 g97 g98 g99 g100 g101 g102 g103 g104 g105 g106 g107 g108 g109 g110 g111 g112 g113 g114 g115 g116 g117 g118 g119 g120 g121 g122 g123 g124 g125 g126 g127 g128 g129 g130 g131 g132 g133 g134 g135 g136 g137 g138 g139 g140 g141 g142 g143 g144 g145 g146 g147 g148 g149 g150 g151 g152 g153, R (.exit 2) ((.d (.sl (l.map encStep))) :: x1 :: g2 :: g3 :: x4 :: g5 :: g6 :: g7 :: (.d (.bool true)) :: g9 :: g10 :: g11 :: (.d (.sl (m.map encStep))) :: g13 :: i' :: g15 :: g16 :: g17 :: g18 :: g19 :: g20 :: g21 :: g22 :: g23 :: g24 :: g25 :: g26 :: g27 :: g28 :: g29 :: g30 :: g31 :: g32 :: g33 :: g34 :: g35 :: g36 :: g37 :: g38 :: g39 :: g40 :: g41 :: g42 :: g43 :: g44 :: g45 :: g46 :: g47 :: g48 :: g49 :: g50 :: g51 :: g52 :: g53 :: g54 :: g55 :: g56 :: g57 :: g58 :: g59 :: g60 :: g61 :: g62 :: g63 :: g64 :: g65 :: g66 :: g67 :: g68 :: g69 :: g70 :: g71 :: g72 :: g73 :: g74 :: g75 :: g76 :: g77 :: g78 :: g79 :: g80 :: g81 :: g82 :: g83 :: g84 :: g85 :: g86 :: g87 :: g88 :: g89 :: g90 :: g91 :: g92 :: g93 :: g94 :: g95 :: g96 :: g97 :: g98 :: g99 :: g100 :: g101 :: g102 :: g103 :: g104 :: g105 :: g106 :: g107 :: g108 :: g109 :: g110 :: g111 :: g112 :: g113 :: g114 :: g115 :: g116 :: g117 :: g118 :: g119 :: g120 :: g121 :: g122 :: g123 :: g124 :: g125 :: g126 :: g127 :: g128 :: g129 :: g130 :: g131 :: g132 :: g133 :: g134 :: g135 :: g136 :: g137 :: g138 :: g139 :: g140 :: g141 :: g142 :: g143 :: g144 :: g145 :: g146 :: g147 :: g148 :: g149 :: g150 :: g151 :: g152 :: g153 :: []) S []) →
   Wp cfgP (.loop (lpOf (Tryd.f5.body.getD .skip) 2)) ((.d (.sl (l.map encStep))) :: x1 :: g2 :: g3 :: x4 :: g5 :: g6 :: g7 :: (.d (.bool true)) :: g9 :: g10 :: g11 :: (.d (.sl (m.map encStep))) :: g13 :: (.d (.int .i64 (i : Int))) :: g15 :: g16 :: g17 :: g18 :: g19 :: g20 :: g21 :: g22 :: g23 :: g24 :: g25 :: g26 :: g27 :: g28 :: g29 :: g30 :: g31 :: g32 :: g33 :: g34 :: g35 :: g36 :: g37 :: g38 :: g39 :: g40 :: g41 :: g42 :: g43 :: g44 :: g45 :: g46 :: g47 :: g48 :: g49 :: g50 :: g51 :: g52 :: g53 :: g54 :: g55 :: g56 :: g57 :: g58 :: g59 :: g60 :: g61 :: g62 :: g63 :: g64 :: g65 :: g66 :: g67 :: g68 :: g69 :: g70 :: g71 :: g72 :: g73 :: g74 :: g75 :: g76 :: g77 :: g78 :: g79 :: g80 :: g81 :: g82 :: g83 :: g84 :: g85 :: g86 :: g87 :: g88 :: g89 :: g90 :: g91 :: g92 :: g93 :: g94 :: g95 :: g96 :: g97 :: g98 :: g99 :: g100 :: g101 :: g102 :: g103 :: g104 :: g105 :: g106 :: g107 :: g108 :: g109 :: g110 :: g111 :: g112 :: g113 :: g114 :: g115 :: g116 :: g117 :: g118 :: g119 :: g120 :: g121 :: g122 :: g123 :: g124 :: g125 :: g126 :: g127 :: g128 :: g129 :: g130 :: g131 :: g132 :: g133 :: g134 :: g135 :: g136 :: g137 :: g138 :: g139 :: g140 :: g141 :: g142 :: g143 :: g144 :: g145 :: g146 :: g147 :: g148 :: g149 :: g150 :: g151 :: g152 :: g153 :: []) S [] R := by
  have hml : m.length = l.length := by rw [hm, List.length_map]
  intro k
  induction k with
  | zero =>
    intro i g2 g3 g5 g6 g7 g9 g10 g11 g13 g15 g16 g17 g18 g19 g20 g21 g22 g23 g24 g25 g26 g27 g28 g29 g30 g31 g32 g33 g34 g35 g36 g37 g38 g39 g40 g41 g42 g43 g44 g45 g46 g47 g48 g49 g50 g51 g52 g53 g54 g55 g56 g57 g58 g59 g60 g61 g62 g63 g64 g65 g66 g67 g68 g69 g70 g71 g72 g73 g74 g75 g76 g77 g78 g79 g80 g81 g82 g83 g84 g85 g86 g87 g88 g89 g90 g91 g92 g93 g94 g95 g96 g97 g98 g99 g100 g101 g102 g103 g104 g105 g106 g107 g108 g109 g110 g111 g112 g113 g114 g115 g116 g117 g118 g119 g120 g121 g122 g123 g124 g125 g126 g127 g128 g129 g130 g131 g132 g133 g134 g135 g136 g137 g138 g139 g140 g141 g142 g143 g144 g145 g146 g147 g148 g149 g150 g151 g152 g153 hk hi hE
    have hie : ¬ (i : Int) < (l.length : Int) := by omega
    rw [wk_of]
    refine wk_loop ?_
    conv => arg 2; whnf
    simp (maxSteps := 1000000) (disch := first | assumption | omega | rfl) only [↓vmp, vme, vmb, ty, hP, dec_t, dec_f, wrap64, List.length_map, Int.toNat_natCast, Nat.reduceAdd, List.cons_append, List.nil_append, Option.map_some, Option.map_none, strOf_mk, sb_eql, sb_neq, vmg, ↓vgd, ↓vst, ↓vix, hPP]
    exact hE _ _ _ _ _ _ _ _ _ _ _ _ _ _ _ _ _ _ _ _ _ _ _ _ _ _ _ _ _ _ _ _ _ _ _ _ _ _ _ _ _ _ _ _ _ _ _ _ _ _ _ _ _ _ _ _ _ _ _ _ _ _ _ _ _ _ _ _ _ _ _ _ _ _ _ _ _ _ _ _ _ _ _ _ _ _ _ _ _ _ _ _ _ _ _ _ _ _ _ _ _ _ _ _ _ _ _ _ _ _ _ _ _ _ _ _ _ _ _ _ _ _ _ _ _ _ _ _ _ _ _ _ _ _ _ _ _ _ _ _ _ _ _ _ _ _ _ _ _
  | succ k ih =>
    intro i g2 g3 g5 g6 g7 g9 g10 g11 g13 g15 g16 g17 g18 g19 g20 g21 g22 g23 g24 g25 g26 g27 g28 g29 g30 g31 g32 g33 g34 g35 g36 g37 g38 g39 g40 g41 g42 g43 g44 g45 g46 g47 g48 g49 g50 g51 g52 g53 g54 g55 g56 g57 g58 g59 g60 g61 g62 g63 g64 g65 g66 g67 g68 g69 g70 g71 g72 g73 g74 g75 g76 g77 g78 g79 g80 g81 g82 g83 g84 g85 g86 g87 g88 g89 g90 g91 g92 g93 g94 g95 g96 g97 g98 g99 g100 g101 g102 g103 g104 g105 g106 g107 g108 g109 g110 g111 g112 g113 g114 g115 g116 g117 g118 g119 g120 g121 g122 g123 g124 g125 g126 g127 g128 g129 g130 g131 g132 g133 g134 g135 g136 g137 g138 g139 g140 g141 g142 g143 g144 g145 g146 g147 g148 g149 g150 g151 g152 g153 hk hi hE
    have hlt : i < l.length := by omega
    have hlt' : i < m.length := by omega
    have c1 : (i : Int) < (l.length : Int) := by omega
    have c2 : (i : Int) < (m.length : Int) := by omega
    have hs := hB _ (List.getElem_mem hlt)
    have hmi : m[i] = plainS l[i] := by subst hm; rw [List.getElem_map]
    have hd : (plainS l[i]).o.data.length ≤ 1000000 := by have := plainS_data l[i]; have := hs.d; omega
    have hix : ∀ S : Store, indexAddrV Tryd.prog S 43 (.d (.sl (m.map encStep))) (.d (.int .i64 (i : Int))) = some (.d (.ptr (encStep (plainS l[i])))) := fun S => by rw [ix43 hlt', hmi]
    rw [wk_of]
    refine wk_loop ?_
    conv => arg 2; whnf
    simp (maxSteps := 1000000) (disch := first | assumption | omega | rfl) only [↓vmp, vme, vmb, ty, hP, dec_t, dec_f, wrap64, List.length_map, Int.toNat_natCast, Nat.reduceAdd, List.cons_append, List.nil_append, Option.map_some, Option.map_none, strOf_mk, sb_eql, sb_neq, vmg, ↓vgd, ↓vst, ↓vix, hPP]
    refine wk_draw (is := [0, 1, 2, 3, 5, 6, 7, 8, 4, 9, 10, 11]) (h := 0) (by kernel_rfl) (by kernel_rfl) ?_
    simp (maxSteps := 1000000) (disch := first | assumption | omega | rfl) only [List.replicate_zero, eq_self, vmd, vmk, vmo, vmg, vme, vmb, ty, hP, dec_t, dec_f, wrap64, List.length_map, Int.toNat_natCast, Nat.reduceAdd, ↓vgd, ↓vst, ↓vix, hPP, List.append_nil, hix, dp_of, dp_rplain, dp_rsame hd hd, bo9, bo10, bo12, deq, dne, dec_True, sb_eql, sb_neq]
    refine ⟨by kernel_rfl, ?_⟩
    simp (maxSteps := 1000000) (disch := first | assumption | omega | rfl) only [↓vmp, vme, vmb, ty, hP, dec_t, dec_f, wrap64, List.length_map, Int.toNat_natCast, Nat.reduceAdd, List.cons_append, List.nil_append, Option.map_some, Option.map_none, strOf_mk, sb_eql, sb_neq, vmg, ↓vgd, ↓vst, ↓vix, hPP]
    exact ih (i + 1) _ _ _ _ _ _ _ _ _ _ _ _ _ _ _ _ _ _ _ _ _ _ _ _ _ _ _ _ _ _ _ _ _ _ _ _ _ _ _ _ _ _ _ _ _ _ _ _ _ _ _ _ _ _ _ _ _ _ _ _ _ _ _ _ _ _ _ _ _ _ _ _ _ _ _ _ _ _ _ _ _ _ _ _ _ _ _ _ _ _ _ _ _ _ _ _ _ _ _ _ _ _ _ _ _ _ _ _ _ _ _ _ _ _ _ _ _ _ _ _ _ _ _ _ _ _ _ _ _ _ _ _ _ _ _ _ _ _ _ _ _ _ _ _ _ _ _ _ (by omega) (by omega) hE
theorem back {s : List UInt8} {n : List Step} (hs : s.length ≤ 3000) (h : readS s = some n) : n.length ≤ 100000 ∧ (∀ x ∈ n, StepB x) ∧ printS n = some s := by
  obtain ⟨h1, h2, h3⟩ := read_back s.length s (Nat.le_refl _) (by omega) n h
  refine ⟨by omega, fun x hx => (h1 x hx).1, ?_⟩
  unfold printS
  rw [if_pos (List.all_eq_true.2 fun x hx => (h1 x hx).2), h2]
theorem lists_ok (l : List Step) (s : List UInt8) (hI : ∀ x ∈ l, StepI x) : Ev cfgP 5 [.sl (l.map encStep), .str s] (.ret (.d (.bool true))) := by
  have h20 : (20 : Int) ≤ 1000 := by decide
  refine ev_of rfl rfl body5 ?_
  show Wp cfgP (Tryd.f5.body.getD .skip) ((.d (.sl (l.map encStep))) :: (.d (.str s)) :: (.tup []) :: (.tup []) :: (.tup []) :: (.tup []) :: (.tup []) :: (.tup []) :: (.tup []) :: (.tup []) :: (.tup []) :: (.tup []) :: (.tup []) :: (.tup []) :: (.tup []) :: (.tup []) :: (.tup []) :: (.tup []) :: (.tup []) :: (.tup []) :: (.tup []) :: (.tup []) :: (.tup []) :: (.tup []) :: (.tup []) :: (.tup []) :: (.tup []) :: (.tup []) :: (.tup []) :: (.tup []) :: (.tup []) :: (.tup []) :: (.tup []) :: (.tup []) :: (.tup []) :: (.tup []) :: (.tup []) :: (.tup []) :: (.tup []) :: (.tup []) :: (.tup []) :: (.tup []) :: (.tup []) :: (.tup []) :: (.tup []) :: (.tup []) :: (.tup []) :: (.tup []) :: (.tup []) :: (.tup []) :: (.tup []) :: (.tup []) :: (.tup []) :: (.tup []) :: (.tup []) :: (.tup []) :: (.tup []) :: (.tup []) :: (.tup []) :: (.tup []) :: (.tup []) :: (.tup []) :: (.tup []) :: (.tup []) :: (.tup []) :: (.tup []) :: (.tup []) :: (.tup []) :: (.tup []) :: (.tup []) :: (.tup []) :: (.tup []) :: (.tup []) :: (.tup []) :: (.tup []) :: (.tup []) :: (.tup []) :: (.tup []) :: (.tup []) :: (.tup []) :: (.tup []) :: (.tup []) :: (.tup []) :: (.tup []) :: (.tup []) :: (.tup []) :: (.tup []) :: (.tup []) :: (.tup []) :: (.tup []) :: (.tup []) :: (.tup []) :: (.tup []) :: (.tup []) :: (.tup []) :: (.tup []) :: (.tup []) :: (.tup []) :: (.tup []) :: (.tup []) :: (.tup []) :: (.tup []) :: (.tup []) :: (.tup []) :: (.tup []) :: (.tup []) :: (.tup []) :: (.tup []) :: (.tup []) :: (.tup []) :: (.tup []) :: (.tup []) :: (.tup []) :: (.tup []) :: (.tup []) :: (.tup []) :: (.tup []) :: (.tup []) :: (.tup []) :: (.tup []) :: (.tup []) :: (.tup []) :: (.tup []) :: (.tup []) :: (.tup []) :: (.tup []) :: (.tup []) :: (.tup []) :: (.tup []) :: (.tup []) :: (.tup []) :: (.tup []) :: (.tup []) :: (.tup []) :: (.tup []) :: (.tup []) :: (.tup []) :: (.tup []) :: (.tup []) :: (.tup []) :: (.tup []) :: (.tup []) :: (.tup []) :: (.tup []) :: (.tup []) :: (.tup []) :: (.tup []) :: (.tup []) :: (.tup []) :: (.tup []) :: (.tup []) :: (.tup []) :: (.tup []) :: (.tup []) :: []) [] [] _
  conv => arg 2; whnf
  cases hm : muchS l 20 with
  | true =>
    simp (maxSteps := 1000000) (disch := first | assumption | omega | rfl) only [↓vmp, vme, vmb, ty, hP, dec_t, dec_f, wrap64, List.length_map, Int.toNat_natCast, Nat.reduceAdd, List.cons_append, List.nil_append, Option.map_some, Option.map_none, strOf_mk, sb_eql, sb_neq, vmg, ↓vgd, ↓vst, ↓vix, hPP, cp_much h20, hm, cp_works, bo13, bo7]
    exact retQ_one rfl rfl rfl
  | false =>
  by_cases hs : (s.length : Int) > 3000
  · simp (maxSteps := 1000000) (disch := first | assumption | omega | rfl) only [↓vmp, vme, vmb, ty, hP, dec_t, dec_f, wrap64, List.length_map, Int.toNat_natCast, Nat.reduceAdd, List.cons_append, List.nil_append, Option.map_some, Option.map_none, strOf_mk, sb_eql, sb_neq, vmg, ↓vgd, ↓vst, ↓vix, hPP, cp_much h20, hm, cp_works, bo13, bo7]
    exact retQ_one rfl rfl rfl
  obtain ⟨hlen, hL⟩ := steps_of hI hm
  have hl1 : l.length ≤ 1000 := by omega
  have hl2 : l.length ≤ 100000 := by omega
  have hB : ∀ x ∈ l, StepB x := fun x hx => (hL x hx).b
  have hD : ∀ x ∈ l, x.o.data.length ≤ 100000 := fun x hx => by have := (hL x hx).d; omega
  have htl := text_len2 hL
  have hs1 : s.length ≤ 80000 := by omega
  cases hall : l.all okL with
  | true =>
    have hp : printS l = some (textL l) := by unfold printS; rw [if_pos (show (l.all fun s => (lineS s).isSome) = true from hall)]
    have hr : readS (textL l) = some (l.map plainS) := by
      have := read_text l [] hB (List.all_eq_true.1 hall)
      rw [List.append_nil, readS_nil] at this
      rw [this]
      simp
    simp (maxSteps := 1000000) (disch := first | assumption | omega | rfl) only [↓vmp, vme, vmb, ty, hP, dec_t, dec_f, wrap64, List.length_map, Int.toNat_natCast, Nat.reduceAdd, List.cons_append, List.nil_append, Option.map_some, Option.map_none, strOf_mk, sb_eql, sb_neq, vmg, ↓vgd, ↓vst, ↓vix, hPP, cp_much h20, hm, cp_to hl1 hD, cp_printS hl2 hB hp, bo13, bo14, bo18]
    refine first_l l hL hl1 _ _ _ _ _ _ l.length 0 _ _ _ _ _ _ _ _ _ _ _ _ _ _ _ _ _ _ _ _ _ _ _ _ _ _ _ _ _ _ _ _ _ _ _ _ _ _ _ _ _ _ _ _ _ _ _ _ _ _ _ _ _ _ _ _ _ _ _ _ _ _ _ _ _ _ _ _ _ _ _ _ _ _ _ _ _ _ _ _ _ _ _ _ _ _ _ _ _ _ _ _ _ _ _ _ _ _ _ _ _ _ _ _ _ _ _ _ _ _ _ _ _ _ _ _ _ _ _ _ _ _ _ _ _ _ _ _ _ _ _ _ _ _ _ _ _ _ _ _ _ _ _ _ _ _ rfl (Nat.zero_le _) ?_
    intro i' g2 g3 g10 g11 g12 g13 g14 g15 g16 g17 g18 g19 g20 g21 g22 g23 g24 g25 g26 g27 g28 g29 g30 g31 g32 g33 g34 g35 g36 g37 g38 g39 g40 g41 g42 g43 g44 g45 g46 g47 g48 g49 g50 g51 g52 g53 g54 g55 g56 g57 g58 g59 g60 g61 g62 g63 g64 g65 g66 g67 g68 g69 g70 g71 g72 g73 g74 g75 g76 g77 g78 g79 g80 g81 g82 g83 g84 g85 g86 g87 g88 g89 g90 g91 g92 g93 g94 g95 g96 g97 g98 g99 g100 g101 g102 g103 g104 g105 g106 g107 g108 g109 g110 g111 g112 g113 g114 g115 g116 g117 g118 g119 g120 g121 g122 g123 g124 g125 g126 g127 g128 g129 g130 g131 g132 g133 g134 g135 g136 g137 g138 g139 g140 g141 g142 g143 g144 g145 g146 g147 g148 g149 g150 g151 g152 g153
    rw [hall]
    obtain ⟨m, hm'⟩ : ∃ m, m = l.map plainS := ⟨_, rfl⟩
    rw [← hm'] at hr
    have hml : m.length = l.length := by rw [hm', List.length_map]
    simp (maxSteps := 1000000) (disch := first | assumption | omega | rfl) only [↓vmp, vme, vmb, ty, hP, dec_t, dec_f, wrap64, List.length_map, Int.toNat_natCast, Nat.reduceAdd, List.cons_append, List.nil_append, Option.map_some, Option.map_none, strOf_mk, sb_eql, sb_neq, vmg, ↓vgd, ↓vst, ↓vix, hPP, cp_readS (show (textL l).length ≤ 80000 by omega) hr, bo19, dne, hml]
    refine second_l l m hL hl1 hm' _ _ _ _ l.length 0 _ _ _ _ _ _ _ _ _ _ _ _ _ _ _ _ _ _ _ _ _ _ _ _ _ _ _ _ _ _ _ _ _ _ _ _ _ _ _ _ _ _ _ _ _ _ _ _ _ _ _ _ _ _ _ _ _ _ _ _ _ _ _ _ _ _ _ _ _ _ _ _ _ _ _ _ _ _ _ _ _ _ _ _ _ _ _ _ _ _ _ _ _ _ _ _ _ _ _ _ _ _ _ _ _ _ _ _ _ _ _ _ _ _ _ _ _ _ _ _ _ _ _ _ _ _ _ _ _ _ _ _ _ _ _ _ _ _ _ _ _ _ _ _ _ _ _ _ rfl (Nat.zero_le _) ?_
    intro i' g2 g3 g5 g6 g7 g9 g10 g11 g13 g15 g16 g17 g18 g19 g20 g21 g22 g23 g24 g25 g26 g27 g28 g29 g30 g31 g32 g33 g34 g35 g36 g37 g38 g39 g40 g41 g42 g43 g44 g45 g46 g47 g48 g49 g50 g51 g52 g53 g54 g55 g56 g57 g58 g59 g60 g61 g62 g63 g64 g65 g66 g67 g68 g69 g70 g71 g72 g73 g74 g75 g76 g77 g78 g79 g80 g81 g82 g83 g84 g85 g86 g87 g88 g89 g90 g91 g92 g93 g94 g95 g96 g97 g98 g99 g100 g101 g102 g103 g104 g105 g106 g107 g108 g109 g110 g111 g112 g113 g114 g115 g116 g117 g118 g119 g120 g121 g122 g123 g124 g125 g126 g127 g128 g129 g130 g131 g132 g133 g134 g135 g136 g137 g138 g139 g140 g141 g142 g143 g144 g145 g146 g147 g148 g149 g150 g151 g152 g153
    cases hn : readS s with
    | none =>
      have hpn : printS [] = some [] := rfl
      have hcp := fun {ops dst k T S F Q} => cp_printS (ops := ops) (dst := dst) (k := k) (T := T) (S := S) (F := F) (Q := Q) (l := []) (by simp) (by simp) hpn
      simp only [List.map_nil] at hcp
      simp (maxSteps := 1000000) (disch := first | assumption | omega | rfl) only [↓vmp, vme, vmb, ty, hP, dec_t, dec_f, wrap64, List.length_map, Int.toNat_natCast, Nat.reduceAdd, List.cons_append, List.nil_append, Option.map_some, Option.map_none, strOf_mk, sb_eql, sb_neq, vmg, ↓vgd, ↓vst, ↓vix, hPP, cp_readN hs1 hn, hcp, cp_works, bo7, bo18, bo19, deq, dne, dec_True]
      exact retQ_one rfl rfl rfl
    | some n =>
      obtain ⟨b1, b2, b3⟩ := back (by omega) hn
      simp (maxSteps := 1000000) (disch := first | assumption | omega | rfl) only [↓vmp, vme, vmb, ty, hP, dec_t, dec_f, wrap64, List.length_map, Int.toNat_natCast, Nat.reduceAdd, List.cons_append, List.nil_append, Option.map_some, Option.map_none, strOf_mk, sb_eql, sb_neq, vmg, ↓vgd, ↓vst, ↓vix, hPP, cp_readS hs1 hn, cp_printS b1 b2 b3, cp_works, bo7, bo18, bo19, deq, dne, dec_True]
      exact retQ_one rfl rfl rfl
  | false =>
    have hp : printS l = Option.none := by unfold printS; rw [if_neg (by rw [show (l.all fun s => (lineS s).isSome) = false from hall]; simp)]
    have hr : readS [] = some [] := rfl
    simp (maxSteps := 1000000) (disch := first | assumption | omega | rfl) only [↓vmp, vme, vmb, ty, hP, dec_t, dec_f, wrap64, List.length_map, Int.toNat_natCast, Nat.reduceAdd, List.cons_append, List.nil_append, Option.map_some, Option.map_none, strOf_mk, sb_eql, sb_neq, vmg, ↓vgd, ↓vst, ↓vix, hPP, cp_much h20, hm, cp_to hl1 hD, cp_printN hl2 hB hp, bo13, bo14, bo18]
    refine first_l l hL hl1 _ _ _ _ _ _ l.length 0 _ _ _ _ _ _ _ _ _ _ _ _ _ _ _ _ _ _ _ _ _ _ _ _ _ _ _ _ _ _ _ _ _ _ _ _ _ _ _ _ _ _ _ _ _ _ _ _ _ _ _ _ _ _ _ _ _ _ _ _ _ _ _ _ _ _ _ _ _ _ _ _ _ _ _ _ _ _ _ _ _ _ _ _ _ _ _ _ _ _ _ _ _ _ _ _ _ _ _ _ _ _ _ _ _ _ _ _ _ _ _ _ _ _ _ _ _ _ _ _ _ _ _ _ _ _ _ _ _ _ _ _ _ _ _ _ _ _ _ _ _ _ _ _ _ _ rfl (Nat.zero_le _) ?_
    intro i' g2 g3 g10 g11 g12 g13 g14 g15 g16 g17 g18 g19 g20 g21 g22 g23 g24 g25 g26 g27 g28 g29 g30 g31 g32 g33 g34 g35 g36 g37 g38 g39 g40 g41 g42 g43 g44 g45 g46 g47 g48 g49 g50 g51 g52 g53 g54 g55 g56 g57 g58 g59 g60 g61 g62 g63 g64 g65 g66 g67 g68 g69 g70 g71 g72 g73 g74 g75 g76 g77 g78 g79 g80 g81 g82 g83 g84 g85 g86 g87 g88 g89 g90 g91 g92 g93 g94 g95 g96 g97 g98 g99 g100 g101 g102 g103 g104 g105 g106 g107 g108 g109 g110 g111 g112 g113 g114 g115 g116 g117 g118 g119 g120 g121 g122 g123 g124 g125 g126 g127 g128 g129 g130 g131 g132 g133 g134 g135 g136 g137 g138 g139 g140 g141 g142 g143 g144 g145 g146 g147 g148 g149 g150 g151 g152 g153
    rw [hall]
    have hcr := fun {ops dst k T S F Q} => cp_readS (ops := ops) (dst := dst) (k := k) (T := T) (S := S) (F := F) (Q := Q) (s := []) (by simp) hr
    simp only [List.map_nil] at hcr
    simp (maxSteps := 1000000) (disch := first | assumption | omega | rfl) only [↓vmp, vme, vmb, ty, hP, dec_t, dec_f, wrap64, List.length_map, Int.toNat_natCast, Nat.reduceAdd, List.cons_append, List.nil_append, Option.map_some, Option.map_none, strOf_mk, sb_eql, sb_neq, vmg, ↓vgd, ↓vst, ↓vix, hPP, hcr, bo19, dne]
    rw [wk_of]
    refine wk_loop ?_
    conv => arg 2; whnf
    simp (maxSteps := 1000000) (disch := first | assumption | omega | rfl) only [↓vmp, vme, vmb, ty, hP, dec_t, dec_f, wrap64, List.length_map, Int.toNat_natCast, Nat.reduceAdd, List.cons_append, List.nil_append, Option.map_some, Option.map_none, strOf_mk, sb_eql, sb_neq, vmg, ↓vgd, ↓vst, ↓vix, hPP]
    cases hn : readS s with
    | none =>
      have hpn : printS [] = some [] := rfl
      have hcp := fun {ops dst k T S F Q} => cp_printS (ops := ops) (dst := dst) (k := k) (T := T) (S := S) (F := F) (Q := Q) (l := []) (by simp) (by simp) hpn
      simp only [List.map_nil] at hcp
      simp (maxSteps := 1000000) (disch := first | assumption | omega | rfl) only [↓vmp, vme, vmb, ty, hP, dec_t, dec_f, wrap64, List.length_map, Int.toNat_natCast, Nat.reduceAdd, List.cons_append, List.nil_append, Option.map_some, Option.map_none, strOf_mk, sb_eql, sb_neq, vmg, ↓vgd, ↓vst, ↓vix, hPP, cp_readN hs1 hn, hcp, cp_works, bo7, bo18, bo19, deq, dne, dec_True]
      exact retQ_one rfl rfl rfl
    | some n =>
      obtain ⟨b1, b2, b3⟩ := back (by omega) hn
      simp (maxSteps := 1000000) (disch := first | assumption | omega | rfl) only [↓vmp, vme, vmb, ty, hP, dec_t, dec_f, wrap64, List.length_map, Int.toNat_natCast, Nat.reduceAdd, List.cons_append, List.nil_append, Option.map_some, Option.map_none, strOf_mk, sb_eql, sb_neq, vmg, ↓vgd, ↓vst, ↓vix, hPP, cp_readS hs1 hn, cp_printS b1 b2 b3, cp_works, bo7, bo18, bo19, deq, dne, dec_True]
      exact retQ_one rfl rfl rfl
end Go.Proofs.YteapjcgeckpknaaDoor
end
/-! The statement's own code: escheatlaw46.ScriptJoins comes to true. -/
section
set_option linter.unusedVariables false
set_option linter.unusedSimpArgs false
set_option maxRecDepth 100000
set_option maxHeartbeats 4000000
namespace Go.Proofs.YteapjcgeckpknaaDoor
open Go.Vm
theorem text_last {l : List Step} (h : textL l ≠ []) : (textL l).getLast? = some 10 := by
  rcases List.eq_nil_or_concat l with rfl | ⟨m, s, rfl⟩
  · exact absurd rfl h
  · rw [List.concat_eq_append, textL_snoc, ← List.append_assoc]; simp
/-- A text that is cut is read just if it ends a line. -/
theorem read_cut {l : List Step} {n : Nat} (hB : ∀ s ∈ l, StepB s) (hL : ∀ s ∈ l, (lineS s).isSome = true) (h0 : 0 < n) (hn : n ≤ (textL l).length) (hlt : n - 1 < (textL l).length) : (readS ((textL l).take n)).isSome = decide ((textL l)[n - 1] = 10) := by
  obtain ⟨j, r, hj, he, hr⟩ := text_cut l n hL
  have hlast : ((textL l).take n).getLast? = some (textL l)[n - 1] := by
    rw [List.getLast?_eq_getElem?, List.length_take, Nat.min_eq_left hn, List.getElem?_take, if_pos (by omega), List.getElem?_eq_getElem hlt]
  rw [he, read_text (l.take j) r (fun x hx => hB x (List.mem_of_mem_take hx)) (fun x hx => hL x (List.mem_of_mem_take hx)), Option.isSome_map]
  rw [he] at hlast
  by_cases h1 : r = []
  · subst h1
    rw [List.append_nil] at he hlast
    have hne : textL (l.take j) ≠ [] := by
      intro hz
      rw [hz] at he
      have := congrArg List.length he
      rw [List.length_take, Nat.min_eq_left hn] at this
      simp at this
      omega
    rw [text_last hne] at hlast
    rw [readS_nil, ← Option.some.inj hlast]
    rfl
  · rw [readS_cut hr h1]
    have hm : (textL l)[n - 1] ∈ r := by
      have : (textL (l.take j) ++ r).getLast? = r.getLast? := by
        rw [List.getLast?_append]
        cases hh : r.getLast? with
        | none => exact absurd (List.getLast?_eq_none_iff.1 hh) h1
        | some y => rfl
      rw [this] at hlast
      exact List.mem_of_getLast? hlast
    have hne : (textL l)[n - 1] ≠ 10 := fun e => hr (by rw [← e]; exact hm)
    rw [decide_eq_false hne]
    rfl
theorem printS_some {l : List Step} {t : List UInt8} (h : printS l = some t) : (∀ s ∈ l, (lineS s).isSome = true) ∧ t = textL l := by
  unfold printS at h
  split at h
  · rename_i hh
    cases h
    exact ⟨List.all_eq_true.1 hh, rfl⟩
  · cases h
def maskQ : Nat := 536879232
/-- The machine for ScriptJoins: what escheatlaw44.To makes is the caller's own, to be grown. -/
noncomputable def cfgQ : Cfg := { P := Tryd.prog, mixed := by kernel_rfl, shared := fun f => Nat.beq f 14, ext := fun f => match Nat.beq f 18 with | true => some printX | false => match Nat.beq f 19 with | true => some (evx cfgP 19) | false => match Nat.testBit maskQ f with | true => some (evx cfg f) | false => Option.none, catch_ := fun f => Option.none }
theorem hPQ : cfgQ.P = Tryd.prog := rfl
theorem liftQ {f : FuncId} {ds : List D} {o : Out} (h9 : Nat.beq f 18 = false) (h8 : Nat.beq f 19 = false) (hm : Nat.testBit maskQ f = true) (h : Ev cfg f ds o) : Ev cfgQ f ds o := by
  refine ⟨0, ?_⟩
  have hx : cfgQ.ext f = some (evx cfg f) := by
    show (match Nat.beq f 18 with | true => some printX | false => match Nat.beq f 19 with | true => some (evx cfgP 19) | false => match Nat.testBit maskQ f with | true => some (evx cfg f) | false => Option.none) = _
    rw [h9, h8, hm]
  unfold runD answer
  simp only [hx]
  exact evx_of h
theorem readQ_ev {s : List UInt8} (h : s.length ≤ 80000) : Ev cfgQ 19 [.str s] (readO s) := by
  refine ⟨0, ?_⟩
  have hx : cfgQ.ext 19 = some (evx cfgP 19) := rfl
  unfold runD answer
  simp only [hx]
  exact evx_of (read_ok s h)
theorem printQ_ev {l : List Step} (h1 : l.length ≤ 100000) (h2 : ∀ s ∈ l, StepB s) : Ev cfgQ 18 [.sl (l.map encStep)] (printO l) := by
  refine ⟨0, ?_⟩
  have hx : cfgQ.ext 18 = some printX := rfl
  unfold runD answer
  simp only [hx]
  exact printX_of h1 h2
theorem extQ : ExtOk cfgQ := by
  intro f g h
  have h : (match Nat.beq f 18 with | true => some printX | false => match Nat.beq f 19 with | true => some (evx cfgP 19) | false => match Nat.testBit maskQ f with | true => some (evx cfg f) | false => Option.none) = some g := h
  split at h
  · rename_i hf
    cases h
    cases Nat.eq_of_beq_eq_true hf
    exact printX_ok
  · split at h
    · rename_i hf
      cases h
      cases Nat.eq_of_beq_eq_true hf
      intro ds o ho
      obtain ⟨n, hn⟩ := ev_evx ho
      exact runD_ok extP catchP n _ ds o hn
    · split at h
      · cases h
        intro ds o ho
        obtain ⟨n, hn⟩ := ev_evx ho
        exact runD_ok extC catchC n f ds o hn
      · cases h
theorem catchQ : CatchOk cfgQ := fun f post h => by cases h
section
variable {ops : Array Oper} {F : Dfs} {Q : Post} {K : List Nat → List (Nat × Nat) → List V → Store → Prop} {rd : List Nat} {cs : List (Nat × Nat)} {i : Nat} {dst : Option Tmp} {T : List V} {S : Store}
theorem dq_to27 {o : Opn} (h : o.data.length ≤ 100000) : WpE cfgQ ops F Q K rd cs i dst T S (some (.enter 29 [.d (encOpn o)])) = K (i :: rd) (cs ++ [(i, 1)]) (putT T dst (.d (encOpn o))) S :=
  we_call_d (ds := [encOpn o]) rfl (liftQ rfl rfl rfl (To27_ok o h))
theorem dq_to27A {o : Opn} (h : o.data.length ≤ 100000) : WpE cfgQ ops F Q K rd cs i dst T S (some (.enter 29 [.agg [.d (.int .i64 o.does), .d (.str o.a), .d (.str o.b), .d (.int .i64 o.off), .d (.int .i64 o.n), .d (encB o.data)]])) = K (i :: rd) (cs ++ [(i, 1)]) (putT T dst (.d (encOpn o))) S :=
  we_call_v (ds := [encOpn o]) rfl rfl rfl (liftQ rfl rfl rfl (To27_ok o h))
end
/-- What stands in the store while steps are gathered behind the caller's objects. -/
def TInv (S0 S : Store) (v : V) (l : List Step) : Prop := SlE encStep S v 28 l ∧ Keep S0 S ∧ ∀ j, idOf v = some j → S0.length ≤ j
theorem TInv.app {S0 S : Store} {v : V} {l : List Step} (x : Step) (hl : l.length ≤ 100000) (h : TInv S0 S v l) : ∃ v' S' c, appendV Tryd.prog S 43 43 v (.ts [encStep x]) = some (v', S', c) ∧ (c = 1 ∨ c = 2 ∨ c = 3) ∧ TInv S0 S' v' (l ++ [x]) := by
  obtain ⟨h1, h2, h3⟩ := h
  obtain ⟨v', S', c, e1, e2, e3, e4, e5⟩ := app_step x hl h1
  refine ⟨v', S', c, e1, e2, e3, fun j o hj => e4 j o (h2 j o hj) (fun hh => ?_), fun j hj => ?_⟩
  · have := h3 j hh
    have := getLen hj
    omega
  · rcases e5 j hj with h | h
    · exact h3 j h
    · exact Nat.le_trans h2.len h
theorem toS_l (S0 : Store) (l : List Step) (hl : l.length ≤ 1000) (hB : ∀ s ∈ l, s.o.data.length ≤ 100000) (R : Post) (x2 : V) : ∀ (k i : Nat) (v : V) (S : Store) (g5 g6 g7 g8 g9 g10 g11 g12 g13 g14 g15 g16 g17 g18 g19 g20 g21 g22 g23 g24 g25 g26 g27 g28 g29 g30 g31 g32 g33 g34 g35 g36 : V), l.length - i = k → i ≤ l.length → TInv S0 S v (l.take i) →
   (∀ S v i' g5 g6 g7 g8 g9 g10 g11 g12 g13 g14 g15 g16 g17 g18 g19 g20 g21 g22 g23 g24 g25 g26 g27 g28 g29 g30 g31 g32 g33 g34 g35 g36, TInv S0 S v l → R (.exit 0) ((.d (.sl (l.map encStep))) :: (.tup []) :: x2 :: v :: i' :: g5 :: g6 :: g7 :: g8 :: g9 :: g10 :: g11 :: g12 :: g13 :: g14 :: g15 :: g16 :: g17 :: g18 :: g19 :: g20 :: g21 :: g22 :: g23 :: g24 :: g25 :: g26 :: g27 :: g28 :: g29 :: g30 :: g31 :: g32 :: g33 :: g34 :: g35 :: g36 :: []) S []) →
   Wp cfgQ (.loop (lpOf (Tryd.f14.body.getD .skip) 0)) ((.d (.sl (l.map encStep))) :: (.tup []) :: x2 :: v :: (.d (.int .i64 (i : Int))) :: g5 :: g6 :: g7 :: g8 :: g9 :: g10 :: g11 :: g12 :: g13 :: g14 :: g15 :: g16 :: g17 :: g18 :: g19 :: g20 :: g21 :: g22 :: g23 :: g24 :: g25 :: g26 :: g27 :: g28 :: g29 :: g30 :: g31 :: g32 :: g33 :: g34 :: g35 :: g36 :: []) S [] R := by
  intro k
  induction k with
  | zero =>
    intro i v S g5 g6 g7 g8 g9 g10 g11 g12 g13 g14 g15 g16 g17 g18 g19 g20 g21 g22 g23 g24 g25 g26 g27 g28 g29 g30 g31 g32 g33 g34 g35 g36 hk hi hI hE
    have hie : i = l.length := by omega
    rw [hie, List.take_length] at hI
    rw [wk_of]
    refine wk_loop ?_
    conv => arg 2; whnf
    simp (maxSteps := 1000000) (disch := first | assumption | omega | rfl) only [↓vmp, vme, vmb, ty, hP, dec_t, dec_f, wrap64, List.length_map, Int.toNat_natCast, Nat.reduceAdd, List.cons_append, List.nil_append, Option.map_some, Option.map_none, strOf_mk, sb_eql, sb_neq, vmg, ↓vgd, ↓vst, ↓vix, hPQ]
    exact hE _ _ _ _ _ _ _ _ _ _ _ _ _ _ _ _ _ _ _ _ _ _ _ _ _ _ _ _ _ _ _ _ _ _ _ hI
  | succ k ih =>
    intro i v S g5 g6 g7 g8 g9 g10 g11 g12 g13 g14 g15 g16 g17 g18 g19 g20 g21 g22 g23 g24 g25 g26 g27 g28 g29 g30 g31 g32 g33 g34 g35 g36 hk hi hI hE
    have hlt : i < l.length := by omega
    have hb := hB _ (List.getElem_mem hlt)
    obtain ⟨v', S', c, e1, hc, e2⟩ := hI.app l[i] (by simp; omega)
    rw [← take_snoc hlt] at e2
    have e3 := e2.1.one
    rw [wk_of]
    refine wk_loop ?_
    conv => arg 2; whnf
    simp (maxSteps := 1000000) (disch := first | assumption | omega | rfl) only [↓vmp, vme, vmb, ty, hP, dec_t, dec_f, wrap64, List.length_map, Int.toNat_natCast, Nat.reduceAdd, List.cons_append, List.nil_append, Option.map_some, Option.map_none, strOf_mk, sb_eql, sb_neq, vmg, ↓vgd, ↓vst, ↓vix, hPQ]
    rcases hc with rfl | rfl | rfl
    all_goals
      refine wk_draw (is := [0, 1, 2, 3, 4, 5, 6, 7, 8, 9, 10, 12, 13, 14, 15, 16, 17, 18, 19, 20, 21, 11, 22, 23, 24, 25]) (h := 0) (by kernel_rfl) (by kernel_rfl) ?_
      simp (maxSteps := 1000000) (disch := first | assumption | omega | rfl) only [List.replicate_zero, eq_self, vmd, vmk, vmo, vmg, vme, vmb, ty, hP, dec_t, dec_f, wrap64, List.length_map, Int.toNat_natCast, Nat.reduceAdd, ↓vgd, ↓vst, ↓vix, hPQ, vso, List.append_nil, Option.map_some, dq_to27 hb, dq_to27A hb, bo29, bd28s, op_bs1, bs43s, e1, e3]
      first | refine ⟨by kernel_rfl, ?_⟩ | refine ⟨fun _ => by kernel_rfl, by kernel_rfl, ?_⟩
      simp (maxSteps := 1000000) (disch := first | assumption | omega | rfl) only [↓vmp, vme, vmb, ty, hP, dec_t, dec_f, wrap64, List.length_map, Int.toNat_natCast, Nat.reduceAdd, List.cons_append, List.nil_append, Option.map_some, Option.map_none, strOf_mk, sb_eql, sb_neq, vmg, ↓vgd, ↓vst, ↓vix, hPQ]
      exact ih (i + 1) _ _ _ _ _ _ _ _ _ _ _ _ _ _ _ _ _ _ _ _ _ _ _ _ _ _ _ _ _ _ _ _ _ _ (by omega) (by omega) e2 hE
theorem toS_ok (S0 : Store) (l : List Step) (hl : l.length ≤ 1000) (hB : ∀ s ∈ l, s.o.data.length ≤ 100000) : EvS cfgQ 14 [.d (.sl (l.map encStep))] S0 (fun o S' => ∃ v, o = .ret v ∧ TInv S0 S' v l) := by
  refine evS_of rfl body14 ?_
  show Wp cfgQ (Tryd.f14.body.getD .skip) ((.d (.sl (l.map encStep))) :: (.tup []) :: (.tup []) :: (.tup []) :: (.tup []) :: (.tup []) :: (.tup []) :: (.tup []) :: (.tup []) :: (.tup []) :: (.tup []) :: (.tup []) :: (.tup []) :: (.tup []) :: (.tup []) :: (.tup []) :: (.tup []) :: (.tup []) :: (.tup []) :: (.tup []) :: (.tup []) :: (.tup []) :: (.tup []) :: (.tup []) :: (.tup []) :: (.tup []) :: (.tup []) :: (.tup []) :: (.tup []) :: (.tup []) :: (.tup []) :: (.tup []) :: (.tup []) :: (.tup []) :: (.tup []) :: (.tup []) :: (.tup []) :: []) S0 [] _
  conv => arg 2; whnf
  rw [wk_of]
  simp (maxSteps := 1000000) (disch := first | assumption | omega | rfl) only [↓vmp, vme, vmb, ty, hP, dec_t, dec_f, wrap64, List.length_map, Int.toNat_natCast, Nat.reduceAdd, List.cons_append, List.nil_append, Option.map_some, Option.map_none, strOf_mk, sb_eql, sb_neq, vmg, ↓vgd, ↓vst, ↓vix, hPQ]
  refine toS_l S0 l hl hB _ _ l.length 0 _ _ _ _ _ _ _ _ _ _ _ _ _ _ _ _ _ _ _ _ _ _ _ _ _ _ _ _ _ _ _ _ _ _ rfl (by omega) ⟨.inl ⟨rfl, rfl⟩, Keep.refl, fun j hj => by cases hj⟩ ?_
  intro S v i' g5 g6 g7 g8 g9 g10 g11 g12 g13 g14 g15 g16 g17 g18 g19 g20 g21 g22 g23 g24 g25 g26 g27 g28 g29 g30 g31 g32 g33 g34 g35 g36 hI
  have h1 := hI.1.one
  simp (maxSteps := 1000000) (disch := first | assumption | omega | rfl) only [↓vmp, vme, vmb, ty, hP, dec_t, dec_f, wrap64, List.length_map, Int.toNat_natCast, Nat.reduceAdd, List.cons_append, List.nil_append, Option.map_some, Option.map_none, strOf_mk, sb_eql, sb_neq, vmg, ↓vgd, ↓vst, ↓vix, hPQ, h1]
  exact ⟨rfl, _, rfl, _, rfl, hI⟩
theorem src_sl {S : Store} {v : V} {l : List Step} (h : SlE encStep S v 28 l) : srcV Tryd.prog S 28 43 v = srcV Tryd.prog S 28 43 (.d (.sl (l.map encStep))) := by
  rcases h with ⟨rfl, rfl⟩ | ⟨id, ys, rfl, h⟩
  · rfl
  · have e : elemsV S (.rs id 0 l.length) = elemsV S (.d (.sl (l.map encStep))) := by
      simp [elemsV, h]
    simp only [srcV, Tryd.underlying43, e]
theorem app_two {S : Store} {v w : V} {a b : List Step} (ha : SlE encStep S v 28 a) (hb : SlE encStep S w 28 b) (hl : a.length + b.length ≤ 100000) : ∃ v' S' c, appendV Tryd.prog S 43 43 v w = some (v', S', c) ∧ SlE encStep S' v' 28 (a ++ b) := by
  obtain ⟨v', S', c, h1, _, h2, _⟩ := app_data (t := 43) (enc := encStep) (ds := b) Tryd.underlying43 zOk43 nil28 (fun a => fitsT28 _) (room43 (by omega)) ha
  refine ⟨v', S', c, ?_, h2⟩
  rw [← h1]
  simp only [appendV, Tryd.underlying43, src_sl hb]
end Go.Proofs.YteapjcgeckpknaaDoor
end
/-! The statement's own code: escheatlaw46.ScriptJoins comes to true. -/
section
set_option linter.unusedVariables false
set_option linter.unusedSimpArgs false
set_option maxRecDepth 100000
set_option maxHeartbeats 4000000
namespace Go.Proofs.YteapjcgeckpknaaDoor
open Go.Vm
theorem cv53w {S : Store} {w : Nat} (hw : w < 65536) : convertV Tryd.prog S 53 3 (.d (.int .u16 w)) = some (.d (.int .i64 w), 0) := by
  have h1 : Tryd.prog.underlying 53 = some (.int .u16) := by kernel_rfl
  have h2 : Tryd.prog.underlying 3 = some (.int .i64) := by kernel_rfl
  simp only [convertV, h1, h2]
  rw [wrap64 (by omega)]
theorem bv_rem {P : Program} {t : TypeId} {a b c : Int} (hb : ¬ b = 0) (h : a.tmod b = c) : binV P .rem t (.d (.int .i64 a)) (.d (.int .i64 b)) = some (.d (.int .i64 c)) := by
  simp only [binV, intBin, hb, if_true, if_false, Option.map_some, h]
theorem be4 {a b : Bool} : binV Tryd.prog .eql 4 (.d (.bool a)) (.d (.bool b)) = some (.d (.bool (a == b))) := by cases a <;> cases b <;> kernel_rfl
section
variable {ops : Array Oper} {dst : Option Tmp} {k : List Oper} {T : List V} {S : Store} {F : Dfs} {Q : Post}
theorem cq_works : WpR cfgQ ops dst k T S F Q (some (.enter 7 [])) = WpL cfgQ ops k (putT T dst (.d (.bool true))) S F Q :=
  wr_call_d (ds := []) rfl (liftQ rfl rfl rfl works_ev)
theorem cq_much {l : List Step} {m : Int} (hm : m ≤ 1000) : WpR cfgQ ops dst k T S F Q (some (.enter 13 [.d (.sl (l.map encStep)), .d (.int .i64 m)])) = WpL cfgQ ops k (putT T dst (.d (.bool (muchS l m)))) S F Q :=
  wr_call_d (ds := [.sl (l.map encStep), .int .i64 m]) rfl (liftQ rfl rfl rfl (much46_ok l m hm))
theorem cq_printS {l : List Step} {t : List UInt8} {v : V} (h : l.length ≤ 100000) (hB : ∀ s ∈ l, StepB s) (hp : printS l = some t) (hv : Go.Vm.frz S frzFuel v = some (.sl (l.map encStep))) : WpR cfgQ ops dst k T S F Q (some (.enter 18 [v])) = WpL cfgQ ops k (putT T dst (.tup [.d (.str t), .d (.int .i64 0)])) S F Q :=
  wr_call_plain (ds := [.sl (l.map encStep)]) rfl (by simp only [allO, hv]) rfl (by have := printQ_ev h hB; unfold printO at this; rw [hp] at this; exact this)
theorem cq_printN {l : List Step} {v : V} (h : l.length ≤ 100000) (hB : ∀ s ∈ l, StepB s) (hp : printS l = Option.none) (hv : Go.Vm.frz S frzFuel v = some (.sl (l.map encStep))) : WpR cfgQ ops dst k T S F Q (some (.enter 18 [v])) = WpL cfgQ ops k (putT T dst (.tup [.d (.str []), .d (.int .i64 1)])) S F Q :=
  wr_call_plain (ds := [.sl (l.map encStep)]) rfl (by simp only [allO, hv]) rfl (by have := printQ_ev h hB; unfold printO at this; rw [hp] at this; exact this)
theorem cq_readS {s : List UInt8} {l : List Step} (h : s.length ≤ 80000) (hr : readS s = some l) : WpR cfgQ ops dst k T S F Q (some (.enter 19 [.d (.str s)])) = WpL cfgQ ops k (putT T dst (.tup [.d (.sl (l.map encStep)), .d (.int .i64 0)])) S F Q :=
  wr_call_d (ds := [.str s]) rfl (by have := readQ_ev h; unfold readO at this; rw [hr] at this; exact this)
theorem cq_readN {s : List UInt8} (h : s.length ≤ 80000) (hr : readS s = Option.none) : WpR cfgQ ops dst k T S F Q (some (.enter 19 [.d (.str s)])) = WpL cfgQ ops k (putT T dst (.tup [.d (.sl []), .d (.int .i64 14)])) S F Q :=
  wr_call_d (ds := [.str s]) rfl (by have := readQ_ev h; unfold readO at this; rw [hr] at this; exact this)
end
theorem joins_ok (a b : List Step) (c : Nat) (hc : c < 65536) (hIa : ∀ x ∈ a, StepI x) (hIb : ∀ x ∈ b, StepI x) : Ev cfgQ 6 [.sl (a.map encStep), .sl (b.map encStep), .int .u16 (c : Int)] (.ret (.d (.bool true))) := by
  have h12 : (12 : Int) ≤ 1000 := by decide
  refine ev_of rfl rfl body6 ?_
  show Wp cfgQ (Tryd.f6.body.getD .skip) ((.d (.sl (a.map encStep))) :: (.d (.sl (b.map encStep))) :: (.d (.int .u16 (c : Int))) :: (.tup []) :: (.tup []) :: (.tup []) :: (.tup []) :: (.tup []) :: (.tup []) :: (.tup []) :: (.tup []) :: (.tup []) :: (.tup []) :: (.tup []) :: (.tup []) :: (.tup []) :: (.tup []) :: (.tup []) :: (.tup []) :: (.tup []) :: (.tup []) :: (.tup []) :: (.tup []) :: (.tup []) :: (.tup []) :: (.tup []) :: (.tup []) :: (.tup []) :: (.tup []) :: (.tup []) :: (.tup []) :: (.tup []) :: (.tup []) :: (.tup []) :: (.tup []) :: (.tup []) :: (.tup []) :: (.tup []) :: (.tup []) :: (.tup []) :: (.tup []) :: (.tup []) :: (.tup []) :: (.tup []) :: (.tup []) :: (.tup []) :: (.tup []) :: (.tup []) :: (.tup []) :: (.tup []) :: (.tup []) :: (.tup []) :: (.tup []) :: (.tup []) :: (.tup []) :: (.tup []) :: (.tup []) :: (.tup []) :: (.tup []) :: (.tup []) :: (.tup []) :: (.tup []) :: (.tup []) :: (.tup []) :: (.tup []) :: (.tup []) :: (.tup []) :: (.tup []) :: (.tup []) :: (.tup []) :: (.tup []) :: (.tup []) :: (.tup []) :: (.tup []) :: (.tup []) :: (.tup []) :: (.tup []) :: (.tup []) :: (.tup []) :: (.tup []) :: (.tup []) :: (.tup []) :: (.tup []) :: (.tup []) :: (.tup []) :: (.tup []) :: (.tup []) :: (.tup []) :: (.tup []) :: (.tup []) :: (.tup []) :: (.tup []) :: (.tup []) :: (.tup []) :: (.tup []) :: (.tup []) :: (.tup []) :: (.tup []) :: (.tup []) :: (.tup []) :: (.tup []) :: (.tup []) :: (.tup []) :: (.tup []) :: (.tup []) :: (.tup []) :: (.tup []) :: (.tup []) :: (.tup []) :: (.tup []) :: (.tup []) :: []) [] [] _
  conv => arg 2; whnf
  cases hma : muchS a 12 with
  | true =>
    simp (maxSteps := 1000000) (disch := first | assumption | omega | rfl) only [↓vmp, vme, vmb, ty, hP, dec_t, dec_f, wrap64, List.length_map, Int.toNat_natCast, Nat.reduceAdd, List.cons_append, List.nil_append, Option.map_some, Option.map_none, strOf_mk, sb_eql, sb_neq, vmg, ↓vgd, ↓vst, ↓vix, hPQ, cq_much h12, hma, cq_works, bo13, bo7]
    exact retQ_one rfl rfl rfl
  | false =>
  cases hmb : muchS b 12 with
  | true =>
    simp (maxSteps := 1000000) (disch := first | assumption | omega | rfl) only [↓vmp, vme, vmb, ty, hP, dec_t, dec_f, wrap64, List.length_map, Int.toNat_natCast, Nat.reduceAdd, List.cons_append, List.nil_append, Option.map_some, Option.map_none, strOf_mk, sb_eql, sb_neq, vmg, ↓vgd, ↓vst, ↓vix, hPQ, cq_much h12, hma, hmb, cq_works, bo13, bo7]
    exact retQ_one rfl rfl rfl
  | false =>
  obtain ⟨hla, hLa⟩ := steps_of hIa hma
  obtain ⟨hlb, hLb⟩ := steps_of hIb hmb
  have hBa : ∀ x ∈ a, StepB x := fun x hx => (hLa x hx).b
  have hBb : ∀ x ∈ b, StepB x := fun x hx => (hLb x hx).b
  have hDa : ∀ x ∈ a, x.o.data.length ≤ 100000 := fun x hx => by have := (hLa x hx).d; omega
  have hDb : ∀ x ∈ b, x.o.data.length ≤ 100000 := fun x hx => by have := (hLb x hx).d; omega
  have hta := text_len2 hLa
  have htb := text_len2 hLb
  simp (maxSteps := 1000000) (disch := first | assumption | omega | rfl) only [↓vmp, vme, vmb, ty, hP, dec_t, dec_f, wrap64, List.length_map, Int.toNat_natCast, Nat.reduceAdd, List.cons_append, List.nil_append, Option.map_some, Option.map_none, strOf_mk, sb_eql, sb_neq, vmg, ↓vgd, ↓vst, ↓vix, hPQ, cq_much h12, hma, hmb, bo13, bo14]
  refine wr_callS rfl (toS_ok _ a (by omega) hDa) ?_ (by rintro v S' ⟨v', hv, _⟩; cases hv)
  rintro v1 S1 ⟨v', hv, hT1⟩
  cases hv
  have hz1 := hT1.1.frz (n := 10)
  have ho1 := hT1.1.one
  cases hpa : printS a with
  | none =>
    simp (maxSteps := 1000000) (disch := first | assumption | omega | rfl) only [↓vmp, vme, vmb, ty, hP, dec_t, dec_f, wrap64, List.length_map, Int.toNat_natCast, Nat.reduceAdd, List.cons_append, List.nil_append, Option.map_some, Option.map_none, strOf_mk, sb_eql, sb_neq, vmg, ↓vgd, ↓vst, ↓vix, hPQ, cq_printN (show a.length ≤ 100000 by omega) hBa hpa hz1, ho1, bo18, bo14]
    refine wr_callS rfl (toS_ok _ b (by omega) hDb) ?_ (by rintro v S' ⟨v', hv, _⟩; cases hv)
    rintro v2 S2 ⟨v', hv, hT2⟩
    cases hv
    have hz2 := hT2.1.frz (n := 10)
    have ho2 := hT2.1.one
    cases hpb : printS b with
    | none =>
      simp (maxSteps := 1000000) (disch := first | assumption | omega | rfl) only [↓vmp, vme, vmb, ty, hP, dec_t, dec_f, wrap64, List.length_map, Int.toNat_natCast, Nat.reduceAdd, List.cons_append, List.nil_append, Option.map_some, Option.map_none, strOf_mk, sb_eql, sb_neq, vmg, ↓vgd, ↓vst, ↓vix, hPQ, cq_printN (show b.length ≤ 100000 by omega) hBb hpb hz2, ho2, bo18, cq_works, bo7]
      exact retQ_one rfl rfl rfl
    | some tb =>
      simp (maxSteps := 1000000) (disch := first | assumption | omega | rfl) only [↓vmp, vme, vmb, ty, hP, dec_t, dec_f, wrap64, List.length_map, Int.toNat_natCast, Nat.reduceAdd, List.cons_append, List.nil_append, Option.map_some, Option.map_none, strOf_mk, sb_eql, sb_neq, vmg, ↓vgd, ↓vst, ↓vix, hPQ, cq_printS (show b.length ≤ 100000 by omega) hBb hpb hz2, ho2, bo18, cq_works, bo7]
      exact retQ_one rfl rfl rfl
  | some ta =>
  obtain ⟨hea, rfl⟩ := printS_some hpa
  simp (maxSteps := 1000000) (disch := first | assumption | omega | rfl) only [↓vmp, vme, vmb, ty, hP, dec_t, dec_f, wrap64, List.length_map, Int.toNat_natCast, Nat.reduceAdd, List.cons_append, List.nil_append, Option.map_some, Option.map_none, strOf_mk, sb_eql, sb_neq, vmg, ↓vgd, ↓vst, ↓vix, hPQ, cq_printS (show a.length ≤ 100000 by omega) hBa hpa hz1, ho1, bo18, bo14]
  refine wr_callS rfl (toS_ok _ b (by omega) hDb) ?_ (by rintro v S' ⟨v', hv, _⟩; cases hv)
  rintro v2 S2 ⟨v', hv, hT2⟩
  cases hv
  have hz2 := hT2.1.frz (n := 10)
  have ho2 := hT2.1.one
  cases hpb : printS b with
  | none =>
    simp (maxSteps := 1000000) (disch := first | assumption | omega | rfl) only [↓vmp, vme, vmb, ty, hP, dec_t, dec_f, wrap64, List.length_map, Int.toNat_natCast, Nat.reduceAdd, List.cons_append, List.nil_append, Option.map_some, Option.map_none, strOf_mk, sb_eql, sb_neq, vmg, ↓vgd, ↓vst, ↓vix, hPQ, cq_printN (show b.length ≤ 100000 by omega) hBb hpb hz2, ho2, bo18, cq_works, bo7]
    exact retQ_one rfl rfl rfl
  | some tb =>
  obtain ⟨heb, rfl⟩ := printS_some hpb
  simp (maxSteps := 1000000) (disch := first | assumption | omega | rfl) only [↓vmp, vme, vmb, ty, hP, dec_t, dec_f, wrap64, List.length_map, Int.toNat_natCast, Nat.reduceAdd, List.cons_append, List.nil_append, Option.map_some, Option.map_none, strOf_mk, sb_eql, sb_neq, vmg, ↓vgd, ↓vst, ↓vix, hPQ, cq_printS (show b.length ≤ 100000 by omega) hBb hpb hz2, ho2, bo18, bo14]
  refine wr_callS rfl (toS_ok _ a (by omega) hDa) ?_ (by rintro v S' ⟨v', hv, _⟩; cases hv)
  rintro v3 S3 ⟨v', hv, hT3⟩
  cases hv
  simp (maxSteps := 1000000) (disch := first | assumption | omega | rfl) only [↓vmp, vme, vmb, ty, hP, dec_t, dec_f, wrap64, List.length_map, Int.toNat_natCast, Nat.reduceAdd, List.cons_append, List.nil_append, Option.map_some, Option.map_none, strOf_mk, sb_eql, sb_neq, vmg, ↓vgd, ↓vst, ↓vix, hPQ, bo14]
  refine wr_callS rfl (toS_ok _ b (by omega) hDb) ?_ (by rintro v S' ⟨v', hv, _⟩; cases hv)
  rintro v4 S4 ⟨v', hv, hT4⟩
  cases hv
  obtain ⟨v5, S5, c5, e5, hI5⟩ := app_two (hT3.1.keep hT4.2.1) hT4.1 (by omega)
  have hz5 := hI5.frz (n := 10)
  have ho5 := hI5.one
  have ho3 := hT3.1.one
  have ho4 := hT4.1.one
  have hBab : ∀ x ∈ a ++ b, StepB x := fun x hx => (List.mem_append.1 hx).elim (hBa x) (hBb x)
  have heab : ∀ x ∈ a ++ b, (lineS x).isSome = true := fun x hx => (List.mem_append.1 hx).elim (hea x) (heb x)
  have hpab : printS (a ++ b) = some (textL a ++ textL b) := by
    unfold printS
    rw [if_pos (List.all_eq_true.2 heab), textL_app]
  have htab : textL a ++ textL b = textL (a ++ b) := (textL_app a b).symm
  have hlab : (a ++ b).length ≤ 100000 := by rw [List.length_append]; omega
  have hadd : strBin .add (textL a) (textL b) = some (.str (textL a ++ textL b)) := sb_add (by omega)
  have hLn : (textL a ++ textL b).length ≤ 80000 := by rw [List.length_append]; omega
  rw [htab] at hpab hadd hLn
  have hr : readS (textL (a ++ b)) = some ((a ++ b).map plainS) := by
    have := read_text (a ++ b) [] hBab heab
    rw [List.append_nil, readS_nil] at this
    rw [this]
    simp
  obtain ⟨m, hm⟩ : ∃ m, (a ++ b).map plainS = m := ⟨_, rfl⟩
  have hml : ((m.length : Nat) : Int) = (a.length : Int) + (b.length : Int) := by rw [← hm, List.length_map, List.length_append]; omega
  have hw : IntKind.i64.wrap ((a.length : Int) + (b.length : Int)) = (a.length : Int) + (b.length : Int) := wrap64 (by omega)
  rw [hm] at hr
  obtain ⟨u, hu⟩ : ∃ u, textL (a ++ b) = u := ⟨_, rfl⟩
  have hcut := fun n => read_cut (n := n) hBab heab
  rw [hu] at hpab hadd hLn hr
  rw [hu] at hcut
  by_cases hu0 : u.length = 0
  · have hu0' : (u.length : Int) = 0 := by omega
    simp (maxSteps := 1000000) (disch := first | assumption | omega | rfl) only [↓vmp, vme, vmb, ty, hP, dec_t, dec_f, wrap64, List.length_map, Int.toNat_natCast, Nat.reduceAdd, List.cons_append, List.nil_append, Option.map_some, Option.map_none, strOf_mk, sb_eql, sb_neq, vmg, ↓vgd, ↓vst, ↓vix, hPQ, e5, cq_printS hlab hBab hpab hz5, ho5, ho3, ho4, bo18, hadd, cq_readS hLn hr, bo19, dne, deq, dec_True, hml, hw, hu0', cq_works, bo7]
    exact retQ_one rfl rfl rfl
  have hu0' : ¬ (u.length : Int) = 0 := by omega
  obtain ⟨q, hq⟩ : ∃ q, c % u.length = q := ⟨_, rfl⟩
  have hlt : q < u.length := by rw [← hq]; exact Nat.mod_lt _ (by omega)
  have hrem : (c : Int).tmod (u.length : Int) = (q : Int) := by rw [← hq]; rfl
  clear hq
  have hcut := hcut (q + 1) (by omega) (by omega) (by omega)
  simp only [Nat.add_sub_cancel] at hcut
  have hq1 : IntKind.i64.wrap (1 + (q : Int)) = ((q + 1 : Nat) : Int) := by rw [wrap64 (by omega)]; omega
  have hq2 : IntKind.i64.wrap (((q + 1 : Nat) : Int) - 1) = (q : Int) := by rw [wrap64 (by omega)]; omega
  have hti := fun S => sl_take (S := S) (s := u) (i := q + 1) (by omega)
  have htl : (u.take (q + 1)).length ≤ 80000 := by rw [List.length_take]; omega
  have hix := ixstr hlt
  by_cases h10 : u[q] = 10
  · rw [decide_eq_true h10] at hcut
    obtain ⟨l', hl'⟩ := Option.isSome_iff_exists.1 hcut
    have h10' : ((u[q].toNat : Nat) : Int) = 10 := by rw [h10]; rfl
    simp (maxSteps := 1000000) (disch := first | assumption | omega | rfl) only [↓vmp, vme, vmb, ty, hP, dec_t, dec_f, wrap64, List.length_map, Int.toNat_natCast, Nat.reduceAdd, List.cons_append, List.nil_append, Option.map_some, Option.map_none, strOf_mk, sb_eql, sb_neq, vmg, ↓vgd, ↓vst, ↓vix, hPQ, e5, cq_printS hlab hBab hpab hz5, ho5, ho3, ho4, bo18, hadd, cq_readS hLn hr, bo19, dne, deq, dec_True, hml, hw, cv53w hc, bv_rem hu0' hrem, hq1, hq2, hti, cq_readS htl hl', hix, h10', be4, beq_self_eq_true, cq_works, bo7]
    exact retQ_one rfl rfl rfl
  · rw [decide_eq_false h10] at hcut
    have hn : readS (u.take (q + 1)) = Option.none := by
      cases hh : readS (u.take (q + 1)) with
      | none => rfl
      | some x => rw [hh] at hcut; cases hcut
    have h10' : ¬ ((u[q].toNat : Nat) : Int) = 10 := by
      intro h
      exact h10 (UInt8.toNat_inj.1 (by have : u[q].toNat = 10 := by omega
                                       rw [this]; rfl))
    simp (maxSteps := 1000000) (disch := first | assumption | omega | rfl) only [↓vmp, vme, vmb, ty, hP, dec_t, dec_f, wrap64, List.length_map, Int.toNat_natCast, Nat.reduceAdd, List.cons_append, List.nil_append, Option.map_some, Option.map_none, strOf_mk, sb_eql, sb_neq, vmg, ↓vgd, ↓vst, ↓vix, hPQ, e5, cq_printS hlab hBab hpab hz5, ho5, ho3, ho4, bo18, hadd, cq_readS hLn hr, bo19, dne, deq, dec_True, hml, hw, cv53w hc, bv_rem hu0' hrem, hq1, hq2, hti, cq_readN htl hn, hix, be4, beq_self_eq_true, cq_works, bo7]
    exact retQ_one rfl rfl rfl
end Go.Proofs.YteapjcgeckpknaaDoor
end
