/- The statement's own code: escheatlaw47.ReportAnswers comes to true. -/
import Derived.Test.YtghllhghboaagaaDoorV07
/-! The statement's own code: escheatlaw47.ReportAnswers comes to true. -/
section
set_option linter.unusedVariables false
set_option linter.unusedSimpArgs false
set_option maxRecDepth 100000
set_option maxHeartbeats 4000000
namespace Go.Proofs.YtghllhghboaagaaDoor
open Go.Vm
def longN (l : List (List UInt8)) (many size : Int) : Bool := decide ((l.length : Int) > many) || l.any fun s => decide ((s.length : Int) > size)
theorem long_l (l : List (List UInt8)) (many size : Int) (hl : l.length < 1000000) (R : Post) (x6 : V) : ∀ (k i : Nat) (g3 g4 g5 g8 g9 g10 g11 g12 g13 g14 g15 g16 g17 g18 g19 g20 g21 g22 g23 g24 : V), l.length - i = k → i ≤ l.length →
   ((l.drop i).any (fun s => decide ((s.length : Int) > size)) = false → ∀ i' g3 g4 g5 g8 g9 g10 g11 g12 g13 g14 g15 g16 g17 g18 g19 g20 g21 g22 g23 g24, R (.exit 0) ((.d (.sl (l.map .str))) :: (.d (.int .i64 many)) :: (.d (.int .i64 size)) :: g3 :: g4 :: g5 :: x6 :: i' :: g8 :: g9 :: g10 :: g11 :: g12 :: g13 :: g14 :: g15 :: g16 :: g17 :: g18 :: g19 :: g20 :: g21 :: g22 :: g23 :: g24 :: []) [] []) →
   ((l.drop i).any (fun s => decide ((s.length : Int) > size)) = true → ∀ i' g3 g4 g5 g8 g9 g10 g11 g12 g13 g14 g15 g16 g17 g18 g19 g20 g21 g22 g23 g24, R .ret ((.d (.sl (l.map .str))) :: (.d (.int .i64 many)) :: (.d (.int .i64 size)) :: g3 :: g4 :: g5 :: (.d (.bool true)) :: i' :: g8 :: g9 :: g10 :: g11 :: g12 :: g13 :: g14 :: g15 :: g16 :: g17 :: g18 :: g19 :: g20 :: g21 :: g22 :: g23 :: g24 :: []) [] []) →
   Wp cfg (.loop (lpOf (Tryd.f5.body.getD .skip) 0)) ((.d (.sl (l.map .str))) :: (.d (.int .i64 many)) :: (.d (.int .i64 size)) :: g3 :: g4 :: g5 :: x6 :: (.d (.int .i64 i)) :: g8 :: g9 :: g10 :: g11 :: g12 :: g13 :: g14 :: g15 :: g16 :: g17 :: g18 :: g19 :: g20 :: g21 :: g22 :: g23 :: g24 :: []) [] [] R := by
  intro k
  induction k with
  | zero =>
    intro i g3 g4 g5 g8 g9 g10 g11 g12 g13 g14 g15 g16 g17 g18 g19 g20 g21 g22 g23 g24 hk hi hR hT
    have hie : i = l.length := by omega
    rw [hie, List.drop_length] at hR
    rw [wk_of]
    refine wk_loop ?_
    conv => arg 2; whnf
    simp (maxSteps := 1000000) (disch := first | assumption | omega | rfl) only [↓vmp, vme, vmb, ty, hP, dec_t, dec_f, wrap64, List.length_map, Int.toNat_natCast, Nat.reduceAdd, List.cons_append, List.nil_append, Option.map_some, Option.map_none, strOf_mk, sb_eql, sb_neq, vmg, ↓vgd, ↓vst, ↓vix]
    exact hR rfl _ _ _ _ _ _ _ _ _ _ _ _ _ _ _ _ _ _ _ _ _
  | succ k ih =>
    intro i g3 g4 g5 g8 g9 g10 g11 g12 g13 g14 g15 g16 g17 g18 g19 g20 g21 g22 g23 g24 hk hi hR hT
    have hlt : i < l.length := by omega
    have hd : l.drop i = l[i] :: l.drop (i + 1) := List.drop_eq_getElem_cons hlt
    have hix := fun S => ix23 (S := S) hlt
    rw [hd, List.any_cons] at hR hT
    rw [wk_of]
    refine wk_loop ?_
    conv => arg 2; whnf
    by_cases hc : (l[i].length : Int) > size
    · have hdc : decide ((l[i].length : Int) > size) = true := decide_eq_true hc
      simp (maxSteps := 1000000) (disch := first | assumption | omega | rfl) only [↓vmp, vme, vmb, ty, hP, dec_t, dec_f, wrap64, List.length_map, Int.toNat_natCast, Nat.reduceAdd, List.cons_append, List.nil_append, Option.map_some, Option.map_none, strOf_mk, sb_eql, sb_neq, vmg, ↓vgd, ↓vst, ↓vix, hix]
      exact hT (by rw [hdc]; rfl) _ _ _ _ _ _ _ _ _ _ _ _ _ _ _ _ _ _ _ _ _
    · have hdc : decide ((l[i].length : Int) > size) = false := decide_eq_false hc
      rw [hdc, Bool.false_or] at hR hT
      simp (maxSteps := 1000000) (disch := first | assumption | omega | rfl) only [↓vmp, vme, vmb, ty, hP, dec_t, dec_f, wrap64, List.length_map, Int.toNat_natCast, Nat.reduceAdd, List.cons_append, List.nil_append, Option.map_some, Option.map_none, strOf_mk, sb_eql, sb_neq, vmg, ↓vgd, ↓vst, ↓vix, hix]
      exact ih (i + 1) _ _ _ _ _ _ _ _ _ _ _ _ _ _ _ _ _ _ _ _ (by omega) (by omega) hR hT
theorem long_ok (l : List (List UInt8)) (many size : Int) (hl : l.length < 1000000 ∨ (l.length : Int) > many) : Ev cfg 5 [.sl (l.map .str), .int .i64 many, .int .i64 size] (.ret (.d (.bool (longN l many size)))) := by
  refine ev_of rfl rfl body5 ?_
  show Wp cfg (Tryd.f5.body.getD .skip) ((.d (.sl (l.map .str))) :: (.d (.int .i64 many)) :: (.d (.int .i64 size)) :: (.tup []) :: (.tup []) :: (.tup []) :: (.tup []) :: (.tup []) :: (.tup []) :: (.tup []) :: (.tup []) :: (.tup []) :: (.tup []) :: (.tup []) :: (.tup []) :: (.tup []) :: (.tup []) :: (.tup []) :: (.tup []) :: (.tup []) :: (.tup []) :: (.tup []) :: (.tup []) :: (.tup []) :: (.tup []) :: []) [] [] _
  conv => arg 2; whnf
  unfold longN
  by_cases hc : (l.length : Int) > many
  · have hdc : decide ((l.length : Int) > many) = true := decide_eq_true hc
    rw [hdc, Bool.true_or]
    simp (maxSteps := 1000000) (disch := first | assumption | omega | rfl) only [↓vmp, vme, vmb, ty, hP, dec_t, dec_f, wrap64, List.length_map, Int.toNat_natCast, Nat.reduceAdd, List.cons_append, List.nil_append, Option.map_some, Option.map_none, strOf_mk, sb_eql, sb_neq, vmg, ↓vgd, ↓vst, ↓vix]
    exact retQ_one rfl rfl rfl
  · have hdc : decide ((l.length : Int) > many) = false := decide_eq_false hc
    rw [hdc, Bool.false_or]
    have hl := hl.resolve_right hc
    generalize hr : (l.any fun s => decide ((s.length : Int) > size)) = r
    simp (maxSteps := 1000000) (disch := first | assumption | omega | rfl) only [↓vmp, vme, vmb, ty, hP, dec_t, dec_f, wrap64, List.length_map, Int.toNat_natCast, Nat.reduceAdd, List.cons_append, List.nil_append, Option.map_some, Option.map_none, strOf_mk, sb_eql, sb_neq, vmg, ↓vgd, ↓vst, ↓vix]
    refine long_l l many size hl _ _ l.length 0 _ _ _ _ _ _ _ _ _ _ _ _ _ _ _ _ _ _ _ _ rfl (Nat.zero_le _) ?_ ?_
    · intro h i' g3 g4 g5 g8 g9 g10 g11 g12 g13 g14 g15 g16 g17 g18 g19 g20 g21 g22 g23 g24
      rw [List.drop_zero, hr] at h
      subst h
      simp (maxSteps := 1000000) (disch := first | assumption | omega | rfl) only [↓vmp, vme, vmb, ty, hP, dec_t, dec_f, wrap64, List.length_map, Int.toNat_natCast, Nat.reduceAdd, List.cons_append, List.nil_append, Option.map_some, Option.map_none, strOf_mk, sb_eql, sb_neq, vmg, ↓vgd, ↓vst, ↓vix]
      exact retQ_one rfl rfl rfl
    · intro h i' g3 g4 g5 g8 g9 g10 g11 g12 g13 g14 g15 g16 g17 g18 g19 g20 g21 g22 g23 g24
      rw [List.drop_zero, hr] at h
      subst h
      simp (maxSteps := 1000000) (disch := first | assumption | omega | rfl) only [↓vmp, vme, vmb, ty, hP, dec_t, dec_f, wrap64, List.length_map, Int.toNat_natCast, Nat.reduceAdd, List.cons_append, List.nil_append, Option.map_some, Option.map_none, strOf_mk, sb_eql, sb_neq, vmg, ↓vgd, ↓vst, ↓vix]
      exact retQ_one rfl rfl rfl
theorem bd31 {a : Ans} : buildV Tryd.prog 31 [(0, .d (.int .i64 a.err)), (1, .d (.int .i64 a.ino)), (2, .d (.int .i64 a.kind)), (3, .d (.int .i64 a.links)), (4, .d (.int .i64 a.size)), (5, .d (encB a.data)), (6, .d (.sl (a.names.map .str)))] = some (.agg [.d (.int .i64 a.err), .d (.int .i64 a.ino), .d (.int .i64 a.kind), .d (.int .i64 a.links), .d (.int .i64 a.size), .d (encB a.data), .d (.sl (a.names.map .str))]) := by kernel_rfl
theorem tell_ok (a : Ans) : Ev cfg 8 [encAns a] (.ret (.d (encAns a))) := by
  refine ev_of rfl rfl body8 ?_
  show Wp cfg (Tryd.f8.body.getD .skip) ((.d (encAns a)) :: (.tup []) :: (.tup []) :: (.tup []) :: (.tup []) :: (.tup []) :: (.tup []) :: (.tup []) :: (.tup []) :: (.tup []) :: (.tup []) :: (.tup []) :: (.tup []) :: (.tup []) :: (.tup []) :: (.tup []) :: (.tup []) :: (.tup []) :: []) [] [] _
  conv => arg 2; whnf
  simp (maxSteps := 1000000) (disch := first | assumption | omega | rfl) only [↓vmp, vme, vmb, ty, hP, dec_t, dec_f, wrap64, List.length_map, Int.toNat_natCast, Nat.reduceAdd, List.cons_append, List.nil_append, Option.map_some, Option.map_none, strOf_mk, sb_eql, sb_neq, vmg, ↓vgd, ↓vst, ↓vix, z31, zf31, bd31]
  exact retQ_cell (u := .ref 1 0 0) (v := .agg [.d (.int .i64 a.err), .d (.int .i64 a.ino), .d (.int .i64 a.kind), .d (.int .i64 a.links), .d (.int .i64 a.size), .d (encB a.data), .d (.sl (a.names.map .str))]) rfl rfl rfl (by kernel_rfl)
section
variable {ops : Array Oper} {F : Dfs} {Q : Post} {K : List Nat → List (Nat × Nat) → List V → Store → Prop} {rd : List Nat} {cs : List (Nat × Nat)} {i : Nat} {dst : Option Tmp} {T : List V} {S : Store}
theorem dr_tell {a : Ans} : WpE cfg ops F Q K rd cs i dst T S (some (.enter 8 [.d (encAns a)])) = K (i :: rd) (cs ++ [(i, 1)]) (putT T dst (.d (encAns a))) S :=
  we_call_d (ds := [encAns a]) rfl (tell_ok a)
theorem dr_ranswer {d : Int} {a : Ans} (h : AnsB a) : WpE cfg ops F Q K rd cs i dst T S (some (.enter 7 [.d (.int .i64 d), .d (encAns a)])) = K (i :: rd) (cs ++ [(i, 1)]) (putT T dst (.d (.str (ansS d a)))) S :=
  we_call_d (ds := [.int .i64 d, encAns a]) rfl (ranswer_ok d a h)
theorem dr_rranswer {d : Int} {a : Ans} (h : AnsB a) : WpE cfg ops F Q K rd cs i dst T S (some (.enter 9 [.d (.int .i64 d), .d (encAns a)])) = K (i :: rd) (cs ++ [(i, 1)]) (putT T dst (.d (.str (ansS d a)))) S :=
  we_call_d (ds := [.int .i64 d, encAns a]) rfl (rranswer_ok d a h)
theorem works_ev : Ev cfg 6 [] (.ret (.d (.bool true))) := ⟨0, rfl⟩
theorem dr_works : WpE cfg ops F Q K rd cs i dst T S (some (.enter 6 [])) = K (i :: rd) (cs ++ [(i, 1)]) (putT T dst (.d (.bool true))) S :=
  we_call_d (ds := []) rfl works_ev
end
section
variable {ops : Array Oper} {dst : Option Tmp} {k : List Oper} {T : List V} {S : Store} {F : Dfs} {Q : Post}
theorem call_works : WpR cfg ops dst k T S F Q (some (.enter 6 [])) = WpL cfg ops k (putT T dst (.d (.bool true))) S F Q :=
  wr_call_d (ds := []) rfl works_ev
theorem call_long {l : List (List UInt8)} {m n : Int} (h : l.length < 1000000 ∨ (l.length : Int) > m) : WpR cfg ops dst k T S F Q (some (.enter 5 [.d (.sl (l.map .str)), .d (.int .i64 m), .d (.int .i64 n)])) = WpL cfg ops k (putT T dst (.d (.bool (longN l m n)))) S F Q :=
  wr_call_d (ds := [.sl (l.map .str), .int .i64 m, .int .i64 n]) rfl (long_ok l m n h)
end
theorem answers_ok (dos : Int) (a : Ans) (h1 : InB a.err) (h2 : InB a.ino) (h3 : InB a.links) (h4 : InB a.size) : Ev cfg 3 [.int .i64 dos, encAns a] (.ret (.d (.bool true))) := by
  refine ev_of rfl rfl body3 ?_
  show Wp cfg (Tryd.f3.body.getD .skip) ((.d (.int .i64 dos)) :: (.d (encAns a)) :: (.tup []) :: (.tup []) :: (.tup []) :: (.tup []) :: (.tup []) :: (.tup []) :: (.tup []) :: (.tup []) :: (.tup []) :: (.tup []) :: (.tup []) :: (.tup []) :: (.tup []) :: (.tup []) :: (.tup []) :: (.tup []) :: (.tup []) :: (.tup []) :: (.tup []) :: (.tup []) :: (.tup []) :: (.tup []) :: (.tup []) :: (.tup []) :: (.tup []) :: (.tup []) :: (.tup []) :: (.tup []) :: (.tup []) :: (.tup []) :: (.tup []) :: (.tup []) :: (.tup []) :: []) [] [] _
  conv => arg 2; whnf
  have hl : a.names.length < 1000000 ∨ (a.names.length : Int) > 20 := by omega
  cases hm : longN a.names 20 60 with
  | true =>
    simp (maxSteps := 1000000) (disch := first | assumption | omega | rfl) only [↓vmp, vme, vmb, ty, hP, dec_t, dec_f, wrap64, List.length_map, Int.toNat_natCast, Nat.reduceAdd, List.cons_append, List.nil_append, Option.map_some, Option.map_none, strOf_mk, sb_eql, sb_neq, vmg, ↓vgd, ↓vst, ↓vix, call_long hl, hm, call_works, bo5, bo6, dec_True]
    exact retQ_one rfl rfl rfl
  | false =>
  by_cases hd : (a.data.length : Int) > 600
  · simp (maxSteps := 1000000) (disch := first | assumption | omega | rfl) only [↓vmp, vme, vmb, ty, hP, dec_t, dec_f, wrap64, List.length_map, Int.toNat_natCast, Nat.reduceAdd, List.cons_append, List.nil_append, Option.map_some, Option.map_none, strOf_mk, sb_eql, sb_neq, vmg, ↓vgd, ↓vst, ↓vix, call_long hl, hm, call_works, bo5, bo6, encB, dec_True]
    exact retQ_one rfl rfl rfl
  · unfold longN at hm
    have hm0 := hm
    rw [Bool.or_eq_false_iff] at hm
    have hn := of_decide_eq_false hm.1
    have hw : ∀ s ∈ a.names, s.length ≤ 60 := fun s hs => by
      have := List.any_eq_false.1 hm.2 s hs
      have := of_decide_eq_false (by simpa using this : decide ((s.length : Int) > 60) = false)
      omega
    have hB : AnsB a := ⟨h1, h2, h3, h4, by omega, hw, by omega⟩
    have hm : longN a.names 20 60 = false := hm0
    simp (maxSteps := 1000000) (disch := first | assumption | omega | rfl) only [↓vmp, vme, vmb, ty, hP, dec_t, dec_f, wrap64, List.length_map, Int.toNat_natCast, Nat.reduceAdd, List.cons_append, List.nil_append, Option.map_some, Option.map_none, strOf_mk, sb_eql, sb_neq, vmg, ↓vgd, ↓vst, ↓vix, call_long hl, hm, bo5, encB]
    refine wk_draw (is := [0, 1, 4, 5, 2, 3, 6, 7, 8, 9, 10, 12, 13, 11, 14, 15, 16, 17, 18, 19, 20]) (h := 0) (by kernel_rfl) (by kernel_rfl) ?_
    simp (maxSteps := 1000000) (disch := first | assumption | omega | rfl) only [List.replicate_zero, eq_self, vmd, vmk, vmo, vmg, vme, vmb, ty, hP, dec_t, dec_f, wrap64, List.length_map, Int.toNat_natCast, Nat.reduceAdd, ↓vgd, ↓vst, ↓vix, List.append_nil, dr_tell, dr_ranswer hB, dr_rranswer hB, dr_kind, dr_rkind, dr_works, bo8, bo7, bo9, bo10, bo11, bo6, sb_eql, deq, dec_True]
    refine ⟨by kernel_rfl, ?_⟩
    simp (maxSteps := 1000000) (disch := first | assumption | omega | rfl) only [↓vmp, vme, vmb, ty, hP, dec_t, dec_f, wrap64, List.length_map, Int.toNat_natCast, Nat.reduceAdd, List.cons_append, List.nil_append, Option.map_some, Option.map_none, strOf_mk, sb_eql, sb_neq, vmg, ↓vgd, ↓vst, ↓vix]
    exact retQ_one rfl rfl rfl
end Go.Proofs.YtghllhghboaagaaDoor
end
