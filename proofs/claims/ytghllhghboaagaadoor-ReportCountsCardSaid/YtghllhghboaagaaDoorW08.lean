/- The statement's own code: escheatlaw47.ReportAnswers comes to true. -/
import Derived.Test.YtghllhghboaagaaDoorW07
/-! The statement's own code: escheatlaw47.ReportAnswers comes to true. -/
section
set_option linter.unusedVariables false
set_option linter.unusedSimpArgs false
set_option maxRecDepth 100000
set_option maxHeartbeats 4000000
namespace Go.Proofs.YtghllhghboaagaaDoor
open Go.Vm
def longN (l : List (List UInt8)) (many size : Int) : Bool := decide ((l.length : Int) > many) || l.any fun s => decide ((s.length : Int) > size)
theorem long_l (l : List (List UInt8)) (many size : Int) (hl : l.length < 1000000) (R : Post) (x6 : V) : ∀ (k i : Nat) (g3 g4 g5 g8 g9 g10 g11 g12 g13 g14 g15 g16 g17 g18 g19 g20 g21 g22 g23 g24 : V), l.length - i = k → i ≤ l.length →
   ((l.drop i).any (fun s => decide ((s.length : Int) > size)) = false → ∀ i' g3 g4 g5 g8 g9 g10 g11 g12 g13 g14 g15 g16 g17 g18 g19 g20 g21 g22 g23 g24, R (.exit 0) ((.d (.sl (l.map .str))) :: (.d (.int .i64 many)) :: (.d (.int .i64 size)) :: g3 :: g4 :: g5 :: x6 :: i' :: g8 :: g9 :: g10 :: g11 :: g12 :: g13 :: g14 :: g15 :: g16 :: g17 :: g18 :: g19 :: g20 :: g21 :: g22 :: g23 :: g24 :: []) [] []) →
   ((l.drop i).any (fun s => decide ((s.length : Int) > size)) = true → ∀ i' g3 g4 g5 g8 g9 g10 g11 g12 g13 g14 g15 g16 g17 g18 g19 g20 g21 g22 g23 g24, R .ret ((.d (.sl (l.map .str))) :: (.d (.int .i64 many)) :: (.d (.int .i64 size)) :: g3 :: g4 :: g5 :: (.d (.bool true)) :: i' :: g8 :: g9 :: g10 :: g11 :: g12 :: g13 :: g14 :: g15 :: g16 :: g17 :: g18 :: g19 :: g20 :: g21 :: g22 :: g23 :: g24 :: []) [] []) →
   Wp cfg (.loop (lpOf (Tryd.f5.body.getD .skip) 0)) ((.d (.sl (l.map .str))) :: (.d (.int .i64 many)) :: (.d (.int .i64 size)) :: g3 :: g4 :: g5 :: x6 :: (.d (.int .i64 i)) :: g8 :: g9 :: g10 :: g11 :: g12 :: g13 :: g14 :: g15 :: g16 :: g17 :: g18 :: g19 :: g20 :: g21 :: g22 :: g23 :: g24 :: []) [] [] R := by
  intro k
  induction k with
  | zero =>
    intro i g3 g4 g5 g8 g9 g10 g11 g12 g13 g14 g15 g16 g17 g18 g19 g20 g21 g22 g23 g24 hk hi hR hT
    have hie : i = l.length := by omega
    rw [hie, List.drop_length] at hR
    rw [wk_of]
    refine wk_loop ?_
    conv => arg 2; whnf
    simp (maxSteps := 1000000) (disch := first | assumption | omega | rfl) only [↓vmp, vme, vmb, ty, hP, dec_t, dec_f, wrap64, List.length_map, Int.toNat_natCast, Nat.reduceAdd, List.cons_append, List.nil_append, Option.map_some, Option.map_none, strOf_mk, sb_eql, sb_neq, vmg, ↓vgd, ↓vst, ↓vix]
    exact hR rfl _ _ _ _ _ _ _ _ _ _ _ _ _ _ _ _ _ _ _ _ _
  | succ k ih =>
    intro i g3 g4 g5 g8 g9 g10 g11 g12 g13 g14 g15 g16 g17 g18 g19 g20 g21 g22 g23 g24 hk hi hR hT
    have hlt : i < l.length := by omega
    have hd : l.drop i = l[i] :: l.drop (i + 1) := List.drop_eq_getElem_cons hlt
    have hix := fun S => ix23 (S := S) hlt
    rw [hd, List.any_cons] at hR hT
    rw [wk_of]
    refine wk_loop ?_
    conv => arg 2; whnf
    by_cases hc : (l[i].length : Int) > size
    · have hdc : decide ((l[i].length : Int) > size) = true := decide_eq_true hc
      simp (maxSteps := 1000000) (disch := first | assumption | omega | rfl) only [↓vmp, vme, vmb, ty, hP, dec_t, dec_f, wrap64, List.length_map, Int.toNat_natCast, Nat.reduceAdd, List.cons_append, List.nil_append, Option.map_some, Option.map_none, strOf_mk, sb_eql, sb_neq, vmg, ↓vgd, ↓vst, ↓vix, hix]
      exact hT (by rw [hdc]; rfl) _ _ _ _ _ _ _ _ _ _ _ _ _ _ _ _ _ _ _ _ _
    · have hdc : decide ((l[i].length : Int) > size) = false := decide_eq_false hc
      rw [hdc, Bool.false_or] at hR hT
      simp (maxSteps := 1000000) (disch := first | assumption | omega | rfl) only [↓vmp, vme, vmb, ty, hP, dec_t, dec_f, wrap64, List.length_map, Int.toNat_natCast, Nat.reduceAdd, List.cons_append, List.nil_append, Option.map_some, Option.map_none, strOf_mk, sb_eql, sb_neq, vmg, ↓vgd, ↓vst, ↓vix, hix]
      exact ih (i + 1) _ _ _ _ _ _ _ _ _ _ _ _ _ _ _ _ _ _ _ _ (by omega) (by omega) hR hT
theorem long_ok (l : List (List UInt8)) (many size : Int) (hl : l.length < 1000000 ∨ (l.length : Int) > many) : Ev cfg 5 [.sl (l.map .str), .int .i64 many, .int .i64 size] (.ret (.d (.bool (longN l many size)))) := by
  refine ev_of rfl rfl body5 ?_
  show Wp cfg (Tryd.f5.body.getD .skip) ((.d (.sl (l.map .str))) :: (.d (.int .i64 many)) :: (.d (.int .i64 size)) :: (.tup []) :: (.tup []) :: (.tup []) :: (.tup []) :: (.tup []) :: (.tup []) :: (.tup []) :: (.tup []) :: (.tup []) :: (.tup []) :: (.tup []) :: (.tup []) :: (.tup []) :: (.tup []) :: (.tup []) :: (.tup []) :: (.tup []) :: (.tup []) :: (.tup []) :: (.tup []) :: (.tup []) :: (.tup []) :: []) [] [] _
  conv => arg 2; whnf
  unfold longN
  by_cases hc : (l.length : Int) > many
  · have hdc : decide ((l.length : Int) > many) = true := decide_eq_true hc
    rw [hdc, Bool.true_or]
    simp (maxSteps := 1000000) (disch := first | assumption | omega | rfl) only [↓vmp, vme, vmb, ty, hP, dec_t, dec_f, wrap64, List.length_map, Int.toNat_natCast, Nat.reduceAdd, List.cons_append, List.nil_append, Option.map_some, Option.map_none, strOf_mk, sb_eql, sb_neq, vmg, ↓vgd, ↓vst, ↓vix]
    exact retQ_one rfl rfl rfl
  · have hdc : decide ((l.length : Int) > many) = false := decide_eq_false hc
    rw [hdc, Bool.false_or]
    have hl := hl.resolve_right hc
    generalize hr : (l.any fun s => decide ((s.length : Int) > size)) = r
    simp (maxSteps := 1000000) (disch := first | assumption | omega | rfl) only [↓vmp, vme, vmb, ty, hP, dec_t, dec_f, wrap64, List.length_map, Int.toNat_natCast, Nat.reduceAdd, List.cons_append, List.nil_append, Option.map_some, Option.map_none, strOf_mk, sb_eql, sb_neq, vmg, ↓vgd, ↓vst, ↓vix]
    refine long_l l many size hl _ _ l.length 0 _ _ _ _ _ _ _ _ _ _ _ _ _ _ _ _ _ _ _ _ rfl (Nat.zero_le _) ?_ ?_
    · intro h i' g3 g4 g5 g8 g9 g10 g11 g12 g13 g14 g15 g16 g17 g18 g19 g20 g21 g22 g23 g24
      rw [List.drop_zero, hr] at h
      subst h
      simp (maxSteps := 1000000) (disch := first | assumption | omega | rfl) only [↓vmp, vme, vmb, ty, hP, dec_t, dec_f, wrap64, List.length_map, Int.toNat_natCast, Nat.reduceAdd, List.cons_append, List.nil_append, Option.map_some, Option.map_none, strOf_mk, sb_eql, sb_neq, vmg, ↓vgd, ↓vst, ↓vix]
      exact retQ_one rfl rfl rfl
    · intro h i' g3 g4 g5 g8 g9 g10 g11 g12 g13 g14 g15 g16 g17 g18 g19 g20 g21 g22 g23 g24
      rw [List.drop_zero, hr] at h
      subst h
      simp (maxSteps := 1000000) (disch := first | assumption | omega | rfl) only [↓vmp, vme, vmb, ty, hP, dec_t, dec_f, wrap64, List.length_map, Int.toNat_natCast, Nat.reduceAdd, List.cons_append, List.nil_append, Option.map_some, Option.map_none, strOf_mk, sb_eql, sb_neq, vmg, ↓vgd, ↓vst, ↓vix]
      exact retQ_one rfl rfl rfl
theorem bd31 {a : Ans} : buildV Tryd.prog 31 [(0, .d (.int .i64 a.err)), (1, .d (.int .i64 a.ino)), (2, .d (.int .i64 a.kind)), (3, .d (.int .i64 a.links)), (4, .d (.int .i64 a.size)), (5, .d (encB a.data)), (6, .d (.sl (a.names.map .str)))] = some (.agg [.d (.int .i64 a.err), .d (.int .i64 a.ino), .d (.int .i64 a.kind), .d (.int .i64 a.links), .d (.int .i64 a.size), .d (encB a.data), .d (.sl (a.names.map .str))]) := by kernel_rfl
theorem tell_ok (a : Ans) : Ev cfg 8 [encAns a] (.ret (.d (encAns a))) := by
  refine ev_of rfl rfl body8 ?_
  show Wp cfg (Tryd.f8.body.getD .skip) ((.d (encAns a)) :: (.tup []) :: (.tup []) :: (.tup []) :: (.tup []) :: (.tup []) :: (.tup []) :: (.tup []) :: (.tup []) :: (.tup []) :: (.tup []) :: (.tup []) :: (.tup []) :: (.tup []) :: (.tup []) :: (.tup []) :: (.tup []) :: (.tup []) :: []) [] [] _
  conv => arg 2; whnf
  simp (maxSteps := 1000000) (disch := first | assumption | omega | rfl) only [↓vmp, vme, vmb, ty, hP, dec_t, dec_f, wrap64, List.length_map, Int.toNat_natCast, Nat.reduceAdd, List.cons_append, List.nil_append, Option.map_some, Option.map_none, strOf_mk, sb_eql, sb_neq, vmg, ↓vgd, ↓vst, ↓vix, z31, zf31, bd31]
  exact retQ_cell (u := .ref 1 0 0) (v := .agg [.d (.int .i64 a.err), .d (.int .i64 a.ino), .d (.int .i64 a.kind), .d (.int .i64 a.links), .d (.int .i64 a.size), .d (encB a.data), .d (.sl (a.names.map .str))]) rfl rfl rfl (by kernel_rfl)
section
variable {ops : Array Oper} {F : Dfs} {Q : Post} {K : List Nat → List (Nat × Nat) → List V → Store → Prop} {rd : List Nat} {cs : List (Nat × Nat)} {i : Nat} {dst : Option Tmp} {T : List V} {S : Store}
theorem dr_tell {a : Ans} : WpE cfg ops F Q K rd cs i dst T S (some (.enter 8 [.d (encAns a)])) = K (i :: rd) (cs ++ [(i, 1)]) (putT T dst (.d (encAns a))) S :=
  we_call_d (ds := [encAns a]) rfl (tell_ok a)
theorem dr_ranswer {d : Int} {a : Ans} (h : AnsB a) : WpE cfg ops F Q K rd cs i dst T S (some (.enter 7 [.d (.int .i64 d), .d (encAns a)])) = K (i :: rd) (cs ++ [(i, 1)]) (putT T dst (.d (.str (ansS d a)))) S :=
  we_call_d (ds := [.int .i64 d, encAns a]) rfl (ranswer_ok d a h)
theorem dr_rranswer {d : Int} {a : Ans} (h : AnsB a) : WpE cfg ops F Q K rd cs i dst T S (some (.enter 9 [.d (.int .i64 d), .d (encAns a)])) = K (i :: rd) (cs ++ [(i, 1)]) (putT T dst (.d (.str (ansS d a)))) S :=
  we_call_d (ds := [.int .i64 d, encAns a]) rfl (rranswer_ok d a h)
theorem works_ev : Ev cfg 6 [] (.ret (.d (.bool true))) := ⟨0, rfl⟩
theorem dr_works : WpE cfg ops F Q K rd cs i dst T S (some (.enter 6 [])) = K (i :: rd) (cs ++ [(i, 1)]) (putT T dst (.d (.bool true))) S :=
  we_call_d (ds := []) rfl works_ev
end
section
variable {ops : Array Oper} {dst : Option Tmp} {k : List Oper} {T : List V} {S : Store} {F : Dfs} {Q : Post}
theorem call_works : WpR cfg ops dst k T S F Q (some (.enter 6 [])) = WpL cfg ops k (putT T dst (.d (.bool true))) S F Q :=
  wr_call_d (ds := []) rfl works_ev
theorem call_long {l : List (List UInt8)} {m n : Int} (h : l.length < 1000000 ∨ (l.length : Int) > m) : WpR cfg ops dst k T S F Q (some (.enter 5 [.d (.sl (l.map .str)), .d (.int .i64 m), .d (.int .i64 n)])) = WpL cfg ops k (putT T dst (.d (.bool (longN l m n)))) S F Q :=
  wr_call_d (ds := [.sl (l.map .str), .int .i64 m, .int .i64 n]) rfl (long_ok l m n h)
end
theorem answers_ok (dos : Int) (a : Ans) (h1 : InB a.err) (h2 : InB a.ino) (h3 : InB a.links) (h4 : InB a.size) : Ev cfg 3 [.int .i64 dos, encAns a] (.ret (.d (.bool true))) := by
  refine ev_of rfl rfl body3 ?_
  show Wp cfg (Tryd.f3.body.getD .skip) ((.d (.int .i64 dos)) :: (.d (encAns a)) :: (.tup []) :: (.tup []) :: (.tup []) :: (.tup []) :: (.tup []) :: (.tup []) :: (.tup []) :: (.tup []) :: (.tup []) :: (.tup []) :: (.tup []) :: (.tup []) :: (.tup []) :: (.tup []) :: (.tup []) :: (.tup []) :: (.tup []) :: (.tup []) :: (.tup []) :: (.tup []) :: (.tup []) :: (.tup []) :: (.tup []) :: (.tup []) :: (.tup []) :: (.tup []) :: (.tup []) :: (.tup []) :: (.tup []) :: (.tup []) :: (.tup []) :: (.tup []) :: (.tup []) :: []) [] [] _
  conv => arg 2; whnf
  have hl : a.names.length < 1000000 ∨ (a.names.length : Int) > 20 := by omega
  cases hm : longN a.names 20 60 with
  | true =>
    simp (maxSteps := 1000000) (disch := first | assumption | omega | rfl) only [↓vmp, vme, vmb, ty, hP, dec_t, dec_f, wrap64, List.length_map, Int.toNat_natCast, Nat.reduceAdd, List.cons_append, List.nil_append, Option.map_some, Option.map_none, strOf_mk, sb_eql, sb_neq, vmg, ↓vgd, ↓vst, ↓vix, call_long hl, hm, call_works, bo5, bo6, dec_True]
    exact retQ_one rfl rfl rfl
  | false =>
  by_cases hd : (a.data.length : Int) > 600
  · simp (maxSteps := 1000000) (disch := first | assumption | omega | rfl) only [↓vmp, vme, vmb, ty, hP, dec_t, dec_f, wrap64, List.length_map, Int.toNat_natCast, Nat.reduceAdd, List.cons_append, List.nil_append, Option.map_some, Option.map_none, strOf_mk, sb_eql, sb_neq, vmg, ↓vgd, ↓vst, ↓vix, call_long hl, hm, call_works, bo5, bo6, encB, dec_True]
    exact retQ_one rfl rfl rfl
  · unfold longN at hm
    have hm0 := hm
    rw [Bool.or_eq_false_iff] at hm
    have hn := of_decide_eq_false hm.1
    have hw : ∀ s ∈ a.names, s.length ≤ 60 := fun s hs => by
      have := List.any_eq_false.1 hm.2 s hs
      have := of_decide_eq_false (by simpa using this : decide ((s.length : Int) > 60) = false)
      omega
    have hB : AnsB a := ⟨h1, h2, h3, h4, by omega, hw, by omega⟩
    have hm : longN a.names 20 60 = false := hm0
    simp (maxSteps := 1000000) (disch := first | assumption | omega | rfl) only [↓vmp, vme, vmb, ty, hP, dec_t, dec_f, wrap64, List.length_map, Int.toNat_natCast, Nat.reduceAdd, List.cons_append, List.nil_append, Option.map_some, Option.map_none, strOf_mk, sb_eql, sb_neq, vmg, ↓vgd, ↓vst, ↓vix, call_long hl, hm, bo5, encB]
    refine wk_draw (is := [0, 1, 4, 5, 2, 3, 6, 7, 8, 9, 10, 12, 13, 11, 14, 15, 16, 17, 18, 19, 20]) (h := 0) (by kernel_rfl) (by kernel_rfl) ?_
    simp (maxSteps := 1000000) (disch := first | assumption | omega | rfl) only [List.replicate_zero, eq_self, vmd, vmk, vmo, vmg, vme, vmb, ty, hP, dec_t, dec_f, wrap64, List.length_map, Int.toNat_natCast, Nat.reduceAdd, ↓vgd, ↓vst, ↓vix, List.append_nil, dr_tell, dr_ranswer hB, dr_rranswer hB, dr_kind, dr_rkind, dr_works, bo8, bo7, bo9, bo10, bo11, bo6, sb_eql, deq, dec_True]
    refine ⟨by kernel_rfl, ?_⟩
    simp (maxSteps := 1000000) (disch := first | assumption | omega | rfl) only [↓vmp, vme, vmb, ty, hP, dec_t, dec_f, wrap64, List.length_map, Int.toNat_natCast, Nat.reduceAdd, List.cons_append, List.nil_append, Option.map_some, Option.map_none, strOf_mk, sb_eql, sb_neq, vmg, ↓vgd, ↓vst, ↓vix]
    exact retQ_one rfl rfl rfl
end Go.Proofs.YtghllhghboaagaaDoor
end
/-! whole.Name, report.Faults and the document's: the names of the faults, with one blank between. -/
section
set_option linter.unusedVariables false
set_option linter.unusedSimpArgs false
set_option maxRecDepth 100000
set_option maxHeartbeats 4000000
namespace Go.Proofs.YtghllhghboaagaaDoor
open Go.Vm
def nmL : List (List UInt8) := [[], [115, 117, 112, 101, 114], [99, 108, 101, 97, 110], [114, 111, 111, 116], [108, 111, 115, 116], [108, 105, 110, 107, 115], [110, 97, 109, 101, 115], [100, 105, 114], [102, 105, 108, 101], [116, 119, 105, 99, 101], [109, 97, 112]]
def nameS (n : Int) : List UInt8 := if 0 ≤ n ∧ n ≤ 10 then nmL.getD n.toNat [] else []
theorem nameS_len (n : Int) : (nameS n).length ≤ 5 := by
  unfold nameS
  split
  · have : ∀ k : Fin 11, (nmL.getD k.val []).length ≤ 5 := by decide
    exact this ⟨n.toNat, by omega⟩
  · simp
theorem name_in : ∀ k : Nat, k < 11 → Ev cfg 25 [.int .i64 (k : Int)] (.ret (.d (.str (nmL.getD k []))))
  | 0, _ => ⟨400, by kernel_rfl⟩
  | 1, _ => ⟨400, by kernel_rfl⟩
  | 2, _ => ⟨400, by kernel_rfl⟩
  | 3, _ => ⟨400, by kernel_rfl⟩
  | 4, _ => ⟨400, by kernel_rfl⟩
  | 5, _ => ⟨400, by kernel_rfl⟩
  | 6, _ => ⟨400, by kernel_rfl⟩
  | 7, _ => ⟨400, by kernel_rfl⟩
  | 8, _ => ⟨400, by kernel_rfl⟩
  | 9, _ => ⟨400, by kernel_rfl⟩
  | 10, _ => ⟨400, by kernel_rfl⟩
  | n + 11, h => absurd h (by omega)
theorem ix_nm {S : Store} : ∀ k : Nat, k < 11 → indexAddrV Tryd.prog S 23 (.ts [.str [], .str [115, 117, 112, 101, 114], .str [99, 108, 101, 97, 110], .str [114, 111, 111, 116], .str [108, 111, 115, 116], .str [108, 105, 110, 107, 115], .str [110, 97, 109, 101, 115], .str [100, 105, 114], .str [102, 105, 108, 101], .str [116, 119, 105, 99, 101], .str [109, 97, 112]]) (.d (.int .i64 (k : Int))) = some (.d (.ptr (.str (nmL.getD k []))))
  | 0, _ => by kernel_rfl
  | 1, _ => by kernel_rfl
  | 2, _ => by kernel_rfl
  | 3, _ => by kernel_rfl
  | 4, _ => by kernel_rfl
  | 5, _ => by kernel_rfl
  | 6, _ => by kernel_rfl
  | 7, _ => by kernel_rfl
  | 8, _ => by kernel_rfl
  | 9, _ => by kernel_rfl
  | 10, _ => by kernel_rfl
  | n + 11, h => absurd h (by omega)
theorem z60 : zeroV Tryd.prog 60 = some (.agg (List.replicate 11 (.d (.str [])))) := by kernel_rfl
theorem name_ok (n : Int) : Ev cfg 25 [.int .i64 n] (.ret (.d (.str (nameS n)))) := by
  unfold nameS
  by_cases h : 0 ≤ n ∧ n ≤ 10
  · rw [if_pos h]
    have := name_in n.toNat (by omega)
    rw [Int.toNat_of_nonneg h.1] at this
    exact this
  · rw [if_neg h]
    have z60 : zeroV Tryd.prog 60 = some (.agg [.d (.str []), .d (.str []), .d (.str []), .d (.str []), .d (.str []), .d (.str []), .d (.str []), .d (.str []), .d (.str []), .d (.str []), .d (.str [])]) := by kernel_rfl
    have zf60 : fitsT Tryd.prog 60 (.agg [.d (.str []), .d (.str []), .d (.str []), .d (.str []), .d (.str []), .d (.str []), .d (.str []), .d (.str []), .d (.str []), .d (.str []), .d (.str [])]) = true := by kernel_rfl
    have zb60 : fitsT Tryd.prog 60 (.agg [.d (.str []), .d (.str [115, 117, 112, 101, 114]), .d (.str [99, 108, 101, 97, 110]), .d (.str [114, 111, 111, 116]), .d (.str [108, 111, 115, 116]), .d (.str [108, 105, 110, 107, 115]), .d (.str [110, 97, 109, 101, 115]), .d (.str [100, 105, 114]), .d (.str [102, 105, 108, 101]), .d (.str [116, 119, 105, 99, 101]), .d (.str [109, 97, 112])]) = true := by kernel_rfl
    have bd60 : buildV Tryd.prog 60 [(0, .d (.str [])), (1, .d (.str [115, 117, 112, 101, 114])), (2, .d (.str [99, 108, 101, 97, 110])), (3, .d (.str [114, 111, 111, 116])), (4, .d (.str [108, 111, 115, 116])), (5, .d (.str [108, 105, 110, 107, 115])), (6, .d (.str [110, 97, 109, 101, 115])), (7, .d (.str [100, 105, 114])), (8, .d (.str [102, 105, 108, 101])), (9, .d (.str [116, 119, 105, 99, 101])), (10, .d (.str [109, 97, 112]))] = some (.agg [.d (.str []), .d (.str [115, 117, 112, 101, 114]), .d (.str [99, 108, 101, 97, 110]), .d (.str [114, 111, 111, 116]), .d (.str [108, 111, 115, 116]), .d (.str [108, 105, 110, 107, 115]), .d (.str [110, 97, 109, 101, 115]), .d (.str [100, 105, 114]), .d (.str [102, 105, 108, 101]), .d (.str [116, 119, 105, 99, 101]), .d (.str [109, 97, 112])]) := by kernel_rfl
    have sr60 : storeR Tryd.prog 60 0 (.agg [.d (.str []), .d (.str [115, 117, 112, 101, 114]), .d (.str [99, 108, 101, 97, 110]), .d (.str [114, 111, 111, 116]), .d (.str [108, 111, 115, 116]), .d (.str [108, 105, 110, 107, 115]), .d (.str [110, 97, 109, 101, 115]), .d (.str [100, 105, 114]), .d (.str [102, 105, 108, 101]), .d (.str [116, 119, 105, 99, 101]), .d (.str [109, 97, 112])]) (.agg [.d (.str []), .d (.str []), .d (.str []), .d (.str []), .d (.str []), .d (.str []), .d (.str []), .d (.str []), .d (.str []), .d (.str []), .d (.str [])]) = some (.agg [.d (.str []), .d (.str [115, 117, 112, 101, 114]), .d (.str [99, 108, 101, 97, 110]), .d (.str [114, 111, 111, 116]), .d (.str [108, 111, 115, 116]), .d (.str [108, 105, 110, 107, 115]), .d (.str [110, 97, 109, 101, 115]), .d (.str [100, 105, 114]), .d (.str [102, 105, 108, 101]), .d (.str [116, 119, 105, 99, 101]), .d (.str [109, 97, 112])]) := by kernel_rfl
    refine ev_of rfl rfl body25 ?_
    show Wp cfg (Tryd.f25.body.getD .skip) ((.d (.int .i64 n)) :: (.tup []) :: (.tup []) :: (.tup []) :: (.tup []) :: (.tup []) :: (.tup []) :: (.tup []) :: (.tup []) :: (.tup []) :: (.tup []) :: (.tup []) :: (.tup []) :: (.tup []) :: []) [] [] _
    conv => arg 2; whnf
    by_cases hn : n < 0
    · simp (maxSteps := 1000000) (disch := first | assumption | omega | rfl) only [↓vmp, vme, vmb, ty, hP, dec_t, dec_f, wrap64, List.length_map, Int.toNat_natCast, Nat.reduceAdd, List.cons_append, List.nil_append, Option.map_some, Option.map_none, strOf_mk, sb_eql, sb_neq, vmg, ↓vgd, ↓vst, ↓vix, z60, zf60, zb60, bd60, sr60]
      exact retQ_one rfl rfl rfl
    · have h11 : n ≥ 11 := by omega
      simp (maxSteps := 1000000) (disch := first | assumption | omega | rfl) only [↓vmp, vme, vmb, ty, hP, dec_t, dec_f, wrap64, List.length_map, Int.toNat_natCast, Nat.reduceAdd, List.cons_append, List.nil_append, Option.map_some, Option.map_none, strOf_mk, sb_eql, sb_neq, vmg, ↓vgd, ↓vst, ↓vix, z60, zf60, zb60, bd60, sr60]
      exact retQ_one rfl rfl rfl
end Go.Proofs.YtghllhghboaagaaDoor
end
/-! report.Faults and the document's: the names of the faults, with one blank between. -/
section
set_option linter.unusedVariables false
set_option linter.unusedSimpArgs false
set_option maxRecDepth 100000
set_option maxHeartbeats 4000000
namespace Go.Proofs.YtghllhghboaagaaDoor
open Go.Vm
theorem tail_len2 {B : Nat} {sep : List UInt8} : ∀ {l : List (List UInt8)}, (∀ s ∈ l, s.length ≤ B) → (Lib.joinTail sep l).length ≤ l.length * (B + sep.length)
  | [], _ => Nat.zero_le _
  | s :: r, h => by
    have e : Lib.joinTail sep (s :: r) = sep ++ s ++ Lib.joinTail sep r := by simp [Lib.joinTail]
    have h1 := h s (by simp)
    have h2 := tail_len2 (l := r) (B := B) (sep := sep) fun x hx => h x (by simp [hx])
    have e2 : (s :: r).length * (B + sep.length) = r.length * (B + sep.length) + (B + sep.length) := by rw [List.length_cons, Nat.succ_mul]
    rw [e, e2, List.length_append, List.length_append]
    omega
theorem join_len2 {B : Nat} {sep : List UInt8} : ∀ {l : List (List UInt8)}, (∀ s ∈ l, s.length ≤ B) → (Lib.join l sep).length ≤ l.length * (B + sep.length)
  | [], _ => Nat.zero_le _
  | s :: r, h => by
    have h1 := h s (by simp)
    have h2 := tail_len2 (l := r) (B := B) (sep := sep) fun x hx => h x (by simp [hx])
    have e2 : (s :: r).length * (B + sep.length) = r.length * (B + sep.length) + (B + sep.length) := by rw [List.length_cons, Nat.succ_mul]
    rw [e2, Lib.join_cons, List.length_append]
    omega
theorem join_len32 {B : Nat} {l : List (List UInt8)} (h : ∀ s ∈ l, s.length ≤ B) : (Lib.join l [32]).length ≤ l.length * (B + 1) := join_len2 (sep := [32]) h
theorem take_snoc {α : Type} {l : List α} {i : Nat} (h : i < l.length) : l.take (i + 1) = l.take i ++ [l[i]] := by
  rw [List.take_add_one, List.getElem?_eq_getElem h]
  rfl
def rightS : List UInt8 := [114, 105, 103, 104, 116]
def faultsS (l : List Int) : List UInt8 := if l.length = 0 then rightS else Lib.join (l.map nameS) [32]
theorem nil9 : (sz Tryd.prog 9).isSome = true := by kernel_rfl
/-- A word more. -/
theorem app_one {S : Store} {v : V} {l : List (List UInt8)} (x : List UInt8) (hl : l.length ≤ 100000) (h : SlE D.str S v 9 l) : ∃ v' S' c, appendV Tryd.prog S 23 23 v (.ts [.str x]) = some (v', S', c) ∧ (c = 1 ∨ c = 2 ∨ c = 3) ∧ SlE D.str S' v' 9 (l ++ [x]) ∧ (∀ (j : Nat) (o : Ob), S[j]? = some o → idOf v ≠ some j → S'[j]? = some o) ∧ (∀ i, idOf v' = some i → idOf v = some i ∨ S.length ≤ i) := by
  obtain ⟨v', S', c, h1, h2⟩ := app_data (t := 23) (enc := D.str) (ds := [x]) Tryd.underlying23 zOk23 nil9 fitsT9 (room23 (by simp; omega)) h
  exact ⟨v', S', c, by rw [app_ts]; exact h1, h2⟩
section
variable {ops : Array Oper} {dst : Option Tmp} {k : List Oper} {T : List V} {S : Store} {F : Dfs} {Q : Post}
theorem call_name {n : Int} : WpR cfg ops dst k T S F Q (some (.enter 25 [.d (.int .i64 n)])) = WpL cfg ops k (putT T dst (.d (.str (nameS n)))) S F Q :=
  wr_call_d (ds := [.int .i64 n]) rfl (name_ok n)
end
theorem faults_l (l : List Int) (hl : l.length ≤ 20) (R : Post) (x0 x2 : V) : ∀ (k i : Nat) (v : V) (S : Store) (g1 g4 g5 g6 g7 g8 g12 g13 g14 g15 g16 g17 g18 g19 g20 g21 g22 : V), l.length - i = k → i ≤ l.length → SlE D.str S v 9 ((l.take i).map nameS) →
   (∀ S v i' g1 g4 g5 g6 g7 g8 g12 g13 g14 g15 g16 g17 g18 g19 g20 g21 g22, SlE D.str S v 9 (l.map nameS) → R (.exit 0) (x0 :: g1 :: x2 :: v :: g4 :: g5 :: g6 :: g7 :: g8 :: (.d (.sl (l.map fun n => D.int .i64 n))) :: (.d (.int .i64 l.length)) :: i' :: g12 :: g13 :: g14 :: g15 :: g16 :: g17 :: g18 :: g19 :: g20 :: g21 :: g22 :: []) S []) →
   Wp cfg (.loop (lpOf (Tryd.f14.body.getD .skip) 0)) (x0 :: g1 :: x2 :: v :: g4 :: g5 :: g6 :: g7 :: g8 :: (.d (.sl (l.map fun n => D.int .i64 n))) :: (.d (.int .i64 l.length)) :: (.d (.int .i64 i)) :: g12 :: g13 :: g14 :: g15 :: g16 :: g17 :: g18 :: g19 :: g20 :: g21 :: g22 :: []) S [] R := by
  intro k
  induction k with
  | zero =>
    intro i v S g1 g4 g5 g6 g7 g8 g12 g13 g14 g15 g16 g17 g18 g19 g20 g21 g22 hk hi hv hR
    have hie : i = l.length := by omega
    rw [hie, List.take_length] at hv
    rw [wk_of]
    refine wk_loop ?_
    conv => arg 2; whnf
    simp (maxSteps := 1000000) (disch := first | assumption | omega | rfl) only [↓vmp, vme, vmb, ty, hP, dec_t, dec_f, wrap64, List.length_map, Int.toNat_natCast, Nat.reduceAdd, List.cons_append, List.nil_append, Option.map_some, Option.map_none, strOf_mk, sb_eql, sb_neq, vmg, ↓vgd, ↓vst, ↓vix]
    exact hR _ _ _ _ _ _ _ _ _ _ _ _ _ _ _ _ _ _ _ _ hv
  | succ k ih =>
    intro i v S g1 g4 g5 g6 g7 g8 g12 g13 g14 g15 g16 g17 g18 g19 g20 g21 g22 hk hi hv hR
    have hlt : i < l.length := by omega
    have hix := fun S => ix37 (S := S) hlt
    obtain ⟨v', S', c, e1, hc, e2, -⟩ := app_one (nameS l[i]) (by simp; omega) hv
    have e3 := e2.one
    rw [show (l.take i).map nameS ++ [nameS l[i]] = (l.take (i + 1)).map nameS by rw [take_snoc hlt, List.map_append]; rfl] at e2
    rw [wk_of]
    refine wk_loop ?_
    conv => arg 2; whnf
    simp (maxSteps := 1000000) (disch := first | assumption | omega | rfl) only [↓vmp, vme, vmb, ty, hP, dec_t, dec_f, wrap64, List.length_map, Int.toNat_natCast, Nat.reduceAdd, List.cons_append, List.nil_append, Option.map_some, Option.map_none, strOf_mk, sb_eql, sb_neq, vmg, ↓vgd, ↓vst, ↓vix, ↓vbs, hix, call_name, bo25, bs23, e1, e3]
    exact ih (i + 1) _ _ _ _ _ _ _ _ _ _ _ _ _ _ _ _ _ _ _ (by omega) (by omega) e2 hR
theorem faults_ok (l : List Int) (hl : l.length ≤ 20) : Ev cfg 14 [.sl (l.map fun n => D.int .i64 n)] (.ret (.d (.str (faultsS l)))) := by
  refine ev_of rfl rfl body14 ?_
  show Wp cfg (Tryd.f14.body.getD .skip) ((.d (.sl (l.map fun n => D.int .i64 n))) :: (.tup []) :: (.tup []) :: (.tup []) :: (.tup []) :: (.tup []) :: (.tup []) :: (.tup []) :: (.tup []) :: (.tup []) :: (.tup []) :: (.tup []) :: (.tup []) :: (.tup []) :: (.tup []) :: (.tup []) :: (.tup []) :: (.tup []) :: (.tup []) :: (.tup []) :: (.tup []) :: (.tup []) :: (.tup []) :: []) [] [] _
  conv => arg 2; whnf
  unfold faultsS
  by_cases h0 : l.length = 0
  · rw [if_pos h0]
    simp (maxSteps := 1000000) (disch := first | assumption | omega | rfl) only [↓vmp, vme, vmb, ty, hP, dec_t, dec_f, wrap64, List.length_map, Int.toNat_natCast, Nat.reduceAdd, List.cons_append, List.nil_append, Option.map_some, Option.map_none, strOf_mk, sb_eql, sb_neq, vmg, ↓vgd, ↓vst, ↓vix, dec_True]
    exact retQ_one rfl rfl rfl
  · rw [if_neg h0]
    simp (maxSteps := 1000000) (disch := first | assumption | omega | rfl) only [↓vmp, vme, vmb, ty, hP, dec_t, dec_f, wrap64, List.length_map, Int.toNat_natCast, Nat.reduceAdd, List.cons_append, List.nil_append, Option.map_some, Option.map_none, strOf_mk, sb_eql, sb_neq, vmg, ↓vgd, ↓vst, ↓vix]
    refine faults_l l hl _ _ _ l.length 0 _ _ _ _ _ _ _ _ _ _ _ _ _ _ _ _ _ _ _ rfl (Nat.zero_le _) (.inl ⟨rfl, rfl⟩) ?_
    intro S v i' g1 g4 g5 g6 g7 g8 g12 g13 g14 g15 g16 g17 g18 g19 g20 g21 g22 hv
    have hj := join_len32 (B := 5) (l := l.map nameS) (fun s hs => by obtain ⟨n, _, rfl⟩ := List.mem_map.1 hs; exact nameS_len n)
    rw [List.length_map] at hj
    have hcl : ∀ {ops : Array Oper} {dst : Option Tmp} {k : List Oper} {T : List V} {F : Dfs} {Q : Post}, WpR cfg ops dst k T S F Q (some (.enter 18 [v])) = WpL cfg ops k (putT T dst (.d (.str (Lib.join (l.map nameS) [32])))) S F Q := fun {ops dst k T F Q} => call_line hv.frz (by simp; omega) (by omega)
    have h1 := hv.one
    simp (maxSteps := 1000000) (disch := first | assumption | omega | rfl) only [↓vmp, vme, vmb, ty, hP, dec_t, dec_f, wrap64, List.length_map, Int.toNat_natCast, Nat.reduceAdd, List.cons_append, List.nil_append, Option.map_some, Option.map_none, strOf_mk, sb_eql, sb_neq, vmg, ↓vgd, ↓vst, ↓vix, hcl, bo18, h1]
    exact retQ_one rfl rfl rfl
theorem rfaults_l (l : List Int) (hl : l.length ≤ 20) (R : Post) (x2 nm : V) (hnm : ∀ S n, 0 ≤ n → n ≤ 10 → indexAddrV Tryd.prog S 23 nm (.d (.int .i64 n)) = some (.d (.ptr (.str (nameS n))))) : ∀ (k i : Nat) (g1 g6 g7 g8 g9 g10 g11 g12 g13 g14 g15 g16 g17 g18 g19 g20 g21 g22 g23 g24 g25 g26 g27 g28 g29 g30 g31 g32 g33 g34 g35 g36 g37 g38 g39 g40 g41 : V), l.length - i = k → i ≤ l.length →
   (∀ i' g1 g6 g7 g8 g9 g10 g11 g12 g13 g14 g15 g16 g17 g18 g19 g20 g21 g22 g23 g24 g25 g26 g27 g28 g29 g30 g31 g32 g33 g34 g35 g36 g37 g38 g39 g40 g41, R (.exit 0) ((.d (.sl (l.map fun n => D.int .i64 n))) :: g1 :: x2 :: nm :: (.d (.str (Lib.join (l.map nameS) [32]))) :: i' :: g6 :: g7 :: g8 :: g9 :: g10 :: g11 :: g12 :: g13 :: g14 :: g15 :: g16 :: g17 :: g18 :: g19 :: g20 :: g21 :: g22 :: g23 :: g24 :: g25 :: g26 :: g27 :: g28 :: g29 :: g30 :: g31 :: g32 :: g33 :: g34 :: g35 :: g36 :: g37 :: g38 :: g39 :: g40 :: g41 :: []) [] []) →
   Wp cfg (.loop (lpOf (Tryd.f15.body.getD .skip) 0)) ((.d (.sl (l.map fun n => D.int .i64 n))) :: g1 :: x2 :: nm :: (.d (.str (Lib.join ((l.take i).map nameS) [32]))) :: (.d (.int .i64 i)) :: g6 :: g7 :: g8 :: g9 :: g10 :: g11 :: g12 :: g13 :: g14 :: g15 :: g16 :: g17 :: g18 :: g19 :: g20 :: g21 :: g22 :: g23 :: g24 :: g25 :: g26 :: g27 :: g28 :: g29 :: g30 :: g31 :: g32 :: g33 :: g34 :: g35 :: g36 :: g37 :: g38 :: g39 :: g40 :: g41 :: []) [] [] R := by
  intro k
  induction k with
  | zero =>
    intro i g1 g6 g7 g8 g9 g10 g11 g12 g13 g14 g15 g16 g17 g18 g19 g20 g21 g22 g23 g24 g25 g26 g27 g28 g29 g30 g31 g32 g33 g34 g35 g36 g37 g38 g39 g40 g41 hk hi hR
    have hie : i = l.length := by omega
    rw [hie, List.take_length]
    rw [wk_of]
    refine wk_loop ?_
    conv => arg 2; whnf
    simp (maxSteps := 1000000) (disch := first | assumption | omega | rfl) only [↓vmp, vme, vmb, ty, hP, dec_t, dec_f, wrap64, List.length_map, Int.toNat_natCast, Nat.reduceAdd, List.cons_append, List.nil_append, Option.map_some, Option.map_none, strOf_mk, sb_eql, sb_neq, vmg, ↓vgd, ↓vst, ↓vix]
    exact hR _ _ _ _ _ _ _ _ _ _ _ _ _ _ _ _ _ _ _ _ _ _ _ _ _ _ _ _ _ _ _ _ _ _ _ _ _ _
  | succ k ih =>
    intro i g1 g6 g7 g8 g9 g10 g11 g12 g13 g14 g15 g16 g17 g18 g19 g20 g21 g22 g23 g24 g25 g26 g27 g28 g29 g30 g31 g32 g33 g34 g35 g36 g37 g38 g39 g40 g41 hk hi hR
    have hlt : i < l.length := by omega
    have hix := fun S => ix37 (S := S) hlt
    have e : (l.take (i + 1)).map nameS = (l.take i).map nameS ++ [nameS l[i]] := by rw [take_snoc hlt, List.map_append]; rfl
    have ih := ih (i + 1)
    rw [e] at ih
    have hj := join_len32 (B := 5) (l := (l.take i).map nameS) (fun s hs => by obtain ⟨n, _, rfl⟩ := List.mem_map.1 hs; exact nameS_len n)
    rw [List.length_map, List.length_take] at hj
    have hj : (Lib.join ((l.take i).map nameS) [32]).length ≤ 1000 := by omega
    have hnl := nameS_len l[i]
    have hnx := fun S => hnm S l[i]
    have h0 : i = 0 → Lib.join ((l.take i).map nameS) [32] = [] ∧ Lib.join ((l.take i).map nameS ++ [nameS l[i]]) [32] = nameS l[i] := by
      intro h
      have e0 : (l.take i).map nameS = [] := by rw [h]; rfl
      rw [e0]
      exact ⟨rfl, by rw [List.nil_append, Lib.join_cons]; simp [Lib.joinTail]⟩
    have h1 : i ≠ 0 → Lib.join ((l.take i).map nameS ++ [nameS l[i]]) [32] = Lib.join ((l.take i).map nameS) [32] ++ [32] ++ nameS l[i] := by
      intro h
      refine join_snoc ?_
      intro hh
      rw [List.map_eq_nil_iff, List.take_eq_nil_iff] at hh
      rcases hh with hh | hh
      · exact h hh
      · rw [hh] at hlt; exact absurd hlt (Nat.not_lt_zero _)
    have hout : ¬ (0 ≤ l[i] ∧ l[i] ≤ 10) → nameS l[i] = [] := fun h => by unfold nameS; rw [if_neg h]
    generalize l[i] = n at *
    generalize hs : Lib.join ((l.take i).map nameS) [32] = s at *
    generalize hs' : Lib.join ((l.take i).map nameS ++ [nameS n]) [32] = s' at *
    clear hs hs' e
    generalize hw : nameS n = w at *
    have a1 : strBin .add s [32] = some (.str (s ++ [32])) := sb_add (by simp; omega)
    have a2 : strBin .add s w = some (.str (s ++ w)) := sb_add (by omega)
    have a3 : strBin .add (s ++ [32]) w = some (.str (s ++ [32] ++ w)) := sb_add (by simp; omega)
    rw [wk_of]
    refine wk_loop ?_
    conv => arg 2; whnf
    by_cases hi0 : i = 0
    · obtain ⟨g1, g2⟩ := h0 hi0
      have g3 : s ++ w = s' := by rw [g1, g2, List.nil_append]
      have hng : ¬ (i : Int) > 0 := by omega
      by_cases hn : 0 ≤ n ∧ n ≤ 10
      · have hn1 := hn.1
        have hn2 := hn.2
        have hnx := fun S => hnx S hn1 hn2
        simp (maxSteps := 1000000) (disch := first | assumption | omega | rfl) only [↓vmp, vme, vmb, ty, hP, dec_t, dec_f, wrap64, List.length_map, Int.toNat_natCast, Nat.reduceAdd, List.cons_append, List.nil_append, Option.map_some, Option.map_none, strOf_mk, sb_eql, sb_neq, vmg, ↓vgd, ↓vst, ↓vix, hix, hnx, a2, g3]
        exact ih _ _ _ _ _ _ _ _ _ _ _ _ _ _ _ _ _ _ _ _ _ _ _ _ _ _ _ _ _ _ _ _ _ _ _ _ _ (by omega) (by omega) hR
      · have hwe := hout hn
        have g4 : s = s' := by rw [← g3, hwe, List.append_nil]
        by_cases hn1 : 0 ≤ n
        · have hn2 : ¬ n ≤ 10 := by omega
          simp (maxSteps := 1000000) (disch := first | assumption | omega | rfl) only [↓vmp, vme, vmb, ty, hP, dec_t, dec_f, wrap64, List.length_map, Int.toNat_natCast, Nat.reduceAdd, List.cons_append, List.nil_append, Option.map_some, Option.map_none, strOf_mk, sb_eql, sb_neq, vmg, ↓vgd, ↓vst, ↓vix, hix]
          rw [g4]
          exact ih _ _ _ _ _ _ _ _ _ _ _ _ _ _ _ _ _ _ _ _ _ _ _ _ _ _ _ _ _ _ _ _ _ _ _ _ _ (by omega) (by omega) hR
        · simp (maxSteps := 1000000) (disch := first | assumption | omega | rfl) only [↓vmp, vme, vmb, ty, hP, dec_t, dec_f, wrap64, List.length_map, Int.toNat_natCast, Nat.reduceAdd, List.cons_append, List.nil_append, Option.map_some, Option.map_none, strOf_mk, sb_eql, sb_neq, vmg, ↓vgd, ↓vst, ↓vix, hix]
          rw [g4]
          exact ih _ _ _ _ _ _ _ _ _ _ _ _ _ _ _ _ _ _ _ _ _ _ _ _ _ _ _ _ _ _ _ _ _ _ _ _ _ (by omega) (by omega) hR
    · have g3 : s ++ [32] ++ w = s' := (h1 hi0).symm
      have hng : (i : Int) > 0 := by omega
      by_cases hn : 0 ≤ n ∧ n ≤ 10
      · have hn1 := hn.1
        have hn2 := hn.2
        have hnx := fun S => hnx S hn1 hn2
        simp (maxSteps := 1000000) (disch := first | assumption | omega | rfl) only [↓vmp, vme, vmb, ty, hP, dec_t, dec_f, wrap64, List.length_map, Int.toNat_natCast, Nat.reduceAdd, List.cons_append, List.nil_append, Option.map_some, Option.map_none, strOf_mk, sb_eql, sb_neq, vmg, ↓vgd, ↓vst, ↓vix, hix, hnx, a1, a3]
        rw [g3]
        exact ih _ _ _ _ _ _ _ _ _ _ _ _ _ _ _ _ _ _ _ _ _ _ _ _ _ _ _ _ _ _ _ _ _ _ _ _ _ (by omega) (by omega) hR
      · have hwe := hout hn
        have g4 : s ++ [32] = s' := by rw [← g3, hwe, List.append_nil]
        by_cases hn1 : 0 ≤ n
        · have hn2 : ¬ n ≤ 10 := by omega
          simp (maxSteps := 1000000) (disch := first | assumption | omega | rfl) only [↓vmp, vme, vmb, ty, hP, dec_t, dec_f, wrap64, List.length_map, Int.toNat_natCast, Nat.reduceAdd, List.cons_append, List.nil_append, Option.map_some, Option.map_none, strOf_mk, sb_eql, sb_neq, vmg, ↓vgd, ↓vst, ↓vix, hix, a1]
          rw [g4]
          exact ih _ _ _ _ _ _ _ _ _ _ _ _ _ _ _ _ _ _ _ _ _ _ _ _ _ _ _ _ _ _ _ _ _ _ _ _ _ (by omega) (by omega) hR
        · simp (maxSteps := 1000000) (disch := first | assumption | omega | rfl) only [↓vmp, vme, vmb, ty, hP, dec_t, dec_f, wrap64, List.length_map, Int.toNat_natCast, Nat.reduceAdd, List.cons_append, List.nil_append, Option.map_some, Option.map_none, strOf_mk, sb_eql, sb_neq, vmg, ↓vgd, ↓vst, ↓vix, hix, a1]
          rw [g4]
          exact ih _ _ _ _ _ _ _ _ _ _ _ _ _ _ _ _ _ _ _ _ _ _ _ _ _ _ _ _ _ _ _ _ _ _ _ _ _ (by omega) (by omega) hR
def bs11V (P : Program) (S : Store) (t : TypeId) (x0 x1 x2 x3 x4 x5 x6 x7 x8 x9 x10 : V) : Option Rs := opV P S [x0, x1, x2, x3, x4, x5, x6, x7, x8, x9, x10] ⟨none, .buildSlice t 11 #[(0, .tmp 0), (1, .tmp 1), (2, .tmp 2), (3, .tmp 3), (4, .tmp 4), (5, .tmp 5), (6, .tmp 6), (7, .tmp 7), (8, .tmp 8), (9, .tmp 9), (10, .tmp 10)], 0, "", #[], none⟩
theorem op_bs11 {P : Program} {S : Store} {T : List V} {t : TypeId} {x0 x1 x2 x3 x4 x5 x6 x7 x8 x9 x10 : Operand} {dst : Option Tmp} {ty : TypeId} {pos : String} {after : Array Edge} {g : Option (Nat × Bool)} : opV P S T ⟨dst, .buildSlice t 11 #[(0, x0), (1, x1), (2, x2), (3, x3), (4, x4), (5, x5), (6, x6), (7, x7), (8, x8), (9, x9), (10, x10)], ty, pos, after, g⟩ = bs11V P S t (evalO T x0) (evalO T x1) (evalO T x2) (evalO T x3) (evalO T x4) (evalO T x5) (evalO T x6) (evalO T x7) (evalO T x8) (evalO T x9) (evalO T x10) := rfl
theorem bs11_23 {S : Store} {x0 x1 x2 x3 x4 x5 x6 x7 x8 x9 x10 : List UInt8} : bs11V Tryd.prog S 23 (.d (.str x0)) (.d (.str x1)) (.d (.str x2)) (.d (.str x3)) (.d (.str x4)) (.d (.str x5)) (.d (.str x6)) (.d (.str x7)) (.d (.str x8)) (.d (.str x9)) (.d (.str x10)) = some (.val (.ts [.str x0, .str x1, .str x2, .str x3, .str x4, .str x5, .str x6, .str x7, .str x8, .str x9, .str x10]) S 0) := by kernel_rfl
def bs8V (P : Program) (S : Store) (t : TypeId) (x0 x1 x2 x3 x4 x5 x6 x7 : V) : Option Rs := opV P S [x0, x1, x2, x3, x4, x5, x6, x7] ⟨none, .buildSlice t 8 #[(0, .tmp 0), (1, .tmp 1), (2, .tmp 2), (3, .tmp 3), (4, .tmp 4), (5, .tmp 5), (6, .tmp 6), (7, .tmp 7)], 0, "", #[], none⟩
theorem op_bs8 {P : Program} {S : Store} {T : List V} {t : TypeId} {x0 x1 x2 x3 x4 x5 x6 x7 : Operand} {dst : Option Tmp} {ty : TypeId} {pos : String} {after : Array Edge} {g : Option (Nat × Bool)} : opV P S T ⟨dst, .buildSlice t 8 #[(0, x0), (1, x1), (2, x2), (3, x3), (4, x4), (5, x5), (6, x6), (7, x7)], ty, pos, after, g⟩ = bs8V P S t (evalO T x0) (evalO T x1) (evalO T x2) (evalO T x3) (evalO T x4) (evalO T x5) (evalO T x6) (evalO T x7) := rfl
theorem bs8_23 {S : Store} {x0 x1 x2 x3 x4 x5 x6 x7 : List UInt8} : bs8V Tryd.prog S 23 (.d (.str x0)) (.d (.str x1)) (.d (.str x2)) (.d (.str x3)) (.d (.str x4)) (.d (.str x5)) (.d (.str x6)) (.d (.str x7)) = some (.val (.ts [.str x0, .str x1, .str x2, .str x3, .str x4, .str x5, .str x6, .str x7]) S 0) := by kernel_rfl
theorem rfaults_ok (l : List Int) (hl : l.length ≤ 20) : Ev cfg 15 [.sl (l.map fun n => D.int .i64 n)] (.ret (.d (.str (faultsS l)))) := by
  refine ev_of rfl rfl body15 ?_
  show Wp cfg (Tryd.f15.body.getD .skip) ((.d (.sl (l.map fun n => D.int .i64 n))) :: (.tup []) :: (.tup []) :: (.tup []) :: (.tup []) :: (.tup []) :: (.tup []) :: (.tup []) :: (.tup []) :: (.tup []) :: (.tup []) :: (.tup []) :: (.tup []) :: (.tup []) :: (.tup []) :: (.tup []) :: (.tup []) :: (.tup []) :: (.tup []) :: (.tup []) :: (.tup []) :: (.tup []) :: (.tup []) :: (.tup []) :: (.tup []) :: (.tup []) :: (.tup []) :: (.tup []) :: (.tup []) :: (.tup []) :: (.tup []) :: (.tup []) :: (.tup []) :: (.tup []) :: (.tup []) :: (.tup []) :: (.tup []) :: (.tup []) :: (.tup []) :: (.tup []) :: (.tup []) :: (.tup []) :: []) [] [] _
  conv => arg 2; whnf
  unfold faultsS
  simp (maxSteps := 1000000) (disch := first | assumption | omega | rfl) only [↓vmp, vme, vmb, ty, hP, dec_t, dec_f, wrap64, List.length_map, Int.toNat_natCast, Nat.reduceAdd, List.cons_append, List.nil_append, Option.map_some, Option.map_none, strOf_mk, sb_eql, sb_neq, vmg, ↓vgd, ↓vst, ↓vix, ↓vbs, op_bs11, bs11_23]
  refine rfaults_l l hl _ _ _ ?_ l.length 0 _ _ _ _ _ _ _ _ _ _ _ _ _ _ _ _ _ _ _ _ _ _ _ _ _ _ _ _ _ _ _ _ _ _ _ _ _ rfl (Nat.zero_le _) ?_
  · intro S n h1 h2
    have := ix_nm (S := S) n.toNat (by omega)
    rw [Int.toNat_of_nonneg h1] at this
    rw [this]
    unfold nameS
    rw [if_pos ⟨h1, h2⟩]
  intro i' g1 g6 g7 g8 g9 g10 g11 g12 g13 g14 g15 g16 g17 g18 g19 g20 g21 g22 g23 g24 g25 g26 g27 g28 g29 g30 g31 g32 g33 g34 g35 g36 g37 g38 g39 g40 g41
  by_cases h0 : l.length = 0
  · rw [if_pos h0]
    simp (maxSteps := 1000000) (disch := first | assumption | omega | rfl) only [↓vmp, vme, vmb, ty, hP, dec_t, dec_f, wrap64, List.length_map, Int.toNat_natCast, Nat.reduceAdd, List.cons_append, List.nil_append, Option.map_some, Option.map_none, strOf_mk, sb_eql, sb_neq, vmg, ↓vgd, ↓vst, ↓vix, dec_True]
    exact retQ_one rfl rfl rfl
  · rw [if_neg h0]
    simp (maxSteps := 1000000) (disch := first | assumption | omega | rfl) only [↓vmp, vme, vmb, ty, hP, dec_t, dec_f, wrap64, List.length_map, Int.toNat_natCast, Nat.reduceAdd, List.cons_append, List.nil_append, Option.map_some, Option.map_none, strOf_mk, sb_eql, sb_neq, vmg, ↓vgd, ↓vst, ↓vix]
    exact retQ_one rfl rfl rfl
end Go.Proofs.YtghllhghboaagaaDoor
end
/-! report.Verdict and the document's numbers: five numbers with one blank between. -/
section
set_option linter.unusedVariables false
set_option linter.unusedSimpArgs false
set_option maxRecDepth 100000
set_option maxHeartbeats 4000000
namespace Go.Proofs.YtghllhghboaagaaDoor
open Go.Vm
def arrI (l : List Int) : D := .agg (l.map fun n => D.int .i64 n)
def numsS (l : List Int) : List UInt8 := Lib.join (l.map Lib.itoa) [32]
theorem five {l : List Int} (h : l.length = 5) : ∃ a b c d e, l = [a, b, c, d, e] := by
  match l, h with
  | [a, b, c, d, e], _ => exact ⟨a, b, c, d, e, rfl⟩
theorem fz38 {l : List Int} (h : l.length = 5) : fitsT Tryd.prog 38 (.d (arrI l)) = true := by
  obtain ⟨a, b, c, d, e, rfl⟩ := five h
  kernel_rfl
theorem lr38 {l : List Int} (h : l.length = 5) : loadR Tryd.prog 38 0 (some (.d (arrI l))) = some (.d (arrI l)) := by
  obtain ⟨a, b, c, d, e, rfl⟩ := five h
  kernel_rfl
theorem ix38 {l : List Int} (h : l.length = 5) {i : Nat} (hi : i < l.length) : indexV Tryd.prog 38 (.d (arrI l)) (.d (.int .i64 (i : Int))) = some (.d (.int .i64 l[i])) := by
  obtain ⟨a, b, c, d, e, rfl⟩ := five h
  match i, hi with
  | 0, _ => show _ = _; kernel_rfl
  | 1, _ => show _ = _; kernel_rfl
  | 2, _ => show _ = _; kernel_rfl
  | 3, _ => show _ = _; kernel_rfl
  | 4, _ => show _ = _; kernel_rfl
theorem ia38 {S : Store} {j x : Nat} {i : Nat} (hi : i < 5) : indexAddrV Tryd.prog S 38 (.ref j x 0) (.d (.int .i64 (i : Int))) = some (.ref j x i) := by
  match i, hi with
  | 0, _ => show _ = _; kernel_rfl
  | 1, _ => show _ = _; kernel_rfl
  | 2, _ => show _ = _; kernel_rfl
  | 3, _ => show _ = _; kernel_rfl
  | 4, _ => show _ = _; kernel_rfl
theorem le38 {l : List Int} (h : l.length = 5) {i : Nat} (hi : i < l.length) : loadR Tryd.prog 3 i (some (.d (arrI l))) = some (.d (.int .i64 l[i])) := by
  obtain ⟨a, b, c, d, e, rfl⟩ := five h
  match i, hi with
  | 0, _ => show _ = _; kernel_rfl
  | 1, _ => show _ = _; kernel_rfl
  | 2, _ => show _ = _; kernel_rfl
  | 3, _ => show _ = _; kernel_rfl
  | 4, _ => show _ = _; kernel_rfl
theorem nums_len {l : List Int} (h : ∀ n ∈ l, InB n) : (Lib.join (l.map Lib.itoa) [32]).length ≤ l.length * 22 := by
  have := join_len32 (B := 21) (l := l.map Lib.itoa) (fun s hs => by obtain ⟨n, hn, rfl⟩ := List.mem_map.1 hs; exact itoa_len n (h n hn))
  simpa using this
theorem verdict_l (l : List Int) (hl : l.length = 5) (hb : ∀ n ∈ l, InB n) (R : Post) (x0 x1 x2 : V) : ∀ (k i : Nat) (v : V) (S : Store) (g4 g5 g8 g9 g10 g11 g12 g13 g14 g15 g16 g17 : V), l.length - i = k → i ≤ l.length → SlE D.str S v 9 ((l.take i).map Lib.itoa) →
   (∀ S v i' g4 g5 g8 g9 g10 g11 g12 g13 g14 g15 g16 g17, SlE D.str S v 9 (l.map Lib.itoa) → R (.exit 0) (x0 :: x1 :: x2 :: v :: g4 :: g5 :: (.d (arrI l)) :: i' :: g8 :: g9 :: g10 :: g11 :: g12 :: g13 :: g14 :: g15 :: g16 :: g17 :: []) S []) →
   Wp cfg (.loop (lpOf (Tryd.f16.body.getD .skip) 0)) (x0 :: x1 :: x2 :: v :: g4 :: g5 :: (.d (arrI l)) :: (.d (.int .i64 i)) :: g8 :: g9 :: g10 :: g11 :: g12 :: g13 :: g14 :: g15 :: g16 :: g17 :: []) S [] R := by
  intro k
  induction k with
  | zero =>
    intro i v S g4 g5 g8 g9 g10 g11 g12 g13 g14 g15 g16 g17 hk hi hv hR
    have hie : i = l.length := by omega
    rw [hie, List.take_length] at hv
    rw [wk_of]
    refine wk_loop ?_
    conv => arg 2; whnf
    simp (maxSteps := 1000000) (disch := first | assumption | omega | rfl) only [↓vmp, vme, vmb, ty, hP, dec_t, dec_f, wrap64, List.length_map, Int.toNat_natCast, Nat.reduceAdd, List.cons_append, List.nil_append, Option.map_some, Option.map_none, strOf_mk, sb_eql, sb_neq, vmg, ↓vgd, ↓vst, ↓vix]
    exact hR _ _ _ _ _ _ _ _ _ _ _ _ _ _ _ hv
  | succ k ih =>
    intro i v S g4 g5 g8 g9 g10 g11 g12 g13 g14 g15 g16 g17 hk hi hv hR
    have hlt : i < l.length := by omega
    have hix := ix38 hl hlt
    have hB := hb _ (List.getElem_mem hlt)
    obtain ⟨v', S', c, e1, hc, e2, -⟩ := app_one (Lib.itoa l[i]) (by simp; omega) hv
    have e3 := e2.one
    rw [show (l.take i).map Lib.itoa ++ [Lib.itoa l[i]] = (l.take (i + 1)).map Lib.itoa by rw [take_snoc hlt, List.map_append]; rfl] at e2
    rw [wk_of]
    refine wk_loop ?_
    conv => arg 2; whnf
    simp (maxSteps := 1000000) (disch := first | assumption | omega | rfl) only [↓vmp, vme, vmb, ty, hP, dec_t, dec_f, wrap64, List.length_map, Int.toNat_natCast, Nat.reduceAdd, List.cons_append, List.nil_append, Option.map_some, Option.map_none, strOf_mk, sb_eql, sb_neq, vmg, ↓vgd, ↓vst, ↓vix, ↓vbs, hix, call_itoa hB, bo19, bs23, e1, e3]
    exact ih (i + 1) _ _ _ _ _ _ _ _ _ _ _ _ _ _ (by omega) (by omega) e2 hR
theorem verdict_ok (l : List Int) (hl : l.length = 5) (hb : ∀ n ∈ l, InB n) : Ev cfg 16 [arrI l] (.ret (.d (.str (numsS l)))) := by
  have hf := fz38 hl
  have hr := lr38 hl
  refine ev_of rfl rfl body16 ?_
  show Wp cfg (Tryd.f16.body.getD .skip) ((.d (arrI l)) :: (.tup []) :: (.tup []) :: (.tup []) :: (.tup []) :: (.tup []) :: (.tup []) :: (.tup []) :: (.tup []) :: (.tup []) :: (.tup []) :: (.tup []) :: (.tup []) :: (.tup []) :: (.tup []) :: (.tup []) :: (.tup []) :: (.tup []) :: []) [] [] _
  conv => arg 2; whnf
  unfold numsS
  simp (maxSteps := 1000000) (disch := first | assumption | omega | rfl) only [↓vmp, vme, vmb, ty, hP, dec_t, dec_f, wrap64, List.length_map, Int.toNat_natCast, Nat.reduceAdd, List.cons_append, List.nil_append, Option.map_some, Option.map_none, strOf_mk, sb_eql, sb_neq, vmg, ↓vgd, ↓vst, ↓vix, hf, hr]
  refine verdict_l l hl hb _ _ _ _ l.length 0 _ _ _ _ _ _ _ _ _ _ _ _ _ _ rfl (Nat.zero_le _) (.inl ⟨rfl, rfl⟩) ?_
  intro S v i' g4 g5 g8 g9 g10 g11 g12 g13 g14 g15 g16 g17 hv
  have hj := nums_len hb
  have hcl : ∀ {ops : Array Oper} {dst : Option Tmp} {k : List Oper} {T : List V} {F : Dfs} {Q : Post}, WpR cfg ops dst k T S F Q (some (.enter 18 [v])) = WpL cfg ops k (putT T dst (.d (.str (Lib.join (l.map Lib.itoa) [32])))) S F Q := fun {ops dst k T F Q} => call_line hv.frz (by simp; omega) (by omega)
  have h1 := hv.one
  simp (maxSteps := 1000000) (disch := first | assumption | omega | rfl) only [↓vmp, vme, vmb, ty, hP, dec_t, dec_f, wrap64, List.length_map, Int.toNat_natCast, Nat.reduceAdd, List.cons_append, List.nil_append, Option.map_some, Option.map_none, strOf_mk, sb_eql, sb_neq, vmg, ↓vgd, ↓vst, ↓vix, hcl, bo18, h1]
  exact retQ_one rfl rfl rfl
theorem numbers_l (l : List Int) (hl : l.length = 5) (hb : ∀ n ∈ l, InB n) (R : Post) (x0 x2 : V) : ∀ (k i : Nat) (g5 g6 g7 g8 g9 g10 g11 g12 g13 g14 g15 g16 g17 g18 g19 : V), l.length - i = k → i ≤ l.length →
   (∀ i' g5 g6 g7 g8 g9 g10 g11 g12 g13 g14 g15 g16 g17 g18 g19, R (.exit 0) (x0 :: (.ref 0 0 0) :: x2 :: (.d (.str (Lib.join (l.map Lib.itoa) [32]))) :: i' :: g5 :: g6 :: g7 :: g8 :: g9 :: g10 :: g11 :: g12 :: g13 :: g14 :: g15 :: g16 :: g17 :: g18 :: g19 :: []) [.row [.d (arrI l)] 38] []) →
   Wp cfg (.loop (lpOf (Tryd.f17.body.getD .skip) 0)) (x0 :: (.ref 0 0 0) :: x2 :: (.d (.str (Lib.join ((l.take i).map Lib.itoa) [32]))) :: (.d (.int .i64 i)) :: g5 :: g6 :: g7 :: g8 :: g9 :: g10 :: g11 :: g12 :: g13 :: g14 :: g15 :: g16 :: g17 :: g18 :: g19 :: []) [.row [.d (arrI l)] 38] [] R := by
  intro k
  induction k with
  | zero =>
    intro i g5 g6 g7 g8 g9 g10 g11 g12 g13 g14 g15 g16 g17 g18 g19 hk hi hR
    have hie : i = l.length := by omega
    rw [hie, List.take_length]
    rw [wk_of]
    refine wk_loop ?_
    conv => arg 2; whnf
    simp (maxSteps := 1000000) (disch := first | assumption | omega | rfl) only [↓vmp, vme, vmb, ty, hP, dec_t, dec_f, wrap64, List.length_map, Int.toNat_natCast, Nat.reduceAdd, List.cons_append, List.nil_append, Option.map_some, Option.map_none, strOf_mk, sb_eql, sb_neq, vmg, ↓vgd, ↓vst, ↓vix]
    exact hR _ _ _ _ _ _ _ _ _ _ _ _ _ _ _ _
  | succ k ih =>
    intro i g5 g6 g7 g8 g9 g10 g11 g12 g13 g14 g15 g16 g17 g18 g19 hk hi hR
    have hlt : i < l.length := by omega
    have hia := fun S => ia38 (S := S) (j := 0) (x := 0) (i := i) (by omega)
    have hle := le38 hl hlt
    have hB := hb _ (List.getElem_mem hlt)
    have hnl := itoa_len _ hB
    have e : (l.take (i + 1)).map Lib.itoa = (l.take i).map Lib.itoa ++ [Lib.itoa l[i]] := by rw [take_snoc hlt, List.map_append]; rfl
    have ih := ih (i + 1)
    rw [e] at ih
    have hj := nums_len (l := l.take i) (fun n hn => hb n (List.mem_of_mem_take hn))
    rw [List.length_take] at hj
    have h0 : i = 0 → Lib.join ((l.take i).map Lib.itoa) [32] = [] ∧ Lib.join ((l.take i).map Lib.itoa ++ [Lib.itoa l[i]]) [32] = Lib.itoa l[i] := by
      intro h
      have e0 : (l.take i).map Lib.itoa = [] := by rw [h]; rfl
      rw [e0]
      exact ⟨rfl, by rw [List.nil_append, Lib.join_cons]; simp [Lib.joinTail]⟩
    have h1 : i ≠ 0 → Lib.join ((l.take i).map Lib.itoa ++ [Lib.itoa l[i]]) [32] = Lib.join ((l.take i).map Lib.itoa) [32] ++ [32] ++ Lib.itoa l[i] := by
      intro h
      refine join_snoc ?_
      intro hh
      rw [List.map_eq_nil_iff, List.take_eq_nil_iff] at hh
      rcases hh with hh | hh
      · exact h hh
      · rw [hh] at hlt; exact absurd hlt (Nat.not_lt_zero _)
    generalize l[i] = n at *
    generalize hs : Lib.join ((l.take i).map Lib.itoa) [32] = s at *
    generalize hs' : Lib.join ((l.take i).map Lib.itoa ++ [Lib.itoa n]) [32] = s' at *
    clear hs hs' e
    have a1 : strBin .add s [32] = some (.str (s ++ [32])) := sb_add (by simp; omega)
    have a2 : strBin .add s (Lib.itoa n) = some (.str (s ++ Lib.itoa n)) := sb_add (by omega)
    have a3 : strBin .add (s ++ [32]) (Lib.itoa n) = some (.str (s ++ [32] ++ Lib.itoa n)) := sb_add (by simp; omega)
    rw [wk_of]
    refine wk_loop ?_
    conv => arg 2; whnf
    by_cases hi0 : i = 0
    · obtain ⟨g1, g2⟩ := h0 hi0
      have g3 : s ++ Lib.itoa n = s' := by rw [g1, g2, List.nil_append]
      have hng : ¬ (i : Int) > 0 := by omega
      simp (maxSteps := 1000000) (disch := first | assumption | omega | rfl) only [↓vmp, vme, vmb, ty, hP, dec_t, dec_f, wrap64, List.length_map, Int.toNat_natCast, Nat.reduceAdd, List.cons_append, List.nil_append, Option.map_some, Option.map_none, strOf_mk, sb_eql, sb_neq, vmg, ↓vgd, ↓vst, ↓vix, hia, hle, call_num hB, bo21, a2]
      rw [g3]
      exact ih _ _ _ _ _ _ _ _ _ _ _ _ _ _ _ (by omega) (by omega) hR
    · have g3 : s ++ [32] ++ Lib.itoa n = s' := (h1 hi0).symm
      have hng : (i : Int) > 0 := by omega
      simp (maxSteps := 1000000) (disch := first | assumption | omega | rfl) only [↓vmp, vme, vmb, ty, hP, dec_t, dec_f, wrap64, List.length_map, Int.toNat_natCast, Nat.reduceAdd, List.cons_append, List.nil_append, Option.map_some, Option.map_none, strOf_mk, sb_eql, sb_neq, vmg, ↓vgd, ↓vst, ↓vix, hia, hle, call_num hB, bo21, a1, a3]
      rw [g3]
      exact ih _ _ _ _ _ _ _ _ _ _ _ _ _ _ _ (by omega) (by omega) hR
theorem numbers_ok (l : List Int) (hl : l.length = 5) (hb : ∀ n ∈ l, InB n) : Ev cfg 17 [arrI l] (.ret (.d (.str (numsS l)))) := by
  have hf := fz38 hl
  have hr := lr38 hl
  refine ev_of rfl rfl body17 ?_
  show Wp cfg (Tryd.f17.body.getD .skip) ((.d (arrI l)) :: (.tup []) :: (.tup []) :: (.tup []) :: (.tup []) :: (.tup []) :: (.tup []) :: (.tup []) :: (.tup []) :: (.tup []) :: (.tup []) :: (.tup []) :: (.tup []) :: (.tup []) :: (.tup []) :: (.tup []) :: (.tup []) :: (.tup []) :: (.tup []) :: (.tup []) :: []) [] [] _
  conv => arg 2; whnf
  unfold numsS
  simp (maxSteps := 1000000) (disch := first | assumption | omega | rfl) only [↓vmp, vme, vmb, ty, hP, dec_t, dec_f, wrap64, List.length_map, Int.toNat_natCast, Nat.reduceAdd, List.cons_append, List.nil_append, Option.map_some, Option.map_none, strOf_mk, sb_eql, sb_neq, vmg, ↓vgd, ↓vst, ↓vix, hf, hr]
  refine numbers_l l hl hb _ _ _ l.length 0 _ _ _ _ _ _ _ _ _ _ _ _ _ _ _ rfl (Nat.zero_le _) ?_
  intro i' g5 g6 g7 g8 g9 g10 g11 g12 g13 g14 g15 g16 g17 g18 g19
  simp (maxSteps := 1000000) (disch := first | assumption | omega | rfl) only [↓vmp, vme, vmb, ty, hP, dec_t, dec_f, wrap64, List.length_map, Int.toNat_natCast, Nat.reduceAdd, List.cons_append, List.nil_append, Option.map_some, Option.map_none, strOf_mk, sb_eql, sb_neq, vmg, ↓vgd, ↓vst, ↓vix]
  exact retQ_one rfl rfl rfl
end Go.Proofs.YtghllhghboaagaaDoor
end
/-! The document's report: the numbers that are not nought, each behind its word, with a comma between. -/
section
set_option linter.unusedVariables false
set_option linter.unusedSimpArgs false
set_option maxRecDepth 100000
set_option maxHeartbeats 4000000
namespace Go.Proofs.YtghllhghboaagaaDoor
open Go.Vm
def addW (ws : List (List UInt8)) (w : List UInt8) (n : Int) : List (List UInt8) := if n = 0 then ws else ws ++ [w ++ [32] ++ Lib.itoa n]
def tellW (l : List (List UInt8 × Int)) : List (List UInt8) := l.foldl (fun ws p => addW ws p.1 p.2) []
def mwL (m : Mend) : List (List UInt8 × Int) := [([119, 114, 105, 116, 101, 115], m.n0), ([108, 111, 115, 116], m.n1), ([102, 114, 101, 101, 100], m.n2), ([108, 105, 110, 107, 115], m.n3), ([112, 97, 114, 101, 110, 116, 115], m.n4), ([99, 108, 101, 97, 114, 101, 100], m.n5), ([108, 101, 97, 107, 101, 100], m.n6), ([109, 97, 114, 107, 101, 100], m.n7)]
def cleanS : List UInt8 := [99, 108, 101, 97, 110]
def mendS (m : Mend) : List UInt8 := if tellW (mwL m) = [] then cleanS else Lib.join (tellW (mwL m)) [44, 32]
structure MendB (m : Mend) : Prop where
  n0 : InB m.n0
  n1 : InB m.n1
  n2 : InB m.n2
  n3 : InB m.n3
  n4 : InB m.n4
  n5 : InB m.n5
  n6 : InB m.n6
  n7 : InB m.n7
theorem MendB.mw {m : Mend} (h : MendB m) : ∀ p ∈ mwL m, p.1.length ≤ 7 ∧ InB p.2 := by
  intro p hp
  unfold mwL at hp
  simp only [List.mem_cons, List.not_mem_nil, or_false] at hp
  rcases hp with rfl | rfl | rfl | rfl | rfl | rfl | rfl | rfl
  · exact ⟨by simp, h.n0⟩
  · exact ⟨by simp, h.n1⟩
  · exact ⟨by simp, h.n2⟩
  · exact ⟨by simp, h.n3⟩
  · exact ⟨by simp, h.n4⟩
  · exact ⟨by simp, h.n5⟩
  · exact ⟨by simp, h.n6⟩
  · exact ⟨by simp, h.n7⟩
theorem tellW_snoc {l : List (List UInt8 × Int)} {p : List UInt8 × Int} : tellW (l ++ [p]) = addW (tellW l) p.1 p.2 := by simp [tellW]
theorem addW_len {ws : List (List UInt8)} {w : List UInt8} {n : Int} : (addW ws w n).length ≤ ws.length + 1 := by
  unfold addW
  split <;> simp
def Wok (ws : List (List UInt8)) : Prop := ∀ s ∈ ws, s ≠ [] ∧ s.length ≤ 29
theorem Wok.add {ws : List (List UInt8)} {w : List UInt8} {n : Int} (h : Wok ws) (hw : w.length ≤ 7) (hn : InB n) : Wok (addW ws w n) := by
  unfold addW
  split
  · exact h
  · intro s hs
    rcases List.mem_append.1 hs with hs | hs
    · exact h s hs
    · have hl := itoa_len n hn
      have e : s = w ++ [32] ++ Lib.itoa n := by simpa using hs
      rw [e]
      exact ⟨by simp, by simp; omega⟩
theorem foldl_ok : ∀ (l : List (List UInt8 × Int)) (ws : List (List UInt8)), (∀ p ∈ l, p.1.length ≤ 7 ∧ InB p.2) → Wok ws → Wok (l.foldl (fun ws p => addW ws p.1 p.2) ws) ∧ (l.foldl (fun ws p => addW ws p.1 p.2) ws).length ≤ ws.length + l.length
  | [], ws, _, hw => ⟨hw, Nat.le_refl _⟩
  | p :: r, ws, h, hw => by
    have hp := h p (by simp)
    have h1 := foldl_ok r (addW ws p.1 p.2) (fun q hq => h q (by simp [hq])) (hw.add hp.1 hp.2)
    have h2 := addW_len (ws := ws) (w := p.1) (n := p.2)
    refine ⟨h1.1, ?_⟩
    have h3 := h1.2
    rw [List.foldl_cons, List.length_cons]
    omega
theorem tellW_ok {l : List (List UInt8 × Int)} (h : ∀ p ∈ l, p.1.length ≤ 7 ∧ InB p.2) : Wok (tellW l) ∧ (tellW l).length ≤ l.length := by
  have := foldl_ok l [] h (fun s hs => by cases hs)
  unfold tellW
  simpa using this
theorem joinc_len {l : List (List UInt8)} (h : Wok l) : (Lib.join l [44, 32]).length ≤ l.length * 31 := by
  have := join_len2 (B := 29) (sep := [44, 32]) (l := l) (fun s hs => (h s hs).2)
  simpa using this
theorem join_ne {l : List (List UInt8)} {sep : List UInt8} (h : Wok l) (hl : l ≠ []) : Lib.join l sep ≠ [] := by
  cases l with
  | nil => exact absurd rfl hl
  | cons a r =>
    rw [Lib.join_cons]
    intro hh
    exact (h a (by simp)).1 (List.append_eq_nil_iff.1 hh).1
theorem mwL_len {m : Mend} : (mwL m).length = 8 := rfl
theorem ia36 {S : Store} {j x : Nat} {i : Nat} (hi : i < 8) : indexAddrV Tryd.prog S 36 (.ref j x 0) (.d (.int .i64 (i : Int))) = some (.ref j x i) := by
  match i, hi with
  | 0, _ => show _ = _; kernel_rfl
  | 1, _ => show _ = _; kernel_rfl
  | 2, _ => show _ = _; kernel_rfl
  | 3, _ => show _ = _; kernel_rfl
  | 4, _ => show _ = _; kernel_rfl
  | 5, _ => show _ = _; kernel_rfl
  | 6, _ => show _ = _; kernel_rfl
  | 7, _ => show _ = _; kernel_rfl
theorem le36 {m : Mend} {i : Nat} (hi : i < (mwL m).length) : loadR Tryd.prog 3 i (some (.d (encMend m))) = some (.d (.int .i64 (mwL m)[i].2)) := by
  match i, hi with
  | 0, _ => show _ = _; kernel_rfl
  | 1, _ => show _ = _; kernel_rfl
  | 2, _ => show _ = _; kernel_rfl
  | 3, _ => show _ = _; kernel_rfl
  | 4, _ => show _ = _; kernel_rfl
  | 5, _ => show _ = _; kernel_rfl
  | 6, _ => show _ = _; kernel_rfl
  | 7, _ => show _ = _; kernel_rfl
theorem ixw {S : Store} {m : Mend} {i : Nat} (hi : i < (mwL m).length) : indexAddrV Tryd.prog S 23 (.ts [.str [119, 114, 105, 116, 101, 115], .str [108, 111, 115, 116], .str [102, 114, 101, 101, 100], .str [108, 105, 110, 107, 115], .str [112, 97, 114, 101, 110, 116, 115], .str [99, 108, 101, 97, 114, 101, 100], .str [108, 101, 97, 107, 101, 100], .str [109, 97, 114, 107, 101, 100]]) (.d (.int .i64 (i : Int))) = some (.d (.ptr (.str (mwL m)[i].1))) := by
  match i, hi with
  | 0, _ => show _ = _; kernel_rfl
  | 1, _ => show _ = _; kernel_rfl
  | 2, _ => show _ = _; kernel_rfl
  | 3, _ => show _ = _; kernel_rfl
  | 4, _ => show _ = _; kernel_rfl
  | 5, _ => show _ = _; kernel_rfl
  | 6, _ => show _ = _; kernel_rfl
  | 7, _ => show _ = _; kernel_rfl
theorem fz36 {m : Mend} : fitsT Tryd.prog 36 (.d (encMend m)) = true := by kernel_rfl
theorem lr36 {m : Mend} : loadR Tryd.prog 36 0 (some (.d (encMend m))) = some (.d (encMend m)) := by kernel_rfl
theorem rmended_l (m : Mend) (hM : MendB m) (R : Post) (x0 x2 wd : V) (hwd : ∀ S i (hi : i < (mwL m).length), indexAddrV Tryd.prog S 23 wd (.d (.int .i64 (i : Int))) = some (.d (.ptr (.str (mwL m)[i].1)))) : ∀ (k i : Nat) (g6 g7 g8 g9 g10 g11 g12 g13 g14 g15 g16 g17 g18 g19 g20 g21 g22 g23 g24 g25 g26 g27 g28 g29 g30 g31 g32 g33 : V), 8 - i = k → i ≤ 8 →
   (∀ i' g6 g7 g8 g9 g10 g11 g12 g13 g14 g15 g16 g17 g18 g19 g20 g21 g22 g23 g24 g25 g26 g27 g28 g29 g30 g31 g32 g33, R (.exit 0) (x0 :: (.ref 0 0 0) :: x2 :: wd :: (.d (.str (Lib.join (tellW (mwL m)) [44, 32]))) :: i' :: g6 :: g7 :: g8 :: g9 :: g10 :: g11 :: g12 :: g13 :: g14 :: g15 :: g16 :: g17 :: g18 :: g19 :: g20 :: g21 :: g22 :: g23 :: g24 :: g25 :: g26 :: g27 :: g28 :: g29 :: g30 :: g31 :: g32 :: g33 :: []) [.row [.d (encMend m)] 36] []) →
   Wp cfg (.loop (lpOf (Tryd.f13.body.getD .skip) 0)) (x0 :: (.ref 0 0 0) :: x2 :: wd :: (.d (.str (Lib.join (tellW ((mwL m).take i)) [44, 32]))) :: (.d (.int .i64 i)) :: g6 :: g7 :: g8 :: g9 :: g10 :: g11 :: g12 :: g13 :: g14 :: g15 :: g16 :: g17 :: g18 :: g19 :: g20 :: g21 :: g22 :: g23 :: g24 :: g25 :: g26 :: g27 :: g28 :: g29 :: g30 :: g31 :: g32 :: g33 :: []) [.row [.d (encMend m)] 36] [] R := by
  intro k
  induction k with
  | zero =>
    intro i g6 g7 g8 g9 g10 g11 g12 g13 g14 g15 g16 g17 g18 g19 g20 g21 g22 g23 g24 g25 g26 g27 g28 g29 g30 g31 g32 g33 hk hi hR
    have hie : i = 8 := by omega
    rw [hie, show (mwL m).take 8 = mwL m from rfl]
    rw [wk_of]
    refine wk_loop ?_
    conv => arg 2; whnf
    simp (maxSteps := 1000000) (disch := first | assumption | omega | rfl) only [↓vmp, vme, vmb, ty, hP, dec_t, dec_f, wrap64, List.length_map, Int.toNat_natCast, Nat.reduceAdd, List.cons_append, List.nil_append, Option.map_some, Option.map_none, strOf_mk, sb_eql, sb_neq, vmg, ↓vgd, ↓vst, ↓vix]
    exact hR _ _ _ _ _ _ _ _ _ _ _ _ _ _ _ _ _ _ _ _ _ _ _ _ _ _ _ _ _
  | succ k ih =>
    intro i g6 g7 g8 g9 g10 g11 g12 g13 g14 g15 g16 g17 g18 g19 g20 g21 g22 g23 g24 g25 g26 g27 g28 g29 g30 g31 g32 g33 hk hi hR
    have h8 : i < 8 := by omega
    have hlt : i < (mwL m).length := h8
    have hia := fun S => ia36 (S := S) (j := 0) (x := 0) h8
    have hle := le36 hlt
    have hnm := fun S => hwd S i hlt
    obtain ⟨hw, hB⟩ := hM.mw _ (List.getElem_mem hlt)
    have ht := tellW_ok (l := (mwL m).take i) (fun p hp => hM.mw p (List.mem_of_mem_take hp))
    have hj := joinc_len ht.1
    have hne := join_ne (sep := [44, 32]) ht.1
    have e : tellW ((mwL m).take (i + 1)) = addW (tellW ((mwL m).take i)) (mwL m)[i].1 (mwL m)[i].2 := by rw [take_snoc hlt, tellW_snoc]
    have hn8 : (tellW ((mwL m).take i)).length ≤ 8 := Nat.le_trans ht.2 (by rw [List.length_take]; omega)
    have ih := ih (i + 1)
    rw [e] at ih
    clear e ht hwd
    generalize (mwL m)[i] = p at *
    obtain ⟨w, n⟩ := p
    simp only at hle hnm hw hB ih
    generalize tellW ((mwL m).take i) = ws at *
    have hnl := itoa_len n hB
    rw [wk_of]
    refine wk_loop ?_
    conv => arg 2; whnf
    by_cases hn : n = 0
    · have e : addW ws w n = ws := if_pos hn
      rw [e] at ih
      subst hn
      simp (maxSteps := 1000000) (disch := first | assumption | omega | rfl) only [↓vmp, vme, vmb, ty, hP, dec_t, dec_f, wrap64, List.length_map, Int.toNat_natCast, Nat.reduceAdd, List.cons_append, List.nil_append, Option.map_some, Option.map_none, strOf_mk, sb_eql, sb_neq, vmg, ↓vgd, ↓vst, ↓vix, hia, hle, dec_True]
      exact ih _ _ _ _ _ _ _ _ _ _ _ _ _ _ _ _ _ _ _ _ _ _ _ _ _ _ _ _ (by omega) (by omega) hR
    · have e : addW ws w n = ws ++ [w ++ [32] ++ Lib.itoa n] := if_neg hn
      rw [e] at ih
      by_cases hws : ws = []
      · subst hws
        have e1 : Lib.join ([] ++ [w ++ [32] ++ Lib.itoa n]) [44, 32] = w ++ [32] ++ Lib.itoa n := by rw [List.nil_append, Lib.join_cons]; simp [Lib.joinTail]
        rw [e1] at ih
        rw [show Lib.join [] [44, 32] = [] from rfl]
        have a1 : strBin .add [] w = some (.str w) := sb_add (a := []) (by simp; omega)
        have a2 : strBin .add w [32] = some (.str (w ++ [32])) := sb_add (by simp; omega)
        have a3 : strBin .add (w ++ [32]) (Lib.itoa n) = some (.str (w ++ [32] ++ Lib.itoa n)) := sb_add (by simp; omega)
        simp (maxSteps := 1000000) (disch := first | assumption | omega | rfl) only [↓vmp, vme, vmb, ty, hP, dec_t, dec_f, wrap64, List.length_map, Int.toNat_natCast, Nat.reduceAdd, List.cons_append, List.nil_append, Option.map_some, Option.map_none, strOf_mk, sb_eql, sb_neq, vmg, ↓vgd, ↓vst, ↓vix, hia, hle, dne]
        refine wk_draw (is := [0, 1, 2, 3, 4, 5, 6, 7, 8, 9, 10, 11, 12]) (h := 0) (by kernel_rfl) (by kernel_rfl) ?_
        simp (maxSteps := 1000000) (disch := first | assumption | omega | rfl) only [List.replicate_zero, eq_self, vmd, vmk, vmo, vmg, vme, vmb, ty, hP, dec_t, dec_f, wrap64, List.length_map, Int.toNat_natCast, Nat.reduceAdd, ↓vgd, ↓vst, ↓vix, List.append_nil, strOf_mk, hia, hle, hnm, a1, a2, a3, dr_num hB, bo21]
        refine ⟨by kernel_rfl, ?_⟩
        simp (maxSteps := 1000000) (disch := first | assumption | omega | rfl) only [↓vmp, vme, vmb, ty, hP, dec_t, dec_f, wrap64, List.length_map, Int.toNat_natCast, Nat.reduceAdd, List.cons_append, List.nil_append, Option.map_some, Option.map_none, strOf_mk, sb_eql, sb_neq, vmg, ↓vgd, ↓vst, ↓vix]
        exact ih _ _ _ _ _ _ _ _ _ _ _ _ _ _ _ _ _ _ _ _ _ _ _ _ _ _ _ _ (by omega) (by omega) hR
      · have e1 : Lib.join (ws ++ [w ++ [32] ++ Lib.itoa n]) [44, 32] = Lib.join ws [44, 32] ++ [44, 32] ++ w ++ [32] ++ Lib.itoa n := by rw [join_snoc hws]; simp
        rw [e1] at ih
        have hne := hne hws
        generalize Lib.join ws [44, 32] = s at *
        have a0 : strBin .add s [44, 32] = some (.str (s ++ [44, 32])) := sb_add (by simp; omega)
        have a1 : strBin .add (s ++ [44, 32]) w = some (.str (s ++ [44, 32] ++ w)) := sb_add (by simp; omega)
        have a2 : strBin .add (s ++ [44, 32] ++ w) [32] = some (.str (s ++ [44, 32] ++ w ++ [32])) := sb_add (by simp; omega)
        have a3 : strBin .add (s ++ [44, 32] ++ w ++ [32]) (Lib.itoa n) = some (.str (s ++ [44, 32] ++ w ++ [32] ++ Lib.itoa n)) := sb_add (by simp; omega)
        simp (maxSteps := 1000000) (disch := first | assumption | omega | rfl) only [↓vmp, vme, vmb, ty, hP, dec_t, dec_f, wrap64, List.length_map, Int.toNat_natCast, Nat.reduceAdd, List.cons_append, List.nil_append, Option.map_some, Option.map_none, strOf_mk, sb_eql, sb_neq, vmg, ↓vgd, ↓vst, ↓vix, hia, hle, a0]
        refine wk_draw (is := [0, 1, 2, 3, 4, 5, 6, 7, 8, 9, 10, 11, 12]) (h := 0) (by kernel_rfl) (by kernel_rfl) ?_
        simp (maxSteps := 1000000) (disch := first | assumption | omega | rfl) only [List.replicate_zero, eq_self, vmd, vmk, vmo, vmg, vme, vmb, ty, hP, dec_t, dec_f, wrap64, List.length_map, Int.toNat_natCast, Nat.reduceAdd, ↓vgd, ↓vst, ↓vix, List.append_nil, strOf_mk, hia, hle, hnm, a1, a2, a3, dr_num hB, bo21]
        refine ⟨by kernel_rfl, ?_⟩
        simp (maxSteps := 1000000) (disch := first | assumption | omega | rfl) only [↓vmp, vme, vmb, ty, hP, dec_t, dec_f, wrap64, List.length_map, Int.toNat_natCast, Nat.reduceAdd, List.cons_append, List.nil_append, Option.map_some, Option.map_none, strOf_mk, sb_eql, sb_neq, vmg, ↓vgd, ↓vst, ↓vix]
        exact ih _ _ _ _ _ _ _ _ _ _ _ _ _ _ _ _ _ _ _ _ _ _ _ _ _ _ _ _ (by omega) (by omega) hR
theorem rmended_ok (m : Mend) (hM : MendB m) : Ev cfg 13 [encMend m] (.ret (.d (.str (mendS m)))) := by
  refine ev_of rfl rfl body13 ?_
  show Wp cfg (Tryd.f13.body.getD .skip) ((.d (encMend m)) :: (.tup []) :: (.tup []) :: (.tup []) :: (.tup []) :: (.tup []) :: (.tup []) :: (.tup []) :: (.tup []) :: (.tup []) :: (.tup []) :: (.tup []) :: (.tup []) :: (.tup []) :: (.tup []) :: (.tup []) :: (.tup []) :: (.tup []) :: (.tup []) :: (.tup []) :: (.tup []) :: (.tup []) :: (.tup []) :: (.tup []) :: (.tup []) :: (.tup []) :: (.tup []) :: (.tup []) :: (.tup []) :: (.tup []) :: (.tup []) :: (.tup []) :: (.tup []) :: (.tup []) :: []) [] [] _
  conv => arg 2; whnf
  simp (maxSteps := 1000000) (disch := first | assumption | omega | rfl) only [↓vmp, vme, vmb, ty, hP, dec_t, dec_f, wrap64, List.length_map, Int.toNat_natCast, Nat.reduceAdd, List.cons_append, List.nil_append, Option.map_some, Option.map_none, strOf_mk, sb_eql, sb_neq, vmg, ↓vgd, ↓vst, ↓vix, ↓vbs, op_bs8, bs8_23, fz36, lr36]
  refine rmended_l m hM _ _ _ _ (fun S i hi => ixw hi) 8 0 _ _ _ _ _ _ _ _ _ _ _ _ _ _ _ _ _ _ _ _ _ _ _ _ _ _ _ _ rfl (Nat.zero_le _) ?_
  intro i' g6 g7 g8 g9 g10 g11 g12 g13 g14 g15 g16 g17 g18 g19 g20 g21 g22 g23 g24 g25 g26 g27 g28 g29 g30 g31 g32 g33
  unfold mendS
  by_cases h0 : tellW (mwL m) = []
  · rw [if_pos h0, h0, show Lib.join [] [44, 32] = [] from rfl]
    simp (maxSteps := 1000000) (disch := first | assumption | omega | rfl) only [↓vmp, vme, vmb, ty, hP, dec_t, dec_f, wrap64, List.length_map, Int.toNat_natCast, Nat.reduceAdd, List.cons_append, List.nil_append, Option.map_some, Option.map_none, strOf_mk, sb_eql, sb_neq, vmg, ↓vgd, ↓vst, ↓vix, dec_True]
    exact retQ_one rfl rfl rfl
  · rw [if_neg h0]
    have hne := join_ne (sep := [44, 32]) (tellW_ok hM.mw).1 h0
    generalize Lib.join (tellW (mwL m)) [44, 32] = s at *
    simp (maxSteps := 1000000) (disch := first | assumption | omega | rfl) only [↓vmp, vme, vmb, ty, hP, dec_t, dec_f, wrap64, List.length_map, Int.toNat_natCast, Nat.reduceAdd, List.cons_append, List.nil_append, Option.map_some, Option.map_none, strOf_mk, sb_eql, sb_neq, vmg, ↓vgd, ↓vst, ↓vix]
    exact retQ_one rfl rfl rfl
end Go.Proofs.YtghllhghboaagaaDoor
end
/-! report.Mended: its closure takes a word into the slice that it shares; the report is the document's. -/
section
set_option linter.unusedVariables false
set_option linter.unusedSimpArgs false
set_option maxRecDepth 100000
set_option maxHeartbeats 4000000
namespace Go.Proofs.YtghllhghboaagaaDoor
open Go.Vm
/-- What stands in the store between two calls of the closure: the report; the words so far. -/
def MInv (m : Mend) (k : Nat) (ws : List (List UInt8)) (S : Store) : Prop := ∃ v, S[0]? = some (.row [.d (encMend m)] 40) ∧ S[1]? = some (.row [v] 23) ∧ SlE D.str S v 9 ws ∧ (∀ i, idOf v = some i → 2 ≤ i) ∧ ws.length ≤ k
theorem body23 : bodyOf Tryd.prog 23 = some ⟨Tryd.f23.body.getD .skip, 15, #[]⟩ := by
  unfold bodyOf
  rw [Tryd.func23]
  rfl
theorem sl_fits {S : Store} {v : V} {ws : List (List UInt8)} (h : SlE D.str S v 9 ws) : fitsT Tryd.prog 23 v = true := by
  rcases h with ⟨rfl, _⟩ | ⟨id, ys, rfl, _⟩
  · kernel_rfl
  · show fitsT Tryd.prog 23 (.rs id 0 ws.length) = true
    kernel_rfl
theorem sl_load {S : Store} {v : V} {ws : List (List UInt8)} (h : SlE D.str S v 9 ws) : loadR Tryd.prog 23 0 (some v) = some v := by
  simp only [loadR, sl_fits h, decide_true, Bool.and_self, if_true]
theorem sl_store {S S' : Store} {v v' : V} {ws ws' : List (List UInt8)} (h : SlE D.str S v 9 ws) (h' : SlE D.str S' v' 9 ws') : storeR Tryd.prog 23 0 v' v = some v' := by
  have ha : v.isAgg = v'.isAgg := by
    rcases h with ⟨rfl, _⟩ | ⟨id, ys, rfl, _⟩ <;> rcases h' with ⟨rfl, _⟩ | ⟨id', ys', rfl, _⟩ <;> rfl
  simp only [storeR, sl_fits h', if_true, h.cells, h'.cells, ha, List.length_cons, List.length_nil, decide_true, beq_self_eq_true, Bool.and_self]
theorem line2 {w x : List UInt8} : Lib.join [w, x] [32] = w ++ [32] ++ x := by rw [Lib.join_cons]; simp [Lib.joinTail]
section
variable {ops : Array Oper} {F : Dfs} {Q : Post} {K : List Nat → List (Nat × Nat) → List V → Store → Prop} {rd : List Nat} {cs : List (Nat × Nat)} {i : Nat} {dst : Option Tmp} {T : List V} {S : Store}
theorem dr_line2 {w x : List UInt8} (h : (w ++ [32] ++ x).length ≤ 1000) : WpE cfg ops F Q K rd cs i dst T S (some (.enter 18 [.ts [.str w, .str x]])) = K (i :: rd) (cs ++ [(i, 1)]) (putT T dst (.d (.str (w ++ [32] ++ x)))) S := by
  rw [← line2] at h ⊢
  exact we_call_v (ds := [.sl ([w, x].map .str)]) rfl rfl rfl (line_ok [w, x] (by simp) (by omega))
end
theorem mtell_ok {m : Mend} {k : Nat} {ws : List (List UInt8)} {S : Store} {w : List UInt8} {n : Int} (hw : w.length ≤ 7) (hB : InB n) (hk : k ≤ 20) (hI : MInv m k ws S) : EvS cfg 23 [.d (.str w), .d (.int .i64 n), .ref 1 0 0] S (fun o S' => o = .ret (.tup []) ∧ MInv m (k + 1) (addW ws w n) S') := by
  obtain ⟨v, h0, h1, h2, h3, h4⟩ := hI
  have hnl := itoa_len n hB
  refine evS_of rfl body23 ?_
  show Wp cfg (Tryd.f23.body.getD .skip) [.d (.str w), .d (.int .i64 n), .ref 1 0 0, .tup [], .tup [], .tup [], .tup [], .tup [], .tup [], .tup [], .tup [], .tup [], .tup [], .tup [], .tup []] S [] _
  conv => arg 2; whnf
  rw [wk_of]
  by_cases hn : n = 0
  · have e : addW ws w n = ws := if_pos hn
    rw [e]
    simp (maxSteps := 1000000) (disch := first | assumption | omega | rfl) only [↓vmp, vme, vmb, ty, hP, dec_t, dec_f, wrap64, List.length_map, Int.toNat_natCast, Nat.reduceAdd, List.cons_append, List.nil_append, Option.map_some, Option.map_none, strOf_mk, sb_eql, sb_neq, vmg, ↓vgd, ↓vst, ↓vix, dec_True]
    exact ⟨rfl, _, rfl, rfl, v, h0, h1, h2, h3, by omega⟩
  · have e : addW ws w n = ws ++ [w ++ [32] ++ Lib.itoa n] := if_neg hn
    rw [e]
    obtain ⟨v', S', c, e1, hc, e2, e3, e4⟩ := app_one (w ++ [32] ++ Lib.itoa n) (by omega) h2
    have q0 := e3 0 _ h0 (fun hh => by have := h3 0 hh; omega)
    have q1 := e3 1 _ h1 (fun hh => by have := h3 1 hh; omega)
    have r1 : rowE S 1 0 = some v := by unfold rowE; rw [h1]; rfl
    have r2 : rowE S' 1 0 = some v := by unfold rowE; rw [q1]; rfl
    have p1 : putRow S' 1 0 v' = some (S'.set 1 (.row [v'] 23)) := by unfold putRow; rw [q1]; rfl
    have l1 := sl_load h2
    have s1 := sl_store h2 e2
    have o1 := e2.one
    have hlen := getLen h1
    have hlen' := getLen q1
    have hln : (w ++ [32] ++ Lib.itoa n).length ≤ 1000 := by simp; omega
    have fin : MInv m (k + 1) (ws ++ [w ++ [32] ++ Lib.itoa n]) (S'.set 1 (.row [v'] 23)) := by
      have hne : idOf v' ≠ some 1 := fun hh => by
        rcases e4 1 hh with h | h
        · have := h3 1 h; omega
        · omega
      refine ⟨v', ?_, ?_, ?_, fun i hi => ?_, by simp; omega⟩
      · rw [List.getElem?_set_ne (by decide)]; exact q0
      · rw [List.getElem?_set_self hlen']
      · refine e2.frame2 fun j o hj hi => ?_
        rw [List.getElem?_set_ne (fun hh => hne (by rw [hi, ← hh]))]
        exact hj
      · rcases e4 i hi with h | h
        · exact h3 i h
        · omega
    simp (maxSteps := 1000000) (disch := first | assumption | omega | rfl) only [↓vmp, vme, vmb, ty, hP, dec_t, dec_f, wrap64, List.length_map, Int.toNat_natCast, Nat.reduceAdd, List.cons_append, List.nil_append, Option.map_some, Option.map_none, strOf_mk, sb_eql, sb_neq, vmg, ↓vgd, ↓vst, ↓vix]
    rcases hc with rfl | hc
    · refine wk_draw (is := [0, 1, 2, 3, 4, 5, 6, 7, 8]) (h := 0) (by kernel_rfl) (by kernel_rfl) ?_
      simp (maxSteps := 1000000) (disch := first | assumption | omega | rfl) only [List.replicate_zero, eq_self, vmd, vmk, vmo, vmg, vme, vmb, ty, hP, dec_t, dec_f, wrap64, List.length_map, Int.toNat_natCast, Nat.reduceAdd, ↓vgd, ↓vst, ↓vix, vso, List.append_nil, Option.map_some, dr_itoa hB, bo19, bo18, op_bs2, bs2_23, op_bs1, bs23, dr_line2 hln, e1, r1, r2, p1, l1, s1]
      first | refine ⟨by kernel_rfl, ?_⟩ | refine ⟨fun _ => by kernel_rfl, ?_⟩
      refine ⟨by kernel_rfl, ?_⟩
      simp (maxSteps := 1000000) (disch := first | assumption | omega | rfl) only [↓vmp, vme, vmb, ty, hP, dec_t, dec_f, wrap64, List.length_map, Int.toNat_natCast, Nat.reduceAdd, List.cons_append, List.nil_append, Option.map_some, Option.map_none, strOf_mk, sb_eql, sb_neq, vmg, ↓vgd, ↓vst, ↓vix]
      exact ⟨rfl, _, rfl, rfl, fin⟩
    · rcases hc with rfl | rfl
      all_goals
        refine wk_draw (is := [0, 1, 2, 3, 4, 5, 6, 7, 8]) (h := 0) (by kernel_rfl) (by kernel_rfl) ?_
        simp (maxSteps := 1000000) (disch := first | assumption | omega | rfl) only [List.replicate_zero, eq_self, vmd, vmk, vmo, vmg, vme, vmb, ty, hP, dec_t, dec_f, wrap64, List.length_map, Int.toNat_natCast, Nat.reduceAdd, ↓vgd, ↓vst, ↓vix, vso, List.append_nil, Option.map_some, dr_itoa hB, bo19, bo18, op_bs2, bs2_23, op_bs1, bs23, dr_line2 hln, e1, r1, r2, p1, l1, s1]
        first | refine ⟨by kernel_rfl, ?_⟩ | refine ⟨fun _ => by kernel_rfl, ?_⟩
        simp (maxSteps := 1000000) (disch := first | assumption | omega | rfl) only [List.replicate_zero, eq_self, vmd, vmk, vmo, vmg, vme, vmb, ty, hP, dec_t, dec_f, wrap64, List.length_map, Int.toNat_natCast, Nat.reduceAdd, ↓vgd, ↓vst, ↓vix, vso, List.append_nil, Option.map_some, r1, r2, p1, l1, s1]
        first | refine ⟨by kernel_rfl, ?_⟩ | refine ⟨fun _ => by kernel_rfl, ?_⟩
        refine ⟨by kernel_rfl, ?_⟩
        simp (maxSteps := 1000000) (disch := first | assumption | omega | rfl) only [↓vmp, vme, vmb, ty, hP, dec_t, dec_f, wrap64, List.length_map, Int.toNat_natCast, Nat.reduceAdd, List.cons_append, List.nil_append, Option.map_some, Option.map_none, strOf_mk, sb_eql, sb_neq, vmg, ↓vgd, ↓vst, ↓vix]
        exact ⟨rfl, _, rfl, rfl, fin⟩
end Go.Proofs.YtghllhghboaagaaDoor
end
/-! report.Mended comes to the document's report. -/
section
set_option linter.unusedVariables false
set_option linter.unusedSimpArgs false
set_option maxRecDepth 100000
set_option maxHeartbeats 4000000
namespace Go.Proofs.YtghllhghboaagaaDoor
open Go.Vm
theorem z23 : zeroV Tryd.prog 23 = some (.ts []) := by kernel_rfl
theorem zf23 : fitsT Tryd.prog 23 (.ts []) = true := by kernel_rfl
theorem mfS_r1 {fn : Fn} {S : Store} {a b c : Nat} : mfS fn S [] [.ref a b c] = some (.val (.fn fn [] [.ref a b c]) S 0) := rfl
theorem cv23 {w : List UInt8} {n : Int} : cvV Tryd.prog [.d (.str w), .d (.int .i64 n)] (.fn (.func 23) [] [.ref 1 0 0]) = some (.enter 23 [.d (.str w), .d (.int .i64 n), .ref 1 0 0]) := cv_fn rfl bo23
theorem wl_callv {C : Cfg} {ops : Array Oper} {dst : Option Tmp} {ty : TypeId} {pos : String} {after : Array Edge} {l : List Oper} {T : List V} {S : Store} {F : Dfs} {Q : Post} {t : Nat} {args : Array Operand} {ts : Array TypeId} : WpL C ops (⟨dst, .call { callee := .value (.tmp t), args := args, argTypes := ts }, ty, pos, after, none⟩ :: l) T S F Q = WpR C ops dst l T S F Q (cvV C.P (args.toList.map (evalO T)) (evalO T (.tmp t))) := by rw [wl_op rfl, op_callv]
theorem MInv.r0 {m : Mend} {k : Nat} {ws : List (List UInt8)} {S : Store} (h : MInv m k ws S) : rowE S 0 0 = some (.d (encMend m)) := by
  obtain ⟨v, h0, _⟩ := h
  unfold rowE
  rw [h0]
  rfl
section
variable {ops : Array Oper} {dst : Option Tmp} {k : List Oper} {T : List V} {S : Store} {F : Dfs} {Q : Post}
theorem call_join {v : V} {l : List (List UInt8)} {sep : List UInt8} (hv : Go.Vm.frz S frzFuel v = some (.sl (l.map .str))) (h1 : l.length ≤ 1000) (h2 : (Lib.join l sep).length ≤ 1000000) : WpR cfg ops dst k T S F Q (some (.enter 24 [v, .d (.str sep)])) = WpL cfg ops k (putT T dst (.d (.str (Lib.join l sep)))) S F Q :=
  wr_call_plain (ds := [.sl (l.map .str), .str sep]) rfl (by simp only [allO, hv, frz_d]) rfl (join_ev l sep (by omega) (by omega))
end
theorem mended_ok (m : Mend) (hM : MendB m) : Ev cfg 12 [encMend m] (.ret (.d (.str (mendS m)))) := by
  refine ev_of rfl rfl body12 ?_
  show Wp cfg (Tryd.f12.body.getD .skip) ((.d (encMend m)) :: (.tup []) :: (.tup []) :: (.tup []) :: (.tup []) :: (.tup []) :: (.tup []) :: (.tup []) :: (.tup []) :: (.tup []) :: (.tup []) :: (.tup []) :: (.tup []) :: (.tup []) :: (.tup []) :: (.tup []) :: (.tup []) :: (.tup []) :: (.tup []) :: (.tup []) :: (.tup []) :: (.tup []) :: (.tup []) :: (.tup []) :: (.tup []) :: (.tup []) :: (.tup []) :: (.tup []) :: (.tup []) :: (.tup []) :: (.tup []) :: (.tup []) :: (.tup []) :: (.tup []) :: (.tup []) :: (.tup []) :: (.tup []) :: (.tup []) :: (.tup []) :: (.tup []) :: (.tup []) :: (.tup []) :: (.tup []) :: []) [] [] _
  conv => arg 2; whnf
  simp (maxSteps := 1000000) (disch := first | assumption | omega | rfl) only [↓vmp, vme, vmb, ty, hP, dec_t, dec_f, wrap64, List.length_map, Int.toNat_natCast, Nat.reduceAdd, List.cons_append, List.nil_append, Option.map_some, Option.map_none, strOf_mk, sb_eql, sb_neq, vmg, ↓vgd, ↓vst, ↓vix, z23, zf23, ↓wl_makeFunc, mfS_r1, ↓wl_callv, cv23, bo23]
  have hI0 : MInv m 0 [] [.row [.d (encMend m)] 40, .row [.ts []] 23] := ⟨.ts [], rfl, rfl, .inl ⟨rfl, rfl⟩, (fun i h => by cases h), Nat.le_refl _⟩
  refine wr_callS rfl (mtell_ok (w := [119, 114, 105, 116, 101, 115]) (by decide) hM.n0 (by omega) hI0) ?_ (by rintro v S' ⟨hv, _⟩; cases hv)
  rintro v S1 ⟨hv, hI1⟩
  cases hv
  have r1 := hI1.r0
  simp (maxSteps := 1000000) (disch := first | assumption | omega | rfl) only [↓vmp, vme, vmb, ty, hP, dec_t, dec_f, wrap64, List.length_map, Int.toNat_natCast, Nat.reduceAdd, List.cons_append, List.nil_append, Option.map_some, Option.map_none, strOf_mk, sb_eql, sb_neq, vmg, ↓vgd, ↓vst, ↓vix, ↓wl_callv, cv23, bo23, r1]
  refine wr_callS rfl (mtell_ok (w := [108, 111, 115, 116]) (by decide) hM.n1 (by omega) hI1) ?_ (by rintro v S' ⟨hv, _⟩; cases hv)
  rintro v S2 ⟨hv, hI2⟩
  cases hv
  have r2 := hI2.r0
  simp (maxSteps := 1000000) (disch := first | assumption | omega | rfl) only [↓vmp, vme, vmb, ty, hP, dec_t, dec_f, wrap64, List.length_map, Int.toNat_natCast, Nat.reduceAdd, List.cons_append, List.nil_append, Option.map_some, Option.map_none, strOf_mk, sb_eql, sb_neq, vmg, ↓vgd, ↓vst, ↓vix, ↓wl_callv, cv23, bo23, r2]
  refine wr_callS rfl (mtell_ok (w := [102, 114, 101, 101, 100]) (by decide) hM.n2 (by omega) hI2) ?_ (by rintro v S' ⟨hv, _⟩; cases hv)
  rintro v S3 ⟨hv, hI3⟩
  cases hv
  have r3 := hI3.r0
  simp (maxSteps := 1000000) (disch := first | assumption | omega | rfl) only [↓vmp, vme, vmb, ty, hP, dec_t, dec_f, wrap64, List.length_map, Int.toNat_natCast, Nat.reduceAdd, List.cons_append, List.nil_append, Option.map_some, Option.map_none, strOf_mk, sb_eql, sb_neq, vmg, ↓vgd, ↓vst, ↓vix, ↓wl_callv, cv23, bo23, r3]
  refine wr_callS rfl (mtell_ok (w := [108, 105, 110, 107, 115]) (by decide) hM.n3 (by omega) hI3) ?_ (by rintro v S' ⟨hv, _⟩; cases hv)
  rintro v S4 ⟨hv, hI4⟩
  cases hv
  have r4 := hI4.r0
  simp (maxSteps := 1000000) (disch := first | assumption | omega | rfl) only [↓vmp, vme, vmb, ty, hP, dec_t, dec_f, wrap64, List.length_map, Int.toNat_natCast, Nat.reduceAdd, List.cons_append, List.nil_append, Option.map_some, Option.map_none, strOf_mk, sb_eql, sb_neq, vmg, ↓vgd, ↓vst, ↓vix, ↓wl_callv, cv23, bo23, r4]
  refine wr_callS rfl (mtell_ok (w := [112, 97, 114, 101, 110, 116, 115]) (by decide) hM.n4 (by omega) hI4) ?_ (by rintro v S' ⟨hv, _⟩; cases hv)
  rintro v S5 ⟨hv, hI5⟩
  cases hv
  have r5 := hI5.r0
  simp (maxSteps := 1000000) (disch := first | assumption | omega | rfl) only [↓vmp, vme, vmb, ty, hP, dec_t, dec_f, wrap64, List.length_map, Int.toNat_natCast, Nat.reduceAdd, List.cons_append, List.nil_append, Option.map_some, Option.map_none, strOf_mk, sb_eql, sb_neq, vmg, ↓vgd, ↓vst, ↓vix, ↓wl_callv, cv23, bo23, r5]
  refine wr_callS rfl (mtell_ok (w := [99, 108, 101, 97, 114, 101, 100]) (by decide) hM.n5 (by omega) hI5) ?_ (by rintro v S' ⟨hv, _⟩; cases hv)
  rintro v S6 ⟨hv, hI6⟩
  cases hv
  have r6 := hI6.r0
  simp (maxSteps := 1000000) (disch := first | assumption | omega | rfl) only [↓vmp, vme, vmb, ty, hP, dec_t, dec_f, wrap64, List.length_map, Int.toNat_natCast, Nat.reduceAdd, List.cons_append, List.nil_append, Option.map_some, Option.map_none, strOf_mk, sb_eql, sb_neq, vmg, ↓vgd, ↓vst, ↓vix, ↓wl_callv, cv23, bo23, r6]
  refine wr_callS rfl (mtell_ok (w := [108, 101, 97, 107, 101, 100]) (by decide) hM.n6 (by omega) hI6) ?_ (by rintro v S' ⟨hv, _⟩; cases hv)
  rintro v S7 ⟨hv, hI7⟩
  cases hv
  have r7 := hI7.r0
  simp (maxSteps := 1000000) (disch := first | assumption | omega | rfl) only [↓vmp, vme, vmb, ty, hP, dec_t, dec_f, wrap64, List.length_map, Int.toNat_natCast, Nat.reduceAdd, List.cons_append, List.nil_append, Option.map_some, Option.map_none, strOf_mk, sb_eql, sb_neq, vmg, ↓vgd, ↓vst, ↓vix, ↓wl_callv, cv23, bo23, r7]
  refine wr_callS rfl (mtell_ok (w := [109, 97, 114, 107, 101, 100]) (by decide) hM.n7 (by omega) hI7) ?_ (by rintro v S' ⟨hv, _⟩; cases hv)
  rintro v S8 ⟨hv, hI8⟩
  cases hv
  have ew : addW (addW (addW (addW (addW (addW (addW (addW ([]) [119, 114, 105, 116, 101, 115] m.n0) [108, 111, 115, 116] m.n1) [102, 114, 101, 101, 100] m.n2) [108, 105, 110, 107, 115] m.n3) [112, 97, 114, 101, 110, 116, 115] m.n4) [99, 108, 101, 97, 114, 101, 100] m.n5) [108, 101, 97, 107, 101, 100] m.n6) [109, 97, 114, 107, 101, 100] m.n7 = tellW (mwL m) := rfl
  rw [ew] at hI8
  obtain ⟨v, h0, h1, h2, h3, h4⟩ := hI8
  have hok := tellW_ok hM.mw
  have hj := joinc_len hok.1
  have r1 : rowE S8 1 0 = some v := by unfold rowE; rw [h1]; rfl
  have l1 := sl_load h2
  have ln := h2.len Tryd.underlying23
  unfold mendS
  generalize tellW (mwL m) = ws at *
  by_cases h0 : ws = []
  · subst h0
    rw [if_pos rfl]
    simp (maxSteps := 1000000) (disch := first | assumption | omega | rfl) only [↓vmp, vme, vmb, ty, hP, dec_t, dec_f, wrap64, List.length_map, Int.toNat_natCast, Nat.reduceAdd, List.cons_append, List.nil_append, Option.map_some, Option.map_none, strOf_mk, sb_eql, sb_neq, vmg, ↓vgd, ↓vst, ↓vix, r1, l1, ln, dec_True]
    exact retQ_one rfl rfl rfl
  · rw [if_neg h0]
    have hn0 : ¬ ws.length = 0 := fun hh => h0 (List.length_eq_zero_iff.1 hh)
    have hcl : ∀ {ops : Array Oper} {dst : Option Tmp} {k : List Oper} {T : List V} {F : Dfs} {Q : Post}, WpR cfg ops dst k T S8 F Q (some (.enter 24 [v, .d (.str [44, 32])])) = WpL cfg ops k (putT T dst (.d (.str (Lib.join ws [44, 32])))) S8 F Q := fun {ops dst k T F Q} => call_join h2.frz (by omega) (by omega)
    have o1 := h2.one
    simp (maxSteps := 1000000) (disch := first | assumption | omega | rfl) only [↓vmp, vme, vmb, ty, hP, dec_t, dec_f, wrap64, List.length_map, Int.toNat_natCast, Nat.reduceAdd, List.cons_append, List.nil_append, Option.map_some, Option.map_none, strOf_mk, sb_eql, sb_neq, vmg, ↓vgd, ↓vst, ↓vix, r1, l1, ln, hcl, bo24, o1]
    exact retQ_one rfl rfl rfl
end Go.Proofs.YtghllhghboaagaaDoor
end
/-! The statement's own code: escheatlaw47.ReportCounts comes to true. -/
section
set_option linter.unusedVariables false
set_option linter.unusedSimpArgs false
set_option maxRecDepth 100000
set_option maxHeartbeats 4000000
namespace Go.Proofs.YtghllhghboaagaaDoor
open Go.Vm
theorem ia36_0 {S : Store} {j x : Nat} : indexAddrV Tryd.prog S 36 (.ref j x 0) (.d (.int .i64 0)) = some (.ref j x 0) := by kernel_rfl
theorem ia36_1 {S : Store} {j x : Nat} : indexAddrV Tryd.prog S 36 (.ref j x 0) (.d (.int .i64 1)) = some (.ref j x 1) := by kernel_rfl
theorem ia36_2 {S : Store} {j x : Nat} : indexAddrV Tryd.prog S 36 (.ref j x 0) (.d (.int .i64 2)) = some (.ref j x 2) := by kernel_rfl
theorem ia36_3 {S : Store} {j x : Nat} : indexAddrV Tryd.prog S 36 (.ref j x 0) (.d (.int .i64 3)) = some (.ref j x 3) := by kernel_rfl
theorem ia36_4 {S : Store} {j x : Nat} : indexAddrV Tryd.prog S 36 (.ref j x 0) (.d (.int .i64 4)) = some (.ref j x 4) := by kernel_rfl
theorem ia36_5 {S : Store} {j x : Nat} : indexAddrV Tryd.prog S 36 (.ref j x 0) (.d (.int .i64 5)) = some (.ref j x 5) := by kernel_rfl
theorem ia36_6 {S : Store} {j x : Nat} : indexAddrV Tryd.prog S 36 (.ref j x 0) (.d (.int .i64 6)) = some (.ref j x 6) := by kernel_rfl
theorem ia36_7 {S : Store} {j x : Nat} : indexAddrV Tryd.prog S 36 (.ref j x 0) (.d (.int .i64 7)) = some (.ref j x 7) := by kernel_rfl
theorem bd40 {m : Mend} : buildV Tryd.prog 40 [(0, .d (.int .i64 m.n0)), (1, .d (.int .i64 m.n1)), (2, .d (.int .i64 m.n2)), (3, .d (.int .i64 m.n3)), (4, .d (.int .i64 m.n4)), (5, .d (.int .i64 m.n5)), (6, .d (.int .i64 m.n6)), (7, .d (.int .i64 m.n7))] = some (.agg [.d (.int .i64 m.n0), .d (.int .i64 m.n1), .d (.int .i64 m.n2), .d (.int .i64 m.n3), .d (.int .i64 m.n4), .d (.int .i64 m.n5), .d (.int .i64 m.n6), .d (.int .i64 m.n7)]) := by kernel_rfl
section
variable {ops : Array Oper} {F : Dfs} {Q : Post} {K : List Nat → List (Nat × Nat) → List V → Store → Prop} {rd : List Nat} {cs : List (Nat × Nat)} {i : Nat} {dst : Option Tmp} {T : List V} {S : Store}
theorem dr_mended {m : Mend} (h : MendB m) : WpE cfg ops F Q K rd cs i dst T S (some (.enter 12 [.agg [.d (.int .i64 m.n0), .d (.int .i64 m.n1), .d (.int .i64 m.n2), .d (.int .i64 m.n3), .d (.int .i64 m.n4), .d (.int .i64 m.n5), .d (.int .i64 m.n6), .d (.int .i64 m.n7)]])) = K (i :: rd) (cs ++ [(i, 1)]) (putT T dst (.d (.str (mendS m)))) S :=
  we_call_v (ds := [encMend m]) rfl rfl rfl (mended_ok m h)
theorem dr_rmended {m : Mend} (h : MendB m) : WpE cfg ops F Q K rd cs i dst T S (some (.enter 13 [.d (encMend m)])) = K (i :: rd) (cs ++ [(i, 1)]) (putT T dst (.d (.str (mendS m)))) S :=
  we_call_d (ds := [encMend m]) rfl (rmended_ok m h)
theorem dr_faults {l : List Int} (h : l.length ≤ 20) : WpE cfg ops F Q K rd cs i dst T S (some (.enter 14 [.d (.sl (l.map fun n => D.int .i64 n))])) = K (i :: rd) (cs ++ [(i, 1)]) (putT T dst (.d (.str (faultsS l)))) S :=
  we_call_d (ds := [.sl (l.map fun n => D.int .i64 n)]) rfl (faults_ok l h)
theorem dr_rfaults {l : List Int} (h : l.length ≤ 20) : WpE cfg ops F Q K rd cs i dst T S (some (.enter 15 [.d (.sl (l.map fun n => D.int .i64 n))])) = K (i :: rd) (cs ++ [(i, 1)]) (putT T dst (.d (.str (faultsS l)))) S :=
  we_call_d (ds := [.sl (l.map fun n => D.int .i64 n)]) rfl (rfaults_ok l h)
theorem dr_verdict {l : List Int} (h : l.length = 5) (hb : ∀ n ∈ l, InB n) : WpE cfg ops F Q K rd cs i dst T S (some (.enter 16 [.d (arrI l)])) = K (i :: rd) (cs ++ [(i, 1)]) (putT T dst (.d (.str (numsS l)))) S :=
  we_call_d (ds := [arrI l]) rfl (verdict_ok l h hb)
theorem dr_numbers {l : List Int} (h : l.length = 5) (hb : ∀ n ∈ l, InB n) : WpE cfg ops F Q K rd cs i dst T S (some (.enter 17 [.d (arrI l)])) = K (i :: rd) (cs ++ [(i, 1)]) (putT T dst (.d (.str (numsS l)))) S :=
  we_call_d (ds := [arrI l]) rfl (numbers_ok l h hb)
end
theorem counts_ok (m : Mend) (l v : List Int) (hM : MendB m) (h5 : v.length = 5) (hv : ∀ n ∈ v, InB n) : Ev cfg 4 [encMend m, .sl (l.map fun n => D.int .i64 n), arrI v] (.ret (.d (.bool true))) := by
  have hf := fz38 h5
  have hr := lr38 h5
  refine ev_of rfl rfl body4 ?_
  show Wp cfg (Tryd.f4.body.getD .skip) ((.d (encMend m)) :: (.d (.sl (l.map fun n => D.int .i64 n))) :: (.d (arrI v)) :: (.tup []) :: (.tup []) :: (.tup []) :: (.tup []) :: (.tup []) :: (.tup []) :: (.tup []) :: (.tup []) :: (.tup []) :: (.tup []) :: (.tup []) :: (.tup []) :: (.tup []) :: (.tup []) :: (.tup []) :: (.tup []) :: (.tup []) :: (.tup []) :: (.tup []) :: (.tup []) :: (.tup []) :: (.tup []) :: (.tup []) :: (.tup []) :: (.tup []) :: (.tup []) :: (.tup []) :: (.tup []) :: (.tup []) :: (.tup []) :: (.tup []) :: (.tup []) :: (.tup []) :: (.tup []) :: (.tup []) :: (.tup []) :: (.tup []) :: (.tup []) :: (.tup []) :: (.tup []) :: (.tup []) :: (.tup []) :: (.tup []) :: (.tup []) :: (.tup []) :: (.tup []) :: (.tup []) :: (.tup []) :: []) [] [] _
  conv => arg 2; whnf
  by_cases hl : (l.length : Int) > 20
  · simp (maxSteps := 1000000) (disch := first | assumption | omega | rfl) only [↓vmp, vme, vmb, ty, hP, dec_t, dec_f, wrap64, List.length_map, Int.toNat_natCast, Nat.reduceAdd, List.cons_append, List.nil_append, Option.map_some, Option.map_none, strOf_mk, sb_eql, sb_neq, vmg, ↓vgd, ↓vst, ↓vix, hf, hr, fz36, lr36, call_works, bo6, dec_True]
    exact retQ_one rfl rfl rfl
  · have hl20 : l.length ≤ 20 := by omega
    simp (maxSteps := 1000000) (disch := first | assumption | omega | rfl) only [↓vmp, vme, vmb, ty, hP, dec_t, dec_f, wrap64, List.length_map, Int.toNat_natCast, Nat.reduceAdd, List.cons_append, List.nil_append, Option.map_some, Option.map_none, strOf_mk, sb_eql, sb_neq, vmg, ↓vgd, ↓vst, ↓vix, hf, hr, fz36, lr36, ia36_0, ia36_1, ia36_2, ia36_3, ia36_4, ia36_5, ia36_6, ia36_7, bd40, z40, zf40]
    refine wk_draw (is := [0, 2, 1, 3, 4, 5, 6, 8, 7, 9, 10, 11, 12, 13, 15, 14, 16, 17, 18, 19, 20, 21, 22]) (h := 0) (by kernel_rfl) (by kernel_rfl) ?_
    simp (maxSteps := 1000000) (disch := first | assumption | omega | rfl) only [List.replicate_zero, eq_self, vmd, vmk, vmo, vmg, vme, vmb, ty, hP, dec_t, dec_f, wrap64, List.length_map, Int.toNat_natCast, Nat.reduceAdd, ↓vgd, ↓vst, ↓vix, List.append_nil, hf, hr, fz36, lr36, dr_mended hM, dr_rmended hM, dr_faults hl20, dr_rfaults hl20, dr_verdict h5 hv, dr_numbers h5 hv, dr_works, bo6, bo12, bo13, bo14, bo15, bo16, bo17, sb_eql, deq, dec_True]
    refine ⟨by kernel_rfl, ?_⟩
    simp (maxSteps := 1000000) (disch := first | assumption | omega | rfl) only [↓vmp, vme, vmb, ty, hP, dec_t, dec_f, wrap64, List.length_map, Int.toNat_natCast, Nat.reduceAdd, List.cons_append, List.nil_append, Option.map_some, Option.map_none, strOf_mk, sb_eql, sb_neq, vmg, ↓vgd, ↓vst, ↓vix]
    exact retQ_one rfl rfl rfl
end Go.Proofs.YtghllhghboaagaaDoor
end
