/- The program's paths: name.Check, route.Split, route.Up. -/
import Derived.Test.YtghllhghboaagaaP09
/-! The program's paths: name.Check, route.Split, route.Up. -/
section
set_option linter.unusedVariables false
set_option linter.unusedSimpArgs false
set_option maxRecDepth 10000
set_option maxHeartbeats 4000000
namespace Go.Proofs.Ytghllhghboaagaa
open Go.Vm
theorem chk_l (s : List UInt8) (hl : s.length < 1000000) (R : Post) (S : Store) (g2 : V) : ∀ (k i : Nat) (g3 g4 g5 g6 g7 g8 g9 g10 g11 g12 g13 g14 g15 g16 g17 g18 g19 g23 g24 g25 g26 g27 g28 g29 g30 g31 g32 g33 g34 g35 : V), s.length - i = k → i ≤ s.length →
   (∀ i' g3 g4 g5 g6 g7 g8 g9 g10 g11 g12 g13 g14 g15 g16 g17 g18 g19 g23 g24 g25 g26 g27 g28 g29 g30 g31 g32 g33 g34 g35, (s.drop i).all rightC = true → R (.exit 0) ((.d (.str s)) :: (.tup []) :: g2 :: g3 :: g4 :: g5 :: g6 :: g7 :: g8 :: g9 :: g10 :: g11 :: g12 :: g13 :: g14 :: g15 :: g16 :: g17 :: g18 :: g19 :: (.d (.str s)) :: (.d (.int .i64 s.length)) :: i' :: g23 :: g24 :: g25 :: g26 :: g27 :: g28 :: g29 :: g30 :: g31 :: g32 :: g33 :: g34 :: g35 :: []) S []) →
   (∀ i' g3 g4 g5 g6 g7 g8 g9 g10 g11 g12 g13 g14 g15 g16 g17 g18 g19 g23 g24 g25 g26 g27 g28 g29 g30 g31 g32 g33 g34 g35, (s.drop i).all rightC = false → R .ret ((.d (.str s)) :: (.tup []) :: (.d (.int .i64 3)) :: g3 :: g4 :: g5 :: g6 :: g7 :: g8 :: g9 :: g10 :: g11 :: g12 :: g13 :: g14 :: g15 :: g16 :: g17 :: g18 :: g19 :: (.d (.str s)) :: (.d (.int .i64 s.length)) :: i' :: g23 :: g24 :: g25 :: g26 :: g27 :: g28 :: g29 :: g30 :: g31 :: g32 :: g33 :: g34 :: g35 :: []) S []) →
   Wp cfg (.loop (lpOf (Try.f96.body.getD .skip) 0)) ((.d (.str s)) :: (.tup []) :: g2 :: g3 :: g4 :: g5 :: g6 :: g7 :: g8 :: g9 :: g10 :: g11 :: g12 :: g13 :: g14 :: g15 :: g16 :: g17 :: g18 :: g19 :: (.d (.str s)) :: (.d (.int .i64 s.length)) :: (.d (.int .i64 i)) :: g23 :: g24 :: g25 :: g26 :: g27 :: g28 :: g29 :: g30 :: g31 :: g32 :: g33 :: g34 :: g35 :: []) S [] R := by
  intro k
  induction k with
  | zero =>
    intro i g3 g4 g5 g6 g7 g8 g9 g10 g11 g12 g13 g14 g15 g16 g17 g18 g19 g23 g24 g25 g26 g27 g28 g29 g30 g31 g32 g33 g34 g35 hk hi hE hR
    have hie : i = s.length := by omega
    rw [wk_of]
    refine wk_loop ?_
    conv => arg 2; whnf
    simp (maxSteps := 1000000) (disch := first | assumption | omega | rfl) only [↓vmp, vme, vmb, ty, hP, dec_t, dec_f, wrap64, List.length_map, Int.toNat_natCast, Nat.reduceAdd, List.cons_append, List.nil_append, Option.map_some, Option.map_none, strOf_mk, sb_eql, sb_neq, vmg, ↓vgd, ↓vst, ↓vix]
    exact hE _ _ _ _ _ _ _ _ _ _ _ _ _ _ _ _ _ _ _ _ _ _ _ _ _ _ _ _ _ _ _ (by rw [hie, List.drop_length]; rfl)
  | succ k ih =>
    intro i g3 g4 g5 g6 g7 g8 g9 g10 g11 g12 g13 g14 g15 g16 g17 g18 g19 g23 g24 g25 g26 g27 g28 g29 g30 g31 g32 g33 g34 g35 hk hi hE hR
    have hlt : i < s.length := by omega
    have hdr : s.drop i = s[i] :: s.drop (i + 1) := List.drop_eq_getElem_cons hlt
    rw [hdr, List.all_cons] at hE hR
    have e0 : s[i] = 0 ↔ (s[i].toNat : Int) = 0 := ⟨fun h => by rw [h]; rfl, fun h => UInt8.toNat_inj.1 (by simpa using h)⟩
    have e47 : s[i] = 47 ↔ (s[i].toNat : Int) = 47 := ⟨fun h => by rw [h]; rfl, fun h => UInt8.toNat_inj.1 (by show s[i].toNat = 47; omega)⟩
    rw [wk_of]
    refine wk_loop ?_
    conv => arg 2; whnf
    by_cases c0 : (s[i].toNat : Int) = 0
    · have hr : rightC s[i] = false := by simp [rightC, e0.2 c0]
      simp (maxSteps := 1000000) (disch := first | assumption | omega | rfl) only [↓vmp, vme, vmb, ty, hP, dec_t, dec_f, wrap64, List.length_map, Int.toNat_natCast, Nat.reduceAdd, List.cons_append, List.nil_append, Option.map_some, Option.map_none, strOf_mk, sb_eql, sb_neq, vmg, ↓vgd, ↓vst, ↓vix]
      exact hR _ _ _ _ _ _ _ _ _ _ _ _ _ _ _ _ _ _ _ _ _ _ _ _ _ _ _ _ _ _ _ (by rw [hr]; rfl)
    · by_cases c1 : (s[i].toNat : Int) = 47
      · have hr : rightC s[i] = false := by simp [rightC, e47.2 c1]
        simp (maxSteps := 1000000) (disch := first | assumption | omega | rfl) only [↓vmp, vme, vmb, ty, hP, dec_t, dec_f, wrap64, List.length_map, Int.toNat_natCast, Nat.reduceAdd, List.cons_append, List.nil_append, Option.map_some, Option.map_none, strOf_mk, sb_eql, sb_neq, vmg, ↓vgd, ↓vst, ↓vix]
        exact hR _ _ _ _ _ _ _ _ _ _ _ _ _ _ _ _ _ _ _ _ _ _ _ _ _ _ _ _ _ _ _ (by rw [hr]; rfl)
      · have hr : rightC s[i] = true := by simp only [rightC, decide_eq_true_eq]; exact ⟨fun h => c0 (e0.1 h), fun h => c1 (e47.1 h)⟩
        rw [hr, Bool.true_and] at hE hR
        simp (maxSteps := 1000000) (disch := first | assumption | omega | rfl) only [↓vmp, vme, vmb, ty, hP, dec_t, dec_f, wrap64, List.length_map, Int.toNat_natCast, Nat.reduceAdd, List.cons_append, List.nil_append, Option.map_some, Option.map_none, strOf_mk, sb_eql, sb_neq, vmg, ↓vgd, ↓vst, ↓vix]
        exact ih (i + 1) _ _ _ _ _ _ _ _ _ _ _ _ _ _ _ _ _ _ _ _ _ _ _ _ _ _ _ _ _ _ (by omega) (by omega) hE hR
def checkN (s : List UInt8) : Int := if rightN s = true then 0 else 3
theorem check_ok (s : List UInt8) (hl : s.length < 1000000) : Ev cfg 96 [.str s] (.ret (.d (.int .i64 (checkN s)))) := by
  refine ev_of rfl rfl body96 ?_
  show Wp cfg (Try.f96.body.getD .skip) ((.d (.str s)) :: (.tup []) :: (.tup []) :: (.tup []) :: (.tup []) :: (.tup []) :: (.tup []) :: (.tup []) :: (.tup []) :: (.tup []) :: (.tup []) :: (.tup []) :: (.tup []) :: (.tup []) :: (.tup []) :: (.tup []) :: (.tup []) :: (.tup []) :: (.tup []) :: (.tup []) :: (.tup []) :: (.tup []) :: (.tup []) :: (.tup []) :: (.tup []) :: (.tup []) :: (.tup []) :: (.tup []) :: (.tup []) :: (.tup []) :: (.tup []) :: (.tup []) :: (.tup []) :: (.tup []) :: (.tup []) :: (.tup []) :: []) [] [] _
  conv => arg 2; whnf
  have bad : ¬ (1 ≤ s.length ∧ s.length ≤ 24 ∧ s ≠ [46] ∧ s ≠ [46, 46]) → checkN s = 3 := fun h => by
    unfold checkN
    rw [if_neg]
    intro hr
    simp only [rightN, Bool.and_eq_true, decide_eq_true_eq] at hr
    exact h hr.1
  by_cases c1 : (s.length : Int) < 1
  · simp (maxSteps := 1000000) (disch := first | assumption | omega | rfl) only [↓vmp, vme, vmb, ty, hP, dec_t, dec_f, wrap64, List.length_map, Int.toNat_natCast, Nat.reduceAdd, List.cons_append, List.nil_append, Option.map_some, Option.map_none, strOf_mk, sb_eql, sb_neq, vmg, ↓vgd, ↓vst, ↓vix]
    rw [bad (fun h => by omega)]
    exact retQ_one rfl rfl rfl
  · by_cases c2 : (s.length : Int) > 24
    · simp (maxSteps := 1000000) (disch := first | assumption | omega | rfl) only [↓vmp, vme, vmb, ty, hP, dec_t, dec_f, wrap64, List.length_map, Int.toNat_natCast, Nat.reduceAdd, List.cons_append, List.nil_append, Option.map_some, Option.map_none, strOf_mk, sb_eql, sb_neq, vmg, ↓vgd, ↓vst, ↓vix]
      rw [bad (fun h => by omega)]
      exact retQ_one rfl rfl rfl
    · by_cases c3 : s = [46]
      · simp (maxSteps := 1000000) (disch := first | assumption | omega | rfl) only [↓vmp, vme, vmb, ty, hP, dec_t, dec_f, wrap64, List.length_map, Int.toNat_natCast, Nat.reduceAdd, List.cons_append, List.nil_append, Option.map_some, Option.map_none, strOf_mk, sb_eql, sb_neq, vmg, ↓vgd, ↓vst, ↓vix]
        rw [bad (fun h => h.2.2.1 c3)]
        exact retQ_one rfl rfl rfl
      · by_cases c4 : s = [46, 46]
        · simp (maxSteps := 1000000) (disch := first | assumption | omega | rfl) only [↓vmp, vme, vmb, ty, hP, dec_t, dec_f, wrap64, List.length_map, Int.toNat_natCast, Nat.reduceAdd, List.cons_append, List.nil_append, Option.map_some, Option.map_none, strOf_mk, sb_eql, sb_neq, vmg, ↓vgd, ↓vst, ↓vix]
          rw [bad (fun h => h.2.2.2 c4)]
          exact retQ_one rfl rfl rfl
        · simp (maxSteps := 1000000) (disch := first | assumption | omega | rfl) only [↓vmp, vme, vmb, ty, hP, dec_t, dec_f, wrap64, List.length_map, Int.toNat_natCast, Nat.reduceAdd, List.cons_append, List.nil_append, Option.map_some, Option.map_none, strOf_mk, sb_eql, sb_neq, vmg, ↓vgd, ↓vst, ↓vix]
          have good : checkN s = if s.all rightC = true then 0 else 3 := by
            unfold checkN rightN
            rw [decide_eq_true (⟨by omega, by omega, c3, c4⟩ : 1 ≤ s.length ∧ s.length ≤ 24 ∧ s ≠ [46] ∧ s ≠ [46, 46]), Bool.true_and]
          refine chk_l s hl _ _ _ s.length 0 _ _ _ _ _ _ _ _ _ _ _ _ _ _ _ _ _ _ _ _ _ _ _ _ _ _ _ _ _ _ rfl (by omega) ?_ ?_
          · intro i' g3 g4 g5 g6 g7 g8 g9 g10 g11 g12 g13 g14 g15 g16 g17 g18 g19 g23 g24 g25 g26 g27 g28 g29 g30 g31 g32 g33 g34 g35 h
            rw [List.drop_zero] at h
            simp (maxSteps := 1000000) (disch := first | assumption | omega | rfl) only [↓vmp, vme, vmb, ty, hP, dec_t, dec_f, wrap64, List.length_map, Int.toNat_natCast, Nat.reduceAdd, List.cons_append, List.nil_append, Option.map_some, Option.map_none, strOf_mk, sb_eql, sb_neq, vmg, ↓vgd, ↓vst, ↓vix]
            rw [good, if_pos h]
            exact retQ_one rfl rfl rfl
          · intro i' g3 g4 g5 g6 g7 g8 g9 g10 g11 g12 g13 g14 g15 g16 g17 g18 g19 g23 g24 g25 g26 g27 g28 g29 g30 g31 g32 g33 g34 g35 h
            rw [List.drop_zero] at h
            simp (maxSteps := 1000000) (disch := first | assumption | omega | rfl) only [↓vmp, vme, vmb, ty, hP, dec_t, dec_f, wrap64, List.length_map, Int.toNat_natCast, Nat.reduceAdd, List.cons_append, List.nil_append, Option.map_some, Option.map_none, strOf_mk, sb_eql, sb_neq, vmg, ↓vgd, ↓vst, ↓vix]
            rw [good, if_neg (by rw [h]; exact Bool.noConfusion)]
            exact retQ_one rfl rfl rfl
theorem call_check {ops : Array Oper} {dst : Option Tmp} {k : List Oper} {T : List V} {S : Store} {F : Dfs} {Q : Post} {s : List UInt8} (hl : s.length < 1000000) :
    WpR cfg ops dst k T S F Q (some (.enter 96 [.d (.str s)])) = WpL cfg ops k (putT T dst (.d (.int .i64 (checkN s)))) S F Q :=
  wr_call_d (ds := [.str s]) rfl (check_ok s hl)
end Go.Proofs.Ytghllhghboaagaa
end
/-! The program's paths: what stands between strokes, route.Split, route.Up. -/
section
set_option linter.unusedVariables false
set_option linter.unusedSimpArgs false
set_option maxRecDepth 10000
set_option maxHeartbeats 4000000
namespace Go.Proofs.Ytghllhghboaagaa
open Go.Vm
def nextS (S : Store) : V → Option Rs
  | .it id => match S[id]? with
    | some (.iter s pos) => if pos < s.length then some (.val (.tup [.d (.bool true), .d (.int .i64 pos), .d (.int .i32 (Utf8.decode ⟨s.toArray⟩ pos).1)]) (S.set id (.iter s (pos + (Utf8.decode ⟨s.toArray⟩ pos).2))) 3) else some (.val (.tup [.d (.bool false)]) S 3)
    | _ => none
  | _ => none
def rangeS (S : Store) : V → Option Rs
  | .d (.str s) => some (.val (.it S.length) (S ++ [.iter s 0]) 2)
  | _ => none
theorem wl_next {C : Cfg} {ops : Array Oper} {dst : Option Tmp} {ty : TypeId} {pos : String} {after : Array Edge} {l : List Oper} {T : List V} {S : Store} {F : Dfs} {Q : Post} {it : Operand} : WpL C ops (⟨dst, .next it true, ty, pos, after, none⟩ :: l) T S F Q = WpR C ops dst l T S F Q (nextS S (evalO T it)) := by
  rw [wl_op rfl]
  simp only [opV, nextS]
  cases evalO T it <;> rfl
theorem wl_range9 {ops : Array Oper} {dst : Option Tmp} {ty : TypeId} {pos : String} {after : Array Edge} {l : List Oper} {T : List V} {S : Store} {F : Dfs} {Q : Post} {x : Operand} : WpL cfg ops (⟨dst, .range 9 x, ty, pos, after, none⟩ :: l) T S F Q = WpR cfg ops dst l T S F Q (rangeS S (evalO T x)) := by
  rw [wl_op rfl]
  simp only [opV, hP, Try.underlying9, rangeS]
  cases evalO T x with
  | d y => cases y <;> rfl
  | _ => rfl
theorem rangeS_str {S : Store} {s : List UInt8} : rangeS S (.d (.str s)) = some (.val (.it S.length) (S ++ [.iter s 0]) 2) := rfl
theorem slc_strlo {P : Program} {S : Store} {t : TypeId} {s : List UInt8} {lo : Int} (hu : P.underlying t = some .string) (h0 : 0 ≤ lo) (h1 : lo ≤ s.length) :
    sliceV P S t (.d (.str s)) (some (.d (.int .i64 lo))) none = some (.d (.str (s.drop lo.toNat))) := by
  simp only [sliceV, hu, bound_in (n := s.length) (d := 0) (i := lo) h0 (by omega), bound_no, List.take_length]
/-- What stands between strokes. -/
def spl : List UInt8 → List UInt8 → List (List UInt8)
  | part, [] => [part]
  | part, c :: r => if c = 47 then part :: spl [] r else spl (part ++ [c]) r
theorem spl_skip : ∀ (w : Nat) (s part : List UInt8), w ≤ s.length → (∀ k, k < w → s.getD k 0 ≠ 47) → spl part s = spl (part ++ s.take w) (s.drop w)
  | 0, s, part, _, _ => by simp
  | w + 1, [], part, h, _ => by simp at h
  | w + 1, c :: r, part, h, hk => by
    have h0 : c ≠ 47 := hk 0 (by omega)
    have := spl_skip w r (part ++ [c]) (by simpa using h) (fun k hkw => by have := hk (k + 1) (by omega); simpa using this)
    simp only [spl, h0, if_false, List.take_succ_cons, List.drop_succ_cons]
    rw [this, List.append_assoc]
    rfl
theorem spl_len : ∀ (s part : List UInt8), (spl part s).length ≤ s.length + 1
  | [], part => by simp [spl]
  | c :: r, part => by
    unfold spl
    split
    · have := spl_len r []; simp; omega
    · have := spl_len r (part ++ [c]); simp; omega
theorem between_l (s : List UInt8) (hl : s.length < 1000000) (total : List (List UInt8)) (ht : total.length < 1000000) (R : Post) (g2 : V) : ∀ (k p b : Nat) (xs : List (List UInt8)) (S : Store) (v3 v5 v6 g9 g10 g11 g12 g13 g14 g15 g16 g17 g18 g19 g20 g21 g22 g23 g24 g25 g26 g27 g28 g29 g30 g31 g32 g33 : V), s.length - p ≤ k → b ≤ p → 1 ≤ p → p ≤ s.length → xs ++ spl ((s.take p).drop b) (s.drop p) = total → OwnS S v3 9 (xs.map fun x => .d (.str x)) → S[0]? = some (.iter s p) →
   (∀ S v3 (b' : Nat) ys v5 v6 g9 g10 g11 g12 g13 g14 g15 g16 g17 g18 g19 g20 g21 g22 g23 g24 g25 g26 g27 g28 g29 g30 g31 g32 g33, b' ≤ s.length → ys ++ [s.drop b'] = total → OwnS S v3 9 (ys.map fun x => .d (.str x)) → R (.exit 0) ((.d (.str s)) :: (.tup []) :: g2 :: v3 :: (.d (.int .i64 b')) :: v5 :: v6 :: (.d (.str s)) :: (.it 0) :: g9 :: g10 :: g11 :: g12 :: g13 :: g14 :: g15 :: g16 :: g17 :: g18 :: g19 :: g20 :: g21 :: g22 :: g23 :: g24 :: g25 :: g26 :: g27 :: g28 :: g29 :: g30 :: g31 :: g32 :: g33 :: []) S []) →
   Wp cfg (.loop (lpOf (Try.f113.body.getD .skip) 0)) ((.d (.str s)) :: (.tup []) :: g2 :: v3 :: (.d (.int .i64 b)) :: v5 :: v6 :: (.d (.str s)) :: (.it 0) :: g9 :: g10 :: g11 :: g12 :: g13 :: g14 :: g15 :: g16 :: g17 :: g18 :: g19 :: g20 :: g21 :: g22 :: g23 :: g24 :: g25 :: g26 :: g27 :: g28 :: g29 :: g30 :: g31 :: g32 :: g33 :: []) S [] R := by
  intro k
  induction k with
  | zero =>
    intro p b xs S v3 v5 v6 g9 g10 g11 g12 g13 g14 g15 g16 g17 g18 g19 g20 g21 g22 g23 g24 g25 g26 g27 g28 g29 g30 g31 g32 g33 hk hb hp hpl hx ho hS hR
    have hpe : p = s.length := by omega
    have hnx : nextS S (.it 0) = some (.val (.tup [.d (.bool false)]) S 3) := by simp only [nextS, hS]; rw [if_neg (by omega)]
    rw [wk_of]
    refine wk_loop ?_
    conv => arg 2; whnf
    simp (maxSteps := 1000000) (disch := first | assumption | omega | rfl) only [↓vmp, vme, vmb, ty, hP, dec_t, dec_f, wrap64, List.length_map, Int.toNat_natCast, Nat.reduceAdd, List.cons_append, List.nil_append, Option.map_some, Option.map_none, strOf_mk, sb_eql, sb_neq, vmg, ↓vgd, ↓vst, ↓vix, ↓wl_next, hnx]
    rw [hpe, List.drop_length, List.take_length] at hx
    exact hR _ _ b xs _ _ _ _ _ _ _ _ _ _ _ _ _ _ _ _ _ _ _ _ _ _ _ _ _ _ _ (by omega) hx ho
  | succ k ih =>
    intro p b xs S v3 v5 v6 g9 g10 g11 g12 g13 g14 g15 g16 g17 g18 g19 g20 g21 g22 g23 g24 g25 g26 g27 g28 g29 g30 g31 g32 g33 hk hb hp hpl hx ho hS hR
    by_cases hlt : p < s.length
    · have hnx : nextS S (.it 0) = some (.val (.tup [.d (.bool true), .d (.int .i64 p), .d (.int .i32 (Utf8.decode ⟨s.toArray⟩ p).1)]) (S.set 0 (.iter s (p + (Utf8.decode ⟨s.toArray⟩ p).2))) 3) := by simp only [nextS, hS]; rw [if_pos hlt]
      obtain ⟨h1, h2, h3, h4, h5⟩ := dec_spec s p hlt
      have hdr : s.drop p = s[p] :: s.drop (p + 1) := List.drop_eq_getElem_cons hlt
      have hna : NotAt v3 0 := own_not ho (fun o ho' xs e he => by rw [hS] at ho'; cases ho'; cases he)
      rw [wk_of]
      refine wk_loop ?_
      conv => arg 2; whnf
      by_cases c47 : s[p] = 47
      · have hd := h3 c47
        rw [hd] at hnx
        have hc : ((((47, 1) : Nat × Nat).1 : Nat) : Int) = 47 := rfl
        have hsl := slc_str (S := S.set 0 (.iter s (p + 1))) (P := Try.prog) (t := 9) (s := s) (lo := (b : Int)) (hi := (p : Int)) Try.underlying9 (by omega) (by omega) (by omega)
        rw [Int.toNat_natCast, Int.toNat_natCast] at hsl
        have hxl : xs.length < 1000000 := by have := congrArg List.length hx; simp at this; omega
        obtain ⟨v', S', c, ha, ho', hfr, hlen⟩ := ap42 ((s.take p).drop b) (own_set (o := .iter s (p + 1)) ho hna) hxl
        have hp0 : ((p : Int)) > 0 := by omega
        simp (maxSteps := 1000000) (disch := first | assumption | omega | rfl) only [↓vmp, vme, vmb, ty, hP, dec_t, dec_f, wrap64, List.length_map, Int.toNat_natCast, Nat.reduceAdd, List.cons_append, List.nil_append, Option.map_some, Option.map_none, strOf_mk, sb_eql, sb_neq, vmg, ↓vgd, ↓vst, ↓vix, ↓wl_next, hnx, hsl, ha]
        have hS' := (hfr 0 _ (set_at (o' := .iter s (p + 1)) hS) hna).1
        refine ih (p + 1) (p + 1) (xs ++ [(s.take p).drop b]) S' v' _ _ _ _ _ _ _ _ _ _ _ _ _ _ _ _ _ _ _ _ _ _ _ _ _ _ _ (by omega) (Nat.le_refl _) (by omega) (by omega) ?_ ho' hS' hR
        rw [← hx, hdr, List.append_assoc]
        simp only [spl, c47, if_true]
        rw [show (s.take (p + 1)).drop (p + 1) = [] from List.drop_eq_nil_of_le (by rw [List.length_take]; omega)]
        rfl
      · have hne := h4 c47
        generalize Utf8.decode ⟨s.toArray⟩ p = d at *
        have hne' : ¬ ((d.1 : Int)) = 47 := by omega
        simp (maxSteps := 1000000) (disch := first | assumption | omega | rfl) only [↓vmp, vme, vmb, ty, hP, dec_t, dec_f, wrap64, List.length_map, Int.toNat_natCast, Nat.reduceAdd, List.cons_append, List.nil_append, Option.map_some, Option.map_none, strOf_mk, sb_eql, sb_neq, vmg, ↓vgd, ↓vst, ↓vix, ↓wl_next, hnx]
        refine ih (p + d.2) b xs _ v3 _ _ _ _ _ _ _ _ _ _ _ _ _ _ _ _ _ _ _ _ _ _ _ _ _ _ _ (by omega) (by omega) (by omega) (by omega) ?_ (own_set ho hna) (set_at hS) hR
        rw [← hx, spl_skip d.2 (s.drop p) _ (by rw [List.length_drop]; omega) (fun k hk => ?_)]
        · rw [List.drop_drop, ← List.drop_append_of_le_length (by rw [List.length_take]; omega), ← List.take_add]
        · rw [List.getD_eq_getElem?_getD, List.getElem?_drop, ← List.getD_eq_getElem?_getD]
          by_cases hk0 : k = 0
          · rw [hk0, Nat.add_zero, List.getD_eq_getElem?_getD, List.getElem?_eq_getElem hlt]; exact c47
          · exact h5 (p + k) (by omega) (by omega)
    · have hpe : p = s.length := by omega
      have hnx : nextS S (.it 0) = some (.val (.tup [.d (.bool false)]) S 3) := by simp only [nextS, hS]; rw [if_neg (by omega)]
      rw [wk_of]
      refine wk_loop ?_
      conv => arg 2; whnf
      simp (maxSteps := 1000000) (disch := first | assumption | omega | rfl) only [↓vmp, vme, vmb, ty, hP, dec_t, dec_f, wrap64, List.length_map, Int.toNat_natCast, Nat.reduceAdd, List.cons_append, List.nil_append, Option.map_some, Option.map_none, strOf_mk, sb_eql, sb_neq, vmg, ↓vgd, ↓vst, ↓vix, ↓wl_next, hnx]
      rw [hpe, List.drop_length, List.take_length] at hx
      exact hR _ _ b xs _ _ _ _ _ _ _ _ _ _ _ _ _ _ _ _ _ _ _ _ _ _ _ _ _ _ _ (by omega) hx ho
theorem between_ok (r : List UInt8) (hl : r.length < 900000) : Ev cfg 113 [.str (47 :: r)] (.ret (.d (.sl ((spl [] r).map .str)))) := by
  refine ev_of rfl rfl body113 ?_
  show Wp cfg (Try.f113.body.getD .skip) ((.d (.str (47 :: r))) :: (.tup []) :: (.tup []) :: (.tup []) :: (.tup []) :: (.tup []) :: (.tup []) :: (.tup []) :: (.tup []) :: (.tup []) :: (.tup []) :: (.tup []) :: (.tup []) :: (.tup []) :: (.tup []) :: (.tup []) :: (.tup []) :: (.tup []) :: (.tup []) :: (.tup []) :: (.tup []) :: (.tup []) :: (.tup []) :: (.tup []) :: (.tup []) :: (.tup []) :: (.tup []) :: (.tup []) :: (.tup []) :: (.tup []) :: (.tup []) :: (.tup []) :: (.tup []) :: (.tup []) :: []) [] [] _
  conv => arg 2; whnf
  have hlt : 0 < (47 :: r).length := by simp
  obtain ⟨_, _, h3, _, _⟩ := dec_spec (47 :: r) 0 hlt
  have hd := h3 rfl
  have hnx : nextS [.iter (47 :: r) 0] (.it 0) = some (.val (.tup [.d (.bool true), .d (.int .i64 0), .d (.int .i32 47)]) [.iter (47 :: r) 1] 3) := by
    simp only [nextS]
    rw [show ([Ob.iter (47 :: r) 0] : Store)[0]? = some (.iter (47 :: r) 0) from rfl]
    simp only
    rw [if_pos hlt, hd]
    rfl
  simp (maxSteps := 1000000) (disch := first | assumption | omega | rfl) only [↓vmp, vme, vmb, ty, hP, dec_t, dec_f, wrap64, List.length_map, Int.toNat_natCast, Nat.reduceAdd, List.cons_append, List.nil_append, Option.map_some, Option.map_none, strOf_mk, sb_eql, sb_neq, vmg, ↓vgd, ↓vst, ↓vix, ↓wl_range9, rangeS_str]
  rw [wk_of]
  refine wk_loop ?_
  conv => arg 2; whnf
  simp (maxSteps := 1000000) (disch := first | assumption | omega | rfl) only [↓vmp, vme, vmb, ty, hP, dec_t, dec_f, wrap64, List.length_map, Int.toNat_natCast, Nat.reduceAdd, List.cons_append, List.nil_append, Option.map_some, Option.map_none, strOf_mk, sb_eql, sb_neq, vmg, ↓vgd, ↓vst, ↓vix, ↓wl_next, hnx, decide_true, decide_false]
  refine between_l (47 :: r) (by simp; omega) (spl [] r) (by have := spl_len r []; omega) _ _ (47 :: r).length 1 1 [] _ _ _ _ _ _ _ _ _ _ _ _ _ _ _ _ _ _ _ _ _ _ _ _ _ _ _ _ _ (by omega) (Nat.le_refl _) (Nat.le_refl _) (by simp) ?_ OwnS.nil rfl ?_
  · simp
  · intro S v3 b' ys v5 v6 g9 g10 g11 g12 g13 g14 g15 g16 g17 g18 g19 g20 g21 g22 g23 g24 g25 g26 g27 g28 g29 g30 g31 g32 g33 hb hy ho
    have hsl := slc_strlo (S := S) (P := Try.prog) (t := 9) (s := 47 :: r) (lo := (b' : Int)) Try.underlying9 (by omega) (by omega)
    rw [Int.toNat_natCast] at hsl
    have hyl : ys.length < 1000000 := by
      have h1 := congrArg List.length hy
      have h2 := spl_len r []
      simp at h1; omega
    obtain ⟨v', S', c, ha, ho', hfr, hlen⟩ := ap42 ((47 :: r).drop b') ho hyl
    simp (maxSteps := 1000000) (disch := first | assumption | omega | rfl) only [↓vmp, vme, vmb, ty, hP, dec_t, dec_f, wrap64, List.length_map, Int.toNat_natCast, Nat.reduceAdd, List.cons_append, List.nil_append, Option.map_some, Option.map_none, strOf_mk, sb_eql, sb_neq, vmg, ↓vgd, ↓vst, ↓vix, hsl, ha]
    rw [← hy]
    exact retQ_one rfl (own_one ho') (own_frz' ho')
theorem call_between {ops : Array Oper} {dst : Option Tmp} {k : List Oper} {T : List V} {S : Store} {F : Dfs} {Q : Post} {r : List UInt8} (hl : r.length < 900000) :
    WpR cfg ops dst k T S F Q (some (.enter 113 [.d (.str (47 :: r))])) = WpL cfg ops k (putT T dst (.d (.sl ((spl [] r).map .str)))) S F Q :=
  wr_call_d (ds := [.str (47 :: r)]) rfl (between_ok r hl)
end Go.Proofs.Ytghllhghboaagaa
end
/-! The program's paths: route.Split, route.Up. -/
section
set_option linter.unusedVariables false
set_option linter.unusedSimpArgs false
set_option maxRecDepth 10000
set_option maxHeartbeats 4000000
namespace Go.Proofs.Ytghllhghboaagaa
open Go.Vm
theorem parts_spl : ∀ (r part : List UInt8), partsA part r = if [] ∈ spl part r then none else some (spl part r)
  | [], part => by
    by_cases hp : part = []
    · simp [partsA, spl, hp]
    · have : ¬ ([] : List UInt8) = part := fun h => hp h.symm
      simp [partsA, spl, hp, this]
  | c :: r, part => by
    by_cases hc : c = 47
    · by_cases hp : part = []
      · simp [partsA, spl, hp, hc]
      · have hp' : ¬ ([] : List UInt8) = part := fun h => hp h.symm
        simp only [partsA, spl, hc, hp, if_true, if_false, parts_spl r [], List.mem_cons, hp', false_or]
        split <;> rfl
    · simp only [partsA, spl, hc, if_false]
      exact parts_spl r _
theorem spl_mem : ∀ (r part x : List UInt8), x ∈ spl part r → x.length ≤ part.length + r.length
  | [], part, x, h => by simp [spl] at h; subst h; simp
  | c :: r, part, x, h => by
    unfold spl at h
    split at h
    · rcases List.mem_cons.1 h with rfl | h
      · simp
      · have := spl_mem r [] x h; simp at this ⊢; omega
    · have := spl_mem r _ x h; simp at this ⊢; omega
theorem empty_l (l : List (List UInt8)) (hl : l.length < 1000000) (R : Post) (S : Store) (g0 g1 g2 g3 g4 : V) : ∀ (k i : Nat) (g5 g6 g7 g8 g9 g10 g11 g12 g13 g14 g15 g16 g17 g18 g19 g20 g21 g22 g23 g24 g28 g29 g30 g31 g32 g33 g34 g35 g36 g37 g38 g39 g40 g41 g42 g43 g44 : V), l.length - i = k → i ≤ l.length →
   (∀ i' g5 g6 g7 g8 g9 g10 g11 g12 g13 g14 g15 g16 g17 g18 g19 g20 g21 g22 g23 g24 g28 g29 g30 g31 g32 g33 g34 g35 g36 g37 g38 g39 g40 g41 g42 g43 g44, [] ∉ l.drop i → R (.exit 0) (g0 :: g1 :: g2 :: g3 :: g4 :: g5 :: g6 :: g7 :: g8 :: g9 :: g10 :: g11 :: g12 :: g13 :: g14 :: g15 :: g16 :: g17 :: g18 :: g19 :: g20 :: g21 :: g22 :: g23 :: g24 :: (.d (.sl (l.map .str))) :: (.d (.int .i64 l.length)) :: i' :: g28 :: g29 :: g30 :: g31 :: g32 :: g33 :: g34 :: g35 :: g36 :: g37 :: g38 :: g39 :: g40 :: g41 :: g42 :: g43 :: g44 :: []) S []) →
   (∀ i' g5 g6 g7 g8 g9 g10 g11 g12 g13 g14 g15 g16 g17 g18 g19 g20 g21 g22 g23 g24 g28 g29 g30 g31 g32 g33 g34 g35 g36 g37 g38 g39 g40 g41 g42 g43 g44, [] ∈ l.drop i → R .ret (g0 :: g1 :: (.ts []) :: (.d (.int .i64 15)) :: g4 :: g5 :: g6 :: g7 :: g8 :: g9 :: g10 :: g11 :: g12 :: g13 :: g14 :: g15 :: g16 :: g17 :: g18 :: g19 :: g20 :: g21 :: g22 :: g23 :: g24 :: (.d (.sl (l.map .str))) :: (.d (.int .i64 l.length)) :: i' :: g28 :: g29 :: g30 :: g31 :: g32 :: g33 :: g34 :: g35 :: g36 :: g37 :: g38 :: g39 :: g40 :: g41 :: g42 :: g43 :: g44 :: []) S []) →
   Wp cfg (.loop (lpOf (Try.f97.body.getD .skip) 0)) (g0 :: g1 :: g2 :: g3 :: g4 :: g5 :: g6 :: g7 :: g8 :: g9 :: g10 :: g11 :: g12 :: g13 :: g14 :: g15 :: g16 :: g17 :: g18 :: g19 :: g20 :: g21 :: g22 :: g23 :: g24 :: (.d (.sl (l.map .str))) :: (.d (.int .i64 l.length)) :: (.d (.int .i64 i)) :: g28 :: g29 :: g30 :: g31 :: g32 :: g33 :: g34 :: g35 :: g36 :: g37 :: g38 :: g39 :: g40 :: g41 :: g42 :: g43 :: g44 :: []) S [] R := by
  intro k
  induction k with
  | zero =>
    intro i g5 g6 g7 g8 g9 g10 g11 g12 g13 g14 g15 g16 g17 g18 g19 g20 g21 g22 g23 g24 g28 g29 g30 g31 g32 g33 g34 g35 g36 g37 g38 g39 g40 g41 g42 g43 g44 hk hi hE hR
    have hie : i = l.length := by omega
    rw [wk_of]
    refine wk_loop ?_
    conv => arg 2; whnf
    simp (maxSteps := 1000000) (disch := first | assumption | omega | rfl) only [↓vmp, vme, vmb, ty, hP, dec_t, dec_f, wrap64, List.length_map, Int.toNat_natCast, Nat.reduceAdd, List.cons_append, List.nil_append, Option.map_some, Option.map_none, strOf_mk, sb_eql, sb_neq, vmg, ↓vgd, ↓vst, ↓vix]
    exact hE _ _ _ _ _ _ _ _ _ _ _ _ _ _ _ _ _ _ _ _ _ _ _ _ _ _ _ _ _ _ _ _ _ _ _ _ _ _ (by rw [hie, List.drop_length]; simp)
  | succ k ih =>
    intro i g5 g6 g7 g8 g9 g10 g11 g12 g13 g14 g15 g16 g17 g18 g19 g20 g21 g22 g23 g24 g28 g29 g30 g31 g32 g33 g34 g35 g36 g37 g38 g39 g40 g41 g42 g43 g44 hk hi hE hR
    have hlt : i < l.length := by omega
    have hdr : l.drop i = l[i] :: l.drop (i + 1) := List.drop_eq_getElem_cons hlt
    rw [hdr] at hE hR
    rw [wk_of]
    refine wk_loop ?_
    conv => arg 2; whnf
    by_cases hc : l[i] = []
    · simp (maxSteps := 1000000) (disch := first | assumption | omega | rfl) only [↓vmp, vme, vmb, ty, hP, dec_t, dec_f, wrap64, List.length_map, Int.toNat_natCast, Nat.reduceAdd, List.cons_append, List.nil_append, Option.map_some, Option.map_none, strOf_mk, sb_eql, sb_neq, vmg, ↓vgd, ↓vst, ↓vix]
      exact hR _ _ _ _ _ _ _ _ _ _ _ _ _ _ _ _ _ _ _ _ _ _ _ _ _ _ _ _ _ _ _ _ _ _ _ _ _ _ (by rw [hc]; exact List.mem_cons_self)
    · have hc' : ¬ [] = l[i] := fun h => hc h.symm
      simp (maxSteps := 1000000) (disch := first | assumption | omega | rfl) only [↓vmp, vme, vmb, ty, hP, dec_t, dec_f, wrap64, List.length_map, Int.toNat_natCast, Nat.reduceAdd, List.cons_append, List.nil_append, Option.map_some, Option.map_none, strOf_mk, sb_eql, sb_neq, vmg, ↓vgd, ↓vst, ↓vix]
      exact ih (i + 1) _ _ _ _ _ _ _ _ _ _ _ _ _ _ _ _ _ _ _ _ _ _ _ _ _ _ _ _ _ _ _ _ _ _ _ _ _ (by omega) (by omega) (fun i' g5 g6 g7 g8 g9 g10 g11 g12 g13 g14 g15 g16 g17 g18 g19 g20 g21 g22 g23 g24 g28 g29 g30 g31 g32 g33 g34 g35 g36 g37 g38 g39 g40 g41 g42 g43 g44 h => hE i' g5 g6 g7 g8 g9 g10 g11 g12 g13 g14 g15 g16 g17 g18 g19 g20 g21 g22 g23 g24 g28 g29 g30 g31 g32 g33 g34 g35 g36 g37 g38 g39 g40 g41 g42 g43 g44 (by rw [List.mem_cons]; exact fun hh => hh.elim hc' h)) (fun i' g5 g6 g7 g8 g9 g10 g11 g12 g13 g14 g15 g16 g17 g18 g19 g20 g21 g22 g23 g24 g28 g29 g30 g31 g32 g33 g34 g35 g36 g37 g38 g39 g40 g41 g42 g43 g44 h => hR i' g5 g6 g7 g8 g9 g10 g11 g12 g13 g14 g15 g16 g17 g18 g19 g20 g21 g22 g23 g24 g28 g29 g30 g31 g32 g33 g34 g35 g36 g37 g38 g39 g40 g41 g42 g43 g44 (List.mem_cons_of_mem _ h))
theorem names_l (l : List (List UInt8)) (hl : l.length < 1000000) (hm : ∀ x ∈ l, x.length < 1000000) (R : Post) (S : Store) (g0 g1 g2 g3 g4 : V) : ∀ (k i : Nat) (g5 g6 g7 g8 g9 g10 g11 g12 g13 g14 g15 g16 g17 g18 g19 g20 g21 g22 g23 g24 g25 g26 g27 g28 g29 g30 g31 g32 g33 g37 g38 g39 g40 g41 g42 g43 g44 : V), l.length - i = k → i ≤ l.length →
   (∀ i' g5 g6 g7 g8 g9 g10 g11 g12 g13 g14 g15 g16 g17 g18 g19 g20 g21 g22 g23 g24 g25 g26 g27 g28 g29 g30 g31 g32 g33 g37 g38 g39 g40 g41 g42 g43 g44, (l.drop i).all rightN = true → R (.exit 2) (g0 :: g1 :: g2 :: g3 :: g4 :: g5 :: g6 :: g7 :: g8 :: g9 :: g10 :: g11 :: g12 :: g13 :: g14 :: g15 :: g16 :: g17 :: g18 :: g19 :: g20 :: g21 :: g22 :: g23 :: g24 :: g25 :: g26 :: g27 :: g28 :: g29 :: g30 :: g31 :: g32 :: g33 :: (.d (.sl (l.map .str))) :: (.d (.int .i64 l.length)) :: i' :: g37 :: g38 :: g39 :: g40 :: g41 :: g42 :: g43 :: g44 :: []) S []) →
   (∀ i' g5 g6 g7 g8 g9 g10 g11 g12 g13 g14 g15 g16 g17 g18 g19 g20 g21 g22 g23 g24 g25 g26 g27 g28 g29 g30 g31 g32 g33 g37 g38 g39 g40 g41 g42 g43 g44, (l.drop i).all rightN = false → R .ret (g0 :: g1 :: (.ts []) :: (.d (.int .i64 3)) :: g4 :: g5 :: g6 :: g7 :: g8 :: g9 :: g10 :: g11 :: g12 :: g13 :: g14 :: g15 :: g16 :: g17 :: g18 :: g19 :: g20 :: g21 :: g22 :: g23 :: g24 :: g25 :: g26 :: g27 :: g28 :: g29 :: g30 :: g31 :: g32 :: g33 :: (.d (.sl (l.map .str))) :: (.d (.int .i64 l.length)) :: i' :: g37 :: g38 :: g39 :: g40 :: g41 :: g42 :: g43 :: g44 :: []) S []) →
   Wp cfg (.loop (lpOf (Try.f97.body.getD .skip) 2)) (g0 :: g1 :: g2 :: g3 :: g4 :: g5 :: g6 :: g7 :: g8 :: g9 :: g10 :: g11 :: g12 :: g13 :: g14 :: g15 :: g16 :: g17 :: g18 :: g19 :: g20 :: g21 :: g22 :: g23 :: g24 :: g25 :: g26 :: g27 :: g28 :: g29 :: g30 :: g31 :: g32 :: g33 :: (.d (.sl (l.map .str))) :: (.d (.int .i64 l.length)) :: (.d (.int .i64 i)) :: g37 :: g38 :: g39 :: g40 :: g41 :: g42 :: g43 :: g44 :: []) S [] R := by
  intro k
  induction k with
  | zero =>
    intro i g5 g6 g7 g8 g9 g10 g11 g12 g13 g14 g15 g16 g17 g18 g19 g20 g21 g22 g23 g24 g25 g26 g27 g28 g29 g30 g31 g32 g33 g37 g38 g39 g40 g41 g42 g43 g44 hk hi hE hR
    have hie : i = l.length := by omega
    rw [wk_of]
    refine wk_loop ?_
    conv => arg 2; whnf
    simp (maxSteps := 1000000) (disch := first | assumption | omega | rfl) only [↓vmp, vme, vmb, ty, hP, dec_t, dec_f, wrap64, List.length_map, Int.toNat_natCast, Nat.reduceAdd, List.cons_append, List.nil_append, Option.map_some, Option.map_none, strOf_mk, sb_eql, sb_neq, vmg, ↓vgd, ↓vst, ↓vix]
    exact hE _ _ _ _ _ _ _ _ _ _ _ _ _ _ _ _ _ _ _ _ _ _ _ _ _ _ _ _ _ _ _ _ _ _ _ _ _ _ (by rw [hie, List.drop_length]; rfl)
  | succ k ih =>
    intro i g5 g6 g7 g8 g9 g10 g11 g12 g13 g14 g15 g16 g17 g18 g19 g20 g21 g22 g23 g24 g25 g26 g27 g28 g29 g30 g31 g32 g33 g37 g38 g39 g40 g41 g42 g43 g44 hk hi hE hR
    have hlt : i < l.length := by omega
    have hdr : l.drop i = l[i] :: l.drop (i + 1) := List.drop_eq_getElem_cons hlt
    rw [hdr, List.all_cons] at hE hR
    have hml := hm _ (List.getElem_mem hlt)
    rw [wk_of]
    refine wk_loop ?_
    conv => arg 2; whnf
    cases hc : rightN l[i] with
    | false =>
      have hn : ¬ checkN l[i] = 0 := by simp [checkN, hc]
      simp (maxSteps := 1000000) (disch := first | assumption | omega | rfl) only [↓vmp, vme, vmb, ty, hP, dec_t, dec_f, wrap64, List.length_map, Int.toNat_natCast, Nat.reduceAdd, List.cons_append, List.nil_append, Option.map_some, Option.map_none, strOf_mk, sb_eql, sb_neq, vmg, ↓vgd, ↓vst, ↓vix, call_check]
      exact hR _ _ _ _ _ _ _ _ _ _ _ _ _ _ _ _ _ _ _ _ _ _ _ _ _ _ _ _ _ _ _ _ _ _ _ _ _ _ (by rw [hc]; rfl)
    | true =>
      have hn : checkN l[i] = 0 := by simp [checkN, hc]
      rw [hc, Bool.true_and] at hE hR
      simp (maxSteps := 1000000) (disch := first | assumption | omega | rfl) only [↓vmp, vme, vmb, ty, hP, dec_t, dec_f, wrap64, List.length_map, Int.toNat_natCast, Nat.reduceAdd, List.cons_append, List.nil_append, Option.map_some, Option.map_none, strOf_mk, sb_eql, sb_neq, vmg, ↓vgd, ↓vst, ↓vix, call_check, hn]
      exact ih (i + 1) _ _ _ _ _ _ _ _ _ _ _ _ _ _ _ _ _ _ _ _ _ _ _ _ _ _ _ _ _ _ _ _ _ _ _ _ _ (by omega) (by omega) hE hR
theorem split2_ok (s : List UInt8) (hl : s.length < 900000) : Ev cfg 97 [.str s] (.ret (.tup [.d (.sl ((splitN s).1.map .str)), .d (.int .i64 (splitN s).2)])) := by
  refine ev_of rfl rfl body97 ?_
  show Wp cfg (Try.f97.body.getD .skip) ((.d (.str s)) :: (.tup []) :: (.tup []) :: (.tup []) :: (.tup []) :: (.tup []) :: (.tup []) :: (.tup []) :: (.tup []) :: (.tup []) :: (.tup []) :: (.tup []) :: (.tup []) :: (.tup []) :: (.tup []) :: (.tup []) :: (.tup []) :: (.tup []) :: (.tup []) :: (.tup []) :: (.tup []) :: (.tup []) :: (.tup []) :: (.tup []) :: (.tup []) :: (.tup []) :: (.tup []) :: (.tup []) :: (.tup []) :: (.tup []) :: (.tup []) :: (.tup []) :: (.tup []) :: (.tup []) :: (.tup []) :: (.tup []) :: (.tup []) :: (.tup []) :: (.tup []) :: (.tup []) :: (.tup []) :: (.tup []) :: (.tup []) :: (.tup []) :: (.tup []) :: []) [] [] _
  conv => arg 2; whnf
  by_cases h0 : s = []
  · subst h0
    simp (maxSteps := 1000000) (disch := first | assumption | omega | rfl) only [↓vmp, vme, vmb, ty, hP, dec_t, dec_f, wrap64, List.length_map, Int.toNat_natCast, Nat.reduceAdd, List.cons_append, List.nil_append, Option.map_some, Option.map_none, strOf_mk, sb_eql, sb_neq, vmg, ↓vgd, ↓vst, ↓vix, decide_true, decide_false]
    exact retQ_two rfl rfl rfl rfl rfl rfl
  · by_cases h1 : (s.length : Int) > 200
    · have e : splitN s = ([], 15) := by unfold splitN; rw [if_pos (.inr (.inl (by omega)))]
      simp (maxSteps := 1000000) (disch := first | assumption | omega | rfl) only [↓vmp, vme, vmb, ty, hP, dec_t, dec_f, wrap64, List.length_map, Int.toNat_natCast, Nat.reduceAdd, List.cons_append, List.nil_append, Option.map_some, Option.map_none, strOf_mk, sb_eql, sb_neq, vmg, ↓vgd, ↓vst, ↓vix, decide_true, decide_false]
      rw [e]
      exact retQ_two rfl rfl rfl rfl rfl rfl
    · obtain ⟨c, r, rfl⟩ : ∃ c r, s = c :: r := by
        cases s with
        | nil => exact absurd rfl h0
        | cons c r => exact ⟨c, r, rfl⟩
      have hix : indexV Try.prog 9 (.d (.str (c :: r))) (.d (.int .i64 0)) = some (.d (.int .u8 c.toNat)) := idx_str (i := 0) (s := c :: r) Try.underlying9 (by simp)
      have e47 : c = 47 ↔ (c.toNat : Int) = 47 := ⟨fun h => by rw [h]; rfl, fun h => UInt8.toNat_inj.1 (by show c.toNat = 47; omega)⟩
      by_cases h2 : (c.toNat : Int) = 47
      · have hc : c = 47 := e47.2 h2
        subst hc
        by_cases h3 : r = []
        · subst h3
          simp (maxSteps := 1000000) (disch := first | assumption | omega | rfl) only [↓vmp, vme, vmb, ty, hP, dec_t, dec_f, wrap64, List.length_map, Int.toNat_natCast, Nat.reduceAdd, List.cons_append, List.nil_append, Option.map_some, Option.map_none, strOf_mk, sb_eql, sb_neq, vmg, ↓vgd, ↓vst, ↓vix, decide_true, decide_false, hix]
          exact retQ_two rfl rfl rfl rfl rfl rfl
        · have h3' : ¬ (47 :: r) = [47] := fun h => h3 (by simpa using h)
          have hrl : r.length < 900000 := by simp at hl; omega
          have hsl := spl_len r []
          have hll : (spl [] r).length < 1000000 := by omega
          have e : splitN (47 :: r) = match partsA [] r with | none => ([], 15) | some l => if l.all rightN then (l, 0) else ([], 3) := by
            unfold splitN
            rw [if_neg (by simp at h1 ⊢; omega), if_neg (by intro h; exact h3 (by simpa using h))]
            rfl
          rw [parts_spl] at e
          simp (maxSteps := 1000000) (disch := first | assumption | omega | rfl) only [↓vmp, vme, vmb, ty, hP, dec_t, dec_f, wrap64, List.length_map, Int.toNat_natCast, Nat.reduceAdd, List.cons_append, List.nil_append, Option.map_some, Option.map_none, strOf_mk, sb_eql, sb_neq, vmg, ↓vgd, ↓vst, ↓vix, decide_true, decide_false, hix, call_between]
          refine empty_l (spl [] r) hll _ _ _ _ _ _ _ (spl [] r).length 0 _ _ _ _ _ _ _ _ _ _ _ _ _ _ _ _ _ _ _ _ _ _ _ _ _ _ _ _ _ _ _ _ _ _ _ _ _ rfl (by omega) ?_ ?_
          · intro i' g5 g6 g7 g8 g9 g10 g11 g12 g13 g14 g15 g16 g17 g18 g19 g20 g21 g22 g23 g24 g28 g29 g30 g31 g32 g33 g34 g35 g36 g37 g38 g39 g40 g41 g42 g43 g44 hne
            rw [List.drop_zero] at hne
            rw [if_neg hne] at e
            simp only at e
            simp (maxSteps := 1000000) (disch := first | assumption | omega | rfl) only [↓vmp, vme, vmb, ty, hP, dec_t, dec_f, wrap64, List.length_map, Int.toNat_natCast, Nat.reduceAdd, List.cons_append, List.nil_append, Option.map_some, Option.map_none, strOf_mk, sb_eql, sb_neq, vmg, ↓vgd, ↓vst, ↓vix, decide_true, decide_false]
            refine names_l (spl [] r) hll (fun x hx => by have := spl_mem r [] x hx; simp at this; omega) _ _ _ _ _ _ _ (spl [] r).length 0 _ _ _ _ _ _ _ _ _ _ _ _ _ _ _ _ _ _ _ _ _ _ _ _ _ _ _ _ _ _ _ _ _ _ _ _ _ rfl (by omega) ?_ ?_
            · intro i' g5 g6 g7 g8 g9 g10 g11 g12 g13 g14 g15 g16 g17 g18 g19 g20 g21 g22 g23 g24 g25 g26 g27 g28 g29 g30 g31 g32 g33 g37 g38 g39 g40 g41 g42 g43 g44 ha
              rw [List.drop_zero] at ha
              rw [if_pos ha] at e
              simp (maxSteps := 1000000) (disch := first | assumption | omega | rfl) only [↓vmp, vme, vmb, ty, hP, dec_t, dec_f, wrap64, List.length_map, Int.toNat_natCast, Nat.reduceAdd, List.cons_append, List.nil_append, Option.map_some, Option.map_none, strOf_mk, sb_eql, sb_neq, vmg, ↓vgd, ↓vst, ↓vix, decide_true, decide_false]
              rw [e]
              exact retQ_two rfl rfl rfl rfl rfl rfl
            · intro i' g5 g6 g7 g8 g9 g10 g11 g12 g13 g14 g15 g16 g17 g18 g19 g20 g21 g22 g23 g24 g25 g26 g27 g28 g29 g30 g31 g32 g33 g37 g38 g39 g40 g41 g42 g43 g44 ha
              rw [List.drop_zero] at ha
              rw [if_neg (by rw [ha]; exact Bool.noConfusion)] at e
              simp (maxSteps := 1000000) (disch := first | assumption | omega | rfl) only [↓vmp, vme, vmb, ty, hP, dec_t, dec_f, wrap64, List.length_map, Int.toNat_natCast, Nat.reduceAdd, List.cons_append, List.nil_append, Option.map_some, Option.map_none, strOf_mk, sb_eql, sb_neq, vmg, ↓vgd, ↓vst, ↓vix, decide_true, decide_false]
              rw [e]
              exact retQ_two rfl rfl rfl rfl rfl rfl
          · intro i' g5 g6 g7 g8 g9 g10 g11 g12 g13 g14 g15 g16 g17 g18 g19 g20 g21 g22 g23 g24 g28 g29 g30 g31 g32 g33 g34 g35 g36 g37 g38 g39 g40 g41 g42 g43 g44 hne
            rw [List.drop_zero] at hne
            rw [if_pos hne] at e
            simp (maxSteps := 1000000) (disch := first | assumption | omega | rfl) only [↓vmp, vme, vmb, ty, hP, dec_t, dec_f, wrap64, List.length_map, Int.toNat_natCast, Nat.reduceAdd, List.cons_append, List.nil_append, Option.map_some, Option.map_none, strOf_mk, sb_eql, sb_neq, vmg, ↓vgd, ↓vst, ↓vix, decide_true, decide_false]
            rw [e]
            exact retQ_two rfl rfl rfl rfl rfl rfl
      · have e : splitN (c :: r) = ([], 15) := by
          unfold splitN
          rw [if_pos (.inr (.inr (by simp; exact fun h => h2 (e47.1 h))))]
        simp (maxSteps := 1000000) (disch := first | assumption | omega | rfl) only [↓vmp, vme, vmb, ty, hP, dec_t, dec_f, wrap64, List.length_map, Int.toNat_natCast, Nat.reduceAdd, List.cons_append, List.nil_append, Option.map_some, Option.map_none, strOf_mk, sb_eql, sb_neq, vmg, ↓vgd, ↓vst, ↓vix, decide_true, decide_false, hix]
        rw [e]
        exact retQ_two rfl rfl rfl rfl rfl rfl
theorem call_split2 {ops : Array Oper} {dst : Option Tmp} {k : List Oper} {T : List V} {S : Store} {F : Dfs} {Q : Post} {s : List UInt8} (hl : s.length < 900000) :
    WpR cfg ops dst k T S F Q (some (.enter 97 [.d (.str s)])) = WpL cfg ops k (putT T dst (.tup [.d (.sl ((splitN s).1.map .str)), .d (.int .i64 (splitN s).2)])) S F Q :=
  wr_call_d (ds := [.str s]) rfl (split2_ok s hl)
def upN (s : List UInt8) : List (List UInt8) × List UInt8 × Int :=
  if (splitN s).2 ≠ 0 then ([], [], (splitN s).2)
  else if (splitN s).1.length = 0 then ([], [], 15)
  else ((splitN s).1.take ((splitN s).1.length - 1), (splitN s).1.getD ((splitN s).1.length - 1) [], 0)
theorem up_ok (s : List UInt8) (hl : s.length < 900000) : Ev cfg 101 [.str s] (.ret (.tup [.d (.sl ((upN s).1.map .str)), .d (.str (upN s).2.1), .d (.int .i64 (upN s).2.2)])) := by
  refine ev_of rfl rfl body101 ?_
  show Wp cfg (Try.f101.body.getD .skip) ((.d (.str s)) :: (.tup []) :: (.tup []) :: (.tup []) :: (.tup []) :: (.tup []) :: (.tup []) :: (.tup []) :: (.tup []) :: (.tup []) :: (.tup []) :: (.tup []) :: (.tup []) :: (.tup []) :: (.tup []) :: (.tup []) :: (.tup []) :: (.tup []) :: (.tup []) :: (.tup []) :: (.tup []) :: (.tup []) :: (.tup []) :: (.tup []) :: (.tup []) :: (.tup []) :: (.tup []) :: (.tup []) :: (.tup []) :: []) [] [] _
  conv => arg 2; whnf
  generalize hr : upN s = q
  unfold upN at hr
  have hn := splitN_num s
  by_cases h : (splitN s).2 = 0
  · rw [if_neg (by simp [h])] at hr
    by_cases h0 : (splitN s).1.length = 0
    · have h0' : ((splitN s).1.length : Int) = 0 := by omega
      simp (maxSteps := 1000000) (disch := first | assumption | omega | rfl) only [↓vmp, vme, vmb, ty, hP, dec_t, dec_f, wrap64, List.length_map, Int.toNat_natCast, Nat.reduceAdd, List.cons_append, List.nil_append, Option.map_some, Option.map_none, strOf_mk, sb_eql, sb_neq, vmg, ↓vgd, ↓vst, ↓vix, call_split2]
      rw [if_pos h0] at hr
      subst hr
      exact retQ_three rfl rfl rfl rfl rfl rfl rfl rfl rfl
    · have h0' : ¬ ((splitN s).1.length : Int) = 0 := by omega
      rw [if_neg h0] at hr
      have hsl := slc_hi (S := []) (P := Try.prog) (t := 42) (e := 9) (xs := (splitN s).1.map D.str) (hi := ((splitN s).1.length : Int) - 1) Try.underlying42 (by simp only [List.all_map, List.all_eq_true]; intro x _; exact fits9 x) szo42 (by omega) (by simp only [List.length_map]; omega)
      rw [← List.map_take, show (((splitN s).1.length : Int) - 1).toNat = (splitN s).1.length - 1 by omega] at hsl
      have hlt : (splitN s).1.length - 1 < (splitN s).1.length := by omega
      have hix := ix42 (S := []) hlt
      rw [show (((splitN s).1.length - 1 : Nat) : Int) = ((splitN s).1.length : Int) - 1 by omega] at hix
      simp (maxSteps := 1000000) (disch := first | assumption | omega | rfl) only [↓vmp, vme, vmb, ty, hP, dec_t, dec_f, wrap64, List.length_map, Int.toNat_natCast, Nat.reduceAdd, List.cons_append, List.nil_append, Option.map_some, Option.map_none, strOf_mk, sb_eql, sb_neq, vmg, ↓vgd, ↓vst, ↓vix, call_split2]
      refine wk_draw (is := [0, 1, 2, 3, 4, 5, 6, 7, 8, 9, 10, 11, 12, 13]) (h := 0) (by kernel_rfl) (by kernel_rfl) ?_
      simp (maxSteps := 1000000) (disch := first | assumption | omega | rfl) only [List.replicate_zero, eq_self, vmd, vmk, vmo, vmg, vme, vmb, ty, hP, dec_t, dec_f, wrap64, List.length_map, Int.toNat_natCast, Nat.reduceAdd, ↓vgd, ↓vst, ↓vix, Option.map_some, Option.map_none, hsl, hix]
      refine ⟨by kernel_rfl, ?_⟩
      simp (maxSteps := 1000000) (disch := first | assumption | omega | rfl) only [↓vmp, vme, vmb, ty, hP, dec_t, dec_f, wrap64, List.length_map, Int.toNat_natCast, Nat.reduceAdd, List.cons_append, List.nil_append, Option.map_some, Option.map_none, strOf_mk, sb_eql, sb_neq, vmg, ↓vgd, ↓vst, ↓vix]
      subst hr
      rw [List.getD_eq_getElem?_getD, List.getElem?_eq_getElem hlt]
      exact retQ_three rfl rfl rfl rfl rfl rfl rfl rfl rfl
  · simp (maxSteps := 1000000) (disch := first | assumption | omega | rfl) only [↓vmp, vme, vmb, ty, hP, dec_t, dec_f, wrap64, List.length_map, Int.toNat_natCast, Nat.reduceAdd, List.cons_append, List.nil_append, Option.map_some, Option.map_none, strOf_mk, sb_eql, sb_neq, vmg, ↓vgd, ↓vst, ↓vix, call_split2]
    rw [if_pos h] at hr
    subst hr
    exact retQ_three rfl rfl rfl rfl rfl rfl rfl rfl rfl
theorem call_up {ops : Array Oper} {dst : Option Tmp} {k : List Oper} {T : List V} {S : Store} {F : Dfs} {Q : Post} {s : List UInt8} (hl : s.length < 900000) :
    WpR cfg ops dst k T S F Q (some (.enter 101 [.d (.str s)])) = WpL cfg ops k (putT T dst (.tup [.d (.sl ((upN s).1.map .str)), .d (.str (upN s).2.1), .d (.int .i64 (upN s).2.2)])) S F Q :=
  wr_call_d (ds := [.str s]) rfl (up_ok s hl)
end Go.Proofs.Ytghllhghboaagaa
end
/-! The directories above a node: hist.Ups. -/
section
set_option linter.unusedVariables false
set_option linter.unusedSimpArgs false
set_option maxRecDepth 10000
set_option maxHeartbeats 4000000
namespace Go.Proofs.Ytghllhghboaagaa
open Go.Vm
theorem wl_makeMap {C : Cfg} {ops : Array Oper} {dst : Option Tmp} {ty : TypeId} {pos : String} {after : Array Edge} {l : List Oper} {T : List V} {S : Store} {F : Dfs} {Q : Post} {t : TypeId} : WpL C ops (⟨dst, .makeMap t none, ty, pos, after, none⟩ :: l) T S F Q = WpL C ops l (putT T dst (.mr S.length)) (S ++ [.mp [] 0]) F Q := by
  rw [wl_op rfl]; rfl
/-- The way up to the root. -/
def Chain (t : List Node) : List Int → Prop
  | [] => False
  | i :: r => hasN t i = true ∧ match r with
    | [] => i = 1
    | j :: _ => i ≠ 1 ∧ (getN t i).parent = j ∧ Chain t r
def mapE : Nat → List Int → List (D × V × Nat)
  | _, [] => []
  | c, x :: r => (.int .i64 x, .d (.int .i64 1), c) :: mapE (c + 1) r
theorem mapE_snoc {x : Int} : ∀ {l : List Int} {c : Nat}, mapE c (l ++ [x]) = mapE c l ++ [(.int .i64 x, .d (.int .i64 1), c + l.length)]
  | [], c => rfl
  | y :: r, c => by
    simp only [List.cons_append, mapE, mapE_snoc (l := r), List.length_cons]
    rw [show c + 1 + r.length = c + (r.length + 1) by omega]
theorem eqI {a b : Int} : eqV Try.prog 3 (.d (.int .i64 a)) (.d (.int .i64 b)) = some (a == b) := by kernel_rfl
theorem findD_no {k : Int} : ∀ {l : List Int} {c i : Nat}, k ∉ l → findD Try.prog 3 (.d (.int .i64 k)) (mapE c l) i = some none
  | [], c, i, _ => rfl
  | y :: r, c, i, h => by
    have h1 : (k == y) = false := by
      rw [beq_eq_false_iff_ne]; rintro rfl; exact h (by simp)
    simp only [mapE, findD, eqI, h1]
    exact findD_no (fun hk => h (by simp [hk]))
theorem findD_no2 {k : Int} : ∀ {l : List Int} {c i : Nat}, k ∉ l → findD Try.prog 3 (.d (.int .i64 k)) ((mapE c l).map fun e => (e.1, e.2.1)) i = some none
  | [], c, i, _ => rfl
  | y :: r, c, i, h => by
    have h1 : (k == y) = false := by
      rw [beq_eq_false_iff_ne]; rintro rfl; exact h (by simp)
    simp only [mapE, List.map_cons, findD, eqI, h1]
    exact findD_no2 (fun hk => h (by simp [hk]))
theorem keyI {k : Int} : keyOk Try.prog 3 (.d (.int .i64 k)) = true := by kernel_rfl
theorem z3 : zeroV Try.prog 3 = some (.d (.int .i64 0)) := by kernel_rfl
theorem look_no {S : Store} {id : Nat} {k : Int} {l : List Int} (h : S[id]? = some (.mp (mapE 0 l) l.length)) (hk : k ∉ l) : lookupV Try.prog S 92 (.mr id) (.d (.int .i64 k)) false = some (.d (.int .i64 0)) := by
  simp only [lookupV, Try.underlying92, keyI, if_true, entriesV, h, z3, findD_no2 hk, Bool.false_eq_true, if_false]
theorem upd_no {S : Store} {id : Nat} {k : Int} {l : List Int} (h : S[id]? = some (.mp (mapE 0 l) l.length)) (hk : k ∉ l) : mapUpdateV Try.prog S 92 (.mr id) (.d (.int .i64 k)) (.d (.int .i64 1)) = some (S.set id (.mp (mapE 0 (l ++ [k])) (l ++ [k]).length)) := by
  have e : mapE 0 (l ++ [k]) = mapE 0 l ++ [(.int .i64 k, .d (.int .i64 1), l.length)] := by rw [mapE_snoc, Nat.zero_add]
  have ho : V.one (.d (.int .i64 1)) = true := rfl
  have ha : asD (.d (.int .i64 k)) = some (.int .i64 k) := rfl
  simp only [mapUpdateV, Try.underlying92, keyI, ho, Bool.and_self, if_true, ha, h, findD_no hk, e, List.length_append, List.length_singleton]
end Go.Proofs.Ytghllhghboaagaa
end
/-! The program's model: a tree that is opened; its next free number; names of a node. -/
section
set_option linter.unusedVariables false
set_option linter.unusedSimpArgs false
set_option maxRecDepth 10000
set_option maxHeartbeats 4000000
namespace Go.Proofs.Ytghllhghboaagaa
open Go.Vm
def mapD (t : List Node) : List (D × D) := t.map fun n => (.int .i64 n.ino, encNode n)
/-- A tree that is worked on, as data. -/
abbrev stD (t : List Node) : D := .ptr (.agg [.map (mapD t)])
theorem own_keepR {S S' : Store} {v : V} {e : TypeId} {xs : List V} (h : OwnS S v e xs) (hk : ∀ (j : Nat) (ys : List V) (u : TypeId), S[j]? = some (.row ys u) → S'[j]? = some (.row ys u)) : OwnS S' v e xs := by
  rcases h with h | ⟨j, rfl, h1⟩
  · exact .inl h
  · exact .inr ⟨j, rfl, hk _ _ _ h1⟩
def MapN (S : Store) : Nat → List Node → List (D × V × Nat) → Prop
  | _, [], [] => True
  | c, n :: ns, e :: es => (∃ v1 v2, e = (.int .i64 n.ino, nodeV n v1 v2, c) ∧ OwnS S v1 5 (n.data.map fun b => .d (.int .u8 b.toNat)) ∧ OwnS S v2 88 (n.names.map fun x => .d (encEnt x))) ∧ MapN S (c + 1) ns es
  | _, _, _ => False
theorem MapN.keep {S S' : Store} (hk : ∀ (j : Nat) (ys : List V) (u : TypeId), S[j]? = some (.row ys u) → S'[j]? = some (.row ys u)) : ∀ {ns : List Node} {es : List (D × V × Nat)} {c : Nat}, MapN S c ns es → MapN S' c ns es
  | [], [], _, _ => trivial
  | n :: ns, e :: es, c, ⟨⟨v1, v2, h0, h1, h2⟩, h3⟩ => ⟨⟨v1, v2, h0, own_keepR h1 hk, own_keepR h2 hk⟩, MapN.keep hk h3⟩
theorem MapN.snoc {S : Store} {n : Node} {v1 v2 : V} (h1 : OwnS S v1 5 (n.data.map fun b => .d (.int .u8 b.toNat))) (h2 : OwnS S v2 88 (n.names.map fun x => .d (encEnt x))) : ∀ {ns : List Node} {es : List (D × V × Nat)} {c : Nat}, MapN S c ns es → MapN S c (ns ++ [n]) (es ++ [(.int .i64 n.ino, nodeV n v1 v2, c + ns.length)])
  | [], [], c, _ => ⟨⟨v1, v2, rfl, h1, h2⟩, trivial⟩
  | m :: ns, e :: es, c, ⟨h3, h4⟩ => by
    have := MapN.snoc h1 h2 h4
    rw [show c + 1 + ns.length = c + (m :: ns).length by simp; omega] at this
    exact ⟨h3, this⟩
theorem MapN.no {S : Store} {k : Int} : ∀ {ns : List Node} {es : List (D × V × Nat)} {c i : Nat}, MapN S c ns es → k ∉ ns.map (·.ino) → findD Try.prog 3 (.d (.int .i64 k)) es i = some none
  | [], [], _, _, _, _ => rfl
  | n :: ns, e :: es, c, i, ⟨⟨v1, v2, h0, _, _⟩, h3⟩, hk => by
    subst h0
    have h1 : (k == n.ino) = false := by rw [beq_eq_false_iff_ne]; rintro rfl; exact hk (by simp)
    simp only [findD, eqI, h1]
    exact MapN.no h3 (fun hh => hk (by simp at hh ⊢; exact .inr hh))
theorem MapN.frz {S : Store} : ∀ {ns : List Node} {es : List (D × V × Nat)} {c : Nat}, MapN S c ns es → allO (fun (e : D × V × Nat) => (frz S 9 e.2.1).map fun x => (e.1, x)) es = some (mapD ns)
  | [], [], _, _ => rfl
  | n :: ns, e :: es, c, ⟨⟨v1, v2, h0, h1, h2⟩, h3⟩ => by
    subst h0
    have hf : Go.Vm.frz S 9 (nodeV n v1 v2) = some (encNode n) := frz_node2 (k := 6) h1 h2
    simp only [allO, hf, Option.map_some, MapN.frz h3]
    rfl
theorem upd_map {S : Store} {ns : List Node} {es : List (D × V × Nat)} {n : Node} {v1 v2 : V} (h : S[0]? = some (.mp es ns.length)) (hm : MapN S 0 ns es) (hk : n.ino ∉ ns.map (·.ino)) : mapUpdateV Try.prog S 125 (.mr 0) (.d (.int .i64 n.ino)) (nodeV n v1 v2) = some (S.set 0 (.mp (es ++ [(.int .i64 n.ino, nodeV n v1 v2, ns.length)]) (ns.length + 1))) := by
  have ho : V.one (nodeV n v1 v2) = true := rfl
  have ha : asD (.d (.int .i64 n.ino)) = some (.int .i64 n.ino) := rfl
  simp only [mapUpdateV, Try.underlying125, keyI, ho, Bool.and_self, if_true, ha, h, hm.no hk]
theorem bd127 {i : Nat} : buildV Try.prog 127 [(0, .mr i)] = some (.agg [.mr i]) := by kernel_rfl
theorem ff127 {i : Nat} : fitsT Try.prog 127 (.agg [.mr i]) = true := by kernel_rfl
theorem fr127 {j x y : Nat} : fieldAddrV Try.prog 127 0 (.ref j x y) = some (.ref j x (y + 0)) := by kernel_rfl
theorem lr125 {i : Nat} : loadR Try.prog 125 0 (some (.agg [.mr i])) = some (.mr i) := by kernel_rfl
theorem fa127 {t : List Node} : fieldAddrV Try.prog 127 0 (.d (stD t)) = some (.d (.ptr (.map (mapD t)))) := by kernel_rfl
theorem ld125 {S : Store} {es : List (D × D)} : loadV Try.prog S 125 (.d (.ptr (.map es))) = some (.d (.map es)) := by kernel_rfl
theorem op_mapUpdate {P : Program} {S : Store} {T : List V} {dst : Option Tmp} {ty : TypeId} {pos : String} {after : Array Edge} {g : Option (Nat × Bool)} {t : TypeId} {m k x : Operand} : opV P S T ⟨dst, .mapUpdate t m k x, ty, pos, after, g⟩ = (mapUpdateV P S t (evalO T m) (evalO T k) (evalO T x)).map fun S' => .skip S' 3 := rfl
def nilS (S : Store) : V → Option Rs
  | .ref i ix off => some (.val (.ref i ix off) S 0)
  | .d (.ptr x) => some (.val (.d (.ptr x)) S 0)
  | .fn (.func g) a b => some (.val (.fn (.func g) a b) S 0)
  | _ => none
theorem op_nilCheck {P : Program} {S : Store} {T : List V} {dst : Option Tmp} {ty : TypeId} {pos : String} {after : Array Edge} {g : Option (Nat × Bool)} {x : Operand} : opV P S T ⟨dst, .nilCheck x, ty, pos, after, g⟩ = nilS S (evalO T x) := by
  simp only [opV]
  generalize evalO T x = v
  cases v with
  | d y => cases y <;> rfl
  | fn f a b => cases f <;> rfl
  | _ => rfl
theorem nilS_ref {S : Store} {i ix off : Nat} : nilS S (.ref i ix off) = some (.val (.ref i ix off) S 0) := rfl
theorem nilS_st {S : Store} {t : List Node} : nilS S (.d (stD t)) = some (.val (.d (stD t)) S 0) := rfl
theorem wl_nil {C : Cfg} {ops : Array Oper} {dst : Option Tmp} {ty : TypeId} {pos : String} {after : Array Edge} {l : List Oper} {T : List V} {S : Store} {F : Dfs} {Q : Post} {x : Operand} : WpL C ops (⟨dst, .nilCheck x, ty, pos, after, none⟩ :: l) T S F Q = WpR C ops dst l T S F Q (nilS S (evalO T x)) := by
  rw [wl_op rfl, op_nilCheck]
theorem open_l (t : List Node) (k0 : Nat) (hk0 : k0 < 300000) (hS : Small k0 t) (hnd : (t.map (·.ino)).Nodup) (R : Post) (g1 g2 : V) : ∀ (k i : Nat) (es : List (D × V × Nat)) (S : Store) (v5 g6 g7 g8 g12 g13 g14 g15 g16 g17 g18 g19 g20 g21 g22 g23 g24 g25 g26 g27 g28 g29 g30 g31 g32 g33 : V), t.length - i = k → i ≤ t.length → S[0]? = some (.mp es i) → MapN S 0 (t.take i) es → S[1]? = some (.row [.agg [.mr 0]] 127) →
   (∀ S es v5 i' g6 g7 g8 g12 g13 g14 g15 g16 g17 g18 g19 g20 g21 g22 g23 g24 g25 g26 g27 g28 g29 g30 g31 g32 g33, S[0]? = some (.mp es t.length) → MapN S 0 t es → S[1]? = some (.row [.agg [.mr 0]] 127) → R (.exit 0) ((.d (.sl (t.map encNode))) :: g1 :: g2 :: (.ref 1 0 0) :: (.tup []) :: v5 :: g6 :: g7 :: g8 :: (.d (.sl (t.map encNode))) :: (.d (.int .i64 t.length)) :: i' :: g12 :: g13 :: g14 :: g15 :: g16 :: g17 :: g18 :: g19 :: g20 :: g21 :: g22 :: g23 :: g24 :: g25 :: g26 :: g27 :: g28 :: g29 :: g30 :: g31 :: g32 :: g33 :: []) S []) →
   Wp cfg (.loop (lpOf (Try.f40.body.getD .skip) 0)) ((.d (.sl (t.map encNode))) :: g1 :: g2 :: (.ref 1 0 0) :: (.tup []) :: v5 :: g6 :: g7 :: g8 :: (.d (.sl (t.map encNode))) :: (.d (.int .i64 t.length)) :: (.d (.int .i64 i)) :: g12 :: g13 :: g14 :: g15 :: g16 :: g17 :: g18 :: g19 :: g20 :: g21 :: g22 :: g23 :: g24 :: g25 :: g26 :: g27 :: g28 :: g29 :: g30 :: g31 :: g32 :: g33 :: []) S [] R := by
  have hlt0 : t.length < 400000 := Nat.lt_of_le_of_lt hS.len (by omega)
  intro k
  induction k with
  | zero =>
    intro i es S v5 g6 g7 g8 g12 g13 g14 g15 g16 g17 g18 g19 g20 g21 g22 g23 g24 g25 g26 g27 g28 g29 g30 g31 g32 g33 hk hi hm hM hb hR
    have hie : i = t.length := by omega
    rw [wk_of]
    refine wk_loop ?_
    conv => arg 2; whnf
    simp (maxSteps := 1000000) (disch := first | assumption | omega | rfl) only [↓vmp, vme, vmb, ty, hP, dec_t, dec_f, wrap64, List.length_map, Int.toNat_natCast, Nat.reduceAdd, List.cons_append, List.nil_append, Option.map_some, Option.map_none, strOf_mk, sb_eql, sb_neq, vmg, ↓vgd, ↓vst, ↓vix]
    rw [hie, List.take_length] at hM
    rw [hie] at hm
    exact hR _ es _ _ _ _ _ _ _ _ _ _ _ _ _ _ _ _ _ _ _ _ _ _ _ _ _ _ _ hm hM hb
  | succ k ih =>
    intro i es S v5 g6 g7 g8 g12 g13 g14 g15 g16 g17 g18 g19 g20 g21 g22 g23 g24 g25 g26 g27 g28 g29 g30 g31 g32 g33 hk hi hm hM hb hR
    have hlt : i < t.length := by omega
    have htk : t.take (i + 1) = t.take i ++ [t[i]] := by rw [List.take_succ_eq_append_getElem hlt]
    have hmem := List.getElem_mem hlt
    have hd := hS.siz _ hmem
    have hn := hS.nms _ hmem
    have hno : t[i].ino ∉ (t.take i).map (·.ino) := by
      intro hh
      have h1 : t.map (·.ino) = (t.take i).map (·.ino) ++ t[i].ino :: (t.drop (i + 1)).map (·.ino) := by
        have h2 := congrArg (List.map (fun n : Node => n.ino)) (List.take_append_drop i t).symm
        rw [List.drop_eq_getElem_cons hlt, List.map_append, List.map_cons] at h2
        exact h2
      rw [h1] at hnd
      exact (List.nodup_append.1 hnd).2.2 _ hh _ (by simp) rfl
    have hll : (t.take i).length = i := by rw [List.length_take]; omega
    have hS1 : 1 < S.length := getLen hb
    rw [wk_of]
    refine wk_loop ?_
    conv => arg 2; whnf
    generalize hN : t[i] = n at *
    have hbS : (S ++ [.row [.d (encNode n)] 32])[S.length]? = some (.row [.d (encNode n)] 32) := by simp
    obtain ⟨v1, S1, c1, ha1, ho1, hf1, hl1⟩ := apB (S := S ++ [.row [.d (encNode n)] 32]) (l := n.data) (by omega)
    have hb2 : S1[S.length]? = some (.row [.d (encNode n)] 32) := (hf1 S.length _ hbS).1
    have hr2 := rowE_of hb2
    have hst1 := sr32_5 (a := n) (v := v1) (own_fits ho1 (by kernel_rfl) (by kernel_rfl)) (own_cells ho1)
    have hpr1 := fun y => putRow_of (y := y) hb2
    have hb3 : ∀ y : V, (S1.set S.length (.row [y] 32))[S.length]? = some (.row [y] 32) := fun y => set_at hb2
    have hr3 : ∀ y, rowE (S1.set S.length (.row [y] 32)) S.length 0 = some y := fun y => rowE_of (hb3 y)
    obtain ⟨v2, S2, c2, ha2, ho2, hf2, hl2⟩ := apE (S := S1.set S.length (.row [nodeV n v1 (.d (.sl (n.names.map encEnt)))] 32)) (l := n.names) (by omega)
    have hb4 : S2[S.length]? = some (.row [nodeV n v1 (.d (.sl (n.names.map encEnt)))] 32) := (hf2 S.length _ (hb3 _)).1
    have hr4 := rowE_of hb4
    have hst2 := fun (x0 x1 x2 x3 x4 x5 x6 : V) => sra32_6 (x0 := x0) (x1 := x1) (x2 := x2) (x3 := x3) (x4 := x4) (x5 := x5) (x6 := x6) (v := v2) (own_fits ho2 (by kernel_rfl) (by kernel_rfl)) (own_cells ho2)
    have hpr2 := fun y => putRow_of (y := y) hb4
    have hr5 : ∀ y, rowE (S2.set S.length (.row [y] 32)) S.length 0 = some y := fun y => rowE_of (set_at hb4)
    have hkeep : ∀ (j : Nat) (o : Ob), S[j]? = some o → (S2.set S.length (.row [nodeV n v1 v2] 32))[j]? = some o := fun j o hj => by
      have hjl := getLen hj
      have h1 : (S ++ [.row [.d (encNode n)] 32])[j]? = some o := by rw [List.getElem?_append_left hjl]; exact hj
      have h2 := (hf1 j o h1).1
      have h3 : (S1.set S.length (.row [nodeV n v1 (.d (.sl (n.names.map encEnt)))] 32))[j]? = some o := by rw [List.getElem?_set_ne (by omega)]; exact h2
      have h4 := (hf2 j o h3).1
      rw [List.getElem?_set_ne (by omega)]; exact h4
    have hv1 : OwnS (S2.set S.length (.row [nodeV n v1 v2] 32)) v1 5 (n.data.map fun b => .d (.int .u8 b.toNat)) := own_set (own_keep (own_set ho1 (hf1 S.length _ hbS).2) (fun j o hj => (hf2 j o hj).1)) (hf1 S.length _ hbS).2
    have hv2 : OwnS (S2.set S.length (.row [nodeV n v1 v2] 32)) v2 88 (n.names.map fun x => .d (encEnt x)) := own_set ho2 (hf2 S.length _ (hb3 _)).2
    have hm6 := hkeep 0 _ hm
    have hb6 := hkeep 1 _ hb
    have hM6 : MapN (S2.set S.length (.row [nodeV n v1 v2] 32)) 0 (t.take i) es := hM.keep (fun j ys u hj => hkeep j _ hj)
    have hr6 : rowE (S2.set S.length (.row [nodeV n v1 v2] 32)) 1 0 = some (.agg [.mr 0]) := rowE_of hb6
    have hr7 : rowE (S2.set S.length (.row [nodeV n v1 v2] 32)) S.length 0 = some (nodeV n v1 v2) := rowE_of (set_at hb4)
    have hup := upd_map (n := n) (v1 := v1) (v2 := v2) (by rw [hll]; exact hm6) hM6 hno
    rw [hll] at hup
    have hkR : ∀ (j : Nat) (ys : List V) (u : TypeId) (o : Ob), (S2.set S.length (.row [nodeV n v1 v2] 32))[j]? = some (.row ys u) → ((S2.set S.length (.row [nodeV n v1 v2] 32)).set 0 o)[j]? = some (.row ys u) := fun j ys u o hj => by
      rw [List.getElem?_set_ne]
      · exact hj
      · rintro rfl; rw [hm6] at hj; cases hj
    unfold nodeV at ha2 hr4 hpr2 hr6 hr7 hup
    simp (maxSteps := 1000000) (disch := first | assumption | omega | rfl) only [↓vmp, vme, vmb, ty, hP, dec_t, dec_f, wrap64, List.length_map, Int.toNat_natCast, Nat.reduceAdd, List.cons_append, List.nil_append, Option.map_some, Option.map_none, strOf_mk, sb_eql, sb_neq, vmg, ↓vgd, ↓vst, ↓vix, ↓vbs, hN, rowE_app, putRow_app, bs0_29, bs0_30, ha1, hr2, hst1, hpr1, hr3, ha2, hr4, hst2, hpr2]
    refine wk_draw (is := [0, 1, 2, 3, 4, 5, 6, 7]) (h := 0) (by kernel_rfl) (by kernel_rfl) ?_
    simp (maxSteps := 1000000) (disch := first | assumption | omega | rfl) only [List.replicate_zero, eq_self, vmd, vmk, vmo, vmg, vme, vmb, ty, hP, dec_t, dec_f, wrap64, List.length_map, Int.toNat_natCast, Nat.reduceAdd, ↓vgd, ↓vst, ↓vix, List.append_nil, op_nilCheck, nilS_ref, op_mapUpdate, fr127, lr125, hr6, hr7, hup, Option.map_some]
    refine ⟨fun _ => by kernel_rfl, ?_⟩
    refine ⟨by kernel_rfl, ?_⟩
    simp (maxSteps := 1000000) (disch := first | assumption | omega | rfl) only [↓vmp, vme, vmb, ty, hP, dec_t, dec_f, wrap64, List.length_map, Int.toNat_natCast, Nat.reduceAdd, List.cons_append, List.nil_append, Option.map_some, Option.map_none, strOf_mk, sb_eql, sb_neq, vmg, ↓vgd, ↓vst, ↓vix]
    have hfin := (hM6.keep (fun j ys u hj => hkR j ys u (.mp (es ++ [(.int .i64 n.ino, nodeV n v1 v2, i)]) (i + 1)) hj)).snoc (own_keepR hv1 (fun j ys u hj => hkR j ys u (.mp (es ++ [(.int .i64 n.ino, nodeV n v1 v2, i)]) (i + 1)) hj)) (own_keepR hv2 (fun j ys u hj => hkR j ys u (.mp (es ++ [(.int .i64 n.ino, nodeV n v1 v2, i)]) (i + 1)) hj))
    rw [hll, Nat.zero_add] at hfin
    exact ih (i + 1) _ _ _ _ _ _ _ _ _ _ _ _ _ _ _ _ _ _ _ _ _ _ _ _ _ _ _ _ (by omega) (by omega) (set_at hm6) (by rw [htk]; exact hfin) (hkR 1 _ _ _ hb6) hR
theorem open_ok (t : List Node) (k0 : Nat) (hk0 : k0 < 300000) (hS : Small k0 t) (hnd : (t.map (·.ino)).Nodup) : Ev cfg 40 [.sl (t.map encNode)] (.ret (.d (stD t))) := by
  refine ev_of rfl rfl body40 ?_
  show Wp cfg (Try.f40.body.getD .skip) ((.d (.sl (t.map encNode))) :: (.tup []) :: (.tup []) :: (.tup []) :: (.tup []) :: (.tup []) :: (.tup []) :: (.tup []) :: (.tup []) :: (.tup []) :: (.tup []) :: (.tup []) :: (.tup []) :: (.tup []) :: (.tup []) :: (.tup []) :: (.tup []) :: (.tup []) :: (.tup []) :: (.tup []) :: (.tup []) :: (.tup []) :: (.tup []) :: (.tup []) :: (.tup []) :: (.tup []) :: (.tup []) :: (.tup []) :: (.tup []) :: (.tup []) :: (.tup []) :: (.tup []) :: (.tup []) :: (.tup []) :: []) [] [] _
  conv => arg 2; whnf
  simp (maxSteps := 1000000) (disch := first | assumption | omega | rfl) only [↓vmp, vme, vmb, ty, hP, dec_t, dec_f, wrap64, List.length_map, Int.toNat_natCast, Nat.reduceAdd, List.cons_append, List.nil_append, Option.map_some, Option.map_none, strOf_mk, sb_eql, sb_neq, vmg, ↓vgd, ↓vst, ↓vix, ↓wl_makeMap, bd127, ff127]
  refine open_l t k0 hk0 hS hnd _ _ _ t.length 0 [] _ _ _ _ _ _ _ _ _ _ _ _ _ _ _ _ _ _ _ _ _ _ _ _ _ _ _ rfl (by omega) rfl trivial rfl ?_
  intro S es v5 i' g6 g7 g8 g12 g13 g14 g15 g16 g17 g18 g19 g20 g21 g22 g23 g24 g25 g26 g27 g28 g29 g30 g31 g32 g33 hm hM hb
  simp (maxSteps := 1000000) (disch := first | assumption | omega | rfl) only [↓vmp, vme, vmb, ty, hP, dec_t, dec_f, wrap64, List.length_map, Int.toNat_natCast, Nat.reduceAdd, List.cons_append, List.nil_append, Option.map_some, Option.map_none, strOf_mk, sb_eql, sb_neq, vmg, ↓vgd, ↓vst, ↓vix]
  refine retQ_one rfl rfl ?_
  have e1 : frz S 10 (.mr 0) = some (.map (mapD t)) := by
    show (match S[0]? with | some (.mp es _) => (allO (fun (e : D × V × Nat) => (frz S 9 e.2.1).map fun x => (e.1, x)) es).map D.map | some (.fm es) => some (.map es) | _ => none) = _
    rw [hm]
    simp only [hM.frz, Option.map_some]
  have e2 : frz S 11 (.agg [.mr 0]) = some (.agg [.map (mapD t)]) := by
    show (match allO (frz S 10) [.mr 0] with | some ds => if ds.any D.isAgg then none else some (D.agg ds) | none => none) = _
    simp only [allO, e1]
    rfl
  show (match S[1]? with
      | some (.row xs e) => match xs[0]? with
        | some x => if (allO (frz S 11) xs).isSome then (frz S 11 x).map D.ptr else none
        | none => none
      | some (.fz xs e) => (xs[0]?).map D.ptr
      | _ => none) = _
  rw [hb]
  simp only [List.getElem?_cons_zero, allO, e2, Option.isSome_some, if_true, Option.map_some]
end Go.Proofs.Ytghllhghboaagaa
end
/-! The program's model: what is looked up; what is given up; the way of a path. -/
section
set_option linter.unusedVariables false
set_option linter.unusedSimpArgs false
set_option maxRecDepth 10000
set_option maxHeartbeats 4000000
namespace Go.Proofs.Ytghllhghboaagaa
open Go.Vm
/-! Giving up. -/
def PanQ (o : Out) : Post := fun x T S F => ∃ v, x = .pan v ∧ F = [] ∧ frzOut S (.pan v) = some o
theorem ev_of_pan {C : Cfg} {f : FuncId} {c : Code} {n : Nat} {rs : Array ResultVar} {ds : List D} {o : Out} (hx : C.ext f = none) (hc : C.catch_ f = none) (hb : bodyOf C.P f = some ⟨c, n, rs⟩)
    (h : Wp C c (startT n (ds.map .d)) [] [] (post C [] (PanQ o))) : Ev C f ds o := by
  obtain ⟨m, x, T, S, F, h1, v, rfl, rfl, h4⟩ := h
  refine ⟨m + 1, ?_⟩
  unfold runD answer
  simp only [hx, run, hc, hb, h1]
  exact h4
theorem wr_pan_d {C : Cfg} {S : Store} {ops : Array Oper} {dst : Option Tmp} {l : List Oper} {T : List V} {F : Dfs} {Q : Post} {f : FuncId} {ds : List D} {v : V} (hs : C.shared f = false) (he : Ev C f ds (.pan v)) :
    WpR C ops dst l T S F Q (some (.enter f (ds.map .d))) = Q (.pan v) T S F := by
  obtain ⟨n, hn⟩ := he
  have hn' : answer C (run C n) f ds = some (.pan v) := hn
  have hfz : ∀ ds : List D, allO (frz S frzFuel) (ds.map V.d) = some ds := by
    intro ds
    induction ds with
    | nil => rfl
    | cons x r ih => simp only [List.map_cons, allO, ih, frz_d]
  have hid : ((ds.map V.d).flatMap (frzIds S frzFuel)).isEmpty = true := by rw [flat_d]; rfl
  have hc : callV C (run C n) f (ds.map .d) S = some (.pan v, S, 1) := by
    unfold callV
    simp only [hs, Bool.false_eq_true, if_false, hfz, hn', hid, if_true]
  apply propext
  constructor
  · rintro ⟨m, o, S', c, h1, h2⟩
    have := callV_det h1 hc
    simp only [Prod.mk.injEq] at this
    obtain ⟨rfl, rfl, rfl⟩ := this
    exact h2
  · exact fun h => ⟨n, _, _, _, hc, h⟩
def panS (Q : Post) (T : List V) (S : Store) (F : Dfs) : V → Prop
  | .iface t v => Q (.pan (.iface t v)) T S F
  | .d (.iface t v) => Q (.pan (.d (.iface t v))) T S F
  | _ => False
theorem wl_panic {C : Cfg} {ops : Array Oper} {dst : Option Tmp} {ty : TypeId} {pos : String} {after : Array Edge} {l : List Oper} {T : List V} {S : Store} {F : Dfs} {Q : Post} {x : Operand} : WpL C ops (⟨dst, .panic x, ty, pos, after, none⟩ :: l) T S F Q = panS Q T S F (evalO T x) := by
  apply propext
  have hp : litPair C.P T ⟨dst, .panic x, ty, pos, after, none⟩ l = none := litPair_none rfl
  generalize he : evalO T x = v
  constructor
  · rintro ⟨n, y, T', S', F', h1, h2⟩
    simp only [seqV, hp, wantedT, opV, he] at h1
    cases v with
    | iface t u => simp only [Option.some.injEq, Prod.mk.injEq] at h1; obtain ⟨rfl, rfl, rfl, rfl⟩ := h1; exact h2
    | d u => cases u <;> simp only [reduceCtorEq, Option.some.injEq, Prod.mk.injEq] at h1; obtain ⟨rfl, rfl, rfl, rfl⟩ := h1; exact h2
    | _ => cases h1
  · intro h
    cases v with
    | iface t u => exact ⟨0, _, T, S, F, by simp only [seqV, hp, wantedT, opV, he], h⟩
    | d u => cases u <;> first | exact h.elim | exact ⟨0, _, T, S, F, by simp only [seqV, hp, wantedT, opV, he], h⟩
    | _ => exact h.elim
def ifaceS (t : TypeId) (S : Store) (v : V) : Option Rs := if v.one = true then some (.val (.iface t v) S 0) else none
theorem wl_iface41 {ops : Array Oper} {dst : Option Tmp} {ty : TypeId} {pos : String} {after : Array Edge} {l : List Oper} {T : List V} {S : Store} {F : Dfs} {Q : Post} {x : Operand} : WpL cfg ops (⟨dst, .makeInterface 41 x, ty, pos, after, none⟩ :: l) T S F Q = WpR cfg ops dst l T S F Q (ifaceS 41 S (evalO T x)) := by
  rw [wl_op rfl]
  simp only [opV, hP, Try.underlying41, ifaceS]
theorem ifaceS_d {t : TypeId} {S : Store} {x : D} : ifaceS t S (.d x) = some (.val (.iface t (.d x)) S 0) := rfl
theorem retQ_nil {P : Program} {x : Ex} {T : List V} {S : Store} (hx : x = .norm ∨ x = .ret) : RetQ P #[] (.ret (.tup [])) x T S [] := ⟨hx, rfl, .tup [], rfl, rfl⟩
def panD (e : Int) : Out := .pan (.d (.iface 41 (.int .i64 e)))
theorem body98 : bodyOf Try.prog 98 = some ⟨Try.f98.body.getD .skip, 6, #[]⟩ := by
  unfold bodyOf
  rw [Try.func98]
  rfl
theorem body102 : bodyOf Try.prog 102 = some ⟨Try.f102.body.getD .skip, 7, #[]⟩ := by
  unfold bodyOf
  rw [Try.func102]
  rfl
theorem give_0 : Ev cfg 98 [.int .i64 0] (.ret (.tup [])) := by
  refine ev_of rfl rfl body98 ?_
  show Wp cfg (Try.f98.body.getD .skip) ((.d (.int .i64 0)) :: (.tup []) :: (.tup []) :: (.tup []) :: (.tup []) :: (.tup []) :: []) [] [] _
  conv => arg 2; whnf
  simp (maxSteps := 1000000) (disch := first | assumption | omega | rfl) only [↓vmp, vme, vmb, ty, hP, dec_t, dec_f, wrap64, List.length_map, Int.toNat_natCast, Nat.reduceAdd, List.cons_append, List.nil_append, Option.map_some, Option.map_none, strOf_mk, sb_eql, sb_neq, vmg, ↓vgd, ↓vst, ↓vix, decide_false, ne_eq, not_true_eq_false]
  exact retQ_nil (.inl rfl)
theorem give_e (e : Int) (he : e ≠ 0) : Ev cfg 98 [.int .i64 e] (panD e) := by
  refine ev_of_pan rfl rfl body98 ?_
  show Wp cfg (Try.f98.body.getD .skip) ((.d (.int .i64 e)) :: (.tup []) :: (.tup []) :: (.tup []) :: (.tup []) :: (.tup []) :: []) [] [] _
  conv => arg 2; whnf
  simp (maxSteps := 1000000) (disch := first | assumption | omega | rfl) only [↓vmp, vme, vmb, ty, hP, dec_t, dec_f, wrap64, List.length_map, Int.toNat_natCast, Nat.reduceAdd, List.cons_append, List.nil_append, Option.map_some, Option.map_none, strOf_mk, sb_eql, sb_neq, vmg, ↓vgd, ↓vst, ↓vix, ↓wl_iface41, ifaceS_d, ↓wl_panic, panS]
  exact ⟨_, rfl, rfl, rfl⟩
theorem call_give0 {ops : Array Oper} {dst : Option Tmp} {k : List Oper} {T : List V} {S : Store} {F : Dfs} {Q : Post} {e : Int} (he : e = 0) :
    WpR cfg ops dst k T S F Q (some (.enter 98 [.d (.int .i64 e)])) = WpL cfg ops k (putT T dst (.tup [])) S F Q := by
  subst he
  exact wr_call_d (ds := [.int .i64 0]) rfl give_0
theorem call_giveE {ops : Array Oper} {dst : Option Tmp} {k : List Oper} {T : List V} {S : Store} {F : Dfs} {Q : Post} {e : Int} (he : e ≠ 0) :
    WpR cfg ops dst k T S F Q (some (.enter 98 [.d (.int .i64 e)])) = Q (.pan (.d (.iface 41 (.int .i64 e)))) T S F :=
  wr_pan_d (ds := [.int .i64 e]) rfl (give_e e he)
theorem need_f (e : Int) : Ev cfg 102 [.bool false, .int .i64 e] (.ret (.tup [])) := by
  refine ev_of rfl rfl body102 ?_
  show Wp cfg (Try.f102.body.getD .skip) ((.d (.bool false)) :: (.d (.int .i64 e)) :: (.tup []) :: (.tup []) :: (.tup []) :: (.tup []) :: (.tup []) :: []) [] [] _
  conv => arg 2; whnf
  simp (maxSteps := 1000000) (disch := first | assumption | omega | rfl) only [↓vmp, vme, vmb, ty, hP, dec_t, dec_f, wrap64, List.length_map, Int.toNat_natCast, Nat.reduceAdd, List.cons_append, List.nil_append, Option.map_some, Option.map_none, strOf_mk, sb_eql, sb_neq, vmg, ↓vgd, ↓vst, ↓vix]
  exact retQ_nil (.inl rfl)
theorem need_t (e : Int) (he : e ≠ 0) : Ev cfg 102 [.bool true, .int .i64 e] (panD e) := by
  refine ev_of_pan rfl rfl body102 ?_
  show Wp cfg (Try.f102.body.getD .skip) ((.d (.bool true)) :: (.d (.int .i64 e)) :: (.tup []) :: (.tup []) :: (.tup []) :: (.tup []) :: (.tup []) :: []) [] [] _
  conv => arg 2; whnf
  simp (maxSteps := 1000000) (disch := first | assumption | omega | rfl) only [↓vmp, vme, vmb, ty, hP, dec_t, dec_f, wrap64, List.length_map, Int.toNat_natCast, Nat.reduceAdd, List.cons_append, List.nil_append, Option.map_some, Option.map_none, strOf_mk, sb_eql, sb_neq, vmg, ↓vgd, ↓vst, ↓vix, call_giveE he]
  exact ⟨_, rfl, rfl, rfl⟩
theorem call_needF {ops : Array Oper} {dst : Option Tmp} {k : List Oper} {T : List V} {S : Store} {F : Dfs} {Q : Post} {e : Int} :
    WpR cfg ops dst k T S F Q (some (.enter 102 [.d (.bool false), .d (.int .i64 e)])) = WpL cfg ops k (putT T dst (.tup [])) S F Q :=
  wr_call_d (ds := [.bool false, .int .i64 e]) rfl (need_f e)
theorem call_needT {ops : Array Oper} {dst : Option Tmp} {k : List Oper} {T : List V} {S : Store} {F : Dfs} {Q : Post} {e : Int} (he : e ≠ 0) :
    WpR cfg ops dst k T S F Q (some (.enter 102 [.d (.bool true), .d (.int .i64 e)])) = Q (.pan (.d (.iface 41 (.int .i64 e)))) T S F :=
  wr_pan_d (ds := [.bool true, .int .i64 e]) rfl (need_t e he)
/-! What is looked up. -/
theorem findD_map {t : List Node} {k : Int} : ∀ {i : Nat}, findD Try.prog 3 (.d (.int .i64 k)) ((mapD t).map fun e => (e.1, V.d e.2)) i = some none ∧ t.find? (fun n => decide (n.ino = k)) = none ∨ ∃ j n, findD Try.prog 3 (.d (.int .i64 k)) ((mapD t).map fun e => (e.1, V.d e.2)) i = some (some (j, .d (encNode n))) ∧ t.find? (fun n => decide (n.ino = k)) = some n := by
  induction t with
  | nil => exact fun {i} => .inl ⟨rfl, rfl⟩
  | cons n r ih =>
    intro i
    by_cases h : n.ino = k
    · refine .inr ⟨i, n, ?_, by simp [h]⟩
      simp only [mapD, List.map_cons, findD, eqI, h, beq_self_eq_true]
    · have h1 : (k == n.ino) = false := by rw [beq_eq_false_iff_ne]; exact fun hh => h hh.symm
      simp only [mapD, List.map_cons, findD, eqI, h1]
      rcases ih (i := i + 1) with ⟨h2, h3⟩ | ⟨j, m, h2, h3⟩
      · exact .inl ⟨h2, by simp [h, h3]⟩
      · exact .inr ⟨j, m, h2, by simp [h, h3]⟩
theorem lookD_t {S : Store} {t : List Node} {k : Int} (h : hasN t k = true) : lookupV Try.prog S 125 (.d (.map (mapD t))) (.d (.int .i64 k)) true = some (.tup [.d (encNode (getN t k)), .d (.bool true)]) := by
  unfold hasN at h
  rcases findD_map (t := t) (k := k) (i := 0) with ⟨h2, h3⟩ | ⟨j, n, h2, h3⟩
  · rw [h3] at h; cases h
  · simp only [lookupV, Try.underlying125, keyI, if_true, entriesV, z32, h2, getN, h3, Option.getD_some]
theorem lookD_t' {S : Store} {t : List Node} {k : Int} (h : hasN t k = true) : lookupV Try.prog S 125 (.d (.map (mapD t))) (.d (.int .i64 k)) false = some (.d (encNode (getN t k))) := by
  unfold hasN at h
  rcases findD_map (t := t) (k := k) (i := 0) with ⟨h2, h3⟩ | ⟨j, n, h2, h3⟩
  · rw [h3] at h; cases h
  · simp only [lookupV, Try.underlying125, keyI, if_true, entriesV, z32, h2, getN, h3, Option.getD_some, Bool.false_eq_true, if_false]
theorem lookD_f {S : Store} {t : List Node} {k : Int} (h : hasN t k = false) : lookupV Try.prog S 125 (.d (.map (mapD t))) (.d (.int .i64 k)) true = some (.tup [.agg [.d (.int .i64 0), .d (.int .i64 0), .d (.int .i64 0), .d (.int .i64 0), .d (.int .i64 0), .ts [], .ts []], .d (.bool false)]) := by
  unfold hasN at h
  rcases findD_map (t := t) (k := k) (i := 0) with ⟨h2, h3⟩ | ⟨j, n, h2, h3⟩
  · simp only [lookupV, Try.underlying125, keyI, if_true, entriesV, z32, h2]
  · rw [h3] at h; cases h
/-! The next number that is free. -/
theorem has_find {t : List Node} {i : Int} : hasN t i = decide (0 ≤ findFrom i 0 t) := by
  unfold hasN
  rcases findFrom_spec i t 0 with ⟨h1, h2⟩ | ⟨k, hk, h1, h2⟩
  · rw [h1, h2]; rfl
  · rw [h1, h2, decide_eq_true (by omega)]; rfl
theorem nextA_least {t : List Node} : ∀ {k : Nat} {i j : Int}, i ≤ j → j < nextA t k i → hasN t j = true
  | 0, i, j, h1, h2 => by simp only [nextA] at h2; omega
  | k + 1, i, j, h1, h2 => by
    unfold nextA at h2
    split at h2
    · rename_i hf
      by_cases hij : i = j
      · rw [has_find, ← hij]; exact decide_eq_true hf
      · exact nextA_least (k := k) (i := i + 1) (by omega) h2
    · omega
theorem next2_l (t : List Node) (hl : t.length < 400000) (R : Post) (g1 g2 : V) : ∀ (k : Nat) (i : Int) (S : Store) (v4 v5 g6 g7 g8 g9 g10 g11 g12 g13 g14 g15 g16 g17 g18 g19 : V), nextN t - i = k → 2 ≤ i →
   (∀ (S : Store) (g4 g5 g6 g7 g8 g9 g10 g11 g12 g13 g14 g15 g16 g17 g18 g19 : V), R .ret ((.d (stD t)) :: g1 :: (.d (.int .i64 (nextN t))) :: (.d (.int .i64 (nextN t))) :: g4 :: g5 :: g6 :: g7 :: g8 :: g9 :: g10 :: g11 :: g12 :: g13 :: g14 :: g15 :: g16 :: g17 :: g18 :: g19 :: []) S []) →
   Wp cfg (.loop (lpOf (Try.f66.body.getD .skip) 0)) ((.d (stD t)) :: g1 :: g2 :: (.d (.int .i64 i)) :: v4 :: v5 :: g6 :: g7 :: g8 :: g9 :: g10 :: g11 :: g12 :: g13 :: g14 :: g15 :: g16 :: g17 :: g18 :: g19 :: []) S [] R := by
  obtain ⟨hn1, hn2, hn3⟩ := nextN_spec t
  intro k
  induction k with
  | zero =>
    intro i S v4 v5 g6 g7 g8 g9 g10 g11 g12 g13 g14 g15 g16 g17 g18 g19 hk hi hR
    have hie : i = nextN t := by omega
    have hno : hasN t i = false := by
      rw [hie]
      unfold hasN
      rw [List.find?_eq_none.2 (fun n hn => by simpa using hn1 n hn)]
      rfl
    have hlk := fun S => lookD_f (S := S) hno
    rw [wk_of]
    refine wk_loop ?_
    conv => arg 2; whnf
    simp (maxSteps := 1000000) (disch := first | assumption | omega | rfl) only [↓vmp, vme, vmb, ty, hP, dec_t, dec_f, wrap64, List.length_map, Int.toNat_natCast, Nat.reduceAdd, List.cons_append, List.nil_append, Option.map_some, Option.map_none, strOf_mk, sb_eql, sb_neq, vmg, ↓vgd, ↓vst, ↓vix, ↓wl_nil, nilS_st, fa127, ld125, hlk, rowE_app, putRow_app, un_not, Bool.not_false]
    rw [hie]
    exact hR _ _ _ _ _ _ _ _ _ _ _ _ _ _ _ _ _
  | succ k ih =>
    intro i S v4 v5 g6 g7 g8 g9 g10 g11 g12 g13 g14 g15 g16 g17 g18 g19 hk hi hR
    have hyes : hasN t i = true := nextA_least (t := t) (k := t.length + 1) (i := 2) hi (by show i < nextN t; omega)
    have hlk := fun S => lookD_t (S := S) hyes
    rw [wk_of]
    refine wk_loop ?_
    conv => arg 2; whnf
    simp (maxSteps := 1000000) (disch := first | assumption | omega | rfl) only [↓vmp, vme, vmb, ty, hP, dec_t, dec_f, wrap64, List.length_map, Int.toNat_natCast, Nat.reduceAdd, List.cons_append, List.nil_append, Option.map_some, Option.map_none, strOf_mk, sb_eql, sb_neq, vmg, ↓vgd, ↓vst, ↓vix, ↓wl_nil, nilS_st, fa127, ld125, hlk, rowE_app, putRow_app, un_not, Bool.not_true]
    exact ih (i + 1) _ _ _ _ _ _ _ _ _ _ _ _ _ _ _ _ _ (by omega) (by omega) hR
theorem next2_ok (t : List Node) (hl : t.length < 400000) : Ev cfg 66 [stD t] (.ret (.d (.int .i64 (nextN t)))) := by
  refine ev_of rfl rfl body66 ?_
  show Wp cfg (Try.f66.body.getD .skip) ((.d (stD t)) :: (.tup []) :: (.tup []) :: (.tup []) :: (.tup []) :: (.tup []) :: (.tup []) :: (.tup []) :: (.tup []) :: (.tup []) :: (.tup []) :: (.tup []) :: (.tup []) :: (.tup []) :: (.tup []) :: (.tup []) :: (.tup []) :: (.tup []) :: (.tup []) :: (.tup []) :: []) [] [] _
  conv => arg 2; whnf
  obtain ⟨hn1, hn2, hn3⟩ := nextN_spec t
  simp (maxSteps := 1000000) (disch := first | assumption | omega | rfl) only [↓vmp, vme, vmb, ty, hP, dec_t, dec_f, wrap64, List.length_map, Int.toNat_natCast, Nat.reduceAdd, List.cons_append, List.nil_append, Option.map_some, Option.map_none, strOf_mk, sb_eql, sb_neq, vmg, ↓vgd, ↓vst, ↓vix]
  refine next2_l t hl _ _ _ (nextN t - 2).toNat 2 _ _ _ _ _ _ _ _ _ _ _ _ _ _ _ _ _ (by omega) (by omega) ?_
  intro S g4 g5 g6 g7 g8 g9 g10 g11 g12 g13 g14 g15 g16 g17 g18 g19
  simp (maxSteps := 1000000) (disch := first | assumption | omega | rfl) only [↓vmp, vme, vmb, ty, hP, dec_t, dec_f, wrap64, List.length_map, Int.toNat_natCast, Nat.reduceAdd, List.cons_append, List.nil_append, Option.map_some, Option.map_none, strOf_mk, sb_eql, sb_neq, vmg, ↓vgd, ↓vst, ↓vix]
  exact retQ_one rfl rfl rfl
theorem call_open {ops : Array Oper} {dst : Option Tmp} {k : List Oper} {T : List V} {S : Store} {F : Dfs} {Q : Post} {t : List Node} {k0 : Nat} (hS : Small k0 t) (hk0 : k0 < 300000) (hnd : (t.map (·.ino)).Nodup) :
    WpR cfg ops dst k T S F Q (some (.enter 40 [.d (.sl (t.map encNode))])) = WpL cfg ops k (putT T dst (.d (stD t))) S F Q :=
  wr_call_d (ds := [.sl (t.map encNode)]) rfl (open_ok t k0 hk0 hS hnd)
theorem call_next2 {ops : Array Oper} {dst : Option Tmp} {k : List Oper} {T : List V} {S : Store} {F : Dfs} {Q : Post} {t : List Node} (hl : t.length < 400000) :
    WpR cfg ops dst k T S F Q (some (.enter 66 [.d (stD t)])) = WpL cfg ops k (putT T dst (.d (.int .i64 (nextN t)))) S F Q :=
  wr_call_d (ds := [stD t]) rfl (next2_ok t hl)
theorem mnext_ok (t : List Node) (k0 : Nat) (hk0 : k0 < 300000) (hS : Small k0 t) (hnd : (t.map (·.ino)).Nodup) : Ev cfg 31 [.sl (t.map encNode)] (.ret (.d (.int .i64 (nextN t)))) := by
  refine ev_of rfl rfl body31 ?_
  show Wp cfg (Try.f31.body.getD .skip) ((.d (.sl (t.map encNode))) :: (.tup []) :: (.tup []) :: (.tup []) :: (.tup []) :: (.tup []) :: []) [] [] _
  conv => arg 2; whnf
  have hl : t.length < 400000 := Nat.lt_of_le_of_lt hS.len (by omega)
  simp (maxSteps := 1000000) (disch := first | assumption | omega | rfl) only [↓vmp, vme, vmb, ty, hP, dec_t, dec_f, wrap64, List.length_map, Int.toNat_natCast, Nat.reduceAdd, List.cons_append, List.nil_append, Option.map_some, Option.map_none, strOf_mk, sb_eql, sb_neq, vmg, ↓vgd, ↓vst, ↓vix, call_open hS hk0 hnd, call_next2]
  exact retQ_one rfl rfl rfl
theorem call_mnext {ops : Array Oper} {dst : Option Tmp} {k : List Oper} {T : List V} {S : Store} {F : Dfs} {Q : Post} {t : List Node} {k0 : Nat} (hS : Small k0 t) (hk0 : k0 < 300000) (hnd : (t.map (·.ino)).Nodup) :
    WpR cfg ops dst k T S F Q (some (.enter 31 [.d (.sl (t.map encNode))])) = WpL cfg ops k (putT T dst (.d (.int .i64 (nextN t)))) S F Q :=
  wr_call_d (ds := [.sl (t.map encNode)]) rfl (mnext_ok t k0 hk0 hS hnd)
end Go.Proofs.Ytghllhghboaagaa
end
/-! The program's model: names of a node, the way of a path. -/
section
set_option linter.unusedVariables false
set_option linter.unusedSimpArgs false
set_option maxRecDepth 10000
set_option maxHeartbeats 4000000
namespace Go.Proofs.Ytghllhghboaagaa
open Go.Vm
/-- The place of a name. -/
def fidx (s : List UInt8) : Nat → List Ent → Option Nat
  | _, [] => none
  | i, e :: r => if e.name = s then some i else fidx s (i + 1) r
theorem fidx_spec {s : List UInt8} : ∀ {l : List Ent} {i : Nat}, (fidx s i l = none ∧ nameN l s = -1) ∨ ∃ k, ∃ h : k < l.length, fidx s i l = some (i + k) ∧ nameN l s = l[k].ino
  | [], i => .inl ⟨rfl, rfl⟩
  | e :: r, i => by
    by_cases h : e.name = s
    · refine .inr ⟨0, by simp, ?_, ?_⟩
      · simp [fidx, h]
      · rw [nameN_pos h]; rfl
    · rcases fidx_spec (s := s) (l := r) (i := i + 1) with ⟨h1, h2⟩ | ⟨k, hk, h1, h2⟩
      · exact .inl ⟨by simp only [fidx, h, if_false, h1], by rw [nameN_neg h, h2]⟩
      · refine .inr ⟨k + 1, by simp; omega, ?_, ?_⟩
        · simp only [fidx, h, if_false, h1]
          rw [show i + 1 + k = i + (k + 1) by omega]
        · rw [nameN_neg h, h2]; rfl
theorem mfind_l (n : Node) (s : List UInt8) (hl : n.names.length < 1000000) (R : Post) (g3 g8 : V) : ∀ (k i : Nat) (S : Store) (v6 v7 g12 g13 g14 g15 g16 g17 g18 g19 g20 g21 : V), n.names.length - i = k → i ≤ n.names.length →
   (∀ S v6 v7 i' g12 g13 g14 g15 g16 g17 g18 g19 g20 g21, fidx s i (n.names.drop i) = none → R (.exit 0) ((.d (encNode n)) :: (.d (.str s)) :: (.ref 0 0 0) :: g3 :: (.d (.int .i64 0)) :: (.d (.bool false)) :: v6 :: v7 :: g8 :: (.d (.sl (n.names.map encEnt))) :: (.d (.int .i64 n.names.length)) :: i' :: g12 :: g13 :: g14 :: g15 :: g16 :: g17 :: g18 :: g19 :: g20 :: g21 :: []) S []) →
   (∀ S v6 v7 i' (j : Nat) g12 g13 g14 g15 g16 g17 g18 g19 g20 g21, fidx s i (n.names.drop i) = some j → R .ret ((.d (encNode n)) :: (.d (.str s)) :: (.ref 0 0 0) :: g3 :: (.d (.int .i64 j)) :: (.d (.bool true)) :: v6 :: v7 :: g8 :: (.d (.sl (n.names.map encEnt))) :: (.d (.int .i64 n.names.length)) :: i' :: g12 :: g13 :: g14 :: g15 :: g16 :: g17 :: g18 :: g19 :: g20 :: g21 :: []) S []) →
   Wp cfg (.loop (lpOf (Try.f105.body.getD .skip) 0)) ((.d (encNode n)) :: (.d (.str s)) :: (.ref 0 0 0) :: g3 :: (.d (.int .i64 0)) :: (.d (.bool false)) :: v6 :: v7 :: g8 :: (.d (.sl (n.names.map encEnt))) :: (.d (.int .i64 n.names.length)) :: (.d (.int .i64 i)) :: g12 :: g13 :: g14 :: g15 :: g16 :: g17 :: g18 :: g19 :: g20 :: g21 :: []) S [] R := by
  intro k
  induction k with
  | zero =>
    intro i S v6 v7 g12 g13 g14 g15 g16 g17 g18 g19 g20 g21 hk hi hE hR
    have hie : i = n.names.length := by omega
    rw [wk_of]
    refine wk_loop ?_
    conv => arg 2; whnf
    simp (maxSteps := 1000000) (disch := first | assumption | omega | rfl) only [↓vmp, vme, vmb, ty, hP, dec_t, dec_f, wrap64, List.length_map, Int.toNat_natCast, Nat.reduceAdd, List.cons_append, List.nil_append, Option.map_some, Option.map_none, strOf_mk, sb_eql, sb_neq, vmg, ↓vgd, ↓vst, ↓vix]
    exact hE _ _ _ _ _ _ _ _ _ _ _ _ _ _ (by rw [hie, List.drop_length]; rfl)
  | succ k ih =>
    intro i S v6 v7 g12 g13 g14 g15 g16 g17 g18 g19 g20 g21 hk hi hE hR
    have hlt : i < n.names.length := by omega
    have hdr : n.names.drop i = n.names[i] :: n.names.drop (i + 1) := List.drop_eq_getElem_cons hlt
    rw [hdr] at hE hR
    rw [wk_of]
    refine wk_loop ?_
    conv => arg 2; whnf
    by_cases hc : n.names[i].name = s
    · have e : fidx s i (n.names[i] :: n.names.drop (i + 1)) = some i := by simp only [fidx, hc, if_true]
      simp (maxSteps := 1000000) (disch := first | assumption | omega | rfl) only [↓vmp, vme, vmb, ty, hP, dec_t, dec_f, wrap64, List.length_map, Int.toNat_natCast, Nat.reduceAdd, List.cons_append, List.nil_append, Option.map_some, Option.map_none, strOf_mk, sb_eql, sb_neq, vmg, ↓vgd, ↓vst, ↓vix, rowE_app, putRow_app]
      exact hR _ _ _ _ _ _ _ _ _ _ _ _ _ _ _ e
    · have e : fidx s i (n.names[i] :: n.names.drop (i + 1)) = fidx s (i + 1) (n.names.drop (i + 1)) := by simp only [fidx, hc, if_false]
      rw [e] at hE hR
      simp (maxSteps := 1000000) (disch := first | assumption | omega | rfl) only [↓vmp, vme, vmb, ty, hP, dec_t, dec_f, wrap64, List.length_map, Int.toNat_natCast, Nat.reduceAdd, List.cons_append, List.nil_append, Option.map_some, Option.map_none, strOf_mk, sb_eql, sb_neq, vmg, ↓vgd, ↓vst, ↓vix, rowE_app, putRow_app]
      exact ih (i + 1) _ _ _ _ _ _ _ _ _ _ _ _ _ (by omega) (by omega) hE hR
def findR (n : Node) (s : List UInt8) : Int × Bool := match fidx s 0 n.names with | some j => ((j : Nat), true) | none => (0, false)
theorem mfind_ok (n : Node) (s : List UInt8) (hl : n.names.length < 1000000) : Ev cfg 105 [encNode n, .str s] (.ret (.tup [.d (.int .i64 (findR n s).1), .d (.bool (findR n s).2)])) := by
  refine ev_of rfl rfl body105 ?_
  show Wp cfg (Try.f105.body.getD .skip) ((.d (encNode n)) :: (.d (.str s)) :: (.tup []) :: (.tup []) :: (.tup []) :: (.tup []) :: (.tup []) :: (.tup []) :: (.tup []) :: (.tup []) :: (.tup []) :: (.tup []) :: (.tup []) :: (.tup []) :: (.tup []) :: (.tup []) :: (.tup []) :: (.tup []) :: (.tup []) :: (.tup []) :: (.tup []) :: (.tup []) :: []) [] [] _
  conv => arg 2; whnf
  simp (maxSteps := 1000000) (disch := first | assumption | omega | rfl) only [↓vmp, vme, vmb, ty, hP, dec_t, dec_f, wrap64, List.length_map, Int.toNat_natCast, Nat.reduceAdd, List.cons_append, List.nil_append, Option.map_some, Option.map_none, strOf_mk, sb_eql, sb_neq, vmg, ↓vgd, ↓vst, ↓vix]
  refine mfind_l n s hl _ _ _ n.names.length 0 _ _ _ _ _ _ _ _ _ _ _ _ _ rfl (by omega) ?_ ?_
  · intro S v6 v7 i' g12 g13 g14 g15 g16 g17 g18 g19 g20 g21 h
    rw [List.drop_zero] at h
    simp (maxSteps := 1000000) (disch := first | assumption | omega | rfl) only [↓vmp, vme, vmb, ty, hP, dec_t, dec_f, wrap64, List.length_map, Int.toNat_natCast, Nat.reduceAdd, List.cons_append, List.nil_append, Option.map_some, Option.map_none, strOf_mk, sb_eql, sb_neq, vmg, ↓vgd, ↓vst, ↓vix]
    unfold findR
    rw [h]
    exact retQ_two rfl rfl rfl rfl rfl rfl
  · intro S v6 v7 i' j g12 g13 g14 g15 g16 g17 g18 g19 g20 g21 h
    rw [List.drop_zero] at h
    simp (maxSteps := 1000000) (disch := first | assumption | omega | rfl) only [↓vmp, vme, vmb, ty, hP, dec_t, dec_f, wrap64, List.length_map, Int.toNat_natCast, Nat.reduceAdd, List.cons_append, List.nil_append, Option.map_some, Option.map_none, strOf_mk, sb_eql, sb_neq, vmg, ↓vgd, ↓vst, ↓vix]
    unfold findR
    rw [h]
    exact retQ_two rfl rfl rfl rfl rfl rfl
theorem call_mfind {ops : Array Oper} {dst : Option Tmp} {k : List Oper} {T : List V} {S : Store} {F : Dfs} {Q : Post} {n : Node} {s : List UInt8} (hl : n.names.length < 1000000) :
    WpR cfg ops dst k T S F Q (some (.enter 105 [.d (encNode n), .d (.str s)])) = WpL cfg ops k (putT T dst (.tup [.d (.int .i64 (findR n s).1), .d (.bool (findR n s).2)])) S F Q :=
  wr_call_d (ds := [encNode n, .str s]) rfl (mfind_ok n s hl)
/-- The names of a tree tell what is there. -/
structure Told (t : List Node) : Prop where
  root : hasN t 1 = true
  has : ∀ x, ∀ e ∈ (getN t x).names, hasN t e.ino = true
  ge2 : ∀ x, ∀ e ∈ (getN t x).names, 2 ≤ e.ino
theorem go1_l (t : List Node) (hT : Told t) (k0 : Nat) (hk0 : k0 < 300000) (hS : Small k0 t) (ps : List (List UInt8)) (hl : ps.length < 1000000) (z : V) (R : Post) (g2 g3 g6 : V) : ∀ (k i : Nat) (d : Int) (g7 g8 g9 g10 g11 g12 g13 g14 g18 g19 g20 g21 g22 g23 g24 g25 g26 g27 g28 g29 g30 g31 g32 g33 g34 g35 g36 g37 g38 g39 g40 g41 g42 g43 g44 g45 g46 : V), ps.length - i = k → i ≤ ps.length →
   (∀ d' i' g7 g8 g9 g10 g11 g12 g13 g14 g18 g19 g20 g21 g22 g23 g24 g25 g26 g27 g28 g29 g30 g31 g32 g33 g34 g35 g36 g37 g38 g39 g40 g41 g42 g43 g44 g45 g46, goN t (ps.drop i) d = (d', 0) → R (.exit 0) ((.d (stD t)) :: (.d (.sl (ps.map .str))) :: g2 :: g3 :: (.ref 0 0 0) :: (.ref 1 0 0) :: g6 :: g7 :: g8 :: g9 :: g10 :: g11 :: g12 :: g13 :: g14 :: (.d (.sl (ps.map .str))) :: (.d (.int .i64 ps.length)) :: i' :: g18 :: g19 :: g20 :: g21 :: g22 :: g23 :: g24 :: g25 :: g26 :: g27 :: g28 :: g29 :: g30 :: g31 :: g32 :: g33 :: g34 :: g35 :: g36 :: g37 :: g38 :: g39 :: g40 :: g41 :: g42 :: g43 :: g44 :: g45 :: g46 :: []) [.row [z] 32, .row [.d (encNode (getN t d'))] 32] []) →
   (∀ T S e, (goN t (ps.drop i) d).2 = e → e ≠ 0 → R (.pan (.d (.iface 41 (.int .i64 e)))) T S []) →
   Wp cfg (.loop (lpOf (Try.f99.body.getD .skip) 0)) ((.d (stD t)) :: (.d (.sl (ps.map .str))) :: g2 :: g3 :: (.ref 0 0 0) :: (.ref 1 0 0) :: g6 :: g7 :: g8 :: g9 :: g10 :: g11 :: g12 :: g13 :: g14 :: (.d (.sl (ps.map .str))) :: (.d (.int .i64 ps.length)) :: (.d (.int .i64 i)) :: g18 :: g19 :: g20 :: g21 :: g22 :: g23 :: g24 :: g25 :: g26 :: g27 :: g28 :: g29 :: g30 :: g31 :: g32 :: g33 :: g34 :: g35 :: g36 :: g37 :: g38 :: g39 :: g40 :: g41 :: g42 :: g43 :: g44 :: g45 :: g46 :: []) [.row [z] 32, .row [.d (encNode (getN t d))] 32] [] R := by
  intro k
  induction k with
  | zero =>
    intro i d g7 g8 g9 g10 g11 g12 g13 g14 g18 g19 g20 g21 g22 g23 g24 g25 g26 g27 g28 g29 g30 g31 g32 g33 g34 g35 g36 g37 g38 g39 g40 g41 g42 g43 g44 g45 g46 hk hi hE hR
    have hie : i = ps.length := by omega
    rw [wk_of]
    refine wk_loop ?_
    conv => arg 2; whnf
    simp (maxSteps := 1000000) (disch := first | assumption | omega | rfl) only [↓vmp, vme, vmb, ty, hP, dec_t, dec_f, wrap64, List.length_map, Int.toNat_natCast, Nat.reduceAdd, List.cons_append, List.nil_append, Option.map_some, Option.map_none, strOf_mk, sb_eql, sb_neq, vmg, ↓vgd, ↓vst, ↓vix]
    exact hE d _ _ _ _ _ _ _ _ _ _ _ _ _ _ _ _ _ _ _ _ _ _ _ _ _ _ _ _ _ _ _ _ _ _ _ _ _ _ (by rw [hie, List.drop_length]; rfl)
  | succ k ih =>
    intro i d g7 g8 g9 g10 g11 g12 g13 g14 g18 g19 g20 g21 g22 g23 g24 g25 g26 g27 g28 g29 g30 g31 g32 g33 g34 g35 g36 g37 g38 g39 g40 g41 g42 g43 g44 g45 g46 hk hi hE hR
    have hlt : i < ps.length := by omega
    have hdr : ps.drop i = ps[i] :: ps.drop (i + 1) := List.drop_eq_getElem_cons hlt
    rw [hdr] at hE hR
    have hgn : (getN t d).names.length < 1000000 := Nat.lt_of_le_of_lt (hS.gnms d) (by omega)
    rw [wk_of]
    refine wk_loop ?_
    conv => arg 2; whnf
    by_cases hc : (getN t d).kind = 2
    · rcases fidx_spec (s := ps[i]) (l := (getN t d).names) (i := 0) with ⟨h1, h2⟩ | ⟨j, hj, h1, h2⟩
      · have hf : findR (getN t d) ps[i] = (0, false) := by unfold findR; rw [h1]
        have e : goN t (ps[i] :: ps.drop (i + 1)) d = (0, 4) := by simp only [goN, ne_eq, hc, not_true_eq_false, if_false, h2]; rfl
        have h4 : (4 : Int) ≠ 0 := by omega
        simp (maxSteps := 1000000) (disch := first | assumption | omega | rfl) only [↓vmp, vme, vmb, ty, hP, dec_t, dec_f, wrap64, List.length_map, Int.toNat_natCast, Nat.reduceAdd, List.cons_append, List.nil_append, Option.map_some, Option.map_none, strOf_mk, sb_eql, sb_neq, vmg, ↓vgd, ↓vst, ↓vix, call_needF, call_mfind, hf, un_not, Bool.not_false, call_needT h4]
        exact hR _ _ 4 (by rw [e]) (by omega)
      · rw [Nat.zero_add] at h1
        have hf : findR (getN t d) ps[i] = (((j : Nat) : Int), true) := by unfold findR; rw [h1]
        have hge := hT.ge2 d _ (List.getElem_mem hj)
        have hhas := hT.has d _ (List.getElem_mem hj)
        have e : goN t (ps[i] :: ps.drop (i + 1)) d = goN t (ps.drop (i + 1)) (nameN (getN t d).names ps[i]) := by
          simp only [goN, ne_eq, hc, not_true_eq_false, if_false]
          rw [if_neg (by rw [h2]; omega)]
        rw [e, h2] at hE hR
        have hlk := fun S => lookD_t' (S := S) hhas
        simp (maxSteps := 1000000) (disch := first | assumption | omega | rfl) only [↓vmp, vme, vmb, ty, hP, dec_t, dec_f, wrap64, List.length_map, Int.toNat_natCast, Nat.reduceAdd, List.cons_append, List.nil_append, Option.map_some, Option.map_none, strOf_mk, sb_eql, sb_neq, vmg, ↓vgd, ↓vst, ↓vix, call_needF, call_mfind, hf, un_not, Bool.not_true]
        refine wk_draw (is := [0, 1, 2, 3, 4, 5, 6, 7, 8, 9, 10, 11]) (h := 0) (by kernel_rfl) (by kernel_rfl) ?_
        simp (maxSteps := 1000000) (disch := first | assumption | omega | rfl) only [List.replicate_zero, eq_self, vmd, vmk, vmo, vmg, vme, vmb, ty, hP, dec_t, dec_f, wrap64, List.length_map, Int.toNat_natCast, Nat.reduceAdd, ↓vgd, ↓vst, ↓vix, List.append_nil, op_nilCheck, nilS_st, fa127, ld125, hlk]
        refine ⟨fun _ => by kernel_rfl, ?_⟩
        refine ⟨by kernel_rfl, ?_⟩
        simp (maxSteps := 1000000) (disch := first | assumption | omega | rfl) only [↓vmp, vme, vmb, ty, hP, dec_t, dec_f, wrap64, List.length_map, Int.toNat_natCast, Nat.reduceAdd, List.cons_append, List.nil_append, Option.map_some, Option.map_none, strOf_mk, sb_eql, sb_neq, vmg, ↓vgd, ↓vst, ↓vix]
        exact ih (i + 1) _ _ _ _ _ _ _ _ _ _ _ _ _ _ _ _ _ _ _ _ _ _ _ _ _ _ _ _ _ _ _ _ _ _ _ _ _ _ (by omega) (by omega) hE hR
    · have e : goN t (ps[i] :: ps.drop (i + 1)) d = (0, 6) := by simp only [goN, ne_eq, hc, not_false_eq_true, if_true]
      have h6 : (6 : Int) ≠ 0 := by omega
      simp (maxSteps := 1000000) (disch := first | assumption | omega | rfl) only [↓vmp, vme, vmb, ty, hP, dec_t, dec_f, wrap64, List.length_map, Int.toNat_natCast, Nat.reduceAdd, List.cons_append, List.nil_append, Option.map_some, Option.map_none, strOf_mk, sb_eql, sb_neq, vmg, ↓vgd, ↓vst, ↓vix, call_needT h6]
      exact hR _ _ 6 (by rw [e]) (by omega)
/-- What a way comes to: the node, or the error that is given up with. -/
def endD (t : List Node) (q : Int × Int) : Out := if q.2 = 0 then .ret (.d (encNode (getN t q.1))) else panD q.2
theorem go1_ok (t : List Node) (hT : Told t) (k0 : Nat) (hk0 : k0 < 300000) (hS : Small k0 t) (ps : List (List UInt8)) (hl : ps.length < 1000000) : Ev cfg 99 [stD t, .sl (ps.map .str)] (endD t (goN t ps 1)) := by
  have hlk := fun S => lookD_t' (S := S) hT.root
  by_cases h : (goN t ps 1).2 = 0
  · have e : endD t (goN t ps 1) = .ret (.d (encNode (getN t (goN t ps 1).1))) := if_pos h
    rw [e]
    refine ev_of rfl rfl body99 ?_
    show Wp cfg (Try.f99.body.getD .skip) ((.d (stD t)) :: (.d (.sl (ps.map .str))) :: (.tup []) :: (.tup []) :: (.tup []) :: (.tup []) :: (.tup []) :: (.tup []) :: (.tup []) :: (.tup []) :: (.tup []) :: (.tup []) :: (.tup []) :: (.tup []) :: (.tup []) :: (.tup []) :: (.tup []) :: (.tup []) :: (.tup []) :: (.tup []) :: (.tup []) :: (.tup []) :: (.tup []) :: (.tup []) :: (.tup []) :: (.tup []) :: (.tup []) :: (.tup []) :: (.tup []) :: (.tup []) :: (.tup []) :: (.tup []) :: (.tup []) :: (.tup []) :: (.tup []) :: (.tup []) :: (.tup []) :: (.tup []) :: (.tup []) :: (.tup []) :: (.tup []) :: (.tup []) :: (.tup []) :: (.tup []) :: (.tup []) :: (.tup []) :: (.tup []) :: []) [] [] _
    conv => arg 2; whnf
    simp (maxSteps := 1000000) (disch := first | assumption | omega | rfl) only [↓vmp, vme, vmb, ty, hP, dec_t, dec_f, wrap64, List.length_map, Int.toNat_natCast, Nat.reduceAdd, List.cons_append, List.nil_append, Option.map_some, Option.map_none, strOf_mk, sb_eql, sb_neq, vmg, ↓vgd, ↓vst, ↓vix, ↓wl_nil, nilS_st, fa127, ld125, hlk]
    refine go1_l t hT k0 hk0 hS ps hl _ _ _ _ _ ps.length 0 1 _ _ _ _ _ _ _ _ _ _ _ _ _ _ _ _ _ _ _ _ _ _ _ _ _ _ _ _ _ _ _ _ _ _ _ _ _ rfl (by omega) ?_ ?_
    · intro d' i' g7 g8 g9 g10 g11 g12 g13 g14 g18 g19 g20 g21 g22 g23 g24 g25 g26 g27 g28 g29 g30 g31 g32 g33 g34 g35 g36 g37 g38 g39 g40 g41 g42 g43 g44 g45 g46 hg
      rw [List.drop_zero] at hg
      simp (maxSteps := 1000000) (disch := first | assumption | omega | rfl) only [↓vmp, vme, vmb, ty, hP, dec_t, dec_f, wrap64, List.length_map, Int.toNat_natCast, Nat.reduceAdd, List.cons_append, List.nil_append, Option.map_some, Option.map_none, strOf_mk, sb_eql, sb_neq, vmg, ↓vgd, ↓vst, ↓vix]
      rw [hg]
      exact retQ_cell rfl (v := .d (encNode (getN t d'))) (by kernel_rfl) rfl rfl
    · intro T S e he hne
      rw [List.drop_zero] at he
      exact absurd (he.symm.trans h) hne
  · have e : endD t (goN t ps 1) = panD (goN t ps 1).2 := if_neg h
    rw [e]
    refine ev_of_pan rfl rfl body99 ?_
    show Wp cfg (Try.f99.body.getD .skip) ((.d (stD t)) :: (.d (.sl (ps.map .str))) :: (.tup []) :: (.tup []) :: (.tup []) :: (.tup []) :: (.tup []) :: (.tup []) :: (.tup []) :: (.tup []) :: (.tup []) :: (.tup []) :: (.tup []) :: (.tup []) :: (.tup []) :: (.tup []) :: (.tup []) :: (.tup []) :: (.tup []) :: (.tup []) :: (.tup []) :: (.tup []) :: (.tup []) :: (.tup []) :: (.tup []) :: (.tup []) :: (.tup []) :: (.tup []) :: (.tup []) :: (.tup []) :: (.tup []) :: (.tup []) :: (.tup []) :: (.tup []) :: (.tup []) :: (.tup []) :: (.tup []) :: (.tup []) :: (.tup []) :: (.tup []) :: (.tup []) :: (.tup []) :: (.tup []) :: (.tup []) :: (.tup []) :: (.tup []) :: (.tup []) :: []) [] [] _
    conv => arg 2; whnf
    simp (maxSteps := 1000000) (disch := first | assumption | omega | rfl) only [↓vmp, vme, vmb, ty, hP, dec_t, dec_f, wrap64, List.length_map, Int.toNat_natCast, Nat.reduceAdd, List.cons_append, List.nil_append, Option.map_some, Option.map_none, strOf_mk, sb_eql, sb_neq, vmg, ↓vgd, ↓vst, ↓vix, ↓wl_nil, nilS_st, fa127, ld125, hlk]
    refine go1_l t hT k0 hk0 hS ps hl _ _ _ _ _ ps.length 0 1 _ _ _ _ _ _ _ _ _ _ _ _ _ _ _ _ _ _ _ _ _ _ _ _ _ _ _ _ _ _ _ _ _ _ _ _ _ rfl (by omega) ?_ ?_
    · intro d' i' g7 g8 g9 g10 g11 g12 g13 g14 g18 g19 g20 g21 g22 g23 g24 g25 g26 g27 g28 g29 g30 g31 g32 g33 g34 g35 g36 g37 g38 g39 g40 g41 g42 g43 g44 g45 g46 hg
      rw [List.drop_zero] at hg
      rw [hg] at h
      exact absurd rfl h
    · intro T S e he hne
      rw [List.drop_zero] at he
      simp (maxSteps := 1000000) (disch := first | assumption | omega | rfl) only [↓vmp, vme, vmb, ty, hP, dec_t, dec_f, wrap64, List.length_map, Int.toNat_natCast, Nat.reduceAdd, List.cons_append, List.nil_append, Option.map_some, Option.map_none, strOf_mk, sb_eql, sb_neq, vmg]
      subst he
      exact ⟨_, rfl, rfl, rfl⟩
end Go.Proofs.Ytghllhghboaagaa
end
/-! Rules for regions that draw and give up; calls by the store. -/
section
set_option linter.unusedVariables false
set_option linter.unusedSimpArgs false
namespace Go.Vm
open Go
section
variable {C : Cfg} {ops : Array Oper} {base : Nat} {F : Dfs} {Q : Post}
/-- The operations ahead of the one that gives up look at the store, or not even that. -/
def WpN (C : Cfg) (ops : Array Oper) (base : Nat) (K : List (Nat × Nat) → Nat → List Nat → V → Store → Prop) : List (Nat × Nat) → List Nat → List V → Store → Prop
  | _, [], _, _ => False
  | cs, i :: is, T, S => ∃ o, ops[i]? = some o ∧ ((∃ n v S', panO C (run C n) ops o T S = some (v, S') ∧ K cs i is v S') ∨ (∃ n v S' c, effC C (run C n) ops (base + i) o T S = some (v, S', c) ∧ c ≤ 2 ∧ WpN C ops base K (cs ++ [(i, c)]) is (putT T o.dst v) S'))
theorem wpN_ok {K : List (Nat × Nat) → Nat → List Nat → V → Store → Prop} : ∀ {is : List Nat} {cs : List (Nat × Nat)} {T : List V} {S : Store}, WpN C ops base K cs is T S → ∀ ws : List (Nat × List V × V), ∃ n v S' cs' p rest, seqP C (run C n) ops (befs ops) base ws is T S = some (v, S', cs', p, rest) ∧ K (cs ++ cs') p rest v S'
  | [], cs, T, S, h, ws => h.elim
  | i :: is, cs, T, S, h, ws => by
    obtain ⟨o, ho, h⟩ := h
    rcases h with ⟨n, v, S', h1, h2⟩ | ⟨n, v, S', c, h1, h2, h3⟩
    · exact ⟨n, v, S', [], i, is, by simp only [seqP, ho, h1], by simpa using h2⟩
    · obtain ⟨m, v2, S2, cs', p, rest, h4, h5⟩ := wpN_ok h3 (if c = 1 then (i, T, v) :: ws else ws)
      have he := effC_mono (run_le C (Nat.le_max_left n m)) h1
      have hs := seqP_mono (run_le C (Nat.le_max_right n m)) h4
      refine ⟨max n m, v2, S2, (i, c) :: cs', p, rest, ?_, by simpa using h5⟩
      simp only [seqP, ho, effC_panO he, he, hs]
      rw [if_neg (fun hh => by omega)]
theorem wk_draw_pan {id : Nat} {T : List V} {S : Store} {is : List Nat} {h : Nat} (ho : orderOf C.shared ops = is) (hh : holesN ops = h) (hd : WpN C ops S.length (fun cs p rest v S' => panOk C.P ops cs p rest = true ∧ Q (.pan v) T (killAll S.length rest S') F) [] is T (S ++ List.replicate h .hole)) : Wp C (.region id ops true) T S F Q := by
  subst ho; subst hh
  obtain ⟨n, v, S', cs', p, rest, h1, h2, h3⟩ := wpN_ok hd []
  refine ⟨n + 1, .pan v, T, _, F, ?_, h3⟩
  have hn : seqC C (run C n) ops (befs ops) S.length [] (orderOf C.shared ops) T (S ++ List.replicate (holesN ops) .hole) = none := seqP_none (fun _ _ _ _ h => h) h1
  simp only [exec, hn, h1]
  rw [if_pos (by simpa using h2)]
theorem eff_call {id : Nat} {o : Oper} {T : List V} {S : Store} {f : FuncId} {ds : List D} {v : V} (hw : wantedT ops T o = some true) (ha : addsK o = false) (hop : opV C.P S T o = some (.enter f (ds.map .d))) (hs : C.shared f = false) (he : Ev C f ds (.ret v)) : ∃ n, effC C (run C n) ops id o T S = some (v, S, 1) := by
  obtain ⟨n, hn⟩ := he
  have hn' : answer C (run C n) f ds = some (.ret v) := hn
  have hfz : ∀ ds : List D, allO (frz S frzFuel) (ds.map V.d) = some ds := by
    intro ds
    induction ds with
    | nil => rfl
    | cons x r ih => simp only [List.map_cons, allO, ih, frz_d]
  have hid : ((ds.map V.d).flatMap (frzIds S frzFuel)).isEmpty = true := by rw [flat_d]; rfl
  have hc : callV C (run C n) f (ds.map .d) S = some (.ret v, S, 1) := by
    unfold callV
    simp only [hs, Bool.false_eq_true, if_false, hfz, hn', hid, if_true]
  exact ⟨n, by simp only [effC, hw, ha, Bool.false_eq_true, if_false, hop, hc]; rfl⟩
theorem pan_call {o : Oper} {T : List V} {S : Store} {f : FuncId} {ds : List D} {v : V} (hw : wantedT ops T o = some true) (ha : addsK o = false) (hop : opV C.P S T o = some (.enter f (ds.map .d))) (hs : C.shared f = false) (he : Ev C f ds (.pan v)) : ∃ n, panO C (run C n) ops o T S = some (v, S) := by
  obtain ⟨n, hn⟩ := he
  have hn' : answer C (run C n) f ds = some (.pan v) := hn
  have hfz : ∀ ds : List D, allO (frz S frzFuel) (ds.map V.d) = some ds := by
    intro ds
    induction ds with
    | nil => rfl
    | cons x r ih => simp only [List.map_cons, allO, ih, frz_d]
  have hid : ((ds.map V.d).flatMap (frzIds S frzFuel)).isEmpty = true := by rw [flat_d]; rfl
  have hc : callV C (run C n) f (ds.map .d) S = some (.pan v, S, 1) := by
    unfold callV
    simp only [hs, Bool.false_eq_true, if_false, hfz, hn', hid, if_true]
  exact ⟨n, by simp only [panO, hw, ha, Bool.false_eq_true, if_false, hop, hc]⟩
theorem wpN_read {K : List (Nat × Nat) → Nat → List Nat → V → Store → Prop} {cs : List (Nat × Nat)} {i : Nat} {is : List Nat} {T : List V} {S S' : Store} {o : Oper} {v : V} {c : Nat} (ho : ops[i]? = some o) (he : effC C (run C 0) ops (base + i) o T S = some (v, S', c)) (hc : c ≤ 2) (hk : WpN C ops base K (cs ++ [(i, c)]) is (putT T o.dst v) S') : WpN C ops base K cs (i :: is) T S :=
  ⟨o, ho, .inr ⟨0, v, S', c, he, hc, hk⟩⟩
theorem wpN_call {K : List (Nat × Nat) → Nat → List Nat → V → Store → Prop} {cs : List (Nat × Nat)} {i : Nat} {is : List Nat} {T : List V} {S : Store} {o : Oper} {f : FuncId} {ds : List D} {v : V} (ho : ops[i]? = some o) (hw : wantedT ops T o = some true) (ha : addsK o = false) (hop : opV C.P S T o = some (.enter f (ds.map .d))) (hs : C.shared f = false) (he : Ev C f ds (.ret v)) (hk : WpN C ops base K (cs ++ [(i, 1)]) is (putT T o.dst v) S) : WpN C ops base K cs (i :: is) T S := by
  obtain ⟨n, hn⟩ := eff_call (id := base + i) hw ha hop hs he
  exact ⟨o, ho, .inr ⟨n, v, S, 1, hn, by omega, hk⟩⟩
theorem wpN_pan {K : List (Nat × Nat) → Nat → List Nat → V → Store → Prop} {cs : List (Nat × Nat)} {i : Nat} {is : List Nat} {T : List V} {S : Store} {o : Oper} {f : FuncId} {ds : List D} {v : V} (ho : ops[i]? = some o) (hw : wantedT ops T o = some true) (ha : addsK o = false) (hop : opV C.P S T o = some (.enter f (ds.map .d))) (hs : C.shared f = false) (he : Ev C f ds (.pan v)) (hk : K cs i is v S) : WpN C ops base K cs (i :: is) T S := by
  obtain ⟨n, hn⟩ := pan_call hw ha hop hs he
  exact ⟨o, ho, .inl ⟨n, v, S, hn, hk⟩⟩
/-- A call by the store. -/
theorem wr_callS {dst : Option Tmp} {l : List Oper} {T : List V} {S : Store} {f : FuncId} {args : List V} {R : Out → Store → Prop} (hs : C.shared f = true) (he : EvS C f args S R) (hk : ∀ v S', R (.ret v) S' → WpL C ops l (putT T dst v) S' F Q) (hpan : ∀ v S', R (.pan v) S' → Q (.pan v) T S' F) : WpR C ops dst l T S F Q (some (.enter f args)) := by
  obtain ⟨n, out, S', hn, hR⟩ := he
  have hc : callV C (run C n) f args S = some (out, S', 3) := by
    unfold callV
    simp only [hs, if_true, hn, Option.map_some]
  refine ⟨n, out, S', 3, hc, ?_⟩
  cases out with
  | ret v => exact hk v S' hR
  | pan v => exact hpan v S' hR
/-- A function that calls what it is handed. -/
theorem evS_catch {f g : FuncId} {first caps : List V} {S : Store} {R R' : Out → Store → Prop} {pst : Out → Option V} (hc : C.catch_ f = some pst) (he : EvS C g (first ++ caps) S R) (hR : ∀ o S', R o S' → ∃ v, pst o = some v ∧ R' (.ret v) S') : EvS C f [.fn (.func g) first caps] S R' := by
  obtain ⟨n, o, S', hn, hr⟩ := he
  obtain ⟨v, hv, hr'⟩ := hR o S' hr
  exact ⟨n + 1, .ret v, S', by simp only [run, hc, hn, hv], hr'⟩
/-- The end of a function that is called by the store. -/
def RQ (P : Program) (rs : Array ResultVar) (R : Out → Store → Prop) : Post := fun x T S F => F = [] ∧ match x with | .norm => ∃ v, resultsV P rs T S = some v ∧ R (.ret v) S | .ret => ∃ v, resultsV P rs T S = some v ∧ R (.ret v) S | .pan v => R (.pan v) S | .exit _ => False
theorem evS_of {f : FuncId} {c : Code} {n : Nat} {rs : Array ResultVar} {args : List V} {S : Store} {R : Out → Store → Prop} (hc : C.catch_ f = none) (hb : bodyOf C.P f = some ⟨c, n, rs⟩) (h : Wp C c (startT n args) S [] (RQ C.P rs R)) : EvS C f args S R := evS_of_wp hc hb h
def mfS (fn : Fn) (S : Store) (xs ys : List V) : Option Rs := if xs.all V.one && ys.all V.one then some (.val (.fn fn xs ys) S 0) else none
theorem wl_makeFunc {dst : Option Tmp} {ty : TypeId} {pos : String} {after : Array Edge} {l : List Oper} {T : List V} {S : Store} {fn : Fn} {first caps : Array Operand} : WpL C ops (⟨dst, .makeFunc fn first caps, ty, pos, after, none⟩ :: l) T S F Q = WpR C ops dst l T S F Q (mfS fn S (first.toList.map (evalO T)) (caps.toList.map (evalO T))) := by
  rw [wl_op rfl]; rfl
theorem mfS_one {fn : Fn} {S : Store} {xs ys : List V} (h : (xs.all V.one && ys.all V.one) = true) : mfS fn S xs ys = some (.val (.fn fn xs ys) S 0) := if_pos h
end
theorem ad_alloc {P : Program} {T : List V} {dst : Option Tmp} {ty : TypeId} {pos : String} {after : Array Edge} {g : Option (Nat × Bool)} {e : TypeId} {z : V} (hz : zeroV P e = some z) (hf : fitsT P e z = true) : addO P T ⟨dst, .alloc e, ty, pos, after, g⟩ = some (.row [z] e, fun id => .ref id 0 0) := by
  simp only [addO, hz, hf, if_true]
end Go.Vm
end
/-! The program's model: what a path tells; model.Resolve. -/
section
set_option linter.unusedVariables false
set_option linter.unusedSimpArgs false
set_option maxRecDepth 10000
set_option maxHeartbeats 4000000
namespace Go.Proofs.Ytghllhghboaagaa
open Go.Vm
theorem call_go1R {ops : Array Oper} {dst : Option Tmp} {k : List Oper} {T : List V} {S : Store} {F : Dfs} {Q : Post} {t : List Node} {ps : List (List UInt8)} {k0 : Nat} (hT : Told t) (hS : Small k0 t) (hk0 : k0 < 300000) (h : (goN t ps 1).2 = 0) (hl : ps.length < 1000000) :
    WpR cfg ops dst k T S F Q (some (.enter 99 [.d (stD t), .d (.sl (ps.map .str))])) = WpL cfg ops k (putT T dst (.d (encNode (getN t (goN t ps 1).1)))) S F Q := by
  have := go1_ok t hT k0 hk0 hS ps hl
  rw [show endD t (goN t ps 1) = .ret (.d (encNode (getN t (goN t ps 1).1))) from if_pos h] at this
  exact wr_call_d (ds := [stD t, .sl (ps.map .str)]) rfl this
theorem call_go1P {ops : Array Oper} {dst : Option Tmp} {k : List Oper} {T : List V} {S : Store} {F : Dfs} {Q : Post} {t : List Node} {ps : List (List UInt8)} {k0 : Nat} (hT : Told t) (hS : Small k0 t) (hk0 : k0 < 300000) (h : ¬ (goN t ps 1).2 = 0) (hl : ps.length < 1000000) :
    WpR cfg ops dst k T S F Q (some (.enter 99 [.d (stD t), .d (.sl (ps.map .str))])) = Q (.pan (.d (.iface 41 (.int .i64 (goN t ps 1).2)))) T S F := by
  have := go1_ok t hT k0 hk0 hS ps hl
  rw [show endD t (goN t ps 1) = panD (goN t ps 1).2 from if_neg h] at this
  exact wr_pan_d (ds := [stD t, .sl (ps.map .str)]) rfl this
theorem node_ok (t : List Node) (hT : Told t) (k0 : Nat) (hk0 : k0 < 300000) (hS : Small k0 t) (s : List UInt8) (hl : s.length < 900000) : Ev cfg 60 [stD t, .str s] (endD t (resolveN t s)) := by
  have hn := splitN_num s
  have hn' : (splitN s).1.length < 1000000 := by omega
  unfold endD
  generalize hr : resolveN t s = r
  unfold resolveN at hr
  by_cases h : (splitN s).2 = 0
  · rw [if_neg (by simp [h])] at hr
    subst hr
    by_cases h2 : (goN t (splitN s).1 1).2 = 0
    · rw [if_pos h2]
      refine ev_of rfl rfl body60 ?_
      show Wp cfg (Try.f60.body.getD .skip) ((.d (stD t)) :: (.d (.str s)) :: (.tup []) :: (.tup []) :: (.tup []) :: (.tup []) :: (.tup []) :: (.tup []) :: (.tup []) :: (.tup []) :: (.tup []) :: (.tup []) :: (.tup []) :: (.tup []) :: (.tup []) :: (.tup []) :: (.tup []) :: []) [] [] _
      conv => arg 2; whnf
      simp (maxSteps := 1000000) (disch := first | assumption | omega | rfl) only [↓vmp, vme, vmb, ty, hP, dec_t, dec_f, wrap64, List.length_map, Int.toNat_natCast, Nat.reduceAdd, List.cons_append, List.nil_append, Option.map_some, Option.map_none, strOf_mk, sb_eql, sb_neq, vmg, ↓vgd, ↓vst, ↓vix, call_split2, call_give0 h, call_go1R hT hS hk0 h2]
      exact retQ_cell rfl (v := .d (encNode (getN t (goN t (splitN s).1 1).1))) (by kernel_rfl) rfl rfl
    · rw [if_neg h2]
      refine ev_of_pan rfl rfl body60 ?_
      show Wp cfg (Try.f60.body.getD .skip) ((.d (stD t)) :: (.d (.str s)) :: (.tup []) :: (.tup []) :: (.tup []) :: (.tup []) :: (.tup []) :: (.tup []) :: (.tup []) :: (.tup []) :: (.tup []) :: (.tup []) :: (.tup []) :: (.tup []) :: (.tup []) :: (.tup []) :: (.tup []) :: []) [] [] _
      conv => arg 2; whnf
      simp (maxSteps := 1000000) (disch := first | assumption | omega | rfl) only [↓vmp, vme, vmb, ty, hP, dec_t, dec_f, wrap64, List.length_map, Int.toNat_natCast, Nat.reduceAdd, List.cons_append, List.nil_append, Option.map_some, Option.map_none, strOf_mk, sb_eql, sb_neq, vmg, ↓vgd, ↓vst, ↓vix, call_split2, call_give0 h, call_go1P hT hS hk0 h2]
      exact ⟨_, rfl, rfl, rfl⟩
  · rw [if_pos h] at hr
    subst hr
    rw [if_neg h]
    refine ev_of_pan rfl rfl body60 ?_
    show Wp cfg (Try.f60.body.getD .skip) ((.d (stD t)) :: (.d (.str s)) :: (.tup []) :: (.tup []) :: (.tup []) :: (.tup []) :: (.tup []) :: (.tup []) :: (.tup []) :: (.tup []) :: (.tup []) :: (.tup []) :: (.tup []) :: (.tup []) :: (.tup []) :: (.tup []) :: (.tup []) :: []) [] [] _
    conv => arg 2; whnf
    simp (maxSteps := 1000000) (disch := first | assumption | omega | rfl) only [↓vmp, vme, vmb, ty, hP, dec_t, dec_f, wrap64, List.length_map, Int.toNat_natCast, Nat.reduceAdd, List.cons_append, List.nil_append, Option.map_some, Option.map_none, strOf_mk, sb_eql, sb_neq, vmg, ↓vgd, ↓vst, ↓vix, call_split2, call_giveE h]
    exact ⟨_, rfl, rfl, rfl⟩
def placeD (t : List Node) (q : Int × List UInt8 × Int) : Out := if q.2.2 = 0 then .ret (.tup [.d (encNode (getN t q.1)), .d (.str q.2.1)]) else panD q.2.2
theorem place_ok (t : List Node) (hT : Told t) (k0 : Nat) (hk0 : k0 < 300000) (hS : Small k0 t) (s : List UInt8) (hl : s.length < 900000) : Ev cfg 64 [stD t, .str s] (placeD t (whereN t s)) := by
  have hn := splitN_num s
  unfold placeD
  generalize hr : whereN t s = r
  unfold whereN at hr
  have hu : upN s = upN s := rfl
  conv at hu => rhs; unfold upN
  by_cases h : (splitN s).2 = 0
  · rw [if_neg (by simp [h])] at hr hu
    by_cases h0 : (splitN s).1.length = 0
    · rw [if_pos h0] at hr hu
      subst hr
      rw [if_neg (by simp)]
      have h15 : (upN s).2.2 ≠ 0 := by rw [hu]; simp
      have e15 : (upN s).2.2 = 15 := by rw [hu]
      refine ev_of_pan rfl rfl body64 ?_
      show Wp cfg (Try.f64.body.getD .skip) ((.d (stD t)) :: (.d (.str s)) :: (.tup []) :: (.tup []) :: (.tup []) :: (.tup []) :: (.tup []) :: (.tup []) :: (.tup []) :: (.tup []) :: (.tup []) :: (.tup []) :: (.tup []) :: (.tup []) :: (.tup []) :: (.tup []) :: (.tup []) :: (.tup []) :: (.tup []) :: (.tup []) :: (.tup []) :: (.tup []) :: (.tup []) :: (.tup []) :: (.tup []) :: (.tup []) :: (.tup []) :: []) [] [] _
      conv => arg 2; whnf
      simp (maxSteps := 1000000) (disch := first | assumption | omega | rfl) only [↓vmp, vme, vmb, ty, hP, dec_t, dec_f, wrap64, List.length_map, Int.toNat_natCast, Nat.reduceAdd, List.cons_append, List.nil_append, Option.map_some, Option.map_none, strOf_mk, sb_eql, sb_neq, vmg, ↓vgd, ↓vst, ↓vix, call_up, call_giveE h15]
      rw [e15]
      exact ⟨_, rfl, rfl, rfl⟩
    · rw [if_neg h0] at hr hu
      have e0 : (upN s).2.2 = 0 := by rw [hu]
      have e1 : (upN s).1 = (splitN s).1.take ((splitN s).1.length - 1) := by rw [hu]
      have e2 : (upN s).2.1 = (splitN s).1.getD ((splitN s).1.length - 1) [] := by rw [hu]
      rw [← e1, ← e2] at hr
      have hul : (upN s).1.length < 1000000 := by rw [e1, List.length_take]; omega
      by_cases h2 : (goN t (upN s).1 1).2 = 0
      · rw [if_neg (by simp [h2])] at hr
        by_cases h3 : (getN t (goN t (upN s).1 1).1).kind = 2
        · rw [if_neg (by simp [h3])] at hr
          subst hr
          rw [if_pos rfl]
          refine ev_of rfl rfl body64 ?_
          show Wp cfg (Try.f64.body.getD .skip) ((.d (stD t)) :: (.d (.str s)) :: (.tup []) :: (.tup []) :: (.tup []) :: (.tup []) :: (.tup []) :: (.tup []) :: (.tup []) :: (.tup []) :: (.tup []) :: (.tup []) :: (.tup []) :: (.tup []) :: (.tup []) :: (.tup []) :: (.tup []) :: (.tup []) :: (.tup []) :: (.tup []) :: (.tup []) :: (.tup []) :: (.tup []) :: (.tup []) :: (.tup []) :: (.tup []) :: (.tup []) :: []) [] [] _
          conv => arg 2; whnf
          simp (maxSteps := 1000000) (disch := first | assumption | omega | rfl) only [↓vmp, vme, vmb, ty, hP, dec_t, dec_f, wrap64, List.length_map, Int.toNat_natCast, Nat.reduceAdd, List.cons_append, List.nil_append, Option.map_some, Option.map_none, strOf_mk, sb_eql, sb_neq, vmg, ↓vgd, ↓vst, ↓vix, call_up, call_give0 e0, call_go1R hT hS hk0 h2, call_needF]
          exact retQ_ct rfl rfl (x := .d (encNode (getN t (goN t (upN s).1 1).1))) (by kernel_rfl) rfl rfl rfl rfl
        · rw [if_pos h3] at hr
          subst hr
          rw [if_neg (by simp)]
          have h6 : (6 : Int) ≠ 0 := by omega
          refine ev_of_pan rfl rfl body64 ?_
          show Wp cfg (Try.f64.body.getD .skip) ((.d (stD t)) :: (.d (.str s)) :: (.tup []) :: (.tup []) :: (.tup []) :: (.tup []) :: (.tup []) :: (.tup []) :: (.tup []) :: (.tup []) :: (.tup []) :: (.tup []) :: (.tup []) :: (.tup []) :: (.tup []) :: (.tup []) :: (.tup []) :: (.tup []) :: (.tup []) :: (.tup []) :: (.tup []) :: (.tup []) :: (.tup []) :: (.tup []) :: (.tup []) :: (.tup []) :: (.tup []) :: []) [] [] _
          conv => arg 2; whnf
          simp (maxSteps := 1000000) (disch := first | assumption | omega | rfl) only [↓vmp, vme, vmb, ty, hP, dec_t, dec_f, wrap64, List.length_map, Int.toNat_natCast, Nat.reduceAdd, List.cons_append, List.nil_append, Option.map_some, Option.map_none, strOf_mk, sb_eql, sb_neq, vmg, ↓vgd, ↓vst, ↓vix, call_up, call_give0 e0, call_go1R hT hS hk0 h2, call_needT h6]
          exact ⟨_, rfl, rfl, rfl⟩
      · rw [if_pos h2] at hr
        subst hr
        rw [if_neg h2]
        refine ev_of_pan rfl rfl body64 ?_
        show Wp cfg (Try.f64.body.getD .skip) ((.d (stD t)) :: (.d (.str s)) :: (.tup []) :: (.tup []) :: (.tup []) :: (.tup []) :: (.tup []) :: (.tup []) :: (.tup []) :: (.tup []) :: (.tup []) :: (.tup []) :: (.tup []) :: (.tup []) :: (.tup []) :: (.tup []) :: (.tup []) :: (.tup []) :: (.tup []) :: (.tup []) :: (.tup []) :: (.tup []) :: (.tup []) :: (.tup []) :: (.tup []) :: (.tup []) :: (.tup []) :: []) [] [] _
        conv => arg 2; whnf
        simp (maxSteps := 1000000) (disch := first | assumption | omega | rfl) only [↓vmp, vme, vmb, ty, hP, dec_t, dec_f, wrap64, List.length_map, Int.toNat_natCast, Nat.reduceAdd, List.cons_append, List.nil_append, Option.map_some, Option.map_none, strOf_mk, sb_eql, sb_neq, vmg, ↓vgd, ↓vst, ↓vix, call_up, call_give0 e0, call_go1P hT hS hk0 h2]
        exact ⟨_, rfl, rfl, rfl⟩
  · rw [if_pos h] at hr hu
    subst hr
    rw [if_neg h]
    have he : (upN s).2.2 ≠ 0 := by rw [hu]; exact h
    have e15 : (upN s).2.2 = (splitN s).2 := by rw [hu]
    refine ev_of_pan rfl rfl body64 ?_
    show Wp cfg (Try.f64.body.getD .skip) ((.d (stD t)) :: (.d (.str s)) :: (.tup []) :: (.tup []) :: (.tup []) :: (.tup []) :: (.tup []) :: (.tup []) :: (.tup []) :: (.tup []) :: (.tup []) :: (.tup []) :: (.tup []) :: (.tup []) :: (.tup []) :: (.tup []) :: (.tup []) :: (.tup []) :: (.tup []) :: (.tup []) :: (.tup []) :: (.tup []) :: (.tup []) :: (.tup []) :: (.tup []) :: (.tup []) :: (.tup []) :: []) [] [] _
    conv => arg 2; whnf
    simp (maxSteps := 1000000) (disch := first | assumption | omega | rfl) only [↓vmp, vme, vmb, ty, hP, dec_t, dec_f, wrap64, List.length_map, Int.toNat_natCast, Nat.reduceAdd, List.cons_append, List.nil_append, Option.map_some, Option.map_none, strOf_mk, sb_eql, sb_neq, vmg, ↓vgd, ↓vst, ↓vix, call_up, call_giveE he]
    rw [e15]
    exact ⟨_, rfl, rfl, rfl⟩
end Go.Proofs.Ytghllhghboaagaa
end
/-! The program's model: model.Resolve, model.Where. -/
section
set_option linter.unusedVariables false
set_option linter.unusedSimpArgs false
set_option maxRecDepth 10000
set_option maxHeartbeats 4000000
namespace Go.Proofs.Ytghllhghboaagaa
open Go.Vm
theorem lrS25 {a : List D} : loadR Try.prog 25 0 (some (.d (.sl a))) = some (.d (.sl a)) := by kernel_rfl
theorem lrS9 {a : List UInt8} : loadR Try.prog 9 0 (some (.d (.str a))) = some (.d (.str a)) := by kernel_rfl
theorem lrI3 {a : Int} : loadR Try.prog 3 0 (some (.d (.int .i64 a))) = some (.d (.int .i64 a)) := by kernel_rfl
theorem srI3 {a b : Int} : storeR Try.prog 3 0 (.d (.int .i64 a)) (.d (.int .i64 b)) = some (.d (.int .i64 a)) := by kernel_rfl
theorem srS9 {a b : List UInt8} : storeR Try.prog 9 0 (.d (.str a)) (.d (.str b)) = some (.d (.str a)) := by kernel_rfl
theorem zf3 : fitsT Try.prog 3 (.d (.int .i64 0)) = true := fitsT3 0
theorem z9 : zeroV Try.prog 9 = some (.d (.str [])) := by kernel_rfl
theorem zf9 : fitsT Try.prog 9 (.d (.str [])) = true := by kernel_rfl
theorem mfS_r3 {fn : Fn} {S : Store} {a b c d e f g h i : Nat} : mfS fn S [] [.ref a b c, .ref d e f, .ref g h i] = some (.val (.fn fn [] [.ref a b c, .ref d e f, .ref g h i]) S 0) := rfl
theorem bo42 : (bodyOf Try.prog 42).isSome = true := by kernel_rfl
theorem body59 : bodyOf Try.prog 59 = some ⟨Try.f59.body.getD .skip, 8, #[]⟩ := by
  unfold bodyOf
  rw [Try.func59]
  rfl
theorem body63 : bodyOf Try.prog 63 = some ⟨Try.f63.body.getD .skip, 16, #[]⟩ := by
  unfold bodyOf
  rw [Try.func63]
  rfl
abbrev stR (t : List Node) (s : List UInt8) (x : Int) : Store := [.row [.d (.sl (t.map encNode))] 25, .row [.d (.str s)] 9, .row [.d (.int .i64 x)] 3]
theorem dr_open {ops : Array Oper} {F : Dfs} {Q : Post} {K : List Nat → List (Nat × Nat) → List V → Store → Prop} {rd : List Nat} {cs : List (Nat × Nat)} {i : Nat} {dst : Option Tmp} {T : List V} {S : Store} {t : List Node} {k0 : Nat} (hS : Small k0 t) (hk0 : k0 < 300000) (hnd : (t.map (·.ino)).Nodup) :
    WpE cfg ops F Q K rd cs i dst T S (some (.enter 40 [.d (.sl (t.map encNode))])) = K (i :: rd) (cs ++ [(i, 1)]) (putT T dst (.d (stD t))) S := we_call_d (ds := [.sl (t.map encNode)]) rfl (open_ok t k0 hk0 hS hnd)
theorem dr_node {ops : Array Oper} {F : Dfs} {Q : Post} {K : List Nat → List (Nat × Nat) → List V → Store → Prop} {rd : List Nat} {cs : List (Nat × Nat)} {i : Nat} {dst : Option Tmp} {T : List V} {S : Store} {t : List Node} {k0 : Nat} {s : List UInt8} (hT : Told t) (hS : Small k0 t) (hk0 : k0 < 300000) (hl : s.length < 900000) (h : (resolveN t s).2 = 0) :
    WpE cfg ops F Q K rd cs i dst T S (some (.enter 60 [.d (stD t), .d (.str s)])) = K (i :: rd) (cs ++ [(i, 1)]) (putT T dst (.d (encNode (getN t (resolveN t s).1)))) S := by
  have := node_ok t hT k0 hk0 hS s hl
  rw [show endD t (resolveN t s) = .ret (.d (encNode (getN t (resolveN t s).1))) from if_pos h] at this
  exact we_call_d (ds := [stD t, .str s]) rfl this
theorem dr_place {ops : Array Oper} {F : Dfs} {Q : Post} {K : List Nat → List (Nat × Nat) → List V → Store → Prop} {rd : List Nat} {cs : List (Nat × Nat)} {i : Nat} {dst : Option Tmp} {T : List V} {S : Store} {t : List Node} {k0 : Nat} {s : List UInt8} (hT : Told t) (hS : Small k0 t) (hk0 : k0 < 300000) (hl : s.length < 900000) (h : (whereN t s).2.2 = 0) :
    WpE cfg ops F Q K rd cs i dst T S (some (.enter 64 [.d (stD t), .d (.str s)])) = K (i :: rd) (cs ++ [(i, 1)]) (putT T dst (.tup [.d (encNode (getN t (whereN t s).1)), .d (.str (whereN t s).2.1)])) S := by
  have := place_ok t hT k0 hk0 hS s hl
  rw [show placeD t (whereN t s) = .ret (.tup [.d (encNode (getN t (whereN t s).1)), .d (.str (whereN t s).2.1)]) from if_pos h] at this
  exact we_call_d (ds := [stD t, .str s]) rfl this
theorem res1_ok (t : List Node) (hT : Told t) (k0 : Nat) (hk0 : k0 < 300000) (hS : Small k0 t) (hnd : (t.map (·.ino)).Nodup) (s : List UInt8) (hl : s.length < 900000) (h : (resolveN t s).2 = 0) :
    EvS cfg 59 [.ref 0 0 0, .ref 1 0 0, .ref 2 0 0] (stR t s 0) (fun o S' => (∃ v, o = .ret v) ∧ S' = stR t s (getN t (resolveN t s).1).ino) := by
  refine evS_of rfl body59 ?_
  show Wp cfg (Try.f59.body.getD .skip) [.ref 0 0 0, .ref 1 0 0, .ref 2 0 0, .tup [], .tup [], .tup [], .tup [], .tup []] (stR t s 0) [] _
  conv => arg 2; whnf
  refine wk_draw (is := [0, 2, 1, 3, 4, 5]) (h := 0) (by kernel_rfl) (by kernel_rfl) ?_
  simp (maxSteps := 1000000) (disch := first | assumption | omega | rfl) only [List.replicate_zero, eq_self, vmd, vmk, vmo, vmg, vme, vmb, ty, hP, dec_t, dec_f, wrap64, List.length_map, Int.toNat_natCast, Nat.reduceAdd, ↓vgd, ↓vst, ↓vix, List.append_nil, lrS25, lrS9, srI3, dr_open hS hk0 hnd, dr_node hT hS hk0 hl h]
  refine ⟨fun _ => by kernel_rfl, ?_⟩
  refine ⟨by kernel_rfl, ?_⟩
  exact ⟨rfl, _, rfl, ⟨_, rfl⟩, rfl⟩
theorem res1_pan (t : List Node) (hT : Told t) (k0 : Nat) (hk0 : k0 < 300000) (hS : Small k0 t) (hnd : (t.map (·.ino)).Nodup) (s : List UInt8) (hl : s.length < 900000) (h : ¬ (resolveN t s).2 = 0) :
    EvS cfg 59 [.ref 0 0 0, .ref 1 0 0, .ref 2 0 0] (stR t s 0) (fun o S' => o = .pan (.d (.iface 41 (.int .i64 (resolveN t s).2))) ∧ S' = stR t s 0) := by
  have hnode := node_ok t hT k0 hk0 hS s hl
  rw [show endD t (resolveN t s) = panD (resolveN t s).2 from if_neg h] at hnode
  refine evS_of rfl body59 ?_
  show Wp cfg (Try.f59.body.getD .skip) [.ref 0 0 0, .ref 1 0 0, .ref 2 0 0, .tup [], .tup [], .tup [], .tup [], .tup []] (stR t s 0) [] _
  conv => arg 2; whnf
  refine wk_draw_pan (is := [0, 2, 1, 3, 4, 5]) (h := 0) (by kernel_rfl) (by kernel_rfl) ?_
  refine wpN_read rfl (v := .d (.sl (t.map encNode))) (S' := stR t s 0 ++ List.replicate 0 .hole) (c := 1) (by kernel_rfl) (by omega) ?_
  refine wpN_read rfl (v := .d (.str s)) (S' := stR t s 0 ++ List.replicate 0 .hole) (c := 1) (by kernel_rfl) (by omega) ?_
  refine wpN_call rfl (by kernel_rfl) rfl (ds := [.sl (t.map encNode)]) (f := 40) (by kernel_rfl) rfl (open_ok t k0 hk0 hS hnd) ?_
  refine wpN_pan rfl (by kernel_rfl) rfl (ds := [stD t, .str s]) (f := 60) (by kernel_rfl) rfl hnode ?_
  exact ⟨by kernel_rfl, rfl, rfl, rfl⟩
theorem resolveN_err {t : List Node} {s : List UInt8} (h : ¬ (resolveN t s).2 = 0) : (resolveN t s).1 = 0 := by
  have go : ∀ (ps : List (List UInt8)) (d : Int), ¬ (goN t ps d).2 = 0 → (goN t ps d).1 = 0 := fun ps => by
    induction ps with
    | nil => intro d h; exact absurd rfl h
    | cons p r ih =>
      intro d h
      unfold goN at h ⊢
      split
      · rfl
      · split
        · rfl
        · rename_i h1 h2
          rw [if_neg h1, if_neg h2] at h
          exact ih _ h
  unfold resolveN at h ⊢
  split
  · rfl
  · rename_i h1
    rw [if_neg h1] at h
    exact go _ _ h
theorem resolveN_has {t : List Node} (hT : Told t) {s : List UInt8} (h : (resolveN t s).2 = 0) : (getN t (resolveN t s).1).ino = (resolveN t s).1 := by
  have ino : ∀ d, hasN t d = true → (getN t d).ino = d := fun d hd => by
    unfold hasN at hd
    unfold getN
    cases hf : t.find? (fun n => decide (n.ino = d)) with
    | none => rw [hf] at hd; cases hd
    | some n => have := List.find?_some hf; simpa using this
  have go : ∀ (ps : List (List UInt8)) (d : Int), hasN t d = true → (goN t ps d).2 = 0 → hasN t (goN t ps d).1 = true := fun ps => by
    induction ps with
    | nil => intro d hd _; exact hd
    | cons p r ih =>
      intro d hd h
      unfold goN at h ⊢
      split at h
      · simp at h
      · split at h
        · simp at h
        · rename_i h1 h2
          rw [if_neg h1, if_neg h2]
          rcases fidx_spec (s := p) (l := (getN t d).names) (i := 0) with ⟨_, h3⟩ | ⟨j, hj, _, h3⟩
          · rw [h3] at h2; exact absurd (by omega) h2
          · rw [h3] at h ⊢
            exact ih _ (hT.has d _ (List.getElem_mem hj)) h
  unfold resolveN at h ⊢
  split at h
  · rename_i h1; exact absurd h h1
  · rename_i h1
    rw [if_neg h1]
    exact ino _ (go _ _ hT.root h)
theorem mresolve_ok (t : List Node) (hT : Told t) (k0 : Nat) (hk0 : k0 < 300000) (hS : Small k0 t) (hnd : (t.map (·.ino)).Nodup) (s : List UInt8) (hl : s.length < 900000) : Ev cfg 27 [.sl (t.map encNode), .str s] (.ret (.tup [.d (.int .i64 (resolveN t s).1), .d (.int .i64 (resolveN t s).2)])) := by
  refine ev_of rfl rfl body27 ?_
  show Wp cfg (Try.f27.body.getD .skip) ((.d (.sl (t.map encNode))) :: (.d (.str s)) :: (.tup []) :: (.tup []) :: (.tup []) :: (.tup []) :: (.tup []) :: (.tup []) :: (.tup []) :: (.tup []) :: []) [] [] _
  conv => arg 2; whnf
  simp (maxSteps := 1000000) (disch := first | assumption | omega | rfl) only [↓vmp, vme, vmb, ty, hP, dec_t, dec_f, wrap64, List.length_map, Int.toNat_natCast, Nat.reduceAdd, List.cons_append, List.nil_append, Option.map_some, Option.map_none, strOf_mk, sb_eql, sb_neq, vmg, ↓vgd, ↓vst, ↓vix, z3, zf3, ↓wl_makeFunc, mfS_r3, bo42]
  by_cases h : (resolveN t s).2 = 0
  · refine wr_callS (R := fun o S' => o = .ret (.d (.int .i64 0)) ∧ S' = stR t s (getN t (resolveN t s).1).ino) rfl (evS_catch (f := 42) (g := 59) (first := []) (caps := [.ref 0 0 0, .ref 1 0 0, .ref 2 0 0]) (pst := caughtV) rfl (res1_ok t hT k0 hk0 hS hnd s hl h) ?_) ?_ ?_
    · rintro o S' ⟨⟨v, rfl⟩, rfl⟩
      exact ⟨_, rfl, rfl, rfl⟩
    · rintro v S' ⟨hv, rfl⟩
      cases hv
      simp (maxSteps := 1000000) (disch := first | assumption | omega | rfl) only [↓vmp, vme, vmb, ty, hP, dec_t, dec_f, wrap64, List.length_map, Int.toNat_natCast, Nat.reduceAdd, List.cons_append, List.nil_append, Option.map_some, Option.map_none, strOf_mk, sb_eql, sb_neq, vmg, ↓vgd, ↓vst, ↓vix, lrI3, srI3]
      rw [resolveN_has hT h, h]
      exact retQ_ct rfl rfl (x := .d (.int .i64 (resolveN t s).1)) (by kernel_rfl) rfl rfl rfl rfl
    · rintro v S' ⟨hv, _⟩
      cases hv
  · refine wr_callS (R := fun o S' => o = .ret (.d (.int .i64 (resolveN t s).2)) ∧ S' = stR t s 0) rfl (evS_catch (f := 42) (g := 59) (first := []) (caps := [.ref 0 0 0, .ref 1 0 0, .ref 2 0 0]) (pst := caughtV) rfl (res1_pan t hT k0 hk0 hS hnd s hl h) ?_) ?_ ?_
    · rintro o S' ⟨rfl, rfl⟩
      exact ⟨_, rfl, rfl, rfl⟩
    · rintro v S' ⟨hv, rfl⟩
      cases hv
      simp (maxSteps := 1000000) (disch := first | assumption | omega | rfl) only [↓vmp, vme, vmb, ty, hP, dec_t, dec_f, wrap64, List.length_map, Int.toNat_natCast, Nat.reduceAdd, List.cons_append, List.nil_append, Option.map_some, Option.map_none, strOf_mk, sb_eql, sb_neq, vmg, ↓vgd, ↓vst, ↓vix, lrI3, srI3]
      rw [resolveN_err h]
      exact retQ_ct rfl rfl (x := .d (.int .i64 0)) (by kernel_rfl) rfl rfl rfl rfl
    · rintro v S' ⟨hv, _⟩
      cases hv
end Go.Proofs.Ytghllhghboaagaa
end
/-! The program's model: model.Where. -/
section
set_option linter.unusedVariables false
set_option linter.unusedSimpArgs false
set_option maxRecDepth 10000
set_option maxHeartbeats 4000000
namespace Go.Proofs.Ytghllhghboaagaa
open Go.Vm
theorem mfS_r4 {fn : Fn} {S : Store} {a b c d e f g h i j k l : Nat} : mfS fn S [] [.ref a b c, .ref d e f, .ref g h i, .ref j k l] = some (.val (.fn fn [] [.ref a b c, .ref d e f, .ref g h i, .ref j k l]) S 0) := rfl
theorem ak_alloc {dst : Option Tmp} {ty : TypeId} {pos : String} {after : Array Edge} {g : Option (Nat × Bool)} {t : TypeId} : addsK ⟨dst, .alloc t, ty, pos, after, g⟩ = true := rfl
abbrev nd0 : V := .agg [.d (.int .i64 0), .d (.int .i64 0), .d (.int .i64 0), .d (.int .i64 0), .d (.int .i64 0), .ts [], .ts []]
theorem fz32 : fitsT Try.prog 32 nd0 = true := by kernel_rfl
abbrev stW (t : List Node) (s : List UInt8) (x : Int) (n : List UInt8) (e : Store) : Store := .row [.d (.sl (t.map encNode))] 25 :: .row [.d (.str s)] 9 :: .row [.d (.int .i64 x)] 3 :: .row [.d (.str n)] 9 :: e
/-- One step of a region that draws, with its watches. -/
theorem seqC_step {C : Cfg} {call : CallF} {ops : Array Oper} {b : List Nat} {base : Nat} {ws : List (Nat × List V × V)} {i : Nat} {r : List Nat} {T : List V} {S : Store} {o : Oper} {v : V} {S' : Store} {c : Nat} {T2 : List V} {S2 : Store} {cs : List (Nat × Nat)} (ho : ops[i]? = some o) (he : effC C call ops (base + i) o T S = some (v, S', c)) (hw : c ≤ 2 ∨ ws.all (watchOk C call ops b base i S') = true)
    (hr : seqC C call ops b base (if c = 1 then (i, T, v) :: ws else ws) r (putT T o.dst v) S' = some (T2, S2, cs)) : seqC C call ops b base ws (i :: r) T S = some (T2, S2, (i, c) :: cs) := by
  simp only [seqC, ho, he, hr]
  rw [if_neg]
  rintro ⟨h1, h2⟩
  rcases hw with h | h
  · omega
  · rw [h] at h2; cases h2
theorem wk_draw_seq {C : Cfg} {F : Dfs} {Q : Post} {id : Nat} {ops : Array Oper} {T : List V} {S : Store} {is : List Nat} {T' : List V} {S' : Store} {cs : List (Nat × Nat)} (ho : orderOf C.shared ops = is) (hh : holesN ops = 0) (hs : seqC C (run C 0) ops (befs ops) S.length [] is T S = some (T', S', cs)) (hd : drawOk ops cs = true) (hq : Q .norm T' S' F) : Wp C (.region id ops true) T S F Q := by
  subst ho
  exact ⟨1, .norm, T', S', F, by simp only [exec, hh, List.replicate_zero, List.append_nil, hs]; rw [if_pos hd], hq⟩
theorem sameLeaf_str (l : List UInt8) : sameLeaf (.str l) (.str l) = true := by simp [sameLeaf]
theorem getN_ino {t : List Node} {d : Int} (hd : hasN t d = true) : (getN t d).ino = d := by
  unfold hasN at hd
  unfold getN
  cases hf : t.find? (fun n => decide (n.ino = d)) with
  | none => rw [hf] at hd; cases hd
  | some n => have := List.find?_some hf; simpa using this
theorem goN_has {t : List Node} (hT : Told t) : ∀ (ps : List (List UInt8)) (d : Int), hasN t d = true → (goN t ps d).2 = 0 → hasN t (goN t ps d).1 = true := fun ps => by
  induction ps with
  | nil => intro d hd _; exact hd
  | cons p r ih =>
    intro d hd h
    unfold goN at h ⊢
    split at h
    · simp at h
    · split at h
      · simp at h
      · rename_i h1 h2
        rw [if_neg h1, if_neg h2]
        rcases fidx_spec (s := p) (l := (getN t d).names) (i := 0) with ⟨_, h3⟩ | ⟨j, hj, _, h3⟩
        · rw [h3] at h2; exact absurd (by omega) h2
        · rw [h3] at h ⊢
          exact ih _ (hT.has d _ (List.getElem_mem hj)) h
theorem whereN_err {t : List Node} {s : List UInt8} (h : ¬ (whereN t s).2.2 = 0) : (whereN t s).1 = 0 ∧ (whereN t s).2.1 = [] := by
  unfold whereN at h ⊢
  split
  · exact ⟨rfl, rfl⟩
  · split
    · exact ⟨rfl, rfl⟩
    · rename_i h1 h2
      rw [if_neg h1, if_neg h2] at h
      split
      · exact ⟨rfl, rfl⟩
      · split
        · exact ⟨rfl, rfl⟩
        · rename_i h3 h4
          rw [if_neg h3, if_neg h4] at h
          exact absurd rfl h
theorem whereN_has {t : List Node} (hT : Told t) {s : List UInt8} (h : (whereN t s).2.2 = 0) : (getN t (whereN t s).1).ino = (whereN t s).1 := by
  unfold whereN at h ⊢
  split at h
  · rename_i h1; exact absurd h h1
  · split at h
    · simp at h
    · rename_i h1 h2
      rw [if_neg h1, if_neg h2]
      split at h
      · rename_i h3; exact absurd h h3
      · split at h
        · simp at h
        · rename_i h3 h4
          rw [if_neg h3, if_neg h4]
          exact getN_ino (goN_has hT _ _ hT.root (Classical.not_not.mp h3))
theorem whe1_ok (t : List Node) (hT : Told t) (k0 : Nat) (hk0 : k0 < 300000) (hS : Small k0 t) (hnd : (t.map (·.ino)).Nodup) (s : List UInt8) (hl : s.length < 900000) (h : (whereN t s).2.2 = 0) :
    EvS cfg 63 [.ref 0 0 0, .ref 1 0 0, .ref 2 0 0, .ref 3 0 0] (stW t s 0 [] []) (fun o S' => (∃ v, o = .ret v) ∧ ∃ e, S' = stW t s (getN t (whereN t s).1).ino (whereN t s).2.1 e) := by
  refine evS_of rfl body63 ?_
  show Wp cfg (Try.f63.body.getD .skip) ((.ref 0 0 0) :: (.ref 1 0 0) :: (.ref 2 0 0) :: (.ref 3 0 0) :: (.tup []) :: (.tup []) :: (.tup []) :: (.tup []) :: (.tup []) :: (.tup []) :: (.tup []) :: (.tup []) :: (.tup []) :: (.tup []) :: (.tup []) :: (.tup []) :: []) (stW t s 0 [] []) [] _
  conv => arg 2; whnf
  rw [wk_of]
  simp (maxSteps := 1000000) (disch := first | assumption | omega | rfl) only [↓vmp, vme, vmb, ty, hP, dec_t, dec_f, wrap64, List.length_map, Int.toNat_natCast, Nat.reduceAdd, List.cons_append, List.nil_append, Option.map_some, Option.map_none, strOf_mk, sb_eql, sb_neq, vmg]
  refine wk_draw (is := [0, 2, 1, 3, 4, 5, 6, 7, 8, 9]) (h := 10) (by kernel_rfl) (by kernel_rfl) ?_
  simp (maxSteps := 1000000) (disch := first | assumption | omega | rfl) only [List.replicate_zero, eq_self, vmd, vmk, vmo, vmg, vme, vmb, ty, hP, dec_t, dec_f, wrap64, List.length_map, Int.toNat_natCast, Nat.reduceAdd, ↓vgd, ↓vst, ↓vix, lrS25, lrS9, srI3, srS9, dr_open hS hk0 hnd, dr_place hT hS hk0 hl h, vso, wa_some, ak_alloc, ad_alloc z32 fz32, true_and]
  refine ⟨fun _ => by kernel_rfl, ?_⟩
  refine ⟨by kernel_rfl, ?_⟩
  simp (maxSteps := 1000000) (disch := first | assumption | omega | rfl) only [↓vmp, vme, vmb, ty, hP, dec_t, dec_f, wrap64, List.length_map, Int.toNat_natCast, Nat.reduceAdd, List.cons_append, List.nil_append, Option.map_some, Option.map_none, strOf_mk, sb_eql, sb_neq, vmg, ↓vgd, ↓vst, ↓vix, lrI3, srI3, lrS9, srS9]
  exact ⟨rfl, _, rfl, ⟨_, rfl⟩, _, rfl⟩
theorem whe1_pan (t : List Node) (hT : Told t) (k0 : Nat) (hk0 : k0 < 300000) (hS : Small k0 t) (hnd : (t.map (·.ino)).Nodup) (s : List UInt8) (hl : s.length < 900000) (h : ¬ (whereN t s).2.2 = 0) :
    EvS cfg 63 [.ref 0 0 0, .ref 1 0 0, .ref 2 0 0, .ref 3 0 0] (stW t s 0 [] []) (fun o S' => o = .pan (.d (.iface 41 (.int .i64 (whereN t s).2.2))) ∧ ∃ e, S' = stW t s 0 [] e) := by
  have hnode := place_ok t hT k0 hk0 hS s hl
  rw [show placeD t (whereN t s) = panD (whereN t s).2.2 from if_neg h] at hnode
  refine evS_of rfl body63 ?_
  show Wp cfg (Try.f63.body.getD .skip) ((.ref 0 0 0) :: (.ref 1 0 0) :: (.ref 2 0 0) :: (.ref 3 0 0) :: (.tup []) :: (.tup []) :: (.tup []) :: (.tup []) :: (.tup []) :: (.tup []) :: (.tup []) :: (.tup []) :: (.tup []) :: (.tup []) :: (.tup []) :: (.tup []) :: []) (stW t s 0 [] []) [] _
  conv => arg 2; whnf
  rw [wk_of]
  simp (maxSteps := 1000000) (disch := first | assumption | omega | rfl) only [↓vmp, vme, vmb, ty, hP, dec_t, dec_f, wrap64, List.length_map, Int.toNat_natCast, Nat.reduceAdd, List.cons_append, List.nil_append, Option.map_some, Option.map_none, strOf_mk, sb_eql, sb_neq, vmg]
  refine wk_draw_pan (is := [0, 2, 1, 3, 4, 5, 6, 7, 8, 9]) (h := 10) (by kernel_rfl) (by kernel_rfl) ?_
  refine wpN_read rfl (v := .d (.sl (t.map encNode))) (S' := stW t s 0 [] [] ++ List.replicate 10 .hole) (c := 1) (by kernel_rfl) (by omega) ?_
  refine wpN_read rfl (v := .d (.str s)) (S' := stW t s 0 [] [] ++ List.replicate 10 .hole) (c := 1) (by kernel_rfl) (by omega) ?_
  refine wpN_call rfl (by kernel_rfl) rfl (ds := [.sl (t.map encNode)]) (f := 40) (by kernel_rfl) rfl (open_ok t k0 hk0 hS hnd) ?_
  refine wpN_pan rfl (by kernel_rfl) rfl (ds := [stD t, .str s]) (f := 64) (by kernel_rfl) rfl hnode ?_
  exact ⟨by kernel_rfl, rfl, rfl, _, rfl⟩
theorem mwhere_ok (t : List Node) (hT : Told t) (k0 : Nat) (hk0 : k0 < 300000) (hS : Small k0 t) (hnd : (t.map (·.ino)).Nodup) (s : List UInt8) (hl : s.length < 900000) : Ev cfg 29 [.sl (t.map encNode), .str s] (.ret (.tup [.d (.int .i64 (whereN t s).1), .d (.str (whereN t s).2.1), .d (.int .i64 (whereN t s).2.2)])) := by
  refine ev_of rfl rfl body29 ?_
  show Wp cfg (Try.f29.body.getD .skip) ((.d (.sl (t.map encNode))) :: (.d (.str s)) :: (.tup []) :: (.tup []) :: (.tup []) :: (.tup []) :: (.tup []) :: (.tup []) :: (.tup []) :: (.tup []) :: (.tup []) :: (.tup []) :: []) [] [] _
  conv => arg 2; whnf
  simp (maxSteps := 1000000) (disch := first | assumption | omega | rfl) only [↓vmp, vme, vmb, ty, hP, dec_t, dec_f, wrap64, List.length_map, Int.toNat_natCast, Nat.reduceAdd, List.cons_append, List.nil_append, Option.map_some, Option.map_none, strOf_mk, sb_eql, sb_neq, vmg, ↓vgd, ↓vst, ↓vix, z3, zf3, z9, zf9, ↓wl_makeFunc, mfS_r4, bo42]
  by_cases h : (whereN t s).2.2 = 0
  · refine wr_callS (R := fun o S' => o = .ret (.d (.int .i64 0)) ∧ ∃ e, S' = stW t s (getN t (whereN t s).1).ino (whereN t s).2.1 e) rfl (evS_catch (f := 42) (g := 63) (first := []) (caps := [.ref 0 0 0, .ref 1 0 0, .ref 2 0 0, .ref 3 0 0]) (pst := caughtV) rfl (whe1_ok t hT k0 hk0 hS hnd s hl h) ?_) ?_ ?_
    · rintro o S' ⟨⟨v, rfl⟩, e, rfl⟩
      exact ⟨_, rfl, rfl, _, rfl⟩
    · rintro v S' ⟨hv, e, rfl⟩
      cases hv
      simp (maxSteps := 1000000) (disch := first | assumption | omega | rfl) only [↓vmp, vme, vmb, ty, hP, dec_t, dec_f, wrap64, List.length_map, Int.toNat_natCast, Nat.reduceAdd, List.cons_append, List.nil_append, Option.map_some, Option.map_none, strOf_mk, sb_eql, sb_neq, vmg, ↓vgd, ↓vst, ↓vix]
      rw [whereN_has hT h, h]
      refine wk_draw_seq (is := [0, 1, 2, 3, 4, 5]) (by kernel_rfl) (by kernel_rfl) (seqC_step (S' := stW t s (whereN t s).1 (whereN t s).2.1 e) (c := 1) (v := .d (.int .i64 (whereN t s).1)) rfl (by kernel_rfl) (.inl (Nat.le_of_ble_eq_true rfl)) (seqC_step (S' := stW t s (whereN t s).1 (whereN t s).2.1 e) (c := 1) (v := .d (.str (whereN t s).2.1)) rfl (by kernel_rfl) (.inl (Nat.le_of_ble_eq_true rfl)) (seqC_step (S' := stW t s (whereN t s).1 (whereN t s).2.1 e) (c := 0) (v := .d (.int .i64 0)) rfl (by kernel_rfl) (.inl (Nat.le_of_ble_eq_true rfl)) (seqC_step (S' := stW t s (whereN t s).1 (whereN t s).2.1 e) (c := 3) (v := .tup []) rfl (by kernel_rfl) (.inr ?_) (seqC_step (S' := stW t s (whereN t s).1 (whereN t s).2.1 e) (c := 3) (v := .tup []) rfl (by kernel_rfl) (.inr (by kernel_rfl)) (seqC_step (S' := stW t s (whereN t s).1 (whereN t s).2.1 e) (c := 0) (v := .d (.int .i64 0)) rfl (by kernel_rfl) (.inl (Nat.le_of_ble_eq_true rfl)) rfl)))))) (by kernel_rfl) ?_
      · exact (show _ = (sameLeaf (.str (whereN t s).2.1) (.str (whereN t s).2.1) && (true && true)) by kernel_rfl).trans (by rw [sameLeaf_str]; rfl)
      simp (maxSteps := 1000000) (disch := first | assumption | omega | rfl) only [↓vmp, vme, vmb, ty, hP, dec_t, dec_f, wrap64, List.length_map, Int.toNat_natCast, Nat.reduceAdd, List.cons_append, List.nil_append, Option.map_some, Option.map_none, strOf_mk, sb_eql, sb_neq, vmg, ↓vgd, ↓vst, ↓vix]
      exact retQ_many (vs := [.d (.int .i64 (whereN t s).1), .d (.str (whereN t s).2.1), .d (.int .i64 0)]) (ds := [.int .i64 (whereN t s).1, .str (whereN t s).2.1, .int .i64 0]) (by kernel_rfl) rfl rfl
    · rintro v S' ⟨hv, _⟩
      cases hv
  · refine wr_callS (R := fun o S' => o = .ret (.d (.int .i64 (whereN t s).2.2)) ∧ ∃ e, S' = stW t s 0 [] e) rfl (evS_catch (f := 42) (g := 63) (first := []) (caps := [.ref 0 0 0, .ref 1 0 0, .ref 2 0 0, .ref 3 0 0]) (pst := caughtV) rfl (whe1_pan t hT k0 hk0 hS hnd s hl h) ?_) ?_ ?_
    · rintro o S' ⟨rfl, e, rfl⟩
      exact ⟨_, rfl, rfl, _, rfl⟩
    · rintro v S' ⟨hv, e, rfl⟩
      cases hv
      simp (maxSteps := 1000000) (disch := first | assumption | omega | rfl) only [↓vmp, vme, vmb, ty, hP, dec_t, dec_f, wrap64, List.length_map, Int.toNat_natCast, Nat.reduceAdd, List.cons_append, List.nil_append, Option.map_some, Option.map_none, strOf_mk, sb_eql, sb_neq, vmg, ↓vgd, ↓vst, ↓vix]
      refine wk_draw_seq (is := [0, 1, 2, 3, 4, 5]) (by kernel_rfl) (by kernel_rfl) (seqC_step (S' := stW t s 0 [] e) (c := 1) (v := .d (.int .i64 0)) rfl (by kernel_rfl) (.inl (Nat.le_of_ble_eq_true rfl)) (seqC_step (S' := stW t s 0 [] e) (c := 1) (v := .d (.str [])) rfl (by kernel_rfl) (.inl (Nat.le_of_ble_eq_true rfl)) (seqC_step (S' := stW t s 0 [] e) (c := 0) (v := .d (.int .i64 (whereN t s).2.2)) rfl (by kernel_rfl) (.inl (Nat.le_of_ble_eq_true rfl)) (seqC_step (S' := stW t s 0 [] e) (c := 3) (v := .tup []) rfl (by kernel_rfl) (.inr ?_) (seqC_step (S' := stW t s 0 [] e) (c := 3) (v := .tup []) rfl (by kernel_rfl) (.inr (by kernel_rfl)) (seqC_step (S' := stW t s 0 [] e) (c := 0) (v := .d (.int .i64 (whereN t s).2.2)) rfl (by kernel_rfl) (.inl (Nat.le_of_ble_eq_true rfl)) rfl)))))) (by kernel_rfl) ?_
      · exact (show _ = (sameLeaf (.str []) (.str []) && (true && true)) by kernel_rfl).trans (by rw [sameLeaf_str]; rfl)
      rw [(whereN_err h).1, (whereN_err h).2]
      simp (maxSteps := 1000000) (disch := first | assumption | omega | rfl) only [↓vmp, vme, vmb, ty, hP, dec_t, dec_f, wrap64, List.length_map, Int.toNat_natCast, Nat.reduceAdd, List.cons_append, List.nil_append, Option.map_some, Option.map_none, strOf_mk, sb_eql, sb_neq, vmg, ↓vgd, ↓vst, ↓vix]
      exact retQ_many (vs := [.d (.int .i64 0), .d (.str []), .d (.int .i64 (whereN t s).2.2)]) (ds := [.int .i64 0, .str [], .int .i64 (whereN t s).2.2]) (by kernel_rfl) rfl rfl
    · rintro v S' ⟨hv, _⟩
      cases hv
end Go.Proofs.Ytghllhghboaagaa
end
