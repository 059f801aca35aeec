/- Slots of a list by their number. -/
import GoSem.Core.Utf8
import Derived.KernelRfl
import Derived.Test.YtghllhghboaagaaP08
/-! Slots of a list by their number. -/
section
set_option linter.unusedVariables false
namespace Go.Vm
theorem vgd :
  (∀ {a x : V} {r : List V}, (a :: r).getD 0 x = a) ∧
  (∀ {a b x : V} {r : List V}, (a :: b :: r).getD 1 x = b) ∧
  (∀ {a b c x : V} {r : List V}, (a :: b :: c :: r).getD 2 x = c) ∧
  (∀ {a b c d x : V} {r : List V}, (a :: b :: c :: d :: r).getD 3 x = d) ∧
  (∀ {a b c d e x : V} {r : List V}, (a :: b :: c :: d :: e :: r).getD 4 x = e) ∧
  (∀ {a b c d e f x : V} {r : List V}, (a :: b :: c :: d :: e :: f :: r).getD 5 x = f) ∧
  (∀ {a b c d e f g x : V} {r : List V}, (a :: b :: c :: d :: e :: f :: g :: r).getD 6 x = g) ∧
  (∀ {a b c d e f g h x : V} {r : List V}, (a :: b :: c :: d :: e :: f :: g :: h :: r).getD 7 x = h) ∧
  (∀ {a b c d e f g h x : V} {r : List V} {n : Nat}, (a :: b :: c :: d :: e :: f :: g :: h :: r).getD (n + 8) x = r.getD n x) ∧
  (∀ {a b c d e f g h a1 b1 c1 d1 e1 f1 g1 h1 x : V} {r : List V} {n : Nat}, (a :: b :: c :: d :: e :: f :: g :: h :: a1 :: b1 :: c1 :: d1 :: e1 :: f1 :: g1 :: h1 :: r).getD (n + 16) x = r.getD n x) ∧
  (∀ {a b c d e f g h a1 b1 c1 d1 e1 f1 g1 h1 a2 b2 c2 d2 e2 f2 g2 h2 a3 b3 c3 d3 e3 f3 g3 h3 x : V} {r : List V} {n : Nat}, (a :: b :: c :: d :: e :: f :: g :: h :: a1 :: b1 :: c1 :: d1 :: e1 :: f1 :: g1 :: h1 :: a2 :: b2 :: c2 :: d2 :: e2 :: f2 :: g2 :: h2 :: a3 :: b3 :: c3 :: d3 :: e3 :: f3 :: g3 :: h3 :: r).getD (n + 32) x = r.getD n x) ∧
  (∀ {a b c d e f g h a1 b1 c1 d1 e1 f1 g1 h1 a2 b2 c2 d2 e2 f2 g2 h2 a3 b3 c3 d3 e3 f3 g3 h3 a4 b4 c4 d4 e4 f4 g4 h4 a5 b5 c5 d5 e5 f5 g5 h5 a6 b6 c6 d6 e6 f6 g6 h6 a7 b7 c7 d7 e7 f7 g7 h7 x : V} {r : List V} {n : Nat}, (a :: b :: c :: d :: e :: f :: g :: h :: a1 :: b1 :: c1 :: d1 :: e1 :: f1 :: g1 :: h1 :: a2 :: b2 :: c2 :: d2 :: e2 :: f2 :: g2 :: h2 :: a3 :: b3 :: c3 :: d3 :: e3 :: f3 :: g3 :: h3 :: a4 :: b4 :: c4 :: d4 :: e4 :: f4 :: g4 :: h4 :: a5 :: b5 :: c5 :: d5 :: e5 :: f5 :: g5 :: h5 :: a6 :: b6 :: c6 :: d6 :: e6 :: f6 :: g6 :: h6 :: a7 :: b7 :: c7 :: d7 :: e7 :: f7 :: g7 :: h7 :: r).getD (n + 64) x = r.getD n x) :=
  ⟨rfl, rfl, rfl, rfl, rfl, rfl, rfl, rfl, rfl, rfl, rfl, rfl⟩
theorem vst :
  (∀ {a x : V} {r : List V}, (a :: r).set 0 x = x :: r) ∧
  (∀ {a b x : V} {r : List V}, (a :: b :: r).set 1 x = a :: x :: r) ∧
  (∀ {a b c x : V} {r : List V}, (a :: b :: c :: r).set 2 x = a :: b :: x :: r) ∧
  (∀ {a b c d x : V} {r : List V}, (a :: b :: c :: d :: r).set 3 x = a :: b :: c :: x :: r) ∧
  (∀ {a b c d e x : V} {r : List V}, (a :: b :: c :: d :: e :: r).set 4 x = a :: b :: c :: d :: x :: r) ∧
  (∀ {a b c d e f x : V} {r : List V}, (a :: b :: c :: d :: e :: f :: r).set 5 x = a :: b :: c :: d :: e :: x :: r) ∧
  (∀ {a b c d e f g x : V} {r : List V}, (a :: b :: c :: d :: e :: f :: g :: r).set 6 x = a :: b :: c :: d :: e :: f :: x :: r) ∧
  (∀ {a b c d e f g h x : V} {r : List V}, (a :: b :: c :: d :: e :: f :: g :: h :: r).set 7 x = a :: b :: c :: d :: e :: f :: g :: x :: r) ∧
  (∀ {a b c d e f g h x : V} {r : List V} {n : Nat}, (a :: b :: c :: d :: e :: f :: g :: h :: r).set (n + 8) x = a :: b :: c :: d :: e :: f :: g :: h :: r.set n x) ∧
  (∀ {a b c d e f g h a1 b1 c1 d1 e1 f1 g1 h1 x : V} {r : List V} {n : Nat}, (a :: b :: c :: d :: e :: f :: g :: h :: a1 :: b1 :: c1 :: d1 :: e1 :: f1 :: g1 :: h1 :: r).set (n + 16) x = a :: b :: c :: d :: e :: f :: g :: h :: a1 :: b1 :: c1 :: d1 :: e1 :: f1 :: g1 :: h1 :: r.set n x) ∧
  (∀ {a b c d e f g h a1 b1 c1 d1 e1 f1 g1 h1 a2 b2 c2 d2 e2 f2 g2 h2 a3 b3 c3 d3 e3 f3 g3 h3 x : V} {r : List V} {n : Nat}, (a :: b :: c :: d :: e :: f :: g :: h :: a1 :: b1 :: c1 :: d1 :: e1 :: f1 :: g1 :: h1 :: a2 :: b2 :: c2 :: d2 :: e2 :: f2 :: g2 :: h2 :: a3 :: b3 :: c3 :: d3 :: e3 :: f3 :: g3 :: h3 :: r).set (n + 32) x = a :: b :: c :: d :: e :: f :: g :: h :: a1 :: b1 :: c1 :: d1 :: e1 :: f1 :: g1 :: h1 :: a2 :: b2 :: c2 :: d2 :: e2 :: f2 :: g2 :: h2 :: a3 :: b3 :: c3 :: d3 :: e3 :: f3 :: g3 :: h3 :: r.set n x) ∧
  (∀ {a b c d e f g h a1 b1 c1 d1 e1 f1 g1 h1 a2 b2 c2 d2 e2 f2 g2 h2 a3 b3 c3 d3 e3 f3 g3 h3 a4 b4 c4 d4 e4 f4 g4 h4 a5 b5 c5 d5 e5 f5 g5 h5 a6 b6 c6 d6 e6 f6 g6 h6 a7 b7 c7 d7 e7 f7 g7 h7 x : V} {r : List V} {n : Nat}, (a :: b :: c :: d :: e :: f :: g :: h :: a1 :: b1 :: c1 :: d1 :: e1 :: f1 :: g1 :: h1 :: a2 :: b2 :: c2 :: d2 :: e2 :: f2 :: g2 :: h2 :: a3 :: b3 :: c3 :: d3 :: e3 :: f3 :: g3 :: h3 :: a4 :: b4 :: c4 :: d4 :: e4 :: f4 :: g4 :: h4 :: a5 :: b5 :: c5 :: d5 :: e5 :: f5 :: g5 :: h5 :: a6 :: b6 :: c6 :: d6 :: e6 :: f6 :: g6 :: h6 :: a7 :: b7 :: c7 :: d7 :: e7 :: f7 :: g7 :: h7 :: r).set (n + 64) x = a :: b :: c :: d :: e :: f :: g :: h :: a1 :: b1 :: c1 :: d1 :: e1 :: f1 :: g1 :: h1 :: a2 :: b2 :: c2 :: d2 :: e2 :: f2 :: g2 :: h2 :: a3 :: b3 :: c3 :: d3 :: e3 :: f3 :: g3 :: h3 :: a4 :: b4 :: c4 :: d4 :: e4 :: f4 :: g4 :: h4 :: a5 :: b5 :: c5 :: d5 :: e5 :: f5 :: g5 :: h5 :: a6 :: b6 :: c6 :: d6 :: e6 :: f6 :: g6 :: h6 :: a7 :: b7 :: c7 :: d7 :: e7 :: f7 :: g7 :: h7 :: r.set n x) :=
  ⟨rfl, rfl, rfl, rfl, rfl, rfl, rfl, rfl, rfl, rfl, rfl, rfl⟩
theorem vix :
  (∀ {a : V} {r : List V}, (a :: r)[0]? = some a) ∧
  (∀ {a b : V} {r : List V}, (a :: b :: r)[1]? = some b) ∧
  (∀ {a b c : V} {r : List V}, (a :: b :: c :: r)[2]? = some c) ∧
  (∀ {a b c d : V} {r : List V}, (a :: b :: c :: d :: r)[3]? = some d) ∧
  (∀ {a b c d e : V} {r : List V}, (a :: b :: c :: d :: e :: r)[4]? = some e) ∧
  (∀ {a b c d e f : V} {r : List V}, (a :: b :: c :: d :: e :: f :: r)[5]? = some f) ∧
  (∀ {a b c d e f g : V} {r : List V}, (a :: b :: c :: d :: e :: f :: g :: r)[6]? = some g) ∧
  (∀ {a b c d e f g h : V} {r : List V}, (a :: b :: c :: d :: e :: f :: g :: h :: r)[7]? = some h) ∧
  (∀ {a b c d e f g h : V} {r : List V} {n : Nat}, (a :: b :: c :: d :: e :: f :: g :: h :: r)[n + 8]? = r[n]?) ∧
  (∀ {a b c d e f g h a1 b1 c1 d1 e1 f1 g1 h1 : V} {r : List V} {n : Nat}, (a :: b :: c :: d :: e :: f :: g :: h :: a1 :: b1 :: c1 :: d1 :: e1 :: f1 :: g1 :: h1 :: r)[n + 16]? = r[n]?) ∧
  (∀ {a b c d e f g h a1 b1 c1 d1 e1 f1 g1 h1 a2 b2 c2 d2 e2 f2 g2 h2 a3 b3 c3 d3 e3 f3 g3 h3 : V} {r : List V} {n : Nat}, (a :: b :: c :: d :: e :: f :: g :: h :: a1 :: b1 :: c1 :: d1 :: e1 :: f1 :: g1 :: h1 :: a2 :: b2 :: c2 :: d2 :: e2 :: f2 :: g2 :: h2 :: a3 :: b3 :: c3 :: d3 :: e3 :: f3 :: g3 :: h3 :: r)[n + 32]? = r[n]?) ∧
  (∀ {a b c d e f g h a1 b1 c1 d1 e1 f1 g1 h1 a2 b2 c2 d2 e2 f2 g2 h2 a3 b3 c3 d3 e3 f3 g3 h3 a4 b4 c4 d4 e4 f4 g4 h4 a5 b5 c5 d5 e5 f5 g5 h5 a6 b6 c6 d6 e6 f6 g6 h6 a7 b7 c7 d7 e7 f7 g7 h7 : V} {r : List V} {n : Nat}, (a :: b :: c :: d :: e :: f :: g :: h :: a1 :: b1 :: c1 :: d1 :: e1 :: f1 :: g1 :: h1 :: a2 :: b2 :: c2 :: d2 :: e2 :: f2 :: g2 :: h2 :: a3 :: b3 :: c3 :: d3 :: e3 :: f3 :: g3 :: h3 :: a4 :: b4 :: c4 :: d4 :: e4 :: f4 :: g4 :: h4 :: a5 :: b5 :: c5 :: d5 :: e5 :: f5 :: g5 :: h5 :: a6 :: b6 :: c6 :: d6 :: e6 :: f6 :: g6 :: h6 :: a7 :: b7 :: c7 :: d7 :: e7 :: f7 :: g7 :: h7 :: r)[n + 64]? = r[n]?) :=
  ⟨rfl, rfl, rfl, rfl, rfl, rfl, rfl, rfl, rfl, rfl, rfl, rfl⟩
end Go.Vm
end
/-! The document's model: Remove. -/
section
set_option linter.unusedVariables false
set_option linter.unusedSimpArgs false
set_option maxRecDepth 10000
set_option maxHeartbeats 2000000
namespace Go.Proofs.Ytghllhghboaagaa
open Go.Vm
def removeN (t : List Node) (o : Opn) : List Node × Ans :=
  if (whereN t o.a).2.2 ≠ 0 then (t, failN (whereN t o.a).2.2)
  else if nameN (getN t (whereN t o.a).1).names (whereN t o.a).2.1 < 0 then (t, failN 4)
  else if o.does = 4 ∧ (getN t (nameN (getN t (whereN t o.a).1).names (whereN t o.a).2.1)).kind = 2 then (t, failN 7)
  else if o.does = 5 ∧ (getN t (nameN (getN t (whereN t o.a).1).names (whereN t o.a).2.1)).kind ≠ 2 then (t, failN 6)
  else if o.does = 5 ∧ 0 < (getN t (nameN (getN t (whereN t o.a).1).names (whereN t o.a).2.1)).names.length then (t, failN 8)
  else (losesN (dropN t (whereN t o.a).1 (whereN t o.a).2.1) (nameN (getN t (whereN t o.a).1).names (whereN t o.a).2.1), okN)
theorem remove_ok (t : List Node) (k0 : Nat) (hk0 : k0 < 200000) (hS : Small k0 t) (o : Opn) (ha : o.a.length < 1000000) : Ev cfg 49 [.sl (t.map encNode), encOpn o] (.ret (.tup [.d (.sl ((removeN t o).1.map encNode)), .d (encAns (removeN t o).2)])) := by
  refine ev_of rfl rfl body49 ?_
  show Wp cfg (Try.f49.body.getD .skip) ((.d (.sl (t.map encNode))) :: (.d (encOpn o)) :: (.tup []) :: (.tup []) :: (.tup []) :: (.tup []) :: (.tup []) :: (.tup []) :: (.tup []) :: (.tup []) :: (.tup []) :: (.tup []) :: (.tup []) :: (.tup []) :: (.tup []) :: (.tup []) :: (.tup []) :: (.tup []) :: (.tup []) :: (.tup []) :: (.tup []) :: (.tup []) :: (.tup []) :: (.tup []) :: (.tup []) :: (.tup []) :: (.tup []) :: (.tup []) :: (.tup []) :: (.tup []) :: (.tup []) :: (.tup []) :: (.tup []) :: (.tup []) :: (.tup []) :: (.tup []) :: (.tup []) :: (.tup []) :: (.tup []) :: (.tup []) :: (.tup []) :: (.tup []) :: (.tup []) :: (.tup []) :: (.tup []) :: (.tup []) :: (.tup []) :: (.tup []) :: (.tup []) :: (.tup []) :: (.tup []) :: (.tup []) :: (.tup []) :: (.tup []) :: (.tup []) :: (.tup []) :: (.tup []) :: (.tup []) :: (.tup []) :: (.tup []) :: (.tup []) :: (.tup []) :: (.tup []) :: (.tup []) :: (.tup []) :: (.tup []) :: (.tup []) :: (.tup []) :: (.tup []) :: (.tup []) :: (.tup []) :: (.tup []) :: (.tup []) :: (.tup []) :: []) [] [] _
  conv => arg 2; whnf
  have hk1 : k0 < 300000 := by omega
  have hlt : t.length < 400000 := Nat.lt_of_le_of_lt hS.len (by omega)
  have hlt' : t.length < 1000000 := by omega
  simp (maxSteps := 1000000) (disch := first | assumption | omega | rfl) only [↓vmp, vme, vmb, ty, hP, dec_t, dec_f, wrap64, List.length_map, Int.toNat_natCast, Nat.reduceAdd, List.cons_append, List.nil_append, Option.map_some, Option.map_none, strOf_mk, sb_eql, sb_neq, vmg, ↓vgd, ↓vst, ↓vix, call_where hS hk1]
  generalize hr : removeN t o = r
  unfold removeN at hr
  generalize whereN t o.a = w at hr ⊢
  obtain ⟨d, s, e⟩ := w
  simp only at hr
  have hgn : (getN t d).names.length < 1000000 := Nat.lt_of_le_of_lt (hS.gnms _) (by omega)
  have hgn' : (getN t d).names.length < 400000 := Nat.lt_of_le_of_lt (hS.gnms _) (by omega)
  by_cases h1 : e = 0
  · simp (maxSteps := 1000000) (disch := first | assumption | omega | rfl) only [↓vmp, vme, vmb, ty, hP, dec_t, dec_f, wrap64, List.length_map, Int.toNat_natCast, Nat.reduceAdd, List.cons_append, List.nil_append, Option.map_some, Option.map_none, strOf_mk, sb_eql, sb_neq, vmg, ↓vgd, ↓vst, ↓vix, call_get, call_name]
    rw [if_neg (by simp [h1])] at hr
    generalize nameN (getN t d).names s = ino at hr ⊢
    have hS2 := hS.drop (dir := d) (s := s)
    have hdl : (dropN t d s).length < 400000 := Nat.lt_of_le_of_lt hS2.len (by omega)
    have hl1 : -1000000 ≤ (getN (dropN t d s) ino).links := by have := (hS2.glnk ino).1; omega
    have hl2 : (getN (dropN t d s) ino).links ≤ 1000000 := by have := (hS2.glnk ino).2; omega
    by_cases h2 : ino < 0
    · skip
      simp (maxSteps := 1000000) (disch := first | assumption | omega | rfl) only [↓vmp, vme, vmb, ty, hP, dec_t, dec_f, wrap64, List.length_map, Int.toNat_natCast, Nat.reduceAdd, List.cons_append, List.nil_append, Option.map_some, Option.map_none, strOf_mk, sb_eql, sb_neq, vmg, ↓vgd, ↓vst, ↓vix, call_fail]
      rw [if_pos h2] at hr
      subst hr
      exact retQ_tc rfl rfl (x := .d (encAns (failN 4))) (by kernel_rfl) rfl rfl rfl rfl
    · simp (maxSteps := 1000000) (disch := first | assumption | omega | rfl) only [↓vmp, vme, vmb, ty, hP, dec_t, dec_f, wrap64, List.length_map, Int.toNat_natCast, Nat.reduceAdd, List.cons_append, List.nil_append, Option.map_some, Option.map_none, strOf_mk, sb_eql, sb_neq, vmg, ↓vgd, ↓vst, ↓vix, call_get]
      rw [if_neg h2] at hr
      by_cases d4 : o.does = 4
      · have d5 : ¬ o.does = 5 := by omega
        by_cases k2 : (getN t ino).kind = 2
        · skip
          simp (maxSteps := 1000000) (disch := first | assumption | omega | rfl) only [↓vmp, vme, vmb, ty, hP, dec_t, dec_f, wrap64, List.length_map, Int.toNat_natCast, Nat.reduceAdd, List.cons_append, List.nil_append, Option.map_some, Option.map_none, strOf_mk, sb_eql, sb_neq, vmg, ↓vgd, ↓vst, ↓vix, call_fail]
          rw [if_pos ⟨d4, k2⟩] at hr
          subst hr
          exact retQ_tc rfl rfl (x := .d (encAns (failN 7))) (by kernel_rfl) rfl rfl rfl rfl
        · skip
          simp (maxSteps := 1000000) (disch := first | assumption | omega | rfl) only [↓vmp, vme, vmb, ty, hP, dec_t, dec_f, wrap64, List.length_map, Int.toNat_natCast, Nat.reduceAdd, List.cons_append, List.nil_append, Option.map_some, Option.map_none, strOf_mk, sb_eql, sb_neq, vmg, ↓vgd, ↓vst, ↓vix, call_drop, call_loses, bd52_0]
          rw [if_neg (fun h => k2 h.2), if_neg (fun h => d5 h.1), if_neg (fun h => d5 h.1)] at hr
          subst hr
          exact retQ_tc rfl rfl (x := .agg [.d (.int .i64 0), .d (.int .i64 0), .d (.int .i64 0), .d (.int .i64 0), .d (.int .i64 0), .ts [], .ts []]) (by kernel_rfl) rfl rfl rfl rfl
      · by_cases d5 : o.does = 5
        · simp (maxSteps := 1000000) (disch := first | assumption | omega | rfl) only [↓vmp, vme, vmb, ty, hP, dec_t, dec_f, wrap64, List.length_map, Int.toNat_natCast, Nat.reduceAdd, List.cons_append, List.nil_append, Option.map_some, Option.map_none, strOf_mk, sb_eql, sb_neq, vmg, ↓vgd, ↓vst, ↓vix]
          rw [if_neg (fun h => d4 h.1)] at hr
          by_cases k2 : (getN t ino).kind = 2
          · simp (maxSteps := 1000000) (disch := first | assumption | omega | rfl) only [↓vmp, vme, vmb, ty, hP, dec_t, dec_f, wrap64, List.length_map, Int.toNat_natCast, Nat.reduceAdd, List.cons_append, List.nil_append, Option.map_some, Option.map_none, strOf_mk, sb_eql, sb_neq, vmg, ↓vgd, ↓vst, ↓vix]
            rw [if_neg (fun h => h.2 k2)] at hr
            by_cases z : (getN t ino).names.length > 0
            · skip
              simp (maxSteps := 1000000) (disch := first | assumption | omega | rfl) only [↓vmp, vme, vmb, ty, hP, dec_t, dec_f, wrap64, List.length_map, Int.toNat_natCast, Nat.reduceAdd, List.cons_append, List.nil_append, Option.map_some, Option.map_none, strOf_mk, sb_eql, sb_neq, vmg, ↓vgd, ↓vst, ↓vix, call_fail]
              rw [if_pos ⟨d5, z⟩] at hr
              subst hr
              exact retQ_tc rfl rfl (x := .d (encAns (failN 8))) (by kernel_rfl) rfl rfl rfl rfl
            · skip
              simp (maxSteps := 1000000) (disch := first | assumption | omega | rfl) only [↓vmp, vme, vmb, ty, hP, dec_t, dec_f, wrap64, List.length_map, Int.toNat_natCast, Nat.reduceAdd, List.cons_append, List.nil_append, Option.map_some, Option.map_none, strOf_mk, sb_eql, sb_neq, vmg, ↓vgd, ↓vst, ↓vix, call_drop, call_loses, bd52_0]
              rw [if_neg (fun h => z h.2)] at hr
              subst hr
              exact retQ_tc rfl rfl (x := .agg [.d (.int .i64 0), .d (.int .i64 0), .d (.int .i64 0), .d (.int .i64 0), .d (.int .i64 0), .ts [], .ts []]) (by kernel_rfl) rfl rfl rfl rfl
          · skip
            simp (maxSteps := 1000000) (disch := first | assumption | omega | rfl) only [↓vmp, vme, vmb, ty, hP, dec_t, dec_f, wrap64, List.length_map, Int.toNat_natCast, Nat.reduceAdd, List.cons_append, List.nil_append, Option.map_some, Option.map_none, strOf_mk, sb_eql, sb_neq, vmg, ↓vgd, ↓vst, ↓vix, call_fail]
            rw [if_pos ⟨d5, k2⟩] at hr
            subst hr
            exact retQ_tc rfl rfl (x := .d (encAns (failN 6))) (by kernel_rfl) rfl rfl rfl rfl
        · skip
          simp (maxSteps := 1000000) (disch := first | assumption | omega | rfl) only [↓vmp, vme, vmb, ty, hP, dec_t, dec_f, wrap64, List.length_map, Int.toNat_natCast, Nat.reduceAdd, List.cons_append, List.nil_append, Option.map_some, Option.map_none, strOf_mk, sb_eql, sb_neq, vmg, ↓vgd, ↓vst, ↓vix, call_drop, call_loses, bd52_0]
          rw [if_neg (fun h => d4 h.1), if_neg (fun h => d5 h.1), if_neg (fun h => d5 h.1)] at hr
          subst hr
          exact retQ_tc rfl rfl (x := .agg [.d (.int .i64 0), .d (.int .i64 0), .d (.int .i64 0), .d (.int .i64 0), .d (.int .i64 0), .ts [], .ts []]) (by kernel_rfl) rfl rfl rfl rfl
  · skip
    simp (maxSteps := 1000000) (disch := first | assumption | omega | rfl) only [↓vmp, vme, vmb, ty, hP, dec_t, dec_f, wrap64, List.length_map, Int.toNat_natCast, Nat.reduceAdd, List.cons_append, List.nil_append, Option.map_some, Option.map_none, strOf_mk, sb_eql, sb_neq, vmg, ↓vgd, ↓vst, ↓vix, call_fail]
    rw [if_pos h1] at hr
    subst hr
    exact retQ_tc rfl rfl (x := .d (encAns (failN e))) (by kernel_rfl) rfl rfl rfl rfl
theorem call_remove {ops : Array Oper} {dst : Option Tmp} {l : List Oper} {T : List V} {S : Store} {F : Dfs} {Q : Post} {t : List Node} {o : Opn} {k0 : Nat} (hS : Small k0 t) (hk0 : k0 < 200000) (ha : o.a.length < 1000000) :
    WpR cfg ops dst l T S F Q (some (.enter 49 [.d (.sl (t.map encNode)), .d (encOpn o)])) = WpL cfg ops l (putT T dst (.tup [.d (.sl ((removeN t o).1.map encNode)), .d (encAns (removeN t o).2)])) S F Q :=
  wr_call_d (ds := [.sl (t.map encNode), encOpn o]) rfl (remove_ok t k0 hk0 hS o ha)
end Go.Proofs.Ytghllhghboaagaa
end
/-! The document's model: Rename. -/
section
set_option linter.unusedVariables false
set_option linter.unusedSimpArgs false
set_option maxRecDepth 10000
set_option maxHeartbeats 2000000
namespace Go.Proofs.Ytghllhghboaagaa
open Go.Vm
def moved (n : Node) (p : Int) : Node := ⟨n.ino, n.kind, n.links, p, n.size, n.data, n.names⟩
/-- The tree behind a renaming that is done. -/
def renamed (t : List Node) (f : Int) (old : List UInt8) (d : Int) (s : List UInt8) (ino was kind : Int) : List Node :=
  let t1 := if 0 ≤ was then losesN (dropN t d s) was else t
  let t2 := putN (dropN t1 f old) d s ino
  if kind = 2 then withN t2 (moved (getN t2 ino) d) else t2
def renameA (t : List Node) (f : Int) (old : List UInt8) (ino : Int) (d : Int) (s : List UInt8) (was : Int) : List Node × Ans :=
  if was = ino then (t, okN)
  else if (getN t ino).kind = 2 ∧ belowN t ino (t.length + 1) d = true then (t, failN 9)
  else if 0 ≤ was ∧ (getN t ino).kind = 2 then (t, failN 5)
  else if 0 ≤ was ∧ (getN t was).kind = 2 then (t, failN 7)
  else (renamed t f old d s ino was (getN t ino).kind, okN)
def renameN (t : List Node) (o : Opn) : List Node × Ans :=
  if (whereN t o.a).2.2 ≠ 0 then (t, failN (whereN t o.a).2.2)
  else if nameN (getN t (whereN t o.a).1).names (whereN t o.a).2.1 < 0 then (t, failN 4)
  else if (whereN t o.b).2.2 ≠ 0 then (t, failN (whereN t o.b).2.2)
  else renameA t (whereN t o.a).1 (whereN t o.a).2.1 (nameN (getN t (whereN t o.a).1).names (whereN t o.a).2.1) (whereN t o.b).1 (whereN t o.b).2.1 (nameN (getN t (whereN t o.b).1).names (whereN t o.b).2.1)
theorem rename_ok (t : List Node) (k0 : Nat) (hk0 : k0 < 200000) (hS : Small k0 t) (o : Opn) (ha : o.a.length < 1000000) (hb : o.b.length < 1000000) : Ev cfg 50 [.sl (t.map encNode), encOpn o] (.ret (.tup [.d (.sl ((renameN t o).1.map encNode)), .d (encAns (renameN t o).2)])) := by
  refine ev_of rfl rfl body50 ?_
  show Wp cfg (Try.f50.body.getD .skip) ((.d (.sl (t.map encNode))) :: (.d (encOpn o)) :: (.tup []) :: (.tup []) :: (.tup []) :: (.tup []) :: (.tup []) :: (.tup []) :: (.tup []) :: (.tup []) :: (.tup []) :: (.tup []) :: (.tup []) :: (.tup []) :: (.tup []) :: (.tup []) :: (.tup []) :: (.tup []) :: (.tup []) :: (.tup []) :: (.tup []) :: (.tup []) :: (.tup []) :: (.tup []) :: (.tup []) :: (.tup []) :: (.tup []) :: (.tup []) :: (.tup []) :: (.tup []) :: (.tup []) :: (.tup []) :: (.tup []) :: (.tup []) :: (.tup []) :: (.tup []) :: (.tup []) :: (.tup []) :: (.tup []) :: (.tup []) :: (.tup []) :: (.tup []) :: (.tup []) :: (.tup []) :: (.tup []) :: (.tup []) :: (.tup []) :: (.tup []) :: (.tup []) :: (.tup []) :: (.tup []) :: (.tup []) :: (.tup []) :: (.tup []) :: (.tup []) :: (.tup []) :: (.tup []) :: (.tup []) :: (.tup []) :: (.tup []) :: (.tup []) :: (.tup []) :: (.tup []) :: (.tup []) :: (.tup []) :: (.tup []) :: (.tup []) :: (.tup []) :: (.tup []) :: (.tup []) :: (.tup []) :: (.tup []) :: (.tup []) :: (.tup []) :: (.tup []) :: (.tup []) :: (.tup []) :: (.tup []) :: (.tup []) :: (.tup []) :: (.tup []) :: (.tup []) :: (.tup []) :: (.tup []) :: (.tup []) :: (.tup []) :: (.tup []) :: (.tup []) :: (.tup []) :: (.tup []) :: (.tup []) :: (.tup []) :: (.tup []) :: (.tup []) :: (.tup []) :: (.tup []) :: (.tup []) :: (.tup []) :: (.tup []) :: (.tup []) :: (.tup []) :: (.tup []) :: (.tup []) :: (.tup []) :: (.tup []) :: (.tup []) :: (.tup []) :: (.tup []) :: (.tup []) :: (.tup []) :: (.tup []) :: (.tup []) :: (.tup []) :: (.tup []) :: (.tup []) :: (.tup []) :: (.tup []) :: (.tup []) :: (.tup []) :: (.tup []) :: (.tup []) :: (.tup []) :: (.tup []) :: (.tup []) :: (.tup []) :: (.tup []) :: []) [] [] _
  conv => arg 2; whnf
  have hk1 : k0 < 300000 := by omega
  have hlt : t.length < 400000 := Nat.lt_of_le_of_lt hS.len (by omega)
  have hlt' : t.length < 1000000 := by omega
  have hln := whereN_len t o.b
  simp (maxSteps := 1000000) (disch := first | assumption | omega | rfl) only [↓vmp, vme, vmb, ty, hP, dec_t, dec_f, wrap64, List.length_map, Int.toNat_natCast, Nat.reduceAdd, List.cons_append, List.nil_append, Option.map_some, Option.map_none, strOf_mk, sb_eql, sb_neq, vmg, ↓vgd, ↓vst, ↓vix, call_where hS hk1]
  generalize hr : renameN t o = r
  unfold renameN at hr
  generalize whereN t o.a = w at hr ⊢
  obtain ⟨f, old, e⟩ := w
  simp only at hr
  have hgf : (getN t f).names.length < 1000000 := Nat.lt_of_le_of_lt (hS.gnms _) (by omega)
  by_cases h1 : e = 0
  · simp (maxSteps := 1000000) (disch := first | assumption | omega | rfl) only [↓vmp, vme, vmb, ty, hP, dec_t, dec_f, wrap64, List.length_map, Int.toNat_natCast, Nat.reduceAdd, List.cons_append, List.nil_append, Option.map_some, Option.map_none, strOf_mk, sb_eql, sb_neq, vmg, ↓vgd, ↓vst, ↓vix, call_get, call_name]
    rw [if_neg (by simp [h1])] at hr
    generalize nameN (getN t f).names old = ino at hr ⊢
    by_cases h2 : ino < 0
    · skip
      simp (maxSteps := 1000000) (disch := first | assumption | omega | rfl) only [↓vmp, vme, vmb, ty, hP, dec_t, dec_f, wrap64, List.length_map, Int.toNat_natCast, Nat.reduceAdd, List.cons_append, List.nil_append, Option.map_some, Option.map_none, strOf_mk, sb_eql, sb_neq, vmg, ↓vgd, ↓vst, ↓vix, call_fail]
      rw [if_pos h2] at hr
      subst hr
      exact retQ_tc rfl rfl (x := .d (encAns (failN 4))) (by kernel_rfl) rfl rfl rfl rfl
    · simp (maxSteps := 1000000) (disch := first | assumption | omega | rfl) only [↓vmp, vme, vmb, ty, hP, dec_t, dec_f, wrap64, List.length_map, Int.toNat_natCast, Nat.reduceAdd, List.cons_append, List.nil_append, Option.map_some, Option.map_none, strOf_mk, sb_eql, sb_neq, vmg, ↓vgd, ↓vst, ↓vix, call_where hS hk1]
      rw [if_neg h2] at hr
      generalize whereN t o.b = w at hr hln ⊢
      obtain ⟨d, s, e2⟩ := w
      simp only at hr hln
      have hgd : (getN t d).names.length < 1000000 := Nat.lt_of_le_of_lt (hS.gnms _) (by omega)
      by_cases h3 : e2 = 0
      · simp (maxSteps := 1000000) (disch := first | assumption | omega | rfl) only [↓vmp, vme, vmb, ty, hP, dec_t, dec_f, wrap64, List.length_map, Int.toNat_natCast, Nat.reduceAdd, List.cons_append, List.nil_append, Option.map_some, Option.map_none, strOf_mk, sb_eql, sb_neq, vmg, ↓vgd, ↓vst, ↓vix, call_get, call_name]
        rw [if_neg (by simp [h3])] at hr
        generalize nameN (getN t d).names s = was at hr ⊢
        unfold renameA at hr
        by_cases h4 : was = ino
        · simp (maxSteps := 1000000) (disch := first | assumption | omega | rfl) only [↓vmp, vme, vmb, ty, hP, dec_t, dec_f, wrap64, List.length_map, Int.toNat_natCast, Nat.reduceAdd, List.cons_append, List.nil_append, Option.map_some, Option.map_none, strOf_mk, sb_eql, sb_neq, vmg, ↓vgd, ↓vst, ↓vix, bd52_0]
          rw [if_pos h4] at hr
          subst hr
          exact retQ_tc rfl rfl (x := .agg [.d (.int .i64 0), .d (.int .i64 0), .d (.int .i64 0), .d (.int .i64 0), .d (.int .i64 0), .ts [], .ts []]) (by kernel_rfl) rfl rfl rfl rfl
        · simp (maxSteps := 1000000) (disch := first | assumption | omega | rfl) only [↓vmp, vme, vmb, ty, hP, dec_t, dec_f, wrap64, List.length_map, Int.toNat_natCast, Nat.reduceAdd, List.cons_append, List.nil_append, Option.map_some, Option.map_none, strOf_mk, sb_eql, sb_neq, vmg, ↓vgd, ↓vst, ↓vix, call_get]
          rw [if_neg h4] at hr
          have hsl : s.length < 1000000 := by omega
          have hgd4 : (getN t d).names.length < 400000 := Nat.lt_of_le_of_lt (hS.gnms _) (by omega)
          have hgf4 : (getN t f).names.length < 400000 := Nat.lt_of_le_of_lt (hS.gnms _) (by omega)
          by_cases k : (getN t ino).kind = 2
          · simp (maxSteps := 1000000) (disch := first | assumption | omega | rfl) only [↓vmp, vme, vmb, ty, hP, dec_t, dec_f, wrap64, List.length_map, Int.toNat_natCast, Nat.reduceAdd, List.cons_append, List.nil_append, Option.map_some, Option.map_none, strOf_mk, sb_eql, sb_neq, vmg, ↓vgd, ↓vst, ↓vix, call_below]
            cases hbl : belowN t ino (t.length + 1) d with
            | true =>
              simp (maxSteps := 1000000) (disch := first | assumption | omega | rfl) only [↓vmp, vme, vmb, ty, hP, dec_t, dec_f, wrap64, List.length_map, Int.toNat_natCast, Nat.reduceAdd, List.cons_append, List.nil_append, Option.map_some, Option.map_none, strOf_mk, sb_eql, sb_neq, vmg, ↓vgd, ↓vst, ↓vix, call_fail]
              rw [if_pos ⟨k, hbl⟩] at hr
              subst hr
              exact retQ_tc rfl rfl (x := .d (encAns (failN 9))) (by kernel_rfl) rfl rfl rfl rfl
            | false =>
              simp (maxSteps := 1000000) (disch := first | assumption | omega | rfl) only [↓vmp, vme, vmb, ty, hP, dec_t, dec_f, wrap64, List.length_map, Int.toNat_natCast, Nat.reduceAdd, List.cons_append, List.nil_append, Option.map_some, Option.map_none, strOf_mk, sb_eql, sb_neq, vmg, ↓vgd, ↓vst, ↓vix]
              rw [if_neg (fun h => by rw [hbl] at h; exact Bool.noConfusion h.2)] at hr
              by_cases w : was ≥ 0
              · skip
                simp (maxSteps := 1000000) (disch := first | assumption | omega | rfl) only [↓vmp, vme, vmb, ty, hP, dec_t, dec_f, wrap64, List.length_map, Int.toNat_natCast, Nat.reduceAdd, List.cons_append, List.nil_append, Option.map_some, Option.map_none, strOf_mk, sb_eql, sb_neq, vmg, ↓vgd, ↓vst, ↓vix, call_fail]
                rw [if_pos ⟨w, k⟩] at hr
                subst hr
                exact retQ_tc rfl rfl (x := .d (encAns (failN 5))) (by kernel_rfl) rfl rfl rfl rfl
              · rw [if_neg (fun h => w h.1), if_neg (fun h => w h.1)] at hr
                simp only [renamed, if_neg w, if_pos k] at hr
                have hS2 := hS.drop (dir := f) (s := old)
                have hl2 : (dropN t f old).length < 400000 := Nat.lt_of_le_of_lt hS2.len (by omega)
                have hn2 : (getN (dropN t f old) d).names.length < 400000 := Nat.lt_of_le_of_lt (hS2.gnms _) (by omega)
                have hm2 : ∀ e ∈ (getN (dropN t f old) d).names, e.name.length < 1000000 := fun e he => Nat.lt_of_le_of_lt (hS2.gnam _ e he) (by omega)
                have hS3 := hS2.put (dir := d) (s := s) (ino := ino) (by omega)
                have hl3 : (putN (dropN t f old) d s ino).length < 400000 := Nat.lt_of_le_of_lt hS3.len (by omega)
                have hl3' : (putN (dropN t f old) d s ino).length < 1000000 := by omega
                simp (maxSteps := 1000000) (disch := first | assumption | omega | rfl) only [↓vmp, vme, vmb, ty, hP, dec_t, dec_f, wrap64, List.length_map, Int.toNat_natCast, Nat.reduceAdd, List.cons_append, List.nil_append, Option.map_some, Option.map_none, strOf_mk, sb_eql, sb_neq, vmg, ↓vgd, ↓vst, ↓vix, call_drop, call_put, call_get, call_withA, bd52_0]
                subst hr
                exact retQ_tc rfl rfl (x := .agg [.d (.int .i64 0), .d (.int .i64 0), .d (.int .i64 0), .d (.int .i64 0), .d (.int .i64 0), .ts [], .ts []]) (by kernel_rfl) rfl rfl rfl rfl
          · simp (maxSteps := 1000000) (disch := first | assumption | omega | rfl) only [↓vmp, vme, vmb, ty, hP, dec_t, dec_f, wrap64, List.length_map, Int.toNat_natCast, Nat.reduceAdd, List.cons_append, List.nil_append, Option.map_some, Option.map_none, strOf_mk, sb_eql, sb_neq, vmg, ↓vgd, ↓vst, ↓vix]
            rw [if_neg (fun h => k h.1), if_neg (fun h => k h.2)] at hr
            by_cases w : was ≥ 0
            · simp (maxSteps := 1000000) (disch := first | assumption | omega | rfl) only [↓vmp, vme, vmb, ty, hP, dec_t, dec_f, wrap64, List.length_map, Int.toNat_natCast, Nat.reduceAdd, List.cons_append, List.nil_append, Option.map_some, Option.map_none, strOf_mk, sb_eql, sb_neq, vmg, ↓vgd, ↓vst, ↓vix]
              by_cases m : (getN t was).kind = 2
              · skip
                simp (maxSteps := 1000000) (disch := first | assumption | omega | rfl) only [↓vmp, vme, vmb, ty, hP, dec_t, dec_f, wrap64, List.length_map, Int.toNat_natCast, Nat.reduceAdd, List.cons_append, List.nil_append, Option.map_some, Option.map_none, strOf_mk, sb_eql, sb_neq, vmg, ↓vgd, ↓vst, ↓vix, call_fail]
                rw [if_pos ⟨w, m⟩] at hr
                subst hr
                exact retQ_tc rfl rfl (x := .d (encAns (failN 7))) (by kernel_rfl) rfl rfl rfl rfl
              · rw [if_neg (fun h => m h.2)] at hr
                simp only [renamed, if_pos w, if_neg k] at hr
                have hS0 := hS.drop (dir := d) (s := s)
                have hl0 : (dropN t d s).length < 400000 := Nat.lt_of_le_of_lt hS0.len (by omega)
                have hk1' : -1000000 ≤ (getN (dropN t d s) was).links := by have := (hS0.glnk was).1; omega
                have hk2' : (getN (dropN t d s) was).links ≤ 1000000 := by have := (hS0.glnk was).2; omega
                have hS1 := hS0.loses (ino := was)
                have hl1 : (losesN (dropN t d s) was).length < 400000 := Nat.lt_of_le_of_lt hS1.len (by omega)
                have hn1 : (getN (losesN (dropN t d s) was) f).names.length < 400000 := Nat.lt_of_le_of_lt (hS1.gnms _) (by omega)
                have hS2 := hS1.drop (dir := f) (s := old)
                have hl2 : (dropN (losesN (dropN t d s) was) f old).length < 400000 := Nat.lt_of_le_of_lt hS2.len (by omega)
                have hn2 : (getN (dropN (losesN (dropN t d s) was) f old) d).names.length < 400000 := Nat.lt_of_le_of_lt (hS2.gnms _) (by omega)
                have hm2 : ∀ e ∈ (getN (dropN (losesN (dropN t d s) was) f old) d).names, e.name.length < 1000000 := fun e he => Nat.lt_of_le_of_lt (hS2.gnam _ e he) (by omega)
                simp (maxSteps := 1000000) (disch := first | assumption | omega | rfl) only [↓vmp, vme, vmb, ty, hP, dec_t, dec_f, wrap64, List.length_map, Int.toNat_natCast, Nat.reduceAdd, List.cons_append, List.nil_append, Option.map_some, Option.map_none, strOf_mk, sb_eql, sb_neq, vmg, ↓vgd, ↓vst, ↓vix, call_drop, call_put, call_loses, bd52_0]
                subst hr
                exact retQ_tc rfl rfl (x := .agg [.d (.int .i64 0), .d (.int .i64 0), .d (.int .i64 0), .d (.int .i64 0), .d (.int .i64 0), .ts [], .ts []]) (by kernel_rfl) rfl rfl rfl rfl
            · rw [if_neg (fun h => w h.1)] at hr
              simp only [renamed, if_neg w, if_neg k] at hr
              have hS2 := hS.drop (dir := f) (s := old)
              have hl2 : (dropN t f old).length < 400000 := Nat.lt_of_le_of_lt hS2.len (by omega)
              have hn2 : (getN (dropN t f old) d).names.length < 400000 := Nat.lt_of_le_of_lt (hS2.gnms _) (by omega)
              have hm2 : ∀ e ∈ (getN (dropN t f old) d).names, e.name.length < 1000000 := fun e he => Nat.lt_of_le_of_lt (hS2.gnam _ e he) (by omega)
              simp (maxSteps := 1000000) (disch := first | assumption | omega | rfl) only [↓vmp, vme, vmb, ty, hP, dec_t, dec_f, wrap64, List.length_map, Int.toNat_natCast, Nat.reduceAdd, List.cons_append, List.nil_append, Option.map_some, Option.map_none, strOf_mk, sb_eql, sb_neq, vmg, ↓vgd, ↓vst, ↓vix, call_drop, call_put, bd52_0]
              subst hr
              exact retQ_tc rfl rfl (x := .agg [.d (.int .i64 0), .d (.int .i64 0), .d (.int .i64 0), .d (.int .i64 0), .d (.int .i64 0), .ts [], .ts []]) (by kernel_rfl) rfl rfl rfl rfl
      · skip
        simp (maxSteps := 1000000) (disch := first | assumption | omega | rfl) only [↓vmp, vme, vmb, ty, hP, dec_t, dec_f, wrap64, List.length_map, Int.toNat_natCast, Nat.reduceAdd, List.cons_append, List.nil_append, Option.map_some, Option.map_none, strOf_mk, sb_eql, sb_neq, vmg, ↓vgd, ↓vst, ↓vix, call_fail]
        rw [if_pos h3] at hr
        subst hr
        exact retQ_tc rfl rfl (x := .d (encAns (failN e2))) (by kernel_rfl) rfl rfl rfl rfl
  · skip
    simp (maxSteps := 1000000) (disch := first | assumption | omega | rfl) only [↓vmp, vme, vmb, ty, hP, dec_t, dec_f, wrap64, List.length_map, Int.toNat_natCast, Nat.reduceAdd, List.cons_append, List.nil_append, Option.map_some, Option.map_none, strOf_mk, sb_eql, sb_neq, vmg, ↓vgd, ↓vst, ↓vix, call_fail]
    rw [if_pos h1] at hr
    subst hr
    exact retQ_tc rfl rfl (x := .d (encAns (failN e))) (by kernel_rfl) rfl rfl rfl rfl
theorem call_rename {ops : Array Oper} {dst : Option Tmp} {l : List Oper} {T : List V} {S : Store} {F : Dfs} {Q : Post} {t : List Node} {o : Opn} {k0 : Nat} (hS : Small k0 t) (hk0 : k0 < 200000) (ha : o.a.length < 1000000) (hb : o.b.length < 1000000) :
    WpR cfg ops dst l T S F Q (some (.enter 50 [.d (.sl (t.map encNode)), .d (encOpn o)])) = WpL cfg ops l (putT T dst (.tup [.d (.sl ((renameN t o).1.map encNode)), .d (encAns (renameN t o).2)])) S F Q :=
  wr_call_d (ds := [.sl (t.map encNode), encOpn o]) rfl (rename_ok t k0 hk0 hS o ha hb)
end Go.Proofs.Ytghllhghboaagaa
end
/-! Rules of rewriting: slices that are made in regions that draw, and calls apart that are handed one of them. -/
section
set_option linter.unusedVariables false
set_option linter.unusedSimpArgs false
namespace Go.Vm
open Go
/-- A store that is told object by object. -/
theorem vso :
  (∀ {a : Ob} {l : Store}, (a :: l)[0]? = some a) ∧
  (∀ {a : Ob} {l : Store} {n : Nat}, (a :: l)[n + 1]? = l[n]?) ∧
  (∀ {a b : Ob} {l : Store}, (a :: l).set 0 b = b :: l) ∧
  (∀ {a b : Ob} {l : Store} {n : Nat}, (a :: l).set (n + 1) b = a :: l.set n b) ∧
  (∀ {n : Nat}, List.replicate (n + 1) Ob.hole = .hole :: List.replicate n .hole) ∧
  (List.replicate 0 Ob.hole = []) :=
  ⟨rfl, rfl, rfl, rfl, rfl, rfl⟩
def mkO (P : Program) (e : TypeId) (z : V) : V → V → Option (Ob × (Nat → V))
  | .d (.int .i64 l), .d (.int .i64 c) => if 0 ≤ l ∧ l ≤ c ∧ c ≤ 9223372036854775807 then if room P e c.toNat && fitsT P e z then
          some (.row (List.replicate c.toNat z) e, fun id => .rs id 0 l.toNat) else none else none
  | _, _ => none
theorem mk_in {P : Program} {e : TypeId} {z : V} {n : Int} (hr : room P e n.toNat = true) (hf : fitsT P e z = true) (h0 : 0 ≤ n) (h1 : n ≤ 1000000) : mkO P e z (.d (.int .i64 n)) (.d (.int .i64 n)) = some (.row (List.replicate n.toNat z) e, fun id => .rs id 0 n.toNat) := by
  simp only [mkO]
  rw [if_pos ⟨h0, Int.le_refl _, by omega⟩, if_pos (by rw [hr, hf]; rfl)]
section
variable {C : Cfg} {S : Store} {T : List V} {dst : Option Tmp} {ops : Array Oper} {F : Dfs} {Q : Post} {K : List Nat → List (Nat × Nat) → List V → Store → Prop} {rd : List Nat} {cs : List (Nat × Nat)} {i : Nat}
theorem wa_some {base : Nat} {K : List (Nat × Nat) → List V → Store → Prop} {ob : Ob} {f : Nat → V} : WpA base K cs i dst T S (some (ob, f)) = (S[base + i]? = some .hole ∧ K (cs ++ [(i, 2)]) (putT T dst (f (base + i))) (S.set (base + i) ob)) := rfl
theorem ak_make {ty : TypeId} {pos : String} {after : Array Edge} {g : Option (Nat × Bool)} {t : TypeId} {l c : Operand} : addsK ⟨dst, .makeSlice t l c, ty, pos, after, g⟩ = true := rfl
theorem ad_make {P : Program} {ty : TypeId} {pos : String} {after : Array Edge} {g : Option (Nat × Bool)} {t e : TypeId} {l c : Operand} {z : V} (hu : P.underlying t = some (.slice e)) (hz : zeroV P e = some z) : addO P T ⟨dst, .makeSlice t l c, ty, pos, after, g⟩ = mkO P e z (evalO T l) (evalO T c) := by
  simp only [addO, hu, hz]
  unfold mkO
  split
  · rename_i heq; simp only [Option.some.injEq] at heq; obtain ⟨h1, h2, h3⟩ := And.intro ‹_› (And.intro ‹_› heq); subst h3; simp_all
  · rename_i h; split
    · exfalso; simp_all
    · rfl
theorem mark_one {id : Nat} {xs : List D} {e : TypeId} (hr : S[id]? = some (.row (xs.map .d) e)) : mark S [id] S [id] = some (S.set id (.fz xs e)) := by
  have h3 : allO (frz S frzFuel) (xs.map V.d) = some xs := allO_d (n := 11) xs
  have h4 : (xs.map V.d).flatMap (frzIds S frzFuel) = [] := flat_d xs
  simp only [mark, hr, frzOb, h3, Option.map_some, obIds, h4, List.all_nil, if_true]
theorem call_row {n : Nat} {f : FuncId} {args : List V} {ds : List D} {v : V} {id : Nat} {xs : List D} {e : TypeId} (hs : C.shared f = false) (hf : allO (frz S frzFuel) args = some ds) (hi : args.flatMap (frzIds S frzFuel) = [id]) (hr : S[id]? = some (.row (xs.map .d) e)) (hp : plainOut (.ret v) = false) (hn : answer C (run C n) f ds = some (.ret v)) : callV C (run C n) f args S = some (.ret v, S.set id (.fz xs e), 3) := by
  unfold callV
  simp only [hs, Bool.false_eq_true, if_false, hf, hn, hi, List.isEmpty_cons, hp, mark_one hr]
/-- A call apart that is handed a row of data, in a region that draws. -/
theorem we_call_row {f : FuncId} {args : List V} {ds : List D} {v : V} {id : Nat} {xs : List D} {e : TypeId} (hs : C.shared f = false) (hf : allO (frz S frzFuel) args = some ds) (hi : args.flatMap (frzIds S frzFuel) = [id]) (hr : S[id]? = some (.row (xs.map .d) e)) (hp : plainOut (.ret v) = false) (he : Ev C f ds (.ret v)) :
    WpE C ops F Q K rd cs i dst T S (some (.enter f args)) = (bitsOk ops rd i 3 ∧ K rd (cs ++ [(i, 3)]) (putT T dst v) (S.set id (.fz xs e))) := by
  obtain ⟨n, hn⟩ := he
  have hc : callV C (run C n) f args S = some (.ret v, S.set id (.fz xs e), 3) := call_row hs hf hi hr hp hn
  apply propext
  constructor
  · rintro ⟨m, v', S', c, h1, h2, h3⟩
    have := callV_det h1 hc
    simp only [Prod.mk.injEq] at this
    obtain ⟨h4, rfl, rfl⟩ := this
    cases h4
    exact ⟨h2, h3⟩
  · exact fun h => ⟨n, _, _, _, hc, h.1, h.2⟩
theorem rep_map {n : Nat} {x : D} : List.replicate n (V.d x) = (List.replicate n x).map .d := by simp
end
section
variable {C : Cfg} {ops : Array Oper} {dst : Option Tmp} {ty : TypeId} {pos : String} {after : Array Edge} {l : List Oper} {T : List V} {S : Store} {F : Dfs} {Q : Post} {t : TypeId} {n : Nat} {ps : Array (Nat × Operand)} {d2 : Option Tmp} {ty2 : TypeId} {pos2 : String} {after2 : Array Edge} {g2 : Option (Nat × Bool)}
theorem wl_bs_assign {x : Operand} : WpL C ops (⟨dst, .buildSlice t n ps, ty, pos, after, none⟩ :: ⟨d2, .assign x, ty2, pos2, after2, g2⟩ :: l) T S F Q = WpR C ops dst (⟨d2, .assign x, ty2, pos2, after2, g2⟩ :: l) T S F Q (opV C.P S T ⟨dst, .buildSlice t n ps, ty, pos, after, none⟩) := wl_op' rfl
theorem wl_bs_move {x : Operand} : WpL C ops (⟨dst, .buildSlice t n ps, ty, pos, after, none⟩ :: ⟨d2, .move x, ty2, pos2, after2, g2⟩ :: l) T S F Q = WpR C ops dst (⟨d2, .move x, ty2, pos2, after2, g2⟩ :: l) T S F Q (opV C.P S T ⟨dst, .buildSlice t n ps, ty, pos, after, none⟩) := wl_op' rfl
theorem wl_bs_fieldAddr {s : TypeId} {x : Operand} {f : Nat} : WpL C ops (⟨dst, .buildSlice t n ps, ty, pos, after, none⟩ :: ⟨d2, .fieldAddr s x f, ty2, pos2, after2, g2⟩ :: l) T S F Q = WpR C ops dst (⟨d2, .fieldAddr s x f, ty2, pos2, after2, g2⟩ :: l) T S F Q (opV C.P S T ⟨dst, .buildSlice t n ps, ty, pos, after, none⟩) := wl_op' rfl
theorem wl_bs_build {s : TypeId} {qs : Array (Nat × Operand)} : WpL C ops (⟨dst, .buildSlice t n ps, ty, pos, after, none⟩ :: ⟨d2, .build s qs, ty2, pos2, after2, g2⟩ :: l) T S F Q = WpR C ops dst (⟨d2, .build s qs, ty2, pos2, after2, g2⟩ :: l) T S F Q (opV C.P S T ⟨dst, .buildSlice t n ps, ty, pos, after, none⟩) := wl_op' rfl
theorem wl_bs_bs {s : TypeId} {m : Nat} {qs : Array (Nat × Operand)} : WpL C ops (⟨dst, .buildSlice t n ps, ty, pos, after, none⟩ :: ⟨d2, .buildSlice s m qs, ty2, pos2, after2, g2⟩ :: l) T S F Q = WpR C ops dst (⟨d2, .buildSlice s m qs, ty2, pos2, after2, g2⟩ :: l) T S F Q (opV C.P S T ⟨dst, .buildSlice t n ps, ty, pos, after, none⟩) := wl_op' rfl
/-- Literals of slices, ahead of other operations. -/
theorem vbs :
  (∀ {C : Cfg} {ops : Array Oper} {dst : Option Tmp} {ty : TypeId} {pos : String} {after : Array Edge} {l : List Oper} {T : List V} {S : Store} {F : Dfs} {Q : Post} {t : TypeId} {n : Nat} {ps : Array (Nat × Operand)} {d2 : Option Tmp} {ty2 : TypeId} {pos2 : String} {after2 : Array Edge} {g2 : Option (Nat × Bool)} {x : Operand}, WpL C ops (⟨dst, .buildSlice t n ps, ty, pos, after, none⟩ :: ⟨d2, .assign x, ty2, pos2, after2, g2⟩ :: l) T S F Q = WpR C ops dst (⟨d2, .assign x, ty2, pos2, after2, g2⟩ :: l) T S F Q (opV C.P S T ⟨dst, .buildSlice t n ps, ty, pos, after, none⟩)) ∧
  (∀ {C : Cfg} {ops : Array Oper} {dst : Option Tmp} {ty : TypeId} {pos : String} {after : Array Edge} {l : List Oper} {T : List V} {S : Store} {F : Dfs} {Q : Post} {t : TypeId} {n : Nat} {ps : Array (Nat × Operand)} {d2 : Option Tmp} {ty2 : TypeId} {pos2 : String} {after2 : Array Edge} {g2 : Option (Nat × Bool)} {x : Operand}, WpL C ops (⟨dst, .buildSlice t n ps, ty, pos, after, none⟩ :: ⟨d2, .move x, ty2, pos2, after2, g2⟩ :: l) T S F Q = WpR C ops dst (⟨d2, .move x, ty2, pos2, after2, g2⟩ :: l) T S F Q (opV C.P S T ⟨dst, .buildSlice t n ps, ty, pos, after, none⟩)) ∧
  (∀ {C : Cfg} {ops : Array Oper} {dst : Option Tmp} {ty : TypeId} {pos : String} {after : Array Edge} {l : List Oper} {T : List V} {S : Store} {F : Dfs} {Q : Post} {t : TypeId} {n : Nat} {ps : Array (Nat × Operand)} {d2 : Option Tmp} {ty2 : TypeId} {pos2 : String} {after2 : Array Edge} {g2 : Option (Nat × Bool)} {s : TypeId} {x : Operand} {f : Nat}, WpL C ops (⟨dst, .buildSlice t n ps, ty, pos, after, none⟩ :: ⟨d2, .fieldAddr s x f, ty2, pos2, after2, g2⟩ :: l) T S F Q = WpR C ops dst (⟨d2, .fieldAddr s x f, ty2, pos2, after2, g2⟩ :: l) T S F Q (opV C.P S T ⟨dst, .buildSlice t n ps, ty, pos, after, none⟩)) ∧
  (∀ {C : Cfg} {ops : Array Oper} {dst : Option Tmp} {ty : TypeId} {pos : String} {after : Array Edge} {l : List Oper} {T : List V} {S : Store} {F : Dfs} {Q : Post} {t : TypeId} {n : Nat} {ps : Array (Nat × Operand)} {d2 : Option Tmp} {ty2 : TypeId} {pos2 : String} {after2 : Array Edge} {g2 : Option (Nat × Bool)} {s : TypeId} {qs : Array (Nat × Operand)}, WpL C ops (⟨dst, .buildSlice t n ps, ty, pos, after, none⟩ :: ⟨d2, .build s qs, ty2, pos2, after2, g2⟩ :: l) T S F Q = WpR C ops dst (⟨d2, .build s qs, ty2, pos2, after2, g2⟩ :: l) T S F Q (opV C.P S T ⟨dst, .buildSlice t n ps, ty, pos, after, none⟩)) ∧
  (∀ {C : Cfg} {ops : Array Oper} {dst : Option Tmp} {ty : TypeId} {pos : String} {after : Array Edge} {l : List Oper} {T : List V} {S : Store} {F : Dfs} {Q : Post} {t : TypeId} {n : Nat} {ps : Array (Nat × Operand)} {d2 : Option Tmp} {ty2 : TypeId} {pos2 : String} {after2 : Array Edge} {g2 : Option (Nat × Bool)} {s : TypeId} {m : Nat} {qs : Array (Nat × Operand)}, WpL C ops (⟨dst, .buildSlice t n ps, ty, pos, after, none⟩ :: ⟨d2, .buildSlice s m qs, ty2, pos2, after2, g2⟩ :: l) T S F Q = WpR C ops dst (⟨d2, .buildSlice s m qs, ty2, pos2, after2, g2⟩ :: l) T S F Q (opV C.P S T ⟨dst, .buildSlice t n ps, ty, pos, after, none⟩)) :=
  ⟨wl_bs_assign, wl_bs_move, wl_bs_fieldAddr, wl_bs_build, wl_bs_bs⟩
end
theorem append_all {P : Program} {S : Store} {t e : TypeId} {xs : List D} (hu : P.underlying t = some (.slice e)) (hz : zOk P e = true) (hs : (sz P e).isSome = true) (hf : ∀ x ∈ xs, fitsD P e x = true) (hr : room P e xs.length = true) :
    ∃ v' S' c, appendV P S t t (.ts []) (.d (.sl xs)) = some (v', S', c) ∧ OwnS S' v' e (xs.map .d) ∧ (∀ j o, S[j]? = some o → S'[j]? = some o ∧ NotAt v' j) ∧ S.length ≤ S'.length := by
  have hft : (xs.map V.d).all (fitsT P e) = true := by
    rw [List.all_map, List.all_eq_true]
    intro x hx
    have h := hf x hx
    unfold fitsD at h
    show fitsT P e (.d x) = true
    unfold fitsT
    simp only [Bool.and_eq_true] at h ⊢
    refine ⟨⟨rfl, h.1⟩, ?_⟩
    simpa [V.cells] using h.2
  have hsrc : srcV P S e t (.d (.sl xs)) = some (xs.map .d) := by
    simp only [srcV, hu, elemsV, hft, hs, Bool.and_self, if_true]
  cases xs with
  | nil => exact ⟨.ts [], S, 1, by simp only [appendV, hu, hsrc, List.map_nil], .inl ⟨rfl, rfl⟩, fun j o hj => ⟨hj, fun off l h => by cases h⟩, Nat.le_refl _⟩
  | cons y r =>
    refine ⟨.rs S.length 0 (r.length + 1), S ++ [.row ((y :: r).map .d) e], 2, ?_, .inr ⟨S.length, by simp, by simp⟩, fun j o hj => ⟨?_, ?_⟩, by simp⟩
    · have hr1 : room P e (0 + (r.length + 1)) = true := by simpa using hr
      simp only [appendV, hu, hsrc, hz, if_true, List.map_cons, List.all_nil, Bool.true_and, List.length_nil, List.length_map, List.map_nil, List.nil_append]
      rw [if_pos hr1, Nat.zero_add]
    · rw [List.getElem?_append_left (getLen hj)]; exact hj
    · intro off l h
      have := getLen hj
      cases h; omega
theorem rowE_app {S : Store} {x : V} {e : TypeId} : rowE (S ++ [.row [x] e]) S.length 0 = some x := rowE_of (e := e) (by simp)
theorem putRow_app {S : Store} {x y : V} {e : TypeId} : putRow (S ++ [.row [x] e]) S.length 0 y = some (S ++ [.row [y] e]) := by
  rw [putRow_of (x := x) (e := e) (by simp)]
  simp
end Go.Vm
end
/-! The document's model: rows of bytes: parts, and bytes laid over others. -/
section
set_option linter.unusedVariables false
set_option linter.unusedSimpArgs false
set_option maxRecDepth 10000
set_option maxHeartbeats 2000000
namespace Go.Proofs.Ytghllhghboaagaa
open Go.Vm
theorem ffB {l : List UInt8} : fitsT Try.prog 29 (.d (encB l)) = true := by kernel_rfl
theorem ldB {S : Store} {l : List UInt8} : loadV Try.prog S 29 (.d (.ptr (encB l))) = some (.d (encB l)) := by kernel_rfl
theorem lenB {S : Store} {l : List UInt8} : builtinV Try.prog S .len [29] [.d (encB l)] = some (.val (.d (.int .i64 l.length)) S 0) := by
  unfold encB; rw [len29, List.length_map]
theorem ixB {S : Store} {l : List UInt8} {i : Nat} (h : i < l.length) : indexAddrV Try.prog S 29 (.d (encB l)) (.d (.int .i64 i)) = some (.d (.ptr (.int .u8 (l[i].toNat : Int)))) := ix29 h
def layA (at_ : Int) (data : List UInt8) : Nat → List UInt8 → List UInt8
  | _, [] => []
  | i, x :: r => (if 0 ≤ at_ ∧ at_ ≤ i ∧ (i : Int) - at_ < data.length then data.getD ((i : Int) - at_).toNat 0 else x) :: layA at_ data (i + 1) r
def layN (b : List UInt8) (at_ : Int) (data : List UInt8) : List UInt8 := layA at_ data 0 b
theorem len_layA {a : Int} {d : List UInt8} : ∀ {i : Nat} {l : List UInt8}, (layA a d i l).length = l.length
  | _, [] => rfl
  | i, x :: r => by simp [layA, len_layA]
theorem len_layN {b d : List UInt8} {a : Int} : (layN b a d).length = b.length := len_layA
theorem lay_l (b data : List UInt8) (at_ : Int) (hl : b.length < 1000000) (hd : data.length < 1000000) (h1 : 0 ≤ at_) (h2 : at_ ≤ 1000000) (R : Post) (g6 : V) : ∀ (k i : Nat) (xs : List UInt8) (S : Store) (v7 g9 g10 g11 g12 g13 g14 g15 g16 g17 g18 g19 g20 g21 g22 g23 g24 g25 g26 g27 g28 g29 g30 g31 g32 g33 g34 g35 g36 g37 g38 g39 g40 g41 g42 g43 g44 g45 : V),
   b.length - i = k → i ≤ b.length → xs.length = i → OwnS S v7 5 (xs.map fun x => .d (.int .u8 x.toNat)) →
   (∀ S v7 i' ys g9 g10 g11 g12 g13 g14 g15 g16 g17 g18 g19 g20 g21 g22 g23 g24 g25 g26 g27 g28 g29 g30 g31 g32 g33 g34 g35 g36 g37 g38 g39 g40 g41 g42 g43 g44 g45, ys = xs ++ layA at_ data i (b.drop i) → OwnS S v7 5 (ys.map fun x => .d (.int .u8 x.toNat)) → R (.exit 0) ((.d (encB b)) :: (.d (.int .i64 at_)) :: (.d (encB data)) :: (.tup []) :: (.tup []) :: (.tup []) :: g6 :: v7 :: i' :: g9 :: g10 :: g11 :: g12 :: g13 :: g14 :: g15 :: g16 :: g17 :: g18 :: g19 :: g20 :: g21 :: g22 :: g23 :: g24 :: g25 :: g26 :: g27 :: g28 :: g29 :: g30 :: g31 :: g32 :: g33 :: g34 :: g35 :: g36 :: g37 :: g38 :: g39 :: g40 :: g41 :: g42 :: g43 :: g44 :: g45 :: []) S []) →
   Wp cfg (.loop (lpOf (Try.f94.body.getD .skip) 0)) ((.d (encB b)) :: (.d (.int .i64 at_)) :: (.d (encB data)) :: (.tup []) :: (.tup []) :: (.tup []) :: g6 :: v7 :: (.d (.int .i64 i)) :: g9 :: g10 :: g11 :: g12 :: g13 :: g14 :: g15 :: g16 :: g17 :: g18 :: g19 :: g20 :: g21 :: g22 :: g23 :: g24 :: g25 :: g26 :: g27 :: g28 :: g29 :: g30 :: g31 :: g32 :: g33 :: g34 :: g35 :: g36 :: g37 :: g38 :: g39 :: g40 :: g41 :: g42 :: g43 :: g44 :: g45 :: []) S [] R := by
  intro k
  induction k with
  | zero =>
    intro i xs S v7 g9 g10 g11 g12 g13 g14 g15 g16 g17 g18 g19 g20 g21 g22 g23 g24 g25 g26 g27 g28 g29 g30 g31 g32 g33 g34 g35 g36 g37 g38 g39 g40 g41 g42 g43 g44 g45 hk hi hxl ho hR
    have hie : i = b.length := by omega
    rw [wk_of]
    refine wk_loop ?_
    conv => arg 2; whnf
    simp (maxSteps := 1000000) (disch := first | assumption | omega | rfl) only [↓vmp, vme, vmb, ty, hP, dec_t, dec_f, wrap64, List.length_map, Int.toNat_natCast, Nat.reduceAdd, List.cons_append, List.nil_append, Option.map_some, Option.map_none, strOf_mk, sb_eql, sb_neq, vmg, ↓vgd, ↓vst, ↓vix, lenB]
    exact hR _ _ _ xs _ _ _ _ _ _ _ _ _ _ _ _ _ _ _ _ _ _ _ _ _ _ _ _ _ _ _ _ _ _ _ _ _ _ _ _ _ (by rw [hie, List.drop_length]; simp [layA]) ho
  | succ k ih =>
    intro i xs S v7 g9 g10 g11 g12 g13 g14 g15 g16 g17 g18 g19 g20 g21 g22 g23 g24 g25 g26 g27 g28 g29 g30 g31 g32 g33 g34 g35 g36 g37 g38 g39 g40 g41 g42 g43 g44 g45 hk hi hxl ho hR
    have hlt : i < b.length := by omega
    have hdr : b.drop i = b[i] :: b.drop (i + 1) := List.drop_eq_getElem_cons hlt
    rw [hdr] at hR
    rw [wk_of]
    refine wk_loop ?_
    conv => arg 2; whnf
    by_cases c1 : (i : Int) ≥ at_
    · by_cases c2 : (i : Int) - at_ < data.length
      · obtain ⟨j, hj⟩ : ∃ j : Nat, (i : Int) - at_ = j := ⟨((i : Int) - at_).toNat, by omega⟩
        have hjl : j < data.length := by omega
        have hix := ixB (S := S) hjl
        rw [← hj] at hix
        obtain ⟨v', S', c, ha, ho', hfr, hlen⟩ := ap29 data[j] ho (by omega)
        simp (maxSteps := 1000000) (disch := first | assumption | omega | rfl) only [↓vmp, vme, vmb, ty, hP, dec_t, dec_f, wrap64, List.length_map, Int.toNat_natCast, Nat.reduceAdd, List.cons_append, List.nil_append, Option.map_some, Option.map_none, strOf_mk, sb_eql, sb_neq, vmg, ↓vgd, ↓vst, ↓vix, lenB, ixB, hix, ld5, ha]
        exact ih (i + 1) (xs ++ [data[j]]) S' v' _ _ _ _ _ _ _ _ _ _ _ _ _ _ _ _ _ _ _ _ _ _ _ _ _ _ _ _ _ _ _ _ _ _ _ _ _ (by omega) (by omega) (by simp; omega) ho' (fun S v7 i' ys g9 g10 g11 g12 g13 g14 g15 g16 g17 g18 g19 g20 g21 g22 g23 g24 g25 g26 g27 g28 g29 g30 g31 g32 g33 g34 g35 g36 g37 g38 g39 g40 g41 g42 g43 g44 g45 hy => hR S v7 i' ys g9 g10 g11 g12 g13 g14 g15 g16 g17 g18 g19 g20 g21 g22 g23 g24 g25 g26 g27 g28 g29 g30 g31 g32 g33 g34 g35 g36 g37 g38 g39 g40 g41 g42 g43 g44 g45 (by
          rw [hy]; simp only [layA]; rw [if_pos ⟨h1, c1, c2⟩, hj, Int.toNat_natCast, List.getD_eq_getElem?_getD, List.getElem?_eq_getElem hjl]; simp))
      · obtain ⟨v', S', c, ha, ho', hfr, hlen⟩ := ap29 b[i] ho (by omega)
        simp (maxSteps := 1000000) (disch := first | assumption | omega | rfl) only [↓vmp, vme, vmb, ty, hP, dec_t, dec_f, wrap64, List.length_map, Int.toNat_natCast, Nat.reduceAdd, List.cons_append, List.nil_append, Option.map_some, Option.map_none, strOf_mk, sb_eql, sb_neq, vmg, ↓vgd, ↓vst, ↓vix, lenB, ixB, ld5, ha]
        exact ih (i + 1) (xs ++ [b[i]]) S' v' _ _ _ _ _ _ _ _ _ _ _ _ _ _ _ _ _ _ _ _ _ _ _ _ _ _ _ _ _ _ _ _ _ _ _ _ _ (by omega) (by omega) (by simp; omega) ho' (fun S v7 i' ys g9 g10 g11 g12 g13 g14 g15 g16 g17 g18 g19 g20 g21 g22 g23 g24 g25 g26 g27 g28 g29 g30 g31 g32 g33 g34 g35 g36 g37 g38 g39 g40 g41 g42 g43 g44 g45 hy => hR S v7 i' ys g9 g10 g11 g12 g13 g14 g15 g16 g17 g18 g19 g20 g21 g22 g23 g24 g25 g26 g27 g28 g29 g30 g31 g32 g33 g34 g35 g36 g37 g38 g39 g40 g41 g42 g43 g44 g45 (by
          rw [hy]; simp only [layA]; rw [if_neg (fun h => c2 h.2.2)]; simp))
    · obtain ⟨v', S', c, ha, ho', hfr, hlen⟩ := ap29 b[i] ho (by omega)
      simp (maxSteps := 1000000) (disch := first | assumption | omega | rfl) only [↓vmp, vme, vmb, ty, hP, dec_t, dec_f, wrap64, List.length_map, Int.toNat_natCast, Nat.reduceAdd, List.cons_append, List.nil_append, Option.map_some, Option.map_none, strOf_mk, sb_eql, sb_neq, vmg, ↓vgd, ↓vst, ↓vix, lenB, ixB, ld5, ha]
      exact ih (i + 1) (xs ++ [b[i]]) S' v' _ _ _ _ _ _ _ _ _ _ _ _ _ _ _ _ _ _ _ _ _ _ _ _ _ _ _ _ _ _ _ _ _ _ _ _ _ (by omega) (by omega) (by simp; omega) ho' (fun S v7 i' ys g9 g10 g11 g12 g13 g14 g15 g16 g17 g18 g19 g20 g21 g22 g23 g24 g25 g26 g27 g28 g29 g30 g31 g32 g33 g34 g35 g36 g37 g38 g39 g40 g41 g42 g43 g44 g45 hy => hR S v7 i' ys g9 g10 g11 g12 g13 g14 g15 g16 g17 g18 g19 g20 g21 g22 g23 g24 g25 g26 g27 g28 g29 g30 g31 g32 g33 g34 g35 g36 g37 g38 g39 g40 g41 g42 g43 g44 g45 (by
        rw [hy]; simp only [layA]; rw [if_neg (fun h => c1 h.2.1)]; simp))
theorem lay_ok (b data : List UInt8) (at_ : Int) (hl : b.length < 1000000) (hd : data.length < 1000000) (h1 : 0 ≤ at_) (h2 : at_ ≤ 1000000) : Ev cfg 94 [encB b, .int .i64 at_, encB data] (.ret (.d (encB (layN b at_ data)))) := by
  refine ev_of rfl rfl body94 ?_
  show Wp cfg (Try.f94.body.getD .skip) ((.d (encB b)) :: (.d (.int .i64 at_)) :: (.d (encB data)) :: (.tup []) :: (.tup []) :: (.tup []) :: (.tup []) :: (.tup []) :: (.tup []) :: (.tup []) :: (.tup []) :: (.tup []) :: (.tup []) :: (.tup []) :: (.tup []) :: (.tup []) :: (.tup []) :: (.tup []) :: (.tup []) :: (.tup []) :: (.tup []) :: (.tup []) :: (.tup []) :: (.tup []) :: (.tup []) :: (.tup []) :: (.tup []) :: (.tup []) :: (.tup []) :: (.tup []) :: (.tup []) :: (.tup []) :: (.tup []) :: (.tup []) :: (.tup []) :: (.tup []) :: (.tup []) :: (.tup []) :: (.tup []) :: (.tup []) :: (.tup []) :: (.tup []) :: (.tup []) :: (.tup []) :: (.tup []) :: (.tup []) :: []) [] [] _
  conv => arg 2; whnf
  simp (maxSteps := 1000000) (disch := first | assumption | omega | rfl) only [↓vmp, vme, vmb, ty, hP, dec_t, dec_f, wrap64, List.length_map, Int.toNat_natCast, Nat.reduceAdd, List.cons_append, List.nil_append, Option.map_some, Option.map_none, strOf_mk, sb_eql, sb_neq, vmg, ↓vgd, ↓vst, ↓vix]
  refine lay_l b data at_ hl hd h1 h2 _ _ b.length 0 [] [] _ _ _ _ _ _ _ _ _ _ _ _ _ _ _ _ _ _ _ _ _ _ _ _ _ _ _ _ _ _ _ _ _ _ _ _ _ _ rfl (by omega) rfl OwnS.nil ?_
  intro S v7 i' ys g9 g10 g11 g12 g13 g14 g15 g16 g17 g18 g19 g20 g21 g22 g23 g24 g25 g26 g27 g28 g29 g30 g31 g32 g33 g34 g35 g36 g37 g38 g39 g40 g41 g42 g43 g44 g45 hy ho
  simp (maxSteps := 1000000) (disch := first | assumption | omega | rfl) only [↓vmp, vme, vmb, ty, hP, dec_t, dec_f, wrap64, List.length_map, Int.toNat_natCast, Nat.reduceAdd, List.cons_append, List.nil_append, Option.map_some, Option.map_none, strOf_mk, sb_eql, sb_neq, vmg, ↓vgd, ↓vst, ↓vix]
  rw [List.nil_append, List.drop_zero] at hy
  change ys = layN b at_ data at hy
  subst hy
  exact retQ_one rfl (own_one ho) (own_frz' (enc := fun x : UInt8 => D.int .u8 x.toNat) ho)
def partN (b : List UInt8) (off n : Int) : List UInt8 := if off < 0 ∨ n < 1 ∨ b.length ≤ off then [] else (b.take (if (b.length : Int) - off < n then (b.length : Int) else off + n).toNat).drop off.toNat
theorem part_ok (b : List UInt8) (off n : Int) (hl : b.length < 1000000) : Ev cfg 93 [encB b, .int .i64 off, .int .i64 n] (.ret (.d (encB (partN b off n)))) := by
  refine ev_of rfl rfl body93 ?_
  show Wp cfg (Try.f93.body.getD .skip) ((.d (encB b)) :: (.d (.int .i64 off)) :: (.d (.int .i64 n)) :: (.tup []) :: (.tup []) :: (.tup []) :: (.tup []) :: (.tup []) :: (.tup []) :: (.tup []) :: (.tup []) :: (.tup []) :: (.tup []) :: (.tup []) :: (.tup []) :: (.tup []) :: (.tup []) :: (.tup []) :: (.tup []) :: (.tup []) :: (.tup []) :: (.tup []) :: (.tup []) :: (.tup []) :: (.tup []) :: (.tup []) :: (.tup []) :: (.tup []) :: (.tup []) :: (.tup []) :: (.tup []) :: (.tup []) :: (.tup []) :: (.tup []) :: (.tup []) :: []) [] [] _
  conv => arg 2; whnf
  generalize hr : partN b off n = r
  unfold partN at hr
  by_cases c1 : off < 0
  · skip
    simp (maxSteps := 1000000) (disch := first | assumption | omega | rfl) only [↓vmp, vme, vmb, ty, hP, dec_t, dec_f, wrap64, List.length_map, Int.toNat_natCast, Nat.reduceAdd, List.cons_append, List.nil_append, Option.map_some, Option.map_none, strOf_mk, sb_eql, sb_neq, vmg, ↓vgd, ↓vst, ↓vix]
    rw [if_pos (.inl c1)] at hr; subst hr
    exact retQ_one rfl rfl rfl
  · by_cases c2 : n < 1
    · skip
      simp (maxSteps := 1000000) (disch := first | assumption | omega | rfl) only [↓vmp, vme, vmb, ty, hP, dec_t, dec_f, wrap64, List.length_map, Int.toNat_natCast, Nat.reduceAdd, List.cons_append, List.nil_append, Option.map_some, Option.map_none, strOf_mk, sb_eql, sb_neq, vmg, ↓vgd, ↓vst, ↓vix]
      rw [if_pos (.inr (.inl c2))] at hr; subst hr
      exact retQ_one rfl rfl rfl
    · by_cases c3 : off ≥ b.length
      · skip
        simp (maxSteps := 1000000) (disch := first | assumption | omega | rfl) only [↓vmp, vme, vmb, ty, hP, dec_t, dec_f, wrap64, List.length_map, Int.toNat_natCast, Nat.reduceAdd, List.cons_append, List.nil_append, Option.map_some, Option.map_none, strOf_mk, sb_eql, sb_neq, vmg, ↓vgd, ↓vst, ↓vix, lenB]
        rw [if_pos (.inr (.inr c3))] at hr; subst hr
        exact retQ_one rfl rfl rfl
      · rw [if_neg (by omega)] at hr
        have hsl := fun (hi : Int) (h2 : hi ≤ b.length) (h1 : off ≤ hi) => slc_sl (S := []) (P := Try.prog) (t := 29) (e := 5) (xs := b.map fun b => .int .u8 b.toNat) (lo := off) (hi := hi) Try.underlying29 (by simp only [List.all_map, List.all_eq_true]; intro x _; exact fits5 _) szo29 (by omega) h1 (by simp only [List.length_map]; omega)
        by_cases c4 : n > (b.length : Int) - off
        · have h2 := hsl (off + ((b.length : Int) - off)) (by omega) (by omega)
          change sliceV _ _ _ (.d (encB b)) _ _ = _ at h2
          simp (maxSteps := 1000000) (disch := first | assumption | omega | rfl) only [↓vmp, vme, vmb, ty, hP, dec_t, dec_f, wrap64, List.length_map, Int.toNat_natCast, Nat.reduceAdd, List.cons_append, List.nil_append, Option.map_some, Option.map_none, strOf_mk, sb_eql, sb_neq, vmg, ↓vgd, ↓vst, ↓vix, lenB, h2]
          rw [if_pos (by omega)] at hr; subst hr
          rw [show off + ((b.length : Int) - off) = b.length by omega, ← List.map_take, ← List.map_drop]
          exact retQ_one rfl rfl rfl
        · have h2 := hsl (off + n) (by omega) (by omega)
          change sliceV _ _ _ (.d (encB b)) _ _ = _ at h2
          simp (maxSteps := 1000000) (disch := first | assumption | omega | rfl) only [↓vmp, vme, vmb, ty, hP, dec_t, dec_f, wrap64, List.length_map, Int.toNat_natCast, Nat.reduceAdd, List.cons_append, List.nil_append, Option.map_some, Option.map_none, strOf_mk, sb_eql, sb_neq, vmg, ↓vgd, ↓vst, ↓vix, lenB, h2]
          rw [if_neg (by omega)] at hr; subst hr
          rw [← List.map_take, ← List.map_drop]
          exact retQ_one rfl rfl rfl
theorem call_lay {ops : Array Oper} {dst : Option Tmp} {l : List Oper} {T : List V} {S : Store} {F : Dfs} {Q : Post} {b data : List UInt8} {at_ : Int} (hl : b.length < 1000000) (hd : data.length < 1000000) (h1 : 0 ≤ at_) (h2 : at_ ≤ 1000000) :
    WpR cfg ops dst l T S F Q (some (.enter 94 [.d (encB b), .d (.int .i64 at_), .d (encB data)])) = WpL cfg ops l (putT T dst (.d (encB (layN b at_ data)))) S F Q :=
  wr_call_d (ds := [encB b, .int .i64 at_, encB data]) rfl (lay_ok b data at_ hl hd h1 h2)
theorem call_part {ops : Array Oper} {dst : Option Tmp} {l : List Oper} {T : List V} {S : Store} {F : Dfs} {Q : Post} {b : List UInt8} {off n : Int} (hl : b.length < 1000000) :
    WpR cfg ops dst l T S F Q (some (.enter 93 [.d (encB b), .d (.int .i64 off), .d (.int .i64 n)])) = WpL cfg ops l (putT T dst (.d (encB (partN b off n)))) S F Q :=
  wr_call_d (ds := [encB b, .int .i64 off, .int .i64 n]) rfl (part_ok b off n hl)
theorem dr_lay0 {ops : Array Oper} {F : Dfs} {Q : Post} {K : List Nat → List (Nat × Nat) → List V → Store → Prop} {rd : List Nat} {cs : List (Nat × Nat)} {i id n : Nat} {dst : Option Tmp} {T : List V} {S : Store} {data : List UInt8} (hn : n < 1000000) (hd : data.length < 1000000) (hr : S[id]? = some (.row (List.replicate n (.d (.int .u8 0))) 5)) :
    WpE cfg ops F Q K rd cs i dst T S (some (.enter 94 [.rs id 0 n, .d (.int .i64 0), .d (encB data)])) = (bitsOk ops rd i 3 ∧ K rd (cs ++ [(i, 3)]) (putT T dst (.d (encB (layN (List.replicate n 0) 0 data)))) (S.set id (.fz (List.replicate n (.int .u8 0)) 5))) := by
  have hr' : S[id]? = some (.row ((List.replicate n (D.int .u8 0)).map .d) 5) := by rw [hr, rep_map]
  have hrb : encB (List.replicate n 0) = .sl (List.replicate n (D.int .u8 0)) := by simp [encB]
  refine we_call_row (ds := [encB (List.replicate n 0), .int .i64 0, encB data]) rfl ?_ ?_ hr' rfl (lay_ok _ data 0 (by simp; exact hn) hd (by omega) (by omega))
  · have h1 : frz S frzFuel (.rs id 0 n) = some (encB (List.replicate n 0)) := by
      rw [hrb]
      have := own_frz (S := S) (v := .rs id 0 n) (e := 5) (ds := List.replicate n (D.int .u8 0)) (.inr ⟨id, by simp, hr'⟩)
      exact this
    simp only [allO, frz_d, h1]
  · have h1 : frzIds S frzFuel (.rs id 0 n) = [id] := by
      show (match S[id]? with | some (.row xs e) => id :: xs.flatMap (frzIds S 11) | _ => []) = _
      rw [hr']
      simp only [flat_d]
    simp only [List.flatMap_cons, h1, List.flatMap_nil, frzIds_d, List.append_nil]
end Go.Proofs.Ytghllhghboaagaa
end
/-! The document's model: Bytes. -/
section
set_option linter.unusedVariables false
set_option linter.unusedSimpArgs false
set_option maxRecDepth 10000
set_option maxHeartbeats 4000000
namespace Go.Proofs.Ytghllhghboaagaa
open Go.Vm
def cutN (n : Node) (m : Int) : Node := ⟨n.ino, n.kind, n.links, n.parent, m, layN (List.replicate m.toNat 0) 0 n.data, n.names⟩
def sizeW (n : Node) (o : Opn) : Int := if n.size > o.off + o.data.length then n.size else o.off + o.data.length
def writeN (n : Node) (o : Opn) : Node := ⟨n.ino, n.kind, n.links, n.parent, sizeW n o, layN (layN (List.replicate (sizeW n o).toNat 0) 0 n.data) o.off o.data, n.names⟩
def readA (l : List UInt8) : Ans := ⟨0, 0, 0, 0, 0, l, []⟩
/-- Of a file. -/
def bytesA (t : List Node) (n : Node) (o : Opn) : List Node × Ans :=
  if n.kind = 2 then (t, failN 7)
  else if o.does = 7 then
    if o.off < 0 then (t, failN 1)
    else if o.off > 34304 - o.data.length then (t, failN 11)
    else if o.data.length = 0 then (t, okN)
    else (withN t (writeN n o), okN)
  else if o.does = 8 then
    if o.off < 0 then (t, failN 1)
    else if o.n < 0 then (t, failN 1)
    else (t, readA (partN n.data o.off o.n))
  else if o.n < 0 then (t, failN 1)
  else if o.n > 34304 then (t, failN 11)
  else (withN t (cutN n o.n), okN)
def bytesN (t : List Node) (o : Opn) : List Node × Ans :=
  if (resolveN t o.a).2 ≠ 0 then (t, failN (resolveN t o.a).2) else bytesA t (getN t (resolveN t o.a).1) o
theorem z5 : zeroV Try.prog 5 = some (.d (.int .u8 0)) := by kernel_rfl
theorem bd52_5 {l : List UInt8} : buildV Try.prog 52 [(5, .d (encB l))] = some (.agg [.d (.int .i64 0), .d (.int .i64 0), .d (.int .i64 0), .d (.int .i64 0), .d (.int .i64 0), .d (encB l), .ts []]) := by kernel_rfl
theorem srB {a : Node} {l : List UInt8} : storeR Try.prog 29 5 (.d (encB l)) (.d (encNode a)) = some (.agg [.d (.int .i64 a.ino), .d (.int .i64 a.kind), .d (.int .i64 a.links), .d (.int .i64 a.parent), .d (.int .i64 a.size), .d (encB l), .d (.sl (a.names.map encEnt))]) := by kernel_rfl
theorem bytes_ok (t : List Node) (k0 : Nat) (hk0 : k0 < 200000) (hS : Small k0 t) (o : Opn) (ha : o.a.length < 1000000) (hd : o.data.length ≤ 1024) (hdo : o.does = 7 ∨ o.does = 8 ∨ o.does = 9) : Ev cfg 51 [.sl (t.map encNode), encOpn o] (.ret (.tup [.d (.sl ((bytesN t o).1.map encNode)), .d (encAns (bytesN t o).2)])) := by
  refine ev_of rfl rfl body51 ?_
  show Wp cfg (Try.f51.body.getD .skip) ((.d (.sl (t.map encNode))) :: (.d (encOpn o)) :: (.tup []) :: (.tup []) :: (.tup []) :: (.tup []) :: (.tup []) :: (.tup []) :: (.tup []) :: (.tup []) :: (.tup []) :: (.tup []) :: (.tup []) :: (.tup []) :: (.tup []) :: (.tup []) :: (.tup []) :: (.tup []) :: (.tup []) :: (.tup []) :: (.tup []) :: (.tup []) :: (.tup []) :: (.tup []) :: (.tup []) :: (.tup []) :: (.tup []) :: (.tup []) :: (.tup []) :: (.tup []) :: (.tup []) :: (.tup []) :: (.tup []) :: (.tup []) :: (.tup []) :: (.tup []) :: (.tup []) :: (.tup []) :: (.tup []) :: (.tup []) :: (.tup []) :: (.tup []) :: (.tup []) :: (.tup []) :: (.tup []) :: (.tup []) :: (.tup []) :: (.tup []) :: (.tup []) :: (.tup []) :: (.tup []) :: (.tup []) :: (.tup []) :: (.tup []) :: (.tup []) :: (.tup []) :: (.tup []) :: (.tup []) :: (.tup []) :: (.tup []) :: (.tup []) :: (.tup []) :: (.tup []) :: (.tup []) :: (.tup []) :: (.tup []) :: (.tup []) :: (.tup []) :: (.tup []) :: (.tup []) :: (.tup []) :: (.tup []) :: (.tup []) :: (.tup []) :: (.tup []) :: (.tup []) :: (.tup []) :: (.tup []) :: (.tup []) :: (.tup []) :: (.tup []) :: (.tup []) :: (.tup []) :: (.tup []) :: (.tup []) :: (.tup []) :: (.tup []) :: (.tup []) :: (.tup []) :: (.tup []) :: (.tup []) :: (.tup []) :: (.tup []) :: (.tup []) :: (.tup []) :: (.tup []) :: (.tup []) :: (.tup []) :: (.tup []) :: (.tup []) :: (.tup []) :: (.tup []) :: (.tup []) :: (.tup []) :: (.tup []) :: (.tup []) :: (.tup []) :: (.tup []) :: (.tup []) :: (.tup []) :: (.tup []) :: (.tup []) :: (.tup []) :: (.tup []) :: (.tup []) :: (.tup []) :: (.tup []) :: (.tup []) :: (.tup []) :: (.tup []) :: (.tup []) :: (.tup []) :: (.tup []) :: (.tup []) :: (.tup []) :: (.tup []) :: (.tup []) :: (.tup []) :: (.tup []) :: (.tup []) :: (.tup []) :: (.tup []) :: (.tup []) :: (.tup []) :: (.tup []) :: (.tup []) :: (.tup []) :: (.tup []) :: (.tup []) :: (.tup []) :: (.tup []) :: (.tup []) :: (.tup []) :: (.tup []) :: (.tup []) :: (.tup []) :: (.tup []) :: []) [] [] _
  conv => arg 2; whnf
  have hk1 : k0 < 300000 := by omega
  have hlt : t.length < 400000 := Nat.lt_of_le_of_lt hS.len (by omega)
  have hlt' : t.length < 1000000 := by omega
  simp (maxSteps := 1000000) (disch := first | assumption | omega | rfl) only [↓vmp, vme, vmb, ty, hP, dec_t, dec_f, wrap64, List.length_map, Int.toNat_natCast, Nat.reduceAdd, List.cons_append, List.nil_append, Option.map_some, Option.map_none, strOf_mk, sb_eql, sb_neq, vmg, ↓vgd, ↓vst, ↓vix, call_resolve hS hk1]
  generalize hr : bytesN t o = r
  unfold bytesN at hr
  generalize resolveN t o.a = w at hr ⊢
  obtain ⟨ino, e⟩ := w
  simp only at hr
  have hsz := hS.gsiz ino
  obtain ⟨hs0, hs1, hs2⟩ := hsz
  by_cases h1 : e = 0
  · simp (maxSteps := 1000000) (disch := first | assumption | omega | rfl) only [↓vmp, vme, vmb, ty, hP, dec_t, dec_f, wrap64, List.length_map, Int.toNat_natCast, Nat.reduceAdd, List.cons_append, List.nil_append, Option.map_some, Option.map_none, strOf_mk, sb_eql, sb_neq, vmg, ↓vgd, ↓vst, ↓vix, call_get]
    rw [if_neg (by simp [h1])] at hr
    generalize getN t ino = n at hr hs0 hs1 hs2 ⊢
    have hdl : n.data.length < 1000000 := by omega
    unfold bytesA at hr
    by_cases k : n.kind = 2
    · skip
      simp (maxSteps := 1000000) (disch := first | assumption | omega | rfl) only [↓vmp, vme, vmb, ty, hP, dec_t, dec_f, wrap64, List.length_map, Int.toNat_natCast, Nat.reduceAdd, List.cons_append, List.nil_append, Option.map_some, Option.map_none, strOf_mk, sb_eql, sb_neq, vmg, ↓vgd, ↓vst, ↓vix, call_fail]
      rw [if_pos k] at hr
      subst hr
      exact retQ_tc rfl rfl (x := .d (encAns (failN 7))) (by kernel_rfl) rfl rfl rfl rfl
    · rw [if_neg k] at hr
      by_cases d7 : o.does = 7
      · have d8 : ¬ o.does = 8 := by omega
        have d9 : ¬ o.does = 9 := by omega
        rw [if_pos d7] at hr
        by_cases c1 : o.off < 0
        · skip
          simp (maxSteps := 1000000) (disch := first | assumption | omega | rfl) only [↓vmp, vme, vmb, ty, hP, dec_t, dec_f, wrap64, List.length_map, Int.toNat_natCast, Nat.reduceAdd, List.cons_append, List.nil_append, Option.map_some, Option.map_none, strOf_mk, sb_eql, sb_neq, vmg, ↓vgd, ↓vst, ↓vix, call_fail]
          rw [if_pos c1] at hr
          subst hr
          exact retQ_tc rfl rfl (x := .d (encAns (failN 1))) (by kernel_rfl) rfl rfl rfl rfl
        · rw [if_neg c1] at hr
          by_cases c2 : o.off > 34304 - o.data.length
          · skip
            simp (maxSteps := 1000000) (disch := first | assumption | omega | rfl) only [↓vmp, vme, vmb, ty, hP, dec_t, dec_f, wrap64, List.length_map, Int.toNat_natCast, Nat.reduceAdd, List.cons_append, List.nil_append, Option.map_some, Option.map_none, strOf_mk, sb_eql, sb_neq, vmg, ↓vgd, ↓vst, ↓vix, call_fail, lenB, ffB]
            rw [if_pos c2] at hr
            subst hr
            exact retQ_tc rfl rfl (x := .d (encAns (failN 11))) (by kernel_rfl) rfl rfl rfl rfl
          · rw [if_neg c2] at hr
            by_cases c3 : o.data.length = 0
            · skip
              simp (maxSteps := 1000000) (disch := first | assumption | omega | rfl) only [↓vmp, vme, vmb, ty, hP, dec_t, dec_f, wrap64, List.length_map, Int.toNat_natCast, Nat.reduceAdd, List.cons_append, List.nil_append, Option.map_some, Option.map_none, strOf_mk, sb_eql, sb_neq, vmg, ↓vgd, ↓vst, ↓vix, call_fail, lenB, ffB, bd52_0]
              rw [if_pos c3] at hr
              subst hr
              exact retQ_tc rfl rfl (x := .agg [.d (.int .i64 0), .d (.int .i64 0), .d (.int .i64 0), .d (.int .i64 0), .d (.int .i64 0), .ts [], .ts []]) (by kernel_rfl) rfl rfl rfl rfl
            · rw [if_neg c3] at hr
              have hz0 : fitsT Try.prog 5 (.d (.int .u8 0)) = true := fitsT5 0
              by_cases c4 : n.size > o.off + o.data.length
              · have hsw : sizeW n o = n.size := if_pos c4
                have hroom : room Try.prog 5 n.size.toNat = true := room29 (by omega)
                have hsn : n.size.toNat < 1000000 := by omega
                have hbl : (layN (List.replicate n.size.toNat 0) 0 n.data).length < 1000000 := by rw [len_layN, List.length_replicate]; omega
                simp (maxSteps := 1000000) (disch := first | assumption | omega | rfl) only [↓vmp, vme, vmb, ty, hP, dec_t, dec_f, wrap64, List.length_map, Int.toNat_natCast, Nat.reduceAdd, List.cons_append, List.nil_append, Option.map_some, Option.map_none, strOf_mk, sb_eql, sb_neq, vmg, ↓vgd, ↓vst, ↓vix, lenB, ffB]
                refine wk_draw (is := [0, 2, 3, 1, 4, 5]) (h := 6) (by kernel_rfl) (by kernel_rfl) ?_
                simp (maxSteps := 1000000) (disch := first | assumption | omega | rfl) only [List.replicate_zero, eq_self, vmd, vmk, vmo, vmg, vme, vmb, ty, hP, dec_t, dec_f, wrap64, List.length_map, Int.toNat_natCast, Nat.reduceAdd, ↓vgd, ↓vst, ↓vix, vso, wa_some, ak_make, ad_make Try.underlying29 z5, mk_in hroom hz0, true_and]
                rw [dr_lay0 hsn hdl rfl]
                refine ⟨fun _ => by kernel_rfl, ?_⟩
                simp (maxSteps := 1000000) (disch := first | assumption | omega | rfl) only [List.replicate_zero, eq_self, vmd, vmk, vmo, vmg, vme, vmb, ty, hP, dec_t, dec_f, wrap64, List.length_map, Int.toNat_natCast, Nat.reduceAdd, ↓vgd, ↓vst, ↓vix, vso]
                refine ⟨by kernel_rfl, ?_⟩
                simp (maxSteps := 1000000) (disch := first | assumption | omega | rfl) only [↓vmp, vme, vmb, ty, hP, dec_t, dec_f, wrap64, List.length_map, Int.toNat_natCast, Nat.reduceAdd, List.cons_append, List.nil_append, Option.map_some, Option.map_none, strOf_mk, sb_eql, sb_neq, vmg, ↓vgd, ↓vst, ↓vix, call_lay, ffB, srB, call_withA, bd52_0]
                subst hr
                unfold writeN
                rw [hsw]
                exact retQ_tc rfl rfl (x := .agg [.d (.int .i64 0), .d (.int .i64 0), .d (.int .i64 0), .d (.int .i64 0), .d (.int .i64 0), .ts [], .ts []]) (by kernel_rfl) rfl rfl rfl rfl
              · have hsw : sizeW n o = o.off + o.data.length := if_neg c4
                have hroom : room Try.prog 5 (o.off + o.data.length).toNat = true := room29 (by omega)
                have hsn : (o.off + o.data.length).toNat < 1000000 := by omega
                have hbl : (layN (List.replicate (o.off + o.data.length).toNat 0) 0 n.data).length < 1000000 := by rw [len_layN, List.length_replicate]; omega
                simp (maxSteps := 1000000) (disch := first | assumption | omega | rfl) only [↓vmp, vme, vmb, ty, hP, dec_t, dec_f, wrap64, List.length_map, Int.toNat_natCast, Nat.reduceAdd, List.cons_append, List.nil_append, Option.map_some, Option.map_none, strOf_mk, sb_eql, sb_neq, vmg, ↓vgd, ↓vst, ↓vix, lenB, ffB]
                refine wk_draw (is := [0, 2, 3, 1, 4, 5]) (h := 6) (by kernel_rfl) (by kernel_rfl) ?_
                simp (maxSteps := 1000000) (disch := first | assumption | omega | rfl) only [List.replicate_zero, eq_self, vmd, vmk, vmo, vmg, vme, vmb, ty, hP, dec_t, dec_f, wrap64, List.length_map, Int.toNat_natCast, Nat.reduceAdd, ↓vgd, ↓vst, ↓vix, vso, wa_some, ak_make, ad_make Try.underlying29 z5, mk_in hroom hz0, true_and]
                rw [dr_lay0 hsn hdl rfl]
                refine ⟨fun _ => by kernel_rfl, ?_⟩
                simp (maxSteps := 1000000) (disch := first | assumption | omega | rfl) only [List.replicate_zero, eq_self, vmd, vmk, vmo, vmg, vme, vmb, ty, hP, dec_t, dec_f, wrap64, List.length_map, Int.toNat_natCast, Nat.reduceAdd, ↓vgd, ↓vst, ↓vix, vso]
                refine ⟨by kernel_rfl, ?_⟩
                simp (maxSteps := 1000000) (disch := first | assumption | omega | rfl) only [↓vmp, vme, vmb, ty, hP, dec_t, dec_f, wrap64, List.length_map, Int.toNat_natCast, Nat.reduceAdd, List.cons_append, List.nil_append, Option.map_some, Option.map_none, strOf_mk, sb_eql, sb_neq, vmg, ↓vgd, ↓vst, ↓vix, call_lay, ffB, srB, call_withA, bd52_0]
                subst hr
                unfold writeN
                rw [hsw]
                exact retQ_tc rfl rfl (x := .agg [.d (.int .i64 0), .d (.int .i64 0), .d (.int .i64 0), .d (.int .i64 0), .d (.int .i64 0), .ts [], .ts []]) (by kernel_rfl) rfl rfl rfl rfl
      · rw [if_neg d7] at hr
        by_cases d8 : o.does = 8
        · have d9 : ¬ o.does = 9 := by omega
          rw [if_pos d8] at hr
          by_cases c1 : o.off < 0
          · skip
            simp (maxSteps := 1000000) (disch := first | assumption | omega | rfl) only [↓vmp, vme, vmb, ty, hP, dec_t, dec_f, wrap64, List.length_map, Int.toNat_natCast, Nat.reduceAdd, List.cons_append, List.nil_append, Option.map_some, Option.map_none, strOf_mk, sb_eql, sb_neq, vmg, ↓vgd, ↓vst, ↓vix, call_fail]
            rw [if_pos c1] at hr
            subst hr
            exact retQ_tc rfl rfl (x := .d (encAns (failN 1))) (by kernel_rfl) rfl rfl rfl rfl
          · rw [if_neg c1] at hr
            by_cases c2 : o.n < 0
            · skip
              simp (maxSteps := 1000000) (disch := first | assumption | omega | rfl) only [↓vmp, vme, vmb, ty, hP, dec_t, dec_f, wrap64, List.length_map, Int.toNat_natCast, Nat.reduceAdd, List.cons_append, List.nil_append, Option.map_some, Option.map_none, strOf_mk, sb_eql, sb_neq, vmg, ↓vgd, ↓vst, ↓vix, call_fail]
              rw [if_pos c2] at hr
              subst hr
              exact retQ_tc rfl rfl (x := .d (encAns (failN 1))) (by kernel_rfl) rfl rfl rfl rfl
            · rw [if_neg c2] at hr
              simp (maxSteps := 1000000) (disch := first | assumption | omega | rfl) only [↓vmp, vme, vmb, ty, hP, dec_t, dec_f, wrap64, List.length_map, Int.toNat_natCast, Nat.reduceAdd, List.cons_append, List.nil_append, Option.map_some, Option.map_none, strOf_mk, sb_eql, sb_neq, vmg, ↓vgd, ↓vst, ↓vix, call_part, bd52_5]
              subst hr
              exact retQ_tc rfl rfl (x := .agg [.d (.int .i64 0), .d (.int .i64 0), .d (.int .i64 0), .d (.int .i64 0), .d (.int .i64 0), .d (encB (partN n.data o.off o.n)), .ts []]) (by kernel_rfl) rfl rfl rfl rfl
        · have d9 : o.does = 9 := by omega
          rw [if_neg d8] at hr
          by_cases c2 : o.n < 0
          · skip
            simp (maxSteps := 1000000) (disch := first | assumption | omega | rfl) only [↓vmp, vme, vmb, ty, hP, dec_t, dec_f, wrap64, List.length_map, Int.toNat_natCast, Nat.reduceAdd, List.cons_append, List.nil_append, Option.map_some, Option.map_none, strOf_mk, sb_eql, sb_neq, vmg, ↓vgd, ↓vst, ↓vix, call_fail]
            rw [if_pos c2] at hr
            subst hr
            exact retQ_tc rfl rfl (x := .d (encAns (failN 1))) (by kernel_rfl) rfl rfl rfl rfl
          · rw [if_neg c2] at hr
            by_cases c3 : o.n > 34304
            · skip
              simp (maxSteps := 1000000) (disch := first | assumption | omega | rfl) only [↓vmp, vme, vmb, ty, hP, dec_t, dec_f, wrap64, List.length_map, Int.toNat_natCast, Nat.reduceAdd, List.cons_append, List.nil_append, Option.map_some, Option.map_none, strOf_mk, sb_eql, sb_neq, vmg, ↓vgd, ↓vst, ↓vix, call_fail]
              rw [if_pos c3] at hr
              subst hr
              exact retQ_tc rfl rfl (x := .d (encAns (failN 11))) (by kernel_rfl) rfl rfl rfl rfl
            · rw [if_neg c3] at hr
              have hz0 : fitsT Try.prog 5 (.d (.int .u8 0)) = true := fitsT5 0
              have hroom : room Try.prog 5 o.n.toNat = true := room29 (by omega)
              have hsn : o.n.toNat < 1000000 := by omega
              simp (maxSteps := 1000000) (disch := first | assumption | omega | rfl) only [↓vmp, vme, vmb, ty, hP, dec_t, dec_f, wrap64, List.length_map, Int.toNat_natCast, Nat.reduceAdd, List.cons_append, List.nil_append, Option.map_some, Option.map_none, strOf_mk, sb_eql, sb_neq, vmg, ↓vgd, ↓vst, ↓vix]
              refine wk_draw (is := [0, 2, 3, 1, 4, 5]) (h := 6) (by kernel_rfl) (by kernel_rfl) ?_
              simp (maxSteps := 1000000) (disch := first | assumption | omega | rfl) only [List.replicate_zero, eq_self, vmd, vmk, vmo, vmg, vme, vmb, ty, hP, dec_t, dec_f, wrap64, List.length_map, Int.toNat_natCast, Nat.reduceAdd, ↓vgd, ↓vst, ↓vix, vso, wa_some, ak_make, ad_make Try.underlying29 z5, mk_in hroom hz0, true_and]
              rw [dr_lay0 hsn hdl rfl]
              refine ⟨fun _ => by kernel_rfl, ?_⟩
              simp (maxSteps := 1000000) (disch := first | assumption | omega | rfl) only [List.replicate_zero, eq_self, vmd, vmk, vmo, vmg, vme, vmb, ty, hP, dec_t, dec_f, wrap64, List.length_map, Int.toNat_natCast, Nat.reduceAdd, ↓vgd, ↓vst, ↓vix, vso]
              refine ⟨by kernel_rfl, ?_⟩
              simp (maxSteps := 1000000) (disch := first | assumption | omega | rfl) only [↓vmp, vme, vmb, ty, hP, dec_t, dec_f, wrap64, List.length_map, Int.toNat_natCast, Nat.reduceAdd, List.cons_append, List.nil_append, Option.map_some, Option.map_none, strOf_mk, sb_eql, sb_neq, vmg, ↓vgd, ↓vst, ↓vix, ffB, srB, call_withA, bd52_0]
              subst hr
              exact retQ_tc rfl rfl (x := .agg [.d (.int .i64 0), .d (.int .i64 0), .d (.int .i64 0), .d (.int .i64 0), .d (.int .i64 0), .ts [], .ts []]) (by kernel_rfl) rfl rfl rfl rfl
  · skip
    simp (maxSteps := 1000000) (disch := first | assumption | omega | rfl) only [↓vmp, vme, vmb, ty, hP, dec_t, dec_f, wrap64, List.length_map, Int.toNat_natCast, Nat.reduceAdd, List.cons_append, List.nil_append, Option.map_some, Option.map_none, strOf_mk, sb_eql, sb_neq, vmg, ↓vgd, ↓vst, ↓vix, call_fail]
    rw [if_pos h1] at hr
    subst hr
    exact retQ_tc rfl rfl (x := .d (encAns (failN e))) (by kernel_rfl) rfl rfl rfl rfl
theorem call_bytes {ops : Array Oper} {dst : Option Tmp} {l : List Oper} {T : List V} {S : Store} {F : Dfs} {Q : Post} {t : List Node} {o : Opn} {k0 : Nat} (hS : Small k0 t) (hk0 : k0 < 200000) (ha : o.a.length < 1000000) (hd : o.data.length ≤ 1024) (hdo : o.does = 7 ∨ o.does = 8 ∨ o.does = 9) :
    WpR cfg ops dst l T S F Q (some (.enter 51 [.d (.sl (t.map encNode)), .d (encOpn o)])) = WpL cfg ops l (putT T dst (.tup [.d (.sl ((bytesN t o).1.map encNode)), .d (encAns (bytesN t o).2)])) S F Q :=
  wr_call_d (ds := [.sl (t.map encNode), encOpn o]) rfl (bytes_ok t k0 hk0 hS o ha hd hdo)
end Go.Proofs.Ytghllhghboaagaa
end
/-! The document's model: Look, May, New. -/
section
set_option linter.unusedVariables false
set_option linter.unusedSimpArgs false
set_option maxRecDepth 10000
set_option maxHeartbeats 4000000
namespace Go.Proofs.Ytghllhghboaagaa
open Go.Vm
def mayN (o : Opn) : Bool := decide (o.does ≥ 1 ∧ o.does ≤ 13 ∧ o.data.length ≤ 1024)
theorem may_ok (o : Opn) : Ev cfg 45 [encOpn o] (.ret (.d (.bool (mayN o)))) := by
  refine ev_of rfl rfl body45 ?_
  show Wp cfg (Try.f45.body.getD .skip) ((.d (encOpn o)) :: (.tup []) :: (.tup []) :: (.tup []) :: (.tup []) :: (.tup []) :: (.tup []) :: (.tup []) :: (.tup []) :: (.tup []) :: (.tup []) :: (.tup []) :: (.tup []) :: (.tup []) :: (.tup []) :: (.tup []) :: (.tup []) :: []) [] [] _
  conv => arg 2; whnf
  by_cases c1 : o.does ≥ 1
  · by_cases c2 : o.does ≤ 13
    · by_cases c3 : (o.data.length : Int) ≤ 1024
      · have e : mayN o = true := decide_eq_true ⟨c1, c2, by omega⟩
        simp (maxSteps := 1000000) (disch := first | assumption | omega | rfl) only [↓vmp, vme, vmb, ty, hP, dec_t, dec_f, wrap64, List.length_map, Int.toNat_natCast, Nat.reduceAdd, List.cons_append, List.nil_append, Option.map_some, Option.map_none, strOf_mk, sb_eql, sb_neq, vmg, ↓vgd, ↓vst, ↓vix, lenB]
        rw [e]
        exact retQ_one rfl rfl rfl
      · have e : mayN o = false := decide_eq_false (fun h => c3 (by omega))
        simp (maxSteps := 1000000) (disch := first | assumption | omega | rfl) only [↓vmp, vme, vmb, ty, hP, dec_t, dec_f, wrap64, List.length_map, Int.toNat_natCast, Nat.reduceAdd, List.cons_append, List.nil_append, Option.map_some, Option.map_none, strOf_mk, sb_eql, sb_neq, vmg, ↓vgd, ↓vst, ↓vix, lenB]
        rw [e]
        exact retQ_one rfl rfl rfl
    · have e : mayN o = false := decide_eq_false (fun h => c2 h.2.1)
      simp (maxSteps := 1000000) (disch := first | assumption | omega | rfl) only [↓vmp, vme, vmb, ty, hP, dec_t, dec_f, wrap64, List.length_map, Int.toNat_natCast, Nat.reduceAdd, List.cons_append, List.nil_append, Option.map_some, Option.map_none, strOf_mk, sb_eql, sb_neq, vmg, ↓vgd, ↓vst, ↓vix, lenB]
      rw [e]
      exact retQ_one rfl rfl rfl
  · have e : mayN o = false := decide_eq_false (fun h => c1 h.1)
    simp (maxSteps := 1000000) (disch := first | assumption | omega | rfl) only [↓vmp, vme, vmb, ty, hP, dec_t, dec_f, wrap64, List.length_map, Int.toNat_natCast, Nat.reduceAdd, List.cons_append, List.nil_append, Option.map_some, Option.map_none, strOf_mk, sb_eql, sb_neq, vmg, ↓vgd, ↓vst, ↓vix, lenB]
    rw [e]
    exact retQ_one rfl rfl rfl
theorem call_may {ops : Array Oper} {dst : Option Tmp} {l : List Oper} {T : List V} {S : Store} {F : Dfs} {Q : Post} {o : Opn} :
    WpR cfg ops dst l T S F Q (some (.enter 45 [.d (encOpn o)])) = WpL cfg ops l (putT T dst (.d (.bool (mayN o)))) S F Q :=
  wr_call_d (ds := [encOpn o]) rfl (may_ok o)
def newN : List Node := [⟨1, 2, 1, 1, 0, [], []⟩]
theorem bd91n : buildV Try.prog 91 [(0, .d (.int .i64 1)), (1, .d (.int .i64 2)), (2, .d (.int .i64 1)), (3, .d (.int .i64 1))] = some (.agg [.d (.int .i64 1), .d (.int .i64 2), .d (.int .i64 1), .d (.int .i64 1), .d (.int .i64 0), .ts [], .ts []]) := by kernel_rfl
theorem bsn27 {S : Store} : bs1 Try.prog S 27 (.agg [.d (.int .i64 1), .d (.int .i64 2), .d (.int .i64 1), .d (.int .i64 1), .d (.int .i64 0), .ts [], .ts []]) = some (.val (.ts (newN.map encNode)) S 0) := by kernel_rfl
theorem new_ok : Ev cfg 18 [] (.ret (.d (.sl (newN.map encNode)))) := by
  refine ev_of rfl rfl body18 ?_
  show Wp cfg (Try.f18.body.getD .skip) ((.tup []) :: (.tup []) :: (.tup []) :: []) [] [] _
  conv => arg 2; whnf
  simp (maxSteps := 1000000) (disch := first | assumption | omega | rfl) only [↓vmp, vme, vmb, ty, hP, dec_t, dec_f, wrap64, List.length_map, Int.toNat_natCast, Nat.reduceAdd, List.cons_append, List.nil_append, Option.map_some, Option.map_none, strOf_mk, sb_eql, sb_neq, vmg, ↓vgd, ↓vst, ↓vix, ↓vbs, bd91n, bsn27]
  exact retQ_one rfl rfl rfl
theorem call_new {ops : Array Oper} {dst : Option Tmp} {l : List Oper} {T : List V} {S : Store} {F : Dfs} {Q : Post} :
    WpR cfg ops dst l T S F Q (some (.enter 18 [])) = WpL cfg ops l (putT T dst (.d (.sl (newN.map encNode)))) S F Q :=
  wr_call_d (ds := []) rfl new_ok
def namesA (l : List (List UInt8)) : Ans := ⟨0, 0, 0, 0, 0, [], l⟩
def lookA (n : Node) (ino : Int) (o : Opn) : Ans :=
  if o.does = 11 then ⟨0, ino, n.kind, n.links, n.size, [], []⟩
  else if o.does = 12 then okN
  else if n.kind ≠ 2 then failN 6
  else namesA (n.names.map (·.name))
def lookN (t : List Node) (o : Opn) : Ans := if (resolveN t o.a).2 ≠ 0 then failN (resolveN t o.a).2 else lookA (getN t (resolveN t o.a).1) (resolveN t o.a).1 o
theorem bd52_st {a b c d : Int} : buildV Try.prog 52 [(1, .d (.int .i64 a)), (2, .d (.int .i64 b)), (3, .d (.int .i64 c)), (4, .d (.int .i64 d))] = some (.agg [.d (.int .i64 0), .d (.int .i64 a), .d (.int .i64 b), .d (.int .i64 c), .d (.int .i64 d), .ts [], .ts []]) := by kernel_rfl
theorem bd52_6 {S : Store} {v : V} {e : TypeId} {xs : List V} (h : OwnS S v e xs) : buildV Try.prog 52 [(6, v)] = some (.agg [.d (.int .i64 0), .d (.int .i64 0), .d (.int .i64 0), .d (.int .i64 0), .d (.int .i64 0), .ts [], v]) := by
  rcases h with ⟨rfl, _⟩ | ⟨id, rfl, _⟩ <;> kernel_rfl
theorem frz_ans {S : Store} {v : V} {g : List (List UInt8)} (h : OwnS S v 9 (g.map fun x => .d (.str x))) :
    frz S frzFuel (.agg [.d (.int .i64 0), .d (.int .i64 0), .d (.int .i64 0), .d (.int .i64 0), .d (.int .i64 0), .ts [], v]) = some (encAns (namesA g)) := by
  have h1 : frz S 11 v = some (.sl (g.map .str)) := own_frzn (n := 9) (own_map h)
  show (match allO (frz S 11) [.d (.int .i64 0), .d (.int .i64 0), .d (.int .i64 0), .d (.int .i64 0), .d (.int .i64 0), .ts [], v] with | some ds => if ds.any D.isAgg then none else some (D.agg ds) | none => none) = _
  have h2 : ∀ x : D, frz S 11 (.d x) = some x := fun _ => rfl
  have h3 : frz S 11 (.ts []) = some (.sl []) := rfl
  simp only [allO, h1, h2, h3]
  rfl
theorem look_l (n : Node) (hn : n.names.length < 400000) (a : V) (R : Post) (g0 g1 g2 g3 g5 g6 : V) : ∀ (k i : Nat) (xs : List (List UInt8)) (S : Store) (v8 g10 g11 g12 g13 g14 g15 g16 g17 g18 g19 g20 g21 g22 g23 g24 g25 g26 g27 g28 g29 g30 g31 g32 g33 g34 g35 g36 g37 g38 g39 g40 g41 g42 g43 g44 g45 g46 g47 g48 g49 g50 g51 g52 g53 g54 g55 g56 g57 g58 g59 g60 : V),
   n.names.length - i = k → i ≤ n.names.length → xs.length = i → OwnS S v8 9 (xs.map fun x => .d (.str x)) → S[2]? = some (.row [.d (encNode n)] 91) → S[1]? = some (.row [a] 52) → NotAt v8 2 → NotAt v8 1 →
   (∀ S v8 i' ys g10 g11 g12 g13 g14 g15 g16 g17 g18 g19 g20 g21 g22 g23 g24 g25 g26 g27 g28 g29 g30 g31 g32 g33 g34 g35 g36 g37 g38 g39 g40 g41 g42 g43 g44 g45 g46 g47 g48 g49 g50 g51 g52 g53 g54 g55 g56 g57 g58 g59 g60, ys = xs ++ (n.names.drop i).map (·.name) → OwnS S v8 9 (ys.map fun x => .d (.str x)) → S[1]? = some (.row [a] 52) → NotAt v8 1 → R (.exit 0) (g0 :: g1 :: g2 :: g3 :: (.ref 1 0 0) :: g5 :: g6 :: (.ref 2 0 0) :: v8 :: i' :: g10 :: g11 :: g12 :: g13 :: g14 :: g15 :: g16 :: g17 :: g18 :: g19 :: g20 :: g21 :: g22 :: g23 :: g24 :: g25 :: g26 :: g27 :: g28 :: g29 :: g30 :: g31 :: g32 :: g33 :: g34 :: g35 :: g36 :: g37 :: g38 :: g39 :: g40 :: g41 :: g42 :: g43 :: g44 :: g45 :: g46 :: g47 :: g48 :: g49 :: g50 :: g51 :: g52 :: g53 :: g54 :: g55 :: g56 :: g57 :: g58 :: g59 :: g60 :: []) S []) →
   Wp cfg (.loop (lpOf (Try.f52.body.getD .skip) 0)) (g0 :: g1 :: g2 :: g3 :: (.ref 1 0 0) :: g5 :: g6 :: (.ref 2 0 0) :: v8 :: (.d (.int .i64 i)) :: g10 :: g11 :: g12 :: g13 :: g14 :: g15 :: g16 :: g17 :: g18 :: g19 :: g20 :: g21 :: g22 :: g23 :: g24 :: g25 :: g26 :: g27 :: g28 :: g29 :: g30 :: g31 :: g32 :: g33 :: g34 :: g35 :: g36 :: g37 :: g38 :: g39 :: g40 :: g41 :: g42 :: g43 :: g44 :: g45 :: g46 :: g47 :: g48 :: g49 :: g50 :: g51 :: g52 :: g53 :: g54 :: g55 :: g56 :: g57 :: g58 :: g59 :: g60 :: []) S [] R := by
  intro k
  induction k with
  | zero =>
    intro i xs S v8 g10 g11 g12 g13 g14 g15 g16 g17 g18 g19 g20 g21 g22 g23 g24 g25 g26 g27 g28 g29 g30 g31 g32 g33 g34 g35 g36 g37 g38 g39 g40 g41 g42 g43 g44 g45 g46 g47 g48 g49 g50 g51 g52 g53 g54 g55 g56 g57 g58 g59 g60 hk hi hxl ho hb hc hna hnc hR
    have hie : i = n.names.length := by omega
    have hr : rowE S 2 0 = some (.d (encNode n)) := rowE_of hb
    rw [wk_of]
    refine wk_loop ?_
    conv => arg 2; whnf
    simp (maxSteps := 1000000) (disch := first | assumption | omega | rfl) only [↓vmp, vme, vmb, ty, hP, dec_t, dec_f, wrap64, List.length_map, Int.toNat_natCast, Nat.reduceAdd, List.cons_append, List.nil_append, Option.map_some, Option.map_none, strOf_mk, sb_eql, sb_neq, vmg, ↓vgd, ↓vst, ↓vix, hr]
    exact hR _ _ _ xs _ _ _ _ _ _ _ _ _ _ _ _ _ _ _ _ _ _ _ _ _ _ _ _ _ _ _ _ _ _ _ _ _ _ _ _ _ _ _ _ _ _ _ _ _ _ _ _ _ _ _ (by rw [hie, List.drop_length]; simp) ho hc hnc
  | succ k ih =>
    intro i xs S v8 g10 g11 g12 g13 g14 g15 g16 g17 g18 g19 g20 g21 g22 g23 g24 g25 g26 g27 g28 g29 g30 g31 g32 g33 g34 g35 g36 g37 g38 g39 g40 g41 g42 g43 g44 g45 g46 g47 g48 g49 g50 g51 g52 g53 g54 g55 g56 g57 g58 g59 g60 hk hi hxl ho hb hc hna hnc hR
    have hlt : i < n.names.length := by omega
    have hdr : n.names.drop i = n.names[i] :: n.names.drop (i + 1) := List.drop_eq_getElem_cons hlt
    rw [hdr] at hR
    have hr : rowE S 2 0 = some (.d (encNode n)) := rowE_of hb
    obtain ⟨v', S', c, ha, ho', hfr, hlen⟩ := ap42 n.names[i].name ho (by omega)
    obtain ⟨hb', hna'⟩ := hfr _ _ hb hna
    obtain ⟨hc', hnc'⟩ := hfr _ _ hc hnc
    rw [wk_of]
    refine wk_loop ?_
    conv => arg 2; whnf
    simp (maxSteps := 1000000) (disch := first | assumption | omega | rfl) only [↓vmp, vme, vmb, ty, hP, dec_t, dec_f, wrap64, List.length_map, Int.toNat_natCast, Nat.reduceAdd, List.cons_append, List.nil_append, Option.map_some, Option.map_none, strOf_mk, sb_eql, sb_neq, vmg, ↓vgd, ↓vst, ↓vix, hr, ha]
    exact ih (i + 1) (xs ++ [n.names[i].name]) S' v' _ _ _ _ _ _ _ _ _ _ _ _ _ _ _ _ _ _ _ _ _ _ _ _ _ _ _ _ _ _ _ _ _ _ _ _ _ _ _ _ _ _ _ _ _ _ _ _ _ _ _ (by omega) (by omega) (by simp; omega) ho' hb' hc' hna' hnc' (fun S v8 i' ys g10 g11 g12 g13 g14 g15 g16 g17 g18 g19 g20 g21 g22 g23 g24 g25 g26 g27 g28 g29 g30 g31 g32 g33 g34 g35 g36 g37 g38 g39 g40 g41 g42 g43 g44 g45 g46 g47 g48 g49 g50 g51 g52 g53 g54 g55 g56 g57 g58 g59 g60 hy => hR S v8 i' ys g10 g11 g12 g13 g14 g15 g16 g17 g18 g19 g20 g21 g22 g23 g24 g25 g26 g27 g28 g29 g30 g31 g32 g33 g34 g35 g36 g37 g38 g39 g40 g41 g42 g43 g44 g45 g46 g47 g48 g49 g50 g51 g52 g53 g54 g55 g56 g57 g58 g59 g60 (by rw [hy, List.map_cons, List.append_assoc]; rfl))
theorem look_ok (t : List Node) (k0 : Nat) (hk0 : k0 < 200000) (hS : Small k0 t) (o : Opn) (ha : o.a.length < 1000000) : Ev cfg 52 [.sl (t.map encNode), encOpn o] (.ret (.d (encAns (lookN t o)))) := by
  refine ev_of rfl rfl body52 ?_
  show Wp cfg (Try.f52.body.getD .skip) ((.d (.sl (t.map encNode))) :: (.d (encOpn o)) :: (.tup []) :: (.tup []) :: (.tup []) :: (.tup []) :: (.tup []) :: (.tup []) :: (.tup []) :: (.tup []) :: (.tup []) :: (.tup []) :: (.tup []) :: (.tup []) :: (.tup []) :: (.tup []) :: (.tup []) :: (.tup []) :: (.tup []) :: (.tup []) :: (.tup []) :: (.tup []) :: (.tup []) :: (.tup []) :: (.tup []) :: (.tup []) :: (.tup []) :: (.tup []) :: (.tup []) :: (.tup []) :: (.tup []) :: (.tup []) :: (.tup []) :: (.tup []) :: (.tup []) :: (.tup []) :: (.tup []) :: (.tup []) :: (.tup []) :: (.tup []) :: (.tup []) :: (.tup []) :: (.tup []) :: (.tup []) :: (.tup []) :: (.tup []) :: (.tup []) :: (.tup []) :: (.tup []) :: (.tup []) :: (.tup []) :: (.tup []) :: (.tup []) :: (.tup []) :: (.tup []) :: (.tup []) :: (.tup []) :: (.tup []) :: (.tup []) :: (.tup []) :: (.tup []) :: []) [] [] _
  conv => arg 2; whnf
  have hk1 : k0 < 300000 := by omega
  have hlt : t.length < 400000 := Nat.lt_of_le_of_lt hS.len (by omega)
  have hlt' : t.length < 1000000 := by omega
  simp (maxSteps := 1000000) (disch := first | assumption | omega | rfl) only [↓vmp, vme, vmb, ty, hP, dec_t, dec_f, wrap64, List.length_map, Int.toNat_natCast, Nat.reduceAdd, List.cons_append, List.nil_append, Option.map_some, Option.map_none, strOf_mk, sb_eql, sb_neq, vmg, ↓vgd, ↓vst, ↓vix, call_resolve hS hk1]
  generalize hr : lookN t o = r
  unfold lookN at hr
  generalize resolveN t o.a = w at hr ⊢
  obtain ⟨ino, e⟩ := w
  simp only at hr
  have hgn : (getN t ino).names.length < 400000 := Nat.lt_of_le_of_lt (hS.gnms _) (by omega)
  by_cases h1 : e = 0
  · simp (maxSteps := 1000000) (disch := first | assumption | omega | rfl) only [↓vmp, vme, vmb, ty, hP, dec_t, dec_f, wrap64, List.length_map, Int.toNat_natCast, Nat.reduceAdd, List.cons_append, List.nil_append, Option.map_some, Option.map_none, strOf_mk, sb_eql, sb_neq, vmg, ↓vgd, ↓vst, ↓vix, call_get]
    rw [if_neg (by simp [h1])] at hr
    generalize getN t ino = n at hr hgn ⊢
    unfold lookA at hr
    by_cases d1 : o.does = 11
    · skip
      simp (maxSteps := 1000000) (disch := first | assumption | omega | rfl) only [↓vmp, vme, vmb, ty, hP, dec_t, dec_f, wrap64, List.length_map, Int.toNat_natCast, Nat.reduceAdd, List.cons_append, List.nil_append, Option.map_some, Option.map_none, strOf_mk, sb_eql, sb_neq, vmg, ↓vgd, ↓vst, ↓vix, bd52_st]
      rw [if_pos d1] at hr
      subst hr
      exact retQ_cell rfl (v := .agg [.d (.int .i64 0), .d (.int .i64 ino), .d (.int .i64 n.kind), .d (.int .i64 n.links), .d (.int .i64 n.size), .ts [], .ts []]) (by kernel_rfl) rfl rfl
    · rw [if_neg d1] at hr
      by_cases d2 : o.does = 12
      · skip
        simp (maxSteps := 1000000) (disch := first | assumption | omega | rfl) only [↓vmp, vme, vmb, ty, hP, dec_t, dec_f, wrap64, List.length_map, Int.toNat_natCast, Nat.reduceAdd, List.cons_append, List.nil_append, Option.map_some, Option.map_none, strOf_mk, sb_eql, sb_neq, vmg, ↓vgd, ↓vst, ↓vix, bd52_0]
        rw [if_pos d2] at hr
        subst hr
        exact retQ_cell rfl (v := .agg [.d (.int .i64 0), .d (.int .i64 0), .d (.int .i64 0), .d (.int .i64 0), .d (.int .i64 0), .ts [], .ts []]) (by kernel_rfl) rfl rfl
      · rw [if_neg d2] at hr
        by_cases k2 : n.kind = 2
        · rw [if_neg (by simp [k2])] at hr
          simp (maxSteps := 1000000) (disch := first | assumption | omega | rfl) only [↓vmp, vme, vmb, ty, hP, dec_t, dec_f, wrap64, List.length_map, Int.toNat_natCast, Nat.reduceAdd, List.cons_append, List.nil_append, Option.map_some, Option.map_none, strOf_mk, sb_eql, sb_neq, vmg, ↓vgd, ↓vst, ↓vix]
          refine look_l n hgn _ _ _ _ _ _ _ _ n.names.length 0 [] _ _ _ _ _ _ _ _ _ _ _ _ _ _ _ _ _ _ _ _ _ _ _ _ _ _ _ _ _ _ _ _ _ _ _ _ _ _ _ _ _ _ _ _ _ _ _ _ _ _ _ _ _ rfl (by omega) rfl OwnS.nil rfl rfl NotAt.ts NotAt.ts ?_
          intro S v8 i' ys g10 g11 g12 g13 g14 g15 g16 g17 g18 g19 g20 g21 g22 g23 g24 g25 g26 g27 g28 g29 g30 g31 g32 g33 g34 g35 g36 g37 g38 g39 g40 g41 g42 g43 g44 g45 g46 g47 g48 g49 g50 g51 g52 g53 g54 g55 g56 g57 g58 g59 g60 hy ho hc hnc
          have hr1 : rowE S 1 0 = some _ := rowE_of hc
          have hpr := fun y => putRow_of (y := y) hc
          have hbd := bd52_6 ho
          simp (maxSteps := 1000000) (disch := first | assumption | omega | rfl) only [↓vmp, vme, vmb, ty, hP, dec_t, dec_f, wrap64, List.length_map, Int.toNat_natCast, Nat.reduceAdd, List.cons_append, List.nil_append, Option.map_some, Option.map_none, strOf_mk, sb_eql, sb_neq, vmg, ↓vgd, ↓vst, ↓vix, hr1, hbd, hpr]
          rw [List.nil_append, List.drop_zero] at hy
          have ho2 := fun y => own_set (o := .row [y] 52) ho hnc
          subst hr
          rw [← hy]
          have hld : loadV Try.prog (S.set 1 (.row [(.agg [.d (.int .i64 0), .d (.int .i64 0), .d (.int .i64 0), .d (.int .i64 0), .d (.int .i64 0), .ts [], v8])] 52)) 52 (.ref 1 0 0) = some (.agg [.d (.int .i64 0), .d (.int .i64 0), .d (.int .i64 0), .d (.int .i64 0), .d (.int .i64 0), .ts [], v8]) := by rw [loadV_row (rowE_of (set_at hc))]; kernel_rfl
          exact retQ_cell rfl hld rfl (frz_ans (ho2 _))
        · skip
          simp (maxSteps := 1000000) (disch := first | assumption | omega | rfl) only [↓vmp, vme, vmb, ty, hP, dec_t, dec_f, wrap64, List.length_map, Int.toNat_natCast, Nat.reduceAdd, List.cons_append, List.nil_append, Option.map_some, Option.map_none, strOf_mk, sb_eql, sb_neq, vmg, ↓vgd, ↓vst, ↓vix, call_fail]
          rw [if_pos k2] at hr
          subst hr
          exact retQ_cell rfl (v := .d (encAns (failN 6))) (by kernel_rfl) rfl rfl
  · skip
    simp (maxSteps := 1000000) (disch := first | assumption | omega | rfl) only [↓vmp, vme, vmb, ty, hP, dec_t, dec_f, wrap64, List.length_map, Int.toNat_natCast, Nat.reduceAdd, List.cons_append, List.nil_append, Option.map_some, Option.map_none, strOf_mk, sb_eql, sb_neq, vmg, ↓vgd, ↓vst, ↓vix, call_fail]
    rw [if_pos h1] at hr
    subst hr
    exact retQ_cell rfl (v := .d (encAns (failN e))) (by kernel_rfl) rfl rfl
theorem call_look {ops : Array Oper} {dst : Option Tmp} {l : List Oper} {T : List V} {S : Store} {F : Dfs} {Q : Post} {t : List Node} {o : Opn} {k0 : Nat} (hS : Small k0 t) (hk0 : k0 < 200000) (ha : o.a.length < 1000000) :
    WpR cfg ops dst l T S F Q (some (.enter 52 [.d (.sl (t.map encNode)), .d (encOpn o)])) = WpL cfg ops l (putT T dst (.d (encAns (lookN t o)))) S F Q :=
  wr_call_d (ds := [.sl (t.map encNode), encOpn o]) rfl (look_ok t k0 hk0 hS o ha)
end Go.Proofs.Ytghllhghboaagaa
end
/-! The document's model: Step, and a script played. -/
section
set_option linter.unusedVariables false
set_option linter.unusedSimpArgs false
set_option maxRecDepth 10000
set_option maxHeartbeats 4000000
namespace Go.Proofs.Ytghllhghboaagaa
open Go.Vm
def stepN (t : List Node) (o : Opn) : List Node × Ans :=
  if mayN o = false then (t, failN 1)
  else if o.does < 3 then makeN t o
  else if o.does = 3 then linkN t o
  else if o.does < 6 then removeN t o
  else if o.does = 6 then renameN t o
  else if o.does < 10 then bytesN t o
  else if o.does < 13 then (t, lookN t o)
  else (t, okN)
theorem step_ok (t : List Node) (k0 : Nat) (hk0 : k0 < 190000) (hS : Small k0 t) (o : Opn) (ha : o.a.length < 1000000) (hb : o.b.length < 1000000) : Ev cfg 21 [.sl (t.map encNode), encOpn o] (.ret (.tup [.d (.sl ((stepN t o).1.map encNode)), .d (encAns (stepN t o).2)])) := by
  refine ev_of rfl rfl body21 ?_
  show Wp cfg (Try.f21.body.getD .skip) ((.d (.sl (t.map encNode))) :: (.d (encOpn o)) :: (.tup []) :: (.tup []) :: (.tup []) :: (.tup []) :: (.tup []) :: (.tup []) :: (.tup []) :: (.tup []) :: (.tup []) :: (.tup []) :: (.tup []) :: (.tup []) :: (.tup []) :: (.tup []) :: (.tup []) :: (.tup []) :: (.tup []) :: (.tup []) :: (.tup []) :: (.tup []) :: (.tup []) :: (.tup []) :: (.tup []) :: (.tup []) :: (.tup []) :: (.tup []) :: (.tup []) :: (.tup []) :: (.tup []) :: (.tup []) :: (.tup []) :: (.tup []) :: (.tup []) :: (.tup []) :: (.tup []) :: (.tup []) :: (.tup []) :: (.tup []) :: (.tup []) :: (.tup []) :: (.tup []) :: (.tup []) :: (.tup []) :: (.tup []) :: (.tup []) :: (.tup []) :: (.tup []) :: (.tup []) :: (.tup []) :: (.tup []) :: (.tup []) :: (.tup []) :: (.tup []) :: (.tup []) :: (.tup []) :: (.tup []) :: (.tup []) :: (.tup []) :: []) [] [] _
  conv => arg 2; whnf
  have hk1 : k0 < 200000 := by omega
  generalize hr : stepN t o = r
  unfold stepN at hr
  cases hm : mayN o with
  | false =>
    simp (maxSteps := 1000000) (disch := first | assumption | omega | rfl) only [↓vmp, vme, vmb, ty, hP, dec_t, dec_f, wrap64, List.length_map, Int.toNat_natCast, Nat.reduceAdd, List.cons_append, List.nil_append, Option.map_some, Option.map_none, strOf_mk, sb_eql, sb_neq, vmg, ↓vgd, ↓vst, ↓vix, call_may, hm, call_fail, un_not, Bool.not_false]
    rw [if_pos hm] at hr
    subst hr
    exact retQ_tc rfl rfl (x := .d (encAns (failN 1))) (by kernel_rfl) rfl rfl rfl rfl
  | true =>
    rw [if_neg (by rw [hm]; exact Bool.noConfusion)] at hr
    have hm2 := of_decide_eq_true hm
    have hd : o.data.length ≤ 1024 := hm2.2.2
    by_cases d1 : o.does < 3
    · simp (maxSteps := 1000000) (disch := first | assumption | omega | rfl) only [↓vmp, vme, vmb, ty, hP, dec_t, dec_f, wrap64, List.length_map, Int.toNat_natCast, Nat.reduceAdd, List.cons_append, List.nil_append, Option.map_some, Option.map_none, strOf_mk, sb_eql, sb_neq, vmg, ↓vgd, ↓vst, ↓vix, call_may, hm, un_not, Bool.not_true, call_make hS hk1]
      rw [if_pos d1] at hr
      subst hr
      exact retQ_tc rfl rfl (x := .d (encAns (makeN t o).2)) (by kernel_rfl) rfl rfl rfl rfl
    · rw [if_neg d1] at hr
      by_cases d2 : o.does = 3
      · simp (maxSteps := 1000000) (disch := first | assumption | omega | rfl) only [↓vmp, vme, vmb, ty, hP, dec_t, dec_f, wrap64, List.length_map, Int.toNat_natCast, Nat.reduceAdd, List.cons_append, List.nil_append, Option.map_some, Option.map_none, strOf_mk, sb_eql, sb_neq, vmg, ↓vgd, ↓vst, ↓vix, call_may, hm, un_not, Bool.not_true, call_link hS hk1]
        rw [if_pos d2] at hr
        subst hr
        exact retQ_tc rfl rfl (x := .d (encAns (linkN t o).2)) (by kernel_rfl) rfl rfl rfl rfl
      · rw [if_neg d2] at hr
        by_cases d3 : o.does < 6
        · simp (maxSteps := 1000000) (disch := first | assumption | omega | rfl) only [↓vmp, vme, vmb, ty, hP, dec_t, dec_f, wrap64, List.length_map, Int.toNat_natCast, Nat.reduceAdd, List.cons_append, List.nil_append, Option.map_some, Option.map_none, strOf_mk, sb_eql, sb_neq, vmg, ↓vgd, ↓vst, ↓vix, call_may, hm, un_not, Bool.not_true, call_remove hS hk1]
          rw [if_pos d3] at hr
          subst hr
          exact retQ_tc rfl rfl (x := .d (encAns (removeN t o).2)) (by kernel_rfl) rfl rfl rfl rfl
        · rw [if_neg d3] at hr
          by_cases d4 : o.does = 6
          · simp (maxSteps := 1000000) (disch := first | assumption | omega | rfl) only [↓vmp, vme, vmb, ty, hP, dec_t, dec_f, wrap64, List.length_map, Int.toNat_natCast, Nat.reduceAdd, List.cons_append, List.nil_append, Option.map_some, Option.map_none, strOf_mk, sb_eql, sb_neq, vmg, ↓vgd, ↓vst, ↓vix, call_may, hm, un_not, Bool.not_true, call_rename hS hk1]
            rw [if_pos d4] at hr
            subst hr
            exact retQ_tc rfl rfl (x := .d (encAns (renameN t o).2)) (by kernel_rfl) rfl rfl rfl rfl
          · rw [if_neg d4] at hr
            by_cases d5 : o.does < 10
            · have h789 : o.does = 7 ∨ o.does = 8 ∨ o.does = 9 := by omega
              simp (maxSteps := 1000000) (disch := first | assumption | omega | rfl) only [↓vmp, vme, vmb, ty, hP, dec_t, dec_f, wrap64, List.length_map, Int.toNat_natCast, Nat.reduceAdd, List.cons_append, List.nil_append, Option.map_some, Option.map_none, strOf_mk, sb_eql, sb_neq, vmg, ↓vgd, ↓vst, ↓vix, call_may, hm, un_not, Bool.not_true, call_bytes hS hk1]
              rw [if_pos d5] at hr
              subst hr
              exact retQ_tc rfl rfl (x := .d (encAns (bytesN t o).2)) (by kernel_rfl) rfl rfl rfl rfl
            · rw [if_neg d5] at hr
              by_cases d6 : o.does < 13
              · simp (maxSteps := 1000000) (disch := first | assumption | omega | rfl) only [↓vmp, vme, vmb, ty, hP, dec_t, dec_f, wrap64, List.length_map, Int.toNat_natCast, Nat.reduceAdd, List.cons_append, List.nil_append, Option.map_some, Option.map_none, strOf_mk, sb_eql, sb_neq, vmg, ↓vgd, ↓vst, ↓vix, call_may, hm, un_not, Bool.not_true, call_look hS hk1]
                rw [if_pos d6] at hr
                subst hr
                exact retQ_tc rfl rfl (x := .d (encAns (lookN t o))) (by kernel_rfl) rfl rfl rfl rfl
              · rw [if_neg d6] at hr
                simp (maxSteps := 1000000) (disch := first | assumption | omega | rfl) only [↓vmp, vme, vmb, ty, hP, dec_t, dec_f, wrap64, List.length_map, Int.toNat_natCast, Nat.reduceAdd, List.cons_append, List.nil_append, Option.map_some, Option.map_none, strOf_mk, sb_eql, sb_neq, vmg, ↓vgd, ↓vst, ↓vix, call_may, hm, un_not, Bool.not_true, bd52_0]
                subst hr
                exact retQ_tc rfl rfl (x := .agg [.d (.int .i64 0), .d (.int .i64 0), .d (.int .i64 0), .d (.int .i64 0), .d (.int .i64 0), .ts [], .ts []]) (by kernel_rfl) rfl rfl rfl rfl
theorem call_step {ops : Array Oper} {dst : Option Tmp} {l : List Oper} {T : List V} {S : Store} {F : Dfs} {Q : Post} {t : List Node} {o : Opn} {k0 : Nat} (hS : Small k0 t) (hk0 : k0 < 190000) (ha : o.a.length < 1000000) (hb : o.b.length < 1000000) :
    WpR cfg ops dst l T S F Q (some (.enter 21 [.d (.sl (t.map encNode)), .d (encOpn o)])) = WpL cfg ops l (putT T dst (.tup [.d (.sl ((stepN t o).1.map encNode)), .d (encAns (stepN t o).2)])) S F Q :=
  wr_call_d (ds := [.sl (t.map encNode), encOpn o]) rfl (step_ok t k0 hk0 hS o ha hb)
/-! What a step adds. -/
theorem Small.make {k : Nat} {t : List Node} {o : Opn} (h : Small k t) : Small (k + 5) (makeN t o).1 := by
  unfold makeN
  split
  · exact h.mono (by omega)
  · split
    · exact h.mono (by omega)
    · have hmk : SmallN (k + 1) (makeNode t o) := by unfold makeNode; split <;> exact ⟨Nat.zero_le _, fun e he => by simp at he, ⟨by simp; omega, by simp; omega⟩, by simp⟩
      exact ((h.with hmk).put (by have := whereN_len t o.a; omega)).mono (by omega)
theorem SmallN.more {k : Nat} {n : Node} (h : SmallN k n) : SmallN (k + 1) (more n) :=
  ⟨Nat.le_succ_of_le h.nms, h.nam, ⟨by have := h.lnk.1; show -((k + 1 : Nat) : Int) ≤ n.links + 1; omega, by have := h.lnk.2; show n.links + 1 ≤ ((k + 1 : Nat) : Int); omega⟩, h.siz⟩
theorem Small.link {k : Nat} {t : List Node} {o : Opn} (h : Small k t) : Small (k + 5) (linkN t o).1 := by
  unfold linkN
  split
  · exact h.mono (by omega)
  · split
    · exact h.mono (by omega)
    · split
      · exact h.mono (by omega)
      · split
        · exact h.mono (by omega)
        · exact ((h.with (h.get _).more).put (by have := whereN_len t o.b; omega)).mono (by omega)
theorem Small.remove {k : Nat} {t : List Node} {o : Opn} (h : Small k t) : Small (k + 5) (removeN t o).1 := by
  unfold removeN
  repeat' split
  all_goals first | exact h.mono (by omega) | exact (h.drop.loses).mono (by omega)
theorem SmallN.moved {k : Nat} {n : Node} {p : Int} (h : SmallN k n) : SmallN k (moved n p) := ⟨h.nms, h.nam, h.lnk, h.siz⟩
theorem Small.rename {k : Nat} {t : List Node} {o : Opn} (h : Small k t) : Small (k + 5) (renameN t o).1 := by
  unfold renameN
  split
  · exact h.mono (by omega)
  · split
    · exact h.mono (by omega)
    · split
      · exact h.mono (by omega)
      · unfold renameA
        split
        · exact h.mono (by omega)
        · split
          · exact h.mono (by omega)
          · split
            · exact h.mono (by omega)
            · split
              · exact h.mono (by omega)
              · unfold renamed
                have hln := whereN_len t o.b
                generalize whereN t o.a = w1 at *
                generalize whereN t o.b = w2 at *
                have h1 : Small (k + 2) (if 0 ≤ nameN (getN t w2.1).names w2.2.1 then losesN (dropN t w2.1 w2.2.1) (nameN (getN t w2.1).names w2.2.1) else t) := by
                  split
                  · exact h.drop.loses
                  · exact h.mono (by omega)
                have h2 := (h1.drop (dir := w1.1) (s := w1.2.1)).put (dir := w2.1) (s := w2.2.1) (ino := nameN (getN t w1.1).names w1.2.1) (by omega)
                simp only
                split
                · exact h2.with ((h2.get _).moved.mono (by omega))
                · exact h2.mono (by omega)
theorem Small.bytes {k : Nat} {t : List Node} {o : Opn} (h : Small k t) (hd : o.data.length ≤ 1024) : Small (k + 5) (bytesN t o).1 := by
  unfold bytesN
  split
  · exact h.mono (by omega)
  · have hg := (h.get (resolveN t o.a).1).mono (Nat.le_succ k)
    generalize getN t (resolveN t o.a).1 = n at hg ⊢
    unfold bytesA
    split
    · exact h.mono (by omega)
    · split
      · split
        · exact h.mono (by omega)
        · split
          · exact h.mono (by omega)
          · split
            · exact h.mono (by omega)
            · rename_i c1 c2 c3
              have hs := hg.siz
              have hw : 0 ≤ sizeW n o ∧ sizeW n o ≤ 34304 := by unfold sizeW; split <;> omega
              refine (h.with (n := writeN n o) ⟨hg.nms, hg.nam, hg.lnk, hw.1, hw.2, ?_⟩).mono (by omega)
              show ((layN (layN (List.replicate (sizeW n o).toNat 0) 0 n.data) o.off o.data).length : Int) = sizeW n o
              rw [len_layN, len_layN, List.length_replicate]
              omega
      · split
        · split
          · exact h.mono (by omega)
          · split <;> exact h.mono (by omega)
        · split
          · exact h.mono (by omega)
          · split
            · exact h.mono (by omega)
            · rename_i c1 c2
              refine (h.with (n := cutN n o.n) ⟨hg.nms, hg.nam, hg.lnk, by show 0 ≤ o.n; omega, by show o.n ≤ 34304; omega, ?_⟩).mono (by omega)
              show ((layN (List.replicate o.n.toNat 0) 0 n.data).length : Int) = o.n
              rw [len_layN, List.length_replicate]
              omega
theorem Small.step {k : Nat} {t : List Node} {o : Opn} (h : Small k t) : Small (k + 5) (stepN t o).1 := by
  unfold stepN
  split
  · exact h.mono (by omega)
  · rename_i hm
    have hd : o.data.length ≤ 1024 := by
      cases hm' : mayN o with
      | false => exact absurd hm' hm
      | true => exact (of_decide_eq_true hm').2.2
    repeat' split
    · exact h.make
    · exact h.link
    · exact h.remove
    · exact h.rename
    · exact h.bytes hd
    · exact h.mono (by omega)
    · exact h.mono (by omega)
theorem Small.new : Small 1 newN := ⟨by simp [newN], fun n hn => by simp [newN] at hn; subst hn; simp, fun n hn => by simp [newN] at hn; subst hn; simp, fun n hn => by simp [newN] at hn; subst hn; simp, fun n hn => by simp [newN] at hn; subst hn; simp⟩
def playN (l : List Opn) : List Node := l.foldl (fun t o => (stepN t o).1) newN
theorem Small.playA {l : List Opn} {k : Nat} {t : List Node} (h : Small k t) : Small (k + 5 * l.length) (l.foldl (fun t o => (stepN t o).1) t) := by
  induction l generalizing k t with
  | nil => exact h
  | cons o r ih => exact (ih h.step).mono (by simp only [List.length_cons]; omega)
/-- A script that is not large. -/
structure Script (l : List Opn) : Prop where
  len : l.length ≤ 1000
  a : ∀ o ∈ l, o.a.length ≤ 300
  b : ∀ o ∈ l, o.b.length ≤ 300
  data : ∀ o ∈ l, o.data.length ≤ 1100
theorem bdz52 : zeroV Try.prog 52 = some (.agg [.d (.int .i64 0), .d (.int .i64 0), .d (.int .i64 0), .d (.int .i64 0), .d (.int .i64 0), .ts [], .ts []]) := z52
theorem play_l (l : List Opn) (hl : Script l) (R : Post) (g1 g2 : V) : ∀ (k i : Nat) (t : List Node) (S : Store) (g5 g6 g7 g8 g9 g10 g11 g12 g13 g14 g15 g16 g17 g18 g19 g20 g21 g22 g23 g24 : V),
   l.length - i = k → i ≤ l.length → Small (1 + 5 * i) t →
   (∀ S i' g5 g6 g7 g8 g9 g10 g11 g12 g13 g14 g15 g16 g17 g18 g19 g20 g21 g22 g23 g24, R (.exit 0) ((.d (.sl (l.map encOpn))) :: g1 :: g2 :: (.d (.sl (((l.drop i).foldl (fun t o => (stepN t o).1) t).map encNode))) :: i' :: g5 :: g6 :: g7 :: g8 :: g9 :: g10 :: g11 :: g12 :: g13 :: g14 :: g15 :: g16 :: g17 :: g18 :: g19 :: g20 :: g21 :: g22 :: g23 :: g24 :: []) S []) →
   Wp cfg (.loop (lpOf (Try.f13.body.getD .skip) 0)) ((.d (.sl (l.map encOpn))) :: g1 :: g2 :: (.d (.sl (t.map encNode))) :: (.d (.int .i64 i)) :: g5 :: g6 :: g7 :: g8 :: g9 :: g10 :: g11 :: g12 :: g13 :: g14 :: g15 :: g16 :: g17 :: g18 :: g19 :: g20 :: g21 :: g22 :: g23 :: g24 :: []) S [] R := by
  intro k
  have hlen := hl.len
  induction k with
  | zero =>
    intro i t S g5 g6 g7 g8 g9 g10 g11 g12 g13 g14 g15 g16 g17 g18 g19 g20 g21 g22 g23 g24 hk hi hS hR
    have hie : i = l.length := by omega
    rw [wk_of]
    refine wk_loop ?_
    conv => arg 2; whnf
    simp (maxSteps := 1000000) (disch := first | assumption | omega | rfl) only [↓vmp, vme, vmb, ty, hP, dec_t, dec_f, wrap64, List.length_map, Int.toNat_natCast, Nat.reduceAdd, List.cons_append, List.nil_append, Option.map_some, Option.map_none, strOf_mk, sb_eql, sb_neq, vmg, ↓vgd, ↓vst, ↓vix]
    rw [hie, List.drop_length] at hR
    exact hR _ _ _ _ _ _ _ _ _ _ _ _ _ _ _ _ _ _ _ _ _ _
  | succ k ih =>
    intro i t S g5 g6 g7 g8 g9 g10 g11 g12 g13 g14 g15 g16 g17 g18 g19 g20 g21 g22 g23 g24 hk hi hS hR
    have hlt : i < l.length := by omega
    have hdr : l.drop i = l[i] :: l.drop (i + 1) := List.drop_eq_getElem_cons hlt
    rw [hdr] at hR
    have ha := hl.a _ (List.getElem_mem hlt)
    have hb := hl.b _ (List.getElem_mem hlt)
    have ha' : l[i].a.length < 1000000 := by omega
    have hb' : l[i].b.length < 1000000 := by omega
    have hk0 : 1 + 5 * i < 190000 := by omega
    rw [wk_of]
    refine wk_loop ?_
    conv => arg 2; whnf
    simp (maxSteps := 1000000) (disch := first | assumption | omega | rfl) only [↓vmp, vme, vmb, ty, hP, dec_t, dec_f, wrap64, List.length_map, Int.toNat_natCast, Nat.reduceAdd, List.cons_append, List.nil_append, Option.map_some, Option.map_none, strOf_mk, sb_eql, sb_neq, vmg, ↓vgd, ↓vst, ↓vix, call_step hS hk0, rowE_app, putRow_app]
    exact ih (i + 1) (stepN t l[i]).1 _ _ _ _ _ _ _ _ _ _ _ _ _ _ _ _ _ _ _ _ _ (by omega) (by omega) (by rw [show 1 + 5 * (i + 1) = 1 + 5 * i + 5 by omega]; exact hS.step) hR
theorem play_ok (l : List Opn) (hl : Script l) : Ev cfg 13 [.sl (l.map encOpn)] (.ret (.d (.sl ((playN l).map encNode)))) := by
  refine ev_of rfl rfl body13 ?_
  show Wp cfg (Try.f13.body.getD .skip) ((.d (.sl (l.map encOpn))) :: (.tup []) :: (.tup []) :: (.tup []) :: (.tup []) :: (.tup []) :: (.tup []) :: (.tup []) :: (.tup []) :: (.tup []) :: (.tup []) :: (.tup []) :: (.tup []) :: (.tup []) :: (.tup []) :: (.tup []) :: (.tup []) :: (.tup []) :: (.tup []) :: (.tup []) :: (.tup []) :: (.tup []) :: (.tup []) :: (.tup []) :: (.tup []) :: []) [] [] _
  conv => arg 2; whnf
  simp (maxSteps := 1000000) (disch := first | assumption | omega | rfl) only [↓vmp, vme, vmb, ty, hP, dec_t, dec_f, wrap64, List.length_map, Int.toNat_natCast, Nat.reduceAdd, List.cons_append, List.nil_append, Option.map_some, Option.map_none, strOf_mk, sb_eql, sb_neq, vmg, ↓vgd, ↓vst, ↓vix, call_new]
  refine play_l l hl _ _ _ l.length 0 newN _ _ _ _ _ _ _ _ _ _ _ _ _ _ _ _ _ _ _ _ _ rfl (by omega) Small.new ?_
  intro S i' g5 g6 g7 g8 g9 g10 g11 g12 g13 g14 g15 g16 g17 g18 g19 g20 g21 g22 g23 g24
  simp (maxSteps := 1000000) (disch := first | assumption | omega | rfl) only [↓vmp, vme, vmb, ty, hP, dec_t, dec_f, wrap64, List.length_map, Int.toNat_natCast, Nat.reduceAdd, List.cons_append, List.nil_append, Option.map_some, Option.map_none, strOf_mk, sb_eql, sb_neq, vmg, ↓vgd, ↓vst, ↓vix]
  exact retQ_one rfl rfl rfl
theorem call_play {ops : Array Oper} {dst : Option Tmp} {k : List Oper} {T : List V} {S : Store} {F : Dfs} {Q : Post} {l : List Opn} (hl : Script l) :
    WpR cfg ops dst k T S F Q (some (.enter 13 [.d (.sl (l.map encOpn))])) = WpL cfg ops k (putT T dst (.d (.sl ((playN l).map encNode)))) S F Q :=
  wr_call_d (ds := [.sl (l.map encOpn)]) rfl (play_ok l hl)
end Go.Proofs.Ytghllhghboaagaa
end
/-! What the statement uses: Much, and the program's tree.Find. -/
section
set_option linter.unusedVariables false
set_option linter.unusedSimpArgs false
set_option maxRecDepth 10000
set_option maxHeartbeats 4000000
namespace Go.Proofs.Ytghllhghboaagaa
open Go.Vm
theorem own_keep {S S' : Store} {v : V} {e : TypeId} {xs : List V} (h : OwnS S v e xs) (hk : ∀ (j : Nat) (o : Ob), S[j]? = some o → S'[j]? = some o) : OwnS S' v e xs := by
  rcases h with h | ⟨j, rfl, h1⟩
  · exact .inl h
  · exact .inr ⟨j, rfl, hk _ _ h1⟩
theorem own_not {S : Store} {v : V} {e : TypeId} {xs : List V} {j : Nat} (h : OwnS S v e xs) (hn : ∀ o, S[j]? = some o → ∀ xs e, o ≠ .row xs e) : NotAt v j := by
  rcases h with ⟨rfl, _⟩ | ⟨i, rfl, h1⟩
  · exact NotAt.ts
  · intro off l hh
    cases hh
    exact hn _ h1 _ _ rfl
def badO (o : Opn) : Bool := decide ((o.a.length : Int) > 300 ∨ (o.b.length : Int) > 300 ∨ (o.data.length : Int) > 1100)
theorem much_l (l : List Opn) (hl : l.length < 1000000) (R : Post) (S : Store) (g1 g4 : V) : ∀ (k i : Nat) (g6 g7 g8 g9 g10 g11 g12 g13 g14 g15 g16 g17 g18 g19 g20 g21 g22 g23 g24 g25 g26 g27 g28 g29 g30 g31 g32 g33 g34 g35 g36 g37 g38 g39 g40 : V), l.length - i = k → i ≤ l.length →
   (∀ i' g6 g7 g8 g9 g10 g11 g12 g13 g14 g15 g16 g17 g18 g19 g20 g21 g22 g23 g24 g25 g26 g27 g28 g29 g30 g31 g32 g33 g34 g35 g36 g37 g38 g39 g40, (l.drop i).any badO = false → R (.exit 0) ((.d (.sl (l.map encOpn))) :: g1 :: (.tup []) :: (.tup []) :: g4 :: i' :: g6 :: g7 :: g8 :: g9 :: g10 :: g11 :: g12 :: g13 :: g14 :: g15 :: g16 :: g17 :: g18 :: g19 :: g20 :: g21 :: g22 :: g23 :: g24 :: g25 :: g26 :: g27 :: g28 :: g29 :: g30 :: g31 :: g32 :: g33 :: g34 :: g35 :: g36 :: g37 :: g38 :: g39 :: g40 :: []) S []) →
   (∀ i' g6 g7 g8 g9 g10 g11 g12 g13 g14 g15 g16 g17 g18 g19 g20 g21 g22 g23 g24 g25 g26 g27 g28 g29 g30 g31 g32 g33 g34 g35 g36 g37 g38 g39 g40, (l.drop i).any badO = true → R .ret ((.d (.sl (l.map encOpn))) :: g1 :: (.tup []) :: (.tup []) :: (.d (.bool true)) :: i' :: g6 :: g7 :: g8 :: g9 :: g10 :: g11 :: g12 :: g13 :: g14 :: g15 :: g16 :: g17 :: g18 :: g19 :: g20 :: g21 :: g22 :: g23 :: g24 :: g25 :: g26 :: g27 :: g28 :: g29 :: g30 :: g31 :: g32 :: g33 :: g34 :: g35 :: g36 :: g37 :: g38 :: g39 :: g40 :: []) S []) →
   Wp cfg (.loop (lpOf (Try.f10.body.getD .skip) 0)) ((.d (.sl (l.map encOpn))) :: g1 :: (.tup []) :: (.tup []) :: g4 :: (.d (.int .i64 i)) :: g6 :: g7 :: g8 :: g9 :: g10 :: g11 :: g12 :: g13 :: g14 :: g15 :: g16 :: g17 :: g18 :: g19 :: g20 :: g21 :: g22 :: g23 :: g24 :: g25 :: g26 :: g27 :: g28 :: g29 :: g30 :: g31 :: g32 :: g33 :: g34 :: g35 :: g36 :: g37 :: g38 :: g39 :: g40 :: []) S [] R := by
  intro k
  induction k with
  | zero =>
    intro i g6 g7 g8 g9 g10 g11 g12 g13 g14 g15 g16 g17 g18 g19 g20 g21 g22 g23 g24 g25 g26 g27 g28 g29 g30 g31 g32 g33 g34 g35 g36 g37 g38 g39 g40 hk hi hE hR
    have hie : i = l.length := by omega
    rw [wk_of]
    refine wk_loop ?_
    conv => arg 2; whnf
    simp (maxSteps := 1000000) (disch := first | assumption | omega | rfl) only [↓vmp, vme, vmb, ty, hP, dec_t, dec_f, wrap64, List.length_map, Int.toNat_natCast, Nat.reduceAdd, List.cons_append, List.nil_append, Option.map_some, Option.map_none, strOf_mk, sb_eql, sb_neq, vmg, ↓vgd, ↓vst, ↓vix]
    exact hE _ _ _ _ _ _ _ _ _ _ _ _ _ _ _ _ _ _ _ _ _ _ _ _ _ _ _ _ _ _ _ _ _ _ _ _ (by rw [hie, List.drop_length]; rfl)
  | succ k ih =>
    intro i g6 g7 g8 g9 g10 g11 g12 g13 g14 g15 g16 g17 g18 g19 g20 g21 g22 g23 g24 g25 g26 g27 g28 g29 g30 g31 g32 g33 g34 g35 g36 g37 g38 g39 g40 hk hi hE hR
    have hlt : i < l.length := by omega
    have hdr : l.drop i = l[i] :: l.drop (i + 1) := List.drop_eq_getElem_cons hlt
    rw [hdr, List.any_cons] at hE hR
    rw [wk_of]
    refine wk_loop ?_
    conv => arg 2; whnf
    by_cases c1 : (l[i].a.length : Int) > 300
    · skip
      have hb : badO l[i] = true := decide_eq_true (.inl c1)
      simp (maxSteps := 1000000) (disch := first | assumption | omega | rfl) only [↓vmp, vme, vmb, ty, hP, dec_t, dec_f, wrap64, List.length_map, Int.toNat_natCast, Nat.reduceAdd, List.cons_append, List.nil_append, Option.map_some, Option.map_none, strOf_mk, sb_eql, sb_neq, vmg, ↓vgd, ↓vst, ↓vix, ldB, lenB]
      exact hR _ _ _ _ _ _ _ _ _ _ _ _ _ _ _ _ _ _ _ _ _ _ _ _ _ _ _ _ _ _ _ _ _ _ _ _ (by rw [hb]; rfl)
    · by_cases c2 : (l[i].b.length : Int) > 300
      · have hb : badO l[i] = true := decide_eq_true (.inr (.inl c2))
        simp (maxSteps := 1000000) (disch := first | assumption | omega | rfl) only [↓vmp, vme, vmb, ty, hP, dec_t, dec_f, wrap64, List.length_map, Int.toNat_natCast, Nat.reduceAdd, List.cons_append, List.nil_append, Option.map_some, Option.map_none, strOf_mk, sb_eql, sb_neq, vmg, ↓vgd, ↓vst, ↓vix, ldB, lenB]
        exact hR _ _ _ _ _ _ _ _ _ _ _ _ _ _ _ _ _ _ _ _ _ _ _ _ _ _ _ _ _ _ _ _ _ _ _ _ (by rw [hb]; rfl)
      · by_cases c3 : (l[i].data.length : Int) > 1100
        · have hb : badO l[i] = true := decide_eq_true (.inr (.inr c3))
          simp (maxSteps := 1000000) (disch := first | assumption | omega | rfl) only [↓vmp, vme, vmb, ty, hP, dec_t, dec_f, wrap64, List.length_map, Int.toNat_natCast, Nat.reduceAdd, List.cons_append, List.nil_append, Option.map_some, Option.map_none, strOf_mk, sb_eql, sb_neq, vmg, ↓vgd, ↓vst, ↓vix, ldB, lenB]
          exact hR _ _ _ _ _ _ _ _ _ _ _ _ _ _ _ _ _ _ _ _ _ _ _ _ _ _ _ _ _ _ _ _ _ _ _ _ (by rw [hb]; rfl)
        · have hb : badO l[i] = false := decide_eq_false (by omega)
          rw [hb, Bool.false_or] at hE hR
          simp (maxSteps := 1000000) (disch := first | assumption | omega | rfl) only [↓vmp, vme, vmb, ty, hP, dec_t, dec_f, wrap64, List.length_map, Int.toNat_natCast, Nat.reduceAdd, List.cons_append, List.nil_append, Option.map_some, Option.map_none, strOf_mk, sb_eql, sb_neq, vmg, ↓vgd, ↓vst, ↓vix, ldB, lenB]
          exact ih (i + 1) _ _ _ _ _ _ _ _ _ _ _ _ _ _ _ _ _ _ _ _ _ _ _ _ _ _ _ _ _ _ _ _ _ _ _ (by omega) (by omega) hE hR
def muchN (l : List Opn) (m : Int) : Bool := decide ((l.length : Int) > m) || l.any badO
theorem much_ok (l : List Opn) (m : Int) (hm : m ≤ 1000) : Ev cfg 10 [.sl (l.map encOpn), .int .i64 m] (.ret (.d (.bool (muchN l m)))) := by
  refine ev_of rfl rfl body10 ?_
  show Wp cfg (Try.f10.body.getD .skip) ((.d (.sl (l.map encOpn))) :: (.d (.int .i64 m)) :: (.tup []) :: (.tup []) :: (.tup []) :: (.tup []) :: (.tup []) :: (.tup []) :: (.tup []) :: (.tup []) :: (.tup []) :: (.tup []) :: (.tup []) :: (.tup []) :: (.tup []) :: (.tup []) :: (.tup []) :: (.tup []) :: (.tup []) :: (.tup []) :: (.tup []) :: (.tup []) :: (.tup []) :: (.tup []) :: (.tup []) :: (.tup []) :: (.tup []) :: (.tup []) :: (.tup []) :: (.tup []) :: (.tup []) :: (.tup []) :: (.tup []) :: (.tup []) :: (.tup []) :: (.tup []) :: (.tup []) :: (.tup []) :: (.tup []) :: (.tup []) :: (.tup []) :: []) [] [] _
  conv => arg 2; whnf
  unfold muchN
  by_cases c : (l.length : Int) > m
  · skip
    simp (maxSteps := 1000000) (disch := first | assumption | omega | rfl) only [↓vmp, vme, vmb, ty, hP, dec_t, dec_f, wrap64, List.length_map, Int.toNat_natCast, Nat.reduceAdd, List.cons_append, List.nil_append, Option.map_some, Option.map_none, strOf_mk, sb_eql, sb_neq, vmg, ↓vgd, ↓vst, ↓vix]
    exact retQ_one rfl rfl rfl
  · rw [decide_eq_false c, Bool.false_or]
    have hl : l.length < 1000000 := by omega
    simp (maxSteps := 1000000) (disch := first | assumption | omega | rfl) only [↓vmp, vme, vmb, ty, hP, dec_t, dec_f, wrap64, List.length_map, Int.toNat_natCast, Nat.reduceAdd, List.cons_append, List.nil_append, Option.map_some, Option.map_none, strOf_mk, sb_eql, sb_neq, vmg, ↓vgd, ↓vst, ↓vix]
    refine much_l l hl _ _ _ _ l.length 0 _ _ _ _ _ _ _ _ _ _ _ _ _ _ _ _ _ _ _ _ _ _ _ _ _ _ _ _ _ _ _ _ _ _ _ rfl (by omega) ?_ ?_
    · intro i' g6 g7 g8 g9 g10 g11 g12 g13 g14 g15 g16 g17 g18 g19 g20 g21 g22 g23 g24 g25 g26 g27 g28 g29 g30 g31 g32 g33 g34 g35 g36 g37 g38 g39 g40 h
      rw [List.drop_zero] at h
      simp (maxSteps := 1000000) (disch := first | assumption | omega | rfl) only [↓vmp, vme, vmb, ty, hP, dec_t, dec_f, wrap64, List.length_map, Int.toNat_natCast, Nat.reduceAdd, List.cons_append, List.nil_append, Option.map_some, Option.map_none, strOf_mk, sb_eql, sb_neq, vmg, ↓vgd, ↓vst, ↓vix]
      rw [h]
      exact retQ_one rfl rfl rfl
    · intro i' g6 g7 g8 g9 g10 g11 g12 g13 g14 g15 g16 g17 g18 g19 g20 g21 g22 g23 g24 g25 g26 g27 g28 g29 g30 g31 g32 g33 g34 g35 g36 g37 g38 g39 g40 h
      rw [List.drop_zero] at h
      simp (maxSteps := 1000000) (disch := first | assumption | omega | rfl) only [↓vmp, vme, vmb, ty, hP, dec_t, dec_f, wrap64, List.length_map, Int.toNat_natCast, Nat.reduceAdd, List.cons_append, List.nil_append, Option.map_some, Option.map_none, strOf_mk, sb_eql, sb_neq, vmg, ↓vgd, ↓vst, ↓vix]
      rw [h]
      exact retQ_one rfl rfl rfl
theorem call_much {ops : Array Oper} {dst : Option Tmp} {k : List Oper} {T : List V} {S : Store} {F : Dfs} {Q : Post} {l : List Opn} {m : Int} (hm : m ≤ 1000) :
    WpR cfg ops dst k T S F Q (some (.enter 10 [.d (.sl (l.map encOpn)), .d (.int .i64 m)])) = WpL cfg ops k (putT T dst (.d (.bool (muchN l m)))) S F Q :=
  wr_call_d (ds := [.sl (l.map encOpn), .int .i64 m]) rfl (much_ok l m hm)
theorem cells_rs {i o n : Nat} : (V.rs i o n).cells = [.rs i o n] := rfl
theorem bs0_29 {S : Store} {T : List V} {dst : Option Tmp} {ty : TypeId} {pos : String} {after : Array Edge} {g : Option (Nat × Bool)} : opV Try.prog S T ⟨dst, .buildSlice 29 0 #[], ty, pos, after, g⟩ = some (.val (.ts []) S 0) := by kernel_rfl
theorem bs0_30 {S : Store} {T : List V} {dst : Option Tmp} {ty : TypeId} {pos : String} {after : Array Edge} {g : Option (Nat × Bool)} : opV Try.prog S T ⟨dst, .buildSlice 30 0 #[], ty, pos, after, g⟩ = some (.val (.ts []) S 0) := by kernel_rfl
theorem apB {S : Store} {l : List UInt8} (h : l.length ≤ 1000000) : ∃ v' S' c, appendV Try.prog S 29 29 (.ts []) (.d (encB l)) = some (v', S', c) ∧ OwnS S' v' 5 (l.map fun b => .d (.int .u8 b.toNat)) ∧ (∀ j o, S[j]? = some o → S'[j]? = some o ∧ NotAt v' j) ∧ S.length ≤ S'.length := by
  obtain ⟨v', S', c, h1, h2, h3, h4⟩ := append_all (S := S) (xs := l.map fun b => D.int .u8 b.toNat) Try.underlying29 zOk29 szo29 (by simp only [List.mem_map]; rintro x ⟨b, _, rfl⟩; exact fits5 _) (by rw [List.length_map]; exact room29 h)
  exact ⟨v', S', c, h1, by simpa [List.map_map, Function.comp_def] using h2, h3, h4⟩
theorem apE {S : Store} {l : List Ent} (h : l.length ≤ 1000000) : ∃ v' S' c, appendV Try.prog S 30 30 (.ts []) (.d (.sl (l.map encEnt))) = some (v', S', c) ∧ OwnS S' v' 88 (l.map fun b => .d (encEnt b)) ∧ (∀ j o, S[j]? = some o → S'[j]? = some o ∧ NotAt v' j) ∧ S.length ≤ S'.length := by
  obtain ⟨v', S', c, h1, h2, h3, h4⟩ := append_all (S := S) (xs := l.map encEnt) Try.underlying30 zOk30 szo30 (by simp only [List.mem_map]; rintro x ⟨b, _, rfl⟩; exact fits88 _) (by rw [List.length_map]; exact room30 h)
  exact ⟨v', S', c, h1, by simpa [List.map_map, Function.comp_def] using h2, h3, h4⟩
/-- A node whose rows are of the store. -/
def nodeV (n : Node) (v1 v2 : V) : V := .agg [.d (.int .i64 n.ino), .d (.int .i64 n.kind), .d (.int .i64 n.links), .d (.int .i64 n.parent), .d (.int .i64 n.size), v1, v2]
theorem frz_node2 {k : Nat} {S : Store} {n : Node} {v1 v2 : V} (h1 : OwnS S v1 5 (n.data.map fun b => .d (.int .u8 b.toNat))) (h2 : OwnS S v2 88 (n.names.map fun x => .d (encEnt x))) :
    frz S (k + 3) (nodeV n v1 v2) = some (encNode n) := by
  have e1 : frz S (k + 2) v1 = some (encB n.data) := own_frzn (n := k) (own_map (enc := fun b : UInt8 => D.int .u8 b.toNat) h1)
  have e2 : frz S (k + 2) v2 = some (.sl (n.names.map encEnt)) := own_frzn (n := k) (own_map h2)
  show (match allO (frz S (k + 2)) [.d (.int .i64 n.ino), .d (.int .i64 n.kind), .d (.int .i64 n.links), .d (.int .i64 n.parent), .d (.int .i64 n.size), v1, v2] with | some ds => if ds.any D.isAgg then none else some (D.agg ds) | none => none) = _
  have h2 : ∀ x : D, frz S (k + 2) (.d x) = some x := fun _ => rfl
  simp only [allO, e1, e2, h2]
  rfl
/-- Is there a node of a number? -/
def hasN (t : List Node) (ino : Int) : Bool := (t.find? (fun n => decide (n.ino = ino))).isSome
theorem bd32_0 : buildV Try.prog 32 [] = some (.agg [.d (.int .i64 0), .d (.int .i64 0), .d (.int .i64 0), .d (.int .i64 0), .d (.int .i64 0), .ts [], .ts []]) := by kernel_rfl
theorem retQ_ct {P : Program} {T : List V} {S : Store} {t a u : Nat} {v w x : V} {d e : D} (hv : T.getD t (.tup []) = v) (ha : T.getD a (.tup []) = w) (hl : loadV P S u w = some x) (h1 : v.one = true) (h2 : x.one = true) (h3 : frz S frzFuel v = some d) (h4 : frz S frzFuel x = some e) : RetQ P #[.cell a u, .tmp t] (.ret (.tup [.d e, .d d])) .ret T S [] :=
  retQ_many (r1 := .cell a u) (r2 := .tmp t) (l := []) (vs := [x, v]) (ds := [e, d]) (by simp only [allO, resultV, hv, ha, hl]) (by simp [h1, h2]) (by simp only [allO, h3, h4])
end Go.Proofs.Ytghllhghboaagaa
end
/-! A tree as the program has it: escheatlaw25.To. -/
section
set_option linter.unusedVariables false
set_option linter.unusedSimpArgs false
set_option maxRecDepth 10000
set_option maxHeartbeats 4000000
namespace Go.Proofs.Ytghllhghboaagaa
open Go.Vm
/-- The rows of two slices are two. -/
def Sep (w v : V) : Prop := ∀ j off l, v = .rs j off l → NotAt w j
theorem own_sep {S : Store} {w v : V} {e : TypeId} {xs : List V} (h : OwnS S w e xs) (hn : ∀ (j : Nat) (o : Ob), S[j]? = some o → NotAt v j) : Sep w v := by
  intro j off l hv off' l' hw
  rcases h with ⟨rfl, _⟩ | ⟨i, rfl, h1⟩
  · cases hw
  · cases hw
    exact hn _ _ h1 _ _ hv
def Frame (S : Store) (w : V) (S' : Store) (w' : V) : Prop := ∀ (j : Nat) (o : Ob), S[j]? = some o → NotAt w j → S'[j]? = some o ∧ NotAt w' j
theorem own_frame {S S' : Store} {w w' v : V} {e : TypeId} {xs : List V} (h : OwnS S v e xs) (hs : Sep w v) (hf : Frame S w S' w') : OwnS S' v e xs ∧ Sep w' v := by
  rcases h with ⟨rfl, rfl⟩ | ⟨i, rfl, h1⟩
  · exact ⟨.inl ⟨rfl, rfl⟩, fun j off l hv => by cases hv⟩
  · obtain ⟨h2, h3⟩ := hf i _ h1 (hs i _ _ rfl)
    exact ⟨.inr ⟨i, rfl, h2⟩, fun j off l hv => by cases hv; exact h3⟩
def NodeV (S : Store) (w : V) (n : Node) (u : V) : Prop := u = .d (encNode n) ∨ ∃ v1 v2, u = nodeV n v1 v2 ∧ OwnS S v1 5 (n.data.map fun b => .d (.int .u8 b.toNat)) ∧ OwnS S v2 88 (n.names.map fun x => .d (encEnt x)) ∧ Sep w v1 ∧ Sep w v2
theorem NodeV.keep {S S' : Store} {w : V} {n : Node} {u : V} (h : NodeV S w n u) (hk : ∀ (j : Nat) (o : Ob), S[j]? = some o → S'[j]? = some o) : NodeV S' w n u := by
  rcases h with h | ⟨v1, v2, h0, h1, h2, h3, h4⟩
  · exact .inl h
  · exact .inr ⟨v1, v2, h0, own_keep h1 hk, own_keep h2 hk, h3, h4⟩
theorem NodeV.frame {S S' : Store} {w w' : V} {n : Node} {u : V} (h : NodeV S w n u) (hf : Frame S w S' w') : NodeV S' w' n u := by
  rcases h with h | ⟨v1, v2, h0, h1, h2, h3, h4⟩
  · exact .inl h
  · exact .inr ⟨v1, v2, h0, (own_frame h1 h3 hf).1, (own_frame h2 h4 hf).1, (own_frame h1 h3 hf).2, (own_frame h2 h4 hf).2⟩
theorem NodeV.frz {S : Store} {w : V} {n : Node} {u : V} (h : NodeV S w n u) : frz S 11 u = some (encNode n) := by
  rcases h with rfl | ⟨v1, v2, rfl, h1, h2, _, _⟩
  · rfl
  · exact frz_node2 (k := 8) h1 h2
def AllN (S : Store) (w : V) : List Node → List V → Prop
  | [], [] => True
  | n :: ns, u :: us => NodeV S w n u ∧ AllN S w ns us
  | _, _ => False
theorem AllN.keep {S S' : Store} {w : V} (hk : ∀ (j : Nat) (o : Ob), S[j]? = some o → S'[j]? = some o) : ∀ {ns : List Node} {us : List V}, AllN S w ns us → AllN S' w ns us
  | [], [], _ => trivial
  | n :: ns, u :: us, h => ⟨h.1.keep hk, AllN.keep hk h.2⟩
theorem AllN.frame {S S' : Store} {w w' : V} (hf : Frame S w S' w') : ∀ {ns : List Node} {us : List V}, AllN S w ns us → AllN S' w' ns us
  | [], [], _ => trivial
  | n :: ns, u :: us, h => ⟨h.1.frame hf, AllN.frame hf h.2⟩
theorem AllN.snoc {S : Store} {w : V} {n : Node} {u : V} (hn : NodeV S w n u) : ∀ {ns : List Node} {us : List V}, AllN S w ns us → AllN S w (ns ++ [n]) (us ++ [u])
  | [], [], _ => ⟨hn, trivial⟩
  | m :: ns, v :: us, h => ⟨h.1, AllN.snoc hn h.2⟩
theorem AllN.len {S : Store} {w : V} : ∀ {ns : List Node} {us : List V}, AllN S w ns us → us.length = ns.length
  | [], [], _ => rfl
  | m :: ns, v :: us, h => by simp [AllN.len h.2]
theorem AllN.frz {S : Store} {w : V} : ∀ {ns : List Node} {us : List V}, AllN S w ns us → allO (frz S 11) us = some (ns.map encNode)
  | [], [], _ => rfl
  | m :: ns, v :: us, h => by simp only [allO, h.1.frz, AllN.frz h.2, List.map_cons]
theorem own_frzV {S : Store} {v : V} {e : TypeId} {us : List V} {ds : List D} (h : OwnS S v e us) (ha : allO (frz S 11) us = some ds) : frz S frzFuel v = some (.sl ds) := by
  rcases h with ⟨rfl, rfl⟩ | ⟨id, rfl, h1⟩
  · simp only [allO, Option.some.injEq] at ha
    subst ha; rfl
  · show (match S[id]? with
      | some (.row xs e) => if 0 + us.length ≤ xs.length && (allO (Go.Vm.frz S 11) xs).isSome then (allO (Go.Vm.frz S 11) ((xs.drop 0).take us.length)).map D.sl else none
      | some (.fz xs e) => if 0 + us.length ≤ xs.length then some (D.sl ((xs.drop 0).take us.length)) else none
      | _ => none) = _
    have h2 : (us.drop 0).take us.length = us := by rw [List.drop_zero, List.take_of_length_le (Nat.le_refl _)]
    simp only [h1, h2, ha, Option.isSome_some, Bool.and_true, Option.map_some]
    simp
theorem append_src {P : Program} {S : Store} {t e : TypeId} {v w u : V} {xs : List V} (hu : P.underlying t = some (.slice e)) (hz : zOk P e = true) (hsrc : srcV P S e t w = some [u]) (ho : OwnS S v e xs) (hr : room P e (xs.length + 1) = true) :
    ∃ v' S' c, appendV P S t t v w = some (v', S', c) ∧ OwnS S' v' e (xs ++ [u]) ∧ Frame S v S' v' := by
  rcases ho with ⟨rfl, rfl⟩ | ⟨id, rfl, h1⟩
  · refine ⟨.rs S.length 0 1, S ++ [.row [u] e], 2, ?_, .inr ⟨S.length, rfl, by simp⟩, fun j o hj _ => ⟨?_, ?_⟩⟩
    · simp only [appendV, hu, hsrc, hz, if_true]
      have hr1 : room P e 1 = true := by simpa using hr
      simp [hr1]
    · rw [List.getElem?_append_left (getLen hj)]; exact hj
    · intro off l h
      have := getLen hj
      cases h; omega
  · refine ⟨.rs S.length 0 (xs.length + 1), S.set id .dead ++ [.row (xs ++ [u]) e], 3, ?_, .inr ⟨S.length, by simp, by simp⟩, fun j o hj hn => ⟨?_, ?_⟩⟩
    · simp only [appendV, hu, hsrc, hz, if_true, h1]
      simp [hr]
    · have hj' := getLen hj
      rw [List.getElem?_append_left (by simpa using hj'), List.getElem?_set_ne]
      · exact hj
      · rintro rfl; exact hn 0 _ rfl
    · intro off l h
      have := getLen hj
      cases h; omega
theorem bs_nil {S : Store} {a b c d e : Int} : bs1 Try.prog S 25 (.agg [.d (.int .i64 a), .d (.int .i64 b), .d (.int .i64 c), .d (.int .i64 d), .d (.int .i64 e), .ts [], .ts []]) = some (.val (.ts [.agg [.int .i64 a, .int .i64 b, .int .i64 c, .int .i64 d, .int .i64 e, .sl [], .sl []]]) S 0) := by kernel_rfl
theorem bs_node {S : Store} {n : Node} {v1 v2 : V} {e1 e2 : TypeId} (h1 : OwnS S v1 e1 (n.data.map fun b => .d (.int .u8 b.toNat))) (h2 : OwnS S v2 e2 (n.names.map fun x => .d (encEnt x))) :
    ∃ w S' c u, bs1 Try.prog S 25 (nodeV n v1 v2) = some (.val w S' c) ∧ srcV Try.prog S' 32 25 w = some [u] ∧ (u = nodeV n v1 v2 ∨ u = .d (encNode n)) ∧ (∀ (j : Nat) (o : Ob), S[j]? = some o → S'[j]? = some o) := by
  have app : ∀ x : Ob, ∀ (j : Nat) (o : Ob), S[j]? = some o → (S ++ [x])[j]? = some o := fun x j o hj => by rw [List.getElem?_append_left (getLen hj)]; exact hj
  have src : ∀ {x : V}, fitsT Try.prog 32 x = true → srcV Try.prog (S ++ [.row [x] 32]) 32 25 (.rs S.length 0 1) = some [x] := fun {x} hx => by
    have e1 : elemsV (S ++ [.row [x] 32]) (.rs S.length 0 1) = some [x] := by simp [elemsV]
    simp only [srcV, Try.underlying25, e1, List.all_cons, List.all_nil, hx, szo25, Bool.and_self, if_true]
  rcases h1 with ⟨rfl, hd⟩ | ⟨i, rfl, hi⟩
  · rcases h2 with ⟨rfl, hn⟩ | ⟨j, rfl, hj⟩
    · refine ⟨.ts [encNode n], S, 0, .d (encNode n), ?_, ?_, .inr rfl, fun j o hj => hj⟩
      · have d0 : n.data = [] := by simpa using hd
        have n0 : n.names = [] := by simpa using hn
        have : encNode n = .agg [.int .i64 n.ino, .int .i64 n.kind, .int .i64 n.links, .int .i64 n.parent, .int .i64 n.size, .sl [], .sl []] := by unfold encNode encB; rw [d0, n0]; rfl
        rw [this]
        exact bs_nil
      · have e1 : elemsV S (.ts [encNode n]) = some [.d (encNode n)] := rfl
        simp only [srcV, Try.underlying25, e1, List.all_cons, List.all_nil, fitsT32, szo25, Bool.and_self, if_true]
    · exact ⟨.rs S.length 0 1, S ++ [.row [nodeV n (.ts []) (.rs j 0 (n.names.map fun x => V.d (encEnt x)).length)] 32], 2, _, by unfold nodeV; kernel_rfl, src (by unfold nodeV; exact ffa32), .inl rfl, app _⟩
  · rcases h2 with ⟨rfl, hn⟩ | ⟨j, rfl, hj⟩
    · exact ⟨.rs S.length 0 1, S ++ [.row [nodeV n (.rs i 0 (n.data.map fun b => V.d (D.int .u8 b.toNat)).length) (.ts [])] 32], 2, _, by unfold nodeV; kernel_rfl, src (by unfold nodeV; exact ffa32), .inl rfl, app _⟩
    · exact ⟨.rs S.length 0 1, S ++ [.row [nodeV n (.rs i 0 (n.data.map fun b => V.d (D.int .u8 b.toNat)).length) (.rs j 0 (n.names.map fun x => V.d (encEnt x)).length)] 32], 2, _, by unfold nodeV; kernel_rfl, src (by unfold nodeV; exact ffa32), .inl rfl, app _⟩
theorem to_l (t : List Node) (k0 : Nat) (hk0 : k0 < 300000) (hS : Small k0 t) (R : Post) (g1 g2 : V) : ∀ (k i : Nat) (us : List V) (S : Store) (v3 g5 g6 g7 g8 g9 g10 g11 g12 g13 g14 g15 g16 g17 g18 g19 g20 g21 g22 g23 g24 g25 g26 g27 g28 g29 g30 : V), t.length - i = k → i ≤ t.length → OwnS S v3 32 us → AllN S v3 (t.take i) us →
   (∀ S v3 us i' g5 g6 g7 g8 g9 g10 g11 g12 g13 g14 g15 g16 g17 g18 g19 g20 g21 g22 g23 g24 g25 g26 g27 g28 g29 g30, OwnS S v3 32 us → AllN S v3 t us → R (.exit 0) ((.d (.sl (t.map encNode))) :: g1 :: g2 :: v3 :: i' :: g5 :: g6 :: g7 :: g8 :: g9 :: g10 :: g11 :: g12 :: g13 :: g14 :: g15 :: g16 :: g17 :: g18 :: g19 :: g20 :: g21 :: g22 :: g23 :: g24 :: g25 :: g26 :: g27 :: g28 :: g29 :: g30 :: []) S []) →
   Wp cfg (.loop (lpOf (Try.f12.body.getD .skip) 0)) ((.d (.sl (t.map encNode))) :: g1 :: g2 :: v3 :: (.d (.int .i64 i)) :: g5 :: g6 :: g7 :: g8 :: g9 :: g10 :: g11 :: g12 :: g13 :: g14 :: g15 :: g16 :: g17 :: g18 :: g19 :: g20 :: g21 :: g22 :: g23 :: g24 :: g25 :: g26 :: g27 :: g28 :: g29 :: g30 :: []) S [] R := by
  have hlt0 : t.length < 400000 := Nat.lt_of_le_of_lt hS.len (by omega)
  intro k
  induction k with
  | zero =>
    intro i us S v3 g5 g6 g7 g8 g9 g10 g11 g12 g13 g14 g15 g16 g17 g18 g19 g20 g21 g22 g23 g24 g25 g26 g27 g28 g29 g30 hk hi ho hA hR
    have hie : i = t.length := by omega
    rw [wk_of]
    refine wk_loop ?_
    conv => arg 2; whnf
    simp (maxSteps := 1000000) (disch := first | assumption | omega | rfl) only [↓vmp, vme, vmb, ty, hP, dec_t, dec_f, wrap64, List.length_map, Int.toNat_natCast, Nat.reduceAdd, List.cons_append, List.nil_append, Option.map_some, Option.map_none, strOf_mk, sb_eql, sb_neq, vmg, ↓vgd, ↓vst, ↓vix]
    rw [hie, List.take_length] at hA
    exact hR _ _ us _ _ _ _ _ _ _ _ _ _ _ _ _ _ _ _ _ _ _ _ _ _ _ _ _ _ _ ho hA
  | succ k ih =>
    intro i us S v3 g5 g6 g7 g8 g9 g10 g11 g12 g13 g14 g15 g16 g17 g18 g19 g20 g21 g22 g23 g24 g25 g26 g27 g28 g29 g30 hk hi ho hA hR
    have hlt : i < t.length := by omega
    have htk : t.take (i + 1) = t.take i ++ [t[i]] := by rw [List.take_succ_eq_append_getElem hlt]
    have hmem := List.getElem_mem hlt
    have hd := hS.siz _ hmem
    have hn := hS.nms _ hmem
    have hul := hA.len
    rw [List.length_take] at hul
    rw [wk_of]
    refine wk_loop ?_
    conv => arg 2; whnf
    generalize hN : t[i] = n at *
    have hbS : (S ++ [.row [.d (encNode n)] 32])[S.length]? = some (.row [.d (encNode n)] 32) := by simp
    obtain ⟨v1, S1, c1, ha1, ho1, hf1, hl1⟩ := apB (S := S ++ [.row [.d (encNode n)] 32]) (l := n.data) (by omega)
    have hb2 : S1[S.length]? = some (.row [.d (encNode n)] 32) := (hf1 S.length _ hbS).1
    have hr2 := rowE_of hb2
    have hst1 := sr32_5 (a := n) (v := v1) (own_fits ho1 (by kernel_rfl) (by kernel_rfl)) (own_cells ho1)
    have hpr1 := fun y => putRow_of (y := y) hb2
    have hb3 : ∀ y : V, (S1.set S.length (.row [y] 32))[S.length]? = some (.row [y] 32) := fun y => set_at hb2
    have hr3 : ∀ y, rowE (S1.set S.length (.row [y] 32)) S.length 0 = some y := fun y => rowE_of (hb3 y)
    obtain ⟨v2, S2, c2, ha2, ho2, hf2, hl2⟩ := apE (S := S1.set S.length (.row [nodeV n v1 (.d (.sl (n.names.map encEnt)))] 32)) (l := n.names) (by omega)
    have hb4 : S2[S.length]? = some (.row [nodeV n v1 (.d (.sl (n.names.map encEnt)))] 32) := (hf2 S.length _ (hb3 _)).1
    have hr4 := rowE_of hb4
    have hst2 := fun (x0 x1 x2 x3 x4 x5 x6 : V) => sra32_6 (x0 := x0) (x1 := x1) (x2 := x2) (x3 := x3) (x4 := x4) (x5 := x5) (x6 := x6) (v := v2) (own_fits ho2 (by kernel_rfl) (by kernel_rfl)) (own_cells ho2)
    have hpr2 := fun y => putRow_of (y := y) hb4
    have hr5 : ∀ y, rowE (S2.set S.length (.row [y] 32)) S.length 0 = some y := fun y => rowE_of (set_at hb4)
    -- what stays
    have hkeep : ∀ (j : Nat) (o : Ob), S[j]? = some o → (S2.set S.length (.row [nodeV n v1 v2] 32))[j]? = some o := fun j o hj => by
      have hjl := getLen hj
      have h1 : (S ++ [.row [.d (encNode n)] 32])[j]? = some o := by rw [List.getElem?_append_left hjl]; exact hj
      have h2 := (hf1 j o h1).1
      have h3 : (S1.set S.length (.row [nodeV n v1 (.d (.sl (n.names.map encEnt)))] 32))[j]? = some o := by rw [List.getElem?_set_ne (by omega)]; exact h2
      have h4 := (hf2 j o h3).1
      rw [List.getElem?_set_ne (by omega)]; exact h4
    have hn1 : ∀ (j : Nat) (o : Ob), S[j]? = some o → NotAt v1 j := fun j o hj => (hf1 j o (by rw [List.getElem?_append_left (getLen hj)]; exact hj)).2
    have hn2 : ∀ (j : Nat) (o : Ob), S[j]? = some o → NotAt v2 j := fun j o hj => by
      have hjl := getLen hj
      have h1 : (S ++ [.row [.d (encNode n)] 32])[j]? = some o := by rw [List.getElem?_append_left hjl]; exact hj
      exact (hf2 j o (by rw [List.getElem?_set_ne (by omega)]; exact (hf1 j o h1).1)).2
    have hv1 : OwnS (S2.set S.length (.row [nodeV n v1 v2] 32)) v1 5 (n.data.map fun b => .d (.int .u8 b.toNat)) := own_set (own_keep (own_set ho1 (hf1 S.length _ hbS).2) (fun j o hj => (hf2 j o hj).1)) (hf1 S.length _ hbS).2
    have hv2 : OwnS (S2.set S.length (.row [nodeV n v1 v2] 32)) v2 88 (n.names.map fun x => .d (encEnt x)) := own_set ho2 (hf2 S.length _ (hb3 _)).2
    obtain ⟨w, S6, c6, u, hbs, hsrc, hu, hk6⟩ := bs_node hv1 hv2
    have ho6 : OwnS S6 v3 32 us := own_keep ho (fun j o hj => hk6 j o (hkeep j o hj))
    have hA6 : AllN S6 v3 (t.take i) us := hA.keep (fun j o hj => hk6 j o (hkeep j o hj))
    have hnV : NodeV S6 v3 n u := by
      rcases hu with rfl | rfl
      · exact .inr ⟨v1, v2, rfl, own_keep hv1 hk6, own_keep hv2 hk6, own_sep ho hn1, own_sep ho hn2⟩
      · exact .inl rfl
    obtain ⟨v3', S7, c7, ha7, ho7, hf7⟩ := append_src (P := Try.prog) Try.underlying25 zOk25 hsrc ho6 (room25 (by omega))
    unfold nodeV at ha2 hr4 hpr2 hbs
    simp (maxSteps := 1000000) (disch := first | assumption | omega | rfl) only [↓vmp, vme, vmb, ty, hP, dec_t, dec_f, wrap64, List.length_map, Int.toNat_natCast, Nat.reduceAdd, List.cons_append, List.nil_append, Option.map_some, Option.map_none, strOf_mk, sb_eql, sb_neq, vmg, ↓vgd, ↓vst, ↓vix, ↓vbs, hN, rowE_app, putRow_app, bs0_29, bs0_30, ha1, hr2, hst1, hpr1, hr3, ha2, hr4, hst2, hpr2, hr5, hbs, ha7]
    exact ih (i + 1) (us ++ [u]) S7 v3' _ _ _ _ _ _ _ _ _ _ _ _ _ _ _ _ _ _ _ _ _ _ _ _ _ _ (by omega) (by omega) ho7 (by rw [htk]; exact (hA6.snoc hnV).frame hf7) hR
theorem to_ok (t : List Node) (k0 : Nat) (hk0 : k0 < 300000) (hS : Small k0 t) : Ev cfg 12 [.sl (t.map encNode)] (.ret (.d (.sl (t.map encNode)))) := by
  refine ev_of rfl rfl body12 ?_
  show Wp cfg (Try.f12.body.getD .skip) ((.d (.sl (t.map encNode))) :: (.tup []) :: (.tup []) :: (.tup []) :: (.tup []) :: (.tup []) :: (.tup []) :: (.tup []) :: (.tup []) :: (.tup []) :: (.tup []) :: (.tup []) :: (.tup []) :: (.tup []) :: (.tup []) :: (.tup []) :: (.tup []) :: (.tup []) :: (.tup []) :: (.tup []) :: (.tup []) :: (.tup []) :: (.tup []) :: (.tup []) :: (.tup []) :: (.tup []) :: (.tup []) :: (.tup []) :: (.tup []) :: (.tup []) :: (.tup []) :: []) [] [] _
  conv => arg 2; whnf
  simp (maxSteps := 1000000) (disch := first | assumption | omega | rfl) only [↓vmp, vme, vmb, ty, hP, dec_t, dec_f, wrap64, List.length_map, Int.toNat_natCast, Nat.reduceAdd, List.cons_append, List.nil_append, Option.map_some, Option.map_none, strOf_mk, sb_eql, sb_neq, vmg, ↓vgd, ↓vst, ↓vix]
  refine to_l t k0 hk0 hS _ _ _ t.length 0 [] _ _ _ _ _ _ _ _ _ _ _ _ _ _ _ _ _ _ _ _ _ _ _ _ _ _ _ _ rfl (by omega) OwnS.nil trivial ?_
  intro S v3 us i' g5 g6 g7 g8 g9 g10 g11 g12 g13 g14 g15 g16 g17 g18 g19 g20 g21 g22 g23 g24 g25 g26 g27 g28 g29 g30 ho hA
  simp (maxSteps := 1000000) (disch := first | assumption | omega | rfl) only [↓vmp, vme, vmb, ty, hP, dec_t, dec_f, wrap64, List.length_map, Int.toNat_natCast, Nat.reduceAdd, List.cons_append, List.nil_append, Option.map_some, Option.map_none, strOf_mk, sb_eql, sb_neq, vmg, ↓vgd, ↓vst, ↓vix]
  exact retQ_one rfl (own_one ho) (own_frzV ho hA.frz)
theorem call_to {ops : Array Oper} {dst : Option Tmp} {k : List Oper} {T : List V} {S : Store} {F : Dfs} {Q : Post} {t : List Node} {k0 : Nat} (hS : Small k0 t) (hk0 : k0 < 300000) :
    WpR cfg ops dst k T S F Q (some (.enter 12 [.d (.sl (t.map encNode))])) = WpL cfg ops k (putT T dst (.d (.sl (t.map encNode)))) S F Q :=
  wr_call_d (ds := [.sl (t.map encNode)]) rfl (to_ok t k0 hk0 hS)
end Go.Proofs.Ytghllhghboaagaa
end
/-! The runes of a text, as far as strokes go. Plain. -/
section
set_option linter.unusedVariables false
set_option linter.unusedSimpArgs false
namespace Go.Vm
theorem get_list (s : List UInt8) (i : Nat) : (⟨s.toArray⟩ : ByteArray).get! i = s.getD i 0 := by
  show s.toArray[i]! = _
  simp [List.getD_eq_getElem?_getD, List.getElem!_eq_getElem?_getD]
  rfl
theorem dec_spec (s : List UInt8) (pos : Nat) (h : pos < s.length) : 1 ≤ (Utf8.decode ⟨s.toArray⟩ pos).2 ∧ pos + (Utf8.decode ⟨s.toArray⟩ pos).2 ≤ s.length ∧ (s[pos] = 47 → Utf8.decode ⟨s.toArray⟩ pos = (47, 1)) ∧ (s[pos] ≠ 47 → (Utf8.decode ⟨s.toArray⟩ pos).1 ≠ 47) ∧ ∀ k, pos < k → k < pos + (Utf8.decode ⟨s.toArray⟩ pos).2 → s.getD k 0 ≠ 47 := by
  have h0 : (s.getD (pos + 0) 0) = s[pos] := by simp [List.getD_eq_getElem?_getD, h]
  have e47 : s[pos] = 47 ↔ s[pos].toNat = 47 := ⟨fun h => by rw [h]; rfl, fun h => UInt8.toNat_inj.1 h⟩
  have n47 : ∀ k, s.getD k 0 = 47 → (s.getD k 0).toNat = 47 := fun k h => by rw [h]; rfl
  have hsz : (⟨s.toArray⟩ : ByteArray).size = s.length := rfl
  unfold Utf8.decode
  simp only [get_list, hsz, h0, e47, ne_eq]
  generalize hb : s[pos].toNat = b at *
  generalize h1 : (s.getD (pos + 1) 0).toNat = b1
  generalize h2 : (s.getD (pos + 2) 0).toNat = b2
  generalize h3 : (s.getD (pos + 3) 0).toNat = b3
  have k1 : ∀ k, k = pos + 1 → s.getD k 0 = 47 → b1 = 47 := fun k hk hh => by rw [← h1, ← hk]; exact n47 k hh
  have k2 : ∀ k, k = pos + 2 → s.getD k 0 = 47 → b2 = 47 := fun k hk hh => by rw [← h2, ← hk]; exact n47 k hh
  have k3 : ∀ k, k = pos + 3 → s.getD k 0 = 47 → b3 = 47 := fun k hk hh => by rw [← h3, ← hk]; exact n47 k hh
  clear n47 hsz h0 e47 h1 h2 h3 hb
  split
  · rename_i c
    refine ⟨by omega, by simp only; omega, fun hh => by rw [hh], fun hh => hh, fun k a b => by simp only at b; omega⟩
  · rename_i c
    have hne : ¬ b = 47 := by omega
    split
    · rename_i c1
      simp only [Bool.and_eq_true, decide_eq_true_eq, beq_iff_eq] at c1
      split
      · rename_i c2
        refine ⟨by simp, by simp only; omega, fun hh => absurd hh hne, fun _ => by simp only; omega, fun k a b hh => ?_⟩
        simp only at b
        have := k1 k (by omega) hh
        omega
      · refine ⟨by simp, by simp only; omega, fun hh => absurd hh hne, fun _ => by simp [Utf8.runeError], fun k a b => by simp only at b; omega⟩
    · split
      · rename_i c1
        simp only [Bool.and_eq_true, decide_eq_true_eq, beq_iff_eq] at c1
        split
        · rename_i c2
          simp only [Bool.and_eq_true, decide_eq_true_eq] at c2
          refine ⟨by simp, by simp only; omega, fun hh => absurd hh hne, fun _ => by simp only; omega, fun k a b hh => ?_⟩
          simp only at b
          rcases (by omega : k = pos + 1 ∨ k = pos + 2) with hk | hk
          · have := k1 k hk hh; omega
          · have := k2 k hk hh; omega
        · refine ⟨by simp, by simp only; omega, fun hh => absurd hh hne, fun _ => by simp [Utf8.runeError], fun k a b => by simp only at b; omega⟩
      · split
        · rename_i c1
          simp only [Bool.and_eq_true, decide_eq_true_eq, beq_iff_eq] at c1
          split
          · rename_i c2
            simp only [Bool.and_eq_true, decide_eq_true_eq] at c2
            refine ⟨by simp, by simp only; omega, fun hh => absurd hh hne, fun _ => by simp only; omega, fun k a b hh => ?_⟩
            simp only at b
            rcases (by omega : k = pos + 1 ∨ k = pos + 2 ∨ k = pos + 3) with hk | hk | hk
            · have := k1 k hk hh; omega
            · have := k2 k hk hh; omega
            · have := k3 k hk hh; omega
          · refine ⟨by simp, by simp only; omega, fun hh => absurd hh hne, fun _ => by simp [Utf8.runeError], fun k a b => by simp only at b; omega⟩
        · refine ⟨by simp, by simp only; omega, fun hh => absurd hh hne, fun _ => by simp [Utf8.runeError], fun k a b => by simp only at b; omega⟩
end Go.Vm
end
