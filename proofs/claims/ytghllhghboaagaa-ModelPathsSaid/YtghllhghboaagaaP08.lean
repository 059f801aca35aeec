/- The document's model: nodes by their number, names of nodes. -/
import Derived.Test.YtghllhghboaagaaP07
/-! The document's model: nodes by their number, names of nodes. -/
section
set_option linter.unusedVariables false
set_option linter.unusedSimpArgs false
set_option maxRecDepth 10000
namespace Go.Proofs.Ytghllhghboaagaa
open Go.Vm
/-- The place of a node, counted from i on. -/
def findFrom (ino : Int) : Nat → List Node → Int
  | _, [] => -1
  | i, x :: r => if x.ino = ino then (i : Int) else findFrom ino (i + 1) r
theorem findFrom_spec (ino : Int) : ∀ (l : List Node) (i : Nat), (l.find? (fun n => decide (n.ino = ino)) = none ∧ findFrom ino i l = -1) ∨ ∃ (k : Nat) (hk : k < l.length), findFrom ino i l = ((i + k : Nat) : Int) ∧ l.find? (fun n => decide (n.ino = ino)) = some l[k]
  | [], i => .inl ⟨rfl, rfl⟩
  | x :: r, i => by
    by_cases h : x.ino = ino
    · exact .inr ⟨0, by simp, by simp [findFrom, h], by simp [h]⟩
    · rcases findFrom_spec ino r (i + 1) with ⟨h1, h2⟩ | ⟨k, hk, h1, h2⟩
      · exact .inl ⟨by simp [h, h1], by simp [findFrom, h, h2]⟩
      · exact .inr ⟨k + 1, by simp; omega, by simp [findFrom, h, h1]; omega, by simp [h, h2]⟩
theorem find_l (t : List Node) (ino : Int) (hl : t.length < 1000000) (R : Post) (S : Store) (g4 : V) : ∀ (k i : Nat) (g6 g7 g8 g9 g10 g11 g12 g13 g14 g15 g16 g17 g18 g19 : V), t.length - i = k → i ≤ t.length →
   (∀ g6 g7 g8 g9 g10 g11 g12 g13 g14 g15 g16 g17 g18 g19, findFrom ino i (t.drop i) = -1 → R (.exit 0) ((.d (.sl (t.map encNode))) :: (.d (.int .i64 ino)) :: (.tup []) :: (.tup []) :: g4 :: (.d (.int .i64 t.length)) :: g6 :: g7 :: g8 :: g9 :: g10 :: g11 :: g12 :: g13 :: g14 :: g15 :: g16 :: g17 :: g18 :: g19 :: []) S []) →
   (∀ v5 g6 g7 g8 g9 g10 g11 g12 g13 g14 g15 g16 g17 g18 g19, R .ret ((.d (.sl (t.map encNode))) :: (.d (.int .i64 ino)) :: (.tup []) :: (.tup []) :: (.d (.int .i64 (findFrom ino i (t.drop i)))) :: v5 :: g6 :: g7 :: g8 :: g9 :: g10 :: g11 :: g12 :: g13 :: g14 :: g15 :: g16 :: g17 :: g18 :: g19 :: []) S []) →
   Wp cfg (.loop (lpOf (Try.f67.body.getD .skip) 0)) ((.d (.sl (t.map encNode))) :: (.d (.int .i64 ino)) :: (.tup []) :: (.tup []) :: g4 :: (.d (.int .i64 i)) :: g6 :: g7 :: g8 :: g9 :: g10 :: g11 :: g12 :: g13 :: g14 :: g15 :: g16 :: g17 :: g18 :: g19 :: []) S [] R := by
  intro k
  induction k with
  | zero =>
    intro i g6 g7 g8 g9 g10 g11 g12 g13 g14 g15 g16 g17 g18 g19 hk hi hE hR
    have hie : i = t.length := by omega
    subst hie
    rw [wk_of]
    refine wk_loop ?_
    conv => arg 2; whnf
    simp (maxSteps := 1000000) (disch := first | assumption | omega | rfl) only [↓vmp, vme, vmb, ty, hP, dec_t, dec_f, wrap64, List.length_map, Int.toNat_natCast, Nat.reduceAdd]
    exact hE _ _ _ _ _ _ _ _ _ _ _ _ _ _ (by rw [List.drop_length]; rfl)
  | succ k ih =>
    intro i g6 g7 g8 g9 g10 g11 g12 g13 g14 g15 g16 g17 g18 g19 hk hi hE hR
    have hlt : i < t.length := by omega
    have hdr : t.drop i = t[i] :: t.drop (i + 1) := List.drop_eq_getElem_cons hlt
    rw [hdr] at hE hR
    rw [wk_of]
    refine wk_loop ?_
    conv => arg 2; whnf
    by_cases hc : t[i].ino = ino
    · simp (maxSteps := 1000000) (disch := first | assumption | omega | rfl) only [↓vmp, vme, vmb, ty, hP, dec_t, dec_f, wrap64, List.length_map, Int.toNat_natCast, Nat.reduceAdd]
      simp only [findFrom, hc, if_true] at hR
      exact hR _ _ _ _ _ _ _ _ _ _ _ _ _ _ _
    · simp (maxSteps := 1000000) (disch := first | assumption | omega | rfl) only [↓vmp, vme, vmb, ty, hP, dec_t, dec_f, wrap64, List.length_map, Int.toNat_natCast, Nat.reduceAdd]
      simp only [findFrom, hc, if_false] at hE hR
      exact ih (i + 1) _ _ _ _ _ _ _ _ _ _ _ _ _ _ (by omega) (by omega) hE hR
theorem find_ok (t : List Node) (ino : Int) (hl : t.length < 1000000) : Ev cfg 67 [.sl (t.map encNode), .int .i64 ino] (.ret (.d (.int .i64 (findFrom ino 0 t)))) := by
  refine ev_of rfl rfl body67 ?_
  show Wp cfg (Try.f67.body.getD .skip) ((.d (.sl (t.map encNode))) :: (.d (.int .i64 ino)) :: (.tup []) :: (.tup []) :: (.tup []) :: (.tup []) :: (.tup []) :: (.tup []) :: (.tup []) :: (.tup []) :: (.tup []) :: (.tup []) :: (.tup []) :: (.tup []) :: (.tup []) :: (.tup []) :: (.tup []) :: (.tup []) :: (.tup []) :: (.tup []) :: []) [] [] _
  conv => arg 2; whnf
  simp (maxSteps := 1000000) (disch := first | assumption | omega | rfl) only [↓vmp, vme, vmb, ty, hP, dec_t, dec_f, wrap64, List.length_map, Int.toNat_natCast, Nat.reduceAdd]
  refine find_l t ino hl _ _ _ t.length 0 _ _ _ _ _ _ _ _ _ _ _ _ _ _ rfl (by omega) ?_ ?_
  · intro g6 g7 g8 g9 g10 g11 g12 g13 g14 g15 g16 g17 g18 g19 h
    rw [List.drop_zero] at h
    rw [h]
    simp (maxSteps := 1000000) (disch := first | assumption | omega | rfl) only [↓vmp, vme, vmb, ty, hP, dec_t, dec_f, wrap64, List.length_map, Int.toNat_natCast, Nat.reduceAdd]
    exact retQ_one rfl rfl rfl
  · intro v5 g6 g7 g8 g9 g10 g11 g12 g13 g14 g15 g16 g17 g18 g19
    simp (maxSteps := 1000000) (disch := first | assumption | omega | rfl) only [↓vmp, vme, vmb, ty, hP, dec_t, dec_f, wrap64, List.length_map, Int.toNat_natCast, Nat.reduceAdd]
    exact retQ_one rfl rfl rfl
theorem call_find {ops : Array Oper} {dst : Option Tmp} {l : List Oper} {T : List V} {S : Store} {F : Dfs} {Q : Post} {t : List Node} {ino : Int} (hl : t.length < 1000000) :
    WpR cfg ops dst l T S F Q (some (.enter 67 [.d (.sl (t.map encNode)), .d (.int .i64 ino)])) = WpL cfg ops l (putT T dst (.d (.int .i64 (findFrom ino 0 t)))) S F Q :=
  wr_call_d (ds := [.sl (t.map encNode), .int .i64 ino]) rfl (find_ok t ino hl)
def zeroNode : Node := ⟨0, 0, 0, 0, 0, [], []⟩
/-- The node of a number. -/
def getN (t : List Node) (ino : Int) : Node := (t.find? (fun n => decide (n.ino = ino))).getD zeroNode
theorem get_ok (t : List Node) (ino : Int) (hl : t.length < 1000000) : Ev cfg 65 [.sl (t.map encNode), .int .i64 ino] (.ret (.d (encNode (getN t ino)))) := by
  refine ev_of rfl rfl body65 ?_
  show Wp cfg (Try.f65.body.getD .skip) ((.d (.sl (t.map encNode))) :: (.d (.int .i64 ino)) :: (.tup []) :: (.tup []) :: (.tup []) :: (.tup []) :: (.tup []) :: (.tup []) :: (.tup []) :: (.tup []) :: (.tup []) :: (.tup []) :: (.tup []) :: (.tup []) :: (.tup []) :: (.tup []) :: []) [] [] _
  conv => arg 2; whnf
  have hb : buildV Try.prog 91 [] = some (.agg [.d (.int .i64 0), .d (.int .i64 0), .d (.int .i64 0), .d (.int .i64 0), .d (.int .i64 0), .ts [], .ts []]) := by kernel_rfl
  rcases findFrom_spec ino t 0 with ⟨h1, h2⟩ | ⟨k, hk, h1, h2⟩
  · simp (maxSteps := 1000000) (disch := first | assumption | omega | rfl) only [↓vmp, vme, vmb, ty, hP, dec_t, dec_f, wrap64, List.length_map, Int.toNat_natCast, Nat.reduceAdd, call_find, h2, hb]
    refine retQ_cell rfl (v := .agg [.d (.int .i64 0), .d (.int .i64 0), .d (.int .i64 0), .d (.int .i64 0), .d (.int .i64 0), .ts [], .ts []]) (by kernel_rfl) rfl ?_
    simp only [getN, h1, Option.getD_none]
    rfl
  · rw [Nat.zero_add] at h1
    simp (maxSteps := 1000000) (disch := first | assumption | omega | rfl) only [↓vmp, vme, vmb, ty, hP, dec_t, dec_f, wrap64, List.length_map, Int.toNat_natCast, Nat.reduceAdd, call_find, h1, hb]
    refine retQ_cell rfl (v := .d (encNode t[k])) (by kernel_rfl) rfl ?_
    simp only [getN, h2, Option.getD_some]
    rfl
theorem call_get {ops : Array Oper} {dst : Option Tmp} {l : List Oper} {T : List V} {S : Store} {F : Dfs} {Q : Post} {t : List Node} {ino : Int} (hl : t.length < 1000000) :
    WpR cfg ops dst l T S F Q (some (.enter 65 [.d (.sl (t.map encNode)), .d (.int .i64 ino)])) = WpL cfg ops l (putT T dst (.d (encNode (getN t ino)))) S F Q :=
  wr_call_d (ds := [.sl (t.map encNode), .int .i64 ino]) rfl (get_ok t ino hl)
/-- What a name of a node tells. -/
def nameN (l : List Ent) (s : List UInt8) : Int := match l.find? (fun e => decide (e.name = s)) with | some e => e.ino | none => -1
theorem nameN_pos {x : Ent} {r : List Ent} {s : List UInt8} (h : x.name = s) : nameN (x :: r) s = x.ino := by simp [nameN, h]
theorem nameN_neg {x : Ent} {r : List Ent} {s : List UInt8} (h : ¬ x.name = s) : nameN (x :: r) s = nameN r s := by simp [nameN, h]
theorem name_l (n : Node) (s : List UInt8) (hl : n.names.length < 1000000) (R : Post) (g4 : V) : ∀ (k i : Nat) (g6 g7 g8 g9 g10 g11 g12 g13 g14 g15 g16 g17 g18 g19 g20 g21 g22 g23 g24 g25 g26 : V), n.names.length - i = k → i ≤ n.names.length →
   (∀ g6 g7 g8 g9 g10 g11 g12 g13 g14 g15 g16 g17 g18 g19 g20 g21 g22 g23 g24 g25 g26, nameN (n.names.drop i) s = -1 → R (.exit 0) ((.d (encNode n)) :: (.d (.str s)) :: (.ref 0 0 0) :: (.tup []) :: g4 :: (.d (.int .i64 n.names.length)) :: g6 :: g7 :: g8 :: g9 :: g10 :: g11 :: g12 :: g13 :: g14 :: g15 :: g16 :: g17 :: g18 :: g19 :: g20 :: g21 :: g22 :: g23 :: g24 :: g25 :: g26 :: []) [.row [.d (encNode n)] 91] []) →
   (∀ v5 g6 g7 g8 g9 g10 g11 g12 g13 g14 g15 g16 g17 g18 g19 g20 g21 g22 g23 g24 g25 g26, R .ret ((.d (encNode n)) :: (.d (.str s)) :: (.ref 0 0 0) :: (.tup []) :: (.d (.int .i64 (nameN (n.names.drop i) s))) :: v5 :: g6 :: g7 :: g8 :: g9 :: g10 :: g11 :: g12 :: g13 :: g14 :: g15 :: g16 :: g17 :: g18 :: g19 :: g20 :: g21 :: g22 :: g23 :: g24 :: g25 :: g26 :: []) [.row [.d (encNode n)] 91] []) →
   Wp cfg (.loop (lpOf (Try.f87.body.getD .skip) 0)) ((.d (encNode n)) :: (.d (.str s)) :: (.ref 0 0 0) :: (.tup []) :: g4 :: (.d (.int .i64 i)) :: g6 :: g7 :: g8 :: g9 :: g10 :: g11 :: g12 :: g13 :: g14 :: g15 :: g16 :: g17 :: g18 :: g19 :: g20 :: g21 :: g22 :: g23 :: g24 :: g25 :: g26 :: []) [.row [.d (encNode n)] 91] [] R := by
  intro k
  induction k with
  | zero =>
    intro i g6 g7 g8 g9 g10 g11 g12 g13 g14 g15 g16 g17 g18 g19 g20 g21 g22 g23 g24 g25 g26 hk hi hE hR
    have hie : i = n.names.length := by omega
    subst hie
    rw [wk_of]
    refine wk_loop ?_
    conv => arg 2; whnf
    simp (maxSteps := 1000000) (disch := first | assumption | omega | rfl) only [↓vmp, vme, vmb, ty, hP, dec_t, dec_f, wrap64, List.length_map, Int.toNat_natCast, Nat.reduceAdd]
    exact hE _ _ _ _ _ _ _ _ _ _ _ _ _ _ _ _ _ _ _ _ _ (by rw [List.drop_length]; rfl)
  | succ k ih =>
    intro i g6 g7 g8 g9 g10 g11 g12 g13 g14 g15 g16 g17 g18 g19 g20 g21 g22 g23 g24 g25 g26 hk hi hE hR
    have hlt : i < n.names.length := by omega
    have hdr : n.names.drop i = n.names[i] :: n.names.drop (i + 1) := List.drop_eq_getElem_cons hlt
    rw [hdr] at hE hR
    rw [wk_of]
    refine wk_loop ?_
    conv => arg 2; whnf
    by_cases hc : n.names[i].name = s
    · simp (maxSteps := 1000000) (disch := first | assumption | omega | rfl) only [↓vmp, vme, vmb, ty, hP, dec_t, dec_f, wrap64, List.length_map, Int.toNat_natCast, Nat.reduceAdd, sb_eql]
      rw [nameN_pos hc] at hR
      exact hR _ _ _ _ _ _ _ _ _ _ _ _ _ _ _ _ _ _ _ _ _ _
    · simp (maxSteps := 1000000) (disch := first | assumption | omega | rfl) only [↓vmp, vme, vmb, ty, hP, dec_t, dec_f, wrap64, List.length_map, Int.toNat_natCast, Nat.reduceAdd, sb_eql]
      rw [nameN_neg hc] at hE hR
      exact ih (i + 1) _ _ _ _ _ _ _ _ _ _ _ _ _ _ _ _ _ _ _ _ _ (by omega) (by omega) hE hR
theorem name_ok (n : Node) (s : List UInt8) (hl : n.names.length < 1000000) : Ev cfg 87 [encNode n, .str s] (.ret (.d (.int .i64 (nameN n.names s)))) := by
  refine ev_of rfl rfl body87 ?_
  show Wp cfg (Try.f87.body.getD .skip) ((.d (encNode n)) :: (.d (.str s)) :: (.tup []) :: (.tup []) :: (.tup []) :: (.tup []) :: (.tup []) :: (.tup []) :: (.tup []) :: (.tup []) :: (.tup []) :: (.tup []) :: (.tup []) :: (.tup []) :: (.tup []) :: (.tup []) :: (.tup []) :: (.tup []) :: (.tup []) :: (.tup []) :: (.tup []) :: (.tup []) :: (.tup []) :: (.tup []) :: (.tup []) :: (.tup []) :: (.tup []) :: []) [] [] _
  conv => arg 2; whnf
  simp (maxSteps := 1000000) (disch := first | assumption | omega | rfl) only [↓vmp, vme, vmb, ty, hP, dec_t, dec_f, wrap64, List.length_map, Int.toNat_natCast, Nat.reduceAdd]
  refine name_l n s hl _ _ n.names.length 0 _ _ _ _ _ _ _ _ _ _ _ _ _ _ _ _ _ _ _ _ _ rfl (by omega) ?_ ?_
  · intro g6 g7 g8 g9 g10 g11 g12 g13 g14 g15 g16 g17 g18 g19 g20 g21 g22 g23 g24 g25 g26 h
    rw [List.drop_zero] at h
    rw [h]
    simp (maxSteps := 1000000) (disch := first | assumption | omega | rfl) only [↓vmp, vme, vmb, ty, hP, dec_t, dec_f, wrap64, List.length_map, Int.toNat_natCast, Nat.reduceAdd]
    exact retQ_one rfl rfl rfl
  · intro v5 g6 g7 g8 g9 g10 g11 g12 g13 g14 g15 g16 g17 g18 g19 g20 g21 g22 g23 g24 g25 g26
    simp (maxSteps := 1000000) (disch := first | assumption | omega | rfl) only [↓vmp, vme, vmb, ty, hP, dec_t, dec_f, wrap64, List.length_map, Int.toNat_natCast, Nat.reduceAdd]
    exact retQ_one rfl rfl rfl
theorem call_name {ops : Array Oper} {dst : Option Tmp} {l : List Oper} {T : List V} {S : Store} {F : Dfs} {Q : Post} {n : Node} {s : List UInt8} (hl : n.names.length < 1000000) :
    WpR cfg ops dst l T S F Q (some (.enter 87 [.d (encNode n), .d (.str s)])) = WpL cfg ops l (putT T dst (.d (.int .i64 (nameN n.names s)))) S F Q :=
  wr_call_d (ds := [encNode n, .str s]) rfl (name_ok n s hl)
theorem call_with {ops : Array Oper} {dst : Option Tmp} {l : List Oper} {T : List V} {S : Store} {F : Dfs} {Q : Post} {t : List Node} {n : Node} (hl : t.length < 400000) :
    WpR cfg ops dst l T S F Q (some (.enter 89 [.d (.sl (t.map encNode)), .d (encNode n)])) = WpL cfg ops l (putT T dst (.d (.sl ((withN t n).map encNode)))) S F Q :=
  wr_call_d (ds := [.sl (t.map encNode), encNode n]) rfl (with_ok t n hl)
theorem call_less {ops : Array Oper} {dst : Option Tmp} {l : List Oper} {T : List V} {S : Store} {F : Dfs} {Q : Post} {t : List Node} {ino : Int} (hl : t.length < 1000000) :
    WpR cfg ops dst l T S F Q (some (.enter 112 [.d (.sl (t.map encNode)), .d (.int .i64 ino)])) = WpL cfg ops l (putT T dst (.d (.sl ((t.filter (fun n => n.ino ≠ ino)).map encNode)))) S F Q :=
  wr_call_d (ds := [.sl (t.map encNode), .int .i64 ino]) rfl (less_ok t ino hl)
end Go.Proofs.Ytghllhghboaagaa
end
/-! The document's model: names dropped, links lost. -/
section
set_option linter.unusedVariables false
set_option linter.unusedSimpArgs false
set_option maxRecDepth 10000
namespace Go.Proofs.Ytghllhghboaagaa
open Go.Vm
theorem call_withA {ops : Array Oper} {dst : Option Tmp} {l : List Oper} {T : List V} {S : Store} {F : Dfs} {Q : Post} {t : List Node} {a b c d e : Int} {f : List UInt8} {g : List Ent} (hl : t.length < 400000) :
    WpR cfg ops dst l T S F Q (some (.enter 89 [.d (.sl (t.map encNode)), .agg [.d (.int .i64 a), .d (.int .i64 b), .d (.int .i64 c), .d (.int .i64 d), .d (.int .i64 e), .d (encB f), .d (.sl (g.map encEnt))]])) = WpL cfg ops l (putT T dst (.d (.sl ((withN t ⟨a, b, c, d, e, f, g⟩).map encNode)))) S F Q :=
  wr_call_v (ds := [.sl (t.map encNode), encNode ⟨a, b, c, d, e, f, g⟩]) rfl rfl rfl (with_ok t _ hl)
def losesN (t : List Node) (ino : Int) : List Node := if (getN t ino).links - 1 < 1 then t.filter (fun n => n.ino ≠ ino) else withN t { getN t ino with links := (getN t ino).links - 1 }
theorem loses_ok (t : List Node) (ino : Int) (hl : t.length < 400000) (hk : -1000000 ≤ (getN t ino).links ∧ (getN t ino).links ≤ 1000000) : Ev cfg 90 [.sl (t.map encNode), .int .i64 ino] (.ret (.d (.sl ((losesN t ino).map encNode)))) := by
  refine ev_of rfl rfl body90 ?_
  show Wp cfg (Try.f90.body.getD .skip) ((.d (.sl (t.map encNode))) :: (.d (.int .i64 ino)) :: (.tup []) :: (.tup []) :: (.tup []) :: (.tup []) :: (.tup []) :: (.tup []) :: (.tup []) :: (.tup []) :: (.tup []) :: (.tup []) :: (.tup []) :: (.tup []) :: (.tup []) :: (.tup []) :: (.tup []) :: (.tup []) :: (.tup []) :: (.tup []) :: (.tup []) :: (.tup []) :: []) [] [] _
  conv => arg 2; whnf
  by_cases h : (getN t ino).links - 1 < 1
  · simp (maxSteps := 1000000) (disch := first | assumption | omega | rfl) only [↓vmp, vme, vmb, ty, hP, dec_t, dec_f, wrap64, List.length_map, Int.toNat_natCast, Nat.reduceAdd, call_get, call_less]
    simp only [losesN, h, if_true]
    exact retQ_one rfl rfl rfl
  · simp (maxSteps := 1000000) (disch := first | assumption | omega | rfl) only [↓vmp, vme, vmb, ty, hP, dec_t, dec_f, wrap64, List.length_map, Int.toNat_natCast, Nat.reduceAdd, call_get, call_withA]
    simp only [losesN, h, if_false]
    exact retQ_one rfl rfl rfl
theorem call_loses {ops : Array Oper} {dst : Option Tmp} {l : List Oper} {T : List V} {S : Store} {F : Dfs} {Q : Post} {t : List Node} {ino : Int} (hl : t.length < 400000) (hk1 : -1000000 ≤ (getN t ino).links) (hk2 : (getN t ino).links ≤ 1000000) :
    WpR cfg ops dst l T S F Q (some (.enter 90 [.d (.sl (t.map encNode)), .d (.int .i64 ino)])) = WpL cfg ops l (putT T dst (.d (.sl ((losesN t ino).map encNode)))) S F Q :=
  wr_call_d (ds := [.sl (t.map encNode), .int .i64 ino]) rfl (loses_ok t ino hl ⟨hk1, hk2⟩)
/-- Is a directory another one, or below it? In so many steps. -/
def belowN (t : List Node) (top : Int) : Nat → Int → Bool
  | 0, _ => false
  | n + 1, d => if d = top then true else belowN t top n (getN t d).parent
theorem below_l (t : List Node) (top : Int) (hl : t.length < 400000) (R : Post) (S : Store) (g6 : V) : ∀ (k i : Nat) (d : Int) (g8 g9 g10 g11 g12 g13 g14 g15 g16 g17 g18 g19 g20 : V), t.length + 1 - i = k → i ≤ t.length + 1 →
   (∀ v1 v7 g8 g9 g10 g11 g12 g13 g14 g15 g16 g17 g18 g19 g20, belowN t top k d = false → R (.exit 0) ((.d (.sl (t.map encNode))) :: v1 :: (.d (.int .i64 top)) :: (.tup []) :: (.tup []) :: (.tup []) :: g6 :: v7 :: g8 :: g9 :: g10 :: g11 :: g12 :: g13 :: g14 :: g15 :: g16 :: g17 :: g18 :: g19 :: g20 :: []) S []) →
   (∀ v1 v7 g8 g9 g10 g11 g12 g13 g14 g15 g16 g17 g18 g19 g20, belowN t top k d = true → R .ret ((.d (.sl (t.map encNode))) :: v1 :: (.d (.int .i64 top)) :: (.tup []) :: (.tup []) :: (.tup []) :: (.d (.bool true)) :: v7 :: g8 :: g9 :: g10 :: g11 :: g12 :: g13 :: g14 :: g15 :: g16 :: g17 :: g18 :: g19 :: g20 :: []) S []) →
   Wp cfg (.loop (lpOf (Try.f92.body.getD .skip) 0)) ((.d (.sl (t.map encNode))) :: (.d (.int .i64 d)) :: (.d (.int .i64 top)) :: (.tup []) :: (.tup []) :: (.tup []) :: g6 :: (.d (.int .i64 i)) :: g8 :: g9 :: g10 :: g11 :: g12 :: g13 :: g14 :: g15 :: g16 :: g17 :: g18 :: g19 :: g20 :: []) S [] R := by
  intro k
  induction k with
  | zero =>
    intro i d g8 g9 g10 g11 g12 g13 g14 g15 g16 g17 g18 g19 g20 hk hi hE hR
    have hie : i = t.length + 1 := by omega
    subst hie
    rw [wk_of]
    refine wk_loop ?_
    conv => arg 2; whnf
    simp (maxSteps := 1000000) (disch := first | assumption | omega | rfl) only [↓vmp, vme, vmb, ty, hP, dec_t, dec_f, wrap64, List.length_map, Int.toNat_natCast, Nat.reduceAdd]
    exact hE _ _ _ _ _ _ _ _ _ _ _ _ _ _ _ rfl
  | succ k ih =>
    intro i d g8 g9 g10 g11 g12 g13 g14 g15 g16 g17 g18 g19 g20 hk hi hE hR
    have hlt : i ≤ t.length := by omega
    rw [wk_of]
    refine wk_loop ?_
    conv => arg 2; whnf
    by_cases hc : d = top
    · simp (maxSteps := 1000000) (disch := first | assumption | omega | rfl) only [↓vmp, vme, vmb, ty, hP, dec_t, dec_f, wrap64, List.length_map, Int.toNat_natCast, Nat.reduceAdd]
      exact hR _ _ _ _ _ _ _ _ _ _ _ _ _ _ _ (by simp [belowN, hc])
    · simp (maxSteps := 1000000) (disch := first | assumption | omega | rfl) only [↓vmp, vme, vmb, ty, hP, dec_t, dec_f, wrap64, List.length_map, Int.toNat_natCast, Nat.reduceAdd, call_get]
      have e : belowN t top (k + 1) d = belowN t top k (getN t d).parent := by simp [belowN, hc]
      rw [e] at hE hR
      exact ih (i + 1) _ _ _ _ _ _ _ _ _ _ _ _ _ _ (by omega) (by omega) hE hR
theorem below_ok (t : List Node) (d top : Int) (hl : t.length < 400000) : Ev cfg 92 [.sl (t.map encNode), .int .i64 d, .int .i64 top] (.ret (.d (.bool (belowN t top (t.length + 1) d)))) := by
  refine ev_of rfl rfl body92 ?_
  show Wp cfg (Try.f92.body.getD .skip) ((.d (.sl (t.map encNode))) :: (.d (.int .i64 d)) :: (.d (.int .i64 top)) :: (.tup []) :: (.tup []) :: (.tup []) :: (.tup []) :: (.tup []) :: (.tup []) :: (.tup []) :: (.tup []) :: (.tup []) :: (.tup []) :: (.tup []) :: (.tup []) :: (.tup []) :: (.tup []) :: (.tup []) :: (.tup []) :: (.tup []) :: (.tup []) :: []) [] [] _
  conv => arg 2; whnf
  simp (maxSteps := 1000000) (disch := first | assumption | omega | rfl) only [↓vmp, vme, vmb, ty, hP, dec_t, dec_f, wrap64, List.length_map, Int.toNat_natCast, Nat.reduceAdd]
  refine below_l t top hl _ _ _ (t.length + 1) 0 d _ _ _ _ _ _ _ _ _ _ _ _ _ rfl (by omega) ?_ ?_
  · intro v1 v7 g8 g9 g10 g11 g12 g13 g14 g15 g16 g17 g18 g19 g20 h
    rw [h]
    simp (maxSteps := 1000000) (disch := first | assumption | omega | rfl) only [↓vmp, vme, vmb, ty, hP, dec_t, dec_f, wrap64, List.length_map, Int.toNat_natCast, Nat.reduceAdd]
    exact retQ_one rfl rfl rfl
  · intro v1 v7 g8 g9 g10 g11 g12 g13 g14 g15 g16 g17 g18 g19 g20 h
    rw [h]
    simp (maxSteps := 1000000) (disch := first | assumption | omega | rfl) only [↓vmp, vme, vmb, ty, hP, dec_t, dec_f, wrap64, List.length_map, Int.toNat_natCast, Nat.reduceAdd]
    exact retQ_one rfl rfl rfl
theorem call_below {ops : Array Oper} {dst : Option Tmp} {l : List Oper} {T : List V} {S : Store} {F : Dfs} {Q : Post} {t : List Node} {d top : Int} (hl : t.length < 400000) :
    WpR cfg ops dst l T S F Q (some (.enter 92 [.d (.sl (t.map encNode)), .d (.int .i64 d), .d (.int .i64 top)])) = WpL cfg ops l (putT T dst (.d (.bool (belowN t top (t.length + 1) d)))) S F Q :=
  wr_call_d (ds := [.sl (t.map encNode), .int .i64 d, .int .i64 top]) rfl (below_ok t d top hl)
/-- Is a text less than another one, byte by byte? -/
def lessS : List UInt8 → List UInt8 → Bool
  | x :: a, y :: b => if x ≠ y then decide (x < y) else lessS a b
  | [], _ :: _ => true
  | _, [] => false
theorem u8_ne {a b : UInt8} (h : a ≠ b) : ((a.toNat : Int)) ≠ ((b.toNat : Int)) := fun e => h (UInt8.toNat_inj.1 (by omega))
theorem lessS_l (a b : List UInt8) (hla : a.length < 1000000) (hlb : b.length < 1000000) (R : Post) (S : Store) (g4 : V) : ∀ (k i : Nat) (g6 g7 g8 g9 g10 g11 g12 g13 g14 g15 g16 g17 g18 g19 g20 g21 g22 g23 g24 g25 g26 g27 g28 g29 g30 g31 g32 g33 g34 g35 g36 : V), a.length - i = k → i ≤ a.length → i ≤ b.length →
   (∀ v5 g6 g7 g8 g9 g10 g11 g12 g13 g14 g15 g16 g17 g18 g19 g20 g21 g22 g23 g24 g25 g26 g27 g28 g29 g30 g31 g32 g33 g34 g35 g36, lessS (a.drop i) (b.drop i) = decide (a.length < b.length) → R (.exit 0) ((.d (.str a)) :: (.d (.str b)) :: (.tup []) :: (.tup []) :: g4 :: v5 :: g6 :: g7 :: g8 :: g9 :: g10 :: g11 :: g12 :: g13 :: g14 :: g15 :: g16 :: g17 :: g18 :: g19 :: g20 :: g21 :: g22 :: g23 :: g24 :: g25 :: g26 :: g27 :: g28 :: g29 :: g30 :: g31 :: g32 :: g33 :: g34 :: g35 :: g36 :: []) S []) →
   (∀ v5 g6 g7 g8 g9 g10 g11 g12 g13 g14 g15 g16 g17 g18 g19 g20 g21 g22 g23 g24 g25 g26 g27 g28 g29 g30 g31 g32 g33 g34 g35 g36, R .ret ((.d (.str a)) :: (.d (.str b)) :: (.tup []) :: (.tup []) :: (.d (.bool (lessS (a.drop i) (b.drop i)))) :: v5 :: g6 :: g7 :: g8 :: g9 :: g10 :: g11 :: g12 :: g13 :: g14 :: g15 :: g16 :: g17 :: g18 :: g19 :: g20 :: g21 :: g22 :: g23 :: g24 :: g25 :: g26 :: g27 :: g28 :: g29 :: g30 :: g31 :: g32 :: g33 :: g34 :: g35 :: g36 :: []) S []) →
   Wp cfg (.loop (lpOf (Try.f111.body.getD .skip) 0)) ((.d (.str a)) :: (.d (.str b)) :: (.tup []) :: (.tup []) :: g4 :: (.d (.int .i64 i)) :: g6 :: g7 :: g8 :: g9 :: g10 :: g11 :: g12 :: g13 :: g14 :: g15 :: g16 :: g17 :: g18 :: g19 :: g20 :: g21 :: g22 :: g23 :: g24 :: g25 :: g26 :: g27 :: g28 :: g29 :: g30 :: g31 :: g32 :: g33 :: g34 :: g35 :: g36 :: []) S [] R := by
  intro k
  induction k with
  | zero =>
    intro i g6 g7 g8 g9 g10 g11 g12 g13 g14 g15 g16 g17 g18 g19 g20 g21 g22 g23 g24 g25 g26 g27 g28 g29 g30 g31 g32 g33 g34 g35 g36 hk hi hj hE hR
    have hie : i = a.length := by omega
    subst hie
    rw [wk_of]
    refine wk_loop ?_
    conv => arg 2; whnf
    simp (maxSteps := 1000000) (disch := first | assumption | omega | rfl) only [↓vmp, vme, vmb, ty, hP, dec_t, dec_f, wrap64, List.length_map, Int.toNat_natCast, Nat.reduceAdd, vmg]
    refine hE _ _ _ _ _ _ _ _ _ _ _ _ _ _ _ _ _ _ _ _ _ _ _ _ _ _ _ _ _ _ _ _ ?_
    rw [List.drop_length]
    by_cases h : a.length < b.length
    · rw [List.drop_eq_getElem_cons h]; simp [lessS, h]
    · rw [List.drop_eq_nil_of_le (by omega)]; simp [lessS, h]
  | succ k ih =>
    intro i g6 g7 g8 g9 g10 g11 g12 g13 g14 g15 g16 g17 g18 g19 g20 g21 g22 g23 g24 g25 g26 g27 g28 g29 g30 g31 g32 g33 g34 g35 g36 hk hi hj hE hR
    have hlt : i < a.length := by omega
    rw [wk_of]
    refine wk_loop ?_
    conv => arg 2; whnf
    by_cases hb : i < b.length
    · have h1 : a.drop i = a[i] :: a.drop (i + 1) := List.drop_eq_getElem_cons hlt
      have h2 : b.drop i = b[i] :: b.drop (i + 1) := List.drop_eq_getElem_cons hb
      rw [h1, h2] at hE hR
      simp (maxSteps := 1000000) (disch := first | assumption | omega | rfl) only [↓vmp, vme, vmb, ty, hP, dec_t, dec_f, wrap64, List.length_map, Int.toNat_natCast, Nat.reduceAdd, vmg]
      refine wk_draw (is := [0, 1, 2, 3, 4, 5, 6]) (h := 0) (by kernel_rfl) (by kernel_rfl) ?_
      by_cases hc : a[i] = b[i]
      · have hc' : ((a[i].toNat : Int)) = ((b[i].toNat : Int)) := by rw [hc]
        simp (maxSteps := 1000000) (disch := first | assumption | omega | rfl) only [List.replicate_zero, eq_self, vmd, vmk, vmo, vmg, vme, vmb, ty, hP, dec_t, dec_f, wrap64, List.length_map, Int.toNat_natCast, Nat.reduceAdd]
        refine ⟨by kernel_rfl, ?_⟩
        simp (maxSteps := 1000000) (disch := first | assumption | omega | rfl) only [↓vmp, vme, vmb, ty, hP, dec_t, dec_f, wrap64, List.length_map, Int.toNat_natCast, Nat.reduceAdd]
        have e : lessS (a[i] :: a.drop (i + 1)) (b[i] :: b.drop (i + 1)) = lessS (a.drop (i + 1)) (b.drop (i + 1)) := by rw [lessS, if_neg (by simpa using hc)]
        rw [e] at hE hR
        exact ih (i + 1) _ _ _ _ _ _ _ _ _ _ _ _ _ _ _ _ _ _ _ _ _ _ _ _ _ _ _ _ _ _ _ (by omega) (by omega) (by omega) hE hR
      · have hc' := u8_ne hc
        simp (maxSteps := 1000000) (disch := first | assumption | omega | rfl) only [List.replicate_zero, eq_self, vmd, vmk, vmo, vmg, vme, vmb, ty, hP, dec_t, dec_f, wrap64, List.length_map, Int.toNat_natCast, Nat.reduceAdd]
        refine ⟨by kernel_rfl, ?_⟩
        simp (maxSteps := 1000000) (disch := first | assumption | omega | rfl) only [↓vmp, vme, vmb, ty, hP, dec_t, dec_f, wrap64, List.length_map, Int.toNat_natCast, Nat.reduceAdd]
        refine wk_draw (is := [0, 1, 2, 3, 4, 5, 6, 7]) (h := 0) (by kernel_rfl) (by kernel_rfl) ?_
        simp (maxSteps := 1000000) (disch := first | assumption | omega | rfl) only [List.replicate_zero, eq_self, vmd, vmk, vmo, vmg, vme, vmb, ty, hP, dec_t, dec_f, wrap64, List.length_map, Int.toNat_natCast, Nat.reduceAdd]
        refine ⟨by kernel_rfl, ?_⟩
        simp (maxSteps := 1000000) (disch := first | assumption | omega | rfl) only [↓vmp, vme, vmb, ty, hP, dec_t, dec_f, wrap64, List.length_map, Int.toNat_natCast, Nat.reduceAdd]
        have e : lessS (a[i] :: a.drop (i + 1)) (b[i] :: b.drop (i + 1)) = decide ((a[i].toNat : Int) < (b[i].toNat : Int)) := by
          rw [lessS, if_pos hc]
          congr 1
          simp [UInt8.lt_iff_toNat_lt]
        rw [e] at hR
        exact hR _ _ _ _ _ _ _ _ _ _ _ _ _ _ _ _ _ _ _ _ _ _ _ _ _ _ _ _ _ _ _ _
    · simp (maxSteps := 1000000) (disch := first | assumption | omega | rfl) only [↓vmp, vme, vmb, ty, hP, dec_t, dec_f, wrap64, List.length_map, Int.toNat_natCast, Nat.reduceAdd, vmg]
      refine hE _ _ _ _ _ _ _ _ _ _ _ _ _ _ _ _ _ _ _ _ _ _ _ _ _ _ _ _ _ _ _ _ ?_
      have e1 : b.drop i = [] := List.drop_eq_nil_of_le (by omega)
      have e2 : decide (a.length < b.length) = false := decide_eq_false (by omega)
      rw [List.drop_eq_getElem_cons hlt, e1, e2]
      rfl
theorem lessS_ok (a b : List UInt8) (hla : a.length < 1000000) (hlb : b.length < 1000000) : Ev cfg 111 [.str a, .str b] (.ret (.d (.bool (lessS a b)))) := by
  refine ev_of rfl rfl body111 ?_
  show Wp cfg (Try.f111.body.getD .skip) ((.d (.str a)) :: (.d (.str b)) :: (.tup []) :: (.tup []) :: (.tup []) :: (.tup []) :: (.tup []) :: (.tup []) :: (.tup []) :: (.tup []) :: (.tup []) :: (.tup []) :: (.tup []) :: (.tup []) :: (.tup []) :: (.tup []) :: (.tup []) :: (.tup []) :: (.tup []) :: (.tup []) :: (.tup []) :: (.tup []) :: (.tup []) :: (.tup []) :: (.tup []) :: (.tup []) :: (.tup []) :: (.tup []) :: (.tup []) :: (.tup []) :: (.tup []) :: (.tup []) :: (.tup []) :: (.tup []) :: (.tup []) :: (.tup []) :: (.tup []) :: []) [] [] _
  conv => arg 2; whnf
  simp (maxSteps := 1000000) (disch := first | assumption | omega | rfl) only [↓vmp, vme, vmb, ty, hP, dec_t, dec_f, wrap64, List.length_map, Int.toNat_natCast, Nat.reduceAdd]
  refine lessS_l a b hla hlb _ _ _ a.length 0 _ _ _ _ _ _ _ _ _ _ _ _ _ _ _ _ _ _ _ _ _ _ _ _ _ _ _ _ _ _ _ rfl (by omega) (by omega) ?_ ?_
  · intro v5 g6 g7 g8 g9 g10 g11 g12 g13 g14 g15 g16 g17 g18 g19 g20 g21 g22 g23 g24 g25 g26 g27 g28 g29 g30 g31 g32 g33 g34 g35 g36 h
    rw [List.drop_zero, List.drop_zero] at h
    rw [h]
    by_cases hc : a.length < b.length <;> simp only [hc, decide_true, decide_false]
    · simp (maxSteps := 1000000) (disch := first | assumption | omega | rfl) only [↓vmp, vme, vmb, ty, hP, dec_t, dec_f, wrap64, List.length_map, Int.toNat_natCast, Nat.reduceAdd]
      exact retQ_one rfl rfl rfl
    · simp (maxSteps := 1000000) (disch := first | assumption | omega | rfl) only [↓vmp, vme, vmb, ty, hP, dec_t, dec_f, wrap64, List.length_map, Int.toNat_natCast, Nat.reduceAdd]
      exact retQ_one rfl rfl rfl
  · intro v5 g6 g7 g8 g9 g10 g11 g12 g13 g14 g15 g16 g17 g18 g19 g20 g21 g22 g23 g24 g25 g26 g27 g28 g29 g30 g31 g32 g33 g34 g35 g36
    simp (maxSteps := 1000000) (disch := first | assumption | omega | rfl) only [↓vmp, vme, vmb, ty, hP, dec_t, dec_f, wrap64, List.length_map, Int.toNat_natCast, Nat.reduceAdd]
    exact retQ_one rfl rfl rfl
theorem call_lessS {ops : Array Oper} {dst : Option Tmp} {l : List Oper} {T : List V} {S : Store} {F : Dfs} {Q : Post} {a b : List UInt8} (hla : a.length < 1000000) (hlb : b.length < 1000000) :
    WpR cfg ops dst l T S F Q (some (.enter 111 [.d (.str a), .d (.str b)])) = WpL cfg ops l (putT T dst (.d (.bool (lessS a b)))) S F Q :=
  wr_call_d (ds := [.str a, .str b]) rfl (lessS_ok a b hla hlb)
end Go.Proofs.Ytghllhghboaagaa
end
/-! The document's model: a name dropped, a name put in. -/
section
set_option linter.unusedVariables false
set_option linter.unusedSimpArgs false
set_option maxRecDepth 10000
namespace Go.Proofs.Ytghllhghboaagaa
open Go.Vm
theorem own_map {α : Type} {enc : α → D} {S : Store} {v : V} {e : TypeId} {xs : List α} (h : OwnS S v e (xs.map fun x => .d (enc x))) : OwnS S v e ((xs.map enc).map V.d) := by simpa [List.map_map, Function.comp_def] using h
theorem frz_node {S : Store} {a b c d e : Int} {f : List UInt8} {v : V} {g : List Ent} (h : OwnS S v 88 (g.map fun x => .d (encEnt x))) :
    frz S frzFuel (.agg [.d (.int .i64 a), .d (.int .i64 b), .d (.int .i64 c), .d (.int .i64 d), .d (.int .i64 e), .d (encB f), v]) = some (encNode ⟨a, b, c, d, e, f, g⟩) := by
  have h1 : frz S 11 v = some (.sl (g.map encEnt)) := own_frzn (n := 9) (own_map h)
  show (match allO (frz S 11) [.d (.int .i64 a), .d (.int .i64 b), .d (.int .i64 c), .d (.int .i64 d), .d (.int .i64 e), .d (encB f), v] with | some ds => if ds.any D.isAgg then none else some (D.agg ds) | none => none) = _
  have h2 : ∀ x : D, frz S 11 (.d x) = some x := fun _ => rfl
  simp only [allO, h1, h2]
  rfl
theorem ids_node {S : Store} {t : List D} {a b c d e : Int} {f : List UInt8} {v : V} {g : List Ent} (h : OwnS S v 88 (g.map fun x => .d (encEnt x))) :
    ∀ i ∈ [V.d (.sl t), V.agg [.d (.int .i64 a), .d (.int .i64 b), .d (.int .i64 c), .d (.int .i64 d), .d (.int .i64 e), .d (encB f), v]].flatMap (frzIds S frzFuel), RowD S i := by
  intro i hi
  have e1 : [V.d (.sl t), V.agg [.d (.int .i64 a), .d (.int .i64 b), .d (.int .i64 c), .d (.int .i64 d), .d (.int .i64 e), .d (encB f), v]].flatMap (frzIds S frzFuel) = (frzIds S 11 v ++ []) ++ [] := rfl
  rw [e1, List.append_nil, List.append_nil] at hi
  exact own_ids (n := 10) (own_map h) i hi
def dropN (t : List Node) (dir : Int) (s : List UInt8) : List Node := withN t { getN t dir with names := (getN t dir).names.filter (fun e => decide (e.name ≠ s)) }
theorem drop_l (t : List Node) (dir : Int) (s : List UInt8) (d : Node) (hl : d.names.length < 1000000) (R : Post) (g6 : V) : ∀ (k i : Nat) (xs : List Ent) (S : Store) (v8 g10 g11 g12 g13 g14 g15 g16 g17 g18 g19 g20 g21 g22 g23 g24 g25 g26 g27 g28 g29 g30 g31 g32 g33 g34 g35 g36 g37 g38 g39 g40 : V),
   d.names.length - i = k → i ≤ d.names.length → xs.length ≤ i → OwnS S v8 88 (xs.map fun n => .d (encEnt n)) → S[0]? = some (.row [.d (encNode d)] 91) → NotAt v8 0 →
   (∀ S v8 (xs' : List Ent) v9 g10 g11 g12 g13 g14 g15 g16 g17 g18 g19 g20 g21 g22 g23 g24 g25 g26 g27 g28 g29 g30 g31 g32 g33 g34 g35 g36 g37 g38 g39 g40, OwnS S v8 88 (xs'.map fun n => .d (encEnt n)) → xs' = xs ++ (d.names.drop i).filter (fun e => decide (e.name ≠ s)) → S[0]? = some (.row [.d (encNode d)] 91) → NotAt v8 0 → R (.exit 0) ((.d (.sl (t.map encNode))) :: (.d (.int .i64 dir)) :: (.d (.str s)) :: (.tup []) :: (.tup []) :: (.tup []) :: g6 :: (.ref 0 0 0) :: v8 :: v9 :: g10 :: g11 :: g12 :: g13 :: g14 :: g15 :: g16 :: g17 :: g18 :: g19 :: g20 :: g21 :: g22 :: g23 :: g24 :: g25 :: g26 :: g27 :: g28 :: g29 :: g30 :: g31 :: g32 :: g33 :: g34 :: g35 :: g36 :: g37 :: g38 :: g39 :: g40 :: []) S []) →
   Wp cfg (.loop (lpOf (Try.f91.body.getD .skip) 0)) ((.d (.sl (t.map encNode))) :: (.d (.int .i64 dir)) :: (.d (.str s)) :: (.tup []) :: (.tup []) :: (.tup []) :: g6 :: (.ref 0 0 0) :: v8 :: (.d (.int .i64 i)) :: g10 :: g11 :: g12 :: g13 :: g14 :: g15 :: g16 :: g17 :: g18 :: g19 :: g20 :: g21 :: g22 :: g23 :: g24 :: g25 :: g26 :: g27 :: g28 :: g29 :: g30 :: g31 :: g32 :: g33 :: g34 :: g35 :: g36 :: g37 :: g38 :: g39 :: g40 :: []) S [] R := by
  intro k
  induction k with
  | zero =>
    intro i xs S v8 g10 g11 g12 g13 g14 g15 g16 g17 g18 g19 g20 g21 g22 g23 g24 g25 g26 g27 g28 g29 g30 g31 g32 g33 g34 g35 g36 g37 g38 g39 g40 hk hi hxl ho hb hna hR
    have hie : i = d.names.length := by omega
    subst hie
    have hr : rowE S 0 0 = some (.d (encNode d)) := rowE_of hb
    rw [wk_of]
    refine wk_loop ?_
    conv => arg 2; whnf
    simp (maxSteps := 1000000) (disch := first | assumption | omega | rfl) only [↓vmp, vme, vmb, ty, hP, dec_t, dec_f, wrap64, List.length_map, Int.toNat_natCast, Nat.reduceAdd, hr]
    exact hR _ _ xs _ _ _ _ _ _ _ _ _ _ _ _ _ _ _ _ _ _ _ _ _ _ _ _ _ _ _ _ _ _ _ _ ho (by rw [List.drop_length]; simp) hb hna
  | succ k ih =>
    intro i xs S v8 g10 g11 g12 g13 g14 g15 g16 g17 g18 g19 g20 g21 g22 g23 g24 g25 g26 g27 g28 g29 g30 g31 g32 g33 g34 g35 g36 g37 g38 g39 g40 hk hi hxl ho hb hna hR
    have hlt : i < d.names.length := by omega
    have hdr : d.names.drop i = d.names[i] :: d.names.drop (i + 1) := List.drop_eq_getElem_cons hlt
    rw [hdr] at hR
    have hr : rowE S 0 0 = some (.d (encNode d)) := rowE_of hb
    rw [wk_of]
    refine wk_loop ?_
    conv => arg 2; whnf
    by_cases hc : d.names[i].name ≠ s
    · obtain ⟨v', S', c, ha, ho', hfr, hlen⟩ := ap30 d.names[i] ho (by omega)
      obtain ⟨hb', hna'⟩ := hfr _ _ hb hna
      simp (maxSteps := 1000000) (disch := first | assumption | omega | rfl) only [↓vmp, vme, vmb, ty, hP, dec_t, dec_f, wrap64, List.length_map, Int.toNat_natCast, Nat.reduceAdd, hr, sb_neq, ha]
      exact ih (i + 1) (xs ++ [d.names[i]]) S' v' _ _ _ _ _ _ _ _ _ _ _ _ _ _ _ _ _ _ _ _ _ _ _ _ _ _ _ _ _ _ _ (by omega) (by omega) (by simp; omega) ho' hb' hna' (fun S v8 xs' v9 g10 g11 g12 g13 g14 g15 g16 g17 g18 g19 g20 g21 g22 g23 g24 g25 g26 g27 g28 g29 g30 g31 g32 g33 g34 g35 g36 g37 g38 g39 g40 a1 a2 a3 a4 => hR S v8 xs' v9 g10 g11 g12 g13 g14 g15 g16 g17 g18 g19 g20 g21 g22 g23 g24 g25 g26 g27 g28 g29 g30 g31 g32 g33 g34 g35 g36 g37 g38 g39 g40 a1 (by rw [a2, List.filter_cons_of_pos (by simpa using hc)]; simp) a3 a4)
    · simp (maxSteps := 1000000) (disch := first | assumption | omega | rfl) only [↓vmp, vme, vmb, ty, hP, dec_t, dec_f, wrap64, List.length_map, Int.toNat_natCast, Nat.reduceAdd, hr, sb_neq]
      exact ih (i + 1) xs S v8 _ _ _ _ _ _ _ _ _ _ _ _ _ _ _ _ _ _ _ _ _ _ _ _ _ _ _ _ _ _ _ (by omega) (by omega) (by omega) ho hb hna (fun S v8 xs' v9 g10 g11 g12 g13 g14 g15 g16 g17 g18 g19 g20 g21 g22 g23 g24 g25 g26 g27 g28 g29 g30 g31 g32 g33 g34 g35 g36 g37 g38 g39 g40 a1 a2 a3 a4 => hR S v8 xs' v9 g10 g11 g12 g13 g14 g15 g16 g17 g18 g19 g20 g21 g22 g23 g24 g25 g26 g27 g28 g29 g30 g31 g32 g33 g34 g35 g36 g37 g38 g39 g40 a1 (by rw [a2, List.filter_cons_of_neg (by simpa using hc)]) a3 a4)
theorem drop_ok (t : List Node) (dir : Int) (s : List UInt8) (hl : t.length < 400000) (hn : (getN t dir).names.length < 1000000) : Ev cfg 91 [.sl (t.map encNode), .int .i64 dir, .str s] (.ret (.d (.sl ((dropN t dir s).map encNode)))) := by
  refine ev_of rfl rfl body91 ?_
  show Wp cfg (Try.f91.body.getD .skip) ((.d (.sl (t.map encNode))) :: (.d (.int .i64 dir)) :: (.d (.str s)) :: (.tup []) :: (.tup []) :: (.tup []) :: (.tup []) :: (.tup []) :: (.tup []) :: (.tup []) :: (.tup []) :: (.tup []) :: (.tup []) :: (.tup []) :: (.tup []) :: (.tup []) :: (.tup []) :: (.tup []) :: (.tup []) :: (.tup []) :: (.tup []) :: (.tup []) :: (.tup []) :: (.tup []) :: (.tup []) :: (.tup []) :: (.tup []) :: (.tup []) :: (.tup []) :: (.tup []) :: (.tup []) :: (.tup []) :: (.tup []) :: (.tup []) :: (.tup []) :: (.tup []) :: (.tup []) :: (.tup []) :: (.tup []) :: (.tup []) :: (.tup []) :: []) [] [] _
  conv => arg 2; whnf
  simp (maxSteps := 1000000) (disch := first | assumption | omega | rfl) only [↓vmp, vme, vmb, ty, hP, dec_t, dec_f, wrap64, List.length_map, Int.toNat_natCast, Nat.reduceAdd, call_get]
  refine drop_l t dir s (getN t dir) hn _ _ (getN t dir).names.length 0 [] _ _ _ _ _ _ _ _ _ _ _ _ _ _ _ _ _ _ _ _ _ _ _ _ _ _ _ _ _ _ _ _ _ rfl (by omega) (by simp) OwnS.nil rfl NotAt.ts ?_
  intro S v8 xs v9 g10 g11 g12 g13 g14 g15 g16 g17 g18 g19 g20 g21 g22 g23 g24 g25 g26 g27 g28 g29 g30 g31 g32 g33 g34 g35 g36 g37 g38 g39 g40 ho hx hb hna
  rw [List.nil_append, List.drop_zero] at hx
  have hr : rowE S 0 0 = some (.d (encNode (getN t dir))) := rowE_of hb
  have hst := sr91_6 (a := getN t dir) (v := v8) (own_fits ho (by kernel_rfl) (by kernel_rfl)) (own_cells ho)
  have hpr := fun y => putRow_of (y := y) hb
  have hr2 : ∀ y, rowE (S.set 0 (.row [y] 91)) 0 0 = some y := fun y => rowE_of (set_at hb)
  simp (maxSteps := 1000000) (disch := first | assumption | omega | rfl) only [↓vmp, vme, vmb, ty, hP, dec_t, dec_f, wrap64, List.length_map, Int.toNat_natCast, Nat.reduceAdd, hr, hst, hpr, hr2]
  have ho2 := fun y => own_set (o := .row [y] 91) ho hna
  refine wr_call_mark (ds := [.sl (t.map encNode), encNode { getN t dir with names := xs }]) rfl ?_ (ids_node (ho2 _)) (with_ok t _ hl) fun S2 => ?_
  · have h1 := frz_node (a := (getN t dir).ino) (b := (getN t dir).kind) (c := (getN t dir).links) (d := (getN t dir).parent) (e := (getN t dir).size) (f := (getN t dir).data) (ho2 (.agg [.d (.int .i64 (getN t dir).ino), .d (.int .i64 (getN t dir).kind), .d (.int .i64 (getN t dir).links), .d (.int .i64 (getN t dir).parent), .d (.int .i64 (getN t dir).size), .d (encB (getN t dir).data), v8]))
    simp only [allO, frz_d, h1]
  · simp (maxSteps := 1000000) (disch := first | assumption | omega | rfl) only [↓vmp, vme, vmb, ty, hP, dec_t, dec_f, wrap64, List.length_map, Int.toNat_natCast, Nat.reduceAdd]
    rw [hx]
    exact retQ_one rfl rfl rfl
end Go.Proofs.Ytghllhghboaagaa
end
/-! The document's model: a name put in. -/
section
set_option linter.unusedVariables false
set_option linter.unusedSimpArgs false
set_option maxRecDepth 10000
namespace Go.Proofs.Ytghllhghboaagaa
open Go.Vm
/-- Where a name is put in. -/
def putA (s : List UInt8) (ino : Int) : Bool → List Ent → List Ent
  | b, [] => if b then [] else [⟨s, ino⟩]
  | b, e :: r => (if b = false ∧ lessS s e.name = true then [⟨s, ino⟩] else []) ++ [e] ++ putA s ino (b || lessS s e.name) r
def putN (t : List Node) (dir : Int) (s : List UInt8) (ino : Int) : List Node := withN t { getN t dir with names := putA s ino false (getN t dir).names }
theorem bd88 {s : List UInt8} {n : Int} : buildV Try.prog 88 [(0, .d (.str s)), (1, .d (.int .i64 n))] = some (.agg [.d (.str s), .d (.int .i64 n)]) := by kernel_rfl
theorem bsa30 {S : Store} {s : List UInt8} {n : Int} : bs1 Try.prog S 30 (.agg [.d (.str s), .d (.int .i64 n)]) = some (.val (.ts [encEnt ⟨s, n⟩]) S 0) := by kernel_rfl
theorem put_l (t : List Node) (dir : Int) (s : List UInt8) (ino : Int) (d : Node) (hl : d.names.length < 400000) (hs : s.length < 1000000) (hm : ∀ e ∈ d.names, e.name.length < 1000000) (R : Post) (g8 : V) : ∀ (k i : Nat) (inn : Bool) (xs : List Ent) (S : Store) (v10 g13 g14 g15 g16 g17 g18 g19 g20 g21 g22 g23 g24 g25 g26 g27 g28 g29 g30 g31 g32 g33 g34 g35 g36 g37 g38 g39 g40 g41 g42 g43 g44 g45 g46 g47 g48 g49 g50 g51 g52 g53 g54 g55 g56 g57 g58 g59 g60 g61 : V),
   d.names.length - i = k → i ≤ d.names.length → xs.length ≤ 2 * i → OwnS S v10 88 (xs.map fun n => .d (encEnt n)) → S[0]? = some (.row [.d (encNode d)] 91) → NotAt v10 0 →
   (∀ S v10 inn2 (xs' : List Ent) v12 g13 g14 g15 g16 g17 g18 g19 g20 g21 g22 g23 g24 g25 g26 g27 g28 g29 g30 g31 g32 g33 g34 g35 g36 g37 g38 g39 g40 g41 g42 g43 g44 g45 g46 g47 g48 g49 g50 g51 g52 g53 g54 g55 g56 g57 g58 g59 g60 g61, xs'.length ≤ 2 * d.names.length → OwnS S v10 88 (xs'.map fun n => .d (encEnt n)) → xs' ++ (if inn2 then [] else [⟨s, ino⟩]) = xs ++ putA s ino inn (d.names.drop i) → S[0]? = some (.row [.d (encNode d)] 91) → NotAt v10 0 → R (.exit 0) ((.d (.sl (t.map encNode))) :: (.d (.int .i64 dir)) :: (.d (.str s)) :: (.d (.int .i64 ino)) :: (.tup []) :: (.tup []) :: (.tup []) :: (.tup []) :: g8 :: (.ref 0 0 0) :: v10 :: (.d (.bool inn2)) :: v12 :: g13 :: g14 :: g15 :: g16 :: g17 :: g18 :: g19 :: g20 :: g21 :: g22 :: g23 :: g24 :: g25 :: g26 :: g27 :: g28 :: g29 :: g30 :: g31 :: g32 :: g33 :: g34 :: g35 :: g36 :: g37 :: g38 :: g39 :: g40 :: g41 :: g42 :: g43 :: g44 :: g45 :: g46 :: g47 :: g48 :: g49 :: g50 :: g51 :: g52 :: g53 :: g54 :: g55 :: g56 :: g57 :: g58 :: g59 :: g60 :: g61 :: []) S []) →
   Wp cfg (.loop (lpOf (Try.f88.body.getD .skip) 0)) ((.d (.sl (t.map encNode))) :: (.d (.int .i64 dir)) :: (.d (.str s)) :: (.d (.int .i64 ino)) :: (.tup []) :: (.tup []) :: (.tup []) :: (.tup []) :: g8 :: (.ref 0 0 0) :: v10 :: (.d (.bool inn)) :: (.d (.int .i64 i)) :: g13 :: g14 :: g15 :: g16 :: g17 :: g18 :: g19 :: g20 :: g21 :: g22 :: g23 :: g24 :: g25 :: g26 :: g27 :: g28 :: g29 :: g30 :: g31 :: g32 :: g33 :: g34 :: g35 :: g36 :: g37 :: g38 :: g39 :: g40 :: g41 :: g42 :: g43 :: g44 :: g45 :: g46 :: g47 :: g48 :: g49 :: g50 :: g51 :: g52 :: g53 :: g54 :: g55 :: g56 :: g57 :: g58 :: g59 :: g60 :: g61 :: []) S [] R := by
  intro k
  induction k with
  | zero =>
    intro i inn xs S v10 g13 g14 g15 g16 g17 g18 g19 g20 g21 g22 g23 g24 g25 g26 g27 g28 g29 g30 g31 g32 g33 g34 g35 g36 g37 g38 g39 g40 g41 g42 g43 g44 g45 g46 g47 g48 g49 g50 g51 g52 g53 g54 g55 g56 g57 g58 g59 g60 g61 hk hi hxl ho hb hna hR
    have hie : i = d.names.length := by omega
    subst hie
    have hr : rowE S 0 0 = some (.d (encNode d)) := rowE_of hb
    rw [wk_of]
    refine wk_loop ?_
    conv => arg 2; whnf
    simp (maxSteps := 1000000) (disch := first | assumption | omega | rfl) only [↓vmp, vme, vmb, ty, hP, dec_t, dec_f, wrap64, List.length_map, Int.toNat_natCast, Nat.reduceAdd, hr]
    exact hR _ _ inn xs _ _ _ _ _ _ _ _ _ _ _ _ _ _ _ _ _ _ _ _ _ _ _ _ _ _ _ _ _ _ _ _ _ _ _ _ _ _ _ _ _ _ _ _ _ _ _ _ _ _ (by omega) ho (by rw [List.drop_length]; rfl) hb hna
  | succ k ih =>
    intro i inn xs S v10 g13 g14 g15 g16 g17 g18 g19 g20 g21 g22 g23 g24 g25 g26 g27 g28 g29 g30 g31 g32 g33 g34 g35 g36 g37 g38 g39 g40 g41 g42 g43 g44 g45 g46 g47 g48 g49 g50 g51 g52 g53 g54 g55 g56 g57 g58 g59 g60 g61 hk hi hxl ho hb hna hR
    have hlt : i < d.names.length := by omega
    have hdr : d.names.drop i = d.names[i] :: d.names.drop (i + 1) := List.drop_eq_getElem_cons hlt
    rw [hdr] at hR
    have hr : rowE S 0 0 = some (.d (encNode d)) := rowE_of hb
    have hm1 : d.names[i].name.length < 1000000 := hm _ (List.getElem_mem hlt)
    rw [wk_of]
    refine wk_loop ?_
    conv => arg 2; whnf
    cases inn with
    | true =>
      obtain ⟨v', S', c, ha, ho', hfr, hlen⟩ := ap30 d.names[i] ho (by omega)
      obtain ⟨hb', hna'⟩ := hfr _ _ hb hna
      simp (maxSteps := 1000000) (disch := first | assumption | omega | rfl) only [↓vmp, vme, vmb, ty, hP, dec_t, dec_f, wrap64, List.length_map, Int.toNat_natCast, Nat.reduceAdd, vmg, hr, ha]
      exact ih (i + 1) true (xs ++ [d.names[i]]) S' v' _ _ _ _ _ _ _ _ _ _ _ _ _ _ _ _ _ _ _ _ _ _ _ _ _ _ _ _ _ _ _ _ _ _ _ _ _ _ _ _ _ _ _ _ _ _ _ _ _ (by omega) (by omega) (by simp; omega) ho' hb' hna' (fun S v10 inn xs' v12 g13 g14 g15 g16 g17 g18 g19 g20 g21 g22 g23 g24 g25 g26 g27 g28 g29 g30 g31 g32 g33 g34 g35 g36 g37 g38 g39 g40 g41 g42 g43 g44 g45 g46 g47 g48 g49 g50 g51 g52 g53 g54 g55 g56 g57 g58 g59 g60 g61 a0 a1 a2 a3 a4 => hR S v10 inn xs' v12 g13 g14 g15 g16 g17 g18 g19 g20 g21 g22 g23 g24 g25 g26 g27 g28 g29 g30 g31 g32 g33 g34 g35 g36 g37 g38 g39 g40 g41 g42 g43 g44 g45 g46 g47 g48 g49 g50 g51 g52 g53 g54 g55 g56 g57 g58 g59 g60 g61 a0 a1 (by rw [a2]; simp [putA]) a3 a4)
    | false =>
      cases hls : lessS s d.names[i].name with
      | false =>
        obtain ⟨v', S', c, ha, ho', hfr, hlen⟩ := ap30 d.names[i] ho (by omega)
        obtain ⟨hb', hna'⟩ := hfr _ _ hb hna
        simp (maxSteps := 1000000) (disch := first | assumption | omega | rfl) only [↓vmp, vme, vmb, ty, hP, dec_t, dec_f, wrap64, List.length_map, Int.toNat_natCast, Nat.reduceAdd, vmg, hr, ha, call_lessS, hls]
        exact ih (i + 1) false (xs ++ [d.names[i]]) S' v' _ _ _ _ _ _ _ _ _ _ _ _ _ _ _ _ _ _ _ _ _ _ _ _ _ _ _ _ _ _ _ _ _ _ _ _ _ _ _ _ _ _ _ _ _ _ _ _ _ (by omega) (by omega) (by simp; omega) ho' hb' hna' (fun S v10 inn xs' v12 g13 g14 g15 g16 g17 g18 g19 g20 g21 g22 g23 g24 g25 g26 g27 g28 g29 g30 g31 g32 g33 g34 g35 g36 g37 g38 g39 g40 g41 g42 g43 g44 g45 g46 g47 g48 g49 g50 g51 g52 g53 g54 g55 g56 g57 g58 g59 g60 g61 a0 a1 a2 a3 a4 => hR S v10 inn xs' v12 g13 g14 g15 g16 g17 g18 g19 g20 g21 g22 g23 g24 g25 g26 g27 g28 g29 g30 g31 g32 g33 g34 g35 g36 g37 g38 g39 g40 g41 g42 g43 g44 g45 g46 g47 g48 g49 g50 g51 g52 g53 g54 g55 g56 g57 g58 g59 g60 g61 a0 a1 (by rw [a2]; simp [putA, hls]) a3 a4)
      | true =>
        obtain ⟨v', S', c, ha, ho', hfr, hlen⟩ := ap30 ⟨s, ino⟩ ho (by omega)
        obtain ⟨hb', hna'⟩ := hfr _ _ hb hna
        have hr' : rowE S' 0 0 = some (.d (encNode d)) := rowE_of hb'
        obtain ⟨v2, S2, c2, ha2, ho2, hfr2, hlen2⟩ := ap30 d.names[i] ho' (by simp; omega)
        obtain ⟨hb2, hna2⟩ := hfr2 _ _ hb' hna'
        simp (maxSteps := 1000000) (disch := first | assumption | omega | rfl) only [↓vmp, vme, vmb, ty, hP, dec_t, dec_f, wrap64, List.length_map, Int.toNat_natCast, Nat.reduceAdd, vmg, hr, ha, call_lessS, hls, bd88, bsa30, hr', ha2]
        exact ih (i + 1) true (xs ++ [⟨s, ino⟩] ++ [d.names[i]]) S2 v2 _ _ _ _ _ _ _ _ _ _ _ _ _ _ _ _ _ _ _ _ _ _ _ _ _ _ _ _ _ _ _ _ _ _ _ _ _ _ _ _ _ _ _ _ _ _ _ _ _ (by omega) (by omega) (by simp; omega) ho2 hb2 hna2 (fun S v10 inn xs' v12 g13 g14 g15 g16 g17 g18 g19 g20 g21 g22 g23 g24 g25 g26 g27 g28 g29 g30 g31 g32 g33 g34 g35 g36 g37 g38 g39 g40 g41 g42 g43 g44 g45 g46 g47 g48 g49 g50 g51 g52 g53 g54 g55 g56 g57 g58 g59 g60 g61 a0 a1 a2 a3 a4 => hR S v10 inn xs' v12 g13 g14 g15 g16 g17 g18 g19 g20 g21 g22 g23 g24 g25 g26 g27 g28 g29 g30 g31 g32 g33 g34 g35 g36 g37 g38 g39 g40 g41 g42 g43 g44 g45 g46 g47 g48 g49 g50 g51 g52 g53 g54 g55 g56 g57 g58 g59 g60 g61 a0 a1 (by rw [a2]; simp [putA, hls]) a3 a4)
theorem put_ok (t : List Node) (dir : Int) (s : List UInt8) (ino : Int) (hl : t.length < 400000) (hn : (getN t dir).names.length < 400000) (hs : s.length < 1000000) (hm : ∀ e ∈ (getN t dir).names, e.name.length < 1000000) : Ev cfg 88 [.sl (t.map encNode), .int .i64 dir, .str s, .int .i64 ino] (.ret (.d (.sl ((putN t dir s ino).map encNode)))) := by
  refine ev_of rfl rfl body88 ?_
  show Wp cfg (Try.f88.body.getD .skip) ((.d (.sl (t.map encNode))) :: (.d (.int .i64 dir)) :: (.d (.str s)) :: (.d (.int .i64 ino)) :: (.tup []) :: (.tup []) :: (.tup []) :: (.tup []) :: (.tup []) :: (.tup []) :: (.tup []) :: (.tup []) :: (.tup []) :: (.tup []) :: (.tup []) :: (.tup []) :: (.tup []) :: (.tup []) :: (.tup []) :: (.tup []) :: (.tup []) :: (.tup []) :: (.tup []) :: (.tup []) :: (.tup []) :: (.tup []) :: (.tup []) :: (.tup []) :: (.tup []) :: (.tup []) :: (.tup []) :: (.tup []) :: (.tup []) :: (.tup []) :: (.tup []) :: (.tup []) :: (.tup []) :: (.tup []) :: (.tup []) :: (.tup []) :: (.tup []) :: (.tup []) :: (.tup []) :: (.tup []) :: (.tup []) :: (.tup []) :: (.tup []) :: (.tup []) :: (.tup []) :: (.tup []) :: (.tup []) :: (.tup []) :: (.tup []) :: (.tup []) :: (.tup []) :: (.tup []) :: (.tup []) :: (.tup []) :: (.tup []) :: (.tup []) :: (.tup []) :: (.tup []) :: []) [] [] _
  conv => arg 2; whnf
  simp (maxSteps := 1000000) (disch := first | assumption | omega | rfl) only [↓vmp, vme, vmb, ty, hP, dec_t, dec_f, wrap64, List.length_map, Int.toNat_natCast, Nat.reduceAdd, call_get]
  refine put_l t dir s ino (getN t dir) hn hs hm _ _ (getN t dir).names.length 0 false [] _ _ _ _ _ _ _ _ _ _ _ _ _ _ _ _ _ _ _ _ _ _ _ _ _ _ _ _ _ _ _ _ _ _ _ _ _ _ _ _ _ _ _ _ _ _ _ _ _ _ _ rfl (by omega) (by simp) OwnS.nil rfl NotAt.ts ?_
  intro S v10 inn xs v12 g13 g14 g15 g16 g17 g18 g19 g20 g21 g22 g23 g24 g25 g26 g27 g28 g29 g30 g31 g32 g33 g34 g35 g36 g37 g38 g39 g40 g41 g42 g43 g44 g45 g46 g47 g48 g49 g50 g51 g52 g53 g54 g55 g56 g57 g58 g59 g60 g61 hxl ho hx hb hna
  rw [List.nil_append, List.drop_zero] at hx
  have hr : rowE S 0 0 = some (.d (encNode (getN t dir))) := rowE_of hb
  cases inn with
  | true =>
    simp only [if_true, List.append_nil] at hx
    have hst := sr91_6 (a := getN t dir) (v := v10) (own_fits ho (by kernel_rfl) (by kernel_rfl)) (own_cells ho)
    have hpr := fun y => putRow_of (y := y) hb
    have hr2 : ∀ y, rowE (S.set 0 (.row [y] 91)) 0 0 = some y := fun y => rowE_of (set_at hb)
    simp (maxSteps := 1000000) (disch := first | assumption | omega | rfl) only [↓vmp, vme, vmb, ty, hP, dec_t, dec_f, wrap64, List.length_map, Int.toNat_natCast, Nat.reduceAdd, hr, hst, hpr, hr2]
    have ho2 := fun y => own_set (o := .row [y] 91) ho hna
    refine wr_call_mark (ds := [.sl (t.map encNode), encNode { getN t dir with names := xs }]) rfl ?_ (ids_node (ho2 _)) (with_ok t _ hl) fun S2 => ?_
    · have h1 := frz_node (a := (getN t dir).ino) (b := (getN t dir).kind) (c := (getN t dir).links) (d := (getN t dir).parent) (e := (getN t dir).size) (f := (getN t dir).data) (ho2 (.agg [.d (.int .i64 (getN t dir).ino), .d (.int .i64 (getN t dir).kind), .d (.int .i64 (getN t dir).links), .d (.int .i64 (getN t dir).parent), .d (.int .i64 (getN t dir).size), .d (encB (getN t dir).data), v10]))
      simp only [allO, frz_d, h1]
    · simp (maxSteps := 1000000) (disch := first | assumption | omega | rfl) only [↓vmp, vme, vmb, ty, hP, dec_t, dec_f, wrap64, List.length_map, Int.toNat_natCast, Nat.reduceAdd]
      rw [hx]
      exact retQ_one rfl rfl rfl
  | false =>
    obtain ⟨v', S', c, ha, ho', hfr, hlen⟩ := ap30 ⟨s, ino⟩ ho (by omega)
    obtain ⟨hb', hna'⟩ := hfr _ _ hb hna
    have hx : xs ++ [⟨s, ino⟩] = putA s ino false (getN t dir).names := hx
    have hr' : rowE S' 0 0 = some (.d (encNode (getN t dir))) := rowE_of hb'
    have hst := sr91_6 (a := getN t dir) (v := v') (own_fits ho' (by kernel_rfl) (by kernel_rfl)) (own_cells ho')
    have hpr := fun y => putRow_of (y := y) hb'
    have hr2 : ∀ y, rowE (S'.set 0 (.row [y] 91)) 0 0 = some y := fun y => rowE_of (set_at hb')
    simp (maxSteps := 1000000) (disch := first | assumption | omega | rfl) only [↓vmp, vme, vmb, ty, hP, dec_t, dec_f, wrap64, List.length_map, Int.toNat_natCast, Nat.reduceAdd, hr, ha, bd88, bsa30, hr', hst, hpr, hr2]
    have ho2 := fun y => own_set (o := .row [y] 91) ho' hna'
    refine wr_call_mark (ds := [.sl (t.map encNode), encNode { getN t dir with names := xs ++ [⟨s, ino⟩] }]) rfl ?_ (ids_node (ho2 _)) (with_ok t _ hl) fun S2 => ?_
    · have h1 := frz_node (a := (getN t dir).ino) (b := (getN t dir).kind) (c := (getN t dir).links) (d := (getN t dir).parent) (e := (getN t dir).size) (f := (getN t dir).data) (ho2 (.agg [.d (.int .i64 (getN t dir).ino), .d (.int .i64 (getN t dir).kind), .d (.int .i64 (getN t dir).links), .d (.int .i64 (getN t dir).parent), .d (.int .i64 (getN t dir).size), .d (encB (getN t dir).data), v']))
      simp only [allO, frz_d, h1]
    · simp (maxSteps := 1000000) (disch := first | assumption | omega | rfl) only [↓vmp, vme, vmb, ty, hP, dec_t, dec_f, wrap64, List.length_map, Int.toNat_natCast, Nat.reduceAdd]
      rw [hx]
      exact retQ_one rfl rfl rfl
end Go.Proofs.Ytghllhghboaagaa
end
/-! Rules of rewriting for parts of texts and of rows, and for texts put together. -/
section
set_option linter.unusedVariables false
set_option linter.unusedSimpArgs false
namespace Go.Vm
open Go
theorem bound_in {n d : Nat} {i : Int} (h0 : 0 ≤ i) (h1 : i.toNat ≤ n) : boundV n (some (.d (.int .i64 i))) d = some i.toNat := by
  have h2 : i ≤ n := by omega
  simp only [boundV, intOf?, h0, h2, if_true, and_self]
theorem bound_no {n d : Nat} : boundV n none d = some d := rfl
/-- A part of a text. -/
theorem slc_str {P : Program} {S : Store} {t : TypeId} {s : List UInt8} {lo hi : Int} (hu : P.underlying t = some .string) (h0 : 0 ≤ lo) (h1 : lo ≤ hi) (h2 : hi ≤ s.length) :
    sliceV P S t (.d (.str s)) (some (.d (.int .i64 lo))) (some (.d (.int .i64 hi))) = some (.d (.str ((s.take hi.toNat).drop lo.toNat))) := by
  simp only [sliceV, hu, bound_in (n := s.length) (d := s.length) (i := hi) (by omega) (by omega), bound_in (n := hi.toNat) (d := 0) (i := lo) h0 (by omega)]
theorem slc_one {P : Program} {S : Store} {t : TypeId} {s : List UInt8} {i : Nat} (hu : P.underlying t = some .string) (h : i < s.length) :
    sliceV P S t (.d (.str s)) (some (.d (.int .i64 i))) (some (.d (.int .i64 (i + 1)))) = some (.d (.str [s[i]])) := by
  rw [slc_str hu (by omega) (by omega) (by omega)]
  have : ((i : Int) + 1).toNat = i + 1 := by omega
  rw [this, Int.toNat_natCast, List.take_succ_eq_append_getElem h, List.drop_append, List.drop_eq_nil_of_le (by rw [List.length_take]; omega)]
  simp [Nat.min_eq_left (Nat.le_of_lt h)]
/-- A part of a row of data. -/
theorem slc_sl {P : Program} {S : Store} {t e : TypeId} {xs : List D} {lo hi : Int} (hu : P.underlying t = some (.slice e)) (hf : xs.all (fitsD P e) = true) (hz : (sz P e).isSome = true) (h0 : 0 ≤ lo) (h1 : lo ≤ hi) (h2 : hi ≤ xs.length) :
    sliceV P S t (.d (.sl xs)) (some (.d (.int .i64 lo))) (some (.d (.int .i64 hi))) = some (.d (.sl ((xs.take hi.toNat).drop lo.toNat))) := by
  simp only [sliceV, hu, bound_in (n := xs.length) (d := xs.length) (i := hi) (by omega) (by omega), bound_in (n := hi.toNat) (d := 0) (i := lo) h0 (by omega), hf, hz, Bool.and_self, if_true]
theorem slc_hi {P : Program} {S : Store} {t e : TypeId} {xs : List D} {hi : Int} (hu : P.underlying t = some (.slice e)) (hf : xs.all (fitsD P e) = true) (hz : (sz P e).isSome = true) (h1 : 0 ≤ hi) (h2 : hi ≤ xs.length) :
    sliceV P S t (.d (.sl xs)) none (some (.d (.int .i64 hi))) = some (.d (.sl (xs.take hi.toNat))) := by
  simp only [sliceV, hu, bound_in (n := xs.length) (d := xs.length) (i := hi) (by omega) (by omega), bound_no, hf, hz, Bool.and_self, if_true, List.drop_zero]
theorem slc_lo {P : Program} {S : Store} {t e : TypeId} {xs : List D} {lo : Int} (hu : P.underlying t = some (.slice e)) (hf : xs.all (fitsD P e) = true) (hz : (sz P e).isSome = true) (h0 : 0 ≤ lo) (h1 : lo ≤ xs.length) :
    sliceV P S t (.d (.sl xs)) (some (.d (.int .i64 lo))) none = some (.d (.sl (xs.drop lo.toNat))) := by
  simp only [sliceV, hu, bound_in (n := xs.length) (d := 0) (i := lo) (by omega) (by omega), bound_no, hf, hz, Bool.and_self, if_true, List.take_length]
theorem sb_add {a b : List UInt8} (h : a.length + b.length ≤ 9223372036854775807) : strBin .add a b = some (.str (a ++ b)) := by simp only [strBin, h, if_true]
theorem strOf_mk {l : List UInt8} : strOf ⟨l.toArray⟩ = l := rfl
theorem sb_add1 {a : List UInt8} {c : UInt8} (h : a.length < 1000000) : strBin .add a [c] = some (.str (a ++ [c])) := sb_add (by simp; omega)
/-- An element of a slice that was made here. -/
theorem ix_own {α : Type} {enc : α → D} {P : Program} {S : Store} {t e : TypeId} {v : V} {xs : List α} {i : Nat} (hu : P.underlying t = some (.slice e)) (hf : ∀ a, fitsT P e (.d (enc a)) = true) (hz : (sz P e).isSome = true) (ho : OwnS S v e (xs.map fun a => .d (enc a))) (h : i < xs.length) :
    ∃ a, indexAddrV P S t v (.d (.int .i64 i)) = some a ∧ loadV P S e a = some (.d (enc xs[i])) := by
  have h0 : (0 : Int) ≤ i := by omega
  rcases ho with ⟨rfl, h1⟩ | ⟨id, rfl, h1⟩
  · have : xs.length = 0 := by simpa using congrArg List.length h1
    omega
  · refine ⟨.ref id i 0, ?_, ?_⟩
    · have h2 : ((i : Int) < ((xs.map fun a => V.d (enc a)).length : Int)) := by rw [List.length_map]; omega
      have h3 : rowT S id e = true := by simp only [rowT, h1, beq_self_eq_true]
      simp only [indexAddrV, intOf?, hu, h0, h2, h3, hz, and_self, if_true, Int.toNat_natCast, Nat.zero_add]
    · have h2 : (xs.map fun a => V.d (enc a))[i]? = some (.d (enc xs[i])) := by rw [List.getElem?_map, List.getElem?_eq_getElem h]; rfl
      simp only [loadV, h1, h2, hf, decide_true, Bool.and_self, if_true]
section
variable {C : Cfg} {S : Store} {T : List V} {dst : Option Tmp} {ops : Array Oper} {F : Dfs} {Q : Post} {K : List Nat → List (Nat × Nat) → List V → Store → Prop} {rd : List Nat} {cs : List (Nat × Nat)} {i : Nat}
/-- A call apart in a region that draws. -/
theorem we_call_v {f : FuncId} {args : List V} {ds : List D} {v : V} (hs : C.shared f = false) (hf : allO (frz S frzFuel) args = some ds) (hi : (args.flatMap (frzIds S frzFuel)).isEmpty = true) (he : Ev C f ds (.ret v)) :
    WpE C ops F Q K rd cs i dst T S (some (.enter f args)) = K (i :: rd) (cs ++ [(i, 1)]) (putT T dst v) S := by
  obtain ⟨n, hn⟩ := he
  have hn' : answer C (run C n) f ds = some (.ret v) := hn
  have hc : callV C (run C n) f args S = some (.ret v, S, 1) := by
    unfold callV
    simp only [hs, Bool.false_eq_true, if_false, hf, hn', hi, if_true]
  apply propext
  constructor
  · rintro ⟨m, v', S', c, h1, h2, h3⟩
    have := callV_det h1 hc
    simp only [Prod.mk.injEq] at this
    obtain ⟨h4, rfl, rfl⟩ := this
    cases h4
    exact h3
  · exact fun h => ⟨n, _, _, _, hc, fun h => absurd h (by decide), h⟩
theorem we_call_d {f : FuncId} {ds : List D} {v : V} (hs : C.shared f = false) (he : Ev C f ds (.ret v)) :
    WpE C ops F Q K rd cs i dst T S (some (.enter f (ds.map .d))) = K (i :: rd) (cs ++ [(i, 1)]) (putT T dst v) S := by
  have hfz : ∀ ds : List D, allO (frz S frzFuel) (ds.map V.d) = some ds := by
    intro ds
    induction ds with
    | nil => rfl
    | cons x r ih => simp only [List.map_cons, allO, ih, frz_d]
  have hid : ∀ ds : List D, ((ds.map V.d).flatMap (frzIds S frzFuel)).isEmpty = true := by
    intro ds
    induction ds with
    | nil => rfl
    | cons x r ih => simp only [List.map_cons, List.flatMap_cons, frzIds_d, List.nil_append]; exact ih
  exact we_call_v hs (hfz ds) (hid ds) he
end
end Go.Vm
end
/-! The document's model: right names. -/
section
set_option linter.unusedVariables false
set_option linter.unusedSimpArgs false
set_option maxRecDepth 10000
namespace Go.Proofs.Ytghllhghboaagaa
open Go.Vm
theorem call_drop {ops : Array Oper} {dst : Option Tmp} {l : List Oper} {T : List V} {S : Store} {F : Dfs} {Q : Post} {t : List Node} {dir : Int} {s : List UInt8} (hl : t.length < 400000) (hn : (getN t dir).names.length < 400000) :
    WpR cfg ops dst l T S F Q (some (.enter 91 [.d (.sl (t.map encNode)), .d (.int .i64 dir), .d (.str s)])) = WpL cfg ops l (putT T dst (.d (.sl ((dropN t dir s).map encNode)))) S F Q :=
  wr_call_d (ds := [.sl (t.map encNode), .int .i64 dir, .str s]) rfl (drop_ok t dir s hl (by omega))
theorem call_put {ops : Array Oper} {dst : Option Tmp} {l : List Oper} {T : List V} {S : Store} {F : Dfs} {Q : Post} {t : List Node} {dir ino : Int} {s : List UInt8} (hl : t.length < 400000) (hn : (getN t dir).names.length < 400000) (hs : s.length < 1000000) (hm : ∀ e ∈ (getN t dir).names, e.name.length < 1000000) :
    WpR cfg ops dst l T S F Q (some (.enter 88 [.d (.sl (t.map encNode)), .d (.int .i64 dir), .d (.str s), .d (.int .i64 ino)])) = WpL cfg ops l (putT T dst (.d (.sl ((putN t dir s ino).map encNode)))) S F Q :=
  wr_call_d (ds := [.sl (t.map encNode), .int .i64 dir, .str s, .int .i64 ino]) rfl (put_ok t dir s ino hl hn hs hm)
/-- Is it a byte of a name? -/
def rightC (c : UInt8) : Bool := decide (c ≠ 0 ∧ c ≠ 47)
def rightN (s : List UInt8) : Bool := decide (1 ≤ s.length ∧ s.length ≤ 24 ∧ s ≠ [46] ∧ s ≠ [46, 46]) && s.all rightC
theorem u8_c {a : UInt8} {n : Nat} (hn : n < 256) : ((a.toNat : Int) = (n : Int)) ↔ a = UInt8.ofNat n := by
  constructor
  · intro h
    apply UInt8.toNat_inj.1
    rw [UInt8.toNat_ofNat_of_lt' (by simpa using hn)]
    omega
  · rintro rfl
    rw [UInt8.toNat_ofNat_of_lt' (by simpa using hn)]
theorem right_l (s : List UInt8) (hl : s.length < 1000000) (R : Post) (S : Store) (g2 : V) : ∀ (k i : Nat) (g4 g5 g6 g7 g8 g9 g10 g11 g12 g13 g14 g15 g16 g17 g18 g19 g20 g21 g22 g23 g24 g25 g26 g27 g28 g29 g30 g31 g32 g33 g34 g35 : V), s.length - i = k → i ≤ s.length →
   (∀ v3 g4 g5 g6 g7 g8 g9 g10 g11 g12 g13 g14 g15 g16 g17 g18 g19 g20 g21 g22 g23 g24 g25 g26 g27 g28 g29 g30 g31 g32 g33 g34 g35, (s.drop i).all rightC = true → R (.exit 0) ((.d (.str s)) :: (.tup []) :: g2 :: v3 :: g4 :: g5 :: g6 :: g7 :: g8 :: g9 :: g10 :: g11 :: g12 :: g13 :: g14 :: g15 :: g16 :: g17 :: g18 :: g19 :: g20 :: g21 :: g22 :: g23 :: g24 :: g25 :: g26 :: g27 :: g28 :: g29 :: g30 :: g31 :: g32 :: g33 :: g34 :: g35 :: []) S []) →
   (∀ v3 g4 g5 g6 g7 g8 g9 g10 g11 g12 g13 g14 g15 g16 g17 g18 g19 g20 g21 g22 g23 g24 g25 g26 g27 g28 g29 g30 g31 g32 g33 g34 g35, (s.drop i).all rightC = false → R .ret ((.d (.str s)) :: (.tup []) :: (.d (.bool false)) :: v3 :: g4 :: g5 :: g6 :: g7 :: g8 :: g9 :: g10 :: g11 :: g12 :: g13 :: g14 :: g15 :: g16 :: g17 :: g18 :: g19 :: g20 :: g21 :: g22 :: g23 :: g24 :: g25 :: g26 :: g27 :: g28 :: g29 :: g30 :: g31 :: g32 :: g33 :: g34 :: g35 :: []) S []) →
   Wp cfg (.loop (lpOf (Try.f100.body.getD .skip) 0)) ((.d (.str s)) :: (.tup []) :: g2 :: (.d (.int .i64 i)) :: g4 :: g5 :: g6 :: g7 :: g8 :: g9 :: g10 :: g11 :: g12 :: g13 :: g14 :: g15 :: g16 :: g17 :: g18 :: g19 :: g20 :: g21 :: g22 :: g23 :: g24 :: g25 :: g26 :: g27 :: g28 :: g29 :: g30 :: g31 :: g32 :: g33 :: g34 :: g35 :: []) S [] R := by
  intro k
  induction k with
  | zero =>
    intro i g4 g5 g6 g7 g8 g9 g10 g11 g12 g13 g14 g15 g16 g17 g18 g19 g20 g21 g22 g23 g24 g25 g26 g27 g28 g29 g30 g31 g32 g33 g34 g35 hk hi hE hR
    have hie : i = s.length := by omega
    subst hie
    rw [wk_of]
    refine wk_loop ?_
    conv => arg 2; whnf
    simp (maxSteps := 1000000) (disch := first | assumption | omega | rfl) only [↓vmp, vme, vmb, ty, hP, dec_t, dec_f, wrap64, List.length_map, Int.toNat_natCast, Nat.reduceAdd]
    exact hE _ _ _ _ _ _ _ _ _ _ _ _ _ _ _ _ _ _ _ _ _ _ _ _ _ _ _ _ _ _ _ _ _ (by rw [List.drop_length]; rfl)
  | succ k ih =>
    intro i g4 g5 g6 g7 g8 g9 g10 g11 g12 g13 g14 g15 g16 g17 g18 g19 g20 g21 g22 g23 g24 g25 g26 g27 g28 g29 g30 g31 g32 g33 g34 g35 hk hi hE hR
    have hlt : i < s.length := by omega
    have hdr : s.drop i = s[i] :: s.drop (i + 1) := List.drop_eq_getElem_cons hlt
    rw [hdr] at hE hR
    have e0 := u8_c (a := s[i]) (n := 0) (by omega)
    have e47 := u8_c (a := s[i]) (n := 47) (by omega)
    rw [wk_of]
    refine wk_loop ?_
    conv => arg 2; whnf
    by_cases h0 : s[i] = 0
    · have h0' : ((s[i].toNat : Int)) = 0 := e0.2 h0
      simp (maxSteps := 1000000) (disch := first | assumption | omega | rfl) only [↓vmp, vme, vmb, ty, hP, dec_t, dec_f, wrap64, List.length_map, Int.toNat_natCast, Nat.reduceAdd, vmg]
      exact hR _ _ _ _ _ _ _ _ _ _ _ _ _ _ _ _ _ _ _ _ _ _ _ _ _ _ _ _ _ _ _ _ _ (by simp [rightC, h0])
    · have h0' : ¬ ((s[i].toNat : Int)) = 0 := fun h => h0 (e0.1 h)
      by_cases h1 : s[i] = 47
      · have h1' : ((s[i].toNat : Int)) = 47 := e47.2 h1
        simp (maxSteps := 1000000) (disch := first | assumption | omega | rfl) only [↓vmp, vme, vmb, ty, hP, dec_t, dec_f, wrap64, List.length_map, Int.toNat_natCast, Nat.reduceAdd, vmg]
        exact hR _ _ _ _ _ _ _ _ _ _ _ _ _ _ _ _ _ _ _ _ _ _ _ _ _ _ _ _ _ _ _ _ _ (by simp [rightC, h1])
      · have h1' : ¬ ((s[i].toNat : Int)) = 47 := fun h => h1 (e47.1 h)
        simp (maxSteps := 1000000) (disch := first | assumption | omega | rfl) only [↓vmp, vme, vmb, ty, hP, dec_t, dec_f, wrap64, List.length_map, Int.toNat_natCast, Nat.reduceAdd, vmg]
        have e : (s[i] :: s.drop (i + 1)).all rightC = (s.drop (i + 1)).all rightC := by
          rw [List.all_cons]
          simp [rightC, h0, h1]
        rw [e] at hE hR
        exact ih (i + 1) _ _ _ _ _ _ _ _ _ _ _ _ _ _ _ _ _ _ _ _ _ _ _ _ _ _ _ _ _ _ _ _ (by omega) (by omega) hE hR
theorem right_ok (s : List UInt8) (hl : s.length < 1000000) : Ev cfg 100 [.str s] (.ret (.d (.bool (rightN s)))) := by
  refine ev_of rfl rfl body100 ?_
  show Wp cfg (Try.f100.body.getD .skip) ((.d (.str s)) :: (.tup []) :: (.tup []) :: (.tup []) :: (.tup []) :: (.tup []) :: (.tup []) :: (.tup []) :: (.tup []) :: (.tup []) :: (.tup []) :: (.tup []) :: (.tup []) :: (.tup []) :: (.tup []) :: (.tup []) :: (.tup []) :: (.tup []) :: (.tup []) :: (.tup []) :: (.tup []) :: (.tup []) :: (.tup []) :: (.tup []) :: (.tup []) :: (.tup []) :: (.tup []) :: (.tup []) :: (.tup []) :: (.tup []) :: (.tup []) :: (.tup []) :: (.tup []) :: (.tup []) :: (.tup []) :: (.tup []) :: []) [] [] _
  conv => arg 2; whnf
  by_cases h1 : s.length < 1
  · simp (maxSteps := 1000000) (disch := first | assumption | omega | rfl) only [↓vmp, vme, vmb, ty, hP, dec_t, dec_f, wrap64, List.length_map, Int.toNat_natCast, Nat.reduceAdd, vmg]
    have : rightN s = false := by
      have h : ¬ (1 ≤ s.length ∧ s.length ≤ 24 ∧ s ≠ [46] ∧ s ≠ [46, 46]) := by omega
      simp only [rightN, decide_eq_false h, Bool.false_and]
    rw [this]
    exact retQ_one rfl rfl rfl
  by_cases h2 : s.length > 24
  · simp (maxSteps := 1000000) (disch := first | assumption | omega | rfl) only [↓vmp, vme, vmb, ty, hP, dec_t, dec_f, wrap64, List.length_map, Int.toNat_natCast, Nat.reduceAdd, vmg]
    have : rightN s = false := by
      have h : ¬ (1 ≤ s.length ∧ s.length ≤ 24 ∧ s ≠ [46] ∧ s ≠ [46, 46]) := by omega
      simp only [rightN, decide_eq_false h, Bool.false_and]
    rw [this]
    exact retQ_one rfl rfl rfl
  by_cases h3 : s = [46]
  · simp (maxSteps := 1000000) (disch := first | assumption | omega | rfl) only [↓vmp, vme, vmb, ty, hP, dec_t, dec_f, wrap64, List.length_map, Int.toNat_natCast, Nat.reduceAdd, vmg, strOf_mk, sb_eql]
    have : rightN s = false := by
      have h : ¬ (1 ≤ s.length ∧ s.length ≤ 24 ∧ s ≠ [46] ∧ s ≠ [46, 46]) := fun h => h.2.2.1 h3
      simp only [rightN, decide_eq_false h, Bool.false_and]
    rw [this]
    exact retQ_one rfl rfl rfl
  by_cases h4 : s = [46, 46]
  · simp (maxSteps := 1000000) (disch := first | assumption | omega | rfl) only [↓vmp, vme, vmb, ty, hP, dec_t, dec_f, wrap64, List.length_map, Int.toNat_natCast, Nat.reduceAdd, vmg, strOf_mk, sb_eql]
    have : rightN s = false := by
      have h : ¬ (1 ≤ s.length ∧ s.length ≤ 24 ∧ s ≠ [46] ∧ s ≠ [46, 46]) := fun h => h.2.2.2 h4
      simp only [rightN, decide_eq_false h, Bool.false_and]
    rw [this]
    exact retQ_one rfl rfl rfl
  have e : rightN s = s.all rightC := by
    have h : (1 ≤ s.length ∧ s.length ≤ 24 ∧ s ≠ [46] ∧ s ≠ [46, 46]) := ⟨by omega, by omega, h3, h4⟩
    simp only [rightN, decide_eq_true h, Bool.true_and]
  simp (maxSteps := 1000000) (disch := first | assumption | omega | rfl) only [↓vmp, vme, vmb, ty, hP, dec_t, dec_f, wrap64, List.length_map, Int.toNat_natCast, Nat.reduceAdd, vmg, strOf_mk, sb_eql]
  refine right_l s hl _ _ _ s.length 0 _ _ _ _ _ _ _ _ _ _ _ _ _ _ _ _ _ _ _ _ _ _ _ _ _ _ _ _ _ _ _ _ rfl (by omega) ?_ ?_
  · intro v3 g4 g5 g6 g7 g8 g9 g10 g11 g12 g13 g14 g15 g16 g17 g18 g19 g20 g21 g22 g23 g24 g25 g26 g27 g28 g29 g30 g31 g32 g33 g34 g35 h
    simp (maxSteps := 1000000) (disch := first | assumption | omega | rfl) only [↓vmp, vme, vmb, ty, hP, dec_t, dec_f, wrap64, List.length_map, Int.toNat_natCast, Nat.reduceAdd]
    rw [e, ← h]
    exact retQ_one rfl rfl rfl
  · intro v3 g4 g5 g6 g7 g8 g9 g10 g11 g12 g13 g14 g15 g16 g17 g18 g19 g20 g21 g22 g23 g24 g25 g26 g27 g28 g29 g30 g31 g32 g33 g34 g35 h
    simp (maxSteps := 1000000) (disch := first | assumption | omega | rfl) only [↓vmp, vme, vmb, ty, hP, dec_t, dec_f, wrap64, List.length_map, Int.toNat_natCast, Nat.reduceAdd]
    rw [e, ← h]
    exact retQ_one rfl rfl rfl
theorem call_right {ops : Array Oper} {dst : Option Tmp} {l : List Oper} {T : List V} {S : Store} {F : Dfs} {Q : Post} {s : List UInt8} (hl : s.length < 1000000) :
    WpR cfg ops dst l T S F Q (some (.enter 100 [.d (.str s)])) = WpL cfg ops l (putT T dst (.d (.bool (rightN s)))) S F Q :=
  wr_call_d (ds := [.str s]) rfl (right_ok s hl)
end Go.Proofs.Ytghllhghboaagaa
end
/-! The document's model: a path's names. -/
section
set_option linter.unusedVariables false
set_option linter.unusedSimpArgs false
set_option maxRecDepth 10000
namespace Go.Proofs.Ytghllhghboaagaa
open Go.Vm
/-- The names of a path, behind its first byte. -/
def partsA : List UInt8 → List UInt8 → Option (List (List UInt8))
  | part, [] => if part = [] then none else some [part]
  | part, c :: r => if c = 47 then (if part = [] then none else (partsA [] r).map (part :: ·)) else partsA (part ++ [c]) r
/-- The path's names, and the error. -/
def splitN (s : List UInt8) : List (List UInt8) × Int :=
  if s.length < 1 ∨ 200 < s.length ∨ s.head? ≠ some 47 then ([], 15)
  else if s.length = 1 then ([], 0)
  else match partsA [] (s.drop 1) with
    | none => ([], 15)
    | some l => if l.all rightN then (l, 0) else ([], 3)
theorem split_l (s : List UInt8) (hl : s.length ≤ 200) (R : Post) (g2 g3 g7 : V) (res : Option (List (List UInt8))) : ∀ (k i : Nat) (part : List UInt8) (xs : List (List UInt8)) (S : Store) (v4 g8 g9 g10 g11 g12 g13 g14 g15 g16 g17 g18 g19 g20 g21 g22 g23 g24 g25 g26 g27 g28 g29 g30 g31 g32 g33 g34 g35 g36 g37 g38 g39 g40 g41 g42 g43 g44 g45 g46 g47 g48 g49 g50 g51 g52 g53 g54 g55 g56 g57 g58 g59 g60 g61 g62 g63 g64 g65 g66 : V), s.length - i = k → i ≤ s.length → part.length ≤ i → xs.length ≤ i →
   OwnS S v4 9 (xs.map fun x => .d (.str x)) → (partsA part (s.drop i)).map (xs ++ ·) = res →
   (∀ S v4 l v5 v6 g8 g9 g10 g11 g12 g13 g14 g15 g16 g17 g18 g19 g20 g21 g22 g23 g24 g25 g26 g27 g28 g29 g30 g31 g32 g33 g34 g35 g36 g37 g38 g39 g40 g41 g42 g43 g44 g45 g46 g47 g48 g49 g50 g51 g52 g53 g54 g55 g56 g57 g58 g59 g60 g61 g62 g63 g64 g65 g66, res = some l → l.length ≤ s.length + 1 → OwnS S v4 9 (l.map fun x => .d (.str x)) → R (.exit 0) ((.d (.str s)) :: (.tup []) :: g2 :: g3 :: v4 :: v5 :: v6 :: g7 :: g8 :: g9 :: g10 :: g11 :: g12 :: g13 :: g14 :: g15 :: g16 :: g17 :: g18 :: g19 :: g20 :: g21 :: g22 :: g23 :: g24 :: g25 :: g26 :: g27 :: g28 :: g29 :: g30 :: g31 :: g32 :: g33 :: g34 :: g35 :: g36 :: g37 :: g38 :: g39 :: g40 :: g41 :: g42 :: g43 :: g44 :: g45 :: g46 :: g47 :: g48 :: g49 :: g50 :: g51 :: g52 :: g53 :: g54 :: g55 :: g56 :: g57 :: g58 :: g59 :: g60 :: g61 :: g62 :: g63 :: g64 :: g65 :: g66 :: []) S []) →
   (∀ S v4 v5 v6 g8 g9 g10 g11 g12 g13 g14 g15 g16 g17 g18 g19 g20 g21 g22 g23 g24 g25 g26 g27 g28 g29 g30 g31 g32 g33 g34 g35 g36 g37 g38 g39 g40 g41 g42 g43 g44 g45 g46 g47 g48 g49 g50 g51 g52 g53 g54 g55 g56 g57 g58 g59 g60 g61 g62 g63 g64 g65 g66, res = none → R .ret ((.d (.str s)) :: (.tup []) :: (.ts []) :: (.d (.int .i64 15)) :: v4 :: v5 :: v6 :: g7 :: g8 :: g9 :: g10 :: g11 :: g12 :: g13 :: g14 :: g15 :: g16 :: g17 :: g18 :: g19 :: g20 :: g21 :: g22 :: g23 :: g24 :: g25 :: g26 :: g27 :: g28 :: g29 :: g30 :: g31 :: g32 :: g33 :: g34 :: g35 :: g36 :: g37 :: g38 :: g39 :: g40 :: g41 :: g42 :: g43 :: g44 :: g45 :: g46 :: g47 :: g48 :: g49 :: g50 :: g51 :: g52 :: g53 :: g54 :: g55 :: g56 :: g57 :: g58 :: g59 :: g60 :: g61 :: g62 :: g63 :: g64 :: g65 :: g66 :: []) S []) →
   Wp cfg (.loop (lpOf (Try.f61.body.getD .skip) 0)) ((.d (.str s)) :: (.tup []) :: g2 :: g3 :: v4 :: (.d (.str part)) :: (.d (.int .i64 i)) :: g7 :: g8 :: g9 :: g10 :: g11 :: g12 :: g13 :: g14 :: g15 :: g16 :: g17 :: g18 :: g19 :: g20 :: g21 :: g22 :: g23 :: g24 :: g25 :: g26 :: g27 :: g28 :: g29 :: g30 :: g31 :: g32 :: g33 :: g34 :: g35 :: g36 :: g37 :: g38 :: g39 :: g40 :: g41 :: g42 :: g43 :: g44 :: g45 :: g46 :: g47 :: g48 :: g49 :: g50 :: g51 :: g52 :: g53 :: g54 :: g55 :: g56 :: g57 :: g58 :: g59 :: g60 :: g61 :: g62 :: g63 :: g64 :: g65 :: g66 :: []) S [] R := by
  intro k
  induction k with
  | zero =>
    intro i part xs S v4 g8 g9 g10 g11 g12 g13 g14 g15 g16 g17 g18 g19 g20 g21 g22 g23 g24 g25 g26 g27 g28 g29 g30 g31 g32 g33 g34 g35 g36 g37 g38 g39 g40 g41 g42 g43 g44 g45 g46 g47 g48 g49 g50 g51 g52 g53 g54 g55 g56 g57 g58 g59 g60 g61 g62 g63 g64 g65 g66 hk hi hp hx ho hr hE hR
    have hie : i = s.length := by omega
    subst hie
    rw [List.drop_length] at hr
    rw [wk_of]
    refine wk_loop ?_
    conv => arg 2; whnf
    by_cases h : part = []
    · simp (maxSteps := 1000000) (disch := first | assumption | omega | rfl) only [↓vmp, vme, vmb, ty, hP, dec_t, dec_f, wrap64, List.length_map, Int.toNat_natCast, Nat.reduceAdd, vmg, strOf_mk, sb_eql]
      exact hR _ _ _ _ _ _ _ _ _ _ _ _ _ _ _ _ _ _ _ _ _ _ _ _ _ _ _ _ _ _ _ _ _ _ _ _ _ _ _ _ _ _ _ _ _ _ _ _ _ _ _ _ _ _ _ _ _ _ _ _ _ _ _ (by rw [← hr]; simp [partsA, h])
    · obtain ⟨v', S', c, ha, ho', hfr, hlen⟩ := ap42 part ho (by omega)
      simp (maxSteps := 1000000) (disch := first | assumption | omega | rfl) only [↓vmp, vme, vmb, ty, hP, dec_t, dec_f, wrap64, List.length_map, Int.toNat_natCast, Nat.reduceAdd, vmg, strOf_mk, sb_eql, bs42, ha]
      rw [wk_of]
      refine wk_loop ?_
      conv => arg 2; whnf
      simp (maxSteps := 1000000) (disch := first | assumption | omega | rfl) only [↓vmp, vme, vmb, ty, hP, dec_t, dec_f, wrap64, List.length_map, Int.toNat_natCast, Nat.reduceAdd]
      refine hE _ _ (xs ++ [part]) _ _ _ _ _ _ _ _ _ _ _ _ _ _ _ _ _ _ _ _ _ _ _ _ _ _ _ _ _ _ _ _ _ _ _ _ _ _ _ _ _ _ _ _ _ _ _ _ _ _ _ _ _ _ _ _ _ _ _ _ _ (by rw [← hr]; simp [partsA, h]) (by simp; omega) ho'
  | succ k ih =>
    intro i part xs S v4 g8 g9 g10 g11 g12 g13 g14 g15 g16 g17 g18 g19 g20 g21 g22 g23 g24 g25 g26 g27 g28 g29 g30 g31 g32 g33 g34 g35 g36 g37 g38 g39 g40 g41 g42 g43 g44 g45 g46 g47 g48 g49 g50 g51 g52 g53 g54 g55 g56 g57 g58 g59 g60 g61 g62 g63 g64 g65 g66 hk hi hp hx ho hr hE hR
    have hlt : i < s.length := by omega
    have hdr : s.drop i = s[i] :: s.drop (i + 1) := List.drop_eq_getElem_cons hlt
    rw [hdr] at hr
    have e47 := u8_c (a := s[i]) (n := 47) (by omega)
    rw [wk_of]
    refine wk_loop ?_
    conv => arg 2; whnf
    by_cases h1 : s[i] = 47
    · have h1' : ((s[i].toNat : Int)) = 47 := e47.2 h1
      by_cases h : part = []
      · simp (maxSteps := 1000000) (disch := first | assumption | omega | rfl) only [↓vmp, vme, vmb, ty, hP, dec_t, dec_f, wrap64, List.length_map, Int.toNat_natCast, Nat.reduceAdd, vmg, strOf_mk, sb_eql]
        exact hR _ _ _ _ _ _ _ _ _ _ _ _ _ _ _ _ _ _ _ _ _ _ _ _ _ _ _ _ _ _ _ _ _ _ _ _ _ _ _ _ _ _ _ _ _ _ _ _ _ _ _ _ _ _ _ _ _ _ _ _ _ _ _ (by rw [← hr]; simp [partsA, h, h1])
      · obtain ⟨v', S', c, ha, ho', hfr, hlen⟩ := ap42 part ho (by omega)
        simp (maxSteps := 1000000) (disch := first | assumption | omega | rfl) only [↓vmp, vme, vmb, ty, hP, dec_t, dec_f, wrap64, List.length_map, Int.toNat_natCast, Nat.reduceAdd, vmg, strOf_mk, sb_eql, bs42, ha]
        exact ih (i + 1) [] (xs ++ [part]) S' v' _ _ _ _ _ _ _ _ _ _ _ _ _ _ _ _ _ _ _ _ _ _ _ _ _ _ _ _ _ _ _ _ _ _ _ _ _ _ _ _ _ _ _ _ _ _ _ _ _ _ _ _ _ _ _ _ _ _ _ (by omega) (by omega) (by simp) (by simp; omega) ho' (by rw [← hr]; simp [partsA, h, h1, Option.map_map, Function.comp_def]) hE hR
    · have h1' : ¬ ((s[i].toNat : Int)) = 47 := fun h => h1 (e47.1 h)
      have hsl := slc_one (S := S) (t := 9) (s := s) (i := i) Try.underlying9 hlt
      simp (maxSteps := 1000000) (disch := first | assumption | omega | rfl) only [↓vmp, vme, vmb, ty, hP, dec_t, dec_f, wrap64, List.length_map, Int.toNat_natCast, Nat.reduceAdd, vmg, strOf_mk, sb_eql, hsl, sb_add1]
      exact ih (i + 1) (part ++ [s[i]]) xs S v4 _ _ _ _ _ _ _ _ _ _ _ _ _ _ _ _ _ _ _ _ _ _ _ _ _ _ _ _ _ _ _ _ _ _ _ _ _ _ _ _ _ _ _ _ _ _ _ _ _ _ _ _ _ _ _ _ _ _ _ (by omega) (by omega) (by simp; omega) (by omega) ho (by rw [← hr]; simp [partsA, h1]) hE hR
theorem split_m (xs : List (List UInt8)) (hl : xs.length < 1000000) (hs : ∀ x ∈ xs, x.length < 1000000) (R : Post) (S : Store) (g0 v4 g5 g6 : V) (ho : OwnS S v4 9 (xs.map fun x => .d (.str x))) : ∀ (k i : Nat) (g2 g3 g8 g9 g10 g11 g12 g13 g14 g15 g16 g17 g18 g19 g20 g21 g22 g23 g24 g25 g26 g27 g28 g29 g30 g31 g32 g33 g34 g35 g36 g37 g38 g39 g40 g41 g42 g43 g44 g45 g46 g47 g48 g49 g50 g51 g52 g53 g54 g55 g56 g57 g58 g59 g60 g61 g62 g63 g64 g65 g66 : V), xs.length - i = k → i ≤ xs.length →
   (∀ v7 g2 g3 g8 g9 g10 g11 g12 g13 g14 g15 g16 g17 g18 g19 g20 g21 g22 g23 g24 g25 g26 g27 g28 g29 g30 g31 g32 g33 g34 g35 g36 g37 g38 g39 g40 g41 g42 g43 g44 g45 g46 g47 g48 g49 g50 g51 g52 g53 g54 g55 g56 g57 g58 g59 g60 g61 g62 g63 g64 g65 g66, (xs.drop i).all rightN = true → R (.exit 2) (g0 :: (.tup []) :: g2 :: g3 :: v4 :: g5 :: g6 :: v7 :: g8 :: g9 :: g10 :: g11 :: g12 :: g13 :: g14 :: g15 :: g16 :: g17 :: g18 :: g19 :: g20 :: g21 :: g22 :: g23 :: g24 :: g25 :: g26 :: g27 :: g28 :: g29 :: g30 :: g31 :: g32 :: g33 :: g34 :: g35 :: g36 :: g37 :: g38 :: g39 :: g40 :: g41 :: g42 :: g43 :: g44 :: g45 :: g46 :: g47 :: g48 :: g49 :: g50 :: g51 :: g52 :: g53 :: g54 :: g55 :: g56 :: g57 :: g58 :: g59 :: g60 :: g61 :: g62 :: g63 :: g64 :: g65 :: g66 :: []) S []) →
   (∀ v7 g8 g9 g10 g11 g12 g13 g14 g15 g16 g17 g18 g19 g20 g21 g22 g23 g24 g25 g26 g27 g28 g29 g30 g31 g32 g33 g34 g35 g36 g37 g38 g39 g40 g41 g42 g43 g44 g45 g46 g47 g48 g49 g50 g51 g52 g53 g54 g55 g56 g57 g58 g59 g60 g61 g62 g63 g64 g65 g66, (xs.drop i).all rightN = false → R .ret (g0 :: (.tup []) :: (.ts []) :: (.d (.int .i64 3)) :: v4 :: g5 :: g6 :: v7 :: g8 :: g9 :: g10 :: g11 :: g12 :: g13 :: g14 :: g15 :: g16 :: g17 :: g18 :: g19 :: g20 :: g21 :: g22 :: g23 :: g24 :: g25 :: g26 :: g27 :: g28 :: g29 :: g30 :: g31 :: g32 :: g33 :: g34 :: g35 :: g36 :: g37 :: g38 :: g39 :: g40 :: g41 :: g42 :: g43 :: g44 :: g45 :: g46 :: g47 :: g48 :: g49 :: g50 :: g51 :: g52 :: g53 :: g54 :: g55 :: g56 :: g57 :: g58 :: g59 :: g60 :: g61 :: g62 :: g63 :: g64 :: g65 :: g66 :: []) S []) →
   Wp cfg (.loop (lpOf (Try.f61.body.getD .skip) 2)) (g0 :: (.tup []) :: g2 :: g3 :: v4 :: g5 :: g6 :: (.d (.int .i64 i)) :: g8 :: g9 :: g10 :: g11 :: g12 :: g13 :: g14 :: g15 :: g16 :: g17 :: g18 :: g19 :: g20 :: g21 :: g22 :: g23 :: g24 :: g25 :: g26 :: g27 :: g28 :: g29 :: g30 :: g31 :: g32 :: g33 :: g34 :: g35 :: g36 :: g37 :: g38 :: g39 :: g40 :: g41 :: g42 :: g43 :: g44 :: g45 :: g46 :: g47 :: g48 :: g49 :: g50 :: g51 :: g52 :: g53 :: g54 :: g55 :: g56 :: g57 :: g58 :: g59 :: g60 :: g61 :: g62 :: g63 :: g64 :: g65 :: g66 :: []) S [] R := by
  intro k
  have hlen := len_own (P := Try.prog) (t := 42) Try.underlying42 ho
  rw [List.length_map] at hlen
  induction k with
  | zero =>
    intro i g2 g3 g8 g9 g10 g11 g12 g13 g14 g15 g16 g17 g18 g19 g20 g21 g22 g23 g24 g25 g26 g27 g28 g29 g30 g31 g32 g33 g34 g35 g36 g37 g38 g39 g40 g41 g42 g43 g44 g45 g46 g47 g48 g49 g50 g51 g52 g53 g54 g55 g56 g57 g58 g59 g60 g61 g62 g63 g64 g65 g66 hk hi hE hR
    have hie : i = xs.length := by omega
    subst hie
    rw [wk_of]
    refine wk_loop ?_
    conv => arg 2; whnf
    simp (maxSteps := 1000000) (disch := first | assumption | omega | rfl) only [↓vmp, vme, vmb, ty, hP, dec_t, dec_f, wrap64, List.length_map, Int.toNat_natCast, Nat.reduceAdd, hlen]
    exact hE _ _ _ _ _ _ _ _ _ _ _ _ _ _ _ _ _ _ _ _ _ _ _ _ _ _ _ _ _ _ _ _ _ _ _ _ _ _ _ _ _ _ _ _ _ _ _ _ _ _ _ _ _ _ _ _ _ _ _ _ _ _ (by rw [List.drop_length]; rfl)
  | succ k ih =>
    intro i g2 g3 g8 g9 g10 g11 g12 g13 g14 g15 g16 g17 g18 g19 g20 g21 g22 g23 g24 g25 g26 g27 g28 g29 g30 g31 g32 g33 g34 g35 g36 g37 g38 g39 g40 g41 g42 g43 g44 g45 g46 g47 g48 g49 g50 g51 g52 g53 g54 g55 g56 g57 g58 g59 g60 g61 g62 g63 g64 g65 g66 hk hi hE hR
    have hlt : i < xs.length := by omega
    have hdr : xs.drop i = xs[i] :: xs.drop (i + 1) := List.drop_eq_getElem_cons hlt
    rw [hdr] at hE hR
    have hsx : xs[i].length < 1000000 := hs _ (List.getElem_mem hlt)
    obtain ⟨a, h1, h2⟩ := ix_own (enc := D.str) (P := Try.prog) (t := 42) Try.underlying42 (fun a => by kernel_rfl) szo42 ho hlt
    rw [wk_of]
    refine wk_loop ?_
    conv => arg 2; whnf
    cases hc : rightN xs[i] with
    | false =>
      simp (maxSteps := 1000000) (disch := first | assumption | omega | rfl) only [↓vmp, vme, vmb, ty, hP, dec_t, dec_f, wrap64, List.length_map, Int.toNat_natCast, Nat.reduceAdd, hlen, h1, h2, call_right, hc]
      exact hR _ _ _ _ _ _ _ _ _ _ _ _ _ _ _ _ _ _ _ _ _ _ _ _ _ _ _ _ _ _ _ _ _ _ _ _ _ _ _ _ _ _ _ _ _ _ _ _ _ _ _ _ _ _ _ _ _ _ _ _ (by rw [List.all_cons, hc, Bool.false_and])
    | true =>
      simp (maxSteps := 1000000) (disch := first | assumption | omega | rfl) only [↓vmp, vme, vmb, ty, hP, dec_t, dec_f, wrap64, List.length_map, Int.toNat_natCast, Nat.reduceAdd, hlen, h1, h2, call_right, hc]
      rw [List.all_cons, hc, Bool.true_and] at hE hR
      exact ih (i + 1) _ _ _ _ _ _ _ _ _ _ _ _ _ _ _ _ _ _ _ _ _ _ _ _ _ _ _ _ _ _ _ _ _ _ _ _ _ _ _ _ _ _ _ _ _ _ _ _ _ _ _ _ _ _ _ _ _ _ _ _ _ (by omega) (by omega) hE hR
theorem partsA_len : ∀ (r part : List UInt8) (l : List (List UInt8)), partsA part r = some l → ∀ x ∈ l, x.length ≤ part.length + r.length
  | [], part, l, h, x, hx => by
    by_cases hp : part = []
    · simp [partsA, hp] at h
    · simp only [partsA, hp, if_false, Option.some.injEq] at h
      subst h
      simp only [List.mem_singleton] at hx
      subst hx
      simp
  | c :: r, part, l, h, x, hx => by
    by_cases hc : c = 47
    · by_cases hp : part = []
      · simp [partsA, hp, hc] at h
      · simp only [partsA, hc, hp, if_true, if_false, Option.map_eq_some_iff] at h
        obtain ⟨l', h1, rfl⟩ := h
        rcases List.mem_cons.1 hx with rfl | h2
        · simp
        · have := partsA_len r [] l' h1 x h2
          simp at this ⊢
          omega
    · simp only [partsA, hc, if_false] at h
      have := partsA_len r _ l h x hx
      simp at this ⊢
      omega
theorem split_ok (s : List UInt8) (hl : s.length < 1000000) : Ev cfg 61 [.str s] (.ret (.tup [.d (.sl ((splitN s).1.map .str)), .d (.int .i64 (splitN s).2)])) := by
  refine ev_of rfl rfl body61 ?_
  show Wp cfg (Try.f61.body.getD .skip) ((.d (.str s)) :: (.tup []) :: (.tup []) :: (.tup []) :: (.tup []) :: (.tup []) :: (.tup []) :: (.tup []) :: (.tup []) :: (.tup []) :: (.tup []) :: (.tup []) :: (.tup []) :: (.tup []) :: (.tup []) :: (.tup []) :: (.tup []) :: (.tup []) :: (.tup []) :: (.tup []) :: (.tup []) :: (.tup []) :: (.tup []) :: (.tup []) :: (.tup []) :: (.tup []) :: (.tup []) :: (.tup []) :: (.tup []) :: (.tup []) :: (.tup []) :: (.tup []) :: (.tup []) :: (.tup []) :: (.tup []) :: (.tup []) :: (.tup []) :: (.tup []) :: (.tup []) :: (.tup []) :: (.tup []) :: (.tup []) :: (.tup []) :: (.tup []) :: (.tup []) :: (.tup []) :: (.tup []) :: (.tup []) :: (.tup []) :: (.tup []) :: (.tup []) :: (.tup []) :: (.tup []) :: (.tup []) :: (.tup []) :: (.tup []) :: (.tup []) :: (.tup []) :: (.tup []) :: (.tup []) :: (.tup []) :: (.tup []) :: (.tup []) :: (.tup []) :: (.tup []) :: (.tup []) :: (.tup []) :: []) [] [] _
  conv => arg 2; whnf
  by_cases h1 : s.length < 1
  · have e : splitN s = ([], 15) := by simp only [splitN, h1, true_or, if_true]
    simp (maxSteps := 1000000) (disch := first | assumption | omega | rfl) only [↓vmp, vme, vmb, ty, hP, dec_t, dec_f, wrap64, List.length_map, Int.toNat_natCast, Nat.reduceAdd, vmg]
    rw [e]
    exact retQ_two rfl rfl rfl rfl rfl rfl
  by_cases h2 : s.length > 200
  · have e : splitN s = ([], 15) := if_pos (.inr (.inl h2))
    simp (maxSteps := 1000000) (disch := first | assumption | omega | rfl) only [↓vmp, vme, vmb, ty, hP, dec_t, dec_f, wrap64, List.length_map, Int.toNat_natCast, Nat.reduceAdd, vmg]
    rw [e]
    exact retQ_two rfl rfl rfl rfl rfl rfl
  have hlt : 0 < s.length := by omega
  have hh : s.head? = some s[0] := by rw [List.head?_eq_getElem?, List.getElem?_eq_getElem hlt]
  have hix : indexV Try.prog 9 (.d (.str s)) (.d (.int .i64 0)) = some (.d (.int .u8 s[0].toNat)) := idx_str (i := 0) Try.underlying9 hlt
  have e47 := u8_c (a := s[0]) (n := 47) (by omega)
  by_cases h3 : s[0] = 47
  · have h3' : ((s[0].toNat : Int)) = 47 := e47.2 h3
    have h4 : ¬ (s.length < 1 ∨ 200 < s.length ∨ s.head? ≠ some 47) := by
      rintro (h | h | h)
      · exact h1 h
      · exact h2 h
      · exact h (by rw [hh, h3])
    by_cases h5 : s.length = 1
    · have e : splitN s = ([], 0) := by unfold splitN; rw [if_neg h4, if_pos h5]
      simp (maxSteps := 1000000) (disch := first | assumption | omega | rfl) only [↓vmp, vme, vmb, ty, hP, dec_t, dec_f, wrap64, List.length_map, Int.toNat_natCast, Nat.reduceAdd, vmg, hix]
      rw [e]
      exact retQ_two rfl rfl rfl rfl rfl rfl
    · simp (maxSteps := 1000000) (disch := first | assumption | omega | rfl) only [↓vmp, vme, vmb, ty, hP, dec_t, dec_f, wrap64, List.length_map, Int.toNat_natCast, Nat.reduceAdd, vmg, hix, strOf_mk]
      have e : splitN s = match partsA [] (s.drop 1) with
        | none => ([], 15)
        | some l => if l.all rightN then (l, 0) else ([], 3) := by unfold splitN; rw [if_neg h4, if_neg h5]
      refine split_l s (by omega) _ _ _ _ (partsA [] (s.drop 1)) (s.length - 1) 1 [] [] [] (.ts []) _ _ _ _ _ _ _ _ _ _ _ _ _ _ _ _ _ _ _ _ _ _ _ _ _ _ _ _ _ _ _ _ _ _ _ _ _ _ _ _ _ _ _ _ _ _ _ _ _ _ _ _ _ _ _ _ _ _ _ rfl (by omega) (by simp) (by simp) OwnS.nil (by simp) ?_ ?_
      · intro S v4 l v5 v6 g8 g9 g10 g11 g12 g13 g14 g15 g16 g17 g18 g19 g20 g21 g22 g23 g24 g25 g26 g27 g28 g29 g30 g31 g32 g33 g34 g35 g36 g37 g38 g39 g40 g41 g42 g43 g44 g45 g46 g47 g48 g49 g50 g51 g52 g53 g54 g55 g56 g57 g58 g59 g60 g61 g62 g63 g64 g65 g66 hr hll ho
        rw [hr] at e
        simp (maxSteps := 1000000) (disch := first | assumption | omega | rfl) only [↓vmp, vme, vmb, ty, hP, dec_t, dec_f, wrap64, List.length_map, Int.toNat_natCast, Nat.reduceAdd]
        refine split_m l (by omega) (fun x hx => ?_) _ S _ v4 _ _ ho l.length 0 _ _ _ _ _ _ _ _ _ _ _ _ _ _ _ _ _ _ _ _ _ _ _ _ _ _ _ _ _ _ _ _ _ _ _ _ _ _ _ _ _ _ _ _ _ _ _ _ _ _ _ _ _ _ _ _ _ _ _ _ _ rfl (by omega) ?_ ?_
        · have := partsA_len _ _ _ hr x hx
          simp at this
          omega
        · intro v7 g2 g3 g8 g9 g10 g11 g12 g13 g14 g15 g16 g17 g18 g19 g20 g21 g22 g23 g24 g25 g26 g27 g28 g29 g30 g31 g32 g33 g34 g35 g36 g37 g38 g39 g40 g41 g42 g43 g44 g45 g46 g47 g48 g49 g50 g51 g52 g53 g54 g55 g56 g57 g58 g59 g60 g61 g62 g63 g64 g65 g66 h
          rw [List.drop_zero] at h
          have e2 : splitN s = (l, 0) := by rw [e]; simp only [h, if_true]
          simp (maxSteps := 1000000) (disch := first | assumption | omega | rfl) only [↓vmp, vme, vmb, ty, hP, dec_t, dec_f, wrap64, List.length_map, Int.toNat_natCast, Nat.reduceAdd]
          rw [e2]
          exact retQ_two rfl rfl (own_one ho) rfl (own_frz' ho) rfl
        · intro v7 g8 g9 g10 g11 g12 g13 g14 g15 g16 g17 g18 g19 g20 g21 g22 g23 g24 g25 g26 g27 g28 g29 g30 g31 g32 g33 g34 g35 g36 g37 g38 g39 g40 g41 g42 g43 g44 g45 g46 g47 g48 g49 g50 g51 g52 g53 g54 g55 g56 g57 g58 g59 g60 g61 g62 g63 g64 g65 g66 h
          rw [List.drop_zero] at h
          have e2 : splitN s = ([], 3) := by rw [e]; simp only [h, Bool.false_eq_true, if_false]
          simp (maxSteps := 1000000) (disch := first | assumption | omega | rfl) only [↓vmp, vme, vmb, ty, hP, dec_t, dec_f, wrap64, List.length_map, Int.toNat_natCast, Nat.reduceAdd]
          rw [e2]
          exact retQ_two rfl rfl rfl rfl rfl rfl
      · intro S v4 v5 v6 g8 g9 g10 g11 g12 g13 g14 g15 g16 g17 g18 g19 g20 g21 g22 g23 g24 g25 g26 g27 g28 g29 g30 g31 g32 g33 g34 g35 g36 g37 g38 g39 g40 g41 g42 g43 g44 g45 g46 g47 g48 g49 g50 g51 g52 g53 g54 g55 g56 g57 g58 g59 g60 g61 g62 g63 g64 g65 g66 hr
        rw [hr] at e
        simp (maxSteps := 1000000) (disch := first | assumption | omega | rfl) only [↓vmp, vme, vmb, ty, hP, dec_t, dec_f, wrap64, List.length_map, Int.toNat_natCast, Nat.reduceAdd]
        rw [e]
        exact retQ_two rfl rfl rfl rfl rfl rfl
  · have h3' : ¬ ((s[0].toNat : Int)) = 47 := fun h => h3 (e47.1 h)
    have h4 : s.length < 1 ∨ 200 < s.length ∨ s.head? ≠ some 47 := .inr (.inr (by rw [hh]; simp [h3]))
    have e : splitN s = ([], 15) := if_pos h4
    simp (maxSteps := 1000000) (disch := first | assumption | omega | rfl) only [↓vmp, vme, vmb, ty, hP, dec_t, dec_f, wrap64, List.length_map, Int.toNat_natCast, Nat.reduceAdd, vmg, hix]
    rw [e]
    exact retQ_two rfl rfl rfl rfl rfl rfl
theorem call_split {ops : Array Oper} {dst : Option Tmp} {l : List Oper} {T : List V} {S : Store} {F : Dfs} {Q : Post} {s : List UInt8} (hl : s.length < 1000000) :
    WpR cfg ops dst l T S F Q (some (.enter 61 [.d (.str s)])) = WpL cfg ops l (putT T dst (.tup [.d (.sl ((splitN s).1.map .str)), .d (.int .i64 (splitN s).2)])) S F Q :=
  wr_call_d (ds := [.str s]) rfl (split_ok s hl)
end Go.Proofs.Ytghllhghboaagaa
end
/-! The document's model: the way of a path. -/
section
set_option linter.unusedVariables false
set_option linter.unusedSimpArgs false
set_option maxRecDepth 10000
namespace Go.Proofs.Ytghllhghboaagaa
open Go.Vm
/-- A tree that is not large. -/
structure Small (k : Nat) (t : List Node) : Prop where
  len : t.length ≤ k
  nms : ∀ n ∈ t, n.names.length ≤ k
  nam : ∀ n ∈ t, ∀ e ∈ n.names, e.name.length ≤ 200
  lnk : ∀ n ∈ t, -(k : Int) ≤ n.links ∧ n.links ≤ k
  siz : ∀ n ∈ t, 0 ≤ n.size ∧ n.size ≤ 34304 ∧ n.data.length = n.size
theorem getN_cases (t : List Node) (ino : Int) : (getN t ino = zeroNode ∧ ∀ n ∈ t, n.ino ≠ ino) ∨ (getN t ino ∈ t ∧ (getN t ino).ino = ino) := by
  unfold getN
  cases h : t.find? (fun n => decide (n.ino = ino)) with
  | none =>
    refine .inl ⟨rfl, fun n hn hi => ?_⟩
    have := List.find?_eq_none.1 h n hn
    simp [hi] at this
  | some x =>
    refine .inr ⟨List.mem_of_find?_eq_some h, ?_⟩
    have := List.find?_some h
    simpa using this
theorem Small.gnms {k : Nat} {t : List Node} (h : Small k t) (ino : Int) : (getN t ino).names.length ≤ k := by
  rcases getN_cases t ino with ⟨h1, _⟩ | ⟨h1, _⟩
  · rw [h1]; exact Nat.zero_le _
  · exact h.nms _ h1
theorem Small.gnam {k : Nat} {t : List Node} (h : Small k t) (ino : Int) : ∀ e ∈ (getN t ino).names, e.name.length ≤ 200 := by
  rcases getN_cases t ino with ⟨h1, _⟩ | ⟨h1, _⟩
  · rw [h1]; intro e he; exact absurd he (by simp [zeroNode])
  · exact h.nam _ h1
theorem Small.glnk {k : Nat} {t : List Node} (h : Small k t) (ino : Int) : -(k : Int) ≤ (getN t ino).links ∧ (getN t ino).links ≤ k := by
  rcases getN_cases t ino with ⟨h1, _⟩ | ⟨h1, _⟩
  · rw [h1]; exact ⟨by simp [zeroNode], by simp [zeroNode]⟩
  · exact h.lnk _ h1
theorem Small.gsiz {k : Nat} {t : List Node} (h : Small k t) (ino : Int) : 0 ≤ (getN t ino).size ∧ (getN t ino).size ≤ 34304 ∧ (getN t ino).data.length = (getN t ino).size := by
  rcases getN_cases t ino with ⟨h1, _⟩ | ⟨h1, _⟩
  · rw [h1]; exact ⟨by simp [zeroNode], by simp [zeroNode], by simp [zeroNode]⟩
  · exact h.siz _ h1
theorem dr_get {ops : Array Oper} {F : Dfs} {Q : Post} {K : List Nat → List (Nat × Nat) → List V → Store → Prop} {rd : List Nat} {cs : List (Nat × Nat)} {i : Nat} {dst : Option Tmp} {T : List V} {S : Store} {t : List Node} {ino : Int} (hl : t.length < 1000000) :
    WpE cfg ops F Q K rd cs i dst T S (some (.enter 65 [.d (.sl (t.map encNode)), .d (.int .i64 ino)])) = K (i :: rd) (cs ++ [(i, 1)]) (putT T dst (.d (encNode (getN t ino)))) S := we_call_d (ds := [.sl (t.map encNode), .int .i64 ino]) rfl (get_ok t ino hl)
theorem dr_name {ops : Array Oper} {F : Dfs} {Q : Post} {K : List Nat → List (Nat × Nat) → List V → Store → Prop} {rd : List Nat} {cs : List (Nat × Nat)} {i : Nat} {dst : Option Tmp} {T : List V} {S : Store} {n : Node} {s : List UInt8} (hl : n.names.length < 1000000) :
    WpE cfg ops F Q K rd cs i dst T S (some (.enter 87 [.d (encNode n), .d (.str s)])) = K (i :: rd) (cs ++ [(i, 1)]) (putT T dst (.d (.int .i64 (nameN n.names s)))) S := we_call_d (ds := [encNode n, .str s]) rfl (name_ok n s hl)
theorem dr_with {ops : Array Oper} {F : Dfs} {Q : Post} {K : List Nat → List (Nat × Nat) → List V → Store → Prop} {rd : List Nat} {cs : List (Nat × Nat)} {i : Nat} {dst : Option Tmp} {T : List V} {S : Store} {t : List Node} {n : Node} (hl : t.length < 400000) :
    WpE cfg ops F Q K rd cs i dst T S (some (.enter 89 [.d (.sl (t.map encNode)), .d (encNode n)])) = K (i :: rd) (cs ++ [(i, 1)]) (putT T dst (.d (.sl ((withN t n).map encNode)))) S := we_call_d (ds := [.sl (t.map encNode), encNode n]) rfl (with_ok t n hl)
theorem dr_put {ops : Array Oper} {F : Dfs} {Q : Post} {K : List Nat → List (Nat × Nat) → List V → Store → Prop} {rd : List Nat} {cs : List (Nat × Nat)} {i : Nat} {dst : Option Tmp} {T : List V} {S : Store} {t : List Node} {dir ino : Int} {s : List UInt8} (hl : t.length < 400000) (hn : (getN t dir).names.length < 400000) (hs : s.length < 1000000) (hm : ∀ e ∈ (getN t dir).names, e.name.length < 1000000) :
    WpE cfg ops F Q K rd cs i dst T S (some (.enter 88 [.d (.sl (t.map encNode)), .d (.int .i64 dir), .d (.str s), .d (.int .i64 ino)])) = K (i :: rd) (cs ++ [(i, 1)]) (putT T dst (.d (.sl ((putN t dir s ino).map encNode)))) S := we_call_d (ds := [.sl (t.map encNode), .int .i64 dir, .str s, .int .i64 ino]) rfl (put_ok t dir s ino hl hn hs hm)
/-- What names tell, from a node on. -/
def goN (t : List Node) : List (List UInt8) → Int → Int × Int
  | [], d => (d, 0)
  | p :: r, d => if (getN t d).kind ≠ 2 then (0, 6) else if nameN (getN t d).names p < 0 then (0, 4) else goN t r (nameN (getN t d).names p)
theorem go_l (t : List Node) (k0 : Nat) (hk0 : k0 < 300000) (hS : Small k0 t) (ps : List (List UInt8)) (hl : ps.length < 1000000) (R : Post) (S : Store) (g4 g5 : V) : ∀ (k i : Nat) (d : Int) (g8 g9 g10 g11 g12 g13 g14 g15 g16 g17 g18 g19 g20 g21 g22 g23 g24 g25 g26 g27 g28 g29 g30 g31 : V), ps.length - i = k → i ≤ ps.length →
   (∀ d' v7 g8 g9 g10 g11 g12 g13 g14 g15 g16 g17 g18 g19 g20 g21 g22 g23 g24 g25 g26 g27 g28 g29 g30 g31, goN t (ps.drop i) d = (d', 0) → R (.exit 0) ((.d (.sl (t.map encNode))) :: (.d (.sl (ps.map .str))) :: (.tup []) :: (.tup []) :: g4 :: g5 :: (.d (.int .i64 d')) :: v7 :: g8 :: g9 :: g10 :: g11 :: g12 :: g13 :: g14 :: g15 :: g16 :: g17 :: g18 :: g19 :: g20 :: g21 :: g22 :: g23 :: g24 :: g25 :: g26 :: g27 :: g28 :: g29 :: g30 :: g31 :: []) S []) →
   (∀ v6 v7 g8 g9 g10 g11 g12 g13 g14 g15 g16 g17 g18 g19 g20 g21 g22 g23 g24 g25 g26 g27 g28 g29 g30 g31, R .ret ((.d (.sl (t.map encNode))) :: (.d (.sl (ps.map .str))) :: (.tup []) :: (.tup []) :: (.d (.int .i64 (goN t (ps.drop i) d).1)) :: (.d (.int .i64 (goN t (ps.drop i) d).2)) :: v6 :: v7 :: g8 :: g9 :: g10 :: g11 :: g12 :: g13 :: g14 :: g15 :: g16 :: g17 :: g18 :: g19 :: g20 :: g21 :: g22 :: g23 :: g24 :: g25 :: g26 :: g27 :: g28 :: g29 :: g30 :: g31 :: []) S []) →
   Wp cfg (.loop (lpOf (Try.f62.body.getD .skip) 0)) ((.d (.sl (t.map encNode))) :: (.d (.sl (ps.map .str))) :: (.tup []) :: (.tup []) :: g4 :: g5 :: (.d (.int .i64 d)) :: (.d (.int .i64 i)) :: g8 :: g9 :: g10 :: g11 :: g12 :: g13 :: g14 :: g15 :: g16 :: g17 :: g18 :: g19 :: g20 :: g21 :: g22 :: g23 :: g24 :: g25 :: g26 :: g27 :: g28 :: g29 :: g30 :: g31 :: []) S [] R := by
  have hlt : t.length < 400000 := Nat.lt_of_le_of_lt hS.len (by omega)
  have hlt' : t.length < 1000000 := by omega
  intro k
  induction k with
  | zero =>
    intro i d g8 g9 g10 g11 g12 g13 g14 g15 g16 g17 g18 g19 g20 g21 g22 g23 g24 g25 g26 g27 g28 g29 g30 g31 hk hi hE hR
    have hie : i = ps.length := by omega
    subst hie
    rw [wk_of]
    refine wk_loop ?_
    conv => arg 2; whnf
    simp (maxSteps := 1000000) (disch := first | assumption | omega | rfl) only [↓vmp, vme, vmb, ty, hP, dec_t, dec_f, wrap64, List.length_map, Int.toNat_natCast, Nat.reduceAdd]
    exact hE _ _ _ _ _ _ _ _ _ _ _ _ _ _ _ _ _ _ _ _ _ _ _ _ _ _ (by rw [List.drop_length]; rfl)
  | succ k ih =>
    intro i d g8 g9 g10 g11 g12 g13 g14 g15 g16 g17 g18 g19 g20 g21 g22 g23 g24 g25 g26 g27 g28 g29 g30 g31 hk hi hE hR
    have hip : i < ps.length := by omega
    have hdr : ps.drop i = ps[i] :: ps.drop (i + 1) := List.drop_eq_getElem_cons hip
    rw [hdr] at hE hR
    have hgn : (getN t d).names.length < 1000000 := Nat.lt_of_le_of_lt (hS.gnms d) (by omega)
    rw [wk_of]
    refine wk_loop ?_
    conv => arg 2; whnf
    by_cases hc : (getN t d).kind = 2
    · simp (maxSteps := 1000000) (disch := first | assumption | omega | rfl) only [↓vmp, vme, vmb, ty, hP, dec_t, dec_f, wrap64, List.length_map, Int.toNat_natCast, Nat.reduceAdd, call_get]
      refine wk_draw (is := [0, 1, 3, 4, 5, 6, 2, 7, 8]) (h := 0) (by kernel_rfl) (by kernel_rfl) ?_
      simp (maxSteps := 1000000) (disch := first | assumption | omega | rfl) only [List.replicate_zero, eq_self, vmd, vmk, vmo, vmg, vme, vmb, ty, hP, dec_t, dec_f, wrap64, List.length_map, Int.toNat_natCast, Nat.reduceAdd, dr_get, dr_name]
      refine ⟨by kernel_rfl, ?_⟩
      by_cases hn : nameN (getN t d).names ps[i] < 0
      · simp (maxSteps := 1000000) (disch := first | assumption | omega | rfl) only [↓vmp, vme, vmb, ty, hP, dec_t, dec_f, wrap64, List.length_map, Int.toNat_natCast, Nat.reduceAdd]
        have e : goN t (ps[i] :: ps.drop (i + 1)) d = (0, 4) := by simp only [goN, ne_eq, hc, not_true_eq_false, if_false, hn, if_true]
        rw [e] at hR
        exact hR _ _ _ _ _ _ _ _ _ _ _ _ _ _ _ _ _ _ _ _ _ _ _ _ _ _
      · simp (maxSteps := 1000000) (disch := first | assumption | omega | rfl) only [↓vmp, vme, vmb, ty, hP, dec_t, dec_f, wrap64, List.length_map, Int.toNat_natCast, Nat.reduceAdd]
        have e : goN t (ps[i] :: ps.drop (i + 1)) d = goN t (ps.drop (i + 1)) (nameN (getN t d).names ps[i]) := by simp only [goN, ne_eq, hc, not_true_eq_false, if_false, hn]
        rw [e] at hE hR
        exact ih (i + 1) _ _ _ _ _ _ _ _ _ _ _ _ _ _ _ _ _ _ _ _ _ _ _ _ _ (by omega) (by omega) hE hR
    · simp (maxSteps := 1000000) (disch := first | assumption | omega | rfl) only [↓vmp, vme, vmb, ty, hP, dec_t, dec_f, wrap64, List.length_map, Int.toNat_natCast, Nat.reduceAdd, call_get]
      have e : goN t (ps[i] :: ps.drop (i + 1)) d = (0, 6) := by simp only [goN, ne_eq, hc, not_false_eq_true, if_true]
      rw [e] at hR
      exact hR _ _ _ _ _ _ _ _ _ _ _ _ _ _ _ _ _ _ _ _ _ _ _ _ _ _
theorem go_ok (t : List Node) (k0 : Nat) (hk0 : k0 < 300000) (hS : Small k0 t) (ps : List (List UInt8)) (hl : ps.length < 1000000) : Ev cfg 62 [.sl (t.map encNode), .sl (ps.map .str)] (.ret (.tup [.d (.int .i64 (goN t ps 1).1), .d (.int .i64 (goN t ps 1).2)])) := by
  refine ev_of rfl rfl body62 ?_
  show Wp cfg (Try.f62.body.getD .skip) ((.d (.sl (t.map encNode))) :: (.d (.sl (ps.map .str))) :: (.tup []) :: (.tup []) :: (.tup []) :: (.tup []) :: (.tup []) :: (.tup []) :: (.tup []) :: (.tup []) :: (.tup []) :: (.tup []) :: (.tup []) :: (.tup []) :: (.tup []) :: (.tup []) :: (.tup []) :: (.tup []) :: (.tup []) :: (.tup []) :: (.tup []) :: (.tup []) :: (.tup []) :: (.tup []) :: (.tup []) :: (.tup []) :: (.tup []) :: (.tup []) :: (.tup []) :: (.tup []) :: (.tup []) :: (.tup []) :: []) [] [] _
  conv => arg 2; whnf
  simp (maxSteps := 1000000) (disch := first | assumption | omega | rfl) only [↓vmp, vme, vmb, ty, hP, dec_t, dec_f, wrap64, List.length_map, Int.toNat_natCast, Nat.reduceAdd]
  refine go_l t k0 hk0 hS ps hl _ _ _ _ ps.length 0 1 _ _ _ _ _ _ _ _ _ _ _ _ _ _ _ _ _ _ _ _ _ _ _ _ rfl (by omega) ?_ ?_
  · intro d' v7 g8 g9 g10 g11 g12 g13 g14 g15 g16 g17 g18 g19 g20 g21 g22 g23 g24 g25 g26 g27 g28 g29 g30 g31 h
    rw [List.drop_zero] at h
    simp (maxSteps := 1000000) (disch := first | assumption | omega | rfl) only [↓vmp, vme, vmb, ty, hP, dec_t, dec_f, wrap64, List.length_map, Int.toNat_natCast, Nat.reduceAdd]
    rw [h]
    exact retQ_two rfl rfl rfl rfl rfl rfl
  · intro v6 v7 g8 g9 g10 g11 g12 g13 g14 g15 g16 g17 g18 g19 g20 g21 g22 g23 g24 g25 g26 g27 g28 g29 g30 g31
    simp (maxSteps := 1000000) (disch := first | assumption | omega | rfl) only [↓vmp, vme, vmb, ty, hP, dec_t, dec_f, wrap64, List.length_map, Int.toNat_natCast, Nat.reduceAdd]
    exact retQ_two rfl rfl rfl rfl rfl rfl
theorem call_go {ops : Array Oper} {dst : Option Tmp} {l : List Oper} {T : List V} {S : Store} {F : Dfs} {Q : Post} {t : List Node} {ps : List (List UInt8)} {k0 : Nat} (hS : Small k0 t) (hk0 : k0 < 300000) (hl : ps.length < 1000000) :
    WpR cfg ops dst l T S F Q (some (.enter 62 [.d (.sl (t.map encNode)), .d (.sl (ps.map .str))])) = WpL cfg ops l (putT T dst (.tup [.d (.int .i64 (goN t ps 1).1), .d (.int .i64 (goN t ps 1).2)])) S F Q :=
  wr_call_d (ds := [.sl (t.map encNode), .sl (ps.map .str)]) rfl (go_ok t k0 hk0 hS ps hl)
end Go.Proofs.Ytghllhghboaagaa
end
/-! The document's model: Resolve, Where, Next, Fail. -/
section
set_option linter.unusedVariables false
set_option linter.unusedSimpArgs false
set_option maxRecDepth 10000
namespace Go.Proofs.Ytghllhghboaagaa
open Go.Vm
theorem partsA_num : ∀ (r part : List UInt8) (l : List (List UInt8)), partsA part r = some l → l.length ≤ r.length + 1
  | [], part, l, h => by
    by_cases hp : part = []
    · simp [partsA, hp] at h
    · simp only [partsA, hp, if_false, Option.some.injEq] at h
      subst h
      simp
  | c :: r, part, l, h => by
    by_cases hc : c = 47
    · by_cases hp : part = []
      · simp [partsA, hp, hc] at h
      · simp only [partsA, hc, hp, if_true, if_false, Option.map_eq_some_iff] at h
        obtain ⟨l', h1, rfl⟩ := h
        have := partsA_num r [] l' h1
        simp
        omega
    · simp only [partsA, hc, if_false] at h
      have := partsA_num r _ l h
      simp
      omega
theorem splitN_num (s : List UInt8) : (splitN s).1.length ≤ 200 := by
  unfold splitN
  by_cases h1 : s.length < 1 ∨ 200 < s.length ∨ s.head? ≠ some 47
  · rw [if_pos h1]; simp
  · rw [if_neg h1]
    by_cases h2 : s.length = 1
    · rw [if_pos h2]; simp
    · rw [if_neg h2]
      cases h : partsA [] (s.drop 1) with
      | none => simp
      | some l =>
        have := partsA_num _ _ _ h
        simp at this
        simp only
        split
        · show l.length ≤ 200
          omega
        · simp
theorem splitN_nam (s : List UInt8) : ∀ x ∈ (splitN s).1, rightN x = true := by
  unfold splitN
  by_cases h1 : s.length < 1 ∨ 200 < s.length ∨ s.head? ≠ some 47
  · rw [if_pos h1]; simp
  · rw [if_neg h1]
    by_cases h2 : s.length = 1
    · rw [if_pos h2]; simp
    · rw [if_neg h2]
      cases h : partsA [] (s.drop 1) with
      | none => simp
      | some l =>
        simp only
        split
        · rename_i ha
          exact fun x hx => List.all_eq_true.1 ha x hx
        · simp
theorem rightN_len {s : List UInt8} (h : rightN s = true) : s.length ≤ 24 := by
  simp only [rightN, Bool.and_eq_true, decide_eq_true_eq] at h
  exact h.1.2.1
def resolveN (t : List Node) (s : List UInt8) : Int × Int := if (splitN s).2 ≠ 0 then (0, (splitN s).2) else goN t (splitN s).1 1
theorem resolve_ok (t : List Node) (k0 : Nat) (hk0 : k0 < 300000) (hS : Small k0 t) (s : List UInt8) (hl : s.length < 1000000) : Ev cfg 28 [.sl (t.map encNode), .str s] (.ret (.tup [.d (.int .i64 (resolveN t s).1), .d (.int .i64 (resolveN t s).2)])) := by
  refine ev_of rfl rfl body28 ?_
  show Wp cfg (Try.f28.body.getD .skip) ((.d (.sl (t.map encNode))) :: (.d (.str s)) :: (.tup []) :: (.tup []) :: (.tup []) :: (.tup []) :: (.tup []) :: (.tup []) :: (.tup []) :: (.tup []) :: (.tup []) :: (.tup []) :: (.tup []) :: (.tup []) :: (.tup []) :: (.tup []) :: (.tup []) :: (.tup []) :: (.tup []) :: (.tup []) :: (.tup []) :: []) [] [] _
  conv => arg 2; whnf
  have hn := splitN_num s
  have hn' : (splitN s).1.length < 1000000 := by omega
  by_cases h : (splitN s).2 = 0
  · have e : resolveN t s = goN t (splitN s).1 1 := by simp only [resolveN, h, ne_eq, not_true_eq_false, if_false]
    simp (maxSteps := 1000000) (disch := first | assumption | omega | rfl) only [↓vmp, vme, vmb, ty, hP, dec_t, dec_f, wrap64, List.length_map, Int.toNat_natCast, Nat.reduceAdd, vmg, strOf_mk, Option.map_some, Option.map_none, call_split, call_go hS hk0]
    rw [e]
    exact retQ_two rfl rfl rfl rfl rfl rfl
  · have e : resolveN t s = (0, (splitN s).2) := by simp only [resolveN, h, ne_eq, not_false_eq_true, if_true]
    simp (maxSteps := 1000000) (disch := first | assumption | omega | rfl) only [↓vmp, vme, vmb, ty, hP, dec_t, dec_f, wrap64, List.length_map, Int.toNat_natCast, Nat.reduceAdd, vmg, strOf_mk, Option.map_some, Option.map_none, call_split]
    rw [e]
    exact retQ_two rfl rfl rfl rfl rfl rfl
def whereN (t : List Node) (s : List UInt8) : Int × List UInt8 × Int :=
  if (splitN s).2 ≠ 0 then (0, [], (splitN s).2)
  else if (splitN s).1.length = 0 then (0, [], 15)
  else if (goN t ((splitN s).1.take ((splitN s).1.length - 1)) 1).2 ≠ 0 then (0, [], (goN t ((splitN s).1.take ((splitN s).1.length - 1)) 1).2)
  else if (getN t (goN t ((splitN s).1.take ((splitN s).1.length - 1)) 1).1).kind ≠ 2 then (0, [], 6)
  else ((goN t ((splitN s).1.take ((splitN s).1.length - 1)) 1).1, (splitN s).1.getD ((splitN s).1.length - 1) [], 0)
theorem where_ok (t : List Node) (k0 : Nat) (hk0 : k0 < 300000) (hS : Small k0 t) (s : List UInt8) (hl : s.length < 1000000) : Ev cfg 30 [.sl (t.map encNode), .str s] (.ret (.tup [.d (.int .i64 (whereN t s).1), .d (.str (whereN t s).2.1), .d (.int .i64 (whereN t s).2.2)])) := by
  refine ev_of rfl rfl body30 ?_
  show Wp cfg (Try.f30.body.getD .skip) ((.d (.sl (t.map encNode))) :: (.d (.str s)) :: (.tup []) :: (.tup []) :: (.tup []) :: (.tup []) :: (.tup []) :: (.tup []) :: (.tup []) :: (.tup []) :: (.tup []) :: (.tup []) :: (.tup []) :: (.tup []) :: (.tup []) :: (.tup []) :: (.tup []) :: (.tup []) :: (.tup []) :: (.tup []) :: (.tup []) :: (.tup []) :: (.tup []) :: (.tup []) :: (.tup []) :: (.tup []) :: (.tup []) :: (.tup []) :: (.tup []) :: (.tup []) :: (.tup []) :: (.tup []) :: (.tup []) :: (.tup []) :: (.tup []) :: (.tup []) :: (.tup []) :: (.tup []) :: (.tup []) :: (.tup []) :: (.tup []) :: (.tup []) :: (.tup []) :: (.tup []) :: (.tup []) :: (.tup []) :: (.tup []) :: []) [] [] _
  conv => arg 2; whnf
  have hn := splitN_num s
  have hlt' : t.length < 1000000 := Nat.lt_of_le_of_lt hS.len (by omega)
  have hw : whereN t s = (if (splitN s).2 ≠ 0 then (0, [], (splitN s).2)
  else if (splitN s).1.length = 0 then (0, [], 15)
  else if (goN t ((splitN s).1.take ((splitN s).1.length - 1)) 1).2 ≠ 0 then (0, [], (goN t ((splitN s).1.take ((splitN s).1.length - 1)) 1).2)
  else if (getN t (goN t ((splitN s).1.take ((splitN s).1.length - 1)) 1).1).kind ≠ 2 then (0, [], 6)
  else ((goN t ((splitN s).1.take ((splitN s).1.length - 1)) 1).1, (splitN s).1.getD ((splitN s).1.length - 1) [], 0)) := rfl
  by_cases h : (splitN s).2 = 0
  · rw [if_neg (by simp [h])] at hw
    by_cases h0 : (splitN s).1.length = 0
    · rw [if_pos h0] at hw
      simp (maxSteps := 1000000) (disch := first | assumption | omega | rfl) only [↓vmp, vme, vmb, ty, hP, dec_t, dec_f, wrap64, List.length_map, Int.toNat_natCast, Nat.reduceAdd, vmg, strOf_mk, Option.map_some, Option.map_none, call_split]
      rw [hw]
      exact retQ_three rfl rfl rfl rfl rfl rfl rfl rfl rfl
    · rw [if_neg h0] at hw
      have hsl := slc_hi (S := []) (P := Try.prog) (t := 42) (e := 9) (xs := (splitN s).1.map D.str) (hi := ((splitN s).1.length : Int) - 1) Try.underlying42 (by simp only [List.all_map, List.all_eq_true]; intro x _; exact fits9 x) szo42 (by omega) (by simp only [List.length_map]; omega)
      rw [← List.map_take, show (((splitN s).1.length : Int) - 1).toNat = (splitN s).1.length - 1 by omega] at hsl
      have hn' : ((splitN s).1.take ((splitN s).1.length - 1)).length < 1000000 := by rw [List.length_take]; omega
      by_cases h1 : (goN t ((splitN s).1.take ((splitN s).1.length - 1)) 1).2 = 0
      · rw [if_neg (by simp [h1])] at hw
        by_cases h2 : (getN t (goN t ((splitN s).1.take ((splitN s).1.length - 1)) 1).1).kind = 2
        · rw [if_neg (by simp [h2])] at hw
          have hlt : (splitN s).1.length - 1 < (splitN s).1.length := by omega
          have hix := ix42 (S := []) hlt
          rw [show (((splitN s).1.length - 1 : Nat) : Int) = ((splitN s).1.length : Int) - 1 by omega] at hix
          simp (maxSteps := 1000000) (disch := first | assumption | omega | rfl) only [↓vmp, vme, vmb, ty, hP, dec_t, dec_f, wrap64, List.length_map, Int.toNat_natCast, Nat.reduceAdd, vmg, strOf_mk, Option.map_some, Option.map_none, call_split, hsl, call_go hS hk0, call_get]
          refine wk_draw (is := [0, 1, 2, 3, 4, 5, 6, 7, 8, 9]) (h := 0) (by kernel_rfl) (by kernel_rfl) ?_
          simp (maxSteps := 1000000) (disch := first | assumption | omega | rfl) only [List.replicate_zero, eq_self, vmd, vmk, vmo, vmg, vme, vmb, ty, hP, dec_t, dec_f, wrap64, List.length_map, Int.toNat_natCast, Nat.reduceAdd, hix]
          refine ⟨by kernel_rfl, ?_⟩
          simp (maxSteps := 1000000) (disch := first | assumption | omega | rfl) only [↓vmp, vme, vmb, ty, hP, dec_t, dec_f, wrap64, List.length_map, Int.toNat_natCast, Nat.reduceAdd]
          rw [hw, List.getD_eq_getElem?_getD, List.getElem?_eq_getElem hlt]
          exact retQ_three rfl rfl rfl rfl rfl rfl rfl rfl rfl
        · rw [if_pos h2] at hw
          simp (maxSteps := 1000000) (disch := first | assumption | omega | rfl) only [↓vmp, vme, vmb, ty, hP, dec_t, dec_f, wrap64, List.length_map, Int.toNat_natCast, Nat.reduceAdd, vmg, strOf_mk, Option.map_some, Option.map_none, call_split, hsl, call_go hS hk0, call_get]
          rw [hw]
          exact retQ_three rfl rfl rfl rfl rfl rfl rfl rfl rfl
      · rw [if_pos h1] at hw
        simp (maxSteps := 1000000) (disch := first | assumption | omega | rfl) only [↓vmp, vme, vmb, ty, hP, dec_t, dec_f, wrap64, List.length_map, Int.toNat_natCast, Nat.reduceAdd, vmg, strOf_mk, Option.map_some, Option.map_none, call_split, hsl, call_go hS hk0]
        rw [hw]
        exact retQ_three rfl rfl rfl rfl rfl rfl rfl rfl rfl
  · rw [if_pos h] at hw
    simp (maxSteps := 1000000) (disch := first | assumption | omega | rfl) only [↓vmp, vme, vmb, ty, hP, dec_t, dec_f, wrap64, List.length_map, Int.toNat_natCast, Nat.reduceAdd, vmg, strOf_mk, Option.map_some, Option.map_none, call_split]
    rw [hw]
    exact retQ_three rfl rfl rfl rfl rfl rfl rfl rfl rfl
end Go.Proofs.Ytghllhghboaagaa
end
/-! The document's model: Next, Fail, New. -/
section
set_option linter.unusedVariables false
set_option linter.unusedSimpArgs false
set_option maxRecDepth 10000
namespace Go.Proofs.Ytghllhghboaagaa
open Go.Vm
theorem call_resolve {ops : Array Oper} {dst : Option Tmp} {l : List Oper} {T : List V} {S : Store} {F : Dfs} {Q : Post} {t : List Node} {s : List UInt8} {k0 : Nat} (hS : Small k0 t) (hk0 : k0 < 300000) (hl : s.length < 1000000) :
    WpR cfg ops dst l T S F Q (some (.enter 28 [.d (.sl (t.map encNode)), .d (.str s)])) = WpL cfg ops l (putT T dst (.tup [.d (.int .i64 (resolveN t s).1), .d (.int .i64 (resolveN t s).2)])) S F Q :=
  wr_call_d (ds := [.sl (t.map encNode), .str s]) rfl (resolve_ok t k0 hk0 hS s hl)
theorem call_where {ops : Array Oper} {dst : Option Tmp} {l : List Oper} {T : List V} {S : Store} {F : Dfs} {Q : Post} {t : List Node} {s : List UInt8} {k0 : Nat} (hS : Small k0 t) (hk0 : k0 < 300000) (hl : s.length < 1000000) :
    WpR cfg ops dst l T S F Q (some (.enter 30 [.d (.sl (t.map encNode)), .d (.str s)])) = WpL cfg ops l (putT T dst (.tup [.d (.int .i64 (whereN t s).1), .d (.str (whereN t s).2.1), .d (.int .i64 (whereN t s).2.2)])) S F Q :=
  wr_call_d (ds := [.sl (t.map encNode), .str s]) rfl (where_ok t k0 hk0 hS s hl)
/-- The next free number, from i on, in so many steps. -/
def nextA (t : List Node) : Nat → Int → Int
  | 0, i => i
  | n + 1, i => if 0 ≤ findFrom i 0 t then nextA t n (i + 1) else i
def nextN (t : List Node) : Int := nextA t (t.length + 1) 2
theorem find_none {t : List Node} {i : Int} (h : findFrom i 0 t < 0) : ∀ n ∈ t, n.ino ≠ i := by
  rcases findFrom_spec i t 0 with ⟨h1, h2⟩ | ⟨k, hk, h1, h2⟩
  · intro n hn hi
    have := List.find?_eq_none.1 h1 n hn
    simp [hi] at this
  · omega
theorem find_some {t : List Node} {i : Int} (h : 0 ≤ findFrom i 0 t) : ∃ n ∈ t, n.ino = i := by
  rcases findFrom_spec i t 0 with ⟨h1, h2⟩ | ⟨k, hk, h1, h2⟩
  · omega
  · exact ⟨t[k], List.getElem_mem hk, by simpa using List.find?_some h2⟩
/-- How many nodes have a number from i on. -/
def aboveN (t : List Node) (i : Int) : Nat := t.countP (fun n => decide (i ≤ n.ino))
theorem above_lt {t : List Node} {i : Int} (h : ∃ n ∈ t, n.ino = i) : aboveN t (i + 1) < aboveN t i := by
  obtain ⟨n, hn, hi⟩ := h
  unfold aboveN
  induction t with
  | nil => simp at hn
  | cons x r ih =>
    have mono : ∀ r : List Node, r.countP (fun n => decide (i + 1 ≤ n.ino)) ≤ r.countP (fun n => decide (i ≤ n.ino)) := fun r => List.countP_mono_left (fun a _ h => by simp at h ⊢; omega)
    rw [List.countP_cons, List.countP_cons]
    rcases List.mem_cons.1 hn with rfl | hm
    · have h1 : ¬ (decide (i + 1 ≤ n.ino) = true) := by simp; omega
      have h2 : decide (i ≤ n.ino) = true := by simp; omega
      rw [if_neg h1, if_pos h2]
      have := mono r
      omega
    · have := ih hm
      by_cases h1 : decide (i + 1 ≤ x.ino) = true
      · have h2 : decide (i ≤ x.ino) = true := by simp at h1 ⊢; omega
        rw [if_pos h1, if_pos h2]; omega
      · rw [if_neg h1]
        split <;> omega
theorem next_l (t : List Node) (hl : t.length < 400000) (R : Post) (S : Store) (g2 : V) : ∀ (k : Nat) (i : Int) (g4 g5 g6 g7 g8 g9 g10 : V), aboveN t i ≤ k → 2 ≤ i → i + k < 1000000 →
   (∀ g4 g5 g6 g7 g8 g9 g10, findFrom (nextA t (k + 1) i) 0 t < 0 → R (.exit 0) ((.d (.sl (t.map encNode))) :: (.tup []) :: g2 :: (.d (.int .i64 (nextA t (k + 1) i))) :: g4 :: g5 :: g6 :: g7 :: g8 :: g9 :: g10 :: []) S []) →
   Wp cfg (.loop (lpOf (Try.f32.body.getD .skip) 0)) ((.d (.sl (t.map encNode))) :: (.tup []) :: g2 :: (.d (.int .i64 i)) :: g4 :: g5 :: g6 :: g7 :: g8 :: g9 :: g10 :: []) S [] R := by
  intro k
  have hl' : t.length < 1000000 := by omega
  induction k with
  | zero =>
    intro i g4 g5 g6 g7 g8 g9 g10 hk h2 hb hE
    rw [wk_of]
    refine wk_loop ?_
    conv => arg 2; whnf
    have hf : findFrom i 0 t < 0 := by
      rcases Int.lt_or_le (findFrom i 0 t) 0 with h | h
      · exact h
      · have := above_lt (find_some h); omega
    have hf' : ¬ 0 ≤ findFrom i 0 t := by omega
    have hf2 : ¬ findFrom i 0 t ≥ 0 := by omega
    simp (maxSteps := 1000000) (disch := first | assumption | omega | rfl) only [↓vmp, vme, vmb, ty, hP, dec_t, dec_f, wrap64, List.length_map, Int.toNat_natCast, Nat.reduceAdd, call_find]
    have e : nextA t (0 + 1) i = i := by simp only [nextA, hf', if_false]
    rw [e] at hE
    exact hE _ _ _ _ _ _ _ hf
  | succ k ih =>
    intro i g4 g5 g6 g7 g8 g9 g10 hk h2 hb hE
    rw [wk_of]
    refine wk_loop ?_
    conv => arg 2; whnf
    by_cases hf : 0 ≤ findFrom i 0 t
    · have := above_lt (find_some hf)
      have hf2 : findFrom i 0 t ≥ 0 := by omega
      simp (maxSteps := 1000000) (disch := first | assumption | omega | rfl) only [↓vmp, vme, vmb, ty, hP, dec_t, dec_f, wrap64, List.length_map, Int.toNat_natCast, Nat.reduceAdd, call_find]
      have e : nextA t (k + 1 + 1) i = nextA t (k + 1) (i + 1) := by rw [nextA, if_pos hf]
      rw [e] at hE
      exact ih (i + 1) _ _ _ _ _ _ _ (by omega) (by omega) (by omega) hE
    · have hf2 : ¬ findFrom i 0 t ≥ 0 := by omega
      simp (maxSteps := 1000000) (disch := first | assumption | omega | rfl) only [↓vmp, vme, vmb, ty, hP, dec_t, dec_f, wrap64, List.length_map, Int.toNat_natCast, Nat.reduceAdd, call_find]
      have e : nextA t (k + 1 + 1) i = i := by rw [nextA, if_neg hf]
      rw [e] at hE
      exact hE _ _ _ _ _ _ _ (by omega)
theorem nextA_spec (t : List Node) : ∀ (k : Nat) (i : Int), aboveN t i ≤ k → findFrom (nextA t (k + 1) i) 0 t < 0 ∧ i ≤ nextA t (k + 1) i ∧ nextA t (k + 1) i ≤ i + k
  | 0, i, hk => by
    have hf : ¬ 0 ≤ findFrom i 0 t := fun h => by have := above_lt (find_some h); omega
    rw [nextA, if_neg hf]
    exact ⟨by omega, by omega, by omega⟩
  | k + 1, i, hk => by
    by_cases hf : 0 ≤ findFrom i 0 t
    · have := above_lt (find_some hf)
      rw [nextA, if_pos hf]
      have h := nextA_spec t k (i + 1) (by omega)
      exact ⟨h.1, by omega, by omega⟩
    · rw [nextA, if_neg hf]
      exact ⟨by omega, by omega, by omega⟩
theorem nextN_spec (t : List Node) : (∀ n ∈ t, n.ino ≠ nextN t) ∧ 2 ≤ nextN t ∧ nextN t ≤ t.length + 2 := by
  have h := nextA_spec t t.length 2 List.countP_le_length
  exact ⟨find_none h.1, h.2.1, by have := h.2.2; unfold nextN; omega⟩
theorem next_ok (t : List Node) (hl : t.length < 400000) : Ev cfg 32 [.sl (t.map encNode)] (.ret (.d (.int .i64 (nextN t)))) := by
  refine ev_of rfl rfl body32 ?_
  show Wp cfg (Try.f32.body.getD .skip) ((.d (.sl (t.map encNode))) :: (.tup []) :: (.tup []) :: (.tup []) :: (.tup []) :: (.tup []) :: (.tup []) :: (.tup []) :: (.tup []) :: (.tup []) :: (.tup []) :: []) [] [] _
  conv => arg 2; whnf
  simp (maxSteps := 1000000) (disch := first | assumption | omega | rfl) only [↓vmp, vme, vmb, ty, hP, dec_t, dec_f, wrap64, List.length_map, Int.toNat_natCast, Nat.reduceAdd]
  refine next_l t hl _ _ _ t.length 2 _ _ _ _ _ _ _ List.countP_le_length (by omega) (by omega) ?_
  intro g4 g5 g6 g7 g8 g9 g10 h
  simp (maxSteps := 1000000) (disch := first | assumption | omega | rfl) only [↓vmp, vme, vmb, ty, hP, dec_t, dec_f, wrap64, List.length_map, Int.toNat_natCast, Nat.reduceAdd]
  exact retQ_one rfl rfl rfl
theorem call_next {ops : Array Oper} {dst : Option Tmp} {l : List Oper} {T : List V} {S : Store} {F : Dfs} {Q : Post} {t : List Node} (hl : t.length < 400000) :
    WpR cfg ops dst l T S F Q (some (.enter 32 [.d (.sl (t.map encNode))])) = WpL cfg ops l (putT T dst (.d (.int .i64 (nextN t)))) S F Q :=
  wr_call_d (ds := [.sl (t.map encNode)]) rfl (next_ok t hl)
def failN (e : Int) : Ans := ⟨e, 0, 0, 0, 0, [], []⟩
theorem bd52 {e : Int} : buildV Try.prog 52 [(0, .d (.int .i64 e))] = some (.agg [.d (.int .i64 e), .d (.int .i64 0), .d (.int .i64 0), .d (.int .i64 0), .d (.int .i64 0), .ts [], .ts []]) := by kernel_rfl
theorem fail_ok (e : Int) : Ev cfg 46 [.int .i64 e] (.ret (.d (encAns (failN e)))) := by
  refine ev_of rfl rfl body46 ?_
  show Wp cfg (Try.f46.body.getD .skip) ((.d (.int .i64 e)) :: (.tup []) :: (.tup []) :: (.tup []) :: (.tup []) :: []) [] [] _
  conv => arg 2; whnf
  simp (maxSteps := 1000000) (disch := first | assumption | omega | rfl) only [↓vmp, vme, vmb, ty, hP, dec_t, dec_f, wrap64, List.length_map, Int.toNat_natCast, Nat.reduceAdd, bd52]
  exact retQ_cell rfl (v := .agg [.d (.int .i64 e), .d (.int .i64 0), .d (.int .i64 0), .d (.int .i64 0), .d (.int .i64 0), .ts [], .ts []]) (by kernel_rfl) rfl rfl
theorem call_fail {ops : Array Oper} {dst : Option Tmp} {l : List Oper} {T : List V} {S : Store} {F : Dfs} {Q : Post} {e : Int} :
    WpR cfg ops dst l T S F Q (some (.enter 46 [.d (.int .i64 e)])) = WpL cfg ops l (putT T dst (.d (encAns (failN e)))) S F Q :=
  wr_call_d (ds := [.int .i64 e]) rfl (fail_ok e)
end Go.Proofs.Ytghllhghboaagaa
end
/-! The document's model: plain facts on trees. -/
section
set_option linter.unusedVariables false
set_option linter.unusedSimpArgs false
set_option maxRecDepth 10000
namespace Go.Proofs.Ytghllhghboaagaa
open Go.Vm
theorem mem_withA {n x : Node} : ∀ {l : List Node} {b : Bool}, x ∈ withA n b l ↔ (b = false ∧ x = n) ∨ (x ∈ l ∧ x.ino ≠ n.ino)
  | [], b => by cases b <;> simp [withA]
  | y :: r, b => by
    rw [withA]
    simp only [List.mem_append, mem_withA (l := r), List.mem_cons]
    cases b with
    | true => by_cases h2 : y.ino ≠ n.ino <;> grind
    | false => by_cases h1 : n.ino ≤ y.ino <;> by_cases h2 : y.ino ≠ n.ino <;> grind
theorem mem_withN {t : List Node} {n x : Node} : x ∈ withN t n ↔ x = n ∨ (x ∈ t ∧ x.ino ≠ n.ino) := by
  unfold withN
  rw [mem_withA]
  simp
theorem len_withA {n : Node} : ∀ {l : List Node} {b : Bool}, (withA n b l).length ≤ l.length + (if b then 0 else 1)
  | [], b => by cases b <;> simp [withA]
  | y :: r, b => by
    rw [withA]
    simp only [List.length_append, List.length_cons]
    have := len_withA (n := n) (l := r) (b := b || decide (n.ino ≤ y.ino))
    cases b with
    | true =>
      simp only [Bool.true_or, if_true] at this
      simp only [Bool.true_or, Bool.true_eq_false, false_and, if_false, List.length_nil, if_true]
      split <;> simp <;> omega
    | false =>
      by_cases h1 : n.ino ≤ y.ino
      · simp only [h1, decide_true, Bool.or_true, if_true] at this
        simp only [h1, decide_true, Bool.or_true, and_self, if_true, List.length_cons, List.length_nil, Bool.false_eq_true, if_false]
        split <;> simp <;> omega
      · simp only [h1, decide_false, Bool.or_false, Bool.false_eq_true, if_false] at this
        simp only [h1, decide_false, Bool.or_false, and_false, if_false, List.length_nil, Bool.false_eq_true]
        split <;> simp <;> omega
theorem len_withN {t : List Node} {n : Node} : (withN t n).length ≤ t.length + 1 := len_withA
theorem Small.mono {k m : Nat} {t : List Node} (h : Small k t) (hm : k ≤ m) : Small m t :=
  ⟨Nat.le_trans h.len hm, fun n hn => Nat.le_trans (h.nms n hn) hm, h.nam, fun n hn => ⟨by have := (h.lnk n hn).1; omega, by have := (h.lnk n hn).2; omega⟩, h.siz⟩
/-- A node that is not large. -/
structure SmallN (k : Nat) (n : Node) : Prop where
  nms : n.names.length ≤ k
  nam : ∀ e ∈ n.names, e.name.length ≤ 200
  lnk : -(k : Int) ≤ n.links ∧ n.links ≤ k
  siz : 0 ≤ n.size ∧ n.size ≤ 34304 ∧ n.data.length = n.size
theorem Small.node {k : Nat} {t : List Node} (h : Small k t) {n : Node} (hn : n ∈ t) : SmallN k n := ⟨h.nms n hn, h.nam n hn, h.lnk n hn, h.siz n hn⟩
theorem Small.get {k : Nat} {t : List Node} (h : Small k t) (ino : Int) : SmallN k (getN t ino) := ⟨h.gnms ino, h.gnam ino, h.glnk ino, h.gsiz ino⟩
theorem SmallN.mono {k m : Nat} {n : Node} (h : SmallN k n) (hm : k ≤ m) : SmallN m n := ⟨Nat.le_trans h.nms hm, h.nam, ⟨by have := h.lnk.1; omega, by have := h.lnk.2; omega⟩, h.siz⟩
theorem Small.with {k : Nat} {t : List Node} {n : Node} (h : Small k t) (hn : SmallN (k + 1) n) : Small (k + 1) (withN t n) := by
  have h' := h.mono (Nat.le_succ k)
  refine ⟨Nat.le_trans len_withN (by have := h.len; omega), ?_, ?_, ?_, ?_⟩ <;> intro x hx <;> rcases mem_withN.1 hx with rfl | ⟨h1, _⟩
  · exact hn.nms
  · exact h'.nms x h1
  · exact hn.nam
  · exact h'.nam x h1
  · exact hn.lnk
  · exact h'.lnk x h1
  · exact hn.siz
  · exact h'.siz x h1
theorem Small.filter {k : Nat} {t : List Node} {p : Node → Bool} (h : Small k t) : Small k (t.filter p) :=
  ⟨Nat.le_trans (List.length_filter_le _ _) h.len, fun n hn => h.nms n (List.mem_filter.1 hn).1, fun n hn => h.nam n (List.mem_filter.1 hn).1, fun n hn => h.lnk n (List.mem_filter.1 hn).1, fun n hn => h.siz n (List.mem_filter.1 hn).1⟩
theorem Small.drop {k : Nat} {t : List Node} {dir : Int} {s : List UInt8} (h : Small k t) : Small (k + 1) (dropN t dir s) := by
  have hg := (h.get dir).mono (Nat.le_succ k)
  exact h.with ⟨Nat.le_trans (List.length_filter_le _ _) hg.nms, fun e he => hg.nam e (List.mem_filter.1 he).1, hg.lnk, hg.siz⟩
theorem mem_putA {s : List UInt8} {ino : Int} {x : Ent} : ∀ {l : List Ent} {b : Bool}, x ∈ putA s ino b l ↔ (b = false ∧ x = ⟨s, ino⟩) ∨ x ∈ l
  | [], b => by cases b <;> simp [putA]
  | y :: r, b => by
    rw [putA]
    simp only [List.mem_append, mem_putA (l := r), List.mem_cons, List.not_mem_nil, or_false]
    cases b with
    | true => simp
    | false => cases h : lessS s y.name <;> grind
theorem len_putA {s : List UInt8} {ino : Int} : ∀ {l : List Ent} {b : Bool}, (putA s ino b l).length = l.length + (if b then 0 else 1)
  | [], b => by cases b <;> simp [putA]
  | y :: r, b => by
    rw [putA]
    simp only [List.length_append, List.length_cons, len_putA (l := r), List.length_nil]
    cases b with
    | true => simp; omega
    | false => cases h : lessS s y.name <;> simp <;> omega
theorem Small.put {k : Nat} {t : List Node} {dir ino : Int} {s : List UInt8} (h : Small k t) (hs : s.length ≤ 200) : Small (k + 1) (putN t dir s ino) := by
  have hg := (h.get dir)
  refine h.with ⟨?_, ?_, (hg.mono (Nat.le_succ k)).lnk, hg.siz⟩
  · show (putA s ino false _).length ≤ k + 1
    rw [len_putA]
    have := hg.nms
    simp only [Bool.false_eq_true, if_false]
    omega
  · intro e he
    rcases mem_putA.1 he with ⟨_, rfl⟩ | h1
    · exact hs
    · exact hg.nam e h1
theorem Small.loses {k : Nat} {t : List Node} {ino : Int} (h : Small k t) : Small (k + 1) (losesN t ino) := by
  unfold losesN
  have hg := (h.get ino)
  split
  · exact (h.filter).mono (Nat.le_succ k)
  · refine h.with ⟨Nat.le_succ_of_le hg.nms, hg.nam, ⟨?_, ?_⟩, hg.siz⟩
    · have := hg.lnk.1
      show -((k + 1 : Nat) : Int) ≤ (getN t ino).links - 1
      omega
    · have := hg.lnk.2
      show (getN t ino).links - 1 ≤ ((k + 1 : Nat) : Int)
      omega
theorem whereN_len (t : List Node) (s : List UInt8) : (whereN t s).2.1.length ≤ 24 := by
  unfold whereN
  by_cases h1 : (splitN s).2 ≠ 0
  · rw [if_pos h1]; simp
  · rw [if_neg h1]
    by_cases h2 : (splitN s).1.length = 0
    · rw [if_pos h2]; simp
    · rw [if_neg h2]
      split
      · simp
      · split
        · simp
        · show ((splitN s).1.getD _ _).length ≤ 24
          have hlt : (splitN s).1.length - 1 < (splitN s).1.length := by omega
          rw [List.getD_eq_getElem?_getD, List.getElem?_eq_getElem hlt]
          exact rightN_len (splitN_nam s _ (List.getElem_mem hlt))
end Go.Proofs.Ytghllhghboaagaa
end
/-! The document's model: Make, Link. -/
section
set_option linter.unusedVariables false
set_option linter.unusedSimpArgs false
set_option maxRecDepth 10000
namespace Go.Proofs.Ytghllhghboaagaa
open Go.Vm
theorem retQ_tc {P : Program} {T : List V} {S : Store} {t a u : Nat} {v w x : V} {d e : D} (hv : T.getD t (.tup []) = v) (ha : T.getD a (.tup []) = w) (hl : loadV P S u w = some x) (h1 : v.one = true) (h2 : x.one = true) (h3 : frz S frzFuel v = some d) (h4 : frz S frzFuel x = some e) : RetQ P #[.tmp t, .cell a u] (.ret (.tup [.d d, .d e])) .ret T S [] :=
  retQ_many (r1 := .tmp t) (r2 := .cell a u) (l := []) (vs := [v, x]) (ds := [d, e]) (by simp only [allO, resultV, hv, ha, hl]) (by simp [h1, h2]) (by simp only [allO, h3, h4])
theorem dr_with0 {ops : Array Oper} {F : Dfs} {Q : Post} {K : List Nat → List (Nat × Nat) → List V → Store → Prop} {rd : List Nat} {cs : List (Nat × Nat)} {i : Nat} {dst : Option Tmp} {T : List V} {S : Store} {t : List Node} {a b c d e : Int} (hl : t.length < 400000) :
    WpE cfg ops F Q K rd cs i dst T S (some (.enter 89 [.d (.sl (t.map encNode)), .agg [.d (.int .i64 a), .d (.int .i64 b), .d (.int .i64 c), .d (.int .i64 d), .d (.int .i64 e), .ts [], .ts []]])) = K (i :: rd) (cs ++ [(i, 1)]) (putT T dst (.d (.sl ((withN t ⟨a, b, c, d, e, [], []⟩).map encNode)))) S :=
  we_call_v (ds := [.sl (t.map encNode), encNode ⟨a, b, c, d, e, [], []⟩]) rfl rfl rfl (with_ok t _ hl)
theorem bd91 {n : Int} : buildV Try.prog 91 [(0, .d (.int .i64 n)), (1, .d (.int .i64 1)), (2, .d (.int .i64 1))] = some (.agg [.d (.int .i64 n), .d (.int .i64 1), .d (.int .i64 1), .d (.int .i64 0), .d (.int .i64 0), .ts [], .ts []]) := by kernel_rfl
theorem bd52_1 {e : Int} : buildV Try.prog 52 [(1, .d (.int .i64 e))] = some (.agg [.d (.int .i64 0), .d (.int .i64 e), .d (.int .i64 0), .d (.int .i64 0), .d (.int .i64 0), .ts [], .ts []]) := by kernel_rfl
theorem bd52_0 : buildV Try.prog 52 [] = some (.agg [.d (.int .i64 0), .d (.int .i64 0), .d (.int .i64 0), .d (.int .i64 0), .d (.int .i64 0), .ts [], .ts []]) := by kernel_rfl
def okN : Ans := ⟨0, 0, 0, 0, 0, [], []⟩
def makeNode (t : List Node) (o : Opn) : Node := if o.does = 2 then ⟨nextN t, 2, 1, (whereN t o.a).1, 0, [], []⟩ else ⟨nextN t, 1, 1, 0, 0, [], []⟩
def makeN (t : List Node) (o : Opn) : List Node × Ans :=
  if (whereN t o.a).2.2 ≠ 0 then (t, failN (whereN t o.a).2.2)
  else if 0 ≤ nameN (getN t (whereN t o.a).1).names (whereN t o.a).2.1 then (t, failN 5)
  else (putN (withN t (makeNode t o)) (whereN t o.a).1 (whereN t o.a).2.1 (nextN t), { okN with ino := nextN t })
theorem make_ok (t : List Node) (k0 : Nat) (hk0 : k0 < 200000) (hS : Small k0 t) (o : Opn) (ha : o.a.length < 1000000) : Ev cfg 47 [.sl (t.map encNode), encOpn o] (.ret (.tup [.d (.sl ((makeN t o).1.map encNode)), .d (encAns (makeN t o).2)])) := by
  refine ev_of rfl rfl body47 ?_
  show Wp cfg (Try.f47.body.getD .skip) ((.d (.sl (t.map encNode))) :: (.d (encOpn o)) :: (.tup []) :: (.tup []) :: (.tup []) :: (.tup []) :: (.tup []) :: (.tup []) :: (.tup []) :: (.tup []) :: (.tup []) :: (.tup []) :: (.tup []) :: (.tup []) :: (.tup []) :: (.tup []) :: (.tup []) :: (.tup []) :: (.tup []) :: (.tup []) :: (.tup []) :: (.tup []) :: (.tup []) :: (.tup []) :: (.tup []) :: (.tup []) :: (.tup []) :: (.tup []) :: (.tup []) :: (.tup []) :: (.tup []) :: (.tup []) :: (.tup []) :: (.tup []) :: (.tup []) :: (.tup []) :: (.tup []) :: (.tup []) :: (.tup []) :: (.tup []) :: (.tup []) :: (.tup []) :: (.tup []) :: (.tup []) :: (.tup []) :: (.tup []) :: (.tup []) :: (.tup []) :: (.tup []) :: (.tup []) :: (.tup []) :: []) [] [] _
  conv => arg 2; whnf
  have hk1 : k0 < 300000 := by omega
  have hlt : t.length < 400000 := Nat.lt_of_le_of_lt hS.len (by omega)
  have hlt' : t.length < 1000000 := by omega
  have hgn : (getN t (whereN t o.a).1).names.length < 1000000 := Nat.lt_of_le_of_lt (hS.gnms _) (by omega)
  by_cases h1 : (whereN t o.a).2.2 = 0
  · by_cases h2 : 0 ≤ nameN (getN t (whereN t o.a).1).names (whereN t o.a).2.1
    · have h2' : nameN (getN t (whereN t o.a).1).names (whereN t o.a).2.1 ≥ 0 := h2
      have e : makeN t o = (t, failN 5) := by unfold makeN; rw [if_neg (by simp [h1]), if_pos h2]
      simp (maxSteps := 1000000) (disch := first | assumption | omega | rfl) only [↓vmp, vme, vmb, ty, hP, dec_t, dec_f, wrap64, List.length_map, Int.toNat_natCast, Nat.reduceAdd, List.cons_append, List.nil_append, Option.map_some, Option.map_none, strOf_mk, sb_eql, sb_neq, vmg, call_where hS hk1, call_get, call_name, call_fail]
      rw [e]
      exact retQ_tc rfl rfl (x := .d (encAns (failN 5))) (by kernel_rfl) rfl rfl rfl rfl
    · have h2' : ¬ nameN (getN t (whereN t o.a).1).names (whereN t o.a).2.1 ≥ 0 := h2
      have e : makeN t o = (putN (withN t (makeNode t o)) (whereN t o.a).1 (whereN t o.a).2.1 (nextN t), { okN with ino := nextN t }) := by unfold makeN; rw [if_neg (by simp [h1]), if_neg h2]
      have hwn : (withN t (makeNode t o)).length < 400000 := Nat.lt_of_le_of_lt len_withN (by have := hS.len; omega)
      have hnl := whereN_len t o.a
      have hnl' : (whereN t o.a).2.1.length < 1000000 := by omega
      have hmk : SmallN (k0 + 1) (makeNode t o) := by unfold makeNode; split <;> exact ⟨Nat.zero_le _, fun e he => by simp at he, ⟨by simp; omega, by simp; omega⟩, by simp⟩
      have hS2 := hS.with hmk
      have hgn2 : (getN (withN t (makeNode t o)) (whereN t o.a).1).names.length < 400000 := Nat.lt_of_le_of_lt (hS2.gnms _) (by omega)
      have hgm2 : ∀ e ∈ (getN (withN t (makeNode t o)) (whereN t o.a).1).names, e.name.length < 1000000 := fun e he => Nat.lt_of_le_of_lt (hS2.gnam _ e he) (by omega)
      by_cases h3 : o.does = 2
      · have em : makeNode t o = ⟨nextN t, 2, 1, (whereN t o.a).1, 0, [], []⟩ := by unfold makeNode; rw [if_pos h3]
        rw [em] at hwn hgn2 hgm2 e
        simp (maxSteps := 1000000) (disch := first | assumption | omega | rfl) only [↓vmp, vme, vmb, ty, hP, dec_t, dec_f, wrap64, List.length_map, Int.toNat_natCast, Nat.reduceAdd, List.cons_append, List.nil_append, Option.map_some, Option.map_none, strOf_mk, sb_eql, sb_neq, vmg, call_where hS hk1, call_get, call_name, call_next, bd91]
        refine wk_draw (is := [0, 1, 3, 4, 5, 6, 8, 9, 10, 2, 7, 11, 12]) (h := 0) (by kernel_rfl) (by kernel_rfl) ?_
        simp (maxSteps := 1000000) (disch := first | assumption | omega | rfl) only [List.replicate_zero, eq_self, vmd, vmk, vmo, vmg, vme, vmb, ty, hP, dec_t, dec_f, wrap64, List.length_map, Int.toNat_natCast, Nat.reduceAdd, bd52_1, dr_with0, dr_put]
        refine ⟨fun _ => by kernel_rfl, ?_⟩
        refine ⟨by kernel_rfl, ?_⟩
        simp (maxSteps := 1000000) (disch := first | assumption | omega | rfl) only [↓vmp, vme, vmb, ty, hP, dec_t, dec_f, wrap64, List.length_map, Int.toNat_natCast, Nat.reduceAdd, List.cons_append, List.nil_append, Option.map_some, Option.map_none, strOf_mk, sb_eql, sb_neq, vmg]
        rw [e]
        exact retQ_tc rfl rfl (x := .agg [.d (.int .i64 0), .d (.int .i64 (nextN t)), .d (.int .i64 0), .d (.int .i64 0), .d (.int .i64 0), .ts [], .ts []]) (by kernel_rfl) rfl rfl rfl rfl
      · have em : makeNode t o = ⟨nextN t, 1, 1, 0, 0, [], []⟩ := by unfold makeNode; rw [if_neg h3]
        rw [em] at hwn hgn2 hgm2 e
        simp (maxSteps := 1000000) (disch := first | assumption | omega | rfl) only [↓vmp, vme, vmb, ty, hP, dec_t, dec_f, wrap64, List.length_map, Int.toNat_natCast, Nat.reduceAdd, List.cons_append, List.nil_append, Option.map_some, Option.map_none, strOf_mk, sb_eql, sb_neq, vmg, call_where hS hk1, call_get, call_name, call_next, bd91]
        refine wk_draw (is := [0, 1, 3, 4, 5, 6, 8, 9, 10, 2, 7, 11, 12]) (h := 0) (by kernel_rfl) (by kernel_rfl) ?_
        simp (maxSteps := 1000000) (disch := first | assumption | omega | rfl) only [List.replicate_zero, eq_self, vmd, vmk, vmo, vmg, vme, vmb, ty, hP, dec_t, dec_f, wrap64, List.length_map, Int.toNat_natCast, Nat.reduceAdd, bd52_1, dr_with0, dr_put]
        refine ⟨fun _ => by kernel_rfl, ?_⟩
        refine ⟨by kernel_rfl, ?_⟩
        simp (maxSteps := 1000000) (disch := first | assumption | omega | rfl) only [↓vmp, vme, vmb, ty, hP, dec_t, dec_f, wrap64, List.length_map, Int.toNat_natCast, Nat.reduceAdd, List.cons_append, List.nil_append, Option.map_some, Option.map_none, strOf_mk, sb_eql, sb_neq, vmg]
        rw [e]
        exact retQ_tc rfl rfl (x := .agg [.d (.int .i64 0), .d (.int .i64 (nextN t)), .d (.int .i64 0), .d (.int .i64 0), .d (.int .i64 0), .ts [], .ts []]) (by kernel_rfl) rfl rfl rfl rfl
  · have e : makeN t o = (t, failN (whereN t o.a).2.2) := by unfold makeN; rw [if_pos h1]
    simp (maxSteps := 1000000) (disch := first | assumption | omega | rfl) only [↓vmp, vme, vmb, ty, hP, dec_t, dec_f, wrap64, List.length_map, Int.toNat_natCast, Nat.reduceAdd, List.cons_append, List.nil_append, Option.map_some, Option.map_none, strOf_mk, sb_eql, sb_neq, vmg, call_where hS hk1, call_fail]
    rw [e]
    exact retQ_tc rfl rfl (x := .d (encAns (failN (whereN t o.a).2.2))) (by kernel_rfl) rfl rfl rfl rfl
end Go.Proofs.Ytghllhghboaagaa
end
/-! The document's model: Link, Remove. -/
section
set_option linter.unusedVariables false
set_option linter.unusedSimpArgs false
set_option maxRecDepth 10000
namespace Go.Proofs.Ytghllhghboaagaa
open Go.Vm
theorem call_make {ops : Array Oper} {dst : Option Tmp} {l : List Oper} {T : List V} {S : Store} {F : Dfs} {Q : Post} {t : List Node} {o : Opn} {k0 : Nat} (hS : Small k0 t) (hk0 : k0 < 200000) (ha : o.a.length < 1000000) :
    WpR cfg ops dst l T S F Q (some (.enter 47 [.d (.sl (t.map encNode)), .d (encOpn o)])) = WpL cfg ops l (putT T dst (.tup [.d (.sl ((makeN t o).1.map encNode)), .d (encAns (makeN t o).2)])) S F Q :=
  wr_call_d (ds := [.sl (t.map encNode), encOpn o]) rfl (make_ok t k0 hk0 hS o ha)
def more (n : Node) : Node := ⟨n.ino, n.kind, n.links + 1, n.parent, n.size, n.data, n.names⟩
def linkN (t : List Node) (o : Opn) : List Node × Ans :=
  if (resolveN t o.a).2 ≠ 0 then (t, failN (resolveN t o.a).2)
  else if (getN t (resolveN t o.a).1).kind = 2 then (t, failN 7)
  else if (whereN t o.b).2.2 ≠ 0 then (t, failN (whereN t o.b).2.2)
  else if 0 ≤ nameN (getN t (whereN t o.b).1).names (whereN t o.b).2.1 then (t, failN 5)
  else (putN (withN t (more (getN t (resolveN t o.a).1))) (whereN t o.b).1 (whereN t o.b).2.1 (resolveN t o.a).1, okN)
theorem link_ok (t : List Node) (k0 : Nat) (hk0 : k0 < 200000) (hS : Small k0 t) (o : Opn) (ha : o.a.length < 1000000) (hb : o.b.length < 1000000) : Ev cfg 48 [.sl (t.map encNode), encOpn o] (.ret (.tup [.d (.sl ((linkN t o).1.map encNode)), .d (encAns (linkN t o).2)])) := by
  refine ev_of rfl rfl body48 ?_
  show Wp cfg (Try.f48.body.getD .skip) ((.d (.sl (t.map encNode))) :: (.d (encOpn o)) :: (.tup []) :: (.tup []) :: (.tup []) :: (.tup []) :: (.tup []) :: (.tup []) :: (.tup []) :: (.tup []) :: (.tup []) :: (.tup []) :: (.tup []) :: (.tup []) :: (.tup []) :: (.tup []) :: (.tup []) :: (.tup []) :: (.tup []) :: (.tup []) :: (.tup []) :: (.tup []) :: (.tup []) :: (.tup []) :: (.tup []) :: (.tup []) :: (.tup []) :: (.tup []) :: (.tup []) :: (.tup []) :: (.tup []) :: (.tup []) :: (.tup []) :: (.tup []) :: (.tup []) :: (.tup []) :: (.tup []) :: (.tup []) :: (.tup []) :: (.tup []) :: (.tup []) :: (.tup []) :: (.tup []) :: (.tup []) :: (.tup []) :: (.tup []) :: (.tup []) :: (.tup []) :: (.tup []) :: (.tup []) :: (.tup []) :: (.tup []) :: (.tup []) :: (.tup []) :: (.tup []) :: (.tup []) :: (.tup []) :: (.tup []) :: (.tup []) :: (.tup []) :: (.tup []) :: (.tup []) :: (.tup []) :: (.tup []) :: (.tup []) :: []) [] [] _
  conv => arg 2; whnf
  have hk1 : k0 < 300000 := by omega
  have hlt : t.length < 400000 := Nat.lt_of_le_of_lt hS.len (by omega)
  have hlt' : t.length < 1000000 := by omega
  have hgn : (getN t (whereN t o.b).1).names.length < 1000000 := Nat.lt_of_le_of_lt (hS.gnms _) (by omega)
  by_cases h1 : (resolveN t o.a).2 = 0
  · by_cases h2 : (getN t (resolveN t o.a).1).kind = 2
    · have e : linkN t o = (t, failN 7) := by unfold linkN; rw [if_neg (by simp [h1]), if_pos h2]
      simp (maxSteps := 1000000) (disch := first | assumption | omega | rfl) only [↓vmp, vme, vmb, ty, hP, dec_t, dec_f, wrap64, List.length_map, Int.toNat_natCast, Nat.reduceAdd, List.cons_append, List.nil_append, Option.map_some, Option.map_none, strOf_mk, sb_eql, sb_neq, vmg, call_resolve hS hk1, call_get, call_fail]
      rw [e]
      exact retQ_tc rfl rfl (x := .d (encAns (failN 7))) (by kernel_rfl) rfl rfl rfl rfl
    · by_cases h3 : (whereN t o.b).2.2 = 0
      · by_cases h4 : 0 ≤ nameN (getN t (whereN t o.b).1).names (whereN t o.b).2.1
        · have h4' : nameN (getN t (whereN t o.b).1).names (whereN t o.b).2.1 ≥ 0 := h4
          have e : linkN t o = (t, failN 5) := by unfold linkN; rw [if_neg (by simp [h1]), if_neg h2, if_neg (by simp [h3]), if_pos h4]
          simp (maxSteps := 1000000) (disch := first | assumption | omega | rfl) only [↓vmp, vme, vmb, ty, hP, dec_t, dec_f, wrap64, List.length_map, Int.toNat_natCast, Nat.reduceAdd, List.cons_append, List.nil_append, Option.map_some, Option.map_none, strOf_mk, sb_eql, sb_neq, vmg, call_resolve hS hk1, call_where hS hk1, call_get, call_name, call_fail]
          rw [e]
          exact retQ_tc rfl rfl (x := .d (encAns (failN 5))) (by kernel_rfl) rfl rfl rfl rfl
        · have h4' : ¬ nameN (getN t (whereN t o.b).1).names (whereN t o.b).2.1 ≥ 0 := h4
          have e : linkN t o = (putN (withN t (more (getN t (resolveN t o.a).1))) (whereN t o.b).1 (whereN t o.b).2.1 (resolveN t o.a).1, okN) := by unfold linkN; rw [if_neg (by simp [h1]), if_neg h2, if_neg (by simp [h3]), if_neg h4]
          have hg := hS.get (resolveN t o.a).1
          have hmk : SmallN (k0 + 1) (more (getN t (resolveN t o.a).1)) := ⟨Nat.le_succ_of_le hg.nms, hg.nam, ⟨by have := hg.lnk.1; simp only [more]; omega, by have := hg.lnk.2; simp only [more]; omega⟩, hg.siz⟩
          have hS2 := hS.with hmk
          have hwn : (withN t (more (getN t (resolveN t o.a).1))).length < 400000 := Nat.lt_of_le_of_lt hS2.len (by omega)
          have hnl := whereN_len t o.b
          have hnl' : (whereN t o.b).2.1.length < 1000000 := by omega
          have hgn2 : (getN (withN t (more (getN t (resolveN t o.a).1))) (whereN t o.b).1).names.length < 400000 := Nat.lt_of_le_of_lt (hS2.gnms _) (by omega)
          have hgm2 : ∀ e ∈ (getN (withN t (more (getN t (resolveN t o.a).1))) (whereN t o.b).1).names, e.name.length < 1000000 := fun e he => Nat.lt_of_le_of_lt (hS2.gnam _ e he) (by omega)
          have hl1 := hg.lnk.1
          have hl2 := hg.lnk.2
          unfold more at hwn hgn2 hgm2 e
          simp (maxSteps := 1000000) (disch := first | assumption | omega | rfl) only [↓vmp, vme, vmb, ty, hP, dec_t, dec_f, wrap64, List.length_map, Int.toNat_natCast, Nat.reduceAdd, List.cons_append, List.nil_append, Option.map_some, Option.map_none, strOf_mk, sb_eql, sb_neq, vmg, call_resolve hS hk1, call_where hS hk1, call_get, call_name, call_withA, call_put, bd52_0]
          rw [e]
          exact retQ_tc rfl rfl (x := .agg [.d (.int .i64 0), .d (.int .i64 0), .d (.int .i64 0), .d (.int .i64 0), .d (.int .i64 0), .ts [], .ts []]) (by kernel_rfl) rfl rfl rfl rfl
      · have e : linkN t o = (t, failN (whereN t o.b).2.2) := by unfold linkN; rw [if_neg (by simp [h1]), if_neg h2, if_pos h3]
        simp (maxSteps := 1000000) (disch := first | assumption | omega | rfl) only [↓vmp, vme, vmb, ty, hP, dec_t, dec_f, wrap64, List.length_map, Int.toNat_natCast, Nat.reduceAdd, List.cons_append, List.nil_append, Option.map_some, Option.map_none, strOf_mk, sb_eql, sb_neq, vmg, call_resolve hS hk1, call_where hS hk1, call_get, call_fail]
        rw [e]
        exact retQ_tc rfl rfl (x := .d (encAns (failN (whereN t o.b).2.2))) (by kernel_rfl) rfl rfl rfl rfl
  · have e : linkN t o = (t, failN (resolveN t o.a).2) := by unfold linkN; rw [if_pos h1]
    simp (maxSteps := 1000000) (disch := first | assumption | omega | rfl) only [↓vmp, vme, vmb, ty, hP, dec_t, dec_f, wrap64, List.length_map, Int.toNat_natCast, Nat.reduceAdd, List.cons_append, List.nil_append, Option.map_some, Option.map_none, strOf_mk, sb_eql, sb_neq, vmg, call_resolve hS hk1, call_fail]
    rw [e]
    exact retQ_tc rfl rfl (x := .d (encAns (failN (resolveN t o.a).2))) (by kernel_rfl) rfl rfl rfl rfl
theorem call_link {ops : Array Oper} {dst : Option Tmp} {l : List Oper} {T : List V} {S : Store} {F : Dfs} {Q : Post} {t : List Node} {o : Opn} {k0 : Nat} (hS : Small k0 t) (hk0 : k0 < 200000) (ha : o.a.length < 1000000) (hb : o.b.length < 1000000) :
    WpR cfg ops dst l T S F Q (some (.enter 48 [.d (.sl (t.map encNode)), .d (encOpn o)])) = WpL cfg ops l (putT T dst (.tup [.d (.sl ((linkN t o).1.map encNode)), .d (encAns (linkN t o).2)])) S F Q :=
  wr_call_d (ds := [.sl (t.map encNode), encOpn o]) rfl (link_ok t k0 hk0 hS o ha hb)
end Go.Proofs.Ytghllhghboaagaa
end
