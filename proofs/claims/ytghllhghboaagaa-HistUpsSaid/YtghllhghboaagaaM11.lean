/- What the statement uses: Much, and the program's tree.Find. -/
import Derived.ProofKit
import Derived.Deep.Slices
import Derived.OpenShut
import Derived.Test.YtghllhghboaagaaM10
/-! What the statement uses: Much, and the program's tree.Find. -/
section
set_option linter.unusedVariables false
set_option linter.unusedSimpArgs false
set_option maxRecDepth 10000
set_option maxHeartbeats 4000000
namespace Go.Proofs.Ytghllhghboaagaa
open Go.Vm
theorem own_keep {S S' : Store} {v : V} {e : TypeId} {xs : List V} (h : OwnS S v e xs) (hk : ∀ (j : Nat) (o : Ob), S[j]? = some o → S'[j]? = some o) : OwnS S' v e xs := by
  rcases h with h | ⟨j, rfl, h1⟩
  · exact .inl h
  · exact .inr ⟨j, rfl, hk _ _ h1⟩
theorem own_not {S : Store} {v : V} {e : TypeId} {xs : List V} {j : Nat} (h : OwnS S v e xs) (hn : ∀ o, S[j]? = some o → ∀ xs e, o ≠ .row xs e) : NotAt v j := by
  rcases h with ⟨rfl, _⟩ | ⟨i, rfl, h1⟩
  · exact NotAt.ts
  · intro off l hh
    cases hh
    exact hn _ h1 _ _ rfl
def badO (o : Opn) : Bool := decide ((o.a.length : Int) > 300 ∨ (o.b.length : Int) > 300 ∨ (o.data.length : Int) > 1100)
theorem much_l (l : List Opn) (hl : l.length < 1000000) (R : Post) (S : Store) (g1 g4 : V) : ∀ (k i : Nat) (g6 g7 g8 g9 g10 g11 g12 g13 g14 g15 g16 g17 g18 g19 g20 g21 g22 g23 g24 g25 g26 g27 g28 g29 g30 g31 g32 g33 g34 g35 g36 g37 g38 g39 g40 : V), l.length - i = k → i ≤ l.length →
   (∀ i' g6 g7 g8 g9 g10 g11 g12 g13 g14 g15 g16 g17 g18 g19 g20 g21 g22 g23 g24 g25 g26 g27 g28 g29 g30 g31 g32 g33 g34 g35 g36 g37 g38 g39 g40, (l.drop i).any badO = false → R (.exit 0) ((.d (.sl (l.map encOpn))) :: g1 :: (.tup []) :: (.tup []) :: g4 :: i' :: g6 :: g7 :: g8 :: g9 :: g10 :: g11 :: g12 :: g13 :: g14 :: g15 :: g16 :: g17 :: g18 :: g19 :: g20 :: g21 :: g22 :: g23 :: g24 :: g25 :: g26 :: g27 :: g28 :: g29 :: g30 :: g31 :: g32 :: g33 :: g34 :: g35 :: g36 :: g37 :: g38 :: g39 :: g40 :: []) S []) →
   (∀ i' g6 g7 g8 g9 g10 g11 g12 g13 g14 g15 g16 g17 g18 g19 g20 g21 g22 g23 g24 g25 g26 g27 g28 g29 g30 g31 g32 g33 g34 g35 g36 g37 g38 g39 g40, (l.drop i).any badO = true → R .ret ((.d (.sl (l.map encOpn))) :: g1 :: (.tup []) :: (.tup []) :: (.d (.bool true)) :: i' :: g6 :: g7 :: g8 :: g9 :: g10 :: g11 :: g12 :: g13 :: g14 :: g15 :: g16 :: g17 :: g18 :: g19 :: g20 :: g21 :: g22 :: g23 :: g24 :: g25 :: g26 :: g27 :: g28 :: g29 :: g30 :: g31 :: g32 :: g33 :: g34 :: g35 :: g36 :: g37 :: g38 :: g39 :: g40 :: []) S []) →
   Wp cfg (.loop (lpOf (Try.f10.body.getD .skip) 0)) ((.d (.sl (l.map encOpn))) :: g1 :: (.tup []) :: (.tup []) :: g4 :: (.d (.int .i64 i)) :: g6 :: g7 :: g8 :: g9 :: g10 :: g11 :: g12 :: g13 :: g14 :: g15 :: g16 :: g17 :: g18 :: g19 :: g20 :: g21 :: g22 :: g23 :: g24 :: g25 :: g26 :: g27 :: g28 :: g29 :: g30 :: g31 :: g32 :: g33 :: g34 :: g35 :: g36 :: g37 :: g38 :: g39 :: g40 :: []) S [] R := by
  intro k
  induction k with
  | zero =>
    intro i g6 g7 g8 g9 g10 g11 g12 g13 g14 g15 g16 g17 g18 g19 g20 g21 g22 g23 g24 g25 g26 g27 g28 g29 g30 g31 g32 g33 g34 g35 g36 g37 g38 g39 g40 hk hi hE hR
    have hie : i = l.length := by omega
    rw [wk_of]
    refine wk_loop ?_
    conv => arg 2; whnf
    simp (maxSteps := 1000000) (disch := first | assumption | omega | rfl) only [↓vmp, vme, vmb, ty, hP, dec_t, dec_f, wrap64, List.length_map, Int.toNat_natCast, Nat.reduceAdd, List.cons_append, List.nil_append, Option.map_some, Option.map_none, strOf_mk, sb_eql, sb_neq, vmg, ↓vgd, ↓vst, ↓vix]
    exact hE _ _ _ _ _ _ _ _ _ _ _ _ _ _ _ _ _ _ _ _ _ _ _ _ _ _ _ _ _ _ _ _ _ _ _ _ (by rw [hie, List.drop_length]; rfl)
  | succ k ih =>
    intro i g6 g7 g8 g9 g10 g11 g12 g13 g14 g15 g16 g17 g18 g19 g20 g21 g22 g23 g24 g25 g26 g27 g28 g29 g30 g31 g32 g33 g34 g35 g36 g37 g38 g39 g40 hk hi hE hR
    have hlt : i < l.length := by omega
    have hdr : l.drop i = l[i] :: l.drop (i + 1) := List.drop_eq_getElem_cons hlt
    rw [hdr, List.any_cons] at hE hR
    rw [wk_of]
    refine wk_loop ?_
    conv => arg 2; whnf
    by_cases c1 : (l[i].a.length : Int) > 300
    · skip
      have hb : badO l[i] = true := decide_eq_true (.inl c1)
      simp (maxSteps := 1000000) (disch := first | assumption | omega | rfl) only [↓vmp, vme, vmb, ty, hP, dec_t, dec_f, wrap64, List.length_map, Int.toNat_natCast, Nat.reduceAdd, List.cons_append, List.nil_append, Option.map_some, Option.map_none, strOf_mk, sb_eql, sb_neq, vmg, ↓vgd, ↓vst, ↓vix, ldB, lenB]
      exact hR _ _ _ _ _ _ _ _ _ _ _ _ _ _ _ _ _ _ _ _ _ _ _ _ _ _ _ _ _ _ _ _ _ _ _ _ (by rw [hb]; rfl)
    · by_cases c2 : (l[i].b.length : Int) > 300
      · have hb : badO l[i] = true := decide_eq_true (.inr (.inl c2))
        simp (maxSteps := 1000000) (disch := first | assumption | omega | rfl) only [↓vmp, vme, vmb, ty, hP, dec_t, dec_f, wrap64, List.length_map, Int.toNat_natCast, Nat.reduceAdd, List.cons_append, List.nil_append, Option.map_some, Option.map_none, strOf_mk, sb_eql, sb_neq, vmg, ↓vgd, ↓vst, ↓vix, ldB, lenB]
        exact hR _ _ _ _ _ _ _ _ _ _ _ _ _ _ _ _ _ _ _ _ _ _ _ _ _ _ _ _ _ _ _ _ _ _ _ _ (by rw [hb]; rfl)
      · by_cases c3 : (l[i].data.length : Int) > 1100
        · have hb : badO l[i] = true := decide_eq_true (.inr (.inr c3))
          simp (maxSteps := 1000000) (disch := first | assumption | omega | rfl) only [↓vmp, vme, vmb, ty, hP, dec_t, dec_f, wrap64, List.length_map, Int.toNat_natCast, Nat.reduceAdd, List.cons_append, List.nil_append, Option.map_some, Option.map_none, strOf_mk, sb_eql, sb_neq, vmg, ↓vgd, ↓vst, ↓vix, ldB, lenB]
          exact hR _ _ _ _ _ _ _ _ _ _ _ _ _ _ _ _ _ _ _ _ _ _ _ _ _ _ _ _ _ _ _ _ _ _ _ _ (by rw [hb]; rfl)
        · have hb : badO l[i] = false := decide_eq_false (by omega)
          rw [hb, Bool.false_or] at hE hR
          simp (maxSteps := 1000000) (disch := first | assumption | omega | rfl) only [↓vmp, vme, vmb, ty, hP, dec_t, dec_f, wrap64, List.length_map, Int.toNat_natCast, Nat.reduceAdd, List.cons_append, List.nil_append, Option.map_some, Option.map_none, strOf_mk, sb_eql, sb_neq, vmg, ↓vgd, ↓vst, ↓vix, ldB, lenB]
          exact ih (i + 1) _ _ _ _ _ _ _ _ _ _ _ _ _ _ _ _ _ _ _ _ _ _ _ _ _ _ _ _ _ _ _ _ _ _ _ (by omega) (by omega) hE hR
def muchN (l : List Opn) (m : Int) : Bool := decide ((l.length : Int) > m) || l.any badO
theorem much_ok (l : List Opn) (m : Int) (hm : m ≤ 1000) : Ev cfg 10 [.sl (l.map encOpn), .int .i64 m] (.ret (.d (.bool (muchN l m)))) := by
  refine ev_of rfl rfl body10 ?_
  show Wp cfg (Try.f10.body.getD .skip) ((.d (.sl (l.map encOpn))) :: (.d (.int .i64 m)) :: (.tup []) :: (.tup []) :: (.tup []) :: (.tup []) :: (.tup []) :: (.tup []) :: (.tup []) :: (.tup []) :: (.tup []) :: (.tup []) :: (.tup []) :: (.tup []) :: (.tup []) :: (.tup []) :: (.tup []) :: (.tup []) :: (.tup []) :: (.tup []) :: (.tup []) :: (.tup []) :: (.tup []) :: (.tup []) :: (.tup []) :: (.tup []) :: (.tup []) :: (.tup []) :: (.tup []) :: (.tup []) :: (.tup []) :: (.tup []) :: (.tup []) :: (.tup []) :: (.tup []) :: (.tup []) :: (.tup []) :: (.tup []) :: (.tup []) :: (.tup []) :: (.tup []) :: []) [] [] _
  conv => arg 2; whnf
  unfold muchN
  by_cases c : (l.length : Int) > m
  · skip
    simp (maxSteps := 1000000) (disch := first | assumption | omega | rfl) only [↓vmp, vme, vmb, ty, hP, dec_t, dec_f, wrap64, List.length_map, Int.toNat_natCast, Nat.reduceAdd, List.cons_append, List.nil_append, Option.map_some, Option.map_none, strOf_mk, sb_eql, sb_neq, vmg, ↓vgd, ↓vst, ↓vix]
    exact retQ_one rfl rfl rfl
  · rw [decide_eq_false c, Bool.false_or]
    have hl : l.length < 1000000 := by omega
    simp (maxSteps := 1000000) (disch := first | assumption | omega | rfl) only [↓vmp, vme, vmb, ty, hP, dec_t, dec_f, wrap64, List.length_map, Int.toNat_natCast, Nat.reduceAdd, List.cons_append, List.nil_append, Option.map_some, Option.map_none, strOf_mk, sb_eql, sb_neq, vmg, ↓vgd, ↓vst, ↓vix]
    refine much_l l hl _ _ _ _ l.length 0 _ _ _ _ _ _ _ _ _ _ _ _ _ _ _ _ _ _ _ _ _ _ _ _ _ _ _ _ _ _ _ _ _ _ _ rfl (by omega) ?_ ?_
    · intro i' g6 g7 g8 g9 g10 g11 g12 g13 g14 g15 g16 g17 g18 g19 g20 g21 g22 g23 g24 g25 g26 g27 g28 g29 g30 g31 g32 g33 g34 g35 g36 g37 g38 g39 g40 h
      rw [List.drop_zero] at h
      simp (maxSteps := 1000000) (disch := first | assumption | omega | rfl) only [↓vmp, vme, vmb, ty, hP, dec_t, dec_f, wrap64, List.length_map, Int.toNat_natCast, Nat.reduceAdd, List.cons_append, List.nil_append, Option.map_some, Option.map_none, strOf_mk, sb_eql, sb_neq, vmg, ↓vgd, ↓vst, ↓vix]
      rw [h]
      exact retQ_one rfl rfl rfl
    · intro i' g6 g7 g8 g9 g10 g11 g12 g13 g14 g15 g16 g17 g18 g19 g20 g21 g22 g23 g24 g25 g26 g27 g28 g29 g30 g31 g32 g33 g34 g35 g36 g37 g38 g39 g40 h
      rw [List.drop_zero] at h
      simp (maxSteps := 1000000) (disch := first | assumption | omega | rfl) only [↓vmp, vme, vmb, ty, hP, dec_t, dec_f, wrap64, List.length_map, Int.toNat_natCast, Nat.reduceAdd, List.cons_append, List.nil_append, Option.map_some, Option.map_none, strOf_mk, sb_eql, sb_neq, vmg, ↓vgd, ↓vst, ↓vix]
      rw [h]
      exact retQ_one rfl rfl rfl
theorem call_much {ops : Array Oper} {dst : Option Tmp} {k : List Oper} {T : List V} {S : Store} {F : Dfs} {Q : Post} {l : List Opn} {m : Int} (hm : m ≤ 1000) :
    WpR cfg ops dst k T S F Q (some (.enter 10 [.d (.sl (l.map encOpn)), .d (.int .i64 m)])) = WpL cfg ops k (putT T dst (.d (.bool (muchN l m)))) S F Q :=
  wr_call_d (ds := [.sl (l.map encOpn), .int .i64 m]) rfl (much_ok l m hm)
theorem cells_rs {i o n : Nat} : (V.rs i o n).cells = [.rs i o n] := rfl
theorem bs0_29 {S : Store} {T : List V} {dst : Option Tmp} {ty : TypeId} {pos : String} {after : Array Edge} {g : Option (Nat × Bool)} : opV Try.prog S T ⟨dst, .buildSlice 29 0 #[], ty, pos, after, g⟩ = some (.val (.ts []) S 0) := by kernel_rfl
theorem bs0_30 {S : Store} {T : List V} {dst : Option Tmp} {ty : TypeId} {pos : String} {after : Array Edge} {g : Option (Nat × Bool)} : opV Try.prog S T ⟨dst, .buildSlice 30 0 #[], ty, pos, after, g⟩ = some (.val (.ts []) S 0) := by kernel_rfl
theorem apB {S : Store} {l : List UInt8} (h : l.length ≤ 1000000) : ∃ v' S' c, appendV Try.prog S 29 29 (.ts []) (.d (encB l)) = some (v', S', c) ∧ OwnS S' v' 5 (l.map fun b => .d (.int .u8 b.toNat)) ∧ (∀ j o, S[j]? = some o → S'[j]? = some o ∧ NotAt v' j) ∧ S.length ≤ S'.length := by
  obtain ⟨v', S', c, h1, h2, h3, h4⟩ := append_all (S := S) (xs := l.map fun b => D.int .u8 b.toNat) Try.underlying29 zOk29 szo29 (by simp only [List.mem_map]; rintro x ⟨b, _, rfl⟩; exact fits5 _) (by rw [List.length_map]; exact room29 h)
  exact ⟨v', S', c, h1, by simpa [List.map_map, Function.comp_def] using h2, h3, h4⟩
theorem apE {S : Store} {l : List Ent} (h : l.length ≤ 1000000) : ∃ v' S' c, appendV Try.prog S 30 30 (.ts []) (.d (.sl (l.map encEnt))) = some (v', S', c) ∧ OwnS S' v' 88 (l.map fun b => .d (encEnt b)) ∧ (∀ j o, S[j]? = some o → S'[j]? = some o ∧ NotAt v' j) ∧ S.length ≤ S'.length := by
  obtain ⟨v', S', c, h1, h2, h3, h4⟩ := append_all (S := S) (xs := l.map encEnt) Try.underlying30 zOk30 szo30 (by simp only [List.mem_map]; rintro x ⟨b, _, rfl⟩; exact fits88 _) (by rw [List.length_map]; exact room30 h)
  exact ⟨v', S', c, h1, by simpa [List.map_map, Function.comp_def] using h2, h3, h4⟩
/-- A node whose rows are of the store. -/
def nodeV (n : Node) (v1 v2 : V) : V := .agg [.d (.int .i64 n.ino), .d (.int .i64 n.kind), .d (.int .i64 n.links), .d (.int .i64 n.parent), .d (.int .i64 n.size), v1, v2]
theorem frz_node2 {k : Nat} {S : Store} {n : Node} {v1 v2 : V} (h1 : OwnS S v1 5 (n.data.map fun b => .d (.int .u8 b.toNat))) (h2 : OwnS S v2 88 (n.names.map fun x => .d (encEnt x))) :
    frz S (k + 3) (nodeV n v1 v2) = some (encNode n) := by
  have e1 : frz S (k + 2) v1 = some (encB n.data) := own_frzn (n := k) (own_map (enc := fun b : UInt8 => D.int .u8 b.toNat) h1)
  have e2 : frz S (k + 2) v2 = some (.sl (n.names.map encEnt)) := own_frzn (n := k) (own_map h2)
  show (match allO (frz S (k + 2)) [.d (.int .i64 n.ino), .d (.int .i64 n.kind), .d (.int .i64 n.links), .d (.int .i64 n.parent), .d (.int .i64 n.size), v1, v2] with | some ds => if ds.any D.isAgg then none else some (D.agg ds) | none => none) = _
  have h2 : ∀ x : D, frz S (k + 2) (.d x) = some x := fun _ => rfl
  simp only [allO, e1, e2, h2]
  rfl
/-- Is there a node of a number? -/
def hasN (t : List Node) (ino : Int) : Bool := (t.find? (fun n => decide (n.ino = ino))).isSome
theorem bd32_0 : buildV Try.prog 32 [] = some (.agg [.d (.int .i64 0), .d (.int .i64 0), .d (.int .i64 0), .d (.int .i64 0), .d (.int .i64 0), .ts [], .ts []]) := by kernel_rfl
theorem retQ_ct {P : Program} {T : List V} {S : Store} {t a u : Nat} {v w x : V} {d e : D} (hv : T.getD t (.tup []) = v) (ha : T.getD a (.tup []) = w) (hl : loadV P S u w = some x) (h1 : v.one = true) (h2 : x.one = true) (h3 : frz S frzFuel v = some d) (h4 : frz S frzFuel x = some e) : RetQ P #[.cell a u, .tmp t] (.ret (.tup [.d e, .d d])) .ret T S [] :=
  retQ_many (r1 := .cell a u) (r2 := .tmp t) (l := []) (vs := [x, v]) (ds := [e, d]) (by simp only [allO, resultV, hv, ha, hl]) (by simp [h1, h2]) (by simp only [allO, h3, h4])
theorem tfind_l (t : List Node) (ino : Int) (k0 : Nat) (hk0 : k0 < 300000) (hS : Small k0 t) (R : Post) (z : V) (hz : z = .agg [.d (.int .i64 0), .d (.int .i64 0), .d (.int .i64 0), .d (.int .i64 0), .d (.int .i64 0), .ts [], .ts []]) (g2 g3 g6 : V) : ∀ (k i : Nat) (S : Store) (v7 g11 g12 g13 g14 g15 g16 g17 g18 g19 g20 g21 g22 g23 g24 g25 g26 g27 g28 g29 g30 : V), t.length - i = k → i ≤ t.length → S[0]? = some (.row [z] 32) →
   (∀ S v7 i' g11 g12 g13 g14 g15 g16 g17 g18 g19 g20 g21 g22 g23 g24 g25 g26 g27 g28 g29 g30, (t.drop i).find? (fun n => decide (n.ino = ino)) = none → S[0]? = some (.row [z] 32) → R (.exit 0) ((.d (.sl (t.map encNode))) :: (.d (.int .i64 ino)) :: g2 :: g3 :: (.ref 0 0 0) :: (.d (.bool false)) :: g6 :: v7 :: (.d (.sl (t.map encNode))) :: (.d (.int .i64 t.length)) :: i' :: g11 :: g12 :: g13 :: g14 :: g15 :: g16 :: g17 :: g18 :: g19 :: g20 :: g21 :: g22 :: g23 :: g24 :: g25 :: g26 :: g27 :: g28 :: g29 :: g30 :: []) S []) →
   (∀ S v7 i' n v1 v2 g11 g12 g13 g14 g15 g16 g17 g18 g19 g20 g21 g22 g23 g24 g25 g26 g27 g28 g29 g30, (t.drop i).find? (fun n => decide (n.ino = ino)) = some n → S[0]? = some (.row [nodeV n v1 v2] 32) → OwnS S v1 5 (n.data.map fun b => .d (.int .u8 b.toNat)) → OwnS S v2 88 (n.names.map fun x => .d (encEnt x)) → R .ret ((.d (.sl (t.map encNode))) :: (.d (.int .i64 ino)) :: g2 :: g3 :: (.ref 0 0 0) :: (.d (.bool true)) :: g6 :: v7 :: (.d (.sl (t.map encNode))) :: (.d (.int .i64 t.length)) :: i' :: g11 :: g12 :: g13 :: g14 :: g15 :: g16 :: g17 :: g18 :: g19 :: g20 :: g21 :: g22 :: g23 :: g24 :: g25 :: g26 :: g27 :: g28 :: g29 :: g30 :: []) S []) →
   Wp cfg (.loop (lpOf (Try.f15.body.getD .skip) 0)) ((.d (.sl (t.map encNode))) :: (.d (.int .i64 ino)) :: g2 :: g3 :: (.ref 0 0 0) :: (.d (.bool false)) :: g6 :: v7 :: (.d (.sl (t.map encNode))) :: (.d (.int .i64 t.length)) :: (.d (.int .i64 i)) :: g11 :: g12 :: g13 :: g14 :: g15 :: g16 :: g17 :: g18 :: g19 :: g20 :: g21 :: g22 :: g23 :: g24 :: g25 :: g26 :: g27 :: g28 :: g29 :: g30 :: []) S [] R := by
  subst hz
  have hlt0 : t.length < 400000 := Nat.lt_of_le_of_lt hS.len (by omega)
  intro k
  induction k with
  | zero =>
    intro i S v7 g11 g12 g13 g14 g15 g16 g17 g18 g19 g20 g21 g22 g23 g24 g25 g26 g27 g28 g29 g30 hk hi hb hE hR
    have hie : i = t.length := by omega
    rw [wk_of]
    refine wk_loop ?_
    conv => arg 2; whnf
    simp (maxSteps := 1000000) (disch := first | assumption | omega | rfl) only [↓vmp, vme, vmb, ty, hP, dec_t, dec_f, wrap64, List.length_map, Int.toNat_natCast, Nat.reduceAdd, List.cons_append, List.nil_append, Option.map_some, Option.map_none, strOf_mk, sb_eql, sb_neq, vmg, ↓vgd, ↓vst, ↓vix]
    exact hE _ _ _ _ _ _ _ _ _ _ _ _ _ _ _ _ _ _ _ _ _ _ _ (by rw [hie, List.drop_length]; rfl) hb
  | succ k ih =>
    intro i S v7 g11 g12 g13 g14 g15 g16 g17 g18 g19 g20 g21 g22 g23 g24 g25 g26 g27 g28 g29 g30 hk hi hb hE hR
    have hlt : i < t.length := by omega
    have hdr : t.drop i = t[i] :: t.drop (i + 1) := List.drop_eq_getElem_cons hlt
    rw [hdr, List.find?_cons] at hE hR
    have hmem := List.getElem_mem hlt
    have h0 : 0 < S.length := getLen hb
    have hb1 : ∀ x : Ob, (S ++ [x])[0]? = some (.row [.agg [.d (.int .i64 0), .d (.int .i64 0), .d (.int .i64 0), .d (.int .i64 0), .d (.int .i64 0), .ts [], .ts []]] 32) := fun x => by rw [List.getElem?_append_left h0]; exact hb
    rw [wk_of]
    refine wk_loop ?_
    conv => arg 2; whnf
    by_cases hc : t[i].ino = ino
    · simp only [hc, decide_true] at hR
      have hd := hS.siz _ hmem
      have hn := hS.nms _ hmem
      generalize hN : t[i] = n at *
      obtain ⟨v1, S1, c1, ha1, ho1, hf1, hl1⟩ := apB (S := S ++ [.row [.d (encNode n)] 32]) (l := n.data) (by omega)
      have hbS : (S ++ [.row [.d (encNode n)] 32])[S.length]? = some (.row [.d (encNode n)] 32) := by simp
      have hb2 : S1[S.length]? = some (.row [.d (encNode n)] 32) := (hf1 S.length _ hbS).1
      have hr2 := rowE_of hb2
      have hst1 := sr32_5 (a := n) (v := v1) (own_fits ho1 (by kernel_rfl) (by kernel_rfl)) (own_cells ho1)
      have hpr1 := fun y => putRow_of (y := y) hb2
      have hb3 : ∀ y : V, (S1.set S.length (.row [y] 32))[S.length]? = some (.row [y] 32) := fun y => set_at hb2
      have hr3 : ∀ y, rowE (S1.set S.length (.row [y] 32)) S.length 0 = some y := fun y => rowE_of (hb3 y)
      obtain ⟨v2, S2, c2, ha2, ho2, hf2, hl2⟩ := apE (S := S1.set S.length (.row [nodeV n v1 (.d (.sl (n.names.map encEnt)))] 32)) (l := n.names) (by omega)
      have hb4 : S2[S.length]? = some (.row [nodeV n v1 (.d (.sl (n.names.map encEnt)))] 32) := (hf2 S.length _ (hb3 _)).1
      have hr4 := rowE_of hb4
      have hst2 := fun (x0 x1 x2 x3 x4 x5 x6 : V) => sra32_6 (x0 := x0) (x1 := x1) (x2 := x2) (x3 := x3) (x4 := x4) (x5 := x5) (x6 := x6) (v := v2) (own_fits ho2 (by kernel_rfl) (by kernel_rfl)) (own_cells ho2)
      have hpr2 := fun y => putRow_of (y := y) hb4
      have hr5 : ∀ y, rowE (S2.set S.length (.row [y] 32)) S.length 0 = some y := fun y => rowE_of (set_at hb4)
      have k0' : ∀ o, (S ++ [.row [.d (encNode n)] 32])[0]? = some o → o = .row [.agg [.d (.int .i64 0), .d (.int .i64 0), .d (.int .i64 0), .d (.int .i64 0), .d (.int .i64 0), .ts [], .ts []]] 32 := fun o ho => by rw [hb1] at ho; exact (Option.some.inj ho).symm
      have hz1 : S1[0]? = some (.row [.agg [.d (.int .i64 0), .d (.int .i64 0), .d (.int .i64 0), .d (.int .i64 0), .d (.int .i64 0), .ts [], .ts []]] 32) := (hf1 0 _ (hb1 _)).1
      have hne : S.length ≠ 0 := by omega
      have hz2 : (S1.set S.length (.row [nodeV n v1 (.d (.sl (n.names.map encEnt)))] 32))[0]? = some (.row [.agg [.d (.int .i64 0), .d (.int .i64 0), .d (.int .i64 0), .d (.int .i64 0), .d (.int .i64 0), .ts [], .ts []]] 32) := by rw [List.getElem?_set_ne hne]; exact hz1
      have hz3 : S2[0]? = some (.row [.agg [.d (.int .i64 0), .d (.int .i64 0), .d (.int .i64 0), .d (.int .i64 0), .d (.int .i64 0), .ts [], .ts []]] 32) := (hf2 0 _ hz2).1
      have hz4 : ∀ y, (S2.set S.length (.row [y] 32))[0]? = some (.row [.agg [.d (.int .i64 0), .d (.int .i64 0), .d (.int .i64 0), .d (.int .i64 0), .d (.int .i64 0), .ts [], .ts []]] 32) := fun y => by rw [List.getElem?_set_ne hne]; exact hz3
      have hr6 : ∀ y, rowE (S2.set S.length (.row [y] 32)) 0 0 = some (.agg [.d (.int .i64 0), .d (.int .i64 0), .d (.int .i64 0), .d (.int .i64 0), .d (.int .i64 0), .ts [], .ts []]) := fun y => rowE_of (hz4 y)
      have hpr3 := fun y x => putRow_of (y := y) (hz4 x)
      unfold nodeV at ha2 hr4 hpr2
      simp (maxSteps := 1000000) (disch := first | assumption | omega | rfl) only [↓vmp, vme, vmb, ty, hP, dec_t, dec_f, wrap64, List.length_map, Int.toNat_natCast, Nat.reduceAdd, List.cons_append, List.nil_append, Option.map_some, Option.map_none, strOf_mk, sb_eql, sb_neq, vmg, ↓vgd, ↓vst, ↓vix, ↓vbs, hN, rowE_app, putRow_app, bs0_29, bs0_30, ha1, hr2, hst1, hpr1, hr3, ha2, hr4, hst2, hpr2, hr5, hr6, hpr3]
      exact hR _ _ _ n v1 v2 _ _ _ _ _ _ _ _ _ _ _ _ _ _ _ _ _ _ _ _ rfl (set_at (hz4 _))
        (own_set (own_set (own_keep (own_set ho1 (hf1 S.length _ hbS).2) (fun j o hj => (hf2 j o hj).1)) (hf1 S.length _ hbS).2) (hf1 0 _ (hb1 _)).2)
        (own_set (own_set ho2 (hf2 S.length _ (hb3 _)).2) (hf2 0 _ hz2).2)
    · simp only [hc, decide_false] at hE hR
      simp (maxSteps := 1000000) (disch := first | assumption | omega | rfl) only [↓vmp, vme, vmb, ty, hP, dec_t, dec_f, wrap64, List.length_map, Int.toNat_natCast, Nat.reduceAdd, List.cons_append, List.nil_append, Option.map_some, Option.map_none, strOf_mk, sb_eql, sb_neq, vmg, ↓vgd, ↓vst, ↓vix, rowE_app, putRow_app]
      exact ih (i + 1) _ _ _ _ _ _ _ _ _ _ _ _ _ _ _ _ _ _ _ _ _ _ (by omega) (by omega) (hb1 _) hE hR
theorem tfind_ok (t : List Node) (ino : Int) (k0 : Nat) (hk0 : k0 < 300000) (hS : Small k0 t) : Ev cfg 15 [.sl (t.map encNode), .int .i64 ino] (.ret (.tup [.d (encNode (getN t ino)), .d (.bool (hasN t ino))])) := by
  refine ev_of rfl rfl body15 ?_
  show Wp cfg (Try.f15.body.getD .skip) ((.d (.sl (t.map encNode))) :: (.d (.int .i64 ino)) :: (.tup []) :: (.tup []) :: (.tup []) :: (.tup []) :: (.tup []) :: (.tup []) :: (.tup []) :: (.tup []) :: (.tup []) :: (.tup []) :: (.tup []) :: (.tup []) :: (.tup []) :: (.tup []) :: (.tup []) :: (.tup []) :: (.tup []) :: (.tup []) :: (.tup []) :: (.tup []) :: (.tup []) :: (.tup []) :: (.tup []) :: (.tup []) :: (.tup []) :: (.tup []) :: (.tup []) :: (.tup []) :: (.tup []) :: []) [] [] _
  conv => arg 2; whnf
  simp (maxSteps := 1000000) (disch := first | assumption | omega | rfl) only [↓vmp, vme, vmb, ty, hP, dec_t, dec_f, wrap64, List.length_map, Int.toNat_natCast, Nat.reduceAdd, List.cons_append, List.nil_append, Option.map_some, Option.map_none, strOf_mk, sb_eql, sb_neq, vmg, ↓vgd, ↓vst, ↓vix]
  refine tfind_l t ino k0 hk0 hS _ _ rfl _ _ _ t.length 0 _ _ _ _ _ _ _ _ _ _ _ _ _ _ _ _ _ _ _ _ _ _ rfl (by omega) rfl ?_ ?_
  · intro S v7 i' g11 g12 g13 g14 g15 g16 g17 g18 g19 g20 g21 g22 g23 g24 g25 g26 g27 g28 g29 g30 h hb
    rw [List.drop_zero] at h
    have hr := rowE_of hb
    have hpr := fun y => putRow_of (y := y) hb
    simp (maxSteps := 1000000) (disch := first | assumption | omega | rfl) only [↓vmp, vme, vmb, ty, hP, dec_t, dec_f, wrap64, List.length_map, Int.toNat_natCast, Nat.reduceAdd, List.cons_append, List.nil_append, Option.map_some, Option.map_none, strOf_mk, sb_eql, sb_neq, vmg, ↓vgd, ↓vst, ↓vix, bd32_0, hr, hpr]
    simp only [getN, hasN, h, Option.getD_none, Option.isSome_none]
    have hld : loadV Try.prog (S.set 0 (.row [.agg [.d (.int .i64 0), .d (.int .i64 0), .d (.int .i64 0), .d (.int .i64 0), .d (.int .i64 0), .ts [], .ts []]] 32)) 32 (.ref 0 0 0) = some (.agg [.d (.int .i64 0), .d (.int .i64 0), .d (.int .i64 0), .d (.int .i64 0), .d (.int .i64 0), .ts [], .ts []]) := by rw [loadV_row (rowE_of (set_at hb))]; kernel_rfl
    exact retQ_ct rfl rfl hld rfl rfl rfl rfl
  · intro S v7 i' n v1 v2 g11 g12 g13 g14 g15 g16 g17 g18 g19 g20 g21 g22 g23 g24 g25 g26 g27 g28 g29 g30 h hb h1 h2
    rw [List.drop_zero] at h
    simp (maxSteps := 1000000) (disch := first | assumption | omega | rfl) only [↓vmp, vme, vmb, ty, hP, dec_t, dec_f, wrap64, List.length_map, Int.toNat_natCast, Nat.reduceAdd, List.cons_append, List.nil_append, Option.map_some, Option.map_none, strOf_mk, sb_eql, sb_neq, vmg, ↓vgd, ↓vst, ↓vix]
    simp only [getN, hasN, h, Option.getD_some, Option.isSome_some]
    have hld : loadV Try.prog S 32 (.ref 0 0 0) = some (nodeV n v1 v2) := by rw [loadV_row (rowE_of hb)]; kernel_rfl
    exact retQ_ct rfl rfl hld rfl rfl rfl (frz_node2 (k := 9) h1 h2)
theorem call_tfind {ops : Array Oper} {dst : Option Tmp} {k : List Oper} {T : List V} {S : Store} {F : Dfs} {Q : Post} {t : List Node} {ino : Int} {k0 : Nat} (hS : Small k0 t) (hk0 : k0 < 300000) :
    WpR cfg ops dst k T S F Q (some (.enter 15 [.d (.sl (t.map encNode)), .d (.int .i64 ino)])) = WpL cfg ops k (putT T dst (.tup [.d (encNode (getN t ino)), .d (.bool (hasN t ino))])) S F Q :=
  wr_call_d (ds := [.sl (t.map encNode), .int .i64 ino]) rfl (tfind_ok t ino k0 hk0 hS)
end Go.Proofs.Ytghllhghboaagaa
end
/-! A tree as the program has it: escheatlaw25.To. -/
section
set_option linter.unusedVariables false
set_option linter.unusedSimpArgs false
set_option maxRecDepth 10000
set_option maxHeartbeats 4000000
namespace Go.Proofs.Ytghllhghboaagaa
open Go.Vm
/-- The rows of two slices are two. -/
def Sep (w v : V) : Prop := ∀ j off l, v = .rs j off l → NotAt w j
theorem own_sep {S : Store} {w v : V} {e : TypeId} {xs : List V} (h : OwnS S w e xs) (hn : ∀ (j : Nat) (o : Ob), S[j]? = some o → NotAt v j) : Sep w v := by
  intro j off l hv off' l' hw
  rcases h with ⟨rfl, _⟩ | ⟨i, rfl, h1⟩
  · cases hw
  · cases hw
    exact hn _ _ h1 _ _ hv
def Frame (S : Store) (w : V) (S' : Store) (w' : V) : Prop := ∀ (j : Nat) (o : Ob), S[j]? = some o → NotAt w j → S'[j]? = some o ∧ NotAt w' j
theorem own_frame {S S' : Store} {w w' v : V} {e : TypeId} {xs : List V} (h : OwnS S v e xs) (hs : Sep w v) (hf : Frame S w S' w') : OwnS S' v e xs ∧ Sep w' v := by
  rcases h with ⟨rfl, rfl⟩ | ⟨i, rfl, h1⟩
  · exact ⟨.inl ⟨rfl, rfl⟩, fun j off l hv => by cases hv⟩
  · obtain ⟨h2, h3⟩ := hf i _ h1 (hs i _ _ rfl)
    exact ⟨.inr ⟨i, rfl, h2⟩, fun j off l hv => by cases hv; exact h3⟩
def NodeV (S : Store) (w : V) (n : Node) (u : V) : Prop := u = .d (encNode n) ∨ ∃ v1 v2, u = nodeV n v1 v2 ∧ OwnS S v1 5 (n.data.map fun b => .d (.int .u8 b.toNat)) ∧ OwnS S v2 88 (n.names.map fun x => .d (encEnt x)) ∧ Sep w v1 ∧ Sep w v2
theorem NodeV.keep {S S' : Store} {w : V} {n : Node} {u : V} (h : NodeV S w n u) (hk : ∀ (j : Nat) (o : Ob), S[j]? = some o → S'[j]? = some o) : NodeV S' w n u := by
  rcases h with h | ⟨v1, v2, h0, h1, h2, h3, h4⟩
  · exact .inl h
  · exact .inr ⟨v1, v2, h0, own_keep h1 hk, own_keep h2 hk, h3, h4⟩
theorem NodeV.frame {S S' : Store} {w w' : V} {n : Node} {u : V} (h : NodeV S w n u) (hf : Frame S w S' w') : NodeV S' w' n u := by
  rcases h with h | ⟨v1, v2, h0, h1, h2, h3, h4⟩
  · exact .inl h
  · exact .inr ⟨v1, v2, h0, (own_frame h1 h3 hf).1, (own_frame h2 h4 hf).1, (own_frame h1 h3 hf).2, (own_frame h2 h4 hf).2⟩
theorem NodeV.frz {S : Store} {w : V} {n : Node} {u : V} (h : NodeV S w n u) : frz S 11 u = some (encNode n) := by
  rcases h with rfl | ⟨v1, v2, rfl, h1, h2, _, _⟩
  · rfl
  · exact frz_node2 (k := 8) h1 h2
def AllN (S : Store) (w : V) : List Node → List V → Prop
  | [], [] => True
  | n :: ns, u :: us => NodeV S w n u ∧ AllN S w ns us
  | _, _ => False
theorem AllN.keep {S S' : Store} {w : V} (hk : ∀ (j : Nat) (o : Ob), S[j]? = some o → S'[j]? = some o) : ∀ {ns : List Node} {us : List V}, AllN S w ns us → AllN S' w ns us
  | [], [], _ => trivial
  | n :: ns, u :: us, h => ⟨h.1.keep hk, AllN.keep hk h.2⟩
theorem AllN.frame {S S' : Store} {w w' : V} (hf : Frame S w S' w') : ∀ {ns : List Node} {us : List V}, AllN S w ns us → AllN S' w' ns us
  | [], [], _ => trivial
  | n :: ns, u :: us, h => ⟨h.1.frame hf, AllN.frame hf h.2⟩
theorem AllN.snoc {S : Store} {w : V} {n : Node} {u : V} (hn : NodeV S w n u) : ∀ {ns : List Node} {us : List V}, AllN S w ns us → AllN S w (ns ++ [n]) (us ++ [u])
  | [], [], _ => ⟨hn, trivial⟩
  | m :: ns, v :: us, h => ⟨h.1, AllN.snoc hn h.2⟩
theorem AllN.len {S : Store} {w : V} : ∀ {ns : List Node} {us : List V}, AllN S w ns us → us.length = ns.length
  | [], [], _ => rfl
  | m :: ns, v :: us, h => by simp [AllN.len h.2]
theorem AllN.frz {S : Store} {w : V} : ∀ {ns : List Node} {us : List V}, AllN S w ns us → allO (frz S 11) us = some (ns.map encNode)
  | [], [], _ => rfl
  | m :: ns, v :: us, h => by simp only [allO, h.1.frz, AllN.frz h.2, List.map_cons]
theorem own_frzV {S : Store} {v : V} {e : TypeId} {us : List V} {ds : List D} (h : OwnS S v e us) (ha : allO (frz S 11) us = some ds) : frz S frzFuel v = some (.sl ds) := by
  rcases h with ⟨rfl, rfl⟩ | ⟨id, rfl, h1⟩
  · simp only [allO, Option.some.injEq] at ha
    subst ha; rfl
  · show (match S[id]? with
      | some (.row xs e) => if 0 + us.length ≤ xs.length && (allO (Go.Vm.frz S 11) xs).isSome then (allO (Go.Vm.frz S 11) ((xs.drop 0).take us.length)).map D.sl else none
      | some (.fz xs e) => if 0 + us.length ≤ xs.length then some (D.sl ((xs.drop 0).take us.length)) else none
      | _ => none) = _
    have h2 : (us.drop 0).take us.length = us := by rw [List.drop_zero, List.take_of_length_le (Nat.le_refl _)]
    simp only [h1, h2, ha, Option.isSome_some, Bool.and_true, Option.map_some]
    simp
theorem append_src {P : Program} {S : Store} {t e : TypeId} {v w u : V} {xs : List V} (hu : P.underlying t = some (.slice e)) (hz : zOk P e = true) (hsrc : srcV P S e t w = some [u]) (ho : OwnS S v e xs) (hr : room P e (xs.length + 1) = true) :
    ∃ v' S' c, appendV P S t t v w = some (v', S', c) ∧ OwnS S' v' e (xs ++ [u]) ∧ Frame S v S' v' := by
  rcases ho with ⟨rfl, rfl⟩ | ⟨id, rfl, h1⟩
  · refine ⟨.rs S.length 0 1, S ++ [.row [u] e], 2, ?_, .inr ⟨S.length, rfl, by simp⟩, fun j o hj _ => ⟨?_, ?_⟩⟩
    · simp only [appendV, hu, hsrc, hz, if_true]
      have hr1 : room P e 1 = true := by simpa using hr
      simp [hr1]
    · rw [List.getElem?_append_left (getLen hj)]; exact hj
    · intro off l h
      have := getLen hj
      cases h; omega
  · refine ⟨.rs S.length 0 (xs.length + 1), S.set id .dead ++ [.row (xs ++ [u]) e], 3, ?_, .inr ⟨S.length, by simp, by simp⟩, fun j o hj hn => ⟨?_, ?_⟩⟩
    · simp only [appendV, hu, hsrc, hz, if_true, h1]
      simp [hr]
    · have hj' := getLen hj
      rw [List.getElem?_append_left (by simpa using hj'), List.getElem?_set_ne]
      · exact hj
      · rintro rfl; exact hn 0 _ rfl
    · intro off l h
      have := getLen hj
      cases h; omega
theorem bs_nil {S : Store} {a b c d e : Int} : bs1 Try.prog S 25 (.agg [.d (.int .i64 a), .d (.int .i64 b), .d (.int .i64 c), .d (.int .i64 d), .d (.int .i64 e), .ts [], .ts []]) = some (.val (.ts [.agg [.int .i64 a, .int .i64 b, .int .i64 c, .int .i64 d, .int .i64 e, .sl [], .sl []]]) S 0) := by kernel_rfl
theorem bs_node {S : Store} {n : Node} {v1 v2 : V} {e1 e2 : TypeId} (h1 : OwnS S v1 e1 (n.data.map fun b => .d (.int .u8 b.toNat))) (h2 : OwnS S v2 e2 (n.names.map fun x => .d (encEnt x))) :
    ∃ w S' c u, bs1 Try.prog S 25 (nodeV n v1 v2) = some (.val w S' c) ∧ srcV Try.prog S' 32 25 w = some [u] ∧ (u = nodeV n v1 v2 ∨ u = .d (encNode n)) ∧ (∀ (j : Nat) (o : Ob), S[j]? = some o → S'[j]? = some o) := by
  have app : ∀ x : Ob, ∀ (j : Nat) (o : Ob), S[j]? = some o → (S ++ [x])[j]? = some o := fun x j o hj => by rw [List.getElem?_append_left (getLen hj)]; exact hj
  have src : ∀ {x : V}, fitsT Try.prog 32 x = true → srcV Try.prog (S ++ [.row [x] 32]) 32 25 (.rs S.length 0 1) = some [x] := fun {x} hx => by
    have e1 : elemsV (S ++ [.row [x] 32]) (.rs S.length 0 1) = some [x] := by simp [elemsV]
    simp only [srcV, Try.underlying25, e1, List.all_cons, List.all_nil, hx, szo25, Bool.and_self, if_true]
  rcases h1 with ⟨rfl, hd⟩ | ⟨i, rfl, hi⟩
  · rcases h2 with ⟨rfl, hn⟩ | ⟨j, rfl, hj⟩
    · refine ⟨.ts [encNode n], S, 0, .d (encNode n), ?_, ?_, .inr rfl, fun j o hj => hj⟩
      · have d0 : n.data = [] := by simpa using hd
        have n0 : n.names = [] := by simpa using hn
        have : encNode n = .agg [.int .i64 n.ino, .int .i64 n.kind, .int .i64 n.links, .int .i64 n.parent, .int .i64 n.size, .sl [], .sl []] := by unfold encNode encB; rw [d0, n0]; rfl
        rw [this]
        exact bs_nil
      · have e1 : elemsV S (.ts [encNode n]) = some [.d (encNode n)] := rfl
        simp only [srcV, Try.underlying25, e1, List.all_cons, List.all_nil, fitsT32, szo25, Bool.and_self, if_true]
    · exact ⟨.rs S.length 0 1, S ++ [.row [nodeV n (.ts []) (.rs j 0 (n.names.map fun x => V.d (encEnt x)).length)] 32], 2, _, by unfold nodeV; kernel_rfl, src (by unfold nodeV; exact ffa32), .inl rfl, app _⟩
  · rcases h2 with ⟨rfl, hn⟩ | ⟨j, rfl, hj⟩
    · exact ⟨.rs S.length 0 1, S ++ [.row [nodeV n (.rs i 0 (n.data.map fun b => V.d (D.int .u8 b.toNat)).length) (.ts [])] 32], 2, _, by unfold nodeV; kernel_rfl, src (by unfold nodeV; exact ffa32), .inl rfl, app _⟩
    · exact ⟨.rs S.length 0 1, S ++ [.row [nodeV n (.rs i 0 (n.data.map fun b => V.d (D.int .u8 b.toNat)).length) (.rs j 0 (n.names.map fun x => V.d (encEnt x)).length)] 32], 2, _, by unfold nodeV; kernel_rfl, src (by unfold nodeV; exact ffa32), .inl rfl, app _⟩
theorem to_l (t : List Node) (k0 : Nat) (hk0 : k0 < 300000) (hS : Small k0 t) (R : Post) (g1 g2 : V) : ∀ (k i : Nat) (us : List V) (S : Store) (v3 g5 g6 g7 g8 g9 g10 g11 g12 g13 g14 g15 g16 g17 g18 g19 g20 g21 g22 g23 g24 g25 g26 g27 g28 g29 g30 : V), t.length - i = k → i ≤ t.length → OwnS S v3 32 us → AllN S v3 (t.take i) us →
   (∀ S v3 us i' g5 g6 g7 g8 g9 g10 g11 g12 g13 g14 g15 g16 g17 g18 g19 g20 g21 g22 g23 g24 g25 g26 g27 g28 g29 g30, OwnS S v3 32 us → AllN S v3 t us → R (.exit 0) ((.d (.sl (t.map encNode))) :: g1 :: g2 :: v3 :: i' :: g5 :: g6 :: g7 :: g8 :: g9 :: g10 :: g11 :: g12 :: g13 :: g14 :: g15 :: g16 :: g17 :: g18 :: g19 :: g20 :: g21 :: g22 :: g23 :: g24 :: g25 :: g26 :: g27 :: g28 :: g29 :: g30 :: []) S []) →
   Wp cfg (.loop (lpOf (Try.f12.body.getD .skip) 0)) ((.d (.sl (t.map encNode))) :: g1 :: g2 :: v3 :: (.d (.int .i64 i)) :: g5 :: g6 :: g7 :: g8 :: g9 :: g10 :: g11 :: g12 :: g13 :: g14 :: g15 :: g16 :: g17 :: g18 :: g19 :: g20 :: g21 :: g22 :: g23 :: g24 :: g25 :: g26 :: g27 :: g28 :: g29 :: g30 :: []) S [] R := by
  have hlt0 : t.length < 400000 := Nat.lt_of_le_of_lt hS.len (by omega)
  intro k
  induction k with
  | zero =>
    intro i us S v3 g5 g6 g7 g8 g9 g10 g11 g12 g13 g14 g15 g16 g17 g18 g19 g20 g21 g22 g23 g24 g25 g26 g27 g28 g29 g30 hk hi ho hA hR
    have hie : i = t.length := by omega
    rw [wk_of]
    refine wk_loop ?_
    conv => arg 2; whnf
    simp (maxSteps := 1000000) (disch := first | assumption | omega | rfl) only [↓vmp, vme, vmb, ty, hP, dec_t, dec_f, wrap64, List.length_map, Int.toNat_natCast, Nat.reduceAdd, List.cons_append, List.nil_append, Option.map_some, Option.map_none, strOf_mk, sb_eql, sb_neq, vmg, ↓vgd, ↓vst, ↓vix]
    rw [hie, List.take_length] at hA
    exact hR _ _ us _ _ _ _ _ _ _ _ _ _ _ _ _ _ _ _ _ _ _ _ _ _ _ _ _ _ _ ho hA
  | succ k ih =>
    intro i us S v3 g5 g6 g7 g8 g9 g10 g11 g12 g13 g14 g15 g16 g17 g18 g19 g20 g21 g22 g23 g24 g25 g26 g27 g28 g29 g30 hk hi ho hA hR
    have hlt : i < t.length := by omega
    have htk : t.take (i + 1) = t.take i ++ [t[i]] := by rw [List.take_succ_eq_append_getElem hlt]
    have hmem := List.getElem_mem hlt
    have hd := hS.siz _ hmem
    have hn := hS.nms _ hmem
    have hul := hA.len
    rw [List.length_take] at hul
    rw [wk_of]
    refine wk_loop ?_
    conv => arg 2; whnf
    generalize hN : t[i] = n at *
    have hbS : (S ++ [.row [.d (encNode n)] 32])[S.length]? = some (.row [.d (encNode n)] 32) := by simp
    obtain ⟨v1, S1, c1, ha1, ho1, hf1, hl1⟩ := apB (S := S ++ [.row [.d (encNode n)] 32]) (l := n.data) (by omega)
    have hb2 : S1[S.length]? = some (.row [.d (encNode n)] 32) := (hf1 S.length _ hbS).1
    have hr2 := rowE_of hb2
    have hst1 := sr32_5 (a := n) (v := v1) (own_fits ho1 (by kernel_rfl) (by kernel_rfl)) (own_cells ho1)
    have hpr1 := fun y => putRow_of (y := y) hb2
    have hb3 : ∀ y : V, (S1.set S.length (.row [y] 32))[S.length]? = some (.row [y] 32) := fun y => set_at hb2
    have hr3 : ∀ y, rowE (S1.set S.length (.row [y] 32)) S.length 0 = some y := fun y => rowE_of (hb3 y)
    obtain ⟨v2, S2, c2, ha2, ho2, hf2, hl2⟩ := apE (S := S1.set S.length (.row [nodeV n v1 (.d (.sl (n.names.map encEnt)))] 32)) (l := n.names) (by omega)
    have hb4 : S2[S.length]? = some (.row [nodeV n v1 (.d (.sl (n.names.map encEnt)))] 32) := (hf2 S.length _ (hb3 _)).1
    have hr4 := rowE_of hb4
    have hst2 := fun (x0 x1 x2 x3 x4 x5 x6 : V) => sra32_6 (x0 := x0) (x1 := x1) (x2 := x2) (x3 := x3) (x4 := x4) (x5 := x5) (x6 := x6) (v := v2) (own_fits ho2 (by kernel_rfl) (by kernel_rfl)) (own_cells ho2)
    have hpr2 := fun y => putRow_of (y := y) hb4
    have hr5 : ∀ y, rowE (S2.set S.length (.row [y] 32)) S.length 0 = some y := fun y => rowE_of (set_at hb4)
    -- what stays
    have hkeep : ∀ (j : Nat) (o : Ob), S[j]? = some o → (S2.set S.length (.row [nodeV n v1 v2] 32))[j]? = some o := fun j o hj => by
      have hjl := getLen hj
      have h1 : (S ++ [.row [.d (encNode n)] 32])[j]? = some o := by rw [List.getElem?_append_left hjl]; exact hj
      have h2 := (hf1 j o h1).1
      have h3 : (S1.set S.length (.row [nodeV n v1 (.d (.sl (n.names.map encEnt)))] 32))[j]? = some o := by rw [List.getElem?_set_ne (by omega)]; exact h2
      have h4 := (hf2 j o h3).1
      rw [List.getElem?_set_ne (by omega)]; exact h4
    have hn1 : ∀ (j : Nat) (o : Ob), S[j]? = some o → NotAt v1 j := fun j o hj => (hf1 j o (by rw [List.getElem?_append_left (getLen hj)]; exact hj)).2
    have hn2 : ∀ (j : Nat) (o : Ob), S[j]? = some o → NotAt v2 j := fun j o hj => by
      have hjl := getLen hj
      have h1 : (S ++ [.row [.d (encNode n)] 32])[j]? = some o := by rw [List.getElem?_append_left hjl]; exact hj
      exact (hf2 j o (by rw [List.getElem?_set_ne (by omega)]; exact (hf1 j o h1).1)).2
    have hv1 : OwnS (S2.set S.length (.row [nodeV n v1 v2] 32)) v1 5 (n.data.map fun b => .d (.int .u8 b.toNat)) := own_set (own_keep (own_set ho1 (hf1 S.length _ hbS).2) (fun j o hj => (hf2 j o hj).1)) (hf1 S.length _ hbS).2
    have hv2 : OwnS (S2.set S.length (.row [nodeV n v1 v2] 32)) v2 88 (n.names.map fun x => .d (encEnt x)) := own_set ho2 (hf2 S.length _ (hb3 _)).2
    obtain ⟨w, S6, c6, u, hbs, hsrc, hu, hk6⟩ := bs_node hv1 hv2
    have ho6 : OwnS S6 v3 32 us := own_keep ho (fun j o hj => hk6 j o (hkeep j o hj))
    have hA6 : AllN S6 v3 (t.take i) us := hA.keep (fun j o hj => hk6 j o (hkeep j o hj))
    have hnV : NodeV S6 v3 n u := by
      rcases hu with rfl | rfl
      · exact .inr ⟨v1, v2, rfl, own_keep hv1 hk6, own_keep hv2 hk6, own_sep ho hn1, own_sep ho hn2⟩
      · exact .inl rfl
    obtain ⟨v3', S7, c7, ha7, ho7, hf7⟩ := append_src (P := Try.prog) Try.underlying25 zOk25 hsrc ho6 (room25 (by omega))
    unfold nodeV at ha2 hr4 hpr2 hbs
    simp (maxSteps := 1000000) (disch := first | assumption | omega | rfl) only [↓vmp, vme, vmb, ty, hP, dec_t, dec_f, wrap64, List.length_map, Int.toNat_natCast, Nat.reduceAdd, List.cons_append, List.nil_append, Option.map_some, Option.map_none, strOf_mk, sb_eql, sb_neq, vmg, ↓vgd, ↓vst, ↓vix, ↓vbs, hN, rowE_app, putRow_app, bs0_29, bs0_30, ha1, hr2, hst1, hpr1, hr3, ha2, hr4, hst2, hpr2, hr5, hbs, ha7]
    exact ih (i + 1) (us ++ [u]) S7 v3' _ _ _ _ _ _ _ _ _ _ _ _ _ _ _ _ _ _ _ _ _ _ _ _ _ _ (by omega) (by omega) ho7 (by rw [htk]; exact (hA6.snoc hnV).frame hf7) hR
theorem to_ok (t : List Node) (k0 : Nat) (hk0 : k0 < 300000) (hS : Small k0 t) : Ev cfg 12 [.sl (t.map encNode)] (.ret (.d (.sl (t.map encNode)))) := by
  refine ev_of rfl rfl body12 ?_
  show Wp cfg (Try.f12.body.getD .skip) ((.d (.sl (t.map encNode))) :: (.tup []) :: (.tup []) :: (.tup []) :: (.tup []) :: (.tup []) :: (.tup []) :: (.tup []) :: (.tup []) :: (.tup []) :: (.tup []) :: (.tup []) :: (.tup []) :: (.tup []) :: (.tup []) :: (.tup []) :: (.tup []) :: (.tup []) :: (.tup []) :: (.tup []) :: (.tup []) :: (.tup []) :: (.tup []) :: (.tup []) :: (.tup []) :: (.tup []) :: (.tup []) :: (.tup []) :: (.tup []) :: (.tup []) :: (.tup []) :: []) [] [] _
  conv => arg 2; whnf
  simp (maxSteps := 1000000) (disch := first | assumption | omega | rfl) only [↓vmp, vme, vmb, ty, hP, dec_t, dec_f, wrap64, List.length_map, Int.toNat_natCast, Nat.reduceAdd, List.cons_append, List.nil_append, Option.map_some, Option.map_none, strOf_mk, sb_eql, sb_neq, vmg, ↓vgd, ↓vst, ↓vix]
  refine to_l t k0 hk0 hS _ _ _ t.length 0 [] _ _ _ _ _ _ _ _ _ _ _ _ _ _ _ _ _ _ _ _ _ _ _ _ _ _ _ _ rfl (by omega) OwnS.nil trivial ?_
  intro S v3 us i' g5 g6 g7 g8 g9 g10 g11 g12 g13 g14 g15 g16 g17 g18 g19 g20 g21 g22 g23 g24 g25 g26 g27 g28 g29 g30 ho hA
  simp (maxSteps := 1000000) (disch := first | assumption | omega | rfl) only [↓vmp, vme, vmb, ty, hP, dec_t, dec_f, wrap64, List.length_map, Int.toNat_natCast, Nat.reduceAdd, List.cons_append, List.nil_append, Option.map_some, Option.map_none, strOf_mk, sb_eql, sb_neq, vmg, ↓vgd, ↓vst, ↓vix]
  exact retQ_one rfl (own_one ho) (own_frzV ho hA.frz)
theorem call_to {ops : Array Oper} {dst : Option Tmp} {k : List Oper} {T : List V} {S : Store} {F : Dfs} {Q : Post} {t : List Node} {k0 : Nat} (hS : Small k0 t) (hk0 : k0 < 300000) :
    WpR cfg ops dst k T S F Q (some (.enter 12 [.d (.sl (t.map encNode))])) = WpL cfg ops k (putT T dst (.d (.sl (t.map encNode)))) S F Q :=
  wr_call_d (ds := [.sl (t.map encNode)]) rfl (to_ok t k0 hk0 hS)
end Go.Proofs.Ytghllhghboaagaa
end
/-! The directories above a node: hist.Ups. -/
section
set_option linter.unusedVariables false
set_option linter.unusedSimpArgs false
set_option maxRecDepth 10000
set_option maxHeartbeats 4000000
namespace Go.Proofs.Ytghllhghboaagaa
open Go.Vm
theorem wl_makeMap {C : Cfg} {ops : Array Oper} {dst : Option Tmp} {ty : TypeId} {pos : String} {after : Array Edge} {l : List Oper} {T : List V} {S : Store} {F : Dfs} {Q : Post} {t : TypeId} : WpL C ops (⟨dst, .makeMap t none, ty, pos, after, none⟩ :: l) T S F Q = WpL C ops l (putT T dst (.mr S.length)) (S ++ [.mp [] 0]) F Q := by
  rw [wl_op rfl]; rfl
/-- The way up to the root. -/
def Chain (t : List Node) : List Int → Prop
  | [] => False
  | i :: r => hasN t i = true ∧ match r with
    | [] => i = 1
    | j :: _ => i ≠ 1 ∧ (getN t i).parent = j ∧ Chain t r
def mapE : Nat → List Int → List (D × V × Nat)
  | _, [] => []
  | c, x :: r => (.int .i64 x, .d (.int .i64 1), c) :: mapE (c + 1) r
theorem mapE_snoc {x : Int} : ∀ {l : List Int} {c : Nat}, mapE c (l ++ [x]) = mapE c l ++ [(.int .i64 x, .d (.int .i64 1), c + l.length)]
  | [], c => rfl
  | y :: r, c => by
    simp only [List.cons_append, mapE, mapE_snoc (l := r), List.length_cons]
    rw [show c + 1 + r.length = c + (r.length + 1) by omega]
theorem eqI {a b : Int} : eqV Try.prog 3 (.d (.int .i64 a)) (.d (.int .i64 b)) = some (a == b) := by kernel_rfl
theorem findD_no {k : Int} : ∀ {l : List Int} {c i : Nat}, k ∉ l → findD Try.prog 3 (.d (.int .i64 k)) (mapE c l) i = some none
  | [], c, i, _ => rfl
  | y :: r, c, i, h => by
    have h1 : (k == y) = false := by
      rw [beq_eq_false_iff_ne]; rintro rfl; exact h (by simp)
    simp only [mapE, findD, eqI, h1]
    exact findD_no (fun hk => h (by simp [hk]))
theorem findD_no2 {k : Int} : ∀ {l : List Int} {c i : Nat}, k ∉ l → findD Try.prog 3 (.d (.int .i64 k)) ((mapE c l).map fun e => (e.1, e.2.1)) i = some none
  | [], c, i, _ => rfl
  | y :: r, c, i, h => by
    have h1 : (k == y) = false := by
      rw [beq_eq_false_iff_ne]; rintro rfl; exact h (by simp)
    simp only [mapE, List.map_cons, findD, eqI, h1]
    exact findD_no2 (fun hk => h (by simp [hk]))
theorem keyI {k : Int} : keyOk Try.prog 3 (.d (.int .i64 k)) = true := by kernel_rfl
theorem z3 : zeroV Try.prog 3 = some (.d (.int .i64 0)) := by kernel_rfl
theorem look_no {S : Store} {id : Nat} {k : Int} {l : List Int} (h : S[id]? = some (.mp (mapE 0 l) l.length)) (hk : k ∉ l) : lookupV Try.prog S 92 (.mr id) (.d (.int .i64 k)) false = some (.d (.int .i64 0)) := by
  simp only [lookupV, Try.underlying92, keyI, if_true, entriesV, h, z3, findD_no2 hk, Bool.false_eq_true, if_false]
theorem upd_no {S : Store} {id : Nat} {k : Int} {l : List Int} (h : S[id]? = some (.mp (mapE 0 l) l.length)) (hk : k ∉ l) : mapUpdateV Try.prog S 92 (.mr id) (.d (.int .i64 k)) (.d (.int .i64 1)) = some (S.set id (.mp (mapE 0 (l ++ [k])) (l ++ [k]).length)) := by
  have e : mapE 0 (l ++ [k]) = mapE 0 l ++ [(.int .i64 k, .d (.int .i64 1), l.length)] := by rw [mapE_snoc, Nat.zero_add]
  have ho : V.one (.d (.int .i64 1)) = true := rfl
  have ha : asD (.d (.int .i64 k)) = some (.int .i64 k) := rfl
  simp only [mapUpdateV, Try.underlying92, keyI, ho, Bool.and_self, if_true, ha, h, findD_no hk, e, List.length_append, List.length_singleton]
theorem ups_l (t : List Node) (k0 : Nat) (hk0 : k0 < 300000) (hS : Small k0 t) (R : Post) (g2 g3 g4 : V) : ∀ (c : List Int) (ino : Int) (pre : List Int) (S : Store) (v5 g7 g8 g9 g10 g11 g12 g13 g14 g15 g16 g17 g18 g19 g20 g21 g22 g23 g24 g25 g26 g27 g28 g29 g30 g31 g32 g33 g34 g35 : V), Chain t (ino :: c) → (pre ++ ino :: c).Nodup → (pre ++ ino :: c).length < 400000 → OwnS S v5 3 (pre.map fun x => .d (.int .i64 x)) → NotAt v5 0 → S[0]? = some (.mp (mapE 0 pre) pre.length) →
   (∀ S v5 t1 g7 g8 g9 g10 g11 g12 g13 g14 g15 g16 g17 g18 g19 g20 g21 g22 g23 g24 g25 g26 g27 g28 g29 g30 g31 g32 g33 g34 g35, OwnS S v5 3 ((pre ++ ino :: c).map fun x => .d (.int .i64 x)) → R .ret ((.d (.sl (t.map encNode))) :: t1 :: g2 :: g3 :: v5 :: v5 :: (.mr 0) :: g7 :: g8 :: g9 :: g10 :: g11 :: g12 :: g13 :: g14 :: g15 :: g16 :: g17 :: g18 :: g19 :: g20 :: g21 :: g22 :: g23 :: g24 :: g25 :: g26 :: g27 :: g28 :: g29 :: g30 :: g31 :: g32 :: g33 :: g34 :: g35 :: []) S []) →
   Wp cfg (.loop (lpOf (Try.f14.body.getD .skip) 0)) ((.d (.sl (t.map encNode))) :: (.d (.int .i64 ino)) :: g2 :: g3 :: g4 :: v5 :: (.mr 0) :: g7 :: g8 :: g9 :: g10 :: g11 :: g12 :: g13 :: g14 :: g15 :: g16 :: g17 :: g18 :: g19 :: g20 :: g21 :: g22 :: g23 :: g24 :: g25 :: g26 :: g27 :: g28 :: g29 :: g30 :: g31 :: g32 :: g33 :: g34 :: g35 :: []) S [] R := by
  intro c
  induction c with
  | nil =>
    intro ino pre S v5 g7 g8 g9 g10 g11 g12 g13 g14 g15 g16 g17 g18 g19 g20 g21 g22 g23 g24 g25 g26 g27 g28 g29 g30 g31 g32 g33 g34 g35 hc hnd hl ho hna hb hR
    obtain ⟨hh, h1⟩ := hc
    have h1 : ino = 1 := h1
    have hni : ino ∉ pre := by
      intro hm
      exact (List.nodup_append.1 hnd).2.2 _ hm _ (by simp) rfl
    have h0 := getLen hb
    have hb1 : (S ++ [.row [.d (encNode (getN t ino))] 32])[0]? = some (.mp (mapE 0 pre) pre.length) := by rw [List.getElem?_append_left h0]; exact hb
    have hlk := look_no hb1 hni
    have hup := upd_no hb1 hni
    obtain ⟨v', S', c, ha, ho', hfr, hlen⟩ := ap33 ino (own_set (o := .mp (mapE 0 (pre ++ [ino])) (pre ++ [ino]).length) (own_keep ho (S' := S ++ [.row [.d (encNode (getN t ino))] 32]) (fun j o hj => by rw [List.getElem?_append_left (getLen hj)]; exact hj)) hna) (by simp at hl; omega)
    rw [wk_of]
    refine wk_loop ?_
    conv => arg 2; whnf
    simp (maxSteps := 1000000) (disch := first | assumption | omega | rfl) only [↓vmp, vme, vmb, ty, hP, dec_t, dec_f, wrap64, List.length_map, Int.toNat_natCast, Nat.reduceAdd, List.cons_append, List.nil_append, Option.map_some, Option.map_none, strOf_mk, sb_eql, sb_neq, vmg, ↓vgd, ↓vst, ↓vix, ↓vbs, rowE_app, putRow_app, call_tfind hS hk0, hh, hlk, hup, ha, un_not, Bool.not_true]
    exact hR _ _ _ _ _ _ _ _ _ _ _ _ _ _ _ _ _ _ _ _ _ _ _ _ _ _ _ _ _ _ _ _ ho'
  | cons j r ih =>
    intro ino pre S v5 g7 g8 g9 g10 g11 g12 g13 g14 g15 g16 g17 g18 g19 g20 g21 g22 g23 g24 g25 g26 g27 g28 g29 g30 g31 g32 g33 g34 g35 hc hnd hl ho hna hb hR
    obtain ⟨hh, h1, hp, hc'⟩ := hc
    have hni : ino ∉ pre := by
      intro hm
      exact (List.nodup_append.1 hnd).2.2 _ hm _ (by simp) rfl
    have h0 := getLen hb
    have hb1 : (S ++ [.row [.d (encNode (getN t ino))] 32])[0]? = some (.mp (mapE 0 pre) pre.length) := by rw [List.getElem?_append_left h0]; exact hb
    have hlk := look_no hb1 hni
    have hup := upd_no hb1 hni
    obtain ⟨v', S', c, ha, ho', hfr, hlen⟩ := ap33 ino (own_set (o := .mp (mapE 0 (pre ++ [ino])) (pre ++ [ino]).length) (own_keep ho (S' := S ++ [.row [.d (encNode (getN t ino))] 32]) (fun j o hj => by rw [List.getElem?_append_left (getLen hj)]; exact hj)) hna) (by simp at hl; omega)
    have hs0 := set_at (o' := .mp (mapE 0 (pre ++ [ino])) (pre ++ [ino]).length) hb1
    have hb' := hfr 0 _ hs0 hna
    have hnS : NotAt v5 S.length := by
      rcases ho with ⟨rfl, _⟩ | ⟨i, rfl, h1⟩
      · exact NotAt.ts
      · intro off l hh
        have := getLen h1
        cases hh; omega
    have hrw : ((S ++ [Ob.row [.d (encNode (getN t ino))] 32]).set 0 (.mp (mapE 0 (pre ++ [ino])) (pre ++ [ino]).length))[S.length]? = some (.row [.d (encNode (getN t ino))] 32) := by rw [List.getElem?_set_ne (by omega)]; simp
    have hr1 := rowE_of (hfr S.length _ hrw hnS).1
    rw [wk_of]
    refine wk_loop ?_
    conv => arg 2; whnf
    simp (maxSteps := 1000000) (disch := first | assumption | omega | rfl) only [↓vmp, vme, vmb, ty, hP, dec_t, dec_f, wrap64, List.length_map, Int.toNat_natCast, Nat.reduceAdd, List.cons_append, List.nil_append, Option.map_some, Option.map_none, strOf_mk, sb_eql, sb_neq, vmg, ↓vgd, ↓vst, ↓vix, ↓vbs, rowE_app, putRow_app, call_tfind hS hk0, hh, hlk, hup, ha, un_not, Bool.not_true, hr1]
    rw [hp]
    have e : pre ++ [ino] ++ j :: r = pre ++ ino :: j :: r := by simp
    exact ih j (pre ++ [ino]) S' v' _ _ _ _ _ _ _ _ _ _ _ _ _ _ _ _ _ _ _ _ _ _ _ _ _ _ _ _ _ hc' (by rw [e]; exact hnd) (by rw [e]; exact hl) ho' hb'.2 hb'.1 (by rw [e]; exact hR)
theorem ups_ok (t : List Node) (k0 : Nat) (hk0 : k0 < 300000) (hS : Small k0 t) (ino : Int) (c : List Int) (hc : Chain t (ino :: c)) (hnd : (ino :: c).Nodup) (hl : (ino :: c).length < 400000) : Ev cfg 14 [.sl (t.map encNode), .int .i64 ino] (.ret (.d (.sl ((ino :: c).map (.int .i64))))) := by
  refine ev_of rfl rfl body14 ?_
  show Wp cfg (Try.f14.body.getD .skip) ((.d (.sl (t.map encNode))) :: (.d (.int .i64 ino)) :: (.tup []) :: (.tup []) :: (.tup []) :: (.tup []) :: (.tup []) :: (.tup []) :: (.tup []) :: (.tup []) :: (.tup []) :: (.tup []) :: (.tup []) :: (.tup []) :: (.tup []) :: (.tup []) :: (.tup []) :: (.tup []) :: (.tup []) :: (.tup []) :: (.tup []) :: (.tup []) :: (.tup []) :: (.tup []) :: (.tup []) :: (.tup []) :: (.tup []) :: (.tup []) :: (.tup []) :: (.tup []) :: (.tup []) :: (.tup []) :: (.tup []) :: (.tup []) :: (.tup []) :: (.tup []) :: []) [] [] _
  conv => arg 2; whnf
  simp (maxSteps := 1000000) (disch := first | assumption | omega | rfl) only [↓vmp, vme, vmb, ty, hP, dec_t, dec_f, wrap64, List.length_map, Int.toNat_natCast, Nat.reduceAdd, List.cons_append, List.nil_append, Option.map_some, Option.map_none, strOf_mk, sb_eql, sb_neq, vmg, ↓vgd, ↓vst, ↓vix, ↓wl_makeMap]
  refine ups_l t k0 hk0 hS _ _ _ _ c ino [] _ _ _ _ _ _ _ _ _ _ _ _ _ _ _ _ _ _ _ _ _ _ _ _ _ _ _ _ _ _ _ hc hnd hl OwnS.nil NotAt.ts rfl ?_
  intro S v5 t1 g7 g8 g9 g10 g11 g12 g13 g14 g15 g16 g17 g18 g19 g20 g21 g22 g23 g24 g25 g26 g27 g28 g29 g30 g31 g32 g33 g34 g35 ho
  simp (maxSteps := 1000000) (disch := first | assumption | omega | rfl) only [↓vmp, vme, vmb, ty, hP, dec_t, dec_f, wrap64, List.length_map, Int.toNat_natCast, Nat.reduceAdd, List.cons_append, List.nil_append, Option.map_some, Option.map_none, strOf_mk, sb_eql, sb_neq, vmg, ↓vgd, ↓vst, ↓vix]
  exact retQ_one rfl (own_one ho) (own_frz' ho)
theorem call_ups {ops : Array Oper} {dst : Option Tmp} {k : List Oper} {T : List V} {S : Store} {F : Dfs} {Q : Post} {t : List Node} {k0 : Nat} {ino : Int} {c : List Int} (hc : Chain t (ino :: c)) (hnd : (ino :: c).Nodup) (hl : (ino :: c).length < 400000) (hS : Small k0 t) (hk0 : k0 < 300000) :
    WpR cfg ops dst k T S F Q (some (.enter 14 [.d (.sl (t.map encNode)), .d (.int .i64 ino)])) = WpL cfg ops k (putT T dst (.d (.sl ((ino :: c).map (.int .i64))))) S F Q :=
  wr_call_d (ds := [.sl (t.map encNode), .int .i64 ino]) rfl (ups_ok t k0 hk0 hS ino c hc hnd hl)
end Go.Proofs.Ytghllhghboaagaa
end
/-! The statement's own code: escheatlaw29.HistUps comes to true, if each directory has a way up to the root. -/
section
set_option linter.unusedVariables false
set_option linter.unusedSimpArgs false
set_option maxRecDepth 100000
set_option maxHeartbeats 4000000
namespace Go.Proofs.Ytghllhghboaagaa
open Go.Vm
theorem works_ok : Ev cfg 11 [] (.ret (.d (.bool true))) := ⟨60, by kernel_rfl⟩
theorem call_works {ops : Array Oper} {dst : Option Tmp} {k : List Oper} {T : List V} {S : Store} {F : Dfs} {Q : Post} :
    WpR cfg ops dst k T S F Q (some (.enter 11 [])) = WpL cfg ops k (putT T dst (.d (.bool true))) S F Q :=
  wr_call_d (ds := []) rfl works_ok
/-- The way up from a directory, told once each. -/
def Way (t : List Node) (ino : Int) (ups : List Int) : Prop := ∃ c, ups = ino :: c ∧ Chain t (ino :: c) ∧ (ino :: c).Nodup ∧ ups.length ≤ t.length
def Ways (t : List Node) : Prop := ∀ n ∈ t, n.kind = 2 → ∃ ups, Way t n.ino ups
theorem chain_ix {t : List Node} : ∀ {c : List Int}, Chain t c → ∀ (k : Nat) (h : k + 1 < c.length), hasN t c[k] = true ∧ (getN t c[k]).parent = c[k + 1]
  | [], hc, k, h => by simp at h
  | [i], hc, k, h => by simp at h
  | i :: j :: r, hc, 0, h => ⟨hc.1, hc.2.2.1⟩
  | i :: j :: r, hc, k + 1, h => chain_ix (c := j :: r) hc.2.2.2 k (by simpa using h)
theorem chain_last {t : List Node} : ∀ {c : List Int}, Chain t c → ∀ (h : c.length - 1 < c.length), c[c.length - 1] = 1
  | [], hc, h => by simp at h
  | [i], hc, h => hc.2
  | i :: j :: r, hc, h => by
    have := chain_last (c := j :: r) hc.2.2.2 (by simp)
    simpa using this
theorem call_ups2 {ops : Array Oper} {dst : Option Tmp} {k : List Oper} {T : List V} {S : Store} {F : Dfs} {Q : Post} {t : List Node} {k0 : Nat} {ino : Int} {ups : List Int} (hw : Way t ino ups) (hS : Small k0 t) (hk0 : k0 < 300000) :
    WpR cfg ops dst k T S F Q (some (.enter 14 [.d (.sl (t.map encNode)), .d (.int .i64 ino)])) = WpL cfg ops k (putT T dst (.d (.sl (ups.map (.int .i64))))) S F Q := by
  obtain ⟨c, rfl, hc, hnd, hl⟩ := hw
  exact call_ups hc hnd (by have := hS.len; omega) hS hk0
theorem inner_l (t : List Node) (k0 : Nat) (hk0 : k0 < 300000) (hS : Small k0 t) (ups : List Int) (hl : ups.length < 400000) (hc : ∀ (k : Nat) (h : k + 1 < ups.length), hasN t ups[k] = true ∧ (getN t ups[k]).parent = ups[k + 1]) (R : Post) (g0 g1 g2 g4 : V) : ∀ (m k : Nat) (S : Store) (v7 v8 g9 g10 g11 g12 g13 g14 g15 g16 g17 g18 g19 g20 g21 g22 g23 g24 g25 g26 g27 g28 g29 g30 g31 g32 g33 g34 g35 g36 g37 g38 g39 g40 g41 g42 g43 g44 g45 g46 g47 g48 g49 g50 g51 g52 g53 g54 g55 g56 g57 g58 g59 g60 g61 g62 g63 g64 g65 g66 g67 g68 g69 g70 g71 g72 g73 g74 g75 g76 g77 g78 g79 g80 g81 g82 g83 g84 g85 g86 g87 g88 g89 g90 g91 g92 : V), ups.length - 1 - k = m → k + 1 ≤ ups.length →
   (∀ S k' v7 v8 g9 g10 g11 g12 g13 g14 g15 g16 g17 g18 g19 g20 g21 g22 g23 g24 g25 g26 g27 g28 g29 g30 g31 g32 g33 g34 g35 g36 g37 g38 g39 g40 g41 g42 g43 g44 g45 g46 g47 g48 g49 g50 g51 g52 g53 g54 g55 g56 g57 g58 g59 g60 g61 g62 g63 g64 g65 g66 g67 g68 g69 g70 g71 g72 g73 g74 g75 g76 g77 g78 g79 g80 g81 g82 g83 g84 g85 g86 g87 g88 g89 g90 g91 g92, R (.exit 2) (g0 :: g1 :: g2 :: (.d (.sl (t.map encNode))) :: g4 :: (.d (.sl (ups.map (.int .i64)))) :: k' :: v7 :: v8 :: g9 :: g10 :: g11 :: g12 :: g13 :: g14 :: g15 :: g16 :: g17 :: g18 :: g19 :: g20 :: g21 :: g22 :: g23 :: g24 :: g25 :: g26 :: g27 :: g28 :: g29 :: g30 :: g31 :: g32 :: g33 :: g34 :: g35 :: g36 :: g37 :: g38 :: g39 :: g40 :: g41 :: g42 :: g43 :: g44 :: g45 :: g46 :: g47 :: g48 :: g49 :: g50 :: g51 :: g52 :: g53 :: g54 :: g55 :: g56 :: g57 :: g58 :: g59 :: g60 :: g61 :: g62 :: g63 :: g64 :: g65 :: g66 :: g67 :: g68 :: g69 :: g70 :: g71 :: g72 :: g73 :: g74 :: g75 :: g76 :: g77 :: g78 :: g79 :: g80 :: g81 :: g82 :: g83 :: g84 :: g85 :: g86 :: g87 :: g88 :: g89 :: g90 :: g91 :: g92 :: []) S []) →
   Wp cfg (.loop (lpOf (Try.f3.body.getD .skip) 2)) (g0 :: g1 :: g2 :: (.d (.sl (t.map encNode))) :: g4 :: (.d (.sl (ups.map (.int .i64)))) :: (.d (.int .i64 k)) :: v7 :: v8 :: g9 :: g10 :: g11 :: g12 :: g13 :: g14 :: g15 :: g16 :: g17 :: g18 :: g19 :: g20 :: g21 :: g22 :: g23 :: g24 :: g25 :: g26 :: g27 :: g28 :: g29 :: g30 :: g31 :: g32 :: g33 :: g34 :: g35 :: g36 :: g37 :: g38 :: g39 :: g40 :: g41 :: g42 :: g43 :: g44 :: g45 :: g46 :: g47 :: g48 :: g49 :: g50 :: g51 :: g52 :: g53 :: g54 :: g55 :: g56 :: g57 :: g58 :: g59 :: g60 :: g61 :: g62 :: g63 :: g64 :: g65 :: g66 :: g67 :: g68 :: g69 :: g70 :: g71 :: g72 :: g73 :: g74 :: g75 :: g76 :: g77 :: g78 :: g79 :: g80 :: g81 :: g82 :: g83 :: g84 :: g85 :: g86 :: g87 :: g88 :: g89 :: g90 :: g91 :: g92 :: []) S [] R := by
  intro m
  induction m with
  | zero =>
    intro k S v7 v8 g9 g10 g11 g12 g13 g14 g15 g16 g17 g18 g19 g20 g21 g22 g23 g24 g25 g26 g27 g28 g29 g30 g31 g32 g33 g34 g35 g36 g37 g38 g39 g40 g41 g42 g43 g44 g45 g46 g47 g48 g49 g50 g51 g52 g53 g54 g55 g56 g57 g58 g59 g60 g61 g62 g63 g64 g65 g66 g67 g68 g69 g70 g71 g72 g73 g74 g75 g76 g77 g78 g79 g80 g81 g82 g83 g84 g85 g86 g87 g88 g89 g90 g91 g92 hm hk hR
    rw [wk_of]
    refine wk_loop ?_
    conv => arg 2; whnf
    simp (maxSteps := 1000000) (disch := first | assumption | omega | rfl) only [↓vmp, vme, vmb, ty, hP, dec_t, dec_f, wrap64, List.length_map, Int.toNat_natCast, Nat.reduceAdd, List.cons_append, List.nil_append, Option.map_some, Option.map_none, strOf_mk, sb_eql, sb_neq, vmg, ↓vgd, ↓vst, ↓vix]
    exact hR _ _ _ _ _ _ _ _ _ _ _ _ _ _ _ _ _ _ _ _ _ _ _ _ _ _ _ _ _ _ _ _ _ _ _ _ _ _ _ _ _ _ _ _ _ _ _ _ _ _ _ _ _ _ _ _ _ _ _ _ _ _ _ _ _ _ _ _ _ _ _ _ _ _ _ _ _ _ _ _ _ _ _ _ _ _ _ _
  | succ m ih =>
    intro k S v7 v8 g9 g10 g11 g12 g13 g14 g15 g16 g17 g18 g19 g20 g21 g22 g23 g24 g25 g26 g27 g28 g29 g30 g31 g32 g33 g34 g35 g36 g37 g38 g39 g40 g41 g42 g43 g44 g45 g46 g47 g48 g49 g50 g51 g52 g53 g54 g55 g56 g57 g58 g59 g60 g61 g62 g63 g64 g65 g66 g67 g68 g69 g70 g71 g72 g73 g74 g75 g76 g77 g78 g79 g80 g81 g82 g83 g84 g85 g86 g87 g88 g89 g90 g91 g92 hm hk hR
    have hlt : k + 1 < ups.length := by omega
    have hlt0 : k < ups.length := by omega
    obtain ⟨hh, hp⟩ := hc k hlt
    have hix := fun S => ix33 (S := S) hlt
    rw [show ((k + 1 : Nat) : Int) = (k : Int) + 1 by omega] at hix
    have hr1 : rowE (S ++ [Ob.row [.d (encNode (getN t ups[k]))] 32]) S.length 0 = some (.d (encNode (getN t ups[k]))) := rowE_app
    rw [wk_of]
    refine wk_loop ?_
    conv => arg 2; whnf
    simp (maxSteps := 1000000) (disch := first | assumption | omega | rfl) only [↓vmp, vme, vmb, ty, hP, dec_t, dec_f, wrap64, List.length_map, Int.toNat_natCast, Nat.reduceAdd, List.cons_append, List.nil_append, Option.map_some, Option.map_none, strOf_mk, sb_eql, sb_neq, vmg, ↓vgd, ↓vst, ↓vix, ↓vbs, rowE_app, putRow_app, call_tfind hS hk0, hh]
    refine wk_draw (is := [0, 1, 2, 3, 4, 5, 6, 7, 8, 9, 10, 11]) (h := 0) (by kernel_rfl) (by kernel_rfl) ?_
    simp (maxSteps := 1000000) (disch := first | assumption | omega | rfl) only [List.replicate_zero, eq_self, vmd, vmk, vmo, vmg, vme, vmb, ty, hP, dec_t, dec_f, wrap64, List.length_map, Int.toNat_natCast, Nat.reduceAdd, ↓vgd, ↓vst, ↓vix, List.append_nil, un_not, Bool.not_true, hr1, hix, hp]
    refine ⟨by kernel_rfl, ?_⟩
    simp (maxSteps := 1000000) (disch := first | assumption | omega | rfl) only [↓vmp, vme, vmb, ty, hP, dec_t, dec_f, wrap64, List.length_map, Int.toNat_natCast, Nat.reduceAdd, List.cons_append, List.nil_append, Option.map_some, Option.map_none, strOf_mk, sb_eql, sb_neq, vmg, ↓vgd, ↓vst, ↓vix]
    exact ih (k + 1) _ _ _ _ _ _ _ _ _ _ _ _ _ _ _ _ _ _ _ _ _ _ _ _ _ _ _ _ _ _ _ _ _ _ _ _ _ _ _ _ _ _ _ _ _ _ _ _ _ _ _ _ _ _ _ _ _ _ _ _ _ _ _ _ _ _ _ _ _ _ _ _ _ _ _ _ _ _ _ _ _ _ _ _ _ _ _ (by omega) (by omega) hR
theorem outer_l (t : List Node) (k0 : Nat) (hk0 : k0 < 300000) (hS : Small k0 t) (hw : Ways t) (R : Post) (g0 g1 g2 : V) : ∀ (k i : Nat) (S : Store) (v5 v6 v7 v8 g9 g10 g11 g12 g13 g14 g15 g16 g17 g18 g19 g20 g21 g22 g23 g24 g25 g26 g27 g28 g29 g30 g31 g32 g33 g34 g35 g36 g37 g38 g39 g40 g41 g42 g43 g44 g45 g46 g47 g48 g49 g50 g51 g52 g53 g54 g55 g56 g57 g58 g59 g60 g61 g62 g63 g64 g65 g66 g67 g68 g69 g70 g71 g72 g73 g74 g75 g76 g77 g78 g79 g80 g81 g82 g83 g84 g85 g86 g87 g88 g89 g90 g91 g92 : V), t.length - i = k → i ≤ t.length →
   (∀ S i' v5 v6 v7 v8 g9 g10 g11 g12 g13 g14 g15 g16 g17 g18 g19 g20 g21 g22 g23 g24 g25 g26 g27 g28 g29 g30 g31 g32 g33 g34 g35 g36 g37 g38 g39 g40 g41 g42 g43 g44 g45 g46 g47 g48 g49 g50 g51 g52 g53 g54 g55 g56 g57 g58 g59 g60 g61 g62 g63 g64 g65 g66 g67 g68 g69 g70 g71 g72 g73 g74 g75 g76 g77 g78 g79 g80 g81 g82 g83 g84 g85 g86 g87 g88 g89 g90 g91 g92, R (.exit 0) (g0 :: g1 :: g2 :: (.d (.sl (t.map encNode))) :: i' :: v5 :: v6 :: v7 :: v8 :: g9 :: g10 :: g11 :: g12 :: g13 :: g14 :: g15 :: g16 :: g17 :: g18 :: g19 :: g20 :: g21 :: g22 :: g23 :: g24 :: g25 :: g26 :: g27 :: g28 :: g29 :: g30 :: g31 :: g32 :: g33 :: g34 :: g35 :: g36 :: g37 :: g38 :: g39 :: g40 :: g41 :: g42 :: g43 :: g44 :: g45 :: g46 :: g47 :: g48 :: g49 :: g50 :: g51 :: g52 :: g53 :: g54 :: g55 :: g56 :: g57 :: g58 :: g59 :: g60 :: g61 :: g62 :: g63 :: g64 :: g65 :: g66 :: g67 :: g68 :: g69 :: g70 :: g71 :: g72 :: g73 :: g74 :: g75 :: g76 :: g77 :: g78 :: g79 :: g80 :: g81 :: g82 :: g83 :: g84 :: g85 :: g86 :: g87 :: g88 :: g89 :: g90 :: g91 :: g92 :: []) S []) →
   Wp cfg (.loop (lpOf (Try.f3.body.getD .skip) 0)) (g0 :: g1 :: g2 :: (.d (.sl (t.map encNode))) :: (.d (.int .i64 i)) :: v5 :: v6 :: v7 :: v8 :: g9 :: g10 :: g11 :: g12 :: g13 :: g14 :: g15 :: g16 :: g17 :: g18 :: g19 :: g20 :: g21 :: g22 :: g23 :: g24 :: g25 :: g26 :: g27 :: g28 :: g29 :: g30 :: g31 :: g32 :: g33 :: g34 :: g35 :: g36 :: g37 :: g38 :: g39 :: g40 :: g41 :: g42 :: g43 :: g44 :: g45 :: g46 :: g47 :: g48 :: g49 :: g50 :: g51 :: g52 :: g53 :: g54 :: g55 :: g56 :: g57 :: g58 :: g59 :: g60 :: g61 :: g62 :: g63 :: g64 :: g65 :: g66 :: g67 :: g68 :: g69 :: g70 :: g71 :: g72 :: g73 :: g74 :: g75 :: g76 :: g77 :: g78 :: g79 :: g80 :: g81 :: g82 :: g83 :: g84 :: g85 :: g86 :: g87 :: g88 :: g89 :: g90 :: g91 :: g92 :: []) S [] R := by
  have hlt0 : t.length < 400000 := Nat.lt_of_le_of_lt hS.len (by omega)
  intro k
  induction k with
  | zero =>
    intro i S v5 v6 v7 v8 g9 g10 g11 g12 g13 g14 g15 g16 g17 g18 g19 g20 g21 g22 g23 g24 g25 g26 g27 g28 g29 g30 g31 g32 g33 g34 g35 g36 g37 g38 g39 g40 g41 g42 g43 g44 g45 g46 g47 g48 g49 g50 g51 g52 g53 g54 g55 g56 g57 g58 g59 g60 g61 g62 g63 g64 g65 g66 g67 g68 g69 g70 g71 g72 g73 g74 g75 g76 g77 g78 g79 g80 g81 g82 g83 g84 g85 g86 g87 g88 g89 g90 g91 g92 hk hi hR
    rw [wk_of]
    refine wk_loop ?_
    conv => arg 2; whnf
    simp (maxSteps := 1000000) (disch := first | assumption | omega | rfl) only [↓vmp, vme, vmb, ty, hP, dec_t, dec_f, wrap64, List.length_map, Int.toNat_natCast, Nat.reduceAdd, List.cons_append, List.nil_append, Option.map_some, Option.map_none, strOf_mk, sb_eql, sb_neq, vmg, ↓vgd, ↓vst, ↓vix]
    exact hR _ _ _ _ _ _ _ _ _ _ _ _ _ _ _ _ _ _ _ _ _ _ _ _ _ _ _ _ _ _ _ _ _ _ _ _ _ _ _ _ _ _ _ _ _ _ _ _ _ _ _ _ _ _ _ _ _ _ _ _ _ _ _ _ _ _ _ _ _ _ _ _ _ _ _ _ _ _ _ _ _ _ _ _ _ _ _ _ _ _
  | succ k ih =>
    intro i S v5 v6 v7 v8 g9 g10 g11 g12 g13 g14 g15 g16 g17 g18 g19 g20 g21 g22 g23 g24 g25 g26 g27 g28 g29 g30 g31 g32 g33 g34 g35 g36 g37 g38 g39 g40 g41 g42 g43 g44 g45 g46 g47 g48 g49 g50 g51 g52 g53 g54 g55 g56 g57 g58 g59 g60 g61 g62 g63 g64 g65 g66 g67 g68 g69 g70 g71 g72 g73 g74 g75 g76 g77 g78 g79 g80 g81 g82 g83 g84 g85 g86 g87 g88 g89 g90 g91 g92 hk hi hR
    have hlt : i < t.length := by omega
    have hmem := List.getElem_mem hlt
    rw [wk_of]
    refine wk_loop ?_
    conv => arg 2; whnf
    by_cases hc : t[i].kind = 2
    · obtain ⟨ups, hway⟩ := hw _ hmem hc
      have hway2 := hway
      obtain ⟨c, hu, hch, hnd, hle⟩ := hway2
      rw [← hu] at hch
      have hpos : 0 < ups.length := by rw [hu]; simp
      have hpos' : ¬ (ups.length : Int) = 0 := by omega
      have hfst : ups[0] = t[i].ino := by simp [hu]
      have hlast := chain_last hch (by omega)
      have hix0 : indexAddrV Try.prog S 33 (.d (.sl (ups.map (.int .i64)))) (.d (.int .i64 0)) = some (.d (.ptr (.int .i64 t[i].ino))) := by
        have := ix33 (S := S) hpos
        rw [hfst] at this
        exact this
      have hixl : indexAddrV Try.prog S 33 (.d (.sl (ups.map (.int .i64)))) (.d (.int .i64 ((ups.length : Int) - 1))) = some (.d (.ptr (.int .i64 1))) := by
        have := ix33 (S := S) (i := ups.length - 1) (l := ups) (by omega)
        rw [hlast, show ((ups.length - 1 : Nat) : Int) = (ups.length : Int) - 1 by omega] at this
        exact this
      simp (maxSteps := 1000000) (disch := first | assumption | omega | rfl) only [↓vmp, vme, vmb, ty, hP, dec_t, dec_f, wrap64, List.length_map, Int.toNat_natCast, Nat.reduceAdd, List.cons_append, List.nil_append, Option.map_some, Option.map_none, strOf_mk, sb_eql, sb_neq, vmg, ↓vgd, ↓vst, ↓vix, call_ups2 hway hS hk0]
      refine wk_draw (is := [0, 1, 2, 3, 4, 5, 6, 7, 8, 9, 10, 11, 12, 13, 14, 15, 16, 17, 18, 19, 20, 21, 22, 23, 24, 25, 26, 27, 28, 29]) (h := 0) (by kernel_rfl) (by kernel_rfl) ?_
      simp (maxSteps := 1000000) (disch := first | assumption | omega | rfl) only [List.replicate_zero, eq_self, vmd, vmk, vmo, vmg, vme, vmb, ty, hP, dec_t, dec_f, wrap64, List.length_map, Int.toNat_natCast, Nat.reduceAdd, ↓vgd, ↓vst, ↓vix, List.append_nil, hix0, hixl]
      refine ⟨by kernel_rfl, ?_⟩
      simp (maxSteps := 1000000) (disch := first | assumption | omega | rfl) only [↓vmp, vme, vmb, ty, hP, dec_t, dec_f, wrap64, List.length_map, Int.toNat_natCast, Nat.reduceAdd, List.cons_append, List.nil_append, Option.map_some, Option.map_none, strOf_mk, sb_eql, sb_neq, vmg, ↓vgd, ↓vst, ↓vix]
      refine inner_l t k0 hk0 hS ups (by omega) (fun k h => chain_ix hch k h) _ _ _ _ _ (ups.length - 1) 0 _ _ _ _ _ _ _ _ _ _ _ _ _ _ _ _ _ _ _ _ _ _ _ _ _ _ _ _ _ _ _ _ _ _ _ _ _ _ _ _ _ _ _ _ _ _ _ _ _ _ _ _ _ _ _ _ _ _ _ _ _ _ _ _ _ _ _ _ _ _ _ _ _ _ _ _ _ _ _ _ _ _ _ _ _ _ _ (by omega) (by omega) ?_
      intro S k' v7 v8 g9 g10 g11 g12 g13 g14 g15 g16 g17 g18 g19 g20 g21 g22 g23 g24 g25 g26 g27 g28 g29 g30 g31 g32 g33 g34 g35 g36 g37 g38 g39 g40 g41 g42 g43 g44 g45 g46 g47 g48 g49 g50 g51 g52 g53 g54 g55 g56 g57 g58 g59 g60 g61 g62 g63 g64 g65 g66 g67 g68 g69 g70 g71 g72 g73 g74 g75 g76 g77 g78 g79 g80 g81 g82 g83 g84 g85 g86 g87 g88 g89 g90 g91 g92
      simp (maxSteps := 1000000) (disch := first | assumption | omega | rfl) only [↓vmp, vme, vmb, ty, hP, dec_t, dec_f, wrap64, List.length_map, Int.toNat_natCast, Nat.reduceAdd, List.cons_append, List.nil_append, Option.map_some, Option.map_none, strOf_mk, sb_eql, sb_neq, vmg, ↓vgd, ↓vst, ↓vix]
      exact ih (i + 1) _ _ _ _ _ _ _ _ _ _ _ _ _ _ _ _ _ _ _ _ _ _ _ _ _ _ _ _ _ _ _ _ _ _ _ _ _ _ _ _ _ _ _ _ _ _ _ _ _ _ _ _ _ _ _ _ _ _ _ _ _ _ _ _ _ _ _ _ _ _ _ _ _ _ _ _ _ _ _ _ _ _ _ _ _ _ _ _ _ (by omega) (by omega) hR
    · simp (maxSteps := 1000000) (disch := first | assumption | omega | rfl) only [↓vmp, vme, vmb, ty, hP, dec_t, dec_f, wrap64, List.length_map, Int.toNat_natCast, Nat.reduceAdd, List.cons_append, List.nil_append, Option.map_some, Option.map_none, strOf_mk, sb_eql, sb_neq, vmg, ↓vgd, ↓vst, ↓vix]
      exact ih (i + 1) _ _ _ _ _ _ _ _ _ _ _ _ _ _ _ _ _ _ _ _ _ _ _ _ _ _ _ _ _ _ _ _ _ _ _ _ _ _ _ _ _ _ _ _ _ _ _ _ _ _ _ _ _ _ _ _ _ _ _ _ _ _ _ _ _ _ _ _ _ _ _ _ _ _ _ _ _ _ _ _ _ _ _ _ _ _ _ _ _ (by omega) (by omega) hR
theorem script_of {l : List Opn} (h : muchN l 12 = false) : Script l := by
  unfold muchN at h
  rw [Bool.or_eq_false_iff] at h
  obtain ⟨h1, h2⟩ := h
  have h1 := of_decide_eq_false h1
  have h3 : ∀ o ∈ l, ¬ ((o.a.length : Int) > 300 ∨ (o.b.length : Int) > 300 ∨ (o.data.length : Int) > 1100) := fun o ho hbad => (List.any_eq_false.1 h2 o ho) (decide_eq_true hbad)
  exact ⟨by omega, fun o ho => by have := h3 o ho; omega, fun o ho => by have := h3 o ho; omega, fun o ho => by have := h3 o ho; omega⟩
theorem hist_ok (l : List Opn) (h : muchN l 12 = false → Ways (playN l)) : Ev cfg 3 [.sl (l.map encOpn)] (.ret (.d (.bool true))) := by
  refine ev_of rfl rfl body3 ?_
  show Wp cfg (Try.f3.body.getD .skip) ((.d (.sl (l.map encOpn))) :: (.tup []) :: (.tup []) :: (.tup []) :: (.tup []) :: (.tup []) :: (.tup []) :: (.tup []) :: (.tup []) :: (.tup []) :: (.tup []) :: (.tup []) :: (.tup []) :: (.tup []) :: (.tup []) :: (.tup []) :: (.tup []) :: (.tup []) :: (.tup []) :: (.tup []) :: (.tup []) :: (.tup []) :: (.tup []) :: (.tup []) :: (.tup []) :: (.tup []) :: (.tup []) :: (.tup []) :: (.tup []) :: (.tup []) :: (.tup []) :: (.tup []) :: (.tup []) :: (.tup []) :: (.tup []) :: (.tup []) :: (.tup []) :: (.tup []) :: (.tup []) :: (.tup []) :: (.tup []) :: (.tup []) :: (.tup []) :: (.tup []) :: (.tup []) :: (.tup []) :: (.tup []) :: (.tup []) :: (.tup []) :: (.tup []) :: (.tup []) :: (.tup []) :: (.tup []) :: (.tup []) :: (.tup []) :: (.tup []) :: (.tup []) :: (.tup []) :: (.tup []) :: (.tup []) :: (.tup []) :: (.tup []) :: (.tup []) :: (.tup []) :: (.tup []) :: (.tup []) :: (.tup []) :: (.tup []) :: (.tup []) :: (.tup []) :: (.tup []) :: (.tup []) :: (.tup []) :: (.tup []) :: (.tup []) :: (.tup []) :: (.tup []) :: (.tup []) :: (.tup []) :: (.tup []) :: (.tup []) :: (.tup []) :: (.tup []) :: (.tup []) :: (.tup []) :: (.tup []) :: (.tup []) :: (.tup []) :: (.tup []) :: (.tup []) :: (.tup []) :: (.tup []) :: (.tup []) :: []) [] [] _
  conv => arg 2; whnf
  have h12 : (12 : Int) ≤ 1000 := by omega
  cases hm : muchN l 12 with
  | true =>
    simp (maxSteps := 1000000) (disch := first | assumption | omega | rfl) only [↓vmp, vme, vmb, ty, hP, dec_t, dec_f, wrap64, List.length_map, Int.toNat_natCast, Nat.reduceAdd, List.cons_append, List.nil_append, Option.map_some, Option.map_none, strOf_mk, sb_eql, sb_neq, vmg, ↓vgd, ↓vst, ↓vix, call_much, hm, call_works]
    exact retQ_one rfl rfl rfl
  | false =>
    have hsc := script_of hm
    have hS : Small (1 + 5 * l.length) (playN l) := Small.playA Small.new
    have hk0 : 1 + 5 * l.length < 300000 := by have := hsc.len; omega
    simp (maxSteps := 1000000) (disch := first | assumption | omega | rfl) only [↓vmp, vme, vmb, ty, hP, dec_t, dec_f, wrap64, List.length_map, Int.toNat_natCast, Nat.reduceAdd, List.cons_append, List.nil_append, Option.map_some, Option.map_none, strOf_mk, sb_eql, sb_neq, vmg, ↓vgd, ↓vst, ↓vix, call_much, hm, call_play hsc, call_to hS hk0]
    refine outer_l (playN l) _ hk0 hS (h hm) _ _ _ _ (playN l).length 0 _ _ _ _ _ _ _ _ _ _ _ _ _ _ _ _ _ _ _ _ _ _ _ _ _ _ _ _ _ _ _ _ _ _ _ _ _ _ _ _ _ _ _ _ _ _ _ _ _ _ _ _ _ _ _ _ _ _ _ _ _ _ _ _ _ _ _ _ _ _ _ _ _ _ _ _ _ _ _ _ _ _ _ _ _ _ _ _ _ rfl (by omega) ?_
    intro S i' v5 v6 v7 v8 g9 g10 g11 g12 g13 g14 g15 g16 g17 g18 g19 g20 g21 g22 g23 g24 g25 g26 g27 g28 g29 g30 g31 g32 g33 g34 g35 g36 g37 g38 g39 g40 g41 g42 g43 g44 g45 g46 g47 g48 g49 g50 g51 g52 g53 g54 g55 g56 g57 g58 g59 g60 g61 g62 g63 g64 g65 g66 g67 g68 g69 g70 g71 g72 g73 g74 g75 g76 g77 g78 g79 g80 g81 g82 g83 g84 g85 g86 g87 g88 g89 g90 g91 g92
    simp (maxSteps := 1000000) (disch := first | assumption | omega | rfl) only [↓vmp, vme, vmb, ty, hP, dec_t, dec_f, wrap64, List.length_map, Int.toNat_natCast, Nat.reduceAdd, List.cons_append, List.nil_append, Option.map_some, Option.map_none, strOf_mk, sb_eql, sb_neq, vmg, ↓vgd, ↓vst, ↓vix, call_works]
    exact retQ_one rfl rfl rfl
end Go.Proofs.Ytghllhghboaagaa
end
/-! The ways up to the root; a renaming keeps a tree right; so does a script. Plain. -/
section
set_option linter.unusedVariables false
set_option linter.unusedSimpArgs false
namespace Go.Proofs.Ytghllhghboaagaa
open Go.Vm
theorem hasN_of {t : List Node} {x : Int} (h : (getN t x).kind = 2) : hasN t x = true := by
  unfold hasN
  cases hf : t.find? (fun n => decide (n.ino = x)) with
  | none => unfold getN at h; rw [hf] at h; simp [zeroNode] at h
  | some n => rfl
theorem hasN_mem {t : List Node} {x : Int} (h : hasN t x = true) : x ∈ t.map (·.ino) := by
  unfold hasN at h
  cases hf : t.find? (fun n => decide (n.ino = x)) with
  | none => rw [hf] at h; cases h
  | some n =>
    have h1 := List.mem_of_find?_eq_some hf
    have h2 := List.find?_some hf
    exact List.mem_map.2 ⟨n, h1, by simpa using h2⟩
theorem up_chain {t : List Node} {x : Int} (hr : (getN t 1).kind = 2) (h : Up (getN t) 0 x) : ∃ c, Chain t (x :: c) ∧ ∀ y ∈ x :: c, (getN t y).kind = 2 := by
  induction h with
  | root _ => exact ⟨[], ⟨hasN_of hr, rfl⟩, fun y hy => by simp at hy; rw [hy]; exact hr⟩
  | @step x a b c _ ih =>
    obtain ⟨l, h1, h2⟩ := ih
    refine ⟨_ :: l, ⟨hasN_of b, c, rfl, h1⟩, fun y hy => ?_⟩
    rcases List.mem_cons.1 hy with rfl | hy
    · exact b
    · exact h2 y hy
theorem chain_uniq {t : List Node} : ∀ {c c' : List Int} {x : Int}, Chain t (x :: c) → Chain t (x :: c') → c = c'
  | [], [], x, _, _ => rfl
  | [], j :: r, x, h, h' => absurd h.2 h'.2.1
  | j :: r, [], x, h, h' => absurd h'.2 h.2.1
  | j :: r, j' :: r', x, h, h' => by
    have e : j = j' := h.2.2.1.symm.trans h'.2.2.1
    subst e
    rw [chain_uniq h.2.2.2 h'.2.2.2]
theorem chain_suffix {t : List Node} : ∀ {c : List Int} {x y : Int}, Chain t (x :: c) → y ∈ c → ∃ c', Chain t (y :: c') ∧ c'.length < c.length
  | [], x, y, _, hy => by simp at hy
  | j :: r, x, y, h, hy => by
    rcases List.mem_cons.1 hy with rfl | hy
    · exact ⟨r, h.2.2.2, by simp⟩
    · obtain ⟨c', h1, h2⟩ := chain_suffix h.2.2.2 hy
      exact ⟨c', h1, by simp; omega⟩
theorem chain_nodup {t : List Node} : ∀ {c : List Int} {x : Int}, Chain t (x :: c) → (x :: c).Nodup
  | [], x, _ => by simp
  | j :: r, x, h => by
    refine List.nodup_cons.2 ⟨fun hx => ?_, chain_nodup h.2.2.2⟩
    obtain ⟨c', h1, h2⟩ := chain_suffix h hx
    rw [chain_uniq h1 h] at h2
    omega
theorem chain_has {t : List Node} : ∀ {c : List Int} {x : Int}, Chain t (x :: c) → ∀ y ∈ x :: c, hasN t y = true
  | [], x, h, y, hy => by simp at hy; rw [hy]; exact h.1
  | j :: r, x, h, y, hy => by
    rcases List.mem_cons.1 hy with rfl | hy
    · exact h.1
    · exact chain_has h.2.2.2 y hy
theorem nodup_len : ∀ {l m : List Int}, l.Nodup → (∀ x ∈ l, x ∈ m) → l.length ≤ m.length
  | [], m, _, _ => Nat.zero_le _
  | x :: r, m, hn, hs => by
    obtain ⟨h1, h2⟩ := List.nodup_cons.1 hn
    have hx := hs x (by simp)
    have := nodup_len (l := r) (m := m.erase x) h2 (fun y hy => (List.mem_erase_of_ne (fun h : y = x => h1 (by rw [← h]; exact hy))).2 (hs y (by simp [hy])))
    rw [List.length_erase_of_mem hx] at this
    have := List.length_pos_of_mem hx
    simp only [List.length_cons]
    omega
theorem chain_len {t : List Node} {c : List Int} {x : Int} (h : Chain t (x :: c)) : (x :: c).length ≤ t.length := by
  have := nodup_len (m := t.map (·.ino)) (chain_nodup h) (fun y hy => hasN_mem (chain_has h y hy))
  rwa [List.length_map] at this
theorem chain_below {t : List Node} {i : Int} : ∀ {c : List Int} {x : Int} {k : Nat}, Chain t (x :: c) → i ∈ x :: c → (x :: c).length ≤ k → belowN t i k x = true
  | _, x, 0, _, _, hk => by simp at hk
  | [], x, k + 1, _, hi, _ => by simp at hi; rw [hi]; simp [belowN]
  | j :: r, x, k + 1, h, hi, hk => by
    unfold belowN
    split
    · rfl
    · rename_i hx
      rw [h.2.2.1]
      refine chain_below h.2.2.2 ?_ (by simpa using hk)
      rcases List.mem_cons.1 hi with rfl | hi
      · exact absurd rfl hx
      · exact hi
theorem chain_up {t : List Node} {i : Int} : ∀ {c : List Int} {x : Int}, Chain t (x :: c) → (∀ y ∈ x :: c, (getN t y).kind = 2) → i ∉ x :: c → Up (getN t) i x
  | [], x, h, _, hi => by
    have hx : x = 1 := h.2
    rw [hx] at hi ⊢
    exact .root (fun hh => hi (by simp [hh]))
  | j :: r, x, h, hk, hi => by
    refine .step (fun hh => hi (by simp [hh])) (hk x (by simp)) h.2.1 ?_
    rw [h.2.2.1]
    exact chain_up h.2.2.2 (fun y hy => hk y (by simp [hy])) (fun hh => hi (by simp [hh]))
theorem not_below {t : List Node} {i d : Int} (h : TInv t 1) (hd : (getN t d).kind = 2) (hb : belowN t i (t.length + 1) d = false) : Up (getN t) i d := by
  obtain ⟨c, h1, h2⟩ := up_chain h.inv.root (h.inv.way d hd)
  refine chain_up h1 h2 fun hi => ?_
  rw [chain_below h1 hi (by have := chain_len h1; omega)] at hb
  cases hb
theorem getN_put {t : List Node} {d y x : Int} {s : List UInt8} (hu : Uniq t) (hd : (getN t d).kind = 2) : (getN (putN t d s x) y).kind = (getN t y).kind ∧ (getN (putN t d s x) y).parent = (getN t y).parent ∧ (y = d → ∀ e, e ∈ (getN (putN t d s x) y).names ↔ (e = ⟨s, x⟩ ∨ e ∈ (getN t d).names)) := by
  unfold putN
  rw [getN_with hu]
  unfold upd
  have hi : (getN t d).ino = d := dir_ino hd
  simp only [hi]
  split
  · rename_i h
    rw [h]
    refine ⟨rfl, rfl, fun _ e => ?_⟩
    exact mem_putA.trans (by simp)
  · rename_i h
    exact ⟨rfl, rfl, fun hh => absurd hh h⟩
theorem TInv.rename {t : List Node} {o : Opn} (h : TInv t 1) : TInv (renameN t o).1 1 := by
  unfold renameN
  split
  · exact h
  · rename_i h1
    split
    · exact h
    · rename_i h2
      split
      · exact h
      · rename_i h3
        have hf := whereN_dir (t := t) (s := o.a) (by simpa using h1)
        have hd := whereN_dir (t := t) (s := o.b) (by simpa using h3)
        generalize whereN t o.a = w at *
        generalize whereN t o.b = v at *
        obtain ⟨f, old, _⟩ := w
        obtain ⟨d, s, _⟩ := v
        simp only at *
        obtain ⟨e0, he0, hs0, hi0⟩ := nameN_some (l := (getN t f).names) (s := old) (by omega)
        have hge : 2 ≤ nameN (getN t f).names old := by rw [← hi0]; exact h.inv.ge2 _ e0 he0
        have hall : ∀ e ∈ (getN t f).names, e.name = old → e.ino = nameN (getN t f).names old := fun e he hs => by
          rw [← hi0]; exact h.inv.un _ e he e0 he0 (hs.trans hs0.symm)
        generalize nameN (getN t f).names old = ino at *
        unfold renameA
        split
        · exact h
        · rename_i h4
          split
          · exact h
          · rename_i h5
            split
            · exact h
            · rename_i h6
              split
              · exact h
              · rename_i h7
                unfold renamed
                by_cases hk : (getN t ino).kind = 2
                · -- a directory
                  have hw : ¬ 0 ≤ nameN (getN t d).names s := fun hh => h6 ⟨hh, hk⟩
                  have hbl : belowN t ino (t.length + 1) d = false := by
                    cases hb : belowN t ino (t.length + 1) d with
                    | false => rfl
                    | true => exact absurd ⟨hk, hb⟩ h5
                  have hid : d ≠ ino := fun hh => by rw [hh] at hbl; simp [belowN] at hbl
                  have hup := not_below h hd hbl
                  have hfresh := nameN_none (h.inv.ge2 d) (Int.not_le.1 hw)
                  simp only [if_neg hw, if_pos hk]
                  have hD : TInv (dropN t f old) ino := TInv.drop ⟨h.uniq, h.inv.any⟩ hf (fun e he hs => .inr (hall e he hs))
                  have hkd : (getN (dropN t f old) d).kind = 2 := by rw [(drop_kind h.uniq hf).1]; exact hd
                  have hP : TInv (putN (dropN t f old) d s ino) ino := hD.put hkd (fun e he => hfresh e ((drop_names h.uniq hf) e he).1) hge (fun hh => absurd rfl hh)
                  have hk2 : ∀ y, (getN (putN (dropN t f old) d s ino) y).kind = (getN t y).kind := fun y => by
                    rw [(getN_put hD.uniq hkd).1, (drop_kind h.uniq hf).1]
                  have hp2 : ∀ y, (getN (putN (dropN t f old) d s ino) y).parent = (getN t y).parent := fun y => by
                    rw [(getN_put hD.uniq hkd).2.1, (drop_kind h.uniq hf).2.1]
                  refine ⟨uniq_with hP.uniq, ?_⟩
                  rw [getN_with hP.uniq]
                  have hki : (getN (putN (dropN t f old) d s ino) ino).kind = 2 := by rw [hk2]; exact hk
                  exact hP.inv.move (i := ino) (d := d) (dir_ino hki) hki hki (by omega) rfl rfl rfl (by rw [hk2]; exact hd) hid
                    ⟨⟨s, ino⟩, ((getN_put hD.uniq hkd).2.2 rfl _).2 (.inl rfl), rfl⟩ (hup.mono fun y hy _ => ⟨by rw [hk2]; exact hy, hp2 y⟩)
                · -- a file
                  simp only [if_neg hk]
                  have main : ∀ u : List Node, TInv u 1 → (getN u f).kind = 2 → (getN u d).kind = 2 → (∀ e ∈ (getN u f).names, e ∈ (getN t f).names) → (∀ e ∈ (getN u d).names, e.name ≠ s) → (getN u ino).kind ≠ 2 → TInv (putN (dropN u f old) d s ino) 1 := fun u hu kf kd nf nd ki => by
                    have hD : TInv (dropN u f old) 1 := hu.drop kf (fun e he hs => .inl (by rw [hall e (nf e he) hs]; exact ki))
                    exact hD.put (by rw [(drop_kind hu.uniq kf).1]; exact kd) (fun e he => nd e ((drop_names hu.uniq kf) e he).1) hge (fun hh => absurd rfl hh)
                  split
                  · rename_i hw
                    have hkw : (getN t (nameN (getN t d).names s)).kind ≠ 2 := fun hh => h7 ⟨hw, hh⟩
                    obtain ⟨e1, he1, hs1, hi1⟩ := nameN_some hw
                    have hall1 : ∀ e ∈ (getN t d).names, e.name = s → e.ino = nameN (getN t d).names s := fun e he hs => by
                      rw [← hi1]; exact h.inv.un _ e he e1 he1 (hs.trans hs1.symm)
                    generalize nameN (getN t d).names s = was at *
                    have hD : TInv (dropN t d s) 1 := h.drop hd (fun e he hs => .inl (by rw [hall1 e he hs]; exact hkw))
                    have hL : TInv (losesN (dropN t d s) was) 1 := hD.loses (by rw [(drop_kind h.uniq hd).1]; exact hkw)
                    have hnf : f ≠ was := fun hh => by rw [hh] at hf; exact hkw hf
                    have hnd : d ≠ was := fun hh => by rw [hh] at hd; exact hkw hd
                    refine main _ hL ?_ ?_ ?_ ?_ ?_
                    · rw [getN_loses hD.uniq hnf, (drop_kind h.uniq hd).1]; exact hf
                    · rw [getN_loses hD.uniq hnd, (drop_kind h.uniq hd).1]; exact hd
                    · rw [getN_loses hD.uniq hnf]; exact fun e he => ((drop_names h.uniq hd) e he).1
                    · rw [getN_loses hD.uniq hnd]; exact fun e he => ((drop_names h.uniq hd) e he).2 rfl
                    · rw [getN_loses hD.uniq (fun hh => h4 hh.symm), (drop_kind h.uniq hd).1]; exact hk
                  · rename_i hw
                    exact main t h hf hd (fun e he => he) (nameN_none (h.inv.ge2 d) (Int.not_le.1 hw)) hk
theorem TInv.step {t : List Node} {o : Opn} (h : TInv t 1) : TInv (stepN t o).1 1 := by
  unfold stepN
  split
  · exact h
  · rename_i hm
    repeat' split
    · exact h.make
    · exact h.link
    · exact h.remove (by omega)
    · exact h.rename
    · exact h.bytes
    · exact h
    · exact h
theorem getN_new (x : Int) : getN newN x = if x = 1 then ⟨1, 2, 1, 1, 0, [], []⟩ else zeroNode := by
  unfold getN newN
  by_cases hx : x = 1
  · subst hx; rfl
  · have : ¬ (1 : Int) = x := fun hh => hx hh.symm
    simp [hx, this]
theorem TInv.new : TInv newN 1 := by
  have hn : ∀ x, (getN newN x).names = [] := fun x => by rw [getN_new]; split <;> rfl
  have hk : ∀ x, (getN newN x).kind = 2 → x = 1 := fun x hx => by
    rw [getN_new] at hx
    split at hx
    · assumption
    · simp [zeroNode] at hx
  refine ⟨fun n hn m hm _ => ?_, ⟨rfl, fun x e he => by rw [hn] at he; simp at he, fun x e he => by rw [hn] at he; simp at he, fun x hx => by rw [hk x hx]; rfl, fun x hx n1 _ => absurd (hk x hx) n1, fun x hx => by rw [hk x hx]; exact .root (by omega), fun x hx => by rw [hk x hx]; omega⟩⟩
  simp only [newN, List.mem_singleton] at hn hm
  rw [hn, hm]
theorem TInv.play (l : List Opn) : TInv (playN l) 1 := by
  have : ∀ (l : List Opn) (t : List Node), TInv t 1 → TInv (l.foldl (fun t o => (stepN t o).1) t) 1 := fun l => by
    induction l with
    | nil => exact fun t h => h
    | cons o r ih => exact fun t h => ih _ h.step
  exact this l newN TInv.new
/-- Behind any script each directory has a way up to the root. -/
theorem ways_play (l : List Opn) : Ways (playN l) := by
  have h := TInv.play l
  intro n hn hk
  have hg := getN_mem h.uniq hn
  have hk2 : (getN (playN l) n.ino).kind = 2 := by rw [hg]; exact hk
  obtain ⟨c, h1, _⟩ := up_chain h.inv.root (h.inv.way _ hk2)
  exact ⟨n.ino :: c, c, rfl, h1, chain_nodup h1, chain_len h1⟩
theorem histUps_ok (l : List Opn) : Ev cfg 3 [.sl (l.map encOpn)] (.ret (.d (.bool true))) := hist_ok l fun _ => ways_play l
end Go.Proofs.Ytghllhghboaagaa
end
/-! The value machine: arguments that can be read, as data; and what a row's statement asks behind a call. -/
section
set_option linter.unusedVariables false
set_option linter.unusedSimpArgs false
namespace Go.Vm
open Go.ChangeShapes Go.RowKit

/-- The forms of data that a law is handed. -/
inductive Ty where
  | bool
  | int (k : IntKind)
  | str
  | sl (e : Ty)
  | agg (fs : List Ty)
  deriving Inhabited
def Ty.isAgg : Ty → Bool | .agg _ => true | _ => false
def Ty.cells : Ty → List Ty | .agg fs => fs | .bool => [.bool] | .int k => [.int k] | .str => [.str] | .sl e => [.sl e]
def ofFields (P : Program) (g : TypeId → Option Ty) : List Field → Nat → Option (List Ty)
  | [], _ => some []
  | f :: r, off => match g f.type with
    | some x => if f.offset = off ∧ P.cellsOf f.type = x.cells.length then match ofFields P g r (off + x.cells.length) with
      | some l => some (x.cells ++ l)
      | none => none
      else none
    | none => none
def ofType (P : Program) : Nat → TypeId → Option Ty
  | 0, _ => none
  | n + 1, t => match P.underlying t with
    | some .bool => some .bool
    | some (.int k) => some (.int k)
    | some .string => some .str
    | some (.slice e) => match ofType P n e with
      | some x => if P.cellsOf e = x.cells.length ∧ x.cells.length ≠ 0 then some (.sl x) else none
      | none => none
    | some (.struct fs) => match ofFields P (ofType P n) fs.toList 0 with
      | some l => if P.cellsOf t = l.length then some (.agg l) else none
      | none => none
    | some (.array m e) => match ofType P n e with
      | some x => if P.cellsOf e = x.cells.length ∧ P.cellsOf t = m * x.cells.length then some (.agg (List.replicate m x.cells).flatten) else none
      | none => none
    | _ => none

mutual
def HasTy : Ty → D → Prop
  | .bool, x => ∃ b, x = .bool b
  | .int k, x => ∃ n, x = .int k n ∧ k.min ≤ n ∧ n ≤ k.max
  | .str, x => ∃ s, x = .str s ∧ s.length ≤ maxLen
  | .sl e, x => ∃ xs, x = .sl xs ∧ xs.length ≤ maxLen ∧ ∀ y ∈ xs, HasTy e y
  | .agg fs, x => ∃ xs, x = .agg xs ∧ HasL fs xs
def HasL : List Ty → List D → Prop
  | [], xs => xs = []
  | t :: ts, xs => ∃ y r, xs = y :: r ∧ HasTy t y ∧ HasL ts r
end
theorem hasTy_agg {t : Ty} {x : D} (h : HasTy t x) : x.isAgg = t.isAgg := by
  cases t <;> simp only [HasTy] at h <;> obtain ⟨_, rfl, _⟩ := h <;> rfl
theorem hasL_append : ∀ {ts us : List Ty} {xs ys : List D}, HasL ts xs → HasL us ys → HasL (ts ++ us) (xs ++ ys)
  | [], us, xs, ys, h, h' => by simp only [HasL] at h; subst h; exact h'
  | t :: ts, us, xs, ys, h, h' => by
    simp only [HasL] at h
    obtain ⟨y, r, rfl, h1, h2⟩ := h
    simp only [List.cons_append, HasL]
    exact ⟨y, r ++ ys, rfl, h1, hasL_append h2 h'⟩
theorem hasTy_cells {t : Ty} {x : D} (h : HasTy t x) : HasL t.cells x.cells := by
  cases t with
  | agg fs => simp only [HasTy] at h; obtain ⟨xs, rfl, h⟩ := h; exact h
  | _ =>
    have h' := h
    simp only [HasTy] at h
    obtain ⟨_, rfl, _⟩ := h
    simp only [Ty.cells, D.cells, HasL]
    exact ⟨_, [], rfl, h', rfl⟩
section
variable {P : Program} {H : Type} {enc : TypeId × Value → H} {w : World}

theorem mapM_cons_some {α β : Type} {f : α → Option β} {x : α} {r : List α} {ys : List β} (h : (x :: r).mapM f = some ys) : ∃ y zs, f x = some y ∧ r.mapM f = some zs ∧ ys = y :: zs := by
  rw [List.mapM_cons] at h
  cases h1 : f x with
  | none => simp [h1] at h
  | some y =>
    cases h2 : r.mapM f with
    | none => simp [h1, h2] at h
    | some zs => simp [h1, h2] at h; exact ⟨y, zs, rfl, rfl, h.symm⟩
theorem mapM_nil_some {α β : Type} {f : α → Option β} {ys : List β} (h : ([] : List α).mapM f = some ys) : ys = [] := by simpa using h.symm
theorem cells?_spec {base : Nat} {a : Addr} {n : Nat} {us : List Value} (h : w.cells? base a n = some us) : us.length = n ∧ ∀ j v, us[j]? = some v → w.cell? (a.add j) = some v := by
  unfold World.cells? at h
  split at h
  · have key : ∀ (m s : Nat) (us : List Value), (List.range' s m).mapM (fun i => w.cell? (a.add i)) = some us → us.length = m ∧ ∀ j v, us[j]? = some v → w.cell? (a.add (s + j)) = some v := by
      intro m
      induction m with
      | zero => intro s us h; have := mapM_nil_some h; subst this; exact ⟨rfl, fun j v h => by simp at h⟩
      | succ m ih =>
        intro s us h
        rw [List.range'_succ] at h
        obtain ⟨y, zs, h1, h2, rfl⟩ := mapM_cons_some h
        obtain ⟨g1, g2⟩ := ih (s + 1) zs h2
        refine ⟨by simp [g1], fun j v hj => ?_⟩
        cases j with
        | zero => simp at hj; subst hj; exact h1
        | succ j => simp at hj; have := g2 j v hj; rw [show s + (j + 1) = s + 1 + j by omega]; exact this
    rw [List.range_eq_range'] at h
    obtain ⟨g1, g2⟩ := key n 0 us h
    exact ⟨g1, fun j v hj => by simpa using g2 j v hj⟩
  · cases h
theorem cellsAt_of {a : Addr} {us : List Value} (hne : us ≠ []) (h : ∀ j v, us[j]? = some v → w.cell? (a.add j) = some v) : a.spot = none ∧ a.block < w.heap.size ∧ CellsAt w a.block a.off us := by
  have h0 : ∃ v, us[0]? = some v := by cases us with | nil => exact absurd rfl hne | cons x r => exact ⟨x, rfl⟩
  obtain ⟨v, hv⟩ := h0
  have := h 0 v hv
  rw [Addr.add_zero'] at this
  unfold World.cell? at this
  cases hb : w.heap[a.block]? with
  | none => simp [hb] at this
  | some o =>
    cases o with
    | cells c e f =>
      simp only [hb] at this
      split at this
      · cases this
      · rename_i hs
        refine ⟨by simpa using hs, lt_of_heap hb, c, e, f, hb, fun j v hj => ?_⟩
        have := h j v hj
        unfold World.cell? at this
        have hbl : (a.add j).block = a.block := by unfold Addr.add; split <;> rfl
        have hoff : (a.add j).off = a.off + j := by unfold Addr.add; split <;> simp_all
        simp only [hbl, hb] at this
        split at this
        · cases this
        · rw [hoff] at this; exact this
    | _ => simp [hb] at this

theorem addr_add_add (a : Addr) (m n : Nat) : (a.add m).add n = a.add (m + n) := by
  unfold Addr.add
  by_cases h : m = 0 <;> by_cases h' : n = 0 <;> simp [h, h', Nat.add_assoc]
abbrev Old (w : World) (b : Nat) : Prop := b < w.heap.size
theorem repL_append' {A : Nat → Prop} : ∀ {xs ys : List D} {us vs : List Value}, RepL A w xs us → RepL A w ys vs → RepL A w (xs ++ ys) (us ++ vs)
  | [], ys, us, vs, h, h' => by simp only [RepL] at h; subst h; exact h'
  | x :: r, ys, us, vs, h, h' => by
    simp only [RepL] at h
    obtain ⟨v, us', rfl, h1, h2, h3⟩ := h
    simp only [List.cons_append, RepL]
    exact ⟨v, us' ++ vs, rfl, h1, h2, repL_append' h3 h'⟩

theorem hasL_length : ∀ {ts : List Ty} {xs : List D}, HasL ts xs → xs.length = ts.length
  | [], xs, h => by simp only [HasL] at h; simp [h]
  | t :: ts, xs, h => by
    simp only [HasL] at h
    obtain ⟨y, r, rfl, _, h2⟩ := h
    simp [hasL_length h2]
theorem fields_rep {base : Nat} {spare : Nat → Bool} {held : Bool} {g : TypeId → Option Ty} {cs : List Value} {fu : Nat} (ih : ∀ {t : TypeId} {cs : List Value} {z : DataW H × List MemPlace} {T : Ty}, DataW.trod enc P w base spare held fu t cs = some z → g t = some T → ∃ x, HasTy T x ∧ RepC (Old w) w x cs) :
    ∀ {l : List Field} {off : Nat} {ts : List Ty}, ofFields P g l off = some ts → (∀ f ∈ l, ∃ z, DataW.trod enc P w base spare held fu f.type ((cs.drop f.offset).take (P.cellsOf f.type)) = some z) → ∃ xs, HasL ts xs ∧ RepL (Old w) w xs ((cs.drop off).take ts.length)
  | [], off, ts, h, _ => by
    simp only [ofFields, Option.some.injEq] at h; subst h
    exact ⟨[], rfl, by simp [RepL]⟩
  | f :: r, off, ts, h, hz => by
    simp only [ofFields] at h
    cases hg : g f.type with
    | none => simp [hg] at h
    | some T =>
      simp only [hg] at h
      split at h
      · rename_i hc
        obtain ⟨rfl, hc2⟩ := hc
        cases hr : ofFields P g r (f.offset + T.cells.length) with
        | none => simp [hr] at h
        | some l =>
          simp only [hr, Option.some.injEq] at h; subst h
          obtain ⟨z, hz1⟩ := hz f (by simp)
          obtain ⟨x, hx, hrx⟩ := ih hz1 hg
          obtain ⟨xs, h1, h2⟩ := fields_rep ih hr (fun f' hf' => hz f' (by simp [hf']))
          refine ⟨x.cells ++ xs, hasL_append (hasTy_cells hx) h1, ?_⟩
          have e : (cs.drop f.offset).take (T.cells ++ l).length = (cs.drop f.offset).take (P.cellsOf f.type) ++ (cs.drop (f.offset + T.cells.length)).take l.length := by
            rw [List.length_append, List.take_add, hc2, List.drop_drop]
          rw [e]
          exact repL_append' (repC_cells hrx) h2
      · cases h
/-- What can be read reads as data. -/
theorem trod_rep {base : Nat} {spare : Nat → Bool} {held : Bool} : ∀ (n : Nat) (fuel : Nat) {t : TypeId} {cs : List Value} {z : DataW H × List MemPlace} {T : Ty}, DataW.trod enc P w base spare held fuel t cs = some z → ofType P n t = some T → ∃ x, HasTy T x ∧ RepC (Old w) w x cs := by
  intro n
  induction n with
  | zero => intro fuel t cs z T h hT; simp [ofType] at hT
  | succ n ih =>
    intro fuel t cs z T h hT
    simp only [ofType] at hT
    cases hu : P.underlying t with
    | none => simp [hu] at hT
    | some td =>
      simp only [hu] at hT
      cases td with
      | bool =>
        simp only [Option.some.injEq] at hT; subst hT
        obtain ⟨b, rfl, _⟩ := DataW.trod_bool hu h
        exact ⟨.bool b, ⟨b, rfl⟩, by simp [RepC]⟩
      | int k =>
        simp only [Option.some.injEq] at hT; subst hT
        obtain ⟨m, rfl, _, hwf⟩ := DataW.trod_int hu h
        exact ⟨.int k m, ⟨m, rfl, by simpa [Lit.wf] using hwf⟩, by simp [RepC]⟩
      | string =>
        simp only [Option.some.injEq] at hT; subst hT
        obtain ⟨s, rfl, _, hl⟩ := DataW.trod_string hu h
        exact ⟨.str s.data.toList, ⟨_, rfl, hl⟩, by simp [RepC]⟩
      | slice e =>
        simp only at hT
        cases he : ofType P n e with
        | none => simp [he] at hT
        | some E =>
          simp only [he] at hT
          split at hT
          · rename_i hc
            obtain ⟨hc, hne⟩ := hc
            simp only [Option.some.injEq] at hT; subst hT
            rcases Go.Deep.open_slice hu h with ⟨rfl, _⟩ | ⟨a, len, cap, m, fu, D0, Pl, rfl, _, hle, hcap, hm, _, hel⟩
            · refine ⟨.sl [], ⟨[], rfl, by simp, by simp⟩, ?_⟩
              simp only [RepC]
              exact ⟨none, 0, rfl, Nat.le_refl _, .inl trivial⟩
            · have hlm : len ≤ m := by rw [hm]; split <;> omega
              rw [hc] at hel
              -- the elements, from one index on
              have key : ∀ (l s : Nat), s + l ≤ m → ∃ xs us, xs.length = l ∧ us.length = l * E.cells.length ∧ (∀ y ∈ xs, HasTy E y) ∧ RepE (Old w) w E.cells.length xs us ∧ ∀ j v, us[j]? = some v → w.cell? (a.add (s * E.cells.length + j)) = some v := by
                intro l
                induction l with
                | zero => intro s _; exact ⟨[], [], rfl, by simp, by simp, by simp [RepE], fun j v h => by simp at h⟩
                | succ l ihl =>
                  intro s hs
                  obtain ⟨cs', g1, g2⟩ := hel s (by omega)
                  obtain ⟨x, hx, hr⟩ := ih fu g2 he
                  obtain ⟨k1, k2⟩ := cells?_spec g1
                  obtain ⟨xs, us, f1, f2, f3, f4, f5⟩ := ihl (s + 1) (by omega)
                  refine ⟨x :: xs, cs' ++ us, by simp [f1], by simp [k1, f2, Nat.succ_mul]; omega, fun y hy => ?_, ?_, fun j v hj => ?_⟩
                  · rcases List.mem_cons.1 hy with rfl | hy
                    · exact hx
                    · exact f3 y hy
                  · simp only [RepE]
                    exact ⟨cs', us, rfl, k1, hr, f4⟩
                  · rw [List.getElem?_append] at hj
                    split at hj
                    · have := k2 j v hj
                      rwa [addr_add_add] at this
                    · rename_i hlt
                      have := f5 _ v hj
                      rw [show s * E.cells.length + j = (s + 1) * E.cells.length + (j - cs'.length) by rw [Nat.succ_mul]; omega]
                      exact this
              obtain ⟨xs, us, f1, f2, f3, f4, f5⟩ := key len 0 (by omega)
              refine ⟨.sl xs, ⟨xs, rfl, by omega, f3⟩, ?_⟩
              simp only [RepC]
              refine ⟨some a, cap, by rw [f1], by omega, ?_⟩
              by_cases h0 : xs = []
              · exact .inl h0
              · right
                have hne' : us ≠ [] := by
                  intro hn
                  rw [hn] at f2
                  simp only [List.length_nil] at f2
                  have : len ≠ 0 := by
                    intro h00; rw [h00] at f1; exact h0 (List.length_eq_zero_iff.1 f1)
                  have := Nat.mul_ne_zero this hne
                  omega
                obtain ⟨c1, c2, c3⟩ := cellsAt_of hne' (fun j v hj => by simpa using f5 j v hj)
                exact ⟨a, _, us, rfl, c1, c2, c3, f4⟩
          · cases hT
      | struct fs =>
        simp only at hT
        cases hf : ofFields P (ofType P n) fs.toList 0 with
        | none => simp [hf] at hT
        | some l =>
          simp only [hf] at hT
          split at hT
          · rename_i hc
            simp only [Option.some.injEq] at hT; subst hT
            obtain ⟨xs, fu, _, _, hl, hxl, hel⟩ := DataW.trod_struct hu h
            obtain ⟨ys, h1, h2⟩ := fields_rep (fun a b => ih fu a b) hf (fun f hf' => by
              obtain ⟨i, hi⟩ := List.getElem?_of_mem hf'
              have hi' : fs[i]? = some f := by simpa using hi
              have := hel i f hi'
              have hlt : i < xs.length := by
                rw [hxl]
                rcases Nat.lt_or_ge i fs.size with h' | h'
                · exact h'
                · simp [h'] at hi'
              exact ⟨xs[i], by rw [this]; simp [hlt]⟩)
            refine ⟨.agg ys, ⟨ys, rfl, h1⟩, ?_⟩
            simp only [RepC]
            rw [List.drop_zero, List.take_of_length_le (by omega)] at h2
            exact h2
          · cases hT
      | array m e =>
        simp only at hT
        cases he : ofType P n e with
        | none => simp [he] at hT
        | some E =>
          simp only [he] at hT
          split at hT
          · rename_i hc
            obtain ⟨hc, hc2⟩ := hc
            simp only [Option.some.injEq] at hT; subst hT
            obtain ⟨xs, fu, _, _, hl, hxl, hel⟩ := DataW.trod_array hu h
            rw [hc] at hel
            have key : ∀ (l s : Nat), s + l ≤ m → ∃ ys, HasL (List.replicate l E.cells).flatten ys ∧ RepL (Old w) w ys ((cs.drop (s * E.cells.length)).take (l * E.cells.length)) := by
              intro l
              induction l with
              | zero => intro s _; exact ⟨[], by simp [HasL], by simp [RepL]⟩
              | succ l ihl =>
                intro s hs
                have hlt : s < xs.length := by omega
                have h0 := hel s (by omega)
                rw [List.getElem?_eq_getElem hlt] at h0
                obtain ⟨x, hx, hr⟩ := ih fu h0 he
                obtain ⟨ys, f1, f2⟩ := ihl (s + 1) (by omega)
                refine ⟨x.cells ++ ys, by rw [List.replicate_succ, List.flatten_cons]; exact hasL_append (hasTy_cells hx) f1, ?_⟩
                have e : (cs.drop (s * E.cells.length)).take ((l + 1) * E.cells.length) = (cs.drop (s * E.cells.length)).take E.cells.length ++ (cs.drop ((s + 1) * E.cells.length)).take (l * E.cells.length) := by
                  rw [Nat.succ_mul, Nat.add_comm (l * _), List.take_add, List.drop_drop, Nat.succ_mul]
                rw [e]
                exact repL_append' (repC_cells hr) f2
            obtain ⟨ys, f1, f2⟩ := key m 0 (by omega)
            refine ⟨.agg ys, ⟨ys, rfl, f1⟩, ?_⟩
            simp only [RepC]
            rw [Nat.zero_mul, List.drop_zero, List.take_of_length_le (by omega)] at f2
            exact f2
          · cases hT
      | _ => simp at hT

/-- All that is handed. -/
def ofTypes (P : Program) (n : Nat) : List TypeId → Option (List Ty) := allO (ofType P n)
theorem leaf_of_ok {r : Reach} {base : Nat} {t : TypeId} {v : Value} {n : Nat} {T : Ty} (hT : ofType P n t = some T) (hok : Value.okWide P w r base t v) : (T.isAgg = true ∧ ∃ us, v = .agg us) ∨ (T.isAgg = false ∧ v.cells = #[v]) := by
  cases n with
  | zero => simp [ofType] at hT
  | succ n =>
    simp only [ofType] at hT
    unfold Value.okWide at hok
    cases hu : P.underlying t with
    | none => simp [hu] at hT
    | some td =>
      simp only [hu] at hT hok
      cases td with
      | bool =>
        simp only [Option.some.injEq] at hT; subst hT
        refine .inr ⟨rfl, ?_⟩
        simp only [Cell.okWide, hu] at hok
        cases v <;> simp_all [Cell.ok, Value.cells]
      | int k =>
        simp only [Option.some.injEq] at hT; subst hT
        refine .inr ⟨rfl, ?_⟩
        simp only [Cell.okWide, hu] at hok
        cases v <;> simp_all [Cell.ok, Value.cells]
      | string =>
        simp only [Option.some.injEq] at hT; subst hT
        refine .inr ⟨rfl, ?_⟩
        simp only [Cell.okWide, hu] at hok
        cases v <;> simp_all [Cell.ok, Value.cells]
      | slice e =>
        simp only at hT
        cases he : ofType P n e with
        | none => simp [he] at hT
        | some E =>
          simp only [he] at hT
          split at hT
          · simp only [Option.some.injEq] at hT; subst hT
            refine .inr ⟨rfl, ?_⟩
            simp only [Cell.okWide, hu] at hok
            cases v <;> simp_all [Cell.ok, Value.cells]
          · cases hT
      | struct fs =>
        simp only at hT
        cases hf : ofFields P (ofType P n) fs.toList 0 with
        | none => simp [hf] at hT
        | some l =>
          simp only [hf] at hT
          split at hT
          · simp only [Option.some.injEq] at hT; subst hT
            obtain ⟨cs, h, _⟩ := hok
            exact .inl ⟨rfl, cs, h⟩
          · cases hT
      | array m e =>
        simp only at hT
        cases he : ofType P n e with
        | none => simp [he] at hT
        | some E =>
          simp only [he] at hT
          split at hT
          · simp only [Option.some.injEq] at hT; subst hT
            obtain ⟨cs, h, _⟩ := hok
            exact .inl ⟨rfl, cs, h⟩
          · cases hT
      | _ => simp at hT
theorem open_all {base : Nat} {spare : Nat → Bool} {held : Bool} {r : Reach} {b0 : Nat} {n : Nat} : ∀ {ts : List TypeId} {vs : List Value} {ds : List (DataW H)} {ps : List MemPlace} {Ts : List Ty}, DataW.TrodAll enc P w base spare held ts vs ds ps → ofTypes P n ts = some Ts →
    (∀ (j : Nat) t v, ts[j]? = some t → vs[j]? = some v → Value.okWide P w r b0 t v) → ∃ xs, HasL Ts xs ∧ RepS (Old w) w xs vs
  | [], vs, ds, ps, Ts, h, hT, _ => by
    simp only [ofTypes, allO, Option.some.injEq] at hT; subst hT
    cases vs with
    | nil => exact ⟨[], rfl, by simp [RepS]⟩
    | cons v vs => cases ds <;> simp [DataW.TrodAll] at h
  | t :: ts, vs, ds, ps, Ts, h, hT, hok => by
    obtain ⟨T, Ts', h1, h2, rfl⟩ := allO_cons hT
    cases vs with
    | nil => simp [DataW.TrodAll] at h
    | cons v vs =>
      cases ds with
      | nil => simp [DataW.TrodAll] at h
      | cons d ds =>
        obtain ⟨p, q, ⟨fu, hd⟩, hr, rfl⟩ := h
        obtain ⟨x, hx, hrx⟩ := trod_rep n fu hd h1
        obtain ⟨xs, g1, g2⟩ := open_all hr h2 (fun j t v hj hv => hok (j + 1) t v (by simpa using hj) (by simpa using hv))
        refine ⟨x :: xs, by simp only [HasL]; exact ⟨x, xs, rfl, hx, g1⟩, ?_⟩
        simp only [RepS]
        refine ⟨v, vs, rfl, ?_, g2⟩
        rcases leaf_of_ok h1 (hok 0 t v (by simp) (by simp)) with ⟨e1, us, rfl⟩ | ⟨e1, e2⟩
        · exact .inl ⟨by rw [hasTy_agg hx, e1], us, rfl, by simpa [Value.cells] using hrx⟩
        · exact .inr ⟨by rw [hasTy_agg hx, e1], by rw [e2] at hrx; simpa using hrx⟩

theorem trodAll_len {base : Nat} {spare : Nat → Bool} {held : Bool} : ∀ {ts : List TypeId} {vs : List Value} {ds : List (DataW H)} {ps : List MemPlace}, DataW.TrodAll enc P w base spare held ts vs ds ps → ds.length = ts.length
  | [], vs, ds, ps, h => by
    cases vs <;> cases ds <;> simp_all [DataW.TrodAll]
  | t :: ts, vs, ds, ps, h => by
    cases vs with
    | nil => simp [DataW.TrodAll] at h
    | cons v vs =>
      cases ds with
      | nil => simp [DataW.TrodAll] at h
      | cons d ds =>
        obtain ⟨p, q, _, hr, rfl⟩ := h
        simp [trodAll_len hr]
theorem len1 {α : Type} {l : List α} (h : l.length = 1) : ∃ a, l = [a] := List.length_eq_one_iff.1 h
theorem len2 {α : Type} {l : List α} (h : l.length = 2) : ∃ a b, l = [a, b] := by
  match l, h with
  | [a, b], _ => exact ⟨a, b, rfl⟩
theorem len3 {α : Type} {l : List α} (h : l.length = 3) : ∃ a b c, l = [a, b, c] := by
  match l, h with
  | [a, b, c], _ => exact ⟨a, b, c, rfl⟩
theorem trodVars_nil {T : List String} {gs : List (DataW H)} {q : List MemPlace} {own : Nat → Bool} (hT : T = []) (h : DataW.TrodVars enc P w own T gs q) : gs = [] := by
  subst hT
  cases gs with
  | nil => rfl
  | cons g gs => simp [DataW.TrodVars] at h
/-- The arguments read behind the call as they did. -/
theorem below_all {W W' : World} (hl : laidOutB P = true) (hb : Below W.heap.size W W') : ∀ {ts : List TypeId} {vs : List Value} {ds : List (DataW H)} {ps : List MemPlace}, (ts.all fun t => P.readableRec t && decide (t < P.types.size)) = true → DataW.TrodAll enc P W 0 (fun _ => true) true ts vs ds ps → (∀ x ∈ ps, x.block < W.heap.size) → DataW.TrodAll enc P W' 0 (fun b => decide (b < W.heap.size)) true ts vs ds ps
  | [], vs, ds, ps, _, h, _ => by
    cases vs <;> cases ds <;> simp_all [DataW.TrodAll]
  | t :: ts, vs, ds, ps, hr, h, hlt => by
    simp only [List.all_cons, Bool.and_eq_true, decide_eq_true_eq] at hr
    cases vs with
    | nil => simp [DataW.TrodAll] at h
    | cons v vs =>
      cases ds with
      | nil => simp [DataW.TrodAll] at h
      | cons d ds =>
        obtain ⟨p, q, hd, hrest, rfl⟩ := h
        exact ⟨p, q, Below.trod hl hr.1.1 hr.1.2 hd hb (fun x hx => hlt x (by simp [hx])), below_all hl hb (by simpa using hr.2) hrest (fun x hx => hlt x (by simp [hx])), rfl⟩

/-- What a law's row asks behind the call. -/
theorem law_post {f : Func} {s : ChangeSpec} {apart : Bool} {W W' : World} {args : Array Value} {ds gs : List (DataW H)} {before : List MemPlace} {t : TypeId} (hl : laidOutB P = true) (hread : (f.params.toList.all fun t => P.readableRec t && decide (t < P.types.size)) = true)
    (hW : DataW.Whole enc P f.params.toList s.vars apart W args.toList ds gs before) (hv : s.vars = []) (hres : f.resultTypes = #[t]) (hu : P.underlying t = some .bool)
    (hfn : s.fn H (ds ++ gs) = { results := [.lit (.bool true)], args := ds }) (hb : Below W.heap.size W W') : s.post enc P f apart true false false W args (.bool true) W' := by
  have hlt : ∀ x ∈ before, x.block < W.heap.size := fun x hx => by simpa using hW.lt x hx
  have hW0 := hW
  obtain ⟨p, q, hA, hV, rfl, hz, hn⟩ := hW
  refine ⟨ds, gs, p ++ q, [], p, q, hW0, ?_, ?_, ?_, hb.frame _, fun h => by cases h⟩
  · rw [hfn, hres]
    exact trodAll_mk1 (shut_bool hu true)
  · rw [hfn]
    exact below_all hl hb hread hA (fun x hx => hlt x (by simp [hx]))
  · rw [hfn]
    rw [hv] at hV ⊢
    cases gs with
    | nil => exact hV
    | cons g gs => simp [DataW.TrodVars] at hV
/-- A law that the machine answers with true. -/
theorem law_calls {C : Cfg} (hext : ExtOk C) (hcatch : CatchOk C) {n : Nat} {f : FuncId} {xs : List D} {args : Array Value} {W : World} (hrun : runD C n f xs = some (.ret (.d (.bool true)))) (hr : RepS (Old W) W xs args.toList) :
    Calls C.P f args W fun e W' => e = .returned (.bool true) ∧ Below W.heap.size W W' := by
  obtain ⟨o', ho, hcalls⟩ := runD_ok hext hcatch n f xs _ hrun
  have ho' : o' = .ret (.bool true) := by
    cases o' with
    | ret x => simp only [OutD.out, Out.ret.injEq, V.d.injEq] at ho; rw [ho]
    | tup xs => simp [OutD.out] at ho
    | pan x => simp [OutD.out] at ho
  subst ho'
  refine (hcalls (Old W) W args (fun b hb => hb) hr).mono fun e W' he => ?_
  cases e with
  | returned v =>
    obtain ⟨A', h1, h2⟩ := he
    have h2 := (repX_leaf rfl).1 h2
    simp only [RepC, List.cons.injEq, and_true] at h2
    exact ⟨by rw [h2], h1.os, h1.tape, h1.output, h1.size, h1.old⟩
  | panicked c => obtain ⟨x, v, h, _⟩ := he; cases h
  | outgrown => exact he.elim
end
end Go.Vm
end
