/- store.Format: what is written to a disk. -/
import Derived.Test.YtobgdmgldagjkaaF08
/-! store.Format: what is written to a disk. -/
section
set_option linter.unusedVariables false
set_option linter.unusedSimpArgs false
set_option maxRecDepth 100000
set_option maxHeartbeats 4000000
namespace Go.Proofs.Ytobgdmgldagjkaa
open Go.Vm
/-- All but two objects of a store stay. -/
def K2 (d r : Nat) (S S' : Store) : Prop := ∀ j o, j ≠ d → j ≠ r → S[j]? = some o → S'[j]? = some o
section
variable {d r : Nat} {S S' S'' l : Store} {o : Ob}
theorem K2.refl : K2 d r S S := fun _ _ _ _ h => h
theorem K2.trans (h : K2 d r S S') (h' : K2 d r S' S'') : K2 d r S S'' := fun j o a b c => h' j o a b (h j o a b c)
theorem K2.app (h : K2 d r S S') : K2 d r S (S' ++ l) := fun j o a b c => by
  have := h j o a b c
  rw [List.getElem?_append_left (getLen this)]; exact this
theorem K2.setd (h : K2 d r S S') : K2 d r S (S'.set d o) := fun j p a b c => by
  rw [List.getElem?_set_ne (Ne.symm a)]; exact h j p a b c
theorem K2.setr (h : K2 d r S S') : K2 d r S (S'.set r o) := fun j p a b c => by
  rw [List.getElem?_set_ne (Ne.symm b)]; exact h j p a b c
end
/-- What is laid behind the map. -/
def blkAt (no : Nat) : List UInt8 := if no = 2 then rootB else zeros 256
theorem blkAt_len (no : Nat) : (blkAt no).length = 256 := by unfold blkAt; split <;> rfl
def Fin2 (vs : List V) (B no : Nat) : Prop := vs.length = B ∧ vs[0]? = some (blkV (zeros 256)) ∧ ∀ i v, vs[i]? = some v → IsB v (if 2 ≤ i ∧ i < no then blkAt i else zeros 256)
theorem Fin2.next {vs : List V} {B no : Nat} {u : V} (h : Fin2 vs B no) (h2 : 2 ≤ no) (hu : IsB u (blkAt no)) : Fin2 (vs.set no u) B (no + 1) := by
  obtain ⟨h1, h3, h4⟩ := h
  refine ⟨by rw [List.length_set]; exact h1, by rw [List.getElem?_set_ne (by omega)]; exact h3, ?_⟩
  intro i v hv
  by_cases hi : i = no
  · subst hi
    have hlt : i < vs.length := by have := (List.getElem?_eq_some_iff.1 hv).1; rwa [List.length_set] at this
    rw [List.getElem?_set_self hlt] at hv
    cases hv
    rw [if_pos ⟨h2, by omega⟩]
    exact hu
  · rw [List.getElem?_set_ne (Ne.symm hi)] at hv
    have := h4 i v hv
    by_cases hc : 2 ≤ i ∧ i < no
    · rw [if_pos hc] at this; rw [if_pos ⟨hc.1, by omega⟩]; exact this
    · rw [if_neg hc] at this; rw [if_neg (by omega)]; exact this
theorem Fin2.at {vs : List V} {B no : Nat} (h : Fin2 vs B no) (hn : no < vs.length) : IsB vs[no] (zeros 256) := by
  have := h.2.2 no vs[no] (List.getElem?_eq_getElem hn)
  rw [if_neg (by omega)] at this
  exact this
theorem bd61 : buildV Try.prog 61 [(0, .d (.int .i64 2)), (1, .d (.int .i64 1)), (3, .d (.int .i64 1))] = some (.agg [.d (.int .i64 2), .d (.int .i64 1), .d (.int .i64 0), .d (.int .i64 1), .d (.int .i64 0), .d (.int .i64 0), .d (.int .i64 0), .d (.int .i64 0), .d (.int .i64 0), .d (.int .i64 0), .d (.int .i64 0)]) := by kernel_rfl
theorem rootB_len : rootB.length = 256 := rfl
section
variable {ops : Array Oper} {dst : Option Tmp} {k : List Oper} {T : List V} {S : Store} {F : Dfs} {Q : Post}
theorem call_tw : WpR cfg ops dst k T S F Q (some (.enter 52 [blkV (zeros 256), .d (.int .i64 0), .agg [.d (.int .i64 2), .d (.int .i64 1), .d (.int .i64 0), .d (.int .i64 1), .d (.int .i64 0), .d (.int .i64 0), .d (.int .i64 0), .d (.int .i64 0), .d (.int .i64 0), .d (.int .i64 0), .d (.int .i64 0)]])) = WpL cfg ops k (putT T dst (.tup [.d (blkD rootB), .d (.int .i64 0)])) S F Q :=
  wr_call_v (ds := [blkD (zeros 256), .int .i64 0, rootD]) rfl (by simp only [allO, frz_v]; rfl) (by kernel_rfl) twith_ok
theorem call_map : WpR cfg ops dst k T S F Q (some (.enter 50 [])) = WpL cfg ops k (putT T dst (.d (.int .i64 1))) S F Q :=
  wr_call_d (ds := []) rfl Map_ok
theorem call_data {l : Lay} (hb : InB l.blocks) (hi : InB l.inodes) (hm : MayL l) : WpR cfg ops dst k T S F Q (some (.enter 51 [.d (encLay l)])) = WpL cfg ops k (putT T dst (.d (.int .i64 (2 + l.inodes.tdiv 8)))) S F Q :=
  wr_call_d (ds := [encLay l]) rfl (Data_ok l hb hi hm)
theorem we_callE {S2 : Store} {K : List Nat → List (Nat × Nat) → List V → Store → Prop} {rd : List Nat} {cs : List (Nat × Nat)} {i : Nat} {f : FuncId} {args : List V} {v : V} (hs : cfg.shared f = true) (he : EvS cfg f args S (fun o S' => S' = S2 ∧ o = .ret v)) :
    WpE cfg ops F Q K rd cs i dst T S (some (.enter f args)) = (bitsOk ops rd i 3 ∧ K rd (cs ++ [(i, 3)]) (putT T dst v) S2) := by
  obtain ⟨n, o, S', hn, rfl, rfl⟩ := he
  have hc : callV cfg (run cfg n) f args S = some (.ret v, S', 3) := by
    unfold callV
    simp only [hs, if_true, hn, Option.map_some]
  apply propext
  constructor
  · rintro ⟨m, v', S2, c, h1, h2, h3⟩
    have := callV_det h1 hc
    simp only [Prod.mk.injEq] at this
    obtain ⟨h4, rfl, rfl⟩ := this
    cases h4
    exact ⟨h2, h3⟩
  · exact fun h => ⟨n, _, _, _, hc, h.1, h.2⟩
end
theorem fmt_l (l : Lay) (B K : Nat) (hb : InB l.blocks) (hi : InB l.inodes) (hm : MayL l) (hK : 2 + l.inodes.tdiv 8 = ((2 + K : Nat) : Int)) (hK1 : K ≤ 16) (hB : 2 + K < B) (S0 : Store) (a d r : Nat) (hd : d < a) (hr : r < a) (h0 : S0[a]? = some (.row [.d (encLay l)] 24)) (lit : Bool) (f0 : Int) (R : Post) (x5 : V) :
   ∀ (k no : Nat) (S : Store) (vs : List V) (f w : Int) (g1 g2 g4 g6 g8 g9 g10 g11 g12 g13 g14 g15 g16 g17 g18 g19 g20 g21 g22 g23 g24 g25 g26 g27 g28 g29 g30 g31 g32 g33 g34 g35 g36 g37 g38 g39 g40 g41 g42 g43 g44 g45 g46 g47 g48 g49 g50 g51 g52 g53 g54 g55 g56 g57 g58 g59 g60 g61 g62 g63 : V), 2 + K - no = k → 2 ≤ no → no ≤ 2 + K → K2 d r S0 S → DskAt S d r vs f lit false w 0 → w = (no : Int) - 2 → Fin2 vs B no → (lit = true → f + w = f0) → (0 ≤ f ∧ InB f) →
   (∀ (S : Store) (vs : List V) (f w : Int) (g1 g2 g4 g6 g8 g9 g10 g11 g12 g13 g14 g15 g16 g17 g18 g19 g20 g21 g22 g23 g24 g25 g26 g27 g28 g29 g30 g31 g32 g33 g34 g35 g36 g37 g38 g39 g40 g41 g42 g43 g44 g45 g46 g47 g48 g49 g50 g51 g52 g53 g54 g55 g56 g57 g58 g59 g60 g61 g62 g63 : V), K2 d r S0 S → DskAt S d r vs f lit false w 0 → w = (K : Int) → Fin2 vs B (2 + K) → (lit = true → f + w = f0) → (0 ≤ f ∧ InB f) → R (.exit 0) ((.ref d 0 0) :: g1 :: g2 :: (.ref a 0 0) :: g4 :: x5 :: g6 :: (.d (.int .i64 ((2 + K : Nat) : Int))) :: g8 :: g9 :: g10 :: g11 :: g12 :: g13 :: g14 :: g15 :: g16 :: g17 :: g18 :: g19 :: g20 :: g21 :: g22 :: g23 :: g24 :: g25 :: g26 :: g27 :: g28 :: g29 :: g30 :: g31 :: g32 :: g33 :: g34 :: g35 :: g36 :: g37 :: g38 :: g39 :: g40 :: g41 :: g42 :: g43 :: g44 :: g45 :: g46 :: g47 :: g48 :: g49 :: g50 :: g51 :: g52 :: g53 :: g54 :: g55 :: g56 :: g57 :: g58 :: g59 :: g60 :: g61 :: g62 :: g63 :: []) S []) →
   (∀ (S : Store) (vs : List V) (w : Int) (T : List V), lit = true → f0 < K → K2 d r S0 S → DskAt S d r vs 0 true true w 0 → vs.length = B → vs[0]? = some (blkV (zeros 256)) → T.getD 4 (.tup []) = .d (.int .i64 12) → R .ret T S []) →
   Wp cfg (.loop (lpOf (Try.f10.body.getD .skip) 0)) ((.ref d 0 0) :: g1 :: g2 :: (.ref a 0 0) :: g4 :: x5 :: g6 :: (.d (.int .i64 (no : Int))) :: g8 :: g9 :: g10 :: g11 :: g12 :: g13 :: g14 :: g15 :: g16 :: g17 :: g18 :: g19 :: g20 :: g21 :: g22 :: g23 :: g24 :: g25 :: g26 :: g27 :: g28 :: g29 :: g30 :: g31 :: g32 :: g33 :: g34 :: g35 :: g36 :: g37 :: g38 :: g39 :: g40 :: g41 :: g42 :: g43 :: g44 :: g45 :: g46 :: g47 :: g48 :: g49 :: g50 :: g51 :: g52 :: g53 :: g54 :: g55 :: g56 :: g57 :: g58 :: g59 :: g60 :: g61 :: g62 :: g63 :: []) S [] R := by
  intro k
  induction k with
  | zero =>
    intro no S vs f w g1 g2 g4 g6 g8 g9 g10 g11 g12 g13 g14 g15 g16 g17 g18 g19 g20 g21 g22 g23 g24 g25 g26 g27 g28 g29 g30 g31 g32 g33 g34 g35 g36 g37 g38 g39 g40 g41 g42 g43 g44 g45 g46 g47 g48 g49 g50 g51 g52 g53 g54 g55 g56 g57 g58 g59 g60 g61 g62 g63 hk h2 hn hK2 hD hw hF hlf hf hE hR
    have hie : no = 2 + K := by omega
    subst hie
    have hcell : rowE S a 0 = some (.d (encLay l)) := rowE_of (hK2 _ _ (by omega) (by omega) h0)
    have hdt := fun {ops dst k T S F Q} => call_data (ops := ops) (dst := dst) (k := k) (T := T) (S := S) (F := F) (Q := Q) hb hi hm
    rw [hK] at hdt
    rw [wk_of]
    refine wk_loop ?_
    conv => arg 2; whnf
    simp (maxSteps := 1000000) (disch := first | assumption | omega | rfl) only [↓vmp, vme, vmb, ty, hP, dec_t, dec_f, wrap64, List.length_map, Int.toNat_natCast, Nat.reduceAdd, List.cons_append, List.nil_append, Option.map_some, Option.map_none, strOf_mk, sb_eql, sb_neq, vmg, ↓vgd, ↓vst, ↓vix, hcell, hdt, bo51]
    exact hE S vs f w _ _ _ _ _ _ _ _ _ _ _ _ _ _ _ _ _ _ _ _ _ _ _ _ _ _ _ _ _ _ _ _ _ _ _ _ _ _ _ _ _ _ _ _ _ _ _ _ _ _ _ _ _ _ _ _ _ _ _ _ hK2 hD (by omega) hF hlf hf
  | succ k ih =>
    intro no S vs f w g1 g2 g4 g6 g8 g9 g10 g11 g12 g13 g14 g15 g16 g17 g18 g19 g20 g21 g22 g23 g24 g25 g26 g27 g28 g29 g30 g31 g32 g33 g34 g35 g36 g37 g38 g39 g40 g41 g42 g43 g44 g45 g46 g47 g48 g49 g50 g51 g52 g53 g54 g55 g56 g57 g58 g59 g60 g61 g62 g63 hk h2 hn hK2 hD hw hF hlf hf hE hR
    have hlt : no < 2 + K := by omega
    have hcell : rowE S a 0 = some (.d (encLay l)) := rowE_of (hK2 _ _ (by omega) (by omega) h0)
    have hdt := fun {ops dst k T S F Q} => call_data (ops := ops) (dst := dst) (k := k) (T := T) (S := S) (F := F) (Q := Q) hb hi hm
    rw [hK] at hdt
    have h3 : IntKind.i64.wrap ((no : Int) + 1) = ((no + 1 : Nat) : Int) := by rw [wrap64 (by omega)]; omega
    have hvl : no < vs.length := by have := hF.1; omega
    have hu0 := hF.at hvl
    have l0 := z256
    have l1 := rootB_len
    rw [wk_of]
    refine wk_loop ?_
    conv => arg 2; whnf
    by_cases hn2 : no = 2
    · have hB2 : blkAt no = rootB := if_pos hn2
      have hnt : ((no : Int) = 2) = True := by simp [hn2]
      by_cases hoff : lit = true ∧ f = 0
      · obtain ⟨rfl, rfl⟩ := hoff
        have hwr := fun {ops dst k T F Q} => wr_callE (ops := ops) (dst := dst) (l := k) (T := T) (F := F) (Q := Q) rfl (write_off (S ++ [.row [.d (blkD rootB)] 42]) d r vs w 0 no (.d (blkD rootB)) _ hD.app hvl (isB_d (b := rootB)) (by rfl))
        simp (maxSteps := 1000000) (disch := first | assumption | omega | rfl) only [↓vmp, vme, vmb, ty, hP, dec_t, dec_f, wrap64, List.length_map, Int.toNat_natCast, Nat.reduceAdd, List.cons_append, List.nil_append, Option.map_some, Option.map_none, strOf_mk, sb_eql, sb_neq, vmg, ↓vgd, ↓vst, ↓vix, hcell, hdt, bo51, z42, zf42, call_map, bo50, rowE_app, putRow_app, bd61, call_tw, bo52, sdv42, ldv42, ldd42, one_v, dec_True, hnt, hwr, bo53]
        exact hR _ vs w _ rfl (by have := hlf rfl; omega) hK2.app.setd.app (hD.app.setd (f' := 0) (lit' := true) (off' := true) (w' := w) (q' := 0)).app hF.1 hF.2.1 rfl
      · have hlf0 : lit = true → f ≠ 0 := fun e h => hoff ⟨e, h⟩
        have hwr := fun {ops dst k T F Q} => wr_callE (ops := ops) (dst := dst) (l := k) (T := T) (F := F) (Q := Q) rfl (write_ok (S ++ [.row [.d (blkD rootB)] 42]) d r vs f w 0 lit no (.d (blkD rootB)) vs[no] _ _ hD.app hvl (isB_d (b := rootB)) (by rfl) rfl hu0 l0 (by omega) hf hlf0)
        simp (maxSteps := 1000000) (disch := first | assumption | omega | rfl) only [↓vmp, vme, vmb, ty, hP, dec_t, dec_f, wrap64, List.length_map, Int.toNat_natCast, Nat.reduceAdd, List.cons_append, List.nil_append, Option.map_some, Option.map_none, strOf_mk, sb_eql, sb_neq, vmg, ↓vgd, ↓vst, ↓vix, hcell, hdt, bo51, z42, zf42, call_map, bo50, rowE_app, putRow_app, bd61, call_tw, bo52, sdv42, ldv42, ldd42, one_v, dec_True, hnt, hwr, bo53, h3]
        refine ih (no + 1) _ (vs.set no (.d (blkD rootB))) (if lit = true then f - 1 else f) (w + 1) _ _ _ _ _ _ _ _ _ _ _ _ _ _ _ _ _ _ _ _ _ _ _ _ _ _ _ _ _ _ _ _ _ _ _ _ _ _ _ _ _ _ _ _ _ _ _ _ _ _ _ _ _ _ _ _ _ _ _ _ (by omega) (by omega) (by omega) hK2.app.setd.setr.app (hD.app.setd (f' := if lit = true then f - 1 else f) (lit' := lit) (off' := false) (w' := w + 1) (q' := 0)).setr.app (by omega) (hF.next h2 (by rw [hB2]; exact isB_d)) ?_ ?_ hE hR
        · intro e; rw [if_pos e]; have := hlf e; omega
        · obtain ⟨q1, q2, q3⟩ := hf
          cases lit
          · exact ⟨q1, q2, q3⟩
          · have := hlf0 rfl; exact ⟨by simp only [if_true]; omega, by simp only [InB, if_true]; omega⟩
    · have hB2 : blkAt no = zeros 256 := if_neg hn2
      have hn3 : ¬ (no : Int) = 2 := by omega
      have hde : ∀ i : Decidable ((no : Int) = 2), @decide ((no : Int) = 2) i = false := fun i => decide_eq_false hn3
      by_cases hoff : lit = true ∧ f = 0
      · obtain ⟨rfl, rfl⟩ := hoff
        have hwr := fun {ops dst k T F Q} => wr_callE (ops := ops) (dst := dst) (l := k) (T := T) (F := F) (Q := Q) rfl (write_off (S ++ [.row [blkV (zeros 256)] 42]) d r vs w 0 no (blkV (zeros 256)) _ hD.app hvl (isB_v (b := zeros 256)) (by rfl))
        simp (maxSteps := 1000000) (disch := first | assumption | omega | rfl) only [↓vmp, vme, vmb, ty, hP, dec_t, dec_f, wrap64, List.length_map, Int.toNat_natCast, Nat.reduceAdd, List.cons_append, List.nil_append, Option.map_some, Option.map_none, strOf_mk, sb_eql, sb_neq, vmg, ↓vgd, ↓vst, ↓vix, hcell, hdt, bo51, z42, zf42, call_map, bo50, rowE_app, putRow_app, bd61, call_tw, bo52, sdv42, ldv42, ldd42, one_v, dec_True, hde, hwr, bo53]
        exact hR _ vs w _ rfl (by have := hlf rfl; omega) hK2.app.setd.app (hD.app.setd (f' := 0) (lit' := true) (off' := true) (w' := w) (q' := 0)).app hF.1 hF.2.1 rfl
      · have hlf0 : lit = true → f ≠ 0 := fun e h => hoff ⟨e, h⟩
        have hwr := fun {ops dst k T F Q} => wr_callE (ops := ops) (dst := dst) (l := k) (T := T) (F := F) (Q := Q) rfl (write_ok (S ++ [.row [blkV (zeros 256)] 42]) d r vs f w 0 lit no (blkV (zeros 256)) vs[no] _ _ hD.app hvl (isB_v (b := zeros 256)) (by rfl) rfl hu0 l0 (by omega) hf hlf0)
        simp (maxSteps := 1000000) (disch := first | assumption | omega | rfl) only [↓vmp, vme, vmb, ty, hP, dec_t, dec_f, wrap64, List.length_map, Int.toNat_natCast, Nat.reduceAdd, List.cons_append, List.nil_append, Option.map_some, Option.map_none, strOf_mk, sb_eql, sb_neq, vmg, ↓vgd, ↓vst, ↓vix, hcell, hdt, bo51, z42, zf42, call_map, bo50, rowE_app, putRow_app, bd61, call_tw, bo52, sdv42, ldv42, ldd42, one_v, dec_True, hde, hwr, bo53, h3]
        refine ih (no + 1) _ (vs.set no (blkV (zeros 256))) (if lit = true then f - 1 else f) (w + 1) _ _ _ _ _ _ _ _ _ _ _ _ _ _ _ _ _ _ _ _ _ _ _ _ _ _ _ _ _ _ _ _ _ _ _ _ _ _ _ _ _ _ _ _ _ _ _ _ _ _ _ _ _ _ _ _ _ _ _ _ (by omega) (by omega) (by omega) hK2.app.setd.setr.app (hD.app.setd (f' := if lit = true then f - 1 else f) (lit' := lit) (off' := false) (w' := w + 1) (q' := 0)).setr.app (by omega) (hF.next h2 (by rw [hB2]; exact isB_v)) ?_ ?_ hE hR
        · intro e; rw [if_pos e]; have := hlf e; omega
        · obtain ⟨q1, q2, q3⟩ := hf
          cases lit
          · exact ⟨q1, q2, q3⟩
          · have := hlf0 rfl; exact ⟨by simp only [if_true]; omega, by simp only [InB, if_true]; omega⟩
end Go.Proofs.Ytobgdmgldagjkaa
end
/-! store.Format: what it tells, and what the disk has then. -/
section
set_option linter.unusedVariables false
set_option linter.unusedSimpArgs false
set_option maxRecDepth 100000
set_option maxHeartbeats 4000000
namespace Go.Proofs.Ytobgdmgldagjkaa
open Go.Vm
def finB (B I M K i : Nat) : List UInt8 := if i = 0 then supB B I M else if i = 1 then mapB (2 + K) else blkAt i
def FmtR (S : Store) (d r B I M K : Nat) (lit : Bool) (f0 : Int) : Out → Store → Prop := fun o S' =>
  (¬ (lit = true ∧ f0 < 2 + (K : Int)) ∧ o = .ret (.d (.int .i64 0)) ∧ ∃ vs f w, K2 d r S S' ∧ DskAt S' d r vs f lit false w 0 ∧ vs.length = B ∧ ∀ i v, vs[i]? = some v → IsB v (finB B I M K i)) ∨
  ((lit = true ∧ f0 < 2 + (K : Int)) ∧ o = .ret (.d (.int .i64 12)) ∧ ∃ vs w, K2 d r S S' ∧ DskAt S' d r vs 0 true true w 0 ∧ vs.length = B ∧ vs[0]? = some (blkV (zeros 256)))
theorem dw_callE {ops : Array Oper} {base : Nat} {K : Ws → List (Nat × Nat) → List V → Store → Prop} {ws : Ws} {cs : List (Nat × Nat)} {i : Nat} {dst : Option Tmp} {T : List V} {S S2 : Store} {f : FuncId} {args : List V} {v : V} (hs : cfg.shared f = true) (he : EvS cfg f args S (fun o S' => S' = S2 ∧ o = .ret v)) :
    WpEw cfg ops base K ws cs i dst T S (some (.enter f args)) = (WAll cfg ops base ws i S2 ∧ K ws (cs ++ [(i, 3)]) (putT T dst v) S2) := by
  obtain ⟨n, o, S', hn, rfl, rfl⟩ := he
  have hc : callV cfg (run cfg n) f args S = some (.ret v, S', 3) := by
    unfold callV
    simp only [hs, if_true, hn, Option.map_some]
  apply propext
  constructor
  · rintro ⟨m, v', S2, c, h1, h2, h3⟩
    have := callV_det h1 hc
    simp only [Prod.mk.injEq] at this
    obtain ⟨h4, rfl, rfl⟩ := this
    cases h4
    exact ⟨h2 (by decide), h3⟩
  · exact fun h => ⟨n, _, _, _, hc, fun _ => h.1, h.2⟩
theorem ld_op {T : List V} {S : Store} {dst : Option Tmp} {t x : Nat} {ty : TypeId} {pos : String} {after : Array Edge} {g : Option (Nat × Bool)} {v : V} (h : loadV Try.prog S t (T.getD x .junk) = some v) : opV Try.prog S T ⟨dst, .load t (.tmp x), ty, pos, after, g⟩ = some (.val v S 1) := by
  show (loadV Try.prog S t (T.getD x .junk)).map (fun v => Rs.val v S 1) = _
  rw [h]
  rfl
theorem sameLeaf_i {k : IntKind} {n : Int} : sameV (.d (.int k n)) (.d (.int k n)) = true := by simp [sameV, sameCell, sameCell0, sameF, sameLeaf]
theorem fin0 (n : Nat) (hn : 1 ≤ n) : Fin2 (List.replicate n (blkV (zeros 256))) n 2 := by
  refine ⟨List.length_replicate .., by rw [List.getElem?_replicate, if_pos (by omega)], ?_⟩
  intro i v hv
  rw [List.getElem?_replicate] at hv
  split at hv
  · cases hv; rw [if_neg (by omega)]; exact isB_v
  · cases hv
theorem fmt_nil (l : Lay) (hb : InB l.blocks) (hi : InB l.inodes) (v : V) (hv : Ev cfg 48 [encLay l] (.ret v)) (b : List UInt8) (e : Int) (hve : v = .tup [.d (blkD b), .d (.int .i64 e)]) (hbl : b.length = 256) (S : Store) : EvS cfg 10 [.d .nilp, .d (encLay l)] S (fun o S' => S' = S ++ [.row [.d (encLay l)] 24, .row [.d (blkD b)] 42] ∧ o = .ret (.d (.int .i64 1))) := by
  refine evS_of rfl body10 ?_
  show Wp cfg (Try.f10.body.getD .skip) ((.d .nilp) :: (.d (encLay l)) :: (.tup []) :: (.tup []) :: (.tup []) :: (.tup []) :: (.tup []) :: (.tup []) :: (.tup []) :: (.tup []) :: (.tup []) :: (.tup []) :: (.tup []) :: (.tup []) :: (.tup []) :: (.tup []) :: (.tup []) :: (.tup []) :: (.tup []) :: (.tup []) :: (.tup []) :: (.tup []) :: (.tup []) :: (.tup []) :: (.tup []) :: (.tup []) :: (.tup []) :: (.tup []) :: (.tup []) :: (.tup []) :: (.tup []) :: (.tup []) :: (.tup []) :: (.tup []) :: (.tup []) :: (.tup []) :: (.tup []) :: (.tup []) :: (.tup []) :: (.tup []) :: (.tup []) :: (.tup []) :: (.tup []) :: (.tup []) :: (.tup []) :: (.tup []) :: (.tup []) :: (.tup []) :: (.tup []) :: (.tup []) :: (.tup []) :: (.tup []) :: (.tup []) :: (.tup []) :: (.tup []) :: (.tup []) :: (.tup []) :: (.tup []) :: (.tup []) :: (.tup []) :: (.tup []) :: (.tup []) :: (.tup []) :: (.tup []) :: []) S [] _
  conv => arg 2; whnf
  rw [wk_of]
  subst hve
  have l0 := z256
  have hp := fun {ops dst k T S F Q} => call_sput (ops := ops) (dst := dst) (k := k) (T := T) (S := S) (F := F) (Q := Q) hv
  simp (maxSteps := 1000000) (disch := first | assumption | omega | rfl) only [↓vmp, vme, vmb, ty, hP, dec_t, dec_f, wrap64, List.length_map, Int.toNat_natCast, Nat.reduceAdd, List.cons_append, List.nil_append, Option.map_some, Option.map_none, strOf_mk, sb_eql, sb_neq, vmg, ↓vgd, ↓vst, ↓vix, List.append_assoc, List.length_append, List.length_cons, List.length_nil, rA0 rfl, rA1 rfl, pA1 rfl, hp, bo48, z42, zf42, sdv42, eq26n]
  exact ⟨rfl, _, rfl, rfl, rfl⟩
theorem fmt_bad (l : Lay) (hb : InB l.blocks) (hi : InB l.inodes) (hm : ¬ MayL l) (d : Nat) (S : Store) : EvS cfg 10 [.ref d 0 0, .d (encLay l)] S (fun o S' => S' = S ++ [.row [.d (encLay l)] 24, .row [.d (blkD (zeros 256))] 42] ∧ o = .ret (.d (.int .i64 1))) := by
  refine evS_of rfl body10 ?_
  show Wp cfg (Try.f10.body.getD .skip) ((.ref d 0 0) :: (.d (encLay l)) :: (.tup []) :: (.tup []) :: (.tup []) :: (.tup []) :: (.tup []) :: (.tup []) :: (.tup []) :: (.tup []) :: (.tup []) :: (.tup []) :: (.tup []) :: (.tup []) :: (.tup []) :: (.tup []) :: (.tup []) :: (.tup []) :: (.tup []) :: (.tup []) :: (.tup []) :: (.tup []) :: (.tup []) :: (.tup []) :: (.tup []) :: (.tup []) :: (.tup []) :: (.tup []) :: (.tup []) :: (.tup []) :: (.tup []) :: (.tup []) :: (.tup []) :: (.tup []) :: (.tup []) :: (.tup []) :: (.tup []) :: (.tup []) :: (.tup []) :: (.tup []) :: (.tup []) :: (.tup []) :: (.tup []) :: (.tup []) :: (.tup []) :: (.tup []) :: (.tup []) :: (.tup []) :: (.tup []) :: (.tup []) :: (.tup []) :: (.tup []) :: (.tup []) :: (.tup []) :: (.tup []) :: (.tup []) :: (.tup []) :: (.tup []) :: (.tup []) :: (.tup []) :: (.tup []) :: (.tup []) :: (.tup []) :: (.tup []) :: []) S [] _
  conv => arg 2; whnf
  rw [wk_of]
  have l0 := z256
  have hp := fun {ops dst k T S F Q} => call_sput (ops := ops) (dst := dst) (k := k) (T := T) (S := S) (F := F) (Q := Q) (put_bad l hb hi hm)
  simp (maxSteps := 1000000) (disch := first | assumption | omega | rfl) only [↓vmp, vme, vmb, ty, hP, dec_t, dec_f, wrap64, List.length_map, Int.toNat_natCast, Nat.reduceAdd, List.cons_append, List.nil_append, Option.map_some, Option.map_none, strOf_mk, sb_eql, sb_neq, vmg, ↓vgd, ↓vst, ↓vix, List.append_assoc, List.length_append, List.length_cons, List.length_nil, rA0 rfl, rA1 rfl, pA1 rfl, hp, bo48, z42, zf42, sdv42, eq26f]
  exact ⟨rfl, _, rfl, rfl, rfl⟩
section
variable (l : Lay) (B I M K : Nat) (hl : l = ⟨(B : Int), (I : Int), (M : Int)⟩) (hB : B ≤ 512) (hI : I ≤ 128) (hM : M < 18446744073709551616) (hm : MayL l) (S : Store) (d r : Nat) (vs : List V) (f w q : Int) (lit off : Bool) (h : DskAt S d r vs f lit off w q)
include hl hB hI hM hm h
theorem fmt_size (hn : vs.length ≠ B) : EvS cfg 10 [.ref d 0 0, .d (encLay l)] S (fun o S' => S' = S ++ [.row [.d (encLay l)] 24, .row [.d (blkD (supB B I M))] 42] ∧ o = .ret (.d (.int .i64 2))) := by
  refine evS_of rfl body10 ?_
  show Wp cfg (Try.f10.body.getD .skip) ((.ref d 0 0) :: (.d (encLay l)) :: (.tup []) :: (.tup []) :: (.tup []) :: (.tup []) :: (.tup []) :: (.tup []) :: (.tup []) :: (.tup []) :: (.tup []) :: (.tup []) :: (.tup []) :: (.tup []) :: (.tup []) :: (.tup []) :: (.tup []) :: (.tup []) :: (.tup []) :: (.tup []) :: (.tup []) :: (.tup []) :: (.tup []) :: (.tup []) :: (.tup []) :: (.tup []) :: (.tup []) :: (.tup []) :: (.tup []) :: (.tup []) :: (.tup []) :: (.tup []) :: (.tup []) :: (.tup []) :: (.tup []) :: (.tup []) :: (.tup []) :: (.tup []) :: (.tup []) :: (.tup []) :: (.tup []) :: (.tup []) :: (.tup []) :: (.tup []) :: (.tup []) :: (.tup []) :: (.tup []) :: (.tup []) :: (.tup []) :: (.tup []) :: (.tup []) :: (.tup []) :: (.tup []) :: (.tup []) :: (.tup []) :: (.tup []) :: (.tup []) :: (.tup []) :: (.tup []) :: (.tup []) :: (.tup []) :: (.tup []) :: (.tup []) :: (.tup []) :: []) S [] _
  conv => arg 2; whnf
  rw [wk_of]
  have l0 := z256
  have l5 := supB_len B I M
  have hp := fun {ops dst k T S F Q} => call_sput (ops := ops) (dst := dst) (k := k) (T := T) (S := S) (F := F) (Q := Q) (put_sup l B I M hl hB hI hM hm)
  simp (maxSteps := 1000000) (disch := first | assumption | omega | rfl) only [↓vmp, vme, vmb, ty, hP, dec_t, dec_f, wrap64, List.length_map, Int.toNat_natCast, Nat.reduceAdd, List.cons_append, List.nil_append, Option.map_some, Option.map_none, strOf_mk, sb_eql, sb_neq, vmg, ↓vgd, ↓vst, ↓vix, List.append_assoc, List.length_append, List.length_cons, List.length_nil, rA0 rfl, rA1 rfl, pA1 rfl, hp, bo48, z42, zf42, sdv42, eq26f, dec_True]
  have hsz := fun {ops base K ws cs i dst T} l => dw_callE (ops := ops) (base := base) (K := K) (ws := ws) (cs := cs) (i := i) (dst := dst) (T := T) rfl (size_ok (S ++ l) d r vs f w q lit off h.app)
  have hlb : l.blocks = (B : Int) := by rw [hl]
  have hne : ∀ i : Decidable ((vs.length : Int) ≠ l.blocks), @decide ((vs.length : Int) ≠ l.blocks) i = true := fun i => decide_eq_true (by omega)
  refine wk_draww (is := [0, 2, 3, 1, 4]) (h := 0) (by kernel_rfl) (by kernel_rfl) ?_
  simp (maxSteps := 1000000) (disch := first | assumption | omega | rfl) only [List.replicate_zero, eq_self, vmd, dw1, dw2, dw3, dw4, dw5, dw6, dw7, dw8, dw9, dw10, dw11, dw12, vmk, vmo, vmg, vme, vmb, ty, hP, dec_t, dec_f, wrap64, List.length_map, Int.toNat_natCast, Nat.reduceAdd, ↓vgd, ↓vst, ↓vix, vso, List.append_nil, rA0 rfl, rA1 rfl, hsz, bo49]
  refine ⟨wall_read rfl (by kernel_rfl) rfl (ld_op ((loadV_row (rA0 rfl)).trans lr24_0)) (by exact sameLeaf_i) wall_nil, ?_⟩
  refine ⟨by kernel_rfl, ?_⟩
  simp (maxSteps := 1000000) (disch := first | assumption | omega | rfl) only [↓vmp, vme, vmb, ty, hP, dec_t, dec_f, wrap64, List.length_map, Int.toNat_natCast, Nat.reduceAdd, List.cons_append, List.nil_append, Option.map_some, Option.map_none, strOf_mk, sb_eql, sb_neq, vmg, ↓vgd, ↓vst, ↓vix, hne]
  exact ⟨rfl, _, rfl, rfl, rfl⟩
end
theorem fmt_ok (l : Lay) (B I M K : Nat) (hl : l = ⟨(B : Int), (I : Int), (M : Int)⟩) (hB : B ≤ 512) (hI : I ≤ 128) (hM : M < 18446744073709551616) (hm : MayL l) (hK : 2 + l.inodes.tdiv 8 = ((2 + K : Nat) : Int)) (hK1 : K ≤ 16) (hKB : 2 + K < B) (S : Store) (d r : Nat) (f0 : Int) (hf0 : 0 ≤ f0 ∧ InB f0) (lit : Bool) (h : DskAt S d r (List.replicate B (blkV (zeros 256))) f0 lit false 0 0) : EvS cfg 10 [.ref d 0 0, .d (encLay l)] S (FmtR S d r B I M K lit f0) := by
  refine evS_of rfl body10 ?_
  show Wp cfg (Try.f10.body.getD .skip) ((.ref d 0 0) :: (.d (encLay l)) :: (.tup []) :: (.tup []) :: (.tup []) :: (.tup []) :: (.tup []) :: (.tup []) :: (.tup []) :: (.tup []) :: (.tup []) :: (.tup []) :: (.tup []) :: (.tup []) :: (.tup []) :: (.tup []) :: (.tup []) :: (.tup []) :: (.tup []) :: (.tup []) :: (.tup []) :: (.tup []) :: (.tup []) :: (.tup []) :: (.tup []) :: (.tup []) :: (.tup []) :: (.tup []) :: (.tup []) :: (.tup []) :: (.tup []) :: (.tup []) :: (.tup []) :: (.tup []) :: (.tup []) :: (.tup []) :: (.tup []) :: (.tup []) :: (.tup []) :: (.tup []) :: (.tup []) :: (.tup []) :: (.tup []) :: (.tup []) :: (.tup []) :: (.tup []) :: (.tup []) :: (.tup []) :: (.tup []) :: (.tup []) :: (.tup []) :: (.tup []) :: (.tup []) :: (.tup []) :: (.tup []) :: (.tup []) :: (.tup []) :: (.tup []) :: (.tup []) :: (.tup []) :: (.tup []) :: (.tup []) :: (.tup []) :: (.tup []) :: []) S [] _
  conv => arg 2; whnf
  rw [wk_of]
  have l0 := z256
  have l5 := supB_len B I M
  have hlb : l.blocks = (B : Int) := by rw [hl]
  have hib : InB l.blocks := by rw [hl]; simp only [InB]; omega
  have hii : InB l.inodes := by rw [hl]; simp only [InB]; omega
  have hp := fun {ops dst k T S F Q} => call_sput (ops := ops) (dst := dst) (k := k) (T := T) (S := S) (F := F) (Q := Q) (put_sup l B I M hl hB hI hM hm)
  generalize ha : S.length = a
  simp (maxSteps := 1000000) (disch := first | assumption | omega | rfl) only [↓vmp, vme, vmb, ty, hP, dec_t, dec_f, wrap64, List.length_map, Int.toNat_natCast, Nat.reduceAdd, List.cons_append, List.nil_append, Option.map_some, Option.map_none, strOf_mk, sb_eql, sb_neq, vmg, ↓vgd, ↓vst, ↓vix, List.append_assoc, List.length_append, List.length_cons, List.length_nil, ha, rA0 ha, rA1 ha, pA1 ha, hp, bo48, z42, zf42, sdv42, eq26f, dec_True]
  have hsz := fun {ops base K ws cs i dst T} l => dw_callE (ops := ops) (base := base) (K := K) (ws := ws) (cs := cs) (i := i) (dst := dst) (T := T) rfl (size_ok (S ++ l) d r _ _ _ _ _ _ h.app)
  rw [List.length_replicate] at hsz
  have hne : ∀ i : Decidable ((B : Int) ≠ l.blocks), @decide ((B : Int) ≠ l.blocks) i = false := fun i => decide_eq_false (by omega)
  refine wk_draww (is := [0, 2, 3, 1, 4]) (h := 0) (by kernel_rfl) (by kernel_rfl) ?_
  simp (maxSteps := 1000000) (disch := first | assumption | omega | rfl) only [List.replicate_zero, eq_self, vmd, dw1, dw2, dw3, dw4, dw5, dw6, dw7, dw8, dw9, dw10, dw11, dw12, vmk, vmo, vmg, vme, vmb, ty, hP, dec_t, dec_f, wrap64, List.length_map, Int.toNat_natCast, Nat.reduceAdd, ↓vgd, ↓vst, ↓vix, vso, List.append_nil, rA0 ha, rA1 ha, hsz, bo49]
  refine ⟨wall_read rfl (by kernel_rfl) rfl (ld_op ((loadV_row (rA0 ha)).trans lr24_0)) (by exact sameLeaf_i) wall_nil, ?_⟩
  refine ⟨by kernel_rfl, ?_⟩
  simp (maxSteps := 1000000) (disch := first | assumption | omega | rfl) only [↓vmp, vme, vmb, ty, hP, dec_t, dec_f, wrap64, List.length_map, Int.toNat_natCast, Nat.reduceAdd, List.cons_append, List.nil_append, Option.map_some, Option.map_none, strOf_mk, sb_eql, sb_neq, vmg, ↓vgd, ↓vst, ↓vix, hne, call_map, bo50]
  have hS1 : ∀ o1 o2 : Ob, K2 d r S (S ++ [o1, o2]) := fun o1 o2 => K2.refl.app
  have hdl := h.dl
  have hrl := h.rl
  refine fmt_l l B K hib hii hm hK hK1 hKB (S ++ [.row [.d (encLay l)] 24, .row [.d (blkD (supB B I M))] 42]) a d r (by omega) (by omega) (by rw [List.getElem?_append_right (by omega), ha]; simp) lit f0 _ _ K 2 _ _ f0 0 _ _ _ _ _ _ _ _ _ _ _ _ _ _ _ _ _ _ _ _ _ _ _ _ _ _ _ _ _ _ _ _ _ _ _ _ _ _ _ _ _ _ _ _ _ _ _ _ _ _ _ _ _ _ _ _ _ _ _ _ (by omega) (by omega) (by omega) K2.refl h.app (by omega) (fin0 B (by omega)) (fun _ => by omega) hf0 ?_ ?_
  · intro S1 vs f w g1 g2 g4 g6 g8 g9 g10 g11 g12 g13 g14 g15 g16 g17 g18 g19 g20 g21 g22 g23 g24 g25 g26 g27 g28 g29 g30 g31 g32 g33 g34 g35 g36 g37 g38 g39 g40 g41 g42 g43 g44 g45 g46 g47 g48 g49 g50 g51 g52 g53 g54 g55 g56 g57 g58 g59 g60 g61 g62 g63 hK2 hD hw hF hlf hf
    have hca : rowE S1 a 0 = some (.d (encLay l)) := rowE_of (hK2 a (.row [.d (encLay l)] 24) (by omega) (by omega) (by rw [List.getElem?_append_right (by omega), ha]; simp))
    have hcb := hK2 (a + 1) (.row [.d (blkD (supB B I M))] 42) (by omega) (by omega) (by rw [List.getElem?_append_right (by omega), ha]; simp)
    have hM := fun {ops F Q K rd cs i dst T S} => we_call_d (C := cfg) (ops := ops) (F := F) (Q := Q) (K := K) (rd := rd) (cs := cs) (i := i) (dst := dst) (T := T) (S := S) (ds := []) rfl Map_ok
    simp only [List.map_nil] at hM
    have hO : ∀ {ops F Q K' rd cs i dst T S}, WpE cfg ops F Q K' rd cs i dst T S (some (.enter 55 [.d (encLay l)])) = K' (i :: rd) (cs ++ [(i, 1)]) (putT T dst (.d (encI (upto (2 + K))))) S := fun {ops F Q K' rd cs i dst T S} => we_call_d (C := cfg) (ds := [encLay l]) rfl (Own_ok l (2 + K) hib hii hm hK (by omega))
    have hN : ∀ {ops F Q K' rd cs i dst T S}, WpE cfg ops F Q K' rd cs i dst T S (some (.enter 54 [.d (encI (upto (2 + K)))])) = K' (i :: rd) (cs ++ [(i, 1)]) (putT T dst (.d (blkD (mapB (2 + K))))) S := fun {ops F Q K' rd cs i dst T S} => we_call_d (C := cfg) (ds := [encI (upto (2 + K))]) rfl (Make_ok (2 + K) (by omega))
    have hml := mapB_len (2 + K)
    have h1l : 1 < vs.length := by have := hF.1; omega
    have hv1 : IsB vs[1] (zeros 256) := by
      have := hF.2.2 1 vs[1] (List.getElem?_eq_getElem h1l)
      rw [if_neg (by omega)] at this
      exact this
    by_cases hoff : lit = true ∧ f = 0
    · obtain ⟨rfl, rfl⟩ := hoff
      have hwr := fun {ops F Q K' rd cs i dst T} => we_callE (ops := ops) (F := F) (Q := Q) (K := K') (rd := rd) (cs := cs) (i := i) (dst := dst) (T := T) rfl (write_off S1 d r vs w 0 1 (.d (blkD (mapB (2 + K)))) _ hD h1l isB_d hml)
      simp only [nl1] at hwr
      simp (maxSteps := 1000000) (disch := first | assumption | omega | rfl) only [↓vmp, vme, vmb, ty, hP, dec_t, dec_f, wrap64, List.length_map, Int.toNat_natCast, Nat.reduceAdd, List.cons_append, List.nil_append, Option.map_some, Option.map_none, strOf_mk, sb_eql, sb_neq, vmg, ↓vgd, ↓vst, ↓vix]
      refine wk_draw (is := [0, 2, 1, 3, 4, 5, 6]) (h := 0) (by kernel_rfl) (by kernel_rfl) ?_
      simp (maxSteps := 1000000) (disch := first | assumption | omega | rfl) only [List.replicate_zero, eq_self, vmd, vmk, vmo, vmg, vme, vmb, ty, hP, dec_t, dec_f, wrap64, List.length_map, Int.toNat_natCast, Nat.reduceAdd, ↓vgd, ↓vst, ↓vix, vso, List.append_nil, hca, hM, bo50, hO, bo55, hN, bo54, hwr, bo53]
      refine ⟨fun _ => by kernel_rfl, ?_⟩
      refine ⟨by kernel_rfl, ?_⟩
      simp (maxSteps := 1000000) (disch := first | assumption | omega | rfl) only [↓vmp, vme, vmb, ty, hP, dec_t, dec_f, wrap64, List.length_map, Int.toNat_natCast, Nat.reduceAdd, List.cons_append, List.nil_append, Option.map_some, Option.map_none, strOf_mk, sb_eql, sb_neq, vmg, ↓vgd, ↓vst, ↓vix]
      exact ⟨rfl, _, rfl, .inr ⟨⟨rfl, by have := hlf rfl; omega⟩, rfl, vs, w, ((hS1 _ _).trans hK2).setd.app, (hD.setd (f' := 0) (lit' := true) (off' := true) (w' := w) (q' := 0)).app, hF.1, hF.2.1⟩⟩
    · have hlf0 : lit = true → f ≠ 0 := fun e h => hoff ⟨e, h⟩
      have hf1 : 0 ≤ (if lit = true then f - 1 else f) ∧ InB (if lit = true then f - 1 else f) := by
        obtain ⟨q1, q2, q3⟩ := hf
        cases lit
        · exact ⟨q1, q2, q3⟩
        · have := hlf0 rfl; exact ⟨by simp only [if_true]; omega, by simp only [InB, if_true]; omega⟩
      have hlf1 : lit = true → (if lit = true then f - 1 else f) + (w + 1) = f0 := fun e => by rw [if_pos e]; have := hlf e; omega
      have hwr := fun {ops F Q K' rd cs i dst T} => we_callE (ops := ops) (F := F) (Q := Q) (K := K') (rd := rd) (cs := cs) (i := i) (dst := dst) (T := T) rfl (write_ok S1 d r vs f w 0 lit 1 (.d (blkD (mapB (2 + K)))) vs[1] _ _ hD h1l isB_d hml rfl hv1 l0 (by omega) hf hlf0)
      simp only [nl1] at hwr
      have hD2 := (hD.setd (f' := if lit = true then f - 1 else f) (lit' := lit) (off' := false) (w' := w + 1) (q' := 0)).setr (i := 1) (y := .d (blkD (mapB (2 + K))))
      have hK3 : ∀ l', K2 d r S (((S1.set d (.row [dskV r vs.length (if lit = true then f - 1 else f) lit false (w + 1) 0] 89)).set r (.row (vs.set 1 (.d (blkD (mapB (2 + K))))) 42)) ++ l') := fun l' => ((hS1 _ _).trans hK2).setd.setr.app
      have hcb2 : ∀ l', rowE (((S1.set d (.row [dskV r vs.length (if lit = true then f - 1 else f) lit false (w + 1) 0] 89)).set r (.row (vs.set 1 (.d (blkD (mapB (2 + K))))) 42)) ++ l') (a + 1) 0 = some (.d (blkD (supB B I M))) := fun l' => rowE_of ((K2.refl (d := d) (r := r) (S := S1)).setd.setr.app (a + 1) _ (by omega) (by omega) hcb)
      simp (maxSteps := 1000000) (disch := first | assumption | omega | rfl) only [↓vmp, vme, vmb, ty, hP, dec_t, dec_f, wrap64, List.length_map, Int.toNat_natCast, Nat.reduceAdd, List.cons_append, List.nil_append, Option.map_some, Option.map_none, strOf_mk, sb_eql, sb_neq, vmg, ↓vgd, ↓vst, ↓vix]
      refine wk_draw (is := [0, 2, 1, 3, 4, 5, 6]) (h := 0) (by kernel_rfl) (by kernel_rfl) ?_
      simp (maxSteps := 1000000) (disch := first | assumption | omega | rfl) only [List.replicate_zero, eq_self, vmd, vmk, vmo, vmg, vme, vmb, ty, hP, dec_t, dec_f, wrap64, List.length_map, Int.toNat_natCast, Nat.reduceAdd, ↓vgd, ↓vst, ↓vix, vso, List.append_nil, hca, hM, bo50, hO, bo55, hN, bo54, hwr, bo53]
      refine ⟨fun _ => by kernel_rfl, ?_⟩
      refine ⟨by kernel_rfl, ?_⟩
      generalize hf' : (if lit = true then f - 1 else f) = f' at *
      have h0l : 0 < (vs.set 1 (.d (blkD (mapB (2 + K))))).length := by rw [List.length_set]; omega
      by_cases hoff2 : lit = true ∧ f' = 0
      · obtain ⟨rfl, rfl⟩ := hoff2
        have hwr2 := fun {ops dst k T F Q} l' => wr_callE (ops := ops) (dst := dst) (l := k) (T := T) (F := F) (Q := Q) rfl (write_off _ d r _ (w + 1) 0 0 (.d (blkD (supB B I M))) _ (hD2.app (l := l')) h0l isB_d l5)
        simp only [nl0] at hwr2
        simp (maxSteps := 1000000) (disch := first | assumption | omega | rfl) only [↓vmp, vme, vmb, ty, hP, dec_t, dec_f, wrap64, List.length_map, Int.toNat_natCast, Nat.reduceAdd, List.cons_append, List.nil_append, Option.map_some, Option.map_none, strOf_mk, sb_eql, sb_neq, vmg, ↓vgd, ↓vst, ↓vix, hcb2, ldd42, hwr2, bo53, dec_True]
        exact ⟨rfl, _, rfl, .inr ⟨⟨rfl, by have := hlf1 rfl; omega⟩, rfl, _, w + 1, (hK3 _).setd.app, (hD2.app.setd (f' := 0) (lit' := true) (off' := true) (w' := w + 1) (q' := 0)).app, by rw [List.length_set]; exact hF.1, by rw [List.getElem?_set_ne (by decide)]; exact hF.2.1⟩⟩
      · have hlf2 : lit = true → f' ≠ 0 := fun e h => hoff2 ⟨e, h⟩
        have hv0 : IsB (vs.set 1 (.d (blkD (mapB (2 + K)))))[0] (zeros 256) := by
          have h3 : (vs.set 1 (.d (blkD (mapB (2 + K)))))[0]? = some (blkV (zeros 256)) := by rw [List.getElem?_set_ne (by decide)]; exact hF.2.1
          rw [List.getElem?_eq_getElem h0l] at h3
          rw [Option.some.inj h3]
          exact isB_v
        have hwr2 := fun {ops dst k T F Q} l' => wr_callE (ops := ops) (dst := dst) (l := k) (T := T) (F := F) (Q := Q) rfl (write_ok _ d r _ f' (w + 1) 0 lit 0 (.d (blkD (supB B I M))) _ _ _ (hD2.app (l := l')) h0l isB_d l5 rfl hv0 l0 (by omega) hf1 hlf2)
        simp only [nl0] at hwr2
        simp (maxSteps := 1000000) (disch := first | assumption | omega | rfl) only [↓vmp, vme, vmb, ty, hP, dec_t, dec_f, wrap64, List.length_map, Int.toNat_natCast, Nat.reduceAdd, List.cons_append, List.nil_append, Option.map_some, Option.map_none, strOf_mk, sb_eql, sb_neq, vmg, ↓vgd, ↓vst, ↓vix, hcb2, ldd42, hwr2, bo53, dec_True]
        refine ⟨rfl, _, rfl, .inl ⟨?_, rfl, _, _, w + 1 + 1, (hK3 _).setd.setr.app, (hD2.app.setd (f' := if lit = true then f' - 1 else f') (lit' := lit) (off' := false) (w' := w + 1 + 1) (q' := 0)).setr.app, by rw [List.length_set, List.length_set]; exact hF.1, ?_⟩⟩
        · rintro ⟨e, h⟩
          have := hlf1 e
          have := hlf2 e
          omega
        · intro i v hv
          unfold finB
          by_cases hi0 : i = 0
          · subst hi0
            rw [List.getElem?_set_self h0l] at hv
            cases hv
            rw [if_pos rfl]
            exact isB_d
          · rw [List.getElem?_set_ne (by omega)] at hv
            rw [if_neg hi0]
            by_cases hi1 : i = 1
            · subst hi1
              rw [List.getElem?_set_self h1l] at hv
              cases hv
              rw [if_pos rfl]
              exact isB_d
            · rw [List.getElem?_set_ne (by omega)] at hv
              rw [if_neg hi1]
              have h4 := hF.2.2 i v hv
              by_cases hc : 2 ≤ i ∧ i < 2 + K
              · rw [if_pos hc] at h4; exact h4
              · rw [if_neg hc] at h4
                have hK0 : 1 ≤ K := by
                  have h6 := hm.2.2.1
                  have h7 := hK
                  rw [Int.tdiv_eq_ediv_of_nonneg (by omega)] at h7
                  omega
                have h5 : blkAt i = zeros 256 := if_neg (by omega)
                rw [h5]; exact h4
  · intro S1 vs w T hlt hfk hK2 hD hv hv0 hT
    refine ⟨rfl, _, ?_, .inr ⟨⟨hlt, by omega⟩, rfl, vs, w, (hS1 _ _).trans hK2, hD, hv, hv0⟩⟩
    simp only [resultsV, resultV, hT]
end Go.Proofs.Ytobgdmgldagjkaa
end
/-! The document's answer: all blocks of a device. -/
section
set_option linter.unusedVariables false
set_option linter.unusedSimpArgs false
set_option maxRecDepth 100000
set_option maxHeartbeats 4000000
namespace Go.Proofs.Ytobgdmgldagjkaa
open Go.Vm
theorem u35 : Try.prog.underlying 35 = some (.slice 40) := by kernel_rfl
theorem room35 {m : Nat} (h : m ≤ 1000000) : room Try.prog 40 m = true := room_of rfl (by decide +kernel) h
theorem bs35d {S : Store} {b : List UInt8} : bs1 Try.prog S 35 (.d (encB b)) = some (.val (.ts [encB b]) S 0) := by kernel_rfl
theorem bs35r {S : Store} {id n : Nat} : bs1 Try.prog S 35 (.rs id 0 n) = some (.val (.rs S.length 0 1) (S ++ [.row [.rs id 0 n] 40]) 2) := by kernel_rfl
/-- An element of the rows: data, or a row of bytes. -/
def IsBy (S : Store) (x : V) (b : List UInt8) : Prop := x = .d (encB b) ∨ ∃ id, x = .rs id 0 b.length ∧ S[id]? = some (rowY b)
theorem app35d {S : Store} {v : V} {vs : List V} {b : List UInt8} (ho : OwnS S v 40 vs) (hl : vs.length < 100000) : ∃ v' S' c, appendV Try.prog S 35 35 v (.ts [encB b]) = some (v', S', c) ∧ OwnS S' v' 40 (vs ++ [.d (encB b)]) ∧ (∀ j o, S[j]? = some o → NotAt v j → S'[j]? = some o ∧ NotAt v' j) ∧ S.length ≤ S'.length :=
  append_own (d := encB b) u35 (by kernel_rfl) (by kernel_rfl) ho (by kernel_rfl) (room35 (by omega))
theorem app35r {S : Store} {v : V} {vs : List V} {k id n : Nat} (ho : OwnS S v 40 vs) (hk : S[k]? = some (.row [.rs id 0 n] 40)) (hv : NotAt v k) (hl : vs.length < 100000) : ∃ v' S' c, appendV Try.prog S 35 35 v (.rs k 0 1) = some (v', S', c) ∧ OwnS S' v' 40 (vs ++ [.rs id 0 n]) ∧ (∀ j o, S[j]? = some o → NotAt v j → S'[j]? = some o ∧ NotAt v' j) ∧ S.length ≤ S'.length := by
  have hf : fitsT Try.prog 40 (.rs id 0 n) = true := by kernel_rfl
  have h5 : (sz Try.prog 40).isSome = true := by kernel_rfl
  have hz : zOk Try.prog 40 = true := by kernel_rfl
  have el : elemsV S (.rs k 0 1) = some [.rs id 0 n] := by
    simp only [elemsV, hk]
    rfl
  have src : srcV Try.prog S 40 35 (.rs k 0 1) = some [.rs id 0 n] := by
    simp only [srcV, u35, el, List.all_cons, List.all_nil, hf, h5, Bool.and_self, if_true]
  have hr := room35 (m := vs.length + 1) (by omega)
  rcases ho with ⟨rfl, rfl⟩ | ⟨j, rfl, hj⟩
  · refine ⟨.rs S.length 0 1, S ++ [.row [.rs id 0 n] 40], 2, ?_, .inr ⟨S.length, rfl, by simp⟩, ?_, by simp⟩
    · simp only [appendV, u35, src, hz, if_true, List.all_nil, List.length_nil, Nat.zero_add] at hr ⊢
      rw [hr]
      rfl
    · intro j o hj _
      refine ⟨by rw [List.getElem?_append_left (getLen hj)]; exact hj, fun off l h => ?_⟩
      simp only [V.rs.injEq] at h
      have := getLen hj
      omega
  · refine ⟨.rs S.length 0 (vs.length + 1), S.set j .dead ++ [.row (vs ++ [.rs id 0 n]) 40], 3, ?_, .inr ⟨S.length, by simp, by rw [List.getElem?_append_right (by simp)]; simp⟩, ?_, by simp⟩
    · have ht : vs.take vs.length = vs := List.take_length
      simp only [appendV, u35, src, hz, if_true, hj, List.length_nil, Nat.zero_add, Nat.le_refl, hr, ht, decide_true, Bool.and_self, beq_self_eq_true]
    · intro i o hi hn
      have hne : j ≠ i := fun e => hn 0 vs.length (by rw [e])
      refine ⟨?_, fun off l h => ?_⟩
      · rw [List.getElem?_append_left (by simpa using getLen hi), List.getElem?_set_ne hne]
        exact hi
      · simp only [V.rs.injEq] at h
        have := getLen hi
        omega
theorem notAt_row {S : Store} {v : V} {vs : List V} {j : Nat} {e : TypeId} {xs : List V} (ho : OwnS S v 40 vs) (hj : S[j]? = some (.row xs e)) (he : e ≠ 40) : NotAt v j := by
  rcases ho with ⟨rfl, _⟩ | ⟨i, rfl, hi⟩
  · exact .ts
  · intro off l h
    simp only [V.rs.injEq] at h
    obtain ⟨rfl, _⟩ := h
    rw [hi] at hj
    simp only [Option.some.injEq, Ob.row.injEq] at hj
    exact he hj.2.symm
theorem IsBy.keep {S S' : Store} {x : V} {b : List UInt8} (h : IsBy S x b) (hk : ∀ (j : Nat) (ys : List V), S[j]? = some (Ob.row ys 5) → S'[j]? = some (Ob.row ys 5)) : IsBy S' x b := by
  rcases h with h | ⟨id, h1, h2⟩
  · exact .inl h
  · exact .inr ⟨id, h1, hk _ _ h2⟩
section
variable {ops : Array Oper} {dst : Option Tmp} {k : List Oper} {T : List V} {S : Store} {F : Dfs} {Q : Post}
/-- Make is handed a slice of the store. -/
theorem call_rmake {v : V} {n : Nat} (ho : OwnS S v 3 ((upto n).map fun x => .d (D.int .i64 x))) (h0 : n ≠ 0) (hn : n < 64) : ∃ id, v = .rs id 0 n ∧ id < S.length ∧ WpR cfg ops dst k T S F Q (some (.enter 60 [v])) = WpL cfg ops k (putT T dst (.d (encB (mapB n)))) (S.set id (.fz ((upto n).map (D.int .i64)) 3)) F Q := by
  rcases ho with ⟨_, h2⟩ | ⟨id, h1, h2⟩
  · exfalso
    have := congrArg List.length h2
    rw [List.length_map, upto_len] at this
    exact h0 this
  · rw [List.length_map, upto_len] at h1
    subst h1
    have h3 : S[id]? = some (.row (((upto n).map (D.int .i64)).map .d) 3) := by rw [h2, List.map_map]; rfl
    refine ⟨id, rfl, getLen h2, ?_⟩
    obtain ⟨m, hm⟩ := rmake_ok n hn
    refine callV_E (c := 3) ⟨m, call_row (ds := [encI (upto n)]) rfl ?_ ?_ h3 rfl hm⟩
    · have h4 : OwnS S (.rs id 0 n) 3 (((upto n).map (D.int .i64)).map .d) := .inr ⟨id, by rw [List.length_map, List.length_map, upto_len], h3⟩
      have h5 := own_frz h4
      simp only [allO, h5]
      rfl
    · have h6 : frzIds S frzFuel (.rs id 0 n) = [id] := by
        show (match S[id]? with | some (.row xs e) => id :: xs.flatMap (frzIds S 11) | _ => []) = _
        rw [h3]
        simp only [flat_d]
      simp only [List.flatMap_cons, h6, List.flatMap_nil]
      rfl
end
/-- The numbers of what is ahead of the data. -/
theorem bown_l (l : Lay) (n : Nat) (hn : n ≤ 1000) (hi : 2 + l.inodes.tdiv 8 = (n : Int)) (hii : InB l.inodes) (R : Post) (S0 : Store) (hS0 : S0[0]? = some (.row [.d (encLay l)] 24)) (x3 x4 x5 : V) : ∀ (k i : Nat) (S : Store) (v6 g0 g2 g8 g9 g10 g11 g12 g13 g14 g15 g16 g17 g18 g19 g20 g21 g22 g23 g24 g25 g26 g27 g28 g29 g30 g31 g32 g33 g34 g35 g36 g37 g38 g39 g40 g41 g42 g43 g44 g45 : V), n - i = k → i ≤ n → (∀ (j : Nat) (o : Ob), S0[j]? = some o → S[j]? = some o ∧ NotAt v6 j) → OwnS S v6 3 ((upto i).map fun x => .d (D.int .i64 x)) →
   (∀ S v6 i' g0 g2 g8 g9 g10 g11 g12 g13 g14 g15 g16 g17 g18 g19 g20 g21 g22 g23 g24 g25 g26 g27 g28 g29 g30 g31 g32 g33 g34 g35 g36 g37 g38 g39 g40 g41 g42 g43 g44 g45, (∀ (j : Nat) (o : Ob), S0[j]? = some o → S[j]? = some o ∧ NotAt v6 j) → OwnS S v6 3 ((upto n).map fun x => .d (D.int .i64 x)) → R (.exit 2) (g0 :: (.ref 0 0 0) :: g2 :: x3 :: x4 :: x5 :: v6 :: i' :: g8 :: g9 :: g10 :: g11 :: g12 :: g13 :: g14 :: g15 :: g16 :: g17 :: g18 :: g19 :: g20 :: g21 :: g22 :: g23 :: g24 :: g25 :: g26 :: g27 :: g28 :: g29 :: g30 :: g31 :: g32 :: g33 :: g34 :: g35 :: g36 :: g37 :: g38 :: g39 :: g40 :: g41 :: g42 :: g43 :: g44 :: g45 :: []) S []) →
   Wp cfg (.loop (lpOf (Try.f14.body.getD .skip) 2)) (g0 :: (.ref 0 0 0) :: g2 :: x3 :: x4 :: x5 :: v6 :: (.d (.int .i64 (i : Int))) :: g8 :: g9 :: g10 :: g11 :: g12 :: g13 :: g14 :: g15 :: g16 :: g17 :: g18 :: g19 :: g20 :: g21 :: g22 :: g23 :: g24 :: g25 :: g26 :: g27 :: g28 :: g29 :: g30 :: g31 :: g32 :: g33 :: g34 :: g35 :: g36 :: g37 :: g38 :: g39 :: g40 :: g41 :: g42 :: g43 :: g44 :: g45 :: []) S [] R := by
  intro k
  have hq := quo8 hii
  have hw : IntKind.i64.wrap (2 + l.inodes.tdiv 8) = (n : Int) := by rw [hi, wrap64 (by omega)]
  induction k with
  | zero =>
    intro i S v6 g0 g2 g8 g9 g10 g11 g12 g13 g14 g15 g16 g17 g18 g19 g20 g21 g22 g23 g24 g25 g26 g27 g28 g29 g30 g31 g32 g33 g34 g35 g36 g37 g38 g39 g40 g41 g42 g43 g44 g45 hk hin hK ho hR
    have hie : i = n := by omega
    subst hie
    have hr := rowE_of (hK 0 _ hS0).1
    rw [wk_of]
    refine wk_loop ?_
    conv => arg 2; whnf
    simp (maxSteps := 1000000) (disch := first | assumption | omega | rfl) only [↓vmp, vme, vmb, ty, hP, dec_t, dec_f, wrap64, List.length_map, Int.toNat_natCast, Nat.reduceAdd, List.cons_append, List.nil_append, Option.map_some, Option.map_none, strOf_mk, sb_eql, sb_neq, vmg, ↓vgd, ↓vst, ↓vix, hr, hq, hw]
    exact hR _ _ _ _ _ _ _ _ _ _ _ _ _ _ _ _ _ _ _ _ _ _ _ _ _ _ _ _ _ _ _ _ _ _ _ _ _ _ _ _ _ _ _ hK ho
  | succ k ih =>
    intro i S v6 g0 g2 g8 g9 g10 g11 g12 g13 g14 g15 g16 g17 g18 g19 g20 g21 g22 g23 g24 g25 g26 g27 g28 g29 g30 g31 g32 g33 g34 g35 g36 g37 g38 g39 g40 g41 g42 g43 g44 g45 hk hin hK ho hR
    have hlt : i < n := by omega
    have hr := rowE_of (hK 0 _ hS0).1
    have h3 : IntKind.i64.wrap ((i : Int) + 1) = ((i + 1 : Nat) : Int) := by rw [wrap64 (by omega)]; omega
    obtain ⟨v', S', c, ha, ho', hfr, hlen⟩ := ap46 (i : Int) ho (by rw [upto_len]; omega)
    rw [← upto_succ] at ho'
    rw [wk_of]
    refine wk_loop ?_
    conv => arg 2; whnf
    simp (maxSteps := 1000000) (disch := first | assumption | omega | rfl) only [↓vmp, vme, vmb, ty, hP, dec_t, dec_f, wrap64, List.length_map, Int.toNat_natCast, Nat.reduceAdd, List.cons_append, List.nil_append, Option.map_some, Option.map_none, strOf_mk, sb_eql, sb_neq, vmg, ↓vgd, ↓vst, ↓vix, hr, hq, hw, ha, h3]
    exact ih (i + 1) S' v' _ _ _ _ _ _ _ _ _ _ _ _ _ _ _ _ _ _ _ _ _ _ _ _ _ _ _ _ _ _ _ _ _ _ _ _ _ _ _ _ (by omega) (by omega) (fun j o hj => hfr j o (hK j o hj).1 (hK j o hj).2) ho' hR
theorem stepB {S S2 S' : Store} {v v' : V} {vs : List V} {x : V} {b : List UInt8} {g : Nat → List UInt8} (hK : ∀ (j : Nat) (o : Ob), S[j]? = some o → S2[j]? = some o) (ho2 : OwnS S2 v 40 vs) (hx : IsBy S2 x b) (hfr : ∀ (j : Nat) (o : Ob), S2[j]? = some o → NotAt v j → S'[j]? = some o ∧ NotAt v' j) (h : ∀ (i : Nat) (y : V), vs[i]? = some y → IsBy S y (g i)) (hb : b = g vs.length) : ∀ (i : Nat) (y : V), (vs ++ [x])[i]? = some y → IsBy S' y (g i) := by
  have hk2 : ∀ (j : Nat) (ys : List V), S2[j]? = some (Ob.row ys 5) → S'[j]? = some (Ob.row ys 5) := fun j ys hj => (hfr j _ hj (notAt_row ho2 hj (by decide))).1
  intro i y hy
  by_cases hi : i < vs.length
  · rw [List.getElem?_append_left hi] at hy
    exact ((h i y hy).keep fun j ys hj => hK j _ hj).keep hk2
  · have hlt := (List.getElem?_eq_some_iff.1 hy).1
    rw [List.length_append, List.length_singleton] at hlt
    have hie : i = vs.length := by omega
    subst hie
    rw [List.getElem?_append_right (Nat.le_refl _), Nat.sub_self] at hy
    cases hy
    rw [← hb]
    exact hx.keep hk2
theorem ownK {S S2 : Store} {v : V} {vs : List V} (ho : OwnS S v 40 vs) (hK : ∀ (j : Nat) (o : Ob), S[j]? = some o → S2[j]? = some o) : OwnS S2 v 40 vs := by
  rcases ho with h | ⟨id, h1, h2⟩
  · exact .inl h
  · exact .inr ⟨id, h1, hK _ _ h2⟩
theorem blks_l (hRI : RInode) (B I M K : Nat) (hB : B ≤ 512) (hI : I ≤ 128) (hM : M < 18446744073709551616) (hi : 2 + (I : Int).tdiv 8 = ((2 + K : Nat) : Int)) (hK16 : K ≤ 16) (hK1 : 1 ≤ K) (R : Post) : ∀ (k no : Nat) (S : Store) (v3 : V) (vs : List V) (g0 g2 g5 g6 g7 g8 g9 g10 g11 g12 g13 g14 g15 g16 g17 g18 g19 g20 g21 g22 g23 g24 g25 g26 g27 g28 g29 g30 g31 g32 g33 g34 g35 g36 g37 g38 g39 g40 g41 g42 g43 g44 g45 : V), B - no = k → no ≤ B → S[0]? = some (.row [.d (encLay ⟨(B : Int), (I : Int), (M : Int)⟩)] 24) → OwnS S v3 40 vs → vs.length = no → (∀ (i : Nat) (x : V), vs[i]? = some x → IsBy S x (finB B I M K i)) →
   (∀ S v3 vs i' g0 g2 g5 g6 g7 g8 g9 g10 g11 g12 g13 g14 g15 g16 g17 g18 g19 g20 g21 g22 g23 g24 g25 g26 g27 g28 g29 g30 g31 g32 g33 g34 g35 g36 g37 g38 g39 g40 g41 g42 g43 g44 g45, OwnS S v3 40 vs → vs.length = B → (∀ (i : Nat) (x : V), vs[i]? = some x → IsBy S x (finB B I M K i)) → R (.exit 0) (g0 :: (.ref 0 0 0) :: g2 :: v3 :: i' :: g5 :: g6 :: g7 :: g8 :: g9 :: g10 :: g11 :: g12 :: g13 :: g14 :: g15 :: g16 :: g17 :: g18 :: g19 :: g20 :: g21 :: g22 :: g23 :: g24 :: g25 :: g26 :: g27 :: g28 :: g29 :: g30 :: g31 :: g32 :: g33 :: g34 :: g35 :: g36 :: g37 :: g38 :: g39 :: g40 :: g41 :: g42 :: g43 :: g44 :: g45 :: []) S []) →
   Wp cfg (.loop (lpOf (Try.f14.body.getD .skip) 0)) (g0 :: (.ref 0 0 0) :: g2 :: v3 :: (.d (.int .i64 (no : Int))) :: g5 :: g6 :: g7 :: g8 :: g9 :: g10 :: g11 :: g12 :: g13 :: g14 :: g15 :: g16 :: g17 :: g18 :: g19 :: g20 :: g21 :: g22 :: g23 :: g24 :: g25 :: g26 :: g27 :: g28 :: g29 :: g30 :: g31 :: g32 :: g33 :: g34 :: g35 :: g36 :: g37 :: g38 :: g39 :: g40 :: g41 :: g42 :: g43 :: g44 :: g45 :: []) S [] R := by
  intro k
  induction k with
  | zero =>
    intro no S v3 vs g0 g2 g5 g6 g7 g8 g9 g10 g11 g12 g13 g14 g15 g16 g17 g18 g19 g20 g21 g22 g23 g24 g25 g26 g27 g28 g29 g30 g31 g32 g33 g34 g35 g36 g37 g38 g39 g40 g41 g42 g43 g44 g45 hk hno h0 ho hvl hE hR
    have hie : no = B := by omega
    subst hie
    have hr := rowE_of h0
    rw [wk_of]
    refine wk_loop ?_
    conv => arg 2; whnf
    simp (maxSteps := 1000000) (disch := first | assumption | omega | rfl) only [↓vmp, vme, vmb, ty, hP, dec_t, dec_f, wrap64, List.length_map, Int.toNat_natCast, Nat.reduceAdd, List.cons_append, List.nil_append, Option.map_some, Option.map_none, strOf_mk, sb_eql, sb_neq, vmg, ↓vgd, ↓vst, ↓vix, hr]
    exact hR _ _ _ _ _ _ _ _ _ _ _ _ _ _ _ _ _ _ _ _ _ _ _ _ _ _ _ _ _ _ _ _ _ _ _ _ _ _ _ _ _ _ _ _ _ _ _ ho hvl hE
  | succ k ih =>
    intro no S v3 vs g0 g2 g5 g6 g7 g8 g9 g10 g11 g12 g13 g14 g15 g16 g17 g18 g19 g20 g21 g22 g23 g24 g25 g26 g27 g28 g29 g30 g31 g32 g33 g34 g35 g36 g37 g38 g39 g40 g41 g42 g43 g44 g45 hk hno h0 ho hvl hE hR
    have hlt : no < B := by omega
    have h3 : IntKind.i64.wrap ((no : Int) + 1) = ((no + 1 : Nat) : Int) := by rw [wrap64 (by omega)]; omega
    have hr := rowE_of h0
    have hr2 : ∀ l, rowE (S ++ l) 0 0 = some (.d (encLay ⟨(B : Int), (I : Int), (M : Int)⟩)) := fun l => rowE_of (e := 24) (by rw [List.getElem?_append_left (getLen h0)]; exact h0)
    have hmk := fun S => mk40 (S := S) (n := 256) (by omega)
    simp only [nl256] at hmk
    have hKa : ∀ (l : Store) (j : Nat) (o : Ob), S[j]? = some o → (S ++ l)[j]? = some o := fun l j o hj => by rw [List.getElem?_append_left (getLen hj)]; exact hj
    have hn0 : NotAt v3 0 := notAt_row ho h0 (by decide)
    rw [wk_of]
    refine wk_loop ?_
    conv => arg 2; whnf
    have hf0 : no ≠ 0 → ∀ i : Decidable ((no : Int) = 0), @decide ((no : Int) = 0) i = false := fun h i => decide_eq_false (by omega)
    have hf1 : no ≠ 1 → ∀ i : Decidable ((no : Int) = 1), @decide ((no : Int) = 1) i = false := fun h i => decide_eq_false (by omega)
    have hf2 : no ≠ 2 → ∀ i : Decidable ((no : Int) = 2), @decide ((no : Int) = 2) i = false := fun h i => decide_eq_false (by omega)
    have hSl : (S ++ [rowY (zeros 256)])[S.length]? = some (rowY (zeros 256)) := by simp
    have ho2 := ownK ho (hKa [rowY (zeros 256)])
    by_cases c0 : no = 0
    · have ht0 : ((no : Int) = 0) = True := by simp [c0]
      have hpt : ∀ {ops dst k T S F Q}, WpR cfg ops dst k T S F Q (some (.enter 59 [.d (encLay ⟨(B : Int), (I : Int), (M : Int)⟩)])) = WpL cfg ops k (putT T dst (.d (encB (supB B I M)))) S F Q := fun {ops dst k T S F Q} => wr_call_d (C := cfg) (ds := [encLay ⟨(B : Int), (I : Int), (M : Int)⟩]) rfl (rput_ok B I M hB hI hM)
      obtain ⟨v', S', c, ha, ho', hfr, hlen⟩ := app35d (b := supB B I M) ho2 (by omega)
      simp (maxSteps := 1000000) (disch := first | assumption | omega | rfl) only [↓vmp, vme, vmb, ty, hP, dec_t, dec_f, wrap64, List.length_map, Int.toNat_natCast, Nat.reduceAdd, List.cons_append, List.nil_append, Option.map_some, Option.map_none, strOf_mk, sb_eql, sb_neq, vmg, ↓vgd, ↓vst, ↓vix, hr, hr2, hmk, hpt, bo59, bs35d, ha, h3, ht0, hf1 (by omega), hf2 (by omega), dec_True]
      exact ih (no + 1) S' v' _ _ _ _ _ _ _ _ _ _ _ _ _ _ _ _ _ _ _ _ _ _ _ _ _ _ _ _ _ _ _ _ _ _ _ _ _ _ _ _ _ _ _ _ (by omega) (by omega) (hfr 0 _ (hKa _ 0 _ h0) hn0).1 ho' (by rw [List.length_append, hvl]; rfl) (stepB (hKa _) ho2 (.inl rfl) hfr hE (by rw [hvl]; unfold finB; rw [if_pos c0])) hR
    by_cases c1 : no = 1
    · have ht1 : ((no : Int) = 1) = True := by simp [c1]
      simp (maxSteps := 1000000) (disch := first | assumption | omega | rfl) only [↓vmp, vme, vmb, ty, hP, dec_t, dec_f, wrap64, List.length_map, Int.toNat_natCast, Nat.reduceAdd, List.cons_append, List.nil_append, Option.map_some, Option.map_none, strOf_mk, sb_eql, sb_neq, vmg, ↓vgd, ↓vst, ↓vix, hr, hr2, hmk, ht1, hf0 (by omega), dec_True]
      refine bown_l ⟨(B : Int), (I : Int), (M : Int)⟩ (2 + K) (by omega) hi (by simp only [InB]; omega) _ (S ++ [rowY (zeros 256)]) (hKa _ 0 _ h0) _ _ _ (2 + K) 0 _ _ _ _ _ _ _ _ _ _ _ _ _ _ _ _ _ _ _ _ _ _ _ _ _ _ _ _ _ _ _ _ _ _ _ _ _ _ _ _ _ _ (by omega) (by omega) (fun j o hj => ⟨hj, NotAt.ts⟩) OwnS.nil ?_
      intro S2 v6 i' g0 g2 g8 g9 g10 g11 g12 g13 g14 g15 g16 g17 g18 g19 g20 g21 g22 g23 g24 g25 g26 g27 g28 g29 g30 g31 g32 g33 g34 g35 g36 g37 g38 g39 g40 g41 g42 g43 g44 g45 hK2 ho6
      have hcm := fun {ops dst k T F Q} => call_rmake (ops := ops) (dst := dst) (k := k) (T := T) (S := S2) (F := F) (Q := Q) ho6 (by omega) (by omega)
      obtain ⟨id, hv6, hid, _⟩ := hcm (ops := #[]) (dst := Option.none) (k := []) (T := []) (F := []) (Q := fun _ _ _ _ => True)
      have hcm2 : ∀ {ops dst k T F Q}, WpR cfg ops dst k T S2 F Q (some (.enter 60 [v6])) = WpL cfg ops k (putT T dst (.d (encB (mapB (2 + K))))) (S2.set id (.fz ((upto (2 + K)).map (D.int .i64)) 3)) F Q := fun {ops dst k T F Q} => by
        obtain ⟨id', hv', _, h9⟩ := hcm (ops := ops) (dst := dst) (k := k) (T := T) (F := F) (Q := Q)
        have : id' = id := by rw [hv6] at hv'; simp only [V.rs.injEq] at hv'; exact hv'.1.symm
        subst this
        exact h9
      have hK3 : ∀ (j : Nat) (o : Ob), S[j]? = some o → (S2.set id (.fz ((upto (2 + K)).map (D.int .i64)) 3))[j]? = some o := fun j o hj => by
        have h8 := hK2 j o (hKa _ j o hj)
        rw [List.getElem?_set_ne]
        · exact h8.1
        · rintro rfl
          exact h8.2 0 (2 + K) hv6
      have ho3 := ownK ho hK3
      have ho6one := own_one ho6
      obtain ⟨v', S', c, ha, ho', hfr, hlen⟩ := app35d (b := mapB (2 + K)) ho3 (by omega)
      simp (maxSteps := 1000000) (disch := first | assumption | omega | rfl) only [↓vmp, vme, vmb, ty, hP, dec_t, dec_f, wrap64, List.length_map, Int.toNat_natCast, Nat.reduceAdd, List.cons_append, List.nil_append, Option.map_some, Option.map_none, strOf_mk, sb_eql, sb_neq, vmg, ↓vgd, ↓vst, ↓vix, hcm2, bo60, ho6one, bs35d, ha, h3, hf2 (by omega), dec_True, if_true, eq_self]
      exact ih (no + 1) S' v' _ _ _ _ _ _ _ _ _ _ _ _ _ _ _ _ _ _ _ _ _ _ _ _ _ _ _ _ _ _ _ _ _ _ _ _ _ _ _ _ _ _ _ _ (by omega) (by omega) (hfr 0 _ (hK3 0 _ h0) hn0).1 ho' (by rw [List.length_append, hvl]; rfl) (stepB hK3 ho3 (.inl rfl) hfr hE (by rw [hvl]; unfold finB; rw [if_neg (by omega), if_pos c1])) hR
    by_cases c2 : no = 2
    · have ht2 : ((no : Int) = 2) = True := by simp [c2]
      have hri : ∀ {ops dst k T S F Q}, WpR cfg ops dst k T S F Q (some (.enter 62 [.agg [.d (.int .i64 2), .d (.int .i64 1), .d (.int .i64 0), .d (.int .i64 1), .d (.int .i64 0), .d (.int .i64 0), .d (.int .i64 0), .d (.int .i64 0), .d (.int .i64 0), .d (.int .i64 0), .d (.int .i64 0)]])) = WpL cfg ops k (putT T dst (.d (encB rootI))) S F Q := fun {ops dst k T S F Q} => wr_call_v (C := cfg) (ds := [rootD]) rfl (by kernel_rfl) (by kernel_rfl) hRI
      have hly := fun {ops dst k T F Q} => call_rlay1 (ops := ops) (dst := dst) (k := k) (T := T) (S := S ++ [rowY (zeros 256)]) (F := F) (Q := Q) (c := rootI) hSl (by rw [z256]; omega) (by rw [z256]; decide)
      rw [rootB_eq, z256] at hly
      have hK3 : ∀ (j : Nat) (o : Ob), S[j]? = some o → ((S ++ [rowY (zeros 256)]).set S.length (.fz ((zeros 256).map byD) 5))[j]? = some o := fun j o hj => by
        have := getLen hj
        rw [List.getElem?_set_ne (by omega)]
        exact hKa _ j o hj
      have ho3 := ownK ho hK3
      obtain ⟨v', S', c, ha, ho', hfr, hlen⟩ := app35d (b := rootB) ho3 (by omega)
      simp (maxSteps := 1000000) (disch := first | assumption | omega | rfl) only [↓vmp, vme, vmb, ty, hP, dec_t, dec_f, wrap64, List.length_map, Int.toNat_natCast, Nat.reduceAdd, List.cons_append, List.nil_append, Option.map_some, Option.map_none, strOf_mk, sb_eql, sb_neq, vmg, ↓vgd, ↓vst, ↓vix, hr, hr2, hmk, ht2, hf0 (by omega), hf1 (by omega), dec_True, bd61, hri, bo62, hly, bo61, bs35d, ha, h3]
      exact ih (no + 1) S' v' _ _ _ _ _ _ _ _ _ _ _ _ _ _ _ _ _ _ _ _ _ _ _ _ _ _ _ _ _ _ _ _ _ _ _ _ _ _ _ _ _ _ _ _ (by omega) (by omega) (hfr 0 _ (hK3 0 _ h0) hn0).1 ho' (by rw [List.length_append, hvl]; rfl) (stepB hK3 ho3 (.inl rfl) hfr hE (by rw [hvl]; unfold finB; rw [if_neg (by omega), if_neg (by omega)]; exact (if_pos c2).symm)) hR
    · have hK3 : ∀ (j : Nat) (o : Ob), S[j]? = some o → ((S ++ [rowY (zeros 256)]) ++ [.row [.rs S.length 0 256] 40])[j]? = some o := fun j o hj => by
        rw [List.append_assoc]
        exact hKa _ j o hj
      have ho3 := ownK ho hK3
      have hx3 : ((S ++ [rowY (zeros 256)]) ++ [.row [.rs S.length 0 256] 40])[(S ++ [rowY (zeros 256)]).length]? = some (.row [.rs S.length 0 256] 40) := by simp
      have hnn : NotAt v3 (S ++ [rowY (zeros 256)]).length := by
        rcases ho with ⟨rfl, _⟩ | ⟨id, rfl, hid⟩
        · exact NotAt.ts
        · intro off l h
          simp only [V.rs.injEq] at h
          have := getLen hid
          have h9 := h.1
          rw [List.length_append] at h9
          omega
      obtain ⟨v', S', c, ha, ho', hfr, hlen⟩ := app35r ho3 hx3 hnn (by omega)
      simp (maxSteps := 1000000) (disch := first | assumption | omega | rfl) only [↓vmp, vme, vmb, ty, hP, dec_t, dec_f, wrap64, List.length_map, Int.toNat_natCast, Nat.reduceAdd, List.cons_append, List.nil_append, Option.map_some, Option.map_none, strOf_mk, sb_eql, sb_neq, vmg, ↓vgd, ↓vst, ↓vix, hr, hr2, hmk, hf0 c0, hf1 c1, hf2 c2, bs35r, ha, h3]
      exact ih (no + 1) S' v' _ _ _ _ _ _ _ _ _ _ _ _ _ _ _ _ _ _ _ _ _ _ _ _ _ _ _ _ _ _ _ _ _ _ _ _ _ _ _ _ _ _ _ _ (by omega) (by omega) (hfr 0 _ (hK3 0 _ h0) hn0).1 ho' (by rw [List.length_append, hvl]; rfl) (stepB hK3 ho3 (b := zeros 256) (.inr ⟨S.length, by rw [z256], by rw [List.append_assoc, List.getElem?_append_right (Nat.le_refl _), Nat.sub_self]; rfl⟩) hfr hE (by rw [hvl]; unfold finB; rw [if_neg c0, if_neg c1]; exact (if_neg c2).symm)) hR
end Go.Proofs.Ytobgdmgldagjkaa
end
/-! The document's answer: all blocks, told; and whether bytes are the same. -/
section
set_option linter.unusedVariables false
set_option linter.unusedSimpArgs false
set_option maxRecDepth 100000
set_option maxHeartbeats 4000000
namespace Go.Proofs.Ytobgdmgldagjkaa
open Go.Vm
def encBB (l : List (List UInt8)) : D := .sl (l.map encB)
theorem isBy_frz {S : Store} {x : V} {b : List UInt8} (h : IsBy S x b) : Go.Vm.frz S 11 x = some (encB b) := by
  rcases h with rfl | ⟨id, rfl, hS⟩
  · rfl
  · show (match S[id]? with
      | some (.row xs e) => if 0 + b.length ≤ xs.length && (allO (Go.Vm.frz S 10) xs).isSome then (allO (Go.Vm.frz S 10) ((xs.drop 0).take b.length)).map D.sl else none
      | some (.fz xs e) => if 0 + b.length ≤ xs.length then some (D.sl ((xs.drop 0).take b.length)) else none
      | _ => none) = _
    rw [hS]
    have h2 : ((b.map fun x => V.d (byD x)).drop 0).take b.length = b.map fun x => V.d (byD x) := by rw [List.drop_zero, List.take_of_length_le (by simp)]
    simp only [rowY, allO_by, h2, List.length_map, Nat.zero_add, Nat.le_refl, decide_true, Option.isSome_some, Bool.and_self, if_true, Option.map_some]
    rfl
theorem allO_isBy {S : Store} : ∀ {vs : List V} {bs : List (List UInt8)}, vs.length = bs.length → (∀ (i : Nat) (x : V) (b : List UInt8), vs[i]? = some x → bs[i]? = some b → IsBy S x b) → allO (Go.Vm.frz S 11) vs = some (bs.map encB)
  | [], [], _, _ => rfl
  | [], _ :: _, h, _ => by simp at h
  | _ :: _, [], h, _ => by simp at h
  | x :: r, b :: q, h, hE => by
    have h1 := isBy_frz (hE 0 x b rfl rfl)
    have h2 := allO_isBy (S := S) (vs := r) (bs := q) (by simpa using h) (fun i y c hy hc => hE (i + 1) y c (by simpa using hy) (by simpa using hc))
    simp only [allO, h1, h2, List.map_cons]
theorem own_by {S : Store} {v : V} {vs : List V} {bs : List (List UInt8)} (ho : OwnS S v 40 vs) (hl : vs.length = bs.length) (hE : ∀ (i : Nat) (x : V) (b : List UInt8), vs[i]? = some x → bs[i]? = some b → IsBy S x b) : Go.Vm.frz S frzFuel v = some (encBB bs) := by
  have h1 := allO_isBy hl hE
  rcases ho with ⟨rfl, rfl⟩ | ⟨id, rfl, hS⟩
  · cases bs with
    | nil => rfl
    | cons _ _ => simp at hl
  · show (match S[id]? with
      | some (.row xs e) => if 0 + vs.length ≤ xs.length && (allO (Go.Vm.frz S 11) xs).isSome then (allO (Go.Vm.frz S 11) ((xs.drop 0).take vs.length)).map D.sl else none
      | some (.fz xs e) => if 0 + vs.length ≤ xs.length then some (D.sl ((xs.drop 0).take vs.length)) else none
      | _ => none) = _
    rw [hS]
    simp only [h1, List.drop_zero, List.take_length, Nat.zero_add, Nat.le_refl, decide_true, Option.isSome_some, Bool.and_self, if_true, Option.map_some]
    rfl
def finL (B I M K : Nat) : List (List UInt8) := (List.range B).map (finB B I M K)
theorem Blocks_ok (hRI : RInode) (B I M K : Nat) (hB : B ≤ 512) (hI : I ≤ 128) (hM : M < 18446744073709551616) (hi : 2 + (I : Int).tdiv 8 = ((2 + K : Nat) : Int)) (hK16 : K ≤ 16) (hK1 : 1 ≤ K) : Ev cfg 14 [encLay ⟨(B : Int), (I : Int), (M : Int)⟩] (.ret (.d (encBB (finL B I M K)))) := by
  refine ev_of rfl rfl body14 ?_
  show Wp cfg (Try.f14.body.getD .skip) ((.d (encLay ⟨(B : Int), (I : Int), (M : Int)⟩)) :: (.tup []) :: (.tup []) :: (.tup []) :: (.tup []) :: (.tup []) :: (.tup []) :: (.tup []) :: (.tup []) :: (.tup []) :: (.tup []) :: (.tup []) :: (.tup []) :: (.tup []) :: (.tup []) :: (.tup []) :: (.tup []) :: (.tup []) :: (.tup []) :: (.tup []) :: (.tup []) :: (.tup []) :: (.tup []) :: (.tup []) :: (.tup []) :: (.tup []) :: (.tup []) :: (.tup []) :: (.tup []) :: (.tup []) :: (.tup []) :: (.tup []) :: (.tup []) :: (.tup []) :: (.tup []) :: (.tup []) :: (.tup []) :: (.tup []) :: (.tup []) :: (.tup []) :: (.tup []) :: (.tup []) :: (.tup []) :: (.tup []) :: (.tup []) :: (.tup []) :: []) [] [] _
  conv => arg 2; whnf
  simp (maxSteps := 1000000) (disch := first | assumption | omega | rfl) only [↓vmp, vme, vmb, ty, hP, dec_t, dec_f, wrap64, List.length_map, Int.toNat_natCast, Nat.reduceAdd, List.cons_append, List.nil_append, Option.map_some, Option.map_none, strOf_mk, sb_eql, sb_neq, vmg, ↓vgd, ↓vst, ↓vix]
  refine blks_l hRI B I M K hB hI hM hi hK16 hK1 _ B 0 _ _ [] _ _ _ _ _ _ _ _ _ _ _ _ _ _ _ _ _ _ _ _ _ _ _ _ _ _ _ _ _ _ _ _ _ _ _ _ _ _ _ _ _ _ _ rfl (Nat.zero_le _) rfl OwnS.nil rfl (fun i x h => by cases h) ?_
  intro S v3 vs i' g0 g2 g5 g6 g7 g8 g9 g10 g11 g12 g13 g14 g15 g16 g17 g18 g19 g20 g21 g22 g23 g24 g25 g26 g27 g28 g29 g30 g31 g32 g33 g34 g35 g36 g37 g38 g39 g40 g41 g42 g43 g44 g45 ho hvl hE
  simp (maxSteps := 1000000) (disch := first | assumption | omega | rfl) only [↓vmp, vme, vmb, ty, hP, dec_t, dec_f, wrap64, List.length_map, Int.toNat_natCast, Nat.reduceAdd, List.cons_append, List.nil_append, Option.map_some, Option.map_none, strOf_mk, sb_eql, sb_neq, vmg, ↓vgd, ↓vst, ↓vix]
  refine retQ_one rfl (own_one ho) (own_by ho (by rw [hvl]; simp [finL]) ?_)
  intro i x b hx hb
  have hb2 : finB B I M K i = b := by
    unfold finL at hb
    rw [List.getElem?_map] at hb
    obtain ⟨q, h1, h2⟩ := Option.map_eq_some_iff.1 hb
    have h3 := (List.getElem?_eq_some_iff.1 h1).2
    rw [List.getElem_range] at h3
    rw [h3]; exact h2
  rw [← hb2]
  exact hE i x hx
theorem neq5 {S : Store} {x : UInt8} : binV Try.prog .neq 5 (.d (.int .u8 (x.toNat : Int))) (.d (.int .u8 (x.toNat : Int))) = some (.d (.bool false)) := by
  have h5 : Try.prog.underlying 5 = some (.int .u8) := by kernel_rfl
  simp [binV, intBin]
theorem same_l (a : List UInt8) (hl : a.length ≤ 1000) (R : Post) : ∀ (k i : Nat) (g2 g3 g4 g6 g7 g8 g9 g10 g11 g12 g13 g14 g15 g16 g17 g18 g19 g20 g21 g22 g23 g24 g25 : V), a.length - i = k → i ≤ a.length →
   (∀ i' g2 g3 g4 g6 g7 g8 g9 g10 g11 g12 g13 g14 g15 g16 g17 g18 g19 g20 g21 g22 g23 g24 g25, R (.exit 0) ((.d (encB a)) :: (.d (encB a)) :: g2 :: g3 :: g4 :: i' :: g6 :: g7 :: g8 :: g9 :: g10 :: g11 :: g12 :: g13 :: g14 :: g15 :: g16 :: g17 :: g18 :: g19 :: g20 :: g21 :: g22 :: g23 :: g24 :: g25 :: []) [] []) →
   Wp cfg (.loop (lpOf (Try.f16.body.getD .skip) 0)) ((.d (encB a)) :: (.d (encB a)) :: g2 :: g3 :: g4 :: (.d (.int .i64 (i : Int))) :: g6 :: g7 :: g8 :: g9 :: g10 :: g11 :: g12 :: g13 :: g14 :: g15 :: g16 :: g17 :: g18 :: g19 :: g20 :: g21 :: g22 :: g23 :: g24 :: g25 :: []) [] [] R := by
  intro k
  induction k with
  | zero =>
    intro i g2 g3 g4 g6 g7 g8 g9 g10 g11 g12 g13 g14 g15 g16 g17 g18 g19 g20 g21 g22 g23 g24 g25 hk hi hR
    have hie : i = a.length := by omega
    subst hie
    rw [wk_of]
    refine wk_loop ?_
    conv => arg 2; whnf
    simp (maxSteps := 1000000) (disch := first | assumption | omega | rfl) only [↓vmp, vme, vmb, ty, hP, dec_t, dec_f, wrap64, List.length_map, Int.toNat_natCast, Nat.reduceAdd, List.cons_append, List.nil_append, Option.map_some, Option.map_none, strOf_mk, sb_eql, sb_neq, vmg, ↓vgd, ↓vst, ↓vix, lenB]
    exact hR _ _ _ _ _ _ _ _ _ _ _ _ _ _ _ _ _ _ _ _ _ _ _ _
  | succ k ih =>
    intro i g2 g3 g4 g6 g7 g8 g9 g10 g11 g12 g13 g14 g15 g16 g17 g18 g19 g20 g21 g22 g23 g24 g25 hk hi hR
    have hlt : i < a.length := by omega
    have h3 : IntKind.i64.wrap ((i : Int) + 1) = ((i + 1 : Nat) : Int) := by rw [wrap64 (by omega)]; omega
    have hix := fun S => ixB (S := S) hlt
    have hnq : ∀ i' : Decidable (((a[i].toNat : Nat) : Int) ≠ ((a[i].toNat : Nat) : Int)), @decide _ i' = false := fun i' => decide_eq_false (fun h => h rfl)
    rw [wk_of]
    refine wk_loop ?_
    conv => arg 2; whnf
    simp (maxSteps := 1000000) (disch := first | assumption | omega | rfl) only [↓vmp, vme, vmb, ty, hP, dec_t, dec_f, wrap64, List.length_map, Int.toNat_natCast, Nat.reduceAdd, List.cons_append, List.nil_append, Option.map_some, Option.map_none, strOf_mk, sb_eql, sb_neq, vmg, ↓vgd, ↓vst, ↓vix, lenB]
    refine wk_draw (is := [0, 1, 2, 3, 4, 5, 6, 7, 8]) (h := 0) (by kernel_rfl) (by kernel_rfl) ?_
    simp (maxSteps := 1000000) (disch := first | assumption | omega | rfl) only [List.replicate_zero, eq_self, vmd, vmk, vmo, vmg, vme, vmb, ty, hP, dec_t, dec_f, wrap64, List.length_map, Int.toNat_natCast, Nat.reduceAdd, ↓vgd, ↓vst, ↓vix, vso, hix, ld5]
    refine ⟨by kernel_rfl, ?_⟩
    simp (maxSteps := 1000000) (disch := first | assumption | omega | rfl) only [↓vmp, vme, vmb, ty, hP, dec_t, dec_f, wrap64, List.length_map, Int.toNat_natCast, Nat.reduceAdd, List.cons_append, List.nil_append, Option.map_some, Option.map_none, strOf_mk, sb_eql, sb_neq, vmg, ↓vgd, ↓vst, ↓vix, hnq, h3]
    exact ih (i + 1) _ _ _ _ _ _ _ _ _ _ _ _ _ _ _ _ _ _ _ _ _ _ _ (by omega) (by omega) hR
theorem Same_ok (a : List UInt8) (hl : a.length ≤ 1000) : Ev cfg 16 [encB a, encB a] (.ret (.d (.bool true))) := by
  refine ev_of rfl rfl body16 ?_
  show Wp cfg (Try.f16.body.getD .skip) ((.d (encB a)) :: (.d (encB a)) :: (.tup []) :: (.tup []) :: (.tup []) :: (.tup []) :: (.tup []) :: (.tup []) :: (.tup []) :: (.tup []) :: (.tup []) :: (.tup []) :: (.tup []) :: (.tup []) :: (.tup []) :: (.tup []) :: (.tup []) :: (.tup []) :: (.tup []) :: (.tup []) :: (.tup []) :: (.tup []) :: (.tup []) :: (.tup []) :: (.tup []) :: (.tup []) :: []) [] [] _
  conv => arg 2; whnf
  have hnq : ∀ i' : Decidable (((a.length : Nat) : Int) ≠ ((a.length : Nat) : Int)), @decide _ i' = false := fun i' => decide_eq_false (fun h => h rfl)
  simp (maxSteps := 1000000) (disch := first | assumption | omega | rfl) only [↓vmp, vme, vmb, ty, hP, dec_t, dec_f, wrap64, List.length_map, Int.toNat_natCast, Nat.reduceAdd, List.cons_append, List.nil_append, Option.map_some, Option.map_none, strOf_mk, sb_eql, sb_neq, vmg, ↓vgd, ↓vst, ↓vix, lenB, hnq]
  refine same_l a hl _ a.length 0 _ _ _ _ _ _ _ _ _ _ _ _ _ _ _ _ _ _ _ _ _ _ _ rfl (Nat.zero_le _) ?_
  intro i' g2 g3 g4 g6 g7 g8 g9 g10 g11 g12 g13 g14 g15 g16 g17 g18 g19 g20 g21 g22 g23 g24 g25
  simp (maxSteps := 1000000) (disch := first | assumption | omega | rfl) only [↓vmp, vme, vmb, ty, hP, dec_t, dec_f, wrap64, List.length_map, Int.toNat_natCast, Nat.reduceAdd, List.cons_append, List.nil_append, Option.map_some, Option.map_none, strOf_mk, sb_eql, sb_neq, vmg, ↓vgd, ↓vst, ↓vix]
  exact retQ_one rfl rfl rfl
end Go.Proofs.Ytobgdmgldagjkaa
end
/-! store.Mount, Layout, Err: a store of a disk. -/
section
set_option linter.unusedVariables false
set_option linter.unusedSimpArgs false
set_option maxRecDepth 100000
set_option maxHeartbeats 4000000
namespace Go.Proofs.Ytobgdmgldagjkaa
open Go.Vm
theorem mount_nil (S : Store) : EvS cfg 13 [.d .nilp] S (fun o S' => S' = S ∧ o = .ret (.tup [.d .nilp, .d (.int .i64 1)])) := by
  refine evS_of rfl body13 ?_
  show Wp cfg (Try.f13.body.getD .skip) ((.d .nilp) :: (.tup []) :: (.tup []) :: (.tup []) :: (.tup []) :: (.tup []) :: (.tup []) :: (.tup []) :: (.tup []) :: (.tup []) :: (.tup []) :: (.tup []) :: (.tup []) :: (.tup []) :: (.tup []) :: (.tup []) :: (.tup []) :: (.tup []) :: (.tup []) :: (.tup []) :: (.tup []) :: (.tup []) :: (.tup []) :: (.tup []) :: (.tup []) :: (.tup []) :: (.tup []) :: (.tup []) :: (.tup []) :: (.tup []) :: (.tup []) :: (.tup []) :: (.tup []) :: (.tup []) :: (.tup []) :: (.tup []) :: (.tup []) :: []) S [] _
  conv => arg 2; whnf
  rw [wk_of]
  simp (maxSteps := 1000000) (disch := first | assumption | omega | rfl) only [↓vmp, vme, vmb, ty, hP, dec_t, dec_f, wrap64, List.length_map, Int.toNat_natCast, Nat.reduceAdd, List.cons_append, List.nil_append, Option.map_some, Option.map_none, strOf_mk, sb_eql, sb_neq, vmg, ↓vgd, ↓vst, ↓vix, eq26n]
  exact ⟨rfl, _, rfl, rfl, rfl⟩
theorem call_sget {ops : Array Oper} {dst : Option Tmp} {k : List Oper} {T : List V} {S : Store} {F : Dfs} {Q : Post} {u v : V} {b : List UInt8} (hu : IsB u b) (h : Ev cfg 57 [blkD b] (.ret v)) : WpR cfg ops dst k T S F Q (some (.enter 57 [u])) = WpL cfg ops k (putT T dst v) S F Q :=
  wr_call_v (ds := [blkD b]) rfl (by simp only [allO, hu.frz (n := 10), frzFuel]) (by rw [List.flatMap_cons, hu.frzIds]; rfl) h
theorem read_split (S : Store) (d r : Nat) (vs : List V) (f w : Int) (lit : Bool) (v : V) (b : List UInt8) (h : DskAt S d r vs f lit false w 0) (h0 : vs[0]? = some v) (hb : IsB v b) (hl : b.length = 256) :
    ∃ S1, K2 d r S S1 ∧ DskAt S1 d r vs f lit false w 1 ∧ ∀ {ops dst k T F Q}, WpR cfg ops dst k T S F Q (some (.enter 56 [.ref d 0 0, .d (.int .i64 0)])) = WpL cfg ops k (putT T dst (.tup [v, .d (.int .i64 0)])) S1 F Q := by
  have h0l : 0 < vs.length := (List.getElem?_eq_some_iff.1 h0).1
  have h0v : vs[0] = v := (List.getElem?_eq_some_iff.1 h0).2
  have hrd := fun {ops dst k T F Q} => wr_callE (ops := ops) (dst := dst) (l := k) (T := T) (F := F) (Q := Q) rfl (read_ok S d r vs f w 0 lit 0 _ _ h h0l h0v hb hl (by omega))
  simp only [nl0] at hrd
  exact ⟨_, K2.refl.setd.app, (h.setd (f' := f) (lit' := lit) (off' := false) (w' := w) (q' := 0 + 1)).app, hrd⟩
theorem mount_bad (S : Store) (d r : Nat) (vs : List V) (f w : Int) (lit : Bool) (h : DskAt S d r vs f lit false w 0) (h0 : vs[0]? = some (blkV (zeros 256))) : EvS cfg 13 [.ref d 0 0] S (fun o S' => K2 d r S S' ∧ o = .ret (.tup [.d .nilp, .d (.int .i64 13)])) := by
  refine evS_of rfl body13 ?_
  show Wp cfg (Try.f13.body.getD .skip) ((.ref d 0 0) :: (.tup []) :: (.tup []) :: (.tup []) :: (.tup []) :: (.tup []) :: (.tup []) :: (.tup []) :: (.tup []) :: (.tup []) :: (.tup []) :: (.tup []) :: (.tup []) :: (.tup []) :: (.tup []) :: (.tup []) :: (.tup []) :: (.tup []) :: (.tup []) :: (.tup []) :: (.tup []) :: (.tup []) :: (.tup []) :: (.tup []) :: (.tup []) :: (.tup []) :: (.tup []) :: (.tup []) :: (.tup []) :: (.tup []) :: (.tup []) :: (.tup []) :: (.tup []) :: (.tup []) :: (.tup []) :: (.tup []) :: (.tup []) :: []) S [] _
  conv => arg 2; whnf
  rw [wk_of]
  have l0 := z256
  obtain ⟨S1, hK, hD, hrd⟩ := read_split S d r vs f w lit _ _ h h0 isB_v l0
  have hg := fun {ops dst k T S F Q} => call_sget (ops := ops) (dst := dst) (k := k) (T := T) (S := S) (F := F) (Q := Q) isB_v get_bad
  simp (maxSteps := 1000000) (disch := first | assumption | omega | rfl) only [↓vmp, vme, vmb, ty, hP, dec_t, dec_f, wrap64, List.length_map, Int.toNat_natCast, Nat.reduceAdd, List.cons_append, List.nil_append, Option.map_some, Option.map_none, strOf_mk, sb_eql, sb_neq, vmg, ↓vgd, ↓vst, ↓vix, eq26f, hrd, bo56, z42, zf42, z24, zf24, List.append_assoc, List.length_append, List.length_cons, List.length_nil, rA0 rfl, rA1 rfl, pA0 rfl, pA1 rfl, svv42, ldv42, one_v, hg, bo57, srb24, lr24, dec_True]
  refine wk_draww (is := [0, 1, 2, 3, 4, 5, 6, 7, 8]) (h := 0) (by kernel_rfl) (by kernel_rfl) ?_
  simp (maxSteps := 1000000) (disch := first | assumption | omega | rfl) only [List.replicate_zero, eq_self, vmd, dw1, dw2, dw3, dw4, dw5, dw6, dw7, dw8, dw9, dw10, dw11, dw12, vmk, vmo, vmg, vme, vmb, ty, hP, dec_t, dec_f, wrap64, List.length_map, Int.toNat_natCast, Nat.reduceAdd, ↓vgd, ↓vst, ↓vix, vso, List.append_nil]
  refine ⟨by kernel_rfl, ?_⟩
  simp (maxSteps := 1000000) (disch := first | assumption | omega | rfl) only [↓vmp, vme, vmb, ty, hP, dec_t, dec_f, wrap64, List.length_map, Int.toNat_natCast, Nat.reduceAdd, List.cons_append, List.nil_append, Option.map_some, Option.map_none, strOf_mk, sb_eql, sb_neq, vmg, ↓vgd, ↓vst, ↓vix]
  exact ⟨rfl, _, rfl, hK.app, rfl⟩
theorem wl_makeMap {C : Cfg} {ops : Array Oper} {dst : Option Tmp} {ty : TypeId} {pos : String} {after : Array Edge} {l : List Oper} {T : List V} {S : Store} {F : Dfs} {Q : Post} {t : TypeId} : WpL C ops (⟨dst, .makeMap t none, ty, pos, after, none⟩ :: l) T S F Q = WpL C ops l (putT T dst (.mr S.length)) (S ++ [.mp [] 0]) F Q := by
  rw [wl_op rfl]; rfl
/-- The way up to the root. -/
theorem bd150 {x : Nat} {m : Nat} : buildV Try.prog 150 [(0, .ref x 0 0), (1, .mr m)] = some (.agg [.ref x 0 0, .mr m, .ts [], .d (.int .i64 0)]) := by kernel_rfl
theorem ft150 {x : Nat} {m : Nat} : fitsT Try.prog 150 (.agg [.ref x 0 0, .mr m, .ts [], .d (.int .i64 0)]) = true := by kernel_rfl
theorem cnew_ok (S : Store) (d : Nat) : EvS cfg 58 [.ref d 0 0] S (fun o S' => S' = S ++ [.mp [] 0, .row [.agg [.ref d 0 0, .mr S.length, .ts [], .d (.int .i64 0)]] 150] ∧ o = .ret (.ref (S.length + 1) 0 0)) := by
  refine evS_of rfl body58 ?_
  show Wp cfg (Try.f58.body.getD .skip) ((.ref d 0 0) :: (.tup []) :: (.tup []) :: (.tup []) :: (.tup []) :: (.tup []) :: (.tup []) :: (.tup []) :: (.tup []) :: []) S [] _
  conv => arg 2; whnf
  rw [wk_of]
  simp (maxSteps := 1000000) (disch := first | assumption | omega | rfl) only [↓vmp, vme, vmb, ty, hP, dec_t, dec_f, wrap64, List.length_map, Int.toNat_natCast, Nat.reduceAdd, List.cons_append, List.nil_append, Option.map_some, Option.map_none, strOf_mk, sb_eql, sb_neq, vmg, ↓vgd, ↓vst, ↓vix, ↓wl_makeMap, eq26f, bd150, ft150, List.append_assoc, List.length_append, List.length_cons, List.length_nil]
  exact ⟨rfl, _, rfl, rfl, rfl⟩
/-- A store in the store: its cache, layout, error and marks. -/
def stoV (c m : Nat) (B I M : Int) (e : Int) : V := .agg [.ref c 0 0, .d (.int .i64 B), .d (.int .i64 I), .d (.int .u64 M), .d (.int .i64 e), .mr m]
theorem bd103 {c m : Nat} {l : Lay} : buildV Try.prog 103 [(0, .ref c 0 0), (1, .d (encLay l)), (3, .mr m)] = some (stoV c m l.blocks l.inodes l.merge 0) := by kernel_rfl
theorem ft103 {c m : Nat} {B I M e : Int} : fitsT Try.prog 103 (stoV c m B I M e) = true := by kernel_rfl
theorem ad_map {P : Program} {T : List V} {dst : Option Tmp} {ty : TypeId} {pos : String} {after : Array Edge} {g : Option (Nat × Bool)} {t : TypeId} : addO P T ⟨dst, .makeMap t none, ty, pos, after, g⟩ = some (.mp [] 0, .mr) := rfl
theorem ad_box {P : Program} {T : List V} {dst : Option Tmp} {ty : TypeId} {pos : String} {after : Array Edge} {g : Option (Nat × Bool)} {e : TypeId} {x : Operand} {v : V} (hx : evalO T x = v) (hf : fitsT P e v = true) : addO P T ⟨dst, .box e x, ty, pos, after, g⟩ = some (.row [v] e, fun id => .ref id 0 0) := by
  simp only [addO, hx, hf, if_true]
theorem ak_map {ty : TypeId} {pos : String} {after : Array Edge} {dst : Option Tmp} {g : Option (Nat × Bool)} {t : TypeId} {r : Option Operand} : addsK ⟨dst, .makeMap t r, ty, pos, after, g⟩ = true := rfl
theorem ak_box {ty : TypeId} {pos : String} {after : Array Edge} {dst : Option Tmp} {g : Option (Nat × Bool)} {t : TypeId} {r : Operand} : addsK ⟨dst, .box t r, ty, pos, after, g⟩ = true := rfl
theorem ad_box' {P : Program} {T : List V} {dst : Option Tmp} {ty : TypeId} {pos : String} {after : Array Edge} {g : Option (Nat × Bool)} {e : TypeId} {x : Nat} : addO P T ⟨dst, .box e (.tmp x), ty, pos, after, g⟩ = if fitsT P e (T.getD x .junk) then some (.row [T.getD x .junk] e, fun id => .ref id 0 0) else none := rfl
theorem same_lay {l : Lay} : sameV (.d (encLay l)) (.d (encLay l)) = true := by
  simp [sameV, sameCell, sameCell0, sameF, sameLeaf, encLay, all2]
theorem hole_at {S l : Store} {i : Nat} (h : Nat.ble (i + 1) 8 = true) : (S ++ [.hole, .hole, .hole, .hole, .hole, .hole, .hole, .hole] ++ l)[S.length + i]? = some Ob.hole := by
  rw [List.append_assoc, List.getElem?_append_right (by omega), Nat.add_sub_cancel_left]
  have hi : i < 8 := Nat.le_of_ble_eq_true h
  match i, hi with
  | 0, _ => rfl
  | 1, _ => rfl
  | 2, _ => rfl
  | 3, _ => rfl
  | 4, _ => rfl
  | 5, _ => rfl
  | 6, _ => rfl
  | 7, _ => rfl
theorem K2.setn {d r : Nat} {S S' : Store} {i : Nat} {o : Ob} (h : K2 d r S S') (hi : S.length ≤ i) : K2 d r S (S'.set i o) := fun j p a b c => by
  have := getLen c
  rw [List.getElem?_set_ne (by omega)]; exact h j p a b c
theorem DskAt.seto {S : Store} {d r : Nat} {vs : List V} {f w q : Int} {lit off : Bool} {i : Nat} {o : Ob} (h : DskAt S d r vs f lit off w q) (h1 : i ≠ d) (h2 : i ≠ r) : DskAt (S.set i o) d r vs f lit off w q :=
  ⟨by rw [List.getElem?_set_ne h1]; exact h.hd, by rw [List.getElem?_set_ne h2]; exact h.hr, h.ne⟩
section
variable {d x y c m : Nat} {B I M e : Int}
theorem eq32f : binV Try.prog .eql 32 (.ref d x y) (.d .nilp) = some (.d (.bool false)) := by kernel_rfl
theorem ne32f : binV Try.prog .neq 32 (.ref d x y) (.d .nilp) = some (.d (.bool true)) := by kernel_rfl
theorem eq32n : binV Try.prog .eql 32 (.d .nilp) (.d .nilp) = some (.d (.bool true)) := by kernel_rfl
theorem fr103_1 : fieldAddrV Try.prog 103 1 (.ref d x y) = some (.ref d x (y + 1)) := by kernel_rfl
theorem fr103_2 : fieldAddrV Try.prog 103 2 (.ref d x y) = some (.ref d x (y + 4)) := by kernel_rfl
theorem lr103_1 : loadR Try.prog 24 1 (some (stoV c m B I M e)) = some (.agg [.d (.int .i64 B), .d (.int .i64 I), .d (.int .u64 M)]) := by kernel_rfl
theorem lr103_2 : loadR Try.prog 29 4 (some (stoV c m B I M e)) = some (.d (.int .i64 e)) := by kernel_rfl
end
theorem mount_ok (S : Store) (d r : Nat) (vs : List V) (f w : Int) (lit : Bool) (B I M : Nat) (hB : B ≤ 512) (hI : I ≤ 128) (hM : M < 18446744073709551616) (hm : MayL ⟨(B : Int), (I : Int), (M : Int)⟩) (h : DskAt S d r vs f lit false w 0) (v : V) (h0 : vs[0]? = some v) (hv : IsB v (supB B I M)) (hvl : vs.length = B) :
    EvS cfg 13 [.ref d 0 0] S (fun o S' => K2 d r S S' ∧ DskAt S' d r vs f lit false w 1 ∧ ∃ x c m, o = .ret (.tup [.ref x 0 0, .d (.int .i64 0)]) ∧ S'[x]? = some (.row [stoV c m B I M 0] 103)) := by
  refine evS_of rfl body13 ?_
  show Wp cfg (Try.f13.body.getD .skip) ((.ref d 0 0) :: (.tup []) :: (.tup []) :: (.tup []) :: (.tup []) :: (.tup []) :: (.tup []) :: (.tup []) :: (.tup []) :: (.tup []) :: (.tup []) :: (.tup []) :: (.tup []) :: (.tup []) :: (.tup []) :: (.tup []) :: (.tup []) :: (.tup []) :: (.tup []) :: (.tup []) :: (.tup []) :: (.tup []) :: (.tup []) :: (.tup []) :: (.tup []) :: (.tup []) :: (.tup []) :: (.tup []) :: (.tup []) :: (.tup []) :: (.tup []) :: (.tup []) :: (.tup []) :: (.tup []) :: (.tup []) :: (.tup []) :: (.tup []) :: []) S [] _
  conv => arg 2; whnf
  rw [wk_of]
  have l0 := z256
  have l5 := supB_len B I M
  obtain ⟨S1, hK, hD, hrd⟩ := read_split S d r vs f w lit _ _ h h0 hv l5
  have hg := fun {ops dst k T S F Q} => call_sget (ops := ops) (dst := dst) (k := k) (T := T) (S := S) (F := F) (Q := Q) hv (get_sup B I M hB hI hM hm)
  have hst := bt42.store hv l5 (w := blkV (zeros 256)) isB_v z256
  have hld := bt42.load hv l5
  have hv1 := hv.one
  have hne : ∀ i : Decidable ((B : Int) ≠ (B : Int)), @decide ((B : Int) ≠ (B : Int)) i = false := fun i => decide_eq_false (by omega)
  generalize ha : S1.length = a
  simp (maxSteps := 1000000) (disch := first | assumption | omega | rfl) only [↓vmp, vme, vmb, ty, hP, dec_t, dec_f, wrap64, List.length_map, Int.toNat_natCast, Nat.reduceAdd, List.cons_append, List.nil_append, Option.map_some, Option.map_none, strOf_mk, sb_eql, sb_neq, vmg, ↓vgd, ↓vst, ↓vix, eq26f, hrd, bo56, z42, zf42, z24, zf24, List.append_assoc, List.length_append, List.length_cons, List.length_nil, ha, rA0 ha, rA1 ha, pA0 ha, pA1 ha, hst, hld, hv1, hg, bo57, srb24, lr24, dec_True]
  have hsz := fun {ops base K ws cs i dst T} l => dw_callE (ops := ops) (base := base) (K := K) (ws := ws) (cs := cs) (i := i) (dst := dst) (T := T) rfl (size_ok (S1 ++ l) d r _ _ _ _ _ _ hD.app)
  rw [hvl] at hsz
  refine wk_draww (is := [0, 1, 2, 3, 4, 5, 6, 7, 8]) (h := 0) (by kernel_rfl) (by kernel_rfl) ?_
  simp (maxSteps := 1000000) (disch := first | assumption | omega | rfl) only [List.replicate_zero, eq_self, vmd, dw1, dw2, dw3, dw4, dw5, dw6, dw7, dw8, dw9, dw10, dw11, dw12, vmk, vmo, vmg, vme, vmb, ty, hP, dec_t, dec_f, wrap64, List.length_map, Int.toNat_natCast, Nat.reduceAdd, ↓vgd, ↓vst, ↓vix, vso, List.append_nil, rA1 ha, hsz, bo49]
  refine ⟨wall_read rfl (by kernel_rfl) rfl (ld_op ((loadV_row (rA1 ha)).trans lr24_0)) sameLeaf_i wall_nil, by kernel_rfl, ?_⟩
  have hrow : ∀ l', rowE ((S1 ++ [.row [v] 42, .row [.d (encLay ⟨(B : Int), (I : Int), (M : Int)⟩)] 24]) ++ l') (a + 1) 0 = some (.d (encLay ⟨(B : Int), (I : Int), (M : Int)⟩)) := fun l' => by
    rw [List.append_assoc]; exact rA1 ha
  have hD2 := hD.app (l := [.row [v] 42, .row [.d (encLay ⟨(B : Int), (I : Int), (M : Int)⟩)] 24])
  have hK2 := hK.app (l := [.row [v] 42, .row [.d (encLay ⟨(B : Int), (I : Int), (M : Int)⟩)] 24])
  generalize S1 ++ [Ob.row [v] 42, .row [.d (encLay ⟨(B : Int), (I : Int), (M : Int)⟩)] 24] = S2 at *
  simp (maxSteps := 1000000) (disch := first | assumption | omega | rfl) only [↓vmp, vme, vmb, ty, hP, dec_t, dec_f, wrap64, List.length_map, Int.toNat_natCast, Nat.reduceAdd, List.cons_append, List.nil_append, Option.map_some, Option.map_none, strOf_mk, sb_eql, sb_neq, vmg, ↓vgd, ↓vst, ↓vix]
  have hcn := fun {ops base K ws cs i dst T} => dw_callE (ops := ops) (base := base) (K := K) (ws := ws) (cs := cs) (i := i) (dst := dst) (T := T) rfl (cnew_ok (S2 ++ [.hole, .hole, .hole, .hole, .hole, .hole, .hole, .hole]) d)
  refine wk_draww (is := [0, 2, 1, 3, 4, 5, 6, 7]) (h := 8) (by kernel_rfl) (by kernel_rfl) ?_
  simp (maxSteps := 1000000) (disch := first | assumption | omega | rfl) only [List.replicate_zero, eq_self, vmd, dw1, dw2, dw3, dw4, dw5, dw6, dw7, dw8, dw9, dw10, dw11, dw12, vmk, vmo, vmg, vme, vmb, ty, hP, dec_t, dec_f, wrap64, List.length_map, Int.toNat_natCast, Nat.reduceAdd, ↓vgd, ↓vst, ↓vix, vso, hrow, hcn, bo58, lr24, ak_map, ak_box, ad_map, ad_box', wa_some, bd103, ft103, if_true, eq_self]
  refine ⟨wall_read rfl (by kernel_rfl) rfl (ld_op ((loadV_row (by rw [List.append_assoc]; exact hrow _)).trans lr24)) same_lay wall_nil, hole_at (by decide), ?_⟩
  refine ⟨by rw [List.getElem?_set_ne (by omega)]; exact hole_at (by decide), by kernel_rfl, ?_⟩
  simp (maxSteps := 1000000) (disch := first | assumption | omega | rfl) only [↓vmp, vme, vmb, ty, hP, dec_t, dec_f, wrap64, List.length_map, Int.toNat_natCast, Nat.reduceAdd, List.cons_append, List.nil_append, Option.map_some, Option.map_none, strOf_mk, sb_eql, sb_neq, vmg, ↓vgd, ↓vst, ↓vix]
  have hdl := hD2.dl
  have hrl := hD2.rl
  refine ⟨rfl, _, rfl, hK2.trans ((K2.refl.app.app.setn (by omega)).setn (by omega)), ((hD2.app.app).seto (by omega) (by omega)).seto (by omega) (by omega), _, _, _, rfl, set_at (o := .hole) ?_⟩
  rw [List.getElem?_set_ne (by omega)]
  exact hole_at (by decide)
theorem lay_of (S : Store) (x c m : Nat) (B I M e : Int) (h : S[x]? = some (.row [stoV c m B I M e] 103)) : EvS cfg 17 [.ref x 0 0] S (fun o S' => S' = S ++ [.row [.agg [.d (.int .i64 B), .d (.int .i64 I), .d (.int .u64 M)]] 24] ∧ o = .ret (.agg [.d (.int .i64 B), .d (.int .i64 I), .d (.int .u64 M)])) := by
  refine evS_of rfl body17 ?_
  show Wp cfg (Try.f17.body.getD .skip) ((.ref x 0 0) :: (.tup []) :: (.tup []) :: (.tup []) :: (.tup []) :: (.tup []) :: (.tup []) :: (.tup []) :: (.tup []) :: (.tup []) :: []) S [] _
  conv => arg 2; whnf
  rw [wk_of]
  have hr : ∀ l, rowE (S ++ l) x 0 = some (stoV c m B I M e) := fun l => rowE_of (e := 103) (by rw [List.getElem?_append_left (getLen h)]; exact h)
  simp (maxSteps := 1000000) (disch := first | assumption | omega | rfl) only [↓vmp, vme, vmb, ty, hP, dec_t, dec_f, wrap64, List.length_map, Int.toNat_natCast, Nat.reduceAdd, List.cons_append, List.nil_append, Option.map_some, Option.map_none, strOf_mk, sb_eql, sb_neq, vmg, ↓vgd, ↓vst, ↓vix, eq32f, fr103_1, z24, zf24, hr, lr103_1, rA0 rfl, pA0 rfl, st24]
  refine ⟨rfl, _, ?_, rfl, rfl⟩
  show loadV Try.prog _ 24 (.ref S.length 0 0) = _
  rw [loadV_row (rA0 rfl)]
  kernel_rfl
theorem err_of (S : Store) (x c m : Nat) (B I M e : Int) (h : S[x]? = some (.row [stoV c m B I M e] 103)) : EvS cfg 18 [.ref x 0 0] S (fun o S' => S' = S ∧ o = .ret (.d (.int .i64 e))) := by
  refine evS_of rfl body18 ?_
  show Wp cfg (Try.f18.body.getD .skip) ((.ref x 0 0) :: (.tup []) :: (.tup []) :: (.tup []) :: (.tup []) :: (.tup []) :: (.tup []) :: (.tup []) :: (.tup []) :: []) S [] _
  conv => arg 2; whnf
  rw [wk_of]
  have hr : rowE S x 0 = some (stoV c m B I M e) := rowE_of (e := 103) h
  simp (maxSteps := 1000000) (disch := first | assumption | omega | rfl) only [↓vmp, vme, vmb, ty, hP, dec_t, dec_f, wrap64, List.length_map, Int.toNat_natCast, Nat.reduceAdd, List.cons_append, List.nil_append, Option.map_some, Option.map_none, strOf_mk, sb_eql, sb_neq, vmg, ↓vgd, ↓vst, ↓vix, eq32f, fr103_2, hr, lr103_2]
  exact ⟨rfl, _, rfl, rfl, rfl⟩
end Go.Proofs.Ytobgdmgldagjkaa
end
/-! The statement's code: no device is told, or one that could not be written. -/
section
set_option linter.unusedVariables false
set_option linter.unusedSimpArgs false
set_option maxRecDepth 100000
set_option maxHeartbeats 4000000
namespace Go.Proofs.Ytobgdmgldagjkaa
open Go.Vm
theorem evS_split {f : FuncId} {args : List V} {S : Store} {R : Out → Store → Prop} (hs : cfg.shared f = true) (he : EvS cfg f args S R) : ∃ o S2, R o S2 ∧ ∀ v, o = .ret v → ∀ {ops dst k T F Q}, WpR cfg ops dst k T S F Q (some (.enter f args)) = WpL cfg ops k (putT T dst v) S2 F Q := by
  obtain ⟨n, o, S', hn, hR⟩ := he
  refine ⟨o, S', hR, ?_⟩
  rintro v rfl ops dst k T F Q
  exact wr_callE hs ⟨n, _, _, hn, rfl, rfl⟩
theorem works_ev : Ev cfg 7 [] (.ret (.d (.bool true))) := ⟨0, by kernel_rfl⟩
section
variable {ops : Array Oper} {dst : Option Tmp} {k : List Oper} {T : List V} {S : Store} {F : Dfs} {Q : Post}
theorem call_works : WpR cfg ops dst k T S F Q (some (.enter 7 [])) = WpL cfg ops k (putT T dst (.d (.bool true))) S F Q := wr_call_d (ds := []) rfl works_ev
theorem call_rmay {l : Lay} (hb : InB l.blocks) (hi : InB l.inodes) : WpR cfg ops dst k T S F Q (some (.enter 11 [.d (encLay l)])) = WpL cfg ops k (putT T dst (.d (.bool (decide (MayL l))))) S F Q := wr_call_d (ds := [encLay l]) rfl (May_ok l hb hi)
end
abbrev z256V : V := blkV (zeros 256)
/-- The disk is made, and its fuse is set. -/
theorem prep (l : Lay) (N : Nat) (hN : 16 ≤ N ∧ N ≤ 60) (fuse : Int) : ∃ S1 S2, (∀ {ops dst k T F Q}, WpR cfg ops dst k T [.row [.d (encLay l)] 24] F Q (some (.enter 8 [.d (.int .i64 (N : Int))])) = WpL cfg ops k (putT T dst (.ref 2 0 0)) S1 F Q) ∧ (∀ {ops dst k T F Q}, WpR cfg ops dst k T S1 F Q (some (.enter 9 [.ref 2 0 0, .d (.int .i64 fuse)])) = WpL cfg ops k (putT T dst (.tup [])) S2 F Q) ∧ DskAt S2 2 1 (List.replicate N z256V) (if fuse ≥ 0 then fuse else 0) (decide (fuse ≥ 0)) false 0 0 ∧ S2[0]? = some (.row [.d (encLay l)] 24) := by
  have h1 := fun {ops dst k T F Q} => wr_callE (ops := ops) (dst := dst) (l := k) (T := T) (F := F) (Q := Q) rfl (new_ok [.row [.d (encLay l)] 24] N hN.1 (by omega))
  have hD : DskAt ([.row [.d (encLay l)] 24] ++ [.row (List.replicate N z256V) 42, .row [dskV 1 N 0 false false 0 0] 89]) 2 1 (List.replicate N z256V) 0 false false 0 0 := ⟨by rw [List.length_replicate]; rfl, rfl, by decide⟩
  have h2 := fun {ops dst k T F Q} => wr_callE (ops := ops) (dst := dst) (l := k) (T := T) (F := F) (Q := Q) rfl (fuse_ok _ 2 1 _ _ _ _ _ _ fuse hD)
  exact ⟨_, _, h1, h2, hD.setd, rfl⟩
/-- The law's code, where the disk has no device. -/
theorem bad_split (l : Lay) (S3 : Store) (vs : List V) (f w : Int) (lit off : Bool) (hD : DskAt S3 2 1 vs f lit off w 0) (h0 : vs[0]? = some z256V) (hc : S3[0]? = some (.row [.d (encLay l)] 24)) (hb : InB l.blocks) (hi : InB l.inodes) (b : List UInt8) (e : Int) (hput : Ev cfg 48 [encLay l] (.ret (.tup [.d (blkD b), .d (.int .i64 e)]))) (hbl : b.length = 256) :
    ∃ S4 S5 S6, (∀ {ops dst k T F Q}, WpR cfg ops dst k T S3 F Q (some (.enter 10 [.d .nilp, .d (encLay l)])) = WpL cfg ops k (putT T dst (.d (.int .i64 1))) S4 F Q) ∧ (∀ {ops dst k T F Q}, WpR cfg ops dst k T S4 F Q (some (.enter 12 [.ref 2 0 0])) = WpL cfg ops k (putT T dst (.tup [])) S5 F Q) ∧ (∀ {ops dst k T F Q}, WpR cfg ops dst k T S5 F Q (some (.enter 13 [.ref 2 0 0])) = WpL cfg ops k (putT T dst (.tup [.d .nilp, .d (.int .i64 13)])) S6 F Q) ∧ (∀ {ops dst k T F Q}, WpR cfg ops dst k T S6 F Q (some (.enter 13 [.d .nilp])) = WpL cfg ops k (putT T dst (.tup [.d .nilp, .d (.int .i64 1)])) S6 F Q) := by
  have h1 := fun {ops dst k T F Q} => wr_callE (ops := ops) (dst := dst) (l := k) (T := T) (F := F) (Q := Q) rfl (fmt_nil l hb hi _ hput b e rfl hbl S3)
  have h2 := fun {ops dst k T F Q} => wr_callE (ops := ops) (dst := dst) (l := k) (T := T) (F := F) (Q := Q) rfl (up_ok (S3 ++ [.row [.d (encLay l)] 24, .row [.d (blkD b)] 42]) 2 1 vs f w 0 lit off hD.app)
  have hD2 := (hD.app (l := [.row [.d (encLay l)] 24, .row [.d (blkD b)] 42])).setd (f' := 0) (lit' := false) (off' := false) (w' := w) (q' := 0)
  obtain ⟨o, S6, ⟨_, ho⟩, h3⟩ := evS_split rfl (mount_bad _ 2 1 vs 0 w false hD2 h0)
  have h4 := fun {ops dst k T F Q} => wr_callE (ops := ops) (dst := dst) (l := k) (T := T) (F := F) (Q := Q) rfl (mount_nil S6)
  exact ⟨_, _, S6, h1, h2, h3 _ ho, h4⟩
theorem law_small (l : Lay) (n fuse : Int) (h : n < 16 ∨ n > 60) : Ev cfg 3 [encLay l, .int .i64 n, .int .i64 fuse] (.ret (.d (.bool true))) := by
  refine ev_of rfl rfl body3 ?_
  show Wp cfg (Try.f3.body.getD .skip) ((.d (encLay l)) :: (.d (.int .i64 n)) :: (.d (.int .i64 fuse)) :: (.tup []) :: (.tup []) :: (.tup []) :: (.tup []) :: (.tup []) :: (.tup []) :: (.tup []) :: (.tup []) :: (.tup []) :: (.tup []) :: (.tup []) :: (.tup []) :: (.tup []) :: (.tup []) :: (.tup []) :: (.tup []) :: (.tup []) :: (.tup []) :: (.tup []) :: (.tup []) :: (.tup []) :: (.tup []) :: (.tup []) :: (.tup []) :: (.tup []) :: (.tup []) :: (.tup []) :: (.tup []) :: (.tup []) :: (.tup []) :: (.tup []) :: (.tup []) :: (.tup []) :: (.tup []) :: (.tup []) :: (.tup []) :: (.tup []) :: (.tup []) :: (.tup []) :: (.tup []) :: (.tup []) :: (.tup []) :: (.tup []) :: (.tup []) :: (.tup []) :: (.tup []) :: (.tup []) :: (.tup []) :: (.tup []) :: (.tup []) :: (.tup []) :: (.tup []) :: (.tup []) :: (.tup []) :: (.tup []) :: (.tup []) :: (.tup []) :: (.tup []) :: (.tup []) :: (.tup []) :: (.tup []) :: (.tup []) :: (.tup []) :: (.tup []) :: (.tup []) :: (.tup []) :: (.tup []) :: (.tup []) :: (.tup []) :: (.tup []) :: (.tup []) :: (.tup []) :: (.tup []) :: (.tup []) :: (.tup []) :: (.tup []) :: (.tup []) :: (.tup []) :: (.tup []) :: (.tup []) :: (.tup []) :: (.tup []) :: (.tup []) :: (.tup []) :: (.tup []) :: (.tup []) :: (.tup []) :: (.tup []) :: (.tup []) :: (.tup []) :: (.tup []) :: (.tup []) :: (.tup []) :: (.tup []) :: (.tup []) :: (.tup []) :: (.tup []) :: (.tup []) :: (.tup []) :: (.tup []) :: (.tup []) :: (.tup []) :: (.tup []) :: (.tup []) :: (.tup []) :: (.tup []) :: (.tup []) :: (.tup []) :: (.tup []) :: (.tup []) :: (.tup []) :: (.tup []) :: (.tup []) :: (.tup []) :: (.tup []) :: (.tup []) :: (.tup []) :: (.tup []) :: (.tup []) :: (.tup []) :: (.tup []) :: (.tup []) :: (.tup []) :: (.tup []) :: (.tup []) :: (.tup []) :: (.tup []) :: (.tup []) :: (.tup []) :: []) [] [] _
  conv => arg 2; whnf
  by_cases h1 : n < 16
  · simp (maxSteps := 1000000) (disch := first | assumption | omega | rfl) only [↓vmp, vme, vmb, ty, hP, dec_t, dec_f, wrap64, List.length_map, Int.toNat_natCast, Nat.reduceAdd, List.cons_append, List.nil_append, Option.map_some, Option.map_none, strOf_mk, sb_eql, sb_neq, vmg, ↓vgd, ↓vst, ↓vix, call_works, bo7]
    exact retQ_one rfl rfl rfl
  · have h2 : n > 60 := by omega
    simp (maxSteps := 1000000) (disch := first | assumption | omega | rfl) only [↓vmp, vme, vmb, ty, hP, dec_t, dec_f, wrap64, List.length_map, Int.toNat_natCast, Nat.reduceAdd, List.cons_append, List.nil_append, Option.map_some, Option.map_none, strOf_mk, sb_eql, sb_neq, vmg, ↓vgd, ↓vst, ↓vix, call_works, bo7]
    exact retQ_one rfl rfl rfl
theorem law_bad (l : Lay) (hb : InB l.blocks) (hi : InB l.inodes) (N : Nat) (hN : 16 ≤ N ∧ N ≤ 60) (fuse : Int) (hf : InB fuse) (hm : ¬ MayL l) : Ev cfg 3 [encLay l, .int .i64 (N : Int), .int .i64 fuse] (.ret (.d (.bool true))) := by
  obtain ⟨S1, S2, r1, r2, hD, hc⟩ := prep l N hN fuse
  have r3 := fun {ops dst k T F Q} => wr_callE (ops := ops) (dst := dst) (l := k) (T := T) (F := F) (Q := Q) rfl (fmt_bad l hb hi hm 2 S2)
  have hc2 := rowE_of hc
  have hc3 : rowE (S2 ++ [.row [.d (encLay l)] 24, .row [.d (blkD (zeros 256))] 42]) 0 0 = some (.d (encLay l)) := rowE_of (e := 24) (by rw [List.getElem?_append_left (getLen hc)]; exact hc)
  obtain ⟨S4, S5, S6, r4, r5, r6, r7⟩ := bad_split l (S2 ++ [.row [.d (encLay l)] 24, .row [.d (blkD (zeros 256))] 42]) _ _ _ _ _ hD.app (by rw [List.getElem?_replicate, if_pos (by omega)]) (by rw [List.getElem?_append_left (getLen hc)]; exact hc) hb hi _ _ (put_bad l hb hi hm) z256
  have hy := fun {ops dst k T S F Q} => call_rmay (ops := ops) (dst := dst) (k := k) (T := T) (S := S) (F := F) (Q := Q) hb hi
  rw [decide_eq_false hm] at hy
  refine ev_of rfl rfl body3 ?_
  show Wp cfg (Try.f3.body.getD .skip) ((.d (encLay l)) :: (.d (.int .i64 (N : Int))) :: (.d (.int .i64 fuse)) :: (.tup []) :: (.tup []) :: (.tup []) :: (.tup []) :: (.tup []) :: (.tup []) :: (.tup []) :: (.tup []) :: (.tup []) :: (.tup []) :: (.tup []) :: (.tup []) :: (.tup []) :: (.tup []) :: (.tup []) :: (.tup []) :: (.tup []) :: (.tup []) :: (.tup []) :: (.tup []) :: (.tup []) :: (.tup []) :: (.tup []) :: (.tup []) :: (.tup []) :: (.tup []) :: (.tup []) :: (.tup []) :: (.tup []) :: (.tup []) :: (.tup []) :: (.tup []) :: (.tup []) :: (.tup []) :: (.tup []) :: (.tup []) :: (.tup []) :: (.tup []) :: (.tup []) :: (.tup []) :: (.tup []) :: (.tup []) :: (.tup []) :: (.tup []) :: (.tup []) :: (.tup []) :: (.tup []) :: (.tup []) :: (.tup []) :: (.tup []) :: (.tup []) :: (.tup []) :: (.tup []) :: (.tup []) :: (.tup []) :: (.tup []) :: (.tup []) :: (.tup []) :: (.tup []) :: (.tup []) :: (.tup []) :: (.tup []) :: (.tup []) :: (.tup []) :: (.tup []) :: (.tup []) :: (.tup []) :: (.tup []) :: (.tup []) :: (.tup []) :: (.tup []) :: (.tup []) :: (.tup []) :: (.tup []) :: (.tup []) :: (.tup []) :: (.tup []) :: (.tup []) :: (.tup []) :: (.tup []) :: (.tup []) :: (.tup []) :: (.tup []) :: (.tup []) :: (.tup []) :: (.tup []) :: (.tup []) :: (.tup []) :: (.tup []) :: (.tup []) :: (.tup []) :: (.tup []) :: (.tup []) :: (.tup []) :: (.tup []) :: (.tup []) :: (.tup []) :: (.tup []) :: (.tup []) :: (.tup []) :: (.tup []) :: (.tup []) :: (.tup []) :: (.tup []) :: (.tup []) :: (.tup []) :: (.tup []) :: (.tup []) :: (.tup []) :: (.tup []) :: (.tup []) :: (.tup []) :: (.tup []) :: (.tup []) :: (.tup []) :: (.tup []) :: (.tup []) :: (.tup []) :: (.tup []) :: (.tup []) :: (.tup []) :: (.tup []) :: (.tup []) :: (.tup []) :: (.tup []) :: (.tup []) :: (.tup []) :: (.tup []) :: (.tup []) :: []) [] [] _
  conv => arg 2; whnf
  have n1 : ¬ (N : Int) < 16 := by omega
  have n2 : ¬ (N : Int) > 60 := by omega
  simp (maxSteps := 1000000) (disch := first | assumption | omega | rfl) only [↓vmp, vme, vmb, ty, hP, dec_t, dec_f, wrap64, List.length_map, Int.toNat_natCast, Nat.reduceAdd, List.cons_append, List.nil_append, Option.map_some, Option.map_none, strOf_mk, sb_eql, sb_neq, vmg, ↓vgd, ↓vst, ↓vix, r1, bo8, r2, bo9, hc2, hc3, r3, bo10, hy, bo11, r4, r5, bo12, r6, r7, bo13, call_works, bo7, un_not, Bool.not_false, Bool.not_true, eq32n, dec_True]
  exact retQ_one rfl rfl rfl
theorem may_nat (l : Lay) (hm : MayL l) (hM : 0 ≤ l.merge ∧ l.merge < 18446744073709551616) : ∃ B I M K : Nat, l = ⟨(B : Int), (I : Int), (M : Int)⟩ ∧ B ≤ 512 ∧ I ≤ 128 ∧ M < 18446744073709551616 ∧ 2 + l.inodes.tdiv 8 = ((2 + K : Nat) : Int) ∧ K ≤ 16 ∧ 1 ≤ K ∧ 2 + K < B := by
  obtain ⟨h1, h2, h3, h4, h5, h6⟩ := hm
  have hd : l.inodes.tdiv 8 = l.inodes / 8 := Int.tdiv_eq_ediv_of_nonneg (by omega)
  rw [hd] at h6 ⊢
  refine ⟨l.blocks.toNat, l.inodes.toNat, l.merge.toNat, (l.inodes / 8).toNat, ?_, by omega, by omega, by omega, by omega, by omega, by omega, by omega⟩
  cases l
  simp only [Lay.mk.injEq]
  simp only at h1 h3 hM
  omega
theorem law_other (l : Lay) (hb : InB l.blocks) (hi : InB l.inodes) (hM : 0 ≤ l.merge ∧ l.merge < 18446744073709551616) (N : Nat) (hN : 16 ≤ N ∧ N ≤ 60) (fuse : Int) (hf : InB fuse) (hm : MayL l) (hne : l.blocks ≠ (N : Int)) : Ev cfg 3 [encLay l, .int .i64 (N : Int), .int .i64 fuse] (.ret (.d (.bool true))) := by
  obtain ⟨B, I, M, K, hl, hB, hI, hM2, _⟩ := may_nat l hm hM
  have hput := put_sup l B I M hl hB hI hM2 hm
  obtain ⟨S1, S2, r1, r2, hD, hc⟩ := prep l N hN fuse
  have r3 := fun {ops dst k T F Q} => wr_callE (ops := ops) (dst := dst) (l := k) (T := T) (F := F) (Q := Q) rfl (fmt_size l B I M hl hB hI hM2 hm S2 2 1 _ _ _ _ _ _ hD (by rw [List.length_replicate]; rw [hl] at hne; simp only at hne; omega))
  have hc2 := rowE_of hc
  have hc3 : rowE (S2 ++ [.row [.d (encLay l)] 24, .row [.d (blkD (supB B I M))] 42]) 0 0 = some (.d (encLay l)) := rowE_of (e := 24) (by rw [List.getElem?_append_left (getLen hc)]; exact hc)
  obtain ⟨S4, S5, S6, r4, r5, r6, r7⟩ := bad_split l (S2 ++ [.row [.d (encLay l)] 24, .row [.d (blkD (supB B I M))] 42]) _ _ _ _ _ hD.app (by rw [List.getElem?_replicate, if_pos (by omega)]) (by rw [List.getElem?_append_left (getLen hc)]; exact hc) hb hi _ _ hput (supB_len B I M)
  have hy := fun {ops dst k T S F Q} => call_rmay (ops := ops) (dst := dst) (k := k) (T := T) (S := S) (F := F) (Q := Q) hb hi
  rw [decide_eq_true hm] at hy
  refine ev_of rfl rfl body3 ?_
  show Wp cfg (Try.f3.body.getD .skip) ((.d (encLay l)) :: (.d (.int .i64 (N : Int))) :: (.d (.int .i64 fuse)) :: (.tup []) :: (.tup []) :: (.tup []) :: (.tup []) :: (.tup []) :: (.tup []) :: (.tup []) :: (.tup []) :: (.tup []) :: (.tup []) :: (.tup []) :: (.tup []) :: (.tup []) :: (.tup []) :: (.tup []) :: (.tup []) :: (.tup []) :: (.tup []) :: (.tup []) :: (.tup []) :: (.tup []) :: (.tup []) :: (.tup []) :: (.tup []) :: (.tup []) :: (.tup []) :: (.tup []) :: (.tup []) :: (.tup []) :: (.tup []) :: (.tup []) :: (.tup []) :: (.tup []) :: (.tup []) :: (.tup []) :: (.tup []) :: (.tup []) :: (.tup []) :: (.tup []) :: (.tup []) :: (.tup []) :: (.tup []) :: (.tup []) :: (.tup []) :: (.tup []) :: (.tup []) :: (.tup []) :: (.tup []) :: (.tup []) :: (.tup []) :: (.tup []) :: (.tup []) :: (.tup []) :: (.tup []) :: (.tup []) :: (.tup []) :: (.tup []) :: (.tup []) :: (.tup []) :: (.tup []) :: (.tup []) :: (.tup []) :: (.tup []) :: (.tup []) :: (.tup []) :: (.tup []) :: (.tup []) :: (.tup []) :: (.tup []) :: (.tup []) :: (.tup []) :: (.tup []) :: (.tup []) :: (.tup []) :: (.tup []) :: (.tup []) :: (.tup []) :: (.tup []) :: (.tup []) :: (.tup []) :: (.tup []) :: (.tup []) :: (.tup []) :: (.tup []) :: (.tup []) :: (.tup []) :: (.tup []) :: (.tup []) :: (.tup []) :: (.tup []) :: (.tup []) :: (.tup []) :: (.tup []) :: (.tup []) :: (.tup []) :: (.tup []) :: (.tup []) :: (.tup []) :: (.tup []) :: (.tup []) :: (.tup []) :: (.tup []) :: (.tup []) :: (.tup []) :: (.tup []) :: (.tup []) :: (.tup []) :: (.tup []) :: (.tup []) :: (.tup []) :: (.tup []) :: (.tup []) :: (.tup []) :: (.tup []) :: (.tup []) :: (.tup []) :: (.tup []) :: (.tup []) :: (.tup []) :: (.tup []) :: (.tup []) :: (.tup []) :: (.tup []) :: (.tup []) :: (.tup []) :: (.tup []) :: (.tup []) :: (.tup []) :: (.tup []) :: []) [] [] _
  conv => arg 2; whnf
  have n1 : ¬ (N : Int) < 16 := by omega
  have n2 : ¬ (N : Int) > 60 := by omega
  have hde : ∀ i : Decidable (l.blocks ≠ (N : Int)), @decide (l.blocks ≠ (N : Int)) i = true := fun i => decide_eq_true hne
  simp (maxSteps := 1000000) (disch := first | assumption | omega | rfl) only [↓vmp, vme, vmb, ty, hP, dec_t, dec_f, wrap64, List.length_map, Int.toNat_natCast, Nat.reduceAdd, List.cons_append, List.nil_append, Option.map_some, Option.map_none, strOf_mk, sb_eql, sb_neq, vmg, ↓vgd, ↓vst, ↓vix, r1, bo8, r2, bo9, hc2, hc3, r3, bo10, hy, bo11, r4, r5, bo12, r6, r7, bo13, call_works, bo7, un_not, Bool.not_false, Bool.not_true, eq32n, dec_True, hde]
  exact retQ_one rfl rfl rfl
theorem law_down (l : Lay) (hb : InB l.blocks) (hi : InB l.inodes) (hM : 0 ≤ l.merge ∧ l.merge < 18446744073709551616) (N : Nat) (hN : 16 ≤ N ∧ N ≤ 60) (fuse : Int) (hf : InB fuse) (hm : MayL l) (heq : l.blocks = (N : Int)) (hfu : fuse ≥ 0 ∧ fuse < 2 + l.inodes.tdiv 8) : Ev cfg 3 [encLay l, .int .i64 (N : Int), .int .i64 fuse] (.ret (.d (.bool true))) := by
  obtain ⟨B, I, M, K, hl, hB, hI, hM2, hK, hK16, hK1, hKB⟩ := may_nat l hm hM
  have hput := put_sup l B I M hl hB hI hM2 hm
  obtain ⟨S1, S2, r1, r2, hD, hc⟩ := prep l N hN fuse
  have hBN : N = B := by rw [hl] at heq; simp only at heq; omega
  subst hBN
  rw [if_pos hfu.1, decide_eq_true hfu.1] at hD
  obtain ⟨o, S3, hR, hr3⟩ := evS_split rfl (fmt_ok l N I M K hl hB hI hM2 hm hK hK16 hKB S2 2 1 fuse ⟨hfu.1, hf⟩ true hD)
  have hR2 : o = .ret (.d (.int .i64 12)) ∧ ∃ vs w, K2 2 1 S2 S3 ∧ DskAt S3 2 1 vs 0 true true w 0 ∧ vs.length = N ∧ vs[0]? = some z256V := by
    rcases hR with ⟨h1, _⟩ | ⟨_, h2, h3⟩
    · exact absurd ⟨rfl, by omega⟩ h1
    · exact ⟨h2, h3⟩
  obtain ⟨ho, vs, w, hK2, hD3, hvl, hv0⟩ := hR2
  have r3 := fun {ops dst k T F Q} => hr3 _ ho (ops := ops) (dst := dst) (k := k) (T := T) (F := F) (Q := Q)
  have hc2 := rowE_of hc
  have hc3' := hK2 0 _ (by decide) (by decide) hc
  have hc3 := rowE_of hc3'
  obtain ⟨S4, S5, S6, r4, r5, r6, r7⟩ := bad_split l S3 _ _ _ _ _ hD3 hv0 hc3' hb hi _ _ hput (supB_len N I M)
  have hy := fun {ops dst k T S F Q} => call_rmay (ops := ops) (dst := dst) (k := k) (T := T) (S := S) (F := F) (Q := Q) hb hi
  rw [decide_eq_true hm] at hy
  refine ev_of rfl rfl body3 ?_
  show Wp cfg (Try.f3.body.getD .skip) ((.d (encLay l)) :: (.d (.int .i64 (N : Int))) :: (.d (.int .i64 fuse)) :: (.tup []) :: (.tup []) :: (.tup []) :: (.tup []) :: (.tup []) :: (.tup []) :: (.tup []) :: (.tup []) :: (.tup []) :: (.tup []) :: (.tup []) :: (.tup []) :: (.tup []) :: (.tup []) :: (.tup []) :: (.tup []) :: (.tup []) :: (.tup []) :: (.tup []) :: (.tup []) :: (.tup []) :: (.tup []) :: (.tup []) :: (.tup []) :: (.tup []) :: (.tup []) :: (.tup []) :: (.tup []) :: (.tup []) :: (.tup []) :: (.tup []) :: (.tup []) :: (.tup []) :: (.tup []) :: (.tup []) :: (.tup []) :: (.tup []) :: (.tup []) :: (.tup []) :: (.tup []) :: (.tup []) :: (.tup []) :: (.tup []) :: (.tup []) :: (.tup []) :: (.tup []) :: (.tup []) :: (.tup []) :: (.tup []) :: (.tup []) :: (.tup []) :: (.tup []) :: (.tup []) :: (.tup []) :: (.tup []) :: (.tup []) :: (.tup []) :: (.tup []) :: (.tup []) :: (.tup []) :: (.tup []) :: (.tup []) :: (.tup []) :: (.tup []) :: (.tup []) :: (.tup []) :: (.tup []) :: (.tup []) :: (.tup []) :: (.tup []) :: (.tup []) :: (.tup []) :: (.tup []) :: (.tup []) :: (.tup []) :: (.tup []) :: (.tup []) :: (.tup []) :: (.tup []) :: (.tup []) :: (.tup []) :: (.tup []) :: (.tup []) :: (.tup []) :: (.tup []) :: (.tup []) :: (.tup []) :: (.tup []) :: (.tup []) :: (.tup []) :: (.tup []) :: (.tup []) :: (.tup []) :: (.tup []) :: (.tup []) :: (.tup []) :: (.tup []) :: (.tup []) :: (.tup []) :: (.tup []) :: (.tup []) :: (.tup []) :: (.tup []) :: (.tup []) :: (.tup []) :: (.tup []) :: (.tup []) :: (.tup []) :: (.tup []) :: (.tup []) :: (.tup []) :: (.tup []) :: (.tup []) :: (.tup []) :: (.tup []) :: (.tup []) :: (.tup []) :: (.tup []) :: (.tup []) :: (.tup []) :: (.tup []) :: (.tup []) :: (.tup []) :: (.tup []) :: (.tup []) :: (.tup []) :: (.tup []) :: (.tup []) :: (.tup []) :: []) [] [] _
  conv => arg 2; whnf
  have n1 : ¬ (N : Int) < 16 := by omega
  have n2 : ¬ (N : Int) > 60 := by omega
  have hde : ∀ i : Decidable (l.blocks ≠ (N : Int)), @decide (l.blocks ≠ (N : Int)) i = false := fun i => decide_eq_false (by omega)
  have hq := quo8 hi
  have hw : IntKind.i64.wrap (2 + l.inodes.tdiv 8) = 2 + l.inodes.tdiv 8 := wrap64 (by omega)
  have f1 := hfu.1
  have f2 := hfu.2
  simp (maxSteps := 1000000) (disch := first | assumption | omega | rfl) only [↓vmp, vme, vmb, ty, hP, dec_t, dec_f, wrap64, List.length_map, Int.toNat_natCast, Nat.reduceAdd, List.cons_append, List.nil_append, Option.map_some, Option.map_none, strOf_mk, sb_eql, sb_neq, vmg, ↓vgd, ↓vst, ↓vix, r1, bo8, r2, bo9, hc2, hc3, r3, bo10, hy, bo11, r4, r5, bo12, r6, r7, bo13, call_works, bo7, un_not, Bool.not_false, Bool.not_true, eq32n, dec_True, hde, hq, hw]
  exact retQ_one rfl rfl rfl
end Go.Proofs.Ytobgdmgldagjkaa
end
/-! The statement's code, where the device is told: each block is the document's. -/
section
set_option linter.unusedVariables false
set_option linter.unusedSimpArgs false
set_option maxRecDepth 100000
set_option maxHeartbeats 4000000
namespace Go.Proofs.Ytobgdmgldagjkaa
open Go.Vm
theorem ix35 {S : Store} {l : List (List UInt8)} {i : Nat} (h : i < l.length) : indexAddrV Try.prog S 35 (.d (encBB l)) (.d (.int .i64 i)) = some (.d (.ptr (encB l[i]))) := ix_map u35 (fun a => fits40 _) h
theorem ldB {S : Store} {l : List UInt8} : loadV Try.prog S 40 (.d (.ptr (encB l))) = some (.d (encB l)) := by kernel_rfl
theorem sl42 {S : Store} {a i : Nat} {vs : List V} (ha : S[a]? = some (.row vs 42)) : sliceV Try.prog S 42 (.ref a i 0) Option.none Option.none = some (.cs a i 0 256) := by
  have h1 : (sz Try.prog 5 == some 1) = true := by kernel_rfl
  have h2 : aggT Try.prog 5 = false := by kernel_rfl
  have h3 : sz Try.prog 42 = some 256 := by kernel_rfl
  have hb1 : boundV 256 Option.none 256 = some 256 := by kernel_rfl
  have hb2 : boundV 256 Option.none 0 = some 0 := by kernel_rfl
  simp only [sliceV, Try.underlying42, sliceArrV, h1, h2, hb1, hb2, ha, h3, Bool.not_false, Bool.and_self, if_true, Nat.zero_add, Nat.le_refl, Nat.sub_zero]
theorem allO_blk {S : Store} : ∀ {vs : List V}, (∀ v ∈ vs, ∃ b, IsB v b) → (allO (Go.Vm.frz S 11) vs).isSome = true
  | [], _ => rfl
  | v :: r, h => by
    obtain ⟨b, hb⟩ := h v List.mem_cons_self
    have h1 := hb.frz (S := S) (n := 9)
    obtain ⟨q, hq⟩ := Option.isSome_iff_exists.1 (allO_blk (S := S) (vs := r) fun x hx => h x (List.mem_cons_of_mem _ hx))
    simp only [allO, h1, hq]
    rfl
theorem leaf_by : ∀ b : List UInt8, allO leafD (b.map fun x => V.d (byD x)) = some (b.map byD)
  | [] => rfl
  | x :: r => by
    have h : leafD (.d (byD x)) = some (byD x) := rfl
    rw [List.map_cons]
    simp only [allO, leaf_by r, h, List.map_cons]
theorem frz_cs {S : Store} {a i : Nat} {vs : List V} {v : V} {b : List UInt8} (ha : S[a]? = some (.row vs 42)) (hV : ∀ v ∈ vs, ∃ b, IsB v b) (hv : vs[i]? = some v) (hb : IsB v b) (hl : b.length = 256) : Go.Vm.frz S frzFuel (.cs a i 0 256) = some (encB b) := by
  show (match S[a]? with
      | some (.row xs e) => match xs[i]? with
        | some x => if x.isAgg && 0 + 256 ≤ x.cells.length && (allO (Go.Vm.frz S 11) xs).isSome then (allO leafD ((x.cells.drop 0).take 256)).map D.sl else none
        | none => none
      | some (.fz xs e) => match xs[i]? with
        | some x => if x.isAgg && 0 + 256 ≤ x.cells.length then some (D.sl ((x.cells.drop 0).take 256)) else none
        | none => none
      | _ => none) = _
  have ht : ((b.map fun x => V.d (byD x)).drop 0).take 256 = b.map fun x => V.d (byD x) := by rw [List.drop_zero, List.take_of_length_le (by simp; omega)]
  simp only [ha, hv, hb.isAgg, hb.cells, List.length_map, hl, Nat.zero_add, Nat.le_refl, decide_true, allO_blk hV, Bool.and_self, if_true, ht, leaf_by, Option.map_some]
  rfl
section
variable {ops : Array Oper} {F : Dfs} {Q : Post} {K : List Nat → List (Nat × Nat) → List V → Store → Prop} {rd : List Nat} {cs : List (Nat × Nat)} {i : Nat} {dst : Option Tmp} {T : List V} {S : Store}
theorem callV_plain {f : FuncId} {args : List V} {ds : List D} {o : Out} (hs : cfg.shared f = false) (hf : allO (Go.Vm.frz S frzFuel) args = some ds) (hp : plainOut o = true) (he : Ev cfg f ds o) : ∃ n, callV cfg (run cfg n) f args S = some (o, S, 1) := by
  obtain ⟨n, hn⟩ := he
  have hn' : answer cfg (run cfg n) f ds = some o := hn
  refine ⟨n, ?_⟩
  unfold callV
  simp only [hs, Bool.false_eq_true, if_false, hf, hn', hp, if_true]
  split <;> rfl
theorem we_plain {f : FuncId} {args : List V} {ds : List D} {v : V} (hs : cfg.shared f = false) (hf : allO (Go.Vm.frz S frzFuel) args = some ds) (hp : plainOut (.ret v) = true) (he : Ev cfg f ds (.ret v)) :
    WpE cfg ops F Q K rd cs i dst T S (some (.enter f args)) = K (i :: rd) (cs ++ [(i, 1)]) (putT T dst v) S := by
  obtain ⟨n, hc⟩ := callV_plain hs hf hp he
  apply propext
  constructor
  · rintro ⟨m, v', S', c, h1, h2, h3⟩
    have := callV_det h1 hc
    simp only [Prod.mk.injEq] at this
    obtain ⟨h4, rfl, rfl⟩ := this
    cases h4
    exact h3
  · exact fun h => ⟨n, _, _, _, hc, fun hh => absurd hh (by decide), h⟩
end
theorem cs_one {a i o n : Nat} : (V.cs a i o n).one = true := rfl
theorem img_l (x : Nat) (B I M K N : Nat) (hN : N = B) (hN1 : N ≤ 1000) (vs : List V) (hvl : vs.length = B) (hV : ∀ (i : Nat) (v : V), vs[i]? = some v → IsB v (finB B I M K i)) (hlen : ∀ i, (finB B I M K i).length = 256) (a : Nat) (S : Store) (ha : S[a]? = some (.row vs 42)) (R : Post) (x3 x7 x11 : V) : ∀ (k i : Nat) (g0 g2 g4 g5 g6 g8 g9 g12 g13 g17 g18 g19 g20 g21 g22 g23 g24 g25 g26 g27 g28 g29 g30 g31 g32 g33 g34 g35 g36 g37 g38 g39 g40 g41 g42 g43 g44 g45 g46 g47 g48 g49 g50 g51 g52 g53 g54 g55 g56 g57 g58 g59 g60 g61 g62 g63 g64 g65 g66 g67 g68 g69 g70 g71 g72 g73 g74 g75 g76 g77 g78 g79 g80 g81 g82 g83 g84 g85 g86 g87 g88 g89 g90 g91 g92 g93 g94 g95 g96 g97 g98 g99 g100 g101 g102 g103 g104 g105 g106 g107 g108 g109 g110 g111 g112 g113 g114 g115 g116 g117 g118 g119 g120 g121 g122 g123 g124 g125 g126 g127 g128 g129 g130 g131 : V), N - i = k → i ≤ N →
   (∀ i' g0 g2 g4 g5 g6 g8 g9 g12 g13 g17 g18 g19 g20 g21 g22 g23 g24 g25 g26 g27 g28 g29 g30 g31 g32 g33 g34 g35 g36 g37 g38 g39 g40 g41 g42 g43 g44 g45 g46 g47 g48 g49 g50 g51 g52 g53 g54 g55 g56 g57 g58 g59 g60 g61 g62 g63 g64 g65 g66 g67 g68 g69 g70 g71 g72 g73 g74 g75 g76 g77 g78 g79 g80 g81 g82 g83 g84 g85 g86 g87 g88 g89 g90 g91 g92 g93 g94 g95 g96 g97 g98 g99 g100 g101 g102 g103 g104 g105 g106 g107 g108 g109 g110 g111 g112 g113 g114 g115 g116 g117 g118 g119 g120 g121 g122 g123 g124 g125 g126 g127 g128 g129 g130 g131, R (.exit 0) (g0 :: (.d (.int .i64 (N : Int))) :: g2 :: x3 :: g4 :: g5 :: g6 :: x7 :: g8 :: g9 :: (.ref x 0 0) :: x11 :: g12 :: g13 :: (.d (encBB (finL B I M K))) :: (.rs a 0 N) :: i' :: g17 :: g18 :: g19 :: g20 :: g21 :: g22 :: g23 :: g24 :: g25 :: g26 :: g27 :: g28 :: g29 :: g30 :: g31 :: g32 :: g33 :: g34 :: g35 :: g36 :: g37 :: g38 :: g39 :: g40 :: g41 :: g42 :: g43 :: g44 :: g45 :: g46 :: g47 :: g48 :: g49 :: g50 :: g51 :: g52 :: g53 :: g54 :: g55 :: g56 :: g57 :: g58 :: g59 :: g60 :: g61 :: g62 :: g63 :: g64 :: g65 :: g66 :: g67 :: g68 :: g69 :: g70 :: g71 :: g72 :: g73 :: g74 :: g75 :: g76 :: g77 :: g78 :: g79 :: g80 :: g81 :: g82 :: g83 :: g84 :: g85 :: g86 :: g87 :: g88 :: g89 :: g90 :: g91 :: g92 :: g93 :: g94 :: g95 :: g96 :: g97 :: g98 :: g99 :: g100 :: g101 :: g102 :: g103 :: g104 :: g105 :: g106 :: g107 :: g108 :: g109 :: g110 :: g111 :: g112 :: g113 :: g114 :: g115 :: g116 :: g117 :: g118 :: g119 :: g120 :: g121 :: g122 :: g123 :: g124 :: g125 :: g126 :: g127 :: g128 :: g129 :: g130 :: g131 :: []) S []) →
   Wp cfg (.loop (lpOf (Try.f3.body.getD .skip) 0)) (g0 :: (.d (.int .i64 (N : Int))) :: g2 :: x3 :: g4 :: g5 :: g6 :: x7 :: g8 :: g9 :: (.ref x 0 0) :: x11 :: g12 :: g13 :: (.d (encBB (finL B I M K))) :: (.rs a 0 N) :: (.d (.int .i64 (i : Int))) :: g17 :: g18 :: g19 :: g20 :: g21 :: g22 :: g23 :: g24 :: g25 :: g26 :: g27 :: g28 :: g29 :: g30 :: g31 :: g32 :: g33 :: g34 :: g35 :: g36 :: g37 :: g38 :: g39 :: g40 :: g41 :: g42 :: g43 :: g44 :: g45 :: g46 :: g47 :: g48 :: g49 :: g50 :: g51 :: g52 :: g53 :: g54 :: g55 :: g56 :: g57 :: g58 :: g59 :: g60 :: g61 :: g62 :: g63 :: g64 :: g65 :: g66 :: g67 :: g68 :: g69 :: g70 :: g71 :: g72 :: g73 :: g74 :: g75 :: g76 :: g77 :: g78 :: g79 :: g80 :: g81 :: g82 :: g83 :: g84 :: g85 :: g86 :: g87 :: g88 :: g89 :: g90 :: g91 :: g92 :: g93 :: g94 :: g95 :: g96 :: g97 :: g98 :: g99 :: g100 :: g101 :: g102 :: g103 :: g104 :: g105 :: g106 :: g107 :: g108 :: g109 :: g110 :: g111 :: g112 :: g113 :: g114 :: g115 :: g116 :: g117 :: g118 :: g119 :: g120 :: g121 :: g122 :: g123 :: g124 :: g125 :: g126 :: g127 :: g128 :: g129 :: g130 :: g131 :: []) S [] R := by
  intro k
  induction k with
  | zero =>
    intro i g0 g2 g4 g5 g6 g8 g9 g12 g13 g17 g18 g19 g20 g21 g22 g23 g24 g25 g26 g27 g28 g29 g30 g31 g32 g33 g34 g35 g36 g37 g38 g39 g40 g41 g42 g43 g44 g45 g46 g47 g48 g49 g50 g51 g52 g53 g54 g55 g56 g57 g58 g59 g60 g61 g62 g63 g64 g65 g66 g67 g68 g69 g70 g71 g72 g73 g74 g75 g76 g77 g78 g79 g80 g81 g82 g83 g84 g85 g86 g87 g88 g89 g90 g91 g92 g93 g94 g95 g96 g97 g98 g99 g100 g101 g102 g103 g104 g105 g106 g107 g108 g109 g110 g111 g112 g113 g114 g115 g116 g117 g118 g119 g120 g121 g122 g123 g124 g125 g126 g127 g128 g129 g130 g131 hk hi hR
    have hie : i = N := by omega
    subst hie
    rw [wk_of]
    refine wk_loop ?_
    conv => arg 2; whnf
    simp (maxSteps := 1000000) (disch := first | assumption | omega | rfl) only [↓vmp, vme, vmb, ty, hP, dec_t, dec_f, wrap64, List.length_map, Int.toNat_natCast, Nat.reduceAdd, List.cons_append, List.nil_append, Option.map_some, Option.map_none, strOf_mk, sb_eql, sb_neq, vmg, ↓vgd, ↓vst, ↓vix]
    exact hR _ _ _ _ _ _ _ _ _ _ _ _ _ _ _ _ _ _ _ _ _ _ _ _ _ _ _ _ _ _ _ _ _ _ _ _ _ _ _ _ _ _ _ _ _ _ _ _ _ _ _ _ _ _ _ _ _ _ _ _ _ _ _ _ _ _ _ _ _ _ _ _ _ _ _ _ _ _ _ _ _ _ _ _ _ _ _ _ _ _ _ _ _ _ _ _ _ _ _ _ _ _ _ _ _ _ _ _ _ _ _ _ _ _ _ _ _ _ _ _ _ _ _ _ _
  | succ k ih =>
    intro i g0 g2 g4 g5 g6 g8 g9 g12 g13 g17 g18 g19 g20 g21 g22 g23 g24 g25 g26 g27 g28 g29 g30 g31 g32 g33 g34 g35 g36 g37 g38 g39 g40 g41 g42 g43 g44 g45 g46 g47 g48 g49 g50 g51 g52 g53 g54 g55 g56 g57 g58 g59 g60 g61 g62 g63 g64 g65 g66 g67 g68 g69 g70 g71 g72 g73 g74 g75 g76 g77 g78 g79 g80 g81 g82 g83 g84 g85 g86 g87 g88 g89 g90 g91 g92 g93 g94 g95 g96 g97 g98 g99 g100 g101 g102 g103 g104 g105 g106 g107 g108 g109 g110 g111 g112 g113 g114 g115 g116 g117 g118 g119 g120 g121 g122 g123 g124 g125 g126 g127 g128 g129 g130 g131 hk hi hR
    have hlt : i < N := by omega
    have h3 : IntKind.i64.wrap ((i : Int) + 1) = ((i + 1 : Nat) : Int) := by rw [wrap64 (by omega)]; omega
    have hnq : ∀ i' : Decidable (((N : Nat) : Int) ≠ ((N : Nat) : Int)), @decide _ i' = false := fun i' => decide_eq_false (fun h => h rfl)
    have hx1 := ixRow (n := N) (i := i) ha hlt
    have hfl : (finL B I M K).length = B := by simp [finL]
    have hx2 := fun S => ix35 (S := S) (l := finL B I M K) (i := i) (by omega)
    have he : (finL B I M K)[i]'(by omega) = finB B I M K i := by simp [finL]
    rw [he] at hx2
    have hsl := sl42 (i := i) ha
    have hv : vs[i]? = some (vs[i]'(by omega)) := List.getElem?_eq_getElem (by omega)
    have hb := hV i _ hv
    have hfz := frz_cs ha (fun v hv => by obtain ⟨j, hj, rfl⟩ := List.mem_iff_getElem.1 hv; exact ⟨_, hV j _ (List.getElem?_eq_getElem hj)⟩) hv hb (hlen i)
    have hsm := fun {ops F Q K' rd cs i' dst T} => we_plain (ops := ops) (F := F) (Q := Q) (K := K') (rd := rd) (cs := cs) (i := i') (dst := dst) (T := T) (S := S) (f := 16) (args := [.cs a i 0 256, .d (encB (finB B I M K i))]) (ds := [encB (finB B I M K i), encB (finB B I M K i)]) rfl (by simp only [allO, hfz, frz_d]) rfl (Same_ok _ (by rw [hlen]; omega))
    rw [wk_of]
    refine wk_loop ?_
    conv => arg 2; whnf
    simp (maxSteps := 1000000) (disch := first | assumption | omega | rfl) only [↓vmp, vme, vmb, ty, hP, dec_t, dec_f, wrap64, List.length_map, Int.toNat_natCast, Nat.reduceAdd, List.cons_append, List.nil_append, Option.map_some, Option.map_none, strOf_mk, sb_eql, sb_neq, vmg, ↓vgd, ↓vst, ↓vix]
    refine wk_draw (is := [0, 1, 2, 3, 4, 5, 6, 7, 8, 9, 10, 11, 12, 13, 14, 15]) (h := 0) (by kernel_rfl) (by kernel_rfl) ?_
    simp (maxSteps := 1000000) (disch := first | assumption | omega | rfl) only [List.replicate_zero, eq_self, vmd, vmk, vmo, vmg, vme, vmb, ty, hP, dec_t, dec_f, wrap64, List.length_map, Int.toNat_natCast, Nat.reduceAdd, ↓vgd, ↓vst, ↓vix, vso, List.append_nil, len37, hnq, hx1, hx2, ldB, Option.map_none, hsl, cs_one, hsm, bo16, un_not, Bool.not_true, Bool.not_false, if_true, eq_self]
    refine ⟨by kernel_rfl, ?_⟩
    simp (maxSteps := 1000000) (disch := first | assumption | omega | rfl) only [↓vmp, vme, vmb, ty, hP, dec_t, dec_f, wrap64, List.length_map, Int.toNat_natCast, Nat.reduceAdd, List.cons_append, List.nil_append, Option.map_some, Option.map_none, strOf_mk, sb_eql, sb_neq, vmg, ↓vgd, ↓vst, ↓vix, h3]
    exact ih (i + 1) _ _ _ _ _ _ _ _ _ _ _ _ _ _ _ _ _ _ _ _ _ _ _ _ _ _ _ _ _ _ _ _ _ _ _ _ _ _ _ _ _ _ _ _ _ _ _ _ _ _ _ _ _ _ _ _ _ _ _ _ _ _ _ _ _ _ _ _ _ _ _ _ _ _ _ _ _ _ _ _ _ _ _ _ _ _ _ _ _ _ _ _ _ _ _ _ _ _ _ _ _ _ _ _ _ _ _ _ _ _ _ _ _ _ _ _ _ _ _ _ _ _ _ _ (by omega) (by omega) hR
end Go.Proofs.Ytobgdmgldagjkaa
end
/-! The statement's code, whole. -/
section
set_option linter.unusedVariables false
set_option linter.unusedSimpArgs false
set_option maxRecDepth 100000
set_option maxHeartbeats 4000000
namespace Go.Proofs.Ytobgdmgldagjkaa
open Go.Vm
theorem eq24 {B I M : Int} : binV Try.prog .eql 24 (.agg [.d (.int .i64 B), .d (.int .i64 I), .d (.int .u64 M)]) (.d (encLay ⟨B, I, M⟩)) = some (.d (.bool true)) := by
  have h1 : ptrT Try.prog 24 = false := by kernel_rfl
  have h2 : mapT Try.prog 24 = false := by kernel_rfl
  have h3 : fnT Try.prog 24 = false := by kernel_rfl
  have h4 : Try.prog.eqGuardType Try.prog.depth 24 = false := by kernel_rfl
  have ha : asD (.agg [.d (.int .i64 B), .d (.int .i64 I), .d (.int .u64 M)]) = some (.agg [.int .i64 B, .int .i64 I, .int .u64 M]) := rfl
  have hb : asD (.d (encLay ⟨B, I, M⟩)) = some (.agg [.int .i64 B, .int .i64 I, .int .u64 M]) := rfl
  have h7 : eqD Try.prog 8 24 (.agg [.int .i64 B, .int .i64 I, .int .u64 M]) (.agg [.int .i64 B, .int .i64 I, .int .u64 M]) = some true := by
    have hs : Try.prog.stoodInHeld 24 = false := by kernel_rfl
    have hu3 : Try.prog.underlying 3 = some (.int .i64) := by kernel_rfl
    have hu22 : Try.prog.underlying 22 = some (.int .u64) := by kernel_rfl
    have p0 : partD Try.prog 3 [.int .i64 B, .int .i64 I, .int .u64 M] 0 = some (.int .i64 B) := by kernel_rfl
    have p1 : partD Try.prog 3 [.int .i64 B, .int .i64 I, .int .u64 M] 1 = some (.int .i64 I) := by kernel_rfl
    have p2 : partD Try.prog 22 [.int .i64 B, .int .i64 I, .int .u64 M] 2 = some (.int .u64 M) := by kernel_rfl
    have g3 : ∀ x : Int, eqD Try.prog 7 3 (.int .i64 x) (.int .i64 x) = some true := fun x => by simp [eqD, eqLeaf, hu3]
    have g22 : ∀ x : Int, eqD Try.prog 7 22 (.int .u64 x) (.int .u64 x) = some true := fun x => by simp [eqD, eqLeaf, hu22]
    unfold eqD
    simp only [Try.underlying24, hs, Bool.false_eq_true, if_false]
    simp [eqFs, p0, p1, p2, g3, g22]
  have h8 : eqV Try.prog 24 (.agg [.d (.int .i64 B), .d (.int .i64 I), .d (.int .u64 M)]) (.d (encLay ⟨B, I, M⟩)) = some true := by
    simp only [eqV, h1, h2, h3, ha, hb, h4, h7, Bool.false_eq_true, if_false]
  show (eqV Try.prog 24 _ _).map (fun b => V.d (.bool b)) = _
  rw [h8]
  rfl
theorem finB_len (B I M K i : Nat) : (finB B I M K i).length = 256 := by
  unfold finB
  split
  · exact supB_len B I M
  · split
    · exact mapB_len _
    · exact blkAt_len i
theorem dw_call_n {ops : Array Oper} {base : Nat} {K : Ws → List (Nat × Nat) → List V → Store → Prop} {ws : Ws} {cs : List (Nat × Nat)} {i : Nat} {dst : Option Tmp} {T : List V} {S : Store} {f : FuncId} {v : V} (hs : cfg.shared f = false) (he : Ev cfg f [] (.ret v)) :
    WpEw cfg ops base K ws cs i dst T S (some (.enter f [])) = K ((i, T, v) :: ws) (cs ++ [(i, 1)]) (putT T dst v) S := by
  obtain ⟨n, hn⟩ := he
  have hn' : answer cfg (run cfg n) f [] = some (.ret v) := hn
  have hc : callV cfg (run cfg n) f [] S = some (.ret v, S, 1) := by
    unfold callV
    simp only [hs, Bool.false_eq_true, if_false, allO, hn', List.flatMap_nil, List.isEmpty_nil, if_true]
  apply propext
  constructor
  · rintro ⟨m, v', S2, c, h1, h2, h3⟩
    have := callV_det h1 hc
    simp only [Prod.mk.injEq] at this
    obtain ⟨h4, rfl, rfl⟩ := this
    cases h4
    exact h3
  · exact fun h => ⟨n, _, _, _, hc, fun hh => absurd hh (by decide), h⟩
theorem law_good (hRI : RInode) (l : Lay) (hb : InB l.blocks) (hi : InB l.inodes) (hM : 0 ≤ l.merge ∧ l.merge < 18446744073709551616) (N : Nat) (hN : 16 ≤ N ∧ N ≤ 60) (fuse : Int) (hf : InB fuse) (hm : MayL l) (heq : l.blocks = (N : Int)) (hfu : ¬ (fuse ≥ 0 ∧ fuse < 2 + l.inodes.tdiv 8)) : Ev cfg 3 [encLay l, .int .i64 (N : Int), .int .i64 fuse] (.ret (.d (.bool true))) := by
  obtain ⟨B, I, M, K, hl, hB, hI, hM2, hK, hK16, hK1, hKB⟩ := may_nat l hm hM
  have hput := put_sup l B I M hl hB hI hM2 hm
  obtain ⟨S1, S2, r1, r2, hD, hc⟩ := prep l N hN fuse
  have hBN : N = B := by rw [hl] at heq; simp only at heq; omega
  subst hBN
  have hf0 : 0 ≤ (if fuse ≥ 0 then fuse else 0) ∧ InB (if fuse ≥ 0 then fuse else 0) := by
    split
    · exact ⟨by omega, hf⟩
    · exact ⟨by omega, by simp only [InB]; omega⟩
  obtain ⟨o, S3, hR, hr3⟩ := evS_split rfl (fmt_ok l N I M K hl hB hI hM2 hm hK hK16 hKB S2 2 1 _ hf0 (decide (fuse ≥ 0)) hD)
  have hR2 : o = .ret (.d (.int .i64 0)) ∧ ∃ vs f w, K2 2 1 S2 S3 ∧ DskAt S3 2 1 vs f (decide (fuse ≥ 0)) false w 0 ∧ vs.length = N ∧ ∀ (i : Nat) (v : V), vs[i]? = some v → IsB v (finB N I M K i) := by
    rcases hR with ⟨_, h2, h3⟩ | ⟨⟨h1, h1'⟩, _⟩
    · exact ⟨h2, h3⟩
    · have h1 := of_decide_eq_true h1
      rw [if_pos h1] at h1'
      exact absurd ⟨h1, by omega⟩ hfu
  obtain ⟨ho, vs, f, w, hK2, hD3, hvl, hV⟩ := hR2
  have r3 := fun {ops dst k T F Q} => hr3 _ ho (ops := ops) (dst := dst) (k := k) (T := T) (F := F) (Q := Q)
  have hc2 := rowE_of hc
  have hc3' := hK2 0 _ (by decide) (by decide) hc
  have hc3 := rowE_of hc3'
  have r4 := fun {ops dst k T F Q} => wr_callE (ops := ops) (dst := dst) (l := k) (T := T) (F := F) (Q := Q) rfl (fmt_nil l hb hi _ hput _ 0 rfl (supB_len N I M) S3)
  have hD4 := hD3.app (l := [.row [.d (encLay l)] 24, .row [.d (blkD (supB N I M))] 42])
  have hc4 : (S3 ++ [.row [.d (encLay l)] 24, .row [.d (blkD (supB N I M))] 42])[0]? = some (.row [.d (encLay l)] 24) := by rw [List.getElem?_append_left (getLen hc3')]; exact hc3'
  generalize S3 ++ [Ob.row [.d (encLay l)] 24, .row [.d (blkD (supB N I M))] 42] = S4 at r4 hD4 hc4
  have r5 := fun {ops dst k T F Q} => wr_callE (ops := ops) (dst := dst) (l := k) (T := T) (F := F) (Q := Q) rfl (up_ok S4 2 1 vs _ _ _ _ _ hD4)
  have hD5 := hD4.setd (f' := 0) (lit' := false) (off' := false) (w' := w) (q' := 0)
  have hc5 := (K2.refl (d := 2) (r := 1) (S := S4)).setd (o := .row [dskV 1 vs.length 0 false false w 0] 89) 0 _ (by decide) (by decide) hc4
  generalize S4.set 2 (Ob.row [dskV 1 vs.length 0 false false w 0] 89) = S5 at r5 hD5 hc5
  have h0l : 0 < vs.length := by omega
  have hv0 : vs[0]? = some vs[0] := List.getElem?_eq_getElem h0l
  have hv0b : IsB vs[0] (supB N I M) := by have := hV 0 _ hv0; unfold finB at this; rw [if_pos rfl] at this; exact this
  obtain ⟨o6, S6, ⟨hK6, hD6, x, c, m, ho6, hx6⟩, hr6⟩ := evS_split rfl (mount_ok S5 2 1 vs 0 w false N I M hB hI hM2 (by rw [← hl]; exact hm) hD5 _ hv0 hv0b hvl)
  have r6 := fun {ops dst k T F Q} => hr6 _ ho6 (ops := ops) (dst := dst) (k := k) (T := T) (F := F) (Q := Q)
  have r7 := fun {ops dst k T F Q} => wr_callE (ops := ops) (dst := dst) (l := k) (T := T) (F := F) (Q := Q) rfl (mount_nil S6)
  have hc6' := hK6 0 _ (by decide) (by decide) hc5
  have hc6 := rowE_of hc6'
  have hi2 : 2 + (I : Int).tdiv 8 = ((2 + K : Nat) : Int) := by rw [hl] at hK; exact hK
  have r8 : ∀ {ops dst k T S F Q}, WpR cfg ops dst k T S F Q (some (.enter 14 [.d (encLay l)])) = WpL cfg ops k (putT T dst (.d (encBB (finL N I M K)))) S F Q := fun {ops dst k T S F Q} => by
    rw [hl]
    exact wr_call_d (C := cfg) (ds := [encLay ⟨(N : Int), (I : Int), (M : Int)⟩]) rfl (Blocks_ok hRI N I M K hB hI hM2 hi2 hK16 hK1)
  have hfit : ∀ v ∈ vs, fitsT Try.prog 42 v = true := fun v hv => by
    obtain ⟨j, hj, rfl⟩ := List.mem_iff_getElem.1 hv
    exact bt42.fits (hV j _ (List.getElem?_eq_getElem hj)) (finB_len ..)
  have r9 := fun {ops dst k T F Q} => wr_callE (ops := ops) (dst := dst) (l := k) (T := T) (F := F) (Q := Q) rfl (image_ok S6 2 1 vs _ _ _ _ _ hD6 (by intro e; rw [e] at h0l; exact absurd h0l (by decide)) (by omega) hfit)
  rw [hvl] at r9
  have hy := fun {ops dst k T S F Q} => call_rmay (ops := ops) (dst := dst) (k := k) (T := T) (S := S) (F := F) (Q := Q) hb hi
  rw [decide_eq_true hm] at hy
  refine ev_of rfl rfl body3 ?_
  show Wp cfg (Try.f3.body.getD .skip) ((.d (encLay l)) :: (.d (.int .i64 (N : Int))) :: (.d (.int .i64 fuse)) :: (.tup []) :: (.tup []) :: (.tup []) :: (.tup []) :: (.tup []) :: (.tup []) :: (.tup []) :: (.tup []) :: (.tup []) :: (.tup []) :: (.tup []) :: (.tup []) :: (.tup []) :: (.tup []) :: (.tup []) :: (.tup []) :: (.tup []) :: (.tup []) :: (.tup []) :: (.tup []) :: (.tup []) :: (.tup []) :: (.tup []) :: (.tup []) :: (.tup []) :: (.tup []) :: (.tup []) :: (.tup []) :: (.tup []) :: (.tup []) :: (.tup []) :: (.tup []) :: (.tup []) :: (.tup []) :: (.tup []) :: (.tup []) :: (.tup []) :: (.tup []) :: (.tup []) :: (.tup []) :: (.tup []) :: (.tup []) :: (.tup []) :: (.tup []) :: (.tup []) :: (.tup []) :: (.tup []) :: (.tup []) :: (.tup []) :: (.tup []) :: (.tup []) :: (.tup []) :: (.tup []) :: (.tup []) :: (.tup []) :: (.tup []) :: (.tup []) :: (.tup []) :: (.tup []) :: (.tup []) :: (.tup []) :: (.tup []) :: (.tup []) :: (.tup []) :: (.tup []) :: (.tup []) :: (.tup []) :: (.tup []) :: (.tup []) :: (.tup []) :: (.tup []) :: (.tup []) :: (.tup []) :: (.tup []) :: (.tup []) :: (.tup []) :: (.tup []) :: (.tup []) :: (.tup []) :: (.tup []) :: (.tup []) :: (.tup []) :: (.tup []) :: (.tup []) :: (.tup []) :: (.tup []) :: (.tup []) :: (.tup []) :: (.tup []) :: (.tup []) :: (.tup []) :: (.tup []) :: (.tup []) :: (.tup []) :: (.tup []) :: (.tup []) :: (.tup []) :: (.tup []) :: (.tup []) :: (.tup []) :: (.tup []) :: (.tup []) :: (.tup []) :: (.tup []) :: (.tup []) :: (.tup []) :: (.tup []) :: (.tup []) :: (.tup []) :: (.tup []) :: (.tup []) :: (.tup []) :: (.tup []) :: (.tup []) :: (.tup []) :: (.tup []) :: (.tup []) :: (.tup []) :: (.tup []) :: (.tup []) :: (.tup []) :: (.tup []) :: (.tup []) :: (.tup []) :: (.tup []) :: (.tup []) :: (.tup []) :: (.tup []) :: (.tup []) :: []) [] [] _
  conv => arg 2; whnf
  have n1 : ¬ (N : Int) < 16 := by omega
  have n2 : ¬ (N : Int) > 60 := by omega
  have hde : ∀ i : Decidable (l.blocks ≠ (N : Int)), @decide (l.blocks ≠ (N : Int)) i = false := fun i => decide_eq_false (by omega)
  have hq := quo8 hi
  have hw : IntKind.i64.wrap (2 + l.inodes.tdiv 8) = 2 + l.inodes.tdiv 8 := wrap64 (by omega)
  have hne0 : ∀ i : Decidable ((0 : Int) ≠ 0), @decide ((0 : Int) ≠ 0) i = false := fun i => decide_eq_false (fun h => h rfl)
  have hx7 : (S6 ++ [Ob.row vs 42])[x]? = some (.row [stoV c m N I M 0] 103) := by rw [List.getElem?_append_left (getLen hx6)]; exact hx6
  have hc7 : rowE (S6 ++ [Ob.row vs 42]) 0 0 = some (.d (encLay l)) := rowE_of (e := 24) (by rw [List.getElem?_append_left (getLen hc6')]; exact hc6')
  have r10 := fun {ops base K' ws cs i dst T} => dw_callE (ops := ops) (base := base) (K := K') (ws := ws) (cs := cs) (i := i) (dst := dst) (T := T) rfl (lay_of _ x c m N I M 0 hx7)
  have hx8 : (S6 ++ [Ob.row vs 42] ++ [Ob.row [.agg [.d (.int .i64 (N : Int)), .d (.int .i64 (I : Int)), .d (.int .u64 (M : Int))]] 24])[x]? = some (.row [stoV c m N I M 0] 103) := by rw [List.getElem?_append_left (getLen hx7)]; exact hx7
  have r11 := fun {ops base K' ws cs i dst T} => dw_callE (ops := ops) (base := base) (K := K') (ws := ws) (cs := cs) (i := i) (dst := dst) (T := T) rfl (err_of _ x c m N I M 0 hx8)
  have eq24' : binV Try.prog .eql 24 (.agg [.d (.int .i64 (N : Int)), .d (.int .i64 (I : Int)), .d (.int .u64 (M : Int))]) (.d (encLay l)) = some (.d (.bool true)) := by rw [hl]; exact eq24
  have hc8 : rowE (S6 ++ [Ob.row vs 42] ++ [Ob.row [.agg [.d (.int .i64 (N : Int)), .d (.int .i64 (I : Int)), .d (.int .u64 (M : Int))]] 24]) 0 0 = some (.d (encLay l)) := rowE_of (e := 24) (by rw [List.append_assoc, List.getElem?_append_left (getLen hc6')]; exact hc6')
  have r12 := fun {ops base K' ws cs i dst T S} => dw_call_n (ops := ops) (base := base) (K := K') (ws := ws) (cs := cs) (i := i) (dst := dst) (T := T) (S := S) rfl works_ev
  by_cases f1 : fuse ≥ 0
  · have f2 : ¬ fuse < 2 + l.inodes.tdiv 8 := fun h => hfu ⟨f1, h⟩
    simp (maxSteps := 1000000) (disch := first | assumption | omega | rfl) only [↓vmp, vme, vmb, ty, hP, dec_t, dec_f, wrap64, List.length_map, Int.toNat_natCast, Nat.reduceAdd, List.cons_append, List.nil_append, Option.map_some, Option.map_none, strOf_mk, sb_eql, sb_neq, vmg, ↓vgd, ↓vst, ↓vix, r1, bo8, r2, bo9, hc2, hc3, r3, bo10, hy, bo11, r4, r5, bo12, r6, r7, bo13, un_not, Bool.not_false, Bool.not_true, dec_True, hde, hq, hw, hne0, hc6, r8, bo14, r9, bo15]
    refine img_l x N I M K N rfl (by omega) vs hvl hV (finB_len N I M K) S6.length (S6 ++ [.row vs 42]) (by simp) _ _ _ _ N 0 _ _ _ _ _ _ _ _ _ _ _ _ _ _ _ _ _ _ _ _ _ _ _ _ _ _ _ _ _ _ _ _ _ _ _ _ _ _ _ _ _ _ _ _ _ _ _ _ _ _ _ _ _ _ _ _ _ _ _ _ _ _ _ _ _ _ _ _ _ _ _ _ _ _ _ _ _ _ _ _ _ _ _ _ _ _ _ _ _ _ _ _ _ _ _ _ _ _ _ _ _ _ _ _ _ _ _ _ _ _ _ _ _ _ _ _ _ _ _ _ _ _ _ _ rfl (Nat.zero_le _) ?_
    intro i' g0 g2 g4 g5 g6 g8 g9 g12 g13 g17 g18 g19 g20 g21 g22 g23 g24 g25 g26 g27 g28 g29 g30 g31 g32 g33 g34 g35 g36 g37 g38 g39 g40 g41 g42 g43 g44 g45 g46 g47 g48 g49 g50 g51 g52 g53 g54 g55 g56 g57 g58 g59 g60 g61 g62 g63 g64 g65 g66 g67 g68 g69 g70 g71 g72 g73 g74 g75 g76 g77 g78 g79 g80 g81 g82 g83 g84 g85 g86 g87 g88 g89 g90 g91 g92 g93 g94 g95 g96 g97 g98 g99 g100 g101 g102 g103 g104 g105 g106 g107 g108 g109 g110 g111 g112 g113 g114 g115 g116 g117 g118 g119 g120 g121 g122 g123 g124 g125 g126 g127 g128 g129 g130 g131
    simp (maxSteps := 1000000) (disch := first | assumption | omega | rfl) only [↓vmp, vme, vmb, ty, hP, dec_t, dec_f, wrap64, List.length_map, Int.toNat_natCast, Nat.reduceAdd, List.cons_append, List.nil_append, Option.map_some, Option.map_none, strOf_mk, sb_eql, sb_neq, vmg, ↓vgd, ↓vst, ↓vix]
    refine wk_draww (is := [0, 1, 2, 3, 4, 5, 6, 7, 9, 8, 10, 11, 12, 13, 14, 15, 16, 17, 18, 19, 20]) (h := 0) (by kernel_rfl) (by kernel_rfl) ?_
    simp (maxSteps := 1000000) (disch := first | assumption | omega | rfl) only [List.replicate_zero, eq_self, vmd, dw1, dw2, dw3, dw4, dw5, dw6, dw7, dw8, dw9, dw10, dw11, dw12, vmk, vmo, vmg, vme, vmb, ty, hP, dec_t, dec_f, wrap64, List.length_map, Int.toNat_natCast, Nat.reduceAdd, ↓vgd, ↓vst, ↓vix, vso, List.append_nil, ne32f, dec_True, hc7, lr24, r10, bo17, r11, bo18, eq24', r12, bo7]
    refine ⟨wall_read rfl (by kernel_rfl) rfl (ld_op ((loadV_row hc8).trans lr24)) same_lay wall_nil, wall_read rfl (by kernel_rfl) rfl (ld_op ((loadV_row hc8).trans lr24)) same_lay wall_nil, by kernel_rfl, ?_⟩
    simp (maxSteps := 1000000) (disch := first | assumption | omega | rfl) only [↓vmp, vme, vmb, ty, hP, dec_t, dec_f, wrap64, List.length_map, Int.toNat_natCast, Nat.reduceAdd, List.cons_append, List.nil_append, Option.map_some, Option.map_none, strOf_mk, sb_eql, sb_neq, vmg, ↓vgd, ↓vst, ↓vix]
    exact retQ_one rfl rfl rfl
  · skip
    simp (maxSteps := 1000000) (disch := first | assumption | omega | rfl) only [↓vmp, vme, vmb, ty, hP, dec_t, dec_f, wrap64, List.length_map, Int.toNat_natCast, Nat.reduceAdd, List.cons_append, List.nil_append, Option.map_some, Option.map_none, strOf_mk, sb_eql, sb_neq, vmg, ↓vgd, ↓vst, ↓vix, r1, bo8, r2, bo9, hc2, hc3, r3, bo10, hy, bo11, r4, r5, bo12, r6, r7, bo13, un_not, Bool.not_false, Bool.not_true, dec_True, hde, hq, hw, hne0, hc6, r8, bo14, r9, bo15]
    refine img_l x N I M K N rfl (by omega) vs hvl hV (finB_len N I M K) S6.length (S6 ++ [.row vs 42]) (by simp) _ _ _ _ N 0 _ _ _ _ _ _ _ _ _ _ _ _ _ _ _ _ _ _ _ _ _ _ _ _ _ _ _ _ _ _ _ _ _ _ _ _ _ _ _ _ _ _ _ _ _ _ _ _ _ _ _ _ _ _ _ _ _ _ _ _ _ _ _ _ _ _ _ _ _ _ _ _ _ _ _ _ _ _ _ _ _ _ _ _ _ _ _ _ _ _ _ _ _ _ _ _ _ _ _ _ _ _ _ _ _ _ _ _ _ _ _ _ _ _ _ _ _ _ _ _ _ _ _ _ rfl (Nat.zero_le _) ?_
    intro i' g0 g2 g4 g5 g6 g8 g9 g12 g13 g17 g18 g19 g20 g21 g22 g23 g24 g25 g26 g27 g28 g29 g30 g31 g32 g33 g34 g35 g36 g37 g38 g39 g40 g41 g42 g43 g44 g45 g46 g47 g48 g49 g50 g51 g52 g53 g54 g55 g56 g57 g58 g59 g60 g61 g62 g63 g64 g65 g66 g67 g68 g69 g70 g71 g72 g73 g74 g75 g76 g77 g78 g79 g80 g81 g82 g83 g84 g85 g86 g87 g88 g89 g90 g91 g92 g93 g94 g95 g96 g97 g98 g99 g100 g101 g102 g103 g104 g105 g106 g107 g108 g109 g110 g111 g112 g113 g114 g115 g116 g117 g118 g119 g120 g121 g122 g123 g124 g125 g126 g127 g128 g129 g130 g131
    simp (maxSteps := 1000000) (disch := first | assumption | omega | rfl) only [↓vmp, vme, vmb, ty, hP, dec_t, dec_f, wrap64, List.length_map, Int.toNat_natCast, Nat.reduceAdd, List.cons_append, List.nil_append, Option.map_some, Option.map_none, strOf_mk, sb_eql, sb_neq, vmg, ↓vgd, ↓vst, ↓vix]
    refine wk_draww (is := [0, 1, 2, 3, 4, 5, 6, 7, 9, 8, 10, 11, 12, 13, 14, 15, 16, 17, 18, 19, 20]) (h := 0) (by kernel_rfl) (by kernel_rfl) ?_
    simp (maxSteps := 1000000) (disch := first | assumption | omega | rfl) only [List.replicate_zero, eq_self, vmd, dw1, dw2, dw3, dw4, dw5, dw6, dw7, dw8, dw9, dw10, dw11, dw12, vmk, vmo, vmg, vme, vmb, ty, hP, dec_t, dec_f, wrap64, List.length_map, Int.toNat_natCast, Nat.reduceAdd, ↓vgd, ↓vst, ↓vix, vso, List.append_nil, ne32f, dec_True, hc7, lr24, r10, bo17, r11, bo18, eq24', r12, bo7]
    refine ⟨wall_read rfl (by kernel_rfl) rfl (ld_op ((loadV_row hc8).trans lr24)) same_lay wall_nil, wall_read rfl (by kernel_rfl) rfl (ld_op ((loadV_row hc8).trans lr24)) same_lay wall_nil, by kernel_rfl, ?_⟩
    simp (maxSteps := 1000000) (disch := first | assumption | omega | rfl) only [↓vmp, vme, vmb, ty, hP, dec_t, dec_f, wrap64, List.length_map, Int.toNat_natCast, Nat.reduceAdd, List.cons_append, List.nil_append, Option.map_some, Option.map_none, strOf_mk, sb_eql, sb_neq, vmg, ↓vgd, ↓vst, ↓vix]
    exact retQ_one rfl rfl rfl
end Go.Proofs.Ytobgdmgldagjkaa
end
