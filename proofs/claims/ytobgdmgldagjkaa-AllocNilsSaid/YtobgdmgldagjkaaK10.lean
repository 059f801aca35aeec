/- store.Put, SetInode: a change of a store. -/
import Derived.Test.YtobgdmgldagjkaaK09
/-! store.Put, SetInode: a change of a store. -/
section
set_option linter.unusedVariables false
set_option linter.unusedSimpArgs false
set_option maxRecDepth 100000
set_option maxHeartbeats 4000000
namespace Go.Proofs.Ytobgdmgldagjkaa
open Go.Vm
def noZ (l : List Int) : List Int := l.filter (fun n => decide (n ≠ 0))
/-- Numbers that are handed over, whatever their form. -/
def IntsV (S : Store) (v : V) (l : List Int) : Prop := v = .d (encI l) ∨ v = .ts (l.map (.int .i64)) ∨ OwnS S v 3 (intsV l)
section
variable {S S' : Store} {v : V} {l : List Int}
theorem IntsV.keep (h : IntsV S v l) (hk : Keep S S') : IntsV S' v l := by
  rcases h with h | h | h
  · exact .inl h
  · exact .inr (.inl h)
  · exact .inr (.inr (hk.own h))
theorem IntsV.one (h : IntsV S v l) : v.one = true := by
  rcases h with rfl | rfl | h
  · rfl
  · rfl
  · exact own_one h
theorem IntsV.len (h : IntsV S v l) : builtinV Try.prog S .len [46] [v] = some (.val (.d (.int .i64 (l.length : Int))) S 0) := by
  rcases h with rfl | rfl | h
  · rw [encI, len46, List.length_map]
  · rw [len_ts Try.underlying46, List.length_map]
  · rw [len_own Try.underlying46 h]; unfold intsV; rw [List.length_map]
theorem IntsV.ix (h : IntsV S v l) {i : Nat} (hi : i < l.length) : ∃ q, indexAddrV Try.prog S 46 v (.d (.int .i64 (i : Int))) = some q ∧ loadV Try.prog S 3 q = some (.d (.int .i64 l[i])) := by
  rcases h with rfl | rfl | h
  · exact ⟨_, ix46 hi, by kernel_rfl⟩
  · refine ⟨.d (.ptr (.int .i64 l[i])), ?_, by kernel_rfl⟩
    have hl : i < (l.map (D.int .i64)).length := by simpa using hi
    have hf := fits3 l[i]
    simp only [indexAddrV, intOf?, Try.underlying46, Int.toNat_natCast, List.getElem?_map, List.getElem?_eq_getElem hi, Option.map_some, hf, if_true]
    rw [if_pos ⟨by omega, by omega⟩]
  · obtain ⟨id, h1, h2, _⟩ := own_ix Try.underlying46 (by kernel_rfl) h (i := i) (by unfold intsV; simpa using hi)
    refine ⟨_, h1, (loadV_row h2).trans ?_⟩
    simp only [intsV, List.getElem_map]
    kernel_rfl
end
theorem some_l (l : List Int) (hl : l.length ≤ 100000) (S0 : Store) (nd : V) (hnd : IntsV S0 nd l) (R : Post) : ∀ (k i : Nat) (S : Store) (v3 g0 g1 g2 g4 g5 g9 g10 g11 g12 g13 g14 g15 g16 g17 g18 g19 : V), l.length - i = k → i ≤ l.length → Keep S0 S → (∀ j, j < S0.length → NotAt v3 j) → OwnS S v3 3 (intsV (noZ (l.take i))) →
   (∀ S v3 i' g0 g1 g2 g4 g5 g9 g10 g11 g12 g13 g14 g15 g16 g17 g18 g19, Keep S0 S → OwnS S v3 3 (intsV (noZ l)) → R (.exit 0) (g0 :: g1 :: g2 :: v3 :: g4 :: g5 :: nd :: (.d (.int .i64 (l.length : Int))) :: i' :: g9 :: g10 :: g11 :: g12 :: g13 :: g14 :: g15 :: g16 :: g17 :: g18 :: g19 :: []) S []) →
   Wp cfg (.loop (lpOf (Try.f63.body.getD .skip) 0)) (g0 :: g1 :: g2 :: v3 :: g4 :: g5 :: nd :: (.d (.int .i64 (l.length : Int))) :: (.d (.int .i64 (i : Int))) :: g9 :: g10 :: g11 :: g12 :: g13 :: g14 :: g15 :: g16 :: g17 :: g18 :: g19 :: []) S [] R := by
  intro k
  induction k with
  | zero =>
    intro i S v3 g0 g1 g2 g4 g5 g9 g10 g11 g12 g13 g14 g15 g16 g17 g18 g19 hk hi hK hN ho hR
    have hie : i = l.length := by omega
    subst hie
    rw [List.take_length] at ho
    rw [wk_of]
    refine wk_loop ?_
    conv => arg 2; whnf
    simp (maxSteps := 1000000) (disch := first | assumption | omega | rfl) only [↓vmp, vme, vmb, ty, hP, dec_t, dec_f, wrap64, List.length_map, Int.toNat_natCast, Nat.reduceAdd, List.cons_append, List.nil_append, Option.map_some, Option.map_none, strOf_mk, sb_eql, sb_neq, vmg, ↓vgd, ↓vst, ↓vix]
    exact hR _ _ _ _ _ _ _ _ _ _ _ _ _ _ _ _ _ _ _ hK ho
  | succ k ih =>
    intro i S v3 g0 g1 g2 g4 g5 g9 g10 g11 g12 g13 g14 g15 g16 g17 g18 g19 hk hi hK hN ho hR
    have hlt : i < l.length := by omega
    have h3 : IntKind.i64.wrap ((i : Int) + 1) = ((i + 1 : Nat) : Int) := by rw [wrap64 (by omega)]; omega
    obtain ⟨q, hix, hld⟩ := (hnd.keep hK).ix hlt
    have htk : noZ (l.take (i + 1)) = noZ (l.take i) ++ (if l[i] ≠ 0 then [l[i]] else []) := by
      rw [List.take_add_one, List.getElem?_eq_getElem hlt]
      unfold noZ
      rw [List.filter_append]
      by_cases h : l[i] = 0
      · simp [h]
      · simp [h]
    have hfl : (noZ (l.take i)).length ≤ l.length := Nat.le_trans (List.length_filter_le ..) (by rw [List.length_take]; omega)
    rw [wk_of]
    refine wk_loop ?_
    conv => arg 2; whnf
    by_cases h : l[i] = 0
    · have hde : ∀ i' : Decidable (l[i] ≠ 0), @decide (l[i] ≠ 0) i' = false := fun i' => decide_eq_false (fun hh => hh h)
      simp (maxSteps := 1000000) (disch := first | assumption | omega | rfl) only [↓vmp, vme, vmb, ty, hP, dec_t, dec_f, wrap64, List.length_map, Int.toNat_natCast, Nat.reduceAdd, List.cons_append, List.nil_append, Option.map_some, Option.map_none, strOf_mk, sb_eql, sb_neq, vmg, ↓vgd, ↓vst, ↓vix, hix, hld, hde, h3]
      rw [if_neg (fun hh => hh h), List.append_nil] at htk
      exact ih (i + 1) S v3 _ _ _ _ _ _ _ _ _ _ _ _ _ _ _ _ (by omega) (by omega) hK hN (by rw [htk]; exact ho) hR
    · have hde : ∀ i' : Decidable (l[i] ≠ 0), @decide (l[i] ≠ 0) i' = true := fun i' => decide_eq_true h
      obtain ⟨v', S', c, ha, ho', hfr, hlen⟩ := ap46 l[i] ho (by omega)
      simp (maxSteps := 1000000) (disch := first | assumption | omega | rfl) only [↓vmp, vme, vmb, ty, hP, dec_t, dec_f, wrap64, List.length_map, Int.toNat_natCast, Nat.reduceAdd, List.cons_append, List.nil_append, Option.map_some, Option.map_none, strOf_mk, sb_eql, sb_neq, vmg, ↓vgd, ↓vst, ↓vix, hix, hld, hde, h3, ha]
      rw [if_pos h] at htk
      exact ih (i + 1) S' v' _ _ _ _ _ _ _ _ _ _ _ _ _ _ _ _ (by omega) (by omega) (fun j o hj => (hfr j o (hK j o hj) (hN j (getLen hj))).1) (fun j hj => (hfr j _ (List.getElem?_eq_getElem (Nat.lt_of_lt_of_le hj hK.len)) (hN j hj)).2) (by rw [htk]; exact ho') hR
theorem some_ok (S : Store) (nd : V) (l : List Int) (hnd : IntsV S nd l) (hl : l.length ≤ 100000) : EvS cfg 63 [nd] S (fun o S' => Keep S S' ∧ ∃ v, o = .ret v ∧ OwnS S' v 3 (intsV (noZ l))) := by
  refine evS_of rfl body63 ?_
  show Wp cfg (Try.f63.body.getD .skip) (nd :: (.tup []) :: (.tup []) :: (.tup []) :: (.tup []) :: (.tup []) :: (.tup []) :: (.tup []) :: (.tup []) :: (.tup []) :: (.tup []) :: (.tup []) :: (.tup []) :: (.tup []) :: (.tup []) :: (.tup []) :: (.tup []) :: (.tup []) :: (.tup []) :: (.tup []) :: []) S [] _
  conv => arg 2; whnf
  rw [wk_of]
  have hln := hnd.len
  simp (maxSteps := 1000000) (disch := first | assumption | omega | rfl) only [↓vmp, vme, vmb, ty, hP, dec_t, dec_f, wrap64, List.length_map, Int.toNat_natCast, Nat.reduceAdd, List.cons_append, List.nil_append, Option.map_some, Option.map_none, strOf_mk, sb_eql, sb_neq, vmg, ↓vgd, ↓vst, ↓vix, hln]
  refine some_l l hl S nd hnd _ l.length 0 S (.ts []) _ _ _ _ _ _ _ _ _ _ _ _ _ _ _ _ rfl (Nat.zero_le _) Keep.refl (fun j _ => NotAt.ts) (.inl ⟨rfl, by rw [List.take_zero]; rfl⟩) ?_
  intro S2 v3 i' g0 g1 g2 g4 g5 g9 g10 g11 g12 g13 g14 g15 g16 g17 g18 g19 hK ho
  simp (maxSteps := 1000000) (disch := first | assumption | omega | rfl) only [↓vmp, vme, vmb, ty, hP, dec_t, dec_f, wrap64, List.length_map, Int.toNat_natCast, Nat.reduceAdd, List.cons_append, List.nil_append, Option.map_some, Option.map_none, strOf_mk, sb_eql, sb_neq, vmg, ↓vgd, ↓vst, ↓vix]
  exact ⟨rfl, _, rfl, hK, _, rfl, ho⟩
/-- A call by the store, as an equation. -/
theorem evS_eq {f : FuncId} {args : List V} {S : Store} {R : Out → Store → Prop} (he : EvS cfg f args S R) : ∃ o S2, R o S2 ∧ EvS cfg f args S (fun o' S' => S' = S2 ∧ o' = o) := by
  obtain ⟨n, o, S', hn, hR⟩ := he
  exact ⟨o, S', hR, n, o, S', hn, rfl, rfl⟩
/-- A row of one's own is turned. -/
theorem CacheP.set1 {S : Store} {c d r m a : Nat} {L : V} {es vs : List V} {f : Int → Option V} {z : Int} {w q : Nat} {C : CS} (h : CacheP S c d r m L es vs f z w q C) {xs : List V} {e : TypeId} (ha : S[a]? = some (.row xs e)) (he : (e != 89 && e != 150 && e != 122 && e != 5 && e != 3) = true) (hr : a ≠ r) {o : Ob} : CacheP (S.set a o) c d r m L es vs f z w q C := by
  simp only [Bool.and_eq_true, bne_iff_ne, ne_eq] at he
  obtain ⟨⟨⟨⟨e1, e2⟩, e3⟩, e4⟩, e5⟩ := he
  have at_ : ∀ {j : Nat} {p : Ob}, S[j]? = some p → j ≠ a → (S.set a o)[j]? = some p := fun hj hn => by rw [List.getElem?_set_ne (Ne.symm hn)]; exact hj
  have own : ∀ {u : V} {t : TypeId} {ys : List V}, t ≠ e → OwnS S u t ys → OwnS (S.set a o) u t ys := fun hn ho => by
    rcases ho with ho | ⟨id, p, q⟩
    · exact .inl ho
    · exact .inr ⟨id, p, at_ q (fun hh => by subst hh; cases getE ha q; exact hn rfl)⟩
  obtain ⟨l, k, h1, h2⟩ := h.hm
  exact ⟨at_ h.hc (fun hh => by subst hh; cases getE ha h.hc; exact e2 rfl), ⟨l, k, at_ h1 (fun hh => by subst hh; cases getE ha h1), h2⟩, ⟨at_ h.dk.hd (fun hh => by subst hh; cases getE ha h.dk.hd; exact e1 rfl), at_ h.dk.hr (Ne.symm hr), h.dk.ne⟩, h.zb, h.il, h.im, h.kn, own (Ne.symm e3) h.lo, h.lc.mono (fun _ _ => own (Ne.symm e4)) (fun _ _ => own (Ne.symm e5)), h.wq, h.ok⟩
theorem CacheAt.set1 {S : Store} {c r m a : Nat} {C : CS} (h : CacheAt S c r m C) {xs : List V} {e : TypeId} (ha : S[a]? = some (.row xs e)) (he : (e != 89 && e != 150 && e != 122 && e != 5 && e != 3) = true) (hr : a ≠ r) {o : Ob} : CacheAt (S.set a o) c r m C := by
  obtain ⟨d, L, es, vs, f, z, w, q, h, hq⟩ := h
  exact ⟨d, L, es, vs, f, z, w, q, h.set1 ha he hr, hq⟩
/-- A store in the store. -/
structure StoreP (S : Store) (x c r m mk : Nat) (l : Lay) (e : Int) (C : CS) (mf : Int → Option V) : Prop where
  hx : S[x]? = some (.row [stoV c mk l.blocks l.inodes l.merge e] 103)
  ca : CacheAt S c r m C
  mp : MpI S mk mf
  ne : mk ≠ m
  hB : l.blocks = C.img.length
abbrev stT : List Nat := [103, 89, 150, 122]
abbrev FrS (m r : Nat) : Store → Store → Prop := Frm stT [m] 42 r
theorem FrC.toS {m r : Nat} {S S' : Store} (h : FrC m r S S') : FrS m r S S' := h.mono (fun e he => by simp only [List.contains_cons, List.contains_nil, Bool.or_eq_true] at he ⊢; exact .inr he) (fun _ h => h)
section
variable {S S' : Store} {x c r m mk : Nat} {l : Lay} {e : Int} {C : CS} {mf : Int → Option V}
theorem StoreP.keep (h : StoreP S x c r m mk l e C mf) (hk : Keep S S') : StoreP S' x c r m mk l e C mf := ⟨hk _ _ h.hx, h.ca.keep hk, hk.map h.mp, h.ne, h.hB⟩
/-- The cache has turned. -/
theorem StoreP.step (h : StoreP S x c r m mk l e C mf) (hF : FrC m r S S') {C' : CS} (hc : CacheAt S' c r m C') (hi : C'.img.length = C.img.length) : StoreP S' x c r m mk l e C' mf := ⟨hF.row h.hx rfl, hc, hF.map h.mp (by have := h.ne; simpa using this), h.ne, by rw [hi]; exact h.hB⟩
/-- Its error is set. -/
theorem StoreP.err (h : StoreP S x c r m mk l e C mf) (e' : Int) : StoreP (S.set x (.row [stoV c mk l.blocks l.inodes l.merge e'] 103)) x c r m mk l e' C mf := by
  refine ⟨List.getElem?_set_self (getLen h.hx), h.ca.set1 h.hx rfl ?_, ?_, h.ne, h.hB⟩
  · rintro rfl
    obtain ⟨d, L, es, vs, f, z, w, q, h2, _⟩ := h.ca
    cases getE h.hx h2.dk.hr
  · obtain ⟨L, k, h1, h2⟩ := h.mp
    exact ⟨L, k, by rw [List.getElem?_set_ne (by rintro rfl; cases getE h.hx h1)]; exact h1, h2⟩
theorem sr103_e {B I M e' : Int} : storeR Try.prog 29 4 (.d (.int .i64 e')) (stoV c mk B I M e) = some (stoV c mk B I M e') := by kernel_rfl
end
theorem same_leaf {k : IntKind} {n : Int} : sameLeaf (.int k n) (.int k n) = true := by simp [sameLeaf]
theorem same_all : ∀ b : List UInt8, sameAll (b.map byD) (b.map byD) = true
  | [] => rfl
  | x :: r => by
    have h : sameLeaf (byD x) (byD x) = true := same_leaf
    simp only [List.map_cons, sameAll, h, same_all r, Bool.and_self]
theorem same_all2 {n : Nat} : ∀ b : List UInt8, all2 (sameF (n + 1)) (b.map byD) (b.map byD) = true
  | [] => rfl
  | x :: r => by
    have h : sameF (n + 1) (byD x) (byD x) = true := same_leaf
    simp only [List.map_cons, all2, h, same_all2 r, Bool.and_self]
theorem PatV.same {S : Store} {p dv : V} {a : Int} {b : List UInt8} (h : PatV S p dv a b) : sameV p p = true := by
  have e1 : sameF 6 (encB b) (encB b) = true := same_all2 (n := 4) b
  have e2 : sameF 5 (encB b) (encB b) = true := same_all2 (n := 3) b
  have e0 : sameCell (.d (.int .i64 a)) (.d (.int .i64 a)) = true := by simp [sameCell, sameCell0, sameF, sameLeaf]
  rcases h with ⟨rfl, (⟨rfl, _⟩ | ⟨id, rfl, _⟩) | rfl | rfl⟩ | ⟨rfl, rfl⟩
  · simp only [sameV, sameCells, e0]; rfl
  · simp only [sameV, sameCells, e0]; simp [sameCell, sameCell0]
  · simp only [sameV, sameCells, e0]; simp [sameCell, sameCell0, e1]
  · simp only [sameV, sameCells, e0]; simp [sameCell, sameCell0, same_all]
  · show sameF 6 (patD a b) (patD a b) = true
    show all2 (sameF 5) [.int .i64 a, encB b] [.int .i64 a, encB b] = true
    have e3 : sameF 5 (.int .i64 a) (.int .i64 a) = true := same_leaf
    simp only [all2, e3, e2, Bool.and_self]
theorem sput_ok (S : Store) (x c r m mk : Nat) (l : Lay) (C : CS) (mf : Int → Option V) (h0 : StoreP S x c r m mk l 0 C mf) (no : Nat) (hn : no < C.img.length) (p dv : V) (a : Int) (b : List UInt8) (hp : PatV S p dv a b) (hpk : PatOk a b) (ha : InB a) (nd : V) (ids needs : List Int) (hnd : IntsV S nd ids) (hids : ids.length ≤ 100000) (hneed : ∀ S1 v, CacheAt S1 c r m C → OwnS S1 v 3 (intsV (noZ ids)) → EvS cfg 105 [.ref c 0 0, v] S1 (NdR c r m C needs S1)) (h1 : needs.Pairwise (· < ·)) (h2 : ∀ y ∈ needs, 1 ≤ y ∧ y ≤ C.last) (hl : C.last < 100000) :
    EvS cfg 23 [.ref x 0 0, .d (.int .i64 (no : Int)), p, nd] S (fun o S' => FrS m r S S' ∧ StoreP S' x c r m mk l 0 (C.put no a b needs) mf ∧ o = .ret (.d (.int .i64 ((C.last : Int) + 1)))) := by
  refine evS_of rfl body23 ?_
  show Wp cfg (Try.f23.body.getD .skip) ((.ref x 0 0) :: (.d (.int .i64 (no : Int))) :: p :: nd :: (.tup []) :: (.tup []) :: (.tup []) :: (.tup []) :: (.tup []) :: (.tup []) :: (.tup []) :: (.tup []) :: (.tup []) :: (.tup []) :: (.tup []) :: (.tup []) :: (.tup []) :: (.tup []) :: (.tup []) :: (.tup []) :: (.tup []) :: (.tup []) :: (.tup []) :: (.tup []) :: (.tup []) :: (.tup []) :: (.tup []) :: (.tup []) :: (.tup []) :: (.tup []) :: (.tup []) :: []) S [] _
  conv => arg 2; whnf
  rw [wk_of]
  generalize hal : S.length = al
  have hft := hp.ft
  have hl0 := hp.l0
  have hd1 := hnd.one
  have hk0 : Keep S (S ++ [.row [p] 56]) := Keep.refl.app
  have h3 := h0.keep hk0
  have he := fun {ops dst k T F Q} => wr_callE (ops := ops) (dst := dst) (l := k) (T := T) (F := F) (Q := Q) rfl (err_of _ x c mk l.blocks l.inodes l.merge 0 h3.hx)
  obtain ⟨o, S1, ⟨hK1, v, rfl, hv⟩, hsE⟩ := evS_eq (some_ok _ nd ids (hnd.keep hk0) hids)
  have hs := fun {ops base K ws cs i dst T} => dw_callE (ops := ops) (base := base) (K := K) (ws := ws) (cs := cs) (i := i) (dst := dst) (T := T) rfl hsE
  have h3b := h3.keep hK1
  have hk1 := hk0.trans hK1
  have hp1 : PatV S1 p dv a b := hp.frm (ts := []) (ms := []) (r := 0) (Frm.keep hk1) rfl
  obtain ⟨o, S2, ⟨hF, hC, rfl⟩, hE⟩ := evS_eq (cput_ok _ c r m C h3b.ca no hn p dv a b hp1 hpk ha v needs (fun S1 h hk => hneed S1 v h (hk.own hv)) (own_one hv) h1 h2 hl)
  have hcp := fun {ops base K ws cs i dst T} => dw_callE (ops := ops) (base := base) (K := K) (ws := ws) (cs := cs) (i := i) (dst := dst) (T := T) rfl hE
  have hrx := rowE_of (e := 103) h3.hx
  have hrx1 := rowE_of (e := 103) h3b.hx
  have hal1 := hK1 al (.row [p] 56) (by rw [List.getElem?_append_right (by omega), hal, Nat.sub_self]; rfl)
  have hral1 := rowE_of (e := 56) hal1
  have h4 : StoreP S2 x c r m mk l 0 (C.put no a b needs) mf := h3b.step hF hC rfl
  have hrx2 := rowE_of (e := 103) h4.hx
  have hpx2 := fun y => putRow_of (y := y) (e := 103) h4.hx
  have hp1' := hp.one
  have hv1 := own_one hv
  simp (maxSteps := 1000000) (disch := first | assumption | omega | rfl) only [↓vmp, vme, vmb, ty, hP, dec_t, dec_f, wrap64, List.length_map, Int.toNat_natCast, Nat.reduceAdd, List.cons_append, List.nil_append, Option.map_some, Option.map_none, strOf_mk, sb_eql, sb_neq, vmg, ↓vgd, ↓vst, ↓vix, hft, hal, he, bo18]
  refine wk_draww (is := [0, 1, 2, 3, 4, 5, 6, 7, 8, 9, 10, 11, 12, 13]) (h := 0) (by kernel_rfl) (by kernel_rfl) ?_
  simp (maxSteps := 1000000) (disch := first | assumption | omega | rfl) only [List.replicate_zero, eq_self, vmd, dw1, dw2, dw3, dw4, dw5, dw6, dw7, dw8, dw9, dw10, dw11, dw12, vmk, vmo, vmg, vme, vmb, ty, hP, dec_t, dec_f, wrap64, List.length_map, Int.toNat_natCast, Nat.reduceAdd, ↓vgd, ↓vst, ↓vix, vso, List.append_nil, hrx, op_nilCheck, nilS_ref, fr103_0, lr103_0, rA0 hal, hl0, hs, bo63, hcp, bo68, hp1', hd1, hv1]
  have hsm := hp.same
  refine ⟨wall_read rfl (by kernel_rfl) rfl (ld_op ((loadV_row hral1).trans hl0)) hsm (wall_read rfl (by kernel_rfl) rfl (ld_op ((loadV_row hrx1).trans lr103_0)) (by simp [sameV, sameCell, sameCell0]) wall_nil), wall_bit (by kernel_rfl) (wall_bit (by kernel_rfl) wall_nil), by kernel_rfl, ?_⟩
  simp (maxSteps := 1000000) (disch := first | assumption | omega | rfl) only [↓vmp, vme, vmb, ty, hP, dec_t, dec_f, wrap64, List.length_map, Int.toNat_natCast, Nat.reduceAdd, List.cons_append, List.nil_append, Option.map_some, Option.map_none, strOf_mk, sb_eql, sb_neq, vmg, ↓vgd, ↓vst, ↓vix, fr103_2, hrx2, sr103_e, hpx2]
  refine ⟨rfl, _, rfl, ?_, h4.err 0, rfl⟩
  exact ((Frm.keep hk1).trans hF.toS).set (fun q hq => by cases getE h0.hx hq; rfl)
end Go.Proofs.Ytobgdmgldagjkaa
end
/-! store.SetInode: an inode is laid. -/
section
set_option linter.unusedVariables false
set_option linter.unusedSimpArgs false
set_option maxRecDepth 100000
set_option maxHeartbeats 4000000
namespace Go.Proofs.Ytobgdmgldagjkaa
open Go.Vm
def inoV (i : Ino) : V := .agg [.d (.int .i64 i.kind), .d (.int .i64 i.links), .d (.int .i64 i.size), .d (.int .i64 i.parent), .d (.int .i64 i.d0), .d (.int .i64 i.d1), .d (.int .i64 i.d2), .d (.int .i64 i.d3), .d (.int .i64 i.d4), .d (.int .i64 i.d5), .d (.int .i64 i.ind)]
def IsI (v : V) (i : Ino) : Prop := v = .d (encIno i) ∨ v = inoV i
section
variable {v : V} {i : Ino} {S : Store}
theorem IsI.ft (h : IsI v i) : fitsT Try.prog 61 v = true := by rcases h with rfl | rfl <;> kernel_rfl
theorem IsI.l0 (h : IsI v i) : loadR Try.prog 61 0 (some v) = some v := by rcases h with rfl | rfl <;> kernel_rfl
theorem IsI.one (h : IsI v i) : v.one = true := by rcases h with rfl | rfl <;> rfl
theorem IsI.fz (h : IsI v i) : Go.Vm.frz S frzFuel v = some (encIno i) := by rcases h with rfl | rfl <;> rfl
theorem IsI.fi (h : IsI v i) : frzIds S frzFuel v = [] := by rcases h with rfl | rfl <;> rfl
end
theorem tpatchX_ok (k0 : Nat) (hk0 : k0 < 8) (i : Ino) (b : List UInt8) (hl : b.length = 32) (h : Ev cfg 107 [encIno i] (.ret (.tup [.d (blkD b), .d (.int .i64 0)]))) : Ev cfg 71 [.int .i64 (k0 : Int), encIno i] (.ret (.tup [.d (patD ((k0 * 32 : Nat) : Int) b), .d (.int .i64 0)])) := by
  refine ev_of rfl rfl body71 ?_
  show Wp cfg (Try.f71.body.getD .skip) ((.d (.int .i64 (k0 : Int))) :: (.d (encIno i)) :: (.tup []) :: (.tup []) :: (.tup []) :: (.tup []) :: (.tup []) :: (.tup []) :: (.tup []) :: (.tup []) :: (.tup []) :: (.tup []) :: (.tup []) :: (.tup []) :: (.tup []) :: (.tup []) :: (.tup []) :: (.tup []) :: (.tup []) :: (.tup []) :: (.tup []) :: (.tup []) :: (.tup []) :: (.tup []) :: (.tup []) :: (.tup []) :: (.tup []) :: (.tup []) :: (.tup []) :: (.tup []) :: []) [] [] _
  conv => arg 2; whnf
  have c1 : ¬ (k0 : Int) < 0 := by omega
  have c2 : ¬ (k0 : Int) ≥ 8 := by omega
  have hf : fitsT Try.prog 61 (.d (encIno i)) = true := by kernel_rfl
  have h1 : IntKind.i64.wrap ((k0 : Int) * 32) = ((k0 * 32 : Nat) : Int) := by rw [wrap64 (by omega)]; omega
  have hp : ∀ {ops dst k T S F Q}, WpR cfg ops dst k T S F Q (some (.enter 107 [.d (encIno i)])) = WpL cfg ops k (putT T dst (.tup [.d (blkD b), .d (.int .i64 0)])) S F Q := fun {ops dst k T S F Q} => wr_call_d (C := cfg) (ds := [encIno i]) rfl h
  have hst := bt158.store (isB_d (b := b)) hl (w := blkV (zeros 32)) isB_v z32l
  have hsl : ∀ o1 o2 : Ob, sliceV Try.prog [o1, o2, .row [.d (blkD b)] 158] 158 (.ref 2 0 0) Option.none Option.none = some (.cs 2 0 0 32) := fun o1 o2 => sl158 rfl
  have hap : ∀ o1 o2 : Ob, appendV Try.prog [o1, o2, .row [.d (blkD b)] 158] 40 40 (.ts []) (.cs 2 0 0 32) = some (.rs 3 0 32, [o1, o2, .row [.d (blkD b)] 158, rowY b], 2) := fun o1 o2 => app_cs rfl isB_d hl
  simp (maxSteps := 1000000) (disch := first | assumption | omega | rfl) only [↓vmp, vme, vmb, ty, hP, dec_t, dec_f, wrap64, List.length_map, Int.toNat_natCast, Nat.reduceAdd, List.cons_append, List.nil_append, Option.map_some, Option.map_none, strOf_mk, sb_eql, sb_neq, vmg, ↓vgd, ↓vst, ↓vix, ↓vbs, hf, z56, zf56, z158, zf158, lrI, hp, bo107, hst, h1, bs0_40, ↓wl_bs_slice, wl_slice, Option.map_none, hsl, hap, bd56, sr56]
  have hby : ∀ S : Store, S[3]? = some (rowY b) → Go.Vm.frz S frzFuel (.agg [.d (.int .i64 ((k0 * 32 : Nat) : Int)), .rs 3 0 32]) = some (patD ((k0 * 32 : Nat) : Int) b) := fun S hS => by
    have h2 : Go.Vm.frz S 11 (.rs 3 0 32) = some (encB b) := isBy_frz (.inr ⟨3, by rw [hl], hS⟩)
    show (match allO (Go.Vm.frz S 11) [.d (.int .i64 ((k0 * 32 : Nat) : Int)), .rs 3 0 32] with | some ds => if ds.any D.isAgg then none else some (D.agg ds) | none => none) = _
    simp only [allO, h2]
    rfl
  exact retQ_ct rfl rfl ((loadV_row rfl).trans lr56) rfl rfl rfl (hby _ rfl)
theorem call_tpatch {ops : Array Oper} {dst : Option Tmp} {k : List Oper} {T : List V} {S : Store} {F : Dfs} {Q : Post} {v : V} {i : Ino} (hv : IsI v i) {k0 : Nat} {u : V} (h : Ev cfg 71 [.int .i64 (k0 : Int), encIno i] (.ret u)) : WpR cfg ops dst k T S F Q (some (.enter 71 [.d (.int .i64 (k0 : Int)), v])) = WpL cfg ops k (putT T dst u) S F Q :=
  wr_call_v (ds := [.int .i64 (k0 : Int), encIno i]) rfl (by simp only [allO, hv.fz]; rfl) (by rw [List.flatMap_cons, List.flatMap_cons, hv.fi]; rfl) h
theorem srP56 {a : Int} {b : List UInt8} : storeR Try.prog 56 0 (.d (patD a b)) (.agg [.d (.int .i64 0), .ts []]) = some (.d (patD a b)) := by kernel_rfl
theorem lr103_L {c mk : Nat} {l : Lay} {e : Int} : loadR Try.prog 24 1 (some (stoV c mk l.blocks l.inodes l.merge e)) = some (layV l) := by kernel_rfl
theorem setino_ok (S : Store) (x c r m mk : Nat) (l : Lay) (C : CS) (mf : Int → Option V) (h0 : StoreP S x c r m mk l 0 C mf) (hb : InB l.blocks) (hi : InB l.inodes) (hm : MayL l) (ino : Nat) (g1 : 1 ≤ ino) (g2 : (ino : Int) ≤ l.inodes) (v : V) (i : Ino) (hv : IsI v i) (b : List UInt8) (hbl : b.length = 32) (hput : Ev cfg 107 [encIno i] (.ret (.tup [.d (blkD b), .d (.int .i64 0)]))) (nd : V) (ids needs : List Int) (hnd : IntsV S nd ids) (hids : ids.length ≤ 100000) (hneed : ∀ S1 v, CacheAt S1 c r m C → OwnS S1 v 3 (intsV (noZ ids)) → EvS cfg 105 [.ref c 0 0, v] S1 (NdR c r m C needs S1)) (h1 : needs.Pairwise (· < ·)) (h2 : ∀ y ∈ needs, 1 ≤ y ∧ y ≤ C.last) (hl : C.last < 100000) :
    EvS cfg 25 [.ref x 0 0, .d (.int .i64 (ino : Int)), v, nd] S (fun o S' => FrS m r S S' ∧ StoreP S' x c r m mk l 0 (C.put ((2 + (ino - 1) / 8 : Nat) : Int) (((ino - 1) % 8 * 32 : Nat) : Int) b needs) mf ∧ o = .ret (.d (.int .i64 ((C.last : Int) + 1)))) := by
  refine evS_of rfl body25 ?_
  show Wp cfg (Try.f25.body.getD .skip) ((.ref x 0 0) :: (.d (.int .i64 (ino : Int))) :: v :: nd :: (.tup []) :: (.tup []) :: (.tup []) :: (.tup []) :: (.tup []) :: (.tup []) :: (.tup []) :: (.tup []) :: (.tup []) :: (.tup []) :: (.tup []) :: (.tup []) :: (.tup []) :: (.tup []) :: (.tup []) :: (.tup []) :: (.tup []) :: (.tup []) :: (.tup []) :: (.tup []) :: (.tup []) :: (.tup []) :: (.tup []) :: (.tup []) :: (.tup []) :: (.tup []) :: (.tup []) :: (.tup []) :: (.tup []) :: (.tup []) :: (.tup []) :: (.tup []) :: (.tup []) :: (.tup []) :: (.tup []) :: (.tup []) :: (.tup []) :: (.tup []) :: (.tup []) :: (.tup []) :: (.tup []) :: (.tup []) :: (.tup []) :: (.tup []) :: (.tup []) :: []) S [] _
  conv => arg 2; whnf
  rw [wk_of]
  generalize hal : S.length = al
  have hno : 2 + (ino - 1) / 8 < C.img.length := by
    have h3 := hm.2.2.2.2.2
    have h4 : l.inodes.tdiv 8 = l.inodes / 8 := Int.tdiv_eq_ediv_of_nonneg (by omega)
    have h5 := hm.2.2.2.2.1
    have h6 : l.inodes.tmod 8 = l.inodes % 8 := Int.tmod_eq_emod_of_nonneg (by omega)
    have := h0.hB
    omega
  have hk8 : (ino - 1) % 8 < 8 := Nat.mod_lt _ (by decide)
  have hK : ∀ l, Keep S (S ++ l) := fun l => Keep.refl.app
  have hft := hv.ft
  have hl0 := hv.l0
  have hv1 := hv.one
  have hd1 := hnd.one
  have he := fun {ops dst k T F Q} l => wr_callE (ops := ops) (dst := dst) (l := k) (T := T) (F := F) (Q := Q) rfl (err_of _ x c mk _ _ _ 0 (h0.keep (hK l)).hx)
  have hrx := fun l => rowE_of (e := 103) (h0.keep (hK l)).hx
  have hw := fun {ops dst k T S F Q} => call_where (ops := ops) (dst := dst) (k := k) (T := T) (S := S) (F := F) (Q := Q) hb hi hm g1 g2
  have htp := fun {ops dst k T S F Q} => call_tpatch (ops := ops) (dst := dst) (k := k) (T := T) (S := S) (F := F) (Q := Q) hv (tpatchX_ok _ hk8 i b hbl hput)
  have hPt : PatV (S ++ [.row [v] 61, .row [.d (patD (((ino - 1) % 8 * 32 : Nat) : Int) b)] 56]) (.d (patD (((ino - 1) % 8 * 32 : Nat) : Int) b)) (.d (encB b)) (((ino - 1) % 8 * 32 : Nat) : Int) b := .inr ⟨rfl, rfl⟩
  obtain ⟨o, S2, ⟨hF, hC, rfl⟩, hE⟩ := evS_eq (sput_ok _ x c r m mk l C mf (h0.keep (hK _)) _ hno _ _ _ _ hPt (by unfold PatOk; omega) (by unfold InB; omega) nd ids needs (hnd.keep (hK _)) hids hneed h1 h2 hl)
  have hsp := fun {ops dst k T F Q} => wr_callE (ops := ops) (dst := dst) (l := k) (T := T) (F := F) (Q := Q) rfl hE
  simp (maxSteps := 1000000) (disch := first | assumption | omega | rfl) only [↓vmp, vme, vmb, ty, hP, dec_t, dec_f, wrap64, List.length_map, Int.toNat_natCast, Nat.reduceAdd, List.cons_append, List.nil_append, Option.map_some, Option.map_none, strOf_mk, sb_eql, sb_neq, vmg, ↓vgd, ↓vst, ↓vix, hft, hal, he, bo18, hrx, fr103_1, lr103_L, hw, bo70, un_not, Bool.not_true, List.append_assoc, List.length_append, List.length_cons, List.length_nil, rA0 hal, rA1 hal, pA1 hal, hl0, hv1, hd1, htp, bo71, z56, zf56, srP56, lr56d, hsp, bo23]
  exact ⟨rfl, _, rfl, (Frm.refl.app).trans hF, hC, rfl⟩
/-- Nothing is needed. -/
theorem needed_nil (S : Store) (c r m : Nat) (C : CS) (h0 : CacheAt S c r m C) (v : V) (hv : OwnS S v 3 (intsV [])) : EvS cfg 105 [.ref c 0 0, v] S (NdR c r m C [] S) := by
  refine evS_of rfl body105 ?_
  show Wp cfg (Try.f105.body.getD .skip) ((.ref c 0 0) :: v :: (.tup []) :: (.tup []) :: (.tup []) :: (.tup []) :: (.tup []) :: (.tup []) :: (.tup []) :: (.tup []) :: (.tup []) :: (.tup []) :: (.tup []) :: (.tup []) :: (.tup []) :: (.tup []) :: (.tup []) :: (.tup []) :: (.tup []) :: (.tup []) :: (.tup []) :: (.tup []) :: (.tup []) :: (.tup []) :: (.tup []) :: (.tup []) :: (.tup []) :: (.tup []) :: (.tup []) :: (.tup []) :: (.tup []) :: (.tup []) :: (.tup []) :: (.tup []) :: (.tup []) :: (.tup []) :: (.tup []) :: (.tup []) :: (.tup []) :: (.tup []) :: (.tup []) :: (.tup []) :: (.tup []) :: (.tup []) :: (.tup []) :: (.tup []) :: (.tup []) :: (.tup []) :: (.tup []) :: (.tup []) :: (.tup []) :: (.tup []) :: (.tup []) :: (.tup []) :: (.tup []) :: (.tup []) :: (.tup []) :: (.tup []) :: (.tup []) :: (.tup []) :: (.tup []) :: (.tup []) :: (.tup []) :: (.tup []) :: (.tup []) :: (.tup []) :: (.tup []) :: (.tup []) :: (.tup []) :: (.tup []) :: (.tup []) :: (.tup []) :: []) S [] _
  conv => arg 2; whnf
  rw [wk_of]
  have hln : builtinV Try.prog S .len [46] [v] = some (.val (.d (.int .i64 0)) S 0) := len_own Try.underlying46 hv
  simp (maxSteps := 1000000) (disch := first | assumption | omega | rfl) only [↓vmp, vme, vmb, ty, hP, dec_t, dec_f, wrap64, List.length_map, Int.toNat_natCast, Nat.reduceAdd, List.cons_append, List.nil_append, Option.map_some, Option.map_none, strOf_mk, sb_eql, sb_neq, vmg, ↓vgd, ↓vst, ↓vix, hln]
  rw [wk_of]
  refine wk_loop ?_
  conv => arg 2; whnf
  simp (maxSteps := 1000000) (disch := first | assumption | omega | rfl) only [↓vmp, vme, vmb, ty, hP, dec_t, dec_f, wrap64, List.length_map, Int.toNat_natCast, Nat.reduceAdd, List.cons_append, List.nil_append, Option.map_some, Option.map_none, strOf_mk, sb_eql, sb_neq, vmg, ↓vgd, ↓vst, ↓vix]
  exact ⟨rfl, _, res_tt rfl rfl rfl rfl, Frm.refl, h0, _, rfl, .inl ⟨rfl, rfl⟩⟩
end Go.Proofs.Ytobgdmgldagjkaa
end
/-! alloc: New, Store; the free inodes, one after the other. -/
section
set_option linter.unusedVariables false
set_option linter.unusedSimpArgs false
set_option maxRecDepth 100000
set_option maxHeartbeats 4000000
namespace Go.Proofs.Ytobgdmgldagjkaa
open Go.Vm
def allV (x gm : Nat) : V := .agg [.ref x 0 0, .mr gm]
section
variable {x gm d y z : Nat}
theorem bd124 : buildV Try.prog 124 [(0, .ref x 0 0), (1, .mr gm)] = some (allV x gm) := by kernel_rfl
theorem ft124 : fitsT Try.prog 124 (allV x gm) = true := by kernel_rfl
theorem fr124_0 : fieldAddrV Try.prog 124 0 (.ref d y z) = some (.ref d y (z + 0)) := by kernel_rfl
theorem fr124_1 : fieldAddrV Try.prog 124 1 (.ref d y z) = some (.ref d y (z + 1)) := by kernel_rfl
theorem lr124_0 : loadR Try.prog 32 0 (some (allV x gm)) = some (.ref x 0 0) := by kernel_rfl
theorem lr124_1 : loadR Try.prog 101 1 (some (allV x gm)) = some (.mr gm) := by kernel_rfl
theorem eq64f : binV Try.prog .eql 64 (.ref d y z) (.d .nilp) = some (.d (.bool false)) := by kernel_rfl
theorem eq64n : binV Try.prog .eql 64 (.d .nilp) (.d .nilp) = some (.d (.bool true)) := by kernel_rfl
end
theorem anew_ok (S : Store) (x : Nat) : EvS cfg 37 [.ref x 0 0] S (fun o S' => S' = S ++ [.mp [] 0, .row [allV x S.length] 124] ∧ o = .ret (.ref (S.length + 1) 0 0)) := by
  refine evS_of rfl body37 ?_
  show Wp cfg (Try.f37.body.getD .skip) ((.ref x 0 0) :: (.tup []) :: (.tup []) :: (.tup []) :: (.tup []) :: (.tup []) :: (.tup []) :: (.tup []) :: (.tup []) :: []) S [] _
  conv => arg 2; whnf
  rw [wk_of]
  simp (maxSteps := 1000000) (disch := first | assumption | omega | rfl) only [↓vmp, vme, vmb, ty, hP, dec_t, dec_f, wrap64, List.length_map, Int.toNat_natCast, Nat.reduceAdd, List.cons_append, List.nil_append, Option.map_some, Option.map_none, strOf_mk, sb_eql, sb_neq, vmg, ↓vgd, ↓vst, ↓vix, ↓wl_makeMap, eq32f, bd124, ft124, List.append_assoc, List.length_append, List.length_cons, List.length_nil]
  exact ⟨rfl, _, rfl, rfl, rfl⟩
theorem anew_nil (S : Store) : EvS cfg 37 [.d .nilp] S (fun o S' => S' = S ∧ o = .ret (.d .nilp)) := by
  refine evS_of rfl body37 ?_
  show Wp cfg (Try.f37.body.getD .skip) ((.d .nilp) :: (.tup []) :: (.tup []) :: (.tup []) :: (.tup []) :: (.tup []) :: (.tup []) :: (.tup []) :: (.tup []) :: []) S [] _
  conv => arg 2; whnf
  rw [wk_of]
  simp (maxSteps := 1000000) (disch := first | assumption | omega | rfl) only [↓vmp, vme, vmb, ty, hP, dec_t, dec_f, wrap64, List.length_map, Int.toNat_natCast, Nat.reduceAdd, List.cons_append, List.nil_append, Option.map_some, Option.map_none, strOf_mk, sb_eql, sb_neq, vmg, ↓vgd, ↓vst, ↓vix, eq32n]
  exact ⟨rfl, _, rfl, rfl, rfl⟩
theorem astore_ok (S : Store) (y x gm : Nat) (h : S[y]? = some (.row [allV x gm] 124)) : EvS cfg 36 [.ref y 0 0] S (fun o S' => S' = S ∧ o = .ret (.ref x 0 0)) := by
  refine evS_of rfl body36 ?_
  show Wp cfg (Try.f36.body.getD .skip) ((.ref y 0 0) :: (.tup []) :: (.tup []) :: (.tup []) :: (.tup []) :: (.tup []) :: (.tup []) :: (.tup []) :: (.tup []) :: []) S [] _
  conv => arg 2; whnf
  rw [wk_of]
  have hr := rowE_of (e := 124) h
  simp (maxSteps := 1000000) (disch := first | assumption | omega | rfl) only [↓vmp, vme, vmb, ty, hP, dec_t, dec_f, wrap64, List.length_map, Int.toNat_natCast, Nat.reduceAdd, List.cons_append, List.nil_append, Option.map_some, Option.map_none, strOf_mk, sb_eql, sb_neq, vmg, ↓vgd, ↓vst, ↓vix, eq64f, fr124_0, hr, lr124_0]
  exact ⟨rfl, _, rfl, rfl, rfl⟩
theorem astore_nil (S : Store) : EvS cfg 36 [.d .nilp] S (fun o S' => S' = S ∧ o = .ret (.d .nilp)) := by
  refine evS_of rfl body36 ?_
  show Wp cfg (Try.f36.body.getD .skip) ((.d .nilp) :: (.tup []) :: (.tup []) :: (.tup []) :: (.tup []) :: (.tup []) :: (.tup []) :: (.tup []) :: (.tup []) :: []) S [] _
  conv => arg 2; whnf
  rw [wk_of]
  simp (maxSteps := 1000000) (disch := first | assumption | omega | rfl) only [↓vmp, vme, vmb, ty, hP, dec_t, dec_f, wrap64, List.length_map, Int.toNat_natCast, Nat.reduceAdd, List.cons_append, List.nil_append, Option.map_some, Option.map_none, strOf_mk, sb_eql, sb_neq, vmg, ↓vgd, ↓vst, ↓vix, eq64n]
  exact ⟨rfl, _, rfl, rfl, rfl⟩
/-- What is called with numbers: J tells what stands behind those told so far; more: it asks for more. -/
structure AskF (m r : Nat) (g : FuncId) (caps : List V) (A : Nat) (J : List Nat → Store → Prop) (more : Bool) : Prop where
  call : ∀ (S : Store) (l : List Nat) (n : Nat), J l S → EvS cfg g (.d (.int .i64 (n : Int)) :: caps) S (fun o S' => o = .ret (.d (.bool more)) ∧ J (l ++ [n]) S' ∧ S.length ≤ S'.length ∧ ∀ (j : Nat) (o : Ob), S[j]? = some o → (j < A ∨ ∀ (xs : List V) (e : TypeId), o = Ob.row xs e → e ≠ 3 ∧ e ≠ 4) → S'[j]? = some o)
  keep : ∀ (S S' : Store) (l : List Nat), J l S → FrC m r S S' → J l S'
  bo : (bodyOf Try.prog g).isSome = true
  sh : cfg.shared g = true
def FrA (m r A : Nat) (S S' : Store) : Prop := S.length ≤ S'.length ∧ ∀ (j : Nat) (o : Ob), j < A → S[j]? = some o → calm caT [m] 42 r j o = true → S'[j]? = some o
theorem FrA.of {m r A : Nat} {S S' : Store} (h : FrC m r S S') : FrA m r A S S' := ⟨h.1, fun j o _ hj hc => h.2 j o hj hc⟩
theorem FrA.trans {m r A : Nat} {S S' S'' : Store} (h : FrA m r A S S') (h' : FrA m r A S' S'') : FrA m r A S S'' := ⟨Nat.le_trans h.1 h'.1, fun j o hA hj hc => h'.2 j o hA (h.2 j o hA hj hc) hc⟩
/-- The free ones below i. -/
def frN (f : Nat → Ino) (i : Nat) : List Nat := (List.range i).filter fun n => decide (2 ≤ n ∧ (f n).kind = 0)
theorem frN_succ {f : Nat → Ino} {i : Nat} (hi : 2 ≤ i) : frN f (i + 1) = frN f i ++ if (f i).kind = 0 then [i] else [] := by
  unfold frN
  rw [List.range_succ, List.filter_append]
  by_cases h : (f i).kind = 0
  · simp [h, hi]
  · simp [h]
theorem frN_two {f : Nat → Ino} : frN f 2 = [] := by
  unfold frN
  rw [List.filter_eq_nil_iff]
  intro n hn
  have := List.mem_range.1 hn
  simp only [decide_eq_true_eq]
  omega
theorem frN_pre {f : Nat → Ino} : ∀ {k i : Nat}, 2 ≤ i → ∃ t, frN f (i + k) = frN f i ++ t
  | 0, i, _ => ⟨[], by simp⟩
  | k + 1, i, h => by
    obtain ⟨t, ht⟩ := frN_pre (k := k) h
    exact ⟨t ++ _, by rw [← Nat.add_assoc, frN_succ (by omega), ht, List.append_assoc]⟩
theorem cvF {g : FuncId} {caps : List V} {n : Int} (h : (bodyOf Try.prog g).isSome = true) : cvV Try.prog [.d (.int .i64 n)] (.fn (.func g) [] caps) = some (.enter g (.d (.int .i64 n) :: caps)) := cv_fn rfl h
theorem inodes_l (B c r m y a1 A : Nat) (l : Lay) (C : CS) (vv : V) (g : FuncId) (caps : List V) (J : List Nat → Store → Prop) (more : Bool) (ha : AskF m r g caps A J more) (hBA : B ≤ A) (haA : A ≤ a1) (hB : l.blocks = C.img.length) (hb : InB l.blocks) (hi : InB l.inodes) (hm : MayL l) (f : Nat → Ino) (hcl : ∀ ino : Nat, 2 ≤ ino → (ino : Int) ≤ l.inodes → ∃ bb, Ev cfg 114 [blkD (slotB (C.see (2 + (ino - 1) / 8)) ((ino - 1) % 8))] (.ret (.tup [.d (encIno (f ino)), .d (.bool bb)]))) (N : Nat) (hN : l.inodes = N) (R : Post) (S0 : Store) :
   ∀ (k i : Nat) (S : Store) (g2 g3 g6 g7 g8 g9 g10 g11 g12 g13 g14 g15 g16 g17 g18 g19 g20 g21 g22 g23 g24 g25 g26 g27 g28 g29 g30 : V), N + 1 - i = k → 2 ≤ i → i ≤ N + 1 → CacheIn S B c r m C → ViewAt S vv c l.blocks l.inodes l.merge → S[a1]? = some (.row [vv] 52) → J (frN f i) S → (more = false → frN f i = []) → FrA m r A S0 S →
   (∀ S' i' g2 g3 g6 g7 g8 g9 g10 g11 g12 g13 g14 g15 g16 g17 g18 g19 g20 g21 g22 g23 g24 g25 g26 g27 g28 g29 g30, CacheIn S' B c r m C → FrA m r A S0 S' → J (if more then frN f (N + 1) else (frN f (N + 1)).take 1) S' → R (.exit 0) ((.ref y 0 0) :: (.fn (.func g) [] caps) :: g2 :: g3 :: (.ref a1 0 0) :: i' :: g6 :: g7 :: g8 :: g9 :: g10 :: g11 :: g12 :: g13 :: g14 :: g15 :: g16 :: g17 :: g18 :: g19 :: g20 :: g21 :: g22 :: g23 :: g24 :: g25 :: g26 :: g27 :: g28 :: g29 :: g30 :: []) S' []) →
   (∀ S' i' g2 g3 g6 g7 g8 g9 g10 g11 g12 g13 g14 g15 g16 g17 g18 g19 g20 g21 g22 g23 g24 g25 g26 g27 g28 g29 g30, CacheIn S' B c r m C → FrA m r A S0 S' → J (if more then frN f (N + 1) else (frN f (N + 1)).take 1) S' → R .ret ((.ref y 0 0) :: (.fn (.func g) [] caps) :: g2 :: g3 :: (.ref a1 0 0) :: i' :: g6 :: g7 :: g8 :: g9 :: g10 :: g11 :: g12 :: g13 :: g14 :: g15 :: g16 :: g17 :: g18 :: g19 :: g20 :: g21 :: g22 :: g23 :: g24 :: g25 :: g26 :: g27 :: g28 :: g29 :: g30 :: []) S' []) →
   Wp cfg (.loop (lpOf (Try.f76.body.getD .skip) 0)) ((.ref y 0 0) :: (.fn (.func g) [] caps) :: g2 :: g3 :: (.ref a1 0 0) :: (.d (.int .i64 (i : Int))) :: g6 :: g7 :: g8 :: g9 :: g10 :: g11 :: g12 :: g13 :: g14 :: g15 :: g16 :: g17 :: g18 :: g19 :: g20 :: g21 :: g22 :: g23 :: g24 :: g25 :: g26 :: g27 :: g28 :: g29 :: g30 :: []) S [] R := by
  intro k
  have hN1 : N ≤ 128 := by have := hm.2.2.2.1; omega
  induction k with
  | zero =>
    intro i S g2 g3 g6 g7 g8 g9 g10 g11 g12 g13 g14 g15 g16 g17 g18 g19 g20 g21 g22 g23 g24 g25 g26 g27 g28 g29 g30 hk hi2 hiN hC hV h52 hJ hmo hFA hR hR2
    have hie : i = N + 1 := by omega
    subst hie
    obtain ⟨gg, rfl, hg⟩ := hV
    have hr52 := rowE_of (e := 52) h52
    have hle : ¬ (((N + 1 : Nat) : Int)) ≤ l.inodes := by omega
    rw [wk_of]
    refine wk_loop ?_
    conv => arg 2; whnf
    simp (maxSteps := 1000000) (disch := first | assumption | omega | rfl) only [↓vmp, vme, vmb, ty, hP, dec_t, dec_f, wrap64, List.length_map, Int.toNat_natCast, Nat.reduceAdd, List.cons_append, List.nil_append, Option.map_some, Option.map_none, strOf_mk, sb_eql, sb_neq, vmg, ↓vgd, ↓vst, ↓vix, fr52_0, fr24_1, hr52, lr52_I]
    refine hR _ _ _ _ _ _ _ _ _ _ _ _ _ _ _ _ _ _ _ _ _ _ _ _ _ _ _ _ _ hC hFA ?_
    cases more with
    | true => exact hJ
    | false => rw [hmo rfl] at hJ ⊢; exact hJ
  | succ k ih =>
    intro i S g2 g3 g6 g7 g8 g9 g10 g11 g12 g13 g14 g15 g16 g17 g18 g19 g20 g21 g22 g23 g24 g25 g26 g27 g28 g29 g30 hk hi2 hiN hC hV h52 hJ hmo hFA hR hR2
    have hV0 := hV
    obtain ⟨gg, rfl, hg⟩ := hV
    have hr52 := rowE_of (e := 52) h52
    have hle : (i : Int) ≤ l.inodes := by omega
    obtain ⟨bb, hcl1⟩ := hcl i hi2 hle
    obtain ⟨o, S1, ⟨hF, hC1, w, rfl, rfl⟩, hin⟩ := evS_split rfl (vinode_ok S _ B c r m l C hC hV0 hB hb hi hm i (by omega) hle (f i) bb hcl1)
    have hin := fun {ops dst k T F Q} => hin _ rfl (ops := ops) (dst := dst) (k := k) (T := T) (F := F) (Q := Q)
    have hw : IntKind.i64.wrap ((i : Int) + 1) = ((i + 1 : Nat) : Int) := by rw [wrap64 (by omega)]; omega
    have hJ1 := ha.keep _ _ _ hJ hF
    have h52b := hF.row h52 rfl
    have hVb := hV0.frm hF rfl
    have hFA1 := hFA.trans (FrA.of (A := A) hF)
    rw [wk_of]
    refine wk_loop ?_
    conv => arg 2; whnf
    by_cases h0 : (f i).kind = 0
    · have hde : ∀ i' : Decidable ((f i).kind = 0), @decide ((f i).kind = 0) i' = true := fun i' => decide_eq_true h0
      obtain ⟨o, S2, ⟨rfl, hJ2, hl2, hk2⟩, hcall⟩ := evS_eq (ha.call S1 _ i hJ1)
      have hcall := fun {ops dst k T F Q} => wr_callE (ops := ops) (dst := dst) (l := k) (T := T) (F := F) (Q := Q) ha.sh hcall
      have hcv := cvF (g := g) (caps := caps) (n := (i : Int)) ha.bo
      simp (maxSteps := 1000000) (disch := first | assumption | omega | rfl) only [↓vmp, vme, vmb, ty, hP, dec_t, dec_f, wrap64, List.length_map, Int.toNat_natCast, Nat.reduceAdd, List.cons_append, List.nil_append, Option.map_some, Option.map_none, strOf_mk, sb_eql, sb_neq, vmg, ↓vgd, ↓vst, ↓vix, ↓wl_callv, fr52_0, fr24_1, hr52, lr52_I, lr52, v1_52, hin, bo42, fdI, hde, hcv, hcall, hw]
      have hC2 : CacheIn S2 B c r m C := ⟨Nat.le_trans hC1.1 hl2, hC1.2.keep (fun j p hj => take_at (hk2 j p (take_keep _ _ hj) (.inl (Nat.lt_of_lt_of_le (lt_take hj) hBA))) (lt_take hj))⟩
      have h52c := hk2 _ _ h52b (.inr fun xs e he => by cases he; exact ⟨by decide, by decide⟩)
      have hVc : ViewAt S2 (viewV l.blocks l.inodes l.merge gg) c l.blocks l.inodes l.merge := by
        obtain ⟨g', e1, e2⟩ := hVb
        exact ⟨g', e1, hk2 _ _ e2 (.inr fun xs e he => by cases he; exact ⟨by decide, by decide⟩)⟩
      have hFA2 : FrA m r A S0 S2 := hFA1.trans ⟨hl2, fun j p hj hp _ => hk2 j p hp (.inl hj)⟩
      have hsu := frN_succ (f := f) hi2
      rw [if_pos h0] at hsu
      cases more with
      | true =>
        simp (maxSteps := 1000000) (disch := first | assumption | omega | rfl) only [↓vmp, vme, vmb, ty, hP, dec_t, dec_f, wrap64, List.length_map, Int.toNat_natCast, Nat.reduceAdd, List.cons_append, List.nil_append, Option.map_some, Option.map_none, strOf_mk, sb_eql, sb_neq, vmg, ↓vgd, ↓vst, ↓vix, Bool.not_true, hw]
        exact ih (i + 1) S2 _ _ _ _ _ _ _ _ _ _ _ _ _ _ _ _ _ _ _ _ _ _ _ _ _ _ _ (by omega) (by omega) (by omega) hC2 hVc h52c (by rw [hsu]; exact hJ2) (fun hh => by cases hh) hFA2 hR hR2
      | false =>
        simp (maxSteps := 1000000) (disch := first | assumption | omega | rfl) only [↓vmp, vme, vmb, ty, hP, dec_t, dec_f, wrap64, List.length_map, Int.toNat_natCast, Nat.reduceAdd, List.cons_append, List.nil_append, Option.map_some, Option.map_none, strOf_mk, sb_eql, sb_neq, vmg, ↓vgd, ↓vst, ↓vix, Bool.not_false]
        refine hR2 _ _ _ _ _ _ _ _ _ _ _ _ _ _ _ _ _ _ _ _ _ _ _ _ _ _ _ _ _ hC2 hFA2 ?_
        rw [if_neg (by decide)]
        rw [hmo rfl, List.nil_append] at hsu hJ2
        obtain ⟨t, ht⟩ := frN_pre (f := f) (k := k) (i := i + 1) (by omega)
        have hNk : N + 1 = i + 1 + k := by omega
        rw [hNk, ht, hsu]
        exact hJ2
    · have hde : ∀ i' : Decidable ((f i).kind = 0), @decide ((f i).kind = 0) i' = false := fun i' => decide_eq_false h0
      simp (maxSteps := 1000000) (disch := first | assumption | omega | rfl) only [↓vmp, vme, vmb, ty, hP, dec_t, dec_f, wrap64, List.length_map, Int.toNat_natCast, Nat.reduceAdd, List.cons_append, List.nil_append, Option.map_some, Option.map_none, strOf_mk, sb_eql, sb_neq, vmg, ↓vgd, ↓vst, ↓vix, fr52_0, fr24_1, hr52, lr52_I, lr52, v1_52, hin, bo42, fdI, hde, hw]
      refine ih (i + 1) S1 _ _ _ _ _ _ _ _ _ _ _ _ _ _ _ _ _ _ _ _ _ _ _ _ _ _ _ (by omega) (by omega) (by omega) hC1 hVb h52b ?_ ?_ hFA1 hR hR2
      · rw [frN_succ hi2, if_neg h0, List.append_nil]; exact hJ1
      · rw [frN_succ hi2, if_neg h0, List.append_nil]; exact hmo
end Go.Proofs.Ytobgdmgldagjkaa
end
/-! alloc: Inode, Inodes: the next free inode, and how many there are. -/
section
set_option linter.unusedVariables false
set_option linter.unusedSimpArgs false
set_option maxRecDepth 100000
set_option maxHeartbeats 4000000
namespace Go.Proofs.Ytobgdmgldagjkaa
open Go.Vm
theorem resN {P : Program} {T : List V} {S : Store} : resultsV P #[] T S = some (.tup []) := rfl
/-- A view of a store in the store. -/
structure SeenAt (S : Store) (B y x c r m mk gm : Nat) (l : Lay) (e : Int) (C : CS) : Prop where
  hy : S[y]? = some (.row [allV x gm] 124)
  hx : S[x]? = some (.row [stoV c mk l.blocks l.inodes l.merge e] 103)
  ca : CacheIn S B c r m C
theorem SeenAt.keep {S S' : Store} {B y x c r m mk gm : Nat} {l : Lay} {e : Int} {C : CS} (h : SeenAt S B y x c r m mk gm l e C) (hk : Keep S S') : SeenAt S' B y x c r m mk gm l e C := ⟨hk _ _ h.hy, hk _ _ h.hx, h.ca.keep hk⟩
theorem body76 : bodyOf Try.prog 76 = some ⟨(Try.f76.body.getD .skip), 31, #[]⟩ := by
  unfold bodyOf
  rw [Try.func76]
  rfl
theorem inodes_ok (S : Store) (B y x c r m mk gm A : Nat) (l : Lay) (e : Int) (C : CS) (h : SeenAt S B y x c r m mk gm l e C) (g : FuncId) (caps : List V) (J : List Nat → Store → Prop) (more : Bool) (ha : AskF m r g caps A J more) (hBA : B ≤ A) (haA : A ≤ S.length) (hB : l.blocks = C.img.length) (hb : InB l.blocks) (hi : InB l.inodes) (hm : MayL l) (f : Nat → Ino) (hcl : ∀ ino : Nat, 2 ≤ ino → (ino : Int) ≤ l.inodes → ∃ bb, Ev cfg 114 [blkD (slotB (C.see (2 + (ino - 1) / 8)) ((ino - 1) % 8))] (.ret (.tup [.d (encIno (f ino)), .d (.bool bb)]))) (N : Nat) (hN : l.inodes = N) (hJ : J [] S) :
    EvS cfg 76 [.ref y 0 0, .fn (.func g) [] caps] S (fun o S' => o = .ret (.tup []) ∧ CacheIn S' B c r m C ∧ FrA m r A S S' ∧ J (if more then frN f (N + 1) else (frN f (N + 1)).take 1) S') := by
  refine evS_of rfl body76 ?_
  show Wp cfg (Try.f76.body.getD .skip) ((.ref y 0 0) :: (.fn (.func g) [] caps) :: (.tup []) :: (.tup []) :: (.tup []) :: (.tup []) :: (.tup []) :: (.tup []) :: (.tup []) :: (.tup []) :: (.tup []) :: (.tup []) :: (.tup []) :: (.tup []) :: (.tup []) :: (.tup []) :: (.tup []) :: (.tup []) :: (.tup []) :: (.tup []) :: (.tup []) :: (.tup []) :: (.tup []) :: (.tup []) :: (.tup []) :: (.tup []) :: (.tup []) :: (.tup []) :: (.tup []) :: (.tup []) :: (.tup []) :: []) S [] _
  conv => arg 2; whnf
  rw [wk_of]
  have hry := rowE_of (e := 124) h.hy
  obtain ⟨o, S1, ⟨hK, v, rfl, hv⟩, hview⟩ := evS_eq (view_ok S x c mk l.blocks l.inodes l.merge e h.hx)
  have hview := fun {ops dst k T F Q} => wr_callE (ops := ops) (dst := dst) (l := k) (T := T) (F := F) (Q := Q) rfl hview
  obtain ⟨gg, rfl, hg⟩ := hv
  generalize ha1 : S1.length = a1
  have hN2 : 8 ≤ N := by have := hm.2.2.1; omega
  have hKa : Keep S (S1 ++ [.row [viewV l.blocks l.inodes l.merge gg] 52]) := hK.app
  have h52 : (S1 ++ [.row [viewV l.blocks l.inodes l.merge gg] 52])[a1]? = some (.row [viewV l.blocks l.inodes l.merge gg] 52) := by rw [← ha1]; simp
  simp (maxSteps := 1000000) (disch := first | assumption | omega | rfl) only [↓vmp, vme, vmb, ty, hP, dec_t, dec_f, wrap64, List.length_map, Int.toNat_natCast, Nat.reduceAdd, List.cons_append, List.nil_append, Option.map_some, Option.map_none, strOf_mk, sb_eql, sb_neq, vmg, ↓vgd, ↓vst, ↓vix, eq64f, fr124_0, hry, lr124_0, hview, bo21, z52, zf52, v1_52, ha1, rA0 ha1, pA0 ha1, sr52]
  refine inodes_l B c r m y a1 A l C (viewV l.blocks l.inodes l.merge gg) g caps J more ha hBA (by have := hK.len; omega) hB hb hi hm f hcl N hN _ S (N + 1 - 2) 2 _ _ _ _ _ _ _ _ _ _ _ _ _ _ _ _ _ _ _ _ _ _ _ _ _ _ _ _ rfl (Nat.le_refl _) (by omega) (h.ca.keep hKa) ⟨gg, rfl, by rw [List.getElem?_append_left (getLen hg)]; exact hg⟩ h52 (by rw [frN_two]; exact ha.keep _ _ _ hJ (Frm.keep hKa)) (fun _ => frN_two) (FrA.of (Frm.keep hKa)) ?_ ?_
  · intro S' i' g2 g3 g6 g7 g8 g9 g10 g11 g12 g13 g14 g15 g16 g17 g18 g19 g20 g21 g22 g23 g24 g25 g26 g27 g28 g29 g30 hC' hF' hJ'
    simp (maxSteps := 1000000) (disch := first | assumption | omega | rfl) only [↓vmp, vme, vmb, ty, hP, dec_t, dec_f, wrap64, List.length_map, Int.toNat_natCast, Nat.reduceAdd, List.cons_append, List.nil_append, Option.map_some, Option.map_none, strOf_mk, sb_eql, sb_neq, vmg, ↓vgd, ↓vst, ↓vix]
    exact ⟨rfl, _, rfl, rfl, hC', hF', hJ'⟩
  · intro S' i' g2 g3 g6 g7 g8 g9 g10 g11 g12 g13 g14 g15 g16 g17 g18 g19 g20 g21 g22 g23 g24 g25 g26 g27 g28 g29 g30 hC' hF' hJ'
    simp (maxSteps := 1000000) (disch := first | assumption | omega | rfl) only [↓vmp, vme, vmb, ty, hP, dec_t, dec_f, wrap64, List.length_map, Int.toNat_natCast, Nat.reduceAdd, List.cons_append, List.nil_append, Option.map_some, Option.map_none, strOf_mk, sb_eql, sb_neq, vmg, ↓vgd, ↓vst, ↓vix]
    exact ⟨rfl, _, rfl, rfl, hC', hF', hJ'⟩
theorem st3 {a b : Int} : storeR Try.prog 3 0 (.d (.int .i64 a)) (.d (.int .i64 b)) = some (.d (.int .i64 a)) := by kernel_rfl
theorem ld3r {a : Int} : loadR Try.prog 3 0 (some (.d (.int .i64 a))) = some (.d (.int .i64 a)) := by kernel_rfl
theorem st4b {a b : Bool} : storeR Try.prog 4 0 (.d (.bool a)) (.d (.bool b)) = some (.d (.bool a)) := by kernel_rfl
theorem ld4r {a : Bool} : loadR Try.prog 4 0 (some (.d (.bool a))) = some (.d (.bool a)) := by kernel_rfl
def cntJ (n0 : Nat) (l : List Nat) (S : Store) : Prop := ∃ v : Int, S[n0]? = some (.row [.d (.int .i64 v)] 3) ∧ (l.length ≤ 1000000 → v = l.length)
/-- The counting closure. -/
theorem ask_count (m r A n0 : Nat) (hA : A ≤ n0) : AskF m r 80 [.ref n0 0 0] A (cntJ n0) true := by
  refine ⟨?_, ?_, bo80, rfl⟩
  · rintro S l n ⟨v, hv, hl⟩
    refine evS_of rfl body80 ?_
    show Wp cfg (Try.f80.body.getD .skip) ((.d (.int .i64 (n : Int))) :: (.ref n0 0 0) :: (.tup []) :: (.tup []) :: (.tup []) :: (.tup []) :: []) S [] _
    conv => arg 2; whnf
    rw [wk_of]
    have hr := rowE_of (e := 3) hv
    have hp := fun y => putRow_of (y := y) (e := 3) hv
    simp (maxSteps := 1000000) (disch := first | assumption | omega | rfl) only [↓vmp, vme, vmb, ty, hP, dec_t, dec_f, List.length_map, Int.toNat_natCast, Nat.reduceAdd, List.cons_append, List.nil_append, Option.map_some, Option.map_none, strOf_mk, sb_eql, sb_neq, vmg, ↓vgd, ↓vst, ↓vix, hr, hp, ld3r, st3]
    refine ⟨rfl, _, rfl, rfl, ⟨_, List.getElem?_set_self (getLen hv), fun hh => ?_⟩, by rw [List.length_set]; exact Nat.le_refl _, ?_⟩
    · rw [List.length_append, List.length_singleton] at hh
      rw [hl (by omega), wrap64 (by omega), List.length_append, List.length_singleton]
      omega
    · intro j o hj hc
      rw [List.getElem?_set_ne]
      · exact hj
      · rintro rfl
        rcases hc with hc | hc
        · omega
        · exact absurd rfl (hc _ _ (getE hj hv)).1
  · rintro S S' l ⟨v, hv, hl⟩ hF
    exact ⟨v, hF.row hv rfl, hl⟩
def fstJ (p q : Nat) (l : List Nat) (S : Store) : Prop := ∃ (v : Int) (b : Bool), S[p]? = some (.row [.d (.int .i64 v)] 3) ∧ S[q]? = some (.row [.d (.bool b)] 4) ∧ (l = [] → v = 0 ∧ b = false) ∧ ∀ n, l.getLast? = some n → v = n ∧ b = true
/-- The closure that keeps the first one. -/
theorem ask_first (m r A p q : Nat) (hp : A ≤ p) (hq : A ≤ q) (hpq : p ≠ q) : AskF m r 110 [.ref p 0 0, .ref q 0 0] A (fstJ p q) false := by
  refine ⟨?_, ?_, bo110, rfl⟩
  · rintro S l n ⟨v, b, hv, hb, hl⟩
    refine evS_of rfl body110 ?_
    show Wp cfg (Try.f110.body.getD .skip) ((.d (.int .i64 (n : Int))) :: (.ref p 0 0) :: (.ref q 0 0) :: (.tup []) :: (.tup []) :: (.tup []) :: []) S [] _
    conv => arg 2; whnf
    rw [wk_of]
    have hr := rowE_of (e := 3) hv
    have hpp := fun y => putRow_of (y := y) (e := 3) hv
    have hb2 : ∀ o, (S.set p o)[q]? = some (.row [.d (.bool b)] 4) := fun o => by rw [List.getElem?_set_ne hpq]; exact hb
    have hr2 := fun o => rowE_of (e := 4) (hb2 o)
    have hp2 := fun o y => putRow_of (y := y) (e := 4) (hb2 o)
    simp (maxSteps := 1000000) (disch := first | assumption | omega | rfl) only [↓vmp, vme, vmb, ty, hP, dec_t, dec_f, wrap64, List.length_map, Int.toNat_natCast, Nat.reduceAdd, List.cons_append, List.nil_append, Option.map_some, Option.map_none, strOf_mk, sb_eql, sb_neq, vmg, ↓vgd, ↓vst, ↓vix, hr, hpp, st3, hr2, hp2, st4b]
    refine ⟨rfl, _, rfl, rfl, ⟨n, true, ?_, List.getElem?_set_self (by rw [List.length_set]; exact getLen hb), fun hh => by simp at hh, fun k hk => ?_⟩, by rw [List.length_set, List.length_set]; exact Nat.le_refl _, ?_⟩
    · rw [List.getElem?_set_ne (Ne.symm hpq), List.getElem?_set_self (getLen hv)]
    · have : (l ++ [n]).getLast? = some n := by simp
      rw [this] at hk
      cases hk
      exact ⟨rfl, rfl⟩
    · intro j o hj hc
      rw [List.getElem?_set_ne, List.getElem?_set_ne]
      · exact hj
      · rintro rfl
        rcases hc with hc | hc
        · omega
        · exact absurd rfl (hc _ _ (getE hj hv)).1
      · rintro rfl
        rcases hc with hc | hc
        · omega
        · exact absurd rfl (hc _ _ (getE hj hb)).2
  · rintro S S' l ⟨v, b, hv, hb, hl⟩ hF
    exact ⟨v, b, hF.row hv rfl, hF.row hb rfl, hl⟩
end Go.Proofs.Ytobgdmgldagjkaa
end
/-! alloc: Inodes, Inode. -/
section
set_option linter.unusedVariables false
set_option linter.unusedSimpArgs false
set_option maxRecDepth 100000
set_option maxHeartbeats 4000000
namespace Go.Proofs.Ytobgdmgldagjkaa
open Go.Vm
theorem z3 : zeroV Try.prog 3 = some (.d (.int .i64 0)) := by kernel_rfl
theorem z4 : zeroV Try.prog 4 = some (.d (.bool false)) := by kernel_rfl
theorem mfCnt {S : Store} {a : Nat} : mfS (.func 80) S [] [.ref a 0 0] = some (.val (.fn (.func 80) [] [.ref a 0 0]) S 0) := mfS_one rfl
theorem mfFst {S : Store} {a b : Nat} : mfS (.func 110) S [] [.ref a 0 0, .ref b 0 0] = some (.val (.fn (.func 110) [] [.ref a 0 0, .ref b 0 0]) S 0) := mfS_one rfl
theorem mfIno {S : Store} {a : Nat} : mfS (.func 76) S [.ref a 0 0] [] = some (.val (.fn (.func 76) [.ref a 0 0] []) S 0) := mfS_one rfl
theorem one_fn {f : Fn} {a b : List V} : (V.fn f a b).one = true := rfl
theorem frN_len {f : Nat → Ino} {i : Nat} : (frN f i).length ≤ i := Nat.le_trans (List.length_filter_le ..) (by simp)
section
variable (S : Store) (B y x c r m mk gm : Nat) (l : Lay) (e : Int) (C : CS) (h : SeenAt S B y x c r m mk gm l e C) (hB : l.blocks = C.img.length) (hb : InB l.blocks) (hi : InB l.inodes) (hm : MayL l) (f : Nat → Ino) (hcl : ∀ ino : Nat, 2 ≤ ino → (ino : Int) ≤ l.inodes → ∃ bb, Ev cfg 114 [blkD (slotB (C.see (2 + (ino - 1) / 8)) ((ino - 1) % 8))] (.ret (.tup [.d (encIno (f ino)), .d (.bool bb)]))) (N : Nat) (hN : l.inodes = N)
include h hB hb hi hm hcl hN
theorem Inodes_ok : EvS cfg 34 [.ref y 0 0] S (fun o S' => o = .ret (.d (.int .i64 ((frN f (N + 1)).length : Int))) ∧ CacheIn S' B c r m C ∧ FrC m r S S') := by
  refine evS_of rfl body34 ?_
  show Wp cfg (Try.f34.body.getD .skip) ((.ref y 0 0) :: (.tup []) :: (.tup []) :: (.tup []) :: (.tup []) :: (.tup []) :: (.tup []) :: (.tup []) :: []) S [] _
  conv => arg 2; whnf
  rw [wk_of]
  generalize ha : S.length = a
  have hN1 : N ≤ 128 := by have := hm.2.2.2.1; omega
  have hBS := h.ca.1
  obtain ⟨o, S2, ⟨rfl, hC, hF, v, hv, hvl⟩, hE⟩ := evS_eq (inodes_ok (S ++ [.row [.d (.int .i64 0)] 3]) B y x c r m mk gm a l e C (h.keep Keep.refl.app) _ _ _ _ (ask_count m r a a (Nat.le_refl _)) (by omega) (by simp; omega) hB hb hi hm f hcl N hN ⟨0, by rw [← ha]; simp, fun _ => rfl⟩)
  have hE := fun {ops dst k T F Q} => wr_callE (ops := ops) (dst := dst) (l := k) (T := T) (F := F) (Q := Q) rfl hE
  have hr := rowE_of (e := 3) hv
  simp (maxSteps := 1000000) (disch := first | assumption | omega | rfl) only [↓vmp, vme, vmb, ty, hP, dec_t, dec_f, wrap64, List.length_map, Int.toNat_natCast, Nat.reduceAdd, List.cons_append, List.nil_append, Option.map_some, Option.map_none, strOf_mk, sb_eql, sb_neq, vmg, ↓vgd, ↓vst, ↓vix, z3, ha, rA0 ha, pA0 ha, st3, wl_makeFunc, mfCnt, one_fn, hE, bo76, hr, ld3r]
  have hl := frN_len (f := f) (i := N + 1)
  rw [if_pos rfl] at hvl
  refine ⟨rfl, .d (.int .i64 v), rfl, by rw [hvl (by omega)], hC, by have := hF.1; simp at this; omega, fun j p hj hc => ?_⟩
  have hjl := getLen hj
  exact hF.2 j p (by omega) (by rw [List.getElem?_append_left hjl]; exact hj) hc
theorem Inode_ok : EvS cfg 31 [.ref y 0 0] S (fun o S' => o = .ret (.tup [.d (.int .i64 (((frN f (N + 1)).headD 0 : Nat) : Int)), .d (.bool (decide (frN f (N + 1) ≠ [])))]) ∧ CacheIn S' B c r m C ∧ FrC m r S S') := by
  have hfst : EvS cfg 74 [.fn (.func 76) [.ref y 0 0] []] S (fun o S' => o = .ret (.tup [.d (.int .i64 (((frN f (N + 1)).headD 0 : Nat) : Int)), .d (.bool (decide (frN f (N + 1) ≠ [])))]) ∧ CacheIn S' B c r m C ∧ FrC m r S S') := by
    refine evS_of rfl body74 ?_
    show Wp cfg (Try.f74.body.getD .skip) ((.fn (.func 76) [.ref y 0 0] []) :: (.tup []) :: (.tup []) :: (.tup []) :: (.tup []) :: (.tup []) :: (.tup []) :: (.tup []) :: (.tup []) :: (.tup []) :: (.tup []) :: []) S [] _
    conv => arg 2; whnf
    rw [wk_of]
    generalize ha : S.length = a
    have hBS := h.ca.1
    have h0 : (S ++ [.row [.d (.int .i64 0)] 3, .row [.d (.bool false)] 4])[a]? = some (.row [.d (.int .i64 0)] 3) := by rw [List.getElem?_append_right (by omega), ha, Nat.sub_self]; rfl
    have h1 : (S ++ [.row [.d (.int .i64 0)] 3, .row [.d (.bool false)] 4])[a + 1]? = some (.row [.d (.bool false)] 4) := by rw [List.getElem?_append_right (by omega), ha, Nat.add_sub_cancel_left]; rfl
    obtain ⟨o, S2, ⟨rfl, hC, hF, v, b, hv, hb', hv0, hvl⟩, hE⟩ := evS_eq (inodes_ok (S ++ [.row [.d (.int .i64 0)] 3, .row [.d (.bool false)] 4]) B y x c r m mk gm a l e C (h.keep Keep.refl.app) _ _ _ _ (ask_first m r a a (a + 1) (Nat.le_refl _) (by omega) (by omega)) (by omega) (by simp; omega) hB hb hi hm f hcl N hN ⟨0, false, h0, h1, fun _ => ⟨rfl, rfl⟩, fun n hn => by cases hn⟩)
    have hE := fun {ops dst k T F Q} => wr_callE (ops := ops) (dst := dst) (l := k) (T := T) (F := F) (Q := Q) rfl hE
    have hr := rowE_of (e := 3) hv
    have hr2 := rowE_of (e := 4) hb'
    have hcv : ∀ u : V, u.one = true → cvV Try.prog [u] (.fn (.func 76) [.ref y 0 0] []) = some (.enter 76 [.ref y 0 0, u]) := fun u hu => cv_fn (by simp [hu]) bo76
    have hcv := hcv _ (one_fn (f := .func 110) (a := []) (b := [.ref a 0 0, .ref (a + 1) 0 0]))
    simp (maxSteps := 1000000) (disch := first | assumption | omega | rfl) only [↓vmp, vme, vmb, ty, hP, dec_t, dec_f, wrap64, List.length_map, Int.toNat_natCast, Nat.reduceAdd, List.cons_append, List.nil_append, Option.map_some, Option.map_none, strOf_mk, sb_eql, sb_neq, vmg, ↓vgd, ↓vst, ↓vix, ↓wl_callv, z3, z4, List.append_assoc, List.length_append, List.length_cons, List.length_nil, ha, rA0 ha, pA0 ha, rA1 ha, pA1 ha, st3, st4b, wl_makeFunc, mfFst, one_fn, hcv, hE]
    refine wk_draw (is := [0, 1, 2, 3]) (h := 0) (by kernel_rfl) (by kernel_rfl) ?_
    simp (maxSteps := 1000000) (disch := first | assumption | omega | rfl) only [List.replicate_zero, eq_self, vmd, vmk, vmo, vmg, vme, vmb, ty, hP, dec_t, dec_f, wrap64, List.length_map, Int.toNat_natCast, Nat.reduceAdd, ↓vgd, ↓vst, ↓vix, vso, List.append_nil, hr, hr2, ld3r, ld4r]
    refine ⟨by kernel_rfl, ?_⟩
    simp (maxSteps := 1000000) (disch := first | assumption | omega | rfl) only [↓vmp, vme, vmb, ty, hP, dec_t, dec_f, wrap64, List.length_map, Int.toNat_natCast, Nat.reduceAdd, List.cons_append, List.nil_append, Option.map_some, Option.map_none, strOf_mk, sb_eql, sb_neq, vmg, ↓vgd, ↓vst, ↓vix]
    rw [if_neg (by decide)] at hv0 hvl
    have hres : v = (((frN f (N + 1)).headD 0 : Nat) : Int) ∧ b = decide (frN f (N + 1) ≠ []) := by
      cases hfr : frN f (N + 1) with
      | nil => rw [hfr] at hv0; obtain ⟨e1, e2⟩ := hv0 rfl; exact ⟨by rw [e1]; rfl, by rw [e2]; rfl⟩
      | cons n t =>
        rw [hfr] at hvl
        obtain ⟨e1, e2⟩ := hvl n rfl
        exact ⟨by rw [e1]; rfl, by rw [e2]; exact (decide_eq_true (by simp)).symm⟩
    refine ⟨rfl, .tup [.d (.int .i64 v), .d (.bool b)], res_tt rfl rfl rfl rfl, by rw [hres.1, hres.2], hC, by have := hF.1; simp at this; omega, fun j p hj hc => ?_⟩
    have hjl := getLen hj
    exact hF.2 j p (by omega) (by rw [List.getElem?_append_left hjl]; exact hj) hc
  refine evS_of rfl body31 ?_
  show Wp cfg (Try.f31.body.getD .skip) ((.ref y 0 0) :: (.tup []) :: (.tup []) :: (.tup []) :: (.tup []) :: (.tup []) :: (.tup []) :: (.tup []) :: (.tup []) :: []) S [] _
  conv => arg 2; whnf
  rw [wk_of]
  obtain ⟨o, S2, ⟨rfl, hC, hF⟩, hE⟩ := evS_eq hfst
  have hE := fun {ops dst k T F Q} => wr_callE (ops := ops) (dst := dst) (l := k) (T := T) (F := F) (Q := Q) rfl hE
  simp (maxSteps := 1000000) (disch := first | assumption | omega | rfl) only [↓vmp, vme, vmb, ty, hP, dec_t, dec_f, wrap64, List.length_map, Int.toNat_natCast, Nat.reduceAdd, List.cons_append, List.nil_append, Option.map_some, Option.map_none, strOf_mk, sb_eql, sb_neq, vmg, ↓vgd, ↓vst, ↓vix, wl_makeFunc, mfIno, one_fn, hE, bo74]
  exact ⟨rfl, _, res_tt rfl rfl rfl rfl, rfl, hC, hF⟩
end
end Go.Proofs.Ytobgdmgldagjkaa
end
/-! A store of a device just formatted: Begin. -/
section
set_option linter.unusedVariables false
set_option linter.unusedSimpArgs false
set_option maxRecDepth 100000
set_option maxHeartbeats 4000000
namespace Go.Proofs.Ytobgdmgldagjkaa
open Go.Vm
/-- What is seen of a device just formatted. -/
def C0 (B I M K : Nat) : CS := ⟨(List.range B).map (finB B I M K), [], 0⟩
theorem C0_img {B I M K i : Nat} (h : i < B) : (C0 B I M K).img[i]? = some (finB B I M K i) := by
  unfold C0
  simp [h]
theorem C0_len {B I M K : Nat} : (C0 B I M K).img.length = B := by unfold C0; simp
theorem finB_l (B I M K i : Nat) : (finB B I M K i).length = 256 := by
  unfold finB
  split
  · exact supB_len ..
  · split
    · exact mapB_len ..
    · exact blkAt_len _
theorem C0_ok {B I M K : Nat} (h : B ≤ 512) : (C0 B I M K).Ok := by
  refine ⟨by rw [C0_len]; exact h, ?_, by simp [C0], by simp [C0], by simp [C0]⟩
  intro b hb
  obtain ⟨i, _, rfl⟩ := List.mem_map.1 hb
  exact finB_l ..
theorem begin_ok (S : Store) (l : Lay) (B I M K : Nat) (hl : l = ⟨(B : Int), (I : Int), (M : Int)⟩) (hB : B ≤ 512) (hI : I ≤ 128) (hM : M < 18446744073709551616) (hm : MayL l) (hK : 2 + l.inodes.tdiv 8 = ((2 + K : Nat) : Int)) (hK16 : K ≤ 16) (hKB : 2 + K < B) :
    EvS cfg 40 [.d (encLay l)] S (fun o S' => Keep S S' ∧ ∃ d x c r m mk, o = .ret (.tup [.ref d 0 0, .ref x 0 0]) ∧ StoreP S' x c r m mk l 0 (C0 B I M K) (fun _ => none)) := by
  have hB16 : 16 ≤ B := by have := hm.1; rw [hl] at this; simp only at this; omega
  refine evS_of rfl body40 ?_
  show Wp cfg (Try.f40.body.getD .skip) ((.d (encLay l)) :: (.tup []) :: (.tup []) :: (.tup []) :: (.tup []) :: (.tup []) :: (.tup []) :: (.tup []) :: (.tup []) :: (.tup []) :: (.tup []) :: (.tup []) :: (.tup []) :: (.tup []) :: (.tup []) :: (.tup []) :: (.tup []) :: (.tup []) :: (.tup []) :: (.tup []) :: (.tup []) :: (.tup []) :: []) S [] _
  conv => arg 2; whnf
  rw [wk_of]
  generalize ha : S.length = a
  have hlb : l.blocks = (B : Int) := by rw [hl]
  obtain ⟨o1, S1, hR1, hn⟩ := evS_eq (new_ok (S ++ [.row [.d (encLay l)] 24]) B hB16 (by omega))
  obtain ⟨hS1, rfl⟩ := hR1
  have hn := fun {ops dst k T F Q} => wr_callE (ops := ops) (dst := dst) (l := k) (T := T) (F := F) (Q := Q) rfl hn
  simp only [List.append_assoc, List.length_append, List.length_cons, List.length_nil, ha, List.cons_append, List.nil_append] at hS1 hn
  have hD1 : DskAt S1 (a + 2) (a + 1) (List.replicate B (blkV (zeros 256))) 0 false false 0 0 := by
    rw [hS1]
    refine ⟨?_, ?_, by omega⟩
    · rw [List.getElem?_append_right (by omega), ha, Nat.add_sub_cancel_left, List.length_replicate]; rfl
    · rw [List.getElem?_append_right (by omega), ha, Nat.add_sub_cancel_left]; rfl
  have hKS1 : Keep S S1 := hS1 ▸ Keep.refl.app
  have hlay1 : S1[a]? = some (.row [.d (encLay l)] 24) := by rw [hS1, List.getElem?_append_right (by omega), ha, Nat.sub_self]; rfl
  obtain ⟨o, S2, hR2, hf⟩ := evS_eq (fmt_ok l B I M K hl hB hI hM hm hK hK16 hKB S1 (a + 2) (a + 1) 0 ⟨by omega, by unfold InB; omega⟩ false hD1)
  have hR2 : o = .ret (.d (.int .i64 0)) ∧ ∃ vs f w, K2 (a + 2) (a + 1) S1 S2 ∧ DskAt S2 (a + 2) (a + 1) vs f false false w 0 ∧ vs.length = B ∧ (∀ (i : Nat) (v : V), vs[i]? = some v → IsB v (finB B I M K i)) ∧ (false = false → 0 ≤ f ∧ InB f ∧ 0 ≤ w ∧ w ≤ 100) := by
    rcases hR2 with ⟨_, h2, h3⟩ | ⟨⟨h1, _⟩, _⟩
    · exact ⟨h2, h3⟩
    · cases h1
  obtain ⟨rfl, vs, f, w, hK2, hD2, hvl, hV, hfw⟩ := hR2
  obtain ⟨f1, f2, w1, w2⟩ := hfw rfl
  have hf := fun {ops dst k T F Q} => wr_callE (ops := ops) (dst := dst) (l := k) (T := T) (F := F) (Q := Q) rfl hf
  have hv0 := hV 0 (vs[0]'(by omega)) (List.getElem?_eq_getElem (by omega))
  have hfin0 : finB B I M K 0 = supB B I M := if_pos rfl
  rw [hfin0] at hv0
  obtain ⟨o, S3, ⟨hK3, hD3, x, c, mk, m, rfl, hx, hc, hm0, hmk, hne⟩, hmt⟩ := evS_eq (mount_full S2 (a + 2) (a + 1) vs f w false B I M hB hI hM (by rw [← hl]; exact hm) hD2 _ (List.getElem?_eq_getElem (by omega)) hv0 hvl)
  have hmt := fun {ops dst k T F Q} => wr_callE (ops := ops) (dst := dst) (l := k) (T := T) (F := F) (Q := Q) rfl hmt
  have hrl := rowE_of (e := 24) hlay1
  simp (maxSteps := 1000000) (disch := first | assumption | omega | rfl) only [↓vmp, vme, vmb, ty, hP, dec_t, dec_f, wrap64, List.length_map, Int.toNat_natCast, Nat.reduceAdd, List.cons_append, List.nil_append, Option.map_some, Option.map_none, strOf_mk, sb_eql, sb_neq, vmg, ↓vgd, ↓vst, ↓vix, ha, rA0 ha, fr24_0, lr24_0, hlb, hn, bo8, hrl, lr24, hf, bo10, hmt, bo13]
  refine ⟨rfl, _, res_tt rfl rfl rfl rfl, fun j o hj => ?_, a + 1 + 1, x, c, a + 1, m, mk, rfl, ⟨(by rw [hl]; exact hx), ⟨a + 2, .ts [], [], vs, fun _ => none, f, w.toNat, 1, ⟨hc, MpI.nil hm0, ?_, ⟨f1, f2⟩, ?_, ?_, ?_, .inl ⟨rfl, rfl⟩, ⟨rfl, ?_⟩, ?_, C0_ok hB⟩, by omega⟩, MpI.nil hmk, hne, ?_⟩⟩
  · have := getLen hj
    exact hK3 j o (by omega) (by omega) (hK2 j o (by omega) (by omega) (hKS1 j o hj))
  · have hw : ((w.toNat : Nat) : Int) = w := by omega
    rw [hw]
    exact hD3
  · rw [hvl, C0_len]
  · intro i v b hv hb
    have hi : i < B := by have := (List.getElem?_eq_some_iff.1 hv).1; omega
    rw [C0_img hi] at hb
    cases hb
    exact hV i v hv
  · intro no v hh
    cases hh
  · intro i e ch he
    cases he
  · show w.toNat + 0 ≤ 0 + 100
    omega
  · rw [hlb, C0_len]
end Go.Proofs.Ytobgdmgldagjkaa
end
/-! What is told of an alloc that is nil; Begin of an alloc. -/
section
set_option linter.unusedVariables false
set_option linter.unusedSimpArgs false
set_option maxRecDepth 100000
set_option maxHeartbeats 4000000
namespace Go.Proofs.Ytobgdmgldagjkaa
open Go.Vm
theorem body75 : bodyOf Try.prog 75 = some ⟨(Try.f75.body.getD .skip), 37, #[]⟩ := by
  unfold bodyOf
  rw [Try.func75]
  rfl
theorem each_nil (S : Store) (u : V) : EvS cfg 75 [.d .nilp, u] S (fun o S' => S' = S ∧ o = .ret (.tup [])) := by
  refine evS_of rfl body75 ?_
  show Wp cfg (Try.f75.body.getD .skip) ((.d .nilp) :: u :: (.tup []) :: (.tup []) :: (.tup []) :: (.tup []) :: (.tup []) :: (.tup []) :: (.tup []) :: (.tup []) :: (.tup []) :: (.tup []) :: (.tup []) :: (.tup []) :: (.tup []) :: (.tup []) :: (.tup []) :: (.tup []) :: (.tup []) :: (.tup []) :: (.tup []) :: (.tup []) :: (.tup []) :: (.tup []) :: (.tup []) :: (.tup []) :: (.tup []) :: (.tup []) :: (.tup []) :: (.tup []) :: (.tup []) :: (.tup []) :: (.tup []) :: (.tup []) :: (.tup []) :: (.tup []) :: (.tup []) :: []) S [] _
  conv => arg 2; whnf
  rw [wk_of]
  simp (maxSteps := 1000000) (disch := first | assumption | omega | rfl) only [↓vmp, vme, vmb, ty, hP, dec_t, dec_f, wrap64, List.length_map, Int.toNat_natCast, Nat.reduceAdd, List.cons_append, List.nil_append, Option.map_some, Option.map_none, strOf_mk, sb_eql, sb_neq, vmg, ↓vgd, ↓vst, ↓vix, eq64n]
  exact ⟨rfl, _, rfl, rfl, rfl⟩
theorem inodes_nil (S : Store) (u : V) : EvS cfg 76 [.d .nilp, u] S (fun o S' => S' = S ∧ o = .ret (.tup [])) := by
  refine evS_of rfl body76 ?_
  show Wp cfg (Try.f76.body.getD .skip) ((.d .nilp) :: u :: (.tup []) :: (.tup []) :: (.tup []) :: (.tup []) :: (.tup []) :: (.tup []) :: (.tup []) :: (.tup []) :: (.tup []) :: (.tup []) :: (.tup []) :: (.tup []) :: (.tup []) :: (.tup []) :: (.tup []) :: (.tup []) :: (.tup []) :: (.tup []) :: (.tup []) :: (.tup []) :: (.tup []) :: (.tup []) :: (.tup []) :: (.tup []) :: (.tup []) :: (.tup []) :: (.tup []) :: (.tup []) :: (.tup []) :: []) S [] _
  conv => arg 2; whnf
  rw [wk_of]
  simp (maxSteps := 1000000) (disch := first | assumption | omega | rfl) only [↓vmp, vme, vmb, ty, hP, dec_t, dec_f, wrap64, List.length_map, Int.toNat_natCast, Nat.reduceAdd, List.cons_append, List.nil_append, Option.map_some, Option.map_none, strOf_mk, sb_eql, sb_neq, vmg, ↓vgd, ↓vst, ↓vix, eq64n]
  exact ⟨rfl, _, rfl, rfl, rfl⟩
theorem first_nil (S : Store) (g : FuncId) (hbo : (bodyOf Try.prog g).isSome = true) (hsh : cfg.shared g = true) (hg : ∀ S u, EvS cfg g [.d .nilp, u] S (fun o S' => S' = S ∧ o = .ret (.tup []))) : EvS cfg 74 [.fn (.func g) [.d .nilp] []] S (fun o S' => S' = S ++ [.row [.d (.int .i64 0)] 3, .row [.d (.bool false)] 4] ∧ o = .ret (.tup [.d (.int .i64 0), .d (.bool false)])) := by
  refine evS_of rfl body74 ?_
  show Wp cfg (Try.f74.body.getD .skip) ((.fn (.func g) [.d .nilp] []) :: (.tup []) :: (.tup []) :: (.tup []) :: (.tup []) :: (.tup []) :: (.tup []) :: (.tup []) :: (.tup []) :: (.tup []) :: (.tup []) :: []) S [] _
  conv => arg 2; whnf
  rw [wk_of]
  generalize ha : S.length = a
  have hE := fun {ops dst k T F Q} S u => wr_callE (ops := ops) (dst := dst) (l := k) (T := T) (F := F) (Q := Q) hsh (hg S u)
  have hcv : ∀ u : V, u.one = true → cvV Try.prog [u] (.fn (.func g) [.d .nilp] []) = some (.enter g [.d .nilp, u]) := fun u hu => cv_fn (by simp [hu]) hbo
  have hcv := hcv _ (one_fn (f := .func 110) (a := []) (b := [.ref a 0 0, .ref (a + 1) 0 0]))
  simp (maxSteps := 1000000) (disch := first | assumption | omega | rfl) only [↓vmp, vme, vmb, ty, hP, dec_t, dec_f, wrap64, List.length_map, Int.toNat_natCast, Nat.reduceAdd, List.cons_append, List.nil_append, Option.map_some, Option.map_none, strOf_mk, sb_eql, sb_neq, vmg, ↓vgd, ↓vst, ↓vix, ↓wl_callv, z3, z4, List.append_assoc, List.length_append, List.length_cons, List.length_nil, ha, rA0 ha, pA0 ha, rA1 ha, pA1 ha, st3, st4b, wl_makeFunc, mfFst, one_fn, hcv, hE]
  refine wk_draw (is := [0, 1, 2, 3]) (h := 0) (by kernel_rfl) (by kernel_rfl) ?_
  simp (maxSteps := 1000000) (disch := first | assumption | omega | rfl) only [List.replicate_zero, eq_self, vmd, vmk, vmo, vmg, vme, vmb, ty, hP, dec_t, dec_f, wrap64, List.length_map, Int.toNat_natCast, Nat.reduceAdd, ↓vgd, ↓vst, ↓vix, vso, List.append_nil, rA0 ha, rA1 ha, ld3r, ld4r]
  refine ⟨by kernel_rfl, ?_⟩
  simp (maxSteps := 1000000) (disch := first | assumption | omega | rfl) only [↓vmp, vme, vmb, ty, hP, dec_t, dec_f, wrap64, List.length_map, Int.toNat_natCast, Nat.reduceAdd, List.cons_append, List.nil_append, Option.map_some, Option.map_none, strOf_mk, sb_eql, sb_neq, vmg, ↓vgd, ↓vst, ↓vix]
  exact ⟨rfl, _, res_tt rfl rfl rfl rfl, rfl, rfl⟩
theorem mfNil {S : Store} {g : FuncId} : mfS (.func g) S [.d .nilp] [] = some (.val (.fn (.func g) [.d .nilp] []) S 0) := mfS_one rfl
theorem mfFre {S : Store} {a : Nat} : mfS (.func 79) S [] [.ref a 0 0] = some (.val (.fn (.func 79) [] [.ref a 0 0]) S 0) := mfS_one rfl
abbrev nilF : Store := [.row [.d (.int .i64 0)] 3, .row [.d (.bool false)] 4]
theorem next_nil (S : Store) : EvS cfg 30 [.d .nilp] S (fun o S' => S' = S ++ nilF ∧ o = .ret (.tup [.d (.int .i64 0), .d (.bool false)])) := by
  refine evS_of rfl body30 ?_
  show Wp cfg (Try.f30.body.getD .skip) ((.d .nilp) :: (.tup []) :: (.tup []) :: (.tup []) :: (.tup []) :: (.tup []) :: (.tup []) :: (.tup []) :: (.tup []) :: []) S [] _
  conv => arg 2; whnf
  rw [wk_of]
  have hE := fun {ops dst k T F Q} => wr_callE (ops := ops) (dst := dst) (l := k) (T := T) (F := F) (Q := Q) rfl (first_nil S 75 bo75 rfl each_nil)
  simp (maxSteps := 1000000) (disch := first | assumption | omega | rfl) only [↓vmp, vme, vmb, ty, hP, dec_t, dec_f, wrap64, List.length_map, Int.toNat_natCast, Nat.reduceAdd, List.cons_append, List.nil_append, Option.map_some, Option.map_none, strOf_mk, sb_eql, sb_neq, vmg, ↓vgd, ↓vst, ↓vix, wl_makeFunc, mfNil, one_fn, hE, bo74]
  exact ⟨rfl, _, res_tt rfl rfl rfl rfl, rfl, rfl⟩
theorem inode_nil (S : Store) : EvS cfg 31 [.d .nilp] S (fun o S' => S' = S ++ nilF ∧ o = .ret (.tup [.d (.int .i64 0), .d (.bool false)])) := by
  refine evS_of rfl body31 ?_
  show Wp cfg (Try.f31.body.getD .skip) ((.d .nilp) :: (.tup []) :: (.tup []) :: (.tup []) :: (.tup []) :: (.tup []) :: (.tup []) :: (.tup []) :: (.tup []) :: []) S [] _
  conv => arg 2; whnf
  rw [wk_of]
  have hE := fun {ops dst k T F Q} => wr_callE (ops := ops) (dst := dst) (l := k) (T := T) (F := F) (Q := Q) rfl (first_nil S 76 bo76 rfl inodes_nil)
  simp (maxSteps := 1000000) (disch := first | assumption | omega | rfl) only [↓vmp, vme, vmb, ty, hP, dec_t, dec_f, wrap64, List.length_map, Int.toNat_natCast, Nat.reduceAdd, List.cons_append, List.nil_append, Option.map_some, Option.map_none, strOf_mk, sb_eql, sb_neq, vmg, ↓vgd, ↓vst, ↓vix, wl_makeFunc, mfNil, one_fn, hE, bo74]
  exact ⟨rfl, _, res_tt rfl rfl rfl rfl, rfl, rfl⟩
theorem take_nil (S : Store) (v u : V) (h1 : v.one = true) (hf : fitsT Try.prog 42 v = true) : EvS cfg 29 [.d .nilp, v, u] S (fun o S' => S' = S ++ [.row [v] 42] ++ nilF ∧ o = .ret (.tup [.d (.int .i64 0), .ts []])) := by
  refine evS_of rfl body29 ?_
  show Wp cfg (Try.f29.body.getD .skip) ((.d .nilp) :: v :: u :: (.tup []) :: (.tup []) :: (.tup []) :: (.tup []) :: (.tup []) :: (.tup []) :: (.tup []) :: (.tup []) :: (.tup []) :: (.tup []) :: (.tup []) :: (.tup []) :: (.tup []) :: (.tup []) :: (.tup []) :: (.tup []) :: (.tup []) :: (.tup []) :: (.tup []) :: (.tup []) :: (.tup []) :: (.tup []) :: (.tup []) :: (.tup []) :: (.tup []) :: (.tup []) :: (.tup []) :: (.tup []) :: (.tup []) :: (.tup []) :: (.tup []) :: (.tup []) :: (.tup []) :: (.tup []) :: (.tup []) :: (.tup []) :: (.tup []) :: (.tup []) :: (.tup []) :: (.tup []) :: (.tup []) :: (.tup []) :: (.tup []) :: (.tup []) :: (.tup []) :: (.tup []) :: (.tup []) :: (.tup []) :: (.tup []) :: (.tup []) :: (.tup []) :: (.tup []) :: (.tup []) :: (.tup []) :: []) S [] _
  conv => arg 2; whnf
  rw [wk_of]
  have hE := fun {ops dst k T F Q} S => wr_callE (ops := ops) (dst := dst) (l := k) (T := T) (F := F) (Q := Q) rfl (next_nil S)
  simp (maxSteps := 1000000) (disch := first | assumption | omega | rfl) only [↓vmp, vme, vmb, ty, hP, dec_t, dec_f, wrap64, List.length_map, Int.toNat_natCast, Nat.reduceAdd, List.cons_append, List.nil_append, Option.map_some, Option.map_none, strOf_mk, sb_eql, sb_neq, vmg, ↓vgd, ↓vst, ↓vix, hf, hE, bo30, un_not, Bool.not_false]
  exact ⟨rfl, _, res_tt rfl rfl rfl rfl, rfl, rfl⟩
theorem give_nil (S : Store) (v u : V) : EvS cfg 32 [.d .nilp, v, u] S (fun o S' => S' = S ∧ o = .ret (.d (.int .i64 0))) := by
  refine evS_of rfl body32 ?_
  show Wp cfg (Try.f32.body.getD .skip) ((.d .nilp) :: v :: u :: (.tup []) :: (.tup []) :: (.tup []) :: (.tup []) :: (.tup []) :: (.tup []) :: (.tup []) :: (.tup []) :: (.tup []) :: (.tup []) :: (.tup []) :: (.tup []) :: (.tup []) :: (.tup []) :: (.tup []) :: (.tup []) :: (.tup []) :: (.tup []) :: (.tup []) :: (.tup []) :: (.tup []) :: (.tup []) :: (.tup []) :: (.tup []) :: (.tup []) :: (.tup []) :: (.tup []) :: (.tup []) :: (.tup []) :: (.tup []) :: (.tup []) :: (.tup []) :: (.tup []) :: (.tup []) :: (.tup []) :: (.tup []) :: (.tup []) :: (.tup []) :: (.tup []) :: (.tup []) :: (.tup []) :: (.tup []) :: (.tup []) :: (.tup []) :: (.tup []) :: []) S [] _
  conv => arg 2; whnf
  rw [wk_of]
  simp (maxSteps := 1000000) (disch := first | assumption | omega | rfl) only [↓vmp, vme, vmb, ty, hP, dec_t, dec_f, wrap64, List.length_map, Int.toNat_natCast, Nat.reduceAdd, List.cons_append, List.nil_append, Option.map_some, Option.map_none, strOf_mk, sb_eql, sb_neq, vmg, ↓vgd, ↓vst, ↓vix, eq64n]
  exact ⟨rfl, _, rfl, rfl, rfl⟩
theorem gone_nil (S : Store) (v : V) : EvS cfg 35 [.d .nilp, v] S (fun o S' => S' = S ∧ o = .ret (.ts [])) := by
  refine evS_of rfl body35 ?_
  show Wp cfg (Try.f35.body.getD .skip) ((.d .nilp) :: v :: (.tup []) :: (.tup []) :: (.tup []) :: (.tup []) :: (.tup []) :: (.tup []) :: (.tup []) :: (.tup []) :: (.tup []) :: (.tup []) :: (.tup []) :: (.tup []) :: (.tup []) :: (.tup []) :: (.tup []) :: (.tup []) :: (.tup []) :: (.tup []) :: (.tup []) :: (.tup []) :: (.tup []) :: (.tup []) :: (.tup []) :: (.tup []) :: (.tup []) :: (.tup []) :: (.tup []) :: (.tup []) :: (.tup []) :: (.tup []) :: (.tup []) :: (.tup []) :: (.tup []) :: (.tup []) :: (.tup []) :: (.tup []) :: (.tup []) :: (.tup []) :: (.tup []) :: (.tup []) :: (.tup []) :: (.tup []) :: (.tup []) :: []) S [] _
  conv => arg 2; whnf
  rw [wk_of]
  simp (maxSteps := 1000000) (disch := first | assumption | omega | rfl) only [↓vmp, vme, vmb, ty, hP, dec_t, dec_f, wrap64, List.length_map, Int.toNat_natCast, Nat.reduceAdd, List.cons_append, List.nil_append, Option.map_some, Option.map_none, strOf_mk, sb_eql, sb_neq, vmg, ↓vgd, ↓vst, ↓vix, eq64n]
  exact ⟨rfl, _, rfl, rfl, rfl⟩
theorem free_nil (S : Store) : EvS cfg 33 [.d .nilp] S (fun o S' => S' = S ++ [.row [.d (.int .i64 0)] 3] ∧ o = .ret (.d (.int .i64 0))) := by
  refine evS_of rfl body33 ?_
  show Wp cfg (Try.f33.body.getD .skip) ((.d .nilp) :: (.tup []) :: (.tup []) :: (.tup []) :: (.tup []) :: (.tup []) :: (.tup []) :: (.tup []) :: []) S [] _
  conv => arg 2; whnf
  rw [wk_of]
  generalize ha : S.length = a
  have hE := fun {ops dst k T F Q} S u => wr_callE (ops := ops) (dst := dst) (l := k) (T := T) (F := F) (Q := Q) rfl (each_nil S u)
  simp (maxSteps := 1000000) (disch := first | assumption | omega | rfl) only [↓vmp, vme, vmb, ty, hP, dec_t, dec_f, wrap64, List.length_map, Int.toNat_natCast, Nat.reduceAdd, List.cons_append, List.nil_append, Option.map_some, Option.map_none, strOf_mk, sb_eql, sb_neq, vmg, ↓vgd, ↓vst, ↓vix, z3, ha, rA0 ha, pA0 ha, st3, ld3r, wl_makeFunc, mfFre, one_fn, hE, bo75]
  exact ⟨rfl, _, rfl, rfl, rfl⟩
theorem Inodes_nil (S : Store) : EvS cfg 34 [.d .nilp] S (fun o S' => S' = S ++ [.row [.d (.int .i64 0)] 3] ∧ o = .ret (.d (.int .i64 0))) := by
  refine evS_of rfl body34 ?_
  show Wp cfg (Try.f34.body.getD .skip) ((.d .nilp) :: (.tup []) :: (.tup []) :: (.tup []) :: (.tup []) :: (.tup []) :: (.tup []) :: (.tup []) :: []) S [] _
  conv => arg 2; whnf
  rw [wk_of]
  generalize ha : S.length = a
  have hE := fun {ops dst k T F Q} S u => wr_callE (ops := ops) (dst := dst) (l := k) (T := T) (F := F) (Q := Q) rfl (inodes_nil S u)
  simp (maxSteps := 1000000) (disch := first | assumption | omega | rfl) only [↓vmp, vme, vmb, ty, hP, dec_t, dec_f, wrap64, List.length_map, Int.toNat_natCast, Nat.reduceAdd, List.cons_append, List.nil_append, Option.map_some, Option.map_none, strOf_mk, sb_eql, sb_neq, vmg, ↓vgd, ↓vst, ↓vix, z3, ha, rA0 ha, pA0 ha, st3, ld3r, wl_makeFunc, mfCnt, one_fn, hE, bo76]
  exact ⟨rfl, _, rfl, rfl, rfl⟩
theorem abegin_ok (S : Store) (l : Lay) (B I M K : Nat) (hl : l = ⟨(B : Int), (I : Int), (M : Int)⟩) (hB : B ≤ 512) (hI : I ≤ 128) (hM : M < 18446744073709551616) (hm : MayL l) (hK : 2 + l.inodes.tdiv 8 = ((2 + K : Nat) : Int)) (hK16 : K ≤ 16) (hKB : 2 + K < B) :
    EvS cfg 38 [.d (encLay l)] S (fun o S' => Keep S S' ∧ ∃ y x c r m mk gm, o = .ret (.ref y 0 0) ∧ S'[y]? = some (.row [allV x gm] 124) ∧ S'[gm]? = some (.mp [] 0) ∧ gm ≠ m ∧ gm ≠ mk ∧ StoreP S' x c r m mk l 0 (C0 B I M K) (fun _ => none)) := by
  refine evS_of rfl body38 ?_
  show Wp cfg (Try.f38.body.getD .skip) ((.d (encLay l)) :: (.tup []) :: (.tup []) :: (.tup []) :: (.tup []) :: (.tup []) :: (.tup []) :: (.tup []) :: (.tup []) :: (.tup []) :: (.tup []) :: (.tup []) :: []) S [] _
  conv => arg 2; whnf
  rw [wk_of]
  generalize ha : S.length = a
  obtain ⟨o, S2, ⟨hK2, d, x, c, r, m, mk, rfl, hS⟩, hE⟩ := evS_eq (begin_ok (S ++ [.row [.d (encLay l)] 24]) l B I M K hl hB hI hM hm hK hK16 hKB)
  have hE := fun {ops dst k T F Q} => wr_callE (ops := ops) (dst := dst) (l := k) (T := T) (F := F) (Q := Q) rfl hE
  have hN := fun {ops dst k T F Q} => wr_callE (ops := ops) (dst := dst) (l := k) (T := T) (F := F) (Q := Q) rfl (anew_ok S2 x)
  simp (maxSteps := 1000000) (disch := first | assumption | omega | rfl) only [↓vmp, vme, vmb, ty, hP, dec_t, dec_f, wrap64, List.length_map, Int.toNat_natCast, Nat.reduceAdd, List.cons_append, List.nil_append, Option.map_some, Option.map_none, strOf_mk, sb_eql, sb_neq, vmg, ↓vgd, ↓vst, ↓vix, ha, rA0 ha, lr24, hE, bo40, hN, bo37]
  have h1 : (S2 ++ [Ob.mp [] 0, .row [allV x S2.length] 124])[S2.length]? = some (.mp [] 0) := by rw [List.getElem?_append_right (by omega), Nat.sub_self]; rfl
  have h2 : (S2 ++ [Ob.mp [] 0, .row [allV x S2.length] 124])[S2.length + 1]? = some (.row [allV x S2.length] 124) := by rw [List.getElem?_append_right (by omega), Nat.add_sub_cancel_left]; rfl
  have hm1 : m < S2.length := by
    obtain ⟨_, _, _, _, _, _, _, _, h, _⟩ := hS.ca
    exact h.hm.lt
  have hm2 := hS.mp.lt
  exact ⟨rfl, _, rfl, (Keep.refl.app.trans hK2).app, _, x, c, r, m, mk, S2.length, rfl, h2, h1, by omega, by omega, hS.keep Keep.refl.app⟩
end Go.Proofs.Ytobgdmgldagjkaa
end
/-! Plain: inodes that are laid, and which are free then. -/
section
set_option linter.unusedVariables false
set_option linter.unusedSimpArgs false
set_option maxRecDepth 100000
set_option maxHeartbeats 4000000
namespace Go.Proofs.Ytobgdmgldagjkaa
open Go.Vm
theorem put_see {C : CS} {no : Int} {a : Int} {b : List UInt8} {needs : List Int} {k : Nat} : (C.put no a b needs).see k = if no = k then layB (C.see k) a.toNat b else C.see k := seeL_snoc
theorem slot_lay {b d : List UInt8} {k k' : Nat} (hb : b.length = 256) (hd : d.length = 32) (hk : k < 8) (hk' : k' < 8) : slotB (layB b (k' * 32) d) k = if k = k' then d else slotB b k := by
  have e0 : (b.take (k' * 32)).length = k' * 32 := by rw [List.length_take]; omega
  unfold slotB layB
  apply List.ext_getElem?
  intro i
  rw [List.getElem?_take]
  by_cases hi : i < 32
  · rw [if_pos hi, List.getElem?_drop]
    rcases Nat.lt_trichotomy k k' with h | h | h
    · rw [if_neg (by omega), List.append_assoc, List.getElem?_append_left (by omega), List.getElem?_take, if_pos (by omega), List.getElem?_take, if_pos hi, List.getElem?_drop]
    · subst h
      rw [if_pos rfl, List.append_assoc, List.getElem?_append_right (by omega), e0, List.getElem?_append_left (by omega)]
      congr 1
      omega
    · rw [if_neg (by omega), List.getElem?_append_right (by rw [List.length_append]; omega), List.length_append, e0, List.getElem?_drop, List.getElem?_take, if_pos hi, List.getElem?_drop]
      congr 1
      omega
  · rw [if_neg hi]
    split
    · rw [List.getElem?_eq_none (by omega)]
    · rw [List.getElem?_take, if_neg hi]
/-- What stands behind inodes that were laid, one after the other. -/
structure LaidC (B I M K : Nat) (us : List Nat) (C : CS) : Prop where
  img : C.img = (C0 B I M K).img
  last : C.last = us.length
  see : ∀ no k, 2 ≤ no → no < B → k < 8 → slotB (C.see no) k = if (no - 2) * 8 + k + 1 ∈ us then fileI else slotB (finB B I M K no) k
theorem C0_see {B I M K no : Nat} (h : no < B) : (C0 B I M K).see no = finB B I M K no := by
  show ((C0 B I M K).img.getD no []) = _
  rw [List.getD_eq_getElem?_getD, C0_img h]
  rfl
theorem LaidC.zero {B I M K : Nat} : LaidC B I M K [] (C0 B I M K) := ⟨rfl, rfl, fun no k h1 h2 h3 => by rw [C0_see h2]; simp⟩
theorem LaidC.next {B I M K : Nat} {us : List Nat} {C : CS} (h : LaidC B I M K us C) (hC : C.Ok) {u : Nat} (hu : 1 ≤ u) (hB : 2 + (u - 1) / 8 < B) : LaidC B I M K (us ++ [u]) (C.put ((2 + (u - 1) / 8 : Nat) : Int) (((u - 1) % 8 * 32 : Nat) : Int) fileI []) := by
  refine ⟨h.img, by rw [List.length_append]; show C.last + 1 = _; rw [h.last]; rfl, fun no k h1 h2 h3 => ?_⟩
  have hl : (C.see no).length = 256 := hC.see_len (by rw [h.img, C0_len]; exact h2)
  have hk : (u - 1) % 8 < 8 := Nat.mod_lt _ (by decide)
  have ih := h.see no k h1 h2 h3
  rw [put_see, Int.toNat_natCast]
  by_cases e : ((2 + (u - 1) / 8 : Nat) : Int) = (no : Int)
  · rw [if_pos e, slot_lay hl rfl h3 hk]
    have e' : 2 + (u - 1) / 8 = no := by omega
    by_cases e2 : k = (u - 1) % 8
    · have e3 : (no - 2) * 8 + k + 1 = u := by omega
      rw [if_pos e2, if_pos (by rw [e3]; simp)]
    · have e3 : (no - 2) * 8 + k + 1 ≠ u := by omega
      rw [if_neg e2, ih]
      simp [e3]
  · rw [if_neg e, ih]
    have e3 : (no - 2) * 8 + k + 1 ≠ u := by omega
    simp [e3]
/-- An inode as it is then. -/
def inoL (us : List Nat) (n : Nat) : Ino := if n ∈ us then ⟨1, 1, 0, 0, 0, 0, 0, 0, 0, 0, 0⟩ else ⟨0, 0, 0, 0, 0, 0, 0, 0, 0, 0, 0⟩
theorem root_slot : ∀ k : Fin 8, 1 ≤ k.val → slotB rootB k.val = zeros 32 := by decide
theorem LaidC.clean {B I M K : Nat} {us : List Nat} {C : CS} (h : LaidC B I M K us C) {n : Nat} (hn : 2 ≤ n) (hB : 2 + (n - 1) / 8 < B) : ∃ bb, Ev cfg 114 [blkD (slotB (C.see (2 + (n - 1) / 8)) ((n - 1) % 8))] (.ret (.tup [.d (encIno (inoL us n)), .d (.bool bb)])) := by
  have hk : (n - 1) % 8 < 8 := Nat.mod_lt _ (by decide)
  have hs := h.see (2 + (n - 1) / 8) ((n - 1) % 8) (by omega) hB hk
  have e : (2 + (n - 1) / 8 - 2) * 8 + (n - 1) % 8 + 1 = n := by omega
  rw [e] at hs
  rw [hs]
  unfold inoL
  by_cases hm : n ∈ us
  · rw [if_pos hm, if_pos hm]
    exact ⟨true, clean_file⟩
  · rw [if_neg hm, if_neg hm]
    have hz : slotB (finB B I M K (2 + (n - 1) / 8)) ((n - 1) % 8) = zeros 32 := by
      unfold finB blkAt
      rw [if_neg (by omega), if_neg (by omega)]
      split
      · exact root_slot ⟨_, hk⟩ (by simp only; omega)
      · unfold slotB zeros
        rw [List.drop_replicate, List.take_replicate]
        congr 1
        omega
    rw [hz]
    exact ⟨true, clean_none⟩
theorem frN_laid {us : List Nat} {n : Nat} : frN (inoL us) n = (List.range n).filter (fun i => decide (2 ≤ i ∧ i ∉ us)) := by
  unfold frN
  congr 1
  funext i
  unfold inoL
  by_cases h : i ∈ us <;> simp [h]
/-- Those above j. -/
def upF (us : List Nat) (N j : Nat) : List Nat := (List.range (N + 1)).filter (fun i => decide (j ≤ i ∧ i ∉ us))
theorem upF_two {us : List Nat} {N : Nat} : upF us N 2 = frN (inoL us) (N + 1) := frN_laid.symm
theorem filter_step (q : Nat → Bool) (j : Nat) : ∀ n, j < n → (List.range n).filter (fun i => decide (j ≤ i) && q i) = (if q j then [j] else []) ++ (List.range n).filter (fun i => decide (j + 1 ≤ i) && q i)
  | 0, h => by omega
  | n + 1, h => by
    rw [List.range_succ, List.filter_append, List.filter_append]
    by_cases e : j = n
    · subst e
      have h1 : (List.range j).filter (fun i => decide (j ≤ i) && q i) = [] := by
        rw [List.filter_eq_nil_iff]
        intro i hi
        have := List.mem_range.1 hi
        simp; omega
      have h2 : (List.range j).filter (fun i => decide (j + 1 ≤ i) && q i) = [] := by
        rw [List.filter_eq_nil_iff]
        intro i hi
        have := List.mem_range.1 hi
        simp; omega
      rw [h1, h2]
      have e1 : decide (j + 1 ≤ j) = false := by simp
      cases hq : q j <;> simp [hq, List.filter_cons, e1]
    · rw [filter_step q j n (by omega), List.append_assoc]
      congr 2
      have e1 : decide (j ≤ n) = true := decide_eq_true (by omega)
      have e2 : decide (j + 1 ≤ n) = true := decide_eq_true (by omega)
      rw [List.filter_cons, List.filter_cons, e1, e2]
      simp only [List.filter_nil]
theorem upF_step {us : List Nat} {N j : Nat} (hj : j ≤ N) : upF us N j = (if j ∈ us then [] else [j]) ++ upF us N (j + 1) := by
  have := filter_step (fun i => decide (i ∉ us)) j (N + 1) (by omega)
  have e : ∀ j, upF us N j = (List.range (N + 1)).filter (fun i => decide (j ≤ i) && decide (i ∉ us)) := fun j => by
    unfold upF
    congr 1
    funext i
    exact Bool.decide_and ..
  rw [e, e, this]
  by_cases h : j ∈ us <;> simp [h]
theorem upF_end {us : List Nat} {N : Nat} : upF us N (N + 1) = [] := by
  unfold upF
  rw [List.filter_eq_nil_iff]
  intro i hi
  have := List.mem_range.1 hi
  simp; omega
end Go.Proofs.Ytobgdmgldagjkaa
end
/-! The document's answer: numbers as bytes, bytes laid, a hash; what the first block is. -/
section
set_option linter.unusedVariables false
set_option linter.unusedSimpArgs false
set_option maxRecDepth 100000
set_option maxHeartbeats 4000000
namespace Go.Proofs.Ytobgdmgldagjkaa
open Go.Vm
theorem u64n {n : Nat} (h : n < 18446744073709551616) : IntKind.u64.wrap (n : Int) = (n : Int) := u64_in (by omega) (by omega)
theorem nl4294967296 : ((4294967296 : Nat) : Int) = 4294967296 := rfl
theorem remu {P : Program} {t : TypeId} {v m : Nat} (hm : m ≠ 0) : binV P .rem t (.d (.int .u64 (v : Int))) (.d (.int .u64 (m : Int))) = some (.d (.int .u64 ((v % m : Nat) : Int))) := by
  have hb : ¬ ((m : Nat) : Int) = 0 := by omega
  have h : (v : Int).tmod (m : Int) = ((v % m : Nat) : Int) := by rw [Int.tmod_eq_emod_of_nonneg (by omega)]; rfl
  simp only [binV, intBin, hb, if_true, if_false, Option.map_some, h]
theorem quou {P : Program} {t : TypeId} {v m : Nat} (hm : m ≠ 0) (hv : v < 18446744073709551616) : binV P .quo t (.d (.int .u64 (v : Int))) (.d (.int .u64 (m : Int))) = some (.d (.int .u64 ((v / m : Nat) : Int))) := by
  have hb : ¬ ((m : Nat) : Int) = 0 := by omega
  have h : IntKind.u64.wrap ((v : Int).tdiv (m : Int)) = ((v / m : Nat) : Int) := by
    rw [Int.tdiv_eq_ediv_of_nonneg (by omega), show (v : Int) / (m : Int) = ((v / m : Nat) : Int) from rfl, u64n (Nat.lt_of_le_of_lt (Nat.div_le_self _ _) hv)]
  simp only [binV, intBin, hb, if_true, if_false, Option.map_some, h]
theorem bytes_l (w v : Nat) (hw : w ≤ 8) (hv : v < 18446744073709551616) (R : Post) : ∀ (k i : Nat) (S : Store) (v5 g2 g3 g4 g7 g8 g9 g10 g11 g12 g13 g14 g15 g16 g17 g18 g19 g20 : V), w - i = k → i ≤ w → OwnS S v5 5 ((leB i v).map fun x => .d (.int .u8 x.toNat)) →
   (∀ S v5 i' v1 g2 g3 g4 g7 g8 g9 g10 g11 g12 g13 g14 g15 g16 g17 g18 g19 g20, OwnS S v5 5 ((leB w v).map fun x => .d (.int .u8 x.toNat)) → R (.exit 0) ((.d (.int .i64 (w : Int))) :: v1 :: g2 :: g3 :: g4 :: v5 :: i' :: g7 :: g8 :: g9 :: g10 :: g11 :: g12 :: g13 :: g14 :: g15 :: g16 :: g17 :: g18 :: g19 :: g20 :: []) S []) →
   Wp cfg (.loop (lpOf (Try.f99.body.getD .skip) 0)) ((.d (.int .i64 (w : Int))) :: (.d (.int .u64 ((v / 256 ^ i : Nat) : Int))) :: g2 :: g3 :: g4 :: v5 :: (.d (.int .i64 (i : Int))) :: g7 :: g8 :: g9 :: g10 :: g11 :: g12 :: g13 :: g14 :: g15 :: g16 :: g17 :: g18 :: g19 :: g20 :: []) S [] R := by
  intro k
  induction k with
  | zero =>
    intro i S v5 g2 g3 g4 g7 g8 g9 g10 g11 g12 g13 g14 g15 g16 g17 g18 g19 g20 hk hi ho hR
    have hie : i = w := by omega
    subst hie
    rw [wk_of]
    refine wk_loop ?_
    conv => arg 2; whnf
    simp (maxSteps := 1000000) (disch := first | assumption | omega | rfl) only [↓vmp, vme, vmb, ty, hP, dec_t, dec_f, wrap64, List.length_map, Int.toNat_natCast, Nat.reduceAdd, List.cons_append, List.nil_append, Option.map_some, Option.map_none, strOf_mk, sb_eql, sb_neq, vmg, ↓vgd, ↓vst, ↓vix]
    exact hR _ _ _ _ _ _ _ _ _ _ _ _ _ _ _ _ _ _ _ _ _ ho
  | succ k ih =>
    intro i S v5 g2 g3 g4 g7 g8 g9 g10 g11 g12 g13 g14 g15 g16 g17 g18 g19 g20 hk hi ho hR
    have hlt : i < w := by omega
    have h3 : IntKind.i64.wrap ((i : Int) + 1) = ((i + 1 : Nat) : Int) := by rw [wrap64 (by omega)]; omega
    have hq : v / 256 ^ i < 18446744073709551616 := Nat.lt_of_le_of_lt (Nat.div_le_self _ _) hv
    have hrem := remu (P := Try.prog) (t := 22) (v := v / 256 ^ i) (m := 256) (by decide)
    have hquo := quou (P := Try.prog) (t := 22) (v := v / 256 ^ i) (m := 256) (by decide) hq
    have e : v / 256 ^ i / 256 = v / 256 ^ (i + 1) := by rw [Nat.pow_succ, Nat.div_div_eq_div_mul]
    rw [e] at hquo
    simp only [nl256] at hrem hquo
    have hc5 := fun S => cv225 (S := S) (n := v / 256 ^ i % 256)
    rw [Nat.mod_mod] at hc5
    obtain ⟨v', S', c, ha, ho', hfr, hlen⟩ := ap40 (UInt8.ofNat (v / 256 ^ i % 256)) ho (by rw [leB_len]; omega)
    rw [← leB_snoc] at ho'
    rw [wk_of]
    refine wk_loop ?_
    conv => arg 2; whnf
    simp (maxSteps := 1000000) (disch := first | assumption | omega | rfl) only [↓vmp, vme, vmb, ty, hP, dec_t, dec_f, wrap64, List.length_map, Int.toNat_natCast, Nat.reduceAdd, List.cons_append, List.nil_append, Option.map_some, Option.map_none, strOf_mk, sb_eql, sb_neq, vmg, ↓vgd, ↓vst, ↓vix, h3, hrem, hquo, hc5, ha]
    exact ih (i + 1) S' v' _ _ _ _ _ _ _ _ _ _ _ _ _ _ _ _ _ (by omega) (by omega) ho' hR
theorem bytes_ok (w v : Nat) (hw : w ≤ 8) (hv : v < 18446744073709551616) : Ev cfg 99 [.int .i64 (w : Int), .int .u64 (v : Int)] (.ret (.d (encB (leB w v)))) := by
  refine ev_of rfl rfl body99 ?_
  show Wp cfg (Try.f99.body.getD .skip) ((.d (.int .i64 (w : Int))) :: (.d (.int .u64 (v : Int))) :: (.tup []) :: (.tup []) :: (.tup []) :: (.tup []) :: (.tup []) :: (.tup []) :: (.tup []) :: (.tup []) :: (.tup []) :: (.tup []) :: (.tup []) :: (.tup []) :: (.tup []) :: (.tup []) :: (.tup []) :: (.tup []) :: (.tup []) :: (.tup []) :: (.tup []) :: []) [] [] _
  conv => arg 2; whnf
  simp (maxSteps := 1000000) (disch := first | assumption | omega | rfl) only [↓vmp, vme, vmb, ty, hP, dec_t, dec_f, wrap64, List.length_map, Int.toNat_natCast, Nat.reduceAdd, List.cons_append, List.nil_append, Option.map_some, Option.map_none, strOf_mk, sb_eql, sb_neq, vmg, ↓vgd, ↓vst, ↓vix]
  have e0 : ((v : Nat) : Int) = ((v / 256 ^ 0 : Nat) : Int) := by simp
  rw [e0]
  refine bytes_l w v hw hv _ w 0 _ _ _ _ _ _ _ _ _ _ _ _ _ _ _ _ _ _ _ rfl (by omega) OwnS.nil ?_
  intro S v5 i' v1 g2 g3 g4 g7 g8 g9 g10 g11 g12 g13 g14 g15 g16 g17 g18 g19 g20 ho
  simp (maxSteps := 1000000) (disch := first | assumption | omega | rfl) only [↓vmp, vme, vmb, ty, hP, dec_t, dec_f, wrap64, List.length_map, Int.toNat_natCast, Nat.reduceAdd, List.cons_append, List.nil_append, Option.map_some, Option.map_none, strOf_mk, sb_eql, sb_neq, vmg, ↓vgd, ↓vst, ↓vix]
  exact retQ_one rfl (own_one ho) (own_frz' (enc := fun x : UInt8 => D.int .u8 x.toNat) ho)
theorem xor22 {a b : Nat} (ha : a < 256) (hb : b < 256) : binV Try.prog .xor 22 (.d (.int .u64 (a : Int))) (.d (.int .u64 (b : Int))) = some (.d (.int .u64 ((a ^^^ b : Nat) : Int))) := by
  have e1 : BitVec.ofInt IntKind.u64.bits (a : Int) = BitVec.ofNat 64 a := BitVec.ofInt_natCast ..
  have e2 : BitVec.ofInt IntKind.u64.bits (b : Int) = BitVec.ofNat 64 b := BitVec.ofInt_natCast ..
  have hx : a ^^^ b < 256 := Nat.xor_lt_two_pow (n := 8) ha hb
  have e3 : (BitVec.ofNat 64 a ^^^ BitVec.ofNat 64 b).toNat = a ^^^ b := by
    rw [BitVec.toNat_xor, BitVec.toNat_ofNat, BitVec.toNat_ofNat, Nat.mod_eq_of_lt (by omega), Nat.mod_eq_of_lt (by omega)]
  simp only [binV, intBin, e1, e2]
  show some (V.d (.int .u64 (IntKind.u64.wrap (((BitVec.ofNat 64 a ^^^ BitVec.ofNat 64 b).toNat : Nat) : Int)))) = _
  rw [e3, u64n (by omega)]
theorem rmore_l (s : List UInt8) (hs : s.length ≤ 1000000) (h : Nat) (hh : h < 4294967296) (R : Post) (S : Store) : ∀ (k i : Nat) (g2 g3 g4 g6 g7 g8 g9 g10 g11 g12 g13 g14 g15 g16 g17 g18 g19 g20 g21 g22 g23 g24 g25 g26 g27 g28 : V), s.length - i = k → i ≤ s.length →
   (∀ i' g2 g3 g4 g6 g7 g8 g9 g10 g11 g12 g13 g14 g15 g16 g17 g18 g19 g20 g21 g22 g23 g24 g25 g26 g27 g28, R (.exit 0) ((.d (.int .u64 (mixL h s : Int))) :: (.d (.str s)) :: g2 :: g3 :: g4 :: i' :: g6 :: g7 :: g8 :: g9 :: g10 :: g11 :: g12 :: g13 :: g14 :: g15 :: g16 :: g17 :: g18 :: g19 :: g20 :: g21 :: g22 :: g23 :: g24 :: g25 :: g26 :: g27 :: g28 :: []) S []) →
   Wp cfg (.loop (lpOf (Try.f119.body.getD .skip) 0)) ((.d (.int .u64 (mixL h (s.take i) : Int))) :: (.d (.str s)) :: g2 :: g3 :: g4 :: (.d (.int .i64 (i : Int))) :: g6 :: g7 :: g8 :: g9 :: g10 :: g11 :: g12 :: g13 :: g14 :: g15 :: g16 :: g17 :: g18 :: g19 :: g20 :: g21 :: g22 :: g23 :: g24 :: g25 :: g26 :: g27 :: g28 :: []) S [] R := by
  intro k
  induction k with
  | zero =>
    intro i g2 g3 g4 g6 g7 g8 g9 g10 g11 g12 g13 g14 g15 g16 g17 g18 g19 g20 g21 g22 g23 g24 g25 g26 g27 g28 hk hi hR
    have hie : i = s.length := by omega
    subst hie
    rw [List.take_length]
    rw [wk_of]
    refine wk_loop ?_
    conv => arg 2; whnf
    simp (maxSteps := 1000000) (disch := first | assumption | omega | rfl) only [↓vmp, vme, vmb, ty, hP, dec_t, dec_f, wrap64, List.length_map, Int.toNat_natCast, Nat.reduceAdd, List.cons_append, List.nil_append, Option.map_some, Option.map_none, strOf_mk, sb_eql, sb_neq, vmg, ↓vgd, ↓vst, ↓vix]
    exact hR _ _ _ _ _ _ _ _ _ _ _ _ _ _ _ _ _ _ _ _ _ _ _ _ _ _ _
  | succ k ih =>
    intro i g2 g3 g4 g6 g7 g8 g9 g10 g11 g12 g13 g14 g15 g16 g17 g18 g19 g20 g21 g22 g23 g24 g25 g26 g27 g28 hk hi hR
    have hlt : i < s.length := by omega
    have h3 : IntKind.i64.wrap ((i : Int) + 1) = ((i + 1 : Nat) : Int) := by rw [wrap64 (by omega)]; omega
    have hml := mixL_lt (s.take i) h hh
    have hsn : mixL h (s.take (i + 1)) = mixS (mixL h (s.take i)) s[i] := mixL_take hlt
    generalize mixL h (s.take i) = m at *
    have hb : s[i].toNat < 256 := s[i].toNat_lt
    have hx : m % 256 ^^^ s[i].toNat < 256 := Nat.xor_lt_two_pow (n := 8) (by omega) hb
    have hxl := xor_low m s[i].toNat hb
    have hxm : m ^^^ s[i].toNat < 4294967296 := by rw [hxl]; omega
    have hrem := remu (P := Try.prog) (t := 22) (v := m) (m := 256) (by decide)
    have hxo := xor22 (a := m % 256) (b := s[i].toNat) (by omega) hb
    have hsub : IntKind.u64.wrap ((m : Int) - ((m % 256 : Nat) : Int)) = ((m - m % 256 : Nat) : Int) := by rw [u64_in (by omega) (by omega)]; omega
    have hadd : IntKind.u64.wrap (((m - m % 256 : Nat) : Int) + ((m % 256 ^^^ s[i].toNat : Nat) : Int)) = ((m ^^^ s[i].toNat : Nat) : Int) := by rw [hxl, u64_in (by omega) (by omega)]; omega
    have hmul : IntKind.u64.wrap (((m ^^^ s[i].toNat : Nat) : Int) * 16777619) = (((m ^^^ s[i].toNat) * 16777619 : Nat) : Int) := by rw [u64_in (by omega) (by omega)]; omega
    have hrem2 := remu (P := Try.prog) (t := 22) (v := (m ^^^ s[i].toNat) * 16777619) (m := 4294967296) (by decide)
    have hc := fun S => cv522 (S := S) (x := s[i])
    have e2 : (m ^^^ s[i].toNat) * 16777619 % 4294967296 = mixS m s[i] := rfl
    rw [e2] at hrem2
    simp only [nl256, nl4294967296] at hrem hrem2
    rw [wk_of]
    refine wk_loop ?_
    conv => arg 2; whnf
    simp (maxSteps := 1000000) (disch := first | assumption | omega | rfl) only [↓vmp, vme, vmb, ty, hP, dec_t, dec_f, wrap64, List.length_map, Int.toNat_natCast, Nat.reduceAdd, List.cons_append, List.nil_append, Option.map_some, Option.map_none, strOf_mk, sb_eql, sb_neq, vmg, ↓vgd, ↓vst, ↓vix, h3, hrem, hxo, hsub, hadd, hmul, hrem2, hc]
    rw [← hsn]
    exact ih (i + 1) _ _ _ _ _ _ _ _ _ _ _ _ _ _ _ _ _ _ _ _ _ _ _ _ _ _ (by omega) (by omega) hR
theorem rmore_ok (s : List UInt8) (hs : s.length ≤ 1000000) (h : Nat) (hh : h < 4294967296) : Ev cfg 119 [.int .u64 (h : Int), .str s] (.ret (.d (.int .u64 (mixL h s : Int)))) := by
  refine ev_of rfl rfl body119 ?_
  show Wp cfg (Try.f119.body.getD .skip) ((.d (.int .u64 (h : Int))) :: (.d (.str s)) :: (.tup []) :: (.tup []) :: (.tup []) :: (.tup []) :: (.tup []) :: (.tup []) :: (.tup []) :: (.tup []) :: (.tup []) :: (.tup []) :: (.tup []) :: (.tup []) :: (.tup []) :: (.tup []) :: (.tup []) :: (.tup []) :: (.tup []) :: (.tup []) :: (.tup []) :: (.tup []) :: (.tup []) :: (.tup []) :: (.tup []) :: (.tup []) :: (.tup []) :: (.tup []) :: (.tup []) :: []) [] [] _
  conv => arg 2; whnf
  simp (maxSteps := 1000000) (disch := first | assumption | omega | rfl) only [↓vmp, vme, vmb, ty, hP, dec_t, dec_f, wrap64, List.length_map, Int.toNat_natCast, Nat.reduceAdd, List.cons_append, List.nil_append, Option.map_some, Option.map_none, strOf_mk, sb_eql, sb_neq, vmg, ↓vgd, ↓vst, ↓vix]
  have e0 : h = mixL h (s.take 0) := by rw [List.take_zero]; rfl
  conv => arg 3; rw [e0]
  refine rmore_l s hs h hh _ _ s.length 0 _ _ _ _ _ _ _ _ _ _ _ _ _ _ _ _ _ _ _ _ _ _ _ _ _ _ rfl (by omega) ?_
  intro i' g2 g3 g4 g6 g7 g8 g9 g10 g11 g12 g13 g14 g15 g16 g17 g18 g19 g20 g21 g22 g23 g24 g25 g26 g27 g28
  simp (maxSteps := 1000000) (disch := first | assumption | omega | rfl) only [↓vmp, vme, vmb, ty, hP, dec_t, dec_f, wrap64, List.length_map, Int.toNat_natCast, Nat.reduceAdd, List.cons_append, List.nil_append, Option.map_some, Option.map_none, strOf_mk, sb_eql, sb_neq, vmg, ↓vgd, ↓vst, ↓vix]
  exact retQ_one rfl rfl rfl
theorem rof_ok (s : List UInt8) (hs : s.length ≤ 1000000) : Ev cfg 100 [.str s] (.ret (.d (.int .u64 (hashL s : Int)))) := by
  refine ev_of rfl rfl body100 ?_
  show Wp cfg (Try.f100.body.getD .skip) ((.d (.str s)) :: (.tup []) :: (.tup []) :: (.tup []) :: (.tup []) :: []) [] [] _
  conv => arg 2; whnf
  have hc : ∀ {ops dst k T S F Q}, WpR cfg ops dst k T S F Q (some (.enter 119 [.d (.int .u64 2166136261), .d (.str s)])) = WpL cfg ops k (putT T dst (.d (.int .u64 (hashL s : Int)))) S F Q := fun {ops dst k T S F Q} => wr_call_d (C := cfg) (ds := [.int .u64 ((2166136261 : Nat) : Int), .str s]) rfl (rmore_ok s hs 2166136261 (by decide))
  simp (maxSteps := 1000000) (disch := first | assumption | omega | rfl) only [↓vmp, vme, vmb, ty, hP, dec_t, dec_f, wrap64, List.length_map, Int.toNat_natCast, Nat.reduceAdd, List.cons_append, List.nil_append, Option.map_some, Option.map_none, strOf_mk, sb_eql, sb_neq, vmg, ↓vgd, ↓vst, ↓vix, hc, bo119]
  exact retQ_one rfl rfl rfl
end Go.Proofs.Ytobgdmgldagjkaa
end
/-! The document's answer: which layouts may be, and the first block. -/
section
set_option linter.unusedVariables false
set_option linter.unusedSimpArgs false
set_option maxRecDepth 100000
set_option maxHeartbeats 4000000
namespace Go.Proofs.Ytobgdmgldagjkaa
open Go.Vm
theorem May_ok (l : Lay) (hb : InB l.blocks) (hi : InB l.inodes) : Ev cfg 11 [encLay l] (.ret (.d (.bool (decide (MayL l))))) := by
  refine ev_of rfl rfl body11 ?_
  show Wp cfg (Try.f11.body.getD .skip) ((.d (encLay l)) :: (.tup []) :: (.tup []) :: (.tup []) :: (.tup []) :: (.tup []) :: (.tup []) :: (.tup []) :: (.tup []) :: (.tup []) :: (.tup []) :: (.tup []) :: (.tup []) :: (.tup []) :: (.tup []) :: (.tup []) :: (.tup []) :: (.tup []) :: (.tup []) :: (.tup []) :: (.tup []) :: (.tup []) :: (.tup []) :: (.tup []) :: (.tup []) :: (.tup []) :: (.tup []) :: (.tup []) :: (.tup []) :: (.tup []) :: (.tup []) :: (.tup []) :: (.tup []) :: (.tup []) :: (.tup []) :: (.tup []) :: []) [] [] _
  conv => arg 2; whnf
  generalize hp : decide (MayL l) = p
  have hq := quo8 hi
  have hr := rem8 (a := l.inodes)
  by_cases c1 : l.blocks ≥ 16
  case neg =>
    rw [decide_eq_false (fun h => by have := h.1; omega)] at hp; subst hp
    simp (maxSteps := 1000000) (disch := first | assumption | omega | rfl) only [↓vmp, vme, vmb, ty, hP, dec_t, dec_f, wrap64, List.length_map, Int.toNat_natCast, Nat.reduceAdd, List.cons_append, List.nil_append, Option.map_some, Option.map_none, strOf_mk, sb_eql, sb_neq, vmg, ↓vgd, ↓vst, ↓vix]
    exact retQ_one rfl rfl rfl
  by_cases c2 : l.blocks ≤ 512
  case neg =>
    rw [decide_eq_false (fun h => by have := h.2.1; omega)] at hp; subst hp
    simp (maxSteps := 1000000) (disch := first | assumption | omega | rfl) only [↓vmp, vme, vmb, ty, hP, dec_t, dec_f, wrap64, List.length_map, Int.toNat_natCast, Nat.reduceAdd, List.cons_append, List.nil_append, Option.map_some, Option.map_none, strOf_mk, sb_eql, sb_neq, vmg, ↓vgd, ↓vst, ↓vix]
    exact retQ_one rfl rfl rfl
  by_cases c3 : l.inodes ≥ 8
  case neg =>
    rw [decide_eq_false (fun h => by have := h.2.2.1; omega)] at hp; subst hp
    simp (maxSteps := 1000000) (disch := first | assumption | omega | rfl) only [↓vmp, vme, vmb, ty, hP, dec_t, dec_f, wrap64, List.length_map, Int.toNat_natCast, Nat.reduceAdd, List.cons_append, List.nil_append, Option.map_some, Option.map_none, strOf_mk, sb_eql, sb_neq, vmg, ↓vgd, ↓vst, ↓vix]
    exact retQ_one rfl rfl rfl
  by_cases c4 : l.inodes ≤ 128
  case neg =>
    rw [decide_eq_false (fun h => by have := h.2.2.2.1; omega)] at hp; subst hp
    simp (maxSteps := 1000000) (disch := first | assumption | omega | rfl) only [↓vmp, vme, vmb, ty, hP, dec_t, dec_f, wrap64, List.length_map, Int.toNat_natCast, Nat.reduceAdd, List.cons_append, List.nil_append, Option.map_some, Option.map_none, strOf_mk, sb_eql, sb_neq, vmg, ↓vgd, ↓vst, ↓vix]
    exact retQ_one rfl rfl rfl
  by_cases c5 : l.inodes.tmod 8 = 0
  case neg =>
    rw [decide_eq_false (fun h => c5 h.2.2.2.2.1)] at hp; subst hp
    simp (maxSteps := 1000000) (disch := first | assumption | omega | rfl) only [↓vmp, vme, vmb, ty, hP, dec_t, dec_f, wrap64, List.length_map, Int.toNat_natCast, Nat.reduceAdd, List.cons_append, List.nil_append, Option.map_some, Option.map_none, strOf_mk, sb_eql, sb_neq, vmg, ↓vgd, ↓vst, ↓vix, hr]
    exact retQ_one rfl rfl rfl
  have hd : 0 ≤ l.inodes.tdiv 8 ∧ l.inodes.tdiv 8 ≤ 16 := by
    rw [Int.tdiv_eq_ediv_of_nonneg (by omega)]; omega
  have hw : IntKind.i64.wrap (2 + l.inodes.tdiv 8) = 2 + l.inodes.tdiv 8 := wrap64 (by omega)
  by_cases c6 : 2 + l.inodes.tdiv 8 < l.blocks
  case neg =>
    rw [decide_eq_false (fun h => c6 h.2.2.2.2.2)] at hp; subst hp
    simp (maxSteps := 1000000) (disch := first | assumption | omega | rfl) only [↓vmp, vme, vmb, ty, hP, dec_t, dec_f, wrap64, List.length_map, Int.toNat_natCast, Nat.reduceAdd, List.cons_append, List.nil_append, Option.map_some, Option.map_none, strOf_mk, sb_eql, sb_neq, vmg, ↓vgd, ↓vst, ↓vix, hr, hq, hw, c5, deq, dec_True]
    exact retQ_one rfl rfl rfl
  rw [decide_eq_true ⟨by omega, by omega, by omega, by omega, c5, by omega⟩] at hp; subst hp
  simp (maxSteps := 1000000) (disch := first | assumption | omega | rfl) only [↓vmp, vme, vmb, ty, hP, dec_t, dec_f, wrap64, List.length_map, Int.toNat_natCast, Nat.reduceAdd, List.cons_append, List.nil_append, Option.map_some, Option.map_none, strOf_mk, sb_eql, sb_neq, vmg, ↓vgd, ↓vst, ↓vix, hr, hq, hw, c5, deq, dec_True]
  exact retQ_one rfl rfl rfl
theorem srcB {S : Store} {b : List UInt8} : srcV Try.prog S 5 40 (.d (encB b)) = some ((b.map byD).map V.d) := by
  have hall : ((b.map byD).map V.d).all (fitsT Try.prog 5) = true := by
    rw [List.all_eq_true]
    intro y hy
    obtain ⟨z, hz, rfl⟩ := List.mem_map.1 hy
    obtain ⟨a, _, rfl⟩ := List.mem_map.1 hz
    exact fitsT5 _
  have h5 : (sz Try.prog 5).isSome = true := by kernel_rfl
  have : encB b = .sl (b.map byD) := rfl
  rw [this]
  simp only [srcV, Try.underlying40, elemsV, hall, h5, Bool.and_self, if_true]
theorem app_ts {S : Store} {a b : List UInt8} (h0 : b ≠ []) (hl : a.length + b.length ≤ 100000) : appendV Try.prog S 40 40 (.ts (a.map byD)) (.d (encB b)) = some (.rs S.length 0 (a ++ b).length, S ++ [rowY (a ++ b)], 2) := by
  have hall : (a.map byD).all (fitsD Try.prog 5) = true := by
    rw [List.all_eq_true]
    intro y hy
    obtain ⟨z, hz, rfl⟩ := List.mem_map.1 hy
    exact fits5 _
  cases b with
  | nil => exact absurd rfl h0
  | cons x r =>
    have src1 : srcV Try.prog S 5 40 (.d (encB (x :: r))) = some (.d (byD x) :: (r.map byD).map .d) := srcB
    have hr : room Try.prog 5 (a.length + (r.length + 1)) = true := room40 (by simp at hl; omega)
    simp only [appendV, Try.underlying40, src1, zOk40, if_true, hall, List.length_map, hr, Bool.and_self]
    simp [rowY, Function.comp_def]
theorem app_rs {S : Store} {a b : List UInt8} {id : Nat} (hS : S[id]? = some (rowY a)) (h0 : b ≠ []) (hl : a.length + b.length ≤ 100000) : appendV Try.prog S 40 40 (.rs id 0 a.length) (.d (encB b)) = some (.rs S.length 0 (a ++ b).length, S.set id .dead ++ [rowY (a ++ b)], 3) := by
  cases b with
  | nil => exact absurd rfl h0
  | cons x r =>
    have src1 : srcV Try.prog S 5 40 (.d (encB (x :: r))) = some (.d (byD x) :: (r.map byD).map .d) := srcB
    have hr : room Try.prog 5 (a.length + (r.length + 1)) = true := room40 (by simp at hl; omega)
    have hS' : S[id]? = some (.row (a.map fun x => V.d (byD x)) 5) := hS
    have ht : (a.map fun x => V.d (byD x)).take a.length = a.map fun x => V.d (byD x) := List.take_of_length_le (by simp)
    simp only [appendV, Try.underlying40, src1, zOk40, if_true, hS', List.length_map, Nat.le_refl, hr, ht, decide_true, Bool.and_self, beq_self_eq_true]
    simp [rowY, Function.comp_def]
theorem cvrs {S : Store} {b : List UInt8} {id : Nat} (hS : S[id]? = some (rowY b)) : convertV Try.prog S 40 9 (.rs id 0 b.length) = some (.d (.str b), 1) := by
  have hu : Try.prog.underlying 9 = some .string := by kernel_rfl
  have h5 : Try.prog.underlying 5 = some (.int .u8) := by kernel_rfl
  have hS' : S[id]? = some (.row (b.map fun x => V.d (byD x)) 5) := hS
  have ht : ((b.map fun x => V.d (byD x)).drop 0).take b.length = b.map fun x => V.d (byD x) := by rw [List.drop_zero]; exact List.take_of_length_le (by simp)
  have hb : bytesD (b.map fun x => V.d (byD x)) = some b := bytesD_B
  simp only [convertV, Try.underlying40, hu, h5, elemsV, hS', List.length_map, Nat.zero_add, Nat.le_refl, if_true, ht, hb, Option.map_some]
end Go.Proofs.Ytobgdmgldagjkaa
end
/-! AllocNils: the statement's code. -/
section
set_option linter.unusedVariables false
set_option linter.unusedSimpArgs false
set_option maxRecDepth 100000
set_option maxHeartbeats 4000000
namespace Go.Proofs.Ytobgdmgldagjkaa
open Go.Vm
theorem works31_ev : Ev cfg 28 [] (.ret (.d (.bool true))) := ⟨0, by kernel_rfl⟩
section
variable {ops : Array Oper} {dst : Option Tmp} {k : List Oper} {T : List V} {S : Store} {F : Dfs} {Q : Post}
theorem call_works31 : WpR cfg ops dst k T S F Q (some (.enter 28 [])) = WpL cfg ops k (putT T dst (.d (.bool true))) S F Q := wr_call_d (ds := []) rfl works31_ev
theorem call_rmay31 {l : Lay} (hb : InB l.blocks) (hi : InB l.inodes) : WpR cfg ops dst k T S F Q (some (.enter 11 [.d (encLay l)])) = WpL cfg ops k (putT T dst (.d (.bool (decide (MayL l))))) S F Q := wr_call_d (ds := [encLay l]) rfl (May_ok l hb hi)
end
theorem Small_ok (l : Lay) (hb : InB l.blocks) (hi : InB l.inodes) : Ev cfg 27 [encLay l] (.ret (.d (.bool (decide (MayL l ∧ l.blocks ≤ 60))))) := by
  refine ev_of rfl rfl body27 ?_
  show Wp cfg (Try.f27.body.getD .skip) ((.d (encLay l)) :: (.tup []) :: (.tup []) :: (.tup []) :: (.tup []) :: (.tup []) :: (.tup []) :: (.tup []) :: (.tup []) :: (.tup []) :: []) [] [] _
  conv => arg 2; whnf
  have hc := fun {ops dst k T S F Q} => call_rmay31 (ops := ops) (dst := dst) (k := k) (T := T) (S := S) (F := F) (Q := Q) hb hi
  by_cases h1 : MayL l
  · rw [decide_eq_true h1] at hc
    have e : decide (MayL l ∧ l.blocks ≤ 60) = decide (l.blocks ≤ 60) := by simp [h1]
    rw [e]
    simp (maxSteps := 1000000) (disch := first | assumption | omega | rfl) only [↓vmp, vme, vmb, ty, hP, dec_t, dec_f, wrap64, List.length_map, Int.toNat_natCast, Nat.reduceAdd, List.cons_append, List.nil_append, Option.map_some, Option.map_none, strOf_mk, sb_eql, sb_neq, vmg, ↓vgd, ↓vst, ↓vix, lr24, fr24_0, lr24_0, hc, bo11]
    exact retQ_one rfl rfl rfl
  · rw [decide_eq_false h1] at hc
    have e : decide (MayL l ∧ l.blocks ≤ 60) = false := decide_eq_false (fun h => h1 h.1)
    rw [e]
    simp (maxSteps := 1000000) (disch := first | assumption | omega | rfl) only [↓vmp, vme, vmb, ty, hP, dec_t, dec_f, wrap64, List.length_map, Int.toNat_natCast, Nat.reduceAdd, List.cons_append, List.nil_append, Option.map_some, Option.map_none, strOf_mk, sb_eql, sb_neq, vmg, ↓vgd, ↓vst, ↓vix, lr24, fr24_0, lr24_0, hc, bo11]
    exact retQ_one rfl rfl rfl
theorem call_small {ops : Array Oper} {dst : Option Tmp} {k : List Oper} {T : List V} {S : Store} {F : Dfs} {Q : Post} {l : Lay} (hb : InB l.blocks) (hi : InB l.inodes) : WpR cfg ops dst k T S F Q (some (.enter 27 [.d (encLay l)])) = WpL cfg ops k (putT T dst (.d (.bool (decide (MayL l ∧ l.blocks ≤ 60))))) S F Q := wr_call_d (ds := [encLay l]) rfl (Small_ok l hb hi)
theorem bdFile : buildV Try.prog 61 [(0, .d (.int .i64 1)), (1, .d (.int .i64 1))] = some (inoV ⟨1, 1, 0, 0, 0, 0, 0, 0, 0, 0, 0⟩) := by kernel_rfl
theorem one_ino {i : Ino} : (inoV i).one = true := rfl
def boolsV (t : List Bool) : V := .agg (t.map fun b => .d (.bool b))
theorem z74 : zeroV Try.prog 74 = some (boolsV (List.replicate 129 false)) := by kernel_rfl
theorem zf74 : fitsT Try.prog 74 (boolsV (List.replicate 129 false)) = true := by kernel_rfl
theorem ia74 {S : Store} {j x : Nat} {i : Nat} (hi : i < 129) : indexAddrV Try.prog S 74 (.ref j x 0) (.d (.int .i64 (i : Int))) = some (.ref j x i) := by
  have h1 : Try.prog.underlying 74 = some (.array 129 4) := by kernel_rfl
  have h2 : sz Try.prog 4 = some 1 := by kernel_rfl
  simp only [indexAddrV, intOf?, h1, h2]
  rw [if_pos ⟨by omega, by omega⟩]
  simp
theorem bools_get {t : List Bool} {i : Nat} (hi : i < t.length) : loadR Try.prog 4 i (some (boolsV t)) = some (.d (.bool t[i])) := by
  unfold boolsV
  rw [arr_get (by kernel_rfl) (by kernel_rfl) (by simpa using hi), List.getElem_map]
theorem bools_put {t : List Bool} {i : Nat} {b : Bool} (hi : i < t.length) : storeR Try.prog 4 i (.d (.bool b)) (boolsV t) = some (boolsV (t.set i b)) := by
  unfold boolsV
  rw [arr_put (by kernel_rfl) rfl rfl (by simpa using hi), List.map_set]
theorem nilB {l : Lay} (hb : InB l.blocks) (hi : InB l.inodes) (used : List UInt8) (no : Int) (h : ¬ (MayL l ∧ l.blocks ≤ 60) ∨ used.length > 40) : Ev cfg 5 [encLay l, encB used, .int .i64 no] (.ret (.d (.bool true))) := by
  refine ev_of rfl rfl body5 ?_
  show Wp cfg (Try.f5.body.getD .skip) ((.d (encLay l)) :: (.d (encB used)) :: (.d (.int .i64 no)) :: (.tup []) :: (.tup []) :: (.tup []) :: (.tup []) :: (.tup []) :: (.tup []) :: (.tup []) :: (.tup []) :: (.tup []) :: (.tup []) :: (.tup []) :: (.tup []) :: (.tup []) :: (.tup []) :: (.tup []) :: (.tup []) :: (.tup []) :: (.tup []) :: (.tup []) :: (.tup []) :: (.tup []) :: (.tup []) :: (.tup []) :: (.tup []) :: (.tup []) :: (.tup []) :: (.tup []) :: (.tup []) :: (.tup []) :: (.tup []) :: (.tup []) :: (.tup []) :: (.tup []) :: (.tup []) :: (.tup []) :: (.tup []) :: (.tup []) :: (.tup []) :: (.tup []) :: (.tup []) :: (.tup []) :: (.tup []) :: (.tup []) :: (.tup []) :: (.tup []) :: (.tup []) :: (.tup []) :: (.tup []) :: (.tup []) :: (.tup []) :: (.tup []) :: (.tup []) :: (.tup []) :: (.tup []) :: (.tup []) :: (.tup []) :: (.tup []) :: (.tup []) :: (.tup []) :: (.tup []) :: (.tup []) :: (.tup []) :: (.tup []) :: (.tup []) :: (.tup []) :: (.tup []) :: (.tup []) :: (.tup []) :: (.tup []) :: (.tup []) :: (.tup []) :: (.tup []) :: (.tup []) :: (.tup []) :: (.tup []) :: (.tup []) :: (.tup []) :: (.tup []) :: (.tup []) :: (.tup []) :: (.tup []) :: (.tup []) :: (.tup []) :: (.tup []) :: (.tup []) :: (.tup []) :: (.tup []) :: (.tup []) :: (.tup []) :: (.tup []) :: (.tup []) :: (.tup []) :: (.tup []) :: (.tup []) :: (.tup []) :: (.tup []) :: (.tup []) :: (.tup []) :: (.tup []) :: (.tup []) :: (.tup []) :: (.tup []) :: (.tup []) :: (.tup []) :: (.tup []) :: (.tup []) :: (.tup []) :: (.tup []) :: (.tup []) :: (.tup []) :: (.tup []) :: (.tup []) :: (.tup []) :: (.tup []) :: (.tup []) :: (.tup []) :: (.tup []) :: (.tup []) :: (.tup []) :: (.tup []) :: (.tup []) :: (.tup []) :: (.tup []) :: (.tup []) :: (.tup []) :: (.tup []) :: (.tup []) :: (.tup []) :: (.tup []) :: (.tup []) :: (.tup []) :: (.tup []) :: (.tup []) :: (.tup []) :: (.tup []) :: (.tup []) :: (.tup []) :: (.tup []) :: (.tup []) :: (.tup []) :: (.tup []) :: (.tup []) :: (.tup []) :: (.tup []) :: (.tup []) :: []) [] [] _
  conv => arg 2; whnf
  have hc := fun {ops dst k T S F Q} => call_small (ops := ops) (dst := dst) (k := k) (T := T) (S := S) (F := F) (Q := Q) hb hi
  by_cases h1 : MayL l ∧ l.blocks ≤ 60
  · rw [decide_eq_true h1] at hc
    have h2 : (used.length : Int) > 40 := by
      rcases h with h | h
      · exact absurd h1 h
      · omega
    simp (maxSteps := 1000000) (disch := first | assumption | omega | rfl) only [↓vmp, vme, vmb, ty, hP, dec_t, dec_f, wrap64, List.length_map, Int.toNat_natCast, Nat.reduceAdd, List.cons_append, List.nil_append, Option.map_some, Option.map_none, strOf_mk, sb_eql, sb_neq, vmg, ↓vgd, ↓vst, ↓vix, lr24, hc, bo27, un_not, Bool.not_true, len40b, call_works31, bo28, dec_True]
    exact retQ_one rfl rfl rfl
  · rw [decide_eq_false h1] at hc
    simp (maxSteps := 1000000) (disch := first | assumption | omega | rfl) only [↓vmp, vme, vmb, ty, hP, dec_t, dec_f, wrap64, List.length_map, Int.toNat_natCast, Nat.reduceAdd, List.cons_append, List.nil_append, Option.map_some, Option.map_none, strOf_mk, sb_eql, sb_neq, vmg, ↓vgd, ↓vst, ↓vix, lr24, hc, bo27, un_not, Bool.not_false, call_works31, bo28]
    exact retQ_one rfl rfl rfl
/-- What is laid by the statement's own loop. -/
def inoU (N : Nat) (b : UInt8) : Nat := 2 + b.toNat % (N - 1)
theorem nilA (used : List UInt8) (hu : used.length ≤ 40) (l : Lay) (B I M K : Nat) (hl : l = ⟨(B : Int), (I : Int), (M : Int)⟩) (hB : B ≤ 60) (hI : I ≤ 128) (hI8 : 8 ≤ I) (hm : MayL l) (hib : 2 + I / 8 ≤ B) (y x c r m mk gm a74 : Nat) (no : Int) (R : Post) :
   ∀ (k i : Nat) (S : Store) (C : CS) (th : List Bool) (g0 g4 g5 g6 g7 g8 g9 g10 g11 g12 g13 g17 g18 g19 g20 g21 g22 g23 g24 g25 g26 g27 g28 g29 g30 g31 g32 g33 g34 g35 g36 g37 g38 g39 g40 g41 g42 g43 g44 g45 g46 g47 g48 g49 g50 g51 g52 g53 g54 g55 g56 g57 g58 g59 g60 g61 g62 g63 g64 g65 g66 g67 g68 g69 g70 g71 g72 g73 g74 g75 g76 g77 g78 g79 g80 g81 g82 g83 g84 g85 g86 g87 g88 g89 g90 g91 g92 g93 g94 g95 g96 g97 g98 g99 g100 g101 g102 g103 g104 g105 g106 g107 g108 g109 g110 g111 g112 g113 g114 g115 g116 g117 g118 g119 g120 g121 g122 g123 g124 g125 g126 g127 g128 g129 g130 g131 g132 g133 g134 g135 g136 g137 g138 g139 g140 g141 g142 g143 g144 g145 g146 g147 : V), used.length - i = k → i ≤ used.length → rowE S 0 0 = some (.d (encLay l)) → S[0]? = some (.row [.d (encLay l)] 24) → S[y]? = some (.row [allV x gm] 124) → S[a74]? = some (.row [boolsV th] 74) → th.length = 129 → (∀ n (h : n < th.length), th[n] = decide (n ∈ (used.take i).map (inoU I))) → StoreP S x c r m mk l 0 C (fun _ => none) → LaidC B I M K ((used.take i).map (inoU I)) C →
   (∀ (S : Store) (C : CS) (th : List Bool) i' g0 g4 g5 g6 g7 g8 g9 g10 g11 g12 g13 g17 g18 g19 g20 g21 g22 g23 g24 g25 g26 g27 g28 g29 g30 g31 g32 g33 g34 g35 g36 g37 g38 g39 g40 g41 g42 g43 g44 g45 g46 g47 g48 g49 g50 g51 g52 g53 g54 g55 g56 g57 g58 g59 g60 g61 g62 g63 g64 g65 g66 g67 g68 g69 g70 g71 g72 g73 g74 g75 g76 g77 g78 g79 g80 g81 g82 g83 g84 g85 g86 g87 g88 g89 g90 g91 g92 g93 g94 g95 g96 g97 g98 g99 g100 g101 g102 g103 g104 g105 g106 g107 g108 g109 g110 g111 g112 g113 g114 g115 g116 g117 g118 g119 g120 g121 g122 g123 g124 g125 g126 g127 g128 g129 g130 g131 g132 g133 g134 g135 g136 g137 g138 g139 g140 g141 g142 g143 g144 g145 g146 g147, S[0]? = some (.row [.d (encLay l)] 24) → S[y]? = some (.row [allV x gm] 124) → S[a74]? = some (.row [boolsV th] 74) → th.length = 129 → (∀ n (h : n < th.length), th[n] = decide (n ∈ used.map (inoU I))) → StoreP S x c r m mk l 0 C (fun _ => none) → LaidC B I M K (used.map (inoU I)) C → R (.exit 0) (g0 :: (.d (encB used)) :: (.d (.int .i64 no)) :: (.ref 0 0 0) :: g4 :: g5 :: g6 :: g7 :: g8 :: g9 :: g10 :: g11 :: g12 :: g13 :: (.ref y 0 0) :: (.ref a74 0 0) :: i' :: g17 :: g18 :: g19 :: g20 :: g21 :: g22 :: g23 :: g24 :: g25 :: g26 :: g27 :: g28 :: g29 :: g30 :: g31 :: g32 :: g33 :: g34 :: g35 :: g36 :: g37 :: g38 :: g39 :: g40 :: g41 :: g42 :: g43 :: g44 :: g45 :: g46 :: g47 :: g48 :: g49 :: g50 :: g51 :: g52 :: g53 :: g54 :: g55 :: g56 :: g57 :: g58 :: g59 :: g60 :: g61 :: g62 :: g63 :: g64 :: g65 :: g66 :: g67 :: g68 :: g69 :: g70 :: g71 :: g72 :: g73 :: g74 :: g75 :: g76 :: g77 :: g78 :: g79 :: g80 :: g81 :: g82 :: g83 :: g84 :: g85 :: g86 :: g87 :: g88 :: g89 :: g90 :: g91 :: g92 :: g93 :: g94 :: g95 :: g96 :: g97 :: g98 :: g99 :: g100 :: g101 :: g102 :: g103 :: g104 :: g105 :: g106 :: g107 :: g108 :: g109 :: g110 :: g111 :: g112 :: g113 :: g114 :: g115 :: g116 :: g117 :: g118 :: g119 :: g120 :: g121 :: g122 :: g123 :: g124 :: g125 :: g126 :: g127 :: g128 :: g129 :: g130 :: g131 :: g132 :: g133 :: g134 :: g135 :: g136 :: g137 :: g138 :: g139 :: g140 :: g141 :: g142 :: g143 :: g144 :: g145 :: g146 :: g147 :: []) S []) →
   Wp cfg (.loop (lpOf (Try.f5.body.getD .skip) 0)) (g0 :: (.d (encB used)) :: (.d (.int .i64 no)) :: (.ref 0 0 0) :: g4 :: g5 :: g6 :: g7 :: g8 :: g9 :: g10 :: g11 :: g12 :: g13 :: (.ref y 0 0) :: (.ref a74 0 0) :: (.d (.int .i64 (i : Int))) :: g17 :: g18 :: g19 :: g20 :: g21 :: g22 :: g23 :: g24 :: g25 :: g26 :: g27 :: g28 :: g29 :: g30 :: g31 :: g32 :: g33 :: g34 :: g35 :: g36 :: g37 :: g38 :: g39 :: g40 :: g41 :: g42 :: g43 :: g44 :: g45 :: g46 :: g47 :: g48 :: g49 :: g50 :: g51 :: g52 :: g53 :: g54 :: g55 :: g56 :: g57 :: g58 :: g59 :: g60 :: g61 :: g62 :: g63 :: g64 :: g65 :: g66 :: g67 :: g68 :: g69 :: g70 :: g71 :: g72 :: g73 :: g74 :: g75 :: g76 :: g77 :: g78 :: g79 :: g80 :: g81 :: g82 :: g83 :: g84 :: g85 :: g86 :: g87 :: g88 :: g89 :: g90 :: g91 :: g92 :: g93 :: g94 :: g95 :: g96 :: g97 :: g98 :: g99 :: g100 :: g101 :: g102 :: g103 :: g104 :: g105 :: g106 :: g107 :: g108 :: g109 :: g110 :: g111 :: g112 :: g113 :: g114 :: g115 :: g116 :: g117 :: g118 :: g119 :: g120 :: g121 :: g122 :: g123 :: g124 :: g125 :: g126 :: g127 :: g128 :: g129 :: g130 :: g131 :: g132 :: g133 :: g134 :: g135 :: g136 :: g137 :: g138 :: g139 :: g140 :: g141 :: g142 :: g143 :: g144 :: g145 :: g146 :: g147 :: []) S [] R := by
  intro k
  have hlb : l.blocks = (B : Int) := by rw [hl]
  have hli : l.inodes = (I : Int) := by rw [hl]
  have hb : InB l.blocks := by rw [hlb]; unfold InB; omega
  have hi : InB l.inodes := by rw [hli]; unfold InB; omega
  induction k with
  | zero =>
    intro i S C th g0 g4 g5 g6 g7 g8 g9 g10 g11 g12 g13 g17 g18 g19 g20 g21 g22 g23 g24 g25 g26 g27 g28 g29 g30 g31 g32 g33 g34 g35 g36 g37 g38 g39 g40 g41 g42 g43 g44 g45 g46 g47 g48 g49 g50 g51 g52 g53 g54 g55 g56 g57 g58 g59 g60 g61 g62 g63 g64 g65 g66 g67 g68 g69 g70 g71 g72 g73 g74 g75 g76 g77 g78 g79 g80 g81 g82 g83 g84 g85 g86 g87 g88 g89 g90 g91 g92 g93 g94 g95 g96 g97 g98 g99 g100 g101 g102 g103 g104 g105 g106 g107 g108 g109 g110 g111 g112 g113 g114 g115 g116 g117 g118 g119 g120 g121 g122 g123 g124 g125 g126 g127 g128 g129 g130 g131 g132 g133 g134 g135 g136 g137 g138 g139 g140 g141 g142 g143 g144 g145 g146 g147 hk hi2 hr0 h0 hy h74 htl hth hS hL hR
    have hie : i = used.length := by omega
    subst hie
    rw [List.take_length] at hth hL
    rw [wk_of]
    refine wk_loop ?_
    conv => arg 2; whnf
    simp (maxSteps := 1000000) (disch := first | assumption | omega | rfl) only [↓vmp, vme, vmb, ty, hP, dec_t, dec_f, wrap64, List.length_map, Int.toNat_natCast, Nat.reduceAdd, List.cons_append, List.nil_append, Option.map_some, Option.map_none, strOf_mk, sb_eql, sb_neq, vmg, ↓vgd, ↓vst, ↓vix, len40b]
    exact hR _ _ _ _ _ _ _ _ _ _ _ _ _ _ _ _ _ _ _ _ _ _ _ _ _ _ _ _ _ _ _ _ _ _ _ _ _ _ _ _ _ _ _ _ _ _ _ _ _ _ _ _ _ _ _ _ _ _ _ _ _ _ _ _ _ _ _ _ _ _ _ _ _ _ _ _ _ _ _ _ _ _ _ _ _ _ _ _ _ _ _ _ _ _ _ _ _ _ _ _ _ _ _ _ _ _ _ _ _ _ _ _ _ _ _ _ _ _ _ _ _ _ _ _ _ _ _ _ _ _ _ _ _ _ _ _ _ _ _ _ _ _ _ _ _ _ h0 hy h74 htl hth hS hL
  | succ k ih =>
    intro i S C th g0 g4 g5 g6 g7 g8 g9 g10 g11 g12 g13 g17 g18 g19 g20 g21 g22 g23 g24 g25 g26 g27 g28 g29 g30 g31 g32 g33 g34 g35 g36 g37 g38 g39 g40 g41 g42 g43 g44 g45 g46 g47 g48 g49 g50 g51 g52 g53 g54 g55 g56 g57 g58 g59 g60 g61 g62 g63 g64 g65 g66 g67 g68 g69 g70 g71 g72 g73 g74 g75 g76 g77 g78 g79 g80 g81 g82 g83 g84 g85 g86 g87 g88 g89 g90 g91 g92 g93 g94 g95 g96 g97 g98 g99 g100 g101 g102 g103 g104 g105 g106 g107 g108 g109 g110 g111 g112 g113 g114 g115 g116 g117 g118 g119 g120 g121 g122 g123 g124 g125 g126 g127 g128 g129 g130 g131 g132 g133 g134 g135 g136 g137 g138 g139 g140 g141 g142 g143 g144 g145 g146 g147 hk hi2 hr0 h0 hy h74 htl hth hS hL hR
    have hlt : i < used.length := by omega
    have hix : ∀ S : Store, indexAddrV Try.prog S 40 (.d (encB used)) (.d (.int .i64 (i : Int))) = some (.d (.ptr (.int .u8 (used[i].toNat : Int)))) := fun S => ix40 (S := S) (l := used) hlt
    have hI1 : IntKind.i64.wrap (l.inodes - 1) = ((I - 1 : Nat) : Int) := by rw [hli, wrap64 (by omega)]; omega
    have hrem : binV Try.prog .rem 3 (.d (.int .i64 (used[i].toNat : Int))) (.d (.int .i64 ((I - 1 : Nat) : Int))) = some (.d (.int .i64 ((used[i].toNat % (I - 1) : Nat) : Int))) := bv_rem (by omega) (by rw [Int.tmod_eq_emod_of_nonneg (by omega)]; rfl)
    have hadd : IntKind.i64.wrap (2 + ((used[i].toNat % (I - 1) : Nat) : Int)) = ((inoU I used[i] : Nat) : Int) := by
      have := Nat.mod_lt used[i].toNat (show 0 < I - 1 by omega)
      rw [wrap64 (by omega)]
      unfold inoU
      omega
    have hu1 : 2 ≤ inoU I used[i] ∧ inoU I used[i] ≤ I := by
      have := Nat.mod_lt used[i].toNat (show 0 < I - 1 by omega)
      unfold inoU
      omega
    generalize hui : inoU I used[i] = u at *
    have h3 : IntKind.i64.wrap ((i : Int) + 1) = ((i + 1 : Nat) : Int) := by rw [wrap64 (by omega)]; omega
    have hia := fun S => ia74 (S := S) (j := a74) (x := 0) (i := u) (by omega)
    have hr74 := rowE_of (e := 74) h74
    have hp74 := fun v => putRow_of (y := v) (e := 74) h74
    have hput := bools_put (t := th) (i := u) (b := true) (by omega)
    have hax : a74 ≠ x := by rintro rfl; have := getE h74 hS.hx; simp at this
    have hay : a74 ≠ y := by rintro rfl; have := getE h74 hy; simp at this
    have ha0 : a74 ≠ 0 := by rintro rfl; have := getE h74 h0; simp at this
    have harr : a74 ≠ r := by
      rintro rfl
      obtain ⟨_, _, _, _, _, _, _, _, h, _⟩ := hS.ca
      have := getE h74 h.dk.hr
      simp at this
    -- the store behind the mark
    have hS1 : StoreP (S.set a74 (.row [boolsV (th.set u true)] 74)) x c r m mk l 0 C (fun _ => none) := by
      refine ⟨by rw [List.getElem?_set_ne hax]; exact hS.hx, hS.ca.set1 h74 rfl harr, ?_, hS.ne, hS.hB⟩
      obtain ⟨L, q, e1, e2⟩ := hS.mp
      exact ⟨L, q, by rw [List.getElem?_set_ne (by rintro rfl; cases getE h74 e1)]; exact e1, e2⟩
    have hy1 : (S.set a74 (.row [boolsV (th.set u true)] 74))[y]? = some (.row [allV x gm] 124) := by rw [List.getElem?_set_ne hay]; exact hy
    have hst := fun {ops dst k T F Q} => wr_callE (ops := ops) (dst := dst) (l := k) (T := T) (F := F) (Q := Q) rfl (astore_ok _ y x gm hy1)
    have hlast : C.last ≤ 40 := by rw [hL.last, List.length_map, List.length_take]; omega
    obtain ⟨o, S2, ⟨hF2, hS2, rfl⟩, hE⟩ := evS_eq (setino_ok _ x c r m mk l C _ hS1 hb hi hm u (by omega) (by rw [hli]; omega) (inoV ⟨1, 1, 0, 0, 0, 0, 0, 0, 0, 0, 0⟩) ⟨1, 1, 0, 0, 0, 0, 0, 0, 0, 0, 0⟩ (.inr rfl) fileI rfl iput_file (.ts []) [] [] (.inr (.inl rfl)) (by simp) (fun S1 v h1 h2 => needed_nil S1 c r m C h1 v h2) List.Pairwise.nil (by simp) (by omega))
    have hE := fun {ops dst k T F Q} => wr_callE (ops := ops) (dst := dst) (l := k) (T := T) (F := F) (Q := Q) rfl hE
    have hr0' := hr0
    have hst4 : ∀ v, storeV Try.prog S 4 (.ref a74 0 u) v = storeO S a74 0 (storeR Try.prog 4 u v (boolsV th)) := fun v => storeV_row hr74
    rw [wk_of]
    refine wk_loop ?_
    conv => arg 2; whnf
    have hlt' : (i : Int) < (used.length : Int) := by omega
    simp (maxSteps := 1000000) (disch := first | assumption | omega | rfl) only [↓vmp, vme, vmb, ty, hP, dec_t, dec_f, wrap64, List.length_map, Int.toNat_natCast, Nat.reduceAdd, List.cons_append, List.nil_append, Option.map_some, Option.map_none, strOf_mk, sb_eql, sb_neq, vmg, ↓vgd, ↓vst, ↓vix, len40b]
    refine wk_draw (is := [0, 1, 2, 3, 4, 5, 6, 7, 8, 9, 10]) (h := 0) (by kernel_rfl) (by kernel_rfl) ?_
    simp (maxSteps := 1000000) (disch := first | assumption | omega | rfl) only [List.replicate_zero, eq_self, vmd, vmk, vmo, vmg, vme, vmb, ty, hP, dec_t, dec_f, wrap64, List.length_map, Int.toNat_natCast, Nat.reduceAdd, ↓vgd, ↓vst, ↓vix, vso, List.append_nil, hix, cv53, hr0, fr24_1, lr24_1, hI1, hrem, hadd]
    refine ⟨by kernel_rfl, ?_⟩
    simp (maxSteps := 1000000) (disch := first | assumption | omega | rfl) only [↓vmp, vme, vmb, ty, hP, dec_t, dec_f, wrap64, List.length_map, Int.toNat_natCast, Nat.reduceAdd, List.cons_append, List.nil_append, Option.map_some, Option.map_none, strOf_mk, sb_eql, sb_neq, vmg, ↓vgd, ↓vst, ↓vix, hia, hst4, hput, hp74, hst, bo36, bdFile, one_ino, hE, bo25, h3]
    have h02 : S2[0]? = some (.row [.d (encLay l)] 24) := hF2.row (by rw [List.getElem?_set_ne ha0]; exact h0) rfl
    have hy2 : S2[y]? = some (.row [allV x gm] 124) := hF2.row hy1 rfl
    have h742 : S2[a74]? = some (.row [boolsV (th.set u true)] 74) := hF2.row (List.getElem?_set_self (getLen h74)) rfl
    have htk : (used.take (i + 1)).map (inoU I) = (used.take i).map (inoU I) ++ [u] := by
      rw [List.take_add_one, List.getElem?_eq_getElem hlt, List.map_append]
      simp [hui]
    refine ih (i + 1) S2 _ (th.set u true) _ _ _ _ _ _ _ _ _ _ _ _ _ _ _ _ _ _ _ _ _ _ _ _ _ _ _ _ _ _ _ _ _ _ _ _ _ _ _ _ _ _ _ _ _ _ _ _ _ _ _ _ _ _ _ _ _ _ _ _ _ _ _ _ _ _ _ _ _ _ _ _ _ _ _ _ _ _ _ _ _ _ _ _ _ _ _ _ _ _ _ _ _ _ _ _ _ _ _ _ _ _ _ _ _ _ _ _ _ _ _ _ _ _ _ _ _ _ _ _ _ _ _ _ _ _ _ _ _ _ _ _ _ _ _ _ _ _ _ _ _ _ (by omega) (by omega) (rowE_of (e := 24) h02) h02 hy2 h742 (by rw [List.length_set]; exact htl) ?_ hS2 ?_ hR
    · intro n hn
      rw [List.length_set] at hn
      rw [htk, List.getElem_set]
      by_cases e : u = n
      · rw [if_pos e]
        subst e
        simp
      · rw [if_neg e, hth n hn]
        have : n ≠ u := fun h => e h.symm
        simp [this]
    · rw [htk]
      have hno : 2 + (u - 1) / 8 < B := by
        have := hm.2.2.2.2.2
        rw [hlb, hli, Int.tdiv_eq_ediv_of_nonneg (by omega)] at this
        have h5 := hm.2.2.2.2.1
        rw [hli, Int.tmod_eq_emod_of_nonneg (by omega)] at h5
        omega
      exact hL.next hS.ca.ok (by omega) hno
end Go.Proofs.Ytobgdmgldagjkaa
end
/-! AllocNils: the statement's code, whole. -/
section
set_option linter.unusedVariables false
set_option linter.unusedSimpArgs false
set_option maxRecDepth 100000
set_option maxHeartbeats 4000000
namespace Go.Proofs.Ytobgdmgldagjkaa
open Go.Vm
theorem nilC (us : List Nat) (N : Nat) (hN : N ≤ 128) (a74 : Nat) (th : List Bool) (htl : th.length = 129) (hth : ∀ n (h : n < th.length), th[n] = decide (n ∈ us)) (S : Store) (h74 : S[a74]? = some (.row [boolsV th] 74)) (y : Nat) (R : Post) :
   ∀ (k j want many : Nat) (g0 g1 g2 g4 g5 g6 g7 g8 g9 g10 g11 g12 g13 g16 g17 g21 g22 g23 g24 g25 g26 g27 g28 g29 g30 g31 g32 g33 g34 g35 g36 g37 g38 g39 g40 g41 g42 g43 g44 g45 g46 g47 g48 g49 g50 g51 g52 g53 g54 g55 g56 g57 g58 g59 g60 g61 g62 g63 g64 g65 g66 g67 g68 g69 g70 g71 g72 g73 g74 g75 g76 g77 g78 g79 g80 g81 g82 g83 g84 g85 g86 g87 g88 g89 g90 g91 g92 g93 g94 g95 g96 g97 g98 g99 g100 g101 g102 g103 g104 g105 g106 g107 g108 g109 g110 g111 g112 g113 g114 g115 g116 g117 g118 g119 g120 g121 g122 g123 g124 g125 g126 g127 g128 g129 g130 g131 g132 g133 g134 g135 g136 g137 g138 g139 g140 g141 g142 g143 g144 g145 g146 g147 : V), j - 1 = k → 1 ≤ j → j ≤ N → want = (upF us N (j + 1)).headD 0 → many = (upF us N (j + 1)).length →
   (∀ j' g0 g1 g2 g4 g5 g6 g7 g8 g9 g10 g11 g12 g13 g16 g17 g21 g22 g23 g24 g25 g26 g27 g28 g29 g30 g31 g32 g33 g34 g35 g36 g37 g38 g39 g40 g41 g42 g43 g44 g45 g46 g47 g48 g49 g50 g51 g52 g53 g54 g55 g56 g57 g58 g59 g60 g61 g62 g63 g64 g65 g66 g67 g68 g69 g70 g71 g72 g73 g74 g75 g76 g77 g78 g79 g80 g81 g82 g83 g84 g85 g86 g87 g88 g89 g90 g91 g92 g93 g94 g95 g96 g97 g98 g99 g100 g101 g102 g103 g104 g105 g106 g107 g108 g109 g110 g111 g112 g113 g114 g115 g116 g117 g118 g119 g120 g121 g122 g123 g124 g125 g126 g127 g128 g129 g130 g131 g132 g133 g134 g135 g136 g137 g138 g139 g140 g141 g142 g143 g144 g145 g146 g147, R (.exit 2) (g0 :: g1 :: g2 :: (.ref 0 0 0) :: g4 :: g5 :: g6 :: g7 :: g8 :: g9 :: g10 :: g11 :: g12 :: g13 :: (.ref y 0 0) :: (.ref a74 0 0) :: g16 :: g17 :: (.d (.int .i64 (((upF us N 2).headD 0 : Nat) : Int))) :: (.d (.int .i64 ((upF us N 2).length : Int))) :: j' :: g21 :: g22 :: g23 :: g24 :: g25 :: g26 :: g27 :: g28 :: g29 :: g30 :: g31 :: g32 :: g33 :: g34 :: g35 :: g36 :: g37 :: g38 :: g39 :: g40 :: g41 :: g42 :: g43 :: g44 :: g45 :: g46 :: g47 :: g48 :: g49 :: g50 :: g51 :: g52 :: g53 :: g54 :: g55 :: g56 :: g57 :: g58 :: g59 :: g60 :: g61 :: g62 :: g63 :: g64 :: g65 :: g66 :: g67 :: g68 :: g69 :: g70 :: g71 :: g72 :: g73 :: g74 :: g75 :: g76 :: g77 :: g78 :: g79 :: g80 :: g81 :: g82 :: g83 :: g84 :: g85 :: g86 :: g87 :: g88 :: g89 :: g90 :: g91 :: g92 :: g93 :: g94 :: g95 :: g96 :: g97 :: g98 :: g99 :: g100 :: g101 :: g102 :: g103 :: g104 :: g105 :: g106 :: g107 :: g108 :: g109 :: g110 :: g111 :: g112 :: g113 :: g114 :: g115 :: g116 :: g117 :: g118 :: g119 :: g120 :: g121 :: g122 :: g123 :: g124 :: g125 :: g126 :: g127 :: g128 :: g129 :: g130 :: g131 :: g132 :: g133 :: g134 :: g135 :: g136 :: g137 :: g138 :: g139 :: g140 :: g141 :: g142 :: g143 :: g144 :: g145 :: g146 :: g147 :: []) S []) →
   Wp cfg (.loop (lpOf (Try.f5.body.getD .skip) 2)) (g0 :: g1 :: g2 :: (.ref 0 0 0) :: g4 :: g5 :: g6 :: g7 :: g8 :: g9 :: g10 :: g11 :: g12 :: g13 :: (.ref y 0 0) :: (.ref a74 0 0) :: g16 :: g17 :: (.d (.int .i64 (want : Int))) :: (.d (.int .i64 (many : Int))) :: (.d (.int .i64 (j : Int))) :: g21 :: g22 :: g23 :: g24 :: g25 :: g26 :: g27 :: g28 :: g29 :: g30 :: g31 :: g32 :: g33 :: g34 :: g35 :: g36 :: g37 :: g38 :: g39 :: g40 :: g41 :: g42 :: g43 :: g44 :: g45 :: g46 :: g47 :: g48 :: g49 :: g50 :: g51 :: g52 :: g53 :: g54 :: g55 :: g56 :: g57 :: g58 :: g59 :: g60 :: g61 :: g62 :: g63 :: g64 :: g65 :: g66 :: g67 :: g68 :: g69 :: g70 :: g71 :: g72 :: g73 :: g74 :: g75 :: g76 :: g77 :: g78 :: g79 :: g80 :: g81 :: g82 :: g83 :: g84 :: g85 :: g86 :: g87 :: g88 :: g89 :: g90 :: g91 :: g92 :: g93 :: g94 :: g95 :: g96 :: g97 :: g98 :: g99 :: g100 :: g101 :: g102 :: g103 :: g104 :: g105 :: g106 :: g107 :: g108 :: g109 :: g110 :: g111 :: g112 :: g113 :: g114 :: g115 :: g116 :: g117 :: g118 :: g119 :: g120 :: g121 :: g122 :: g123 :: g124 :: g125 :: g126 :: g127 :: g128 :: g129 :: g130 :: g131 :: g132 :: g133 :: g134 :: g135 :: g136 :: g137 :: g138 :: g139 :: g140 :: g141 :: g142 :: g143 :: g144 :: g145 :: g146 :: g147 :: []) S [] R := by
  intro k
  induction k with
  | zero =>
    intro j want many g0 g1 g2 g4 g5 g6 g7 g8 g9 g10 g11 g12 g13 g16 g17 g21 g22 g23 g24 g25 g26 g27 g28 g29 g30 g31 g32 g33 g34 g35 g36 g37 g38 g39 g40 g41 g42 g43 g44 g45 g46 g47 g48 g49 g50 g51 g52 g53 g54 g55 g56 g57 g58 g59 g60 g61 g62 g63 g64 g65 g66 g67 g68 g69 g70 g71 g72 g73 g74 g75 g76 g77 g78 g79 g80 g81 g82 g83 g84 g85 g86 g87 g88 g89 g90 g91 g92 g93 g94 g95 g96 g97 g98 g99 g100 g101 g102 g103 g104 g105 g106 g107 g108 g109 g110 g111 g112 g113 g114 g115 g116 g117 g118 g119 g120 g121 g122 g123 g124 g125 g126 g127 g128 g129 g130 g131 g132 g133 g134 g135 g136 g137 g138 g139 g140 g141 g142 g143 g144 g145 g146 g147 hk h1 hj hw hmn hR
    have hj1 : j = 1 := by omega
    subst hj1
    subst hw
    subst hmn
    rw [wk_of]
    refine wk_loop ?_
    conv => arg 2; whnf
    simp only [nl1]
    simp (maxSteps := 1000000) (disch := first | assumption | omega | rfl) only [↓vmp, vme, vmb, ty, hP, dec_t, dec_f, wrap64, List.length_map, Int.toNat_natCast, Nat.reduceAdd, List.cons_append, List.nil_append, Option.map_some, Option.map_none, strOf_mk, sb_eql, sb_neq, vmg, ↓vgd, ↓vst, ↓vix]
    exact hR _ _ _ _ _ _ _ _ _ _ _ _ _ _ _ _ _ _ _ _ _ _ _ _ _ _ _ _ _ _ _ _ _ _ _ _ _ _ _ _ _ _ _ _ _ _ _ _ _ _ _ _ _ _ _ _ _ _ _ _ _ _ _ _ _ _ _ _ _ _ _ _ _ _ _ _ _ _ _ _ _ _ _ _ _ _ _ _ _ _ _ _ _ _ _ _ _ _ _ _ _ _ _ _ _ _ _ _ _ _ _ _ _ _ _ _ _ _ _ _ _ _ _ _ _ _ _ _ _ _ _ _ _ _ _ _ _ _ _ _ _ _ _
  | succ k ih =>
    intro j want many g0 g1 g2 g4 g5 g6 g7 g8 g9 g10 g11 g12 g13 g16 g17 g21 g22 g23 g24 g25 g26 g27 g28 g29 g30 g31 g32 g33 g34 g35 g36 g37 g38 g39 g40 g41 g42 g43 g44 g45 g46 g47 g48 g49 g50 g51 g52 g53 g54 g55 g56 g57 g58 g59 g60 g61 g62 g63 g64 g65 g66 g67 g68 g69 g70 g71 g72 g73 g74 g75 g76 g77 g78 g79 g80 g81 g82 g83 g84 g85 g86 g87 g88 g89 g90 g91 g92 g93 g94 g95 g96 g97 g98 g99 g100 g101 g102 g103 g104 g105 g106 g107 g108 g109 g110 g111 g112 g113 g114 g115 g116 g117 g118 g119 g120 g121 g122 g123 g124 g125 g126 g127 g128 g129 g130 g131 g132 g133 g134 g135 g136 g137 g138 g139 g140 g141 g142 g143 g144 g145 g146 g147 hk h1 hj hw hmn hR
    have hge : (j : Int) ≥ 2 := by omega
    have hia := fun S => ia74 (S := S) (j := a74) (x := 0) (i := j) (by omega)
    have hr74 := rowE_of (e := 74) h74
    have hget := bools_get (t := th) (i := j) (by omega)
    rw [hth j (by omega)] at hget
    have hld : loadV Try.prog S 4 (.ref a74 0 j) = some (.d (.bool (decide (j ∈ us)))) := (loadV_row hr74).trans hget
    have hst := upF_step (us := us) hj
    have hlen : (upF us N (j + 1)).length ≤ 129 := by unfold upF; exact Nat.le_trans (List.length_filter_le ..) (by simp; omega)
    have hs1 : IntKind.i64.wrap ((j : Int) - 1) = ((j - 1 : Nat) : Int) := by rw [wrap64 (by omega)]; omega
    have hj2 : j - 1 + 1 = j := by omega
    have ih := ih (j - 1)
    rw [hj2] at ih
    rw [wk_of]
    refine wk_loop ?_
    conv => arg 2; whnf
    by_cases hm : j ∈ us
    · rw [decide_eq_true hm] at hld
      rw [if_pos hm, List.nil_append] at hst
      simp (maxSteps := 1000000) (disch := first | assumption | omega | rfl) only [↓vmp, vme, vmb, ty, hP, dec_t, dec_f, wrap64, List.length_map, Int.toNat_natCast, Nat.reduceAdd, List.cons_append, List.nil_append, Option.map_some, Option.map_none, strOf_mk, sb_eql, sb_neq, vmg, ↓vgd, ↓vst, ↓vix, hia, hld, un_not, Bool.not_true, hs1]
      exact ih want many _ _ _ _ _ _ _ _ _ _ _ _ _ _ _ _ _ _ _ _ _ _ _ _ _ _ _ _ _ _ _ _ _ _ _ _ _ _ _ _ _ _ _ _ _ _ _ _ _ _ _ _ _ _ _ _ _ _ _ _ _ _ _ _ _ _ _ _ _ _ _ _ _ _ _ _ _ _ _ _ _ _ _ _ _ _ _ _ _ _ _ _ _ _ _ _ _ _ _ _ _ _ _ _ _ _ _ _ _ _ _ _ _ _ _ _ _ _ _ _ _ _ _ _ _ _ _ _ _ _ _ _ _ _ _ _ _ _ _ _ _ _ (by omega) (by omega) (by omega) (by rw [hw, hst]) (by rw [hmn, hst]) hR
    · rw [decide_eq_false hm] at hld
      rw [if_neg hm] at hst
      have hs2 : IntKind.i64.wrap ((many : Int) + 1) = ((many + 1 : Nat) : Int) := by rw [wrap64 (by omega)]; omega
      have hs3 : (upF us N j).headD 0 = j := by rw [hst]; rfl
      simp (maxSteps := 1000000) (disch := first | assumption | omega | rfl) only [↓vmp, vme, vmb, ty, hP, dec_t, dec_f, wrap64, List.length_map, Int.toNat_natCast, Nat.reduceAdd, List.cons_append, List.nil_append, Option.map_some, Option.map_none, strOf_mk, sb_eql, sb_neq, vmg, ↓vgd, ↓vst, ↓vix, hia, hld, un_not, Bool.not_false, hs1, hs2]
      exact ih j (many + 1) _ _ _ _ _ _ _ _ _ _ _ _ _ _ _ _ _ _ _ _ _ _ _ _ _ _ _ _ _ _ _ _ _ _ _ _ _ _ _ _ _ _ _ _ _ _ _ _ _ _ _ _ _ _ _ _ _ _ _ _ _ _ _ _ _ _ _ _ _ _ _ _ _ _ _ _ _ _ _ _ _ _ _ _ _ _ _ _ _ _ _ _ _ _ _ _ _ _ _ _ _ _ _ _ _ _ _ _ _ _ _ _ _ _ _ _ _ _ _ _ _ _ _ _ _ _ _ _ _ _ _ _ _ _ _ _ _ _ _ _ _ _ (by omega) (by omega) (by omega) hs3.symm (by rw [hmn, hst]; simp) hR
section
variable {y z d : Nat}
theorem ne32n : binV Try.prog .neq 32 (.d .nilp) (.d .nilp) = some (.d (.bool false)) := by kernel_rfl
theorem ne64n : binV Try.prog .neq 64 (.d .nilp) (.d .nilp) = some (.d (.bool false)) := by kernel_rfl
end
theorem nils_ok (l : Lay) (hb : InB l.blocks) (hi : InB l.inodes) (hM : 0 ≤ l.merge ∧ l.merge < 18446744073709551616) (used : List UInt8) (no : Int) : Ev cfg 5 [encLay l, encB used, .int .i64 no] (.ret (.d (.bool true))) := by
  by_cases hs : ¬ (MayL l ∧ l.blocks ≤ 60) ∨ used.length > 40
  · exact nilB hb hi used no hs
  have hm : MayL l := by
    by_cases h : MayL l ∧ l.blocks ≤ 60
    · exact h.1
    · exact absurd (.inl h) hs
  have h60 : l.blocks ≤ 60 := by
    by_cases h : MayL l ∧ l.blocks ≤ 60
    · exact h.2
    · exact absurd (.inl h) hs
  have h40 : used.length ≤ 40 := by
    by_cases h : used.length > 40
    · exact absurd (.inr h) hs
    · omega
  have hm' := hm
  obtain ⟨m1, m2, m3, m4, m5, m6⟩ := hm'
  have htd : l.inodes.tdiv 8 = l.inodes / 8 := Int.tdiv_eq_ediv_of_nonneg (by omega)
  have htm : l.inodes.tmod 8 = l.inodes % 8 := Int.tmod_eq_emod_of_nonneg (by omega)
  rw [htd] at m6
  rw [htm] at m5
  obtain ⟨B, I, M, K, hl, hK, hB, hI, hI8, hMM, hK16, hKB, hIB⟩ : ∃ B I M K : Nat, l = ⟨(B : Int), (I : Int), (M : Int)⟩ ∧ 2 + l.inodes.tdiv 8 = ((2 + K : Nat) : Int) ∧ B ≤ 60 ∧ I ≤ 128 ∧ 8 ≤ I ∧ M < 18446744073709551616 ∧ K ≤ 16 ∧ 2 + K < B ∧ 2 + I / 8 ≤ B := by
    refine ⟨l.blocks.toNat, l.inodes.toNat, l.merge.toNat, (l.inodes / 8).toNat, ?_, by rw [htd]; omega, by omega, by omega, by omega, by omega, by omega, by omega, by omega⟩
    cases l
    simp only [Lay.mk.injEq]
    simp only at m1 m3 hM
    omega
  have hlb : l.blocks = (B : Int) := by rw [hl]
  have hli : l.inodes = (I : Int) := by rw [hl]
  have hc := fun {ops dst k T S F Q} => call_small (ops := ops) (dst := dst) (k := k) (T := T) (S := S) (F := F) (Q := Q) hb hi
  rw [decide_eq_true (⟨hm, h60⟩ : MayL l ∧ l.blocks ≤ 60)] at hc
  have h2 : ¬ (used.length : Int) > 40 := by omega
  refine ev_of rfl rfl body5 ?_
  show Wp cfg (Try.f5.body.getD .skip) ((.d (encLay l)) :: (.d (encB used)) :: (.d (.int .i64 no)) :: (.tup []) :: (.tup []) :: (.tup []) :: (.tup []) :: (.tup []) :: (.tup []) :: (.tup []) :: (.tup []) :: (.tup []) :: (.tup []) :: (.tup []) :: (.tup []) :: (.tup []) :: (.tup []) :: (.tup []) :: (.tup []) :: (.tup []) :: (.tup []) :: (.tup []) :: (.tup []) :: (.tup []) :: (.tup []) :: (.tup []) :: (.tup []) :: (.tup []) :: (.tup []) :: (.tup []) :: (.tup []) :: (.tup []) :: (.tup []) :: (.tup []) :: (.tup []) :: (.tup []) :: (.tup []) :: (.tup []) :: (.tup []) :: (.tup []) :: (.tup []) :: (.tup []) :: (.tup []) :: (.tup []) :: (.tup []) :: (.tup []) :: (.tup []) :: (.tup []) :: (.tup []) :: (.tup []) :: (.tup []) :: (.tup []) :: (.tup []) :: (.tup []) :: (.tup []) :: (.tup []) :: (.tup []) :: (.tup []) :: (.tup []) :: (.tup []) :: (.tup []) :: (.tup []) :: (.tup []) :: (.tup []) :: (.tup []) :: (.tup []) :: (.tup []) :: (.tup []) :: (.tup []) :: (.tup []) :: (.tup []) :: (.tup []) :: (.tup []) :: (.tup []) :: (.tup []) :: (.tup []) :: (.tup []) :: (.tup []) :: (.tup []) :: (.tup []) :: (.tup []) :: (.tup []) :: (.tup []) :: (.tup []) :: (.tup []) :: (.tup []) :: (.tup []) :: (.tup []) :: (.tup []) :: (.tup []) :: (.tup []) :: (.tup []) :: (.tup []) :: (.tup []) :: (.tup []) :: (.tup []) :: (.tup []) :: (.tup []) :: (.tup []) :: (.tup []) :: (.tup []) :: (.tup []) :: (.tup []) :: (.tup []) :: (.tup []) :: (.tup []) :: (.tup []) :: (.tup []) :: (.tup []) :: (.tup []) :: (.tup []) :: (.tup []) :: (.tup []) :: (.tup []) :: (.tup []) :: (.tup []) :: (.tup []) :: (.tup []) :: (.tup []) :: (.tup []) :: (.tup []) :: (.tup []) :: (.tup []) :: (.tup []) :: (.tup []) :: (.tup []) :: (.tup []) :: (.tup []) :: (.tup []) :: (.tup []) :: (.tup []) :: (.tup []) :: (.tup []) :: (.tup []) :: (.tup []) :: (.tup []) :: (.tup []) :: (.tup []) :: (.tup []) :: (.tup []) :: (.tup []) :: (.tup []) :: (.tup []) :: (.tup []) :: (.tup []) :: (.tup []) :: (.tup []) :: (.tup []) :: []) [] [] _
  conv => arg 2; whnf
  have l0 := z256
  have n1 := fun {ops dst k T F Q} S u => wr_callE (ops := ops) (dst := dst) (l := k) (T := T) (F := F) (Q := Q) rfl (take_nil S (blkV (zeros 256)) u rfl zf42)
  have n2 := fun {ops dst k T F Q} S => wr_callE (ops := ops) (dst := dst) (l := k) (T := T) (F := F) (Q := Q) rfl (next_nil S)
  have n3 := fun {ops dst k T F Q} S => wr_callE (ops := ops) (dst := dst) (l := k) (T := T) (F := F) (Q := Q) rfl (inode_nil S)
  have n4 := fun {ops dst k T F Q} S v u => wr_callE (ops := ops) (dst := dst) (l := k) (T := T) (F := F) (Q := Q) rfl (give_nil S v u)
  have n5 := fun {ops dst k T F Q} S => wr_callE (ops := ops) (dst := dst) (l := k) (T := T) (F := F) (Q := Q) rfl (free_nil S)
  have n6 := fun {ops dst k T F Q} S => wr_callE (ops := ops) (dst := dst) (l := k) (T := T) (F := F) (Q := Q) rfl (Inodes_nil S)
  have n7 := fun {ops dst k T F Q} S v => wr_callE (ops := ops) (dst := dst) (l := k) (T := T) (F := F) (Q := Q) rfl (gone_nil S v)
  have n8 := fun {ops dst k T F Q} S => wr_callE (ops := ops) (dst := dst) (l := k) (T := T) (F := F) (Q := Q) rfl (astore_nil S)
  have n9 := fun {ops dst k T F Q} S => wr_callE (ops := ops) (dst := dst) (l := k) (T := T) (F := F) (Q := Q) rfl (anew_nil S)
  have w0 : IntKind.i64.wrap (0 + 0) = 0 := by decide
  obtain ⟨o, S1, ⟨hK1, y, x, c, r, m, mk, gm, rfl, hy, hgm, g1, g2, hS1⟩, hE⟩ := evS_eq (abegin_ok [Ob.row [.d (encLay l)] 24, .row [blkV (zeros 256)] 42, .row [.d (.int .i64 0)] 3, .row [.d (.bool false)] 4, .row [.d (.int .i64 0)] 3, .row [.d (.bool false)] 4, .row [.d (.int .i64 0)] 3, .row [.d (.bool false)] 4, .row [.d (.int .i64 0)] 3, .row [.d (.int .i64 0)] 3] l B I M K hl (by omega) hI hMM hm hK hK16 hKB)
  have hE := fun {ops dst k T F Q} => wr_callE (ops := ops) (dst := dst) (l := k) (T := T) (F := F) (Q := Q) rfl hE
  have h00 := hK1 0 (.row [.d (encLay l)] 24) rfl
  have lts : ∀ S : Store, builtinV Try.prog S .len [46] [.ts []] = some (.val (.d (.int .i64 0)) S 0) := fun S => len_ts Try.underlying46
  simp (maxSteps := 1000000) (disch := first | assumption | omega | rfl) only [↓vmp, vme, vmb, ty, hP, dec_t, dec_f, wrap64, List.length_map, Int.toNat_natCast, Nat.reduceAdd, List.cons_append, List.nil_append, Option.map_some, Option.map_none, strOf_mk, sb_eql, sb_neq, vmg, ↓vgd, ↓vst, ↓vix, ↓vbs, lr24, hc, bo27, un_not, Bool.not_true, len40b, dec_True, bd42, one_v, n1, bo29, n2, bo30, n3, bo31, n4, bo32, n5, bo33, n6, bo34, n7, bo35, n8, bo36, n9, bo37, w0, lts, ne32n, ne64n, hE, bo38, eq64f, z74, zf74]
  have hk1 : ∀ o : Ob, Keep S1 (S1 ++ [o]) := fun o => Keep.refl.app
  refine nilA used h40 l B I M K hl hB hI hI8 hm hIB y x c r m mk gm S1.length no _ used.length 0 _ (C0 B I M K) (List.replicate 129 false) _ _ _ _ _ _ _ _ _ _ _ _ _ _ _ _ _ _ _ _ _ _ _ _ _ _ _ _ _ _ _ _ _ _ _ _ _ _ _ _ _ _ _ _ _ _ _ _ _ _ _ _ _ _ _ _ _ _ _ _ _ _ _ _ _ _ _ _ _ _ _ _ _ _ _ _ _ _ _ _ _ _ _ _ _ _ _ _ _ _ _ _ _ _ _ _ _ _ _ _ _ _ _ _ _ _ _ _ _ _ _ _ _ _ _ _ _ _ _ _ _ _ _ _ _ _ _ _ _ _ _ _ _ _ _ _ _ _ _ _ _ _ rfl (Nat.zero_le _) (rowE_of (e := 24) (hk1 _ _ _ h00)) (hk1 _ _ _ h00) (hk1 _ _ _ hy) (by rw [List.getElem?_append_right (Nat.le_refl _), Nat.sub_self]; rfl) (List.length_replicate ..) (fun n hn => by rw [List.getElem_replicate, List.take_zero]; rfl) (hS1.keep (hk1 _)) LaidC.zero ?_
  intro S C th i' g0 g4 g5 g6 g7 g8 g9 g10 g11 g12 g13 g17 g18 g19 g20 g21 g22 g23 g24 g25 g26 g27 g28 g29 g30 g31 g32 g33 g34 g35 g36 g37 g38 g39 g40 g41 g42 g43 g44 g45 g46 g47 g48 g49 g50 g51 g52 g53 g54 g55 g56 g57 g58 g59 g60 g61 g62 g63 g64 g65 g66 g67 g68 g69 g70 g71 g72 g73 g74 g75 g76 g77 g78 g79 g80 g81 g82 g83 g84 g85 g86 g87 g88 g89 g90 g91 g92 g93 g94 g95 g96 g97 g98 g99 g100 g101 g102 g103 g104 g105 g106 g107 g108 g109 g110 g111 g112 g113 g114 g115 g116 g117 g118 g119 g120 g121 g122 g123 g124 g125 g126 g127 g128 g129 g130 g131 g132 g133 g134 g135 g136 g137 g138 g139 g140 g141 g142 g143 g144 g145 g146 g147 h0 hy h74 htl hth hS hL
  generalize hus : used.map (inoU I) = us at *
  have hr0 := rowE_of (e := 24) h0
  have hup0 : upF us I (I + 1) = [] := upF_end
  have hlc := nilC us I hI S1.length th htl hth S h74 y
  simp (maxSteps := 1000000) (disch := first | assumption | omega | rfl) only [↓vmp, vme, vmb, ty, hP, dec_t, dec_f, wrap64, List.length_map, Int.toNat_natCast, Nat.reduceAdd, List.cons_append, List.nil_append, Option.map_some, Option.map_none, strOf_mk, sb_eql, sb_neq, vmg, ↓vgd, ↓vst, ↓vix, fr24_1, hr0, lr24_1, hli]
  have hsee : SeenAt S S.length y x c r m mk gm l 0 C := ⟨hy, hS.hx, CacheIn.of hS.ca⟩
  have hcl : ∀ ino : Nat, 2 ≤ ino → (ino : Int) ≤ l.inodes → ∃ bb, Ev cfg 114 [blkD (slotB (C.see (2 + (ino - 1) / 8)) ((ino - 1) % 8))] (.ret (.tup [.d (encIno (inoL us ino)), .d (.bool bb)])) := fun ino h1 h2 => hL.clean h1 (by omega)
  obtain ⟨o, S2, ⟨rfl, hC2, hF2⟩, hE2⟩ := evS_eq (Inode_ok S S.length y x c r m mk gm l 0 C hsee hS.hB hb hi hm (inoL us) hcl I hli)
  have hE2 := fun {ops dst k T F Q} => wr_callE (ops := ops) (dst := dst) (l := k) (T := T) (F := F) (Q := Q) rfl hE2
  have hsee2 : SeenAt S2 S2.length y x c r m mk gm l 0 C := ⟨hF2.row hy rfl, hF2.row hS.hx rfl, CacheIn.of hC2.at⟩
  obtain ⟨o, S3, ⟨rfl, hC3, hF3⟩, hE3⟩ := evS_eq (Inodes_ok S2 S2.length y x c r m mk gm l 0 C hsee2 hS.hB hb hi hm (inoL us) hcl I hli)
  have hE3 := fun {ops dst k T F Q} => wr_callE (ops := ops) (dst := dst) (l := k) (T := T) (F := F) (Q := Q) rfl hE3
  rw [← upF_two] at hE2 hE3
  refine hlc _ (I - 1) I 0 0 _ _ _ _ _ _ _ _ _ _ _ _ _ _ _ _ _ _ _ _ _ _ _ _ _ _ _ _ _ _ _ _ _ _ _ _ _ _ _ _ _ _ _ _ _ _ _ _ _ _ _ _ _ _ _ _ _ _ _ _ _ _ _ _ _ _ _ _ _ _ _ _ _ _ _ _ _ _ _ _ _ _ _ _ _ _ _ _ _ _ _ _ _ _ _ _ _ _ _ _ _ _ _ _ _ _ _ _ _ _ _ _ _ _ _ _ _ _ _ _ _ _ _ _ _ _ _ _ _ _ _ _ _ _ _ _ _ _ _ _ _ _ rfl (by omega) (Nat.le_refl _) (by rw [hup0]; rfl) (by rw [hup0]; rfl) ?_
  intro j' g0 g1 g2 g4 g5 g6 g7 g8 g9 g10 g11 g12 g13 g16 g17 g21 g22 g23 g24 g25 g26 g27 g28 g29 g30 g31 g32 g33 g34 g35 g36 g37 g38 g39 g40 g41 g42 g43 g44 g45 g46 g47 g48 g49 g50 g51 g52 g53 g54 g55 g56 g57 g58 g59 g60 g61 g62 g63 g64 g65 g66 g67 g68 g69 g70 g71 g72 g73 g74 g75 g76 g77 g78 g79 g80 g81 g82 g83 g84 g85 g86 g87 g88 g89 g90 g91 g92 g93 g94 g95 g96 g97 g98 g99 g100 g101 g102 g103 g104 g105 g106 g107 g108 g109 g110 g111 g112 g113 g114 g115 g116 g117 g118 g119 g120 g121 g122 g123 g124 g125 g126 g127 g128 g129 g130 g131 g132 g133 g134 g135 g136 g137 g138 g139 g140 g141 g142 g143 g144 g145 g146 g147
  have hpos : ∀ i' : Decidable (((upF us I 2).length : Int) > 0), @decide (((upF us I 2).length : Int) > 0) i' = decide (upF us I 2 ≠ []) := fun i' => by
    by_cases hq : upF us I 2 = []
    · exact (decide_eq_false (by rw [hq]; simp)).trans (decide_eq_false (fun h => h hq)).symm
    · have := List.length_pos_iff.2 hq
      exact (decide_eq_true (by omega)).trans (decide_eq_true hq).symm
  have hbe : ∀ b : Bool, binV Try.prog .eql 4 (.d (.bool b)) (.d (.bool b)) = some (.d (.bool true)) := fun b => by cases b <;> kernel_rfl
  simp (maxSteps := 1000000) (disch := first | assumption | omega | rfl) only [↓vmp, vme, vmb, ty, hP, dec_t, dec_f, wrap64, List.length_map, Int.toNat_natCast, Nat.reduceAdd, List.cons_append, List.nil_append, Option.map_some, Option.map_none, strOf_mk, sb_eql, sb_neq, vmg, ↓vgd, ↓vst, ↓vix, hE2, bo31, hE3, bo34, deq, hpos, hbe, call_works31, bo28, dec_True]
  exact retQ_one rfl rfl rfl
end Go.Proofs.Ytobgdmgldagjkaa
end
