/- super.Put, super.Get: the first block of a device. -/
import Derived.Test.YtobgdmgldagjkaaF07
/-! super.Put, super.Get: the first block of a device. -/
section
set_option linter.unusedVariables false
set_option linter.unusedSimpArgs false
set_option maxRecDepth 100000
set_option maxHeartbeats 4000000
namespace Go.Proofs.Ytobgdmgldagjkaa
open Go.Vm
section
variable {ops : Array Oper} {dst : Option Tmp} {k : List Oper} {T : List V} {S : Store} {F : Dfs} {Q : Post}
theorem wl_pair' {o o2 : Oper} {T2 : List V} (h : litPair cfg.P T o (o2 :: k) = some T2) : WpL cfg ops (o :: o2 :: k) T S F Q = WpL cfg ops k T2 S F Q := by
  have e : ∀ n, seqV cfg (run cfg n) ops (o :: o2 :: k) T S F = seqV cfg (run cfg n) ops k T2 S F := fun n => by
    conv => lhs; unfold seqV
    simp only [h]
  unfold WpL
  simp only [e]
theorem wl_magic {d : Nat} {dst2 : Option Tmp} {ty ty2 : TypeId} {pos pos2 : String} {af af2 : Array Edge} (hd : Nat.ble (d + 1) T.length = true) :
    WpL cfg ops (⟨some d, .buildSlice 40 8 #[(0, .const (.int .u8 101)), (1, .const (.int .u8 115)), (2, .const (.int .u8 99)), (3, .const (.int .u8 104)), (4, .const (.int .u8 101)), (5, .const (.int .u8 97)), (6, .const (.int .u8 116)), (7, .const (.int .u8 49))], ty, pos, af, none⟩ :: ⟨dst2, .convert 40 40 (.tmp d), ty2, pos2, af2, none⟩ :: k) T S F Q = WpL cfg ops k (putT (putT T (some d) .junk) dst2 (.ts (magicB.map byD))) S F Q := by
  refine wl_pair' ?_
  have hd' : d < T.length := Nat.le_of_ble_eq_true hd
  have hu : Try.prog.underlying 40 = some (.slice 5) := Try.underlying40
  unfold litPair
  simp only
  rw [if_pos ⟨rfl, rfl, trivial, trivial, trivial, hd'⟩]
  rfl
end
theorem nl65536 : ((65536 : Nat) : Int) = 65536 := rfl
theorem call_check {ops : Array Oper} {dst : Option Tmp} {k : List Oper} {T : List V} {S : Store} {F : Dfs} {Q : Post} {l : Lay} (hb : InB l.blocks) (hi : InB l.inodes) : WpR cfg ops dst k T S F Q (some (.enter 67 [.d (encLay l)])) = WpL cfg ops k (putT T dst (.d (.int .i64 (if MayL l then 0 else 1)))) S F Q :=
  wr_call_d (ds := [encLay l]) rfl (check_ok l hb hi)
theorem call_Of {ops : Array Oper} {dst : Option Tmp} {k : List Oper} {T : List V} {S : Store} {F : Dfs} {Q : Post} : WpR cfg ops dst k T S F Q (some (.enter 86 [.ts (magicB.map byD)])) = WpL cfg ops k (putT T dst (.d (blkD (magicB ++ zeros 248)))) S F Q :=
  wr_call_v (ds := [encB magicB]) rfl (by kernel_rfl) (by kernel_rfl) (by rw [← (sup_way 0 0 0).1]; exact Of_ok magicB (by decide))
theorem cut_call {ops : Array Oper} {dst : Option Tmp} {k : List Oper} {T : List V} {S : Store} {F : Dfs} {Q : Post} {b : List UInt8} (hb : b.length = 256) {k0 n : Nat} (hn : 1 ≤ n) (hk0 : k0 + n ≤ 256) : WpR cfg ops dst k T S F Q (some (.enter 69 [.d (blkD b), .d (.int .i64 (k0 : Int)), .d (.int .i64 (n : Int))])) = WpL cfg ops k (putT T dst (.d (encB ((b.drop k0).take n)))) S F Q :=
  wr_call_d (ds := [blkD b, .int .i64 (k0 : Int), .int .i64 (n : Int)]) rfl (cut_ok b hb k0 n hn hk0)
theorem mix_call {ops : Array Oper} {dst : Option Tmp} {k : List Oper} {T : List V} {S : Store} {F : Dfs} {Q : Post} {s : List UInt8} (hs : s.length ≤ 1000000) : WpR cfg ops dst k T S F Q (some (.enter 90 [.d (.str s)])) = WpL cfg ops k (putT T dst (.d (.int .u32 (hashL s : Int)))) S F Q :=
  wr_call_d (ds := [.str s]) rfl (mix_ok s hs)
theorem bytesD_B {l : List UInt8} : bytesD (l.map fun b => V.d (.int .u8 b.toNat)) = some l := by
  induction l with
  | nil => rfl
  | cons b r ih =>
    simp only [List.map_cons, bytesD, ih]
    rw [Int.toNat_natCast, UInt8.ofNat_toNat]
theorem retQ_ct {P : Program} {T : List V} {S : Store} {t a u : Nat} {v w x : V} {d e : D} (hv : T.getD t (.tup []) = v) (ha : T.getD a (.tup []) = w) (hl : loadV P S u w = some x) (h1 : v.one = true) (h2 : x.one = true) (h3 : Go.Vm.frz S frzFuel v = some d) (h4 : Go.Vm.frz S frzFuel x = some e) : RetQ P #[.cell a u, .tmp t] (.ret (.tup [.d e, .d d])) .ret T S [] :=
  retQ_many (r1 := .cell a u) (r2 := .tmp t) (l := []) (vs := [x, v]) (ds := [e, d]) (by simp only [allO, resultV, hv, ha, hl]) (by simp [h1, h2]) (by simp only [allO, h3, h4])
theorem eqLs_self : ∀ l : List UInt8, eqLs Try.prog 5 l.length (l.map byD) (l.map byD) = some true
  | [] => rfl
  | x :: r => by
    have h : eqLeaf Try.prog 5 (byD x) (byD x) = some true := by
      have h5 : Try.prog.underlying 5 = some (.int .u8) := by kernel_rfl
      simp [eqLeaf, h5, byD]
    simp only [List.length_cons, List.map_cons, eqLs, h, eqLs_self r]
theorem neq42 {b : List UInt8} (hb : b.length = 256) : binV Try.prog .neq 42 (.d (blkD b)) (.d (blkD b)) = some (.d (.bool false)) := by
  have h1 : ptrT Try.prog 42 = false := by kernel_rfl
  have h2 : mapT Try.prog 42 = false := by kernel_rfl
  have h3 : fnT Try.prog 42 = false := by kernel_rfl
  have h4 : Try.prog.eqGuardType Try.prog.depth 42 = false := by kernel_rfl
  have h5 : sz Try.prog 5 = some 1 := by kernel_rfl
  have h6 := eqLs_self b
  rw [hb] at h6
  have h7 : eqD Try.prog 8 42 (.agg (b.map byD)) (.agg (b.map byD)) = some true := by
    simp only [eqD, Try.underlying42, h5, h6]
    rfl
  have h8 : eqV Try.prog 42 (.d (.agg (b.map byD))) (.d (.agg (b.map byD))) = some true := by
    simp only [eqV, h1, h2, h3, asD, h4, h7, Bool.false_eq_true, if_false]
  show (eqV Try.prog 42 (.d (.agg (b.map byD))) (.d (.agg (b.map byD)))).map (fun b => V.d (.bool (!b))) = _
  rw [h8]
  rfl
theorem cv409 {S : Store} {l : List UInt8} : convertV Try.prog S 40 9 (.d (encB l)) = some (.d (.str l), 1) := by
  have hu : Try.prog.underlying 9 = some .string := by kernel_rfl
  have h5 : Try.prog.underlying 5 = some (.int .u8) := by kernel_rfl
  unfold encB
  simp only [convertV, Try.underlying40, hu, h5, elemsV, List.map_map, Function.comp_def, bytesD_B, Option.map_some]
theorem cv1393 {S : Store} {h : Nat} (hh : h < 4294967296) : convertV Try.prog S 139 3 (.d (.int .u32 (h : Int))) = some (.d (.int .i64 (h : Int)), 0) := by
  have h1 : Try.prog.underlying 139 = some (.int .u32) := by kernel_rfl
  have h2 : Try.prog.underlying 3 = some (.int .i64) := by kernel_rfl
  simp only [convertV, h1, h2]
  rw [wrap64 (by omega)]
theorem len_lay0 {n v : Nat} : layB (zeros n) 0 (leB n v) = leB n v := by
  have := layB_end (a := []) (n := n) (d := leB n v) (by rw [leB_len]; omega)
  rw [leB_len, Nat.sub_self] at this
  simpa [zeros] using this
theorem dr_put {ops : Array Oper} {F : Dfs} {Q : Post} {K : List Nat → List (Nat × Nat) → List V → Store → Prop} {rd : List Nat} {cs : List (Nat × Nat)} {i id : Nat} {dst : Option Tmp} {T : List V} {S : Store} {M : Nat} (hr : S[id]? = some (.row (List.replicate 8 (.d (.int .u8 0))) 5)) :
    WpE cfg ops F Q K rd cs i dst T S (some (.enter 88 [.rs id 0 8, .d (.int .i64 0), .d (.int .i64 8), .d (.int .u64 (M : Int))])) = (bitsOk ops rd i 3 ∧ K rd (cs ++ [(i, 3)]) (putT T dst (.tup [.d (encB (leB 8 M)), .d (.bool true)])) (S.set id (.fz ((zeros 8).map byD) 5))) := by
  have hr' : S[id]? = some (rowY (zeros 8)) := hr
  have hr2 : S[id]? = some (.row (((zeros 8).map byD).map .d) 5) := hr
  refine we_call_row (ds := [encB (zeros 8), .int .i64 ((0 : Nat) : Int), .int .i64 ((8 : Nat) : Int), .int .u64 (M : Int)]) rfl ?_ ?_ hr2 rfl ?_
  · have h1 : Go.Vm.frz S frzFuel (.rs id 0 8) = some (encB (zeros 8)) := frz_Y hr' rfl
    simp only [allO, frz_d, h1]
    rfl
  · have h1 : frzIds S frzFuel (.rs id 0 8) = [id] := by
      show (match S[id]? with | some (.row xs e) => id :: xs.flatMap (frzIds S 11) | _ => []) = _
      rw [hr2]
      simp only [flat_d]
    simp only [List.flatMap_cons, h1, List.flatMap_nil, frzIds_d, List.append_nil]
  · have := put_ok (zeros 8) (by decide) (by decide) 0 8 M (by decide) (by omega) (by omega)
    rw [len_lay0] at this
    exact this
theorem put_sup (l : Lay) (B I M : Nat) (hl : l = ⟨(B : Int), (I : Int), (M : Int)⟩) (hB : B ≤ 512) (hI : I ≤ 128) (hM : M < 18446744073709551616) (hm : MayL l) : Ev cfg 48 [encLay l] (.ret (.tup [.d (blkD (supB B I M)), .d (.int .i64 0)])) := by
  refine ev_of rfl rfl body48 ?_
  show Wp cfg (Try.f48.body.getD .skip) ((.d (encLay l)) :: (.tup []) :: (.tup []) :: (.tup []) :: (.tup []) :: (.tup []) :: (.tup []) :: (.tup []) :: (.tup []) :: (.tup []) :: (.tup []) :: (.tup []) :: (.tup []) :: (.tup []) :: (.tup []) :: (.tup []) :: (.tup []) :: (.tup []) :: (.tup []) :: (.tup []) :: (.tup []) :: (.tup []) :: (.tup []) :: (.tup []) :: (.tup []) :: (.tup []) :: (.tup []) :: (.tup []) :: (.tup []) :: (.tup []) :: (.tup []) :: (.tup []) :: (.tup []) :: (.tup []) :: (.tup []) :: (.tup []) :: (.tup []) :: (.tup []) :: (.tup []) :: (.tup []) :: (.tup []) :: (.tup []) :: (.tup []) :: (.tup []) :: []) [] [] _
  conv => arg 2; whnf
  have hc := fun {ops dst k T S F Q} => call_check (ops := ops) (dst := dst) (k := k) (T := T) (S := S) (F := F) (Q := Q) (l := l) (by subst hl; unfold InB; simp only; omega) (by subst hl; unfold InB; simp only; omega)
  rw [if_pos hm] at hc
  subst hl
  obtain ⟨w1, w2, w3, w4, w5, w6⟩ := sup_way B I M
  have l1 : (magicB ++ zeros 248).length = 256 := by decide
  have l2 : ((magicB ++ leB 2 B) ++ zeros 246).length = 256 := by simp [magicB, leB_len, zeros_len]
  have l3 : ((magicB ++ leB 2 B ++ leB 2 I) ++ zeros 244).length = 256 := by simp [magicB, leB_len, zeros_len]
  have l4 : (supL B I M ++ zeros 236).length = 256 := by rw [List.length_append, supL_len, zeros_len]
  have l5 := supB_len B I M
  have hx := hashL_lt (supL B I M)
  have c1 := fun {ops dst k T S F Q} => call_with (ops := ops) (dst := dst) (k := k) (T := T) (S := S) (F := F) (Q := Q) (u := .d (blkD (magicB ++ zeros 248))) (b := magicB ++ zeros 248) isB_d l1 (k0 := 8) (w := 2) (v := B) (by omega) (by omega) (by omega)
  have c2 := fun {ops dst k T S F Q} => call_with (ops := ops) (dst := dst) (k := k) (T := T) (S := S) (F := F) (Q := Q) (u := .d (blkD ((magicB ++ leB 2 B) ++ zeros 246))) isB_d l2 (k0 := 10) (w := 2) (v := I) (by omega) (by omega) (by omega)
  have c3 := fun {ops dst k T S F Q} => call_lay (ops := ops) (dst := dst) (k := k) (T := T) (S := S) (F := F) (Q := Q) (u := .d (blkD ((magicB ++ leB 2 B ++ leB 2 I) ++ zeros 244))) (d := leB 8 M) isB_d l3 (k0 := 12) (by omega) (by rw [leB_len]; omega)
  have c4 := fun {ops dst k T S F Q} => cut_call (ops := ops) (dst := dst) (k := k) (T := T) (S := S) (F := F) (Q := Q) l4 (k0 := 0) (n := 20) (by omega) (by omega)
  have c5 := fun {ops dst k T S F Q} => mix_call (ops := ops) (dst := dst) (k := k) (T := T) (S := S) (F := F) (Q := Q) (s := supL B I M) (by rw [supL_len]; omega)
  have c6 := fun {ops dst k T S F Q} => call_with (ops := ops) (dst := dst) (k := k) (T := T) (S := S) (F := F) (Q := Q) (u := .d (blkD (supL B I M ++ zeros 236))) isB_d l4 (k0 := 20) (w := 4) (v := hashL (supL B I M)) (by omega) (by omega) (by omega)
  rw [w2] at c1
  rw [w3] at c2
  rw [w4] at c3
  rw [w5] at c4
  rw [w6] at c6
  simp only [nl0, nl1, nl2, nl4, nl8, nl10, nl12, nl16, nl20, nl256] at c1 c2 c3 c4 c5 c6
  have l0 := z256
  have hcv := fun S => cv1393 (S := S) hx
  simp (maxSteps := 1000000) (disch := first | assumption | omega | rfl) only [↓vmp, vme, vmb, ty, hP, dec_t, dec_f, wrap64, List.length_map, Int.toNat_natCast, Nat.reduceAdd, List.cons_append, List.nil_append, Option.map_some, Option.map_none, strOf_mk, sb_eql, sb_neq, vmg, ↓vgd, ↓vst, ↓vix, z42, zf42, hc, bo67]
  rw [wl_magic (by kernel_rfl)]
  simp (maxSteps := 1000000) (disch := first | assumption | omega | rfl) only [↓vmp, vme, vmb, ty, hP, dec_t, dec_f, wrap64, List.length_map, Int.toNat_natCast, Nat.reduceAdd, List.cons_append, List.nil_append, Option.map_some, Option.map_none, strOf_mk, sb_eql, sb_neq, vmg, ↓vgd, ↓vst, ↓vix, z42, zf42, call_Of, bo86, c1, c2, bo87, sdd42, sdv42, ldd42, ldv42]
  have hroom : room Try.prog 5 (8 : Int).toNat = true := by kernel_rfl
  have hz0 : fitsT Try.prog 5 (.d (.int .u8 0)) = true := by kernel_rfl
  have z5 : zeroV Try.prog 5 = some (.d (.int .u8 0)) := by kernel_rfl
  refine wk_draw (is := [1, 2, 0, 3, 4, 5, 6, 7, 8]) (h := 9) (by kernel_rfl) (by kernel_rfl) ?_
  simp (maxSteps := 1000000) (disch := first | assumption | omega | rfl) only [List.replicate_zero, eq_self, vmd, vmk, vmo, vmg, vme, vmb, ty, hP, dec_t, dec_f, wrap64, List.length_map, Int.toNat_natCast, Nat.reduceAdd, ↓vgd, ↓vst, ↓vix, vso, wa_some, ak_make, ad_make Try.underlying40 z5, mk_in hroom hz0, true_and]
  rw [show Int.toNat 8 = 8 from rfl, dr_put rfl]
  refine ⟨fun _ => by kernel_rfl, ?_⟩
  simp (maxSteps := 1000000) (disch := first | assumption | omega | rfl) only [List.replicate_zero, eq_self, vmd, vmk, vmo, vmg, vme, vmb, ty, hP, dec_t, dec_f, wrap64, List.length_map, Int.toNat_natCast, Nat.reduceAdd, ↓vgd, ↓vst, ↓vix, vso]
  refine ⟨by kernel_rfl, ?_⟩
  simp (maxSteps := 1000000) (disch := first | assumption | omega | rfl) only [↓vmp, vme, vmb, ty, hP, dec_t, dec_f, wrap64, List.length_map, Int.toNat_natCast, Nat.reduceAdd, List.cons_append, List.nil_append, Option.map_some, Option.map_none, strOf_mk, sb_eql, sb_neq, vmg, ↓vgd, ↓vst, ↓vix, c3, bo89, c4, bo69, c5, bo90, c6, bo87, cv409, hcv, sdd42, sdv42, ldd42, ldv42]
  exact retQ_ct rfl rfl ((loadV_row rfl).trans (ldd42 l5)) rfl rfl rfl rfl
theorem put_bad (l : Lay) (hb : InB l.blocks) (hi : InB l.inodes) (hm : ¬ MayL l) : Ev cfg 48 [encLay l] (.ret (.tup [.d (blkD (zeros 256)), .d (.int .i64 1)])) := by
  refine ev_of rfl rfl body48 ?_
  show Wp cfg (Try.f48.body.getD .skip) ((.d (encLay l)) :: (.tup []) :: (.tup []) :: (.tup []) :: (.tup []) :: (.tup []) :: (.tup []) :: (.tup []) :: (.tup []) :: (.tup []) :: (.tup []) :: (.tup []) :: (.tup []) :: (.tup []) :: (.tup []) :: (.tup []) :: (.tup []) :: (.tup []) :: (.tup []) :: (.tup []) :: (.tup []) :: (.tup []) :: (.tup []) :: (.tup []) :: (.tup []) :: (.tup []) :: (.tup []) :: (.tup []) :: (.tup []) :: (.tup []) :: (.tup []) :: (.tup []) :: (.tup []) :: (.tup []) :: (.tup []) :: (.tup []) :: (.tup []) :: (.tup []) :: (.tup []) :: (.tup []) :: (.tup []) :: (.tup []) :: (.tup []) :: (.tup []) :: []) [] [] _
  conv => arg 2; whnf
  have hc := fun {ops dst k T S F Q} => call_check (ops := ops) (dst := dst) (k := k) (T := T) (S := S) (F := F) (Q := Q) (l := l) hb hi
  rw [if_neg hm] at hc
  have l0 := z256
  simp (maxSteps := 1000000) (disch := first | assumption | omega | rfl) only [↓vmp, vme, vmb, ty, hP, dec_t, dec_f, wrap64, List.length_map, Int.toNat_natCast, Nat.reduceAdd, List.cons_append, List.nil_append, Option.map_some, Option.map_none, strOf_mk, sb_eql, sb_neq, vmg, ↓vgd, ↓vst, ↓vix, z42, zf42, hc, bo67, bd42, svv42]
  exact retQ_ct rfl rfl ((loadV_row rfl).trans (ldv42 z256)) rfl one_v rfl frz_v
section
variable {ops : Array Oper} {dst : Option Tmp} {k : List Oper} {T : List V} {S : Store} {F : Dfs} {Q : Post}
theorem call_get8 {b : List UInt8} (hb : b.length = 8) : WpR cfg ops dst k T S F Q (some (.enter 97 [.d (encB b), .d (.int .i64 0), .d (.int .i64 8)])) = WpL cfg ops k (putT T dst (.tup [.d (.int .u64 (leN b : Int)), .d (.bool true)])) S F Q := by
  have := get_ok b (by omega) 0 8 (by omega) (by omega) (by omega)
  rw [List.drop_zero, List.take_of_length_le (by omega)] at this
  exact wr_call_d (ds := [encB b, .int .i64 0, .int .i64 8]) rfl this
theorem call_sput {l : Lay} {v : V} (h : Ev cfg 48 [encLay l] (.ret v)) : WpR cfg ops dst k T S F Q (some (.enter 48 [.d (encLay l)])) = WpL cfg ops k (putT T dst v) S F Q :=
  wr_call_d (ds := [encLay l]) rfl h
theorem bd24 {a b : Int} {c : Int} : buildV Try.prog 24 [(0, .d (.int .i64 a)), (1, .d (.int .i64 b)), (2, .d (.int .u64 c))] = some (.agg [.d (.int .i64 a), .d (.int .i64 b), .d (.int .u64 c)]) := by kernel_rfl
theorem bd24z : buildV Try.prog 24 [] = some (.agg [.d (.int .i64 0), .d (.int .i64 0), .d (.int .u64 0)]) := by kernel_rfl
end
theorem st24 {a b a' b' : Int} {c c' : Int} : storeR Try.prog 24 0 (.agg [.d (.int .i64 a), .d (.int .i64 b), .d (.int .u64 c)]) (.agg [.d (.int .i64 a'), .d (.int .i64 b'), .d (.int .u64 c')]) = some (.agg [.d (.int .i64 a), .d (.int .i64 b), .d (.int .u64 c)]) := by kernel_rfl
theorem call_lv {ops : Array Oper} {dst : Option Tmp} {k : List Oper} {T : List V} {S : Store} {F : Dfs} {Q : Post} {a b : Int} {c : Int} {v : V} (h : Ev cfg 48 [.agg [.int .i64 a, .int .i64 b, .int .u64 c]] (.ret v)) : WpR cfg ops dst k T S F Q (some (.enter 48 [.agg [.d (.int .i64 a), .d (.int .i64 b), .d (.int .u64 c)]])) = WpL cfg ops k (putT T dst v) S F Q :=
  wr_call_v (ds := [.agg [.int .i64 a, .int .i64 b, .int .u64 c]]) rfl rfl rfl h
theorem dr_at {ops : Array Oper} {F : Dfs} {Q : Post} {K : List Nat → List (Nat × Nat) → List V → Store → Prop} {rd : List Nat} {cs : List (Nat × Nat)} {i : Nat} {dst : Option Tmp} {T : List V} {S : Store} {b : List UInt8} (hb : b.length = 256) {k0 w : Nat} (hk0 : k0 + w ≤ 256) (hw1 : 1 ≤ w) (hw4 : w ≤ 4) :
    WpE cfg ops F Q K rd cs i dst T S (some (.enter 98 [.d (blkD b), .d (.int .i64 (k0 : Int)), .d (.int .i64 (w : Int))])) = K (i :: rd) (cs ++ [(i, 1)]) (putT T dst (.d (.int .i64 (leN ((b.drop k0).take w) : Int)))) S :=
  we_call_v (ds := [blkD b, .int .i64 (k0 : Int), .int .i64 (w : Int)]) rfl rfl rfl (at_ok b hb k0 w hk0 hw1 hw4)
theorem get_sup (B I M : Nat) (hB : B ≤ 512) (hI : I ≤ 128) (hM : M < 18446744073709551616) (hm : MayL ⟨(B : Int), (I : Int), (M : Int)⟩) : Ev cfg 57 [blkD (supB B I M)] (.ret (.tup [.d (encLay ⟨(B : Int), (I : Int), (M : Int)⟩), .d (.int .i64 0)])) := by
  refine ev_of rfl rfl body57 ?_
  show Wp cfg (Try.f57.body.getD .skip) ((.d (blkD (supB B I M))) :: (.tup []) :: (.tup []) :: (.tup []) :: (.tup []) :: (.tup []) :: (.tup []) :: (.tup []) :: (.tup []) :: (.tup []) :: (.tup []) :: (.tup []) :: (.tup []) :: (.tup []) :: (.tup []) :: (.tup []) :: (.tup []) :: (.tup []) :: (.tup []) :: (.tup []) :: (.tup []) :: (.tup []) :: (.tup []) :: (.tup []) :: (.tup []) :: (.tup []) :: (.tup []) :: (.tup []) :: (.tup []) :: (.tup []) :: (.tup []) :: (.tup []) :: (.tup []) :: (.tup []) :: (.tup []) :: []) [] [] _
  conv => arg 2; whnf
  have l5 := supB_len B I M
  have hf := fd42 l5
  have hp := put_sup _ B I M rfl hB hI hM hm
  have l0 := z256
  have e1 : ((supB B I M).drop 12).take 8 = leB 8 M := by
    unfold supB supL
    simp [magicB, leB_len, List.drop_append, List.take_append]
  have c1 := fun {ops dst k T S F Q} => cut_call (ops := ops) (dst := dst) (k := k) (T := T) (S := S) (F := F) (Q := Q) l5 (k0 := 12) (n := 8) (by omega) (by omega)
  rw [e1] at c1
  have c2 := fun {ops dst k T S F Q} => call_get8 (ops := ops) (dst := dst) (k := k) (T := T) (S := S) (F := F) (Q := Q) (leB_len 8 M)
  rw [leN_leB, Nat.mod_eq_of_lt (by omega)] at c2
  simp only [nl0, nl1, nl2, nl4, nl8, nl10, nl12, nl16, nl20, nl256] at c1 c2
  simp (maxSteps := 1000000) (disch := first | assumption | omega | rfl) only [↓vmp, vme, vmb, ty, hP, dec_t, dec_f, wrap64, List.length_map, Int.toNat_natCast, Nat.reduceAdd, List.cons_append, List.nil_append, Option.map_some, Option.map_none, strOf_mk, sb_eql, sb_neq, vmg, ↓vgd, ↓vst, ↓vix, hf, c1, c2, bo69, bo97, ldd42]
  have a1 : ((supB B I M).drop 8).take 2 = leB 2 B := by
    unfold supB supL
    simp [magicB, leB_len, List.drop_append, List.take_append]
  have a2 : ((supB B I M).drop 10).take 2 = leB 2 I := by
    unfold supB supL
    simp [magicB, leB_len, List.drop_append, List.take_append]
  have d1 := fun {ops F Q K rd cs i dst T S} => dr_at (ops := ops) (F := F) (Q := Q) (K := K) (rd := rd) (cs := cs) (i := i) (dst := dst) (T := T) (S := S) l5 (k0 := 8) (w := 2) (by omega) (by omega) (by omega)
  have d2 := fun {ops F Q K rd cs i dst T S} => dr_at (ops := ops) (F := F) (Q := Q) (K := K) (rd := rd) (cs := cs) (i := i) (dst := dst) (T := T) (S := S) l5 (k0 := 10) (w := 2) (by omega) (by omega) (by omega)
  rw [a1, leN_leB, Nat.mod_eq_of_lt (by omega)] at d1
  rw [a2, leN_leB, Nat.mod_eq_of_lt (by omega)] at d2
  simp only [nl0, nl1, nl2, nl4, nl8, nl10, nl12, nl16, nl20, nl256] at d1 d2
  refine wk_draw (is := [0, 2, 4, 1, 3, 5, 6, 7]) (h := 8) (by kernel_rfl) (by kernel_rfl) ?_
  simp (maxSteps := 1000000) (disch := first | assumption | omega | rfl) only [List.replicate_zero, eq_self, vmd, vmk, vmo, vmg, vme, vmb, ty, hP, dec_t, dec_f, wrap64, List.length_map, Int.toNat_natCast, Nat.reduceAdd, ↓vgd, ↓vst, ↓vix, vso, d1, d2, bo98, ldd42, bd24, ad_alloc z24 zf24, wa_some, true_and, st24]
  refine ⟨fun _ => by kernel_rfl, ?_⟩
  refine ⟨by kernel_rfl, ?_⟩
  simp (maxSteps := 1000000) (disch := first | assumption | omega | rfl) only [↓vmp, vme, vmb, ty, hP, dec_t, dec_f, wrap64, List.length_map, Int.toNat_natCast, Nat.reduceAdd, List.cons_append, List.nil_append, Option.map_some, Option.map_none, strOf_mk, sb_eql, sb_neq, vmg, ↓vgd, ↓vst, ↓vix, call_lv hp, bo48, z42, zf42, sdv42, ldd42, neq42, st24]
  exact retQ_ct rfl rfl (x := .agg [.d (.int .i64 (B : Int)), .d (.int .i64 (I : Int)), .d (.int .u64 (M : Int))]) ((loadV_row rfl).trans (by kernel_rfl)) rfl rfl rfl rfl
theorem get_bad : Ev cfg 57 [blkD (zeros 256)] (.ret (.tup [.d (encLay ⟨0, 0, 0⟩), .d (.int .i64 13)])) := by
  refine ev_of rfl rfl body57 ?_
  show Wp cfg (Try.f57.body.getD .skip) ((.d (blkD (zeros 256))) :: (.tup []) :: (.tup []) :: (.tup []) :: (.tup []) :: (.tup []) :: (.tup []) :: (.tup []) :: (.tup []) :: (.tup []) :: (.tup []) :: (.tup []) :: (.tup []) :: (.tup []) :: (.tup []) :: (.tup []) :: (.tup []) :: (.tup []) :: (.tup []) :: (.tup []) :: (.tup []) :: (.tup []) :: (.tup []) :: (.tup []) :: (.tup []) :: (.tup []) :: (.tup []) :: (.tup []) :: (.tup []) :: (.tup []) :: (.tup []) :: (.tup []) :: (.tup []) :: (.tup []) :: (.tup []) :: []) [] [] _
  conv => arg 2; whnf
  have l0 := z256
  have hf := fd42 z256
  have hp := put_bad ⟨0, 0, 0⟩ (by unfold InB; simp only; omega) (by unfold InB; simp only; omega) (by unfold MayL; simp only; omega)
  have e1 : ((zeros 256).drop 12).take 8 = zeros 8 := by decide
  have c1 := fun {ops dst k T S F Q} => cut_call (ops := ops) (dst := dst) (k := k) (T := T) (S := S) (F := F) (Q := Q) z256 (k0 := 12) (n := 8) (by omega) (by omega)
  rw [e1] at c1
  have c2 := fun {ops dst k T S F Q} => call_get8 (ops := ops) (dst := dst) (k := k) (T := T) (S := S) (F := F) (Q := Q) (zeros_len 8)
  rw [show leN (zeros 8) = 0 from by decide] at c2
  simp only [nl0, nl1, nl2, nl4, nl8, nl10, nl12, nl16, nl20, nl256] at c1 c2
  have a1 : ((zeros 256).drop 8).take 2 = zeros 2 := by decide
  have a2 : ((zeros 256).drop 10).take 2 = zeros 2 := by decide
  have n2 : leN (zeros 2) = 0 := by decide
  have d1 := fun {ops F Q K rd cs i dst T S} => dr_at (ops := ops) (F := F) (Q := Q) (K := K) (rd := rd) (cs := cs) (i := i) (dst := dst) (T := T) (S := S) z256 (k0 := 8) (w := 2) (by omega) (by omega) (by omega)
  have d2 := fun {ops F Q K rd cs i dst T S} => dr_at (ops := ops) (F := F) (Q := Q) (K := K) (rd := rd) (cs := cs) (i := i) (dst := dst) (T := T) (S := S) z256 (k0 := 10) (w := 2) (by omega) (by omega) (by omega)
  rw [a1, n2] at d1
  rw [a2, n2] at d2
  simp only [nl0, nl1, nl2, nl4, nl8, nl10, nl12, nl16, nl20, nl256] at d1 d2
  simp (maxSteps := 1000000) (disch := first | assumption | omega | rfl) only [↓vmp, vme, vmb, ty, hP, dec_t, dec_f, wrap64, List.length_map, Int.toNat_natCast, Nat.reduceAdd, List.cons_append, List.nil_append, Option.map_some, Option.map_none, strOf_mk, sb_eql, sb_neq, vmg, ↓vgd, ↓vst, ↓vix, hf, c1, c2, bo69, bo97, ldd42]
  refine wk_draw (is := [0, 2, 4, 1, 3, 5, 6, 7]) (h := 8) (by kernel_rfl) (by kernel_rfl) ?_
  simp (maxSteps := 1000000) (disch := first | assumption | omega | rfl) only [List.replicate_zero, eq_self, vmd, vmk, vmo, vmg, vme, vmb, ty, hP, dec_t, dec_f, wrap64, List.length_map, Int.toNat_natCast, Nat.reduceAdd, ↓vgd, ↓vst, ↓vix, vso, d1, d2, bo98, ldd42, bd24, ad_alloc z24 zf24, wa_some, true_and, st24]
  refine ⟨fun _ => by kernel_rfl, ?_⟩
  refine ⟨by kernel_rfl, ?_⟩
  simp (maxSteps := 1000000) (disch := first | assumption | omega | rfl) only [↓vmp, vme, vmb, ty, hP, dec_t, dec_f, wrap64, List.length_map, Int.toNat_natCast, Nat.reduceAdd, List.cons_append, List.nil_append, Option.map_some, Option.map_none, strOf_mk, sb_eql, sb_neq, vmg, ↓vgd, ↓vst, ↓vix, call_lv hp, bo48, z42, zf42, sdv42, ldd42, neq42, st24, bd24z]
  exact retQ_ct rfl rfl (x := .agg [.d (.int .i64 0), .d (.int .i64 0), .d (.int .u64 0)]) ((loadV_row rfl).trans (by kernel_rfl)) rfl rfl rfl rfl
end Go.Proofs.Ytobgdmgldagjkaa
end
/-! The document's answer: numbers as bytes, bytes laid, a hash; what the first block is. -/
section
set_option linter.unusedVariables false
set_option linter.unusedSimpArgs false
set_option maxRecDepth 100000
set_option maxHeartbeats 4000000
namespace Go.Proofs.Ytobgdmgldagjkaa
open Go.Vm
theorem u64n {n : Nat} (h : n < 18446744073709551616) : IntKind.u64.wrap (n : Int) = (n : Int) := u64_in (by omega) (by omega)
theorem nl4294967296 : ((4294967296 : Nat) : Int) = 4294967296 := rfl
theorem remu {P : Program} {t : TypeId} {v m : Nat} (hm : m ≠ 0) : binV P .rem t (.d (.int .u64 (v : Int))) (.d (.int .u64 (m : Int))) = some (.d (.int .u64 ((v % m : Nat) : Int))) := by
  have hb : ¬ ((m : Nat) : Int) = 0 := by omega
  have h : (v : Int).tmod (m : Int) = ((v % m : Nat) : Int) := by rw [Int.tmod_eq_emod_of_nonneg (by omega)]; rfl
  simp only [binV, intBin, hb, if_true, if_false, Option.map_some, h]
theorem quou {P : Program} {t : TypeId} {v m : Nat} (hm : m ≠ 0) (hv : v < 18446744073709551616) : binV P .quo t (.d (.int .u64 (v : Int))) (.d (.int .u64 (m : Int))) = some (.d (.int .u64 ((v / m : Nat) : Int))) := by
  have hb : ¬ ((m : Nat) : Int) = 0 := by omega
  have h : IntKind.u64.wrap ((v : Int).tdiv (m : Int)) = ((v / m : Nat) : Int) := by
    rw [Int.tdiv_eq_ediv_of_nonneg (by omega), show (v : Int) / (m : Int) = ((v / m : Nat) : Int) from rfl, u64n (Nat.lt_of_le_of_lt (Nat.div_le_self _ _) hv)]
  simp only [binV, intBin, hb, if_true, if_false, Option.map_some, h]
theorem bytes_l (w v : Nat) (hw : w ≤ 8) (hv : v < 18446744073709551616) (R : Post) : ∀ (k i : Nat) (S : Store) (v5 g2 g3 g4 g7 g8 g9 g10 g11 g12 g13 g14 g15 g16 g17 g18 g19 g20 : V), w - i = k → i ≤ w → OwnS S v5 5 ((leB i v).map fun x => .d (.int .u8 x.toNat)) →
   (∀ S v5 i' v1 g2 g3 g4 g7 g8 g9 g10 g11 g12 g13 g14 g15 g16 g17 g18 g19 g20, OwnS S v5 5 ((leB w v).map fun x => .d (.int .u8 x.toNat)) → R (.exit 0) ((.d (.int .i64 (w : Int))) :: v1 :: g2 :: g3 :: g4 :: v5 :: i' :: g7 :: g8 :: g9 :: g10 :: g11 :: g12 :: g13 :: g14 :: g15 :: g16 :: g17 :: g18 :: g19 :: g20 :: []) S []) →
   Wp cfg (.loop (lpOf (Try.f99.body.getD .skip) 0)) ((.d (.int .i64 (w : Int))) :: (.d (.int .u64 ((v / 256 ^ i : Nat) : Int))) :: g2 :: g3 :: g4 :: v5 :: (.d (.int .i64 (i : Int))) :: g7 :: g8 :: g9 :: g10 :: g11 :: g12 :: g13 :: g14 :: g15 :: g16 :: g17 :: g18 :: g19 :: g20 :: []) S [] R := by
  intro k
  induction k with
  | zero =>
    intro i S v5 g2 g3 g4 g7 g8 g9 g10 g11 g12 g13 g14 g15 g16 g17 g18 g19 g20 hk hi ho hR
    have hie : i = w := by omega
    subst hie
    rw [wk_of]
    refine wk_loop ?_
    conv => arg 2; whnf
    simp (maxSteps := 1000000) (disch := first | assumption | omega | rfl) only [↓vmp, vme, vmb, ty, hP, dec_t, dec_f, wrap64, List.length_map, Int.toNat_natCast, Nat.reduceAdd, List.cons_append, List.nil_append, Option.map_some, Option.map_none, strOf_mk, sb_eql, sb_neq, vmg, ↓vgd, ↓vst, ↓vix]
    exact hR _ _ _ _ _ _ _ _ _ _ _ _ _ _ _ _ _ _ _ _ _ ho
  | succ k ih =>
    intro i S v5 g2 g3 g4 g7 g8 g9 g10 g11 g12 g13 g14 g15 g16 g17 g18 g19 g20 hk hi ho hR
    have hlt : i < w := by omega
    have h3 : IntKind.i64.wrap ((i : Int) + 1) = ((i + 1 : Nat) : Int) := by rw [wrap64 (by omega)]; omega
    have hq : v / 256 ^ i < 18446744073709551616 := Nat.lt_of_le_of_lt (Nat.div_le_self _ _) hv
    have hrem := remu (P := Try.prog) (t := 22) (v := v / 256 ^ i) (m := 256) (by decide)
    have hquo := quou (P := Try.prog) (t := 22) (v := v / 256 ^ i) (m := 256) (by decide) hq
    have e : v / 256 ^ i / 256 = v / 256 ^ (i + 1) := by rw [Nat.pow_succ, Nat.div_div_eq_div_mul]
    rw [e] at hquo
    simp only [nl256] at hrem hquo
    have hc5 := fun S => cv225 (S := S) (n := v / 256 ^ i % 256)
    rw [Nat.mod_mod] at hc5
    obtain ⟨v', S', c, ha, ho', hfr, hlen⟩ := ap40 (UInt8.ofNat (v / 256 ^ i % 256)) ho (by rw [leB_len]; omega)
    rw [← leB_snoc] at ho'
    rw [wk_of]
    refine wk_loop ?_
    conv => arg 2; whnf
    simp (maxSteps := 1000000) (disch := first | assumption | omega | rfl) only [↓vmp, vme, vmb, ty, hP, dec_t, dec_f, wrap64, List.length_map, Int.toNat_natCast, Nat.reduceAdd, List.cons_append, List.nil_append, Option.map_some, Option.map_none, strOf_mk, sb_eql, sb_neq, vmg, ↓vgd, ↓vst, ↓vix, h3, hrem, hquo, hc5, ha]
    exact ih (i + 1) S' v' _ _ _ _ _ _ _ _ _ _ _ _ _ _ _ _ _ (by omega) (by omega) ho' hR
theorem bytes_ok (w v : Nat) (hw : w ≤ 8) (hv : v < 18446744073709551616) : Ev cfg 99 [.int .i64 (w : Int), .int .u64 (v : Int)] (.ret (.d (encB (leB w v)))) := by
  refine ev_of rfl rfl body99 ?_
  show Wp cfg (Try.f99.body.getD .skip) ((.d (.int .i64 (w : Int))) :: (.d (.int .u64 (v : Int))) :: (.tup []) :: (.tup []) :: (.tup []) :: (.tup []) :: (.tup []) :: (.tup []) :: (.tup []) :: (.tup []) :: (.tup []) :: (.tup []) :: (.tup []) :: (.tup []) :: (.tup []) :: (.tup []) :: (.tup []) :: (.tup []) :: (.tup []) :: (.tup []) :: (.tup []) :: []) [] [] _
  conv => arg 2; whnf
  simp (maxSteps := 1000000) (disch := first | assumption | omega | rfl) only [↓vmp, vme, vmb, ty, hP, dec_t, dec_f, wrap64, List.length_map, Int.toNat_natCast, Nat.reduceAdd, List.cons_append, List.nil_append, Option.map_some, Option.map_none, strOf_mk, sb_eql, sb_neq, vmg, ↓vgd, ↓vst, ↓vix]
  have e0 : ((v : Nat) : Int) = ((v / 256 ^ 0 : Nat) : Int) := by simp
  rw [e0]
  refine bytes_l w v hw hv _ w 0 _ _ _ _ _ _ _ _ _ _ _ _ _ _ _ _ _ _ _ rfl (by omega) OwnS.nil ?_
  intro S v5 i' v1 g2 g3 g4 g7 g8 g9 g10 g11 g12 g13 g14 g15 g16 g17 g18 g19 g20 ho
  simp (maxSteps := 1000000) (disch := first | assumption | omega | rfl) only [↓vmp, vme, vmb, ty, hP, dec_t, dec_f, wrap64, List.length_map, Int.toNat_natCast, Nat.reduceAdd, List.cons_append, List.nil_append, Option.map_some, Option.map_none, strOf_mk, sb_eql, sb_neq, vmg, ↓vgd, ↓vst, ↓vix]
  exact retQ_one rfl (own_one ho) (own_frz' (enc := fun x : UInt8 => D.int .u8 x.toNat) ho)
theorem xor22 {a b : Nat} (ha : a < 256) (hb : b < 256) : binV Try.prog .xor 22 (.d (.int .u64 (a : Int))) (.d (.int .u64 (b : Int))) = some (.d (.int .u64 ((a ^^^ b : Nat) : Int))) := by
  have e1 : BitVec.ofInt IntKind.u64.bits (a : Int) = BitVec.ofNat 64 a := BitVec.ofInt_natCast ..
  have e2 : BitVec.ofInt IntKind.u64.bits (b : Int) = BitVec.ofNat 64 b := BitVec.ofInt_natCast ..
  have hx : a ^^^ b < 256 := Nat.xor_lt_two_pow (n := 8) ha hb
  have e3 : (BitVec.ofNat 64 a ^^^ BitVec.ofNat 64 b).toNat = a ^^^ b := by
    rw [BitVec.toNat_xor, BitVec.toNat_ofNat, BitVec.toNat_ofNat, Nat.mod_eq_of_lt (by omega), Nat.mod_eq_of_lt (by omega)]
  simp only [binV, intBin, e1, e2]
  show some (V.d (.int .u64 (IntKind.u64.wrap (((BitVec.ofNat 64 a ^^^ BitVec.ofNat 64 b).toNat : Nat) : Int)))) = _
  rw [e3, u64n (by omega)]
theorem rmore_l (s : List UInt8) (hs : s.length ≤ 1000000) (h : Nat) (hh : h < 4294967296) (R : Post) (S : Store) : ∀ (k i : Nat) (g2 g3 g4 g6 g7 g8 g9 g10 g11 g12 g13 g14 g15 g16 g17 g18 g19 g20 g21 g22 g23 g24 g25 g26 g27 g28 : V), s.length - i = k → i ≤ s.length →
   (∀ i' g2 g3 g4 g6 g7 g8 g9 g10 g11 g12 g13 g14 g15 g16 g17 g18 g19 g20 g21 g22 g23 g24 g25 g26 g27 g28, R (.exit 0) ((.d (.int .u64 (mixL h s : Int))) :: (.d (.str s)) :: g2 :: g3 :: g4 :: i' :: g6 :: g7 :: g8 :: g9 :: g10 :: g11 :: g12 :: g13 :: g14 :: g15 :: g16 :: g17 :: g18 :: g19 :: g20 :: g21 :: g22 :: g23 :: g24 :: g25 :: g26 :: g27 :: g28 :: []) S []) →
   Wp cfg (.loop (lpOf (Try.f119.body.getD .skip) 0)) ((.d (.int .u64 (mixL h (s.take i) : Int))) :: (.d (.str s)) :: g2 :: g3 :: g4 :: (.d (.int .i64 (i : Int))) :: g6 :: g7 :: g8 :: g9 :: g10 :: g11 :: g12 :: g13 :: g14 :: g15 :: g16 :: g17 :: g18 :: g19 :: g20 :: g21 :: g22 :: g23 :: g24 :: g25 :: g26 :: g27 :: g28 :: []) S [] R := by
  intro k
  induction k with
  | zero =>
    intro i g2 g3 g4 g6 g7 g8 g9 g10 g11 g12 g13 g14 g15 g16 g17 g18 g19 g20 g21 g22 g23 g24 g25 g26 g27 g28 hk hi hR
    have hie : i = s.length := by omega
    subst hie
    rw [List.take_length]
    rw [wk_of]
    refine wk_loop ?_
    conv => arg 2; whnf
    simp (maxSteps := 1000000) (disch := first | assumption | omega | rfl) only [↓vmp, vme, vmb, ty, hP, dec_t, dec_f, wrap64, List.length_map, Int.toNat_natCast, Nat.reduceAdd, List.cons_append, List.nil_append, Option.map_some, Option.map_none, strOf_mk, sb_eql, sb_neq, vmg, ↓vgd, ↓vst, ↓vix]
    exact hR _ _ _ _ _ _ _ _ _ _ _ _ _ _ _ _ _ _ _ _ _ _ _ _ _ _ _
  | succ k ih =>
    intro i g2 g3 g4 g6 g7 g8 g9 g10 g11 g12 g13 g14 g15 g16 g17 g18 g19 g20 g21 g22 g23 g24 g25 g26 g27 g28 hk hi hR
    have hlt : i < s.length := by omega
    have h3 : IntKind.i64.wrap ((i : Int) + 1) = ((i + 1 : Nat) : Int) := by rw [wrap64 (by omega)]; omega
    have hml := mixL_lt (s.take i) h hh
    have hsn : mixL h (s.take (i + 1)) = mixS (mixL h (s.take i)) s[i] := mixL_take hlt
    generalize mixL h (s.take i) = m at *
    have hb : s[i].toNat < 256 := s[i].toNat_lt
    have hx : m % 256 ^^^ s[i].toNat < 256 := Nat.xor_lt_two_pow (n := 8) (by omega) hb
    have hxl := xor_low m s[i].toNat hb
    have hxm : m ^^^ s[i].toNat < 4294967296 := by rw [hxl]; omega
    have hrem := remu (P := Try.prog) (t := 22) (v := m) (m := 256) (by decide)
    have hxo := xor22 (a := m % 256) (b := s[i].toNat) (by omega) hb
    have hsub : IntKind.u64.wrap ((m : Int) - ((m % 256 : Nat) : Int)) = ((m - m % 256 : Nat) : Int) := by rw [u64_in (by omega) (by omega)]; omega
    have hadd : IntKind.u64.wrap (((m - m % 256 : Nat) : Int) + ((m % 256 ^^^ s[i].toNat : Nat) : Int)) = ((m ^^^ s[i].toNat : Nat) : Int) := by rw [hxl, u64_in (by omega) (by omega)]; omega
    have hmul : IntKind.u64.wrap (((m ^^^ s[i].toNat : Nat) : Int) * 16777619) = (((m ^^^ s[i].toNat) * 16777619 : Nat) : Int) := by rw [u64_in (by omega) (by omega)]; omega
    have hrem2 := remu (P := Try.prog) (t := 22) (v := (m ^^^ s[i].toNat) * 16777619) (m := 4294967296) (by decide)
    have hc := fun S => cv522 (S := S) (x := s[i])
    have e2 : (m ^^^ s[i].toNat) * 16777619 % 4294967296 = mixS m s[i] := rfl
    rw [e2] at hrem2
    simp only [nl256, nl4294967296] at hrem hrem2
    rw [wk_of]
    refine wk_loop ?_
    conv => arg 2; whnf
    simp (maxSteps := 1000000) (disch := first | assumption | omega | rfl) only [↓vmp, vme, vmb, ty, hP, dec_t, dec_f, wrap64, List.length_map, Int.toNat_natCast, Nat.reduceAdd, List.cons_append, List.nil_append, Option.map_some, Option.map_none, strOf_mk, sb_eql, sb_neq, vmg, ↓vgd, ↓vst, ↓vix, h3, hrem, hxo, hsub, hadd, hmul, hrem2, hc]
    rw [← hsn]
    exact ih (i + 1) _ _ _ _ _ _ _ _ _ _ _ _ _ _ _ _ _ _ _ _ _ _ _ _ _ _ (by omega) (by omega) hR
theorem rmore_ok (s : List UInt8) (hs : s.length ≤ 1000000) (h : Nat) (hh : h < 4294967296) : Ev cfg 119 [.int .u64 (h : Int), .str s] (.ret (.d (.int .u64 (mixL h s : Int)))) := by
  refine ev_of rfl rfl body119 ?_
  show Wp cfg (Try.f119.body.getD .skip) ((.d (.int .u64 (h : Int))) :: (.d (.str s)) :: (.tup []) :: (.tup []) :: (.tup []) :: (.tup []) :: (.tup []) :: (.tup []) :: (.tup []) :: (.tup []) :: (.tup []) :: (.tup []) :: (.tup []) :: (.tup []) :: (.tup []) :: (.tup []) :: (.tup []) :: (.tup []) :: (.tup []) :: (.tup []) :: (.tup []) :: (.tup []) :: (.tup []) :: (.tup []) :: (.tup []) :: (.tup []) :: (.tup []) :: (.tup []) :: (.tup []) :: []) [] [] _
  conv => arg 2; whnf
  simp (maxSteps := 1000000) (disch := first | assumption | omega | rfl) only [↓vmp, vme, vmb, ty, hP, dec_t, dec_f, wrap64, List.length_map, Int.toNat_natCast, Nat.reduceAdd, List.cons_append, List.nil_append, Option.map_some, Option.map_none, strOf_mk, sb_eql, sb_neq, vmg, ↓vgd, ↓vst, ↓vix]
  have e0 : h = mixL h (s.take 0) := by rw [List.take_zero]; rfl
  conv => arg 3; rw [e0]
  refine rmore_l s hs h hh _ _ s.length 0 _ _ _ _ _ _ _ _ _ _ _ _ _ _ _ _ _ _ _ _ _ _ _ _ _ _ rfl (by omega) ?_
  intro i' g2 g3 g4 g6 g7 g8 g9 g10 g11 g12 g13 g14 g15 g16 g17 g18 g19 g20 g21 g22 g23 g24 g25 g26 g27 g28
  simp (maxSteps := 1000000) (disch := first | assumption | omega | rfl) only [↓vmp, vme, vmb, ty, hP, dec_t, dec_f, wrap64, List.length_map, Int.toNat_natCast, Nat.reduceAdd, List.cons_append, List.nil_append, Option.map_some, Option.map_none, strOf_mk, sb_eql, sb_neq, vmg, ↓vgd, ↓vst, ↓vix]
  exact retQ_one rfl rfl rfl
theorem rof_ok (s : List UInt8) (hs : s.length ≤ 1000000) : Ev cfg 100 [.str s] (.ret (.d (.int .u64 (hashL s : Int)))) := by
  refine ev_of rfl rfl body100 ?_
  show Wp cfg (Try.f100.body.getD .skip) ((.d (.str s)) :: (.tup []) :: (.tup []) :: (.tup []) :: (.tup []) :: []) [] [] _
  conv => arg 2; whnf
  have hc : ∀ {ops dst k T S F Q}, WpR cfg ops dst k T S F Q (some (.enter 119 [.d (.int .u64 2166136261), .d (.str s)])) = WpL cfg ops k (putT T dst (.d (.int .u64 (hashL s : Int)))) S F Q := fun {ops dst k T S F Q} => wr_call_d (C := cfg) (ds := [.int .u64 ((2166136261 : Nat) : Int), .str s]) rfl (rmore_ok s hs 2166136261 (by decide))
  simp (maxSteps := 1000000) (disch := first | assumption | omega | rfl) only [↓vmp, vme, vmb, ty, hP, dec_t, dec_f, wrap64, List.length_map, Int.toNat_natCast, Nat.reduceAdd, List.cons_append, List.nil_append, Option.map_some, Option.map_none, strOf_mk, sb_eql, sb_neq, vmg, ↓vgd, ↓vst, ↓vix, hc, bo119]
  exact retQ_one rfl rfl rfl
end Go.Proofs.Ytobgdmgldagjkaa
end
/-! The document's answer: which layouts may be, and the first block. -/
section
set_option linter.unusedVariables false
set_option linter.unusedSimpArgs false
set_option maxRecDepth 100000
set_option maxHeartbeats 4000000
namespace Go.Proofs.Ytobgdmgldagjkaa
open Go.Vm
theorem May_ok (l : Lay) (hb : InB l.blocks) (hi : InB l.inodes) : Ev cfg 11 [encLay l] (.ret (.d (.bool (decide (MayL l))))) := by
  refine ev_of rfl rfl body11 ?_
  show Wp cfg (Try.f11.body.getD .skip) ((.d (encLay l)) :: (.tup []) :: (.tup []) :: (.tup []) :: (.tup []) :: (.tup []) :: (.tup []) :: (.tup []) :: (.tup []) :: (.tup []) :: (.tup []) :: (.tup []) :: (.tup []) :: (.tup []) :: (.tup []) :: (.tup []) :: (.tup []) :: (.tup []) :: (.tup []) :: (.tup []) :: (.tup []) :: (.tup []) :: (.tup []) :: (.tup []) :: (.tup []) :: (.tup []) :: (.tup []) :: (.tup []) :: (.tup []) :: (.tup []) :: (.tup []) :: (.tup []) :: (.tup []) :: (.tup []) :: (.tup []) :: (.tup []) :: []) [] [] _
  conv => arg 2; whnf
  generalize hp : decide (MayL l) = p
  have hq := quo8 hi
  have hr := rem8 (a := l.inodes)
  by_cases c1 : l.blocks ≥ 16
  case neg =>
    rw [decide_eq_false (fun h => by have := h.1; omega)] at hp; subst hp
    simp (maxSteps := 1000000) (disch := first | assumption | omega | rfl) only [↓vmp, vme, vmb, ty, hP, dec_t, dec_f, wrap64, List.length_map, Int.toNat_natCast, Nat.reduceAdd, List.cons_append, List.nil_append, Option.map_some, Option.map_none, strOf_mk, sb_eql, sb_neq, vmg, ↓vgd, ↓vst, ↓vix]
    exact retQ_one rfl rfl rfl
  by_cases c2 : l.blocks ≤ 512
  case neg =>
    rw [decide_eq_false (fun h => by have := h.2.1; omega)] at hp; subst hp
    simp (maxSteps := 1000000) (disch := first | assumption | omega | rfl) only [↓vmp, vme, vmb, ty, hP, dec_t, dec_f, wrap64, List.length_map, Int.toNat_natCast, Nat.reduceAdd, List.cons_append, List.nil_append, Option.map_some, Option.map_none, strOf_mk, sb_eql, sb_neq, vmg, ↓vgd, ↓vst, ↓vix]
    exact retQ_one rfl rfl rfl
  by_cases c3 : l.inodes ≥ 8
  case neg =>
    rw [decide_eq_false (fun h => by have := h.2.2.1; omega)] at hp; subst hp
    simp (maxSteps := 1000000) (disch := first | assumption | omega | rfl) only [↓vmp, vme, vmb, ty, hP, dec_t, dec_f, wrap64, List.length_map, Int.toNat_natCast, Nat.reduceAdd, List.cons_append, List.nil_append, Option.map_some, Option.map_none, strOf_mk, sb_eql, sb_neq, vmg, ↓vgd, ↓vst, ↓vix]
    exact retQ_one rfl rfl rfl
  by_cases c4 : l.inodes ≤ 128
  case neg =>
    rw [decide_eq_false (fun h => by have := h.2.2.2.1; omega)] at hp; subst hp
    simp (maxSteps := 1000000) (disch := first | assumption | omega | rfl) only [↓vmp, vme, vmb, ty, hP, dec_t, dec_f, wrap64, List.length_map, Int.toNat_natCast, Nat.reduceAdd, List.cons_append, List.nil_append, Option.map_some, Option.map_none, strOf_mk, sb_eql, sb_neq, vmg, ↓vgd, ↓vst, ↓vix]
    exact retQ_one rfl rfl rfl
  by_cases c5 : l.inodes.tmod 8 = 0
  case neg =>
    rw [decide_eq_false (fun h => c5 h.2.2.2.2.1)] at hp; subst hp
    simp (maxSteps := 1000000) (disch := first | assumption | omega | rfl) only [↓vmp, vme, vmb, ty, hP, dec_t, dec_f, wrap64, List.length_map, Int.toNat_natCast, Nat.reduceAdd, List.cons_append, List.nil_append, Option.map_some, Option.map_none, strOf_mk, sb_eql, sb_neq, vmg, ↓vgd, ↓vst, ↓vix, hr]
    exact retQ_one rfl rfl rfl
  have hd : 0 ≤ l.inodes.tdiv 8 ∧ l.inodes.tdiv 8 ≤ 16 := by
    rw [Int.tdiv_eq_ediv_of_nonneg (by omega)]; omega
  have hw : IntKind.i64.wrap (2 + l.inodes.tdiv 8) = 2 + l.inodes.tdiv 8 := wrap64 (by omega)
  by_cases c6 : 2 + l.inodes.tdiv 8 < l.blocks
  case neg =>
    rw [decide_eq_false (fun h => c6 h.2.2.2.2.2)] at hp; subst hp
    simp (maxSteps := 1000000) (disch := first | assumption | omega | rfl) only [↓vmp, vme, vmb, ty, hP, dec_t, dec_f, wrap64, List.length_map, Int.toNat_natCast, Nat.reduceAdd, List.cons_append, List.nil_append, Option.map_some, Option.map_none, strOf_mk, sb_eql, sb_neq, vmg, ↓vgd, ↓vst, ↓vix, hr, hq, hw, c5, deq, dec_True]
    exact retQ_one rfl rfl rfl
  rw [decide_eq_true ⟨by omega, by omega, by omega, by omega, c5, by omega⟩] at hp; subst hp
  simp (maxSteps := 1000000) (disch := first | assumption | omega | rfl) only [↓vmp, vme, vmb, ty, hP, dec_t, dec_f, wrap64, List.length_map, Int.toNat_natCast, Nat.reduceAdd, List.cons_append, List.nil_append, Option.map_some, Option.map_none, strOf_mk, sb_eql, sb_neq, vmg, ↓vgd, ↓vst, ↓vix, hr, hq, hw, c5, deq, dec_True]
  exact retQ_one rfl rfl rfl
theorem srcB {S : Store} {b : List UInt8} : srcV Try.prog S 5 40 (.d (encB b)) = some ((b.map byD).map V.d) := by
  have hall : ((b.map byD).map V.d).all (fitsT Try.prog 5) = true := by
    rw [List.all_eq_true]
    intro y hy
    obtain ⟨z, hz, rfl⟩ := List.mem_map.1 hy
    obtain ⟨a, _, rfl⟩ := List.mem_map.1 hz
    exact fitsT5 _
  have h5 : (sz Try.prog 5).isSome = true := by kernel_rfl
  have : encB b = .sl (b.map byD) := rfl
  rw [this]
  simp only [srcV, Try.underlying40, elemsV, hall, h5, Bool.and_self, if_true]
theorem app_ts {S : Store} {a b : List UInt8} (h0 : b ≠ []) (hl : a.length + b.length ≤ 100000) : appendV Try.prog S 40 40 (.ts (a.map byD)) (.d (encB b)) = some (.rs S.length 0 (a ++ b).length, S ++ [rowY (a ++ b)], 2) := by
  have hall : (a.map byD).all (fitsD Try.prog 5) = true := by
    rw [List.all_eq_true]
    intro y hy
    obtain ⟨z, hz, rfl⟩ := List.mem_map.1 hy
    exact fits5 _
  cases b with
  | nil => exact absurd rfl h0
  | cons x r =>
    have src1 : srcV Try.prog S 5 40 (.d (encB (x :: r))) = some (.d (byD x) :: (r.map byD).map .d) := srcB
    have hr : room Try.prog 5 (a.length + (r.length + 1)) = true := room40 (by simp at hl; omega)
    simp only [appendV, Try.underlying40, src1, zOk40, if_true, hall, List.length_map, hr, Bool.and_self]
    simp [rowY, Function.comp_def]
theorem app_rs {S : Store} {a b : List UInt8} {id : Nat} (hS : S[id]? = some (rowY a)) (h0 : b ≠ []) (hl : a.length + b.length ≤ 100000) : appendV Try.prog S 40 40 (.rs id 0 a.length) (.d (encB b)) = some (.rs S.length 0 (a ++ b).length, S.set id .dead ++ [rowY (a ++ b)], 3) := by
  cases b with
  | nil => exact absurd rfl h0
  | cons x r =>
    have src1 : srcV Try.prog S 5 40 (.d (encB (x :: r))) = some (.d (byD x) :: (r.map byD).map .d) := srcB
    have hr : room Try.prog 5 (a.length + (r.length + 1)) = true := room40 (by simp at hl; omega)
    have hS' : S[id]? = some (.row (a.map fun x => V.d (byD x)) 5) := hS
    have ht : (a.map fun x => V.d (byD x)).take a.length = a.map fun x => V.d (byD x) := List.take_of_length_le (by simp)
    simp only [appendV, Try.underlying40, src1, zOk40, if_true, hS', List.length_map, Nat.le_refl, hr, ht, decide_true, Bool.and_self, beq_self_eq_true]
    simp [rowY, Function.comp_def]
theorem cvrs {S : Store} {b : List UInt8} {id : Nat} (hS : S[id]? = some (rowY b)) : convertV Try.prog S 40 9 (.rs id 0 b.length) = some (.d (.str b), 1) := by
  have hu : Try.prog.underlying 9 = some .string := by kernel_rfl
  have h5 : Try.prog.underlying 5 = some (.int .u8) := by kernel_rfl
  have hS' : S[id]? = some (.row (b.map fun x => V.d (byD x)) 5) := hS
  have ht : ((b.map fun x => V.d (byD x)).drop 0).take b.length = b.map fun x => V.d (byD x) := by rw [List.drop_zero]; exact List.take_of_length_le (by simp)
  have hb : bytesD (b.map fun x => V.d (byD x)) = some b := bytesD_B
  simp only [convertV, Try.underlying40, hu, h5, elemsV, hS', List.length_map, Nat.zero_add, Nat.le_refl, if_true, ht, hb, Option.map_some]
end Go.Proofs.Ytobgdmgldagjkaa
end
/-! The document's answer: bytes laid over others, and the first block. -/
section
set_option linter.unusedVariables false
set_option linter.unusedSimpArgs false
set_option maxRecDepth 100000
set_option maxHeartbeats 4000000
namespace Go.Proofs.Ytobgdmgldagjkaa
open Go.Vm
def layA (at_ : Int) (data : List UInt8) : Nat → List UInt8 → List UInt8
  | _, [] => []
  | i, x :: r => (if 0 ≤ at_ ∧ at_ ≤ i ∧ (i : Int) - at_ < data.length then data.getD ((i : Int) - at_).toNat 0 else x) :: layA at_ data (i + 1) r
def layN (b : List UInt8) (at_ : Int) (data : List UInt8) : List UInt8 := layA at_ data 0 b
theorem lenB {S : Store} {l : List UInt8} : builtinV Try.prog S .len [40] [.d (encB l)] = some (.val (.d (.int .i64 l.length)) S 0) := by
  unfold encB; rw [len40, List.length_map]
theorem ffB {l : List UInt8} : fitsT Try.prog 40 (.d (encB l)) = true := by kernel_rfl
theorem ixB {S : Store} {l : List UInt8} {i : Nat} (h : i < l.length) : indexAddrV Try.prog S 40 (.d (encB l)) (.d (.int .i64 i)) = some (.d (.ptr (.int .u8 (l[i].toNat : Int)))) := ix40 h
theorem rlay_l (b data : List UInt8) (at_ : Int) (hl : b.length < 1000000) (hd : data.length < 1000000) (h1 : 0 ≤ at_) (h2 : at_ ≤ 1000000) (R : Post) (g6 : V) : ∀ (k i : Nat) (xs : List UInt8) (S : Store) (v7 g9 g10 g11 g12 g13 g14 g15 g16 g17 g18 g19 g20 g21 g22 g23 g24 g25 g26 g27 g28 g29 g30 g31 g32 g33 g34 g35 g36 g37 g38 g39 g40 g41 g42 g43 g44 g45 : V),
   b.length - i = k → i ≤ b.length → xs.length = i → OwnS S v7 5 (xs.map fun x => .d (.int .u8 x.toNat)) →
   (∀ S v7 i' ys g9 g10 g11 g12 g13 g14 g15 g16 g17 g18 g19 g20 g21 g22 g23 g24 g25 g26 g27 g28 g29 g30 g31 g32 g33 g34 g35 g36 g37 g38 g39 g40 g41 g42 g43 g44 g45, ys = xs ++ layA at_ data i (b.drop i) → OwnS S v7 5 (ys.map fun x => .d (.int .u8 x.toNat)) → R (.exit 0) ((.d (encB b)) :: (.d (.int .i64 at_)) :: (.d (encB data)) :: (.tup []) :: (.tup []) :: (.tup []) :: g6 :: v7 :: i' :: g9 :: g10 :: g11 :: g12 :: g13 :: g14 :: g15 :: g16 :: g17 :: g18 :: g19 :: g20 :: g21 :: g22 :: g23 :: g24 :: g25 :: g26 :: g27 :: g28 :: g29 :: g30 :: g31 :: g32 :: g33 :: g34 :: g35 :: g36 :: g37 :: g38 :: g39 :: g40 :: g41 :: g42 :: g43 :: g44 :: g45 :: []) S []) →
   Wp cfg (.loop (lpOf (Try.f61.body.getD .skip) 0)) ((.d (encB b)) :: (.d (.int .i64 at_)) :: (.d (encB data)) :: (.tup []) :: (.tup []) :: (.tup []) :: g6 :: v7 :: (.d (.int .i64 i)) :: g9 :: g10 :: g11 :: g12 :: g13 :: g14 :: g15 :: g16 :: g17 :: g18 :: g19 :: g20 :: g21 :: g22 :: g23 :: g24 :: g25 :: g26 :: g27 :: g28 :: g29 :: g30 :: g31 :: g32 :: g33 :: g34 :: g35 :: g36 :: g37 :: g38 :: g39 :: g40 :: g41 :: g42 :: g43 :: g44 :: g45 :: []) S [] R := by
  intro k
  induction k with
  | zero =>
    intro i xs S v7 g9 g10 g11 g12 g13 g14 g15 g16 g17 g18 g19 g20 g21 g22 g23 g24 g25 g26 g27 g28 g29 g30 g31 g32 g33 g34 g35 g36 g37 g38 g39 g40 g41 g42 g43 g44 g45 hk hi hxl ho hR
    have hie : i = b.length := by omega
    rw [wk_of]
    refine wk_loop ?_
    conv => arg 2; whnf
    simp (maxSteps := 1000000) (disch := first | assumption | omega | rfl) only [↓vmp, vme, vmb, ty, hP, dec_t, dec_f, wrap64, List.length_map, Int.toNat_natCast, Nat.reduceAdd, List.cons_append, List.nil_append, Option.map_some, Option.map_none, strOf_mk, sb_eql, sb_neq, vmg, ↓vgd, ↓vst, ↓vix, lenB]
    exact hR _ _ _ xs _ _ _ _ _ _ _ _ _ _ _ _ _ _ _ _ _ _ _ _ _ _ _ _ _ _ _ _ _ _ _ _ _ _ _ _ _ (by rw [hie, List.drop_length]; simp [layA]) ho
  | succ k ih =>
    intro i xs S v7 g9 g10 g11 g12 g13 g14 g15 g16 g17 g18 g19 g20 g21 g22 g23 g24 g25 g26 g27 g28 g29 g30 g31 g32 g33 g34 g35 g36 g37 g38 g39 g40 g41 g42 g43 g44 g45 hk hi hxl ho hR
    have hlt : i < b.length := by omega
    have hdr : b.drop i = b[i] :: b.drop (i + 1) := List.drop_eq_getElem_cons hlt
    rw [hdr] at hR
    rw [wk_of]
    refine wk_loop ?_
    conv => arg 2; whnf
    by_cases c1 : (i : Int) ≥ at_
    · by_cases c2 : (i : Int) - at_ < data.length
      · obtain ⟨j, hj⟩ : ∃ j : Nat, (i : Int) - at_ = j := ⟨((i : Int) - at_).toNat, by omega⟩
        have hjl : j < data.length := by omega
        have hix := ixB (S := S) hjl
        rw [← hj] at hix
        obtain ⟨v', S', c, ha, ho', hfr, hlen⟩ := ap40 data[j] ho (by omega)
        simp (maxSteps := 1000000) (disch := first | assumption | omega | rfl) only [↓vmp, vme, vmb, ty, hP, dec_t, dec_f, wrap64, List.length_map, Int.toNat_natCast, Nat.reduceAdd, List.cons_append, List.nil_append, Option.map_some, Option.map_none, strOf_mk, sb_eql, sb_neq, vmg, ↓vgd, ↓vst, ↓vix, lenB, ixB, hix, ld5, ha]
        exact ih (i + 1) (xs ++ [data[j]]) S' v' _ _ _ _ _ _ _ _ _ _ _ _ _ _ _ _ _ _ _ _ _ _ _ _ _ _ _ _ _ _ _ _ _ _ _ _ _ (by omega) (by omega) (by simp; omega) ho' (fun S v7 i' ys g9 g10 g11 g12 g13 g14 g15 g16 g17 g18 g19 g20 g21 g22 g23 g24 g25 g26 g27 g28 g29 g30 g31 g32 g33 g34 g35 g36 g37 g38 g39 g40 g41 g42 g43 g44 g45 hy => hR S v7 i' ys g9 g10 g11 g12 g13 g14 g15 g16 g17 g18 g19 g20 g21 g22 g23 g24 g25 g26 g27 g28 g29 g30 g31 g32 g33 g34 g35 g36 g37 g38 g39 g40 g41 g42 g43 g44 g45 (by
          rw [hy]; simp only [layA]; rw [if_pos ⟨h1, c1, c2⟩, hj, Int.toNat_natCast, List.getD_eq_getElem?_getD, List.getElem?_eq_getElem hjl]; simp))
      · obtain ⟨v', S', c, ha, ho', hfr, hlen⟩ := ap40 b[i] ho (by omega)
        simp (maxSteps := 1000000) (disch := first | assumption | omega | rfl) only [↓vmp, vme, vmb, ty, hP, dec_t, dec_f, wrap64, List.length_map, Int.toNat_natCast, Nat.reduceAdd, List.cons_append, List.nil_append, Option.map_some, Option.map_none, strOf_mk, sb_eql, sb_neq, vmg, ↓vgd, ↓vst, ↓vix, lenB, ixB, ld5, ha]
        exact ih (i + 1) (xs ++ [b[i]]) S' v' _ _ _ _ _ _ _ _ _ _ _ _ _ _ _ _ _ _ _ _ _ _ _ _ _ _ _ _ _ _ _ _ _ _ _ _ _ (by omega) (by omega) (by simp; omega) ho' (fun S v7 i' ys g9 g10 g11 g12 g13 g14 g15 g16 g17 g18 g19 g20 g21 g22 g23 g24 g25 g26 g27 g28 g29 g30 g31 g32 g33 g34 g35 g36 g37 g38 g39 g40 g41 g42 g43 g44 g45 hy => hR S v7 i' ys g9 g10 g11 g12 g13 g14 g15 g16 g17 g18 g19 g20 g21 g22 g23 g24 g25 g26 g27 g28 g29 g30 g31 g32 g33 g34 g35 g36 g37 g38 g39 g40 g41 g42 g43 g44 g45 (by
          rw [hy]; simp only [layA]; rw [if_neg (fun h => c2 h.2.2)]; simp))
    · obtain ⟨v', S', c, ha, ho', hfr, hlen⟩ := ap40 b[i] ho (by omega)
      simp (maxSteps := 1000000) (disch := first | assumption | omega | rfl) only [↓vmp, vme, vmb, ty, hP, dec_t, dec_f, wrap64, List.length_map, Int.toNat_natCast, Nat.reduceAdd, List.cons_append, List.nil_append, Option.map_some, Option.map_none, strOf_mk, sb_eql, sb_neq, vmg, ↓vgd, ↓vst, ↓vix, lenB, ixB, ld5, ha]
      exact ih (i + 1) (xs ++ [b[i]]) S' v' _ _ _ _ _ _ _ _ _ _ _ _ _ _ _ _ _ _ _ _ _ _ _ _ _ _ _ _ _ _ _ _ _ _ _ _ _ (by omega) (by omega) (by simp; omega) ho' (fun S v7 i' ys g9 g10 g11 g12 g13 g14 g15 g16 g17 g18 g19 g20 g21 g22 g23 g24 g25 g26 g27 g28 g29 g30 g31 g32 g33 g34 g35 g36 g37 g38 g39 g40 g41 g42 g43 g44 g45 hy => hR S v7 i' ys g9 g10 g11 g12 g13 g14 g15 g16 g17 g18 g19 g20 g21 g22 g23 g24 g25 g26 g27 g28 g29 g30 g31 g32 g33 g34 g35 g36 g37 g38 g39 g40 g41 g42 g43 g44 g45 (by
        rw [hy]; simp only [layA]; rw [if_neg (fun h => c1 h.2.1)]; simp))
theorem rlay_ok (b data : List UInt8) (at_ : Int) (hl : b.length < 1000000) (hd : data.length < 1000000) (h1 : 0 ≤ at_) (h2 : at_ ≤ 1000000) : Ev cfg 61 [encB b, .int .i64 at_, encB data] (.ret (.d (encB (layN b at_ data)))) := by
  refine ev_of rfl rfl body61 ?_
  show Wp cfg (Try.f61.body.getD .skip) ((.d (encB b)) :: (.d (.int .i64 at_)) :: (.d (encB data)) :: (.tup []) :: (.tup []) :: (.tup []) :: (.tup []) :: (.tup []) :: (.tup []) :: (.tup []) :: (.tup []) :: (.tup []) :: (.tup []) :: (.tup []) :: (.tup []) :: (.tup []) :: (.tup []) :: (.tup []) :: (.tup []) :: (.tup []) :: (.tup []) :: (.tup []) :: (.tup []) :: (.tup []) :: (.tup []) :: (.tup []) :: (.tup []) :: (.tup []) :: (.tup []) :: (.tup []) :: (.tup []) :: (.tup []) :: (.tup []) :: (.tup []) :: (.tup []) :: (.tup []) :: (.tup []) :: (.tup []) :: (.tup []) :: (.tup []) :: (.tup []) :: (.tup []) :: (.tup []) :: (.tup []) :: (.tup []) :: (.tup []) :: []) [] [] _
  conv => arg 2; whnf
  simp (maxSteps := 1000000) (disch := first | assumption | omega | rfl) only [↓vmp, vme, vmb, ty, hP, dec_t, dec_f, wrap64, List.length_map, Int.toNat_natCast, Nat.reduceAdd, List.cons_append, List.nil_append, Option.map_some, Option.map_none, strOf_mk, sb_eql, sb_neq, vmg, ↓vgd, ↓vst, ↓vix]
  refine rlay_l b data at_ hl hd h1 h2 _ _ b.length 0 [] [] _ _ _ _ _ _ _ _ _ _ _ _ _ _ _ _ _ _ _ _ _ _ _ _ _ _ _ _ _ _ _ _ _ _ _ _ _ _ rfl (by omega) rfl OwnS.nil ?_
  intro S v7 i' ys g9 g10 g11 g12 g13 g14 g15 g16 g17 g18 g19 g20 g21 g22 g23 g24 g25 g26 g27 g28 g29 g30 g31 g32 g33 g34 g35 g36 g37 g38 g39 g40 g41 g42 g43 g44 g45 hy ho
  simp (maxSteps := 1000000) (disch := first | assumption | omega | rfl) only [↓vmp, vme, vmb, ty, hP, dec_t, dec_f, wrap64, List.length_map, Int.toNat_natCast, Nat.reduceAdd, List.cons_append, List.nil_append, Option.map_some, Option.map_none, strOf_mk, sb_eql, sb_neq, vmg, ↓vgd, ↓vst, ↓vix]
  rw [List.nil_append, List.drop_zero] at hy
  change ys = layN b at_ data at hy
  subst hy
  exact retQ_one rfl (own_one ho) (own_frz' (enc := fun x : UInt8 => D.int .u8 x.toNat) ho)
theorem layA_off {d : List UInt8} : ∀ {i : Nat} {l : List UInt8}, d.length ≤ i → layA 0 d i l = l
  | _, [], _ => rfl
  | i, x :: r, h => by
    rw [layA, if_neg (by omega), layA_off (by omega)]
theorem layA_zero {d : List UInt8} : ∀ {i : Nat} {l : List UInt8}, i + l.length ≥ d.length → i ≤ d.length → layA 0 d i l = d.drop i ++ l.drop (d.length - i)
  | i, [], h, hi => by
    have : i = d.length := by simp at h; omega
    subst this
    simp [layA]
  | i, x :: r, h, hi => by
    by_cases hlt : i < d.length
    · have hd : d.drop i = d[i] :: d.drop (i + 1) := List.drop_eq_getElem_cons hlt
      have hm : d.length - i = (d.length - (i + 1)) + 1 := by omega
      rw [layA, if_pos ⟨by omega, by omega, by omega⟩, layA_zero (by simp at h; omega) (by omega), hd, hm, List.drop_succ_cons]
      have e : ((i : Int) - 0).toNat = i := by omega
      rw [e, List.getD_eq_getElem?_getD, List.getElem?_eq_getElem hlt]
      rfl
    · have : i = d.length := by omega
      subst this
      rw [layA_off (Nat.le_refl _)]
      simp
theorem layN_zero {d b : List UInt8} (h : d.length ≤ b.length) : layN b 0 d = layB b 0 d := by
  unfold layN
  rw [layA_zero (by omega) (by omega)]
  unfold layB
  simp
section
variable {ops : Array Oper} {dst : Option Tmp} {k : List Oper} {T : List V} {S : Store} {F : Dfs} {Q : Post}
theorem callV_E {S2 : Store} {c : Nat} {f : FuncId} {args : List V} {v : V} (h : ∃ n, callV cfg (run cfg n) f args S = some (.ret v, S2, c)) : WpR cfg ops dst k T S F Q (some (.enter f args)) = WpL cfg ops k (putT T dst v) S2 F Q := by
  obtain ⟨n, hc⟩ := h
  apply propext
  constructor
  · rintro ⟨m, o, S3, c', h1, h2⟩
    have := callV_det h1 hc
    simp only [Prod.mk.injEq] at this
    obtain ⟨rfl, rfl, rfl⟩ := this
    exact h2
  · exact fun h => ⟨n, _, _, _, hc, h⟩
/-- A call apart that is handed one row of bytes. -/
theorem wr_row {f : FuncId} {args : List V} {ds : List D} {v : V} {id : Nat} {b : List UInt8} (hs : cfg.shared f = false) (hf : allO (Go.Vm.frz S frzFuel) args = some ds) (hi : args.flatMap (frzIds S frzFuel) = [id]) (hr : S[id]? = some (rowY b)) (hp : plainOut (.ret v) = false) (he : Ev cfg f ds (.ret v)) : WpR cfg ops dst k T S F Q (some (.enter f args)) = WpL cfg ops k (putT T dst v) (S.set id (.fz (b.map byD) 5)) F Q := by
  obtain ⟨n, hn⟩ := he
  have hr' : S[id]? = some (.row ((b.map byD).map .d) 5) := by rw [hr]; simp [rowY, Function.comp_def]
  exact callV_E (c := 3) ⟨n, call_row hs hf hi hr' hp hn⟩
theorem mark_two {id j : Nat} {xs ys : List D} {e e' : TypeId} (hr : S[id]? = some (.row (xs.map .d) e)) (hr2 : S[j]? = some (.row (ys.map .d) e')) : Go.Vm.mark S [id, j] S [id, j] = some ((S.set id (.fz xs e)).set j (.fz ys e')) := by
  have h3 : allO (Go.Vm.frz S frzFuel) (xs.map V.d) = some xs := allO_d (n := 11) xs
  have h4 : (xs.map V.d).flatMap (frzIds S frzFuel) = [] := flat_d xs
  have h5 : allO (Go.Vm.frz S frzFuel) (ys.map V.d) = some ys := allO_d (n := 11) ys
  have h6 : (ys.map V.d).flatMap (frzIds S frzFuel) = [] := flat_d ys
  simp only [Go.Vm.mark, hr, hr2, frzOb, h3, h5, Option.map_some, obIds, h4, h6, List.all_nil, if_true]
theorem wr_two {f : FuncId} {args : List V} {ds : List D} {v : V} {id j : Nat} {b c : List UInt8} (hs : cfg.shared f = false) (hf : allO (Go.Vm.frz S frzFuel) args = some ds) (hi : args.flatMap (frzIds S frzFuel) = [id, j]) (hr : S[id]? = some (rowY b)) (hr2 : S[j]? = some (rowY c)) (hp : plainOut (.ret v) = false) (he : Ev cfg f ds (.ret v)) : WpR cfg ops dst k T S F Q (some (.enter f args)) = WpL cfg ops k (putT T dst v) ((S.set id (.fz (b.map byD) 5)).set j (.fz (c.map byD) 5)) F Q := by
  obtain ⟨n, hn⟩ := he
  have hn' : answer cfg (run cfg n) f ds = some (.ret v) := hn
  have hr' : S[id]? = some (.row ((b.map byD).map .d) 5) := by rw [hr]; simp [rowY, Function.comp_def]
  have hr2' : S[j]? = some (.row ((c.map byD).map .d) 5) := by rw [hr2]; simp [rowY, Function.comp_def]
  refine callV_E (c := 3) ⟨n, ?_⟩
  unfold callV
  simp only [hs, Bool.false_eq_true, if_false, hf, hn', hi, List.isEmpty_cons, hp, mark_two hr' hr2']
theorem ids_Y {id n : Nat} {d : List UInt8} (hS : S[id]? = some (rowY d)) : frzIds S frzFuel (.rs id 0 n) = [id] := by
  have h2 : S[id]? = some (.row ((d.map byD).map .d) 5) := by rw [hS]; simp [rowY, Function.comp_def]
  show (match S[id]? with | some (.row xs e) => id :: xs.flatMap (frzIds S 11) | _ => []) = _
  rw [h2]
  simp only [flat_d]
theorem call_rlay {id j : Nat} {b c : List UInt8} (hr : S[id]? = some (rowY b)) (hr2 : S[j]? = some (rowY c)) (hl : b.length < 1000000) (hc : c.length ≤ b.length) : WpR cfg ops dst k T S F Q (some (.enter 61 [.rs id 0 b.length, .d (.int .i64 0), .rs j 0 c.length])) = WpL cfg ops k (putT T dst (.d (encB (layB b 0 c)))) ((S.set id (.fz (b.map byD) 5)).set j (.fz (c.map byD) 5)) F Q := by
  refine wr_two (ds := [encB b, .int .i64 0, encB c]) rfl ?_ ?_ hr hr2 rfl ?_
  · simp only [allO, frz_d, frz_Y hr rfl, frz_Y hr2 rfl]
  · simp only [List.flatMap_cons, ids_Y hr, ids_Y hr2, frzIds_d, List.flatMap_nil]
    rfl
  · have := rlay_ok b c 0 hl (by omega) (by omega) (by omega)
    rw [layN_zero hc] at this
    exact this
theorem call_rlay1 {id : Nat} {b c : List UInt8} (hr : S[id]? = some (rowY b)) (hl : b.length < 1000000) (hc : c.length ≤ b.length) : WpR cfg ops dst k T S F Q (some (.enter 61 [.rs id 0 b.length, .d (.int .i64 0), .d (encB c)])) = WpL cfg ops k (putT T dst (.d (encB (layB b 0 c)))) (S.set id (.fz (b.map byD) 5)) F Q := by
  refine wr_row (ds := [encB b, .int .i64 0, encB c]) rfl ?_ ?_ hr rfl ?_
  · simp only [allO, frz_d, frz_Y hr rfl]
  · simp only [List.flatMap_cons, ids_Y hr, frzIds_d, List.flatMap_nil]
    rfl
  · have := rlay_ok b c 0 hl (by omega) (by omega) (by omega)
    rw [layN_zero hc] at this
    exact this
theorem call_rbytes {w v : Nat} (hw : w ≤ 8) (hv : v < 18446744073709551616) : WpR cfg ops dst k T S F Q (some (.enter 99 [.d (.int .i64 (w : Int)), .d (.int .u64 (v : Int))])) = WpL cfg ops k (putT T dst (.d (encB (leB w v)))) S F Q :=
  wr_call_d (ds := [.int .i64 (w : Int), .int .u64 (v : Int)]) rfl (bytes_ok w v hw hv)
theorem call_rof {s : List UInt8} (hs : s.length ≤ 1000000) : WpR cfg ops dst k T S F Q (some (.enter 100 [.d (.str s)])) = WpL cfg ops k (putT T dst (.d (.int .u64 (hashL s : Int)))) S F Q :=
  wr_call_d (ds := [.str s]) rfl (rof_ok s hs)
end
theorem cv322 {S : Store} {n : Nat} (h : n < 18446744073709551616) : convertV Try.prog S 3 22 (.d (.int .i64 (n : Int))) = some (.d (.int .u64 (n : Int)), 0) := by
  have h1 : Try.prog.underlying 3 = some (.int .i64) := by kernel_rfl
  have h2 : Try.prog.underlying 22 = some (.int .u64) := by kernel_rfl
  simp only [convertV, h1, h2]
  rw [u64n h]
theorem leB_ne {n v : Nat} (h : n ≠ 0) : leB n v ≠ [] := fun e => h (by have := leB_len n v; rw [e] at this; simpa using this.symm)
theorem rput_ok (B I M : Nat) (hB : B ≤ 512) (hI : I ≤ 128) (hM : M < 18446744073709551616) : Ev cfg 59 [encLay ⟨(B : Int), (I : Int), (M : Int)⟩] (.ret (.d (encB (supB B I M)))) := by
  refine ev_of rfl rfl body59 ?_
  show Wp cfg (Try.f59.body.getD .skip) ((.d (encLay ⟨(B : Int), (I : Int), (M : Int)⟩)) :: (.tup []) :: (.tup []) :: (.tup []) :: (.tup []) :: (.tup []) :: (.tup []) :: (.tup []) :: (.tup []) :: (.tup []) :: (.tup []) :: (.tup []) :: (.tup []) :: (.tup []) :: (.tup []) :: (.tup []) :: (.tup []) :: (.tup []) :: (.tup []) :: (.tup []) :: (.tup []) :: (.tup []) :: (.tup []) :: (.tup []) :: (.tup []) :: (.tup []) :: (.tup []) :: (.tup []) :: (.tup []) :: (.tup []) :: (.tup []) :: []) [] [] _
  conv => arg 2; whnf
  simp (maxSteps := 1000000) (disch := first | assumption | omega | rfl) only [↓vmp, vme, vmb, ty, hP, dec_t, dec_f, wrap64, List.length_map, Int.toNat_natCast, Nat.reduceAdd, List.cons_append, List.nil_append, Option.map_some, Option.map_none, strOf_mk, sb_eql, sb_neq, vmg, ↓vgd, ↓vst, ↓vix]
  rw [wl_magic (by kernel_rfl)]
  have b1 := fun {ops dst k T S F Q} => call_rbytes (ops := ops) (dst := dst) (k := k) (T := T) (S := S) (F := F) (Q := Q) (w := 2) (v := B) (by omega) (by omega)
  have b2 := fun {ops dst k T S F Q} => call_rbytes (ops := ops) (dst := dst) (k := k) (T := T) (S := S) (F := F) (Q := Q) (w := 2) (v := I) (by omega) (by omega)
  have b3 := fun {ops dst k T S F Q} => call_rbytes (ops := ops) (dst := dst) (k := k) (T := T) (S := S) (F := F) (Q := Q) (w := 8) (v := M) (by omega) hM
  simp only [nl2, nl8] at b1 b2 b3
  have c1 := fun S => cv322 (S := S) (n := B) (by omega)
  have c2 := fun S => cv322 (S := S) (n := I) (by omega)
  have a1 := fun S => app_ts (S := S) (a := magicB) (b := leB 2 B) (leB_ne (by decide)) (by rw [leB_len]; decide)
  have a2 : ∀ l : Ob, appendV Try.prog [l, rowY (magicB ++ leB 2 B)] 40 40 (.rs 1 0 (magicB ++ leB 2 B).length) (.d (encB (leB 2 I))) = some (.rs 2 0 (magicB ++ leB 2 B ++ leB 2 I).length, [l, .dead, rowY (magicB ++ leB 2 B ++ leB 2 I)], 3) := fun l => app_rs (id := 1) rfl (leB_ne (by decide)) (by simp [magicB, leB_len])
  have a3 : ∀ l : Ob, appendV Try.prog [l, .dead, rowY (magicB ++ leB 2 B ++ leB 2 I)] 40 40 (.rs 2 0 (magicB ++ leB 2 B ++ leB 2 I).length) (.d (encB (leB 8 M))) = some (.rs 3 0 (supL B I M).length, [l, .dead, .dead, rowY (supL B I M)], 3) := fun l => app_rs (id := 2) rfl (leB_ne (by decide)) (by simp [magicB, leB_len])
  have hh := hashL_lt (supL B I M)
  obtain ⟨H, hH⟩ : ∃ H, hashL (supL B I M) = H := ⟨_, rfl⟩
  have hs : supB B I M = supL B I M ++ leB 4 H ++ zeros 232 := by unfold supB; rw [hH]
  rw [hH] at hh
  rw [hs]
  have hcv : ∀ l : Ob, convertV Try.prog [l, .dead, .dead, rowY (supL B I M)] 40 9 (.rs 3 0 (supL B I M).length) = some (.d (.str (supL B I M)), 1) := fun l => cvrs (id := 3) rfl
  have b4 := fun {ops dst k T S F Q} => call_rof (ops := ops) (dst := dst) (k := k) (T := T) (S := S) (F := F) (Q := Q) (s := supL B I M) (by rw [supL_len]; omega)
  rw [hH] at b4
  have b5 := fun {ops dst k T S F Q} => call_rbytes (ops := ops) (dst := dst) (k := k) (T := T) (S := S) (F := F) (Q := Q) (w := 4) (v := H) (by omega) (by omega)
  simp only [nl4] at b5
  have a4 : ∀ l : Ob, appendV Try.prog [l, .dead, .dead, rowY (supL B I M)] 40 40 (.rs 3 0 (supL B I M).length) (.d (encB (leB 4 H))) = some (.rs 4 0 (supL B I M ++ leB 4 H).length, [l, .dead, .dead, .dead, rowY (supL B I M ++ leB 4 H)], 3) := fun l => app_rs (id := 3) rfl (leB_ne (by decide)) (by rw [supL_len, leB_len]; omega)
  have hmk := fun S => mk40 (S := S) (n := 256) (by omega)
  simp only [nl256] at hmk
  have hlen : (supL B I M ++ leB 4 H).length = 24 := by rw [List.length_append, supL_len, leB_len]
  have hfin : layB (zeros 256) 0 (supL B I M ++ leB 4 H) = supL B I M ++ leB 4 H ++ zeros 232 := by
    have := layB_end (a := []) (d := supL B I M ++ leB 4 H) (n := 256) (by rw [hlen]; omega)
    rw [hlen, List.nil_append, List.nil_append] at this
    exact this
  have hly : ∀ (l : Ob) {ops dst k T F Q}, WpR cfg ops dst k T [l, .dead, .dead, .dead, rowY (supL B I M ++ leB 4 H), rowY (zeros 256)] F Q (some (.enter 61 [.rs 5 0 256, .d (.int .i64 0), .rs 4 0 (supL B I M ++ leB 4 H).length])) = WpL cfg ops k (putT T dst (.d (encB (supL B I M ++ leB 4 H ++ zeros 232)))) (([l, .dead, .dead, .dead, rowY (supL B I M ++ leB 4 H), rowY (zeros 256)].set 5 (.fz ((zeros 256).map byD) 5)).set 4 (.fz ((supL B I M ++ leB 4 H).map byD) 5)) F Q := fun l {ops dst k T F Q} => by
    have := call_rlay (ops := ops) (dst := dst) (k := k) (T := T) (F := F) (Q := Q) (S := [l, .dead, .dead, .dead, rowY (supL B I M ++ leB 4 H), rowY (zeros 256)]) (id := 5) (j := 4) (b := zeros 256) (c := supL B I M ++ leB 4 H) rfl rfl (by rw [z256]; omega) (by rw [hlen, z256]; omega)
    rw [hfin] at this
    exact this
  simp (maxSteps := 1000000) (disch := first | assumption | omega | rfl) only [↓vmp, vme, vmb, ty, hP, dec_t, dec_f, wrap64, List.length_map, Int.toNat_natCast, Nat.reduceAdd, List.cons_append, List.nil_append, Option.map_some, Option.map_none, strOf_mk, sb_eql, sb_neq, vmg, ↓vgd, ↓vst, ↓vix, b1, b2, b3, c1, c2, bo99, a1, a2, a3, hcv, b4, bo100, b5, a4, hmk, List.length_cons, List.length_nil, hly, bo61]
  exact retQ_one rfl rfl rfl
end Go.Proofs.Ytobgdmgldagjkaa
end
/-! geom: where the parts of a device are; chart.Make, table.With: what is laid there. -/
section
set_option linter.unusedVariables false
set_option linter.unusedSimpArgs false
set_option maxRecDepth 100000
set_option maxHeartbeats 4000000
namespace Go.Proofs.Ytobgdmgldagjkaa
open Go.Vm
theorem Map_ok : Ev cfg 50 [] (.ret (.d (.int .i64 1))) := ⟨50, by kernel_rfl⟩
theorem ok_ok (l : Lay) (hb : InB l.blocks) (hi : InB l.inodes) (hm : MayL l) : Ev cfg 112 [encLay l] (.ret (.d (.bool true))) := by
  refine ev_of rfl rfl body112 ?_
  show Wp cfg (Try.f112.body.getD .skip) ((.d (encLay l)) :: (.tup []) :: (.tup []) :: (.tup []) :: (.tup []) :: (.tup []) :: []) [] [] _
  conv => arg 2; whnf
  have hc := fun {ops dst k T S F Q} => call_check (ops := ops) (dst := dst) (k := k) (T := T) (S := S) (F := F) (Q := Q) (l := l) hb hi
  rw [if_pos hm] at hc
  simp (maxSteps := 1000000) (disch := first | assumption | omega | rfl) only [↓vmp, vme, vmb, ty, hP, dec_t, dec_f, wrap64, List.length_map, Int.toNat_natCast, Nat.reduceAdd, List.cons_append, List.nil_append, Option.map_some, Option.map_none, strOf_mk, sb_eql, sb_neq, vmg, ↓vgd, ↓vst, ↓vix, hc, bo67]
  exact retQ_one rfl rfl rfl
theorem Table_ok (l : Lay) (hb : InB l.blocks) (hi : InB l.inodes) (hm : MayL l) : Ev cfg 91 [encLay l] (.ret (.tup [.d (.int .i64 2), .d (.int .i64 (l.inodes.tdiv 8))])) := by
  refine ev_of rfl rfl body91 ?_
  show Wp cfg (Try.f91.body.getD .skip) ((.d (encLay l)) :: (.tup []) :: (.tup []) :: (.tup []) :: (.tup []) :: (.tup []) :: (.tup []) :: (.tup []) :: (.tup []) :: (.tup []) :: (.tup []) :: (.tup []) :: []) [] [] _
  conv => arg 2; whnf
  have hc := fun {ops dst k T S F Q} => wr_call_d (C := cfg) (ops := ops) (dst := dst) (l := k) (T := T) (S := S) (F := F) (Q := Q) (ds := [encLay l]) rfl (ok_ok l hb hi hm)
  have hc : ∀ {ops dst k T S F Q}, WpR cfg ops dst k T S F Q (some (.enter 112 [.d (encLay l)])) = WpL cfg ops k (putT T dst (.d (.bool true))) S F Q := hc
  have hq := quo8 hi
  have hM := fun {ops F Q K rd cs i dst T S} => we_call_d (C := cfg) (ops := ops) (F := F) (Q := Q) (K := K) (rd := rd) (cs := cs) (i := i) (dst := dst) (T := T) (S := S) (ds := []) rfl Map_ok
  simp only [List.map_nil] at hM
  simp (maxSteps := 1000000) (disch := first | assumption | omega | rfl) only [↓vmp, vme, vmb, ty, hP, dec_t, dec_f, wrap64, List.length_map, Int.toNat_natCast, Nat.reduceAdd, List.cons_append, List.nil_append, Option.map_some, Option.map_none, strOf_mk, sb_eql, sb_neq, vmg, ↓vgd, ↓vst, ↓vix, hc, bo112]
  refine wk_draw (is := [2, 3, 4, 0, 1, 5, 6]) (h := 0) (by kernel_rfl) (by kernel_rfl) ?_
  simp (maxSteps := 1000000) (disch := first | assumption | omega | rfl) only [List.replicate_zero, eq_self, vmd, vmk, vmo, vmg, vme, vmb, ty, hP, dec_t, dec_f, wrap64, List.length_map, Int.toNat_natCast, Nat.reduceAdd, ↓vgd, ↓vst, ↓vix, vso, hM, bo50, hq]
  refine ⟨by kernel_rfl, ?_⟩
  simp (maxSteps := 1000000) (disch := first | assumption | omega | rfl) only [↓vmp, vme, vmb, ty, hP, dec_t, dec_f, wrap64, List.length_map, Int.toNat_natCast, Nat.reduceAdd, List.cons_append, List.nil_append, Option.map_some, Option.map_none, strOf_mk, sb_eql, sb_neq, vmg, ↓vgd, ↓vst, ↓vix]
  exact retQ_two rfl rfl rfl rfl rfl rfl
theorem Data_ok (l : Lay) (hb : InB l.blocks) (hi : InB l.inodes) (hm : MayL l) : Ev cfg 51 [encLay l] (.ret (.d (.int .i64 (2 + l.inodes.tdiv 8)))) := by
  refine ev_of rfl rfl body51 ?_
  show Wp cfg (Try.f51.body.getD .skip) ((.d (encLay l)) :: (.tup []) :: (.tup []) :: (.tup []) :: (.tup []) :: (.tup []) :: (.tup []) :: (.tup []) :: (.tup []) :: (.tup []) :: (.tup []) :: (.tup []) :: (.tup []) :: []) [] [] _
  conv => arg 2; whnf
  have hc : ∀ {ops dst k T S F Q}, WpR cfg ops dst k T S F Q (some (.enter 91 [.d (encLay l)])) = WpL cfg ops k (putT T dst (.tup [.d (.int .i64 2), .d (.int .i64 (l.inodes.tdiv 8))])) S F Q := fun {ops dst k T S F Q} => wr_call_d (C := cfg) (ops := ops) (dst := dst) (l := k) (T := T) (S := S) (F := F) (Q := Q) (ds := [encLay l]) rfl (Table_ok l hb hi hm)
  have hd : 0 ≤ l.inodes.tdiv 8 ∧ l.inodes.tdiv 8 ≤ 16 := by
    have h1 := hm.2.2.1
    have h2 := hm.2.2.2.1
    rw [Int.tdiv_eq_ediv_of_nonneg (by omega)]; omega
  have hw : IntKind.i64.wrap (2 + l.inodes.tdiv 8) = 2 + l.inodes.tdiv 8 := wrap64 (by omega)
  simp (maxSteps := 1000000) (disch := first | assumption | omega | rfl) only [↓vmp, vme, vmb, ty, hP, dec_t, dec_f, wrap64, List.length_map, Int.toNat_natCast, Nat.reduceAdd, List.cons_append, List.nil_append, Option.map_some, Option.map_none, strOf_mk, sb_eql, sb_neq, vmg, ↓vgd, ↓vst, ↓vix, hc, bo91, hw]
  exact retQ_one rfl rfl rfl
def upto (n : Nat) : List Int := (List.range n).map fun i : Nat => (i : Int)
theorem upto_succ (n : Nat) : upto (n + 1) = upto n ++ [(n : Int)] := by unfold upto; rw [List.range_succ, List.map_append]; rfl
theorem upto_len (n : Nat) : (upto n).length = n := by unfold upto; simp
def encI (l : List Int) : D := .sl (l.map (D.int .i64))
theorem own_l (l : Lay) (n : Nat) (hn : n ≤ 1000) (R : Post) : ∀ (k i : Nat) (S : Store) (v3 g0 g1 g2 g4 g5 g8 g9 g10 g11 g12 g13 g14 g15 : V), n - i = k → i ≤ n → OwnS S v3 3 ((upto i).map fun x => .d (D.int .i64 x)) →
   (∀ S v3 i' g0 g1 g2 g4 g5 g8 g9 g10 g11 g12 g13 g14 g15, OwnS S v3 3 ((upto n).map fun x => .d (D.int .i64 x)) → R (.exit 0) (g0 :: g1 :: g2 :: v3 :: g4 :: g5 :: (.d (.int .i64 (n : Int))) :: i' :: g8 :: g9 :: g10 :: g11 :: g12 :: g13 :: g14 :: g15 :: []) S []) →
   Wp cfg (.loop (lpOf (Try.f55.body.getD .skip) 0)) (g0 :: g1 :: g2 :: v3 :: g4 :: g5 :: (.d (.int .i64 (n : Int))) :: (.d (.int .i64 (i : Int))) :: g8 :: g9 :: g10 :: g11 :: g12 :: g13 :: g14 :: g15 :: []) S [] R := by
  intro k
  induction k with
  | zero =>
    intro i S v3 g0 g1 g2 g4 g5 g8 g9 g10 g11 g12 g13 g14 g15 hk hi ho hR
    have hie : i = n := by omega
    subst hie
    rw [wk_of]
    refine wk_loop ?_
    conv => arg 2; whnf
    simp (maxSteps := 1000000) (disch := first | assumption | omega | rfl) only [↓vmp, vme, vmb, ty, hP, dec_t, dec_f, wrap64, List.length_map, Int.toNat_natCast, Nat.reduceAdd, List.cons_append, List.nil_append, Option.map_some, Option.map_none, strOf_mk, sb_eql, sb_neq, vmg, ↓vgd, ↓vst, ↓vix]
    exact hR _ _ _ _ _ _ _ _ _ _ _ _ _ _ _ _ ho
  | succ k ih =>
    intro i S v3 g0 g1 g2 g4 g5 g8 g9 g10 g11 g12 g13 g14 g15 hk hi ho hR
    have hlt : i < n := by omega
    have h3 : IntKind.i64.wrap ((i : Int) + 1) = ((i + 1 : Nat) : Int) := by rw [wrap64 (by omega)]; omega
    obtain ⟨v', S', c, ha, ho', hfr, hlen⟩ := ap46 (i : Int) ho (by rw [upto_len]; omega)
    rw [← upto_succ] at ho'
    rw [wk_of]
    refine wk_loop ?_
    conv => arg 2; whnf
    simp (maxSteps := 1000000) (disch := first | assumption | omega | rfl) only [↓vmp, vme, vmb, ty, hP, dec_t, dec_f, wrap64, List.length_map, Int.toNat_natCast, Nat.reduceAdd, List.cons_append, List.nil_append, Option.map_some, Option.map_none, strOf_mk, sb_eql, sb_neq, vmg, ↓vgd, ↓vst, ↓vix, ha, h3]
    exact ih (i + 1) S' v' _ _ _ _ _ _ _ _ _ _ _ _ _ (by omega) (by omega) ho' hR
theorem Own_ok (l : Lay) (n : Nat) (hb : InB l.blocks) (hi : InB l.inodes) (hm : MayL l) (hn : 2 + l.inodes.tdiv 8 = (n : Int)) (hn1 : n ≤ 1000) : Ev cfg 55 [encLay l] (.ret (.d (encI (upto n)))) := by
  refine ev_of rfl rfl body55 ?_
  show Wp cfg (Try.f55.body.getD .skip) ((.d (encLay l)) :: (.tup []) :: (.tup []) :: (.tup []) :: (.tup []) :: (.tup []) :: (.tup []) :: (.tup []) :: (.tup []) :: (.tup []) :: (.tup []) :: (.tup []) :: (.tup []) :: (.tup []) :: (.tup []) :: (.tup []) :: []) [] [] _
  conv => arg 2; whnf
  have hc : ∀ {ops dst k T S F Q}, WpR cfg ops dst k T S F Q (some (.enter 51 [.d (encLay l)])) = WpL cfg ops k (putT T dst (.d (.int .i64 (2 + l.inodes.tdiv 8)))) S F Q := fun {ops dst k T S F Q} => wr_call_d (C := cfg) (ops := ops) (dst := dst) (l := k) (T := T) (S := S) (F := F) (Q := Q) (ds := [encLay l]) rfl (Data_ok l hb hi hm)
  rw [hn] at hc
  simp (maxSteps := 1000000) (disch := first | assumption | omega | rfl) only [↓vmp, vme, vmb, ty, hP, dec_t, dec_f, wrap64, List.length_map, Int.toNat_natCast, Nat.reduceAdd, List.cons_append, List.nil_append, Option.map_some, Option.map_none, strOf_mk, sb_eql, sb_neq, vmg, ↓vgd, ↓vst, ↓vix, hc, bo51]
  refine own_l l n hn1 _ n 0 _ _ _ _ _ _ _ _ _ _ _ _ _ _ _ rfl (by omega) OwnS.nil ?_
  intro S v3 i' g0 g1 g2 g4 g5 g8 g9 g10 g11 g12 g13 g14 g15 ho
  simp (maxSteps := 1000000) (disch := first | assumption | omega | rfl) only [↓vmp, vme, vmb, ty, hP, dec_t, dec_f, wrap64, List.length_map, Int.toNat_natCast, Nat.reduceAdd, List.cons_append, List.nil_append, Option.map_some, Option.map_none, strOf_mk, sb_eql, sb_neq, vmg, ↓vgd, ↓vst, ↓vix]
  exact retQ_one rfl (own_one ho) (own_frz' (enc := D.int .i64) ho)
/-! chart.Make of the first numbers. -/
theorem with_tab : ∀ k, k < 18 → Ev cfg 95 [blkD (mapB k), .int .i64 (k : Int), .bool true] (.ret (.d (blkD (mapB (k + 1)))))
  | 0, _ => ⟨200, by kernel_rfl⟩
  | 1, _ => ⟨200, by kernel_rfl⟩
  | 2, _ => ⟨200, by kernel_rfl⟩
  | 3, _ => ⟨200, by kernel_rfl⟩
  | 4, _ => ⟨200, by kernel_rfl⟩
  | 5, _ => ⟨200, by kernel_rfl⟩
  | 6, _ => ⟨200, by kernel_rfl⟩
  | 7, _ => ⟨200, by kernel_rfl⟩
  | 8, _ => ⟨200, by kernel_rfl⟩
  | 9, _ => ⟨200, by kernel_rfl⟩
  | 10, _ => ⟨200, by kernel_rfl⟩
  | 11, _ => ⟨200, by kernel_rfl⟩
  | 12, _ => ⟨200, by kernel_rfl⟩
  | 13, _ => ⟨200, by kernel_rfl⟩
  | 14, _ => ⟨200, by kernel_rfl⟩
  | 15, _ => ⟨200, by kernel_rfl⟩
  | 16, _ => ⟨200, by kernel_rfl⟩
  | 17, _ => ⟨200, by kernel_rfl⟩
  | n + 18, h => by omega
theorem call_cw {ops : Array Oper} {dst : Option Tmp} {k : List Oper} {T : List V} {S : Store} {F : Dfs} {Q : Post} {u : V} {i : Nat} (hu : IsB u (mapB i)) (hi : i < 18) : WpR cfg ops dst k T S F Q (some (.enter 95 [u, .d (.int .i64 (i : Int)), .d (.bool true)])) = WpL cfg ops k (putT T dst (.d (blkD (mapB (i + 1))))) S F Q :=
  wr_call_v (ds := [blkD (mapB i), .int .i64 (i : Int), .bool true]) rfl (by simp only [allO, hu.frz (n := 10), frzFuel]; rfl) (by rw [List.flatMap_cons, hu.frzIds]; rfl) (with_tab i hi)
theorem make_l (n : Nat) (hn : n ≤ 18) (R : Post) : ∀ (k i : Nat) (u : V) (g0 g1 g4 g5 g9 g10 g11 g12 g13 g14 g15 g16 : V), n - i = k → i ≤ n → IsB u (mapB i) →
   (∀ u i' g0 g1 g4 g5 g9 g10 g11 g12 g13 g14 g15 g16, IsB u (mapB n) → R (.exit 0) (g0 :: g1 :: (.ref 0 0 0) :: (.ref 1 0 0) :: g4 :: g5 :: (.d (encI (upto n))) :: (.d (.int .i64 (n : Int))) :: i' :: g9 :: g10 :: g11 :: g12 :: g13 :: g14 :: g15 :: g16 :: []) [.row [blkV (zeros 256)] 42, .row [u] 42] []) →
   Wp cfg (.loop (lpOf (Try.f54.body.getD .skip) 0)) (g0 :: g1 :: (.ref 0 0 0) :: (.ref 1 0 0) :: g4 :: g5 :: (.d (encI (upto n))) :: (.d (.int .i64 (n : Int))) :: (.d (.int .i64 (i : Int))) :: g9 :: g10 :: g11 :: g12 :: g13 :: g14 :: g15 :: g16 :: []) [.row [blkV (zeros 256)] 42, .row [u] 42] [] R := by
  intro k
  induction k with
  | zero =>
    intro i u g0 g1 g4 g5 g9 g10 g11 g12 g13 g14 g15 g16 hk hi hu hR
    have hie : i = n := by omega
    subst hie
    rw [wk_of]
    refine wk_loop ?_
    conv => arg 2; whnf
    simp (maxSteps := 1000000) (disch := first | assumption | omega | rfl) only [↓vmp, vme, vmb, ty, hP, dec_t, dec_f, wrap64, List.length_map, Int.toNat_natCast, Nat.reduceAdd, List.cons_append, List.nil_append, Option.map_some, Option.map_none, strOf_mk, sb_eql, sb_neq, vmg, ↓vgd, ↓vst, ↓vix]
    exact hR _ _ _ _ _ _ _ _ _ _ _ _ _ _ hu
  | succ k ih =>
    intro i u g0 g1 g4 g5 g9 g10 g11 g12 g13 g14 g15 g16 hk hi hu hR
    have hlt : i < n := by omega
    have h3 : IntKind.i64.wrap ((i : Int) + 1) = ((i + 1 : Nat) : Int) := by rw [wrap64 (by omega)]; omega
    have hix : ∀ S : Store, indexAddrV Try.prog S 46 (.d (encI (upto n))) (.d (.int .i64 (i : Int))) = some (.d (.ptr (.int .i64 (i : Int)))) := fun S => by
      have := ix46 (S := S) (l := upto n) (i := i) (by rw [upto_len]; omega)
      have e : (upto n)[i]'(by rw [upto_len]; omega) = (i : Int) := by simp [upto]
      rw [e] at this
      exact this
    have hld := bt42.load hu (mapB_len i)
    have hcw := fun {ops dst k T S F Q} => call_cw (ops := ops) (dst := dst) (k := k) (T := T) (S := S) (F := F) (Q := Q) hu (by omega)
    have hst := bt42.store (isB_d (b := mapB (i + 1))) (mapB_len _) hu (mapB_len i)
    rw [wk_of]
    refine wk_loop ?_
    conv => arg 2; whnf
    simp (maxSteps := 1000000) (disch := first | assumption | omega | rfl) only [↓vmp, vme, vmb, ty, hP, dec_t, dec_f, wrap64, List.length_map, Int.toNat_natCast, Nat.reduceAdd, List.cons_append, List.nil_append, Option.map_some, Option.map_none, strOf_mk, sb_eql, sb_neq, vmg, ↓vgd, ↓vst, ↓vix, h3, hix, hld, hcw, bo95, hst, hu.one, if_true, eq_self]
    exact ih (i + 1) _ _ _ _ _ _ _ _ _ _ _ _ _ (by omega) (by omega) isB_d hR
theorem Make_ok (n : Nat) (hn : n ≤ 18) : Ev cfg 54 [encI (upto n)] (.ret (.d (blkD (mapB n)))) := by
  refine ev_of rfl rfl body54 ?_
  show Wp cfg (Try.f54.body.getD .skip) ((.d (encI (upto n))) :: (.tup []) :: (.tup []) :: (.tup []) :: (.tup []) :: (.tup []) :: (.tup []) :: (.tup []) :: (.tup []) :: (.tup []) :: (.tup []) :: (.tup []) :: (.tup []) :: (.tup []) :: (.tup []) :: (.tup []) :: (.tup []) :: []) [] [] _
  conv => arg 2; whnf
  have hln : ∀ S : Store, builtinV Try.prog S .len [46] [.d (encI (upto n))] = some (.val (.d (.int .i64 n)) S 0) := fun S => by rw [encI, len46, List.length_map, upto_len]
  simp (maxSteps := 1000000) (disch := first | assumption | omega | rfl) only [↓vmp, vme, vmb, ty, hP, dec_t, dec_f, wrap64, List.length_map, Int.toNat_natCast, Nat.reduceAdd, List.cons_append, List.nil_append, Option.map_some, Option.map_none, strOf_mk, sb_eql, sb_neq, vmg, ↓vgd, ↓vst, ↓vix, z42, zf42, hln]
  refine make_l n hn _ n 0 _ _ _ _ _ _ _ _ _ _ _ _ _ rfl (Nat.zero_le _) isB_v ?_
  intro u i' g0 g1 g4 g5 g9 g10 g11 g12 g13 g14 g15 g16 hu
  have hld := bt42.load hu (mapB_len n)
  have hst := bt42.store hu (mapB_len n) (w := blkV (zeros 256)) isB_v z256
  simp (maxSteps := 1000000) (disch := first | assumption | omega | rfl) only [↓vmp, vme, vmb, ty, hP, dec_t, dec_f, wrap64, List.length_map, Int.toNat_natCast, Nat.reduceAdd, List.cons_append, List.nil_append, Option.map_some, Option.map_none, strOf_mk, sb_eql, sb_neq, vmg, ↓vgd, ↓vst, ↓vix, hld, hst]
  exact retQ_cell (u := .ref 0 0 0) (v := u) rfl ((loadV_row rfl).trans hld) hu.one (hu.frz (n := 10))
/-- The block of the root's inode. -/
def rootB : List UInt8 := [2, 0, 1, 0, 0, 0, 0, 0, 1, 0] ++ zeros 246
def rootD : D := .agg [.int .i64 2, .int .i64 1, .int .i64 0, .int .i64 1, .int .i64 0, .int .i64 0, .int .i64 0, .int .i64 0, .int .i64 0, .int .i64 0, .int .i64 0]
theorem twith_ok : Ev cfg 52 [blkD (zeros 256), .int .i64 0, rootD] (.ret (.tup [.d (blkD rootB), .d (.int .i64 0)])) := ⟨1000, by kernel_rfl⟩
end Go.Proofs.Ytobgdmgldagjkaa
end
/-! The document's answer: maps of bits (Make, Block). -/
section
set_option linter.unusedVariables false
set_option linter.unusedSimpArgs false
set_option maxRecDepth 100000
set_option maxHeartbeats 4000000
namespace Go.Proofs.Ytobgdmgldagjkaa
open Go.Vm
def encZ (l : List Bool) : D := .sl (l.map D.bool)
def firstB (k : Nat) : List Bool := (List.range 2048).map fun j => decide (j < k)
theorem firstB_len (k : Nat) : (firstB k).length = 2048 := by unfold firstB; simp
theorem firstB_at {k i : Nat} (h : i < (firstB k).length) : (firstB k)[i] = decide (i < k) := by simp [firstB]
theorem firstB_set {k : Nat} : (firstB k).set k true = firstB (k + 1) := by
  apply List.ext_getElem
  · simp [firstB_len]
  · intro i h1 h2
    rw [List.getElem_set, firstB_at]
    by_cases h : k = i
    · subst h; rw [if_pos rfl, firstB_at]; simp
    · rw [if_neg h, firstB_at]
      congr 1
      apply propext
      omega
def addM (k : Nat) : List UInt8 := (List.range k).foldl addBit (zeros 256)
theorem addBits_len : ∀ (l : List Nat) (b : List UInt8), (l.foldl addBit b).length = b.length
  | [], b => rfl
  | i :: r, b => by rw [List.foldl_cons, addBits_len r, addBit, List.length_set]
theorem addM_len (k : Nat) : (addM k).length = 256 := by unfold addM; rw [addBits_len, zeros_len]
theorem addM_succ (k : Nat) : addM (k + 1) = addBit (addM k) k := by unfold addM; rw [List.range_succ, List.foldl_append]; rfl
theorem addM_map (k : Nat) (h : k < 64) : addM k = mapB k := bits_all ⟨k, h⟩
theorem remn {i : Nat} : binV Try.prog .rem 3 (.d (.int .i64 (i : Int))) (.d (.int .i64 8)) = some (.d (.int .i64 ((i % 8 : Nat) : Int))) := by
  rw [rem8, Int.tmod_eq_emod_of_nonneg (by omega)]; rfl
theorem quon {i : Nat} (h : i ≤ 1000000) : binV Try.prog .quo 3 (.d (.int .i64 (i : Int))) (.d (.int .i64 8)) = some (.d (.int .i64 ((i / 8 : Nat) : Int))) := by
  rw [quo8 (by unfold InB; omega), Int.tdiv_eq_ediv_of_nonneg (by omega)]; rfl
theorem ixZ {S : Store} {l : List Bool} {i : Nat} (h : i < l.length) : indexAddrV Try.prog S 153 (.d (encZ l)) (.d (.int .i64 (i : Int))) = some (.d (.ptr (.bool l[i]))) := ix153 h
theorem pow_in (s : Nat) : ∀ (R : Post) (S : Store) (x0 x3 : V) (i : Nat) (hs : i % 8 = s), ∀ (k j : Nat) (g1 g2 g7 g8 g9 g10 g11 g12 g13 g14 g15 g16 g17 g18 g19 g20 g21 g22 g23 g24 g25 g26 g27 g28 g29 g30 g31 g32 g33 g34 g35 g36 g37 g38 g39 g40 g41 : V), s - j = k → j ≤ s →
   (∀ j' g1 g2 g7 g8 g9 g10 g11 g12 g13 g14 g15 g16 g17 g18 g19 g20 g21 g22 g23 g24 g25 g26 g27 g28 g29 g30 g31 g32 g33 g34 g35 g36 g37 g38 g39 g40 g41, R (.exit 2) (x0 :: g1 :: g2 :: x3 :: (.d (.int .i64 (i : Int))) :: (.d (.int .i64 ((2 ^ s : Nat) : Int))) :: j' :: g7 :: g8 :: g9 :: g10 :: g11 :: g12 :: g13 :: g14 :: g15 :: g16 :: g17 :: g18 :: g19 :: g20 :: g21 :: g22 :: g23 :: g24 :: g25 :: g26 :: g27 :: g28 :: g29 :: g30 :: g31 :: g32 :: g33 :: g34 :: g35 :: g36 :: g37 :: g38 :: g39 :: g40 :: g41 :: []) S []) →
   Wp cfg (.loop (lpOf (Try.f101.body.getD .skip) 2)) (x0 :: g1 :: g2 :: x3 :: (.d (.int .i64 (i : Int))) :: (.d (.int .i64 ((2 ^ j : Nat) : Int))) :: (.d (.int .i64 (j : Int))) :: g7 :: g8 :: g9 :: g10 :: g11 :: g12 :: g13 :: g14 :: g15 :: g16 :: g17 :: g18 :: g19 :: g20 :: g21 :: g22 :: g23 :: g24 :: g25 :: g26 :: g27 :: g28 :: g29 :: g30 :: g31 :: g32 :: g33 :: g34 :: g35 :: g36 :: g37 :: g38 :: g39 :: g40 :: g41 :: []) S [] R := by
  intro R S x0 x3 i hs k
  have hrem := remn (i := i)
  rw [hs] at hrem
  induction k with
  | zero =>
    intro j g1 g2 g7 g8 g9 g10 g11 g12 g13 g14 g15 g16 g17 g18 g19 g20 g21 g22 g23 g24 g25 g26 g27 g28 g29 g30 g31 g32 g33 g34 g35 g36 g37 g38 g39 g40 g41 hk hj hR
    have hje : j = s := by omega
    subst hje
    rw [wk_of]
    refine wk_loop ?_
    conv => arg 2; whnf
    simp (maxSteps := 1000000) (disch := first | assumption | omega | rfl) only [↓vmp, vme, vmb, ty, hP, dec_t, dec_f, wrap64, List.length_map, Int.toNat_natCast, Nat.reduceAdd, List.cons_append, List.nil_append, Option.map_some, Option.map_none, strOf_mk, sb_eql, sb_neq, vmg, ↓vgd, ↓vst, ↓vix, hrem]
    exact hR _ _ _ _ _ _ _ _ _ _ _ _ _ _ _ _ _ _ _ _ _ _ _ _ _ _ _ _ _ _ _ _ _ _ _ _ _ _
  | succ k ih =>
    intro j g1 g2 g7 g8 g9 g10 g11 g12 g13 g14 g15 g16 g17 g18 g19 g20 g21 g22 g23 g24 g25 g26 g27 g28 g29 g30 g31 g32 g33 g34 g35 g36 g37 g38 g39 g40 g41 hk hj hR
    have hlt : j < s := by omega
    have h3 : IntKind.i64.wrap ((j : Int) + 1) = ((j + 1 : Nat) : Int) := by rw [wrap64 (by omega)]; omega
    have hp : 2 ^ j ≤ 2 ^ 8 := Nat.pow_le_pow_right (by decide) (by omega)
    have h4 : IntKind.i64.wrap (((2 ^ j : Nat) : Int) * 2) = ((2 ^ (j + 1) : Nat) : Int) := by
      rw [Nat.pow_succ]
      generalize 2 ^ j = m at hp ⊢
      rw [wrap64 (by omega)]; omega
    rw [wk_of]
    refine wk_loop ?_
    conv => arg 2; whnf
    simp (maxSteps := 1000000) (disch := first | assumption | omega | rfl) only [↓vmp, vme, vmb, ty, hP, dec_t, dec_f, wrap64, List.length_map, Int.toNat_natCast, Nat.reduceAdd, List.cons_append, List.nil_append, Option.map_some, Option.map_none, strOf_mk, sb_eql, sb_neq, vmg, ↓vgd, ↓vst, ↓vix, hrem, h3, h4]
    exact ih (j + 1) _ _ _ _ _ _ _ _ _ _ _ _ _ _ _ _ _ _ _ _ _ _ _ _ _ _ _ _ _ _ _ _ _ _ _ _ _ (by omega) (by omega) hR
theorem u8add {x y : UInt8} : IntKind.u8.wrap ((x.toNat : Int) + (y.toNat : Int)) = ((x + y).toNat : Int) := by
  rw [u8_mod, UInt8.toNat_add]
  omega
theorem blk_l (n : Nat) (hn : n ≤ 64) (R : Post) : ∀ (k i : Nat) (g1 g2 g5 g6 g7 g8 g9 g10 g11 g12 g13 g14 g15 g16 g17 g18 g19 g20 g21 g22 g23 g24 g25 g26 g27 g28 g29 g30 g31 g32 g33 g34 g35 g36 g37 g38 g39 g40 g41 : V), 2048 - i = k → i ≤ 2048 →
   (∀ i' g1 g2 g5 g6 g7 g8 g9 g10 g11 g12 g13 g14 g15 g16 g17 g18 g19 g20 g21 g22 g23 g24 g25 g26 g27 g28 g29 g30 g31 g32 g33 g34 g35 g36 g37 g38 g39 g40 g41, R (.exit 0) ((.d (encZ (firstB n))) :: g1 :: g2 :: (.rs 0 0 256) :: i' :: g5 :: g6 :: g7 :: g8 :: g9 :: g10 :: g11 :: g12 :: g13 :: g14 :: g15 :: g16 :: g17 :: g18 :: g19 :: g20 :: g21 :: g22 :: g23 :: g24 :: g25 :: g26 :: g27 :: g28 :: g29 :: g30 :: g31 :: g32 :: g33 :: g34 :: g35 :: g36 :: g37 :: g38 :: g39 :: g40 :: g41 :: []) [rowY (addM n)] []) →
   Wp cfg (.loop (lpOf (Try.f101.body.getD .skip) 0)) ((.d (encZ (firstB n))) :: g1 :: g2 :: (.rs 0 0 256) :: (.d (.int .i64 (i : Int))) :: g5 :: g6 :: g7 :: g8 :: g9 :: g10 :: g11 :: g12 :: g13 :: g14 :: g15 :: g16 :: g17 :: g18 :: g19 :: g20 :: g21 :: g22 :: g23 :: g24 :: g25 :: g26 :: g27 :: g28 :: g29 :: g30 :: g31 :: g32 :: g33 :: g34 :: g35 :: g36 :: g37 :: g38 :: g39 :: g40 :: g41 :: []) [rowY (addM (min i n))] [] R := by
  intro k
  have hln : ∀ S : Store, builtinV Try.prog S .len [153] [.d (encZ (firstB n))] = some (.val (.d (.int .i64 2048)) S 0) := fun S => by rw [encZ, len153, List.length_map, firstB_len]; rfl
  induction k with
  | zero =>
    intro i g1 g2 g5 g6 g7 g8 g9 g10 g11 g12 g13 g14 g15 g16 g17 g18 g19 g20 g21 g22 g23 g24 g25 g26 g27 g28 g29 g30 g31 g32 g33 g34 g35 g36 g37 g38 g39 g40 g41 hk hi hR
    have hie : i = 2048 := by omega
    subst hie
    rw [show min 2048 n = n by omega]
    rw [wk_of]
    refine wk_loop ?_
    conv => arg 2; whnf
    simp (maxSteps := 1000000) (disch := first | assumption | omega | rfl) only [↓vmp, vme, vmb, ty, hP, dec_t, dec_f, wrap64, List.length_map, Int.toNat_natCast, Nat.reduceAdd, List.cons_append, List.nil_append, Option.map_some, Option.map_none, strOf_mk, sb_eql, sb_neq, vmg, ↓vgd, ↓vst, ↓vix, hln]
    exact hR _ _ _ _ _ _ _ _ _ _ _ _ _ _ _ _ _ _ _ _ _ _ _ _ _ _ _ _ _ _ _ _ _ _ _ _ _ _ _ _
  | succ k ih =>
    intro i g1 g2 g5 g6 g7 g8 g9 g10 g11 g12 g13 g14 g15 g16 g17 g18 g19 g20 g21 g22 g23 g24 g25 g26 g27 g28 g29 g30 g31 g32 g33 g34 g35 g36 g37 g38 g39 g40 g41 hk hi hR
    have hlt : i < 2048 := by omega
    have h3 : IntKind.i64.wrap ((i : Int) + 1) = ((i + 1 : Nat) : Int) := by rw [wrap64 (by omega)]; omega
    have hix := fun S => ixZ (S := S) (l := firstB n) (i := i) (by rw [firstB_len]; omega)
    rw [firstB_at] at hix
    rw [wk_of]
    refine wk_loop ?_
    conv => arg 2; whnf
    by_cases hin : i < n
    · rw [decide_eq_true hin] at hix
      rw [show min i n = i by omega]
      simp (maxSteps := 1000000) (disch := first | assumption | omega | rfl) only [↓vmp, vme, vmb, ty, hP, dec_t, dec_f, wrap64, List.length_map, Int.toNat_natCast, Nat.reduceAdd, List.cons_append, List.nil_append, Option.map_some, Option.map_none, strOf_mk, sb_eql, sb_neq, vmg, ↓vgd, ↓vst, ↓vix, hln, hix]
      refine pow_in (i % 8) _ _ _ _ i rfl _ 0 _ _ _ _ _ _ _ _ _ _ _ _ _ _ _ _ _ _ _ _ _ _ _ _ _ _ _ _ _ _ _ _ _ _ _ _ _ rfl (Nat.zero_le _) ?_
      intro j' g1 g2 g7 g8 g9 g10 g11 g12 g13 g14 g15 g16 g17 g18 g19 g20 g21 g22 g23 g24 g25 g26 g27 g28 g29 g30 g31 g32 g33 g34 g35 g36 g37 g38 g39 g40 g41
      have hq := quon (i := i) (by omega)
      have hS : ([rowY (addM i)] : Store)[0]? = some (rowY (addM i)) := rfl
      have hiy := ixY (n := 256) (i := i / 8) hS (by omega)
      have hrw := rowE_Y (i := i / 8) hS (by rw [addM_len]; omega)
      have hc5 := fun S => cv35 (S := S) (n := 2 ^ (i % 8))
      have hpt := put_Y (i := i / 8) hS (x := (addM i)[i / 8]'(by rw [addM_len]; omega) + UInt8.ofNat (2 ^ (i % 8) % 256))
      have hset : (addM i).set (i / 8) ((addM i)[i / 8]'(by rw [addM_len]; omega) + UInt8.ofNat (2 ^ (i % 8) % 256)) = addM (i + 1) := by
        rw [addM_succ]
        unfold addBit
        have hp : 2 ^ (i % 8) < 256 := Nat.pow_lt_pow_right (m := i % 8) (n := 8) (by decide) (by omega)
        rw [List.getD_eq_getElem?_getD, List.getElem?_eq_getElem (by rw [addM_len]; omega), Nat.mod_eq_of_lt hp]
        rfl
      rw [hset] at hpt
      have hpt : putRow [rowY (addM i)] 0 (i / 8) (.d (.int .u8 (((addM i)[i / 8]'(by rw [addM_len]; omega) + UInt8.ofNat (2 ^ (i % 8) % 256)).toNat : Int))) = some [rowY (addM (i + 1))] := hpt
      have hadd := u8add (x := (addM i)[i / 8]'(by rw [addM_len]; omega)) (y := UInt8.ofNat (2 ^ (i % 8) % 256))
      simp (maxSteps := 1000000) (disch := first | assumption | omega | rfl) only [↓vmp, vme, vmb, ty, hP, dec_t, dec_f, wrap64, List.length_map, Int.toNat_natCast, Nat.reduceAdd, List.cons_append, List.nil_append, Option.map_some, Option.map_none, strOf_mk, sb_eql, sb_neq, vmg, ↓vgd, ↓vst, ↓vix, hq, hiy, hrw, hc5, hadd, st5, ldr5, hpt, h3]
      have e : addM (i + 1) = addM (min (i + 1) n) := by rw [show min (i + 1) n = i + 1 by omega]
      rw [e]
      exact ih (i + 1) _ _ _ _ _ _ _ _ _ _ _ _ _ _ _ _ _ _ _ _ _ _ _ _ _ _ _ _ _ _ _ _ _ _ _ _ _ _ _ (by omega) (by omega) hR
    · rw [decide_eq_false hin] at hix
      simp (maxSteps := 1000000) (disch := first | assumption | omega | rfl) only [↓vmp, vme, vmb, ty, hP, dec_t, dec_f, wrap64, List.length_map, Int.toNat_natCast, Nat.reduceAdd, List.cons_append, List.nil_append, Option.map_some, Option.map_none, strOf_mk, sb_eql, sb_neq, vmg, ↓vgd, ↓vst, ↓vix, hln, hix, h3]
      have e : addM (min i n) = addM (min (i + 1) n) := by rw [show min (i + 1) n = min i n by omega]
      rw [e]
      exact ih (i + 1) _ _ _ _ _ _ _ _ _ _ _ _ _ _ _ _ _ _ _ _ _ _ _ _ _ _ _ _ _ _ _ _ _ _ _ _ _ _ _ (by omega) (by omega) hR
theorem blk_ok (n : Nat) (hn : n < 64) : Ev cfg 101 [encZ (firstB n)] (.ret (.d (encB (mapB n)))) := by
  refine ev_of rfl rfl body101 ?_
  show Wp cfg (Try.f101.body.getD .skip) ((.d (encZ (firstB n))) :: (.tup []) :: (.tup []) :: (.tup []) :: (.tup []) :: (.tup []) :: (.tup []) :: (.tup []) :: (.tup []) :: (.tup []) :: (.tup []) :: (.tup []) :: (.tup []) :: (.tup []) :: (.tup []) :: (.tup []) :: (.tup []) :: (.tup []) :: (.tup []) :: (.tup []) :: (.tup []) :: (.tup []) :: (.tup []) :: (.tup []) :: (.tup []) :: (.tup []) :: (.tup []) :: (.tup []) :: (.tup []) :: (.tup []) :: (.tup []) :: (.tup []) :: (.tup []) :: (.tup []) :: (.tup []) :: (.tup []) :: (.tup []) :: (.tup []) :: (.tup []) :: (.tup []) :: (.tup []) :: (.tup []) :: []) [] [] _
  conv => arg 2; whnf
  have hln : ∀ S : Store, builtinV Try.prog S .len [153] [.d (encZ (firstB n))] = some (.val (.d (.int .i64 2048)) S 0) := fun S => by rw [encZ, len153, List.length_map, firstB_len]; rfl
  have hq := quon (i := 2048) (by omega)
  simp only [nl2048, show 2048 / 8 = 256 from rfl, nl256] at hq
  have hmk := fun S => mk40 (S := S) (n := 256) (by omega)
  simp only [nl256] at hmk
  simp (maxSteps := 1000000) (disch := first | assumption | omega | rfl) only [↓vmp, vme, vmb, ty, hP, dec_t, dec_f, wrap64, List.length_map, Int.toNat_natCast, Nat.reduceAdd, List.cons_append, List.nil_append, Option.map_some, Option.map_none, strOf_mk, sb_eql, sb_neq, vmg, ↓vgd, ↓vst, ↓vix, hln, hq, hmk]
  have e0 : zeros 256 = addM (min 0 n) := by rw [show min 0 n = 0 by omega]; rfl
  rw [e0]
  refine blk_l n (by omega) _ 2048 0 _ _ _ _ _ _ _ _ _ _ _ _ _ _ _ _ _ _ _ _ _ _ _ _ _ _ _ _ _ _ _ _ _ _ _ _ _ _ _ rfl (Nat.zero_le _) ?_
  intro i' g1 g2 g5 g6 g7 g8 g9 g10 g11 g12 g13 g14 g15 g16 g17 g18 g19 g20 g21 g22 g23 g24 g25 g26 g27 g28 g29 g30 g31 g32 g33 g34 g35 g36 g37 g38 g39 g40 g41
  simp (maxSteps := 1000000) (disch := first | assumption | omega | rfl) only [↓vmp, vme, vmb, ty, hP, dec_t, dec_f, wrap64, List.length_map, Int.toNat_natCast, Nat.reduceAdd, List.cons_append, List.nil_append, Option.map_some, Option.map_none, strOf_mk, sb_eql, sb_neq, vmg, ↓vgd, ↓vst, ↓vix]
  rw [← addM_map n hn]
  exact retQ_one rfl rfl (frz_Y rfl (addM_len n).symm)
end Go.Proofs.Ytobgdmgldagjkaa
end
/-! The document's answer: Make of the first numbers; the root's inode. -/
section
set_option linter.unusedVariables false
set_option linter.unusedSimpArgs false
set_option maxRecDepth 100000
set_option maxHeartbeats 4000000
namespace Go.Proofs.Ytobgdmgldagjkaa
open Go.Vm
/-- A row of bools. -/
def rowZ (d : List Bool) : Ob := .row (d.map fun x => V.d (.bool x)) 4
section
variable {S : Store} {id n i : Nat} {d : List Bool}
theorem ixRZ (hS : S[id]? = some (rowZ d)) (hi : i < n) : indexAddrV Try.prog S 153 (.rs id 0 n) (.d (.int .i64 (i : Int))) = some (.ref id i 0) := by
  have h1 : rowT S id 4 = true := by unfold rowT; rw [hS]; rfl
  have h2 : (sz Try.prog 4).isSome = true := by kernel_rfl
  simp only [indexAddrV, intOf?, Try.underlying153]
  rw [if_pos ⟨⟨by omega, by omega⟩, h1, h2⟩]
  simp
theorem rowE_Z (hS : S[id]? = some (rowZ d)) (hi : i < d.length) : rowE S id i = some (.d (.bool d[i])) := by
  unfold rowE
  rw [hS]
  simp only [rowZ, List.getElem?_map, List.getElem?_eq_getElem hi, Option.map_some]
theorem put_Z (hS : S[id]? = some (rowZ d)) {x : Bool} : putRow S id i (.d (.bool x)) = some (S.set id (rowZ (d.set i x))) := by
  unfold putRow
  rw [hS]
  simp only [rowZ, List.map_set]
theorem frz_Z (hS : S[id]? = some (rowZ d)) (hn : n = d.length) : Go.Vm.frz S frzFuel (.rs id 0 n) = some (encZ d) := by
  subst hn
  have h3 : allO (Go.Vm.frz S 11) ((d.map D.bool).map V.d) = some (d.map D.bool) := allO_d (n := 10) (d.map D.bool)
  have h4 : (d.map D.bool).map V.d = d.map fun x => V.d (.bool x) := by simp [Function.comp_def]
  rw [h4] at h3
  show (match S[id]? with
    | some (.row xs e) => if 0 + d.length ≤ xs.length && (allO (Go.Vm.frz S 11) xs).isSome then (allO (Go.Vm.frz S 11) ((xs.drop 0).take d.length)).map D.sl else none
    | some (.fz xs e) => if 0 + d.length ≤ xs.length then some (D.sl ((xs.drop 0).take d.length)) else none
    | _ => none) = _
  rw [hS]
  have h2 : ((d.map fun x => V.d (.bool x)).drop 0).take d.length = d.map fun x => V.d (.bool x) := by rw [List.drop_zero, List.take_of_length_le (by simp)]
  simp only [rowZ, h3, h2, List.length_map, Nat.zero_add, Nat.le_refl, decide_true, Option.isSome_some, Bool.and_self, if_true, Option.map_some]
  rfl
theorem ids_Z (hS : S[id]? = some (rowZ d)) : frzIds S frzFuel (.rs id 0 n) = [id] := by
  have h2 : S[id]? = some (.row ((d.map D.bool).map .d) 4) := by rw [hS]; simp [rowZ, Function.comp_def]
  show (match S[id]? with | some (.row xs e) => id :: xs.flatMap (frzIds S 11) | _ => []) = _
  rw [h2]
  simp only [flat_d]
end
theorem st4 {a b : Bool} : storeR Try.prog 4 0 (.d (.bool a)) (.d (.bool b)) = some (.d (.bool a)) := by kernel_rfl
theorem mk153 {S : Store} : makeSliceV Try.prog S 153 (.d (.int .i64 2048)) (.d (.int .i64 2048)) = some (.rs S.length 0 2048, S ++ [rowZ (firstB 0)]) := by
  have hz : zeroV Try.prog 4 = some (.d (.bool false)) := by kernel_rfl
  have hf : fitsT Try.prog 4 (.d (.bool false)) = true := by kernel_rfl
  have hr : room Try.prog 4 2048 = true := room153 (by omega)
  have e : List.replicate 2048 (V.d (.bool false)) = (firstB 0).map fun x => V.d (.bool x) := by
    apply List.ext_getElem
    · rw [List.length_replicate, List.length_map, firstB_len]
    · intro i h1 h2
      rw [List.getElem_replicate, List.getElem_map, firstB_at]
      simp
  have h1 : (0 : Int) ≤ 2048 ∧ (2048 : Int) ≤ 2048 ∧ (2048 : Int) ≤ 9223372036854775807 := by omega
  have ht : (2048 : Int).toNat = 2048 := rfl
  simp only [makeSliceV, Try.underlying153, hz, ht, hr, hf, Bool.and_self, if_true]
  rw [if_pos h1, e]
  rfl
theorem call_blk {ops : Array Oper} {dst : Option Tmp} {k : List Oper} {T : List V} {S : Store} {F : Dfs} {Q : Post} {id n : Nat} (hr : S[id]? = some (rowZ (firstB n))) (hn : n < 64) : WpR cfg ops dst k T S F Q (some (.enter 101 [.rs id 0 2048])) = WpL cfg ops k (putT T dst (.d (encB (mapB n)))) (S.set id (.fz ((firstB n).map D.bool) 4)) F Q := by
  obtain ⟨m, hm⟩ := blk_ok n hn
  have hr' : S[id]? = some (.row (((firstB n).map D.bool).map .d) 4) := by rw [hr]; simp [rowZ, Function.comp_def]
  refine callV_E (c := 3) ⟨m, call_row (ds := [encZ (firstB n)]) rfl ?_ ?_ hr' rfl hm⟩
  · have := frz_Z (n := 2048) hr (firstB_len n).symm
    simp only [allO, this]
  · simp only [List.flatMap_cons, ids_Z hr, List.flatMap_nil]
    rfl
theorem rmake_l (n : Nat) (hn : n ≤ 64) (R : Post) : ∀ (k i : Nat) (g1 g2 g5 g6 g7 g8 g9 g10 g11 g12 g13 g14 g15 g16 g17 g18 g19 g20 g21 g22 g23 g24 g25 g26 g27 g28 g29 g30 g31 : V), n - i = k → i ≤ n →
   (∀ i' g1 g2 g5 g6 g7 g8 g9 g10 g11 g12 g13 g14 g15 g16 g17 g18 g19 g20 g21 g22 g23 g24 g25 g26 g27 g28 g29 g30 g31, R (.exit 0) ((.d (encI (upto n))) :: g1 :: g2 :: (.rs 0 0 2048) :: i' :: g5 :: g6 :: g7 :: g8 :: g9 :: g10 :: g11 :: g12 :: g13 :: g14 :: g15 :: g16 :: g17 :: g18 :: g19 :: g20 :: g21 :: g22 :: g23 :: g24 :: g25 :: g26 :: g27 :: g28 :: g29 :: g30 :: g31 :: []) [rowZ (firstB n)] []) →
   Wp cfg (.loop (lpOf (Try.f60.body.getD .skip) 0)) ((.d (encI (upto n))) :: g1 :: g2 :: (.rs 0 0 2048) :: (.d (.int .i64 (i : Int))) :: g5 :: g6 :: g7 :: g8 :: g9 :: g10 :: g11 :: g12 :: g13 :: g14 :: g15 :: g16 :: g17 :: g18 :: g19 :: g20 :: g21 :: g22 :: g23 :: g24 :: g25 :: g26 :: g27 :: g28 :: g29 :: g30 :: g31 :: []) [rowZ (firstB i)] [] R := by
  intro k
  have hln : ∀ S : Store, builtinV Try.prog S .len [46] [.d (encI (upto n))] = some (.val (.d (.int .i64 n)) S 0) := fun S => by rw [encI, len46, List.length_map, upto_len]
  induction k with
  | zero =>
    intro i g1 g2 g5 g6 g7 g8 g9 g10 g11 g12 g13 g14 g15 g16 g17 g18 g19 g20 g21 g22 g23 g24 g25 g26 g27 g28 g29 g30 g31 hk hi hR
    have hie : i = n := by omega
    subst hie
    rw [wk_of]
    refine wk_loop ?_
    conv => arg 2; whnf
    simp (maxSteps := 1000000) (disch := first | assumption | omega | rfl) only [↓vmp, vme, vmb, ty, hP, dec_t, dec_f, wrap64, List.length_map, Int.toNat_natCast, Nat.reduceAdd, List.cons_append, List.nil_append, Option.map_some, Option.map_none, strOf_mk, sb_eql, sb_neq, vmg, ↓vgd, ↓vst, ↓vix, hln]
    exact hR _ _ _ _ _ _ _ _ _ _ _ _ _ _ _ _ _ _ _ _ _ _ _ _ _ _ _ _ _ _
  | succ k ih =>
    intro i g1 g2 g5 g6 g7 g8 g9 g10 g11 g12 g13 g14 g15 g16 g17 g18 g19 g20 g21 g22 g23 g24 g25 g26 g27 g28 g29 g30 g31 hk hi hR
    have hlt : i < n := by omega
    have h3 : IntKind.i64.wrap ((i : Int) + 1) = ((i + 1 : Nat) : Int) := by rw [wrap64 (by omega)]; omega
    have hix : ∀ S : Store, indexAddrV Try.prog S 46 (.d (encI (upto n))) (.d (.int .i64 (i : Int))) = some (.d (.ptr (.int .i64 (i : Int)))) := fun S => by
      have := ix46 (S := S) (l := upto n) (i := i) (by rw [upto_len]; omega)
      have e : (upto n)[i]'(by rw [upto_len]; omega) = (i : Int) := by simp [upto]
      rw [e] at this
      exact this
    have hS : ([rowZ (firstB i)] : Store)[0]? = some (rowZ (firstB i)) := rfl
    have hiz := ixRZ (n := 2048) (i := i) hS (by omega)
    have hrw := rowE_Z (i := i) hS (by rw [firstB_len]; omega)
    have hpt := put_Z (i := i) hS (x := true)
    rw [firstB_set] at hpt
    have hpt : putRow [rowZ (firstB i)] 0 i (.d (.bool true)) = some [rowZ (firstB (i + 1))] := hpt
    rw [wk_of]
    refine wk_loop ?_
    conv => arg 2; whnf
    simp (maxSteps := 1000000) (disch := first | assumption | omega | rfl) only [↓vmp, vme, vmb, ty, hP, dec_t, dec_f, wrap64, List.length_map, Int.toNat_natCast, Nat.reduceAdd, List.cons_append, List.nil_append, Option.map_some, Option.map_none, strOf_mk, sb_eql, sb_neq, vmg, ↓vgd, ↓vst, ↓vix, hln, hix, hiz, hrw, st4, hpt, h3]
    exact ih (i + 1) _ _ _ _ _ _ _ _ _ _ _ _ _ _ _ _ _ _ _ _ _ _ _ _ _ _ _ _ _ (by omega) (by omega) hR
theorem rmake_ok (n : Nat) (hn : n < 64) : Ev cfg 60 [encI (upto n)] (.ret (.d (encB (mapB n)))) := by
  refine ev_of rfl rfl body60 ?_
  show Wp cfg (Try.f60.body.getD .skip) ((.d (encI (upto n))) :: (.tup []) :: (.tup []) :: (.tup []) :: (.tup []) :: (.tup []) :: (.tup []) :: (.tup []) :: (.tup []) :: (.tup []) :: (.tup []) :: (.tup []) :: (.tup []) :: (.tup []) :: (.tup []) :: (.tup []) :: (.tup []) :: (.tup []) :: (.tup []) :: (.tup []) :: (.tup []) :: (.tup []) :: (.tup []) :: (.tup []) :: (.tup []) :: (.tup []) :: (.tup []) :: (.tup []) :: (.tup []) :: (.tup []) :: (.tup []) :: (.tup []) :: []) [] [] _
  conv => arg 2; whnf
  simp (maxSteps := 1000000) (disch := first | assumption | omega | rfl) only [↓vmp, vme, vmb, ty, hP, dec_t, dec_f, wrap64, List.length_map, Int.toNat_natCast, Nat.reduceAdd, List.cons_append, List.nil_append, Option.map_some, Option.map_none, strOf_mk, sb_eql, sb_neq, vmg, ↓vgd, ↓vst, ↓vix, mk153]
  refine rmake_l n (by omega) _ n 0 _ _ _ _ _ _ _ _ _ _ _ _ _ _ _ _ _ _ _ _ _ _ _ _ _ _ _ _ _ rfl (Nat.zero_le _) ?_
  intro i' g1 g2 g5 g6 g7 g8 g9 g10 g11 g12 g13 g14 g15 g16 g17 g18 g19 g20 g21 g22 g23 g24 g25 g26 g27 g28 g29 g30 g31
  have hb := fun {ops dst k T F Q} => call_blk (ops := ops) (dst := dst) (k := k) (T := T) (S := [rowZ (firstB n)]) (F := F) (Q := Q) (id := 0) rfl hn
  simp (maxSteps := 1000000) (disch := first | assumption | omega | rfl) only [↓vmp, vme, vmb, ty, hP, dec_t, dec_f, wrap64, List.length_map, Int.toNat_natCast, Nat.reduceAdd, List.cons_append, List.nil_append, Option.map_some, Option.map_none, strOf_mk, sb_eql, sb_neq, vmg, ↓vgd, ↓vst, ↓vix, hb, bo101]
  exact retQ_one rfl rfl rfl
def rootI : List UInt8 := [2, 0, 1, 0, 0, 0, 0, 0, 1, 0] ++ zeros 22
abbrev RInode : Prop := Ev cfg 62 [rootD] (.ret (.d (encB rootI)))
theorem rootB_eq : layB (zeros 256) 0 rootI = rootB := by decide
end Go.Proofs.Ytobgdmgldagjkaa
end
/-! The disk: what its methods do to the store. -/
section
set_option linter.unusedVariables false
set_option linter.unusedSimpArgs false
set_option maxRecDepth 100000
set_option maxHeartbeats 4000000
namespace Go.Proofs.Ytobgdmgldagjkaa
open Go.Vm
/-- A disk's struct in the store. -/
def dskV (r n : Nat) (f : Int) (lit off : Bool) (w q : Int) : V := .agg [.rs r 0 n, .d (.int .i64 f), .d (.bool lit), .d (.bool off), .d (.int .i64 w), .d (.int .i64 q)]
section
variable {r n d x y : Nat} {f w q f' w' q' : Int} {lit off lit' off' : Bool} {S : Store}
theorem fr89_0 : fieldAddrV Try.prog 89 0 (.ref d x y) = some (.ref d x (y + 0)) := by kernel_rfl
theorem fr89_1 : fieldAddrV Try.prog 89 1 (.ref d x y) = some (.ref d x (y + 1)) := by kernel_rfl
theorem fr89_2 : fieldAddrV Try.prog 89 2 (.ref d x y) = some (.ref d x (y + 2)) := by kernel_rfl
theorem fr89_3 : fieldAddrV Try.prog 89 3 (.ref d x y) = some (.ref d x (y + 3)) := by kernel_rfl
theorem fr89_4 : fieldAddrV Try.prog 89 4 (.ref d x y) = some (.ref d x (y + 4)) := by kernel_rfl
theorem fr89_5 : fieldAddrV Try.prog 89 5 (.ref d x y) = some (.ref d x (y + 5)) := by kernel_rfl
theorem lk0 : loadR Try.prog 37 0 (some (dskV r n f lit off w q)) = some (.rs r 0 n) := by kernel_rfl
theorem lk1 : loadR Try.prog 3 1 (some (dskV r n f lit off w q)) = some (.d (.int .i64 f)) := by kernel_rfl
theorem lk2 : loadR Try.prog 4 2 (some (dskV r n f lit off w q)) = some (.d (.bool lit)) := by kernel_rfl
theorem lk3 : loadR Try.prog 4 3 (some (dskV r n f lit off w q)) = some (.d (.bool off)) := by kernel_rfl
theorem lk4 : loadR Try.prog 3 4 (some (dskV r n f lit off w q)) = some (.d (.int .i64 w)) := by kernel_rfl
theorem lk5 : loadR Try.prog 3 5 (some (dskV r n f lit off w q)) = some (.d (.int .i64 q)) := by kernel_rfl
theorem sk1 : storeR Try.prog 3 1 (.d (.int .i64 f')) (dskV r n f lit off w q) = some (dskV r n f' lit off w q) := by kernel_rfl
theorem sk2 : storeR Try.prog 4 2 (.d (.bool lit')) (dskV r n f lit off w q) = some (dskV r n f lit' off w q) := by kernel_rfl
theorem sk3 : storeR Try.prog 4 3 (.d (.bool off')) (dskV r n f lit off w q) = some (dskV r n f lit off' w q) := by kernel_rfl
theorem sk4 : storeR Try.prog 3 4 (.d (.int .i64 w')) (dskV r n f lit off w q) = some (dskV r n f lit off w' q) := by kernel_rfl
theorem sk5 : storeR Try.prog 3 5 (.d (.int .i64 q')) (dskV r n f lit off w q) = some (dskV r n f lit off w q') := by kernel_rfl
theorem eq26f : binV Try.prog .eql 26 (.ref d x y) (.d .nilp) = some (.d (.bool false)) := by kernel_rfl
theorem ne26f : binV Try.prog .neq 26 (.ref d x y) (.d .nilp) = some (.d (.bool true)) := by kernel_rfl
theorem eq26n : binV Try.prog .eql 26 (.d .nilp) (.d .nilp) = some (.d (.bool true)) := by kernel_rfl
theorem u37 : Try.prog.underlying 37 = some (.slice 42) := by kernel_rfl
theorem len37 {i o m : Nat} : builtinV Try.prog S .len [37] [.rs i o m] = some (.val (.d (.int .i64 m)) S 0) := len_rs u37
theorem lr26 : loadR Try.prog 26 0 (some (.ref d x y)) = some (.ref d x y) := by kernel_rfl
theorem lr29i : loadR Try.prog 29 0 (some (.d (.int .i64 f))) = some (.d (.int .i64 f)) := by kernel_rfl
theorem sr29i : storeR Try.prog 29 0 (.d (.int .i64 f')) (.d (.int .i64 f)) = some (.d (.int .i64 f')) := by kernel_rfl
theorem ft26 : fitsT Try.prog 26 (.ref d x y) = true := by kernel_rfl
theorem z29 : zeroV Try.prog 29 = some (.d (.int .i64 0)) := by kernel_rfl
end
/-! Rows behind a store, and in it. -/
section
variable {S l : Store} {n k i : Nat} {x y : V} {a b c o : Ob} {e : TypeId}
theorem rA0 (h : S.length = n) : rowE (S ++ .row [x] e :: l) n 0 = some x := by
  subst h; exact rowE_of (e := e) (by simp)
theorem rA1 (h : S.length = n) : rowE (S ++ a :: .row [x] e :: l) (n + 1) 0 = some x := by
  subst h; exact rowE_of (e := e) (by rw [List.getElem?_append_right (by omega)]; simp)
theorem rA2 (h : S.length = n) : rowE (S ++ a :: b :: .row [x] e :: l) (n + 2) 0 = some x := by
  subst h; exact rowE_of (e := e) (by rw [List.getElem?_append_right (by omega)]; simp)
theorem pA0 (h : S.length = n) : putRow (S ++ .row [x] e :: l) n 0 y = some (S ++ .row [y] e :: l) := by
  subst h
  rw [putRow_of (x := x) (e := e) (by simp)]
  simp
theorem pA1 (h : S.length = n) : putRow (S ++ a :: .row [x] e :: l) (n + 1) 0 y = some (S ++ a :: .row [y] e :: l) := by
  subst h
  rw [putRow_of (x := x) (e := e) (by rw [List.getElem?_append_right (by omega)]; simp)]
  rw [List.set_append_right _ _ (by omega)]
  simp
theorem pA2 (h : S.length = n) : putRow (S ++ a :: b :: .row [x] e :: l) (n + 2) 0 y = some (S ++ a :: b :: .row [y] e :: l) := by
  subst h
  rw [putRow_of (x := x) (e := e) (by rw [List.getElem?_append_right (by omega)]; simp)]
  rw [List.set_append_right _ _ (by omega)]
  simp
theorem rS0 (h : i < S.length) : rowE (S.set i (.row [x] e) ++ l) i 0 = some x := rowE_of (e := e) (by rw [List.getElem?_append_left (by simpa using h)]; simp [h])
theorem rSn (h : i ≠ k) (hi : i < S.length) {j : Nat} : rowE (S.set k o ++ l) i j = rowE S i j := by
  unfold rowE
  rw [List.getElem?_append_left (by simpa using hi), List.getElem?_set_ne (Ne.symm h)]
theorem pS0 (h : i < S.length) : putRow (S.set i (.row [x] e) ++ l) i 0 y = some (S.set i (.row [y] e) ++ l) := by
  rw [putRow_of (x := x) (e := e) (by rw [List.getElem?_append_left (by simpa using h)]; simp [h])]
  rw [List.set_append_left _ _ (by simpa using h), List.set_set]
end
theorem body9 : bodyOf Try.prog 9 = some ⟨(Try.f9.body.getD .skip), 16, #[]⟩ := by
  unfold bodyOf
  rw [Try.func9]
  rfl
theorem body12 : bodyOf Try.prog 12 = some ⟨(Try.f12.body.getD .skip), 13, #[]⟩ := by
  unfold bodyOf
  rw [Try.func12]
  rfl
theorem body94 : bodyOf Try.prog 94 = some ⟨(Try.f94.body.getD .skip), 11, #[]⟩ := by
  unfold bodyOf
  rw [Try.func94]
  rfl
theorem body96 : bodyOf Try.prog 96 = some ⟨(Try.f96.body.getD .skip), 8, #[]⟩ := by
  unfold bodyOf
  rw [Try.func96]
  rfl
/-- A disk in the store. -/
structure DskAt (S : Store) (d r : Nat) (vs : List V) (f : Int) (lit off : Bool) (w q : Int) : Prop where
  hd : S[d]? = some (.row [dskV r vs.length f lit off w q] 89)
  hr : S[r]? = some (.row vs 42)
  ne : r ≠ d
section
variable {S l : Store} {d r : Nat} {vs : List V} {f w q : Int} {lit off : Bool}
theorem DskAt.rd (h : DskAt S d r vs f lit off w q) : rowE (S ++ l) d 0 = some (dskV r vs.length f lit off w q) := rowE_of (e := 89) (by rw [List.getElem?_append_left (getLen h.hd)]; exact h.hd)
theorem DskAt.rd' (h : DskAt S d r vs f lit off w q) : rowE S d 0 = some (dskV r vs.length f lit off w q) := rowE_of (e := 89) h.hd
theorem DskAt.pd (h : DskAt S d r vs f lit off w q) {y : V} : putRow (S ++ l) d 0 y = some (S.set d (.row [y] 89) ++ l) := by
  rw [putRow_of (e := 89) (by rw [List.getElem?_append_left (getLen h.hd)]; exact h.hd), List.set_append_left _ _ (getLen h.hd)]
theorem DskAt.pd' (h : DskAt S d r vs f lit off w q) {y : V} : putRow S d 0 y = some (S.set d (.row [y] 89)) := putRow_of (e := 89) h.hd
theorem DskAt.dl (h : DskAt S d r vs f lit off w q) : d < S.length := getLen h.hd
theorem DskAt.rl (h : DskAt S d r vs f lit off w q) : r < S.length := getLen h.hr
end
theorem size_ok (S : Store) (d r : Nat) (vs : List V) (f w q : Int) (lit off : Bool) (h : DskAt S d r vs f lit off w q) : EvS cfg 49 [.ref d 0 0] S (fun o S' => S' = S ∧ o = .ret (.d (.int .i64 vs.length))) := by
  refine evS_of rfl body49 ?_
  show Wp cfg (Try.f49.body.getD .skip) ((.ref d 0 0) :: (.tup []) :: (.tup []) :: (.tup []) :: (.tup []) :: (.tup []) :: (.tup []) :: (.tup []) :: (.tup []) :: (.tup []) :: []) S [] _
  conv => arg 2; whnf
  rw [wk_of]
  have hd := h.rd'
  simp (maxSteps := 1000000) (disch := first | assumption | omega | rfl) only [↓vmp, vme, vmb, ty, hP, dec_t, dec_f, wrap64, List.length_map, Int.toNat_natCast, Nat.reduceAdd, List.cons_append, List.nil_append, Option.map_some, Option.map_none, strOf_mk, sb_eql, sb_neq, vmg, ↓vgd, ↓vst, ↓vix, eq26f, fr89_0, hd, lk0, len37]
  exact ⟨rfl, _, rfl, rfl, rfl⟩
theorem may_ok (S : Store) (d r : Nat) (vs : List V) (f w q : Int) (lit : Bool) (no : Nat) (h : DskAt S d r vs f lit false w q) (hn : no < vs.length) : EvS cfg 93 [.ref d 0 0, .d (.int .i64 (no : Int))] S (fun o S' => S' = S ∧ o = .ret (.d (.int .i64 0))) := by
  refine evS_of rfl body93 ?_
  show Wp cfg (Try.f93.body.getD .skip) ((.ref d 0 0) :: (.d (.int .i64 (no : Int))) :: (.tup []) :: (.tup []) :: (.tup []) :: (.tup []) :: (.tup []) :: (.tup []) :: (.tup []) :: (.tup []) :: (.tup []) :: (.tup []) :: (.tup []) :: (.tup []) :: (.tup []) :: (.tup []) :: (.tup []) :: (.tup []) :: (.tup []) :: (.tup []) :: (.tup []) :: (.tup []) :: (.tup []) :: (.tup []) :: (.tup []) :: []) S [] _
  conv => arg 2; whnf
  rw [wk_of]
  have hd := h.rd'
  have c1 : ¬ (no : Int) < 0 := by omega
  have c2 : ¬ (no : Int) ≥ (vs.length : Int) := by omega
  simp (maxSteps := 1000000) (disch := first | assumption | omega | rfl) only [↓vmp, vme, vmb, ty, hP, dec_t, dec_f, wrap64, List.length_map, Int.toNat_natCast, Nat.reduceAdd, List.cons_append, List.nil_append, Option.map_some, Option.map_none, strOf_mk, sb_eql, sb_neq, vmg, ↓vgd, ↓vst, ↓vix, eq26f, fr89_0, fr89_3, hd, lk0, lk3, len37]
  exact ⟨rfl, _, rfl, rfl, rfl⟩
theorem fuse_ok (S : Store) (d r : Nat) (vs : List V) (f w q : Int) (lit off : Bool) (n : Int) (h : DskAt S d r vs f lit off w q) : EvS cfg 9 [.ref d 0 0, .d (.int .i64 n)] S (fun o S' => S' = S.set d (.row [dskV r vs.length (if n ≥ 0 then n else 0) (decide (n ≥ 0)) off w q] 89) ∧ o = .ret (.tup [])) := by
  refine evS_of rfl body9 ?_
  show Wp cfg (Try.f9.body.getD .skip) ((.ref d 0 0) :: (.d (.int .i64 n)) :: (.tup []) :: (.tup []) :: (.tup []) :: (.tup []) :: (.tup []) :: (.tup []) :: (.tup []) :: (.tup []) :: (.tup []) :: (.tup []) :: (.tup []) :: (.tup []) :: (.tup []) :: (.tup []) :: []) S [] _
  conv => arg 2; whnf
  rw [wk_of]
  have hd := h.rd'
  have hp := fun y => h.pd' (y := y)
  have hdl := h.dl
  have hd2 : ∀ o x, rowE (S.set d (.row [x] o)) d 0 = some x := fun o x => rowE_of (set_at h.hd)
  have hp2 : ∀ x y, putRow (S.set d (.row [x] 89)) d 0 y = some (S.set d (.row [y] 89)) := fun x y => by rw [putRow_of (set_at h.hd), List.set_set]
  by_cases hn : n ≥ 0
  · have hmax := fun S => max_ge (S := S) (a := n) (b := 0) hn
    simp only [hn, if_true, decide_true]
    simp (maxSteps := 1000000) (disch := first | assumption | omega | rfl) only [↓vmp, vme, vmb, ty, hP, dec_t, dec_f, wrap64, List.length_map, Int.toNat_natCast, Nat.reduceAdd, List.cons_append, List.nil_append, Option.map_some, Option.map_none, strOf_mk, sb_eql, sb_neq, vmg, ↓vgd, ↓vst, ↓vix, ne26f, fr89_1, fr89_2, hd, hp, hd2, hp2, sk1, sk2, hmax, hn]
    exact ⟨rfl, _, rfl, rfl, rfl⟩
  · have hmax := fun S => max_le (S := S) (a := n) (b := 0) (by omega)
    simp only [hn, if_false, decide_false]
    simp (maxSteps := 1000000) (disch := first | assumption | omega | rfl) only [↓vmp, vme, vmb, ty, hP, dec_t, dec_f, wrap64, List.length_map, Int.toNat_natCast, Nat.reduceAdd, List.cons_append, List.nil_append, Option.map_some, Option.map_none, strOf_mk, sb_eql, sb_neq, vmg, ↓vgd, ↓vst, ↓vix, ne26f, fr89_1, fr89_2, hd, hp, hd2, hp2, sk1, sk2, hmax, hn]
    exact ⟨rfl, _, rfl, rfl, rfl⟩
theorem up_ok (S : Store) (d r : Nat) (vs : List V) (f w q : Int) (lit off : Bool) (h : DskAt S d r vs f lit off w q) : EvS cfg 12 [.ref d 0 0] S (fun o S' => S' = S.set d (.row [dskV r vs.length 0 false false w q] 89) ∧ o = .ret (.tup [])) := by
  refine evS_of rfl body12 ?_
  show Wp cfg (Try.f12.body.getD .skip) ((.ref d 0 0) :: (.tup []) :: (.tup []) :: (.tup []) :: (.tup []) :: (.tup []) :: (.tup []) :: (.tup []) :: (.tup []) :: (.tup []) :: (.tup []) :: (.tup []) :: (.tup []) :: []) S [] _
  conv => arg 2; whnf
  rw [wk_of]
  have hd := h.rd'
  have hp := fun y => h.pd' (y := y)
  have hd2 : ∀ o x, rowE (S.set d (.row [x] o)) d 0 = some x := fun o x => rowE_of (set_at h.hd)
  have hp2 : ∀ x y, putRow (S.set d (.row [x] 89)) d 0 y = some (S.set d (.row [y] 89)) := fun x y => by rw [putRow_of (set_at h.hd), List.set_set]
  simp (maxSteps := 1000000) (disch := first | assumption | omega | rfl) only [↓vmp, vme, vmb, ty, hP, dec_t, dec_f, wrap64, List.length_map, Int.toNat_natCast, Nat.reduceAdd, List.cons_append, List.nil_append, Option.map_some, Option.map_none, strOf_mk, sb_eql, sb_neq, vmg, ↓vgd, ↓vst, ↓vix, ne26f, fr89_1, fr89_2, fr89_3, hd, hp, hd2, hp2, sk1, sk2, sk3]
  exact ⟨rfl, _, rfl, rfl, rfl⟩
end Go.Proofs.Ytobgdmgldagjkaa
end
/-! The disk's writes and reads. -/
section
set_option linter.unusedVariables false
set_option linter.unusedSimpArgs false
set_option maxRecDepth 100000
set_option maxHeartbeats 4000000
namespace Go.Proofs.Ytobgdmgldagjkaa
open Go.Vm
theorem lset {S : Store} {d : Nat} {o : Ob} : (S.set d o).length = S.length := List.length_set ..
theorem mf94 {S : Store} {a b : Nat} : mfS (.func 94) S [] [.ref a 0 0, .ref b 0 0] = some (.val (.fn (.func 94) [] [.ref a 0 0, .ref b 0 0]) S 0) := mfS_one rfl
theorem mf96 {S : Store} {a : Nat} : mfS (.func 96) S [] [.ref a 0 0] = some (.val (.fn (.func 96) [] [.ref a 0 0]) S 0) := mfS_one rfl
section
variable {ops : Array Oper} {dst : Option Tmp} {l : List Oper} {T : List V} {S : Store} {F : Dfs} {Q : Post} {ty : TypeId} {pos : String} {after : Array Edge} {t a b : Nat} {pre suf : List V}
noncomputable def dfV : V → Option Rs
  | .fn (.func g) first caps => if (bodyOf Try.prog g).isSome then some (.dfr g (first ++ caps)) else none
  | _ => none
theorem wl_defer : WpL cfg ops (⟨dst, .defer ⟨.value (.tmp t), #[], #[]⟩, ty, pos, after, none⟩ :: l) T S F Q = WpR cfg ops dst l T S F Q (dfV (T.getD t .junk)) := by
  rw [wl_op rfl]
  have e : opV cfg.P S T ⟨dst, .defer ⟨.value (.tmp t), #[], #[]⟩, ty, pos, after, none⟩ = dfV (T.getD t .junk) := by
    show (match T.getD t .junk with | .fn (.func g) first caps => if [].all V.one && (bodyOf Try.prog g).isSome then some (Rs.dfr g (first ++ [] ++ caps)) else none | _ => none) = _
    simp only [List.all_nil, Bool.true_and, List.append_nil]
    rfl
  rw [e]
theorem wr_dfr {f : FuncId} {args : List V} : WpR cfg ops dst l T S F Q (some (.dfr f args)) = WpL cfg ops l (putT T dst (.tup [])) S ((f, args) :: F) Q := rfl
theorem df94 {x y : V} : dfV (.fn (.func 94) [] [x, y]) = some (.dfr 94 [x, y]) := by
  unfold dfV
  exact if_pos bo94
theorem df96 {x : V} : dfV (.fn (.func 96) [] [x]) = some (.dfr 96 [x]) := by
  unfold dfV
  exact if_pos bo96
end
def nilS (S : Store) : V → Option Rs
  | .ref i ix off => some (.val (.ref i ix off) S 0)
  | .d (.ptr x) => some (.val (.d (.ptr x)) S 0)
  | .fn (.func g) a b => some (.val (.fn (.func g) a b) S 0)
  | _ => none
theorem op_nilCheck {P : Program} {S : Store} {T : List V} {dst : Option Tmp} {ty : TypeId} {pos : String} {after : Array Edge} {g : Option (Nat × Bool)} {x : Operand} : opV P S T ⟨dst, .nilCheck x, ty, pos, after, g⟩ = nilS S (evalO T x) := by
  simp only [opV]
  generalize evalO T x = v
  cases v with
  | d y => cases y <;> rfl
  | fn f a b => cases f <;> rfl
  | _ => rfl
theorem nilS_ref {S : Store} {i ix off : Nat} : nilS S (.ref i ix off) = some (.val (.ref i ix off) S 0) := rfl
/-- A call by the store that ends in one way. -/
theorem wr_callE {ops : Array Oper} {dst : Option Tmp} {l : List Oper} {T : List V} {S S2 : Store} {F : Dfs} {Q : Post} {f : FuncId} {args : List V} {v : V} (hs : cfg.shared f = true) (he : EvS cfg f args S (fun o S' => S' = S2 ∧ o = .ret v)) : WpR cfg ops dst l T S F Q (some (.enter f args)) = WpL cfg ops l (putT T dst v) S2 F Q := by
  obtain ⟨n, o, S', hn, rfl, rfl⟩ := he
  have hc : callV cfg (run cfg n) f args S = some (.ret v, S', 3) := by
    unfold callV
    simp only [hs, if_true, hn, Option.map_some]
  apply propext
  constructor
  · rintro ⟨m, o, S2, c, h1, h2⟩
    have := callV_det h1 hc
    simp only [Prod.mk.injEq] at this
    obtain ⟨rfl, rfl, rfl⟩ := this
    exact h2
  · exact fun h => ⟨n, _, _, _, hc, h⟩
theorem DskAt.app {S l : Store} {d r : Nat} {vs : List V} {f w q : Int} {lit off : Bool} (h : DskAt S d r vs f lit off w q) : DskAt (S ++ l) d r vs f lit off w q :=
  ⟨by rw [List.getElem?_append_left h.dl]; exact h.hd, by rw [List.getElem?_append_left h.rl]; exact h.hr, h.ne⟩
theorem DskAt.setd {S : Store} {d r : Nat} {vs : List V} {f w q f' w' q' : Int} {lit off lit' off' : Bool} (h : DskAt S d r vs f lit off w q) : DskAt (S.set d (.row [dskV r vs.length f' lit' off' w' q'] 89)) d r vs f' lit' off' w' q' :=
  ⟨set_at h.hd, by rw [List.getElem?_set_ne (Ne.symm h.ne)]; exact h.hr, h.ne⟩
theorem ixRow {S : Store} {r n i : Nat} {vs : List V} (hS : S[r]? = some (.row vs 42)) (hi : i < n) : indexAddrV Try.prog S 37 (.rs r 0 n) (.d (.int .i64 (i : Int))) = some (.ref r i 0) := by
  have h1 : rowT S r 42 = true := by unfold rowT; rw [hS]; rfl
  have h2 : (sz Try.prog 42).isSome = true := by kernel_rfl
  simp only [indexAddrV, intOf?, u37]
  rw [if_pos ⟨⟨by omega, by omega⟩, h1, h2⟩]
  simp
section
variable {S l : Store} {d r : Nat} {vs : List V} {f w q : Int} {lit off : Bool} {i : Nat}
theorem DskAt.ix (h : DskAt S d r vs f lit off w q) (hi : i < vs.length) : indexAddrV Try.prog (S ++ l) 37 (.rs r 0 vs.length) (.d (.int .i64 (i : Int))) = some (.ref r i 0) := ixRow (vs := vs) (h.app (l := l)).hr hi
theorem DskAt.rr (h : DskAt S d r vs f lit off w q) (hi : i < vs.length) : rowE (S ++ l) r i = some vs[i] := by
  unfold rowE
  rw [(h.app (l := l)).hr]
  exact List.getElem?_eq_getElem hi
theorem DskAt.pr (h : DskAt S d r vs f lit off w q) {y : V} : putRow (S ++ l) r i y = some (S.set r (.row (vs.set i y) 42) ++ l) := by
  unfold putRow
  rw [(h.app (l := l)).hr]
  simp only [List.set_append_left _ _ h.rl]
theorem DskAt.setr (h : DskAt S d r vs f lit off w q) {y : V} : DskAt (S.set r (.row (vs.set i y) 42)) d r (vs.set i y) f lit off w q :=
  ⟨by rw [List.getElem?_set_ne h.ne, List.length_set]; exact h.hd, set_at h.hr, h.ne⟩
end
/-- What a write defers, once all is well. -/
theorem wdone_0 (S : Store) (a d r : Nat) (vs : List V) (f w q : Int) (lit off : Bool) (h : DskAt S d r vs f lit off w q) (hS : S.length = a) (hw : 0 ≤ w ∧ w ≤ 1000000) (b : Ob) :
    Wp cfg (Try.f94.body.getD .skip) ((.ref (a + 2) 0 0) :: (.ref a 0 0) :: (.tup []) :: (.tup []) :: (.tup []) :: (.tup []) :: (.tup []) :: (.tup []) :: (.tup []) :: (.tup []) :: (.tup []) :: []) (S ++ [.row [.ref d 0 0] 26, b, .row [.d (.int .i64 0)] 29]) [] (fun x T S2 F => (x = .norm ∨ x = .ret) ∧ F = [] ∧ (∃ v, resultsV cfg.P #[] T S2 = some v) ∧ S2 = S.set d (.row [dskV r vs.length f lit off (w + 1) q] 89) ++ [.row [.ref d 0 0] 26, b, .row [.d (.int .i64 0)] 29]) := by
  conv => arg 2; whnf
  rw [wk_of]
  have hd := fun l => h.rd (l := l)
  have hp := fun l y => h.pd (l := l) (y := y)
  have h3 : IntKind.i64.wrap (w + 1) = w + 1 := wrap64 (by omega)
  simp (maxSteps := 1000000) (disch := first | assumption | omega | rfl) only [↓vmp, vme, vmb, ty, hP, dec_t, dec_f, wrap64, List.length_map, Int.toNat_natCast, Nat.reduceAdd, List.cons_append, List.nil_append, Option.map_some, Option.map_none, strOf_mk, sb_eql, sb_neq, vmg, ↓vgd, ↓vst, ↓vix, fr89_4, rA0 hS, rA1 hS, rA2 hS, hd, hp, lr29i, lr26, lk4, sk4, h3, dec_True]
  try exact ⟨.inl trivial, trivial, ⟨_, rfl⟩, trivial⟩
theorem wdone_n (S l : Store) (a : Nat) (e : Int) (he : e ≠ 0) (hS : S.length = a) (b c : Ob) :
    Wp cfg (Try.f94.body.getD .skip) ((.ref (a + 2) 0 0) :: (.ref a 0 0) :: (.tup []) :: (.tup []) :: (.tup []) :: (.tup []) :: (.tup []) :: (.tup []) :: (.tup []) :: (.tup []) :: (.tup []) :: []) (S ++ [c, b, .row [.d (.int .i64 e)] 29]) [] (fun x T S2 F => (x = .norm ∨ x = .ret) ∧ F = [] ∧ (∃ v, resultsV cfg.P #[] T S2 = some v) ∧ S2 = S ++ [c, b, .row [.d (.int .i64 e)] 29]) := by
  conv => arg 2; whnf
  rw [wk_of]
  have hde : ∀ i : Decidable (e = 0), @decide (e = 0) i = false := fun i => decide_eq_false he
  simp (maxSteps := 1000000) (disch := first | assumption | omega | rfl) only [↓vmp, vme, vmb, ty, hP, dec_t, dec_f, wrap64, List.length_map, Int.toNat_natCast, Nat.reduceAdd, List.cons_append, List.nil_append, Option.map_some, Option.map_none, strOf_mk, sb_eql, sb_neq, vmg, ↓vgd, ↓vst, ↓vix, rA2 hS, lr29i, hde]
  try exact ⟨.inl trivial, trivial, ⟨_, rfl⟩, trivial⟩
theorem res_c {T : List V} {S : Store} {t x : Nat} {e : Int} (h1 : T.getD t (.tup []) = .ref x 0 0) (h2 : rowE S x 0 = some (.d (.int .i64 e))) : resultsV Try.prog #[.cell t 29] T S = some (.d (.int .i64 e)) := by
  have hl : loadV Try.prog S 29 (.ref x 0 0) = some (.d (.int .i64 e)) := (loadV_row h2).trans lr29i
  simp only [resultsV, allO, resultV, h1, hl]
theorem write_off (S : Store) (d r : Nat) (vs : List V) (w q : Int) (no : Nat) (u : V) (b : List UInt8) (h : DskAt S d r vs 0 true false w q) (hn : no < vs.length) (hu : IsB u b) (hb : b.length = 256) :
    EvS cfg 53 [.ref d 0 0, .d (.int .i64 (no : Int)), u] S (fun o S' => S' = S.set d (.row [dskV r vs.length 0 true true w q] 89) ++ [.row [.ref d 0 0] 26, .row [u] 42, .row [.d (.int .i64 12)] 29] ∧ o = .ret (.d (.int .i64 12))) := by
  refine evS_dfr rfl body53 ?_
  show Wp cfg (Try.f53.body.getD .skip) ((.ref d 0 0) :: (.d (.int .i64 (no : Int))) :: u :: (.tup []) :: (.tup []) :: (.tup []) :: (.tup []) :: (.tup []) :: (.tup []) :: (.tup []) :: (.tup []) :: (.tup []) :: (.tup []) :: (.tup []) :: (.tup []) :: (.tup []) :: (.tup []) :: (.tup []) :: (.tup []) :: (.tup []) :: (.tup []) :: (.tup []) :: (.tup []) :: (.tup []) :: (.tup []) :: (.tup []) :: (.tup []) :: (.tup []) :: (.tup []) :: (.tup []) :: (.tup []) :: (.tup []) :: (.tup []) :: (.tup []) :: (.tup []) :: (.tup []) :: (.tup []) :: (.tup []) :: (.tup []) :: (.tup []) :: (.tup []) :: (.tup []) :: (.tup []) :: (.tup []) :: (.tup []) :: (.tup []) :: []) S [] _
  conv => arg 2; whnf
  rw [wk_of]
  have hf := bt42.fits hu hb
  have hu1 := hu.one
  generalize ha : S.length = a
  have hd := fun l => h.rd (l := l)
  have hp := fun l y => h.pd (l := l) (y := y)
  have hdl := h.dl
  have hl : ∀ o, (S.set d o).length = a := fun o => lset.trans ha
  have hm := fun {ops dst k T F Q} l => wr_callE (ops := ops) (dst := dst) (l := k) (T := T) (F := F) (Q := Q) rfl (may_ok (S ++ l) d r vs 0 w q true no h.app hn)
  simp (maxSteps := 1000000) (disch := first | assumption | omega | rfl) only [↓vmp, vme, vmb, ty, hP, dec_t, dec_f, wrap64, List.length_map, Int.toNat_natCast, Nat.reduceAdd, List.cons_append, List.nil_append, Option.map_some, Option.map_none, strOf_mk, sb_eql, sb_neq, vmg, ↓vgd, ↓vst, ↓vix, ft26, hf, z29, hu1, List.append_assoc, List.length_append, List.length_cons, List.length_nil, ha, rA0 ha, rA1 ha, rA2 ha, pA2 ha, rA0 (hl _), rA1 (hl _), rA2 (hl _), pA2 (hl _), lr26, lr29i, sr29i, hm, bo93, hd, hp, fr89_1, fr89_2, fr89_3, lk1, lk2, sk3, wl_makeFunc, mf94, wl_defer, df94, wr_dfr, dec_True]
  exact ⟨.inr rfl, _, _, ⟨_, _, body94, wdone_n (S.set d _) [] a 12 (by decide) (hl _) _ _, rfl⟩, res_c rfl (rA2 (hl _)), rfl, rfl⟩
theorem write_ok (S : Store) (d r : Nat) (vs : List V) (f w q : Int) (lit : Bool) (no : Nat) (u v : V) (b b0 : List UInt8) (h : DskAt S d r vs f lit false w q) (hn : no < vs.length) (hu : IsB u b) (hb : b.length = 256) (hv : vs[no] = v) (hb0 : IsB v b0) (hl0 : b0.length = 256) (hw : 0 ≤ w ∧ w ≤ 1000000) (hf0 : 0 ≤ f ∧ InB f) (hlf : lit = true → f ≠ 0) :
    EvS cfg 53 [.ref d 0 0, .d (.int .i64 (no : Int)), u] S (fun o S' => S' = (S.set d (.row [dskV r vs.length (if lit then f - 1 else f) lit false (w + 1) q] 89)).set r (.row (vs.set no u) 42) ++ [.row [.ref d 0 0] 26, .row [u] 42, .row [.d (.int .i64 0)] 29] ∧ o = .ret (.d (.int .i64 0))) := by
  refine evS_dfr rfl body53 ?_
  show Wp cfg (Try.f53.body.getD .skip) ((.ref d 0 0) :: (.d (.int .i64 (no : Int))) :: u :: (.tup []) :: (.tup []) :: (.tup []) :: (.tup []) :: (.tup []) :: (.tup []) :: (.tup []) :: (.tup []) :: (.tup []) :: (.tup []) :: (.tup []) :: (.tup []) :: (.tup []) :: (.tup []) :: (.tup []) :: (.tup []) :: (.tup []) :: (.tup []) :: (.tup []) :: (.tup []) :: (.tup []) :: (.tup []) :: (.tup []) :: (.tup []) :: (.tup []) :: (.tup []) :: (.tup []) :: (.tup []) :: (.tup []) :: (.tup []) :: (.tup []) :: (.tup []) :: (.tup []) :: (.tup []) :: (.tup []) :: (.tup []) :: (.tup []) :: (.tup []) :: (.tup []) :: (.tup []) :: (.tup []) :: (.tup []) :: (.tup []) :: []) S [] _
  conv => arg 2; whnf
  rw [wk_of]
  have hf := bt42.fits hu hb
  have hu1 := hu.one
  generalize ha : S.length = a
  have hd := fun l => h.rd (l := l)
  have hp := fun l y => h.pd (l := l) (y := y)
  have hdl := h.dl
  have hl : ∀ o, (S.set d o).length = a := fun o => lset.trans ha
  have hm := fun {ops dst k T F Q} l => wr_callE (ops := ops) (dst := dst) (l := k) (T := T) (F := F) (Q := Q) rfl (may_ok (S ++ l) d r vs f w q lit no h.app hn)
  have hld := bt42.load hu hb
  have hst := bt42.store hu hb (hv ▸ hb0) hl0
  have hl0 : ∀ i o, (S.set i o).length = a := fun i o => lset.trans ha
  have hl2 : ∀ i o j p, ((S.set i o).set j p).length = a := fun i o j p => lset.trans (lset.trans ha)
  have hcm : ∀ o p, (S.set r o).set d p = (S.set d p).set r o := fun o p => List.set_comm _ _ h.ne
  cases lit with
  | false =>
    have hix := fun l => h.ix (l := l) hn
    have hrr := fun l => h.rr (l := l) hn
    have hpr := fun l y => h.pr (l := l) (i := no) (y := y)
    simp (maxSteps := 1000000) (disch := first | assumption | omega | rfl) only [↓vmp, vme, vmb, ty, hP, dec_t, dec_f, wrap64, List.length_map, Int.toNat_natCast, Nat.reduceAdd, List.cons_append, List.nil_append, Option.map_some, Option.map_none, strOf_mk, sb_eql, sb_neq, vmg, ↓vgd, ↓vst, ↓vix, ft26, hf, z29, hu1, List.append_assoc, List.length_append, List.length_cons, List.length_nil, ha, rA0 ha, rA1 ha, rA2 ha, pA2 ha, rA0 (hl0 _ _), rA1 (hl0 _ _), rA2 (hl0 _ _), pA2 (hl0 _ _), lr26, lr29i, sr29i, hm, bo93, hd, hp, fr89_1, fr89_2, fr89_3, lk1, lk2, sk3, wl_makeFunc, mf94, wl_defer, df94, wr_dfr, dec_True]
    refine wk_draw (is := [0, 1, 2, 3, 4, 5, 6, 7]) (h := 0) (by kernel_rfl) (by kernel_rfl) ?_
    simp (maxSteps := 1000000) (disch := first | assumption | omega | rfl) only [List.replicate_zero, eq_self, vmd, vmk, vmo, vmg, vme, vmb, ty, hP, dec_t, dec_f, wrap64, List.length_map, Int.toNat_natCast, Nat.reduceAdd, ↓vgd, ↓vst, ↓vix, vso, rA0 ha, rA1 ha, rA2 ha, lr26, hd, op_nilCheck, nilS_ref, fr89_0, lk0, hix, hld, hrr, hst, hpr, List.append_nil]
    refine ⟨fun _ => by kernel_rfl, ?_⟩
    refine ⟨by kernel_rfl, ?_⟩
    simp (maxSteps := 1000000) (disch := first | assumption | omega | rfl) only [↓vmp, vme, vmb, ty, hP, dec_t, dec_f, wrap64, List.length_map, Int.toNat_natCast, Nat.reduceAdd, List.cons_append, List.nil_append, Option.map_some, Option.map_none, strOf_mk, sb_eql, sb_neq, vmg, ↓vgd, ↓vst, ↓vix, pA2 (hl0 _ _), rA2 (hl0 _ _), sr29i]
    refine ⟨.inr rfl, _, _, ⟨_, _, body94, wdone_0 _ a d r _ _ w q _ _ h.setr (hl0 _ _) hw _, rfl⟩, res_c rfl (rA2 (hl2 _ _ _ _)), ?_, rfl⟩
    rw [hcm, List.length_set]
    rfl
  | true =>
    have hf1 : ¬ f = 0 := hlf rfl
    have h3 : IntKind.i64.wrap (f - 1) = f - 1 := wrap64 (by obtain ⟨_, _, _⟩ := hf0; omega)
    have h' : ∀ f', DskAt (S.set d (.row [dskV r vs.length f' true false w q] 89)) d r vs f' true false w q := fun f' => h.setd
    have hde : ∀ i : Decidable (f = 0), @decide (f = 0) i = false := fun i => decide_eq_false hf1
    have hd1 := fun f' l => (h' f').rd (l := l)
    have hix := fun f' l => (h' f').ix (l := l) hn
    have hrr := fun f' l => (h' f').rr (l := l) hn
    have hpr := fun f' l y => (h' f').pr (l := l) (i := no) (y := y)
    simp (maxSteps := 1000000) (disch := first | assumption | omega | rfl) only [↓vmp, vme, vmb, ty, hP, dec_t, dec_f, wrap64, List.length_map, Int.toNat_natCast, Nat.reduceAdd, List.cons_append, List.nil_append, Option.map_some, Option.map_none, strOf_mk, sb_eql, sb_neq, vmg, ↓vgd, ↓vst, ↓vix, ft26, hf, z29, hu1, List.append_assoc, List.length_append, List.length_cons, List.length_nil, ha, rA0 ha, rA1 ha, rA2 ha, pA2 ha, rA0 (hl0 _ _), rA1 (hl0 _ _), rA2 (hl0 _ _), pA2 (hl0 _ _), lr26, lr29i, sr29i, hm, bo93, hd, hp, fr89_1, fr89_2, fr89_3, lk1, lk2, sk1, sk3, wl_makeFunc, mf94, wl_defer, df94, wr_dfr, dec_True, hde, h3, hd1]
    refine wk_draw (is := [0, 1, 2, 3, 4, 5, 6, 7]) (h := 0) (by kernel_rfl) (by kernel_rfl) ?_
    simp (maxSteps := 1000000) (disch := first | assumption | omega | rfl) only [List.replicate_zero, eq_self, vmd, vmk, vmo, vmg, vme, vmb, ty, hP, dec_t, dec_f, wrap64, List.length_map, Int.toNat_natCast, Nat.reduceAdd, ↓vgd, ↓vst, ↓vix, vso, rA0 (hl0 _ _), rA1 (hl0 _ _), rA2 (hl0 _ _), lr26, hd1, op_nilCheck, nilS_ref, fr89_0, lk0, hix, hld, hrr, hst, hpr, List.append_nil]
    refine ⟨fun _ => by kernel_rfl, ?_⟩
    refine ⟨by kernel_rfl, ?_⟩
    simp (maxSteps := 1000000) (disch := first | assumption | omega | rfl) only [↓vmp, vme, vmb, ty, hP, dec_t, dec_f, wrap64, List.length_map, Int.toNat_natCast, Nat.reduceAdd, List.cons_append, List.nil_append, Option.map_some, Option.map_none, strOf_mk, sb_eql, sb_neq, vmg, ↓vgd, ↓vst, ↓vix, pA2 (hl2 _ _ _ _), rA2 (hl2 _ _ _ _), sr29i]
    refine ⟨.inr rfl, _, _, ⟨_, _, body94, wdone_0 _ a d r _ _ w q _ _ (h' _).setr (hl2 _ _ _ _) hw _, rfl⟩, res_c rfl (rA2 (lset.trans (hl2 _ _ _ _))), ?_, rfl⟩
    rw [List.set_comm _ _ h.ne, List.set_set, List.length_set]
    try rfl
/-- What a read defers. -/
theorem rdone (S : Store) (a d r : Nat) (vs : List V) (f w q : Int) (lit off : Bool) (h : DskAt S d r vs f lit off w q) (hS : S.length = a) (hq : 0 ≤ q ∧ q ≤ 1000000) (b : Ob) :
    Wp cfg (Try.f96.body.getD .skip) ((.ref a 0 0) :: (.tup []) :: (.tup []) :: (.tup []) :: (.tup []) :: (.tup []) :: (.tup []) :: (.tup []) :: []) (S ++ [.row [.ref d 0 0] 26, b]) [] (fun x T S2 F => (x = .norm ∨ x = .ret) ∧ F = [] ∧ (∃ v, resultsV cfg.P #[] T S2 = some v) ∧ S2 = S.set d (.row [dskV r vs.length f lit off w (q + 1)] 89) ++ [.row [.ref d 0 0] 26, b]) := by
  conv => arg 2; whnf
  rw [wk_of]
  have hd := fun l => h.rd (l := l)
  have hp := fun l y => h.pd (l := l) (y := y)
  have h3 : IntKind.i64.wrap (q + 1) = q + 1 := wrap64 (by omega)
  simp (maxSteps := 1000000) (disch := first | assumption | omega | rfl) only [↓vmp, vme, vmb, ty, hP, dec_t, dec_f, wrap64, List.length_map, Int.toNat_natCast, Nat.reduceAdd, List.cons_append, List.nil_append, Option.map_some, Option.map_none, strOf_mk, sb_eql, sb_neq, vmg, ↓vgd, ↓vst, ↓vix, fr89_5, rA0 hS, hd, hp, lr26, lk5, sk5, h3]
  try exact ⟨.inl trivial, trivial, ⟨_, rfl⟩, trivial⟩
theorem read_ok (S : Store) (d r : Nat) (vs : List V) (f w q : Int) (lit : Bool) (no : Nat) (v : V) (b : List UInt8) (h : DskAt S d r vs f lit false w q) (hn : no < vs.length) (hv : vs[no] = v) (hb : IsB v b) (hl : b.length = 256) (hq : 0 ≤ q ∧ q ≤ 1000000) :
    EvS cfg 56 [.ref d 0 0, .d (.int .i64 (no : Int))] S (fun o S' => S' = S.set d (.row [dskV r vs.length f lit false w (q + 1)] 89) ++ [.row [.ref d 0 0] 26, .row [v] 42] ∧ o = .ret (.tup [v, .d (.int .i64 0)])) := by
  refine evS_dfr rfl body56 ?_
  show Wp cfg (Try.f56.body.getD .skip) ((.ref d 0 0) :: (.d (.int .i64 (no : Int))) :: (.tup []) :: (.tup []) :: (.tup []) :: (.tup []) :: (.tup []) :: (.tup []) :: (.tup []) :: (.tup []) :: (.tup []) :: (.tup []) :: (.tup []) :: (.tup []) :: (.tup []) :: (.tup []) :: (.tup []) :: (.tup []) :: (.tup []) :: (.tup []) :: (.tup []) :: []) S [] _
  conv => arg 2; whnf
  rw [wk_of]
  generalize ha : S.length = a
  have hm := fun {ops dst k T F Q} l => wr_callE (ops := ops) (dst := dst) (l := k) (T := T) (F := F) (Q := Q) rfl (may_ok (S ++ l) d r vs f w q lit no h.app hn)
  have hd := fun l => h.rd (l := l)
  have hix := fun l => h.ix (l := l) hn
  have hrr := fun l => h.rr (l := l) hn
  rw [hv] at hrr
  have hld := bt42.load hb hl
  have hst := bt42.store hb hl (w := blkV (zeros 256)) isB_v z256
  have hl0 : ∀ i o, (S.set i o).length = a := fun i o => lset.trans ha
  simp (maxSteps := 1000000) (disch := first | assumption | omega | rfl) only [↓vmp, vme, vmb, ty, hP, dec_t, dec_f, wrap64, List.length_map, Int.toNat_natCast, Nat.reduceAdd, List.cons_append, List.nil_append, Option.map_some, Option.map_none, strOf_mk, sb_eql, sb_neq, vmg, ↓vgd, ↓vst, ↓vix, ft26, z42, zf42, List.append_assoc, List.length_append, List.length_cons, List.length_nil, ha, rA0 ha, rA1 ha, pA1 ha, lr26, hm, bo93, hd, fr89_0, lk0, hix, hrr, hld, hst, wl_makeFunc, mf96, wl_defer, df96, wr_dfr]
  have hres : ∀ T : List V, T.getD 4 (.tup []) = .ref (a + 1) 0 0 → T.getD 5 (.tup []) = .d (.int .i64 0) → resultsV Try.prog #[.cell 4 42, .tmp 5] T (S.set d (.row [dskV r vs.length f lit false w (q + 1)] 89) ++ [.row [.ref d 0 0] 26, .row [v] 42]) = some (.tup [v, .d (.int .i64 0)]) := fun T h1 h2 => by
    have hl1 : loadV Try.prog (S.set d (.row [dskV r vs.length f lit false w (q + 1)] 89) ++ [.row [.ref d 0 0] 26, .row [v] 42]) 42 (.ref (a + 1) 0 0) = some v := (loadV_row (rA1 (hl0 _ _))).trans hld
    have h3 : V.one (.d (.int .i64 0)) = true := rfl
    simp only [resultsV, allO, resultV, h1, h2, hl1, List.all_cons, List.all_nil, hb.one, h3, Bool.and_self, if_true]
  exact ⟨.inr rfl, _, _, ⟨_, _, body96, rdone _ a d r _ _ w q _ _ h ha hq _, rfl⟩, hres _ rfl rfl, rfl, rfl⟩
theorem room37 {m : Nat} (h : m ≤ 1000000) : room Try.prog 42 m = true := room_of rfl (by decide +kernel) h
theorem bs37 {S : Store} {T : List V} {dst : Option Tmp} {ty : TypeId} {pos : String} {after : Array Edge} {g : Option (Nat × Bool)} : opV Try.prog S T ⟨dst, .buildSlice 37 0 #[], ty, pos, after, g⟩ = some (.val (.ts []) S 0) := by kernel_rfl
theorem app37 {S : Store} {r : Nat} {vs : List V} (hr : S[r]? = some (.row vs 42)) (h0 : vs ≠ []) (hl : vs.length ≤ 100000) (hv : ∀ v ∈ vs, fitsT Try.prog 42 v = true) : appendV Try.prog S 37 37 (.ts []) (.rs r 0 vs.length) = some (.rs S.length 0 vs.length, S ++ [.row vs 42], 2) := by
  have hall : vs.all (fitsT Try.prog 42) = true := by rw [List.all_eq_true]; exact hv
  have h5 : (sz Try.prog 42).isSome = true := by kernel_rfl
  have hz : zOk Try.prog 42 = true := by kernel_rfl
  have el : elemsV S (.rs r 0 vs.length) = some vs := by
    simp only [elemsV, hr, Nat.zero_add, Nat.le_refl, if_true, List.drop_zero, List.take_length]
  have src : srcV Try.prog S 42 37 (.rs r 0 vs.length) = some vs := by
    simp only [srcV, u37, el, hall, h5, Bool.and_self, if_true]
  cases vs with
  | nil => exact absurd rfl h0
  | cons a t =>
    simp only [List.length_cons] at src
    have hr2 : room Try.prog 42 (t.length + 1) = true := room37 (by simp at hl; omega)
    simp only [appendV, u37, src, hz, if_true, List.all_nil, List.length_nil, Nat.zero_add, hr2, Bool.and_self, List.map_nil, List.nil_append, List.length_cons]
theorem image_ok (S : Store) (d r : Nat) (vs : List V) (f w q : Int) (lit off : Bool) (h : DskAt S d r vs f lit off w q) (h0 : vs ≠ []) (hl : vs.length ≤ 100000) (hv : ∀ v ∈ vs, fitsT Try.prog 42 v = true) : EvS cfg 15 [.ref d 0 0] S (fun o S' => S' = S ++ [.row vs 42] ∧ o = .ret (.rs S.length 0 vs.length)) := by
  refine evS_of rfl body15 ?_
  show Wp cfg (Try.f15.body.getD .skip) ((.ref d 0 0) :: (.tup []) :: (.tup []) :: (.tup []) :: (.tup []) :: (.tup []) :: (.tup []) :: (.tup []) :: (.tup []) :: (.tup []) :: (.tup []) :: []) S [] _
  conv => arg 2; whnf
  rw [wk_of]
  have hd := h.rd'
  have hap := app37 h.hr h0 hl hv
  simp (maxSteps := 1000000) (disch := first | assumption | omega | rfl) only [↓vmp, vme, vmb, ty, hP, dec_t, dec_f, wrap64, List.length_map, Int.toNat_natCast, Nat.reduceAdd, List.cons_append, List.nil_append, Option.map_some, Option.map_none, strOf_mk, sb_eql, sb_neq, vmg, ↓vgd, ↓vst, ↓vix, ↓vbs, eq26f, fr89_0, hd, lk0, bs37, hap]
  exact ⟨rfl, _, rfl, rfl, rfl⟩
theorem mk37 {S : Store} {n : Nat} (h : n ≤ 1000000) : makeSliceV Try.prog S 37 (.d (.int .i64 (n : Int))) (.d (.int .i64 (n : Int))) = some (.rs S.length 0 n, S ++ [.row (List.replicate n (blkV (zeros 256))) 42]) := by
  have hr := room37 h
  simp only [makeSliceV, u37, z42, Int.toNat_natCast, hr, zf42, Bool.and_self, if_true]
  rw [if_pos ⟨by omega, Int.le_refl _, by omega⟩]
theorem bd89 {r n : Nat} : buildV Try.prog 89 [(0, .rs r 0 n)] = some (dskV r n 0 false false 0 0) := by kernel_rfl
theorem ft89 {r n : Nat} {f w q : Int} {lit off : Bool} : fitsT Try.prog 89 (dskV r n f lit off w q) = true := by kernel_rfl
theorem new_ok (S : Store) (n : Nat) (h1 : 16 ≤ n) (h2 : n ≤ 512) : EvS cfg 8 [.d (.int .i64 (n : Int))] S (fun o S' => S' = S ++ [.row (List.replicate n (blkV (zeros 256))) 42, .row [dskV S.length n 0 false false 0 0] 89] ∧ o = .ret (.ref (S.length + 1) 0 0)) := by
  refine evS_of rfl body8 ?_
  show Wp cfg (Try.f8.body.getD .skip) ((.d (.int .i64 (n : Int))) :: (.tup []) :: (.tup []) :: (.tup []) :: (.tup []) :: (.tup []) :: (.tup []) :: (.tup []) :: (.tup []) :: (.tup []) :: []) S [] _
  conv => arg 2; whnf
  rw [wk_of]
  have hmin := fun S => min_le (S := S) (a := (n : Int)) (b := 512) (by omega)
  have hmax := fun S => max_le (S := S) (a := 16) (b := (n : Int)) (by omega)
  have hmk := fun S => mk37 (S := S) (n := n) (by omega)
  have h1 : (dskV S.length n 0 false false 0 0).one = true := rfl
  simp (maxSteps := 1000000) (disch := first | assumption | omega | rfl) only [↓vmp, vme, vmb, ty, hP, dec_t, dec_f, wrap64, List.length_map, Int.toNat_natCast, Nat.reduceAdd, List.cons_append, List.nil_append, Option.map_some, Option.map_none, strOf_mk, sb_eql, sb_neq, vmg, ↓vgd, ↓vst, ↓vix, hmin, hmax, hmk, bd89, ft89, h1, List.append_assoc, List.length_append, List.length_cons, List.length_nil]
  exact ⟨rfl, _, rfl, rfl, rfl⟩
end Go.Proofs.Ytobgdmgldagjkaa
end
