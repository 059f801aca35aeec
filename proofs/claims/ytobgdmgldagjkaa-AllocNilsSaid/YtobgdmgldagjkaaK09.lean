/- store.Mount, Layout, Err: a store of a disk. -/
import Derived.Test.YtobgdmgldagjkaaK08
/-! store.Mount, Layout, Err: a store of a disk. -/
section
set_option linter.unusedVariables false
set_option linter.unusedSimpArgs false
set_option maxRecDepth 100000
set_option maxHeartbeats 4000000
namespace Go.Proofs.Ytobgdmgldagjkaa
open Go.Vm
theorem mount_nil (S : Store) : EvS cfg 13 [.d .nilp] S (fun o S' => S' = S ∧ o = .ret (.tup [.d .nilp, .d (.int .i64 1)])) := by
  refine evS_of rfl body13 ?_
  show Wp cfg (Try.f13.body.getD .skip) ((.d .nilp) :: (.tup []) :: (.tup []) :: (.tup []) :: (.tup []) :: (.tup []) :: (.tup []) :: (.tup []) :: (.tup []) :: (.tup []) :: (.tup []) :: (.tup []) :: (.tup []) :: (.tup []) :: (.tup []) :: (.tup []) :: (.tup []) :: (.tup []) :: (.tup []) :: (.tup []) :: (.tup []) :: (.tup []) :: (.tup []) :: (.tup []) :: (.tup []) :: (.tup []) :: (.tup []) :: (.tup []) :: (.tup []) :: (.tup []) :: (.tup []) :: (.tup []) :: (.tup []) :: (.tup []) :: (.tup []) :: (.tup []) :: (.tup []) :: []) S [] _
  conv => arg 2; whnf
  rw [wk_of]
  simp (maxSteps := 1000000) (disch := first | assumption | omega | rfl) only [↓vmp, vme, vmb, ty, hP, dec_t, dec_f, wrap64, List.length_map, Int.toNat_natCast, Nat.reduceAdd, List.cons_append, List.nil_append, Option.map_some, Option.map_none, strOf_mk, sb_eql, sb_neq, vmg, ↓vgd, ↓vst, ↓vix, eq26n]
  exact ⟨rfl, _, rfl, rfl, rfl⟩
theorem call_sget {ops : Array Oper} {dst : Option Tmp} {k : List Oper} {T : List V} {S : Store} {F : Dfs} {Q : Post} {u v : V} {b : List UInt8} (hu : IsB u b) (h : Ev cfg 57 [blkD b] (.ret v)) : WpR cfg ops dst k T S F Q (some (.enter 57 [u])) = WpL cfg ops k (putT T dst v) S F Q :=
  wr_call_v (ds := [blkD b]) rfl (by simp only [allO, hu.frz (n := 10), frzFuel]) (by rw [List.flatMap_cons, hu.frzIds]; rfl) h
theorem read_split (S : Store) (d r : Nat) (vs : List V) (f w : Int) (lit : Bool) (v : V) (b : List UInt8) (h : DskAt S d r vs f lit false w 0) (h0 : vs[0]? = some v) (hb : IsB v b) (hl : b.length = 256) :
    ∃ S1, K2 d r S S1 ∧ DskAt S1 d r vs f lit false w 1 ∧ ∀ {ops dst k T F Q}, WpR cfg ops dst k T S F Q (some (.enter 56 [.ref d 0 0, .d (.int .i64 0)])) = WpL cfg ops k (putT T dst (.tup [v, .d (.int .i64 0)])) S1 F Q := by
  have h0l : 0 < vs.length := (List.getElem?_eq_some_iff.1 h0).1
  have h0v : vs[0] = v := (List.getElem?_eq_some_iff.1 h0).2
  have hrd := fun {ops dst k T F Q} => wr_callE (ops := ops) (dst := dst) (l := k) (T := T) (F := F) (Q := Q) rfl (read_ok S d r vs f w 0 lit 0 _ _ h h0l h0v hb hl (by omega))
  simp only [nl0] at hrd
  exact ⟨_, K2.refl.setd.app, (h.setd (f' := f) (lit' := lit) (off' := false) (w' := w) (q' := 0 + 1)).app, hrd⟩
theorem mount_bad (S : Store) (d r : Nat) (vs : List V) (f w : Int) (lit : Bool) (h : DskAt S d r vs f lit false w 0) (h0 : vs[0]? = some (blkV (zeros 256))) : EvS cfg 13 [.ref d 0 0] S (fun o S' => K2 d r S S' ∧ o = .ret (.tup [.d .nilp, .d (.int .i64 13)])) := by
  refine evS_of rfl body13 ?_
  show Wp cfg (Try.f13.body.getD .skip) ((.ref d 0 0) :: (.tup []) :: (.tup []) :: (.tup []) :: (.tup []) :: (.tup []) :: (.tup []) :: (.tup []) :: (.tup []) :: (.tup []) :: (.tup []) :: (.tup []) :: (.tup []) :: (.tup []) :: (.tup []) :: (.tup []) :: (.tup []) :: (.tup []) :: (.tup []) :: (.tup []) :: (.tup []) :: (.tup []) :: (.tup []) :: (.tup []) :: (.tup []) :: (.tup []) :: (.tup []) :: (.tup []) :: (.tup []) :: (.tup []) :: (.tup []) :: (.tup []) :: (.tup []) :: (.tup []) :: (.tup []) :: (.tup []) :: (.tup []) :: []) S [] _
  conv => arg 2; whnf
  rw [wk_of]
  have l0 := z256
  obtain ⟨S1, hK, hD, hrd⟩ := read_split S d r vs f w lit _ _ h h0 isB_v l0
  have hg := fun {ops dst k T S F Q} => call_sget (ops := ops) (dst := dst) (k := k) (T := T) (S := S) (F := F) (Q := Q) isB_v get_bad
  simp (maxSteps := 1000000) (disch := first | assumption | omega | rfl) only [↓vmp, vme, vmb, ty, hP, dec_t, dec_f, wrap64, List.length_map, Int.toNat_natCast, Nat.reduceAdd, List.cons_append, List.nil_append, Option.map_some, Option.map_none, strOf_mk, sb_eql, sb_neq, vmg, ↓vgd, ↓vst, ↓vix, eq26f, hrd, bo56, z42, zf42, z24, zf24, List.append_assoc, List.length_append, List.length_cons, List.length_nil, rA0 rfl, rA1 rfl, pA0 rfl, pA1 rfl, svv42, ldv42, one_v, hg, bo57, srb24, lr24, dec_True]
  refine wk_draww (is := [0, 1, 2, 3, 4, 5, 6, 7, 8]) (h := 0) (by kernel_rfl) (by kernel_rfl) ?_
  simp (maxSteps := 1000000) (disch := first | assumption | omega | rfl) only [List.replicate_zero, eq_self, vmd, dw1, dw2, dw3, dw4, dw5, dw6, dw7, dw8, dw9, dw10, dw11, dw12, vmk, vmo, vmg, vme, vmb, ty, hP, dec_t, dec_f, wrap64, List.length_map, Int.toNat_natCast, Nat.reduceAdd, ↓vgd, ↓vst, ↓vix, vso, List.append_nil]
  refine ⟨by kernel_rfl, ?_⟩
  simp (maxSteps := 1000000) (disch := first | assumption | omega | rfl) only [↓vmp, vme, vmb, ty, hP, dec_t, dec_f, wrap64, List.length_map, Int.toNat_natCast, Nat.reduceAdd, List.cons_append, List.nil_append, Option.map_some, Option.map_none, strOf_mk, sb_eql, sb_neq, vmg, ↓vgd, ↓vst, ↓vix]
  exact ⟨rfl, _, rfl, hK.app, rfl⟩
theorem wl_makeMap {C : Cfg} {ops : Array Oper} {dst : Option Tmp} {ty : TypeId} {pos : String} {after : Array Edge} {l : List Oper} {T : List V} {S : Store} {F : Dfs} {Q : Post} {t : TypeId} : WpL C ops (⟨dst, .makeMap t none, ty, pos, after, none⟩ :: l) T S F Q = WpL C ops l (putT T dst (.mr S.length)) (S ++ [.mp [] 0]) F Q := by
  rw [wl_op rfl]; rfl
/-- The way up to the root. -/
theorem bd150 {x : Nat} {m : Nat} : buildV Try.prog 150 [(0, .ref x 0 0), (1, .mr m)] = some (.agg [.ref x 0 0, .mr m, .ts [], .d (.int .i64 0)]) := by kernel_rfl
theorem ft150 {x : Nat} {m : Nat} : fitsT Try.prog 150 (.agg [.ref x 0 0, .mr m, .ts [], .d (.int .i64 0)]) = true := by kernel_rfl
theorem cnew_ok (S : Store) (d : Nat) : EvS cfg 58 [.ref d 0 0] S (fun o S' => S' = S ++ [.mp [] 0, .row [.agg [.ref d 0 0, .mr S.length, .ts [], .d (.int .i64 0)]] 150] ∧ o = .ret (.ref (S.length + 1) 0 0)) := by
  refine evS_of rfl body58 ?_
  show Wp cfg (Try.f58.body.getD .skip) ((.ref d 0 0) :: (.tup []) :: (.tup []) :: (.tup []) :: (.tup []) :: (.tup []) :: (.tup []) :: (.tup []) :: (.tup []) :: []) S [] _
  conv => arg 2; whnf
  rw [wk_of]
  simp (maxSteps := 1000000) (disch := first | assumption | omega | rfl) only [↓vmp, vme, vmb, ty, hP, dec_t, dec_f, wrap64, List.length_map, Int.toNat_natCast, Nat.reduceAdd, List.cons_append, List.nil_append, Option.map_some, Option.map_none, strOf_mk, sb_eql, sb_neq, vmg, ↓vgd, ↓vst, ↓vix, ↓wl_makeMap, eq26f, bd150, ft150, List.append_assoc, List.length_append, List.length_cons, List.length_nil]
  exact ⟨rfl, _, rfl, rfl, rfl⟩
/-- A store in the store: its cache, layout, error and marks. -/
def stoV (c m : Nat) (B I M : Int) (e : Int) : V := .agg [.ref c 0 0, .d (.int .i64 B), .d (.int .i64 I), .d (.int .u64 M), .d (.int .i64 e), .mr m]
theorem bd103 {c m : Nat} {l : Lay} : buildV Try.prog 103 [(0, .ref c 0 0), (1, .d (encLay l)), (3, .mr m)] = some (stoV c m l.blocks l.inodes l.merge 0) := by kernel_rfl
theorem ft103 {c m : Nat} {B I M e : Int} : fitsT Try.prog 103 (stoV c m B I M e) = true := by kernel_rfl
theorem ad_map {P : Program} {T : List V} {dst : Option Tmp} {ty : TypeId} {pos : String} {after : Array Edge} {g : Option (Nat × Bool)} {t : TypeId} : addO P T ⟨dst, .makeMap t none, ty, pos, after, g⟩ = some (.mp [] 0, .mr) := rfl
theorem ad_box {P : Program} {T : List V} {dst : Option Tmp} {ty : TypeId} {pos : String} {after : Array Edge} {g : Option (Nat × Bool)} {e : TypeId} {x : Operand} {v : V} (hx : evalO T x = v) (hf : fitsT P e v = true) : addO P T ⟨dst, .box e x, ty, pos, after, g⟩ = some (.row [v] e, fun id => .ref id 0 0) := by
  simp only [addO, hx, hf, if_true]
theorem ak_map {ty : TypeId} {pos : String} {after : Array Edge} {dst : Option Tmp} {g : Option (Nat × Bool)} {t : TypeId} {r : Option Operand} : addsK ⟨dst, .makeMap t r, ty, pos, after, g⟩ = true := rfl
theorem ak_box {ty : TypeId} {pos : String} {after : Array Edge} {dst : Option Tmp} {g : Option (Nat × Bool)} {t : TypeId} {r : Operand} : addsK ⟨dst, .box t r, ty, pos, after, g⟩ = true := rfl
theorem ad_box' {P : Program} {T : List V} {dst : Option Tmp} {ty : TypeId} {pos : String} {after : Array Edge} {g : Option (Nat × Bool)} {e : TypeId} {x : Nat} : addO P T ⟨dst, .box e (.tmp x), ty, pos, after, g⟩ = if fitsT P e (T.getD x .junk) then some (.row [T.getD x .junk] e, fun id => .ref id 0 0) else none := rfl
theorem same_lay {l : Lay} : sameV (.d (encLay l)) (.d (encLay l)) = true := by
  simp [sameV, sameCell, sameCell0, sameF, sameLeaf, encLay, all2]
theorem hole_at {S l : Store} {i : Nat} (h : Nat.ble (i + 1) 8 = true) : (S ++ [.hole, .hole, .hole, .hole, .hole, .hole, .hole, .hole] ++ l)[S.length + i]? = some Ob.hole := by
  rw [List.append_assoc, List.getElem?_append_right (by omega), Nat.add_sub_cancel_left]
  have hi : i < 8 := Nat.le_of_ble_eq_true h
  match i, hi with
  | 0, _ => rfl
  | 1, _ => rfl
  | 2, _ => rfl
  | 3, _ => rfl
  | 4, _ => rfl
  | 5, _ => rfl
  | 6, _ => rfl
  | 7, _ => rfl
theorem K2.setn {d r : Nat} {S S' : Store} {i : Nat} {o : Ob} (h : K2 d r S S') (hi : S.length ≤ i) : K2 d r S (S'.set i o) := fun j p a b c => by
  have := getLen c
  rw [List.getElem?_set_ne (by omega)]; exact h j p a b c
theorem DskAt.seto {S : Store} {d r : Nat} {vs : List V} {f w q : Int} {lit off : Bool} {i : Nat} {o : Ob} (h : DskAt S d r vs f lit off w q) (h1 : i ≠ d) (h2 : i ≠ r) : DskAt (S.set i o) d r vs f lit off w q :=
  ⟨by rw [List.getElem?_set_ne h1]; exact h.hd, by rw [List.getElem?_set_ne h2]; exact h.hr, h.ne⟩
section
variable {d x y c m : Nat} {B I M e : Int}
theorem eq32f : binV Try.prog .eql 32 (.ref d x y) (.d .nilp) = some (.d (.bool false)) := by kernel_rfl
theorem ne32f : binV Try.prog .neq 32 (.ref d x y) (.d .nilp) = some (.d (.bool true)) := by kernel_rfl
theorem eq32n : binV Try.prog .eql 32 (.d .nilp) (.d .nilp) = some (.d (.bool true)) := by kernel_rfl
theorem fr103_1 : fieldAddrV Try.prog 103 1 (.ref d x y) = some (.ref d x (y + 1)) := by kernel_rfl
theorem fr103_2 : fieldAddrV Try.prog 103 2 (.ref d x y) = some (.ref d x (y + 4)) := by kernel_rfl
theorem lr103_1 : loadR Try.prog 24 1 (some (stoV c m B I M e)) = some (.agg [.d (.int .i64 B), .d (.int .i64 I), .d (.int .u64 M)]) := by kernel_rfl
theorem lr103_2 : loadR Try.prog 29 4 (some (stoV c m B I M e)) = some (.d (.int .i64 e)) := by kernel_rfl
end
theorem mount_full (S : Store) (d r : Nat) (vs : List V) (f w : Int) (lit : Bool) (B I M : Nat) (hB : B ≤ 512) (hI : I ≤ 128) (hM : M < 18446744073709551616) (hm : MayL ⟨(B : Int), (I : Int), (M : Int)⟩) (h : DskAt S d r vs f lit false w 0) (v : V) (h0 : vs[0]? = some v) (hv : IsB v (supB B I M)) (hvl : vs.length = B) :
    EvS cfg 13 [.ref d 0 0] S (fun o S' => K2 d r S S' ∧ DskAt S' d r vs f lit false w 1 ∧ ∃ x c m m0, o = .ret (.tup [.ref x 0 0, .d (.int .i64 0)]) ∧ S'[x]? = some (.row [stoV c m B I M 0] 103) ∧ S'[c]? = some (.row [.agg [.ref d 0 0, .mr m0, .ts [], .d (.int .i64 0)]] 150) ∧ S'[m0]? = some (.mp [] 0) ∧ S'[m]? = some (.mp [] 0) ∧ m ≠ m0) := by
  refine evS_of rfl body13 ?_
  show Wp cfg (Try.f13.body.getD .skip) ((.ref d 0 0) :: (.tup []) :: (.tup []) :: (.tup []) :: (.tup []) :: (.tup []) :: (.tup []) :: (.tup []) :: (.tup []) :: (.tup []) :: (.tup []) :: (.tup []) :: (.tup []) :: (.tup []) :: (.tup []) :: (.tup []) :: (.tup []) :: (.tup []) :: (.tup []) :: (.tup []) :: (.tup []) :: (.tup []) :: (.tup []) :: (.tup []) :: (.tup []) :: (.tup []) :: (.tup []) :: (.tup []) :: (.tup []) :: (.tup []) :: (.tup []) :: (.tup []) :: (.tup []) :: (.tup []) :: (.tup []) :: (.tup []) :: (.tup []) :: []) S [] _
  conv => arg 2; whnf
  rw [wk_of]
  have l0 := z256
  have l5 := supB_len B I M
  obtain ⟨S1, hK, hD, hrd⟩ := read_split S d r vs f w lit _ _ h h0 hv l5
  have hg := fun {ops dst k T S F Q} => call_sget (ops := ops) (dst := dst) (k := k) (T := T) (S := S) (F := F) (Q := Q) hv (get_sup B I M hB hI hM hm)
  have hst := bt42.store hv l5 (w := blkV (zeros 256)) isB_v z256
  have hld := bt42.load hv l5
  have hv1 := hv.one
  have hne : ∀ i : Decidable ((B : Int) ≠ (B : Int)), @decide ((B : Int) ≠ (B : Int)) i = false := fun i => decide_eq_false (by omega)
  generalize ha : S1.length = a
  simp (maxSteps := 1000000) (disch := first | assumption | omega | rfl) only [↓vmp, vme, vmb, ty, hP, dec_t, dec_f, wrap64, List.length_map, Int.toNat_natCast, Nat.reduceAdd, List.cons_append, List.nil_append, Option.map_some, Option.map_none, strOf_mk, sb_eql, sb_neq, vmg, ↓vgd, ↓vst, ↓vix, eq26f, hrd, bo56, z42, zf42, z24, zf24, List.append_assoc, List.length_append, List.length_cons, List.length_nil, ha, rA0 ha, rA1 ha, pA0 ha, pA1 ha, hst, hld, hv1, hg, bo57, srb24, lr24, dec_True]
  have hsz := fun {ops base K ws cs i dst T} l => dw_callE (ops := ops) (base := base) (K := K) (ws := ws) (cs := cs) (i := i) (dst := dst) (T := T) rfl (size_ok (S1 ++ l) d r _ _ _ _ _ _ hD.app)
  rw [hvl] at hsz
  refine wk_draww (is := [0, 1, 2, 3, 4, 5, 6, 7, 8]) (h := 0) (by kernel_rfl) (by kernel_rfl) ?_
  simp (maxSteps := 1000000) (disch := first | assumption | omega | rfl) only [List.replicate_zero, eq_self, vmd, dw1, dw2, dw3, dw4, dw5, dw6, dw7, dw8, dw9, dw10, dw11, dw12, vmk, vmo, vmg, vme, vmb, ty, hP, dec_t, dec_f, wrap64, List.length_map, Int.toNat_natCast, Nat.reduceAdd, ↓vgd, ↓vst, ↓vix, vso, List.append_nil, rA1 ha, hsz, bo49]
  refine ⟨wall_read rfl (by kernel_rfl) rfl (ld_op ((loadV_row (rA1 ha)).trans lr24_0)) sameLeaf_i wall_nil, by kernel_rfl, ?_⟩
  have hrow : ∀ l', rowE ((S1 ++ [.row [v] 42, .row [.d (encLay ⟨(B : Int), (I : Int), (M : Int)⟩)] 24]) ++ l') (a + 1) 0 = some (.d (encLay ⟨(B : Int), (I : Int), (M : Int)⟩)) := fun l' => by
    rw [List.append_assoc]; exact rA1 ha
  have hD2 := hD.app (l := [.row [v] 42, .row [.d (encLay ⟨(B : Int), (I : Int), (M : Int)⟩)] 24])
  have hK2 := hK.app (l := [.row [v] 42, .row [.d (encLay ⟨(B : Int), (I : Int), (M : Int)⟩)] 24])
  generalize S1 ++ [Ob.row [v] 42, .row [.d (encLay ⟨(B : Int), (I : Int), (M : Int)⟩)] 24] = S2 at *
  simp (maxSteps := 1000000) (disch := first | assumption | omega | rfl) only [↓vmp, vme, vmb, ty, hP, dec_t, dec_f, wrap64, List.length_map, Int.toNat_natCast, Nat.reduceAdd, List.cons_append, List.nil_append, Option.map_some, Option.map_none, strOf_mk, sb_eql, sb_neq, vmg, ↓vgd, ↓vst, ↓vix]
  have hcn := fun {ops base K ws cs i dst T} => dw_callE (ops := ops) (base := base) (K := K) (ws := ws) (cs := cs) (i := i) (dst := dst) (T := T) rfl (cnew_ok (S2 ++ [.hole, .hole, .hole, .hole, .hole, .hole, .hole, .hole]) d)
  refine wk_draww (is := [0, 2, 1, 3, 4, 5, 6, 7]) (h := 8) (by kernel_rfl) (by kernel_rfl) ?_
  simp (maxSteps := 1000000) (disch := first | assumption | omega | rfl) only [List.replicate_zero, eq_self, vmd, dw1, dw2, dw3, dw4, dw5, dw6, dw7, dw8, dw9, dw10, dw11, dw12, vmk, vmo, vmg, vme, vmb, ty, hP, dec_t, dec_f, wrap64, List.length_map, Int.toNat_natCast, Nat.reduceAdd, ↓vgd, ↓vst, ↓vix, vso, hrow, hcn, bo58, lr24, ak_map, ak_box, ad_map, ad_box', wa_some, bd103, ft103, if_true, eq_self]
  refine ⟨wall_read rfl (by kernel_rfl) rfl (ld_op ((loadV_row (by rw [List.append_assoc]; exact hrow _)).trans lr24)) same_lay wall_nil, hole_at (by decide), ?_⟩
  refine ⟨by rw [List.getElem?_set_ne (by omega)]; exact hole_at (by decide), by kernel_rfl, ?_⟩
  simp (maxSteps := 1000000) (disch := first | assumption | omega | rfl) only [↓vmp, vme, vmb, ty, hP, dec_t, dec_f, wrap64, List.length_map, Int.toNat_natCast, Nat.reduceAdd, List.cons_append, List.nil_append, Option.map_some, Option.map_none, strOf_mk, sb_eql, sb_neq, vmg, ↓vgd, ↓vst, ↓vix]
  have hdl := hD2.dl
  have hrl := hD2.rl
  have hhl : (S2 ++ [Ob.hole, .hole, .hole, .hole, .hole, .hole, .hole, .hole]).length = S2.length + 8 := by simp
  have hend : ∀ (l : Store) (i : Nat), (S2 ++ [Ob.hole, .hole, .hole, .hole, .hole, .hole, .hole, .hole] ++ l)[S2.length + 8 + i]? = l[i]? := fun l i => by
    rw [List.getElem?_append_right (by rw [hhl]; omega), hhl, Nat.add_sub_cancel_left]
  simp only [hhl]
  refine ⟨rfl, _, rfl, hK2.trans ((K2.refl.app.app.setn (by omega)).setn (by omega)), ((hD2.app.app).seto (by omega) (by omega)).seto (by omega) (by omega), S2.length + 5, S2.length + 8 + 1, S2.length + 3, S2.length + 8, rfl, set_at (o := .hole) ?_, ?_, ?_, ?_, ?_⟩
  · rw [List.getElem?_set_ne (by omega)]
    exact hole_at (by decide)
  · rw [List.getElem?_set_ne (by omega), List.getElem?_set_ne (by omega), Nat.add_assoc S2.length 8 1]
    exact hend _ 1
  · rw [List.getElem?_set_ne (by omega), List.getElem?_set_ne (by omega)]
    exact hend _ 0
  · rw [List.getElem?_set_ne (by omega), List.getElem?_set_self (by simp)]
  · omega
theorem mount_ok (S : Store) (d r : Nat) (vs : List V) (f w : Int) (lit : Bool) (B I M : Nat) (hB : B ≤ 512) (hI : I ≤ 128) (hM : M < 18446744073709551616) (hm : MayL ⟨(B : Int), (I : Int), (M : Int)⟩) (h : DskAt S d r vs f lit false w 0) (v : V) (h0 : vs[0]? = some v) (hv : IsB v (supB B I M)) (hvl : vs.length = B) :
    EvS cfg 13 [.ref d 0 0] S (fun o S' => K2 d r S S' ∧ DskAt S' d r vs f lit false w 1 ∧ ∃ x c m, o = .ret (.tup [.ref x 0 0, .d (.int .i64 0)]) ∧ S'[x]? = some (.row [stoV c m B I M 0] 103)) := by
  obtain ⟨n, o, S', h1, h2, h3, x, c, m, m0, h4, h5, _⟩ := mount_full S d r vs f w lit B I M hB hI hM hm h v h0 hv hvl
  exact ⟨n, o, S', h1, h2, h3, x, c, m, h4, h5⟩
theorem lay_of (S : Store) (x c m : Nat) (B I M e : Int) (h : S[x]? = some (.row [stoV c m B I M e] 103)) : EvS cfg 17 [.ref x 0 0] S (fun o S' => S' = S ++ [.row [.agg [.d (.int .i64 B), .d (.int .i64 I), .d (.int .u64 M)]] 24] ∧ o = .ret (.agg [.d (.int .i64 B), .d (.int .i64 I), .d (.int .u64 M)])) := by
  refine evS_of rfl body17 ?_
  show Wp cfg (Try.f17.body.getD .skip) ((.ref x 0 0) :: (.tup []) :: (.tup []) :: (.tup []) :: (.tup []) :: (.tup []) :: (.tup []) :: (.tup []) :: (.tup []) :: (.tup []) :: []) S [] _
  conv => arg 2; whnf
  rw [wk_of]
  have hr : ∀ l, rowE (S ++ l) x 0 = some (stoV c m B I M e) := fun l => rowE_of (e := 103) (by rw [List.getElem?_append_left (getLen h)]; exact h)
  simp (maxSteps := 1000000) (disch := first | assumption | omega | rfl) only [↓vmp, vme, vmb, ty, hP, dec_t, dec_f, wrap64, List.length_map, Int.toNat_natCast, Nat.reduceAdd, List.cons_append, List.nil_append, Option.map_some, Option.map_none, strOf_mk, sb_eql, sb_neq, vmg, ↓vgd, ↓vst, ↓vix, eq32f, fr103_1, z24, zf24, hr, lr103_1, rA0 rfl, pA0 rfl, st24]
  refine ⟨rfl, _, ?_, rfl, rfl⟩
  show loadV Try.prog _ 24 (.ref S.length 0 0) = _
  rw [loadV_row (rA0 rfl)]
  kernel_rfl
theorem err_of (S : Store) (x c m : Nat) (B I M e : Int) (h : S[x]? = some (.row [stoV c m B I M e] 103)) : EvS cfg 18 [.ref x 0 0] S (fun o S' => S' = S ∧ o = .ret (.d (.int .i64 e))) := by
  refine evS_of rfl body18 ?_
  show Wp cfg (Try.f18.body.getD .skip) ((.ref x 0 0) :: (.tup []) :: (.tup []) :: (.tup []) :: (.tup []) :: (.tup []) :: (.tup []) :: (.tup []) :: (.tup []) :: []) S [] _
  conv => arg 2; whnf
  rw [wk_of]
  have hr : rowE S x 0 = some (stoV c m B I M e) := rowE_of (e := 103) h
  simp (maxSteps := 1000000) (disch := first | assumption | omega | rfl) only [↓vmp, vme, vmb, ty, hP, dec_t, dec_f, wrap64, List.length_map, Int.toNat_natCast, Nat.reduceAdd, List.cons_append, List.nil_append, Option.map_some, Option.map_none, strOf_mk, sb_eql, sb_neq, vmg, ↓vgd, ↓vst, ↓vix, eq32f, fr103_2, hr, lr103_2]
  exact ⟨rfl, _, rfl, rfl, rfl⟩
def IsBy (S : Store) (x : V) (b : List UInt8) : Prop := x = .d (encB b) ∨ ∃ id, x = .rs id 0 b.length ∧ S[id]? = some (rowY b)
theorem isBy_frz {S : Store} {x : V} {b : List UInt8} (h : IsBy S x b) : Go.Vm.frz S 11 x = some (encB b) := by
  rcases h with rfl | ⟨id, rfl, hS⟩
  · rfl
  · show (match S[id]? with
      | some (.row xs e) => if 0 + b.length ≤ xs.length && (allO (Go.Vm.frz S 10) xs).isSome then (allO (Go.Vm.frz S 10) ((xs.drop 0).take b.length)).map D.sl else none
      | some (.fz xs e) => if 0 + b.length ≤ xs.length then some (D.sl ((xs.drop 0).take b.length)) else none
      | _ => none) = _
    rw [hS]
    have h2 : ((b.map fun x => V.d (byD x)).drop 0).take b.length = b.map fun x => V.d (byD x) := by rw [List.drop_zero, List.take_of_length_le (by simp)]
    simp only [rowY, allO_by, h2, List.length_map, Nat.zero_add, Nat.le_refl, decide_true, Option.isSome_some, Bool.and_self, if_true, Option.map_some]
    rfl
theorem evS_split {f : FuncId} {args : List V} {S : Store} {R : Out → Store → Prop} (hs : cfg.shared f = true) (he : EvS cfg f args S R) : ∃ o S2, R o S2 ∧ ∀ v, o = .ret v → ∀ {ops dst k T F Q}, WpR cfg ops dst k T S F Q (some (.enter f args)) = WpL cfg ops k (putT T dst v) S2 F Q := by
  obtain ⟨n, o, S', hn, hR⟩ := he
  refine ⟨o, S', hR, ?_⟩
  rintro v rfl ops dst k T F Q
  exact wr_callE hs ⟨n, _, _, hn, rfl, rfl⟩
end Go.Proofs.Ytobgdmgldagjkaa
end
/-! geom.IsInode, Where; table.Raw: where an inode is. -/
section
set_option linter.unusedVariables false
set_option linter.unusedSimpArgs false
set_option maxRecDepth 100000
set_option maxHeartbeats 4000000
namespace Go.Proofs.Ytobgdmgldagjkaa
open Go.Vm
theorem body106 : bodyOf Try.prog 106 = some ⟨(Try.f106.body.getD .skip), 17, #[.tmp 4]⟩ := by
  unfold bodyOf
  rw [Try.func106]
  rfl
theorem body70 : bodyOf Try.prog 70 = some ⟨(Try.f70.body.getD .skip), 26, #[.tmp 4, .tmp 5, .tmp 6]⟩ := by
  unfold bodyOf
  rw [Try.func70]
  rfl
theorem body115 : bodyOf Try.prog 115 = some ⟨(Try.f115.body.getD .skip), 27, #[.cell 4 158]⟩ := by
  unfold bodyOf
  rw [Try.func115]
  rfl
theorem bo106 : (bodyOf Try.prog 106).isSome = true := by kernel_rfl
theorem bo70 : (bodyOf Try.prog 70).isSome = true := by kernel_rfl
theorem bo115 : (bodyOf Try.prog 115).isSome = true := by kernel_rfl
theorem IsInode_ok (l : Lay) (hb : InB l.blocks) (hi : InB l.inodes) (hm : MayL l) (ino : Nat) (h1 : 1 ≤ ino) (h2 : (ino : Int) ≤ l.inodes) : Ev cfg 106 [encLay l, .int .i64 (ino : Int)] (.ret (.d (.bool true))) := by
  refine ev_of rfl rfl body106 ?_
  show Wp cfg (Try.f106.body.getD .skip) ((.d (encLay l)) :: (.d (.int .i64 (ino : Int))) :: (.tup []) :: (.tup []) :: (.tup []) :: (.tup []) :: (.tup []) :: (.tup []) :: (.tup []) :: (.tup []) :: (.tup []) :: (.tup []) :: (.tup []) :: (.tup []) :: (.tup []) :: (.tup []) :: (.tup []) :: []) [] [] _
  conv => arg 2; whnf
  have hc : ∀ {ops dst k T S F Q}, WpR cfg ops dst k T S F Q (some (.enter 112 [.d (encLay l)])) = WpL cfg ops k (putT T dst (.d (.bool true))) S F Q := fun {ops dst k T S F Q} => wr_call_d (C := cfg) (ds := [encLay l]) rfl (ok_ok l hb hi hm)
  simp (maxSteps := 1000000) (disch := first | assumption | omega | rfl) only [↓vmp, vme, vmb, ty, hP, dec_t, dec_f, wrap64, List.length_map, Int.toNat_natCast, Nat.reduceAdd, List.cons_append, List.nil_append, Option.map_some, Option.map_none, strOf_mk, sb_eql, sb_neq, vmg, ↓vgd, ↓vst, ↓vix, hc, bo112]
  exact retQ_one rfl rfl rfl
theorem Where_ok (l : Lay) (hb : InB l.blocks) (hi : InB l.inodes) (hm : MayL l) (ino : Nat) (h1 : 1 ≤ ino) (h2 : (ino : Int) ≤ l.inodes) : Ev cfg 70 [encLay l, .int .i64 (ino : Int)] (.ret (.tup [.d (.int .i64 ((2 + (ino - 1) / 8 : Nat) : Int)), .d (.int .i64 (((ino - 1) % 8 : Nat) : Int)), .d (.bool true)])) := by
  refine ev_of rfl rfl body70 ?_
  show Wp cfg (Try.f70.body.getD .skip) ((.d (encLay l)) :: (.d (.int .i64 (ino : Int))) :: (.tup []) :: (.tup []) :: (.tup []) :: (.tup []) :: (.tup []) :: (.tup []) :: (.tup []) :: (.tup []) :: (.tup []) :: (.tup []) :: (.tup []) :: (.tup []) :: (.tup []) :: (.tup []) :: (.tup []) :: (.tup []) :: (.tup []) :: (.tup []) :: (.tup []) :: (.tup []) :: (.tup []) :: (.tup []) :: (.tup []) :: (.tup []) :: []) [] [] _
  conv => arg 2; whnf
  have hc : ∀ {ops dst k T S F Q}, WpR cfg ops dst k T S F Q (some (.enter 106 [.d (encLay l), .d (.int .i64 (ino : Int))])) = WpL cfg ops k (putT T dst (.d (.bool true))) S F Q := fun {ops dst k T S F Q} => wr_call_d (C := cfg) (ds := [encLay l, .int .i64 (ino : Int)]) rfl (IsInode_ok l hb hi hm ino h1 h2)
  have hc2 : ∀ {ops dst k T S F Q}, WpR cfg ops dst k T S F Q (some (.enter 91 [.d (encLay l)])) = WpL cfg ops k (putT T dst (.tup [.d (.int .i64 2), .d (.int .i64 (l.inodes.tdiv 8))])) S F Q := fun {ops dst k T S F Q} => wr_call_d (C := cfg) (ds := [encLay l]) rfl (Table_ok l hb hi hm)
  have hle := hm.2.2.2.1
  have hw : IntKind.i64.wrap ((ino : Int) - 1) = ((ino - 1 : Nat) : Int) := by rw [wrap64 (by omega)]; omega
  have e1 : ((ino - 1 : Nat) : Int).tdiv 8 = (((ino - 1) / 8 : Nat) : Int) := by rw [Int.tdiv_eq_ediv_of_nonneg (by omega)]; rfl
  have e2 : ((ino - 1 : Nat) : Int).tmod 8 = (((ino - 1) % 8 : Nat) : Int) := by rw [Int.tmod_eq_emod_of_nonneg (by omega)]; rfl
  have hq := quo8 (a := ((ino - 1 : Nat) : Int)) (by unfold InB; omega)
  have hr := rem8 (a := ((ino - 1 : Nat) : Int))
  rw [e1] at hq
  rw [e2] at hr
  have hw2 : IntKind.i64.wrap (2 + (((ino - 1) / 8 : Nat) : Int)) = ((2 + (ino - 1) / 8 : Nat) : Int) := by rw [wrap64 (by omega)]; omega
  simp (maxSteps := 1000000) (disch := first | assumption | omega | rfl) only [↓vmp, vme, vmb, ty, hP, dec_t, dec_f, wrap64, List.length_map, Int.toNat_natCast, Nat.reduceAdd, List.cons_append, List.nil_append, Option.map_some, Option.map_none, strOf_mk, sb_eql, sb_neq, vmg, ↓vgd, ↓vst, ↓vix, hc, hc2, bo106, bo91, hw, hq, hr, hw2, un_not, Bool.not_true]
  exact retQ_many (r1 := .tmp 4) (r2 := .tmp 5) (l := [.tmp 6]) (vs := [.d (.int .i64 ((2 + (ino - 1) / 8 : Nat) : Int)), .d (.int .i64 (((ino - 1) % 8 : Nat) : Int)), .d (.bool true)]) (ds := [.int .i64 ((2 + (ino - 1) / 8 : Nat) : Int), .int .i64 (((ino - 1) % 8 : Nat) : Int), .bool true]) rfl rfl rfl
theorem bt158 : BT Try.prog 158 5 32 := ⟨by kernel_rfl, by kernel_rfl, by kernel_rfl, by kernel_rfl, by kernel_rfl, by decide⟩
theorem z158 : zeroV Try.prog 158 = some (blkV (zeros 32)) := by kernel_rfl
theorem zf158 : fitsT Try.prog 158 (blkV (zeros 32)) = true := by kernel_rfl
theorem z32l : (zeros 32).length = 32 := rfl
theorem ia158 {S : Store} {j x : Nat} {i : Nat} (hi : i < 32) : indexAddrV Try.prog S 158 (.ref j x 0) (.d (.int .i64 (i : Int))) = some (.ref j x i) := by rw [bt158.ia hi, Nat.zero_add]
/-- An inode's bytes in its block. -/
def slotB (b : List UInt8) (k : Nat) : List UInt8 := (b.drop (32 * k)).take 32
theorem slotB_len {b : List UInt8} {k : Nat} (hb : b.length = 256) (hk : k < 8) : (slotB b k).length = 32 := by unfold slotB; rw [List.length_take, List.length_drop]; omega
theorem raw_l (b : List UInt8) (hb : b.length = 256) (k0 : Nat) (hk0 : k0 < 8) (z : V) (R : Post) : ∀ (k i : Nat) (u : V) (g0 g3 g6 g7 g8 g9 g10 g11 g12 g13 g15 g16 g17 g18 g19 g20 g21 g22 g23 g24 g25 g26 : V), 32 - i = k → i ≤ 32 → IsB u (fillB (slotB b k0) i) →
   (∀ u i' g0 g3 g6 g7 g8 g9 g10 g11 g12 g13 g15 g16 g17 g18 g19 g20 g21 g22 g23 g24 g25 g26, IsB u (slotB b k0) → R (.exit 0) (g0 :: (.d (.int .i64 (k0 : Int))) :: (.ref 0 0 0) :: g3 :: (.ref 1 0 0) :: (.ref 2 0 0) :: g6 :: g7 :: g8 :: g9 :: g10 :: g11 :: g12 :: g13 :: i' :: g15 :: g16 :: g17 :: g18 :: g19 :: g20 :: g21 :: g22 :: g23 :: g24 :: g25 :: g26 :: []) [.row [.d (blkD b)] 42, .row [z] 158, .row [u] 158] []) →
   Wp cfg (.loop (lpOf (Try.f115.body.getD .skip) 0)) (g0 :: (.d (.int .i64 (k0 : Int))) :: (.ref 0 0 0) :: g3 :: (.ref 1 0 0) :: (.ref 2 0 0) :: g6 :: g7 :: g8 :: g9 :: g10 :: g11 :: g12 :: g13 :: (.d (.int .i64 (i : Int))) :: g15 :: g16 :: g17 :: g18 :: g19 :: g20 :: g21 :: g22 :: g23 :: g24 :: g25 :: g26 :: []) [.row [.d (blkD b)] 42, .row [z] 158, .row [u] 158] [] R := by
  intro k
  have hsl := slotB_len hb hk0
  induction k with
  | zero =>
    intro i u g0 g3 g6 g7 g8 g9 g10 g11 g12 g13 g15 g16 g17 g18 g19 g20 g21 g22 g23 g24 g25 g26 hk hi hu hR
    have hie : i = 32 := by omega
    subst hie
    have e : fillB (slotB b k0) 32 = slotB b k0 := by
      have : fillB (slotB b k0) (slotB b k0).length = slotB b k0 := by unfold fillB zeros; simp
      rw [hsl] at this; exact this
    rw [e] at hu
    rw [wk_of]
    refine wk_loop ?_
    conv => arg 2; whnf
    simp (maxSteps := 1000000) (disch := first | assumption | omega | rfl) only [↓vmp, vme, vmb, ty, hP, dec_t, dec_f, wrap64, List.length_map, Int.toNat_natCast, Nat.reduceAdd, List.cons_append, List.nil_append, Option.map_some, Option.map_none, strOf_mk, sb_eql, sb_neq, vmg, ↓vgd, ↓vst, ↓vix]
    exact hR _ _ _ _ _ _ _ _ _ _ _ _ _ _ _ _ _ _ _ _ _ _ _ _ hu
  | succ k ih =>
    intro i u g0 g3 g6 g7 g8 g9 g10 g11 g12 g13 g15 g16 g17 g18 g19 g20 g21 g22 g23 g24 g25 g26 hk hi hu hR
    have hlt : i < 32 := by omega
    have hfl := fillB_len (t := slotB b k0) (i := i) (by omega)
    have h1 : IntKind.i64.wrap ((k0 : Int) * 32) = ((k0 * 32 : Nat) : Int) := by rw [wrap64 (by omega)]; omega
    have h2 : IntKind.i64.wrap (((k0 * 32 : Nat) : Int) + (i : Int)) = ((k0 * 32 + i : Nat) : Int) := by rw [wrap64 (by omega)]; omega
    have h3 : IntKind.i64.wrap ((i : Int) + 1) = ((i + 1 : Nat) : Int) := by rw [wrap64 (by omega)]; omega
    have hia := fun S j x => ia42 (S := S) (j := j) (x := x) (i := k0 * 32 + i) (by omega)
    have hia2 := fun S j x => ia158 (S := S) (j := j) (x := x) (i := i) hlt
    have hg := bt42.get (v := .d (blkD b)) isB_d hb (i := k0 * 32 + i) (by omega)
    have he : b[k0 * 32 + i] = (slotB b k0)[i]'(by omega) := by
      simp [slotB, Nat.mul_comm]
    rw [he] at hg
    have hpt := bt158.put hu (hfl.trans hsl) (i := i) (by omega) (x := (slotB b k0)[i]'(by omega))
    rw [fillB_set (by omega)] at hpt
    rw [wk_of]
    refine wk_loop ?_
    conv => arg 2; whnf
    simp (maxSteps := 1000000) (disch := first | assumption | omega | rfl) only [↓vmp, vme, vmb, ty, hP, dec_t, dec_f, wrap64, List.length_map, Int.toNat_natCast, Nat.reduceAdd, List.cons_append, List.nil_append, Option.map_some, Option.map_none, strOf_mk, sb_eql, sb_neq, vmg, ↓vgd, ↓vst, ↓vix, h1, h2, h3, hia, hia2, hg, hpt]
    exact ih (i + 1) _ _ _ _ _ _ _ _ _ _ _ _ _ _ _ _ _ _ _ _ _ _ _ (by omega) (by omega) isB_v hR
theorem raw_ok (b : List UInt8) (hb : b.length = 256) (k0 : Nat) (hk0 : k0 < 8) : Ev cfg 115 [blkD b, .int .i64 (k0 : Int)] (.ret (.d (blkD (slotB b k0)))) := by
  refine ev_of rfl rfl body115 ?_
  show Wp cfg (Try.f115.body.getD .skip) ((.d (blkD b)) :: (.d (.int .i64 (k0 : Int))) :: (.tup []) :: (.tup []) :: (.tup []) :: (.tup []) :: (.tup []) :: (.tup []) :: (.tup []) :: (.tup []) :: (.tup []) :: (.tup []) :: (.tup []) :: (.tup []) :: (.tup []) :: (.tup []) :: (.tup []) :: (.tup []) :: (.tup []) :: (.tup []) :: (.tup []) :: (.tup []) :: (.tup []) :: (.tup []) :: (.tup []) :: (.tup []) :: (.tup []) :: []) [] [] _
  conv => arg 2; whnf
  have hf := fd42 hb
  have c1 : ¬ (k0 : Int) < 0 := by omega
  have c2 : ¬ (k0 : Int) ≥ 8 := by omega
  simp (maxSteps := 1000000) (disch := first | assumption | omega | rfl) only [↓vmp, vme, vmb, ty, hP, dec_t, dec_f, wrap64, List.length_map, Int.toNat_natCast, Nat.reduceAdd, List.cons_append, List.nil_append, Option.map_some, Option.map_none, strOf_mk, sb_eql, sb_neq, vmg, ↓vgd, ↓vst, ↓vix, hf, z158, zf158]
  have e0 : IsB (blkV (zeros 32)) (fillB (slotB b k0) 0) := by
    have : fillB (slotB b k0) 0 = zeros 32 := by unfold fillB; rw [slotB_len hb hk0]; rfl
    rw [this]; exact isB_v
  refine raw_l b hb k0 hk0 _ _ 32 0 _ _ _ _ _ _ _ _ _ _ _ _ _ _ _ _ _ _ _ _ _ _ _ rfl (Nat.zero_le _) e0 ?_
  intro u i' g0 g3 g6 g7 g8 g9 g10 g11 g12 g13 g15 g16 g17 g18 g19 g20 g21 g22 g23 g24 g25 g26 hu
  have hld := bt158.load hu (slotB_len hb hk0)
  have hst := bt158.store hu (slotB_len hb hk0) (w := blkV (zeros 32)) isB_v z32l
  simp (maxSteps := 1000000) (disch := first | assumption | omega | rfl) only [↓vmp, vme, vmb, ty, hP, dec_t, dec_f, wrap64, List.length_map, Int.toNat_natCast, Nat.reduceAdd, List.cons_append, List.nil_append, Option.map_some, Option.map_none, strOf_mk, sb_eql, sb_neq, vmg, ↓vgd, ↓vst, ↓vix, hld, hst]
  exact retQ_cell (u := .ref 1 0 0) (v := u) rfl ((loadV_row rfl).trans hld) hu.one (hu.frz (n := 10))
end Go.Proofs.Ytobgdmgldagjkaa
end
/-! table.Get, table.Patch: an inode in its block. -/
section
set_option linter.unusedVariables false
set_option linter.unusedSimpArgs false
set_option maxRecDepth 100000
set_option maxHeartbeats 4000000
namespace Go.Proofs.Ytobgdmgldagjkaa
open Go.Vm
theorem body71 : bodyOf Try.prog 71 = some ⟨(Try.f71.body.getD .skip), 30, #[.cell 4 56, .tmp 5]⟩ := by
  unfold bodyOf
  rw [Try.func71]
  rfl
theorem body84 : bodyOf Try.prog 84 = some ⟨(Try.f84.body.getD .skip), 19, #[.cell 4 61, .tmp 5]⟩ := by
  unfold bodyOf
  rw [Try.func84]
  rfl
theorem bo71 : (bodyOf Try.prog 71).isSome = true := by kernel_rfl
theorem bo84 : (bodyOf Try.prog 84).isSome = true := by kernel_rfl
theorem bo107 : (bodyOf Try.prog 107).isSome = true := by kernel_rfl
theorem bo114 : (bodyOf Try.prog 114).isSome = true := by kernel_rfl
/-- An inode of whole numbers, with no blocks. -/
def inoD (kind links parent : Int) : D := .agg [.int .i64 kind, .int .i64 links, .int .i64 0, .int .i64 parent, .int .i64 0, .int .i64 0, .int .i64 0, .int .i64 0, .int .i64 0, .int .i64 0, .int .i64 0]
def fileI : List UInt8 := [1, 0, 1, 0] ++ zeros 28
theorem clean_root : Ev cfg 114 [blkD rootI] (.ret (.tup [.d (inoD 2 1 1), .d (.bool true)])) := ⟨1000, by kernel_rfl⟩
theorem clean_file : Ev cfg 114 [blkD fileI] (.ret (.tup [.d (inoD 1 1 0), .d (.bool true)])) := ⟨1000, by kernel_rfl⟩
theorem clean_none : Ev cfg 114 [blkD (zeros 32)] (.ret (.tup [.d (inoD 0 0 0), .d (.bool true)])) := ⟨1000, by kernel_rfl⟩
theorem iput_file : Ev cfg 107 [inoD 1 1 0] (.ret (.tup [.d (blkD fileI), .d (.int .i64 0)])) := ⟨1000, by kernel_rfl⟩
theorem z61 : zeroV Try.prog 61 = some (.agg [.d (.int .i64 0), .d (.int .i64 0), .d (.int .i64 0), .d (.int .i64 0), .d (.int .i64 0), .d (.int .i64 0), .d (.int .i64 0), .d (.int .i64 0), .d (.int .i64 0), .d (.int .i64 0), .d (.int .i64 0)]) := by kernel_rfl
theorem zf61 : fitsT Try.prog 61 (.agg [.d (.int .i64 0), .d (.int .i64 0), .d (.int .i64 0), .d (.int .i64 0), .d (.int .i64 0), .d (.int .i64 0), .d (.int .i64 0), .d (.int .i64 0), .d (.int .i64 0), .d (.int .i64 0), .d (.int .i64 0)]) = true := by kernel_rfl
theorem sr61 {a b c : Int} : storeR Try.prog 61 0 (.d (inoD a b c)) (.agg [.d (.int .i64 0), .d (.int .i64 0), .d (.int .i64 0), .d (.int .i64 0), .d (.int .i64 0), .d (.int .i64 0), .d (.int .i64 0), .d (.int .i64 0), .d (.int .i64 0), .d (.int .i64 0), .d (.int .i64 0)]) = some (.d (inoD a b c)) := by kernel_rfl
theorem lr61 {a b c : Int} : loadR Try.prog 61 0 (some (.d (inoD a b c))) = some (.d (inoD a b c)) := by kernel_rfl
theorem tget_ok (b : List UInt8) (hb : b.length = 256) (k0 : Nat) (hk0 : k0 < 8) (x y z : Int) (h : Ev cfg 114 [blkD (slotB b k0)] (.ret (.tup [.d (inoD x y z), .d (.bool true)]))) : Ev cfg 84 [blkD b, .int .i64 (k0 : Int)] (.ret (.tup [.d (inoD x y z), .d (.bool true)])) := by
  refine ev_of rfl rfl body84 ?_
  show Wp cfg (Try.f84.body.getD .skip) ((.d (blkD b)) :: (.d (.int .i64 (k0 : Int))) :: (.tup []) :: (.tup []) :: (.tup []) :: (.tup []) :: (.tup []) :: (.tup []) :: (.tup []) :: (.tup []) :: (.tup []) :: (.tup []) :: (.tup []) :: (.tup []) :: (.tup []) :: (.tup []) :: (.tup []) :: (.tup []) :: (.tup []) :: []) [] [] _
  conv => arg 2; whnf
  have hf := fd42 hb
  have c1 : ¬ (k0 : Int) < 0 := by omega
  have c2 : ¬ (k0 : Int) ≥ 8 := by omega
  have h1 : ∀ {ops dst k T S F Q}, WpR cfg ops dst k T S F Q (some (.enter 115 [.d (blkD b), .d (.int .i64 (k0 : Int))])) = WpL cfg ops k (putT T dst (.d (blkD (slotB b k0)))) S F Q := fun {ops dst k T S F Q} => wr_call_d (C := cfg) (ds := [blkD b, .int .i64 (k0 : Int)]) rfl (raw_ok b hb k0 hk0)
  have h2 : ∀ {ops dst k T S F Q}, WpR cfg ops dst k T S F Q (some (.enter 114 [.d (blkD (slotB b k0))])) = WpL cfg ops k (putT T dst (.tup [.d (inoD x y z), .d (.bool true)])) S F Q := fun {ops dst k T S F Q} => wr_call_d (C := cfg) (ds := [blkD (slotB b k0)]) rfl h
  simp (maxSteps := 1000000) (disch := first | assumption | omega | rfl) only [↓vmp, vme, vmb, ty, hP, dec_t, dec_f, wrap64, List.length_map, Int.toNat_natCast, Nat.reduceAdd, List.cons_append, List.nil_append, Option.map_some, Option.map_none, strOf_mk, sb_eql, sb_neq, vmg, ↓vgd, ↓vst, ↓vix, hf, z61, zf61, ldd42, h1, bo115, h2, bo114, sr61]
  exact retQ_ct rfl rfl ((loadV_row rfl).trans lr61) rfl rfl rfl rfl
end Go.Proofs.Ytobgdmgldagjkaa
end
/-! table.Patch: the patch that lays an inode. -/
section
set_option linter.unusedVariables false
set_option linter.unusedSimpArgs false
set_option maxRecDepth 100000
set_option maxHeartbeats 4000000
namespace Go.Proofs.Ytobgdmgldagjkaa
open Go.Vm
/-- A patch: bytes at a place. -/
def patD (at_ : Int) (b : List UInt8) : D := .agg [.int .i64 at_, encB b]
theorem z56 : zeroV Try.prog 56 = some (.agg [.d (.int .i64 0), .ts []]) := by kernel_rfl
theorem zf56 : fitsT Try.prog 56 (.agg [.d (.int .i64 0), .ts []]) = true := by kernel_rfl
theorem bd56 {n : Int} {id m : Nat} : buildV Try.prog 56 [(0, .d (.int .i64 n)), (1, .rs id 0 m)] = some (.agg [.d (.int .i64 n), .rs id 0 m]) := by kernel_rfl
theorem sr56 {n : Int} {id m : Nat} : storeR Try.prog 56 0 (.agg [.d (.int .i64 n), .rs id 0 m]) (.agg [.d (.int .i64 0), .ts []]) = some (.agg [.d (.int .i64 n), .rs id 0 m]) := by kernel_rfl
theorem lr56 {n : Int} {id m : Nat} : loadR Try.prog 56 0 (some (.agg [.d (.int .i64 n), .rs id 0 m])) = some (.agg [.d (.int .i64 n), .rs id 0 m]) := by kernel_rfl
theorem sl158 {S : Store} {a i : Nat} {vs : List V} (ha : S[a]? = some (.row vs 158)) : sliceV Try.prog S 158 (.ref a i 0) Option.none Option.none = some (.cs a i 0 32) := by
  have h0 : Try.prog.underlying 158 = some (.array 32 5) := by kernel_rfl
  have h1 : (sz Try.prog 5 == some 1) = true := by kernel_rfl
  have h2 : aggT Try.prog 5 = false := by kernel_rfl
  have h3 : sz Try.prog 158 = some 32 := by kernel_rfl
  have hb1 : boundV 32 Option.none 32 = some 32 := by kernel_rfl
  have hb2 : boundV 32 Option.none 0 = some 0 := by kernel_rfl
  simp only [sliceV, h0, sliceArrV, h1, h2, hb1, hb2, ha, h3, Bool.not_false, Bool.and_self, if_true, Nat.zero_add, Nat.le_refl, Nat.sub_zero]
theorem app_cs {S : Store} {a : Nat} {u : V} {b : List UInt8} (ha : S[a]? = some (.row [u] 158)) (hu : IsB u b) (hl : b.length = 32) : appendV Try.prog S 40 40 (.ts []) (.cs a 0 0 32) = some (.rs S.length 0 32, S ++ [rowY b], 2) := by
  have h5 : (sz Try.prog 5).isSome = true := by kernel_rfl
  have ht : ((b.map fun x => V.d (byD x)).drop 0).take 32 = b.map fun x => V.d (byD x) := by rw [List.drop_zero, List.take_of_length_le (by simp; omega)]
  have el : elemsV S (.cs a 0 0 32) = some (b.map fun x => V.d (byD x)) := by
    simp only [elemsV, ha, List.getElem?_cons_zero, hu.isAgg, hu.cells, List.length_map, hl, Nat.zero_add, Nat.le_refl, decide_true, Bool.and_self, if_true, ht]
  have hall : (b.map fun x => V.d (byD x)).all (fitsT Try.prog 5) = true := by
    rw [List.all_eq_true]
    intro y hy
    obtain ⟨z, hz, rfl⟩ := List.mem_map.1 hy
    exact fitsT5 _
  have src : srcV Try.prog S 5 40 (.cs a 0 0 32) = some (b.map fun x => V.d (byD x)) := by
    simp only [srcV, Try.underlying40, el, hall, h5, Bool.and_self, if_true]
  cases b with
  | nil => simp at hl
  | cons x r =>
    have hr : room Try.prog 5 (r.length + 1) = true := room40 (by simp at hl; omega)
    have hrl : r.length + 1 = 32 := by simpa using hl
    rw [List.map_cons] at src
    simp only [appendV, Try.underlying40, src, zOk40, if_true, List.all_nil, List.length_nil, List.length_map, Nat.zero_add, hr, Bool.and_self, List.map_nil, List.nil_append]
    rw [hrl]
    rfl
theorem wl_bs_slice {ops : Array Oper} {dst : Option Tmp} {ty : TypeId} {pos : String} {after : Array Edge} {l : List Oper} {T : List V} {S : Store} {F : Dfs} {Q : Post} {t : TypeId} {n : Nat} {ps : Array (Nat × Operand)} {d2 : Option Tmp} {ty2 : TypeId} {pos2 : String} {after2 : Array Edge} {g2 : Option (Nat × Bool)} {t2 : TypeId} {x : Operand} {lo hi mx : Option Operand} : WpL cfg ops (⟨dst, .buildSlice t n ps, ty, pos, after, none⟩ :: ⟨d2, .slice t2 x lo hi mx, ty2, pos2, after2, g2⟩ :: l) T S F Q = WpR cfg ops dst (⟨d2, .slice t2 x lo hi mx, ty2, pos2, after2, g2⟩ :: l) T S F Q (opV cfg.P S T ⟨dst, .buildSlice t n ps, ty, pos, after, none⟩) := wl_op' rfl
theorem tpatch_ok (k0 : Nat) (hk0 : k0 < 8) (x y z : Int) (b : List UInt8) (hl : b.length = 32) (h : Ev cfg 107 [inoD x y z] (.ret (.tup [.d (blkD b), .d (.int .i64 0)]))) : Ev cfg 71 [.int .i64 (k0 : Int), inoD x y z] (.ret (.tup [.d (patD ((k0 * 32 : Nat) : Int) b), .d (.int .i64 0)])) := by
  refine ev_of rfl rfl body71 ?_
  show Wp cfg (Try.f71.body.getD .skip) ((.d (.int .i64 (k0 : Int))) :: (.d (inoD x y z)) :: (.tup []) :: (.tup []) :: (.tup []) :: (.tup []) :: (.tup []) :: (.tup []) :: (.tup []) :: (.tup []) :: (.tup []) :: (.tup []) :: (.tup []) :: (.tup []) :: (.tup []) :: (.tup []) :: (.tup []) :: (.tup []) :: (.tup []) :: (.tup []) :: (.tup []) :: (.tup []) :: (.tup []) :: (.tup []) :: (.tup []) :: (.tup []) :: (.tup []) :: (.tup []) :: (.tup []) :: (.tup []) :: []) [] [] _
  conv => arg 2; whnf
  have c1 : ¬ (k0 : Int) < 0 := by omega
  have c2 : ¬ (k0 : Int) ≥ 8 := by omega
  have hf : fitsT Try.prog 61 (.d (inoD x y z)) = true := by kernel_rfl
  have h1 : IntKind.i64.wrap ((k0 : Int) * 32) = ((k0 * 32 : Nat) : Int) := by rw [wrap64 (by omega)]; omega
  have hp : ∀ {ops dst k T S F Q}, WpR cfg ops dst k T S F Q (some (.enter 107 [.d (inoD x y z)])) = WpL cfg ops k (putT T dst (.tup [.d (blkD b), .d (.int .i64 0)])) S F Q := fun {ops dst k T S F Q} => wr_call_d (C := cfg) (ds := [inoD x y z]) rfl h
  have hst := bt158.store (isB_d (b := b)) hl (w := blkV (zeros 32)) isB_v z32l
  have hsl : ∀ o1 o2 : Ob, sliceV Try.prog [o1, o2, .row [.d (blkD b)] 158] 158 (.ref 2 0 0) Option.none Option.none = some (.cs 2 0 0 32) := fun o1 o2 => sl158 rfl
  have hap : ∀ o1 o2 : Ob, appendV Try.prog [o1, o2, .row [.d (blkD b)] 158] 40 40 (.ts []) (.cs 2 0 0 32) = some (.rs 3 0 32, [o1, o2, .row [.d (blkD b)] 158, rowY b], 2) := fun o1 o2 => app_cs rfl isB_d hl
  simp (maxSteps := 1000000) (disch := first | assumption | omega | rfl) only [↓vmp, vme, vmb, ty, hP, dec_t, dec_f, wrap64, List.length_map, Int.toNat_natCast, Nat.reduceAdd, List.cons_append, List.nil_append, Option.map_some, Option.map_none, strOf_mk, sb_eql, sb_neq, vmg, ↓vgd, ↓vst, ↓vix, ↓vbs, hf, z56, zf56, z158, zf158, lr61, hp, bo107, hst, h1, bs0_40, ↓wl_bs_slice, wl_slice, Option.map_none, hsl, hap, bd56, sr56]
  have hby : ∀ S : Store, S[3]? = some (rowY b) → Go.Vm.frz S frzFuel (.agg [.d (.int .i64 ((k0 * 32 : Nat) : Int)), .rs 3 0 32]) = some (patD ((k0 * 32 : Nat) : Int) b) := fun S hS => by
    have h2 : Go.Vm.frz S 11 (.rs 3 0 32) = some (encB b) := isBy_frz (.inr ⟨3, by rw [hl], hS⟩)
    show (match allO (Go.Vm.frz S 11) [.d (.int .i64 ((k0 * 32 : Nat) : Int)), .rs 3 0 32] with | some ds => if ds.any D.isAgg then none else some (D.agg ds) | none => none) = _
    simp only [allO, h2]
    rfl
  exact retQ_ct rfl rfl ((loadV_row rfl).trans lr56) rfl rfl rfl (hby _ rfl)
end Go.Proofs.Ytobgdmgldagjkaa
end
/-! patch.Check, patch.Lay: a patch is laid over a block. -/
section
set_option linter.unusedVariables false
set_option linter.unusedSimpArgs false
set_option maxRecDepth 100000
set_option maxHeartbeats 4000000
namespace Go.Proofs.Ytobgdmgldagjkaa
open Go.Vm
/-- A patch that may be. -/
def PatOk (a : Int) (b : List UInt8) : Prop := 1 ≤ b.length ∧ b.length ≤ 256 ∧ 0 ≤ a ∧ a + b.length ≤ 256
instance {a : Int} {b : List UInt8} : Decidable (PatOk a b) := by unfold PatOk; infer_instance
theorem fd56 {a : Int} {b : List UInt8} : fitsT Try.prog 56 (.d (patD a b)) = true := by kernel_rfl
theorem fr56_0 {d x y : Nat} : fieldAddrV Try.prog 56 0 (.ref d x y) = some (.ref d x (y + 0)) := by kernel_rfl
theorem fr56_1 {d x y : Nat} : fieldAddrV Try.prog 56 1 (.ref d x y) = some (.ref d x (y + 1)) := by kernel_rfl
theorem lr56_0 {a : Int} {b : List UInt8} : loadR Try.prog 3 0 (some (.d (patD a b))) = some (.d (.int .i64 a)) := by kernel_rfl
theorem lr56_1 {a : Int} {b : List UInt8} : loadR Try.prog 40 1 (some (.d (patD a b))) = some (.d (encB b)) := by kernel_rfl
theorem lr56d {a : Int} {b : List UInt8} : loadR Try.prog 56 0 (some (.d (patD a b))) = some (.d (patD a b)) := by kernel_rfl
theorem len40b {S : Store} {b : List UInt8} : builtinV Try.prog S .len [40] [.d (encB b)] = some (.val (.d (.int .i64 b.length)) S 0) := by rw [encB, len40, List.length_map]
theorem Check_ok (a : Int) (b : List UInt8) (ha : InB a) : Ev cfg 104 [patD a b] (.ret (.d (.int .i64 (if PatOk a b then 0 else 2)))) := by
  refine ev_of rfl rfl body104 ?_
  show Wp cfg (Try.f104.body.getD .skip) ((.d (patD a b)) :: (.tup []) :: (.tup []) :: (.tup []) :: (.tup []) :: (.tup []) :: (.tup []) :: (.tup []) :: (.tup []) :: (.tup []) :: (.tup []) :: (.tup []) :: (.tup []) :: (.tup []) :: (.tup []) :: (.tup []) :: (.tup []) :: (.tup []) :: (.tup []) :: (.tup []) :: (.tup []) :: (.tup []) :: (.tup []) :: (.tup []) :: (.tup []) :: []) [] [] _
  conv => arg 2; whnf
  have ha1 := ha.1
  have ha2 := ha.2
  by_cases h1 : (b.length : Int) < 1
  · rw [if_neg (by unfold PatOk; omega)]
    simp (maxSteps := 1000000) (disch := first | assumption | omega | rfl) only [↓vmp, vme, vmb, ty, hP, dec_t, dec_f, wrap64, List.length_map, Int.toNat_natCast, Nat.reduceAdd, List.cons_append, List.nil_append, Option.map_some, Option.map_none, strOf_mk, sb_eql, sb_neq, vmg, ↓vgd, ↓vst, ↓vix, fd56, fr56_0, fr56_1, lr56_0, lr56_1, len40b, dec_True]
    exact retQ_one rfl rfl rfl
  · by_cases h2 : (b.length : Int) > 256
    · rw [if_neg (by unfold PatOk; omega)]
      simp (maxSteps := 1000000) (disch := first | assumption | omega | rfl) only [↓vmp, vme, vmb, ty, hP, dec_t, dec_f, wrap64, List.length_map, Int.toNat_natCast, Nat.reduceAdd, List.cons_append, List.nil_append, Option.map_some, Option.map_none, strOf_mk, sb_eql, sb_neq, vmg, ↓vgd, ↓vst, ↓vix, fd56, fr56_0, fr56_1, lr56_0, lr56_1, len40b, dec_True]
      exact retQ_one rfl rfl rfl
    · by_cases h3 : a < 0
      · rw [if_neg (by unfold PatOk; omega)]
        simp (maxSteps := 1000000) (disch := first | assumption | omega | rfl) only [↓vmp, vme, vmb, ty, hP, dec_t, dec_f, wrap64, List.length_map, Int.toNat_natCast, Nat.reduceAdd, List.cons_append, List.nil_append, Option.map_some, Option.map_none, strOf_mk, sb_eql, sb_neq, vmg, ↓vgd, ↓vst, ↓vix, fd56, fr56_0, fr56_1, lr56_0, lr56_1, len40b, dec_True]
        exact retQ_one rfl rfl rfl
      · have hw : IntKind.i64.wrap (256 - (b.length : Int)) = 256 - (b.length : Int) := wrap64 (by omega)
        by_cases h4 : a > 256 - (b.length : Int)
        · rw [if_neg (by unfold PatOk; omega)]
          simp (maxSteps := 1000000) (disch := first | assumption | omega | rfl) only [↓vmp, vme, vmb, ty, hP, dec_t, dec_f, wrap64, List.length_map, Int.toNat_natCast, Nat.reduceAdd, List.cons_append, List.nil_append, Option.map_some, Option.map_none, strOf_mk, sb_eql, sb_neq, vmg, ↓vgd, ↓vst, ↓vix, fd56, fr56_0, fr56_1, lr56_0, lr56_1, len40b, dec_True, hw]
          exact retQ_one rfl rfl rfl
        · rw [if_pos (by unfold PatOk; omega)]
          simp (maxSteps := 1000000) (disch := first | assumption | omega | rfl) only [↓vmp, vme, vmb, ty, hP, dec_t, dec_f, wrap64, List.length_map, Int.toNat_natCast, Nat.reduceAdd, List.cons_append, List.nil_append, Option.map_some, Option.map_none, strOf_mk, sb_eql, sb_neq, vmg, ↓vgd, ↓vst, ↓vix, fd56, fr56_0, fr56_1, lr56_0, lr56_1, len40b, dec_True, hw]
          exact retQ_one rfl rfl rfl
theorem play_l (b : List UInt8) (hb : b.length = 256) (k0 : Nat) (d : List UInt8) (hk0 : k0 + d.length ≤ 256) (z : V) (R : Post) : ∀ (k i : Nat) (u : V) (g0 g1 g5 g6 g7 g8 g9 g10 g11 g15 g16 g17 g18 g19 g20 g21 g22 g23 g24 g25 g26 : V), d.length - i = k → i ≤ d.length → IsB u (layB b k0 (d.take i)) →
   (∀ u i' g0 g1 g5 g6 g7 g8 g9 g10 g11 g15 g16 g17 g18 g19 g20 g21 g22 g23 g24 g25 g26, IsB u (layB b k0 d) → R (.exit 0) (g0 :: g1 :: (.ref 0 0 0) :: (.ref 1 0 0) :: (.ref 2 0 0) :: g5 :: g6 :: g7 :: g8 :: g9 :: g10 :: g11 :: (.d (encB d)) :: (.d (.int .i64 d.length)) :: i' :: g15 :: g16 :: g17 :: g18 :: g19 :: g20 :: g21 :: g22 :: g23 :: g24 :: g25 :: g26 :: []) [.row [u] 42, .row [.d (patD (k0 : Int) d)] 56, .row [z] 42] []) →
   Wp cfg (.loop (lpOf (Try.f92.body.getD .skip) 0)) (g0 :: g1 :: (.ref 0 0 0) :: (.ref 1 0 0) :: (.ref 2 0 0) :: g5 :: g6 :: g7 :: g8 :: g9 :: g10 :: g11 :: (.d (encB d)) :: (.d (.int .i64 d.length)) :: (.d (.int .i64 (i : Int))) :: g15 :: g16 :: g17 :: g18 :: g19 :: g20 :: g21 :: g22 :: g23 :: g24 :: g25 :: g26 :: []) [.row [u] 42, .row [.d (patD (k0 : Int) d)] 56, .row [z] 42] [] R := by
  intro k
  induction k with
  | zero =>
    intro i u g0 g1 g5 g6 g7 g8 g9 g10 g11 g15 g16 g17 g18 g19 g20 g21 g22 g23 g24 g25 g26 hk hi hu hR
    have hie : i = d.length := by omega
    subst hie
    rw [List.take_length] at hu
    rw [wk_of]
    refine wk_loop ?_
    conv => arg 2; whnf
    simp (maxSteps := 1000000) (disch := first | assumption | omega | rfl) only [↓vmp, vme, vmb, ty, hP, dec_t, dec_f, wrap64, List.length_map, Int.toNat_natCast, Nat.reduceAdd, List.cons_append, List.nil_append, Option.map_some, Option.map_none, strOf_mk, sb_eql, sb_neq, vmg, ↓vgd, ↓vst, ↓vix]
    exact hR _ _ _ _ _ _ _ _ _ _ _ _ _ _ _ _ _ _ _ _ _ _ _ hu
  | succ k ih =>
    intro i u g0 g1 g5 g6 g7 g8 g9 g10 g11 g15 g16 g17 g18 g19 g20 g21 g22 g23 g24 g25 g26 hk hi hu hR
    have hlt : i < d.length := by omega
    have htl : (d.take i).length = i := by rw [List.length_take]; omega
    have hl : (layB b k0 (d.take i)).length = 256 := by rw [layB_len (by rw [htl]; omega), hb]
    have h1 : IntKind.i64.wrap ((k0 : Int) + (i : Int)) = ((k0 + i : Nat) : Int) := by rw [wrap64 (by omega)]; omega
    have h3 : IntKind.i64.wrap ((i : Int) + 1) = ((i + 1 : Nat) : Int) := by rw [wrap64 (by omega)]; omega
    have hix := fun S => ix40 (S := S) (l := d) hlt
    have hia := fun S j x => ia42 (S := S) (j := j) (x := x) (i := k0 + i) (by omega)
    have hp := bt42.put hu hl (i := k0 + i) (by omega) (x := d[i])
    have e : (layB b k0 (d.take i)).set (k0 + i) d[i] = layB b k0 (d.take (i + 1)) := by
      rw [List.take_add_one, List.getElem?_eq_getElem hlt]
      show _ = layB b k0 (d.take i ++ [d[i]])
      rw [layB_snoc (by rw [htl]; omega), htl]
    rw [e] at hp
    rw [wk_of]
    refine wk_loop ?_
    conv => arg 2; whnf
    simp (maxSteps := 1000000) (disch := first | assumption | omega | rfl) only [↓vmp, vme, vmb, ty, hP, dec_t, dec_f, wrap64, List.length_map, Int.toNat_natCast, Nat.reduceAdd, List.cons_append, List.nil_append, Option.map_some, Option.map_none, strOf_mk, sb_eql, sb_neq, vmg, ↓vgd, ↓vst, ↓vix, encB, fr56_0, lr56_0, h1, h3, hix, hia, hp]
    exact ih (i + 1) _ _ _ _ _ _ _ _ _ _ _ _ _ _ _ _ _ _ _ _ _ _ (by omega) (by omega) isB_v hR
theorem PLay_ok (b : List UInt8) (hb : b.length = 256) (k0 : Nat) (d : List UInt8) (hp : PatOk (k0 : Int) d) : Ev cfg 92 [blkD b, patD (k0 : Int) d] (.ret (.d (blkD (layB b k0 d)))) := by
  obtain ⟨p1, p2, p3, p4⟩ := hp
  refine ev_of rfl rfl body92 ?_
  show Wp cfg (Try.f92.body.getD .skip) ((.d (blkD b)) :: (.d (patD (k0 : Int) d)) :: (.tup []) :: (.tup []) :: (.tup []) :: (.tup []) :: (.tup []) :: (.tup []) :: (.tup []) :: (.tup []) :: (.tup []) :: (.tup []) :: (.tup []) :: (.tup []) :: (.tup []) :: (.tup []) :: (.tup []) :: (.tup []) :: (.tup []) :: (.tup []) :: (.tup []) :: (.tup []) :: (.tup []) :: (.tup []) :: (.tup []) :: (.tup []) :: (.tup []) :: []) [] [] _
  conv => arg 2; whnf
  have hll : (layB b k0 d).length = 256 := by rw [layB_len (by omega), hb]
  have hf := fd42 hb
  have hc : ∀ {ops dst k T S F Q}, WpR cfg ops dst k T S F Q (some (.enter 104 [.d (patD (k0 : Int) d)])) = WpL cfg ops k (putT T dst (.d (.int .i64 0))) S F Q := fun {ops dst k T S F Q} => wr_call_d (C := cfg) (ds := [patD (k0 : Int) d]) rfl (by have := Check_ok (k0 : Int) d (by unfold InB; omega); rwa [if_pos (by unfold PatOk; omega)] at this)
  simp (maxSteps := 1000000) (disch := first | assumption | omega | rfl) only [↓vmp, vme, vmb, ty, hP, dec_t, dec_f, wrap64, List.length_map, Int.toNat_natCast, Nat.reduceAdd, List.cons_append, List.nil_append, Option.map_some, Option.map_none, strOf_mk, sb_eql, sb_neq, vmg, ↓vgd, ↓vst, ↓vix, z42, zf42, hf, fd56, lr56d, fr56_1, lr56_1, len40b, hc, bo104]
  refine play_l b hb k0 d (by omega) _ _ d.length 0 _ _ _ _ _ _ _ _ _ _ _ _ _ _ _ _ _ _ _ _ _ _ rfl (Nat.zero_le _) (by rw [List.take_zero, layB_nil]; exact isB_d) ?_
  intro u i' g0 g1 g5 g6 g7 g8 g9 g10 g11 g15 g16 g17 g18 g19 g20 g21 g22 g23 g24 g25 g26 hu
  have hld := bt42.load hu hll
  have hst := bt42.store hu hll (w := blkV (zeros 256)) isB_v z256
  simp (maxSteps := 1000000) (disch := first | assumption | omega | rfl) only [↓vmp, vme, vmb, ty, hP, dec_t, dec_f, wrap64, List.length_map, Int.toNat_natCast, Nat.reduceAdd, List.cons_append, List.nil_append, Option.map_some, Option.map_none, strOf_mk, sb_eql, sb_neq, vmg, ↓vgd, ↓vst, ↓vix, hld, hst]
  exact retQ_cell (u := .ref 2 0 0) (v := u) rfl ((loadV_row rfl).trans hld) hu.one (hu.frz (n := 10))
end Go.Proofs.Ytobgdmgldagjkaa
end
/-! A cache in the store; known: a block is read, if it was not. -/
section
set_option linter.unusedVariables false
set_option linter.unusedSimpArgs false
set_option maxRecDepth 100000
set_option maxHeartbeats 4000000
namespace Go.Proofs.Ytobgdmgldagjkaa
open Go.Vm
/-- A change: its number, its block, where it is laid, its bytes, the numbers that it needs. -/
structure Chg where
  id : Int
  no : Int
  at_ : Int
  data : List UInt8
  needs : List Int
/-- A cache as it is seen: the device's blocks, the changes that are left, the last number. -/
structure CS where
  img : List (List UInt8)
  list : List Chg
  last : Nat
def bysV (b : List UInt8) : List V := b.map fun x => .d (byD x)
def intsV (l : List Int) : List V := l.map fun n => .d (.int .i64 n)
def ChgV (S : Store) (v : V) (ch : Chg) : Prop := ∃ dv nv, v = .agg [.d (.int .i64 ch.id), .d (.int .i64 ch.no), .d (.int .i64 ch.at_), dv, nv] ∧ OwnS S dv 5 (bysV ch.data) ∧ OwnS S nv 3 (intsV ch.needs)
def ChgsV (S : Store) (es : List V) (l : List Chg) : Prop := es.length = l.length ∧ ∀ (i : Nat) (e : V) (ch : Chg), es[i]? = some e → l[i]? = some ch → ChgV S e ch
def ChgOk (n last : Nat) (ch : Chg) : Prop := PatOk ch.at_ ch.data ∧ 0 ≤ ch.no ∧ ch.no < n ∧ 1 ≤ ch.id ∧ ch.id ≤ last ∧ ch.needs.Pairwise (· < ·) ∧ ∀ x ∈ ch.needs, 1 ≤ x ∧ x < ch.id
structure CS.Ok (C : CS) : Prop where
  n : C.img.length ≤ 512
  len : ∀ b ∈ C.img, b.length = 256
  chs : ∀ ch ∈ C.list, ChgOk C.img.length C.last ch
  ids : C.list.Pairwise (fun a b => a.id < b.id)
  last : C.last ≤ 100000
def cacV (d m : Nat) (L : V) (last : Int) : V := .agg [.ref d 0 0, .mr m, L, .d (.int .i64 last)]
structure CacheP (S : Store) (c d r m : Nat) (L : V) (es vs : List V) (f : Int → Option V) (z : Int) (w q : Nat) (C : CS) : Prop where
  hc : S[c]? = some (.row [cacV d m L C.last] 150)
  hm : MpI S m f
  dk : DskAt S d r vs z false false w q
  zb : 0 ≤ z ∧ InB z
  il : vs.length = C.img.length
  im : ∀ (i : Nat) (v : V) (b : List UInt8), vs[i]? = some v → C.img[i]? = some b → IsB v b
  kn : ∀ no v, f no = some v → ∃ (k : Nat) (b : List UInt8), no = k ∧ C.img[k]? = some b ∧ IsB v b
  lo : OwnS S L 122 es
  lc : ChgsV S es C.list
  wq : w + C.list.length ≤ C.last + 100
  ok : C.Ok
def CacheAt (S : Store) (c r m : Nat) (C : CS) : Prop := ∃ d L es vs f z w q, CacheP S c d r m L es vs f z w q C ∧ q ≤ cntI f C.img.length + 1
abbrev caT : List Nat := [89, 150, 122]
abbrev FrC (m r : Nat) : Store → Store → Prop := Frm caT [m] 42 r
section
variable {S S' l : Store} {c d r m : Nat} {L : V} {es vs : List V} {f : Int → Option V} {z : Int} {w q : Nat} {C : CS}
theorem ChgV.mono {v : V} {ch : Chg} (h : ChgV S v ch) (h5 : ∀ v xs, OwnS S v 5 xs → OwnS S' v 5 xs) (h3 : ∀ v xs, OwnS S v 3 xs → OwnS S' v 3 xs) : ChgV S' v ch := by
  obtain ⟨dv, nv, h1, h2, h4⟩ := h
  exact ⟨dv, nv, h1, h5 _ _ h2, h3 _ _ h4⟩
theorem ChgsV.mono {l : List Chg} (h : ChgsV S es l) (h5 : ∀ v xs, OwnS S v 5 xs → OwnS S' v 5 xs) (h3 : ∀ v xs, OwnS S v 3 xs → OwnS S' v 3 xs) : ChgsV S' es l := ⟨h.1, fun i e ch a b => (h.2 i e ch a b).mono h5 h3⟩
theorem CacheP.keep (h : CacheP S c d r m L es vs f z w q C) (hk : Keep S S') : CacheP S' c d r m L es vs f z w q C :=
  ⟨hk _ _ h.hc, hk.map h.hm, ⟨hk _ _ h.dk.hd, hk _ _ h.dk.hr, h.dk.ne⟩, h.zb, h.il, h.im, h.kn, hk.own h.lo, h.lc.mono (fun _ _ => hk.own) (fun _ _ => hk.own), h.wq, h.ok⟩
theorem CacheAt.keep (h : CacheAt S c r m C) (hk : Keep S S') : CacheAt S' c r m C := by
  obtain ⟨d, L, es, vs, f, z, w, q, h, hq⟩ := h
  exact ⟨d, L, es, vs, f, z, w, q, h.keep hk, hq⟩
theorem CacheP.cd (h : CacheP S c d r m L es vs f z w q C) : c ≠ d := fun e => by have := getE h.hc (e ▸ h.dk.hd); cases this
theorem CacheP.cr (h : CacheP S c d r m L es vs f z w q C) : c ≠ r := fun e => by have := getE h.hc (e ▸ h.dk.hr); cases this
theorem CacheP.md (h : CacheP S c d r m L es vs f z w q C) : m ≠ d := fun e => by obtain ⟨_, _, h1, _⟩ := h.hm; have := getE h1 (e ▸ h.dk.hd); cases this
theorem CacheP.mr (h : CacheP S c d r m L es vs f z w q C) : m ≠ r := fun e => by obtain ⟨_, _, h1, _⟩ := h.hm; have := getE h1 (e ▸ h.dk.hr); cases this
theorem CacheP.cm (h : CacheP S c d r m L es vs f z w q C) : c ≠ m := fun e => by obtain ⟨_, _, h1, _⟩ := h.hm; have := getE h.hc (e ▸ h1); cases this
theorem CacheP.imv (h : CacheP S c d r m L es vs f z w q C) {no : Nat} (hn : no < C.img.length) : ∃ (v : V) (b : List UInt8) (hv : no < vs.length), vs[no] = v ∧ C.img[no]? = some b ∧ IsB v b ∧ b.length = 256 := by
  have hv : no < vs.length := by rw [h.il]; exact hn
  have hb := List.getElem?_eq_getElem hn
  exact ⟨vs[no], C.img[no], hv, rfl, hb, h.im no _ _ (List.getElem?_eq_getElem hv) hb, h.ok.len _ (List.getElem_mem hn)⟩
/-- The disk has read. -/
theorem CacheP.k2 (h : CacheP S c d r m L es vs f z w q C) (hk : K2 d r S S') {q' : Nat} (hd : DskAt S' d r vs z false false w q') : CacheP S' c d r m L es vs f z w q' C := by
  have own : ∀ v e xs, e ≠ 89 → e ≠ 42 → OwnS S v e xs → OwnS S' v e xs := fun v e xs h1 h2 ho => by
    rcases ho with ho | ⟨id, a, b⟩
    · exact .inl ho
    · exact .inr ⟨id, a, hk _ _ (fun e => by have := getE b (e ▸ h.dk.hd); cases this; exact h1 rfl) (fun e => by have := getE b (e ▸ h.dk.hr); cases this; exact h2 rfl) b⟩
  have hm : MpI S' m f := by
    obtain ⟨l, k, h1, h2⟩ := h.hm
    exact ⟨l, k, hk _ _ h.md h.mr h1, h2⟩
  exact ⟨hk _ _ h.cd h.cr h.hc, hm, hd, h.zb, h.il, h.im, h.kn, own _ _ _ (by decide) (by decide) h.lo, h.lc.mono (fun _ _ => own _ _ _ (by decide) (by decide)) (fun _ _ => own _ _ _ (by decide) (by decide)), h.wq, h.ok⟩
theorem CacheP.frK2 (h : CacheP S c d r m L es vs f z w q C) (hk : K2 d r S S') (hl : S.length ≤ S'.length) : FrC m r S S' := ⟨hl, fun j o hj hc => hk j o (by
  rintro rfl
  have := getE hj h.dk.hd
  subst this
  cases hc) (by
  rintro rfl
  have := getE hj h.dk.hr
  subst this
  simp [calm] at hc) hj⟩
/-- A block becomes known. -/
theorem CacheP.know (h : CacheP S c d r m L es vs f z w q C) {no : Nat} {v : V} {b : List UInt8} (hf : f (no : Int) = none) (hb : C.img[no]? = some b) (hv : IsB v b) {o : Ob} (hm : MpI (S.set m o) m (updI f no (some v))) {q' : Nat} (hd : DskAt (S.set m o) d r vs z false false w q') : CacheP (S.set m o) c d r m L es vs (updI f no (some v)) z w q' C := by
  obtain ⟨l, k, h1, h2⟩ := h.hm
  have own : ∀ (u : V) (e : TypeId) (xs : List V), OwnS S u e xs → OwnS (S.set m o) u e xs := fun u e xs ho => by
    rcases ho with ho | ⟨id, a, b⟩
    · exact .inl ho
    · refine .inr ⟨id, a, ?_⟩
      rw [List.getElem?_set_ne (by rintro rfl; have := getE h1 b; cases this)]
      exact b
  refine ⟨?_, hm, hd, h.zb, h.il, h.im, ?_, own _ _ _ h.lo, h.lc.mono (fun _ _ => own _ _ _) (fun _ _ => own _ _ _), h.wq, h.ok⟩
  · rw [List.getElem?_set_ne (Ne.symm h.cm)]; exact h.hc
  · intro x u hx
    unfold updI at hx
    split at hx
    · rename_i hxe
      cases hx
      exact ⟨no, b, hxe, hb, hv⟩
    · exact h.kn x u hx
end
section
variable {d m c x y n : Nat} {L : V} {last : Int}
theorem eq48f : binV Try.prog .eql 48 (.ref d x y) (.d .nilp) = some (.d (.bool false)) := by kernel_rfl
theorem fr150_0 : fieldAddrV Try.prog 150 0 (.ref d x y) = some (.ref d x (y + 0)) := by kernel_rfl
theorem fr150_1 : fieldAddrV Try.prog 150 1 (.ref d x y) = some (.ref d x (y + 1)) := by kernel_rfl
theorem fr150_2 : fieldAddrV Try.prog 150 2 (.ref d x y) = some (.ref d x (y + 2)) := by kernel_rfl
theorem fr150_3 : fieldAddrV Try.prog 150 3 (.ref d x y) = some (.ref d x (y + 3)) := by kernel_rfl
theorem lc0 : loadR Try.prog 26 0 (some (cacV d m L last)) = some (.ref d 0 0) := by kernel_rfl
theorem lc1 : loadR Try.prog 148 1 (some (cacV d m L last)) = some (.mr m) := by kernel_rfl
theorem lc3 : loadR Try.prog 3 3 (some (cacV d m L last)) = some (.d (.int .i64 last)) := by kernel_rfl
end
theorem ik148 : IK Try.prog 148 3 42 (blkV (zeros 256)) := ⟨by kernel_rfl, fun _ _ => rfl, fun _ => by kernel_rfl, z42⟩
theorem op_mapUp {P : Program} {S : Store} {T : List V} {dst : Option Tmp} {ty : TypeId} {pos : String} {after : Array Edge} {g : Option (Nat × Bool)} {t : TypeId} {m k x : Operand} : opV P S T ⟨dst, .mapUpdate t m k x, ty, pos, after, g⟩ = (mapUpdateV P S t (evalO T m) (evalO T k) (evalO T x)).map fun S' => .skip S' 3 := rfl
theorem readQ (S : Store) (d r : Nat) (vs : List V) (z : Int) (w q : Nat) (no : Nat) (v : V) (b : List UInt8) (h : DskAt S d r vs z false false w q) (hn : no < vs.length) (hv : vs[no] = v) (hb : IsB v b) (hl : b.length = 256) (hq : q ≤ 1000) :
    ∃ S1, K2 d r S S1 ∧ S.length ≤ S1.length ∧ DskAt S1 d r vs z false false w ((q + 1 : Nat) : Int) ∧ ∀ {ops dst k T F Q}, WpR cfg ops dst k T S F Q (some (.enter 56 [.ref d 0 0, .d (.int .i64 (no : Int))])) = WpL cfg ops k (putT T dst (.tup [v, .d (.int .i64 0)])) S1 F Q := by
  have hrd := fun {ops dst k T F Q} => wr_callE (ops := ops) (dst := dst) (l := k) (T := T) (F := F) (Q := Q) rfl (read_ok S d r vs z w q false no _ _ h hn hv hb hl (by omega))
  exact ⟨_, K2.refl.setd.app, by simp, by have := (h.setd (f' := z) (lit' := false) (off' := false) (w' := w) (q' := ((q + 1 : Nat) : Int))).app (l := [.row [.ref d 0 0] 26, .row [v] 42]); exact this, hrd⟩
def KnR (c r m : Nat) (no : Int) (C : CS) (S : Store) (o : Out) (S' : Store) : Prop := o = .ret (.d (.int .i64 0)) ∧ FrC m r S S' ∧ ∃ d L es vs f z w q, CacheP S' c d r m L es vs f z w q C ∧ q ≤ cntI f C.img.length + 1 ∧ (f no).isSome = true
/-- The cache lies within the first B objects. -/
def CacheIn (S : Store) (B c r m : Nat) (C : CS) : Prop := B ≤ S.length ∧ CacheAt (S.take B) c r m C
section
variable {S S' l : Store} {B c r m : Nat} {C : CS}
theorem CacheIn.at (h : CacheIn S B c r m C) : CacheAt S c r m C := h.2.keep take_keep
theorem CacheIn.of (h : CacheAt S c r m C) : CacheIn S S.length c r m C := ⟨Nat.le_refl _, by rw [List.take_length]; exact h⟩
theorem CacheIn.app (h : CacheIn S B c r m C) : CacheIn (S ++ l) B c r m C := ⟨by have := h.1; simp; omega, by rw [take_app h.1]; exact h.2⟩
theorem CacheIn.setn (h : CacheIn S B c r m C) {i : Nat} {o : Ob} (hi : B ≤ i) : CacheIn (S.set i o) B c r m C := ⟨by rw [List.length_set]; exact h.1, by rw [take_setn hi]; exact h.2⟩
theorem CacheIn.keep (h : CacheIn S B c r m C) (hk : Keep S S') : CacheIn S' B c r m C := ⟨Nat.le_trans h.1 hk.len, h.2.keep hk.take⟩
end
def KnI (B c r m : Nat) (no : Int) (C : CS) (S : Store) (o : Out) (S' : Store) : Prop := o = .ret (.d (.int .i64 0)) ∧ FrC m r S S' ∧ B ≤ S'.length ∧ ∃ d L es vs f z w q, CacheP (S'.take B) c d r m L es vs f z w q C ∧ q ≤ cntI f C.img.length + 1 ∧ (f no).isSome = true
theorem known_in (S : Store) (B c r m : Nat) (C : CS) (h0 : CacheIn S B c r m C) (no : Nat) (hn : no < C.img.length) : EvS cfg 103 [.ref c 0 0, .d (.int .i64 (no : Int))] S (KnI B c r m no C S) := by
  obtain ⟨hB, d, L, es, vs, f, z, w, q, hp, hq⟩ := h0
  have h := hp.keep (take_keep (S := S))
  have hq6 : q ≤ 600 := by have h2 := cntI_le (f := f) C.img.length; have h3 := h.ok.n; omega
  refine evS_of rfl body103 ?_
  show Wp cfg (Try.f103.body.getD .skip) ((.ref c 0 0) :: (.d (.int .i64 (no : Int))) :: (.tup []) :: (.tup []) :: (.tup []) :: (.tup []) :: (.tup []) :: (.tup []) :: (.tup []) :: (.tup []) :: (.tup []) :: (.tup []) :: (.tup []) :: (.tup []) :: (.tup []) :: (.tup []) :: (.tup []) :: (.tup []) :: (.tup []) :: (.tup []) :: (.tup []) :: (.tup []) :: (.tup []) :: (.tup []) :: (.tup []) :: (.tup []) :: (.tup []) :: (.tup []) :: (.tup []) :: (.tup []) :: (.tup []) :: (.tup []) :: (.tup []) :: (.tup []) :: (.tup []) :: (.tup []) :: (.tup []) :: (.tup []) :: (.tup []) :: []) S [] _
  conv => arg 2; whnf
  rw [wk_of]
  have hc : ∀ l, rowE (S ++ l) c 0 = some (cacV d m L C.last) := fun l => rowE_of (e := 150) (by rw [List.getElem?_append_left (getLen h.hc)]; exact h.hc)
  have hc0 := hc []
  rw [List.append_nil] at hc0
  have hlk := (h.hm.look ik148 no).1
  generalize ha : S.length = a
  cases hf : f (no : Int) with
  | some v =>
    rw [hf] at hlk
    obtain ⟨k, b, hk, hb, hv⟩ := h.kn _ _ hf
    have hbl := h.ok.len b (List.mem_of_getElem? hb)
    have hst := bt42.store hv hbl (w := blkV (zeros 256)) isB_v z256
    simp only [Option.getD_some, Option.isSome_some] at hlk
    simp (maxSteps := 1000000) (disch := first | assumption | omega | rfl) only [↓vmp, vme, vmb, ty, hP, dec_t, dec_f, wrap64, List.length_map, Int.toNat_natCast, Nat.reduceAdd, List.cons_append, List.nil_append, Option.map_some, Option.map_none, strOf_mk, sb_eql, sb_neq, vmg, ↓vgd, ↓vst, ↓vix, eq48f, fr150_1, hc0, lc1, hlk, z42, zf42, ha, rA0 ha, pA0 ha, hst]
    exact ⟨rfl, _, rfl, rfl, Frm.refl.app, by simp; omega, d, L, es, vs, f, z, w, q, by rw [take_app hB]; exact hp, hq, by rw [hf]; rfl⟩
  | none =>
    rw [hf] at hlk
    simp only [Option.getD_none, Option.isSome_none] at hlk
    obtain ⟨v, b, hvl, hvv, hb, hv, hbl⟩ := h.imv hn
    have l0 := z256
    have h1 := h.keep (S' := S ++ [.row [blkV (zeros 256)] 42]) Keep.refl.app
    obtain ⟨S1, hK, hlen, hD, hrd⟩ := readQ _ d r vs z w q no v b h1.dk hvl hvv hv hbl (by omega)
    have h2 := (h1.k2 hK hD).keep (S' := S1 ++ [.row [v] 42]) Keep.refl.app
    have hrow : ∀ l, rowE (S1 ++ l) c 0 = some (cacV d m L C.last) := fun l => rowE_of (e := 150) (by rw [List.getElem?_append_left (getLen (hK _ _ h.cd h.cr h1.hc))]; exact hK _ _ h.cd h.cr h1.hc)
    have hst := bt42.store hv hbl (w := blkV (zeros 256)) isB_v z256
    have hld := bt42.load hv hbl
    obtain ⟨o, ho, hm2, ⟨es', k', ho2⟩⟩ := h2.hm.put ik148 (no : Int) (v := v) hv.one
    have hBl : B ≤ S1.length := by simp at hlen; omega
    have hKp : K2 d r (S.take B) (S1.take B) := fun j p n1 n2 hj => take_at (hK j p n1 n2 (by rw [List.getElem?_append_left (getLen (take_keep _ _ hj))]; exact take_keep _ _ hj)) (lt_take hj)
    have hdB := lt_take hp.dk.hd
    have hrB := lt_take hp.dk.hr
    have hmB : m < B := by obtain ⟨_, _, e1, _⟩ := hp.hm; exact lt_take e1
    have hDp : DskAt (S1.take B) d r vs z false false w ((q + 1 : Nat) : Int) := ⟨take_at hD.hd hdB, take_at hD.hr hrB, hD.ne⟩
    have h2p := hp.k2 hKp hDp
    have htk : ((S1 ++ [Ob.row [v] 42]).set m o).take B = (S1.take B).set m o := by rw [List.take_set, take_app hBl]
    have hm2p : MpI ((S1.take B).set m o) m (updI f no (some v)) := hm2.keep (by
      rw [List.getElem?_set_self (by rw [List.length_take]; omega), List.getElem?_set_self (by simp; omega)])
    have hD2p : DskAt ((S1.take B).set m o) d r vs z false false w ((q + 1 : Nat) : Int) := ⟨by rw [List.getElem?_set_ne h.md]; exact hDp.hd, by rw [List.getElem?_set_ne h.mr]; exact hDp.hr, h.dk.ne⟩
    have h3 := h2p.know hf hb hv hm2p hD2p
    have hcu := cntI_upd (v := v) hf _ hn
    have hF : FrC m r S (List.set (S1 ++ [Ob.row [v] 42]) m o) := ((Frm.refl.app (l := [.row [blkV (zeros 256)] 42])).trans ((h1.frK2 hK hlen).app)).set (by
      intro p hp
      obtain ⟨_, _, e1, _⟩ := h.hm
      cases getE hp e1
      simp [calm])
    generalize ha1 : S1.length = a1
    simp (maxSteps := 1000000) (disch := first | assumption | omega | rfl) only [↓vmp, vme, vmb, ty, hP, dec_t, dec_f, wrap64, List.length_map, Int.toNat_natCast, Nat.reduceAdd, List.cons_append, List.nil_append, Option.map_some, Option.map_none, strOf_mk, sb_eql, sb_neq, vmg, ↓vgd, ↓vst, ↓vix, eq48f, fr150_1, fr150_0, hc0, hc, lc0, lc1, hlk, z42, zf42, ha, rA0 ha, pA0 ha, svv42, z256, hrd, bo56, ha1, rA0 ha1, pA0 ha1, hst]
    refine wk_draw (is := [0, 1, 2, 3, 4, 5, 6]) (h := 0) (by kernel_rfl) (by kernel_rfl) ?_
    simp (maxSteps := 1000000) (disch := first | assumption | omega | rfl) only [List.replicate_zero, eq_self, vmd, vmk, vmo, vmg, vme, vmb, ty, hP, dec_t, dec_f, wrap64, List.length_map, Int.toNat_natCast, Nat.reduceAdd, ↓vgd, ↓vst, ↓vix, vso, rA0 ha1, hrow, fr150_1, lc1, op_nilCheck, nilS_ref, hld, op_mapUp, ho, List.append_nil]
    refine ⟨fun _ => by kernel_rfl, ?_⟩
    refine ⟨by kernel_rfl, ?_⟩
    simp (maxSteps := 1000000) (disch := first | assumption | omega | rfl) only [↓vmp, vme, vmb, ty, hP, dec_t, dec_f, wrap64, List.length_map, Int.toNat_natCast, Nat.reduceAdd, List.cons_append, List.nil_append, Option.map_some, Option.map_none, strOf_mk, sb_eql, sb_neq, vmg, ↓vgd, ↓vst, ↓vix]
    exact ⟨rfl, _, rfl, rfl, hF, by simp; omega, d, L, es, vs, _, z, w, q + 1, by rw [htk]; exact h3, by rw [hcu]; omega, by unfold updI; rw [if_pos rfl]; rfl⟩
theorem evS_mono {f : FuncId} {args : List V} {S : Store} {R R' : Out → Store → Prop} (h : EvS cfg f args S R) (hm : ∀ o S', R o S' → R' o S') : EvS cfg f args S R' := by
  obtain ⟨n, o, S', h1, h2⟩ := h
  exact ⟨n, o, S', h1, hm _ _ h2⟩
theorem known_ok (S : Store) (c r m : Nat) (C : CS) (h0 : CacheAt S c r m C) (no : Nat) (hn : no < C.img.length) : EvS cfg 103 [.ref c 0 0, .d (.int .i64 (no : Int))] S (KnR c r m no C S) :=
  evS_mono (known_in S _ c r m C (CacheIn.of h0) no hn) fun o S' ⟨h1, h2, _, d, L, es, vs, f, z, w, q, h3, h4⟩ => ⟨h1, h2, d, L, es, vs, f, z, w, q, h3.keep take_keep, h4⟩
end Go.Proofs.Ytobgdmgldagjkaa
end
/-! cache.Get: a block as it is seen. -/
section
set_option linter.unusedVariables false
set_option linter.unusedSimpArgs false
set_option maxRecDepth 100000
set_option maxHeartbeats 4000000
namespace Go.Proofs.Ytobgdmgldagjkaa
open Go.Vm
/-- A block with the changes of its number laid over it. -/
def seeL (b : List UInt8) (l : List Chg) (no : Int) : List UInt8 := l.foldl (fun b ch => if ch.no = no then layB b ch.at_.toNat ch.data else b) b
theorem seeL_snoc {b : List UInt8} {l : List Chg} {ch : Chg} {no : Int} : seeL b (l ++ [ch]) no = if ch.no = no then layB (seeL b l no) ch.at_.toNat ch.data else seeL b l no := by
  unfold seeL
  rw [List.foldl_append]
  rfl
theorem seeL_len {b : List UInt8} {no : Int} (hb : b.length = 256) : ∀ {l : List Chg}, (∀ ch ∈ l, PatOk ch.at_ ch.data) → (seeL b l no).length = 256 := by
  intro l
  induction l generalizing b with
  | nil => intro _; exact hb
  | cons ch r ih =>
    intro h
    have h1 := h ch List.mem_cons_self
    have h2 : (if ch.no = no then layB b ch.at_.toNat ch.data else b).length = 256 := by
      split
      · obtain ⟨_, _, p3, p4⟩ := h1
        rw [layB_len (by omega), hb]
      · exact hb
    exact ih h2 fun x hx => h x (List.mem_cons_of_mem _ hx)
/-- What is seen of a block. -/
def CS.see (C : CS) (no : Nat) : List UInt8 := seeL (C.img.getD no []) C.list (no : Int)
theorem CS.Ok.see_len {C : CS} (h : C.Ok) {no : Nat} (hn : no < C.img.length) : (C.see no).length = 256 := by
  refine seeL_len ?_ fun ch hch => (h.chs ch hch).1
  rw [List.getD_eq_getElem?_getD, List.getElem?_eq_getElem hn]
  exact h.len _ (List.getElem_mem hn)
section
variable {a b c : Int} {dv nv : V}
theorem z122 : zeroV Try.prog 122 = some (.agg [.d (.int .i64 0), .d (.int .i64 0), .d (.int .i64 0), .ts [], .ts []]) := by kernel_rfl
theorem zf122 : fitsT Try.prog 122 (.agg [.d (.int .i64 0), .d (.int .i64 0), .d (.int .i64 0), .ts [], .ts []]) = true := by kernel_rfl
theorem lr122 : loadR Try.prog 122 0 (some (.agg [.d (.int .i64 a), .d (.int .i64 b), .d (.int .i64 c), dv, nv])) = some (.agg [.d (.int .i64 a), .d (.int .i64 b), .d (.int .i64 c), dv, nv]) := by kernel_rfl
theorem sr122 : storeR Try.prog 122 0 (.agg [.d (.int .i64 a), .d (.int .i64 b), .d (.int .i64 c), dv, nv]) (.agg [.d (.int .i64 0), .d (.int .i64 0), .d (.int .i64 0), .ts [], .ts []]) = some (.agg [.d (.int .i64 a), .d (.int .i64 b), .d (.int .i64 c), dv, nv]) := by kernel_rfl
theorem lr122_0 : loadR Try.prog 3 0 (some (.agg [.d (.int .i64 a), .d (.int .i64 b), .d (.int .i64 c), dv, nv])) = some (.d (.int .i64 a)) := by kernel_rfl
theorem lr122_1 : loadR Try.prog 3 1 (some (.agg [.d (.int .i64 a), .d (.int .i64 b), .d (.int .i64 c), dv, nv])) = some (.d (.int .i64 b)) := by kernel_rfl
theorem lr122_2 : loadR Try.prog 56 2 (some (.agg [.d (.int .i64 a), .d (.int .i64 b), .d (.int .i64 c), dv, nv])) = some (.agg [.d (.int .i64 c), dv]) := by kernel_rfl
theorem fr122_0 {d x y : Nat} : fieldAddrV Try.prog 122 0 (.ref d x y) = some (.ref d x (y + 0)) := by kernel_rfl
theorem fr122_1 {d x y : Nat} : fieldAddrV Try.prog 122 1 (.ref d x y) = some (.ref d x (y + 1)) := by kernel_rfl
theorem fr122_2 {d x y : Nat} : fieldAddrV Try.prog 122 2 (.ref d x y) = some (.ref d x (y + 2)) := by kernel_rfl
theorem u119 : Try.prog.underlying 119 = some (.slice 122) := by kernel_rfl
theorem s122 : (sz Try.prog 122).isSome = true := by kernel_rfl
end
theorem lc2 {d m : Nat} {L : V} {last : Int} : loadR Try.prog 119 2 (some (cacV d m L last)) = some L := by kernel_rfl
/-- A call that lays a patch of the store. -/
theorem call_play {ops : Array Oper} {dst : Option Tmp} {k : List Oper} {T : List V} {S : Store} {F : Dfs} {Q : Post} {u dv : V} {b d : List UInt8} {a : Int} (hu : IsB u b) (hb : b.length = 256) (hd : OwnS S dv 5 (bysV d)) (hp : PatOk a d) : WpR cfg ops dst k T S F Q (some (.enter 92 [u, .agg [.d (.int .i64 a), dv]])) = WpL cfg ops k (putT T dst (.d (blkD (layB b a.toNat d)))) S F Q := by
  obtain ⟨n, rfl⟩ : ∃ n : Nat, a = n := ⟨a.toNat, by have := hp.2.2.1; omega⟩
  have hd' : OwnS S dv 5 ((d.map byD).map .d) := by rw [List.map_map]; exact hd
  have hf := own_frzn (n := 9) hd'
  have h0 : Go.Vm.frz S 11 (.d (.int .i64 (n : Int))) = some (.int .i64 (n : Int)) := rfl
  have h1 : Go.Vm.frz S frzFuel (.agg [.d (.int .i64 (n : Int)), dv]) = some (patD (n : Int) d) := by
    show (match allO (Go.Vm.frz S 11) [.d (.int .i64 (n : Int)), dv] with | some ds => if ds.any D.isAgg then none else some (D.agg ds) | none => none) = _
    simp only [allO, h0, hf]
    rfl
  refine wr_pl (ds := [blkD b, patD (n : Int) d]) rfl ?_ ?_ (PLay_ok b hb n d hp)
  · simp only [allO, hu.frz (n := 10), frzFuel]
    have := h1
    rw [frzFuel] at this
    simp only [this]
  · show D.plain (blkD _) = true
    simp only [D.plain, blkD, List.all_eq_true, List.mem_map]
    rintro _ ⟨x, _, rfl⟩
    rfl
theorem cget_l (c no a4 a7 : Nat) (S0 : Store) (b : List UInt8) (hb : b.length = 256) (L : V) (es : List V) (l : List Chg) (hL : OwnS S0 L 122 es) (hl : ChgsV S0 es l) (hok : ∀ ch ∈ l, PatOk ch.at_ ch.data) (hes : es.length ≤ 1000000) (R : Post) :
   ∀ (k i : Nat) (S : Store) (u : V) (g2 g3 g5 g6 g8 g9 g10 g11 g12 g13 g14 g15 g16 g17 g18 g19 g20 g21 g22 g23 g24 g25 g29 g30 g31 g32 g33 g34 g35 g36 g37 g38 g39 g40 g41 : V), l.length - i = k → i ≤ l.length → Keep S0 S → S0.length ≤ a7 → S[a7]? = some (.row [u] 42) → IsB u (seeL b (l.take i) no) →
   (∀ S' u' i' g2 g3 g5 g6 g8 g9 g10 g11 g12 g13 g14 g15 g16 g17 g18 g19 g20 g21 g22 g23 g24 g25 g29 g30 g31 g32 g33 g34 g35 g36 g37 g38 g39 g40 g41, Keep S0 S' → S'[a7]? = some (.row [u'] 42) → IsB u' (seeL b l no) → R (.exit 0) ((.ref c 0 0) :: (.d (.int .i64 (no : Int))) :: g2 :: g3 :: (.ref a4 0 0) :: g5 :: g6 :: (.ref a7 0 0) :: g8 :: g9 :: g10 :: g11 :: g12 :: g13 :: g14 :: g15 :: g16 :: g17 :: g18 :: g19 :: g20 :: g21 :: g22 :: g23 :: g24 :: g25 :: L :: (.d (.int .i64 (l.length : Int))) :: i' :: g29 :: g30 :: g31 :: g32 :: g33 :: g34 :: g35 :: g36 :: g37 :: g38 :: g39 :: g40 :: g41 :: []) S' []) →
   Wp cfg (.loop (lpOf (Try.f66.body.getD .skip) 0)) ((.ref c 0 0) :: (.d (.int .i64 (no : Int))) :: g2 :: g3 :: (.ref a4 0 0) :: g5 :: g6 :: (.ref a7 0 0) :: g8 :: g9 :: g10 :: g11 :: g12 :: g13 :: g14 :: g15 :: g16 :: g17 :: g18 :: g19 :: g20 :: g21 :: g22 :: g23 :: g24 :: g25 :: L :: (.d (.int .i64 (l.length : Int))) :: (.d (.int .i64 (i : Int))) :: g29 :: g30 :: g31 :: g32 :: g33 :: g34 :: g35 :: g36 :: g37 :: g38 :: g39 :: g40 :: g41 :: []) S [] R := by
  intro k
  have hll := hl.1
  induction k with
  | zero =>
    intro i S u g2 g3 g5 g6 g8 g9 g10 g11 g12 g13 g14 g15 g16 g17 g18 g19 g20 g21 g22 g23 g24 g25 g29 g30 g31 g32 g33 g34 g35 g36 g37 g38 g39 g40 g41 hk hi hK ha7 hS hu hR
    have hie : i = l.length := by omega
    subst hie
    rw [List.take_length] at hu
    rw [wk_of]
    refine wk_loop ?_
    conv => arg 2; whnf
    simp (maxSteps := 1000000) (disch := first | assumption | omega | rfl) only [↓vmp, vme, vmb, ty, hP, dec_t, dec_f, wrap64, List.length_map, Int.toNat_natCast, Nat.reduceAdd, List.cons_append, List.nil_append, Option.map_some, Option.map_none, strOf_mk, sb_eql, sb_neq, vmg, ↓vgd, ↓vst, ↓vix]
    exact hR _ _ _ _ _ _ _ _ _ _ _ _ _ _ _ _ _ _ _ _ _ _ _ _ _ _ _ _ _ _ _ _ _ _ _ _ _ _ hK hS hu
  | succ k ih =>
    intro i S u g2 g3 g5 g6 g8 g9 g10 g11 g12 g13 g14 g15 g16 g17 g18 g19 g20 g21 g22 g23 g24 g25 g29 g30 g31 g32 g33 g34 g35 g36 g37 g38 g39 g40 g41 hk hi hK ha7 hS hu hR
    have hlt : i < l.length := by omega
    have hlt2 : i < es.length := by omega
    obtain ⟨id, hix, hre, _⟩ := own_ix u119 s122 (hK.own hL) hlt2
    obtain ⟨dv, nv, he, hd5, hn3⟩ := hl.2 i es[i] l[i] (List.getElem?_eq_getElem hlt2) (List.getElem?_eq_getElem hlt)
    rw [he] at hre
    have hpk := hok l[i] (List.getElem_mem hlt)
    have h3 : IntKind.i64.wrap ((i : Int) + 1) = ((i + 1 : Nat) : Int) := by rw [wrap64 (by omega)]; omega
    have hsl := seeL_len (no := (no : Int)) hb (l := l.take i) (fun ch hch => hok ch (List.mem_of_mem_take hch))
    have hsn : seeL b (l.take (i + 1)) no = if l[i].no = no then layB (seeL b (l.take i) no) l[i].at_.toNat l[i].data else seeL b (l.take i) no := by
      rw [List.take_add_one, List.getElem?_eq_getElem hlt]
      exact seeL_snoc
    generalize ha : S.length = a
    have hal := getLen hS
    have hr7 : ∀ o, rowE (S ++ [o]) a7 0 = some u := fun o => rowE_of (e := 42) (by rw [List.getElem?_append_left hal]; exact hS)
    have hp7 : ∀ o y, putRow (S ++ [o]) a7 0 y = some (S.set a7 (.row [y] 42) ++ [o]) := fun o y => by
      rw [putRow_of (x := u) (e := 42) (by rw [List.getElem?_append_left hal]; exact hS), List.set_append_left _ _ hal]
    have hld := bt42.load hu hsl
    have hu1 := hu.one
    have hcl := fun {ops dst k T F Q} => call_play (ops := ops) (dst := dst) (k := k) (T := T) (F := F) (Q := Q) (S := S ++ [.row [.agg [.d (.int .i64 l[i].id), .d (.int .i64 l[i].no), .d (.int .i64 l[i].at_), dv, nv]] 122]) hu hsl ((Keep.app hK).own hd5) hpk
    have hst := bt42.store (v := .d (blkD (layB (seeL b (l.take i) no) l[i].at_.toNat l[i].data))) isB_d (by obtain ⟨_, _, p3, p4⟩ := hpk; rw [layB_len (by omega), hsl]) hu hsl
    rw [wk_of]
    refine wk_loop ?_
    conv => arg 2; whnf
    by_cases hno : l[i].no = (no : Int)
    · rw [if_pos hno] at hsn
      have hde : ∀ i' : Decidable (l[i].no = (no : Int)), @decide (l[i].no = (no : Int)) i' = true := fun i' => decide_eq_true hno
      simp (maxSteps := 1000000) (disch := first | assumption | omega | rfl) only [↓vmp, vme, vmb, ty, hP, dec_t, dec_f, wrap64, List.length_map, Int.toNat_natCast, Nat.reduceAdd, List.cons_append, List.nil_append, Option.map_some, Option.map_none, strOf_mk, sb_eql, sb_neq, vmg, ↓vgd, ↓vst, ↓vix, hix, hre, lr122, z122, zf122, sr122, ha, rA0 ha, pA0 ha, fr122_1, fr122_2, lr122_1, lr122_2, hde, hr7, hp7, hld, hcl, hst, hu1, bo92, h3]
      refine ih (i + 1) _ (.d (blkD (layB (seeL b (l.take i) no) l[i].at_.toNat l[i].data))) _ _ _ _ _ _ _ _ _ _ _ _ _ _ _ _ _ _ _ _ _ _ _ _ _ _ _ _ _ _ _ _ _ _ _ (by omega) (by omega) (Keep.app (hK.set ha7)) ha7 ?_ (by rw [hsn]; exact isB_d) hR
      rw [List.getElem?_append_left (by rw [List.length_set]; exact hal), List.getElem?_set_self hal]
    · rw [if_neg hno] at hsn
      have hde : ∀ i' : Decidable (l[i].no = (no : Int)), @decide (l[i].no = (no : Int)) i' = false := fun i' => decide_eq_false hno
      simp (maxSteps := 1000000) (disch := first | assumption | omega | rfl) only [↓vmp, vme, vmb, ty, hP, dec_t, dec_f, wrap64, List.length_map, Int.toNat_natCast, Nat.reduceAdd, List.cons_append, List.nil_append, Option.map_some, Option.map_none, strOf_mk, sb_eql, sb_neq, vmg, ↓vgd, ↓vst, ↓vix, hix, hre, lr122, z122, zf122, sr122, ha, rA0 ha, pA0 ha, fr122_1, fr122_2, lr122_1, lr122_2, hde, h3]
      refine ih (i + 1) _ u _ _ _ _ _ _ _ _ _ _ _ _ _ _ _ _ _ _ _ _ _ _ _ _ _ _ _ _ _ _ _ _ _ _ _ (by omega) (by omega) (Keep.app hK) ha7 ?_ (by rw [hsn]; exact hu) hR
      rw [List.getElem?_append_left hal]
      exact hS
def SeeR (B c r m : Nat) (C : CS) (S : Store) (P : V → Prop) (o : Out) (S' : Store) : Prop := FrC m r S S' ∧ CacheIn S' B c r m C ∧ ∃ v, o = .ret v ∧ P v
theorem cget_ok (S : Store) (B c r m : Nat) (C : CS) (h0 : CacheIn S B c r m C) (no : Nat) (hn : no < C.img.length) : EvS cfg 66 [.ref c 0 0, .d (.int .i64 (no : Int))] S (SeeR B c r m C S fun v => ∃ u, v = .tup [u, .d (.int .i64 0)] ∧ IsB u (C.see no)) := by
  refine evS_of rfl body66 ?_
  show Wp cfg (Try.f66.body.getD .skip) ((.ref c 0 0) :: (.d (.int .i64 (no : Int))) :: (.tup []) :: (.tup []) :: (.tup []) :: (.tup []) :: (.tup []) :: (.tup []) :: (.tup []) :: (.tup []) :: (.tup []) :: (.tup []) :: (.tup []) :: (.tup []) :: (.tup []) :: (.tup []) :: (.tup []) :: (.tup []) :: (.tup []) :: (.tup []) :: (.tup []) :: (.tup []) :: (.tup []) :: (.tup []) :: (.tup []) :: (.tup []) :: (.tup []) :: (.tup []) :: (.tup []) :: (.tup []) :: (.tup []) :: (.tup []) :: (.tup []) :: (.tup []) :: (.tup []) :: (.tup []) :: (.tup []) :: (.tup []) :: (.tup []) :: (.tup []) :: (.tup []) :: (.tup []) :: []) S [] _
  conv => arg 2; whnf
  rw [wk_of]
  generalize ha : S.length = a
  have hA : ∀ o, S[a]? ≠ some o := fun o hh => by have := getLen hh; omega
  obtain ⟨o, S1, ⟨rfl, hF, hB1, d, L, es, vs, f, z, w, q, hp, hq, hfs⟩, hkn⟩ := evS_split rfl (known_in (S ++ [.row [blkV (zeros 256)] 42]) B c r m C h0.app no hn)
  have hB := h0.1
  have h := hp.keep (take_keep (S := S1))
  have hkn := fun {ops dst k T F Q} => hkn _ rfl (ops := ops) (dst := dst) (k := k) (T := T) (F := F) (Q := Q)
  obtain ⟨v, hv⟩ := Option.isSome_iff_exists.1 hfs
  obtain ⟨k0, b, hk0, hb, hvb⟩ := h.kn _ _ hv
  cases (by omega : no = k0)
  have hbl := h.ok.len b (List.mem_of_getElem? hb)
  have hlk := (h.hm.look ik148 no).2
  rw [hv] at hlk
  simp only [Option.getD_some] at hlk
  have hc0 : rowE S1 c 0 = some (cacV d m L C.last) := rowE_of (e := 150) h.hc
  have hc1 : ∀ l, rowE (S1 ++ l) c 0 = some (cacV d m L C.last) := fun l => rowE_of (e := 150) (by rw [List.getElem?_append_left (getLen h.hc)]; exact h.hc)
  have hst := bt42.store hvb hbl (w := blkV (zeros 256)) isB_v z256
  have l0 := z256
  have hlen : ∀ S, Keep S1 S → builtinV Try.prog S .len [119] [L] = some (.val (.d (.int .i64 (C.list.length : Int))) S 0) := fun S hk => by rw [len_own u119 (hk.own h.lo), h.lc.1]
  have hln := hlen (S1 ++ [.row [v] 42]) Keep.refl.app
  have hr1 : r ≠ a := fun e => by
    obtain ⟨_, d', L', es', vs', f', z', w', q', h', _⟩ := h0
    have := lt_take h'.dk.hr
    omega
  have h4 : S1[a]? = some (.row [blkV (zeros 256)] 42) := hF.row (by subst ha; simp) (by simp [Ne.symm hr1])
  generalize ha1 : S1.length = a1
  simp (maxSteps := 1000000) (disch := first | assumption | omega | rfl) only [↓vmp, vme, vmb, ty, hP, dec_t, dec_f, wrap64, List.length_map, Int.toNat_natCast, Nat.reduceAdd, List.cons_append, List.nil_append, Option.map_some, Option.map_none, strOf_mk, sb_eql, sb_neq, vmg, ↓vgd, ↓vst, ↓vix, z42, zf42, ha, rA0 ha, hkn, bo103, fr150_1, fr150_2, hc0, hc1, lc1, lc2, hlk, ha1, rA0 ha1, pA0 ha1, hst, hln]
  have hal := getLen h4
  refine cget_l c no a a1 S1 b hbl L es C.list h.lo h.lc (fun ch hch => (h.ok.chs ch hch).1) (by have h1 := h.wq; have h2 := h.ok.last; have h3 := h.lc.1; omega) _ C.list.length 0 _ v _ _ _ _ _ _ _ _ _ _ _ _ _ _ _ _ _ _ _ _ _ _ _ _ _ _ _ _ _ _ _ _ _ _ _ rfl (Nat.zero_le _) Keep.refl.app (by omega) (by rw [← ha1]; simp) hvb ?_
  intro S2 u i' g2 g3 g5 g6 g8 g9 g10 g11 g12 g13 g14 g15 g16 g17 g18 g19 g20 g21 g22 g23 g24 g25 g29 g30 g31 g32 g33 g34 g35 g36 g37 g38 g39 g40 g41 hK hS2 hu
  have hca : CacheIn S2 B c r m C := CacheIn.keep ⟨hB1, d, L, es, vs, f, z, w, q, hp, hq⟩ hK
  have hr7 := rowE_of (e := 42) hS2
  have h42 := hK _ _ h4
  have hp4 := fun y => putRow_of (y := y) (x := blkV (zeros 256)) (e := 42) h42
  have hr4 := rowE_of (e := 42) h42
  have hsl := seeL_len (no := (no : Int)) hbl (fun ch hch => (h.ok.chs ch hch).1)
  have hld := bt42.load hu hsl
  have hst2 := bt42.store hu hsl (w := blkV (zeros 256)) isB_v z256
  have hu1 := hu.one
  simp (maxSteps := 1000000) (disch := first | assumption | omega | rfl) only [↓vmp, vme, vmb, ty, hP, dec_t, dec_f, wrap64, List.length_map, Int.toNat_natCast, Nat.reduceAdd, List.cons_append, List.nil_append, Option.map_some, Option.map_none, strOf_mk, sb_eql, sb_neq, vmg, ↓vgd, ↓vst, ↓vix, hr7, hld, hr4, hst2, hp4]
  have hsee : C.see no = seeL b C.list no := by unfold CS.see; rw [List.getD_eq_getElem?_getD, hb]; rfl
  have hl1 : loadV Try.prog (S2.set a (.row [u] 42)) 42 (.ref a 0 0) = some u := (loadV_row (rowE_of (e := 42) (List.getElem?_set_self (getLen h42)))).trans hld
  refine ⟨rfl, .tup [u, .d (.int .i64 0)], ?_, ?_, hca.setn (by omega), _, rfl, u, rfl, by rw [hsee]; exact hu⟩
  · exact res_ct rfl hl1 rfl hu1 rfl
  · refine Frm.setn ?_ (by omega)
    exact ((Frm.refl.app).trans hF).trans (Frm.keep hK)
end Go.Proofs.Ytobgdmgldagjkaa
end
/-! store.View, view.Block: a block as the view tells it. -/
section
set_option linter.unusedVariables false
set_option linter.unusedSimpArgs false
set_option maxRecDepth 100000
set_option maxHeartbeats 4000000
namespace Go.Proofs.Ytobgdmgldagjkaa
open Go.Vm
abbrev getF (c : Nat) : V := .fn (.func 66) [.ref c 0 0] []
def viewV (B I M : Int) (g : Nat) : V := .agg [.d (.int .i64 B), .d (.int .i64 I), .d (.int .u64 M), .fn (.func 102) [] [.ref g 0 0]]
def ViewAt (S : Store) (v : V) (c : Nat) (B I M : Int) : Prop := ∃ g, v = viewV B I M g ∧ S[g]? = some (.row [getF c] 97)
theorem ViewAt.keep {S S' : Store} {v : V} {c : Nat} {B I M : Int} (h : ViewAt S v c B I M) (hk : Keep S S') : ViewAt S' v c B I M := by
  obtain ⟨g, h1, h2⟩ := h
  exact ⟨g, h1, hk _ _ h2⟩
theorem ViewAt.frm {S S' : Store} {v : V} {c : Nat} {B I M : Int} {ts ms : List Nat} {r : Nat} (h : ViewAt S v c B I M) (hk : Frm ts ms 42 r S S') (ht : (!ts.contains 97) = true) : ViewAt S' v c B I M := by
  obtain ⟨g, h1, h2⟩ := h
  exact ⟨g, h1, hk.row h2 (by rw [ht]; rfl)⟩
section
variable {c g x y d : Nat} {B I M : Int} {S : Store}
theorem ft97 : fitsT Try.prog 97 (getF c) = true := by kernel_rfl
theorem lr97 : loadR Try.prog 97 0 (some (getF c)) = some (getF c) := by kernel_rfl
theorem ne97 : binV Try.prog .eql 97 (getF c) (.d .nilf) = some (.d (.bool false)) := by kernel_rfl
theorem z52 : zeroV Try.prog 52 = some (.agg [.d (.int .i64 0), .d (.int .i64 0), .d (.int .u64 0), .d .nilf]) := by kernel_rfl
theorem zf52 : fitsT Try.prog 52 (.agg [.d (.int .i64 0), .d (.int .i64 0), .d (.int .u64 0), .d .nilf]) = true := by kernel_rfl
theorem ft52 : fitsT Try.prog 52 (viewV B I M g) = true := by kernel_rfl
theorem bd52 : buildV Try.prog 52 [(0, .agg [.d (.int .i64 B), .d (.int .i64 I), .d (.int .u64 M)]), (1, .fn (.func 102) [] [.ref g 0 0])] = some (viewV B I M g) := by kernel_rfl
theorem sr52 : storeR Try.prog 52 0 (viewV B I M g) (.agg [.d (.int .i64 0), .d (.int .i64 0), .d (.int .u64 0), .d .nilf]) = some (viewV B I M g) := by kernel_rfl
theorem lr52 : loadR Try.prog 52 0 (some (viewV B I M g)) = some (viewV B I M g) := by kernel_rfl
theorem fr52_0 : fieldAddrV Try.prog 52 0 (.ref d x y) = some (.ref d x (y + 0)) := by kernel_rfl
theorem fr52_1 : fieldAddrV Try.prog 52 1 (.ref d x y) = some (.ref d x (y + 3)) := by kernel_rfl
theorem lr52_50 : loadR Try.prog 50 3 (some (viewV B I M g)) = some (.fn (.func 102) [] [.ref g 0 0]) := by kernel_rfl
theorem lr52_B : loadR Try.prog 3 0 (some (viewV B I M g)) = some (.d (.int .i64 B)) := by kernel_rfl
theorem lr52_I : loadR Try.prog 3 1 (some (viewV B I M g)) = some (.d (.int .i64 I)) := by kernel_rfl
theorem lr52_L : loadR Try.prog 24 0 (some (viewV B I M g)) = some (.agg [.d (.int .i64 B), .d (.int .i64 I), .d (.int .u64 M)]) := by kernel_rfl
theorem ne50 : binV Try.prog .neq 50 (.fn (.func 102) [] [.ref g 0 0]) (.d .nilf) = some (.d (.bool true)) := by kernel_rfl
theorem v1_52 : (viewV B I M g).one = true := rfl
theorem ft24v : fitsT Try.prog 24 (.agg [.d (.int .i64 B), .d (.int .i64 I), .d (.int .u64 M)]) = true := by kernel_rfl
theorem lr24v : loadR Try.prog 24 0 (some (.agg [.d (.int .i64 B), .d (.int .i64 I), .d (.int .u64 M)])) = some (.agg [.d (.int .i64 B), .d (.int .i64 I), .d (.int .u64 M)]) := by kernel_rfl
theorem fr103_0 : fieldAddrV Try.prog 103 0 (.ref d x y) = some (.ref d x (y + 0)) := by kernel_rfl
theorem lr103_0 {mk : Nat} {e : Int} : loadR Try.prog 48 0 (some (stoV c mk B I M e)) = some (.ref c 0 0) := by kernel_rfl
theorem mfOn : mfS (.func 102) S [] [.ref g 0 0] = some (.val (.fn (.func 102) [] [.ref g 0 0]) S 0) := mfS_one rfl
theorem mfGet : mfS (.func 66) S [.ref c 0 0] [] = some (.val (getF c) S 0) := mfS_one rfl
end
theorem cache_ok (S : Store) (x c mk : Nat) (B I M e : Int) (h : S[x]? = some (.row [stoV c mk B I M e] 103)) : EvS cfg 20 [.ref x 0 0] S (fun o S' => S' = S ∧ o = .ret (.ref c 0 0)) := by
  refine evS_of rfl body20 ?_
  show Wp cfg (Try.f20.body.getD .skip) ((.ref x 0 0) :: (.tup []) :: (.tup []) :: (.tup []) :: (.tup []) :: (.tup []) :: (.tup []) :: (.tup []) :: (.tup []) :: []) S [] _
  conv => arg 2; whnf
  rw [wk_of]
  have hr := rowE_of (e := 103) h
  simp (maxSteps := 1000000) (disch := first | assumption | omega | rfl) only [↓vmp, vme, vmb, ty, hP, dec_t, dec_f, wrap64, List.length_map, Int.toNat_natCast, Nat.reduceAdd, List.cons_append, List.nil_append, Option.map_some, Option.map_none, strOf_mk, sb_eql, sb_neq, vmg, ↓vgd, ↓vst, ↓vix, eq32f, fr103_0, hr, lr103_0]
  exact ⟨rfl, _, rfl, rfl, rfl⟩
theorem on_ok (S : Store) (c : Nat) (B I M : Int) : EvS cfg 65 [.agg [.d (.int .i64 B), .d (.int .i64 I), .d (.int .u64 M)], getF c] S (fun o S' => Keep S S' ∧ ∃ v, o = .ret v ∧ ViewAt S' v c B I M) := by
  refine evS_of rfl body65 ?_
  show Wp cfg (Try.f65.body.getD .skip) ((.agg [.d (.int .i64 B), .d (.int .i64 I), .d (.int .u64 M)]) :: (getF c) :: (.tup []) :: (.tup []) :: (.tup []) :: (.tup []) :: (.tup []) :: (.tup []) :: []) S [] _
  conv => arg 2; whnf
  rw [wk_of]
  generalize ha : S.length = a
  simp (maxSteps := 1000000) (disch := first | assumption | omega | rfl) only [↓vmp, vme, vmb, ty, hP, dec_t, dec_f, wrap64, List.length_map, Int.toNat_natCast, Nat.reduceAdd, List.cons_append, List.nil_append, Option.map_some, Option.map_none, strOf_mk, sb_eql, sb_neq, vmg, ↓vgd, ↓vst, ↓vix, ft24v, ft97, z52, zf52, List.append_assoc, List.length_append, List.length_cons, List.length_nil, ha, rA0 ha, rA1 ha, rA2 ha, pA2 ha, lr24v, wl_makeFunc, mfOn, bd52, sr52]
  refine ⟨rfl, viewV B I M (a + 1), ?_, Keep.refl.app, _, rfl, a + 1, rfl, ?_⟩
  · exact res_cell rfl ((loadV_row (rA2 ha)).trans lr52)
  · rw [List.getElem?_append_right (by omega), ha, Nat.add_sub_cancel_left]; rfl
theorem view_ok (S : Store) (x c mk : Nat) (B I M e : Int) (h : S[x]? = some (.row [stoV c mk B I M e] 103)) : EvS cfg 21 [.ref x 0 0] S (fun o S' => Keep S S' ∧ ∃ v, o = .ret v ∧ ViewAt S' v c B I M) := by
  refine evS_of rfl body21 ?_
  show Wp cfg (Try.f21.body.getD .skip) ((.ref x 0 0) :: (.tup []) :: (.tup []) :: (.tup []) :: (.tup []) :: (.tup []) :: (.tup []) :: (.tup []) :: (.tup []) :: []) S [] _
  conv => arg 2; whnf
  rw [wk_of]
  generalize ha : S.length = a
  have h1 : ∀ l, (S ++ l)[x]? = some (.row [stoV c mk B I M e] 103) := fun l => by rw [List.getElem?_append_left (getLen h)]; exact h
  have hl := fun {ops dst k T F Q} l => wr_callE (ops := ops) (dst := dst) (l := k) (T := T) (F := F) (Q := Q) rfl (lay_of (S ++ l) x c mk B I M e (h1 l))
  have hc := fun {ops dst k T F Q} l => wr_callE (ops := ops) (dst := dst) (l := k) (T := T) (F := F) (Q := Q) rfl (cache_ok (S ++ l) x c mk B I M e (h1 l))
  obtain ⟨o, S2, ⟨hK, v, rfl, hv⟩, hon⟩ := evS_split rfl (on_ok (S ++ [.row [.agg [.d (.int .i64 0), .d (.int .i64 0), .d (.int .u64 0), .d .nilf]] 52, .row [.agg [.d (.int .i64 B), .d (.int .i64 I), .d (.int .u64 M)]] 24]) c B I M)
  have hon := fun {ops dst k T F Q} => hon _ rfl (ops := ops) (dst := dst) (k := k) (T := T) (F := F) (Q := Q)
  obtain ⟨g, rfl, hg⟩ := hv
  have h52 := hK a (.row [.agg [.d (.int .i64 0), .d (.int .i64 0), .d (.int .u64 0), .d .nilf]] 52) (by rw [List.getElem?_append_right (by omega), ha, Nat.sub_self]; rfl)
  have hr := rowE_of (e := 52) h52
  have hp := fun y => putRow_of (y := y) (e := 52) h52
  simp (maxSteps := 1000000) (disch := first | assumption | omega | rfl) only [↓vmp, vme, vmb, ty, hP, dec_t, dec_f, wrap64, List.length_map, Int.toNat_natCast, Nat.reduceAdd, List.cons_append, List.nil_append, Option.map_some, Option.map_none, strOf_mk, sb_eql, sb_neq, vmg, ↓vgd, ↓vst, ↓vix, z52, zf52, List.append_assoc, List.length_append, List.length_cons, List.length_nil, ha, hl, hc, bo17, bo20, wl_makeFunc, mfGet, hon, bo65, hr, hp, sr52]
  have hKS : Keep S (S2.set a (.row [viewV B I M g] 52)) := (Keep.refl.app.trans hK).set (by omega)
  refine ⟨rfl, viewV B I M g, ?_, hKS, _, rfl, g, rfl, ?_⟩
  · exact res_cell rfl ((loadV_row (rowE_of (e := 52) (List.getElem?_set_self (getLen h52)))).trans lr52)
  · rw [List.getElem?_set_ne]
    · exact hg
    · rintro rfl
      cases getE h52 hg
end Go.Proofs.Ytobgdmgldagjkaa
end
/-! view.Block: what a view tells of a block. -/
section
set_option linter.unusedVariables false
set_option linter.unusedSimpArgs false
set_option maxRecDepth 100000
set_option maxHeartbeats 4000000
namespace Go.Proofs.Ytobgdmgldagjkaa
open Go.Vm
theorem ev_nilf {T : List V} : evalO T (.const .nilFunc) = .d .nilf := rfl
theorem calm42 {a r : Nat} (h : a ≠ r) : (!caT.contains 42 && ((42 : Nat) != 42 || a != r)) = true := by simp [h]
theorem cvGet {c : Nat} {n : Int} : cvV Try.prog [.d (.int .i64 n)] (getF c) = some (.enter 66 [.ref c 0 0, .d (.int .i64 n)]) := cv_fn rfl bo66
theorem cvOn {g : Nat} {n : Int} : cvV Try.prog [.d (.int .i64 n)] (.fn (.func 102) [] [.ref g 0 0]) = some (.enter 102 [.d (.int .i64 n), .ref g 0 0]) := cv_fn rfl bo102
theorem SeeR.mono {B c r m : Nat} {C : CS} {S S1 : Store} {P P' : V → Prop} (hk : FrC m r S1 S) (h : ∀ v, P v → P' v) {o : Out} {S' : Store} (hs : SeeR B c r m C S P o S') : SeeR B c r m C S1 P' o S' := by
  obtain ⟨h1, h2, v, h3, h4⟩ := hs
  exact ⟨hk.trans h1, h2, v, h3, h v h4⟩
theorem CacheAt.rn {S : Store} {c r m : Nat} {C : CS} (h : CacheAt S c r m C) : r < S.length := by
  obtain ⟨d, L, es, vs, f, z, w, q, h, _⟩ := h
  exact getLen h.dk.hr
theorem CacheAt.ok {S : Store} {c r m : Nat} {C : CS} (h : CacheAt S c r m C) : C.Ok := by
  obtain ⟨d, L, es, vs, f, z, w, q, h, _⟩ := h
  exact h.ok
theorem CacheIn.rn {S : Store} {B c r m : Nat} {C : CS} (h : CacheIn S B c r m C) : r < B := by
  obtain ⟨_, d, L, es, vs, f, z, w, q, h, _⟩ := h
  exact lt_take h.dk.hr
theorem on1_ok (S : Store) (B c r m g : Nat) (C : CS) (h0 : CacheIn S B c r m C) (hg : S[g]? = some (.row [getF c] 97)) (no : Nat) (hn : no < C.img.length) : EvS cfg 102 [.d (.int .i64 (no : Int)), .ref g 0 0] S (SeeR B c r m C S fun v => IsB v (C.see no)) := by
  refine evS_of rfl body102 ?_
  show Wp cfg (Try.f102.body.getD .skip) ((.d (.int .i64 (no : Int))) :: (.ref g 0 0) :: (.tup []) :: (.tup []) :: (.tup []) :: (.tup []) :: (.tup []) :: (.tup []) :: (.tup []) :: (.tup []) :: (.tup []) :: (.tup []) :: (.tup []) :: (.tup []) :: (.tup []) :: (.tup []) :: (.tup []) :: (.tup []) :: (.tup []) :: []) S [] _
  conv => arg 2; whnf
  rw [wk_of]
  generalize ha : S.length = a
  have hr := h0.rn
  have hB := h0.1
  obtain ⟨o, S1, ⟨hF, hC, _, rfl, u, rfl, hu⟩, hkn⟩ := evS_split rfl (cget_ok (S ++ [.row [blkV (zeros 256)] 42]) B c r m C h0.app no hn)
  have hkn := fun {ops dst k T F Q} => hkn _ rfl (ops := ops) (dst := dst) (k := k) (T := T) (F := F) (Q := Q)
  have hg1 := rowE_of (e := 97) (id := g) (S := S ++ [.row [blkV (zeros 256)] 42]) (by rw [List.getElem?_append_left (getLen hg)]; exact hg)
  have hsl := hC.at.ok.see_len hn
  have hst := bt42.store hu hsl (w := blkV (zeros 256)) isB_v z256
  have hld := bt42.load hu hsl
  have hu1 := hu.one
  have h4 : S1[a]? = some (.row [blkV (zeros 256)] 42) := hF.row (by subst ha; simp) (calm42 (by omega))
  have h4' : ∀ l, (S1 ++ l)[a]? = some (.row [blkV (zeros 256)] 42) := fun l => by rw [List.getElem?_append_left (getLen h4)]; exact h4
  have hr4 := fun l => rowE_of (e := 42) (h4' l)
  have hp4 := fun l y => putRow_of (y := y) (e := 42) (h4' l)
  generalize ha1 : S1.length = a1
  have hal := getLen h4
  simp (maxSteps := 1000000) (disch := first | assumption | omega | rfl) only [↓vmp, vme, vmb, ty, hP, dec_t, dec_f, wrap64, List.length_map, Int.toNat_natCast, Nat.reduceAdd, List.cons_append, List.nil_append, Option.map_some, Option.map_none, strOf_mk, sb_eql, sb_neq, vmg, ↓vgd, ↓vst, ↓vix, ↓wl_callv, z42, zf42, ha, rA0 ha, hg1, lr97, ev_nilf, ne97, cvGet, hkn, ha1, rA0 ha1, pA0 ha1, hst, hld, hu1, hr4, hp4]
  have hset : List.set (S1 ++ [Ob.row [u] 42]) a (.row [u] 42) = S1.set a (.row [u] 42) ++ [.row [u] 42] := List.set_append_left _ _ hal
  rw [hset]
  refine ⟨rfl, u, ?_, ?_, (hC.setn (by omega)).app, _, rfl, hu⟩
  · refine res_cell rfl ((loadV_row (rowE_of (e := 42) ?_)).trans hld)
    rw [List.getElem?_append_left (by rw [List.length_set]; exact hal), List.getElem?_set_self hal]
  · exact (((Frm.refl.app).trans hF).setn (by omega)).app
theorem there_of (S : Store) (v : V) (c : Nat) (B I M : Int) (hv : ViewAt S v c B I M) (no : Nat) (hn : (no : Int) < B) : EvS cfg 85 [v, .d (.int .i64 (no : Int))] S (fun o S' => S' = S ++ [.row [v] 52] ∧ o = .ret (.d (.bool true))) := by
  obtain ⟨g, rfl, hg⟩ := hv
  refine evS_of rfl body85 ?_
  show Wp cfg (Try.f85.body.getD .skip) ((viewV B I M g) :: (.d (.int .i64 (no : Int))) :: (.tup []) :: (.tup []) :: (.tup []) :: (.tup []) :: (.tup []) :: (.tup []) :: (.tup []) :: (.tup []) :: (.tup []) :: (.tup []) :: (.tup []) :: (.tup []) :: (.tup []) :: (.tup []) :: (.tup []) :: (.tup []) :: (.tup []) :: []) S [] _
  conv => arg 2; whnf
  rw [wk_of]
  generalize ha : S.length = a
  have c1 : (no : Int) ≥ 0 := by omega
  simp (maxSteps := 1000000) (disch := first | assumption | omega | rfl) only [↓vmp, vme, vmb, ty, hP, dec_t, dec_f, wrap64, List.length_map, Int.toNat_natCast, Nat.reduceAdd, List.cons_append, List.nil_append, Option.map_some, Option.map_none, strOf_mk, sb_eql, sb_neq, vmg, ↓vgd, ↓vst, ↓vix, ft52, ha, rA0 ha, fr52_0, fr52_1, fr24_0, lr52_50, lr52_B, ev_nilf, ne50, dec_True]
  exact ⟨rfl, _, rfl, rfl, rfl⟩
theorem block_ok (S : Store) (v : V) (A c r m : Nat) (B I M : Int) (C : CS) (h0 : CacheIn S A c r m C) (hv : ViewAt S v c B I M) (hB : B = C.img.length) (no : Nat) (hn : no < C.img.length) : EvS cfg 47 [v, .d (.int .i64 (no : Int))] S (SeeR A c r m C S fun v => IsB v (C.see no)) := by
  have hv0 := hv
  obtain ⟨g, rfl, hg⟩ := hv
  refine evS_of rfl body47 ?_
  show Wp cfg (Try.f47.body.getD .skip) ((viewV B I M g) :: (.d (.int .i64 (no : Int))) :: (.tup []) :: (.tup []) :: (.tup []) :: (.tup []) :: (.tup []) :: (.tup []) :: (.tup []) :: (.tup []) :: (.tup []) :: (.tup []) :: (.tup []) :: (.tup []) :: []) S [] _
  conv => arg 2; whnf
  rw [wk_of]
  generalize ha : S.length = a
  have hr := h0.rn
  have hA := h0.1
  have ht := fun {ops dst k T F Q} => wr_callE (ops := ops) (dst := dst) (l := k) (T := T) (F := F) (Q := Q) rfl (there_of (S ++ [.row [viewV B I M g] 52, .row [blkV (zeros 256)] 42]) _ c B I M (hv0.keep Keep.refl.app) no (by omega))
  obtain ⟨o, S1, ⟨hF, hC, u, rfl, hu⟩, hkn⟩ := evS_split rfl (on1_ok (S ++ [.row [viewV B I M g] 52, .row [blkV (zeros 256)] 42, .row [viewV B I M g] 52]) A c r m g C h0.app (by rw [List.getElem?_append_left (getLen hg)]; exact hg) no hn)
  have hkn := fun {ops dst k T F Q} => hkn _ rfl (ops := ops) (dst := dst) (k := k) (T := T) (F := F) (Q := Q)
  have hsl := hC.at.ok.see_len hn
  have hst := bt42.store hu hsl (w := blkV (zeros 256)) isB_v z256
  have hld := bt42.load hu hsl
  have hu1 := hu.one
  have h4 : S1[a + 1]? = some (.row [blkV (zeros 256)] 42) := hF.row (by rw [List.getElem?_append_right (by omega), ha, Nat.add_sub_cancel_left]; rfl) (calm42 (by omega))
  have hr4 := rowE_of (e := 42) h4
  have hp4 := fun y => putRow_of (y := y) (e := 42) h4
  have hal := getLen h4
  simp (maxSteps := 1000000) (disch := first | assumption | omega | rfl) only [↓vmp, vme, vmb, ty, hP, dec_t, dec_f, wrap64, List.length_map, Int.toNat_natCast, Nat.reduceAdd, List.cons_append, List.nil_append, Option.map_some, Option.map_none, strOf_mk, sb_eql, sb_neq, vmg, ↓vgd, ↓vst, ↓vix, ↓wl_callv, List.append_assoc, List.length_append, List.length_cons, List.length_nil, ft52, z42, zf42, ha, rA0 ha, lr52, v1_52, ht, bo85, un_not, Bool.not_true, fr52_1, lr52_50, cvOn, hkn, hst, hld, hu1, hr4, hp4]
  refine ⟨rfl, u, ?_, ?_, hC.setn (by omega), _, rfl, hu⟩
  · exact res_cell rfl ((loadV_row (rowE_of (e := 42) (List.getElem?_set_self hal))).trans hld)
  · exact ((Frm.refl.app).trans hF).setn (by omega)
end Go.Proofs.Ytobgdmgldagjkaa
end
/-! view.Inode: an inode as a view tells it. -/
section
set_option linter.unusedVariables false
set_option linter.unusedSimpArgs false
set_option maxRecDepth 100000
set_option maxHeartbeats 4000000
namespace Go.Proofs.Ytobgdmgldagjkaa
open Go.Vm
/-- An inode. -/
structure Ino where
  kind : Int
  links : Int
  size : Int
  parent : Int
  d0 : Int
  d1 : Int
  d2 : Int
  d3 : Int
  d4 : Int
  d5 : Int
  ind : Int
  deriving DecidableEq
def encIno (i : Ino) : D := .agg [.int .i64 i.kind, .int .i64 i.links, .int .i64 i.size, .int .i64 i.parent, .int .i64 i.d0, .int .i64 i.d1, .int .i64 i.d2, .int .i64 i.d3, .int .i64 i.d4, .int .i64 i.d5, .int .i64 i.ind]
theorem encIno_of {a b c : Int} : inoD a b c = encIno ⟨a, b, 0, c, 0, 0, 0, 0, 0, 0, 0⟩ := rfl
abbrev z61V : V := .agg [.d (.int .i64 0), .d (.int .i64 0), .d (.int .i64 0), .d (.int .i64 0), .d (.int .i64 0), .d (.int .i64 0), .d (.int .i64 0), .d (.int .i64 0), .d (.int .i64 0), .d (.int .i64 0), .d (.int .i64 0)]
theorem srI {i : Ino} : storeR Try.prog 61 0 (.d (encIno i)) z61V = some (.d (encIno i)) := by kernel_rfl
theorem lrI {i : Ino} : loadR Try.prog 61 0 (some (.d (encIno i))) = some (.d (encIno i)) := by kernel_rfl
theorem ftI {i : Ino} : fitsT Try.prog 61 (.d (encIno i)) = true := by kernel_rfl
theorem fdI {i : Ino} : fieldV Try.prog 61 0 (.d (encIno i)) = some (.d (.int .i64 i.kind)) := by kernel_rfl
theorem tgetX_ok (b : List UInt8) (hb : b.length = 256) (k0 : Nat) (hk0 : k0 < 8) (i : Ino) (bb : Bool) (h : Ev cfg 114 [blkD (slotB b k0)] (.ret (.tup [.d (encIno i), .d (.bool bb)]))) : Ev cfg 84 [blkD b, .int .i64 (k0 : Int)] (.ret (.tup [.d (encIno i), .d (.bool bb)])) := by
  refine ev_of rfl rfl body84 ?_
  show Wp cfg (Try.f84.body.getD .skip) ((.d (blkD b)) :: (.d (.int .i64 (k0 : Int))) :: (.tup []) :: (.tup []) :: (.tup []) :: (.tup []) :: (.tup []) :: (.tup []) :: (.tup []) :: (.tup []) :: (.tup []) :: (.tup []) :: (.tup []) :: (.tup []) :: (.tup []) :: (.tup []) :: (.tup []) :: (.tup []) :: (.tup []) :: []) [] [] _
  conv => arg 2; whnf
  have hf := fd42 hb
  have c1 : ¬ (k0 : Int) < 0 := by omega
  have c2 : ¬ (k0 : Int) ≥ 8 := by omega
  have h1 : ∀ {ops dst k T S F Q}, WpR cfg ops dst k T S F Q (some (.enter 115 [.d (blkD b), .d (.int .i64 (k0 : Int))])) = WpL cfg ops k (putT T dst (.d (blkD (slotB b k0)))) S F Q := fun {ops dst k T S F Q} => wr_call_d (C := cfg) (ds := [blkD b, .int .i64 (k0 : Int)]) rfl (raw_ok b hb k0 hk0)
  have h2 : ∀ {ops dst k T S F Q}, WpR cfg ops dst k T S F Q (some (.enter 114 [.d (blkD (slotB b k0))])) = WpL cfg ops k (putT T dst (.tup [.d (encIno i), .d (.bool bb)])) S F Q := fun {ops dst k T S F Q} => wr_call_d (C := cfg) (ds := [blkD (slotB b k0)]) rfl h
  simp (maxSteps := 1000000) (disch := first | assumption | omega | rfl) only [↓vmp, vme, vmb, ty, hP, dec_t, dec_f, wrap64, List.length_map, Int.toNat_natCast, Nat.reduceAdd, List.cons_append, List.nil_append, Option.map_some, Option.map_none, strOf_mk, sb_eql, sb_neq, vmg, ↓vgd, ↓vst, ↓vix, hf, z61, zf61, ldd42, h1, bo115, h2, bo114, srI]
  exact retQ_ct rfl rfl ((loadV_row rfl).trans lrI) rfl rfl rfl rfl
abbrev layV (l : Lay) : V := .agg [.d (.int .i64 l.blocks), .d (.int .i64 l.inodes), .d (.int .u64 l.merge)]
theorem lay_frz {l : Lay} {S : Store} : Go.Vm.frz S frzFuel (layV l) = some (encLay l) := rfl
section
variable {ops : Array Oper} {dst : Option Tmp} {k : List Oper} {T : List V} {S : Store} {F : Dfs} {Q : Post}
theorem call_where {l : Lay} (hb : InB l.blocks) (hi : InB l.inodes) (hm : MayL l) {ino : Nat} (h1 : 1 ≤ ino) (h2 : (ino : Int) ≤ l.inodes) : WpR cfg ops dst k T S F Q (some (.enter 70 [layV l, .d (.int .i64 (ino : Int))])) = WpL cfg ops k (putT T dst (.tup [.d (.int .i64 ((2 + (ino - 1) / 8 : Nat) : Int)), .d (.int .i64 (((ino - 1) % 8 : Nat) : Int)), .d (.bool true)])) S F Q :=
  wr_pl (ds := [encLay l, .int .i64 (ino : Int)]) rfl rfl rfl (Where_ok l hb hi hm ino h1 h2)
theorem call_tget {u : V} {b : List UInt8} (hu : IsB u b) (hb : b.length = 256) {k0 : Nat} (hk0 : k0 < 8) {i : Ino} {bb : Bool} (h : Ev cfg 114 [blkD (slotB b k0)] (.ret (.tup [.d (encIno i), .d (.bool bb)]))) : WpR cfg ops dst k T S F Q (some (.enter 84 [u, .d (.int .i64 (k0 : Int))])) = WpL cfg ops k (putT T dst (.tup [.d (encIno i), .d (.bool bb)])) S F Q :=
  wr_pl (ds := [blkD b, .int .i64 (k0 : Int)]) rfl (by simp only [allO, hu.frz (n := 10), frzFuel]; rfl) rfl (tgetX_ok b hb k0 hk0 i bb h)
end
theorem vinode_ok (S : Store) (v : V) (B c r m : Nat) (l : Lay) (C : CS) (h0 : CacheIn S B c r m C) (hv : ViewAt S v c l.blocks l.inodes l.merge) (hB : l.blocks = C.img.length) (hb : InB l.blocks) (hi : InB l.inodes) (hm : MayL l) (ino : Nat) (h1 : 1 ≤ ino) (h2 : (ino : Int) ≤ l.inodes) (i : Ino) (bb : Bool) (hcl : Ev cfg 114 [blkD (slotB (C.see (2 + (ino - 1) / 8)) ((ino - 1) % 8))] (.ret (.tup [.d (encIno i), .d (.bool bb)]))) : EvS cfg 42 [v, .d (.int .i64 (ino : Int))] S (SeeR B c r m C S fun v => v = .d (encIno i)) := by
  have hv0 := hv
  obtain ⟨g, rfl, hg⟩ := hv
  refine evS_of rfl body42 ?_
  show Wp cfg (Try.f42.body.getD .skip) ((viewV l.blocks l.inodes l.merge g) :: (.d (.int .i64 (ino : Int))) :: (.tup []) :: (.tup []) :: (.tup []) :: (.tup []) :: (.tup []) :: (.tup []) :: (.tup []) :: (.tup []) :: (.tup []) :: (.tup []) :: (.tup []) :: (.tup []) :: (.tup []) :: (.tup []) :: (.tup []) :: (.tup []) :: (.tup []) :: (.tup []) :: (.tup []) :: (.tup []) :: (.tup []) :: (.tup []) :: (.tup []) :: (.tup []) :: (.tup []) :: (.tup []) :: (.tup []) :: (.tup []) :: []) S [] _
  conv => arg 2; whnf
  rw [wk_of]
  generalize ha : S.length = a
  have hr := h0.rn
  have hA := h0.1
  have hno : 2 + (ino - 1) / 8 < C.img.length := by
    have h3 := hm.2.2.2.2.2
    have h4 : l.inodes.tdiv 8 = l.inodes / 8 := Int.tdiv_eq_ediv_of_nonneg (by omega)
    have h5 := hm.2.2.2.2.1
    have h6 : l.inodes.tmod 8 = l.inodes % 8 := Int.tmod_eq_emod_of_nonneg (by omega)
    omega
  obtain ⟨o, S1, ⟨hF, hC, u, rfl, hu⟩, hkn⟩ := evS_split rfl (block_ok (S ++ [.row [viewV l.blocks l.inodes l.merge g] 52, .row [z61V] 61]) _ B c r m _ _ _ C h0.app (hv0.keep Keep.refl.app) hB _ hno)
  have hkn := fun {ops dst k T F Q} => hkn _ rfl (ops := ops) (dst := dst) (k := k) (T := T) (F := F) (Q := Q)
  have hsl := hC.at.ok.see_len hno
  have hw := fun {ops dst k T S F Q} => call_where (ops := ops) (dst := dst) (k := k) (T := T) (S := S) (F := F) (Q := Q) hb hi hm h1 h2
  have ht := fun {ops dst k T S F Q} => call_tget (ops := ops) (dst := dst) (k := k) (T := T) (S := S) (F := F) (Q := Q) hu hsl (Nat.mod_lt _ (by decide)) hcl
  have hu1 := hu.one
  have h4 : S1[a + 1]? = some (.row [z61V] 61) := hF.row (by rw [List.getElem?_append_right (by omega), ha, Nat.add_sub_cancel_left]; rfl) rfl
  have h4' : ∀ l, (S1 ++ l)[a + 1]? = some (.row [z61V] 61) := fun l => by rw [List.getElem?_append_left (getLen h4)]; exact h4
  have hr4 := fun l => rowE_of (e := 61) (h4' l)
  have hp4 := fun l y => putRow_of (y := y) (e := 61) (h4' l)
  have hal := getLen h4
  generalize ha1 : S1.length = a1
  simp (maxSteps := 1000000) (disch := first | assumption | omega | rfl) only [↓vmp, vme, vmb, ty, hP, dec_t, dec_f, wrap64, List.length_map, Int.toNat_natCast, Nat.reduceAdd, List.cons_append, List.nil_append, Option.map_some, Option.map_none, strOf_mk, sb_eql, sb_neq, vmg, ↓vgd, ↓vst, ↓vix, List.append_assoc, List.length_append, List.length_cons, List.length_nil, ft52, z61, zf61, ha, rA0 ha, lr52, v1_52, fr52_0, lr52_L, hw, bo70, un_not, Bool.not_true, hkn, bo47, hu1, ht, bo84, ha1, rA0 ha1, pA0 ha1, srI, lrI, hr4, hp4]
  have hset : List.set (S1 ++ [Ob.row [.d (encIno i)] 61]) (a + 1) (.row [.d (encIno i)] 61) = S1.set (a + 1) (.row [.d (encIno i)] 61) ++ [.row [.d (encIno i)] 61] := List.set_append_left _ _ hal
  rw [hset]
  refine ⟨rfl, .d (encIno i), ?_, ?_, (hC.setn (by omega)).app, _, rfl, rfl⟩
  · refine res_cell rfl ((loadV_row (rowE_of (e := 61) ?_)).trans lrI)
    rw [List.getElem?_append_left (by rw [List.length_set]; exact hal), List.getElem?_set_self hal]
  · exact (((Frm.refl.app).trans hF).setn (by omega)).app
end Go.Proofs.Ytobgdmgldagjkaa
end
/-! cache.Put: a change is made. -/
section
set_option linter.unusedVariables false
set_option linter.unusedSimpArgs false
set_option maxRecDepth 100000
set_option maxHeartbeats 4000000
namespace Go.Proofs.Ytobgdmgldagjkaa
open Go.Vm
/-- A patch, whatever its form. -/
def PatV (S : Store) (p dv : V) (a : Int) (b : List UInt8) : Prop := (p = .agg [.d (.int .i64 a), dv] ∧ (OwnS S dv 5 (bysV b) ∨ dv = .d (encB b) ∨ dv = .ts (b.map byD))) ∨ (p = .d (patD a b) ∧ dv = .d (encB b))
section
variable {S S' : Store} {p dv : V} {a : Int} {b : List UInt8}
theorem PatV.frm {ts ms : List Nat} {r : Nat} (h : PatV S p dv a b) (hk : Frm ts ms 42 r S S') (h5 : (!ts.contains 5) = true) : PatV S' p dv a b := by
  rcases h with ⟨h1, h2 | h2⟩ | h
  · exact .inl ⟨h1, .inl (hk.own h2 (by rw [h5]; rfl))⟩
  · exact .inl ⟨h1, .inr h2⟩
  · exact .inr h
theorem PatV.dv1 (h : PatV S p dv a b) : dv.one = true ∧ dv.isAgg = false ∧ dv.cells = [dv] := by
  rcases h with ⟨h1, (⟨rfl, _⟩ | ⟨id, rfl, _⟩) | rfl | rfl⟩ | ⟨rfl, rfl⟩
  all_goals exact ⟨rfl, rfl, rfl⟩
theorem PatV.one (h : PatV S p dv a b) : p.one = true := by
  rcases h with ⟨rfl, _⟩ | ⟨rfl, rfl⟩ <;> rfl
theorem PatV.ft (h : PatV S p dv a b) : fitsT Try.prog 56 p = true := by
  rcases h with ⟨rfl, _⟩ | ⟨rfl, rfl⟩ <;> kernel_rfl
theorem PatV.l0 (h : PatV S p dv a b) : loadR Try.prog 56 0 (some p) = some p := by
  rcases h with ⟨rfl, _⟩ | ⟨rfl, rfl⟩ <;> kernel_rfl
theorem PatV.l1 (h : PatV S p dv a b) : loadR Try.prog 40 1 (some p) = some dv := by
  rcases h with ⟨rfl, _⟩ | ⟨rfl, rfl⟩ <;> kernel_rfl
theorem PatV.s1 (h : PatV S p dv a b) {id n : Nat} : storeR Try.prog 40 1 (.rs id 0 n) p = some (.agg [.d (.int .i64 a), .rs id 0 n]) := by
  rcases h with ⟨rfl, _⟩ | ⟨rfl, rfl⟩ <;> kernel_rfl
theorem PatV.fz (h : PatV S p dv a b) : Go.Vm.frz S frzFuel p = some (patD a b) := by
  rcases h with ⟨rfl, h2⟩ | ⟨rfl, rfl⟩
  · have h0 : Go.Vm.frz S 11 (.d (.int .i64 a)) = some (.int .i64 a) := rfl
    have hf : Go.Vm.frz S 11 dv = some (encB b) := by
      rcases h2 with h2 | rfl | rfl
      · have hd' : OwnS S dv 5 ((b.map byD).map .d) := by rw [List.map_map]; exact h2
        exact own_frzn (n := 9) hd'
      · rfl
      · rfl
    show (match allO (Go.Vm.frz S 11) [.d (.int .i64 a), dv] with | some ds => if ds.any D.isAgg then none else some (D.agg ds) | none => none) = _
    simp only [allO, h0, hf]
    rfl
  · rfl
theorem app_bys {dv : V} (hel : elemsV S dv = some (bysV b)) (hs : ∀ s, dv ≠ .d (.str s)) (h0 : b ≠ []) (hl : b.length ≤ 100000) : appendV Try.prog S 40 40 (.ts []) dv = some (.rs S.length 0 b.length, S ++ [rowY b], 2) := by
  have hall : (bysV b).all (fitsT Try.prog 5) = true := by
    rw [List.all_eq_true]
    intro y hy
    obtain ⟨z, hz, rfl⟩ := List.mem_map.1 hy
    exact fitsT5 _
  have h5 : (sz Try.prog 5).isSome = true := by kernel_rfl
  have src : srcV Try.prog S 5 40 dv = some (bysV b) := by
    cases dv with
    | d x => cases x with
      | str s => exact absurd rfl (hs s)
      | _ => simp only [srcV, Try.underlying40, hel, hall, h5, Bool.and_self, if_true]
    | _ => simp only [srcV, Try.underlying40, hel, hall, h5, Bool.and_self, if_true]
  cases b with
  | nil => exact absurd rfl h0
  | cons x r =>
    have hr : room Try.prog 5 (r.length + 1) = true := room40 (by simp at hl; omega)
    unfold bysV at src
    rw [List.map_cons] at src
    simp only [appendV, Try.underlying40, src, zOk40, if_true, List.all_nil, List.length_nil, List.length_map, Nat.zero_add, hr, Bool.and_self, List.map_nil, List.nil_append]
    rfl
theorem PatV.app (h : PatV S p dv a b) (h0 : b ≠ []) (hl : b.length ≤ 100000) : appendV Try.prog S 40 40 (.ts []) dv = some (.rs S.length 0 b.length, S ++ [rowY b], 2) := by
  have he : elemsV S dv = some (bysV b) ∧ ∀ s, dv ≠ .d (.str s) := by
    rcases h with ⟨_, (⟨rfl, h2⟩ | ⟨id, rfl, h2⟩) | rfl | rfl⟩ | ⟨_, rfl⟩
    · have : b = [] := by simpa [bysV] using h2
      exact absurd this h0
    · refine ⟨?_, fun s hh => by cases hh⟩
      simp only [elemsV, h2, Nat.zero_add, Nat.le_refl, if_true, List.drop_zero, List.take_length]
    · refine ⟨?_, fun s hh => by cases hh⟩
      show some ((b.map fun x => D.int .u8 x.toNat).map V.d) = _
      rw [List.map_map]
      rfl
    · refine ⟨?_, fun s hh => by cases hh⟩
      show some ((b.map byD).map V.d) = _
      rw [List.map_map]
      rfl
    · refine ⟨?_, fun s hh => by cases hh⟩
      show some ((b.map fun x => D.int .u8 x.toNat).map V.d) = _
      rw [List.map_map]
      rfl
  exact app_bys he.1 he.2 h0 hl
end
theorem call_pcheck {ops : Array Oper} {dst : Option Tmp} {k : List Oper} {T : List V} {S : Store} {F : Dfs} {Q : Post} {p dv : V} {a : Int} {b : List UInt8} (h : PatV S p dv a b) (ha : InB a) : WpR cfg ops dst k T S F Q (some (.enter 104 [p])) = WpL cfg ops k (putT T dst (.d (.int .i64 (if PatOk a b then 0 else 2)))) S F Q :=
  wr_pl (ds := [patD a b]) rfl (by simp only [allO, h.fz]) rfl (Check_ok a b ha)
def CS.put (C : CS) (no a : Int) (b : List UInt8) (needs : List Int) : CS := ⟨C.img, C.list ++ [⟨C.last + 1, no, a, b, needs⟩], C.last + 1⟩
theorem CS.Ok.put {C : CS} (h : C.Ok) {no : Nat} {a : Int} {b : List UInt8} {needs : List Int} (hn : no < C.img.length) (hp : PatOk a b) (hl : C.last < 100000) (h1 : needs.Pairwise (· < ·)) (h2 : ∀ x ∈ needs, 1 ≤ x ∧ x ≤ C.last) : (C.put no a b needs).Ok := by
  refine ⟨h.n, h.len, ?_, ?_, hl⟩
  · intro ch hch
    rcases List.mem_append.1 hch with hch | hch
    · obtain ⟨g1, g2, g3, g4, g5, g6⟩ := h.chs ch hch
      refine ⟨g1, g2, g3, g4, ?_, g6⟩
      show ch.id ≤ ((C.last + 1 : Nat) : Int)
      omega
    · simp only [List.mem_singleton] at hch
      subst hch
      refine ⟨hp, by show (0 : Int) ≤ (no : Int); omega, by show (no : Int) < (C.img.length : Int); omega, by show (1 : Int) ≤ (C.last : Int) + 1; omega, by show (C.last : Int) + 1 ≤ ((C.last + 1 : Nat) : Int); omega, h1, fun x hx => ?_⟩
      have := h2 x hx
      exact ⟨this.1, by show x < (C.last : Int) + 1; omega⟩
  · show (C.list ++ [_]).Pairwise _
    rw [List.pairwise_append]
    refine ⟨h.ids, List.pairwise_singleton _ _, ?_⟩
    intro x hx y hy
    simp only [List.mem_singleton] at hy
    subst hy
    have := (h.chs x hx).2.2.2.2.1
    show x.id < (C.last : Int) + 1
    omega
def NdR (c r m : Nat) (C : CS) (needs : List Int) (S : Store) (o : Out) (S' : Store) : Prop := FrC m r S S' ∧ CacheAt S' c r m C ∧ ∃ nv, o = .ret (.tup [nv, .d (.bool true)]) ∧ OwnS S' nv 3 (intsV needs)
theorem lr56_v {a : Int} {id n : Nat} : loadR Try.prog 56 0 (some (.agg [.d (.int .i64 a), .rs id 0 n])) = some (.agg [.d (.int .i64 a), .rs id 0 n]) := by kernel_rfl
theorem room119 {m : Nat} (h : m ≤ 1000000) : room Try.prog 122 m = true := room_of rfl (by decide +kernel) h
theorem zOk119 : zOk Try.prog 122 = true := by kernel_rfl
section
variable {d m x y n id : Nat} {L dv nv : V} {last last' a b c e : Int}
theorem sc3 : storeR Try.prog 3 3 (.d (.int .i64 last')) (cacV d m L last) = some (cacV d m L last') := by kernel_rfl
theorem sc2 : storeR Try.prog 119 2 (.rs id 0 n) (cacV d m L last) = some (cacV d m (.rs id 0 n) last) := by kernel_rfl
theorem bd122 (hn : nv = .ts [] ∨ ∃ i k, nv = .rs i 0 k) : buildV Try.prog 122 [(0, .d (.int .i64 a)), (1, .d (.int .i64 b)), (2, .agg [.d (.int .i64 c), .rs id 0 n]), (3, nv)] = some (.agg [.d (.int .i64 a), .d (.int .i64 b), .d (.int .i64 c), .rs id 0 n, nv]) := by
  rcases hn with rfl | ⟨i, k, rfl⟩ <;> kernel_rfl
theorem bs119 {S : Store} (hn : nv = .ts [] ∨ ∃ i k, nv = .rs i 0 k) : bs1 Try.prog S 119 (.agg [.d (.int .i64 a), .d (.int .i64 b), .d (.int .i64 c), .rs id 0 n, nv]) = some (.val (.rs S.length 0 1) (S ++ [.row [.agg [.d (.int .i64 a), .d (.int .i64 b), .d (.int .i64 c), .rs id 0 n, nv]] 122]) 2) := by
  have hk : sz Try.prog 122 = some 5 := by kernel_rfl
  have hf : fitsT Try.prog 122 (.agg [.d (.int .i64 a), .d (.int .i64 b), .d (.int .i64 c), .rs id 0 n, nv]) = true := by kernel_rfl
  simp only [bs1, u119, z122, hk, zf122, hf]
  rcases hn with rfl | ⟨i, k, rfl⟩ <;> rfl
theorem f122 : fitsT Try.prog 122 (.agg [.d (.int .i64 a), .d (.int .i64 b), .d (.int .i64 c), .rs id 0 n, nv]) = true := by kernel_rfl
end
theorem own_form {S : Store} {v : V} {e : TypeId} {xs : List V} (h : OwnS S v e xs) : v = .ts [] ∨ ∃ i k, v = .rs i 0 k := by
  rcases h with ⟨rfl, _⟩ | ⟨id, rfl, _⟩
  · exact .inl rfl
  · exact .inr ⟨_, _, rfl⟩
theorem CacheP.put {S S6 : Store} {c d r m al no : Nat} {L L' dv nv p : V} {es vs : List V} {f : Int → Option V} {z : Int} {w q : Nat} {C : CS} {a : Int} {b : List UInt8} {needs : List Int} (h : CacheP S c d r m L es vs f z w q C) (ha : S[al]? = some (.row [p] 56)) (hK : ∀ j o, S[j]? = some o → j ≠ c → j ≠ al → (∀ xs, o ≠ .row xs 122) → S6[j]? = some o) (hc : S6[c]? = some (.row [cacV d m L' ((C.last : Int) + 1)] 150)) (hL : OwnS S6 L' 122 (es ++ [.agg [.d (.int .i64 ((C.last : Int) + 1)), .d (.int .i64 (no : Int)), .d (.int .i64 a), dv, nv]])) (hdv : OwnS S6 dv 5 (bysV b)) (hnv : OwnS S6 nv 3 (intsV needs)) (hok : (C.put no a b needs).Ok) :
    CacheP S6 c d r m L' (es ++ [.agg [.d (.int .i64 ((C.last : Int) + 1)), .d (.int .i64 (no : Int)), .d (.int .i64 a), dv, nv]]) vs f z w q (C.put no a b needs) := by
  obtain ⟨l, k, h1, h2⟩ := h.hm
  have kp : ∀ {j : Nat} {o : Ob}, S[j]? = some o → (∀ xs, o ≠ .row xs 150) → (∀ xs, o ≠ .row xs 56) → (∀ xs, o ≠ .row xs 122) → S6[j]? = some o := fun hj n1 n2 n3 => hK _ _ hj (by rintro rfl; exact n1 _ (getE hj h.hc)) (by rintro rfl; exact n2 _ (getE hj ha)) n3
  have own : ∀ {u : V} {t : TypeId} {ys : List V}, t ≠ 150 → t ≠ 56 → t ≠ 122 → OwnS S u t ys → OwnS S6 u t ys := fun n1 n2 n3 ho => by
    rcases ho with ho | ⟨id, x, y⟩
    · exact .inl ho
    · exact .inr ⟨id, x, kp y (fun _ hh => by cases hh; exact n1 rfl) (fun _ hh => by cases hh; exact n2 rfl) (fun _ hh => by cases hh; exact n3 rfl)⟩
  have hcast : ((C.last + 1 : Nat) : Int) = (C.last : Int) + 1 := by omega
  refine ⟨?_, ⟨l, k, kp h1 (fun _ hh => by cases hh) (fun _ hh => by cases hh) (fun _ hh => by cases hh), h2⟩, ⟨kp h.dk.hd (fun _ hh => by cases hh) (fun _ hh => by cases hh) (fun _ hh => by cases hh), kp h.dk.hr (fun _ hh => by cases hh) (fun _ hh => by cases hh) (fun _ hh => by cases hh), h.dk.ne⟩, h.zb, h.il, h.im, h.kn, hL, ⟨?_, ?_⟩, ?_, hok⟩
  · show S6[c]? = some (.row [cacV d m L' ((C.last + 1 : Nat) : Int)] 150)
    rw [hcast]; exact hc
  · show (es ++ [_]).length = (C.list ++ [_]).length
    rw [List.length_append, List.length_append, h.lc.1]; rfl
  · intro i e ch he hch
    have hch : (C.list ++ [_])[i]? = some ch := hch
    rcases Nat.lt_or_ge i es.length with hi | hi
    · rw [List.getElem?_append_left hi] at he
      rw [List.getElem?_append_left (by rw [← h.lc.1]; exact hi)] at hch
      exact (h.lc.2 i e ch he hch).mono (fun _ _ => own (by decide) (by decide) (by decide)) (fun _ _ => own (by decide) (by decide) (by decide))
    · rw [List.getElem?_append_right hi] at he
      rw [List.getElem?_append_right (by rw [← h.lc.1]; exact hi), ← h.lc.1] at hch
      have hz : i - es.length = 0 := by
        have := (List.getElem?_eq_some_iff.1 he).1
        simp at this
        omega
      rw [hz] at he hch
      cases he
      cases hch
      exact ⟨dv, nv, rfl, hdv, hnv⟩
  · show w + (C.list ++ [_]).length ≤ C.last + 1 + 100
    have := h.wq
    rw [List.length_append, List.length_singleton]
    omega
theorem cput_ok (S : Store) (c r m : Nat) (C : CS) (h0 : CacheAt S c r m C) (no : Nat) (hn : no < C.img.length) (p dv : V) (a : Int) (b : List UInt8) (hp : PatV S p dv a b) (hpk : PatOk a b) (ha : InB a) (nd : V) (needs : List Int) (hneed : ∀ S1, CacheAt S1 c r m C → Keep S S1 → EvS cfg 105 [.ref c 0 0, nd] S1 (NdR c r m C needs S1)) (hd1 : nd.one = true) (h1 : needs.Pairwise (· < ·)) (h2 : ∀ x ∈ needs, 1 ≤ x ∧ x ≤ C.last) (hl : C.last < 100000) :
    EvS cfg 68 [.ref c 0 0, .d (.int .i64 (no : Int)), p, nd] S (fun o S' => FrC m r S S' ∧ CacheAt S' c r m (C.put no a b needs) ∧ o = .ret (.tup [.d (.int .i64 ((C.last : Int) + 1)), .d (.int .i64 0)])) := by
  refine evS_of rfl body68 ?_
  show Wp cfg (Try.f68.body.getD .skip) ((.ref c 0 0) :: (.d (.int .i64 (no : Int))) :: p :: nd :: (.tup []) :: (.tup []) :: (.tup []) :: (.tup []) :: (.tup []) :: (.tup []) :: (.tup []) :: (.tup []) :: (.tup []) :: (.tup []) :: (.tup []) :: (.tup []) :: (.tup []) :: (.tup []) :: (.tup []) :: (.tup []) :: (.tup []) :: (.tup []) :: (.tup []) :: (.tup []) :: (.tup []) :: (.tup []) :: (.tup []) :: (.tup []) :: (.tup []) :: (.tup []) :: (.tup []) :: (.tup []) :: (.tup []) :: (.tup []) :: (.tup []) :: (.tup []) :: (.tup []) :: (.tup []) :: (.tup []) :: (.tup []) :: (.tup []) :: (.tup []) :: (.tup []) :: (.tup []) :: (.tup []) :: (.tup []) :: (.tup []) :: (.tup []) :: (.tup []) :: (.tup []) :: (.tup []) :: (.tup []) :: (.tup []) :: (.tup []) :: (.tup []) :: (.tup []) :: (.tup []) :: (.tup []) :: (.tup []) :: (.tup []) :: (.tup []) :: (.tup []) :: (.tup []) :: (.tup []) :: (.tup []) :: (.tup []) :: (.tup []) :: []) S [] _
  conv => arg 2; whnf
  rw [wk_of]
  generalize hal : S.length = al
  have hft := hp.ft
  have hl0 := hp.l0
  have hk0 : Keep S (S ++ [.row [p] 56]) := Keep.refl.app
  have hp0 : PatV (S ++ [.row [p] 56]) p dv a b := hp.frm (ts := []) (ms := []) (r := 0) (Frm.keep hk0) rfl
  have hck := fun {ops dst k T F Q} => call_pcheck (ops := ops) (dst := dst) (k := k) (T := T) (F := F) (Q := Q) hp0 ha
  rw [if_pos hpk] at hck
  obtain ⟨o, S1, ⟨hF1, hC1, nv, rfl, hnv⟩, hnd⟩ := evS_split rfl (hneed _ (h0.keep hk0) hk0)
  have hnd := fun {ops dst k T F Q} => hnd _ rfl (ops := ops) (dst := dst) (k := k) (T := T) (F := F) (Q := Q)
  obtain ⟨o, S2, ⟨rfl, hF2, d, L, es, vs, f, z, w, q, h, hq, hfs⟩, hkn⟩ := evS_split rfl (known_ok S1 c r m C hC1 no hn)
  have hkn := fun {ops dst k T F Q} => hkn _ rfl (ops := ops) (dst := dst) (k := k) (T := T) (F := F) (Q := Q)
  have hF02 := hF1.trans hF2
  have hc2 := rowE_of (e := 150) h.hc
  have hpc2 := fun y => putRow_of (y := y) (e := 150) h.hc
  have ha2 : S2[al]? = some (.row [p] 56) := hF02.row (by subst hal; simp) rfl
  have hp2 : PatV S2 p dv a b := hp0.frm hF02 rfl
  have hnv2 := hF2.own hnv rfl
  have hw : IntKind.i64.wrap ((C.last : Int) + 1) = (C.last : Int) + 1 := wrap64 (by omega)
  have hb0 : b ≠ [] := by rintro rfl; have := hpk.1; simp at this
  have hbl : b.length ≤ 100000 := by have := hpk.2.1; omega
  have hnv1 := own_one hnv
  -- the number
  have hca : al ≠ c := by rintro rfl; cases getE ha2 h.hc
  generalize hS3 : S2.set c (.row [cacV d m L ((C.last : Int) + 1)] 150) = S3
  have hF3 : FrC m r S2 S3 := hS3 ▸ Frm.refl.set (fun q hq => by cases getE h.hc hq; rfl)
  have hp3 := hp2.frm hF3 rfl
  have hap := hp3.app hb0 hbl
  have ha3 : S3[al]? = some (.row [p] 56) := hF3.row ha2 rfl
  have hc3 : S3[c]? = some (.row [cacV d m L ((C.last : Int) + 1)] 150) := by rw [← hS3]; exact List.getElem?_set_self (getLen h.hc)
  have hp1 := hp.one
  have hl1 := hp.l1
  have hs1 := fun id n => hp.s1 (id := id) (n := n)
  have hra3 := rowE_of (e := 56) ha3
  have hra4 := rowE_of (e := 56) (id := al) (S := S3 ++ [rowY b]) (x := p) (by rw [List.getElem?_append_left (getLen ha3)]; exact ha3)
  generalize hal3 : S3.length = al3
  have hpa4 : ∀ y, putRow (S3 ++ [rowY b]) al 0 y = some (S3.set al (.row [y] 56) ++ [rowY b]) := fun y => by
    rw [putRow_of (x := p) (e := 56) (by rw [List.getElem?_append_left (getLen ha3)]; exact ha3), List.set_append_left _ _ (getLen ha3)]
  simp (maxSteps := 1000000) (disch := first | assumption | omega | rfl) only [↓vmp, vme, vmb, ty, hP, dec_t, dec_f, wrap64, List.length_map, Int.toNat_natCast, Nat.reduceAdd, List.cons_append, List.nil_append, Option.map_some, Option.map_none, strOf_mk, sb_eql, sb_neq, vmg, ↓vgd, ↓vst, ↓vix, ↓vbs, hft, hal, rA0 hal, hl0, hp1, hck, bo104, eq48f, hnd, bo105, hd1, hnv1, un_not, Bool.not_true, hkn, bo103, fr150_3, hc2, lc3, hw, sc3, hpc2, hS3, dec_True, bs0_40, fr56_1, hra3, hl1, hap, hal3, hra4, hs1, hpa4]
  have h2K : ∀ j o, S2[j]? = some o → j ≠ c → j ≠ al → (S3.set al (.row [.agg [.d (.int .i64 a), .rs al3 0 b.length]] 56) ++ [rowY b])[j]? = some o := fun j o hj n1 n2 => by
    have hl : j < S3.length := by rw [← hS3, List.length_set]; exact getLen hj
    rw [List.getElem?_append_left (by rw [List.length_set]; exact hl), List.getElem?_set_ne (Ne.symm n2), ← hS3, List.getElem?_set_ne (Ne.symm n1)]
    exact hj
  have h4c : (S3.set al (.row [.agg [.d (.int .i64 a), .rs al3 0 b.length]] 56) ++ [rowY b])[c]? = some (.row [cacV d m L ((C.last : Int) + 1)] 150) := by
    rw [List.getElem?_append_left (by rw [List.length_set]; exact getLen hc3), List.getElem?_set_ne hca]
    exact hc3
  have h4a : (S3.set al (.row [.agg [.d (.int .i64 a), .rs al3 0 b.length]] 56) ++ [rowY b])[al]? = some (.row [.agg [.d (.int .i64 a), .rs al3 0 b.length]] 56) := by
    rw [List.getElem?_append_left (by rw [List.length_set]; exact getLen ha3), List.getElem?_set_self (getLen ha3)]
  have h4y : (S3.set al (.row [.agg [.d (.int .i64 a), .rs al3 0 b.length]] 56) ++ [rowY b])[al3]? = some (rowY b) := by
    rw [List.getElem?_append_right (by rw [List.length_set]; omega), List.length_set, hal3, Nat.sub_self]; rfl
  have hF4 : FrC m r S (S3.set al (.row [.agg [.d (.int .i64 a), .rs al3 0 b.length]] 56) ++ [rowY b]) := ((((Frm.refl.app).trans hF02).trans hF3).setn (by omega)).app
  have hca4 := Ne.symm hca
  generalize hS4 : S3.set al (.row [.agg [.d (.int .i64 a), .rs al3 0 b.length]] 56) ++ [rowY b] = S4 at *
  have r4c := rowE_of (e := 150) h4c
  have r4a := rowE_of (e := 56) h4a
  have hform := own_form hnv
  have hok := h.ok.put (no := no) hn hpk hl h1 h2
  have hes : es.length ≤ 200000 := by have := h.wq; have := h.ok.last; rw [h.lc.1]; omega
  generalize hchg : V.agg [.d (.int .i64 ((C.last : Int) + 1)), .d (.int .i64 (no : Int)), .d (.int .i64 a), .rs al3 0 b.length, nv] = chg at *
  have hbs : ∀ S : Store, bs1 Try.prog S 119 chg = some (.val (.rs S.length 0 1) (S ++ [.row [chg] 122]) 2) := fun S => by rw [← hchg]; exact bs119 hform
  have hf : fitsT Try.prog 122 chg = true := by rw [← hchg]; exact f122
  have hr5' : ∀ l, rowE (S4 ++ l) c 0 = some (cacV d m L ((C.last : Int) + 1)) := fun l => rowE_of (e := 150) (by rw [List.getElem?_append_left (getLen h4c)]; exact h4c)
  generalize ha4 : S4.length = a4
  have hlo4 : OwnS (S4 ++ [.row [chg] 122]) L 122 es := by
    rcases h.lo with ho | ⟨id, x, y⟩
    · exact .inl ho
    · refine .inr ⟨id, x, ?_⟩
      have := h2K id _ y (by rintro rfl; cases getE y h.hc) (by rintro rfl; cases getE y ha2)
      rw [List.getElem?_append_left (getLen this)]; exact this
  have y4 : ∀ {id : Nat} {xs : List V} {e : TypeId}, S2[id]? = some (.row xs e) → e ≠ 150 → e ≠ 56 → S4[id]? = some (.row xs e) := fun y n1 n2 => h2K _ _ y (by rintro rfl; cases getE y h.hc; exact n1 rfl) (by rintro rfl; cases getE y ha2; exact n2 rfl)
  have fin : ∀ (S6 : Store) (L' : V), (∀ j o, S4[j]? = some o → j ≠ c → (∀ xs, o ≠ .row xs 122) → S6[j]? = some o) → S6[c]? = some (.row [cacV d m L' ((C.last : Int) + 1)] 150) → OwnS S6 L' 122 (es ++ [chg]) → S4.length ≤ S6.length → FrC m r S S6 ∧ CacheAt S6 c r m (C.put no a b needs) := by
    intro S6 L' k6 c6 o6 l6
    refine ⟨⟨by have := hF4.1; omega, fun j o hj hc => ?_⟩, d, L', _, vs, f, z, w, q, h.put ha2 (S6 := S6) ?_ c6 (dv := .rs al3 0 b.length) (nv := nv) (by rw [hchg]; exact o6) (.inr ⟨al3, by unfold bysV; rw [List.length_map], ?_⟩) ?_ hok, hq⟩
    · refine k6 j o (hF4.2 j o hj hc) ?_ ?_
      · rintro rfl
        obtain ⟨d', L', es', vs', f', z', w', q', h', _⟩ := h0
        cases getE h'.hc hj
        cases hc
      · rintro xs rfl
        cases hc
    · exact fun j o hj n1 n2 n3 => k6 j o (h2K j o hj n1 n2) n1 n3
    · exact k6 _ _ h4y (by rintro rfl; have := getE h4c h4y; simp [rowY] at this) (fun xs hh => by simp [rowY] at hh)
    · rcases hnv2 with ho | ⟨id, x, y⟩
      · exact .inl ho
      · exact .inr ⟨id, x, k6 _ _ (y4 y (by decide) (by decide)) (by rintro rfl; have := getE y h.hc; simp at this) (fun xs hh => by simp at hh)⟩
  rcases app_row1 u119 zOk119 s122 hlo4 (x := a4) (y := chg) (by rw [← ha4]; simp) hf (room119 (by omega)) with ⟨rfl, rfl, hap5⟩ | ⟨id, rfl, hid, hap5⟩
  · have hr5 : rowE (S4 ++ [Ob.row [chg] 122, .row [chg] 122]) c 0 = some (cacV d m (.ts []) ((C.last : Int) + 1)) := rowE_of (e := 150) (by rw [List.getElem?_append_left (getLen h4c)]; exact h4c)
    have hp5 : ∀ y, putRow (S4 ++ [Ob.row [chg] 122, .row [chg] 122]) c 0 y = some (S4.set c (.row [y] 150) ++ [Ob.row [chg] 122, .row [chg] 122]) := fun y => by
      rw [putRow_of (e := 150) (by rw [List.getElem?_append_left (getLen h4c)]; exact h4c), List.set_append_left _ _ (getLen h4c)]
    have hr6 : ∀ y, rowE (S4.set c (.row [y] 150) ++ [Ob.row [chg] 122, .row [chg] 122]) c 0 = some y := fun y => rS0 (getLen h4c)
    simp only [List.append_assoc, List.length_append, List.length_cons, List.length_nil, ha4] at hap5
    refine wk_draww (is := [0, 1, 2, 3, 4, 5, 6, 7, 8, 9, 10, 11, 12, 13, 14, 15, 16, 17]) (h := 0) (by kernel_rfl) (by kernel_rfl) ?_
    simp (maxSteps := 1000000) (disch := first | assumption | omega | rfl) only [List.replicate_zero, eq_self, vmd, dw1, dw2, dw3, dw4, dw5, dw6, dw7, dw8, dw9, dw10, dw11, dw12, vmk, vmo, vmg, vme, vmb, ty, hP, dec_t, dec_f, wrap64, List.length_map, Int.toNat_natCast, Nat.reduceAdd, ↓vgd, ↓vst, ↓vix, vso, List.append_nil, List.append_assoc, r4c, r4a, op_nilCheck, nilS_ref, fr150_2, fr150_3, lc2, lc3, lr56_v, bd122 hform, hchg, hbs, ha4, hap5, hr5, hp5, sc2]
    refine ⟨wall_bit (by kernel_rfl) (wall_bit (by kernel_rfl) (wall_read rfl (by kernel_rfl) rfl (ld_op ((loadV_row (hr5' _)).trans lc2)) (by simp [sameV, sameCell, sameCell0, sameF, sameLeaf, sameAll]) wall_nil)), wall_bit (by kernel_rfl) (wall_bit (by kernel_rfl) (wall_bit (by kernel_rfl) wall_nil)), wall_bit (by kernel_rfl) (wall_bit (by kernel_rfl) (wall_bit (by kernel_rfl) wall_nil)), by kernel_rfl, ?_⟩
    simp (maxSteps := 1000000) (disch := first | assumption | omega | rfl) only [↓vmp, vme, vmb, ty, hP, dec_t, dec_f, wrap64, List.length_map, Int.toNat_natCast, Nat.reduceAdd, List.cons_append, List.nil_append, Option.map_some, Option.map_none, strOf_mk, sb_eql, sb_neq, vmg, ↓vgd, ↓vst, ↓vix, fr150_3, hr6, lc3]
    have hl4 := getLen h4c
    obtain ⟨g1, g2⟩ := fin (S4.set c (.row [cacV d m (.rs (a4 + 1) 0 1) ((C.last : Int) + 1)] 150) ++ [.row [chg] 122, .row [chg] 122]) (.rs (a4 + 1) 0 1) (fun j o hj n1 n2 => by
      rw [List.getElem?_append_left (by rw [List.length_set]; exact getLen hj), List.getElem?_set_ne (Ne.symm n1)]
      exact hj) (by rw [List.getElem?_append_left (by rw [List.length_set]; exact hl4), List.getElem?_set_self hl4]) (.inr ⟨a4 + 1, rfl, by
      rw [List.getElem?_append_right (by rw [List.length_set]; omega), List.length_set, ha4, Nat.add_sub_cancel_left]; rfl⟩) (by simp)
    exact ⟨rfl, _, res_tt rfl rfl rfl rfl, g1, g2, rfl⟩
  · have hid4 : S4[id]? = some (.row es 122) := by
      have := getLen hid
      rcases h.lo with ⟨e, _⟩ | ⟨id', e, y⟩
      · cases e
      · cases e; exact y4 y (by decide) (by decide)
    have hcid : c ≠ id := by rintro rfl; have := getE h4c hid4; simp at this
    have hil := getLen hid4
    have hl4 := getLen h4c
    have hset : (S4 ++ [Ob.row [chg] 122]).set id .dead = S4.set id .dead ++ [Ob.row [chg] 122] := List.set_append_left _ _ hil
    simp only [hset, List.append_assoc, List.length_append, List.length_cons, List.length_nil, ha4] at hap5
    have h5c : (S4.set id .dead)[c]? = some (.row [cacV d m (.rs id 0 es.length) ((C.last : Int) + 1)] 150) := by rw [List.getElem?_set_ne (Ne.symm hcid)]; exact h4c
    have hl5 := getLen h5c
    have hr5 : ∀ l, rowE (S4.set id .dead ++ l) c 0 = some (cacV d m (.rs id 0 es.length) ((C.last : Int) + 1)) := fun l => rowE_of (e := 150) (by rw [List.getElem?_append_left hl5]; exact h5c)
    have hp5 : ∀ l y, putRow (S4.set id .dead ++ l) c 0 y = some ((S4.set id .dead).set c (.row [y] 150) ++ l) := fun l y => by
      rw [putRow_of (e := 150) (by rw [List.getElem?_append_left hl5]; exact h5c), List.set_append_left _ _ hl5]
    have hr6 : ∀ y l, rowE ((S4.set id .dead).set c (.row [y] 150) ++ l) c 0 = some y := fun y l => rS0 hl5
    refine wk_draww (is := [0, 1, 2, 3, 4, 5, 6, 7, 8, 9, 10, 11, 12, 13, 14, 15, 16, 17]) (h := 0) (by kernel_rfl) (by kernel_rfl) ?_
    simp (maxSteps := 1000000) (disch := first | assumption | omega | rfl) only [List.replicate_zero, eq_self, vmd, dw1, dw2, dw3, dw4, dw5, dw6, dw7, dw8, dw9, dw10, dw11, dw12, vmk, vmo, vmg, vme, vmb, ty, hP, dec_t, dec_f, wrap64, List.length_map, Int.toNat_natCast, Nat.reduceAdd, ↓vgd, ↓vst, ↓vix, vso, List.append_nil, List.append_assoc, r4c, r4a, op_nilCheck, nilS_ref, fr150_2, fr150_3, lc2, lc3, lr56_v, bd122 hform, hchg, hbs, ha4, hap5, hr5, hp5, sc2]
    refine ⟨wall_bit (by kernel_rfl) (wall_bit (by kernel_rfl) (wall_read rfl (by kernel_rfl) rfl (ld_op ((loadV_row (hr5' _)).trans lc2)) (by simp [sameV, sameCell, sameCell0, sameF, sameLeaf, sameAll]) wall_nil)), wall_bit (by kernel_rfl) (wall_bit (by kernel_rfl) (wall_bit (by kernel_rfl) wall_nil)), wall_bit (by kernel_rfl) (wall_bit (by kernel_rfl) (wall_bit (by kernel_rfl) wall_nil)), by kernel_rfl, ?_⟩
    simp (maxSteps := 1000000) (disch := first | assumption | omega | rfl) only [↓vmp, vme, vmb, ty, hP, dec_t, dec_f, wrap64, List.length_map, Int.toNat_natCast, Nat.reduceAdd, List.cons_append, List.nil_append, Option.map_some, Option.map_none, strOf_mk, sb_eql, sb_neq, vmg, ↓vgd, ↓vst, ↓vix, fr150_3, hr6, lc3]
    obtain ⟨g1, g2⟩ := fin ((S4.set id .dead).set c (.row [cacV d m (.rs (a4 + 1) 0 (es.length + 1)) ((C.last : Int) + 1)] 150) ++ ([.row [chg] 122] ++ [.row (es ++ [chg]) 122])) (.rs (a4 + 1) 0 (es.length + 1)) (fun j o hj n1 n2 => by
      rw [List.getElem?_append_left (by rw [List.length_set, List.length_set]; exact getLen hj), List.getElem?_set_ne (Ne.symm n1), List.getElem?_set_ne (by rintro rfl; exact n2 _ (getE hj hid4))]
      exact hj) (by rw [List.getElem?_append_left (by rw [List.length_set]; exact hl5), List.getElem?_set_self hl5]) (.inr ⟨a4 + 1, by rw [List.length_append]; rfl, by
      rw [List.getElem?_append_right (by rw [List.length_set, List.length_set]; omega), List.length_set, List.length_set, ha4, Nat.add_sub_cancel_left]; rfl⟩) (by simp)
    exact ⟨rfl, _, res_tt rfl rfl rfl rfl, g1, g2, rfl⟩
end Go.Proofs.Ytobgdmgldagjkaa
end
