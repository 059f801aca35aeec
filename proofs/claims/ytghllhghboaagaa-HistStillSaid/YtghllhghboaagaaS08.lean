/- model.open, in the store. -/
import Derived.Test.YtghllhghboaagaaS07
set_option linter.unusedVariables false
set_option linter.unusedSimpArgs false
set_option maxRecDepth 100000
set_option maxHeartbeats 4000000
set_option linter.defProp false
section
namespace Go.Proofs.Ytghllhghboaagaa
open Go.Vm
structure Tree (S : zA) (a m : Nat) (A B : Int → V) (t : List Node) : Prop where
 cell : S[a]? = some (.row [.agg [.mr m]] 127)
 st : St (fun _ => True) S m A B t
theorem Tree.keep {S S' : zA} {a m : Nat} {A B : Int → V} {t : List Node} (h : Tree S a m A B t) (hk : Keep S S') : Tree S' a m A B t := ⟨hk _ _ h.cell, h.st.keep hk⟩
theorem Tree.ne {S : zA} {a m : Nat} {A B : Int → V} {t : List Node} (h : Tree S a m A B t) : a ≠ m := by
 rintro rfl
 obtain ⟨L, c, h1, _⟩ := h.st.mp
 have := h.cell
 rw [h1] at this; cases this
theorem Tree.row {S : zA} {a m : Nat} {A B : Int → V} {t : List Node} (h : Tree S a m A B t) : rowE S a 0 = some (.agg [.mr m]) := zC h.cell
theorem zf2 {n : Node} : ∀ {l : List Node}, Srt (l ++ [n]) → qY l n = l ++ [n]
 | [], _ => rfl
 | x :: r, h => by
  obtain ⟨h1, h2⟩ := Srt.cons.1 (show Srt (x :: (r ++ [n])) from h)
  have hx : x.ino < n.ino := h1 n (by simp)
  have ih := zf2 h2
  unfold qY at ih ⊢
  have a1 : ¬ n.ino ≤ x.ino := by omega
  have a2 : x.ino ≠ n.ino := by omega
  simp [wQ, a1, a2, ih]
theorem q1g (S0 : zA) (a m : Nat) (ha0 : S0.length ≤ a) (hm0 : S0.length ≤ m) (t : List Node) (k0 : Nat) (hk0 : k0 < 300000) (hS : Small k0 t) (hsr : Srt t) (R : Post) (g1 g2 : V) : ∀ (k i : Nat) (S : zA) (A B : Int → V) (v5 g6 g7 g8 gM gF gD gG gH gC gA gB gK gE gL gI gJ gN gO gR gS gT gX gW gU gV : V), t.length - i = k → i ≤ t.length → Keep S0 S → Tree S a m A B (t.take i) →
 (∀ S A B v5 i' g6 g7 g8 gM gF gD gG gH gC gA gB gK gE gL gI gJ gN gO gR gS gT gX gW gU gV, Keep S0 S → Tree S a m A B t → R (.exit 0) ((.d (.sl (t.map zB))) :: g1 :: g2 :: (.ref a 0 0) :: (.tup []) :: v5 :: g6 :: g7 :: g8 :: (.d (.sl (t.map zB))) :: (.d (.int .i64 t.length)) :: i' :: gM :: gF :: gD :: gG :: gH :: gC :: gA :: gB :: gK :: gE :: gL :: gI :: gJ :: gN :: gO :: gR :: gS :: gT :: gX :: gW :: gU :: gV :: []) S []) →
 Wp cfgS (.loop (lpOf (Try.f40.body.getD .skip) 0)) ((.d (.sl (t.map zB))) :: g1 :: g2 :: (.ref a 0 0) :: (.tup []) :: v5 :: g6 :: g7 :: g8 :: (.d (.sl (t.map zB))) :: (.d (.int .i64 t.length)) :: (.d (.int .i64 i)) :: gM :: gF :: gD :: gG :: gH :: gC :: gA :: gB :: gK :: gE :: gL :: gI :: gJ :: gN :: gO :: gR :: gS :: gT :: gX :: gW :: gU :: gV :: []) S [] R := by
 have hlt0 : t.length < 400000 := Nat.lt_of_le_of_lt hS.len (by omega)
 intro k
 induction k with
 | zero =>
  intro i S A B v5 g6 g7 g8 gM gF gD gG gH gC gA gB gK gE gL gI gJ gN gO gR gS gT gX gW gU gV hk hi hK hT hR
  have hie : i = t.length := by omega
  rw [qQ]
  refine qC ?_
  conv => arg 2; whnf
  simp (maxSteps:=1000000) (disch:=first|assumption|omega|rfl) only [↓gp, gc, Nat.reduceAdd, hPS]
  rw [hie, List.take_length] at hT
  exact hR _ _ _ _ _ _ _ _ _ _ _ _ _ _ _ _ _ _ _ _ _ _ _ _ _ _ _ _ _ _ hK hT
 | succ k ih =>
  intro i S A B v5 g6 g7 g8 gM gF gD gG gH gC gA gB gK gE gL gI gJ gN gO gR gS gT gX gW gU gV hk hi hK hT hR
  have hlt : i < t.length := by omega
  have htk : t.take (i + 1) = t.take i ++ [t[i]] := by rw [List.take_succ_eq_append_getElem hlt]
  have hmem := List.getElem_mem hlt
  have hd := hS.siz _ hmem
  have hn := hS.nms _ hmem
  have hsk : Srt (t.take (i + 1)) := by unfold Srt at hsr ⊢; exact hsr.sublist ((List.take_sublist _ _).map _)
  have hsi : Srt (t.take i) := by unfold Srt at hsr ⊢; exact hsr.sublist ((List.take_sublist _ _).map _)
  rw [htk] at hsk
  have hws := zf2 hsk
  have hb : S[a]? = some (.row [.agg [.mr m]] 127) := hT.cell
  have hSa : a < S.length := zZ hb
  have hne := hT.ne
  rw [qQ]
  refine qC ?_
  conv => arg 2; whnf
  generalize hN : t[i] = n at *
  have hbS : (S ++ [.row [.d (zB n)] 32])[S.length]? = some (.row [.d (zB n)] 32) := by simp
  obtain ⟨v1, S1, c1, ha1, ho1, hf1, hl1⟩ := apB (S := S ++ [.row [.d (zB n)] 32]) (l := n.data) (by omega)
  have hb2 : S1[S.length]? = some (.row [.d (zB n)] 32) := (hf1 S.length _ hbS).1
  have hr2 := zC hb2
  have hst1 := zr1 (a := n) (v := v1) (z5y ho1 (by kernel_rfl) (by kernel_rfl)) (z3h ho1)
  have hpr1 := fun y => qG (y := y) hb2
  have hb3 : ∀ y : V, (S1.set S.length (.row [y] 32))[S.length]? = some (.row [y] 32) := fun y => kD hb2
  have hr3 : ∀ y, rowE (S1.set S.length (.row [y] 32)) S.length 0 = some y := fun y => zC (hb3 y)
  obtain ⟨v2, S2, c2, ha2, ho2, hf2, hl2⟩ := apE (S := S1.set S.length (.row [zD n v1 (.d (.sl (n.names.map zJ)))] 32)) (l := n.names) (by omega)
  have hb4 : S2[S.length]? = some (.row [zD n v1 (.d (.sl (n.names.map zJ)))] 32) := (hf2 S.length _ (hb3 _)).1
  have hr4 := zC hb4
  have hst2 := fun (x0 x1 x2 x3 x4 x5 x6 : V) => zhb (x0 := x0) (x1 := x1) (x2 := x2) (x3 := x3) (x4 := x4) (x5 := x5) (x6 := x6) (v := v2) (z5y ho2 (by kernel_rfl) (by kernel_rfl)) (z3h ho2)
  have hpr2 := fun y => qG (y := y) hb4
  have hr5 : ∀ y, rowE (S2.set S.length (.row [y] 32)) S.length 0 = some y := fun y => zC (kD hb4)
  have hkeep : Keep S (S2.set S.length (.row [zD n v1 v2] 32)) := fun j o hj => by
   have hjl := zZ hj
   have h1 : (S ++ [.row [.d (zB n)] 32])[j]? = some o := by rw [List.getElem?_append_left hjl]; exact hj
   have h2 := (hf1 j o h1).1
   have h3 : (S1.set S.length (.row [zD n v1 (.d (.sl (n.names.map zJ)))] 32))[j]? = some o := by rw [List.getElem?_set_ne (by omega)]; exact h2
   have h4 := (hf2 j o h3).1
   rw [List.getElem?_set_ne (by omega)]; exact h4
  have hv1 : OwnS (S2.set S.length (.row [zD n v1 v2] 32)) v1 5 (n.data.map fun b => .d (.int .u8 b.toNat)) := vM (z1u (vM ho1 (hf1 S.length _ hbS).2) (fun j o hj => (hf2 j o hj).1)) (hf1 S.length _ hbS).2
  have hv2 : OwnS (S2.set S.length (.row [zD n v1 v2] 32)) v2 88 (n.names.map fun x => .d (zJ x)) := vM ho2 (hf2 S.length _ (hb3 _)).2
  have hold : ∀ j, j < S.length → ∃ o, S[j]? = some o := fun j hj => ⟨S[j], List.getElem?_eq_getElem hj⟩
  have hsa : ∀ y i', idOf v1 = some i' → idOf (A y) ≠ some i' := fun y i' hv hh => by
   obtain ⟨o, ho⟩ := hold i' ((hT.st.da y trivial).lt hh)
   have h1 : (S ++ [.row [.d (zB n)] 32])[i']? = some o := Keep.app _ _ ho
   cases v1 <;> simp only [idOf, reduceCtorEq] at hv
   cases hv
   exact (hf1 _ _ h1).2 _ _ rfl
  have hsb : ∀ y i', idOf v2 = some i' → idOf (B y) ≠ some i' := fun y i' hv hh => by
   have hlt := (hT.st.na y trivial).lt hh
   obtain ⟨o, ho⟩ := hold i' hlt
   have h1 : (S ++ [.row [.d (zB n)] 32])[i']? = some o := Keep.app _ _ ho
   have h2 : (S1.set S.length (.row [zD n v1 (.d (.sl (n.names.map zJ)))] 32))[i']? = some o := by rw [List.getElem?_set_ne (by omega)]; exact (hf1 _ _ h1).1
   cases v2 <;> simp only [idOf, reduceCtorEq] at hv
   cases hv
   exact (hf2 _ _ h2).2 _ _ rfl
  obtain ⟨o, hup, hst⟩ := ((hT.st.keep hkeep).less (g' := fun y => True ∧ y ≠ n.ino) (fun _ _ => trivial)).upd (g := fun _ => True) (n := n) (a := v1) (b := v2) hsi rfl (.of hv1) (.of hv2) (fun y i' _ _ => hsa y i') (fun y i' _ _ => hsb y i')
  have hb6 := hkeep a _ hb
  have hr6 : rowE (S2.set S.length (.row [zD n v1 v2] 32)) a 0 = some (.agg [.mr m]) := zC hb6
  have hr7 : rowE (S2.set S.length (.row [zD n v1 v2] 32)) S.length 0 = some (zD n v1 v2) := zC (kD hb4)
  rw [hws] at hst
  have hb7 : ((S2.set S.length (.row [zD n v1 v2] 32)).set m o)[a]? = some (.row [.agg [.mr m]] 127) := by rw [List.getElem?_set_ne (Ne.symm hne)]; exact hb6
  have hK7 : Keep S0 ((S2.set S.length (.row [zD n v1 v2] 32)).set m o) := (hK.trans hkeep).set hm0
  unfold zD at ha2 hr4 hpr2 hr6 hr7 hup
  simp (maxSteps:=1000000) (disch:=first|assumption|omega|rfl) only [↓gp, gc, Nat.reduceAdd, ↓vbs, hPS, hN, zL, zI, zfw, zr5, ha1, hr2, hst1, hpr1, hr3, ha2, hr4, hst2, hpr2]
  refine jA (is := [0, 1, 2, 3, 4, 5, 6, 7]) (h := 0) (by kernel_rfl) (by kernel_rfl) ?_
  simp (maxSteps:=1000000) (disch:=first|assumption|omega|rfl) only [List.replicate_zero, eq_self, gd, ga, Nat.reduceAdd, ↓gq, hPS, List.append_nil, qP, qI, jG, vB, wX, hr6, hr7, hup, Option.map_some]
  refine ⟨fun _ => by kernel_rfl, ?_⟩
  refine ⟨by kernel_rfl, ?_⟩
  simp (maxSteps:=1000000) (disch:=first|assumption|omega|rfl) only [↓gp, gc, Nat.reduceAdd, hPS]
  exact ih (i + 1) _ _ _ _ _ _ _ _ _ _ _ _ _ _ _ _ _ _ _ _ _ _ _ _ _ _ _ _ _ (by omega) (by omega) hK7 (by rw [htk]; exact ⟨hb7, hst⟩) hR
theorem zuj (S0 : zA) (t : List Node) (k0 : Nat) (hk0 : k0 < 300000) (hS : Small k0 t) (hsr : Srt t) : EvS cfgS 40 [.d (.sl (t.map zB))] S0 fun o S => ∃ a m A B, o = .ret (.ref a 0 0) ∧ Keep S0 S ∧ Tree S a m A B t ∧ S0.length ≤ a ∧ S0.length ≤ m := by
 refine wJ rfl zwy ?_
 show Wp cfgS (Try.f40.body.getD .skip) ((.d (.sl (t.map zB))) :: uZ (uZ (uZ ((.tup []) :: (.tup []) :: (.tup []) :: [])))) S0 [] _
 unfold uZ
 conv => arg 2; whnf
 rw [qQ]
 simp (maxSteps:=1000000) (disch:=first|assumption|omega|rfl) only [↓gp, gc, Nat.reduceAdd, hPS, ↓z4f, q2q, q2r]
 have hst0 : ∀ S : zA, S[S0.length]? = some (.mp [] 0) → St (fun _ => True) S S0.length (fun _ => .ts []) (fun _ => .ts []) [] := fun S h => by
  refine ⟨⟨[], 0, h, rfl, .nil, ?_, ?_⟩, fun x _ => .inl ⟨rfl, rfl⟩, fun x _ => .inl ⟨rfl, rfl⟩, fun _ _ => ⟨rfl, rfl⟩, ?_, ?_⟩
  ·intro e he; cases he
  ·intro x hx; cases hx
  ·intro x y i _ _ _ hi; cases hi
  ·intro x y i _ _ _ hi; cases hi
 refine q1g S0 (S0 ++ [Ob.mp [] 0]).length S0.length (by simp) (by omega) t k0 hk0 hS hsr _ _ _ t.length 0 _ (fun _ => .ts []) (fun _ => .ts []) _ _ _ _ _ _ _ _ _ _ _ _ _ _ _ _ _ _ _ _ _ _ _ _ _ _ rfl (by omega) ?_ ?_ ?_
 ·exact Keep.app.trans Keep.app
 ·refine ⟨?_, hst0 _ ?_⟩
  ·simp
  ·simp
 ·intro S A B v5 i' g6 g7 g8 gM gF gD gG gH gC gA gB gK gE gL gI gJ gN gO gR gS gT gX gW gU gV hK hT
  simp (maxSteps:=1000000) (disch:=first|assumption|omega|rfl) only [↓gp, gc, Nat.reduceAdd, hPS]
  exact ⟨rfl, _, rfl, _, _, A, B, rfl, hK, hT, by simp, by omega⟩
end Go.Proofs.Ytghllhghboaagaa
end
section
namespace Go.Vm
section
variable {C : Cfg} {ops : Array Oper} {S : zA} {F : Dfs} {Q : Post}
theorem zg2 {f : FuncId} {args : List V} {ds : List D} {o : Out} (hs : C.shared f = false) (hf : allO (frz S zR) args = some ds) (hp : z6g o = true) (he : Ev C f ds o) : ∃ n, kR C (run C n) f args S = some (o, S, 1) := by
 obtain ⟨n, hn⟩ := he
 have hn' : answer C (run C n) f ds = some o := hn
 refine ⟨n, ?_⟩
 unfold kR
 simp only [hs, Bool.false_eq_true, if_false, hf, hn', hp, if_true]
 split <;> rfl
theorem z6p {dst : Option Tmp} {l : List Oper} {T : List V} {f : FuncId} {args : List V} {ds : List D} {v : V} (hs : C.shared f = false) (hf : allO (frz S zR) args = some ds) (hp : z6g (.ret v) = true) (he : Ev C f ds (.ret v)) :
  WpR C ops dst l T S F Q (some (.enter f args)) = WpL C ops l (putT T dst v) S F Q := by
 obtain ⟨n, hc⟩ := zg2 hs hf hp he
 apply propext
 constructor
 ·rintro ⟨m, o, S', c, h1, h2⟩
  have := z3o h1 hc
  simp only [Prod.mk.injEq] at this
  obtain ⟨rfl, rfl, rfl⟩ := this
  exact h2
 ·exact fun h => ⟨n, _, _, _, hc, h⟩
theorem z0d {l : zA} {i k : Nat} (h : i < S.length) : rowE (S ++ l) i k = rowE S i k := by unfold rowE; rw [List.getElem?_append_left h]
end
end Go.Vm
namespace Go.Proofs.Ytghllhghboaagaa
open Go.Vm
section
variable {n n' : Node} {a b a' b' : V}
theorem lv : kE Try.prog 32 0 (some (zD n a b)) = some (zD n a b) := by kernel_rfl
theorem lv0 : kE Try.prog 3 0 (some (zD n a b)) = some (.d (.int .i64 n.ino)) := by kernel_rfl
theorem lv1 : kE Try.prog 3 1 (some (zD n a b)) = some (.d (.int .i64 n.kind)) := by kernel_rfl
theorem lv2 : kE Try.prog 3 2 (some (zD n a b)) = some (.d (.int .i64 n.links)) := by kernel_rfl
theorem lv4 : kE Try.prog 3 4 (some (zD n a b)) = some (.d (.int .i64 n.size)) := by kernel_rfl
theorem lv5 : kE Try.prog 29 5 (some (zD n a b)) = some a := by kernel_rfl
theorem lv6 : kE Try.prog 30 6 (some (zD n a b)) = some b := by kernel_rfl
theorem sv : qL Try.prog 32 0 (zD n a b) (zD n' a' b') = some (zD n a b) := by kernel_rfl
theorem svz {x0 x1 x2 x3 x4 x5 x6 : V} : qL Try.prog 32 0 (zD n a b) (.agg [x0, x1, x2, x3, x4, x5, x6]) = some (zD n a b) := by kernel_rfl
theorem le1 {e : Ent} : kE Try.prog 3 1 (some (.d (zJ e))) = some (.d (.int .i64 e.ino)) := by kernel_rfl
theorem kM : V.one (zD n a b) = true := rfl
end
theorem zvk {S : zA} {t : List Node} {g : Int → Prop} {m : Nat} {A B : Int → V} (h : St g S m A B t) {x : Int} (hx : g x) {s : List UInt8} : allO (frz S zR) [zD (getN t x) (A x) (B x), .d (.str s)] = some [zB (getN t x), .str s] := by
 have := h.nodeF hx (n := 9)
 simp only [allO]
 rw [show frz S zR (zD (getN t x) (A x) (B x)) = some (zB (getN t x)) from this]
 rfl
section
variable {ops : Array Oper} {dst : Option Tmp} {k : List Oper} {T : List V} {S : zA} {F : Dfs} {Q : Post}
theorem z0b {t : List Node} {g : Int → Prop} {m : Nat} {A B : Int → V} (h : St g S m A B t) {x : Int} (hx : g x) {s : List UInt8} (hl : (getN t x).names.length < 1000000) :
  WpR cfgS ops dst k T S F Q (some (.enter 105 [zD (getN t x) (A x) (B x), .d (.str s)])) = WpL cfgS ops k (putT T dst (.tup [.d (.int .i64 (vR (getN t x) s).1), .d (.bool (vR (getN t x) s).2)])) S F Q :=
 z6p rfl (zvk h hx) rfl (lift rfl (zq6 (getN t x) s hl))
theorem jK {e : Int} : WpR cfgS ops dst k T S F Q (some (.enter 102 [.d (.bool false), .d (.int .i64 e)])) = WpL cfgS ops k (putT T dst (.tup [])) S F Q :=
 jI (ds := [.bool false, .int .i64 e]) rfl (lift rfl (zxo e))
theorem jX {e : Int} (he : e ≠ 0) : WpR cfgS ops dst k T S F Q (some (.enter 102 [.d (.bool true), .d (.int .i64 e)])) = Q (.pan (.d (.iface 41 (.int .i64 e)))) T S F :=
 zck (ds := [.bool true, .int .i64 e]) rfl (lift rfl (zwd e he))
theorem zi1 {e : Int} (he : e = 0) : WpR cfgS ops dst k T S F Q (some (.enter 98 [.d (.int .i64 e)])) = WpL cfgS ops k (putT T dst (.tup [])) S F Q := by
 subst he
 exact jI (ds := [.int .i64 0]) rfl (lift rfl zwl)
theorem zcb {e : Int} (he : e ≠ 0) : WpR cfgS ops dst k T S F Q (some (.enter 98 [.d (.int .i64 e)])) = Q (.pan (.d (.iface 41 (.int .i64 e)))) T S F :=
 zck (ds := [.int .i64 e]) rfl (lift rfl (zr3 e he))
end
theorem q0h (S0 : zA) (a m : Nat) (A B : Int → V) (t : List Node) (hT0 : Tree S0 a m A B t) (hT : Told t) (k0 : Nat) (hk0 : k0 < 300000) (hS : Small k0 t) (ps : List (List UInt8)) (hl : ps.length < 1000000) (z : V) (i4 i5 : Nat) (h45 : i4 ≠ i5) (hi4 : S0.length ≤ i4) (hi5 : S0.length ≤ i5) (R : Post) (g2 g3 g6 : V) : ∀ (k i : Nat) (d : Int) (S : zA) (g7 g8 g9 gP gQ gM gF gD gA gB gK gE gL gI gJ gN gO gR gS gT gX gW gU gV gZ gY gi gf gg gh gj gk gm gn gr hY hZ : V), ps.length - i = k → i ≤ ps.length → Keep S0 S → S[i4]? = some (.row [z] 32) → S[i5]? = some (.row [zD (getN t d) (A d) (B d)] 32) →
 (∀ d' i' S g7 g8 g9 gP gQ gM gF gD gA gB gK gE gL gI gJ gN gO gR gS gT gX gW gU gV gZ gY gi gf gg gh gj gk gm gn gr hY hZ, goN t (ps.drop i) d = (d', 0) → Keep S0 S → S[i4]? = some (.row [z] 32) → S[i5]? = some (.row [zD (getN t d') (A d') (B d')] 32) → R (.exit 0) ((.ref a 0 0) :: (.d (.sl (ps.map .str))) :: g2 :: g3 :: (.ref i4 0 0) :: (.ref i5 0 0) :: g6 :: g7 :: g8 :: g9 :: gP :: gQ :: gM :: gF :: gD :: (.d (.sl (ps.map .str))) :: (.d (.int .i64 ps.length)) :: i' :: gA :: gB :: gK :: gE :: gL :: gI :: gJ :: gN :: gO :: gR :: gS :: gT :: gX :: gW :: gU :: gV :: gZ :: gY :: gi :: gf :: gg :: gh :: gj :: gk :: gm :: gn :: gr :: hY :: hZ :: []) S []) →
 (∀ T S e, (goN t (ps.drop i) d).2 = e → e ≠ 0 → Keep S0 S → R (.pan (.d (.iface 41 (.int .i64 e)))) T S []) →
 Wp cfgS (.loop (lpOf (Try.f99.body.getD .skip) 0)) ((.ref a 0 0) :: (.d (.sl (ps.map .str))) :: g2 :: g3 :: (.ref i4 0 0) :: (.ref i5 0 0) :: g6 :: g7 :: g8 :: g9 :: gP :: gQ :: gM :: gF :: gD :: (.d (.sl (ps.map .str))) :: (.d (.int .i64 ps.length)) :: (.d (.int .i64 i)) :: gA :: gB :: gK :: gE :: gL :: gI :: gJ :: gN :: gO :: gR :: gS :: gT :: gX :: gW :: gU :: gV :: gZ :: gY :: gi :: gf :: gg :: gh :: gj :: gk :: gm :: gn :: gr :: hY :: hZ :: []) S [] R := by
 intro k
 induction k with
 | zero =>
  intro i d S g7 g8 g9 gP gQ gM gF gD gA gB gK gE gL gI gJ gN gO gR gS gT gX gW gU gV gZ gY gi gf gg gh gj gk gm gn gr hY hZ hk hi hK h4 h5 hE hR
  have hie : i = ps.length := by omega
  rw [qQ]
  refine qC ?_
  conv => arg 2; whnf
  simp (maxSteps:=1000000) (disch:=first|assumption|omega|rfl) only [↓gp, gc, Nat.reduceAdd, hPS]
  exact hE d _ _ _ _ _ _ _ _ _ _ _ _ _ _ _ _ _ _ _ _ _ _ _ _ _ _ _ _ _ _ _ _ _ _ _ _ _ _ _ (by rw [hie, List.drop_length]; rfl) hK h4 h5
 | succ k ih =>
  intro i d S g7 g8 g9 gP gQ gM gF gD gA gB gK gE gL gI gJ gN gO gR gS gT gX gW gU gV gZ gY gi gf gg gh gj gk gm gn gr hY hZ hk hi hK h4 h5 hE hR
  have hlt : i < ps.length := by omega
  have hdr : ps.drop i = ps[i] :: ps.drop (i + 1) := List.drop_eq_getElem_cons hlt
  rw [hdr] at hE hR
  have hgn : (getN t d).names.length < 1000000 := Nat.lt_of_le_of_lt (hS.gnms d) (by omega)
  have hTS := hT0.keep hK
  have hr5 := zC h5
  have hpr5 := fun y => qG (y := y) h5
  have hra := hTS.row
  rw [qQ]
  refine qC ?_
  conv => arg 2; whnf
  by_cases hc : (getN t d).kind = 2
  ·rcases z12 (s := ps[i]) (l := (getN t d).names) (i := 0) with ⟨h1, h2⟩ | ⟨j, hj, h1, h2⟩
   ·have hf : vR (getN t d) ps[i] = (0, false) := by unfold vR; rw [h1]
    have e : goN t (ps[i] :: ps.drop (i + 1)) d = (0, 4) := by simp only [goN, ne_eq, hc, not_true_eq_false, if_false, h2]; rfl
    have h40 : (4 : Int) ≠ 0 := by omega
    simp (maxSteps:=1000000) (disch:=first|assumption|omega|rfl) only [↓gp, gc, Nat.reduceAdd, hPS, hr5, lv, lv1, kM, jK, z0b hTS.st trivial hgn, hf, z19, Bool.not_false, jX h40]
    exact hR _ _ 4 (by rw [e]) (by omega) hK
   ·rw [Nat.zero_add] at h1
    have hf : vR (getN t d) ps[i] = (((j : Nat) : Int), true) := by unfold vR; rw [h1]
    have hge := hT.ge2 d _ (List.getElem_mem hj)
    have hhas := hT.has d _ (List.getElem_mem hj)
    have e : goN t (ps[i] :: ps.drop (i + 1)) d = goN t (ps.drop (i + 1)) (qV (getN t d).names ps[i]) := by
     simp only [goN, ne_eq, hc, not_true_eq_false, if_false]
     rw [if_neg (by rw [h2]; omega)]
    rw [e, h2] at hE hR
    have hlk := fun x => (hTS.st.look x).2
    obtain ⟨id, hix, hre, _⟩ := (hTS.st.na d trivial).ix (t := 30) Try.underlying30 (by kernel_rfl) hj
    simp (maxSteps:=1000000) (disch:=first|assumption|omega|rfl) only [↓gp, gc, Nat.reduceAdd, hPS, hr5, lv, lv1, kM, jK, z0b hTS.st trivial hgn, hf, z19, Bool.not_true]
    refine jA (is := [0, 1, 2, 3, 4, 5, 6, 7, 8, 9, 10, 11]) (h := 0) (by kernel_rfl) (by kernel_rfl) ?_
    simp (maxSteps:=1000000) (disch:=first|assumption|omega|rfl) only [List.replicate_zero, eq_self, gd, ga, Nat.reduceAdd, ↓gq, hPS, List.append_nil, qP, qI, vB, wX, hra, hr5, lv6, hix, hre, le1, hlk, sv, hpr5]
    refine ⟨fun _ => by kernel_rfl, ?_⟩
    refine ⟨by kernel_rfl, ?_⟩
    simp (maxSteps:=1000000) (disch:=first|assumption|omega|rfl) only [↓gp, gc, Nat.reduceAdd, hPS]
    exact ih (i + 1) _ _ _ _ _ _ _ _ _ _ _ _ _ _ _ _ _ _ _ _ _ _ _ _ _ _ _ _ _ _ _ _ _ _ _ _ _ _ _ (by omega) (by omega) (hK.set hi5) (by rw [List.getElem?_set_ne (Ne.symm h45)]; exact h4) (kD h5) hE hR
  ·have e : goN t (ps[i] :: ps.drop (i + 1)) d = (0, 6) := by simp only [goN, ne_eq, hc, not_false_eq_true, if_true]
   have h6 : (6 : Int) ≠ 0 := by omega
   simp (maxSteps:=1000000) (disch:=first|assumption|omega|rfl) only [↓gp, gc, Nat.reduceAdd, hPS, hr5, lv, lv1, jX h6]
   exact hR _ _ 6 (by rw [e]) (by omega) hK
section
variable {t : List Node} {A B : Int → V}
def EndS (S0 : zA) (t : List Node) (A B : Int → V) (q : Int × Int) : Out → zA → Prop := fun o S => Keep S0 S ∧ o = if q.2 = 0 then .ret (zD (getN t q.1) (A q.1) (B q.1)) else panD q.2
theorem z5k {S : zA} {i : Nat} {n : Node} {a b : V} (h : S[i]? = some (.row [zD n a b] 32)) : jP Try.prog S 32 (.ref i 0 0) = some (zD n a b) := (jN (zC h)).trans lv
theorem zagg : V.agg [.d (.int .i64 0), .d (.int .i64 0), .d (.int .i64 0), .d (.int .i64 0), .d (.int .i64 0), .ts [], .ts []] = zD zM (.ts []) (.ts []) := rfl
theorem z32v : zeroV Try.prog 32 = some (zD zM (.ts []) (.ts [])) := z32
theorem kV : qD Try.prog 32 (zD zM (.ts []) (.ts [])) = true := by kernel_rfl
theorem qK {S : zA} {o : Ob} : (S ++ [o])[S.length]? = some o := by simp
theorem qA {S l : zA} {i : Nat} {o : Ob} (h : S[i]? = some o) : (S ++ l)[i]? = some o := Keep.app _ _ h
theorem zii {ops : Array Oper} {dst : Option Tmp} {k : List Oper} {T : List V} {S : zA} {F : Dfs} {Q : Post} {s : List UInt8} (hl : s.length < 900000) :
  WpR cfgS ops dst k T S F Q (some (.enter 97 [.d (.str s)])) = WpL cfgS ops k (putT T dst (.tup [.d (.sl ((zV s).1.map .str)), .d (.int .i64 (zV s).2)])) S F Q :=
 jI (ds := [.str s]) rfl (lift rfl (zfp s hl))
theorem ztx {ops : Array Oper} {dst : Option Tmp} {k : List Oper} {T : List V} {S : zA} {F : Dfs} {Q : Post} {s : List UInt8} (hl : s.length < 900000) :
  WpR cfgS ops dst k T S F Q (some (.enter 101 [.d (.str s)])) = WpL cfgS ops k (putT T dst (.tup [.d (.sl ((upN s).1.map .str)), .d (.str (upN s).2.1), .d (.int .i64 (upN s).2.2)])) S F Q :=
 jI (ds := [.str s]) rfl (lift rfl (q1l s hl))
theorem go1S (S0 : zA) (a m : Nat) (hT0 : Tree S0 a m A B t) (hT : Told t) (k0 : Nat) (hk0 : k0 < 300000) (hS : Small k0 t) (ps : List (List UInt8)) (hl : ps.length < 1000000) : EvS cfgS 99 [.ref a 0 0, .d (.sl (ps.map .str))] S0 (EndS S0 t A B (goN t ps 1)) := by
 refine wJ rfl zys ?_
 show Wp cfgS (Try.f99.body.getD .skip) ((.ref a 0 0) :: (.d (.sl (ps.map .str))) :: uZ (uZ (uZ (uZ ((.tup []) :: (.tup []) :: (.tup []) :: (.tup []) :: (.tup []) :: []))))) S0 [] _
 unfold uZ
 conv => arg 2; whnf
 rw [qQ]
 have hra := hT0.row
 have hra1 : ∀ l, rowE (S0 ++ l) a 0 = some (.agg [.mr m]) := fun l => (z0d (zZ hT0.cell)).trans hra
 have hlk := fun x => ((hT0.keep (Keep.app (l := [Ob.row [zD zM (.ts []) (.ts [])] 32]))).st.look x).2
 have z32' : zeroV Try.prog 32 = some (zD zM (.ts []) (.ts [])) := z32
 have zf32 : qD Try.prog 32 (zD zM (.ts []) (.ts [])) = true := by kernel_rfl
 simp (maxSteps:=1000000) (disch:=first|assumption|omega|rfl) only [↓gp, gc, Nat.reduceAdd, hPS, zagg, zf32, qI, vB, wX, hra, hra1, hlk, svz, sv, zL, zI]
 refine q0h S0 a m A B t hT0 hT k0 hk0 hS ps hl (zD zM (.ts []) (.ts [])) S0.length (S0 ++ [Ob.row [zD zM (.ts []) (.ts [])] 32]).length (by simp) (by omega) (by simp) _ _ _ _ ps.length 0 1 _ _ _ _ _ _ _ _ _ _ _ _ _ _ _ _ _ _ _ _ _ _ _ _ _ _ _ _ _ _ _ _ _ _ _ _ _ _ rfl (by omega) (Keep.app.trans Keep.app) (qA qK) qK ?_ ?_
 ·intro d' i' S g7 g8 g9 gP gQ gM gF gD gA gB gK gE gL gI gJ gN gO gR gS gT gX gW gU gV gZ gY gi gf gg gh gj gk gm gn gr hY hZ hg hK h4 h5
  have hr4 := zC h4
  have hr5 := zC h5
  have hpr4 := fun y => qG (y := y) h4
  simp (maxSteps:=1000000) (disch:=first|assumption|omega|rfl) only [↓gp, gc, Nat.reduceAdd, hPS, hr4, hr5, lv, sv, hpr4]
  rw [List.drop_zero] at hg
  rw [hg]
  refine ⟨rfl, _, z5k (kD h4), hK.set (by omega), ?_⟩
  rw [if_pos rfl]
 ·intro T S e he h0 hK
  rw [List.drop_zero] at he
  refine ⟨rfl, hK, ?_⟩
  rw [if_neg (by rw [he]; exact h0), he]
  rfl
theorem z9p {ops : Array Oper} {dst : Option Tmp} {l : List Oper} {T : List V} {S : zA} {F : Dfs} {Q : Post} {f : FuncId} {args : List V} {q : Int × Int} (hs : cfgS.shared f = true) (he : EvS cfgS f args S (EndS S t A B q))
  (h0 : q.2 = 0 → ∀ S', Keep S S' → WpL cfgS ops l (putT T dst (zD (getN t q.1) (A q.1) (B q.1))) S' F Q) (h1 : q.2 ≠ 0 → ∀ S', Keep S S' → Q (.pan (.d (.iface 41 (.int .i64 q.2)))) T S' F) : WpR cfgS ops dst l T S F Q (some (.enter f args)) := by
 refine jB hs he ?_ ?_
 ·rintro v S' ⟨hK, hv⟩
  split at hv
  ·rename_i h; cases hv; exact h0 h S' hK
  ·cases hv
 ·rintro v S' ⟨hK, hv⟩
  split at hv
  ·cases hv
  ·rename_i h; cases hv; exact h1 h S' hK
theorem EvS.weak {C : Cfg} {f : FuncId} {args : List V} {S : zA} {R R' : Out → zA → Prop} (h : EvS C f args S R) (hR : ∀ o S', R o S' → R' o S') : EvS C f args S R' := by
 obtain ⟨n, o, S', h1, h2⟩ := h
 exact ⟨n, o, S', h1, hR _ _ h2⟩
theorem zq1 (S0 : zA) (a m : Nat) (hT0 : Tree S0 a m A B t) (hT : Told t) (k0 : Nat) (hk0 : k0 < 300000) (hS : Small k0 t) (s : List UInt8) (hl : s.length < 900000) : EvS cfgS 60 [.ref a 0 0, .d (.str s)] S0 (EndS S0 t A B (zN t s)) := by
 have hn := z7k s
 have hn' : (zV s).1.length < 1000000 := by omega
 refine wJ rfl zw9 ?_
 show Wp cfgS (Try.f60.body.getD .skip) ((.ref a 0 0) :: (.d (.str s)) :: uZ ((.tup []) :: (.tup []) :: (.tup []) :: (.tup []) :: (.tup []) :: [])) S0 [] _
 unfold uZ
 conv => arg 2; whnf
 rw [qQ]
 by_cases h : (zV s).2 = 0
 ·have hr : zN t s = goN t (zV s).1 1 := if_neg (by simp [h])
  rw [hr]
  have hTk := hT0.keep (Keep.app (l := [Ob.row [zD zM (.ts []) (.ts [])] 32]))
  simp (maxSteps:=1000000) (disch:=first|assumption|omega|rfl) only [↓gp, gc, Nat.reduceAdd, hPS, zagg, z32v, kV, zii, zi1 h]
  refine z9p rfl (go1S _ a m hTk hT k0 hk0 hS _ hn') ?_ ?_
  ·intro h0 S' hK
   have h4 := hK _ _ (qK (S := S0) (o := Ob.row [zD zM (.ts []) (.ts [])] 32))
   have hr4 := zC h4
   have hpr4 := fun y => qG (y := y) h4
   simp (maxSteps:=1000000) (disch:=first|assumption|omega|rfl) only [↓gp, gc, Nat.reduceAdd, hPS, hr4, sv, hpr4]
   refine ⟨rfl, _, z5k (kD h4), (Keep.app.trans hK).set (by omega), ?_⟩
   rw [if_pos h0]
  ·intro h0 S' hK
   refine ⟨rfl, Keep.app.trans hK, ?_⟩
   rw [if_neg h0]
   rfl
 ·have hr : zN t s = (0, (zV s).2) := if_pos h
  rw [hr]
  simp (maxSteps:=1000000) (disch:=first|assumption|omega|rfl) only [↓gp, gc, Nat.reduceAdd, hPS, zagg, z32v, kV, zii, zcb h]
  refine ⟨rfl, Keep.app, ?_⟩
  rw [if_neg h]
  rfl
theorem q1j (S0 : zA) (a m : Nat) (hT0 : Tree S0 a m A B t) (hT : Told t) (k0 : Nat) (hk0 : k0 < 300000) (hS : Small k0 t) (s : List UInt8) (hl : s.length < 900000) : EvS cfgS 107 [.ref a 0 0, .d (.str s)] S0 (EndS S0 t A B (if (zN t s).2 ≠ 0 then zN t s else if (getN t (zN t s).1).kind = 2 then (0, 7) else zN t s)) := by
 refine wJ rfl zv5 ?_
 show Wp cfgS (Try.f107.body.getD .skip) ((.ref a 0 0) :: (.d (.str s)) :: uZ ((.tup []) :: (.tup []) :: [])) S0 [] _
 unfold uZ
 conv => arg 2; whnf
 rw [qQ]
 have hTk := hT0.keep (Keep.app (l := [Ob.row [zD zM (.ts []) (.ts [])] 32]))
 simp (maxSteps:=1000000) (disch:=first|assumption|omega|rfl) only [↓gp, gc, Nat.reduceAdd, hPS, zagg, z32v, kV]
 refine z9p rfl (zq1 _ a m hTk hT k0 hk0 hS s hl) ?_ ?_
 ·intro h0 S' hK
  have h4 := hK _ _ (qK (S := S0) (o := Ob.row [zD zM (.ts []) (.ts [])] 32))
  have hlt := zZ h4
  have hr4 := zC h4
  have hr4' : ∀ l, rowE (S' ++ l) S0.length 0 = some (zD zM (.ts []) (.ts [])) := fun l => (z0d hlt).trans hr4
  have hpr4 := fun (l : zA) y => qG (y := y) (qA (l := l) h4)
  rw [if_neg (by simp [h0])]
  by_cases hc : (getN t (zN t s).1).kind = 2
  ·have h7 : (7 : Int) ≠ 0 := by omega
   rw [if_pos hc]
   simp (maxSteps:=1000000) (disch:=first|assumption|omega|rfl) only [↓gp, gc, Nat.reduceAdd, hPS, zagg, z32v, kV, svz, sv, lv, lv1, zL, zI, jX h7]
   refine ⟨rfl, (Keep.app.trans hK).trans Keep.app, ?_⟩
   rfl
  ·rw [if_neg hc]
   simp (maxSteps:=1000000) (disch:=first|assumption|omega|rfl) only [↓gp, gc, Nat.reduceAdd, hPS, zagg, z32v, kV, svz, sv, lv, lv1, zL, zI, jK, hr4', hpr4]
   refine ⟨rfl, _, z5k (kD (qA h4)), ((Keep.app.trans hK).trans Keep.app).set (by omega), ?_⟩
   rw [if_pos h0]
 ·intro h0 S' hK
  refine ⟨rfl, Keep.app.trans hK, ?_⟩
  rw [if_pos h0, if_neg h0]
  rfl
end
end Go.Proofs.Ytghllhghboaagaa
end
section
namespace Go.Proofs.Ytghllhghboaagaa
open Go.Vm
variable {t : List Node} {A B : Int → V}
def zrb (S0 : zA) (t : List Node) (A B : Int → V) (q : Int × List UInt8 × Int) : Out → zA → Prop := fun o S => Keep S0 S ∧ o = if q.2.2 = 0 then .ret (.tup [zD (getN t q.1) (A q.1) (B q.1), .d (.str q.2.1)]) else panD q.2.2
theorem z5p {ops : Array Oper} {dst : Option Tmp} {l : List Oper} {T : List V} {S : zA} {F : Dfs} {Q : Post} {f : FuncId} {args : List V} {q : Int × List UInt8 × Int} (hs : cfgS.shared f = true) (he : EvS cfgS f args S (zrb S t A B q))
  (h0 : q.2.2 = 0 → ∀ S', Keep S S' → WpL cfgS ops l (putT T dst (.tup [zD (getN t q.1) (A q.1) (B q.1), .d (.str q.2.1)])) S' F Q) (h1 : q.2.2 ≠ 0 → ∀ S', Keep S S' → Q (.pan (.d (.iface 41 (.int .i64 q.2.2)))) T S' F) : WpR cfgS ops dst l T S F Q (some (.enter f args)) := by
 refine jB hs he ?_ ?_
 ·rintro v S' ⟨hK, hv⟩
  split at hv
  ·rename_i h; cases hv; exact h0 h S' hK
  ·cases hv
 ·rintro v S' ⟨hK, hv⟩
  split at hv
  ·cases hv
  ·rename_i h; cases hv; exact h1 h S' hK
theorem zx7 {S : zA} {T : List V} {x y : Nat} {v w u : V} (hx : T.getD x (.tup []) = u) (hl : jP Try.prog S 32 u = some v) (hy : T.getD y (.tup []) = w) (h1 : v.one = true) (h2 : w.one = true) : jF Try.prog #[.cell x 32, .tmp y] T S = some (.tup [v, w]) := by
 simp only [jF, allO, wH, hx, hl, hy, List.all_cons, List.all_nil, h1, h2, Bool.and_self, if_true]
theorem zf9 (S0 : zA) (a m : Nat) (hT0 : Tree S0 a m A B t) (hT : Told t) (k0 : Nat) (hk0 : k0 < 300000) (hS : Small k0 t) (s : List UInt8) (hl : s.length < 900000) : EvS cfgS 64 [.ref a 0 0, .d (.str s)] S0 (zrb S0 t A B (zQ t s)) := by
 have hn := z7k s
 generalize hr : zQ t s = r
 unfold zQ at hr
 have hu : upN s = upN s := rfl
 conv at hu => rhs; unfold upN
 refine wJ rfl zxr ?_
 show Wp cfgS (Try.f64.body.getD .skip) ((.ref a 0 0) :: (.d (.str s)) :: uZ (uZ ((.tup []) :: (.tup []) :: (.tup []) :: (.tup []) :: (.tup []) :: []))) S0 [] _
 unfold uZ
 conv => arg 2; whnf
 rw [qQ]
 have hTk := hT0.keep (Keep.app (l := [Ob.row [zD zM (.ts []) (.ts [])] 32]))
 by_cases h : (zV s).2 = 0
 ·rw [if_neg (by simp [h])] at hr hu
  by_cases h0 : (zV s).1.length = 0
  ·rw [if_pos h0] at hr hu
   subst hr
   have h15 : (upN s).2.2 ≠ 0 := by rw [hu]; simp
   have e15 : (upN s).2.2 = 15 := by rw [hu]
   simp (maxSteps:=1000000) (disch:=first|assumption|omega|rfl) only [↓gp, gc, Nat.reduceAdd, hPS, zagg, z32v, kV, ztx, zcb h15]
   rw [e15]
   exact ⟨rfl, Keep.app, rfl⟩
  ·rw [if_neg h0] at hr hu
   have e0 : (upN s).2.2 = 0 := by rw [hu]
   have e1 : (upN s).1 = (zV s).1.take ((zV s).1.length - 1) := by rw [hu]
   have e2 : (upN s).2.1 = (zV s).1.getD ((zV s).1.length - 1) [] := by rw [hu]
   rw [← e1, ← e2] at hr
   have hul : (upN s).1.length < 1000000 := by rw [e1, List.length_take]; omega
   simp (maxSteps:=1000000) (disch:=first|assumption|omega|rfl) only [↓gp, gc, Nat.reduceAdd, hPS, zagg, z32v, kV, ztx, zi1 e0]
   refine z9p rfl (go1S _ a m hTk hT k0 hk0 hS _ hul) ?_ ?_
   ·intro h2 S' hK
    rw [if_neg (by simp [h2])] at hr
    have h4 := hK _ _ (qK (S := S0) (o := Ob.row [zD zM (.ts []) (.ts [])] 32))
    have hlt := zZ h4
    have hr4 := zC h4
    have hr4' : ∀ l, rowE (S' ++ l) S0.length 0 = some (zD zM (.ts []) (.ts [])) := fun l => (z0d hlt).trans hr4
    have hpr4 := fun (l : zA) y => qG (y := y) (qA (l := l) h4)
    by_cases h3 : (getN t (goN t (upN s).1 1).1).kind = 2
    ·rw [if_neg (by simp [h3])] at hr
     subst hr
     simp (maxSteps:=1000000) (disch:=first|assumption|omega|rfl) only [↓gp, gc, Nat.reduceAdd, hPS, zagg, z32v, kV, svz, sv, lv, lv1, zL, zI, jK, hr4', hpr4]
     exact ⟨rfl, _, zx7 rfl (z5k (kD (qA h4))) rfl rfl rfl, ((Keep.app.trans hK).trans Keep.app).set (by omega), rfl⟩
    ·rw [if_pos h3] at hr
     subst hr
     have h6 : (6 : Int) ≠ 0 := by omega
     simp (maxSteps:=1000000) (disch:=first|assumption|omega|rfl) only [↓gp, gc, Nat.reduceAdd, hPS, zagg, z32v, kV, svz, sv, lv, lv1, zL, zI, jX h6]
     exact ⟨rfl, (Keep.app.trans hK).trans Keep.app, rfl⟩
   ·intro h2 S' hK
    rw [if_pos h2] at hr
    subst hr
    refine ⟨rfl, Keep.app.trans hK, ?_⟩
    rw [if_neg h2]
    rfl
 ·rw [if_pos h] at hr hu
  subst hr
  have he : (upN s).2.2 ≠ 0 := by rw [hu]; exact h
  have e15 : (upN s).2.2 = (zV s).2 := by rw [hu]
  simp (maxSteps:=1000000) (disch:=first|assumption|omega|rfl) only [↓gp, gc, Nat.reduceAdd, hPS, zagg, z32v, kV, ztx, zcb he]
  rw [e15]
  refine ⟨rfl, Keep.app, ?_⟩
  rw [if_neg h]
  rfl
theorem fv3 {n : Node} {a b : V} : z3r Try.prog 32 3 (zD n a b) = some (.d (.int .i64 n.parent)) := by kernel_rfl
theorem St.lenm {g : Int → Prop} {S : zA} {m : Nat} (h : St g S m A B t) : zY Try.prog S .len [125] [.mr m] = some (.val (.d (.int .i64 t.length)) S 1) := by
 obtain ⟨L, c, h1, h2, _⟩ := h.mp
 simp only [zY, Try.underlying125, jZ, h1, List.length_map, h2]
theorem zsy (S0 : zA) (a m : Nat) (hT0 : Tree S0 a m A B t) (hl : t.length < 400000) (R : Post) (g1 g2 : V) : ∀ (k : Nat) (i : Int) (S : zA) (v4 v5 g6 g7 g8 g9 gP gQ gM gF gD gG gH gC gA gB : V), jE t - i = k → 2 ≤ i → Keep S0 S →
 (∀ (S : zA) (g4 g5 g6 g7 g8 g9 gP gQ gM gF gD gG gH gC gA gB : V), Keep S0 S → R .ret ((.ref a 0 0) :: g1 :: (.d (.int .i64 (jE t))) :: (.d (.int .i64 (jE t))) :: g4 :: g5 :: g6 :: g7 :: g8 :: g9 :: gP :: gQ :: gM :: gF :: gD :: gG :: gH :: gC :: gA :: gB :: []) S []) →
 Wp cfgS (.loop (lpOf (Try.f66.body.getD .skip) 0)) ((.ref a 0 0) :: g1 :: g2 :: (.d (.int .i64 i)) :: v4 :: v5 :: g6 :: g7 :: g8 :: g9 :: gP :: gQ :: gM :: gF :: gD :: gG :: gH :: gC :: gA :: gB :: []) S [] R := by
 obtain ⟨hn1, hn2, hn3⟩ := z0g t
 intro k
 induction k with
 | zero =>
  intro i S v4 v5 g6 g7 g8 g9 gP gQ gM gF gD gG gH gC gA gB hk hi hK hR
  have hie : i = jE t := by omega
  have hno : hasN t i = false := by
   rw [hie]
   unfold hasN
   rw [List.find?_eq_none.2 (fun n hn => by simpa using hn1 n hn)]
   rfl
  have hTS := hT0.keep hK
  have hra := hTS.row
  have hlk := fun x => (hTS.st.look x).1
  rw [qQ]
  refine qC ?_
  conv => arg 2; whnf
  simp (maxSteps:=1000000) (disch:=first|assumption|omega|rfl) only [↓gp, gc, Nat.reduceAdd, hPS, zagg, z32v, kV, qI, vB, wX, hra, hlk, hno, svz, sv, zL, zI, z19, Bool.not_false]
  rw [hie]
  exact hR _ _ _ _ _ _ _ _ _ _ _ _ _ _ _ _ _ (hK.trans Keep.app)
 | succ k ih =>
  intro i S v4 v5 g6 g7 g8 g9 gP gQ gM gF gD gG gH gC gA gB hk hi hK hR
  have hyes : hasN t i = true := z92 (t := t) (k := t.length + 1) (i := 2) hi (by show i < jE t; omega)
  have hTS := hT0.keep hK
  have hra := hTS.row
  have hlk := fun x => (hTS.st.look x).1
  rw [qQ]
  refine qC ?_
  conv => arg 2; whnf
  simp (maxSteps:=1000000) (disch:=first|assumption|omega|rfl) only [↓gp, gc, Nat.reduceAdd, hPS, zagg, z32v, kV, qI, vB, wX, hra, hlk, hyes, svz, sv, zL, zI, z19, Bool.not_true]
  exact ih (i + 1) _ _ _ _ _ _ _ _ _ _ _ _ _ _ _ _ _ (by omega) (by omega) (hK.trans Keep.app) hR
theorem q2o (S0 : zA) (a m : Nat) (hT0 : Tree S0 a m A B t) (hl : t.length < 400000) : EvS cfgS 66 [.ref a 0 0] S0 fun o S => Keep S0 S ∧ o = .ret (.d (.int .i64 (jE t))) := by
 refine wJ rfl zwn ?_
 show Wp cfgS (Try.f66.body.getD .skip) ((.ref a 0 0) :: uZ ((.tup []) :: (.tup []) :: (.tup []) :: (.tup []) :: (.tup []) :: (.tup []) :: (.tup []) :: (.tup []) :: (.tup []) :: [])) S0 [] _
 unfold uZ
 conv => arg 2; whnf
 rw [qQ]
 obtain ⟨hn1, hn2, hn3⟩ := z0g t
 simp (maxSteps:=1000000) (disch:=first|assumption|omega|rfl) only [↓gp, gc, Nat.reduceAdd, hPS]
 refine zsy S0 a m hT0 hl _ _ _ (jE t - 2).toNat 2 _ _ _ _ _ _ _ _ _ _ _ _ _ _ _ _ _ (by omega) (by omega) Keep.refl ?_
 intro S g4 g5 g6 g7 g8 g9 gP gQ gM gF gD gG gH gC gA gB hK
 simp (maxSteps:=1000000) (disch:=first|assumption|omega|rfl) only [↓gp, gc, Nat.reduceAdd, hPS]
 exact ⟨rfl, _, rfl, hK, rfl⟩
theorem zp7 (S0 : zA) (a m : Nat) (hT0 : Tree S0 a m A B t) (hl : t.length < 400000) (top : Int) (R : Post) (g3 g4 g5 g6 : V) : ∀ (k i : Nat) (d : Int) (g8 g9 gP gQ gM gF gD gG gH gC gA gB gK gE gL gI gJ gN gO : V), t.length + 1 - i = k → i ≤ t.length + 1 →
 (∀ v1 v7 g8 g9 gP gQ gM gF gD gG gH gC gA gB gK gE gL gI gJ gN gO, z0c t top k d = false → R (.exit 0) ((.ref a 0 0) :: v1 :: (.d (.int .i64 top)) :: g3 :: g4 :: g5 :: g6 :: v7 :: g8 :: g9 :: gP :: gQ :: gM :: gF :: gD :: gG :: gH :: gC :: gA :: gB :: gK :: gE :: gL :: gI :: gJ :: gN :: gO :: []) S0 []) →
 (∀ v1 v7 g8 g9 gP gQ gM gF gD gG gH gC gA gB gK gE gL gI gJ gN gO, z0c t top k d = true → R .ret ((.ref a 0 0) :: v1 :: (.d (.int .i64 top)) :: g3 :: g4 :: g5 :: (.d (.bool true)) :: v7 :: g8 :: g9 :: gP :: gQ :: gM :: gF :: gD :: gG :: gH :: gC :: gA :: gB :: gK :: gE :: gL :: gI :: gJ :: gN :: gO :: []) S0 []) →
 Wp cfgS (.loop (lpOf (Try.f109.body.getD .skip) 0)) ((.ref a 0 0) :: (.d (.int .i64 d)) :: (.d (.int .i64 top)) :: g3 :: g4 :: g5 :: g6 :: (.d (.int .i64 i)) :: g8 :: g9 :: gP :: gQ :: gM :: gF :: gD :: gG :: gH :: gC :: gA :: gB :: gK :: gE :: gL :: gI :: gJ :: gN :: gO :: []) S0 [] R := by
 have hra := hT0.row
 have hlk := fun x => (hT0.st.look x).2
 have hlm := hT0.st.lenm
 intro k
 induction k with
 | zero =>
  intro i d g8 g9 gP gQ gM gF gD gG gH gC gA gB gK gE gL gI gJ gN gO hk hi hE hR
  have hie : i = t.length + 1 := by omega
  subst hie
  have hx : ¬ ((t.length + 1 : Nat) : Int) ≤ (t.length : Int) := by omega
  rw [qQ]
  refine qC ?_
  conv => arg 2; whnf
  simp (maxSteps:=1000000) (disch:=first|assumption|omega|rfl) only [↓gp, gc, Nat.reduceAdd, hPS, qI, vB, wX, hra, hlm]
  exact hE _ _ _ _ _ _ _ _ _ _ _ _ _ _ _ _ _ _ _ _ _ rfl
 | succ k ih =>
  intro i d g8 g9 gP gQ gM gF gD gG gH gC gA gB gK gE gL gI gJ gN gO hk hi hE hR
  have hx : (i : Int) ≤ (t.length : Int) := by omega
  rw [qQ]
  refine qC ?_
  conv => arg 2; whnf
  by_cases hd : d = top
  ·simp (maxSteps:=1000000) (disch:=first|assumption|omega|rfl) only [↓gp, gc, Nat.reduceAdd, hPS, qI, vB, wX, hra, hlm]
   exact hR _ _ _ _ _ _ _ _ _ _ _ _ _ _ _ _ _ _ _ _ _ (by simp [z0c, hd])
  ·have e : z0c t top (k + 1) d = z0c t top k (getN t d).parent := by simp only [z0c, hd, if_false]
   rw [e] at hE hR
   simp (maxSteps:=1000000) (disch:=first|assumption|omega|rfl) only [↓gp, gc, Nat.reduceAdd, hPS, qI, vB, wX, hra, hlm, hlk, fv3]
   exact ih (i + 1) _ _ _ _ _ _ _ _ _ _ _ _ _ _ _ _ _ _ _ _ (by omega) (by omega) hE hR
theorem zrg (S0 : zA) (a m : Nat) (hT0 : Tree S0 a m A B t) (hl : t.length < 400000) (d top : Int) : EvS cfgS 109 [.ref a 0 0, .d (.int .i64 d), .d (.int .i64 top)] S0 fun o S => S = S0 ∧ o = .ret (.d (.bool (z0c t top (t.length + 1) d))) := by
 refine wJ rfl zv6 ?_
 show Wp cfgS (Try.f109.body.getD .skip) ((.ref a 0 0) :: (.d (.int .i64 d)) :: (.d (.int .i64 top)) :: uZ (uZ ((.tup []) :: (.tup []) :: (.tup []) :: (.tup []) :: []))) S0 [] _
 unfold uZ
 conv => arg 2; whnf
 rw [qQ]
 simp (maxSteps:=1000000) (disch:=first|assumption|omega|rfl) only [↓gp, gc, Nat.reduceAdd, hPS]
 refine zp7 S0 a m hT0 hl top _ _ _ _ _ (t.length + 1) 0 d _ _ _ _ _ _ _ _ _ _ _ _ _ _ _ _ _ _ _ rfl (by omega) ?_ ?_
 ·intro v1 v7 g8 g9 gP gQ gM gF gD gG gH gC gA gB gK gE gL gI gJ gN gO h
  simp (maxSteps:=1000000) (disch:=first|assumption|omega|rfl) only [↓gp, gc, Nat.reduceAdd, hPS]
  exact ⟨rfl, _, rfl, rfl, by rw [h]; rfl⟩
 ·intro v1 v7 g8 g9 gP gQ gM gF gD gG gH gC gA gB gK gE gL gI gJ gN gO h
  simp (maxSteps:=1000000) (disch:=first|assumption|omega|rfl) only [↓gp, gc, Nat.reduceAdd, hPS]
  exact ⟨rfl, _, rfl, rfl, by rw [h]; rfl⟩
end Go.Proofs.Ytghllhghboaagaa
end
section
namespace Go.Vm
open Go
section
variable (C : Cfg) (ops : Array Oper) (base : Nat)
abbrev Ws := List (Nat × List V × V)
def WOne (i : Nat) (S' : zA) (w : Nat × List V × V) : Prop := ((befs ops).getD i 0).testBit w.1 = true ∨ ∃ o n v S2, ops[w.1]? = some o ∧ effC C (run C n) ops (base + w.1) o w.2.1 S' = some (v, S2, 1) ∧ z24 w.2.2 v = true
def WAll (ws : Ws) (i : Nat) (S' : zA) : Prop := ∀ w ∈ ws, WOne C ops base i S' w
def WpEw (K : Ws → List (Nat × Nat) → List V → zA → Prop) (ws : Ws) (cs : List (Nat × Nat)) (i : Nat) (dst : Option Tmp) (T : List V) (S : zA) : Option Rs → Prop
 | some (.val v S' c) => (2 < num2 c → WAll C ops base ws i S') ∧ K (if num2 c = 1 then (i, T, v) :: ws else ws) (cs ++ [(i, num2 c)]) (putT T dst v) S'
 | some (.skip S' _) => WAll C ops base ws i S' ∧ K ws (cs ++ [(i, 3)]) (putT T dst (.tup [])) S'
 | some (.enter f args) => ∃ n v S' c, kR C (run C n) f args S = some (.ret v, S', c) ∧ (2 < num2 c → WAll C ops base ws i S') ∧ K (if num2 c = 1 then (i, T, v) :: ws else ws) (cs ++ [(i, num2 c)]) (putT T dst v) S'
 | _ => False
def WpDw (F : Dfs) (Q : Post) : Ws → List (Nat × Nat) → List Nat → List V → zA → Prop
 | ws, cs, [], T, S => z3z ops cs = true ∧ Q .norm T S F
 | ws, cs, i :: is, T, S => match ops[i]? with
  | none => False
  | some o => match qB ops T o with
   | none => False
   | some false => WpDw F Q ws (cs ++ [(i, 0)]) is (putT T o.dst (.tup [])) S
   | some true => if kS o = true then WpA base (fun cs T S => WpDw F Q ws cs is T S) cs i o.dst T S (addO C.P T o)
    else WpEw C ops base (fun ws cs T S => WpDw F Q ws cs is T S) ws cs i o.dst T S (opV C.P S T o)
end
section
variable {C : Cfg} {ops : Array Oper} {base : Nat} {F : Dfs} {Q : Post}
theorem zht {i : Nat} {S' : zA} : ∀ {ws : Ws}, WAll C ops base ws i S' → ∃ n, ∀ m, n ≤ m → ws.all (kG C (run C m) ops (befs ops) base i S') = true
 | [], _ => ⟨0, fun _ _ => rfl⟩
 | w :: ws, h => by
  obtain ⟨n, hn⟩ := zht (ws := ws) fun x hx => h x (List.mem_cons_of_mem _ hx)
  rcases h w List.mem_cons_self with h1 | ⟨o, k, v, S2, h1, h2, h3⟩
  ·refine ⟨n, fun m hm => ?_⟩
   simp only [List.all_cons, hn m hm, Bool.and_true, kG, h1, Bool.true_or]
  ·refine ⟨max n k, fun m hm => ?_⟩
   have he := z07 (z4l C (show k ≤ m by omega)) h2
   simp only [List.all_cons, hn m (by omega), Bool.and_true, kG, h1, he, h3, Bool.or_true]
theorem zru : ∀ {is : List Nat} {ws : Ws} {cs : List (Nat × Nat)} {T : List V} {S : zA}, WpDw C ops base F Q ws cs is T S → ∃ n T' S' cs', seqC C (run C n) ops (befs ops) base ws is T S = some (T', S', cs') ∧ z3z ops (cs ++ cs') = true ∧ Q .norm T' S' F
 | [], ws, cs, T, S, h => ⟨0, T, S, [], rfl, by simpa [WpDw] using h.1, h.2⟩
 | i :: is, ws, cs, T, S, h => by
  have go : ∀ (n : Nat) (o : Oper) (v : V) (S' : zA) (c : Nat), ops[i]? = some o → effC C (run C n) ops (base + i) o T S = some (v, S', c) → (2 < c → WAll C ops base ws i S') → WpDw C ops base F Q (if c = 1 then (i, T, v) :: ws else ws) (cs ++ [(i, c)]) is (putT T o.dst v) S' →
    ∃ n T' S' cs', seqC C (run C n) ops (befs ops) base ws (i :: is) T S = some (T', S', cs') ∧ z3z ops (cs ++ cs') = true ∧ Q .norm T' S' F := by
   intro n o v S' c ho he hb hd
   obtain ⟨m, T2, S2, cs2, h1, h2, h3⟩ := zru hd
   have hw : ∃ k, 2 < c → ∀ m, k ≤ m → ws.all (kG C (run C m) ops (befs ops) base i S') = true := by
    by_cases hc : 2 < c
    ·obtain ⟨k, hk⟩ := zht (hb hc)
     exact ⟨k, fun _ => hk⟩
    ·exact ⟨0, fun h => absurd h hc⟩
   obtain ⟨k, hk⟩ := hw
   refine ⟨max (max n m) k, T2, S2, (i, c) :: cs2, ?_, by simpa using h2, h3⟩
   have he' := z07 (z4l C (show n ≤ max (max n m) k by omega)) he
   have h1' := z6q (z4l C (show m ≤ max (max n m) k by omega)) h1
   simp only [seqC, ho, he']
   rw [if_neg, h1']
   rintro ⟨hc, hall⟩
   rw [hk hc _ (by omega)] at hall
   cases hall
  simp only [WpDw] at h
  cases ho : ops[i]? with
  | none => simp [ho] at h
  | some o =>
   simp only [ho] at h
   cases hwt : qB ops T o with
   | none => simp [hwt] at h
   | some b =>
    simp only [hwt] at h
    cases b with
    | false => exact go 0 o (.tup []) S 0 ho (by simp [effC, hwt]) (fun hc => by omega) h
    | true =>
     cases hk : kS o with
     | true =>
      simp only [hk, if_true] at h
      cases hadd : addO C.P T o with
      | none => simp [hadd, WpA] at h
      | some q =>
       obtain ⟨ob, f⟩ := q
       simp only [hadd, WpA] at h
       exact go 0 o (f (base + i)) (S.set (base + i) ob) 2 ho (by simp [effC, hwt, hk, hadd, h.1]) (fun hc => by omega) h.2
     | false =>
      simp only [hk, Bool.false_eq_true, if_false] at h
      cases hop : opV C.P S T o with
      | none => simp [hop, WpEw] at h
      | some r =>
       simp only [hop] at h
       cases r with
       | val v S' c => exact go 0 o v S' (num2 c) ho (by simp [effC, hwt, hk, hop]) h.1 h.2
       | skip S' c => exact go 0 o (.tup []) S' 3 ho (by simp [effC, hwt, hk, hop]) (fun _ => h.1) h.2
       | enter f args =>
        obtain ⟨n, v, S', c, h1, h2, h3⟩ := h
        exact go n o v S' (num2 c) ho (by simp [effC, hwt, hk, hop, h1]) h2 h3
       | dfr f args => exact h.elim
       | pan v => exact h.elim
theorem kK {id : Nat} {T : List V} {S : zA} {is : List Nat} {h : Nat} (ho : z29 C.shared ops = is) (hh : z03 ops = h) (hd : WpDw C ops S.length F Q [] [] is T (S ++ List.replicate h .hole)) : Wp C (.region id ops true) T S F Q := by
 subst ho; subst hh
 obtain ⟨n, T', S', cs', h1, h2, h3⟩ := zru hd
 exact ⟨n + 1, .norm, T', S', F, by simp only [exec, h1]; rw [if_pos (by simpa using h2)], h3⟩
theorem qO {i : Nat} {S' : zA} : WAll C ops base [] i S' := fun w hw => by cases hw
theorem zE {i : Nat} {S' : zA} {w : Nat × List V × V} {ws : Ws} (h : ((befs ops).getD i 0).testBit w.1 = true) (hw : WAll C ops base ws i S') : WAll C ops base (w :: ws) i S' := fun x hx => by
 rcases List.mem_cons.1 hx with rfl | hx
 ·exact .inl h
 ·exact hw x hx
theorem jJ {i j : Nat} {S' : zA} {T : List V} {v : V} {ws : Ws} {o : Oper} (ho : ops[j]? = some o) (hwt : qB ops T o = some true) (ha : kS o = false) (hop : opV C.P S' T o = some (.val v S' 1)) (hs : z24 v v = true) (hw : WAll C ops base ws i S') : WAll C ops base ((j, T, v) :: ws) i S' := fun x hx => by
 rcases List.mem_cons.1 hx with rfl | hx
 ·exact .inr ⟨o, 0, v, S', ho, by simp [effC, hwt, ha, hop, num2], hs⟩
 ·exact hw x hx
def WpXw (C : Cfg) (ops : Array Oper) (base : Nat) (F : Dfs) (Q : Post) (ws : Ws) (cs : List (Nat × Nat)) (i : Nat) (is : List Nat) (T : List V) (S : zA) (o : Oper) : Bool → Prop
 | true => WpA base (fun cs T S => WpDw C ops base F Q ws cs is T S) cs i o.dst T S (addO C.P T o)
 | false => WpEw C ops base (fun ws cs T S => WpDw C ops base F Q ws cs is T S) ws cs i o.dst T S (opV C.P S T o)
def WpOw (C : Cfg) (ops : Array Oper) (base : Nat) (F : Dfs) (Q : Post) (ws : Ws) (cs : List (Nat × Nat)) (i : Nat) (is : List Nat) (T : List V) (S : zA) (o : Oper) : Option Bool → Prop
 | none => False
 | some false => WpDw C ops base F Q ws (cs ++ [(i, 0)]) is (putT T o.dst (.tup [])) S
 | some true => WpXw C ops base F Q ws cs i is T S o (kS o)
def WpIw (C : Cfg) (ops : Array Oper) (base : Nat) (F : Dfs) (Q : Post) (ws : Ws) (cs : List (Nat × Nat)) (i : Nat) (is : List Nat) (T : List V) (S : zA) : Option Oper → Prop
 | none => False
 | some o => WpOw C ops base F Q ws cs i is T S o (qB ops T o)
section
variable {ws : Ws} {cs : List (Nat × Nat)} {i : Nat} {is : List Nat} {T : List V} {S S' : zA} {o : Oper} {K : Ws → List (Nat × Nat) → List V → zA → Prop} {dst : Option Tmp} {v : V} {c : Nat}
theorem dw1 : WpDw C ops base F Q ws cs [] T S = (z3z ops cs = true ∧ Q .norm T S F) := rfl
theorem dw2 : WpDw C ops base F Q ws cs (i :: is) T S = WpIw C ops base F Q ws cs i is T S (ops[i]?) := by
 show (match ops[i]? with
  | none => False
  | some o => match qB ops T o with
   | none => False
   | some false => WpDw C ops base F Q ws (cs ++ [(i, 0)]) is (putT T o.dst (.tup [])) S
   | some true => if kS o = true then WpA base (fun cs T S => WpDw C ops base F Q ws cs is T S) cs i o.dst T S (addO C.P T o)
    else WpEw C ops base (fun ws cs T S => WpDw C ops base F Q ws cs is T S) ws cs i o.dst T S (opV C.P S T o)) = _
 unfold WpIw WpOw
 cases ops[i]? with
 | none => rfl
 | some o =>
  simp only
  cases qB ops T o with
  | none => rfl
  | some b =>
   cases b with
   | false => rfl
   | true => cases kS o <;> rfl
theorem dw3 : WpIw C ops base F Q ws cs i is T S (some o) = WpOw C ops base F Q ws cs i is T S o (qB ops T o) := rfl
theorem dw4 : WpOw C ops base F Q ws cs i is T S o (some false) = WpDw C ops base F Q ws (cs ++ [(i, 0)]) is (putT T o.dst (.tup [])) S := rfl
theorem dw5 : WpOw C ops base F Q ws cs i is T S o (some true) = WpXw C ops base F Q ws cs i is T S o (kS o) := rfl
theorem dw6 : WpXw C ops base F Q ws cs i is T S o false = WpEw C ops base (fun ws cs T S => WpDw C ops base F Q ws cs is T S) ws cs i o.dst T S (opV C.P S T o) := rfl
theorem dw7 : WpXw C ops base F Q ws cs i is T S o true = WpA base (fun cs T S => WpDw C ops base F Q ws cs is T S) cs i o.dst T S (addO C.P T o) := rfl
theorem dw8 : WpEw C ops base K ws cs i dst T S (some (.val v S' 0)) = K ws (cs ++ [(i, 0)]) (putT T dst v) S' := by simp [WpEw, num2]
theorem dw9 : WpEw C ops base K ws cs i dst T S (some (.val v S' 1)) = K ((i, T, v) :: ws) (cs ++ [(i, 1)]) (putT T dst v) S' := by simp [WpEw, num2]
theorem dw10 : WpEw C ops base K ws cs i dst T S (some (.skip S' c)) = (WAll C ops base ws i S' ∧ K ws (cs ++ [(i, 3)]) (putT T dst (.tup [])) S') := rfl
theorem dw11 : WpEw C ops base K ws cs i dst T S (some (.val v S' 2)) = (WAll C ops base ws i S' ∧ K ws (cs ++ [(i, 3)]) (putT T dst v) S') := by simp [WpEw, num2]
theorem dw12 : WpEw C ops base K ws cs i dst T S (some (.val v S' 3)) = (WAll C ops base ws i S' ∧ K ws (cs ++ [(i, 3)]) (putT T dst v) S') := by simp [WpEw, num2]
end
end
end Go.Vm
end
section
namespace Go.Proofs.Ytghllhghboaagaa
open Go.Vm
def KeepL (S S' : zA) : Prop := ∀ (j : Nat) (ys : List V) (e : TypeId), e ≠ 5 → e ≠ 88 → S[j]? = some (.row ys e) → S'[j]? = some (.row ys e)
theorem Keep.toL {S S' : zA} (h : Keep S S') : KeepL S S' := fun j ys e _ _ hj => h j _ hj
theorem KeepL.refl {S : zA} : KeepL S S := fun _ _ _ _ _ h => h
theorem KeepL.trans {S S' S'' : zA} (h : KeepL S S') (h' : KeepL S' S'') : KeepL S S'' := fun j ys e h1 h2 hj => h' j ys e h1 h2 (h j ys e h1 h2 hj)
theorem KeepL.set {S S' : zA} {i : Nat} {o : Ob} (h : KeepL S S') (hi : S.length ≤ i) : KeepL S (S'.set i o) := fun j ys e h1 h2 hj => by
 have := zZ hj
 rw [List.getElem?_set_ne (by omega)]
 exact h j ys e h1 h2 hj
section
variable {α : Type} {enc : α → D} {S S' : zA} {v : V} {e : TypeId} {xs : List α}
theorem SlE.cells (h : SlE enc S v e xs) : v.cells = [v] := by
 rcases h with ⟨rfl, _⟩ | ⟨id, ys, rfl, _⟩ <;> rfl
theorem SlE.one (h : SlE enc S v e xs) : v.one = true := by
 rcases h with ⟨rfl, _⟩ | ⟨id, ys, rfl, _⟩ <;> rfl
theorem SlE.same (h : SlE enc S v e xs) : z24 v v = true := by
 rcases h with ⟨rfl, _⟩ | ⟨id, ys, rfl, _⟩ <;> simp [z24, kY, kX, z00]
theorem SlE.row (h : SlE enc S v e xs) {i : Nat} (hi : idOf v = some i) : ∃ ys, S[i]? = some (.row ys e) := by
 rcases h with ⟨rfl, _⟩ | ⟨id, ys, rfl, h1⟩
 ·cases hi
 ·cases hi; exact ⟨_, h1⟩
theorem SlE.frame2 (h : SlE enc S v e xs) (hf : ∀ (j : Nat) (o : Ob), S[j]? = some o → idOf v = some j → S'[j]? = some o) : SlE enc S' v e xs := by
 rcases h with h | ⟨id, ys, rfl, h1⟩
 ·exact .inl h
 ·exact .inr ⟨id, ys, rfl, hf _ _ h1 rfl⟩
end
section
variable {S S' : zA} {m : Nat} {A B : Int → V} {t : List Node} {x : Int}
abbrev All : Int → Prop := fun _ => True
theorem St.apart (h : St All S m A B t) (x y : Int) (i : Nat) (hi : idOf (A x) = some i) : idOf (B y) ≠ some i := fun hj => by
 obtain ⟨ys, h1⟩ := (h.da x trivial).row hi
 obtain ⟨zs, h2⟩ := (h.na y trivial).row hj
 rw [h1] at h2
 cases h2
theorem St.out (h : St All S m A B t) (hf : ∀ (j : Nat) (o : Ob), S[j]? = some o → idOf (A x) ≠ some j → idOf (B x) ≠ some j → S'[j]? = some o) : St (fun y => True ∧ y ≠ x) S' m A B t := by
 obtain ⟨L, c, h1, h2⟩ := h.mp
 have hm : ∀ v : V, (∀ i, idOf v = some i → ∃ ys e, S[i]? = some (.row ys e)) → idOf v ≠ some m := fun v hv hh => by
  obtain ⟨ys, e, q⟩ := hv m hh
  rw [h1] at q; cases q
 refine ⟨⟨L, c, hf _ _ h1 (hm _ fun i hi => by obtain ⟨ys, q⟩ := (h.da x trivial).row hi; exact ⟨ys, 5, q⟩) (hm _ fun i hi => by obtain ⟨ys, q⟩ := (h.na x trivial).row hi; exact ⟨ys, 88, q⟩), h2⟩, ?_, ?_, h.z, fun y w i _ _ => h.sa y w i trivial trivial, fun y w i _ _ => h.sb y w i trivial trivial⟩
 ·rintro y ⟨_, hne⟩
  exact (h.da y trivial).frame2 fun j o ho hj => hf j o ho (h.sa y x j trivial trivial hne hj) (h.apart y x j hj)
 ·rintro y ⟨_, hne⟩
  exact (h.na y trivial).frame2 fun j o ho hj => hf j o ho (fun hh => h.apart x y j hh hj) (h.sb y x j trivial trivial hne hj)
theorem St.renew {n : Node} {a b : V} (hs : Srt t) (h : St All S m A B t) (hx : n.ino = x) (hf : ∀ (j : Nat) (o : Ob), S[j]? = some o → idOf (A x) ≠ some j → idOf (B x) ≠ some j → S'[j]? = some o)
  (ha : SlE encU S' a 5 n.data) (hb : SlE zJ S' b 88 n.names) (ha2 : ∀ i, idOf a = some i → idOf (A x) = some i ∨ S.length ≤ i) (hb2 : ∀ i, idOf b = some i → idOf (B x) = some i ∨ S.length ≤ i) :
  ∃ o, qS Try.prog S' 125 (.mr m) (.d (.int .i64 x)) (zD n a b) = some (S'.set m o) ∧ St All (S'.set m o) m (fun y => if y = x then a else A y) (fun y => if y = x then b else B y) (qY t n) := by
 refine (h.out hf).upd hs hx ha hb ?_ ?_
 ·intro y i _ hne hi
  rcases ha2 i hi with hq | hq
  ·exact h.sa x y i trivial trivial (Ne.symm hne) hq
  ·intro hj
   have := (h.da y trivial).lt hj
   omega
 ·intro y i _ hne hi
  rcases hb2 i hi with hq | hq
  ·exact h.sb x y i trivial trivial (Ne.symm hne) hq
  ·intro hj
   have := (h.na y trivial).lt hj
   omega
theorem St.keepL (h : St All S m A B t) (hf : ∀ (j : Nat) (o : Ob), S[j]? = some o → idOf (A x) ≠ some j → idOf (B x) ≠ some j → S'[j]? = some o) {o : Ob} : KeepL S (S'.set m o) := fun j ys e h1 h2 hj => by
 obtain ⟨L, c, hm, _⟩ := h.mp
 have hne : m ≠ j := by rintro rfl; rw [hm] at hj; cases hj
 rw [List.getElem?_set_ne hne]
 refine hf j _ hj (fun hh => ?_) (fun hh => ?_)
 ·obtain ⟨zs, q⟩ := (h.da x trivial).row hh
  rw [hj] at q; cases q; exact h1 rfl
 ·obtain ⟨zs, q⟩ := (h.na x trivial).row hh
  rw [hj] at q; cases q; exact h2 rfl
end
section
variable {S : zA} {v : V} {l : List Ent} {k : Nat}
theorem z6u {xs : List V} {id k n : Nat} {zs : List V} (h : S[id]? = some (.row zs 88)) (hx : (zs.drop k).take n = xs) (hl : k + n ≤ zs.length) (hf : xs.all (qD Try.prog 88) = true) : srcV Try.prog S 88 30 (.rs id k n) = some xs := by
 have hz : (sz Try.prog 88).isSome = true := by kernel_rfl
 simp only [srcV, Try.underlying30, kU, h, hl, hx, if_true, hf, hz, Bool.and_self]
theorem zce {l : List Ent} : (l.map fun a => V.d (zJ a)).all (qD Try.prog 88) = true := by
 rw [List.all_eq_true]
 intro x hx
 obtain ⟨a, _, rfl⟩ := List.mem_map.1 hx
 exact zh0 a
theorem sz88 : (sz Try.prog 88).isSome = true := by kernel_rfl
theorem zn1 : zOk Try.prog 88 = true := by kernel_rfl
theorem zf1 {n : Nat} (h : n ≤ 1000000) : room Try.prog 88 n = true := z38 (P := Try.prog) (e := 88) rfl (by decide) h
theorem bnd {y d k : Nat} (h : k ≤ y) : wC y (some (.d (.int .i64 (k : Int)))) d = some k := by
 have := z4a (n := y) (d := d) (i := (k : Int)) (by omega) (by omega)
 rw [this, Int.toNat_natCast]
theorem zcj (h : SlE zJ S v 88 l) (hk : k ≤ l.length) : ∃ va, qT Try.prog S 30 v none (some (.d (.int .i64 k))) = some va ∧ ((v = .ts [] ∧ l = [] ∧ va = .ts []) ∨ ∃ id ys, v = .rs id 0 l.length ∧ S[id]? = some (.row ((l ++ ys).map fun a => .d (zJ a)) 88) ∧ va = .rs id 0 k) := by
 rcases h with ⟨rfl, rfl⟩ | ⟨id, ys, rfl, h1⟩
 ·have : k = 0 := by simpa using hk
  subst this
  refine ⟨.ts [], ?_, .inl ⟨rfl, rfl, rfl⟩⟩
  have h1 := bnd (y := ([] : List D).length) (d := ([] : List D).length) (k := 0) (by simp)
  simp only [qT, Try.underlying30, h1, wO, List.all_nil, sz88, Bool.and_self, if_true]
  rfl
 ·refine ⟨.rs id 0 k, ?_, .inr ⟨id, ys, rfl, h1, rfl⟩⟩
  have h3 : rowT S id 88 = true := by simp only [rowT, h1, beq_self_eq_true]
  simp only [qT, Try.underlying30, bnd hk, wO, h3, sz88, Bool.and_self, if_true, Nat.zero_add, Nat.sub_zero]
theorem ziz (h : SlE zJ S v 88 l) (hk : k ≤ l.length) : ∃ vb, qT Try.prog S 30 v (some (.d (.int .i64 k))) none = some vb ∧ ((v = .ts [] ∧ l = [] ∧ vb = .ts []) ∨ ∃ id ys, v = .rs id 0 l.length ∧ S[id]? = some (.row ((l ++ ys).map fun a => .d (zJ a)) 88) ∧ vb = .rs id k (l.length - k)) := by
 rcases h with ⟨rfl, rfl⟩ | ⟨id, ys, rfl, h1⟩
 ·have : k = 0 := by simpa using hk
  subst this
  refine ⟨.ts [], ?_, .inl ⟨rfl, rfl, rfl⟩⟩
  have h1 := bnd (y := ([] : List D).length) (d := 0) (k := 0) (by simp)
  simp only [qT, Try.underlying30, wO, h1, List.all_nil, sz88, Bool.and_self, if_true]
  rfl
 ·refine ⟨.rs id k (l.length - k), ?_, .inr ⟨id, ys, rfl, h1, rfl⟩⟩
  have h3 : rowT S id 88 = true := by simp only [rowT, h1, beq_self_eq_true]
  simp only [qT, Try.underlying30, wO, bnd hk, h3, sz88, Bool.and_self, if_true, Nat.zero_add]
theorem zs6 {e : Ent} (h : SlE zJ S v 88 l) (hk : k ≤ l.length) (hl : l.length < 900000) : ∃ va vb v6 S1 v7 S2 c1 c2, qT Try.prog S 30 v none (some (.d (.int .i64 k))) = some va ∧ qT Try.prog S 30 v (some (.d (.int .i64 k))) none = some vb ∧ qT Try.prog S1 30 v none (some (.d (.int .i64 k))) = some va ∧ z24 va va = true ∧
  zW Try.prog S 30 30 (.ts [zJ e]) vb = some (v6, S1, c1) ∧ zW Try.prog S1 30 30 va v6 = some (v7, S2, c2) ∧ (c1 = 1 ∧ c2 = 2 ∨ c1 = 1 ∧ c2 = 3 ∨ c1 = 2 ∧ c2 = 3) ∧ Keep S S1 ∧ SlE zJ S2 v7 88 (l.take k ++ e :: l.drop k) ∧ (∀ (j : Nat) (o : Ob), S[j]? = some o → idOf v ≠ some j → S2[j]? = some o) ∧ (∀ i, idOf v7 = some i → S.length ≤ i) := by
 obtain ⟨va, ha, hva⟩ := zcj h hk
 obtain ⟨vb, hb, hvb⟩ := ziz h hk
 have hfe : ([zJ e].map V.d).all (qD Try.prog 88) = true := by rw [List.map_cons, List.map_nil, List.all_cons, List.all_nil, zh0 e]; rfl
 have hfd : [zJ e].all (vN Try.prog 88) = true := by rw [List.all_cons, List.all_nil, zm7 e]; rfl
 have src1 : srcV Try.prog S 88 30 (.ts [zJ e]) = some [.d (zJ e)] := by
  simp only [srcV, Try.underlying30, kU]
  rw [if_pos (by rw [hfe, sz88]; rfl)]
  rfl
 rcases hva with ⟨rfl, rfl, rfl⟩ | ⟨id, ys, rfl, hrow, rfl⟩
 ·rcases hvb with ⟨_, _, rfl⟩ | ⟨id, ys, q, _⟩
  ·have hk0 : k = 0 := by simpa using hk
   subst hk0
   refine ⟨_, _, .ts [zJ e], S, .rs S.length 0 1, S ++ [.row [.d (zJ e)] 88], 1, 2, ha, hb, ha, rfl, ?_, ?_, .inl ⟨rfl, rfl⟩, Keep.refl, ?_, fun j o hj _ => Keep.app _ _ hj, ?_⟩
   ·simp only [zW, Try.underlying30, srcV, kU, List.map_nil, List.all_nil, sz88, Bool.and_self, if_true]
   ·have := zf1 (n := 0 + (0 + 1)) (by omega)
    simp only [zW, Try.underlying30, src1, zn1, if_true, List.all_nil, List.length_nil, this, Bool.and_self, List.map_nil, List.nil_append]
   ·exact .inr ⟨S.length, [], rfl, by simp⟩
   ·intro i hi; cases hi; omega
  ·cases q
 ·rcases hvb with ⟨q, _⟩ | ⟨id', ys', q, hrow', rfl⟩
  ·cases q
  ·cases q
   have hlen : ((l ++ ys).map fun a => V.d (zJ a)).length = l.length + ys.length := by simp
   have htk : ((l ++ ys).map fun a => V.d (zJ a)).take k = (l.take k).map fun a => V.d (zJ a) := by rw [← List.map_take, List.take_append_of_le_length hk]
   have hid := zZ hrow
   by_cases hkl : k = l.length
   ·subst hkl
    have srcb : srcV Try.prog S 88 30 (.rs id l.length (l.length - l.length)) = some [] := z6u hrow (by simp) (by rw [hlen]; omega) rfl
    refine ⟨_, _, .ts [zJ e], S, .rs S.length 0 (l.length + 1), S.set id .dead ++ [.row ((l.take l.length).map (fun a => V.d (zJ a)) ++ [.d (zJ e)]) 88], 1, 3, ha, hb, ha, by simp [z24, kY, kX], ?_, ?_, .inr (.inl ⟨rfl, rfl⟩), Keep.refl, ?_, ?_, ?_⟩
    ·simp only [zW, Try.underlying30, srcb]
    ·have h1 := zf1 (n := l.length + (0 + 1)) (by omega)
     have h2 : l.length ≤ l.length + ys.length := by omega
     simp only [zW, Try.underlying30, src1, zn1, if_true, hrow, hlen, h1, h2, htk, List.length_nil, decide_true, Bool.and_self, Nat.zero_add]
    ·refine .inr ⟨S.length, [], by simp, ?_⟩
     rw [List.getElem?_append_right (by simp)]
     simp
    ·intro j o hj hn
     have hjl := zZ hj
     rw [List.getElem?_append_left (by simpa using hjl), List.getElem?_set_ne]
     ·exact hj
     ·rintro rfl; exact hn rfl
    ·intro i hi; cases hi; omega
   ·have hkl' : k < l.length := by omega
    have hdr : l.drop k = l[k] :: l.drop (k + 1) := List.drop_eq_getElem_cons hkl'
    have srcb : srcV Try.prog S 88 30 (.rs id k (l.length - k)) = some ((l.drop k).map fun a => .d (zJ a)) := by
     refine z6u hrow ?_ (by rw [hlen]; omega) zce
     rw [← List.map_drop, ← List.map_take, List.drop_append_of_le_length hk, List.take_append_of_le_length (by rw [List.length_drop]; omega), List.take_of_length_le (by rw [List.length_drop]; omega)]
    have hl3 : ((l.drop (k + 1)).map fun a => V.d (zJ a)).length = l.length - (k + 1) := by rw [List.length_map, List.length_drop]
    have hS1row : (S ++ [Ob.row ([zJ e].map V.d ++ (l.drop k).map fun a => V.d (zJ a)) 88])[S.length]? = some (.row ([zJ e].map V.d ++ (l.drop k).map fun a => V.d (zJ a)) 88) := qK
    have srcc : srcV Try.prog (S ++ [Ob.row ([zJ e].map V.d ++ (l.drop k).map fun a => V.d (zJ a)) 88]) 88 30 (.rs S.length 0 (1 + (l.length - (k + 1) + 1))) = some (.d (zJ e) :: (l.drop k).map fun a => .d (zJ a)) := by
     refine z6u hS1row ?_ ?_ ?_
     ·rw [List.drop_zero, List.take_of_length_le (by simp; omega)]; rfl
     ·simp; omega
     ·rw [List.all_cons, zh0 e, zce]; rfl
    have hrow2 : (S ++ [Ob.row ([zJ e].map V.d ++ (l.drop k).map fun a => V.d (zJ a)) 88])[id]? = some (.row ((l ++ ys).map fun a => .d (zJ a)) 88) := qA hrow
    refine ⟨_, _, .rs S.length 0 (1 + (l.length - (k + 1) + 1)), S ++ [Ob.row ([zJ e].map V.d ++ (l.drop k).map fun a => V.d (zJ a)) 88], .rs (S.length + 1) 0 (k + (l.length - k + 1)), (S ++ [Ob.row ([zJ e].map V.d ++ (l.drop k).map fun a => V.d (zJ a)) 88]).set id .dead ++ [Ob.row ((l.take k).map (fun a => V.d (zJ a)) ++ .d (zJ e) :: (l.drop k).map fun a => V.d (zJ a)) 88], 2, 3, ha, hb, ?_, by simp [z24, kY, kX], ?_, ?_, .inr (.inr ⟨rfl, rfl⟩), Keep.app, ?_, ?_, ?_⟩
    ·obtain ⟨va2, q1, q2⟩ := zcj (h.keep (Keep.app (l := [Ob.row ([zJ e].map V.d ++ (l.drop k).map fun a => V.d (zJ a)) 88]))) hk
     rcases q2 with ⟨q2, _⟩ | ⟨id2, _, q2, _, q3⟩
     ·cases q2
     ·cases q2; rw [q1, q3]
    ·have h1 := zf1 (n := 1 + (l.length - (k + 1) + 1)) (by omega)
     simp only [zW, Try.underlying30, srcb, hdr, List.map_cons, zn1, if_true, hfd, hl3, List.length_cons, List.length_nil, Nat.zero_add, h1, Bool.and_self]
    ·have h1 := zf1 (n := k + (l.length - k + 1)) (by omega)
     have h2 : k ≤ l.length + ys.length := by omega
     have hl4 : ((l.drop k).map fun a => V.d (zJ a)).length = l.length - k := by rw [List.length_map, List.length_drop]
     simp only [zW, Try.underlying30, srcc, zn1, if_true, hrow2, hlen, hl4, h1, h2, htk, decide_true, Bool.and_self, List.length_append, List.length_cons, List.length_nil, Nat.zero_add]
    ·refine .inr ⟨S.length + 1, [], by simp [List.length_take, List.length_drop]; omega, ?_⟩
     rw [List.getElem?_append_right (by simp)]
     simp
    ·intro j o hj hn
     have hjl := zZ hj
     rw [List.getElem?_append_left (by simp; omega), List.getElem?_set_ne]
     ·exact qA hj
     ·rintro rfl; exact hn rfl
    ·intro i hi; cases hi; omega
theorem zps (h : SlE zJ S v 88 l) (hk : k < l.length) (hl : l.length < 900000) : ∃ va vb v7 S2 c, qT Try.prog S 30 v none (some (.d (.int .i64 k))) = some va ∧ qT Try.prog S 30 v (some (.d (.int .i64 ((k + 1 : Nat) : Int)))) none = some vb ∧
  zW Try.prog S 30 30 va vb = some (v7, S2, c) ∧ (c = 1 ∧ S2 = S ∨ c = 3) ∧ SlE zJ S2 v7 88 (l.take k ++ l.drop (k + 1)) ∧ (∀ (j : Nat) (o : Ob), S[j]? = some o → idOf v ≠ some j → S2[j]? = some o) ∧ (∀ i, idOf v7 = some i → idOf v = some i ∨ S.length ≤ i) := by
 obtain ⟨va, ha, hva⟩ := zcj h (Nat.le_of_lt hk)
 obtain ⟨vb, hb, hvb⟩ := ziz h (k := k + 1) hk
 rcases hva with ⟨rfl, rfl, rfl⟩ | ⟨id, ys, rfl, hrow, rfl⟩
 ·exact absurd hk (by simp)
 ·rcases hvb with ⟨q, _⟩ | ⟨id', ys', q, hrow', rfl⟩
  ·cases q
  ·cases q
   have hlen : ((l ++ ys).map fun a => V.d (zJ a)).length = l.length + ys.length := by simp
   have htk : ((l ++ ys).map fun a => V.d (zJ a)).take k = (l.take k).map fun a => V.d (zJ a) := by rw [← List.map_take, List.take_append_of_le_length (Nat.le_of_lt hk)]
   have hid := zZ hrow
   by_cases hkl : k + 1 = l.length
   ·have srcb : srcV Try.prog S 88 30 (.rs id (k + 1) (l.length - (k + 1))) = some [] := z6u hrow (by rw [hkl, Nat.sub_self, List.take_zero]) (by rw [hlen]; omega) rfl
    have hd : l.drop (k + 1) = [] := by rw [hkl, List.drop_length]
    refine ⟨_, _, .rs id 0 k, S, 1, ha, hb, ?_, .inl ⟨rfl, rfl⟩, ?_, fun j o hj _ => hj, fun i hi => .inl hi⟩
    ·simp only [zW, Try.underlying30, srcb]
    ·refine .inr ⟨id, l.drop k ++ ys, ?_, ?_⟩
     ·rw [hd, List.append_nil, List.length_take, Nat.min_eq_left (Nat.le_of_lt hk)]
     ·rw [hd, List.append_nil, ← List.append_assoc, List.take_append_drop]
      exact hrow
   ·have hkl' : k + 1 < l.length := by omega
    have hdr : l.drop (k + 1) = l[k + 1] :: l.drop (k + 2) := List.drop_eq_getElem_cons hkl'
    have srcb : srcV Try.prog S 88 30 (.rs id (k + 1) (l.length - (k + 1))) = some ((l.drop (k + 1)).map fun a => .d (zJ a)) := by
     refine z6u hrow ?_ (by rw [hlen]; omega) zce
     rw [← List.map_drop, ← List.map_take, List.drop_append_of_le_length hk, List.take_append_of_le_length (by rw [List.length_drop]; omega), List.take_of_length_le (by rw [List.length_drop]; omega)]
    have hl3 : ((l.drop (k + 2)).map fun a => V.d (zJ a)).length = l.length - (k + 2) := by rw [List.length_map, List.length_drop]
    refine ⟨_, _, .rs S.length 0 (k + (l.length - (k + 2) + 1)), S.set id .dead ++ [Ob.row ((l.take k).map (fun a => V.d (zJ a)) ++ (l.drop (k + 1)).map fun a => V.d (zJ a)) 88], 3, ha, hb, ?_, .inr rfl, ?_, ?_, ?_⟩
    ·have h1 := zf1 (n := k + (l.length - (k + 2) + 1)) (by omega)
     have h2 : k ≤ l.length + ys.length := by omega
     simp only [zW, Try.underlying30, srcb, hdr, List.map_cons, zn1, if_true, hrow, hlen, hl3, h1, h2, htk, decide_true, Bool.and_self]
    ·refine .inr ⟨S.length, [], by simp [List.length_take, List.length_drop]; omega, ?_⟩
     rw [List.getElem?_append_right (by simp)]
     simp
    ·intro j o hj hn
     have hjl := zZ hj
     rw [List.getElem?_append_left (by simpa using hjl), List.getElem?_set_ne]
     ·exact hj
     ·rintro rfl; exact hn rfl
    ·intro i hi; cases hi; exact .inr (Nat.le_refl _)
end
end Go.Proofs.Ytghllhghboaagaa
end
section
namespace Go.Proofs.Ytghllhghboaagaa
open Go.Vm
def gw := And.intro gd <| And.intro @dw1 <| And.intro @dw2 <| And.intro @dw3 <| And.intro @dw4 <| And.intro @dw5 <| And.intro @dw6 <| And.intro @dw7 <| And.intro @dw8 <| And.intro @dw9 <| And.intro @dw10 <| And.intro @dw11 @dw12
theorem zr2 {a b : List UInt8} : z3g .gtr a b = some (.bool (wD b a)) := by
 rw [z8u (a := a) (b := b)]
 simp only [z3g, z7b]
theorem le0 {e : Ent} : kE Try.prog 9 0 (some (.d (zJ e))) = some (.d (.str e.name)) := by kernel_rfl
theorem sv6 {n : Node} {a b v : V} (h1 : qD Try.prog 30 v = true) (h2 : v.cells = [v]) : qL Try.prog 30 6 v (zD n a b) = some (zD n a v) := zhb h1 h2
theorem q0n {S : zA} {v : V} {l : List Ent} (h : SlE zJ S v 88 l) : qD Try.prog 30 v = true := by
 rcases h with ⟨rfl, _⟩ | ⟨id, ys, rfl, _⟩ <;> kernel_rfl
variable {t : List Node} {A B : Int → V}
theorem zyg (S : zA) (D0 : Node) (i8 : Nat) (va vb : V) (h8 : S[i8]? = some (.row [zD D0 va vb] 32)) (hb : SlE zJ S vb 88 D0.names) (hl : D0.names.length < 900000) (s : List UInt8) (x0 x1 x3 : V) (R : Post) (g4 g5 g6 g7 : V) : ∀ (k : Nat) (gP gQ gM gF gD gG gH gC gA gB gK gE gL gI gJ gN gO gR gS gT gX gW gU gV gZ gY gi gf gg gh gj gk gm gn gr hY hZ xI gz xA xB xC hC hH hJ : V), k ≤ D0.names.length → (∀ j (h : j < D0.names.length), k ≤ j → wD s D0.names[j].name = true) →
 (∀ (k : Nat) gP gQ gM gF gD gG gH gC gA gB gK gE gL gI gJ gN gO gR gS gT gX gW gU gV gZ gY gi gf gg gh gj gk gm gn gr hY hZ xI gz xA xB xC hC hH hJ, k ≤ D0.names.length → (∀ j (h : j < D0.names.length), k ≤ j → wD s D0.names[j].name = true) → (∀ j (h : j < D0.names.length), j + 1 = k → wD s D0.names[j].name = false) → R (.exit 0) (x0 :: x1 :: (.d (.str s)) :: x3 :: g4 :: g5 :: g6 :: g7 :: (.ref i8 0 0) :: (.d (.int .i64 k)) :: gP :: gQ :: gM :: gF :: gD :: gG :: gH :: gC :: gA :: gB :: gK :: gE :: gL :: gI :: gJ :: gN :: gO :: gR :: gS :: gT :: gX :: gW :: gU :: gV :: gZ :: gY :: gi :: gf :: gg :: gh :: gj :: gk :: gm :: gn :: gr :: hY :: hZ :: xI :: gz :: xA :: xB :: xC :: hC :: hH :: hJ :: []) S []) →
 Wp cfgS (.loop (lpOf (Try.f106.body.getD .skip) 0)) (x0 :: x1 :: (.d (.str s)) :: x3 :: g4 :: g5 :: g6 :: g7 :: (.ref i8 0 0) :: (.d (.int .i64 k)) :: gP :: gQ :: gM :: gF :: gD :: gG :: gH :: gC :: gA :: gB :: gK :: gE :: gL :: gI :: gJ :: gN :: gO :: gR :: gS :: gT :: gX :: gW :: gU :: gV :: gZ :: gY :: gi :: gf :: gg :: gh :: gj :: gk :: gm :: gn :: gr :: hY :: hZ :: xI :: gz :: xA :: xB :: xC :: hC :: hH :: hJ :: []) S [] R := by
 have hr8 := zC h8
 intro k
 induction k with
 | zero =>
  intro gP gQ gM gF gD gG gH gC gA gB gK gE gL gI gJ gN gO gR gS gT gX gW gU gV gZ gY gi gf gg gh gj gk gm gn gr hY hZ xI gz xA xB xC hC hH hJ hk hj hE
  rw [qQ]
  refine qC ?_
  conv => arg 2; whnf
  simp (maxSteps:=1000000) (disch:=first|assumption|omega|rfl) only [↓gp, gc, Nat.reduceAdd, hPS, hr8, lv6]
  exact hE 0 _ _ _ _ _ _ _ _ _ _ _ _ _ _ _ _ _ _ _ _ _ _ _ _ _ _ _ _ _ _ _ _ _ _ _ _ _ _ _ _ _ _ _ _ _ hk hj (fun j _ h => by omega)
 | succ k ih =>
  intro gP gQ gM gF gD gG gH gC gA gB gK gE gL gI gJ gN gO gR gS gT gX gW gU gV gZ gY gi gf gg gh gj gk gm gn gr hY hZ xI gz xA xB xC hC hH hJ hk hj hE
  have hkl : k < D0.names.length := by omega
  obtain ⟨id, hix, hre, _⟩ := hb.ix (t := 30) Try.underlying30 (by kernel_rfl) hkl
  have hw : ((k + 1 : Nat) : Int) - 1 = (k : Int) := by omega
  rw [qQ]
  refine qC ?_
  conv => arg 2; whnf
  cases hs : wD s D0.names[k].name with
  | true =>
   simp (maxSteps:=1000000) (disch:=first|assumption|omega|rfl) only [↓gp, gc, Nat.reduceAdd, hPS, hr8, lv6, hw, hix, hre, le0, zr2, hs]
   refine ih _ _ _ _ _ _ _ _ _ _ _ _ _ _ _ _ _ _ _ _ _ _ _ _ _ _ _ _ _ _ _ _ _ _ _ _ _ _ _ _ _ _ _ _ _ (by omega) (fun j h hkj => ?_) hE
   by_cases hjk : j = k
   ·subst hjk; exact hs
   ·exact hj j h (by omega)
  | false =>
   simp (maxSteps:=1000000) (disch:=first|assumption|omega|rfl) only [↓gp, gc, Nat.reduceAdd, hPS, hr8, lv6, hw, hix, hre, le0, zr2, hs]
   exact hE (k + 1) _ _ _ _ _ _ _ _ _ _ _ _ _ _ _ _ _ _ _ _ _ _ _ _ _ _ _ _ _ _ _ _ _ _ _ _ _ _ _ _ _ _ _ _ _ hk hj (fun j h hjk => by
    have : j = k := by omega
    subst this; exact hs)
theorem zzf (S0 : zA) (a m : Nat) (hT0 : Tree S0 a m A B t) (hsr : Srt t) (k0 : Nat) (hk0 : k0 < 300000) (hS : Small k0 t) (dir : Int) (hd : (getN t dir).ino = dir) (ho : Ord (getN t dir).names) (s : List UInt8) (ino : Int) :
  EvS cfgS 106 [.ref a 0 0, .d (.int .i64 dir), .d (.str s), .d (.int .i64 ino)] S0 fun o S => (∃ v, o = .ret v) ∧ KeepL S0 S ∧ ∃ A' B', Tree S a m A' B' (putN t dir s ino) ∧ ∀ y, y ≠ dir → A' y = A y ∧ B' y = B y := by
 refine wJ rfl zsz ?_
 show Wp cfgS (Try.f106.body.getD .skip) ((.ref a 0 0) :: (.d (.int .i64 dir)) :: (.d (.str s)) :: (.d (.int .i64 ino)) :: uZ (uZ (uZ (uZ (uZ ((.tup []) :: [])))))) S0 [] _
 unfold uZ
 conv => arg 2; whnf
 rw [qQ]
 have hln : (getN t dir).names.length < 900000 := Nat.lt_of_le_of_lt (hS.gnms dir) (by omega)
 have hra := hT0.row
 have hlk := fun x => (hT0.st.look x).2
 have hT1 := hT0.keep (Keep.app (l := [Ob.row [zD (getN t dir) (A dir) (B dir)] 32]))
 have h8 : (S0 ++ [Ob.row [zD (getN t dir) (A dir) (B dir)] 32])[S0.length]? = some (.row [zD (getN t dir) (A dir) (B dir)] 32) := qK
 have hr8 := zC h8
 have hb1 := hT1.st.na dir trivial
 have hlen := hb1.len Try.underlying30
 simp (maxSteps:=1000000) (disch:=first|assumption|omega|rfl) only [↓gp, gc, Nat.reduceAdd, hPS, zagg, z32v, kV, qI, vB, wX, hra, hlk, svz, sv, zL, zI, hr8, lv6, hlen]
 refine zyg _ (getN t dir) S0.length (A dir) (B dir) h8 hb1 hln s _ _ _ _ _ _ _ _ (getN t dir).names.length _ _ _ _ _ _ _ _ _ _ _ _ _ _ _ _ _ _ _ _ _ _ _ _ _ _ _ _ _ _ _ _ _ _ _ _ _ _ _ _ _ _ _ _ _ (Nat.le_refl _) (fun j h hj => by omega) ?_
 intro k gP gQ gM gF gD gG gH gC gA gB gK gE gL gI gJ gN gO gR gS gT gX gW gU gV gZ gY gi gf gg gh gj gk gm gn gr hY hZ xI gz xA xB xC hC hH hJ hk hj hlast
 have hput : putA s ino false (getN t dir).names = (getN t dir).names.take k ++ ⟨s, ino⟩ :: (getN t dir).names.drop k := by
  refine zrc hk (fun j h hjk => ?_) (fun h => hj k h (Nat.le_refl _))
  have hk1 : k - 1 < (getN t dir).names.length := by omega
  have h1 := hlast (k - 1) hk1 (by omega)
  cases hh : wD s (getN t dir).names[j].name with
  | false => rfl
  | true =>
   by_cases hjk1 : j = k - 1
   ·subst hjk1; rw [hh] at h1; cases h1
   ·have h2 : wD (getN t dir).names[j].name (getN t dir).names[k - 1].name = true := by
     have h3 := List.pairwise_iff_getElem.1 ho j (k - 1) (by simpa using h) (by simpa using hk1) (by omega)
     simpa using h3
    rw [z2b hh h2] at h1; cases h1
 obtain ⟨va, vb, v6, S1, v7, S2, c1, c2, e1, e2, e1', hsv, e3, e4, hc, hK1, hS7, hf, hnew⟩ := zs6 (e := ⟨s, ino⟩) hb1 hk hln
 have hBlt : ∀ j, idOf (B dir) = some j → j < S0.length := fun j hj => (hT0.st.na dir trivial).lt hj
 have h81 : S1[S0.length]? = some (.row [zD (getN t dir) (A dir) (B dir)] 32) := hK1 _ _ h8
 have hr81 := zC h81
 have h82 : S2[S0.length]? = some (.row [zD (getN t dir) (A dir) (B dir)] 32) := hf _ _ h8 (fun hh => by have := hBlt _ hh; omega)
 have hr82 := zC h82
 have hpr8 := fun y => qG (y := y) h82
 have hst6 := sv6 (n := getN t dir) (a := A dir) (b := B dir) (q0n hS7) hS7.cells
 have hsame := hb1.same
 have hload : jP Try.prog S1 30 (.ref S0.length 0 6) = some (B dir) := (jN hr81).trans lv6
 have hfr' : ∀ (j : Nat) (o : Ob), S0[j]? = some o → idOf (B dir) ≠ some j → (S2.set S0.length (.row [zD (getN t dir) (A dir) v7] 32))[j]? = some o := fun j o hj hb => by
  have := zZ hj
  rw [List.getElem?_set_ne (by omega)]
  exact hf j o (qA hj) hb
 have hfr : ∀ (j : Nat) (o : Ob), S0[j]? = some o → idOf (A dir) ≠ some j → idOf (B dir) ≠ some j → (S2.set S0.length (.row [zD (getN t dir) (A dir) v7] 32))[j]? = some o := fun j o hj _ hb => hfr' j o hj hb
 have h83 : (S2.set S0.length (.row [zD (getN t dir) (A dir) v7] 32))[S0.length]? = some (.row [zD (getN t dir) (A dir) v7] 32) := kD h82
 have hr83 := zC h83
 have hcell : (S2.set S0.length (.row [zD (getN t dir) (A dir) v7] 32))[a]? = some (.row [.agg [.mr m]] 127) := by
  refine hfr a _ hT0.cell (fun hh => ?_) (fun hh => ?_)
  ·obtain ⟨zs, q⟩ := (hT0.st.da dir trivial).row hh
   rw [hT0.cell] at q; cases q
  ·obtain ⟨zs, q⟩ := (hT0.st.na dir trivial).row hh
   rw [hT0.cell] at q; cases q
 have hra3 := zC hcell
 obtain ⟨o, hup, hst⟩ := hT0.st.renew (x := dir) (n := { getN t dir with names := putA s ino false (getN t dir).names }) (a := A dir) (b := v7) (S' := S2.set S0.length (.row [zD (getN t dir) (A dir) v7] 32)) hsr hd hfr
  ((hT0.st.da dir trivial).frame2 fun j o hj hi => hfr' j o hj (hT0.st.apart dir dir j hi))
  (by
   show SlE zJ _ v7 88 (putA s ino false (getN t dir).names)
   rw [hput]
   refine hS7.frame2 fun j o hj hi => ?_
   have h1 := hnew j hi
   rw [List.length_append, List.length_singleton] at h1
   rw [List.getElem?_set_ne (by omega)]
   exact hj)
  (fun i hi => .inl hi) (fun i hi => .inr (by have h1 := hnew i hi; rw [List.length_append] at h1; omega))
 have hup : qS Try.prog (S2.set S0.length (.row [zD (getN t dir) (A dir) v7] 32)) 125 (.mr m) (.d (.int .i64 dir)) (zD (getN t dir) (A dir) v7) = some ((S2.set S0.length (.row [zD (getN t dir) (A dir) v7] 32)).set m o) := hup
 have hfin : (∃ v : V, Out.ret (.tup []) = .ret v) ∧ KeepL S0 ((S2.set S0.length (.row [zD (getN t dir) (A dir) v7] 32)).set m o) ∧ ∃ A' B', Tree ((S2.set S0.length (.row [zD (getN t dir) (A dir) v7] 32)).set m o) a m A' B' (putN t dir s ino) ∧ ∀ y, y ≠ dir → A' y = A y ∧ B' y = B y :=
  ⟨⟨_, rfl⟩, hT0.st.keepL hfr, _, _, ⟨by rw [List.getElem?_set_ne (Ne.symm hT0.ne)]; exact hcell, hst⟩, fun y hy => ⟨if_neg hy, if_neg hy⟩⟩
 have hlk3 := hup
 rcases hc with ⟨rfl, rfl⟩ | ⟨rfl, rfl⟩ | ⟨rfl, rfl⟩
 ·simp (maxSteps:=1000000) (disch:=first|assumption|omega|rfl) only [↓gp, gc, Nat.reduceAdd, hPS]
  refine kK (is := [0, 1, 2, 3, 4, 5, 6, 7, 8, 9, 10, 11, 12, 13, 14, 15]) (h := 0) (by kernel_rfl) (by kernel_rfl) ?_
  simp (maxSteps:=1000000) (disch:=first|assumption|omega|rfl) only [List.replicate_zero, eq_self, gw, ga, Nat.reduceAdd, ↓gq, hPS, List.append_nil, bd88, zum, hr8, lv6, e1, e2, e3, e4, Option.map_some, Option.map_none, hr82, hst6, hpr8]
  refine ⟨(zE (by kernel_rfl) (zE (by kernel_rfl) (zE (by kernel_rfl) (zE (by kernel_rfl) (zE (by kernel_rfl) qO))))), (zE (by kernel_rfl) (zE (by kernel_rfl) (zE (by kernel_rfl) (zE (by kernel_rfl) (zE (by kernel_rfl) qO))))), by kernel_rfl, ?_⟩
  simp (maxSteps:=1000000) (disch:=first|assumption|omega|rfl) only [↓gp, gc, Nat.reduceAdd, hPS]
  refine jA (is := [0, 1, 2, 3, 4, 5, 6]) (h := 0) (by kernel_rfl) (by kernel_rfl) ?_
  simp (maxSteps:=1000000) (disch:=first|assumption|omega|rfl) only [List.replicate_zero, eq_self, gd, ga, Nat.reduceAdd, ↓gq, hPS, List.append_nil, qP, qI, jG, vB, wX, hra3, hr83, lv, hup, Option.map_some]
  refine ⟨fun _ => by kernel_rfl, ?_⟩
  refine ⟨by kernel_rfl, ?_⟩
  exact ⟨rfl, _, rfl, hfin⟩
 ·simp (maxSteps:=1000000) (disch:=first|assumption|omega|rfl) only [↓gp, gc, Nat.reduceAdd, hPS]
  refine kK (is := [0, 1, 2, 3, 4, 5, 6, 7, 8, 9, 10, 11, 12, 13, 14, 15]) (h := 0) (by kernel_rfl) (by kernel_rfl) ?_
  simp (maxSteps:=1000000) (disch:=first|assumption|omega|rfl) only [List.replicate_zero, eq_self, gw, ga, Nat.reduceAdd, ↓gq, hPS, List.append_nil, bd88, zum, hr8, lv6, e1, e2, e3, e4, Option.map_some, Option.map_none, hr82, hst6, hpr8]
  refine ⟨(zE (by kernel_rfl) (zE (by kernel_rfl) (zE (by kernel_rfl) (zE (by kernel_rfl) (zE (by kernel_rfl) qO))))), (zE (by kernel_rfl) (zE (by kernel_rfl) (zE (by kernel_rfl) (zE (by kernel_rfl) (zE (by kernel_rfl) qO))))), by kernel_rfl, ?_⟩
  simp (maxSteps:=1000000) (disch:=first|assumption|omega|rfl) only [↓gp, gc, Nat.reduceAdd, hPS]
  refine jA (is := [0, 1, 2, 3, 4, 5, 6]) (h := 0) (by kernel_rfl) (by kernel_rfl) ?_
  simp (maxSteps:=1000000) (disch:=first|assumption|omega|rfl) only [List.replicate_zero, eq_self, gd, ga, Nat.reduceAdd, ↓gq, hPS, List.append_nil, qP, qI, jG, vB, wX, hra3, hr83, lv, hup, Option.map_some]
  refine ⟨fun _ => by kernel_rfl, ?_⟩
  refine ⟨by kernel_rfl, ?_⟩
  exact ⟨rfl, _, rfl, hfin⟩
 ·simp (maxSteps:=1000000) (disch:=first|assumption|omega|rfl) only [↓gp, gc, Nat.reduceAdd, hPS]
  refine kK (is := [0, 1, 2, 3, 4, 5, 6, 7, 8, 9, 10, 11, 12, 13, 14, 15]) (h := 0) (by kernel_rfl) (by kernel_rfl) ?_
  simp (maxSteps:=1000000) (disch:=first|assumption|omega|rfl) only [List.replicate_zero, eq_self, gw, ga, Nat.reduceAdd, ↓gq, hPS, List.append_nil, bd88, zum, hr8, lv6, e1, e2, e3, e4, Option.map_some, Option.map_none, hr82, hst6, hpr8]
  refine ⟨zE (by kernel_rfl) (zE (by kernel_rfl) (jJ rfl (by kernel_rfl) rfl ?_ hsv (jJ rfl (by kernel_rfl) rfl ?_ hsame qO))), ?_⟩
  ·exact (show _ = (qT Try.prog S1 30 (B dir) none (some (.d (.int .i64 k)))).map (fun v => Rs.val v S1 1) from rfl).trans (by rw [e1']; rfl)
  ·exact (show _ = (jP Try.prog S1 30 (.ref S0.length 0 6)).map (fun v => Rs.val v S1 1) from rfl).trans (by rw [hload]; rfl)
  refine ⟨(zE (by kernel_rfl) (zE (by kernel_rfl) (zE (by kernel_rfl) (zE (by kernel_rfl) qO)))), (zE (by kernel_rfl) (zE (by kernel_rfl) (zE (by kernel_rfl) (zE (by kernel_rfl) qO)))), by kernel_rfl, ?_⟩
  simp (maxSteps:=1000000) (disch:=first|assumption|omega|rfl) only [↓gp, gc, Nat.reduceAdd, hPS]
  refine jA (is := [0, 1, 2, 3, 4, 5, 6]) (h := 0) (by kernel_rfl) (by kernel_rfl) ?_
  simp (maxSteps:=1000000) (disch:=first|assumption|omega|rfl) only [List.replicate_zero, eq_self, gd, ga, Nat.reduceAdd, ↓gq, hPS, List.append_nil, qP, qI, jG, vB, wX, hra3, hr83, lv, hup, Option.map_some]
  refine ⟨fun _ => by kernel_rfl, ?_⟩
  refine ⟨by kernel_rfl, ?_⟩
  exact ⟨rfl, _, rfl, hfin⟩
theorem putM (S0 : zA) (a m : Nat) (hT0 : Tree S0 a m A B t) (hsr : Srt t) (k0 : Nat) (hk0 : k0 < 300000) (hS : Small k0 t) (dir : Int) (hd : (getN t dir).ino = dir) (ho : Ord (getN t dir).names) (s : List UInt8) (ino : Int) :
  EvS cfgS 106 [.ref a 0 0, .d (.int .i64 dir), .d (.str s), .d (.int .i64 ino)] S0 fun o S => (∃ v, o = .ret v) ∧ KeepL S0 S ∧ ∃ A' B', Tree S a m A' B' (putN t dir s ino) :=
 EvS.weak (zzf S0 a m hT0 hsr k0 hk0 hS dir hd ho s ino) fun o S ⟨h1, h2, A', B', h3, _⟩ => ⟨h1, h2, A', B', h3⟩
end Go.Proofs.Ytghllhghboaagaa
end
section
namespace Go.Proofs.Ytghllhghboaagaa
open Go.Vm
theorem zda {s : List UInt8} : ∀ {l : List Ent} {i : Nat}, (∃ e ∈ l, e.name = s) → ∃ k, ∃ h : k < l.length, fidx s i l = some (i + k) ∧ qV l s = l[k].ino ∧ l[k].name = s
 | [], i, h => by obtain ⟨e, he, _⟩ := h; cases he
 | e :: r, i, h => by
  by_cases hs : e.name = s
  ·exact ⟨0, by simp, by simp [fidx, hs], by simp [qV, hs], by simpa using hs⟩
  ·obtain ⟨k, hk, h1, h2, h3⟩ := zda (s := s) (l := r) (i := i + 1) (by
    obtain ⟨x, hx, hxs⟩ := h
    rcases List.mem_cons.1 hx with rfl | hx
    ·exact absurd hxs hs
    ·exact ⟨x, hx, hxs⟩)
   refine ⟨k + 1, by simpa using hk, ?_, ?_, by simpa using h3⟩
   ·simp only [fidx, hs, if_false, h1]
    congr 1; omega
   ·simp only [List.getElem_cons_succ, ← h2]
    simp [qV, hs]
theorem zaf {n : Node} {t : List Node} : (qY t n).filter (fun m => m.ino ≠ n.ino) = t.filter (fun m => m.ino ≠ n.ino) := by
 have ff : ∀ l : List Node, (l.filter (fun m => m.ino ≠ n.ino)).filter (fun m => m.ino ≠ n.ino) = l.filter (fun m => m.ino ≠ n.ino) := fun l => by rw [List.filter_filter]; congr 1; funext m; exact Bool.and_self _
 have go : ∀ (l : List Node), (wQ n false l).filter (fun m => m.ino ≠ n.ino) = l.filter (fun m => m.ino ≠ n.ino) := fun l => by
  induction l with
  | nil => simp [wQ]
  | cons y r ih =>
   by_cases hy : n.ino ≤ y.ino
   ·have e : wQ n false (y :: r) = n :: (y :: r).filter (fun m => m.ino ≠ n.ino) := by
     rw [← z2l]
     simp [wQ, hy]
    rw [e, List.filter_cons_of_neg (by simp), ff]
   ·have e : wQ n false (y :: r) = y :: wQ n false r := by
     have : y.ino ≠ n.ino := by omega
     simp [wQ, hy, this]
    have hne : y.ino ≠ n.ino := by omega
    rw [e, List.filter_cons_of_pos (by simpa using hne), List.filter_cons_of_pos (by simpa using hne), ih]
 exact go t
theorem ze2 {P : Program} {S : zA} {t t2 : TypeId} {m k : V} : zY P S .delete [t, t2] [m, k] = (z27 P S t m k).map fun S' => .val (.tup []) S' 3 := rfl
theorem sv2 {n : Node} {a b : V} {x : Int} : qL Try.prog 3 2 (.d (.int .i64 x)) (zD n a b) = some (zD { n with links := x } a b) := by kernel_rfl
variable {t : List Node} {A B : Int → V}
theorem zr9 (S0 : zA) (a m : Nat) (hT0 : Tree S0 a m A B t) (hsr : Srt t) (k0 : Nat) (hk0 : k0 < 200000) (hS : Small k0 t) (dir : Int) (hd : (getN t dir).kind = 2) (ho : Ord (getN t dir).names) (s : List UInt8) (hs : ∃ e ∈ (getN t dir).names, e.name = s) (keep : Bool) (hi : keep = false → (getN (zU t dir s) (qV (getN t dir).names s)).ino = qV (getN t dir).names s) :
  EvS cfgS 108 [.ref a 0 0, .d (.int .i64 dir), .d (.str s), .d (.bool keep)] S0 fun o S => (∃ v, o = .ret v) ∧ KeepL S0 S ∧ ∃ A' B', Tree S a m A' B' (if keep then zU t dir s else kO (zU t dir s) (qV (getN t dir).names s)) ∧ (keep = true → ∀ y, y ≠ dir → A' y = A y ∧ B' y = B y) := by
 refine wJ rfl zsd ?_
 show Wp cfgS (Try.f108.body.getD .skip) ((.ref a 0 0) :: (.d (.int .i64 dir)) :: (.d (.str s)) :: (.d (.bool keep)) :: uZ (uZ (uZ (uZ (uZ (uZ ((.tup []) :: (.tup []) :: (.tup []) :: (.tup []) :: (.tup []) :: (.tup []) :: (.tup []) :: (.tup []) :: (.tup []) :: []))))))) S0 [] _
 unfold uZ
 conv => arg 2; whnf
 rw [qQ]
 have hdi : (getN t dir).ino = dir := jD hd
 have hln : (getN t dir).names.length < 900000 := Nat.lt_of_le_of_lt (hS.gnms dir) (by omega)
 have hln' : (getN t dir).names.length < 1000000 := by omega
 have hra := hT0.row
 have hlk := fun x => (hT0.st.look x).2
 have hT1 := hT0.keep (Keep.app (l := [Ob.row [zD (getN t dir) (A dir) (B dir)] 32]))
 have h8 : (S0 ++ [Ob.row [zD (getN t dir) (A dir) (B dir)] 32])[S0.length]? = some (.row [zD (getN t dir) (A dir) (B dir)] 32) := qK
 have hr8 := zC h8
 have hb1 := hT1.st.na dir trivial
 obtain ⟨k, hk, hf1, hf2, hf3⟩ := zda (i := 0) hs
 rw [Nat.zero_add] at hf1
 have hfR : vR (getN t dir) s = (((k : Nat) : Int), true) := by unfold vR; rw [hf1]
 obtain ⟨id, hix, hre, _⟩ := hb1.ix (t := 30) Try.underlying30 (by kernel_rfl) hk
 obtain ⟨va, vb, v7, S2, c, e1, e2, e4, hc, hS7, hf, hnew⟩ := zps hb1 hk hln
 have hdrop : (getN t dir).names.filter (fun e => decide (e.name ≠ s)) = (getN t dir).names.take k ++ (getN t dir).names.drop (k + 1) := by
  have := zu0 ho.nodup hk
  rw [hf3] at this
  exact this
 have hk1 : ((k : Nat) : Int) + 1 = ((k + 1 : Nat) : Int) := by omega
 have hBlt : ∀ j, idOf (B dir) = some j → j < S0.length := fun j hj => (hT0.st.na dir trivial).lt hj
 have h82 : S2[S0.length]? = some (.row [zD (getN t dir) (A dir) (B dir)] 32) := hf _ _ h8 (fun hh => by have := hBlt _ hh; omega)
 have hr82 := zC h82
 have hpr8 := fun y => qG (y := y) h82
 have hst6 := sv6 (n := getN t dir) (a := A dir) (b := B dir) (q0n hS7) hS7.cells
 have hfr' : ∀ (j : Nat) (o : Ob), S0[j]? = some o → idOf (B dir) ≠ some j → (S2.set S0.length (.row [zD (getN t dir) (A dir) v7] 32))[j]? = some o := fun j o hj hb => by
  have := zZ hj
  rw [List.getElem?_set_ne (by omega)]
  exact hf j o (qA hj) hb
 have hfr : ∀ (j : Nat) (o : Ob), S0[j]? = some o → idOf (A dir) ≠ some j → idOf (B dir) ≠ some j → (S2.set S0.length (.row [zD (getN t dir) (A dir) v7] 32))[j]? = some o := fun j o hj _ hb => hfr' j o hj hb
 have h83 : (S2.set S0.length (.row [zD (getN t dir) (A dir) v7] 32))[S0.length]? = some (.row [zD (getN t dir) (A dir) v7] 32) := kD h82
 have hr83 := zC h83
 have hcell : (S2.set S0.length (.row [zD (getN t dir) (A dir) v7] 32))[a]? = some (.row [.agg [.mr m]] 127) := by
  refine hfr a _ hT0.cell (fun hh => ?_) (fun hh => ?_)
  ·obtain ⟨zs, q⟩ := (hT0.st.da dir trivial).row hh
   rw [hT0.cell] at q; cases q
  ·obtain ⟨zs, q⟩ := (hT0.st.na dir trivial).row hh
   rw [hT0.cell] at q; cases q
 have hra3 := zC hcell
 obtain ⟨o, hup, hst⟩ := hT0.st.renew (x := dir) (n := { getN t dir with names := (getN t dir).names.filter (fun e => decide (e.name ≠ s)) }) (a := A dir) (b := v7) (S' := S2.set S0.length (.row [zD (getN t dir) (A dir) v7] 32)) hsr hdi hfr
  ((hT0.st.da dir trivial).frame2 fun j o hj hi => hfr' j o hj (hT0.st.apart dir dir j hi))
  (by
   show SlE zJ _ v7 88 ((getN t dir).names.filter (fun e => decide (e.name ≠ s)))
   rw [hdrop]
   refine hS7.frame2 fun j o hj hi => ?_
   have hjn : S0.length ≠ j := by
    rcases hnew j hi with h1 | h1
    ·have := hBlt j h1; omega
    ·rw [List.length_append, List.length_singleton] at h1; omega
   rw [List.getElem?_set_ne hjn]
   exact hj)
  (fun i hi => .inl hi) (fun i hi => by
   rcases hnew i hi with h1 | h1
   ·exact .inl h1
   ·rw [List.length_append] at h1; exact .inr (by omega))
 have hup : qS Try.prog (S2.set S0.length (.row [zD (getN t dir) (A dir) v7] 32)) 125 (.mr m) (.d (.int .i64 dir)) (zD (getN t dir) (A dir) v7) = some ((S2.set S0.length (.row [zD (getN t dir) (A dir) v7] 32)).set m o) := hup
 have hst : St All ((S2.set S0.length (.row [zD (getN t dir) (A dir) v7] 32)).set m o) m (fun y => if y = dir then A dir else A y) (fun y => if y = dir then v7 else B y) (zU t dir s) := hst
 have hKL := hT0.st.keepL hfr (o := o)
 have hT4 : Tree ((S2.set S0.length (.row [zD (getN t dir) (A dir) v7] 32)).set m o) a m (fun y => if y = dir then A dir else A y) (fun y => if y = dir then v7 else B y) (zU t dir s) := ⟨by rw [List.getElem?_set_ne (Ne.symm hT0.ne)]; exact hcell, hst⟩
 have hS1 : Small (k0 + 1) (zU t dir s) := hS.drop
 have hsr1 : Srt (zU t dir s) := hsr.with
 have hc : c = 1 ∨ c = 3 := hc.elim (fun h => .inl h.1) .inr
 rcases hc with rfl | rfl
 ·simp (maxSteps:=1000000) (disch:=first|assumption|omega|rfl) only [↓gp, gc, Nat.reduceAdd, hPS, zagg, z32v, kV, kM, qI, vB, wX, hra, hlk, svz, sv, lv, zL, zI, hr8, lv6, z0b hT1.st trivial hln', hfR, hix, hre, le1, ← hf2]
  refine kK (is := [0, 1, 2, 3, 4, 5, 6, 7, 8, 9, 10, 11]) (h := 0) (by kernel_rfl) (by kernel_rfl) ?_
  simp (maxSteps:=1000000) (disch:=first|assumption|omega|rfl) only [List.replicate_zero, eq_self, gw, ga, Nat.reduceAdd, ↓gq, hPS, List.append_nil, hr8, lv6, hk1, e1, e2, e4, Option.map_some, Option.map_none, hr82, hst6, hpr8]
  refine ⟨(zE (by kernel_rfl) (zE (by kernel_rfl) (zE (by kernel_rfl) (zE (by kernel_rfl) (zE (by kernel_rfl) qO))))), by kernel_rfl, ?_⟩
  simp (maxSteps:=1000000) (disch:=first|assumption|omega|rfl) only [↓gp, gc, Nat.reduceAdd, hPS]
  refine jA (is := [0, 1, 2, 3, 4, 5, 6]) (h := 0) (by kernel_rfl) (by kernel_rfl) ?_
  simp (maxSteps:=1000000) (disch:=first|assumption|omega|rfl) only [List.replicate_zero, eq_self, gd, ga, Nat.reduceAdd, ↓gq, hPS, List.append_nil, qP, qI, jG, vB, wX, hra3, hr83, lv, hup, Option.map_some]
  refine ⟨fun _ => by kernel_rfl, ?_⟩
  refine ⟨by kernel_rfl, ?_⟩
  revert hT4 hKL
  generalize (S2.set S0.length (.row [zD (getN t dir) (A dir) v7] 32)).set m o = S4
  intro hKL hT4
  cases keep with
  | true =>
   simp (maxSteps:=1000000) (disch:=first|assumption|omega|rfl) only [↓gp, gc, Nat.reduceAdd, hPS]
   exact ⟨rfl, _, rfl, ⟨_, rfl⟩, hKL, _, _, hT4, fun _ y hy => ⟨if_neg hy, if_neg hy⟩⟩
  | false =>
   have hi := hi rfl
   have hra4 := hT4.row
   have hlk4 := fun x => (hT4.st.look x).2
   generalize qV (getN t dir).names s = ino at *
   have hlb := hS1.glnk ino
   obtain ⟨o5, hup5, hst5⟩ := hT4.st.renew (x := ino) (n := { getN (zU t dir s) ino with links := (getN (zU t dir s) ino).links - 1 }) (a := if ino = dir then A dir else A ino) (b := if ino = dir then v7 else B ino) (S' := S4 ++ [Ob.row [zD { getN (zU t dir s) ino with links := (getN (zU t dir s) ino).links - 1 } (if ino = dir then A dir else A ino) (if ino = dir then v7 else B ino)] 32]) hsr1 hi (fun j q hj _ _ => qA hj)
    ((hT4.st.da ino trivial).keep Keep.app) ((hT4.st.na ino trivial).keep Keep.app) (fun i hi => .inl hi) (fun i hi => .inl hi)
   obtain ⟨o6, hdel, hst6⟩ := hst5.del (x := ino) (hsr1.with)
   have hmlt : m < S4.length := by obtain ⟨L, q, h1, _⟩ := hT4.st.mp; exact zZ h1
   have halt := zZ hT4.cell
   have hra5 : rowE (S4 ++ [Ob.row [zD { getN (zU t dir s) ino with links := (getN (zU t dir s) ino).links - 1 } (if ino = dir then A dir else A ino) (if ino = dir then v7 else B ino)] 32]) a 0 = some (.agg [.mr m]) := (z0d halt).trans hra4
   have hc5 : ((S4 ++ [Ob.row [zD { getN (zU t dir s) ino with links := (getN (zU t dir s) ino).links - 1 } (if ino = dir then A dir else A ino) (if ino = dir then v7 else B ino)] 32]).set m o5)[S4.length]? = some (.row [zD { getN (zU t dir s) ino with links := (getN (zU t dir s) ino).links - 1 } (if ino = dir then A dir else A ino) (if ino = dir then v7 else B ino)] 32) := by
    rw [List.getElem?_set_ne (by omega)]; exact qK
   have hr5 := zC hc5
   have hca : ((S4 ++ [Ob.row [zD { getN (zU t dir s) ino with links := (getN (zU t dir s) ino).links - 1 } (if ino = dir then A dir else A ino) (if ino = dir then v7 else B ino)] 32]).set m o5)[a]? = some (.row [.agg [.mr m]] 127) := by
    rw [List.getElem?_set_ne (Ne.symm hT0.ne)]; exact qA hT4.cell
   have hra6 := zC hca
   have hm5 : ∀ (S : zA) (o : Ob) (S9 : zA), (∃ q, S[m]? = some q ∧ ∀ ys e, q ≠ .row ys e) → KeepL S9 S → KeepL S9 (S.set m o) := fun S o S9 hq h j ys e h1 h2 hj => by
    have := h j ys e h1 h2 hj
    obtain ⟨q, q1, q2⟩ := hq
    have hne : m ≠ j := by rintro rfl; rw [q1] at this; cases this; exact q2 _ _ rfl
    rw [List.getElem?_set_ne hne]; exact this
   have hmp4 : ∃ q, (S4 ++ [Ob.row [zD { getN (zU t dir s) ino with links := (getN (zU t dir s) ino).links - 1 } (if ino = dir then A dir else A ino) (if ino = dir then v7 else B ino)] 32])[m]? = some q ∧ ∀ ys e, q ≠ .row ys e := by
    obtain ⟨L, q, h1, _⟩ := hT4.st.mp
    exact ⟨_, qA h1, fun ys e => by intro h; cases h⟩
   have hmp5 : ∃ q, ((S4 ++ [Ob.row [zD { getN (zU t dir s) ino with links := (getN (zU t dir s) ino).links - 1 } (if ino = dir then A dir else A ino) (if ino = dir then v7 else B ino)] 32]).set m o5)[m]? = some q ∧ ∀ ys e, q ≠ .row ys e := by
    obtain ⟨L, q, h1, _⟩ := hst5.mp
    exact ⟨_, h1, fun ys e => by intro h; cases h⟩
   have hK5 := hm5 _ o5 _ hmp4 (hKL.trans (Keep.app (l := [Ob.row [zD { getN (zU t dir s) ino with links := (getN (zU t dir s) ino).links - 1 } (if ino = dir then A dir else A ino) (if ino = dir then v7 else B ino)] 32])).toL)
   simp (maxSteps:=1000000) (disch:=first|assumption|omega|rfl) only [↓gp, gc, Nat.reduceAdd, hPS, zagg, z32v, kV, qI, vB, wX, hra4, hlk4, svz, sv, lv, lv2, sv2, zL, zI]
   refine jA (is := [0, 1, 2, 3, 4, 5, 6]) (h := 0) (by kernel_rfl) (by kernel_rfl) ?_
   simp (maxSteps:=1000000) (disch:=first|assumption|omega|rfl) only [List.replicate_zero, eq_self, gd, ga, Nat.reduceAdd, ↓gq, hPS, List.append_nil, qP, qI, jG, vB, wX, hra5, zL, lv, hup5, Option.map_some]
   refine ⟨fun _ => by kernel_rfl, ?_⟩
   refine ⟨by kernel_rfl, ?_⟩
   by_cases hl1 : (getN (zU t dir s) ino).links - 1 < 1
   ·have e : kO (zU t dir s) ino = (qY (zU t dir s) { getN (zU t dir s) ino with links := (getN (zU t dir s) ino).links - 1 }).filter (fun n => n.ino ≠ ino) := by
     have := zaf (n := { getN (zU t dir s) ino with links := (getN (zU t dir s) ino).links - 1 }) (t := zU t dir s)
     rw [show ({ getN (zU t dir s) ino with links := (getN (zU t dir s) ino).links - 1 } : Node).ino = ino from hi] at this
     unfold kO
     rw [if_pos hl1]
     exact this.symm
    simp (maxSteps:=1000000) (disch:=first|assumption|omega|rfl) only [↓gp, gc, Nat.reduceAdd, hPS, qI, vB, wX, hra6, hr5, lv2, ze2, hdel]
    rw [← e] at hst6
    exact ⟨rfl, _, rfl, ⟨_, rfl⟩, hm5 _ o6 _ hmp5 hK5, _, _, (⟨by rw [List.getElem?_set_ne (Ne.symm hT0.ne)]; exact hca, hst6⟩ : Tree _ a m _ _ _), fun h => by cases h⟩
   ·have e : kO (zU t dir s) ino = qY (zU t dir s) { getN (zU t dir s) ino with links := (getN (zU t dir s) ino).links - 1 } := by
     unfold kO
     rw [if_neg hl1]
    simp (maxSteps:=1000000) (disch:=first|assumption|omega|rfl) only [↓gp, gc, Nat.reduceAdd, hPS, qI, vB, wX, hra6, hr5, lv2]
    rw [← e] at hst5
    exact ⟨rfl, _, rfl, ⟨_, rfl⟩, hK5, _, _, (⟨hca, hst5⟩ : Tree _ a m _ _ _), fun h => by cases h⟩
 ·simp (maxSteps:=1000000) (disch:=first|assumption|omega|rfl) only [↓gp, gc, Nat.reduceAdd, hPS, zagg, z32v, kV, kM, qI, vB, wX, hra, hlk, svz, sv, lv, zL, zI, hr8, lv6, z0b hT1.st trivial hln', hfR, hix, hre, le1, ← hf2]
  refine kK (is := [0, 1, 2, 3, 4, 5, 6, 7, 8, 9, 10, 11]) (h := 0) (by kernel_rfl) (by kernel_rfl) ?_
  simp (maxSteps:=1000000) (disch:=first|assumption|omega|rfl) only [List.replicate_zero, eq_self, gw, ga, Nat.reduceAdd, ↓gq, hPS, List.append_nil, hr8, lv6, hk1, e1, e2, e4, Option.map_some, Option.map_none, hr82, hst6, hpr8]
  refine ⟨(zE (by kernel_rfl) (zE (by kernel_rfl) (zE (by kernel_rfl) (zE (by kernel_rfl) qO)))), (zE (by kernel_rfl) (zE (by kernel_rfl) (zE (by kernel_rfl) (zE (by kernel_rfl) qO)))), by kernel_rfl, ?_⟩
  simp (maxSteps:=1000000) (disch:=first|assumption|omega|rfl) only [↓gp, gc, Nat.reduceAdd, hPS]
  refine jA (is := [0, 1, 2, 3, 4, 5, 6]) (h := 0) (by kernel_rfl) (by kernel_rfl) ?_
  simp (maxSteps:=1000000) (disch:=first|assumption|omega|rfl) only [List.replicate_zero, eq_self, gd, ga, Nat.reduceAdd, ↓gq, hPS, List.append_nil, qP, qI, jG, vB, wX, hra3, hr83, lv, hup, Option.map_some]
  refine ⟨fun _ => by kernel_rfl, ?_⟩
  refine ⟨by kernel_rfl, ?_⟩
  revert hT4 hKL
  generalize (S2.set S0.length (.row [zD (getN t dir) (A dir) v7] 32)).set m o = S4
  intro hKL hT4
  cases keep with
  | true =>
   simp (maxSteps:=1000000) (disch:=first|assumption|omega|rfl) only [↓gp, gc, Nat.reduceAdd, hPS]
   exact ⟨rfl, _, rfl, ⟨_, rfl⟩, hKL, _, _, hT4, fun _ y hy => ⟨if_neg hy, if_neg hy⟩⟩
  | false =>
   have hi := hi rfl
   have hra4 := hT4.row
   have hlk4 := fun x => (hT4.st.look x).2
   generalize qV (getN t dir).names s = ino at *
   have hlb := hS1.glnk ino
   obtain ⟨o5, hup5, hst5⟩ := hT4.st.renew (x := ino) (n := { getN (zU t dir s) ino with links := (getN (zU t dir s) ino).links - 1 }) (a := if ino = dir then A dir else A ino) (b := if ino = dir then v7 else B ino) (S' := S4 ++ [Ob.row [zD { getN (zU t dir s) ino with links := (getN (zU t dir s) ino).links - 1 } (if ino = dir then A dir else A ino) (if ino = dir then v7 else B ino)] 32]) hsr1 hi (fun j q hj _ _ => qA hj)
    ((hT4.st.da ino trivial).keep Keep.app) ((hT4.st.na ino trivial).keep Keep.app) (fun i hi => .inl hi) (fun i hi => .inl hi)
   obtain ⟨o6, hdel, hst6⟩ := hst5.del (x := ino) (hsr1.with)
   have hmlt : m < S4.length := by obtain ⟨L, q, h1, _⟩ := hT4.st.mp; exact zZ h1
   have halt := zZ hT4.cell
   have hra5 : rowE (S4 ++ [Ob.row [zD { getN (zU t dir s) ino with links := (getN (zU t dir s) ino).links - 1 } (if ino = dir then A dir else A ino) (if ino = dir then v7 else B ino)] 32]) a 0 = some (.agg [.mr m]) := (z0d halt).trans hra4
   have hc5 : ((S4 ++ [Ob.row [zD { getN (zU t dir s) ino with links := (getN (zU t dir s) ino).links - 1 } (if ino = dir then A dir else A ino) (if ino = dir then v7 else B ino)] 32]).set m o5)[S4.length]? = some (.row [zD { getN (zU t dir s) ino with links := (getN (zU t dir s) ino).links - 1 } (if ino = dir then A dir else A ino) (if ino = dir then v7 else B ino)] 32) := by
    rw [List.getElem?_set_ne (by omega)]; exact qK
   have hr5 := zC hc5
   have hca : ((S4 ++ [Ob.row [zD { getN (zU t dir s) ino with links := (getN (zU t dir s) ino).links - 1 } (if ino = dir then A dir else A ino) (if ino = dir then v7 else B ino)] 32]).set m o5)[a]? = some (.row [.agg [.mr m]] 127) := by
    rw [List.getElem?_set_ne (Ne.symm hT0.ne)]; exact qA hT4.cell
   have hra6 := zC hca
   have hm5 : ∀ (S : zA) (o : Ob) (S9 : zA), (∃ q, S[m]? = some q ∧ ∀ ys e, q ≠ .row ys e) → KeepL S9 S → KeepL S9 (S.set m o) := fun S o S9 hq h j ys e h1 h2 hj => by
    have := h j ys e h1 h2 hj
    obtain ⟨q, q1, q2⟩ := hq
    have hne : m ≠ j := by rintro rfl; rw [q1] at this; cases this; exact q2 _ _ rfl
    rw [List.getElem?_set_ne hne]; exact this
   have hmp4 : ∃ q, (S4 ++ [Ob.row [zD { getN (zU t dir s) ino with links := (getN (zU t dir s) ino).links - 1 } (if ino = dir then A dir else A ino) (if ino = dir then v7 else B ino)] 32])[m]? = some q ∧ ∀ ys e, q ≠ .row ys e := by
    obtain ⟨L, q, h1, _⟩ := hT4.st.mp
    exact ⟨_, qA h1, fun ys e => by intro h; cases h⟩
   have hmp5 : ∃ q, ((S4 ++ [Ob.row [zD { getN (zU t dir s) ino with links := (getN (zU t dir s) ino).links - 1 } (if ino = dir then A dir else A ino) (if ino = dir then v7 else B ino)] 32]).set m o5)[m]? = some q ∧ ∀ ys e, q ≠ .row ys e := by
    obtain ⟨L, q, h1, _⟩ := hst5.mp
    exact ⟨_, h1, fun ys e => by intro h; cases h⟩
   have hK5 := hm5 _ o5 _ hmp4 (hKL.trans (Keep.app (l := [Ob.row [zD { getN (zU t dir s) ino with links := (getN (zU t dir s) ino).links - 1 } (if ino = dir then A dir else A ino) (if ino = dir then v7 else B ino)] 32])).toL)
   simp (maxSteps:=1000000) (disch:=first|assumption|omega|rfl) only [↓gp, gc, Nat.reduceAdd, hPS, zagg, z32v, kV, qI, vB, wX, hra4, hlk4, svz, sv, lv, lv2, sv2, zL, zI]
   refine jA (is := [0, 1, 2, 3, 4, 5, 6]) (h := 0) (by kernel_rfl) (by kernel_rfl) ?_
   simp (maxSteps:=1000000) (disch:=first|assumption|omega|rfl) only [List.replicate_zero, eq_self, gd, ga, Nat.reduceAdd, ↓gq, hPS, List.append_nil, qP, qI, jG, vB, wX, hra5, zL, lv, hup5, Option.map_some]
   refine ⟨fun _ => by kernel_rfl, ?_⟩
   refine ⟨by kernel_rfl, ?_⟩
   by_cases hl1 : (getN (zU t dir s) ino).links - 1 < 1
   ·have e : kO (zU t dir s) ino = (qY (zU t dir s) { getN (zU t dir s) ino with links := (getN (zU t dir s) ino).links - 1 }).filter (fun n => n.ino ≠ ino) := by
     have := zaf (n := { getN (zU t dir s) ino with links := (getN (zU t dir s) ino).links - 1 }) (t := zU t dir s)
     rw [show ({ getN (zU t dir s) ino with links := (getN (zU t dir s) ino).links - 1 } : Node).ino = ino from hi] at this
     unfold kO
     rw [if_pos hl1]
     exact this.symm
    simp (maxSteps:=1000000) (disch:=first|assumption|omega|rfl) only [↓gp, gc, Nat.reduceAdd, hPS, qI, vB, wX, hra6, hr5, lv2, ze2, hdel]
    rw [← e] at hst6
    exact ⟨rfl, _, rfl, ⟨_, rfl⟩, hm5 _ o6 _ hmp5 hK5, _, _, (⟨by rw [List.getElem?_set_ne (Ne.symm hT0.ne)]; exact hca, hst6⟩ : Tree _ a m _ _ _), fun h => by cases h⟩
   ·have e : kO (zU t dir s) ino = qY (zU t dir s) { getN (zU t dir s) ino with links := (getN (zU t dir s) ino).links - 1 } := by
     unfold kO
     rw [if_neg hl1]
    simp (maxSteps:=1000000) (disch:=first|assumption|omega|rfl) only [↓gp, gc, Nat.reduceAdd, hPS, qI, vB, wX, hra6, hr5, lv2]
    rw [← e] at hst5
    exact ⟨rfl, _, rfl, ⟨_, rfl⟩, hK5, _, _, (⟨hca, hst5⟩ : Tree _ a m _ _ _), fun h => by cases h⟩
theorem zx8 (S0 : zA) (a m : Nat) (hT0 : Tree S0 a m A B t) (hsr : Srt t) (k0 : Nat) (hk0 : k0 < 200000) (hS : Small k0 t) (dir : Int) (hd : (getN t dir).kind = 2) (ho : Ord (getN t dir).names) (s : List UInt8) (hs : ∃ e ∈ (getN t dir).names, e.name = s) (keep : Bool) (hi : keep = false → (getN (zU t dir s) (qV (getN t dir).names s)).ino = qV (getN t dir).names s) :
  EvS cfgS 108 [.ref a 0 0, .d (.int .i64 dir), .d (.str s), .d (.bool keep)] S0 fun o S => (∃ v, o = .ret v) ∧ KeepL S0 S ∧ ∃ A' B', Tree S a m A' B' (if keep then zU t dir s else kO (zU t dir s) (qV (getN t dir).names s)) :=
 EvS.weak (zr9 S0 a m hT0 hsr k0 hk0 hS dir hd ho s hs keep hi) fun o S ⟨h1, h2, A', B', h3, _⟩ => ⟨h1, h2, A', B', h3⟩
end Go.Proofs.Ytghllhghboaagaa
end
section
namespace Go.Proofs.Ytghllhghboaagaa
open Go.Vm
def ansV (x : Ans) (v5 v6 : V) : V := .agg [.d (.int .i64 x.err), .d (.int .i64 x.ino), .d (.int .i64 x.kind), .d (.int .i64 x.links), .d (.int .i64 x.size), v5, v6]
section
variable {x : Ans} {v5 v6 v : V} {n : Node} {a b : V} {y : Int}
theorem av1 : qL Try.prog 3 1 (.d (.int .i64 y)) (ansV x v5 v6) = some (ansV { x with ino := y } v5 v6) := by kernel_rfl
theorem sv1 : qL Try.prog 3 1 (.d (.int .i64 y)) (zD n a b) = some (zD { n with kind := y } a b) := by kernel_rfl
theorem sv3 : qL Try.prog 3 3 (.d (.int .i64 y)) (zD n a b) = some (zD { n with parent := y } a b) := by kernel_rfl
theorem bdn {y : Int} : z1j Try.prog 32 [(0, .d (.int .i64 y)), (1, .d (.int .i64 1)), (2, .d (.int .i64 1))] = some (zD ⟨y, 1, 1, 0, 0, [], []⟩ (.ts []) (.ts [])) := by kernel_rfl
end
abbrev encS (s : List UInt8) : D := .str s
def KeepR (r : Nat) (S S' : zA) : Prop := ∀ (j : Nat) (ys : List V) (e : TypeId), (e = 94 ∨ e = 44) → j ≠ r → S[j]? = some (.row ys e) → S'[j]? = some (.row ys e)
theorem Keep.toR {r : Nat} {S S' : zA} (h : Keep S S') : KeepR r S S' := fun j ys e _ _ hj => h j _ hj
theorem KeepL.toR {r : Nat} {S S' : zA} (h : KeepL S S') : KeepR r S S' := fun j ys e he _ hj => h j _ _ (by rcases he with rfl | rfl <;> decide) (by rcases he with rfl | rfl <;> decide) hj
theorem KeepR.refl {r : Nat} {S : zA} : KeepR r S S := fun _ _ _ _ _ h => h
theorem KeepR.trans {r : Nat} {S S' S'' : zA} (h : KeepR r S S') (h' : KeepR r S' S'') : KeepR r S S'' := fun j ys e he hn hj => h' j ys e he hn (h j ys e he hn hj)
theorem KeepR.setR {r : Nat} {S S' : zA} {o : Ob} (h : KeepR r S S') : KeepR r S (S'.set r o) := fun j zs e he hn hj => by
 rw [List.getElem?_set_ne (Ne.symm hn)]
 exact h j zs e he hn hj
theorem KeepR.setO {r i : Nat} {S S' : zA} {ys : List V} {e : TypeId} {o : Ob} (h : KeepR r S S') (hr : S'[i]? = some (.row ys e)) (he : e ≠ 94 ∧ e ≠ 44) : KeepR r S (S'.set i o) := fun j zs e' he' hn hj => by
 have h1 := h j zs e' he' hn hj
 rw [List.getElem?_set_ne]
 ·exact h1
 ·rintro rfl
  rw [hr] at h1
  simp only [Option.some.injEq, Ob.row.injEq] at h1
  rcases he' with rfl | rfl
  ·exact he.1 h1.2
  ·exact he.2 h1.2
def Res (S0 : zA) (a m r : Nat) (q : List Node × Ans) : Out → zA → Prop := fun o S => if q.2.err = 0 then (∃ v, o = .ret v) ∧ (∃ A' B' v5 v6, Tree S a m A' B' q.1 ∧ S[r]? = some (.row [ansV q.2 v5 v6] 44) ∧ srcV Try.prog S 5 29 v5 = some (q.2.data.map fun b => .d (encU b)) ∧ SlE encS S v6 9 q.2.names) ∧ KeepR r S0 S else o = panD q.2.err ∧ Keep S0 S
theorem Res.fail {S0 : zA} {a m r : Nat} {t : List Node} {e : Int} (he : e ≠ 0) {S : zA} (hk : Keep S0 S) : Res S0 a m r (t, wF e) (panD e) S := by
 unfold Res
 rw [if_neg (show ¬ (wF e).err = 0 from he)]
 exact ⟨rfl, hk⟩
theorem Res.done {S0 : zA} {a m r : Nat} {q : List Node × Ans} {S : zA} {v : V} {A' B' : Int → V} {v5 v6 : V} (h0 : q.2.err = 0) (hT : Tree S a m A' B' q.1) (hr : S[r]? = some (.row [ansV q.2 v5 v6] 44)) (h5 : srcV Try.prog S 5 29 v5 = some (q.2.data.map fun b => .d (encU b))) (h6 : SlE encS S v6 9 q.2.names) (hk : KeepR r S0 S) : Res S0 a m r q (.ret v) S := by
 unfold Res
 rw [if_pos h0]
 exact ⟨⟨_, rfl⟩, ⟨A', B', v5, v6, hT, hr, h5, h6⟩, hk⟩
theorem vO {S : zA} : srcV Try.prog S 5 29 (.ts []) = some [] := by kernel_rfl
structure Good (k0 : Nat) (t : List Node) : Prop where
 sm : Small k0 t
 lj : LJ t (fun _ => 0)
 ti : TInv t 1
theorem Good.told {k0 : Nat} {t : List Node} (h : Good k0 t) : Told t := h.lj.toTold h.ti
section
variable {S : zA} {a m r : Nat} {A B : Int → V} {t : List Node}
theorem Tree.other {o : Ob} {ys : List V} {e : TypeId} (h : Tree S a m A B t) (hr : S[r]? = some (.row ys e)) (h1 : e ≠ 5) (h2 : e ≠ 88) (h3 : e ≠ 127) : Tree (S.set r o) a m A B t := by
 have hra : r ≠ a := by rintro rfl; rw [h.cell] at hr; cases hr; exact h3 rfl
 obtain ⟨L, c, hm, hrest⟩ := h.st.mp
 have hrm : r ≠ m := by rintro rfl; rw [hm] at hr; cases hr
 have hf : ∀ (j : Nat) (q : Ob), r ≠ j → S[j]? = some q → (S.set r o)[j]? = some q := fun j q hj hq => by rw [List.getElem?_set_ne hj]; exact hq
 refine ⟨hf _ _ hra h.cell, ⟨L, c, hf _ _ hrm hm, hrest⟩, fun x hx => (h.st.da x hx).frame2 fun j q hq hi => hf j q ?_ hq, fun x hx => (h.st.na x hx).frame2 fun j q hq hi => hf j q ?_ hq, h.st.z, h.st.sa, h.st.sb⟩
 ·rintro rfl
  obtain ⟨zs, q⟩ := (h.st.da x hx).row hi
  rw [hr] at q; cases q; exact h1 rfl
 ·rintro rfl
  obtain ⟨zs, q⟩ := (h.st.na x hx).row hi
  rw [hr] at q; cases q; exact h2 rfl
end
theorem zans : V.agg [.d (.int .i64 0), .d (.int .i64 0), .d (.int .i64 0), .d (.int .i64 0), .d (.int .i64 0), .ts [], .ts []] = ansV okN (.ts []) (.ts []) := rfl
theorem vD {x : Int} : z24 (.d (.int .i64 x)) (.d (.int .i64 x)) = true := by simp [z24, kY, kX, z3d, jY]
theorem zn3 (S0 : zA) (a m r : Nat) (A B : Int → V) (t : List Node) (hT0 : Tree S0 a m A B t) (k0 : Nat) (hk0 : k0 < 200000) (hG : Good k0 t) (o : Opn) (hl : o.a.length < 900000) (hr : S0[r]? = some (.row [ansV okN (.ts []) (.ts [])] 44)) :
  EvS cfgS 76 [.ref a 0 0, .d (encOpn o), .ref r 0 0] S0 (Res S0 a m r (z3j t o)) := by
 have hk1 : k0 < 300000 := by omega
 refine wJ rfl zxw ?_
 show Wp cfgS (Try.f76.body.getD .skip) ((.ref a 0 0) :: (.d (encOpn o)) :: (.ref r 0 0) :: uZ (uZ (uZ (uZ (uZ ((.tup []) :: (.tup []) :: [])))))) S0 [] _
 unfold uZ
 conv => arg 2; whnf
 rw [qQ]
 have hT1 := hT0.keep (Keep.app (l := [Ob.row [.d (encOpn o)] 48]))
 have hlt : t.length < 400000 := Nat.lt_of_le_of_lt hG.sm.len (by omega)
 simp (maxSteps:=1000000) (disch:=first|assumption|omega|rfl) only [↓gp, gc, Nat.reduceAdd, hPS, zL]
 generalize hq : z3j t o = q
 unfold z3j at hq
 refine z5p rfl (zf9 _ a m hT1 hG.told k0 hk1 hG.sm o.a hl) ?_ ?_
 ·intro h0 S1 hK1
  rw [if_neg (by simp [h0])] at hq
  have hd := jM h0
  have hK01 := Keep.app.trans hK1
  have h4 := hK1 _ _ (qK (S := S0) (o := Ob.row [.d (encOpn o)] 48))
  have hT2 := hT0.keep (hK01.trans (Keep.app (l := [Ob.row [zD (getN t (zQ t o.a).1) (A (zQ t o.a).1) (B (zQ t o.a).1)] 32])))
  have hgn : (getN t (zQ t o.a).1).names.length < 1000000 := Nat.lt_of_le_of_lt (hG.sm.gnms _) (by omega)
  have hN : qM t o = if o.does = 2 then ⟨jE t, 2, 1, (zQ t o.a).1, 0, [], []⟩ else ⟨jE t, 1, 1, 0, 0, [], []⟩ := rfl
  generalize hw : zQ t o.a = w at *
  obtain ⟨d, s, e⟩ := w
  simp only at hq hd hT2 hgn h0 hN
  rcases z12 (s := s) (l := (getN t d).names) (i := 0) with ⟨f1, f2⟩ | ⟨j, hj, f1, f2⟩
  ·have hf : vR (getN t d) s = (0, false) := by unfold vR; rw [f1]
   rw [if_neg (by rw [f2]; omega)] at hq
   subst hq
   simp (maxSteps:=1000000) (disch:=first|assumption|omega|rfl) only [↓gp, gc, Nat.reduceAdd, hPS, zagg, z32v, kV, kM, svz, sv, lv, zL, zI, z0b hT2.st trivial hgn, hf, jK]
   refine jB rfl (q2o _ a m hT2 hlt) ?_ ?_
   ·rintro v S2 ⟨hK2, hv⟩
    cases hv
    have h42 := hK2 _ _ (qA (l := [Ob.row [zD (getN t d) (A d) (B d)] 32]) h4)
    have h62 := hK2 _ _ (qK (S := S1) (o := Ob.row [zD (getN t d) (A d) (B d)] 32))
    have hr2 := hK2 _ _ (qA (l := [Ob.row [zD (getN t d) (A d) (B d)] 32]) (hK01 _ _ hr))
    have hT3 := hT2.keep hK2
    have hr42 : ∀ l, rowE (S2 ++ l) S0.length 0 = some (.d (encOpn o)) := fun l => (z0d (zZ h42)).trans (zC h42)
    have hr62 : ∀ l, rowE (S2 ++ l) S1.length 0 = some (zD (getN t d) (A d) (B d)) := fun l => (z0d (zZ h62)).trans (zC h62)
    obtain ⟨hn1, hn2, _⟩ := z0g t
    have hz : getN t (jE t) = zM := z1s hn1
    have hnd : d ≠ jE t := fun hh => by rw [hh, hz] at hd; simp [zM] at hd
    have hmi : (qM t o).ino = jE t := by unfold qM; split <;> rfl
    have hg4 : getN (qY t (qM t o)) d = getN t d := by
     rw [qX hG.lj.srt.uniq]
     unfold upd
     rw [hmi, if_neg hnd]
    have hsr4 : Srt (qY t (qM t o)) := hG.lj.srt.with
    have hS4 : Small (k0 + 1) (qY t (qM t o)) := hG.sm.with (by unfold qM; split <;> exact ⟨by simp, by simp, by simp; omega, by simp⟩)
    have hdi4 : (getN (qY t (qM t o)) d).ino = d := by rw [hg4]; exact jD hd
    have ho4 : Ord (getN (qY t (qM t o)) d).names := by rw [hg4]; exact hG.lj.nod d
    by_cases hdo : o.does = 2
    ·simp (maxSteps:=1000000) (disch:=first|assumption|omega|rfl) only [↓gp, gc, Nat.reduceAdd, hPS, kM, bdn, svz, sv, lv, zL, zI, hr42]
     have hld : ∀ l, jP Try.prog (S2 ++ l) 3 (.ref S1.length 0 0) = some (.d (.int .i64 d)) := fun l => (jN (hr62 l)).trans (by rw [lv0, jD hd])
     refine kK (is := [0, 1, 2, 3, 4, 5]) (h := 0) (by kernel_rfl) (by kernel_rfl) ?_
     simp (maxSteps:=1000000) (disch:=first|assumption|omega|rfl) only [List.replicate_zero, eq_self, gw, ga, Nat.reduceAdd, ↓gq, hPS, List.append_nil, zL, zI, hr62, lv0, jD hd, sv1, sv3]
     refine ⟨jJ rfl (by kernel_rfl) rfl ?_ vD qO, zE (by kernel_rfl) qO, by kernel_rfl, ?_⟩
     ·exact (show _ = (jP Try.prog _ 3 (.ref S1.length 0 0)).map (fun v => Rs.val v _ 1) from rfl).trans (by rw [hld]; rfl)
     simp (maxSteps:=1000000) (disch:=first|assumption|omega|rfl) only [↓gp, gc, Nat.reduceAdd, hPS]
     have hmN : ⟨jE t, 2, 1, d, 0, [], []⟩ = qM t o := by rw [hN]; rw [if_pos hdo]
     obtain ⟨o7, hup, hst⟩ := hT3.st.renew (x := jE t) (n := ⟨jE t, 2, 1, d, 0, [], []⟩) (a := .ts []) (b := .ts []) (S' := S2 ++ [Ob.row [zD ⟨jE t, 2, 1, d, 0, [], []⟩ (.ts []) (.ts [])] 32]) hG.lj.srt rfl (fun j q hj _ _ => qA hj) (.inl ⟨rfl, rfl⟩) (.inl ⟨rfl, rfl⟩) (fun i hi => by cases hi) (fun i hi => by cases hi)
     have hKL := hT3.st.keepL (x := jE t) (S' := S2 ++ [Ob.row [zD ⟨jE t, 2, 1, d, 0, [], []⟩ (.ts []) (.ts [])] 32]) (o := o7) (fun j q hj _ _ => qA hj)
     have hra3 : rowE (S2 ++ [Ob.row [zD ⟨jE t, 2, 1, d, 0, [], []⟩ (.ts []) (.ts [])] 32]) a 0 = some (.agg [.mr m]) := (z0d (zZ hT3.cell)).trans hT3.row
     have hmlt : m < S2.length := by obtain ⟨L, q, h1, _⟩ := hT3.st.mp; exact zZ h1
     have hT4 : Tree ((S2 ++ [Ob.row [zD ⟨jE t, 2, 1, d, 0, [], []⟩ (.ts []) (.ts [])] 32]).set m o7) a m (fun y => if y = jE t then .ts [] else A y) (fun y => if y = jE t then .ts [] else B y) (qY t ⟨jE t, 2, 1, d, 0, [], []⟩) := ⟨by rw [List.getElem?_set_ne (Ne.symm hT3.ne)]; exact qA hT3.cell, hst⟩
     have hN4 : ((S2 ++ [Ob.row [zD ⟨jE t, 2, 1, d, 0, [], []⟩ (.ts []) (.ts [])] 32]).set m o7)[S2.length]? = some (.row [zD ⟨jE t, 2, 1, d, 0, [], []⟩ (.ts []) (.ts [])] 32) := by rw [List.getElem?_set_ne (by omega)]; exact qK
     have h64 := hKL _ _ _ (by decide) (by decide) h62
     have hr4' := hKL _ _ _ (by decide) (by decide) hr2
     refine jA (is := [0, 1, 2, 3, 4, 5, 6, 7]) (h := 0) (by kernel_rfl) (by kernel_rfl) ?_
     simp (maxSteps:=1000000) (disch:=first|assumption|omega|rfl) only [List.replicate_zero, eq_self, gd, ga, Nat.reduceAdd, ↓gq, hPS, List.append_nil, qP, qI, jG, vB, wX, hra3, zL, lv, lv0, hup, Option.map_some]
     refine ⟨fun _ => by kernel_rfl, ?_⟩
     refine ⟨by kernel_rfl, ?_⟩
     generalize (S2 ++ [Ob.row [zD ⟨jE t, 2, 1, d, 0, [], []⟩ (.ts []) (.ts [])] 32]).set m o7 = S4 at *
     rw [hmN] at hT4
     have hr64 := zC h64
     have hrN4 := zC hN4
     simp (maxSteps:=1000000) (disch:=first|assumption|omega|rfl) only [↓gp, gc, Nat.reduceAdd, hPS, hr64, hrN4, lv0, jD hd]
     refine jB rfl (putM _ a m hT4 hsr4 (k0 + 1) (by omega) hS4 d hdi4 ho4 s (jE t)) ?_ ?_
     ·rintro v S5 ⟨_, hK5, A5, B5, hT5⟩
      have hN5 := hK5 _ _ _ (by decide) (by decide) hN4
      have hr5 := hK5 _ _ _ (by decide) (by decide) hr4'
      have hrN5 := zC hN5
      have hrr5 := zC hr5
      have hpr5 := fun y => qG (y := y) hr5
      simp (maxSteps:=1000000) (disch:=first|assumption|omega|rfl) only [↓gp, gc, Nat.reduceAdd, hPS, qI, hrN5, hrr5, hpr5, lv0, av1]
      exact ⟨rfl, _, rfl, Res.done (v5 := .ts []) (v6 := .ts []) rfl (hT5.other hr5 (by decide) (by decide) (by decide)) (kD hr5) vO (.inl ⟨rfl, rfl⟩) (((((hK01.trans Keep.app).trans hK2).toR.trans hKL.toR).trans hK5.toR).setR)⟩
     ·rintro v S5 ⟨⟨w, hv⟩, _⟩
      cases hv
    ·simp (maxSteps:=1000000) (disch:=first|assumption|omega|rfl) only [↓gp, gc, Nat.reduceAdd, hPS, kM, bdn, svz, sv, lv, zL, zI, hr42]
     have hmN : ⟨jE t, 1, 1, 0, 0, [], []⟩ = qM t o := by rw [hN]; rw [if_neg hdo]
     obtain ⟨o7, hup, hst⟩ := hT3.st.renew (x := jE t) (n := ⟨jE t, 1, 1, 0, 0, [], []⟩) (a := .ts []) (b := .ts []) (S' := S2 ++ [Ob.row [zD ⟨jE t, 1, 1, 0, 0, [], []⟩ (.ts []) (.ts [])] 32]) hG.lj.srt rfl (fun j q hj _ _ => qA hj) (.inl ⟨rfl, rfl⟩) (.inl ⟨rfl, rfl⟩) (fun i hi => by cases hi) (fun i hi => by cases hi)
     have hKL := hT3.st.keepL (x := jE t) (S' := S2 ++ [Ob.row [zD ⟨jE t, 1, 1, 0, 0, [], []⟩ (.ts []) (.ts [])] 32]) (o := o7) (fun j q hj _ _ => qA hj)
     have hra3 : rowE (S2 ++ [Ob.row [zD ⟨jE t, 1, 1, 0, 0, [], []⟩ (.ts []) (.ts [])] 32]) a 0 = some (.agg [.mr m]) := (z0d (zZ hT3.cell)).trans hT3.row
     have hmlt : m < S2.length := by obtain ⟨L, q, h1, _⟩ := hT3.st.mp; exact zZ h1
     have hT4 : Tree ((S2 ++ [Ob.row [zD ⟨jE t, 1, 1, 0, 0, [], []⟩ (.ts []) (.ts [])] 32]).set m o7) a m (fun y => if y = jE t then .ts [] else A y) (fun y => if y = jE t then .ts [] else B y) (qY t ⟨jE t, 1, 1, 0, 0, [], []⟩) := ⟨by rw [List.getElem?_set_ne (Ne.symm hT3.ne)]; exact qA hT3.cell, hst⟩
     have hN4 : ((S2 ++ [Ob.row [zD ⟨jE t, 1, 1, 0, 0, [], []⟩ (.ts []) (.ts [])] 32]).set m o7)[S2.length]? = some (.row [zD ⟨jE t, 1, 1, 0, 0, [], []⟩ (.ts []) (.ts [])] 32) := by rw [List.getElem?_set_ne (by omega)]; exact qK
     have h64 := hKL _ _ _ (by decide) (by decide) h62
     have hr4' := hKL _ _ _ (by decide) (by decide) hr2
     refine jA (is := [0, 1, 2, 3, 4, 5, 6, 7]) (h := 0) (by kernel_rfl) (by kernel_rfl) ?_
     simp (maxSteps:=1000000) (disch:=first|assumption|omega|rfl) only [List.replicate_zero, eq_self, gd, ga, Nat.reduceAdd, ↓gq, hPS, List.append_nil, qP, qI, jG, vB, wX, hra3, zL, lv, lv0, hup, Option.map_some]
     refine ⟨fun _ => by kernel_rfl, ?_⟩
     refine ⟨by kernel_rfl, ?_⟩
     generalize (S2 ++ [Ob.row [zD ⟨jE t, 1, 1, 0, 0, [], []⟩ (.ts []) (.ts [])] 32]).set m o7 = S4 at *
     rw [hmN] at hT4
     have hr64 := zC h64
     have hrN4 := zC hN4
     simp (maxSteps:=1000000) (disch:=first|assumption|omega|rfl) only [↓gp, gc, Nat.reduceAdd, hPS, hr64, hrN4, lv0, jD hd]
     refine jB rfl (putM _ a m hT4 hsr4 (k0 + 1) (by omega) hS4 d hdi4 ho4 s (jE t)) ?_ ?_
     ·rintro v S5 ⟨_, hK5, A5, B5, hT5⟩
      have hN5 := hK5 _ _ _ (by decide) (by decide) hN4
      have hr5 := hK5 _ _ _ (by decide) (by decide) hr4'
      have hrN5 := zC hN5
      have hrr5 := zC hr5
      have hpr5 := fun y => qG (y := y) hr5
      simp (maxSteps:=1000000) (disch:=first|assumption|omega|rfl) only [↓gp, gc, Nat.reduceAdd, hPS, qI, hrN5, hrr5, hpr5, lv0, av1]
      exact ⟨rfl, _, rfl, Res.done (v5 := .ts []) (v6 := .ts []) rfl (hT5.other hr5 (by decide) (by decide) (by decide)) (kD hr5) vO (.inl ⟨rfl, rfl⟩) (((((hK01.trans Keep.app).trans hK2).toR.trans hKL.toR).trans hK5.toR).setR)⟩
     ·rintro v S5 ⟨⟨w, hv⟩, _⟩
      cases hv
   ·rintro v S2 ⟨_, hv⟩
    cases hv
  ·rw [Nat.zero_add] at f1
   have hf : vR (getN t d) s = (((j : Nat) : Int), true) := by unfold vR; rw [f1]
   have hge := hG.ti.inv.ge2 d _ (List.getElem_mem hj)
   rw [if_pos (by rw [f2]; omega)] at hq
   subst hq
   have h5 : (5 : Int) ≠ 0 := by omega
   simp (maxSteps:=1000000) (disch:=first|assumption|omega|rfl) only [↓gp, gc, Nat.reduceAdd, hPS, zagg, z32v, kV, kM, svz, sv, lv, zL, zI, z0b hT2.st trivial hgn, hf, jX h5]
   exact ⟨rfl, Res.fail h5 (hK01.trans Keep.app)⟩
 ·intro h0 S1 hK1
  rw [if_pos h0] at hq
  subst hq
  exact ⟨rfl, Res.fail h0 (Keep.app.trans hK1)⟩
theorem zcu {ops : Array Oper} {dst : Option Tmp} {l : List Oper} {T : List V} {S : zA} {F : Dfs} {Q : Post} {a m : Nat} {t : List Node} {A B : Int → V} (hT0 : Tree S a m A B t) (hT : Told t) {k0 : Nat} (hk0 : k0 < 300000) (hS : Small k0 t) {s : List UInt8} (hl : s.length < 900000)
  (h0 : (zN t s).2 = 0 → (getN t (zN t s).1).kind ≠ 2 → ∀ S', Keep S S' → WpL cfgS ops l (putT T dst (zD (getN t (zN t s).1) (A (zN t s).1) (B (zN t s).1))) S' F Q)
  (h1 : ∀ e, ((zN t s).2 ≠ 0 ∧ e = (zN t s).2) ∨ ((zN t s).2 = 0 ∧ (getN t (zN t s).1).kind = 2 ∧ e = 7) → ∀ S', Keep S S' → Q (.pan (.d (.iface 41 (.int .i64 e)))) T S' F) : WpR cfgS ops dst l T S F Q (some (.enter 107 [.ref a 0 0, .d (.str s)])) := by
 refine z9p rfl (q1j S a m hT0 hT k0 hk0 hS s hl) ?_ ?_
 ·intro h S' hK
  by_cases c1 : (zN t s).2 = 0
  ·by_cases c2 : (getN t (zN t s).1).kind = 2
   ·rw [if_neg (by simp [c1]), if_pos c2] at h
    cases h
   ·rw [if_neg (by simp [c1]), if_neg c2]
    exact h0 c1 c2 S' hK
  ·rw [if_pos c1] at h
   exact absurd h c1
 ·intro h S' hK
  by_cases c1 : (zN t s).2 = 0
  ·by_cases c2 : (getN t (zN t s).1).kind = 2
   ·rw [if_neg (by simp [c1]), if_pos c2]
    exact h1 7 (.inr ⟨c1, c2, rfl⟩) S' hK
   ·rw [if_neg (by simp [c1]), if_neg c2] at h
    exact absurd c1 h
  ·rw [if_pos c1]
   exact h1 _ (.inl ⟨c1, rfl⟩) S' hK
theorem Tree.renewK {S S' : zA} {a m : Nat} {A B : Int → V} {t : List Node} {n : Node} {x : Int} {p q : V} (h : Tree S a m A B t) (hs : Srt t) (hx : n.ino = x) (hf : ∀ (j : Nat) (o : Ob), S[j]? = some o → idOf (A x) ≠ some j → idOf (B x) ≠ some j → S'[j]? = some o)
  (ha : SlE encU S' p 5 n.data) (hb : SlE zJ S' q 88 n.names) (ha2 : ∀ i, idOf p = some i → idOf (A x) = some i ∨ S.length ≤ i) (hb2 : ∀ i, idOf q = some i → idOf (B x) = some i ∨ S.length ≤ i) :
  ∃ o, qS Try.prog S' 125 (.mr m) (.d (.int .i64 x)) (zD n p q) = some (S'.set m o) ∧ Tree (S'.set m o) a m (fun y => if y = x then p else A y) (fun y => if y = x then q else B y) (qY t n) ∧ (∀ (j : Nat) (ys : List V) (e : TypeId), S'[j]? = some (.row ys e) → (S'.set m o)[j]? = some (.row ys e)) ∧ S'[a]? = some (.row [.agg [.mr m]] 127) := by
 obtain ⟨o, hup, hst⟩ := h.st.renew hs hx hf ha hb ha2 hb2
 have hcell : S'[a]? = some (.row [.agg [.mr m]] 127) := by
  refine hf a _ h.cell (fun hh => ?_) (fun hh => ?_)
  ·obtain ⟨zs, q⟩ := (h.st.da x trivial).row hh
   rw [h.cell] at q; cases q
  ·obtain ⟨zs, q⟩ := (h.st.na x trivial).row hh
   rw [h.cell] at q; cases q
 have hm : ∃ L c, S'[m]? = some (.mp L c) := by
  obtain ⟨L, c, h1, _⟩ := h.st.mp
  refine ⟨_, _, hf m _ h1 (fun hh => ?_) (fun hh => ?_)⟩
  ·obtain ⟨zs, q⟩ := (h.st.da x trivial).row hh
   rw [h1] at q; cases q
  ·obtain ⟨zs, q⟩ := (h.st.na x trivial).row hh
   rw [h1] at q; cases q
 obtain ⟨L, c, hm⟩ := hm
 refine ⟨o, hup, ⟨by rw [List.getElem?_set_ne (Ne.symm h.ne)]; exact hcell, hst⟩, fun j ys e hj => ?_, hcell⟩
 have hne : m ≠ j := by rintro rfl; rw [hm] at hj; cases hj
 rw [List.getElem?_set_ne hne]; exact hj
theorem sv2m {n : Node} {a b : V} : qL Try.prog 3 2 (.d (.int .i64 (n.links + 1))) (zD n a b) = some (zD (more n) a b) := by kernel_rfl
theorem q2g (S0 : zA) (a m r : Nat) (A B : Int → V) (t : List Node) (hT0 : Tree S0 a m A B t) (k0 : Nat) (hk0 : k0 < 200000) (hG : Good k0 t) (o : Opn) (hl : o.a.length < 900000) (hlb : o.b.length < 900000) (hr : S0[r]? = some (.row [ansV okN (.ts []) (.ts [])] 44)) :
  EvS cfgS 77 [.ref a 0 0, .d (encOpn o), .ref r 0 0] S0 (Res S0 a m r (z3v t o)) := by
 have hk1 : k0 < 300000 := by omega
 refine wJ rfl zvr ?_
 show Wp cfgS (Try.f77.body.getD .skip) ((.ref a 0 0) :: (.d (encOpn o)) :: (.ref r 0 0) :: uZ (uZ (uZ (uZ ((.tup []) :: (.tup []) :: (.tup []) :: (.tup []) :: (.tup []) :: []))))) S0 [] _
 unfold uZ
 conv => arg 2; whnf
 rw [qQ]
 have hT1 := hT0.keep (Keep.app (l := [Ob.row [.d (encOpn o)] 48]))
 simp (maxSteps:=1000000) (disch:=first|assumption|omega|rfl) only [↓gp, gc, Nat.reduceAdd, hPS, zL]
 generalize hq : z3v t o = q
 unfold z3v at hq
 refine zcu hT1 hG.told hk1 hG.sm hl ?_ ?_
 ·intro h0 h2 S1 hK1
  rw [if_neg (by simp [h0]), if_neg h2] at hq
  have hkx := hG.lj.hasK (vJ hG.told h0)
  generalize (zN t o.a).1 = x at *
  have hxi := z0e hkx
  have hxm : (more (getN t x)).ino = x := hxi
  have hK01 := Keep.app.trans hK1
  have h4 := hK1 _ _ (qK (S := S0) (o := Ob.row [.d (encOpn o)] 48))
  have hr4 : ∀ l, rowE (S1 ++ l) S0.length 0 = some (.d (encOpn o)) := fun l => zC (qA h4)
  have hT2 := hT0.keep (hK01.trans (Keep.app (l := [Ob.row [zD (getN t x) (A x) (B x)] 32])))
  simp (maxSteps:=1000000) (disch:=first|assumption|omega|rfl) only [↓gp, gc, Nat.reduceAdd, hPS, zagg, z32v, kV, kM, svz, sv, lv, zL, zI, hr4]
  refine z5p rfl (zf9 _ a m hT2 hG.told k0 hk1 hG.sm o.b hlb) ?_ ?_
  ·intro h1 S2 hK2
   rw [if_neg (by simp [h1])] at hq
   have hd := jM h1
   have h6 := hK2 _ _ (qK (S := S1) (o := Ob.row [zD (getN t x) (A x) (B x)] 32))
   generalize hw : zQ t o.b = w at *
   obtain ⟨d, s, e⟩ := w
   simp only at hq hd h1
   have hgn : (getN t d).names.length < 1000000 := Nat.lt_of_le_of_lt (hG.sm.gnms _) (by omega)
   have hK02 := (hK01.trans Keep.app).trans hK2
   have hT3 := hT0.keep (hK02.trans (Keep.app (l := [Ob.row [zD (getN t d) (A d) (B d)] 32])))
   have h6' := qA (l := [Ob.row [zD (getN t d) (A d) (B d)] 32]) h6
   have hr6 := zC h6'
   have hpr6 := fun y => qG (y := y) h6'
   have hlk := hG.sm.glnk x
   rcases z12 (s := s) (l := (getN t d).names) (i := 0) with ⟨f1, f2⟩ | ⟨j, hj, f1, f2⟩
   ·have hf : vR (getN t d) s = (0, false) := by unfold vR; rw [f1]
    rw [if_neg (by rw [f2]; omega)] at hq
    subst hq
    simp (maxSteps:=1000000) (disch:=first|assumption|omega|rfl) only [↓gp, gc, Nat.reduceAdd, hPS, zagg, z32v, kV, kM, svz, sv, lv, lv2, sv2m, zL, zI, z0b hT3.st trivial hgn, hf, jK, hr6, hpr6]
    have hlen : S0.length ≤ S1.length := hK01.len
    have hK3 : Keep S0 ((S2 ++ [Ob.row [zD (getN t d) (A d) (B d)] 32]).set S1.length (.row [zD (more (getN t x)) (A x) (B x)] 32)) := (hK02.trans Keep.app).set hlen
    obtain ⟨o7, hup, hT4, hK4, hc3⟩ := hT0.renewK (x := x) (n := (more (getN t x))) (p := A x) (q := B x) (S' := (S2 ++ [Ob.row [zD (getN t d) (A d) (B d)] 32]).set S1.length (.row [zD (more (getN t x)) (A x) (B x)] 32)) hG.lj.srt hxm (fun j q hj _ _ => hK3 j q hj)
     ((hT0.st.da x trivial).keep hK3) ((hT0.st.na x trivial).keep hK3) (fun i hi => .inl hi) (fun i hi => .inl hi)
    have h63 : ((S2 ++ [Ob.row [zD (getN t d) (A d) (B d)] 32]).set S1.length (.row [zD (more (getN t x)) (A x) (B x)] 32))[S1.length]? = some (.row [zD (more (getN t x)) (A x) (B x)] 32) := kD h6'
    have h73 : ((S2 ++ [Ob.row [zD (getN t d) (A d) (B d)] 32]).set S1.length (.row [zD (more (getN t x)) (A x) (B x)] 32))[S2.length]? = some (.row [zD (getN t d) (A d) (B d)] 32) := by
     rw [List.getElem?_set_ne (by have := zZ h6; omega)]; exact qK
    have hr3 := hK3 _ _ hr
    generalize (S2 ++ [Ob.row [zD (getN t d) (A d) (B d)] 32]).set S1.length (.row [zD (more (getN t x)) (A x) (B x)] 32) = S3 at *
    have hra3 := zC hc3
    have hr63 := zC h63
    refine jA (is := [0, 1, 2, 3, 4, 5, 6, 7]) (h := 0) (by kernel_rfl) (by kernel_rfl) ?_
    simp (maxSteps:=1000000) (disch:=first|assumption|omega|rfl) only [List.replicate_zero, eq_self, gd, ga, Nat.reduceAdd, ↓gq, hPS, List.append_nil, qP, qI, jG, vB, wX, hra3, hr63, lv, lv0, hxm, hup, Option.map_some]
    refine ⟨fun _ => by kernel_rfl, ?_⟩
    refine ⟨by kernel_rfl, ?_⟩
    have h64 := zC (hK4 _ _ _ h63)
    have h74 := zC (hK4 _ _ _ h73)
    have hr4 := hK4 _ _ _ hr3
    have hgd : getN (qY t (more (getN t x))) d = getN t d := by
     rw [qX hG.lj.srt.uniq]
     unfold upd
     rw [if_neg]
     intro hh
     have hh : d = (getN t x).ino := hh
     rw [hh, hxi] at hd
     exact h2 hd
    have hS4 : Small (k0 + 1) (qY t (more (getN t x))) := hG.sm.with (n := more (getN t x)) (hG.sm.get x).more
    have hdi4 : (getN (qY t (more (getN t x))) d).ino = d := by rw [hgd]; exact jD hd
    have ho4 : Ord (getN (qY t (more (getN t x))) d).names := by rw [hgd]; exact hG.lj.nod d
    simp (maxSteps:=1000000) (disch:=first|assumption|omega|rfl) only [↓gp, gc, Nat.reduceAdd, hPS, h64, h74, lv0, hxm, jD hd]
    refine jB rfl (putM _ a m hT4 hG.lj.srt.with (k0 + 1) (by omega) hS4 d hdi4 ho4 s x) ?_ ?_
    ·rintro v S5 ⟨_, hK5, A5, B5, hT5⟩
     have hr5 := hK5 _ _ _ (by decide) (by decide) hr4
     simp (maxSteps:=1000000) (disch:=first|assumption|omega|rfl) only [↓gp, gc, Nat.reduceAdd, hPS]
     exact ⟨rfl, _, rfl, Res.done (v5 := .ts []) (v6 := .ts []) rfl hT5 hr5 vO (.inl ⟨rfl, rfl⟩) ((hK3.toR.trans (fun j ys e _ _ h => hK4 _ _ _ h)).trans hK5.toR)⟩
    ·rintro v S5 ⟨⟨w, hv⟩, _⟩
     cases hv
   ·rw [Nat.zero_add] at f1
    have hf : vR (getN t d) s = (((j : Nat) : Int), true) := by unfold vR; rw [f1]
    have hge := hG.ti.inv.ge2 d _ (List.getElem_mem hj)
    rw [if_pos (by rw [f2]; omega)] at hq
    subst hq
    have h5 : (5 : Int) ≠ 0 := by omega
    simp (maxSteps:=1000000) (disch:=first|assumption|omega|rfl) only [↓gp, gc, Nat.reduceAdd, hPS, zagg, z32v, kV, kM, svz, sv, lv, zL, zI, z0b hT3.st trivial hgn, hf, jX h5]
    exact ⟨rfl, Res.fail h5 (hK02.trans Keep.app)⟩
  ·intro h1 S2 hK2
   rw [if_pos h1] at hq
   subst hq
   exact ⟨rfl, Res.fail h1 ((hK01.trans Keep.app).trans hK2)⟩
 ·rintro e (⟨h0, rfl⟩ | ⟨h0, h2, rfl⟩) S1 hK1
  ·rw [if_pos h0] at hq
   subst hq
   exact ⟨rfl, Res.fail h0 (Keep.app.trans hK1)⟩
  ·rw [if_neg (by simp [h0]), if_pos h2] at hq
   subst hq
   exact ⟨rfl, Res.fail (by omega) (Keep.app.trans hK1)⟩
theorem zcf {S : zA} {k n : Nat} (h : k < n) : (S ++ List.replicate n Ob.hole)[S.length + k]? = some .hole := by
 rw [List.getElem?_append_right (by omega), Nat.add_sub_cancel_left, List.getElem?_replicate, if_pos h]
theorem z1c {S : zA} {k : Nat} {o q : Ob} (h : S[k]? = some q) : (S.set k o)[k]? = some o := by
 rw [List.getElem?_set_self (zZ h)]
theorem zi6 {s : List UInt8} {l : List Ent} {i j : Nat} (h : fidx s i l = some (i + j)) (hj : j < l.length) : ∃ e ∈ l, e.name = s := by
 rcases Classical.em (∃ e ∈ l, e.name = s) with h1 | h1
 ·exact h1
 ·have : ∀ (l : List Ent) (i : Nat), (∀ e ∈ l, e.name ≠ s) → fidx s i l = none := fun l => by
   induction l with
   | nil => intro i _; rfl
   | cons x r ih =>
    intro i hx
    have h0 := hx x (by simp)
    simp only [fidx, h0, if_false]
    exact ih _ fun e he => hx e (by simp [he])
  rw [this l i fun e he hh => h1 ⟨e, he, hh⟩] at h
  cases h
theorem zo8 (S0 : zA) (a m r : Nat) (A B : Int → V) (t : List Node) (hT0 : Tree S0 a m A B t) (k0 : Nat) (hk0 : k0 < 200000) (hG : Good k0 t) (o : Opn) (hdo : o.does = 4 ∨ o.does = 5) (hl : o.a.length < 900000) (hr : S0[r]? = some (.row [ansV okN (.ts []) (.ts [])] 44)) :
  EvS cfgS 78 [.ref a 0 0, .d (encOpn o), .ref r 0 0] S0 (Res S0 a m r (vF t o)) := by
 have hk1 : k0 < 300000 := by omega
 refine wJ rfl zyp ?_
 show Wp cfgS (Try.f78.body.getD .skip) ((.ref a 0 0) :: (.d (encOpn o)) :: (.ref r 0 0) :: uZ (uZ (uZ (uZ (uZ ((.tup []) :: (.tup []) :: (.tup []) :: (.tup []) :: (.tup []) :: (.tup []) :: [])))))) S0 [] _
 unfold uZ
 conv => arg 2; whnf
 rw [qQ]
 have hT1 := hT0.keep (Keep.app (l := [Ob.row [.d (encOpn o)] 48]))
 simp (maxSteps:=1000000) (disch:=first|assumption|omega|rfl) only [↓gp, gc, Nat.reduceAdd, hPS, zL]
 generalize hq : vF t o = q
 unfold vF at hq
 refine z5p rfl (zf9 _ a m hT1 hG.told k0 hk1 hG.sm o.a hl) ?_ ?_
 ·intro h0 S1 hK1
  rw [if_neg (by simp [h0])] at hq
  have hd := jM h0
  have hK01 := Keep.app.trans hK1
  have h4 := hK1 _ _ (qK (S := S0) (o := Ob.row [.d (encOpn o)] 48))
  generalize hw : zQ t o.a = w at *
  obtain ⟨d, s, e⟩ := w
  simp only at hq hd h0
  have hT2 := hT0.keep (hK01.trans (Keep.app (l := [Ob.row [zD (getN t d) (A d) (B d)] 32])))
  have hgn : (getN t d).names.length < 1000000 := Nat.lt_of_le_of_lt (hG.sm.gnms _) (by omega)
  have h6 := qK (S := S1) (o := Ob.row [zD (getN t d) (A d) (B d)] 32)
  rcases z12 (s := s) (l := (getN t d).names) (i := 0) with ⟨f1, f2⟩ | ⟨j, hj, f1, f2⟩
  ·have hf : vR (getN t d) s = (0, false) := by unfold vR; rw [f1]
   rw [if_pos (by rw [f2]; omega)] at hq
   subst hq
   have h40 : (4 : Int) ≠ 0 := by omega
   simp (maxSteps:=1000000) (disch:=first|assumption|omega|rfl) only [↓gp, gc, Nat.reduceAdd, hPS, zagg, z32v, kV, kM, svz, sv, lv, zL, zI, z0b hT2.st trivial hgn, hf, z19, Bool.not_false, jX h40]
   exact ⟨rfl, Res.fail h40 (hK01.trans Keep.app)⟩
  ·rw [Nat.zero_add] at f1
   have hf : vR (getN t d) s = (((j : Nat) : Int), true) := by unfold vR; rw [f1]
   have hge := hG.ti.inv.ge2 d _ (List.getElem_mem hj)
   have hkx := hG.lj.told (List.getElem_mem hj)
   have hents : ∃ e ∈ (getN t d).names, e.name = s := zi6 (i := 0) (by rw [Nat.zero_add]; exact f1) hj
   rw [if_neg (by rw [f2]; omega)] at hq
   rw [f2] at hq
   simp (maxSteps:=1000000) (disch:=first|assumption|omega|rfl) only [↓gp, gc, Nat.reduceAdd, hPS, zagg, z32v, kV, kM, svz, sv, lv, zL, zI, z0b hT2.st trivial hgn, hf, z19, Bool.not_true, jK]
   have hK02 := hK01.trans (Keep.app (l := [Ob.row [zD (getN t d) (A d) (B d)] 32]))
   have h42 := qA (l := [Ob.row [zD (getN t d) (A d) (B d)] 32]) h4
   generalize S1 ++ [Ob.row [zD (getN t d) (A d) (B d)] 32] = S2 at *
   refine jA (is := [0, 1, 2, 3, 4, 5, 6, 7, 8, 9, 10, 11, 12]) (h := 13) (by kernel_rfl) (by kernel_rfl) ?_
   have hh : (S2 ++ List.replicate 13 Ob.hole)[S2.length + 11]? = some .hole := zcf (by omega)
   have hK23 : Keep S2 (S2 ++ List.replicate 13 Ob.hole) := Keep.app
   generalize S2 ++ List.replicate 13 Ob.hole = S3 at *
   have hT3 := hT2.keep hK23
   have hra3 := hT3.row
   have hlk3 := fun x => (hT3.st.look x).2
   have hr63 := zC (hK23 _ _ h6)
   obtain ⟨id, hix, hre, _⟩ := (hT3.st.na d trivial).ix (t := 30) Try.underlying30 (by kernel_rfl) hj
   have hset := z1c (o := Ob.row [zD zM (.ts []) (.ts [])] 32) hh
   have hrs := zC hset
   have hps := fun y => qG (y := y) hset
   simp (maxSteps:=1000000) (disch:=first|assumption|omega|rfl) only [List.replicate_zero, eq_self, gd, ga, Nat.reduceAdd, ↓gq, hPS, List.append_nil, qP, qI, z8t, z8q z32v kV, zci, vB, wX, hra3, hr63, lv6, hix, hre, le1, hlk3, hrs, hps, sv]
   refine ⟨hh, fun _ => by kernel_rfl, ?_⟩
   refine ⟨by kernel_rfl, ?_⟩
   generalize (getN t d).names[j].ino = x at *
   have hK24 : Keep S2 ((S3.set (S2.length + 11) (.row [zD zM (.ts []) (.ts [])] 32)).set (S2.length + 11) (.row [zD (getN t x) (A x) (B x)] 32)) := (hK23.set (by omega)).set (by omega)
   have h10 : ((S3.set (S2.length + 11) (.row [zD zM (.ts []) (.ts [])] 32)).set (S2.length + 11) (.row [zD (getN t x) (A x) (B x)] 32))[S2.length + 11]? = some (.row [zD (getN t x) (A x) (B x)] 32) := z1c hset
   generalize (S3.set (S2.length + 11) (.row [zD zM (.ts []) (.ts [])] 32)).set (S2.length + 11) (.row [zD (getN t x) (A x) (B x)] 32) = S4 at *
   have hT4 := hT2.keep hK24
   have hr44 := zC (hK24 _ _ h42)
   have hr64 := zC (hK24 _ _ h6)
   have hr104 := zC h10
   have hlen := (hT4.st.na x trivial).len (t := 30) Try.underlying30
   have hrr := (hK02.trans hK24) _ _ hr
   have fin : q = (kO (zU t d s) x, okN) → EvS cfgS 108 [.ref a 0 0, .d (.int .i64 d), .d (.str s), .d (.bool false)] S4 fun o' S => (∃ v, o' = .ret v) ∧ Res S0 a m r q (.ret (.tup [])) S := fun hq => by
    have hdr := zx8 S4 a m hT4 hG.lj.srt k0 hk0 hG.sm d hd (hG.lj.nod d) s hents false (fun _ => by rw [f2]; exact z0e (by rw [(qR hG.lj.srt.uniq hd).1]; exact hkx))
    rw [f2] at hdr
    refine EvS.weak hdr ?_
    rintro o' S5 ⟨h1, hK5, A5, B5, hT5⟩
    refine ⟨h1, ?_⟩
    rw [hq]
    exact Res.done (v5 := .ts []) (v6 := .ts []) rfl hT5 (hK5 _ _ _ (by decide) (by decide) hrr) vO (.inl ⟨rfl, rfl⟩) ((hK02.trans hK24).toR.trans hK5.toR)
   rcases hdo with h4o | h5o
   ·by_cases c1 : (getN t x).kind = 2
    ·rw [if_pos ⟨h4o, c1⟩] at hq
     subst hq
     have h7 : (7 : Int) ≠ 0 := by omega
     simp (maxSteps:=1000000) (disch:=first|assumption|omega|rfl) only [↓gp, gc, Nat.reduceAdd, hPS, hr44, hr104, lv1, c1, jX h7]
     exact ⟨rfl, Res.fail h7 (hK02.trans hK24)⟩
    ·rw [if_neg (fun hh => c1 hh.2), if_neg (by omega), if_neg (by omega)] at hq
     simp (maxSteps:=1000000) (disch:=first|assumption|omega|rfl) only [↓gp, gc, Nat.reduceAdd, hPS, hr44, hr104, hr64, lv0, lv1, jD hd, jK]
     refine jB rfl (fin hq.symm) ?_ ?_
     ·rintro v S5 ⟨_, hR⟩
      simp (maxSteps:=1000000) (disch:=first|assumption|omega|rfl) only [↓gp, gc, Nat.reduceAdd, hPS]
      exact ⟨rfl, _, rfl, hR⟩
     ·rintro v S5 ⟨⟨w, hv⟩, _⟩
      cases hv
   ·have h4n : ¬ o.does = 4 := by omega
    by_cases c1 : (getN t x).kind = 2
    ·by_cases c2 : 0 < (getN t x).names.length
     ·rw [if_neg (by omega), if_neg (fun hh => hh.2 c1), if_pos ⟨h5o, c2⟩] at hq
      subst hq
      have h8 : (8 : Int) ≠ 0 := by omega
      have c2' : ((getN t x).names.length : Int) > 0 := by omega
      simp (maxSteps:=1000000) (disch:=first|assumption|omega|rfl) only [↓gp, gc, Nat.reduceAdd, hPS, hr44, hr104, lv1, lv6, hlen, c1, jK, jX h8]
      exact ⟨rfl, Res.fail h8 (hK02.trans hK24)⟩
     ·rw [if_neg (by omega), if_neg (fun hh => hh.2 c1), if_neg (fun hh => c2 hh.2)] at hq
      have c2' : ¬ ((getN t x).names.length : Int) > 0 := by omega
      simp (maxSteps:=1000000) (disch:=first|assumption|omega|rfl) only [↓gp, gc, Nat.reduceAdd, hPS, hr44, hr104, hr64, lv0, lv1, lv6, hlen, c1, jD hd, jK]
      refine jB rfl (fin hq.symm) ?_ ?_
      ·rintro v S5 ⟨_, hR⟩
       simp (maxSteps:=1000000) (disch:=first|assumption|omega|rfl) only [↓gp, gc, Nat.reduceAdd, hPS]
       exact ⟨rfl, _, rfl, hR⟩
      ·rintro v S5 ⟨⟨w, hv⟩, _⟩
       cases hv
    ·rw [if_neg (by omega), if_pos ⟨h5o, c1⟩] at hq
     subst hq
     have h6' : (6 : Int) ≠ 0 := by omega
     simp (maxSteps:=1000000) (disch:=first|assumption|omega|rfl) only [↓gp, gc, Nat.reduceAdd, hPS, hr44, hr104, lv1, jX h6']
     exact ⟨rfl, Res.fail h6' (hK02.trans hK24)⟩
 ·intro h0 S1 hK1
  rw [if_pos h0] at hq
  subst hq
  exact ⟨rfl, Res.fail h0 (Keep.app.trans hK1)⟩
end Go.Proofs.Ytghllhghboaagaa
end
