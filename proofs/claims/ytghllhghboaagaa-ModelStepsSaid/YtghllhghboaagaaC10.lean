/- The state's methods that turn a directory: put, drop. -/
import Derived.Test.YtghllhghboaagaaC09
set_option linter.unusedVariables false
set_option linter.unusedSimpArgs false
set_option maxRecDepth 100000
set_option maxHeartbeats 4000000
set_option linter.defProp false
section
namespace Go.Proofs.Ytghllhghboaagaa
open Go.Vm
def gw := And.intro gd <| And.intro @dw1 <| And.intro @dw2 <| And.intro @dw3 <| And.intro @dw4 <| And.intro @dw5 <| And.intro @dw6 <| And.intro @dw7 <| And.intro @dw8 <| And.intro @dw9 <| And.intro @dw10 <| And.intro @dw11 @dw12
theorem zp9 {a b : List UInt8} : z29 .gtr a b = some (.bool (kY b a)) := by
 rw [zbp (a := a) (b := b)]
 simp only [z29, zb7]
theorem le0 {e : Ent} : kA Try.prog 9 0 (some (.d (zI e))) = some (.d (.str e.name)) := by kernel_rfl
theorem sv6 {n : Node} {a b v : V} (h1 : qI Try.prog 30 v = true) (h2 : v.cells = [v]) : qW Try.prog 30 6 v (zD n a b) = some (zD n a v) := zff h1 h2
theorem zu3 {S : zA} {v : V} {l : List Ent} (h : SlE zI S v 88 l) : qI Try.prog 30 v = true := by
 rcases h with ⟨rfl, _⟩ | ⟨id, ys, rfl, _⟩ <;> kernel_rfl
variable {t : List Node} {A B : Int → V}
theorem zya (S : zA) (D0 : Node) (i8 : Nat) (va vb : V) (h8 : S[i8]? = some (.row [zD D0 va vb] 32)) (hb : SlE zI S vb 88 D0.names) (hl : D0.names.length < 900000) (s : List UInt8) (x0 x1 x3 : V) (R : Post) (g4 g5 g6 g7 : V) : ∀ (k : Nat) (gI gJ gF gA gB gG gH gC gD gE gK gL gO gM gN gP gQ gV gR gS gT gU gW gX gY gZ gf gg gh gi gj gk gm gn gr gz hC hH hJ hY hZ xA xB xC xD : V), k ≤ D0.names.length → (∀ j (h : j < D0.names.length), k ≤ j → kY s D0.names[j].name = true) →
 (∀ (k : Nat) gI gJ gF gA gB gG gH gC gD gE gK gL gO gM gN gP gQ gV gR gS gT gU gW gX gY gZ gf gg gh gi gj gk gm gn gr gz hC hH hJ hY hZ xA xB xC xD, k ≤ D0.names.length → (∀ j (h : j < D0.names.length), k ≤ j → kY s D0.names[j].name = true) → (∀ j (h : j < D0.names.length), j + 1 = k → kY s D0.names[j].name = false) → R (.exit 0) (x0 :: x1 :: (.d (.str s)) :: x3 :: g4 :: g5 :: g6 :: g7 :: (.ref i8 0 0) :: (.d (.int .i64 k)) :: gI :: gJ :: gF :: gA :: gB :: gG :: gH :: gC :: gD :: gE :: gK :: gL :: gO :: gM :: gN :: gP :: gQ :: gV :: gR :: gS :: gT :: gU :: gW :: gX :: gY :: gZ :: gf :: gg :: gh :: gi :: gj :: gk :: gm :: gn :: gr :: gz :: hC :: hH :: hJ :: hY :: hZ :: xA :: xB :: xC :: xD :: []) S []) →
 Wp cfgS (.loop (lpOf (Try.f106.body.getD .skip) 0)) (x0 :: x1 :: (.d (.str s)) :: x3 :: g4 :: g5 :: g6 :: g7 :: (.ref i8 0 0) :: (.d (.int .i64 k)) :: gI :: gJ :: gF :: gA :: gB :: gG :: gH :: gC :: gD :: gE :: gK :: gL :: gO :: gM :: gN :: gP :: gQ :: gV :: gR :: gS :: gT :: gU :: gW :: gX :: gY :: gZ :: gf :: gg :: gh :: gi :: gj :: gk :: gm :: gn :: gr :: gz :: hC :: hH :: hJ :: hY :: hZ :: xA :: xB :: xC :: xD :: []) S [] R := by
 have hr8 := zE h8
 intro k
 induction k with
 | zero =>
  intro gI gJ gF gA gB gG gH gC gD gE gK gL gO gM gN gP gQ gV gR gS gT gU gW gX gY gZ gf gg gh gi gj gk gm gn gr gz hC hH hJ hY hZ xA xB xC xD hk hj hE
  rw [qK]
  refine zS ?_
  conv => arg 2; whnf
  simp (maxSteps:=1000000) (disch:=first|assumption|omega|rfl) only [↓gp, gc, Nat.reduceAdd, hPS, hr8, lv6]
  exact hE 0 _ _ _ _ _ _ _ _ _ _ _ _ _ _ _ _ _ _ _ _ _ _ _ _ _ _ _ _ _ _ _ _ _ _ _ _ _ _ _ _ _ _ _ _ _ hk hj (fun j _ h => by omega)
 | succ k ih =>
  intro gI gJ gF gA gB gG gH gC gD gE gK gL gO gM gN gP gQ gV gR gS gT gU gW gX gY gZ gf gg gh gi gj gk gm gn gr gz hC hH hJ hY hZ xA xB xC xD hk hj hE
  have hkl : k < D0.names.length := by omega
  obtain ⟨id, hix, hre, _⟩ := hb.ix (t := 30) Try.underlying30 (by kernel_rfl) hkl
  have hw : ((k + 1 : Nat) : Int) - 1 = (k : Int) := by omega
  rw [qK]
  refine zS ?_
  conv => arg 2; whnf
  cases hs : kY s D0.names[k].name with
  | true =>
   simp (maxSteps:=1000000) (disch:=first|assumption|omega|rfl) only [↓gp, gc, Nat.reduceAdd, hPS, hr8, lv6, hw, hix, hre, le0, zp9, hs]
   refine ih _ _ _ _ _ _ _ _ _ _ _ _ _ _ _ _ _ _ _ _ _ _ _ _ _ _ _ _ _ _ _ _ _ _ _ _ _ _ _ _ _ _ _ _ _ (by omega) (fun j h hkj => ?_) hE
   by_cases hjk : j = k
   ·subst hjk; exact hs
   ·exact hj j h (by omega)
  | false =>
   simp (maxSteps:=1000000) (disch:=first|assumption|omega|rfl) only [↓gp, gc, Nat.reduceAdd, hPS, hr8, lv6, hw, hix, hre, le0, zp9, hs]
   exact hE (k + 1) _ _ _ _ _ _ _ _ _ _ _ _ _ _ _ _ _ _ _ _ _ _ _ _ _ _ _ _ _ _ _ _ _ _ _ _ _ _ _ _ _ _ _ _ _ hk hj (fun j h hjk => by
    have : j = k := by omega
    subst this; exact hs)
theorem zzn (S0 : zA) (a m : Nat) (hT0 : Tree S0 a m A B t) (hsr : Srt t) (k0 : Nat) (hk0 : k0 < 300000) (hS : Small k0 t) (dir : Int) (hd : (getN t dir).ino = dir) (ho : Ord (getN t dir).names) (s : List UInt8) (ino : Int) :
  EvS cfgS 106 [.ref a 0 0, .d (.int .i64 dir), .d (.str s), .d (.int .i64 ino)] S0 fun o S => (∃ v, o = .ret v) ∧ KeepL S0 S ∧ ∃ A' B', Tree S a m A' B' (putN t dir s ino) ∧ ∀ y, y ≠ dir → A' y = A y ∧ B' y = B y := by
 refine vE rfl zri ?_
 show Wp cfgS (Try.f106.body.getD .skip) ((.ref a 0 0) :: (.d (.int .i64 dir)) :: (.d (.str s)) :: (.d (.int .i64 ino)) :: uZ (uZ (uZ (uZ (uZ ((.tup []) :: [])))))) S0 [] _
 unfold uZ
 conv => arg 2; whnf
 rw [qK]
 have hln : (getN t dir).names.length < 900000 := Nat.lt_of_le_of_lt (hS.gnms dir) (by omega)
 have hra := hT0.row
 have hlk := fun x => (hT0.st.look x).2
 have hT1 := hT0.keep (Keep.app (l := [Ob.row [zD (getN t dir) (A dir) (B dir)] 32]))
 have h8 : (S0 ++ [Ob.row [zD (getN t dir) (A dir) (B dir)] 32])[S0.length]? = some (.row [zD (getN t dir) (A dir) (B dir)] 32) := qY
 have hr8 := zE h8
 have hb1 := hT1.st.na dir trivial
 have hlen := hb1.len Try.underlying30
 simp (maxSteps:=1000000) (disch:=first|assumption|omega|rfl) only [↓gp, gc, Nat.reduceAdd, hPS, zagg, z32v, kX, qG, vD, wU, hra, hlk, svz, sv, zR, zN, hr8, lv6, hlen]
 refine zya _ (getN t dir) S0.length (A dir) (B dir) h8 hb1 hln s _ _ _ _ _ _ _ _ (getN t dir).names.length _ _ _ _ _ _ _ _ _ _ _ _ _ _ _ _ _ _ _ _ _ _ _ _ _ _ _ _ _ _ _ _ _ _ _ _ _ _ _ _ _ _ _ _ _ (Nat.le_refl _) (fun j h hj => by omega) ?_
 intro k gI gJ gF gA gB gG gH gC gD gE gK gL gO gM gN gP gQ gV gR gS gT gU gW gX gY gZ gf gg gh gi gj gk gm gn gr gz hC hH hJ hY hZ xA xB xC xD hk hj hlast
 have hput : putA s ino false (getN t dir).names = (getN t dir).names.take k ++ ⟨s, ino⟩ :: (getN t dir).names.drop k := by
  refine zpq hk (fun j h hjk => ?_) (fun h => hj k h (Nat.le_refl _))
  have hk1 : k - 1 < (getN t dir).names.length := by omega
  have h1 := hlast (k - 1) hk1 (by omega)
  cases hh : kY s (getN t dir).names[j].name with
  | false => rfl
  | true =>
   by_cases hjk1 : j = k - 1
   ·subst hjk1; rw [hh] at h1; cases h1
   ·have h2 : kY (getN t dir).names[j].name (getN t dir).names[k - 1].name = true := by
     have h3 := List.pairwise_iff_getElem.1 ho j (k - 1) (by simpa using h) (by simpa using hk1) (by omega)
     simpa using h3
    rw [z6n hh h2] at h1; cases h1
 obtain ⟨va, vb, v6, S1, v7, S2, c1, c2, e1, e2, e1', hsv, e3, e4, hc, hK1, hS7, hf, hnew⟩ := zrm (e := ⟨s, ino⟩) hb1 hk hln
 have hBlt : ∀ j, idOf (B dir) = some j → j < S0.length := fun j hj => (hT0.st.na dir trivial).lt hj
 have h81 : S1[S0.length]? = some (.row [zD (getN t dir) (A dir) (B dir)] 32) := hK1 _ _ h8
 have hr81 := zE h81
 have h82 : S2[S0.length]? = some (.row [zD (getN t dir) (A dir) (B dir)] 32) := hf _ _ h8 (fun hh => by have := hBlt _ hh; omega)
 have hr82 := zE h82
 have hpr8 := fun y => qD (y := y) h82
 have hst6 := sv6 (n := getN t dir) (a := A dir) (b := B dir) (zu3 hS7) hS7.cells
 have hsame := hb1.same
 have hload : jV Try.prog S1 30 (.ref S0.length 0 6) = some (B dir) := (jS hr81).trans lv6
 have hfr' : ∀ (j : Nat) (o : Ob), S0[j]? = some o → idOf (B dir) ≠ some j → (S2.set S0.length (.row [zD (getN t dir) (A dir) v7] 32))[j]? = some o := fun j o hj hb => by
  have := qN hj
  rw [List.getElem?_set_ne (by omega)]
  exact hf j o (qO hj) hb
 have hfr : ∀ (j : Nat) (o : Ob), S0[j]? = some o → idOf (A dir) ≠ some j → idOf (B dir) ≠ some j → (S2.set S0.length (.row [zD (getN t dir) (A dir) v7] 32))[j]? = some o := fun j o hj _ hb => hfr' j o hj hb
 have h83 : (S2.set S0.length (.row [zD (getN t dir) (A dir) v7] 32))[S0.length]? = some (.row [zD (getN t dir) (A dir) v7] 32) := jR h82
 have hr83 := zE h83
 have hcell : (S2.set S0.length (.row [zD (getN t dir) (A dir) v7] 32))[a]? = some (.row [.agg [.mr m]] 127) := by
  refine hfr a _ hT0.cell (fun hh => ?_) (fun hh => ?_)
  ·obtain ⟨zs, q⟩ := (hT0.st.da dir trivial).row hh
   rw [hT0.cell] at q; cases q
  ·obtain ⟨zs, q⟩ := (hT0.st.na dir trivial).row hh
   rw [hT0.cell] at q; cases q
 have hra3 := zE hcell
 obtain ⟨o, hup, hst⟩ := hT0.st.renew (x := dir) (n := { getN t dir with names := putA s ino false (getN t dir).names }) (a := A dir) (b := v7) (S' := S2.set S0.length (.row [zD (getN t dir) (A dir) v7] 32)) hsr hd hfr
  ((hT0.st.da dir trivial).frame2 fun j o hj hi => hfr' j o hj (hT0.st.apart dir dir j hi))
  (by
   show SlE zI _ v7 88 (putA s ino false (getN t dir).names)
   rw [hput]
   refine hS7.frame2 fun j o hj hi => ?_
   have h1 := hnew j hi
   rw [List.length_append, List.length_singleton] at h1
   rw [List.getElem?_set_ne (by omega)]
   exact hj)
  (fun i hi => .inl hi) (fun i hi => .inr (by have h1 := hnew i hi; rw [List.length_append] at h1; omega))
 have hup : jG Try.prog (S2.set S0.length (.row [zD (getN t dir) (A dir) v7] 32)) 125 (.mr m) (.d (.int .i64 dir)) (zD (getN t dir) (A dir) v7) = some ((S2.set S0.length (.row [zD (getN t dir) (A dir) v7] 32)).set m o) := hup
 have hfin : (∃ v : V, Out.ret (.tup []) = .ret v) ∧ KeepL S0 ((S2.set S0.length (.row [zD (getN t dir) (A dir) v7] 32)).set m o) ∧ ∃ A' B', Tree ((S2.set S0.length (.row [zD (getN t dir) (A dir) v7] 32)).set m o) a m A' B' (putN t dir s ino) ∧ ∀ y, y ≠ dir → A' y = A y ∧ B' y = B y :=
  ⟨⟨_, rfl⟩, hT0.st.keepL hfr, _, _, ⟨by rw [List.getElem?_set_ne (Ne.symm hT0.ne)]; exact hcell, hst⟩, fun y hy => ⟨if_neg hy, if_neg hy⟩⟩
 have hlk3 := hup
 rcases hc with ⟨rfl, rfl⟩ | ⟨rfl, rfl⟩ | ⟨rfl, rfl⟩
 ·simp (maxSteps:=1000000) (disch:=first|assumption|omega|rfl) only [↓gp, gc, Nat.reduceAdd, hPS]
  refine vG (is := [0, 1, 2, 3, 4, 5, 6, 7, 8, 9, 10, 11, 12, 13, 14, 15]) (h := 0) (by kernel_rfl) (by kernel_rfl) ?_
  simp (maxSteps:=1000000) (disch:=first|assumption|omega|rfl) only [List.replicate_zero, eq_self, gw, ga, Nat.reduceAdd, ↓gq, hPS, List.append_nil, vso, bd88, zlw, hr8, lv6, e1, e2, e3, e4, Option.map_some, Option.map_none, hr82, hst6, hpr8]
  refine ⟨(zG (by kernel_rfl) (zG (by kernel_rfl) (zG (by kernel_rfl) (zG (by kernel_rfl) (zG (by kernel_rfl) qV))))), (zG (by kernel_rfl) (zG (by kernel_rfl) (zG (by kernel_rfl) (zG (by kernel_rfl) (zG (by kernel_rfl) qV))))), by kernel_rfl, ?_⟩
  simp (maxSteps:=1000000) (disch:=first|assumption|omega|rfl) only [↓gp, gc, Nat.reduceAdd, hPS]
  refine qS (is := [0, 1, 2, 3, 4, 5, 6]) (h := 0) (by kernel_rfl) (by kernel_rfl) ?_
  simp (maxSteps:=1000000) (disch:=first|assumption|omega|rfl) only [List.replicate_zero, eq_self, gd, ga, Nat.reduceAdd, ↓gq, hPS, List.append_nil, qL, qG, jC, vD, wU, hra3, hr83, lv, hup, Option.map_some]
  refine ⟨fun _ => by kernel_rfl, ?_⟩
  refine ⟨by kernel_rfl, ?_⟩
  exact ⟨rfl, _, rfl, hfin⟩
 ·simp (maxSteps:=1000000) (disch:=first|assumption|omega|rfl) only [↓gp, gc, Nat.reduceAdd, hPS]
  refine vG (is := [0, 1, 2, 3, 4, 5, 6, 7, 8, 9, 10, 11, 12, 13, 14, 15]) (h := 0) (by kernel_rfl) (by kernel_rfl) ?_
  simp (maxSteps:=1000000) (disch:=first|assumption|omega|rfl) only [List.replicate_zero, eq_self, gw, ga, Nat.reduceAdd, ↓gq, hPS, List.append_nil, vso, bd88, zlw, hr8, lv6, e1, e2, e3, e4, Option.map_some, Option.map_none, hr82, hst6, hpr8]
  refine ⟨(zG (by kernel_rfl) (zG (by kernel_rfl) (zG (by kernel_rfl) (zG (by kernel_rfl) (zG (by kernel_rfl) qV))))), (zG (by kernel_rfl) (zG (by kernel_rfl) (zG (by kernel_rfl) (zG (by kernel_rfl) (zG (by kernel_rfl) qV))))), by kernel_rfl, ?_⟩
  simp (maxSteps:=1000000) (disch:=first|assumption|omega|rfl) only [↓gp, gc, Nat.reduceAdd, hPS]
  refine qS (is := [0, 1, 2, 3, 4, 5, 6]) (h := 0) (by kernel_rfl) (by kernel_rfl) ?_
  simp (maxSteps:=1000000) (disch:=first|assumption|omega|rfl) only [List.replicate_zero, eq_self, gd, ga, Nat.reduceAdd, ↓gq, hPS, List.append_nil, qL, qG, jC, vD, wU, hra3, hr83, lv, hup, Option.map_some]
  refine ⟨fun _ => by kernel_rfl, ?_⟩
  refine ⟨by kernel_rfl, ?_⟩
  exact ⟨rfl, _, rfl, hfin⟩
 ·simp (maxSteps:=1000000) (disch:=first|assumption|omega|rfl) only [↓gp, gc, Nat.reduceAdd, hPS]
  refine vG (is := [0, 1, 2, 3, 4, 5, 6, 7, 8, 9, 10, 11, 12, 13, 14, 15]) (h := 0) (by kernel_rfl) (by kernel_rfl) ?_
  simp (maxSteps:=1000000) (disch:=first|assumption|omega|rfl) only [List.replicate_zero, eq_self, gw, ga, Nat.reduceAdd, ↓gq, hPS, List.append_nil, vso, bd88, zlw, hr8, lv6, e1, e2, e3, e4, Option.map_some, Option.map_none, hr82, hst6, hpr8]
  refine ⟨zG (by kernel_rfl) (zG (by kernel_rfl) (jT rfl (by kernel_rfl) rfl ?_ hsv (jT rfl (by kernel_rfl) rfl ?_ hsame qV))), ?_⟩
  ·exact (show _ = (jL Try.prog S1 30 (B dir) none (some (.d (.int .i64 k)))).map (fun v => Rs.val v S1 1) from rfl).trans (by rw [e1']; rfl)
  ·exact (show _ = (jV Try.prog S1 30 (.ref S0.length 0 6)).map (fun v => Rs.val v S1 1) from rfl).trans (by rw [hload]; rfl)
  refine ⟨(zG (by kernel_rfl) (zG (by kernel_rfl) (zG (by kernel_rfl) (zG (by kernel_rfl) qV)))), (zG (by kernel_rfl) (zG (by kernel_rfl) (zG (by kernel_rfl) (zG (by kernel_rfl) qV)))), by kernel_rfl, ?_⟩
  simp (maxSteps:=1000000) (disch:=first|assumption|omega|rfl) only [↓gp, gc, Nat.reduceAdd, hPS]
  refine qS (is := [0, 1, 2, 3, 4, 5, 6]) (h := 0) (by kernel_rfl) (by kernel_rfl) ?_
  simp (maxSteps:=1000000) (disch:=first|assumption|omega|rfl) only [List.replicate_zero, eq_self, gd, ga, Nat.reduceAdd, ↓gq, hPS, List.append_nil, qL, qG, jC, vD, wU, hra3, hr83, lv, hup, Option.map_some]
  refine ⟨fun _ => by kernel_rfl, ?_⟩
  refine ⟨by kernel_rfl, ?_⟩
  exact ⟨rfl, _, rfl, hfin⟩
theorem putM (S0 : zA) (a m : Nat) (hT0 : Tree S0 a m A B t) (hsr : Srt t) (k0 : Nat) (hk0 : k0 < 300000) (hS : Small k0 t) (dir : Int) (hd : (getN t dir).ino = dir) (ho : Ord (getN t dir).names) (s : List UInt8) (ino : Int) :
  EvS cfgS 106 [.ref a 0 0, .d (.int .i64 dir), .d (.str s), .d (.int .i64 ino)] S0 fun o S => (∃ v, o = .ret v) ∧ KeepL S0 S ∧ ∃ A' B', Tree S a m A' B' (putN t dir s ino) :=
 EvS.weak (zzn S0 a m hT0 hsr k0 hk0 hS dir hd ho s ino) fun o S ⟨h1, h2, A', B', h3, _⟩ => ⟨h1, h2, A', B', h3⟩
end Go.Proofs.Ytghllhghboaagaa
end
section
namespace Go.Proofs.Ytghllhghboaagaa
open Go.Vm
theorem zd0 {s : List UInt8} : ∀ {l : List Ent} {i : Nat}, (∃ e ∈ l, e.name = s) → ∃ k, ∃ h : k < l.length, fidx s i l = some (i + k) ∧ qQ l s = l[k].ino ∧ l[k].name = s
 | [], i, h => by obtain ⟨e, he, _⟩ := h; cases he
 | e :: r, i, h => by
  by_cases hs : e.name = s
  ·exact ⟨0, by simp, by simp [fidx, hs], by simp [qQ, hs], by simpa using hs⟩
  ·obtain ⟨k, hk, h1, h2, h3⟩ := zd0 (s := s) (l := r) (i := i + 1) (by
    obtain ⟨x, hx, hxs⟩ := h
    rcases List.mem_cons.1 hx with rfl | hx
    ·exact absurd hxs hs
    ·exact ⟨x, hx, hxs⟩)
   refine ⟨k + 1, by simpa using hk, ?_, ?_, by simpa using h3⟩
   ·simp only [fidx, hs, if_false, h1]
    congr 1; omega
   ·simp only [List.getElem_cons_succ, ← h2]
    simp [qQ, hs]
theorem z92 {n : Node} {t : List Node} : (qT t n).filter (fun m => m.ino ≠ n.ino) = t.filter (fun m => m.ino ≠ n.ino) := by
 have ff : ∀ l : List Node, (l.filter (fun m => m.ino ≠ n.ino)).filter (fun m => m.ino ≠ n.ino) = l.filter (fun m => m.ino ≠ n.ino) := fun l => by rw [List.filter_filter]; congr 1; funext m; exact Bool.and_self _
 have go : ∀ (l : List Node), (wG n false l).filter (fun m => m.ino ≠ n.ino) = l.filter (fun m => m.ino ≠ n.ino) := fun l => by
  induction l with
  | nil => simp [wG]
  | cons y r ih =>
   by_cases hy : n.ino ≤ y.ino
   ·have e : wG n false (y :: r) = n :: (y :: r).filter (fun m => m.ino ≠ n.ino) := by
     rw [← z2q]
     simp [wG, hy]
    rw [e, List.filter_cons_of_neg (by simp), ff]
   ·have e : wG n false (y :: r) = y :: wG n false r := by
     have : y.ino ≠ n.ino := by omega
     simp [wG, hy, this]
    have hne : y.ino ≠ n.ino := by omega
    rw [e, List.filter_cons_of_pos (by simpa using hne), List.filter_cons_of_pos (by simpa using hne), ih]
 exact go t
theorem zd6 {P : Program} {S : zA} {t t2 : TypeId} {m k : V} : qB P S .delete [t, t2] [m, k] = (z2b P S t m k).map fun S' => .val (.tup []) S' 3 := rfl
theorem sv2 {n : Node} {a b : V} {x : Int} : qW Try.prog 3 2 (.d (.int .i64 x)) (zD n a b) = some (zD { n with links := x } a b) := by kernel_rfl
variable {t : List Node} {A B : Int → V}
theorem zpa (S0 : zA) (a m : Nat) (hT0 : Tree S0 a m A B t) (hsr : Srt t) (k0 : Nat) (hk0 : k0 < 200000) (hS : Small k0 t) (dir : Int) (hd : (getN t dir).kind = 2) (ho : Ord (getN t dir).names) (s : List UInt8) (hs : ∃ e ∈ (getN t dir).names, e.name = s) (keep : Bool) (hi : keep = false → (getN (zU t dir s) (qQ (getN t dir).names s)).ino = qQ (getN t dir).names s) :
  EvS cfgS 108 [.ref a 0 0, .d (.int .i64 dir), .d (.str s), .d (.bool keep)] S0 fun o S => (∃ v, o = .ret v) ∧ KeepL S0 S ∧ ∃ A' B', Tree S a m A' B' (if keep then zU t dir s else jN (zU t dir s) (qQ (getN t dir).names s)) ∧ (keep = true → ∀ y, y ≠ dir → A' y = A y ∧ B' y = B y) := by
 refine vE rfl ztb ?_
 show Wp cfgS (Try.f108.body.getD .skip) ((.ref a 0 0) :: (.d (.int .i64 dir)) :: (.d (.str s)) :: (.d (.bool keep)) :: uZ (uZ (uZ (uZ (uZ (uZ ((.tup []) :: (.tup []) :: (.tup []) :: (.tup []) :: (.tup []) :: (.tup []) :: (.tup []) :: (.tup []) :: (.tup []) :: []))))))) S0 [] _
 unfold uZ
 conv => arg 2; whnf
 rw [qK]
 have hdi : (getN t dir).ino = dir := jH hd
 have hln : (getN t dir).names.length < 900000 := Nat.lt_of_le_of_lt (hS.gnms dir) (by omega)
 have hln' : (getN t dir).names.length < 1000000 := by omega
 have hra := hT0.row
 have hlk := fun x => (hT0.st.look x).2
 have hT1 := hT0.keep (Keep.app (l := [Ob.row [zD (getN t dir) (A dir) (B dir)] 32]))
 have h8 : (S0 ++ [Ob.row [zD (getN t dir) (A dir) (B dir)] 32])[S0.length]? = some (.row [zD (getN t dir) (A dir) (B dir)] 32) := qY
 have hr8 := zE h8
 have hb1 := hT1.st.na dir trivial
 obtain ⟨k, hk, hf1, hf2, hf3⟩ := zd0 (i := 0) hs
 rw [Nat.zero_add] at hf1
 have hfR : vX (getN t dir) s = (((k : Nat) : Int), true) := by unfold vX; rw [hf1]
 obtain ⟨id, hix, hre, _⟩ := hb1.ix (t := 30) Try.underlying30 (by kernel_rfl) hk
 obtain ⟨va, vb, v7, S2, c, e1, e2, e4, hc, hS7, hf, hnew⟩ := zod hb1 hk hln
 have hdrop : (getN t dir).names.filter (fun e => decide (e.name ≠ s)) = (getN t dir).names.take k ++ (getN t dir).names.drop (k + 1) := by
  have := zqy ho.nodup hk
  rw [hf3] at this
  exact this
 have hk1 : ((k : Nat) : Int) + 1 = ((k + 1 : Nat) : Int) := by omega
 have hBlt : ∀ j, idOf (B dir) = some j → j < S0.length := fun j hj => (hT0.st.na dir trivial).lt hj
 have h82 : S2[S0.length]? = some (.row [zD (getN t dir) (A dir) (B dir)] 32) := hf _ _ h8 (fun hh => by have := hBlt _ hh; omega)
 have hr82 := zE h82
 have hpr8 := fun y => qD (y := y) h82
 have hst6 := sv6 (n := getN t dir) (a := A dir) (b := B dir) (zu3 hS7) hS7.cells
 have hfr' : ∀ (j : Nat) (o : Ob), S0[j]? = some o → idOf (B dir) ≠ some j → (S2.set S0.length (.row [zD (getN t dir) (A dir) v7] 32))[j]? = some o := fun j o hj hb => by
  have := qN hj
  rw [List.getElem?_set_ne (by omega)]
  exact hf j o (qO hj) hb
 have hfr : ∀ (j : Nat) (o : Ob), S0[j]? = some o → idOf (A dir) ≠ some j → idOf (B dir) ≠ some j → (S2.set S0.length (.row [zD (getN t dir) (A dir) v7] 32))[j]? = some o := fun j o hj _ hb => hfr' j o hj hb
 have h83 : (S2.set S0.length (.row [zD (getN t dir) (A dir) v7] 32))[S0.length]? = some (.row [zD (getN t dir) (A dir) v7] 32) := jR h82
 have hr83 := zE h83
 have hcell : (S2.set S0.length (.row [zD (getN t dir) (A dir) v7] 32))[a]? = some (.row [.agg [.mr m]] 127) := by
  refine hfr a _ hT0.cell (fun hh => ?_) (fun hh => ?_)
  ·obtain ⟨zs, q⟩ := (hT0.st.da dir trivial).row hh
   rw [hT0.cell] at q; cases q
  ·obtain ⟨zs, q⟩ := (hT0.st.na dir trivial).row hh
   rw [hT0.cell] at q; cases q
 have hra3 := zE hcell
 obtain ⟨o, hup, hst⟩ := hT0.st.renew (x := dir) (n := { getN t dir with names := (getN t dir).names.filter (fun e => decide (e.name ≠ s)) }) (a := A dir) (b := v7) (S' := S2.set S0.length (.row [zD (getN t dir) (A dir) v7] 32)) hsr hdi hfr
  ((hT0.st.da dir trivial).frame2 fun j o hj hi => hfr' j o hj (hT0.st.apart dir dir j hi))
  (by
   show SlE zI _ v7 88 ((getN t dir).names.filter (fun e => decide (e.name ≠ s)))
   rw [hdrop]
   refine hS7.frame2 fun j o hj hi => ?_
   have hjn : S0.length ≠ j := by
    rcases hnew j hi with h1 | h1
    ·have := hBlt j h1; omega
    ·rw [List.length_append, List.length_singleton] at h1; omega
   rw [List.getElem?_set_ne hjn]
   exact hj)
  (fun i hi => .inl hi) (fun i hi => by
   rcases hnew i hi with h1 | h1
   ·exact .inl h1
   ·rw [List.length_append] at h1; exact .inr (by omega))
 have hup : jG Try.prog (S2.set S0.length (.row [zD (getN t dir) (A dir) v7] 32)) 125 (.mr m) (.d (.int .i64 dir)) (zD (getN t dir) (A dir) v7) = some ((S2.set S0.length (.row [zD (getN t dir) (A dir) v7] 32)).set m o) := hup
 have hst : St All ((S2.set S0.length (.row [zD (getN t dir) (A dir) v7] 32)).set m o) m (fun y => if y = dir then A dir else A y) (fun y => if y = dir then v7 else B y) (zU t dir s) := hst
 have hKL := hT0.st.keepL hfr (o := o)
 have hT4 : Tree ((S2.set S0.length (.row [zD (getN t dir) (A dir) v7] 32)).set m o) a m (fun y => if y = dir then A dir else A y) (fun y => if y = dir then v7 else B y) (zU t dir s) := ⟨by rw [List.getElem?_set_ne (Ne.symm hT0.ne)]; exact hcell, hst⟩
 have hS1 : Small (k0 + 1) (zU t dir s) := hS.drop
 have hsr1 : Srt (zU t dir s) := hsr.with
 have hc : c = 1 ∨ c = 3 := hc.elim (fun h => .inl h.1) .inr
 rcases hc with rfl | rfl
 ·simp (maxSteps:=1000000) (disch:=first|assumption|omega|rfl) only [↓gp, gc, Nat.reduceAdd, hPS, zagg, z32v, kX, kM, qG, vD, wU, hra, hlk, svz, sv, lv, zR, zN, hr8, lv6, z0c hT1.st trivial hln', hfR, hix, hre, le1, ← hf2]
  refine vG (is := [0, 1, 2, 3, 4, 5, 6, 7, 8, 9, 10, 11]) (h := 0) (by kernel_rfl) (by kernel_rfl) ?_
  simp (maxSteps:=1000000) (disch:=first|assumption|omega|rfl) only [List.replicate_zero, eq_self, gw, ga, Nat.reduceAdd, ↓gq, hPS, List.append_nil, hr8, lv6, hk1, e1, e2, e4, Option.map_some, Option.map_none, hr82, hst6, hpr8]
  refine ⟨(zG (by kernel_rfl) (zG (by kernel_rfl) (zG (by kernel_rfl) (zG (by kernel_rfl) (zG (by kernel_rfl) qV))))), by kernel_rfl, ?_⟩
  simp (maxSteps:=1000000) (disch:=first|assumption|omega|rfl) only [↓gp, gc, Nat.reduceAdd, hPS]
  refine qS (is := [0, 1, 2, 3, 4, 5, 6]) (h := 0) (by kernel_rfl) (by kernel_rfl) ?_
  simp (maxSteps:=1000000) (disch:=first|assumption|omega|rfl) only [List.replicate_zero, eq_self, gd, ga, Nat.reduceAdd, ↓gq, hPS, List.append_nil, qL, qG, jC, vD, wU, hra3, hr83, lv, hup, Option.map_some]
  refine ⟨fun _ => by kernel_rfl, ?_⟩
  refine ⟨by kernel_rfl, ?_⟩
  revert hT4 hKL
  generalize (S2.set S0.length (.row [zD (getN t dir) (A dir) v7] 32)).set m o = S4
  intro hKL hT4
  cases keep with
  | true =>
   simp (maxSteps:=1000000) (disch:=first|assumption|omega|rfl) only [↓gp, gc, Nat.reduceAdd, hPS]
   exact ⟨rfl, _, rfl, ⟨_, rfl⟩, hKL, _, _, hT4, fun _ y hy => ⟨if_neg hy, if_neg hy⟩⟩
  | false =>
   have hi := hi rfl
   have hra4 := hT4.row
   have hlk4 := fun x => (hT4.st.look x).2
   generalize qQ (getN t dir).names s = ino at *
   have hlb := hS1.glnk ino
   obtain ⟨o5, hup5, hst5⟩ := hT4.st.renew (x := ino) (n := { getN (zU t dir s) ino with links := (getN (zU t dir s) ino).links - 1 }) (a := if ino = dir then A dir else A ino) (b := if ino = dir then v7 else B ino) (S' := S4 ++ [Ob.row [zD { getN (zU t dir s) ino with links := (getN (zU t dir s) ino).links - 1 } (if ino = dir then A dir else A ino) (if ino = dir then v7 else B ino)] 32]) hsr1 hi (fun j q hj _ _ => qO hj)
    ((hT4.st.da ino trivial).keep Keep.app) ((hT4.st.na ino trivial).keep Keep.app) (fun i hi => .inl hi) (fun i hi => .inl hi)
   obtain ⟨o6, hdel, hst6⟩ := hst5.del (x := ino) (hsr1.with)
   have hmlt : m < S4.length := by obtain ⟨L, q, h1, _⟩ := hT4.st.mp; exact qN h1
   have halt := qN hT4.cell
   have hra5 : rowE (S4 ++ [Ob.row [zD { getN (zU t dir s) ino with links := (getN (zU t dir s) ino).links - 1 } (if ino = dir then A dir else A ino) (if ino = dir then v7 else B ino)] 32]) a 0 = some (.agg [.mr m]) := (z07 halt).trans hra4
   have hc5 : ((S4 ++ [Ob.row [zD { getN (zU t dir s) ino with links := (getN (zU t dir s) ino).links - 1 } (if ino = dir then A dir else A ino) (if ino = dir then v7 else B ino)] 32]).set m o5)[S4.length]? = some (.row [zD { getN (zU t dir s) ino with links := (getN (zU t dir s) ino).links - 1 } (if ino = dir then A dir else A ino) (if ino = dir then v7 else B ino)] 32) := by
    rw [List.getElem?_set_ne (by omega)]; exact qY
   have hr5 := zE hc5
   have hca : ((S4 ++ [Ob.row [zD { getN (zU t dir s) ino with links := (getN (zU t dir s) ino).links - 1 } (if ino = dir then A dir else A ino) (if ino = dir then v7 else B ino)] 32]).set m o5)[a]? = some (.row [.agg [.mr m]] 127) := by
    rw [List.getElem?_set_ne (Ne.symm hT0.ne)]; exact qO hT4.cell
   have hra6 := zE hca
   have hm5 : ∀ (S : zA) (o : Ob) (S9 : zA), (∃ q, S[m]? = some q ∧ ∀ ys e, q ≠ .row ys e) → KeepL S9 S → KeepL S9 (S.set m o) := fun S o S9 hq h j ys e h1 h2 hj => by
    have := h j ys e h1 h2 hj
    obtain ⟨q, q1, q2⟩ := hq
    have hne : m ≠ j := by rintro rfl; rw [q1] at this; cases this; exact q2 _ _ rfl
    rw [List.getElem?_set_ne hne]; exact this
   have hmp4 : ∃ q, (S4 ++ [Ob.row [zD { getN (zU t dir s) ino with links := (getN (zU t dir s) ino).links - 1 } (if ino = dir then A dir else A ino) (if ino = dir then v7 else B ino)] 32])[m]? = some q ∧ ∀ ys e, q ≠ .row ys e := by
    obtain ⟨L, q, h1, _⟩ := hT4.st.mp
    exact ⟨_, qO h1, fun ys e => by intro h; cases h⟩
   have hmp5 : ∃ q, ((S4 ++ [Ob.row [zD { getN (zU t dir s) ino with links := (getN (zU t dir s) ino).links - 1 } (if ino = dir then A dir else A ino) (if ino = dir then v7 else B ino)] 32]).set m o5)[m]? = some q ∧ ∀ ys e, q ≠ .row ys e := by
    obtain ⟨L, q, h1, _⟩ := hst5.mp
    exact ⟨_, h1, fun ys e => by intro h; cases h⟩
   have hK5 := hm5 _ o5 _ hmp4 (hKL.trans (Keep.app (l := [Ob.row [zD { getN (zU t dir s) ino with links := (getN (zU t dir s) ino).links - 1 } (if ino = dir then A dir else A ino) (if ino = dir then v7 else B ino)] 32])).toL)
   simp (maxSteps:=1000000) (disch:=first|assumption|omega|rfl) only [↓gp, gc, Nat.reduceAdd, hPS, zagg, z32v, kX, qG, vD, wU, hra4, hlk4, svz, sv, lv, lv2, sv2, zR, zN]
   refine qS (is := [0, 1, 2, 3, 4, 5, 6]) (h := 0) (by kernel_rfl) (by kernel_rfl) ?_
   simp (maxSteps:=1000000) (disch:=first|assumption|omega|rfl) only [List.replicate_zero, eq_self, gd, ga, Nat.reduceAdd, ↓gq, hPS, List.append_nil, qL, qG, jC, vD, wU, hra5, zR, lv, hup5, Option.map_some]
   refine ⟨fun _ => by kernel_rfl, ?_⟩
   refine ⟨by kernel_rfl, ?_⟩
   by_cases hl1 : (getN (zU t dir s) ino).links - 1 < 1
   ·have e : jN (zU t dir s) ino = (qT (zU t dir s) { getN (zU t dir s) ino with links := (getN (zU t dir s) ino).links - 1 }).filter (fun n => n.ino ≠ ino) := by
     have := z92 (n := { getN (zU t dir s) ino with links := (getN (zU t dir s) ino).links - 1 }) (t := zU t dir s)
     rw [show ({ getN (zU t dir s) ino with links := (getN (zU t dir s) ino).links - 1 } : Node).ino = ino from hi] at this
     unfold jN
     rw [if_pos hl1]
     exact this.symm
    simp (maxSteps:=1000000) (disch:=first|assumption|omega|rfl) only [↓gp, gc, Nat.reduceAdd, hPS, qG, vD, wU, hra6, hr5, lv2, zd6, hdel]
    rw [← e] at hst6
    exact ⟨rfl, _, rfl, ⟨_, rfl⟩, hm5 _ o6 _ hmp5 hK5, _, _, (⟨by rw [List.getElem?_set_ne (Ne.symm hT0.ne)]; exact hca, hst6⟩ : Tree _ a m _ _ _), fun h => by cases h⟩
   ·have e : jN (zU t dir s) ino = qT (zU t dir s) { getN (zU t dir s) ino with links := (getN (zU t dir s) ino).links - 1 } := by
     unfold jN
     rw [if_neg hl1]
    simp (maxSteps:=1000000) (disch:=first|assumption|omega|rfl) only [↓gp, gc, Nat.reduceAdd, hPS, qG, vD, wU, hra6, hr5, lv2]
    rw [← e] at hst5
    exact ⟨rfl, _, rfl, ⟨_, rfl⟩, hK5, _, _, (⟨hca, hst5⟩ : Tree _ a m _ _ _), fun h => by cases h⟩
 ·simp (maxSteps:=1000000) (disch:=first|assumption|omega|rfl) only [↓gp, gc, Nat.reduceAdd, hPS, zagg, z32v, kX, kM, qG, vD, wU, hra, hlk, svz, sv, lv, zR, zN, hr8, lv6, z0c hT1.st trivial hln', hfR, hix, hre, le1, ← hf2]
  refine vG (is := [0, 1, 2, 3, 4, 5, 6, 7, 8, 9, 10, 11]) (h := 0) (by kernel_rfl) (by kernel_rfl) ?_
  simp (maxSteps:=1000000) (disch:=first|assumption|omega|rfl) only [List.replicate_zero, eq_self, gw, ga, Nat.reduceAdd, ↓gq, hPS, List.append_nil, hr8, lv6, hk1, e1, e2, e4, Option.map_some, Option.map_none, hr82, hst6, hpr8]
  refine ⟨(zG (by kernel_rfl) (zG (by kernel_rfl) (zG (by kernel_rfl) (zG (by kernel_rfl) qV)))), (zG (by kernel_rfl) (zG (by kernel_rfl) (zG (by kernel_rfl) (zG (by kernel_rfl) qV)))), by kernel_rfl, ?_⟩
  simp (maxSteps:=1000000) (disch:=first|assumption|omega|rfl) only [↓gp, gc, Nat.reduceAdd, hPS]
  refine qS (is := [0, 1, 2, 3, 4, 5, 6]) (h := 0) (by kernel_rfl) (by kernel_rfl) ?_
  simp (maxSteps:=1000000) (disch:=first|assumption|omega|rfl) only [List.replicate_zero, eq_self, gd, ga, Nat.reduceAdd, ↓gq, hPS, List.append_nil, qL, qG, jC, vD, wU, hra3, hr83, lv, hup, Option.map_some]
  refine ⟨fun _ => by kernel_rfl, ?_⟩
  refine ⟨by kernel_rfl, ?_⟩
  revert hT4 hKL
  generalize (S2.set S0.length (.row [zD (getN t dir) (A dir) v7] 32)).set m o = S4
  intro hKL hT4
  cases keep with
  | true =>
   simp (maxSteps:=1000000) (disch:=first|assumption|omega|rfl) only [↓gp, gc, Nat.reduceAdd, hPS]
   exact ⟨rfl, _, rfl, ⟨_, rfl⟩, hKL, _, _, hT4, fun _ y hy => ⟨if_neg hy, if_neg hy⟩⟩
  | false =>
   have hi := hi rfl
   have hra4 := hT4.row
   have hlk4 := fun x => (hT4.st.look x).2
   generalize qQ (getN t dir).names s = ino at *
   have hlb := hS1.glnk ino
   obtain ⟨o5, hup5, hst5⟩ := hT4.st.renew (x := ino) (n := { getN (zU t dir s) ino with links := (getN (zU t dir s) ino).links - 1 }) (a := if ino = dir then A dir else A ino) (b := if ino = dir then v7 else B ino) (S' := S4 ++ [Ob.row [zD { getN (zU t dir s) ino with links := (getN (zU t dir s) ino).links - 1 } (if ino = dir then A dir else A ino) (if ino = dir then v7 else B ino)] 32]) hsr1 hi (fun j q hj _ _ => qO hj)
    ((hT4.st.da ino trivial).keep Keep.app) ((hT4.st.na ino trivial).keep Keep.app) (fun i hi => .inl hi) (fun i hi => .inl hi)
   obtain ⟨o6, hdel, hst6⟩ := hst5.del (x := ino) (hsr1.with)
   have hmlt : m < S4.length := by obtain ⟨L, q, h1, _⟩ := hT4.st.mp; exact qN h1
   have halt := qN hT4.cell
   have hra5 : rowE (S4 ++ [Ob.row [zD { getN (zU t dir s) ino with links := (getN (zU t dir s) ino).links - 1 } (if ino = dir then A dir else A ino) (if ino = dir then v7 else B ino)] 32]) a 0 = some (.agg [.mr m]) := (z07 halt).trans hra4
   have hc5 : ((S4 ++ [Ob.row [zD { getN (zU t dir s) ino with links := (getN (zU t dir s) ino).links - 1 } (if ino = dir then A dir else A ino) (if ino = dir then v7 else B ino)] 32]).set m o5)[S4.length]? = some (.row [zD { getN (zU t dir s) ino with links := (getN (zU t dir s) ino).links - 1 } (if ino = dir then A dir else A ino) (if ino = dir then v7 else B ino)] 32) := by
    rw [List.getElem?_set_ne (by omega)]; exact qY
   have hr5 := zE hc5
   have hca : ((S4 ++ [Ob.row [zD { getN (zU t dir s) ino with links := (getN (zU t dir s) ino).links - 1 } (if ino = dir then A dir else A ino) (if ino = dir then v7 else B ino)] 32]).set m o5)[a]? = some (.row [.agg [.mr m]] 127) := by
    rw [List.getElem?_set_ne (Ne.symm hT0.ne)]; exact qO hT4.cell
   have hra6 := zE hca
   have hm5 : ∀ (S : zA) (o : Ob) (S9 : zA), (∃ q, S[m]? = some q ∧ ∀ ys e, q ≠ .row ys e) → KeepL S9 S → KeepL S9 (S.set m o) := fun S o S9 hq h j ys e h1 h2 hj => by
    have := h j ys e h1 h2 hj
    obtain ⟨q, q1, q2⟩ := hq
    have hne : m ≠ j := by rintro rfl; rw [q1] at this; cases this; exact q2 _ _ rfl
    rw [List.getElem?_set_ne hne]; exact this
   have hmp4 : ∃ q, (S4 ++ [Ob.row [zD { getN (zU t dir s) ino with links := (getN (zU t dir s) ino).links - 1 } (if ino = dir then A dir else A ino) (if ino = dir then v7 else B ino)] 32])[m]? = some q ∧ ∀ ys e, q ≠ .row ys e := by
    obtain ⟨L, q, h1, _⟩ := hT4.st.mp
    exact ⟨_, qO h1, fun ys e => by intro h; cases h⟩
   have hmp5 : ∃ q, ((S4 ++ [Ob.row [zD { getN (zU t dir s) ino with links := (getN (zU t dir s) ino).links - 1 } (if ino = dir then A dir else A ino) (if ino = dir then v7 else B ino)] 32]).set m o5)[m]? = some q ∧ ∀ ys e, q ≠ .row ys e := by
    obtain ⟨L, q, h1, _⟩ := hst5.mp
    exact ⟨_, h1, fun ys e => by intro h; cases h⟩
   have hK5 := hm5 _ o5 _ hmp4 (hKL.trans (Keep.app (l := [Ob.row [zD { getN (zU t dir s) ino with links := (getN (zU t dir s) ino).links - 1 } (if ino = dir then A dir else A ino) (if ino = dir then v7 else B ino)] 32])).toL)
   simp (maxSteps:=1000000) (disch:=first|assumption|omega|rfl) only [↓gp, gc, Nat.reduceAdd, hPS, zagg, z32v, kX, qG, vD, wU, hra4, hlk4, svz, sv, lv, lv2, sv2, zR, zN]
   refine qS (is := [0, 1, 2, 3, 4, 5, 6]) (h := 0) (by kernel_rfl) (by kernel_rfl) ?_
   simp (maxSteps:=1000000) (disch:=first|assumption|omega|rfl) only [List.replicate_zero, eq_self, gd, ga, Nat.reduceAdd, ↓gq, hPS, List.append_nil, qL, qG, jC, vD, wU, hra5, zR, lv, hup5, Option.map_some]
   refine ⟨fun _ => by kernel_rfl, ?_⟩
   refine ⟨by kernel_rfl, ?_⟩
   by_cases hl1 : (getN (zU t dir s) ino).links - 1 < 1
   ·have e : jN (zU t dir s) ino = (qT (zU t dir s) { getN (zU t dir s) ino with links := (getN (zU t dir s) ino).links - 1 }).filter (fun n => n.ino ≠ ino) := by
     have := z92 (n := { getN (zU t dir s) ino with links := (getN (zU t dir s) ino).links - 1 }) (t := zU t dir s)
     rw [show ({ getN (zU t dir s) ino with links := (getN (zU t dir s) ino).links - 1 } : Node).ino = ino from hi] at this
     unfold jN
     rw [if_pos hl1]
     exact this.symm
    simp (maxSteps:=1000000) (disch:=first|assumption|omega|rfl) only [↓gp, gc, Nat.reduceAdd, hPS, qG, vD, wU, hra6, hr5, lv2, zd6, hdel]
    rw [← e] at hst6
    exact ⟨rfl, _, rfl, ⟨_, rfl⟩, hm5 _ o6 _ hmp5 hK5, _, _, (⟨by rw [List.getElem?_set_ne (Ne.symm hT0.ne)]; exact hca, hst6⟩ : Tree _ a m _ _ _), fun h => by cases h⟩
   ·have e : jN (zU t dir s) ino = qT (zU t dir s) { getN (zU t dir s) ino with links := (getN (zU t dir s) ino).links - 1 } := by
     unfold jN
     rw [if_neg hl1]
    simp (maxSteps:=1000000) (disch:=first|assumption|omega|rfl) only [↓gp, gc, Nat.reduceAdd, hPS, qG, vD, wU, hra6, hr5, lv2]
    rw [← e] at hst5
    exact ⟨rfl, _, rfl, ⟨_, rfl⟩, hK5, _, _, (⟨hca, hst5⟩ : Tree _ a m _ _ _), fun h => by cases h⟩
theorem zz6 (S0 : zA) (a m : Nat) (hT0 : Tree S0 a m A B t) (hsr : Srt t) (k0 : Nat) (hk0 : k0 < 200000) (hS : Small k0 t) (dir : Int) (hd : (getN t dir).kind = 2) (ho : Ord (getN t dir).names) (s : List UInt8) (hs : ∃ e ∈ (getN t dir).names, e.name = s) (keep : Bool) (hi : keep = false → (getN (zU t dir s) (qQ (getN t dir).names s)).ino = qQ (getN t dir).names s) :
  EvS cfgS 108 [.ref a 0 0, .d (.int .i64 dir), .d (.str s), .d (.bool keep)] S0 fun o S => (∃ v, o = .ret v) ∧ KeepL S0 S ∧ ∃ A' B', Tree S a m A' B' (if keep then zU t dir s else jN (zU t dir s) (qQ (getN t dir).names s)) :=
 EvS.weak (zpa S0 a m hT0 hsr k0 hk0 hS dir hd ho s hs keep hi) fun o S ⟨h1, h2, A', B', h3, _⟩ => ⟨h1, h2, A', B', h3⟩
end Go.Proofs.Ytghllhghboaagaa
end
section
namespace Go.Proofs.Ytghllhghboaagaa
open Go.Vm
def ansV (x : Ans) (v5 v6 : V) : V := .agg [.d (.int .i64 x.err), .d (.int .i64 x.ino), .d (.int .i64 x.kind), .d (.int .i64 x.links), .d (.int .i64 x.size), v5, v6]
section
variable {x : Ans} {v5 v6 v : V} {n : Node} {a b : V} {y : Int}
theorem av1 : qW Try.prog 3 1 (.d (.int .i64 y)) (ansV x v5 v6) = some (ansV { x with ino := y } v5 v6) := by kernel_rfl
theorem sv1 : qW Try.prog 3 1 (.d (.int .i64 y)) (zD n a b) = some (zD { n with kind := y } a b) := by kernel_rfl
theorem sv3 : qW Try.prog 3 3 (.d (.int .i64 y)) (zD n a b) = some (zD { n with parent := y } a b) := by kernel_rfl
theorem bdn {y : Int} : vP Try.prog 32 [(0, .d (.int .i64 y)), (1, .d (.int .i64 1)), (2, .d (.int .i64 1))] = some (zD ⟨y, 1, 1, 0, 0, [], []⟩ (.ts []) (.ts [])) := by kernel_rfl
end
abbrev encS (s : List UInt8) : D := .str s
def KeepR (r : Nat) (S S' : zA) : Prop := ∀ (j : Nat) (ys : List V) (e : TypeId), (e = 94 ∨ e = 44) → j ≠ r → S[j]? = some (.row ys e) → S'[j]? = some (.row ys e)
theorem Keep.toR {r : Nat} {S S' : zA} (h : Keep S S') : KeepR r S S' := fun j ys e _ _ hj => h j _ hj
theorem KeepL.toR {r : Nat} {S S' : zA} (h : KeepL S S') : KeepR r S S' := fun j ys e he _ hj => h j _ _ (by rcases he with rfl | rfl <;> decide) (by rcases he with rfl | rfl <;> decide) hj
theorem KeepR.refl {r : Nat} {S : zA} : KeepR r S S := fun _ _ _ _ _ h => h
theorem KeepR.trans {r : Nat} {S S' S'' : zA} (h : KeepR r S S') (h' : KeepR r S' S'') : KeepR r S S'' := fun j ys e he hn hj => h' j ys e he hn (h j ys e he hn hj)
theorem KeepR.setR {r : Nat} {S S' : zA} {o : Ob} (h : KeepR r S S') : KeepR r S (S'.set r o) := fun j zs e he hn hj => by
 rw [List.getElem?_set_ne (Ne.symm hn)]
 exact h j zs e he hn hj
theorem KeepR.setO {r i : Nat} {S S' : zA} {ys : List V} {e : TypeId} {o : Ob} (h : KeepR r S S') (hr : S'[i]? = some (.row ys e)) (he : e ≠ 94 ∧ e ≠ 44) : KeepR r S (S'.set i o) := fun j zs e' he' hn hj => by
 have h1 := h j zs e' he' hn hj
 rw [List.getElem?_set_ne]
 ·exact h1
 ·rintro rfl
  rw [hr] at h1
  simp only [Option.some.injEq, Ob.row.injEq] at h1
  rcases he' with rfl | rfl
  ·exact he.1 h1.2
  ·exact he.2 h1.2
def Res (S0 : zA) (a m r : Nat) (q : List Node × Ans) : Out → zA → Prop := fun o S => if q.2.err = 0 then (∃ v, o = .ret v) ∧ (∃ A' B' v5 v6, Tree S a m A' B' q.1 ∧ S[r]? = some (.row [ansV q.2 v5 v6] 44) ∧ srcV Try.prog S 5 29 v5 = some (q.2.data.map fun b => .d (encU b)) ∧ SlE encS S v6 9 q.2.names) ∧ KeepR r S0 S else o = panD q.2.err ∧ Keep S0 S
theorem Res.fail {S0 : zA} {a m r : Nat} {t : List Node} {e : Int} (he : e ≠ 0) {S : zA} (hk : Keep S0 S) : Res S0 a m r (t, qU e) (panD e) S := by
 unfold Res
 rw [if_neg (show ¬ (qU e).err = 0 from he)]
 exact ⟨rfl, hk⟩
theorem Res.done {S0 : zA} {a m r : Nat} {q : List Node × Ans} {S : zA} {v : V} {A' B' : Int → V} {v5 v6 : V} (h0 : q.2.err = 0) (hT : Tree S a m A' B' q.1) (hr : S[r]? = some (.row [ansV q.2 v5 v6] 44)) (h5 : srcV Try.prog S 5 29 v5 = some (q.2.data.map fun b => .d (encU b))) (h6 : SlE encS S v6 9 q.2.names) (hk : KeepR r S0 S) : Res S0 a m r q (.ret v) S := by
 unfold Res
 rw [if_pos h0]
 exact ⟨⟨_, rfl⟩, ⟨A', B', v5, v6, hT, hr, h5, h6⟩, hk⟩
theorem vQ {S : zA} : srcV Try.prog S 5 29 (.ts []) = some [] := by kernel_rfl
structure Good (k0 : Nat) (t : List Node) : Prop where
 sm : Small k0 t
 lj : LJ t (fun _ => 0)
 ti : TInv t 1
theorem Good.told {k0 : Nat} {t : List Node} (h : Good k0 t) : Told t := h.lj.toTold h.ti
section
variable {S : zA} {a m r : Nat} {A B : Int → V} {t : List Node}
theorem Tree.other {o : Ob} {ys : List V} {e : TypeId} (h : Tree S a m A B t) (hr : S[r]? = some (.row ys e)) (h1 : e ≠ 5) (h2 : e ≠ 88) (h3 : e ≠ 127) : Tree (S.set r o) a m A B t := by
 have hra : r ≠ a := by rintro rfl; rw [h.cell] at hr; cases hr; exact h3 rfl
 obtain ⟨L, c, hm, hrest⟩ := h.st.mp
 have hrm : r ≠ m := by rintro rfl; rw [hm] at hr; cases hr
 have hf : ∀ (j : Nat) (q : Ob), r ≠ j → S[j]? = some q → (S.set r o)[j]? = some q := fun j q hj hq => by rw [List.getElem?_set_ne hj]; exact hq
 refine ⟨hf _ _ hra h.cell, ⟨L, c, hf _ _ hrm hm, hrest⟩, fun x hx => (h.st.da x hx).frame2 fun j q hq hi => hf j q ?_ hq, fun x hx => (h.st.na x hx).frame2 fun j q hq hi => hf j q ?_ hq, h.st.z, h.st.sa, h.st.sb⟩
 ·rintro rfl
  obtain ⟨zs, q⟩ := (h.st.da x hx).row hi
  rw [hr] at q; cases q; exact h1 rfl
 ·rintro rfl
  obtain ⟨zs, q⟩ := (h.st.na x hx).row hi
  rw [hr] at q; cases q; exact h2 rfl
end
theorem zans : V.agg [.d (.int .i64 0), .d (.int .i64 0), .d (.int .i64 0), .d (.int .i64 0), .d (.int .i64 0), .ts [], .ts []] = ansV okN (.ts []) (.ts []) := rfl
theorem vK {x : Int} : z3h (.d (.int .i64 x)) (.d (.int .i64 x)) = true := by simp [z3h, wL, wN, z4n, kO]
theorem zki (S0 : zA) (a m r : Nat) (A B : Int → V) (t : List Node) (hT0 : Tree S0 a m A B t) (k0 : Nat) (hk0 : k0 < 200000) (hG : Good k0 t) (o : Opn) (hl : o.a.length < 900000) (hr : S0[r]? = some (.row [ansV okN (.ts []) (.ts [])] 44)) :
  EvS cfgS 76 [.ref a 0 0, .d (encOpn o), .ref r 0 0] S0 (Res S0 a m r (z0h t o)) := by
 have hk1 : k0 < 300000 := by omega
 refine vE rfl zw4 ?_
 show Wp cfgS (Try.f76.body.getD .skip) ((.ref a 0 0) :: (.d (encOpn o)) :: (.ref r 0 0) :: uZ (uZ (uZ (uZ (uZ ((.tup []) :: (.tup []) :: [])))))) S0 [] _
 unfold uZ
 conv => arg 2; whnf
 rw [qK]
 have hT1 := hT0.keep (Keep.app (l := [Ob.row [.d (encOpn o)] 48]))
 have hlt : t.length < 400000 := Nat.lt_of_le_of_lt hG.sm.len (by omega)
 simp (maxSteps:=1000000) (disch:=first|assumption|omega|rfl) only [↓gp, gc, Nat.reduceAdd, hPS, zR]
 generalize hq : z0h t o = q
 unfold z0h at hq
 refine z5z rfl (zci _ a m hT1 hG.told k0 hk1 hG.sm o.a hl) ?_ ?_
 ·intro h0 S1 hK1
  rw [if_neg (by simp [h0])] at hq
  have hd := kB h0
  have hK01 := Keep.app.trans hK1
  have h4 := hK1 _ _ (qY (S := S0) (o := Ob.row [.d (encOpn o)] 48))
  have hT2 := hT0.keep (hK01.trans (Keep.app (l := [Ob.row [zD (getN t (zK t o.a).1) (A (zK t o.a).1) (B (zK t o.a).1)] 32])))
  have hgn : (getN t (zK t o.a).1).names.length < 1000000 := Nat.lt_of_le_of_lt (hG.sm.gnms _) (by omega)
  have hN : qA t o = if o.does = 2 then ⟨jA t, 2, 1, (zK t o.a).1, 0, [], []⟩ else ⟨jA t, 1, 1, 0, 0, [], []⟩ := rfl
  generalize hw : zK t o.a = w at *
  obtain ⟨d, s, e⟩ := w
  simp only at hq hd hT2 hgn h0 hN
  rcases z15 (s := s) (l := (getN t d).names) (i := 0) with ⟨f1, f2⟩ | ⟨j, hj, f1, f2⟩
  ·have hf : vX (getN t d) s = (0, false) := by unfold vX; rw [f1]
   rw [if_neg (by rw [f2]; omega)] at hq
   subst hq
   simp (maxSteps:=1000000) (disch:=first|assumption|omega|rfl) only [↓gp, gc, Nat.reduceAdd, hPS, zagg, z32v, kX, kM, svz, sv, lv, zR, zN, z0c hT2.st trivial hgn, hf, jJ]
   refine jK rfl (q1q _ a m hT2 hlt) ?_ ?_
   ·rintro v S2 ⟨hK2, hv⟩
    cases hv
    have h42 := hK2 _ _ (qO (l := [Ob.row [zD (getN t d) (A d) (B d)] 32]) h4)
    have h62 := hK2 _ _ (qY (S := S1) (o := Ob.row [zD (getN t d) (A d) (B d)] 32))
    have hr2 := hK2 _ _ (qO (l := [Ob.row [zD (getN t d) (A d) (B d)] 32]) (hK01 _ _ hr))
    have hT3 := hT2.keep hK2
    have hr42 : ∀ l, rowE (S2 ++ l) S0.length 0 = some (.d (encOpn o)) := fun l => (z07 (qN h42)).trans (zE h42)
    have hr62 : ∀ l, rowE (S2 ++ l) S1.length 0 = some (zD (getN t d) (A d) (B d)) := fun l => (z07 (qN h62)).trans (zE h62)
    obtain ⟨hn1, hn2, _⟩ := z1h t
    have hz : getN t (jA t) = zM := z1t hn1
    have hnd : d ≠ jA t := fun hh => by rw [hh, hz] at hd; simp [zM] at hd
    have hmi : (qA t o).ino = jA t := by unfold qA; split <;> rfl
    have hg4 : getN (qT t (qA t o)) d = getN t d := by
     rw [jF hG.lj.srt.uniq]
     unfold upd
     rw [hmi, if_neg hnd]
    have hsr4 : Srt (qT t (qA t o)) := hG.lj.srt.with
    have hS4 : Small (k0 + 1) (qT t (qA t o)) := hG.sm.with (by unfold qA; split <;> exact ⟨by simp, by simp, by simp; omega, by simp⟩)
    have hdi4 : (getN (qT t (qA t o)) d).ino = d := by rw [hg4]; exact jH hd
    have ho4 : Ord (getN (qT t (qA t o)) d).names := by rw [hg4]; exact hG.lj.nod d
    by_cases hdo : o.does = 2
    ·simp (maxSteps:=1000000) (disch:=first|assumption|omega|rfl) only [↓gp, gc, Nat.reduceAdd, hPS, kM, bdn, svz, sv, lv, zR, zN, hr42]
     have hld : ∀ l, jV Try.prog (S2 ++ l) 3 (.ref S1.length 0 0) = some (.d (.int .i64 d)) := fun l => (jS (hr62 l)).trans (by rw [lv0, jH hd])
     refine vG (is := [0, 1, 2, 3, 4, 5]) (h := 0) (by kernel_rfl) (by kernel_rfl) ?_
     simp (maxSteps:=1000000) (disch:=first|assumption|omega|rfl) only [List.replicate_zero, eq_self, gw, ga, Nat.reduceAdd, ↓gq, hPS, List.append_nil, zR, zN, hr62, lv0, jH hd, sv1, sv3]
     refine ⟨jT rfl (by kernel_rfl) rfl ?_ vK qV, zG (by kernel_rfl) qV, by kernel_rfl, ?_⟩
     ·exact (show _ = (jV Try.prog _ 3 (.ref S1.length 0 0)).map (fun v => Rs.val v _ 1) from rfl).trans (by rw [hld]; rfl)
     simp (maxSteps:=1000000) (disch:=first|assumption|omega|rfl) only [↓gp, gc, Nat.reduceAdd, hPS]
     have hmN : ⟨jA t, 2, 1, d, 0, [], []⟩ = qA t o := by rw [hN]; rw [if_pos hdo]
     obtain ⟨o7, hup, hst⟩ := hT3.st.renew (x := jA t) (n := ⟨jA t, 2, 1, d, 0, [], []⟩) (a := .ts []) (b := .ts []) (S' := S2 ++ [Ob.row [zD ⟨jA t, 2, 1, d, 0, [], []⟩ (.ts []) (.ts [])] 32]) hG.lj.srt rfl (fun j q hj _ _ => qO hj) (.inl ⟨rfl, rfl⟩) (.inl ⟨rfl, rfl⟩) (fun i hi => by cases hi) (fun i hi => by cases hi)
     have hKL := hT3.st.keepL (x := jA t) (S' := S2 ++ [Ob.row [zD ⟨jA t, 2, 1, d, 0, [], []⟩ (.ts []) (.ts [])] 32]) (o := o7) (fun j q hj _ _ => qO hj)
     have hra3 : rowE (S2 ++ [Ob.row [zD ⟨jA t, 2, 1, d, 0, [], []⟩ (.ts []) (.ts [])] 32]) a 0 = some (.agg [.mr m]) := (z07 (qN hT3.cell)).trans hT3.row
     have hmlt : m < S2.length := by obtain ⟨L, q, h1, _⟩ := hT3.st.mp; exact qN h1
     have hT4 : Tree ((S2 ++ [Ob.row [zD ⟨jA t, 2, 1, d, 0, [], []⟩ (.ts []) (.ts [])] 32]).set m o7) a m (fun y => if y = jA t then .ts [] else A y) (fun y => if y = jA t then .ts [] else B y) (qT t ⟨jA t, 2, 1, d, 0, [], []⟩) := ⟨by rw [List.getElem?_set_ne (Ne.symm hT3.ne)]; exact qO hT3.cell, hst⟩
     have hN4 : ((S2 ++ [Ob.row [zD ⟨jA t, 2, 1, d, 0, [], []⟩ (.ts []) (.ts [])] 32]).set m o7)[S2.length]? = some (.row [zD ⟨jA t, 2, 1, d, 0, [], []⟩ (.ts []) (.ts [])] 32) := by rw [List.getElem?_set_ne (by omega)]; exact qY
     have h64 := hKL _ _ _ (by decide) (by decide) h62
     have hr4' := hKL _ _ _ (by decide) (by decide) hr2
     refine qS (is := [0, 1, 2, 3, 4, 5, 6, 7]) (h := 0) (by kernel_rfl) (by kernel_rfl) ?_
     simp (maxSteps:=1000000) (disch:=first|assumption|omega|rfl) only [List.replicate_zero, eq_self, gd, ga, Nat.reduceAdd, ↓gq, hPS, List.append_nil, qL, qG, jC, vD, wU, hra3, zR, lv, lv0, hup, Option.map_some]
     refine ⟨fun _ => by kernel_rfl, ?_⟩
     refine ⟨by kernel_rfl, ?_⟩
     generalize (S2 ++ [Ob.row [zD ⟨jA t, 2, 1, d, 0, [], []⟩ (.ts []) (.ts [])] 32]).set m o7 = S4 at *
     rw [hmN] at hT4
     have hr64 := zE h64
     have hrN4 := zE hN4
     simp (maxSteps:=1000000) (disch:=first|assumption|omega|rfl) only [↓gp, gc, Nat.reduceAdd, hPS, hr64, hrN4, lv0, jH hd]
     refine jK rfl (putM _ a m hT4 hsr4 (k0 + 1) (by omega) hS4 d hdi4 ho4 s (jA t)) ?_ ?_
     ·rintro v S5 ⟨_, hK5, A5, B5, hT5⟩
      have hN5 := hK5 _ _ _ (by decide) (by decide) hN4
      have hr5 := hK5 _ _ _ (by decide) (by decide) hr4'
      have hrN5 := zE hN5
      have hrr5 := zE hr5
      have hpr5 := fun y => qD (y := y) hr5
      simp (maxSteps:=1000000) (disch:=first|assumption|omega|rfl) only [↓gp, gc, Nat.reduceAdd, hPS, qG, hrN5, hrr5, hpr5, lv0, av1]
      exact ⟨rfl, _, rfl, Res.done (v5 := .ts []) (v6 := .ts []) rfl (hT5.other hr5 (by decide) (by decide) (by decide)) (jR hr5) vQ (.inl ⟨rfl, rfl⟩) (((((hK01.trans Keep.app).trans hK2).toR.trans hKL.toR).trans hK5.toR).setR)⟩
     ·rintro v S5 ⟨⟨w, hv⟩, _⟩
      cases hv
    ·simp (maxSteps:=1000000) (disch:=first|assumption|omega|rfl) only [↓gp, gc, Nat.reduceAdd, hPS, kM, bdn, svz, sv, lv, zR, zN, hr42]
     have hmN : ⟨jA t, 1, 1, 0, 0, [], []⟩ = qA t o := by rw [hN]; rw [if_neg hdo]
     obtain ⟨o7, hup, hst⟩ := hT3.st.renew (x := jA t) (n := ⟨jA t, 1, 1, 0, 0, [], []⟩) (a := .ts []) (b := .ts []) (S' := S2 ++ [Ob.row [zD ⟨jA t, 1, 1, 0, 0, [], []⟩ (.ts []) (.ts [])] 32]) hG.lj.srt rfl (fun j q hj _ _ => qO hj) (.inl ⟨rfl, rfl⟩) (.inl ⟨rfl, rfl⟩) (fun i hi => by cases hi) (fun i hi => by cases hi)
     have hKL := hT3.st.keepL (x := jA t) (S' := S2 ++ [Ob.row [zD ⟨jA t, 1, 1, 0, 0, [], []⟩ (.ts []) (.ts [])] 32]) (o := o7) (fun j q hj _ _ => qO hj)
     have hra3 : rowE (S2 ++ [Ob.row [zD ⟨jA t, 1, 1, 0, 0, [], []⟩ (.ts []) (.ts [])] 32]) a 0 = some (.agg [.mr m]) := (z07 (qN hT3.cell)).trans hT3.row
     have hmlt : m < S2.length := by obtain ⟨L, q, h1, _⟩ := hT3.st.mp; exact qN h1
     have hT4 : Tree ((S2 ++ [Ob.row [zD ⟨jA t, 1, 1, 0, 0, [], []⟩ (.ts []) (.ts [])] 32]).set m o7) a m (fun y => if y = jA t then .ts [] else A y) (fun y => if y = jA t then .ts [] else B y) (qT t ⟨jA t, 1, 1, 0, 0, [], []⟩) := ⟨by rw [List.getElem?_set_ne (Ne.symm hT3.ne)]; exact qO hT3.cell, hst⟩
     have hN4 : ((S2 ++ [Ob.row [zD ⟨jA t, 1, 1, 0, 0, [], []⟩ (.ts []) (.ts [])] 32]).set m o7)[S2.length]? = some (.row [zD ⟨jA t, 1, 1, 0, 0, [], []⟩ (.ts []) (.ts [])] 32) := by rw [List.getElem?_set_ne (by omega)]; exact qY
     have h64 := hKL _ _ _ (by decide) (by decide) h62
     have hr4' := hKL _ _ _ (by decide) (by decide) hr2
     refine qS (is := [0, 1, 2, 3, 4, 5, 6, 7]) (h := 0) (by kernel_rfl) (by kernel_rfl) ?_
     simp (maxSteps:=1000000) (disch:=first|assumption|omega|rfl) only [List.replicate_zero, eq_self, gd, ga, Nat.reduceAdd, ↓gq, hPS, List.append_nil, qL, qG, jC, vD, wU, hra3, zR, lv, lv0, hup, Option.map_some]
     refine ⟨fun _ => by kernel_rfl, ?_⟩
     refine ⟨by kernel_rfl, ?_⟩
     generalize (S2 ++ [Ob.row [zD ⟨jA t, 1, 1, 0, 0, [], []⟩ (.ts []) (.ts [])] 32]).set m o7 = S4 at *
     rw [hmN] at hT4
     have hr64 := zE h64
     have hrN4 := zE hN4
     simp (maxSteps:=1000000) (disch:=first|assumption|omega|rfl) only [↓gp, gc, Nat.reduceAdd, hPS, hr64, hrN4, lv0, jH hd]
     refine jK rfl (putM _ a m hT4 hsr4 (k0 + 1) (by omega) hS4 d hdi4 ho4 s (jA t)) ?_ ?_
     ·rintro v S5 ⟨_, hK5, A5, B5, hT5⟩
      have hN5 := hK5 _ _ _ (by decide) (by decide) hN4
      have hr5 := hK5 _ _ _ (by decide) (by decide) hr4'
      have hrN5 := zE hN5
      have hrr5 := zE hr5
      have hpr5 := fun y => qD (y := y) hr5
      simp (maxSteps:=1000000) (disch:=first|assumption|omega|rfl) only [↓gp, gc, Nat.reduceAdd, hPS, qG, hrN5, hrr5, hpr5, lv0, av1]
      exact ⟨rfl, _, rfl, Res.done (v5 := .ts []) (v6 := .ts []) rfl (hT5.other hr5 (by decide) (by decide) (by decide)) (jR hr5) vQ (.inl ⟨rfl, rfl⟩) (((((hK01.trans Keep.app).trans hK2).toR.trans hKL.toR).trans hK5.toR).setR)⟩
     ·rintro v S5 ⟨⟨w, hv⟩, _⟩
      cases hv
   ·rintro v S2 ⟨_, hv⟩
    cases hv
  ·rw [Nat.zero_add] at f1
   have hf : vX (getN t d) s = (((j : Nat) : Int), true) := by unfold vX; rw [f1]
   have hge := hG.ti.inv.ge2 d _ (List.getElem_mem hj)
   rw [if_pos (by rw [f2]; omega)] at hq
   subst hq
   have h5 : (5 : Int) ≠ 0 := by omega
   simp (maxSteps:=1000000) (disch:=first|assumption|omega|rfl) only [↓gp, gc, Nat.reduceAdd, hPS, zagg, z32v, kX, kM, svz, sv, lv, zR, zN, z0c hT2.st trivial hgn, hf, jX h5]
   exact ⟨rfl, Res.fail h5 (hK01.trans Keep.app)⟩
 ·intro h0 S1 hK1
  rw [if_pos h0] at hq
  subst hq
  exact ⟨rfl, Res.fail h0 (Keep.app.trans hK1)⟩
theorem zc0 {ops : Array Oper} {dst : Option Tmp} {l : List Oper} {T : List V} {S : zA} {F : Dfs} {Q : Post} {a m : Nat} {t : List Node} {A B : Int → V} (hT0 : Tree S a m A B t) (hT : Told t) {k0 : Nat} (hk0 : k0 < 300000) (hS : Small k0 t) {s : List UInt8} (hl : s.length < 900000)
  (h0 : (zH t s).2 = 0 → (getN t (zH t s).1).kind ≠ 2 → ∀ S', Keep S S' → WpL cfgS ops l (putT T dst (zD (getN t (zH t s).1) (A (zH t s).1) (B (zH t s).1))) S' F Q)
  (h1 : ∀ e, ((zH t s).2 ≠ 0 ∧ e = (zH t s).2) ∨ ((zH t s).2 = 0 ∧ (getN t (zH t s).1).kind = 2 ∧ e = 7) → ∀ S', Keep S S' → Q (.pan (.d (.iface 41 (.int .i64 e)))) T S' F) : WpR cfgS ops dst l T S F Q (some (.enter 107 [.ref a 0 0, .d (.str s)])) := by
 refine z9r rfl (q0j S a m hT0 hT k0 hk0 hS s hl) ?_ ?_
 ·intro h S' hK
  by_cases c1 : (zH t s).2 = 0
  ·by_cases c2 : (getN t (zH t s).1).kind = 2
   ·rw [if_neg (by simp [c1]), if_pos c2] at h
    cases h
   ·rw [if_neg (by simp [c1]), if_neg c2]
    exact h0 c1 c2 S' hK
  ·rw [if_pos c1] at h
   exact absurd h c1
 ·intro h S' hK
  by_cases c1 : (zH t s).2 = 0
  ·by_cases c2 : (getN t (zH t s).1).kind = 2
   ·rw [if_neg (by simp [c1]), if_pos c2]
    exact h1 7 (.inr ⟨c1, c2, rfl⟩) S' hK
   ·rw [if_neg (by simp [c1]), if_neg c2] at h
    exact absurd c1 h
  ·rw [if_pos c1]
   exact h1 _ (.inl ⟨c1, rfl⟩) S' hK
theorem Tree.renewK {S S' : zA} {a m : Nat} {A B : Int → V} {t : List Node} {n : Node} {x : Int} {p q : V} (h : Tree S a m A B t) (hs : Srt t) (hx : n.ino = x) (hf : ∀ (j : Nat) (o : Ob), S[j]? = some o → idOf (A x) ≠ some j → idOf (B x) ≠ some j → S'[j]? = some o)
  (ha : SlE encU S' p 5 n.data) (hb : SlE zI S' q 88 n.names) (ha2 : ∀ i, idOf p = some i → idOf (A x) = some i ∨ S.length ≤ i) (hb2 : ∀ i, idOf q = some i → idOf (B x) = some i ∨ S.length ≤ i) :
  ∃ o, jG Try.prog S' 125 (.mr m) (.d (.int .i64 x)) (zD n p q) = some (S'.set m o) ∧ Tree (S'.set m o) a m (fun y => if y = x then p else A y) (fun y => if y = x then q else B y) (qT t n) ∧ (∀ (j : Nat) (ys : List V) (e : TypeId), S'[j]? = some (.row ys e) → (S'.set m o)[j]? = some (.row ys e)) ∧ S'[a]? = some (.row [.agg [.mr m]] 127) := by
 obtain ⟨o, hup, hst⟩ := h.st.renew hs hx hf ha hb ha2 hb2
 have hcell : S'[a]? = some (.row [.agg [.mr m]] 127) := by
  refine hf a _ h.cell (fun hh => ?_) (fun hh => ?_)
  ·obtain ⟨zs, q⟩ := (h.st.da x trivial).row hh
   rw [h.cell] at q; cases q
  ·obtain ⟨zs, q⟩ := (h.st.na x trivial).row hh
   rw [h.cell] at q; cases q
 have hm : ∃ L c, S'[m]? = some (.mp L c) := by
  obtain ⟨L, c, h1, _⟩ := h.st.mp
  refine ⟨_, _, hf m _ h1 (fun hh => ?_) (fun hh => ?_)⟩
  ·obtain ⟨zs, q⟩ := (h.st.da x trivial).row hh
   rw [h1] at q; cases q
  ·obtain ⟨zs, q⟩ := (h.st.na x trivial).row hh
   rw [h1] at q; cases q
 obtain ⟨L, c, hm⟩ := hm
 refine ⟨o, hup, ⟨by rw [List.getElem?_set_ne (Ne.symm h.ne)]; exact hcell, hst⟩, fun j ys e hj => ?_, hcell⟩
 have hne : m ≠ j := by rintro rfl; rw [hm] at hj; cases hj
 rw [List.getElem?_set_ne hne]; exact hj
theorem sv2m {n : Node} {a b : V} : qW Try.prog 3 2 (.d (.int .i64 (n.links + 1))) (zD n a b) = some (zD (more n) a b) := by kernel_rfl
theorem q03 (S0 : zA) (a m r : Nat) (A B : Int → V) (t : List Node) (hT0 : Tree S0 a m A B t) (k0 : Nat) (hk0 : k0 < 200000) (hG : Good k0 t) (o : Opn) (hl : o.a.length < 900000) (hlb : o.b.length < 900000) (hr : S0[r]? = some (.row [ansV okN (.ts []) (.ts [])] 44)) :
  EvS cfgS 77 [.ref a 0 0, .d (encOpn o), .ref r 0 0] S0 (Res S0 a m r (vR t o)) := by
 have hk1 : k0 < 300000 := by omega
 refine vE rfl zyq ?_
 show Wp cfgS (Try.f77.body.getD .skip) ((.ref a 0 0) :: (.d (encOpn o)) :: (.ref r 0 0) :: uZ (uZ (uZ (uZ ((.tup []) :: (.tup []) :: (.tup []) :: (.tup []) :: (.tup []) :: []))))) S0 [] _
 unfold uZ
 conv => arg 2; whnf
 rw [qK]
 have hT1 := hT0.keep (Keep.app (l := [Ob.row [.d (encOpn o)] 48]))
 simp (maxSteps:=1000000) (disch:=first|assumption|omega|rfl) only [↓gp, gc, Nat.reduceAdd, hPS, zR]
 generalize hq : vR t o = q
 unfold vR at hq
 refine zc0 hT1 hG.told hk1 hG.sm hl ?_ ?_
 ·intro h0 h2 S1 hK1
  rw [if_neg (by simp [h0]), if_neg h2] at hq
  have hkx := hG.lj.hasK (vN hG.told h0)
  generalize (zH t o.a).1 = x at *
  have hxi := z0u hkx
  have hxm : (more (getN t x)).ino = x := hxi
  have hK01 := Keep.app.trans hK1
  have h4 := hK1 _ _ (qY (S := S0) (o := Ob.row [.d (encOpn o)] 48))
  have hr4 : ∀ l, rowE (S1 ++ l) S0.length 0 = some (.d (encOpn o)) := fun l => zE (qO h4)
  have hT2 := hT0.keep (hK01.trans (Keep.app (l := [Ob.row [zD (getN t x) (A x) (B x)] 32])))
  simp (maxSteps:=1000000) (disch:=first|assumption|omega|rfl) only [↓gp, gc, Nat.reduceAdd, hPS, zagg, z32v, kX, kM, svz, sv, lv, zR, zN, hr4]
  refine z5z rfl (zci _ a m hT2 hG.told k0 hk1 hG.sm o.b hlb) ?_ ?_
  ·intro h1 S2 hK2
   rw [if_neg (by simp [h1])] at hq
   have hd := kB h1
   have h6 := hK2 _ _ (qY (S := S1) (o := Ob.row [zD (getN t x) (A x) (B x)] 32))
   generalize hw : zK t o.b = w at *
   obtain ⟨d, s, e⟩ := w
   simp only at hq hd h1
   have hgn : (getN t d).names.length < 1000000 := Nat.lt_of_le_of_lt (hG.sm.gnms _) (by omega)
   have hK02 := (hK01.trans Keep.app).trans hK2
   have hT3 := hT0.keep (hK02.trans (Keep.app (l := [Ob.row [zD (getN t d) (A d) (B d)] 32])))
   have h6' := qO (l := [Ob.row [zD (getN t d) (A d) (B d)] 32]) h6
   have hr6 := zE h6'
   have hpr6 := fun y => qD (y := y) h6'
   have hlk := hG.sm.glnk x
   rcases z15 (s := s) (l := (getN t d).names) (i := 0) with ⟨f1, f2⟩ | ⟨j, hj, f1, f2⟩
   ·have hf : vX (getN t d) s = (0, false) := by unfold vX; rw [f1]
    rw [if_neg (by rw [f2]; omega)] at hq
    subst hq
    simp (maxSteps:=1000000) (disch:=first|assumption|omega|rfl) only [↓gp, gc, Nat.reduceAdd, hPS, zagg, z32v, kX, kM, svz, sv, lv, lv2, sv2m, zR, zN, z0c hT3.st trivial hgn, hf, jJ, hr6, hpr6]
    have hlen : S0.length ≤ S1.length := hK01.len
    have hK3 : Keep S0 ((S2 ++ [Ob.row [zD (getN t d) (A d) (B d)] 32]).set S1.length (.row [zD (more (getN t x)) (A x) (B x)] 32)) := (hK02.trans Keep.app).set hlen
    obtain ⟨o7, hup, hT4, hK4, hc3⟩ := hT0.renewK (x := x) (n := (more (getN t x))) (p := A x) (q := B x) (S' := (S2 ++ [Ob.row [zD (getN t d) (A d) (B d)] 32]).set S1.length (.row [zD (more (getN t x)) (A x) (B x)] 32)) hG.lj.srt hxm (fun j q hj _ _ => hK3 j q hj)
     ((hT0.st.da x trivial).keep hK3) ((hT0.st.na x trivial).keep hK3) (fun i hi => .inl hi) (fun i hi => .inl hi)
    have h63 : ((S2 ++ [Ob.row [zD (getN t d) (A d) (B d)] 32]).set S1.length (.row [zD (more (getN t x)) (A x) (B x)] 32))[S1.length]? = some (.row [zD (more (getN t x)) (A x) (B x)] 32) := jR h6'
    have h73 : ((S2 ++ [Ob.row [zD (getN t d) (A d) (B d)] 32]).set S1.length (.row [zD (more (getN t x)) (A x) (B x)] 32))[S2.length]? = some (.row [zD (getN t d) (A d) (B d)] 32) := by
     rw [List.getElem?_set_ne (by have := qN h6; omega)]; exact qY
    have hr3 := hK3 _ _ hr
    generalize (S2 ++ [Ob.row [zD (getN t d) (A d) (B d)] 32]).set S1.length (.row [zD (more (getN t x)) (A x) (B x)] 32) = S3 at *
    have hra3 := zE hc3
    have hr63 := zE h63
    refine qS (is := [0, 1, 2, 3, 4, 5, 6, 7]) (h := 0) (by kernel_rfl) (by kernel_rfl) ?_
    simp (maxSteps:=1000000) (disch:=first|assumption|omega|rfl) only [List.replicate_zero, eq_self, gd, ga, Nat.reduceAdd, ↓gq, hPS, List.append_nil, qL, qG, jC, vD, wU, hra3, hr63, lv, lv0, hxm, hup, Option.map_some]
    refine ⟨fun _ => by kernel_rfl, ?_⟩
    refine ⟨by kernel_rfl, ?_⟩
    have h64 := zE (hK4 _ _ _ h63)
    have h74 := zE (hK4 _ _ _ h73)
    have hr4 := hK4 _ _ _ hr3
    have hgd : getN (qT t (more (getN t x))) d = getN t d := by
     rw [jF hG.lj.srt.uniq]
     unfold upd
     rw [if_neg]
     intro hh
     have hh : d = (getN t x).ino := hh
     rw [hh, hxi] at hd
     exact h2 hd
    have hS4 : Small (k0 + 1) (qT t (more (getN t x))) := hG.sm.with (n := more (getN t x)) (hG.sm.get x).more
    have hdi4 : (getN (qT t (more (getN t x))) d).ino = d := by rw [hgd]; exact jH hd
    have ho4 : Ord (getN (qT t (more (getN t x))) d).names := by rw [hgd]; exact hG.lj.nod d
    simp (maxSteps:=1000000) (disch:=first|assumption|omega|rfl) only [↓gp, gc, Nat.reduceAdd, hPS, h64, h74, lv0, hxm, jH hd]
    refine jK rfl (putM _ a m hT4 hG.lj.srt.with (k0 + 1) (by omega) hS4 d hdi4 ho4 s x) ?_ ?_
    ·rintro v S5 ⟨_, hK5, A5, B5, hT5⟩
     have hr5 := hK5 _ _ _ (by decide) (by decide) hr4
     simp (maxSteps:=1000000) (disch:=first|assumption|omega|rfl) only [↓gp, gc, Nat.reduceAdd, hPS]
     exact ⟨rfl, _, rfl, Res.done (v5 := .ts []) (v6 := .ts []) rfl hT5 hr5 vQ (.inl ⟨rfl, rfl⟩) ((hK3.toR.trans (fun j ys e _ _ h => hK4 _ _ _ h)).trans hK5.toR)⟩
    ·rintro v S5 ⟨⟨w, hv⟩, _⟩
     cases hv
   ·rw [Nat.zero_add] at f1
    have hf : vX (getN t d) s = (((j : Nat) : Int), true) := by unfold vX; rw [f1]
    have hge := hG.ti.inv.ge2 d _ (List.getElem_mem hj)
    rw [if_pos (by rw [f2]; omega)] at hq
    subst hq
    have h5 : (5 : Int) ≠ 0 := by omega
    simp (maxSteps:=1000000) (disch:=first|assumption|omega|rfl) only [↓gp, gc, Nat.reduceAdd, hPS, zagg, z32v, kX, kM, svz, sv, lv, zR, zN, z0c hT3.st trivial hgn, hf, jX h5]
    exact ⟨rfl, Res.fail h5 (hK02.trans Keep.app)⟩
  ·intro h1 S2 hK2
   rw [if_pos h1] at hq
   subst hq
   exact ⟨rfl, Res.fail h1 ((hK01.trans Keep.app).trans hK2)⟩
 ·rintro e (⟨h0, rfl⟩ | ⟨h0, h2, rfl⟩) S1 hK1
  ·rw [if_pos h0] at hq
   subst hq
   exact ⟨rfl, Res.fail h0 (Keep.app.trans hK1)⟩
  ·rw [if_neg (by simp [h0]), if_pos h2] at hq
   subst hq
   exact ⟨rfl, Res.fail (by omega) (Keep.app.trans hK1)⟩
theorem zca {S : zA} {k n : Nat} (h : k < n) : (S ++ List.replicate n Ob.hole)[S.length + k]? = some .hole := by
 rw [List.getElem?_append_right (by omega), Nat.add_sub_cancel_left, List.getElem?_replicate, if_pos h]
theorem z1d {S : zA} {k : Nat} {o q : Ob} (h : S[k]? = some q) : (S.set k o)[k]? = some o := by
 rw [List.getElem?_set_self (qN h)]
theorem zgs {s : List UInt8} {l : List Ent} {i j : Nat} (h : fidx s i l = some (i + j)) (hj : j < l.length) : ∃ e ∈ l, e.name = s := by
 rcases Classical.em (∃ e ∈ l, e.name = s) with h1 | h1
 ·exact h1
 ·have : ∀ (l : List Ent) (i : Nat), (∀ e ∈ l, e.name ≠ s) → fidx s i l = none := fun l => by
   induction l with
   | nil => intro i _; rfl
   | cons x r ih =>
    intro i hx
    have h0 := hx x (by simp)
    simp only [fidx, h0, if_false]
    exact ih _ fun e he => hx e (by simp [he])
  rw [this l i fun e he hh => h1 ⟨e, he, hh⟩] at h
  cases h
theorem zk0 (S0 : zA) (a m r : Nat) (A B : Int → V) (t : List Node) (hT0 : Tree S0 a m A B t) (k0 : Nat) (hk0 : k0 < 200000) (hG : Good k0 t) (o : Opn) (hdo : o.does = 4 ∨ o.does = 5) (hl : o.a.length < 900000) (hr : S0[r]? = some (.row [ansV okN (.ts []) (.ts [])] 44)) :
  EvS cfgS 78 [.ref a 0 0, .d (encOpn o), .ref r 0 0] S0 (Res S0 a m r (kU t o)) := by
 have hk1 : k0 < 300000 := by omega
 refine vE rfl zy9 ?_
 show Wp cfgS (Try.f78.body.getD .skip) ((.ref a 0 0) :: (.d (encOpn o)) :: (.ref r 0 0) :: uZ (uZ (uZ (uZ (uZ ((.tup []) :: (.tup []) :: (.tup []) :: (.tup []) :: (.tup []) :: (.tup []) :: [])))))) S0 [] _
 unfold uZ
 conv => arg 2; whnf
 rw [qK]
 have hT1 := hT0.keep (Keep.app (l := [Ob.row [.d (encOpn o)] 48]))
 simp (maxSteps:=1000000) (disch:=first|assumption|omega|rfl) only [↓gp, gc, Nat.reduceAdd, hPS, zR]
 generalize hq : kU t o = q
 unfold kU at hq
 refine z5z rfl (zci _ a m hT1 hG.told k0 hk1 hG.sm o.a hl) ?_ ?_
 ·intro h0 S1 hK1
  rw [if_neg (by simp [h0])] at hq
  have hd := kB h0
  have hK01 := Keep.app.trans hK1
  have h4 := hK1 _ _ (qY (S := S0) (o := Ob.row [.d (encOpn o)] 48))
  generalize hw : zK t o.a = w at *
  obtain ⟨d, s, e⟩ := w
  simp only at hq hd h0
  have hT2 := hT0.keep (hK01.trans (Keep.app (l := [Ob.row [zD (getN t d) (A d) (B d)] 32])))
  have hgn : (getN t d).names.length < 1000000 := Nat.lt_of_le_of_lt (hG.sm.gnms _) (by omega)
  have h6 := qY (S := S1) (o := Ob.row [zD (getN t d) (A d) (B d)] 32)
  rcases z15 (s := s) (l := (getN t d).names) (i := 0) with ⟨f1, f2⟩ | ⟨j, hj, f1, f2⟩
  ·have hf : vX (getN t d) s = (0, false) := by unfold vX; rw [f1]
   rw [if_pos (by rw [f2]; omega)] at hq
   subst hq
   have h40 : (4 : Int) ≠ 0 := by omega
   simp (maxSteps:=1000000) (disch:=first|assumption|omega|rfl) only [↓gp, gc, Nat.reduceAdd, hPS, zagg, z32v, kX, kM, svz, sv, lv, zR, zN, z0c hT2.st trivial hgn, hf, z0g, Bool.not_false, jX h40]
   exact ⟨rfl, Res.fail h40 (hK01.trans Keep.app)⟩
  ·rw [Nat.zero_add] at f1
   have hf : vX (getN t d) s = (((j : Nat) : Int), true) := by unfold vX; rw [f1]
   have hge := hG.ti.inv.ge2 d _ (List.getElem_mem hj)
   have hkx := hG.lj.told (List.getElem_mem hj)
   have hents : ∃ e ∈ (getN t d).names, e.name = s := zgs (i := 0) (by rw [Nat.zero_add]; exact f1) hj
   rw [if_neg (by rw [f2]; omega)] at hq
   rw [f2] at hq
   simp (maxSteps:=1000000) (disch:=first|assumption|omega|rfl) only [↓gp, gc, Nat.reduceAdd, hPS, zagg, z32v, kX, kM, svz, sv, lv, zR, zN, z0c hT2.st trivial hgn, hf, z0g, Bool.not_true, jJ]
   have hK02 := hK01.trans (Keep.app (l := [Ob.row [zD (getN t d) (A d) (B d)] 32]))
   have h42 := qO (l := [Ob.row [zD (getN t d) (A d) (B d)] 32]) h4
   generalize S1 ++ [Ob.row [zD (getN t d) (A d) (B d)] 32] = S2 at *
   refine qS (is := [0, 1, 2, 3, 4, 5, 6, 7, 8, 9, 10, 11, 12]) (h := 13) (by kernel_rfl) (by kernel_rfl) ?_
   have hh : (S2 ++ List.replicate 13 Ob.hole)[S2.length + 11]? = some .hole := zca (by omega)
   have hK23 : Keep S2 (S2 ++ List.replicate 13 Ob.hole) := Keep.app
   generalize S2 ++ List.replicate 13 Ob.hole = S3 at *
   have hT3 := hT2.keep hK23
   have hra3 := hT3.row
   have hlk3 := fun x => (hT3.st.look x).2
   have hr63 := zE (hK23 _ _ h6)
   obtain ⟨id, hix, hre, _⟩ := (hT3.st.na d trivial).ix (t := 30) Try.underlying30 (by kernel_rfl) hj
   have hset := z1d (o := Ob.row [zD zM (.ts []) (.ts [])] 32) hh
   have hrs := zE hset
   have hps := fun y => qD (y := y) hset
   simp (maxSteps:=1000000) (disch:=first|assumption|omega|rfl) only [List.replicate_zero, eq_self, gd, ga, Nat.reduceAdd, ↓gq, hPS, List.append_nil, qL, qG, z7z, z84 z32v kX, z5h, vD, wU, hra3, hr63, lv6, hix, hre, le1, hlk3, hrs, hps, sv]
   refine ⟨hh, fun _ => by kernel_rfl, ?_⟩
   refine ⟨by kernel_rfl, ?_⟩
   generalize (getN t d).names[j].ino = x at *
   have hK24 : Keep S2 ((S3.set (S2.length + 11) (.row [zD zM (.ts []) (.ts [])] 32)).set (S2.length + 11) (.row [zD (getN t x) (A x) (B x)] 32)) := (hK23.set (by omega)).set (by omega)
   have h10 : ((S3.set (S2.length + 11) (.row [zD zM (.ts []) (.ts [])] 32)).set (S2.length + 11) (.row [zD (getN t x) (A x) (B x)] 32))[S2.length + 11]? = some (.row [zD (getN t x) (A x) (B x)] 32) := z1d hset
   generalize (S3.set (S2.length + 11) (.row [zD zM (.ts []) (.ts [])] 32)).set (S2.length + 11) (.row [zD (getN t x) (A x) (B x)] 32) = S4 at *
   have hT4 := hT2.keep hK24
   have hr44 := zE (hK24 _ _ h42)
   have hr64 := zE (hK24 _ _ h6)
   have hr104 := zE h10
   have hlen := (hT4.st.na x trivial).len (t := 30) Try.underlying30
   have hrr := (hK02.trans hK24) _ _ hr
   have fin : q = (jN (zU t d s) x, okN) → EvS cfgS 108 [.ref a 0 0, .d (.int .i64 d), .d (.str s), .d (.bool false)] S4 fun o' S => (∃ v, o' = .ret v) ∧ Res S0 a m r q (.ret (.tup [])) S := fun hq => by
    have hdr := zz6 S4 a m hT4 hG.lj.srt k0 hk0 hG.sm d hd (hG.lj.nod d) s hents false (fun _ => by rw [f2]; exact z0u (by rw [(qZ hG.lj.srt.uniq hd).1]; exact hkx))
    rw [f2] at hdr
    refine EvS.weak hdr ?_
    rintro o' S5 ⟨h1, hK5, A5, B5, hT5⟩
    refine ⟨h1, ?_⟩
    rw [hq]
    exact Res.done (v5 := .ts []) (v6 := .ts []) rfl hT5 (hK5 _ _ _ (by decide) (by decide) hrr) vQ (.inl ⟨rfl, rfl⟩) ((hK02.trans hK24).toR.trans hK5.toR)
   rcases hdo with h4o | h5o
   ·by_cases c1 : (getN t x).kind = 2
    ·rw [if_pos ⟨h4o, c1⟩] at hq
     subst hq
     have h7 : (7 : Int) ≠ 0 := by omega
     simp (maxSteps:=1000000) (disch:=first|assumption|omega|rfl) only [↓gp, gc, Nat.reduceAdd, hPS, hr44, hr104, lv1, c1, jX h7]
     exact ⟨rfl, Res.fail h7 (hK02.trans hK24)⟩
    ·rw [if_neg (fun hh => c1 hh.2), if_neg (by omega), if_neg (by omega)] at hq
     simp (maxSteps:=1000000) (disch:=first|assumption|omega|rfl) only [↓gp, gc, Nat.reduceAdd, hPS, hr44, hr104, hr64, lv0, lv1, jH hd, jJ]
     refine jK rfl (fin hq.symm) ?_ ?_
     ·rintro v S5 ⟨_, hR⟩
      simp (maxSteps:=1000000) (disch:=first|assumption|omega|rfl) only [↓gp, gc, Nat.reduceAdd, hPS]
      exact ⟨rfl, _, rfl, hR⟩
     ·rintro v S5 ⟨⟨w, hv⟩, _⟩
      cases hv
   ·have h4n : ¬ o.does = 4 := by omega
    by_cases c1 : (getN t x).kind = 2
    ·by_cases c2 : 0 < (getN t x).names.length
     ·rw [if_neg (by omega), if_neg (fun hh => hh.2 c1), if_pos ⟨h5o, c2⟩] at hq
      subst hq
      have h8 : (8 : Int) ≠ 0 := by omega
      have c2' : ((getN t x).names.length : Int) > 0 := by omega
      simp (maxSteps:=1000000) (disch:=first|assumption|omega|rfl) only [↓gp, gc, Nat.reduceAdd, hPS, hr44, hr104, lv1, lv6, hlen, c1, jJ, jX h8]
      exact ⟨rfl, Res.fail h8 (hK02.trans hK24)⟩
     ·rw [if_neg (by omega), if_neg (fun hh => hh.2 c1), if_neg (fun hh => c2 hh.2)] at hq
      have c2' : ¬ ((getN t x).names.length : Int) > 0 := by omega
      simp (maxSteps:=1000000) (disch:=first|assumption|omega|rfl) only [↓gp, gc, Nat.reduceAdd, hPS, hr44, hr104, hr64, lv0, lv1, lv6, hlen, c1, jH hd, jJ]
      refine jK rfl (fin hq.symm) ?_ ?_
      ·rintro v S5 ⟨_, hR⟩
       simp (maxSteps:=1000000) (disch:=first|assumption|omega|rfl) only [↓gp, gc, Nat.reduceAdd, hPS]
       exact ⟨rfl, _, rfl, hR⟩
      ·rintro v S5 ⟨⟨w, hv⟩, _⟩
       cases hv
    ·rw [if_neg (by omega), if_pos ⟨h5o, c1⟩] at hq
     subst hq
     have h6' : (6 : Int) ≠ 0 := by omega
     simp (maxSteps:=1000000) (disch:=first|assumption|omega|rfl) only [↓gp, gc, Nat.reduceAdd, hPS, hr44, hr104, lv1, jX h6']
     exact ⟨rfl, Res.fail h6' (hK02.trans hK24)⟩
 ·intro h0 S1 hK1
  rw [if_pos h0] at hq
  subst hq
  exact ⟨rfl, Res.fail h0 (Keep.app.trans hK1)⟩
theorem zt5 {t : List Node} {x : Int} (h : (getN t x).kind = 2) : getN t x ∈ t := by
 rcases jM t x with ⟨h1, _⟩ | ⟨h1, _⟩
 ·rw [h1] at h; simp [zM] at h
 ·exact h1
theorem zf2 {t : List Node} (h : LJ t (fun _ => 0)) (hT : TInv t 1) {f : Int} {e : Ent} (he : e ∈ (getN t f).names) (hk : (getN t e.ino).kind = 2) : (getN t e.ino).parent = f := by
 have hge := hT.inv.ge2 f e he
 have hf : (getN t f).kind = 2 := Classical.byContradiction fun hh => by rw [h.fil f hh] at he; cases he
 obtain ⟨h1, e', he', hi⟩ := hT.inv.told e.ino hk (by omega) (by omega)
 refine Classical.byContradiction fun hne => ?_
 have hD := h.drop (i := e.ino) (s := e.name) hf ⟨e, he, rfl, rfl⟩
 have hkd := qZ (s := e.name) h.srt.uniq hf (y := e.ino)
 have hl := hD.lnk e.ino (by rw [hkd.1, hk]; decide) (by omega)
 rw [hkd.2.2, hT.inv.ln _ hk] at hl
 simp only [if_true] at hl
 have hgp : getN (zU t f e.name) (getN t e.ino).parent = getN t (getN t e.ino).parent := by rw [vS h.srt.uniq hf, if_neg hne]
 have hin : getN t (getN t e.ino).parent ∈ zU t f e.name := by rw [← hgp]; exact zt5 (by rw [hgp]; exact h1)
 have h2 := zko hin e.ino
 have h3 := zpi he'
 rw [hi] at h3
 omega
theorem zrx {t : List Node} (h : LJ t (fun _ => 0)) (hT : TInv t 1) {f : Int} {e : Ent} (he : e ∈ (getN t f).names) (hk : (getN t e.ino).kind = 2) : e.ino ≠ f := fun hh => by
 have hp := zf2 h hT he hk
 have hge := hT.inv.ge2 f e he
 rw [hh] at hp hk
 obtain ⟨c, hc, _⟩ := zh9 hT.inv.root (hT.inv.way f hk)
 cases c with
 | nil => have : f = 1 := hc.2; omega
 | cons j r =>
  have hj : (getN t f).parent = j := hc.2.2.1
  have hn := z5b hc
  rw [← hj, hp] at hn
  simp at hn
theorem zf8 {u : List Node} {d x i : Int} {s : List UInt8} (hu : Uniq u) (hd : (getN u d).kind = 2) (hx : x ≠ d) : getN (putN u d s i) x = getN u x := by
 unfold putN
 rw [jF hu]
 unfold upd
 have hi : ({ getN u d with names := putA s i false (getN u d).names } : Node).ino = d := jH hd
 rw [hi, if_neg hx]
structure Mid (k : Nat) (u : List Node) (f d : Int) (old s : List UInt8) (ino : Int) : Prop where
 lj : LJ u (fun _ => 0)
 kf : (getN u f).kind = 2
 kd : (getN u d).kind = 2
 nf : ∃ e ∈ (getN u f).names, e.name = old ∧ e.ino = ino
 sm : Small k u
theorem znr {t : List Node} {k : Nat} {f d : Int} {old s : List UInt8} {ino : Int} (h : LJ t (fun _ => 0)) (hT : TInv t 1) (hS : Small k t) (hf : (getN t f).kind = 2) (hd : (getN t d).kind = 2) (e0 : Ent) (he0 : e0 ∈ (getN t f).names) (hs0 : e0.name = old) (hi0 : e0.ino = ino)
  (h4 : qQ (getN t d).names s ≠ ino) (hw : 0 ≤ qQ (getN t d).names s) (hkw : (getN t (qQ (getN t d).names s)).kind ≠ 2) : Mid (k + 2) (jN (zU t d s) (qQ (getN t d).names s)) f d old s ino := by
 obtain ⟨e1, he1, hs1, hi1⟩ := vM hw
 have hk1 : (getN t (qQ (getN t d).names s)).kind ≠ 0 := by rw [← hi1]; exact h.told he1
 have hg1 : 2 ≤ qQ (getN t d).names s := by rw [← hi1]; exact hT.inv.ge2 _ e1 he1
 generalize qQ (getN t d).names s = was at *
 have hnf : f ≠ was := fun hh => by rw [hh] at hf; exact hkw hf
 have hnd : d ≠ was := fun hh => by rw [hh] at hd; exact hkw hd
 have hni : ino ≠ was := fun hh => h4 hh.symm
 have hgw : getN (zU t d s) was = getN t was := by rw [vS h.srt.uniq hd, if_neg (fun hh => hnd hh.symm)]
 have hD := h.drop (i := was) (s := s) hd ⟨e1, he1, hs1, hi1⟩
 have hL := (hD.loses (i := was) (by rw [hgw]; exact hk1) (by rw [hgw]; exact h.fil _ hkw) (by omega) (by simp)).congr (d' := fun _ => 0) (fun x => by
  by_cases e : x = was
  ·simp [e]
  ·have : ¬ was = x := fun hh => e hh.symm
   simp [e, this])
 have hgl : ∀ y, y ≠ was → getN (jN (zU t d s) was) y = getN (zU t d s) y := fun y hy => z0o hD.srt.uniq hy
 refine ⟨hL, ?_, ?_, ?_, hS.drop.loses.mono (by omega)⟩
 ·rw [hgl f hnf, (qZ h.srt.uniq hd).1]; exact hf
 ·rw [hgl d hnd, (qZ h.srt.uniq hd).1]; exact hd
 ·rw [hgl f hnf, vS h.srt.uniq hd]
  split
  ·rename_i hfd
   subst hfd
   refine ⟨e0, List.mem_filter.2 ⟨he0, ?_⟩, hs0, hi0⟩
   rw [decide_eq_true_eq]
   intro hh
   have := hT.inv.un _ e0 he0 e1 he1 (hh.trans hs1.symm)
   exact hni (hi0.symm.trans (this.trans hi1))
  ·exact ⟨e0, he0, hs0, hi0⟩
section
variable {S : zA} {a m k : Nat} {A B : Int → V} {u : List Node} {f d ino : Int} {old s : List UInt8}
theorem zrs (hM : Mid k u f d old s ino) (hk : k < 200000) (hT : Tree S a m A B u) : EvS cfgS 108 [.ref a 0 0, .d (.int .i64 f), .d (.str old), .d (.bool true)] S fun o S' => (∃ v, o = .ret v) ∧ KeepL S S' ∧ ∃ A' B', Tree S' a m A' B' (zU u f old) ∧ ∀ y, y ≠ f → A' y = A y ∧ B' y = B y := by
 obtain ⟨e, he, hs, _⟩ := hM.nf
 exact EvS.weak (zpa S a m hT hM.lj.srt k hk hM.sm f hM.kf (hM.lj.nod f) old ⟨e, he, hs⟩ true (fun h => by cases h)) fun o S' ⟨h1, h2, A', B', h3, h4⟩ => ⟨h1, h2, A', B', h3, h4 rfl⟩
theorem putE (hM : Mid k u f d old s ino) (hk : k < 200000) (hT : Tree S a m A B (zU u f old)) : EvS cfgS 106 [.ref a 0 0, .d (.int .i64 d), .d (.str s), .d (.int .i64 ino)] S fun o S' => (∃ v, o = .ret v) ∧ KeepL S S' ∧ ∃ A' B', Tree S' a m A' B' (putN (zU u f old) d s ino) ∧ ∀ y, y ≠ d → A' y = A y ∧ B' y = B y := by
 obtain ⟨e, he, hs, hi⟩ := hM.nf
 have hD := hM.lj.drop (i := ino) (s := old) hM.kf ⟨e, he, hs, hi⟩
 exact zzn S a m hT hD.srt (k + 1) (by omega) hM.sm.drop d (jH (by rw [(qZ hM.lj.srt.uniq hM.kf).1]; exact hM.kd)) (hD.nod d) s ino
end
theorem sv3m {n : Node} {a b : V} {p : Int} : qW Try.prog 3 3 (.d (.int .i64 p)) (zD n a b) = some (zD (moved n p) a b) := by kernel_rfl
theorem z6g {i : Decidable True} : @decide True i = true := by cases i with | isTrue _ => rfl | isFalse h => exact absurd trivial h
theorem zsg (S0 : zA) (a m r : Nat) (A B : Int → V) (t : List Node) (hT0 : Tree S0 a m A B t) (k0 : Nat) (hk0 : k0 < 190000) (hG : Good k0 t) (o : Opn) (hl : o.a.length < 900000) (hlb : o.b.length < 900000) (hr : S0[r]? = some (.row [ansV okN (.ts []) (.ts [])] 44)) :
  EvS cfgS 79 [.ref a 0 0, .d (encOpn o), .ref r 0 0] S0 (Res S0 a m r (kT t o)) := by
 have hk1 : k0 < 300000 := by omega
 have hk2 : k0 < 200000 := by omega
 have hlt : t.length < 400000 := Nat.lt_of_le_of_lt hG.sm.len (by omega)
 refine vE rfl zyh ?_
 show Wp cfgS (Try.f79.body.getD .skip) ((.ref a 0 0) :: (.d (encOpn o)) :: (.ref r 0 0) :: uZ (uZ (uZ (uZ (uZ (uZ (uZ (uZ (uZ (uZ (uZ (uZ ((.tup []) :: (.tup []) :: (.tup []) :: (.tup []) :: (.tup []) :: (.tup []) :: (.tup []) :: []))))))))))))) S0 [] _
 unfold uZ
 conv => arg 2; whnf
 rw [qK]
 have hT1 := hT0.keep (Keep.app (l := [Ob.row [.d (encOpn o)] 48]))
 simp (maxSteps:=1000000) (disch:=first|assumption|omega|rfl) only [↓gp, gc, Nat.reduceAdd, hPS, zR]
 generalize hq : kT t o = q
 unfold kT at hq
 refine z5z rfl (zci _ a m hT1 hG.told k0 hk1 hG.sm o.a hl) ?_ ?_
 rotate_left
 ·intro h0 S1 hK1
  rw [if_pos h0] at hq
  subst hq
  exact ⟨rfl, Res.fail h0 (Keep.app.trans hK1)⟩
 intro h0 S1 hK1
 rw [if_neg (by simp [h0])] at hq
 have hdf := kB h0
 have hK01 := Keep.app.trans hK1
 have h41 := hK1 _ _ (qY (S := S0) (o := Ob.row [.d (encOpn o)] 48))
 generalize hw : zK t o.a = w at *
 obtain ⟨f, old, e⟩ := w
 simp only at hq hdf h0
 have hT2 := hT0.keep (hK01.trans (Keep.app (l := [Ob.row [zD (getN t f) (A f) (B f)] 32])))
 have hgn : (getN t f).names.length < 1000000 := Nat.lt_of_le_of_lt (hG.sm.gnms _) (by omega)
 have h62 := qY (S := S1) (o := Ob.row [zD (getN t f) (A f) (B f)] 32)
 have hr41 : ∀ l, rowE (S1 ++ l) S0.length 0 = some (.d (encOpn o)) := fun l => zE (qO h41)
 rcases z15 (s := old) (l := (getN t f).names) (i := 0) with ⟨f1, f2⟩ | ⟨j, hj, f1, f2⟩
 ·have hf : vX (getN t f) old = (0, false) := by unfold vX; rw [f1]
  rw [if_pos (by rw [f2]; omega)] at hq
  subst hq
  have h40 : (4 : Int) ≠ 0 := by omega
  simp (maxSteps:=1000000) (disch:=first|assumption|omega|rfl) only [↓gp, gc, Nat.reduceAdd, hPS, zagg, z32v, kX, kM, svz, sv, lv, zR, zN, z0c hT2.st trivial hgn, hf, z0g, Bool.not_false, jX h40]
  exact ⟨rfl, Res.fail h40 (hK01.trans Keep.app)⟩
 rw [Nat.zero_add] at f1
 have hf : vX (getN t f) old = (((j : Nat) : Int), true) := by unfold vX; rw [f1]
 have hge := hG.ti.inv.ge2 f _ (List.getElem_mem hj)
 have hkx := hG.lj.told (List.getElem_mem hj)
 have hmem := List.getElem_mem hj
 have hne2 := fun h2 => zrx hG.lj hG.ti (List.getElem_mem hj) h2
 have hent : ∃ e ∈ (getN t f).names, e.name = old ∧ e.ino = (getN t f).names[j].ino := by
  obtain ⟨e, he, hs, hi⟩ := vM (l := (getN t f).names) (s := old) (by rw [f2]; omega)
  exact ⟨e, he, hs, hi.trans f2⟩
 rw [if_neg (by rw [f2]; omega), f2] at hq
 simp (maxSteps:=1000000) (disch:=first|assumption|omega|rfl) only [↓gp, gc, Nat.reduceAdd, hPS, zagg, z32v, kX, kM, svz, sv, lv, zR, zN, z0c hT2.st trivial hgn, hf, z0g, Bool.not_true, jJ, hr41]
 have hK02 := hK01.trans (Keep.app (l := [Ob.row [zD (getN t f) (A f) (B f)] 32]))
 have h42 := qO (l := [Ob.row [zD (getN t f) (A f) (B f)] 32]) h41
 generalize S1 ++ [Ob.row [zD (getN t f) (A f) (B f)] 32] = S2 at *
 refine z5z rfl (zci _ a m hT2 hG.told k0 hk1 hG.sm o.b hlb) ?_ ?_
 rotate_left
 ·intro h1 S3 hK3
  rw [if_pos h1] at hq
  subst hq
  exact ⟨rfl, Res.fail h1 (hK02.trans hK3)⟩
 intro h1 S3 hK3
 rw [if_neg (by simp [h1])] at hq
 have hdd := kB h1
 generalize hw2 : zK t o.b = w2 at *
 obtain ⟨d, s, e2⟩ := w2
 simp only at hq hdd h1
 have hgd : (getN t d).names.length < 1000000 := Nat.lt_of_le_of_lt (hG.sm.gnms _) (by omega)
 have h104 := qY (S := S3) (o := Ob.row [zD (getN t d) (A d) (B d)] 32)
 simp (maxSteps:=1000000) (disch:=first|assumption|omega|rfl) only [↓gp, gc, Nat.reduceAdd, hPS, zagg, z32v, kX, kM, svz, sv, lv, zR, zN]
 have hK24 := hK3.trans (Keep.app (l := [Ob.row [zD (getN t d) (A d) (B d)] 32]))
 generalize S3 ++ [Ob.row [zD (getN t d) (A d) (B d)] 32] = S4 at *
 have hT4 := hT2.keep hK24
 have h44 := hK24 _ _ h42
 have h64 := hK24 _ _ h62
 refine qS (is := [0, 1, 2, 3, 4, 5, 6, 7, 8, 9, 10, 11, 12]) (h := 13) (by kernel_rfl) (by kernel_rfl) ?_
 have hh : (S4 ++ List.replicate 13 Ob.hole)[S4.length + 11]? = some .hole := zca (by omega)
 have hK45 : Keep S4 (S4 ++ List.replicate 13 Ob.hole) := Keep.app
 generalize S4 ++ List.replicate 13 Ob.hole = S5 at *
 have hT5 := hT4.keep hK45
 have hra5 := hT5.row
 have hlk5 := fun x => (hT5.st.look x).2
 have hr65 := zE (hK45 _ _ h64)
 obtain ⟨id, hix, hre, _⟩ := (hT5.st.na f trivial).ix (t := 30) Try.underlying30 (by kernel_rfl) hj
 have hset := z1d (o := Ob.row [zD zM (.ts []) (.ts [])] 32) hh
 have hrs := zE hset
 have hps := fun y => qD (y := y) hset
 simp (maxSteps:=1000000) (disch:=first|assumption|omega|rfl) only [List.replicate_zero, eq_self, gd, ga, Nat.reduceAdd, ↓gq, hPS, List.append_nil, qL, qG, z7z, z84 z32v kX, z5h, vD, wU, hra5, hr65, lv6, hix, hre, le1, hlk5, hrs, hps, sv]
 refine ⟨hh, fun _ => by kernel_rfl, ?_⟩
 refine ⟨by kernel_rfl, ?_⟩
 have hK46 : Keep S4 ((S5.set (S4.length + 11) (.row [zD zM (.ts []) (.ts [])] 32)).set (S4.length + 11) (.row [zD (getN t (getN t f).names[j].ino) (A (getN t f).names[j].ino) (B (getN t f).names[j].ino)] 32)) := (hK45.set (by omega)).set (by omega)
 have h126 : ((S5.set (S4.length + 11) (.row [zD zM (.ts []) (.ts [])] 32)).set (S4.length + 11) (.row [zD (getN t (getN t f).names[j].ino) (A (getN t f).names[j].ino) (B (getN t f).names[j].ino)] 32))[S4.length + 11]? = some (.row [zD (getN t (getN t f).names[j].ino) (A (getN t f).names[j].ino) (B (getN t f).names[j].ino)] 32) := z1d hset
 generalize (S5.set (S4.length + 11) (.row [zD zM (.ts []) (.ts [])] 32)).set (S4.length + 11) (.row [zD (getN t (getN t f).names[j].ino) (A (getN t f).names[j].ino) (B (getN t f).names[j].ino)] 32) = S6 at *
 generalize hx : (getN t f).names[j].ino = x at *
 have hxi := z0u hkx
 have hT6 := hT4.keep hK46
 have h46 := zE (hK46 _ _ h44)
 have h66 := zE (hK46 _ _ h64)
 have h106 := zE (hK46 _ _ h104)
 have hr126 := zE h126
 have hrr6 := ((hK02.trans hK24).trans hK46) _ _ hr
 have hK06 := (hK02.trans hK24).trans hK46
 have hMid0 : Mid (k0 + 2) t f d old s x := ⟨hG.lj, hdf, hdd, hent, hG.sm.mono (by omega)⟩
 unfold z39 at hq
 rcases z15 (s := s) (l := (getN t d).names) (i := 0) with ⟨g1, g2⟩ | ⟨k, hk, g1, g2⟩
 ·have hfd : vX (getN t d) s = (0, false) := by unfold vX; rw [g1]
  rw [g2, if_neg (by omega)] at hq
  simp (maxSteps:=1000000) (disch:=first|assumption|omega|rfl) only [↓gp, gc, Nat.reduceAdd, hPS, h106, lv, kM, z0c hT6.st trivial hgd, hfd]
  refine qS (is := [0, 1, 2, 3, 4, 5, 6, 7, 8, 9, 10, 11]) (h := 0) (by kernel_rfl) (by kernel_rfl) ?_
  simp (maxSteps:=1000000) (disch:=first|assumption|omega|rfl) only [List.replicate_zero, eq_self, gd, ga, Nat.reduceAdd, ↓gq, hPS, List.append_nil, h106, hr126, lv0, lv6]
  refine ⟨by kernel_rfl, ?_⟩
  have neg : ¬ (0 : Int) ≤ -1 := by omega
  by_cases c1 : (getN t x).kind = 2
  ·have hxf := hne2 c1
   have hne : renamed t f old d s x (-1) (getN t x).kind = qT (putN (zU t f old) d s x) (moved (getN (putN (zU t f old) d s x) x) d) := by
    unfold renamed
    simp only [if_neg neg, if_pos c1]
   simp (maxSteps:=1000000) (disch:=first|assumption|omega|rfl) only [↓gp, gc, Nat.reduceAdd, hPS, h106, hr126, lv0, lv1, c1, z6g, hxi, jH hdd]
   refine jK rfl (zp5 _ a m hT6 hlt d x) ?_ ?_
   ·rintro v S7 ⟨hS, hv⟩
    have hS := hS.symm
    subst hS
    cases hv
    cases hb : wJ t x (t.length + 1) d with
    | true =>
     rw [if_pos ⟨c1, hb⟩] at hq
     subst hq
     have h9 : (9 : Int) ≠ 0 := by omega
     simp (maxSteps:=1000000) (disch:=first|assumption|omega|rfl) only [↓gp, gc, Nat.reduceAdd, hPS, jX h9]
     exact ⟨rfl, Res.fail h9 hK06⟩
    | false =>
     have hxd : x ≠ d := fun hh => by rw [hh] at hb; simp [wJ] at hb
     rw [if_neg (fun hh => by rw [hb] at hh; cases hh.2), if_neg (fun hh => neg hh.1), if_neg (fun hh => neg hh.1), hne] at hq
     simp (maxSteps:=1000000) (disch:=first|assumption|omega|rfl) only [↓gp, gc, Nat.reduceAdd, hPS, jJ, h66, h106, hr126, lv0, lv1, c1, z6g, hxi, jH hdf, jH hdd]
     refine jK rfl (zrs hMid0 (by omega) hT6) ?_ ?_
     ·rintro v S7 ⟨_, hK7, A7, B7, hT7, hA7⟩
      have h107 := zE (hK7 _ _ _ (by decide) (by decide) (hK46 _ _ h104))
      have h127 := hK7 _ _ _ (by decide) (by decide) h126
      have hr127 := zE h127
      have hrr7 := hK7 _ _ _ (by decide) (by decide) hrr6
      simp (maxSteps:=1000000) (disch:=first|assumption|omega|rfl) only [↓gp, gc, Nat.reduceAdd, hPS, h107, hr127, lv0, hxi, jH hdd]
      refine jK rfl (putE hMid0 (by omega) hT7) ?_ ?_
      ·rintro v S8 ⟨_, hK8, A8, B8, hT8, hA8⟩
       have h108 := zE (hK8 _ _ _ (by decide) (by decide) (hK7 _ _ _ (by decide) (by decide) (hK46 _ _ h104)))
       have h128 := hK8 _ _ _ (by decide) (by decide) h127
       have hr128 := zE h128
       have hpr128 := fun y => qD (y := y) h128
       have hrr8 := hK8 _ _ _ (by decide) (by decide) hrr7
       have hT9 := hT8.other (o := .row [zD (moved (getN t x) d) (A x) (B x)] 32) h128 (by decide) (by decide) (by decide)
       have h129 : (S8.set (S4.length + 11) (.row [zD (moved (getN t x) d) (A x) (B x)] 32))[S4.length + 11]? = some (.row [zD (moved (getN t x) d) (A x) (B x)] 32) := z1d h128
       have hrr9 : (S8.set (S4.length + 11) (.row [zD (moved (getN t x) d) (A x) (B x)] 32))[r]? = some (.row [ansV okN (.ts []) (.ts [])] 44) := by
        rw [List.getElem?_set_ne]
        ·exact hrr8
        ·rintro rfl
         have q := h128.symm.trans hrr8
         simp only [Option.some.injEq, Ob.row.injEq] at q
         exact absurd q.2 (by decide)
       simp (maxSteps:=1000000) (disch:=first|assumption|omega|rfl) only [↓gp, gc, Nat.reduceAdd, hPS, h108, hr128, hpr128, lv0, lv1, c1, z6g, jH hdd, sv3m]
       have hK89 : KeepR r S8 (S8.set (S4.length + 11) (.row [zD (moved (getN t x) d) (A x) (B x)] 32)) := KeepR.refl.setO h128 (by decide)
       generalize S8.set (S4.length + 11) (.row [zD (moved (getN t x) d) (A x) (B x)] 32) = S9 at *
       have hr129 := zE h129
       have hra9 := hT9.row
       have hgx : getN (putN (zU t f old) d s x) x = getN t x := by
        rw [zf8 (show Srt (zU t f old) from hG.lj.srt.with).uniq (by rw [(qZ hG.lj.srt.uniq hdf).1]; exact hdd) hxd, vS hG.lj.srt.uniq hdf, if_neg hxf]
       have hA : A8 x = A x ∧ B8 x = B x := ⟨(hA8 x hxd).1.trans (hA7 x hxf).1, (hA8 x hxd).2.trans (hA7 x hxf).2⟩
       have hda := hT9.st.da x trivial
       have hna := hT9.st.na x trivial
       rw [hgx, hA.1] at hda
       rw [hgx, hA.2] at hna
       obtain ⟨o9, hup, hT10, hK10, _⟩ := hT9.renewK (x := x) (n := moved (getN t x) d) (p := A x) (q := B x) (S' := S9) hG.lj.srt.with.with hxi (fun j q hj _ _ => hj) hda hna (fun i hi => .inl (by rw [hA.1]; exact hi)) (fun i hi => .inl (by rw [hA.2]; exact hi))
       have hmi : (moved (getN t x) d).ino = x := hxi
       refine qS (is := [0, 1, 2, 3, 4, 5, 6, 7]) (h := 0) (by kernel_rfl) (by kernel_rfl) ?_
       simp (maxSteps:=1000000) (disch:=first|assumption|omega|rfl) only [List.replicate_zero, eq_self, gd, ga, Nat.reduceAdd, ↓gq, hPS, List.append_nil, qL, qG, jC, vD, wU, hra9, hr129, lv, lv0, hmi, hup, Option.map_some]
       refine ⟨fun _ => by kernel_rfl, ?_⟩
       refine ⟨by kernel_rfl, ?_⟩
       rw [hgx] at hq
       subst hq
       simp (maxSteps:=1000000) (disch:=first|assumption|omega|rfl) only [↓gp, gc, Nat.reduceAdd, hPS]
       exact ⟨rfl, _, rfl, Res.done (v5 := .ts []) (v6 := .ts []) rfl hT10 (hK10 _ _ _ hrr9) vQ (.inl ⟨rfl, rfl⟩) ((((hK06.toR.trans hK7.toR).trans hK8.toR).trans hK89).trans (fun j ys e _ _ h => hK10 _ _ _ h))⟩
      ·rintro v S8 ⟨⟨w, hv⟩, _⟩
       cases hv
     ·rintro v S7 ⟨⟨w, hv⟩, _⟩
      cases hv
   ·rintro v S7 ⟨_, hv⟩
    cases hv
  ·have hne : renamed t f old d s x (-1) (getN t x).kind = putN (zU t f old) d s x := by
    unfold renamed
    simp only [if_neg neg, if_neg c1]
   rw [if_neg (fun hh => c1 hh.1), if_neg (fun hh => neg hh.1), if_neg (fun hh => neg hh.1), hne] at hq
   simp (maxSteps:=1000000) (disch:=first|assumption|omega|rfl) only [↓gp, gc, Nat.reduceAdd, hPS, jJ, h66, h106, hr126, lv0, lv1, hxi, jH hdf, jH hdd]
   refine jK rfl (zrs hMid0 (by omega) hT6) ?_ ?_
   ·rintro v S7 ⟨_, hK7, A7, B7, hT7, hA7⟩
    have h107 := zE (hK7 _ _ _ (by decide) (by decide) (hK46 _ _ h104))
    have h127 := hK7 _ _ _ (by decide) (by decide) h126
    have hr127 := zE h127
    have hrr7 := hK7 _ _ _ (by decide) (by decide) hrr6
    simp (maxSteps:=1000000) (disch:=first|assumption|omega|rfl) only [↓gp, gc, Nat.reduceAdd, hPS, h107, hr127, lv0, hxi, jH hdd]
    refine jK rfl (putE hMid0 (by omega) hT7) ?_ ?_
    ·rintro v S8 ⟨_, hK8, A8, B8, hT8, hA8⟩
     have h128 := hK8 _ _ _ (by decide) (by decide) h127
     have hr128 := zE h128
     have hrr8 := hK8 _ _ _ (by decide) (by decide) hrr7
     subst hq
     simp (maxSteps:=1000000) (disch:=first|assumption|omega|rfl) only [↓gp, gc, Nat.reduceAdd, hPS, hr128, lv1]
     exact ⟨rfl, _, rfl, Res.done (v5 := .ts []) (v6 := .ts []) rfl hT8 hrr8 vQ (.inl ⟨rfl, rfl⟩) ((hK06.toR.trans hK7.toR).trans hK8.toR)⟩
    ·rintro v S8 ⟨⟨w, hv⟩, _⟩
     cases hv
   ·rintro v S7 ⟨⟨w, hv⟩, _⟩
    cases hv
 ·rw [Nat.zero_add] at g1
  have hfd : vX (getN t d) s = (((k : Nat) : Int), true) := by unfold vX; rw [g1]
  have hgy := hG.ti.inv.ge2 d _ (List.getElem_mem hk)
  have h0y : 0 ≤ qQ (getN t d).names s := by rw [g2]; omega
  rw [g2] at hq
  obtain ⟨id7, hix7, hre7, _⟩ := (hT6.st.na d trivial).ix (t := 30) Try.underlying30 (by kernel_rfl) hk
  have h0k : 0 ≤ (getN t d).names[k].ino := by omega
  simp (maxSteps:=1000000) (disch:=first|assumption|omega|rfl) only [↓gp, gc, Nat.reduceAdd, hPS, h106, lv, kM, z0c hT6.st trivial hgd, hfd]
  refine qS (is := [0, 1, 2, 3, 4, 5, 6, 7, 8, 9, 10, 11]) (h := 0) (by kernel_rfl) (by kernel_rfl) ?_
  simp (maxSteps:=1000000) (disch:=first|assumption|omega|rfl) only [List.replicate_zero, eq_self, gd, ga, Nat.reduceAdd, ↓gq, hPS, List.append_nil, h106, hr126, lv0, lv6, hix7, hre7, le1, hxi]
  refine ⟨by kernel_rfl, ?_⟩
  by_cases c0 : (getN t d).names[k].ino = x
  ·rw [if_pos c0] at hq
   subst hq
   simp (maxSteps:=1000000) (disch:=first|assumption|omega|rfl) only [↓gp, gc, Nat.reduceAdd, hPS, c0, z6g]
   exact ⟨rfl, _, rfl, Res.done (v5 := .ts []) (v6 := .ts []) rfl hT6 hrr6 vQ (.inl ⟨rfl, rfl⟩) hK06.toR⟩
  rw [if_neg c0] at hq
  have lose : (getN t (getN t d).names[k].ino).kind ≠ 2 → Mid (k0 + 2) (jN (zU t d s) (getN t d).names[k].ino) f d old s x := fun hy => by
   obtain ⟨e0, he0, hs0, hi0⟩ := hent
   have := znr (k := k0) (f := f) (d := d) (old := old) (s := s) (ino := x) hG.lj hG.ti hG.sm hdf hdd e0 he0 hs0 hi0 (by rw [g2]; exact c0) h0y (by rw [g2]; exact hy)
   rw [g2] at this
   exact this
  generalize hyy : (getN t d).names[k].ino = y at *
  by_cases c1 : (getN t x).kind = 2
  ·have hxf := hne2 c1
   simp (maxSteps:=1000000) (disch:=first|assumption|omega|rfl) only [↓gp, gc, Nat.reduceAdd, hPS, h106, hr126, lv0, lv1, hxi, jH hdd]
   refine jK rfl (zp5 _ a m hT6 hlt d x) ?_ ?_
   ·rintro v S7 ⟨hS, hv⟩
    have hS := hS.symm
    subst hS
    cases hv
    cases hb : wJ t x (t.length + 1) d with
    | true =>
     rw [if_pos ⟨c1, hb⟩] at hq
     subst hq
     have h9 : (9 : Int) ≠ 0 := by omega
     simp (maxSteps:=1000000) (disch:=first|assumption|omega|rfl) only [↓gp, gc, Nat.reduceAdd, hPS, jX h9]
     exact ⟨rfl, Res.fail h9 hK06⟩
    | false =>
     rw [if_neg (fun hh => by rw [hb] at hh; cases hh.2), if_pos ⟨h0k, c1⟩] at hq
     subst hq
     have h5 : (5 : Int) ≠ 0 := by omega
     simp (maxSteps:=1000000) (disch:=first|assumption|omega|rfl) only [↓gp, gc, Nat.reduceAdd, hPS, jJ]
     refine qS (is := [0, 1, 2, 3, 4, 5, 6, 7, 8, 9, 10, 11, 12]) (h := 13) (by kernel_rfl) (by kernel_rfl) ?_
     have hh7 : (S6 ++ List.replicate 13 Ob.hole)[S6.length + 11]? = some .hole := zca (by omega)
     have hK67 : Keep S6 (S6 ++ List.replicate 13 Ob.hole) := Keep.app
     generalize S6 ++ List.replicate 13 Ob.hole = S7 at *
     have hT7 := hT6.keep hK67
     have hra7 := hT7.row
     have hlk7 := fun x => (hT7.st.look x).2
     have hr107 := zE (hK67 _ _ (hK46 _ _ h104))
     obtain ⟨id9, hix9, hre9, _⟩ := (hT7.st.na d trivial).ix (t := 30) Try.underlying30 (by kernel_rfl) hk
     have hset7 := z1d (o := Ob.row [zD zM (.ts []) (.ts [])] 32) hh7
     have hrs7 := zE hset7
     have hps7 := fun y => qD (y := y) hset7
     simp (maxSteps:=1000000) (disch:=first|assumption|omega|rfl) only [List.replicate_zero, eq_self, gd, ga, Nat.reduceAdd, ↓gq, hPS, List.append_nil, qL, qG, z7z, z84 z32v kX, z5h, vD, wU, hra7, hr107, lv6, hix9, hre9, le1, hyy, hlk7, hrs7, hps7, sv]
     refine ⟨hh7, fun _ => by kernel_rfl, ?_⟩
     refine ⟨by kernel_rfl, ?_⟩
     have hK68 : Keep S6 ((S7.set (S6.length + 11) (.row [zD zM (.ts []) (.ts [])] 32)).set (S6.length + 11) (.row [zD (getN t y) (A y) (B y)] 32)) := (hK67.set (by omega)).set (by omega)
     have h158 : ((S7.set (S6.length + 11) (.row [zD zM (.ts []) (.ts [])] 32)).set (S6.length + 11) (.row [zD (getN t y) (A y) (B y)] 32))[S6.length + 11]? = some (.row [zD (getN t y) (A y) (B y)] 32) := z1d hset7
     generalize (S7.set (S6.length + 11) (.row [zD zM (.ts []) (.ts [])] 32)).set (S6.length + 11) (.row [zD (getN t y) (A y) (B y)] 32) = S8 at *
     have hT8 := hT6.keep hK68
     have hr158 := zE h158
     have hr128 := zE (hK68 _ _ h126)
     have hr108 := zE (hK68 _ _ (hK46 _ _ h104))
     have hr68 := zE (hK68 _ _ (hK46 _ _ h64))
     have hrr8 := hK68 _ _ hrr6
     simp (maxSteps:=1000000) (disch:=first|assumption|omega|rfl) only [↓gp, gc, Nat.reduceAdd, hPS, hr128, lv1, jX h5]
     exact ⟨rfl, Res.fail h5 (hK06.trans hK68)⟩
   ·rintro v S7 ⟨_, hv⟩
    cases hv
  ·rw [if_neg (fun hh => c1 hh.1), if_neg (fun hh => c1 hh.2)] at hq
   simp (maxSteps:=1000000) (disch:=first|assumption|omega|rfl) only [↓gp, gc, Nat.reduceAdd, hPS, h106, hr126, lv0, lv1, hxi, jH hdd, jJ]
   refine qS (is := [0, 1, 2, 3, 4, 5, 6, 7, 8, 9, 10, 11, 12]) (h := 13) (by kernel_rfl) (by kernel_rfl) ?_
   have hh7 : (S6 ++ List.replicate 13 Ob.hole)[S6.length + 11]? = some .hole := zca (by omega)
   have hK67 : Keep S6 (S6 ++ List.replicate 13 Ob.hole) := Keep.app
   generalize S6 ++ List.replicate 13 Ob.hole = S7 at *
   have hT7 := hT6.keep hK67
   have hra7 := hT7.row
   have hlk7 := fun x => (hT7.st.look x).2
   have hr107 := zE (hK67 _ _ (hK46 _ _ h104))
   obtain ⟨id9, hix9, hre9, _⟩ := (hT7.st.na d trivial).ix (t := 30) Try.underlying30 (by kernel_rfl) hk
   have hset7 := z1d (o := Ob.row [zD zM (.ts []) (.ts [])] 32) hh7
   have hrs7 := zE hset7
   have hps7 := fun y => qD (y := y) hset7
   simp (maxSteps:=1000000) (disch:=first|assumption|omega|rfl) only [List.replicate_zero, eq_self, gd, ga, Nat.reduceAdd, ↓gq, hPS, List.append_nil, qL, qG, z7z, z84 z32v kX, z5h, vD, wU, hra7, hr107, lv6, hix9, hre9, le1, hyy, hlk7, hrs7, hps7, sv]
   refine ⟨hh7, fun _ => by kernel_rfl, ?_⟩
   refine ⟨by kernel_rfl, ?_⟩
   have hK68 : Keep S6 ((S7.set (S6.length + 11) (.row [zD zM (.ts []) (.ts [])] 32)).set (S6.length + 11) (.row [zD (getN t y) (A y) (B y)] 32)) := (hK67.set (by omega)).set (by omega)
   have h158 : ((S7.set (S6.length + 11) (.row [zD zM (.ts []) (.ts [])] 32)).set (S6.length + 11) (.row [zD (getN t y) (A y) (B y)] 32))[S6.length + 11]? = some (.row [zD (getN t y) (A y) (B y)] 32) := z1d hset7
   generalize (S7.set (S6.length + 11) (.row [zD zM (.ts []) (.ts [])] 32)).set (S6.length + 11) (.row [zD (getN t y) (A y) (B y)] 32) = S8 at *
   have hT8 := hT6.keep hK68
   have hr158 := zE h158
   have hr128 := zE (hK68 _ _ h126)
   have hr108 := zE (hK68 _ _ (hK46 _ _ h104))
   have hr68 := zE (hK68 _ _ (hK46 _ _ h64))
   have hrr8 := hK68 _ _ hrr6
   by_cases c2 : (getN t y).kind = 2
   ·rw [if_pos ⟨h0k, c2⟩] at hq
    subst hq
    have h7 : (7 : Int) ≠ 0 := by omega
    simp (maxSteps:=1000000) (disch:=first|assumption|omega|rfl) only [↓gp, gc, Nat.reduceAdd, hPS, hr128, hr158, lv1, jJ, jX h7]
    exact ⟨rfl, Res.fail h7 (hK06.trans hK68)⟩
   rw [if_neg (fun hh => c2 hh.2)] at hq
   have hM := lose c2
   have hents : ∃ e ∈ (getN t d).names, e.name = s := zgs (i := 0) (by rw [Nat.zero_add]; exact g1) hk
   have hky : (getN t y).kind ≠ 0 := by rw [← hyy]; exact hG.lj.told (List.getElem_mem hk)
   have hdr := zz6 S8 a m hT8 hG.lj.srt k0 hk2 hG.sm d hdd (hG.lj.nod d) s hents false (fun _ => by rw [g2]; exact z0u (by rw [(qZ hG.lj.srt.uniq hdd).1]; exact hky))
   rw [g2] at hdr
   have hne : renamed t f old d s x y (getN t x).kind = putN (zU (jN (zU t d s) y) f old) d s x := by
    unfold renamed
    simp only [if_pos h0k, if_neg c1]
   rw [hne] at hq
   subst hq
   simp (maxSteps:=1000000) (disch:=first|assumption|omega|rfl) only [↓gp, gc, Nat.reduceAdd, hPS, hr128, hr158, hr108, lv0, lv1, jH hdd, jJ]
   refine jK rfl hdr ?_ ?_
   ·rintro v S9 ⟨_, hK9, A9, B9, hT9⟩
    have h69 := hK9 _ _ _ (by decide) (by decide) (hK68 _ _ (hK46 _ _ h64))
    have hr69 := zE h69
    have h109 := hK9 _ _ _ (by decide) (by decide) (hK68 _ _ (hK46 _ _ h104))
    have h129 := hK9 _ _ _ (by decide) (by decide) (hK68 _ _ h126)
    have hrr9 := hK9 _ _ _ (by decide) (by decide) hrr8
    simp (maxSteps:=1000000) (disch:=first|assumption|omega|rfl) only [↓gp, gc, Nat.reduceAdd, hPS, hr69, lv0, jH hdf]
    refine jK rfl (zrs hM (by omega) hT9) ?_ ?_
    ·rintro v S10 ⟨_, hK10, A10, B10, hT10, _⟩
     have h1010 := hK10 _ _ _ (by decide) (by decide) h109
     have h1210 := hK10 _ _ _ (by decide) (by decide) h129
     have hr1010 := zE h1010
     have hr1210 := zE h1210
     have hrr10 := hK10 _ _ _ (by decide) (by decide) hrr9
     simp (maxSteps:=1000000) (disch:=first|assumption|omega|rfl) only [↓gp, gc, Nat.reduceAdd, hPS, hr1010, hr1210, lv0, hxi, jH hdd]
     refine jK rfl (putE hM (by omega) hT10) ?_ ?_
     ·rintro v S11 ⟨_, hK11, A11, B11, hT11, _⟩
      have hr1211 := zE (hK11 _ _ _ (by decide) (by decide) h1210)
      have hrr11 := hK11 _ _ _ (by decide) (by decide) hrr10
      simp (maxSteps:=1000000) (disch:=first|assumption|omega|rfl) only [↓gp, gc, Nat.reduceAdd, hPS, hr1211, lv1]
      exact ⟨rfl, _, rfl, Res.done (v5 := .ts []) (v6 := .ts []) rfl hT11 hrr11 vQ (.inl ⟨rfl, rfl⟩) ((((hK06.trans hK68).toR.trans hK9.toR).trans hK10.toR).trans hK11.toR)⟩
     ·rintro v S11 ⟨⟨w, hv⟩, _⟩
      cases hv
    ·rintro v S10 ⟨⟨w, hv⟩, _⟩
     cases hv
   ·rintro v S9 ⟨⟨w, hv⟩, _⟩
    cases hv
theorem sz5 : (sz Try.prog 5).isSome = true := by kernel_rfl
theorem zok5 : zOk Try.prog 5 = true := by kernel_rfl
theorem zlc {n : Nat} (h : n ≤ 1000000) : room Try.prog 5 n = true := z38 (P := Try.prog) (e := 5) rfl (by decide) h
theorem q12 {S : zA} : bs1 Try.prog S 29 (.d (.int .u8 0)) = some (.val (.ts [.int .u8 0]) S 0) := by kernel_rfl
theorem sv5 {n : Node} {a b v : V} (h1 : qI Try.prog 29 v = true) (h2 : v.cells = [v]) : qW Try.prog 29 5 v (zD n a b) = some (zD n v b) := zsh h1 h2
theorem sv4m {n : Node} {a b : V} {y : Int} : qW Try.prog 3 4 (.d (.int .i64 y)) (zD n a b) = some (zD { n with size := y } a b) := by kernel_rfl
theorem zva {S : zA} {v : V} {l : List UInt8} (h : SlE encU S v 5 l) : qI Try.prog 29 v = true := by
 rcases h with ⟨rfl, _⟩ | ⟨id, ys, rfl, _⟩ <;> kernel_rfl
theorem zz4 {S : zA} {v : V} {l : List UInt8} (h : SlE encU S v 5 l) (hl : l.length < 900000) : ∃ v' S' c, qF Try.prog S 29 29 v (.ts [.int .u8 0]) = some (v', S', c) ∧ SlE encU S' v' 5 (l ++ [0]) ∧ (∀ (j : Nat) (o : Ob), S[j]? = some o → idOf v ≠ some j → S'[j]? = some o) ∧ idOf v' = some S.length ∧ S.length ≤ S'.length := by
 have src1 : srcV Try.prog S 5 29 (.ts [.int .u8 0]) = some [.d (.int .u8 0)] := by kernel_rfl
 rcases h with ⟨rfl, rfl⟩ | ⟨id, ys, rfl, h1⟩
 ·refine ⟨.rs S.length 0 1, S ++ [.row [.d (.int .u8 0)] 5], 2, ?_, .inr ⟨S.length, [], rfl, by simp⟩, fun j o hj _ => Keep.app _ _ hj, rfl, by simp⟩
  have hr := zlc (n := 0 + (0 + 1)) (by omega)
  simp only [qF, Try.underlying29, src1, zok5, if_true, List.all_nil, List.length_nil, hr, Bool.and_self, List.map_nil, List.nil_append]
 ·have hid := qN h1
  have htk : ((l ++ ys).map fun a => V.d (encU a)).take l.length = l.map fun a => V.d (encU a) := by rw [← List.map_take, List.take_append_of_le_length (Nat.le_refl _), List.take_length]
  refine ⟨.rs S.length 0 (l.length + 1), S.set id .dead ++ [.row (l.map (fun a => V.d (encU a)) ++ [.d (.int .u8 0)]) 5], 3, ?_, .inr ⟨S.length, [], by simp, ?_⟩, ?_, rfl, by simp⟩
  ·have hr := zlc (n := l.length + (0 + 1)) (by omega)
   have hlen : ((l ++ ys).map fun a => V.d (encU a)).length = l.length + ys.length := by simp
   have h2 : l.length ≤ l.length + ys.length := by omega
   simp only [qF, Try.underlying29, src1, zok5, if_true, h1, hlen, hr, h2, htk, List.length_nil, decide_true, Bool.and_self, Nat.zero_add]
  ·rw [List.getElem?_append_right (by simp)]
   simp
  ·intro j o hj hn
   have hjl := qN hj
   rw [List.getElem?_append_left (by simpa using hjl), List.getElem?_set_ne]
   ·exact hj
   ·rintro rfl; exact hn rfl
theorem zlv {S : zA} {v : V} {l : List UInt8} {k : Nat} (h : SlE encU S v 5 l) (hk : k ≤ l.length) : ∃ va, jL Try.prog S 29 v none (some (.d (.int .i64 k))) = some va ∧ SlE encU S va 5 (l.take k) ∧ (∀ i, idOf va = some i → idOf v = some i) := by
 rcases h with ⟨rfl, rfl⟩ | ⟨id, ys, rfl, h1⟩
 ·have : k = 0 := by simpa using hk
  subst this
  refine ⟨.ts [], ?_, .inl ⟨rfl, rfl⟩, fun i hi => hi⟩
  have h1 := bnd (y := ([] : List D).length) (d := ([] : List D).length) (k := 0) (by simp)
  simp only [jL, Try.underlying29, h1, z1f, List.all_nil, sz5, Bool.and_self, if_true]
  rfl
 ·refine ⟨.rs id 0 k, ?_, .inr ⟨id, l.drop k ++ ys, by rw [List.length_take, Nat.min_eq_left hk], by rw [← List.append_assoc, List.take_append_drop]; exact h1⟩, fun i hi => hi⟩
  have h3 : rowT S id 5 = true := by simp only [rowT, h1, beq_self_eq_true]
  simp only [jL, Try.underlying29, bnd hk, z1f, h3, sz5, Bool.and_self, if_true, Nat.zero_add, Nat.sub_zero]
def sizedB (l : List UInt8) (k : Nat) : List UInt8 := (l ++ List.replicate (k - l.length) 0).take k
theorem z4d {l : List UInt8} {k : Nat} : (sizedB l k).length = k := by
 unfold sizedB
 rw [List.length_take, List.length_append, List.length_replicate]
 omega
theorem zrg (S0 : zA) (n : Node) (va vb x0 x3 : V) (size : Nat) (hsz : size ≤ 34304) (i2 i4 : Nat) (h24 : i2 ≠ i4) (hi2 : S0.length ≤ i2) (hi4 : S0.length ≤ i4) (z : V) (R : Post) : ∀ (k : Nat) (l : List UInt8) (S : zA) (v : V) (g5 g6 g7 g8 g9 gI gJ gF gA gB gG gH gC gD gE gK gL gO : V), size - l.length = k → l.length ≤ 40000 → SlE encU S v 5 l → S[i2]? = some (.row [zD n v vb] 32) → S[i4]? = some (.row [z] 32) → (∀ (j : Nat) (o : Ob), S0[j]? = some o → idOf va ≠ some j → S[j]? = some o) → (∀ i, idOf v = some i → idOf va = some i ∨ S0.length ≤ i) → S0.length ≤ S.length →
 (∀ S v g5 g6 g7 g8 g9 gI gJ gF gA gB gG gH gC gD gE gK gL gO, SlE encU S v 5 (l ++ List.replicate (size - l.length) 0) → S[i2]? = some (.row [zD n v vb] 32) → S[i4]? = some (.row [z] 32) → (∀ (j : Nat) (o : Ob), S0[j]? = some o → idOf va ≠ some j → S[j]? = some o) → (∀ i, idOf v = some i → idOf va = some i ∨ S0.length ≤ i) → S0.length ≤ S.length → R (.exit 0) (x0 :: (.d (.int .i64 size)) :: (.ref i2 0 0) :: x3 :: (.ref i4 0 0) :: g5 :: g6 :: g7 :: g8 :: g9 :: gI :: gJ :: gF :: gA :: gB :: gG :: gH :: gC :: gD :: gE :: gK :: gL :: gO :: []) S []) →
 Wp cfgS (.loop (lpOf (Try.f110.body.getD .skip) 0)) (x0 :: (.d (.int .i64 size)) :: (.ref i2 0 0) :: x3 :: (.ref i4 0 0) :: g5 :: g6 :: g7 :: g8 :: g9 :: gI :: gJ :: gF :: gA :: gB :: gG :: gH :: gC :: gD :: gE :: gK :: gL :: gO :: []) S [] R := by
 intro k
 induction k with
 | zero =>
  intro l S v g5 g6 g7 g8 g9 gI gJ gF gA gB gG gH gC gD gE gK gL gO hk hl hv h2 h4 hf hi hS hR
  have hr2 := zE h2
  have hlen := hv.len (t := 29) Try.underlying29
  have hge : ¬ (l.length : Int) < (size : Int) := by omega
  rw [qK]
  refine zS ?_
  conv => arg 2; whnf
  simp (maxSteps:=1000000) (disch:=first|assumption|omega|rfl) only [↓gp, gc, Nat.reduceAdd, hPS, hr2, lv5, hlen]
  exact hR S v _ _ _ _ _ _ _ _ _ _ _ _ _ _ _ _ _ _ (by rw [hk, List.replicate_zero, List.append_nil]; exact hv) h2 h4 hf hi hS
 | succ k ih =>
  intro l S v g5 g6 g7 g8 g9 gI gJ gF gA gB gG gH gC gD gE gK gL gO hk hl hv h2 h4 hf hi hS hR
  have hr2 := zE h2
  have hlen := hv.len (t := 29) Try.underlying29
  have hge : (l.length : Int) < (size : Int) := by omega
  obtain ⟨v', S', c, happ, hv', hf', hid, hSl⟩ := zz4 hv (by omega)
  have notv : ∀ (j : Nat) (ys : List V), S[j]? = some (.row ys 32) → idOf v ≠ some j := fun j ys hj hh => by
   obtain ⟨zs, q⟩ := hv.row hh
   rw [hj] at q; cases q
  have h2' := hf' _ _ h2 (notv _ _ h2)
  have h4' := hf' _ _ h4 (notv _ _ h4)
  have hr2' := zE h2'
  have hpr2 := fun y => qD (y := y) h2'
  have hst := sv5 (n := n) (a := v) (b := vb) (zva hv') hv'.cells
  have hlt2 := qN h2
  rw [qK]
  refine zS ?_
  conv => arg 2; whnf
  simp (maxSteps:=1000000) (disch:=first|assumption|omega|rfl) only [↓gp, gc, Nat.reduceAdd, hPS, hr2, lv5, hlen, q12, happ, hr2', hst, hpr2]
  refine ih (l ++ [0]) _ v' _ _ _ _ _ _ _ _ _ _ _ _ _ _ _ _ _ _ (by rw [List.length_append]; simp; omega) (by rw [List.length_append]; simp; omega) ?_ (jR h2') (by rw [List.getElem?_set_ne h24]; exact h4') ?_ (fun i hi => by rw [hid] at hi; cases hi; exact .inr hS) (by rw [List.length_set]; omega) ?_
  ·refine hv'.frame2 fun j o hj hi => ?_
   rw [hid] at hi
   cases hi
   rw [List.getElem?_set_ne (by omega)]
   exact hj
  ·intro j o hj hn
   have hjl := qN hj
   have h1 := hf j o hj hn
   rw [List.getElem?_set_ne (by omega)]
   refine hf' j o h1 fun hh => ?_
   rcases hi _ hh with h3 | h3
   ·exact hn h3
   ·omega
  ·intro S v g5 g6 g7 g8 g9 gI gJ gF gA gB gG gH gC gD gE gK gL gO h1
   refine hR S v _ _ _ _ _ _ _ _ _ _ _ _ _ _ _ _ _ _ ?_
   have e : l ++ [0] ++ List.replicate (size - (l ++ [0]).length) (0 : UInt8) = l ++ List.replicate (size - l.length) 0 := by
    rw [List.length_append, List.length_singleton, hk, show size - (l.length + 1) = k by omega, List.append_assoc]
    rfl
   rw [← e]; exact h1
theorem zq3 (S0 : zA) (n : Node) (va vb : V) (hda : SlE encU S0 va 5 n.data) (hnb : SlE zI S0 vb 88 n.names) (hnl : n.data.length ≤ 34304) (size : Nat) (hsz : size ≤ 34304) :
  EvS cfgS 110 [zD n va vb, .d (.int .i64 size)] S0 fun o S => ∃ v', o = .ret (zD { n with size := size } v' vb) ∧ SlE encU S v' 5 (sizedB n.data size) ∧ (∀ (j : Nat) (q : Ob), S0[j]? = some q → idOf va ≠ some j → S[j]? = some q) ∧ (∀ i, idOf v' = some i → idOf va = some i ∨ S0.length ≤ i) ∧ S0.length ≤ S.length := by
 refine vE rfl zqp ?_
 show Wp cfgS (Try.f110.body.getD .skip) ((zD n va vb) :: (.d (.int .i64 size)) :: uZ (uZ ((.tup []) :: []))) S0 [] _
 unfold uZ
 conv => arg 2; whnf
 rw [qK]
 have hfN : qI Try.prog 32 (zD n va vb) = true := by
  rcases hda with ⟨rfl, _⟩ | ⟨id, ys, rfl, _⟩ <;> rcases hnb with ⟨rfl, _⟩ | ⟨id', ys', rfl, _⟩ <;> kernel_rfl
 simp (maxSteps:=1000000) (disch:=first|assumption|omega|rfl) only [↓gp, gc, Nat.reduceAdd, hPS, zagg, z32v, kX, hfN]
 have hl2 : (S0 ++ [Ob.row [zD n va vb] 32] ++ [Ob.row [zD zM (.ts []) (.ts [])] 32])[S0.length]? = some (.row [zD n va vb] 32) := qO qY
 have hl4 : (S0 ++ [Ob.row [zD n va vb] 32] ++ [Ob.row [zD zM (.ts []) (.ts [])] 32])[(S0 ++ [Ob.row [zD n va vb] 32]).length]? = some (.row [zD zM (.ts []) (.ts [])] 32) := qY
 have hK : Keep S0 (S0 ++ [Ob.row [zD n va vb] 32] ++ [Ob.row [zD zM (.ts []) (.ts [])] 32]) := Keep.app.trans Keep.app
 refine zrg S0 n va vb _ _ size hsz S0.length (S0 ++ [Ob.row [zD n va vb] 32]).length (by simp) (by omega) (by simp) _ _ (size - n.data.length) n.data _ va _ _ _ _ _ _ _ _ _ _ _ _ _ _ _ _ _ _ rfl (by omega) (hda.keep hK) hl2 hl4 (fun j q hj _ => hK j q hj) (fun i hi => .inl hi) hK.len ?_
 intro S v g5 g6 g7 g8 g9 gI gJ gF gA gB gG gH gC gD gE gK gL gO hv h2 h4 hf hi hS
 have hlen : (n.data ++ List.replicate (size - n.data.length) (0 : UInt8)).length = n.data.length + (size - n.data.length) := by rw [List.length_append, List.length_replicate]
 obtain ⟨v', e1, hv', hid⟩ := zlv (k := size) hv (by omega)
 have hv' : SlE encU S v' 5 (sizedB n.data size) := hv'
 have hr2 := zE h2
 have hpr2 := fun y => qD (y := y) h2
 have hst := sv5 (n := n) (a := v) (b := vb) (zva hv') hv'.cells
 have hrr : ∀ y, rowE (S.set S0.length (.row [y] 32)) S0.length 0 = some y := fun y => zE (jR h2)
 have hpp : ∀ y z, z1o (S.set S0.length (.row [y] 32)) S0.length 0 z = some ((S.set S0.length (.row [y] 32)).set S0.length (.row [z] 32)) := fun y z => qD (jR h2)
 have hlt4 : (S0 ++ [Ob.row [zD n va vb] 32]).length = S0.length + 1 := by simp
 generalize (S0 ++ [Ob.row [zD n va vb] 32]).length = i4 at *
 subst hlt4
 have h44 : ∀ y z, ((S.set S0.length (.row [y] 32)).set S0.length (.row [z] 32))[S0.length + 1]? = some (.row [zD zM (.ts []) (.ts [])] 32) := fun y z => by
  rw [List.getElem?_set_ne (by omega), List.getElem?_set_ne (by omega)]; exact h4
 have hr44 := fun y z => zE (h44 y z)
 have hp44 := fun y z w => qD (y := w) (h44 y z)
 have hrr2 : ∀ y z, rowE ((S.set S0.length (.row [y] 32)).set S0.length (.row [z] 32)) S0.length 0 = some z := fun y z => zE (jR (jR h2))
 simp (maxSteps:=1000000) (disch:=first|assumption|omega|rfl) only [↓gp, gc, Nat.reduceAdd, hPS, hr2, lv5, e1, hst, hpr2, hrr, hpp, sv4m, hrr2, lv, sv, hr44, hp44]
 have hne : ∀ (j : Nat) (q : Ob), S[j]? = some q → j ≠ S0.length → j ≠ S0.length + 1 → (((S.set S0.length (.row [zD n v' vb] 32)).set S0.length (.row [zD { n with size := size } v' vb] 32)).set (S0.length + 1) (.row [zD { n with size := size } v' vb] 32))[j]? = some q := fun j q hj n1 n2 => by
  rw [List.getElem?_set_ne (Ne.symm n2), List.getElem?_set_ne (Ne.symm n1), List.getElem?_set_ne (Ne.symm n1)]; exact hj
 refine ⟨rfl, _, z5t (jR (h44 _ _)), v', rfl, ?_, ?_, ?_, ?_⟩
 ·refine hv'.frame2 fun j o hj hh => hne j o hj ?_ ?_
  ·rintro rfl
   obtain ⟨zs, q⟩ := hv'.row hh
   rw [h2] at q; cases q
  ·rintro rfl
   obtain ⟨zs, q⟩ := hv'.row hh
   rw [h4] at q; cases q
 ·intro j q hj hn
  have := qN hj
  exact hne j q (hf j q hj hn) (by omega) (by omega)
 ·intro i hh
  exact hi i (hid i hh)
 ·simp only [List.length_set]; exact hS
theorem zbh {a : Int} {d : List UInt8} : ∀ {l : List UInt8} {i j : Nat}, (layA a d i l)[j]? = l[j]?.map fun x => if 0 ≤ a ∧ a ≤ ((i + j : Nat) : Int) ∧ ((i + j : Nat) : Int) - a < d.length then d.getD (((i + j : Nat) : Int) - a).toNat 0 else x
 | [], i, j => by simp [layA]
 | x :: r, i, 0 => by simp [layA]
 | x :: r, i, j + 1 => by
  have ih := zbh (a := a) (d := d) (l := r) (i := i + 1) (j := j)
  have e : i + 1 + j = i + (j + 1) := by omega
  rw [e] at ih
  simpa [layA] using ih
theorem zcu (l : List UInt8) (k : Nat) : layN (List.replicate k 0) 0 l = sizedB l k := by
 refine List.ext_getElem? fun j => ?_
 unfold layN sizedB
 rw [zbh, Nat.zero_add, List.getElem?_replicate, List.getElem?_take]
 by_cases hj : j < k
 ·rw [if_pos hj, if_pos hj, Option.map_some]
  by_cases hl : j < l.length
  ·rw [if_pos (by omega), List.getElem?_append_left hl, List.getElem?_eq_getElem hl]
   have : ((j : Int) - 0).toNat = j := by omega
   rw [this, List.getD_eq_getElem?_getD, List.getElem?_eq_getElem hl]
   rfl
  ·rw [if_neg (by omega), List.getElem?_append_right (by omega), List.getElem?_replicate, if_pos (by omega)]
 ·rw [if_neg hj, if_neg hj]
  rfl
theorem zzd (l d : List UInt8) (off : Nat) (h : off + d.length ≤ l.length) : layN l off d = l.take off ++ d ++ l.drop (off + d.length) := by
 refine List.ext_getElem? fun j => ?_
 unfold layN
 rw [zbh, Nat.zero_add]
 by_cases h1 : j < off
 ·rw [List.append_assoc, List.getElem?_append_left (by rw [List.length_take]; omega), List.getElem?_take, if_pos h1, List.getElem?_eq_getElem (by omega), Option.map_some, if_neg (by omega)]
 ·by_cases h2 : j < off + d.length
  ·rw [List.append_assoc, List.getElem?_append_right (by rw [List.length_take]; omega), List.length_take, Nat.min_eq_left (by omega), List.getElem?_append_left (by omega), List.getElem?_eq_getElem (show j < l.length by omega), Option.map_some, if_pos (by omega)]
   have : ((j : Int) - off).toNat = j - off := by omega
   rw [this, List.getD_eq_getElem?_getD, List.getElem?_eq_getElem (show j - off < d.length by omega)]
   rfl
  ·rw [List.getElem?_append_right (by rw [List.length_append, List.length_take]; omega), List.length_append, List.length_take, Nat.min_eq_left (by omega), List.getElem?_drop]
   rw [show off + d.length + (j - (off + d.length)) = j by omega]
   cases hlj : l[j]? with
   | none => rfl
   | some x => rw [Option.map_some, if_neg (by omega)]
theorem zv2 {P : Program} {S : zA} {ts : List TypeId} {x y : Int} : qB P S .max ts [.d (.int .i64 x), .d (.int .i64 y)] = some (.val (.d (.int .i64 (if y > x then y else x))) S 0) := by
 cases ts <;> simp [qB, zcn, znb]
theorem zwx {P : Program} {S : zA} {ts : List TypeId} {x y : Int} : qB P S .min ts [.d (.int .i64 x), .d (.int .i64 y)] = some (.val (.d (.int .i64 (if y < x then y else x))) S 0) := by
 cases ts <;> simp [qB, zcn, zo1]
theorem zfq {P : Program} {S : zA} {t tx : TypeId} {d x : V} : qB P S .copy [t, tx] [d, x] = (copyV P S t tx d x).map fun r => .val r.1 r.2 3 := rfl
theorem zrw {S : zA} {l : List UInt8} : srcV Try.prog S 5 29 (.d (encB l)) = some (l.map fun b => .d (encU b)) := by
 have hf : (l.map fun b => V.d (encU b)).all (qI Try.prog 5) = true := by
  rw [List.all_eq_true]
  intro x hx
  obtain ⟨b, _, rfl⟩ := List.mem_map.1 hx
  kernel_rfl
 have he : vH S (.d (encB l)) = some (l.map fun b => V.d (encU b)) := by
  simp only [encB, vH, List.map_map, Function.comp_def]
 unfold encB at he ⊢
 simp only [srcV, Try.underlying29]
 rw [he]
 simp only [hf, sz5, Bool.and_self, if_true]
theorem z5p {k : Nat} {t : List Node} {x : Int} (hS : Small k t) : (getN t x).size = (getN t x).data.length ∧ (getN t x).data.length ≤ 34304 := by
 rcases jM t x with ⟨h1, _⟩ | ⟨h1, _⟩
 ·rw [h1]; exact ⟨rfl, Nat.zero_le _⟩
 ·have := hS.siz _ h1
  omega
theorem av5 {x : Ans} {v5 v6 v : V} (h1 : qI Try.prog 29 v = true) (h2 : v.cells = [v]) : qW Try.prog 29 5 v (ansV x v5 v6) = some (ansV x v v6) := zqr h1 h2
theorem zt2 {P : Program} {S : zA} {ts : List TypeId} {x y w : Int} (h : (if y < x then y else x) = w) : qB P S .min ts [.d (.int .i64 x), .d (.int .i64 y)] = some (.val (.d (.int .i64 w)) S 0) := by rw [zwx, h]
theorem zsr {P : Program} {S : zA} {ts : List TypeId} {x y w : Int} (h : (if y > x then y else x) = w) : qB P S .max ts [.d (.int .i64 x), .d (.int .i64 y)] = some (.val (.d (.int .i64 w)) S 0) := by rw [zv2, h]
theorem zjd {S : zA} {v : V} {l : List UInt8} {p w : Nat} (h : SlE encU S v 5 l) (h0 : p < l.length) (hk : p + w ≤ l.length) : ∃ id ys, v = .rs id 0 l.length ∧ S[id]? = some (.row ((l ++ ys).map fun a => .d (encU a)) 5) ∧ jL Try.prog S 29 v (some (.d (.int .i64 p))) (some (.d (.int .i64 ((p : Int) + (w : Int))))) = some (.rs id p w) := by
 rcases h with ⟨rfl, rfl⟩ | ⟨id, ys, rfl, h1⟩
 ·simp at h0
 ·refine ⟨id, ys, rfl, h1, ?_⟩
  have h3 : rowT S id 5 = true := by simp only [rowT, h1, beq_self_eq_true]
  have e : (p : Int) + (w : Int) = ((p + w : Nat) : Int) := by omega
  rw [e]
  have hb := bnd (y := p + w) (d := 0) (k := p) (by omega)
  simp only [jL, Try.underlying29, bnd hk, hb, h3, sz5, Bool.and_self, if_true, Nat.zero_add, Nat.add_sub_cancel_left]
theorem zm7 {S : zA} {l ys : List UInt8} {id p w : Nat} (h : S[id]? = some (.row ((l ++ ys).map fun a => .d (encU a)) 5)) (hk : p + w ≤ l.length) : srcV Try.prog S 5 29 (.rs id p w) = some (((l.drop p).take w).map fun a => .d (encU a)) := by
 have hf : (((l.drop p).take w).map fun b => V.d (encU b)).all (qI Try.prog 5) = true := by
  rw [List.all_eq_true]
  intro x hx
  obtain ⟨b, _, rfl⟩ := List.mem_map.1 hx
  kernel_rfl
 have hl : ((l ++ ys).map fun a => V.d (encU a)).length = l.length + ys.length := by simp
 have hx : ((((l ++ ys).map fun a => V.d (encU a)).drop p).take w) = ((l.drop p).take w).map fun b => V.d (encU b) := by
  rw [← List.map_drop, ← List.map_take, List.drop_append_of_le_length (by omega), List.take_append_of_le_length (by rw [List.length_drop]; omega)]
 have hle : p + w ≤ l.length + ys.length := by omega
 simp only [srcV, Try.underlying29, vH, h, hl, hle, if_true, hx, hf, sz5, Bool.and_self]
theorem q1n (S0 : zA) (a m r : Nat) (A B : Int → V) (t : List Node) (hT0 : Tree S0 a m A B t) (k0 : Nat) (hk0 : k0 < 200000) (hG : Good k0 t) (o : Opn) (hdo : o.does = 8) (hl : o.a.length < 900000) (hr : S0[r]? = some (.row [ansV okN (.ts []) (.ts [])] 44)) :
  EvS cfgS 81 [.ref a 0 0, .d (encOpn o), .ref r 0 0] S0 (Res S0 a m r (wC t o)) := by
 have hk1 : k0 < 300000 := by omega
 refine vE rfl zxx ?_
 show Wp cfgS (Try.f81.body.getD .skip) ((.ref a 0 0) :: (.d (encOpn o)) :: (.ref r 0 0) :: uZ (uZ (uZ (uZ ((.tup []) :: (.tup []) :: (.tup []) :: []))))) S0 [] _
 unfold uZ
 conv => arg 2; whnf
 rw [qK]
 have hT1 := hT0.keep (Keep.app (l := [Ob.row [.d (encOpn o)] 48]))
 simp (maxSteps:=1000000) (disch:=first|assumption|omega|rfl) only [↓gp, gc, Nat.reduceAdd, hPS, zR]
 generalize hq : wC t o = q
 unfold wC z47 at hq
 refine zc0 hT1 hG.told hk1 hG.sm hl ?_ ?_
 ·intro h0 h2 S1 hK1
  rw [if_neg (by simp [h0]), if_neg h2, if_neg (by omega), if_pos hdo] at hq
  have hsz := (z5p (x := (zH t o.a).1) hG.sm).2
  generalize (zH t o.a).1 = x at *
  have hK01 := Keep.app.trans hK1
  have h4 := hK1 _ _ (qY (S := S0) (o := Ob.row [.d (encOpn o)] 48))
  have hr4 : ∀ l, rowE (S1 ++ l) S0.length 0 = some (.d (encOpn o)) := fun l => zE (qO h4)
  have hT2 := hT0.keep (hK01.trans (Keep.app (l := [Ob.row [zD (getN t x) (A x) (B x)] 32])))
  have h6 := qY (S := S1) (o := Ob.row [zD (getN t x) (A x) (B x)] 32)
  have hrr := (hK01.trans (Keep.app (l := [Ob.row [zD (getN t x) (A x) (B x)] 32]))) _ _ hr
  by_cases c1 : o.off < 0
  ·rw [if_pos c1] at hq
   subst hq
   have h1 : (1 : Int) ≠ 0 := by omega
   simp (maxSteps:=1000000) (disch:=first|assumption|omega|rfl) only [↓gp, gc, Nat.reduceAdd, hPS, zagg, z32v, kX, kM, svz, sv, lv, zR, zN, hr4, jX h1]
   exact ⟨rfl, Res.fail h1 (hK01.trans Keep.app)⟩
  rw [if_neg c1] at hq
  by_cases c2 : o.n < 0
  ·rw [if_pos c2] at hq
   subst hq
   have h1 : (1 : Int) ≠ 0 := by omega
   simp (maxSteps:=1000000) (disch:=first|assumption|omega|rfl) only [↓gp, gc, Nat.reduceAdd, hPS, zagg, z32v, kX, kM, svz, sv, lv, zR, zN, hr4, jX h1]
   exact ⟨rfl, Res.fail h1 (hK01.trans Keep.app)⟩
  rw [if_neg c2] at hq
  have hlen := (hT2.st.da x trivial).len (t := 29) Try.underlying29
  by_cases c3 : o.off < ((getN t x).data.length : Int)
  ·obtain ⟨p, hp⟩ : ∃ p : Nat, o.off = p := ⟨o.off.toNat, by omega⟩
   obtain ⟨w, hw⟩ : ∃ w : Nat, (if ((getN t x).data.length : Int) - (p : Int) < o.n then ((getN t x).data.length : Int) - (p : Int) else o.n) = w := by
    refine ⟨(if ((getN t x).data.length : Int) - (p : Int) < o.n then ((getN t x).data.length : Int) - (p : Int) else o.n).toNat, ?_⟩
    split <;> omega
   have hwl : p + w ≤ (getN t x).data.length := by
    split at hw <;> omega
   have hpd : z7u (getN t x).data o.off o.n = ((getN t x).data.drop p).take w := by
    unfold z7u
    rw [hp]
    by_cases hw0 : w = 0
    ·rw [if_pos (by split at hw <;> omega), hw0, List.take_zero]
    ·rw [if_neg (by split at hw <;> omega)]
     have e1 : ((p : Int)).toNat = p := by omega
     have e2 : (if ((getN t x).data.length : Int) - (p : Int) < o.n then ((getN t x).data.length : Int) else (p : Int) + o.n).toNat = p + w := by
      split at hw <;> rename_i hh
      ·rw [if_pos hh]; omega
      ·rw [if_neg hh]; omega
     rw [e1, e2, List.drop_take, Nat.add_sub_cancel_left]
   obtain ⟨id, ys, hA, hrow, hsl⟩ := zjd (p := p) (w := w) (hT2.st.da x trivial) (by omega) hwl
   have hsrc := zm7 (l := (getN t x).data) (ys := ys) hrow hwl
   have hrv : rowE (S1 ++ [Ob.row [zD (getN t x) (A x) (B x)] 32]) r 0 = some (ansV okN (.ts []) (.ts [])) := zE hrr
   have hpr := fun y => qD (y := y) hrr
   have hst := av5 (x := okN) (v5 := .ts []) (v6 := .ts []) (v := .rs id p w) (by kernel_rfl) rfl
   have hT3 := hT2.other (o := .row [ansV okN (.rs id p w) (.ts [])] 44) hrr (by decide) (by decide) (by decide)
   have c3' : (p : Int) < ((getN t x).data.length : Int) := by omega
   simp (maxSteps:=1000000) (disch:=first|assumption|omega|rfl) only [↓gp, gc, Nat.reduceAdd, hPS, zagg, z32v, kX, kM, svz, sv, lv, zR, zN, hr4, jJ, lv5, hlen, hp, zt2 hw, hsl, qG, hrv, hst, hpr]
   subst hq
   rw [hpd]
   refine ⟨rfl, _, rfl, Res.done (v5 := .rs id p w) (v6 := .ts []) rfl hT3 (jR hrr) ?_ (.inl ⟨rfl, rfl⟩) ((hK01.trans Keep.app).toR.setR)⟩
   refine zm7 (l := (getN t x).data) (ys := ys) ?_ hwl
   rw [List.getElem?_set_ne]
   ·exact hrow
   ·rintro rfl
    have q := hrow.symm.trans hrr
    simp only [Option.some.injEq, Ob.row.injEq] at q
    exact absurd q.2 (by decide)
  ·simp (maxSteps:=1000000) (disch:=first|assumption|omega|rfl) only [↓gp, gc, Nat.reduceAdd, hPS, zagg, z32v, kX, kM, svz, sv, lv, zR, zN, hr4, jJ, lv5, hlen]
   have e : z7u (getN t x).data o.off o.n = [] := by unfold z7u; rw [if_pos (by omega)]
   subst hq
   rw [e]
   exact ⟨rfl, _, rfl, Res.done (v5 := .ts []) (v6 := .ts []) rfl hT2 hrr vQ (.inl ⟨rfl, rfl⟩) (hK01.trans Keep.app).toR⟩
 ·rintro e (⟨h0, rfl⟩ | ⟨h0, h2, rfl⟩) S1 hK1
  ·rw [if_pos h0] at hq
   subst hq
   exact ⟨rfl, Res.fail h0 (Keep.app.trans hK1)⟩
  ·rw [if_neg (by simp [h0]), if_pos h2] at hq
   subst hq
   exact ⟨rfl, Res.fail (by omega) (Keep.app.trans hK1)⟩
theorem zsj {S : zA} {id k off : Nat} {l ys data : List UInt8} (h : S[id]? = some (.row ((l ++ ys).map fun a => .d (encU a)) 5)) (hk : l.length = k) (ho : off + data.length ≤ k) :
  copyV Try.prog S 29 29 (.rs id off (k - off)) (.d (encB data)) = some (.d (.int .i64 data.length), S.set id (.row (((l.take off ++ data ++ l.drop (off + data.length)) ++ ys).map fun a => .d (encU a)) 5)) := by
 have hl : ((l ++ ys).map fun a => V.d (encU a)).length = l.length + ys.length := by simp
 have hm : min (data.map fun b => V.d (encU b)).length (k - off) = data.length := by rw [List.length_map]; omega
 have hle : off + (k - off) ≤ l.length + ys.length := by omega
 have htk : (data.map fun b => V.d (encU b)).take data.length = data.map fun b => V.d (encU b) := List.take_of_length_le (by simp)
 have e1 : ((l ++ ys).map fun a => V.d (encU a)).take off = (l.take off).map fun a => V.d (encU a) := by rw [← List.map_take, List.take_append_of_le_length (by omega)]
 have e2 : ((l ++ ys).map fun a => V.d (encU a)).drop (off + data.length) = (l.drop (off + data.length) ++ ys).map fun a => V.d (encU a) := by rw [← List.map_drop, List.drop_append_of_le_length (by omega)]
 simp only [copyV, Try.underlying29, zrw, h, hm, hl, hle, decide_true, Bool.and_self, if_true, htk, e1, e2, ← List.map_append, List.append_assoc]
theorem zjw {S : zA} {v : V} {l : List UInt8} {p : Nat} (h : SlE encU S v 5 l) (h0 : p < l.length) : ∃ id ys, v = .rs id 0 l.length ∧ S[id]? = some (.row ((l ++ ys).map fun a => .d (encU a)) 5) ∧ jL Try.prog S 29 v (some (.d (.int .i64 (p : Int)))) none = some (.rs id p (l.length - p)) := by
 rcases h with ⟨rfl, rfl⟩ | ⟨id, ys, rfl, h1⟩
 ·simp at h0
 ·refine ⟨id, ys, rfl, h1, ?_⟩
  have h3 : rowT S id 5 = true := by simp only [rowT, h1, beq_self_eq_true]
  have hb := bnd (y := l.length) (d := 0) (k := p) (by omega)
  simp only [jL, Try.underlying29, hb, z1f, h3, sz5, Bool.and_self, if_true, Nat.zero_add]
theorem zu8 (S0 : zA) (a m r : Nat) (A B : Int → V) (t : List Node) (hT0 : Tree S0 a m A B t) (k0 : Nat) (hk0 : k0 < 200000) (hG : Good k0 t) (o : Opn) (hdo : o.does = 7) (hl : o.a.length < 900000) (hd : o.data.length ≤ 1024) (hr : S0[r]? = some (.row [ansV okN (.ts []) (.ts [])] 44)) :
  EvS cfgS 80 [.ref a 0 0, .d (encOpn o), .ref r 0 0] S0 (Res S0 a m r (wC t o)) := by
 have hk1 : k0 < 300000 := by omega
 refine vE rfl zuj ?_
 show Wp cfgS (Try.f80.body.getD .skip) ((.ref a 0 0) :: (.d (encOpn o)) :: (.ref r 0 0) :: uZ (uZ (uZ (uZ (uZ ((.tup []) :: [])))))) S0 [] _
 unfold uZ
 conv => arg 2; whnf
 rw [qK]
 have hT1 := hT0.keep (Keep.app (l := [Ob.row [.d (encOpn o)] 48]))
 simp (maxSteps:=1000000) (disch:=first|assumption|omega|rfl) only [↓gp, gc, Nat.reduceAdd, hPS, zR]
 generalize hq : wC t o = q
 unfold wC z47 at hq
 refine zc0 hT1 hG.told hk1 hG.sm hl ?_ ?_
 ·intro h0 h2 S1 hK1
  have hkx := hG.lj.hasK (vN hG.told h0)
  rw [if_neg (by simp [h0]), if_neg h2, if_pos hdo] at hq
  obtain ⟨hsz1, hsz⟩ := z5p (x := (zH t o.a).1) hG.sm
  generalize (zH t o.a).1 = x at *
  have hxi := z0u hkx
  have hK01 := Keep.app.trans hK1
  have h4 := hK1 _ _ (qY (S := S0) (o := Ob.row [.d (encOpn o)] 48))
  have hr4 : ∀ l, rowE (S1 ++ l) S0.length 0 = some (.d (encOpn o)) := fun l => zE (qO h4)
  have hK02 := hK01.trans (Keep.app (l := [Ob.row [zD (getN t x) (A x) (B x)] 32]))
  have hT2 := hT0.keep hK02
  have h6 := qY (S := S1) (o := Ob.row [zD (getN t x) (A x) (B x)] 32)
  have hrr := hK02 _ _ hr
  by_cases c1 : o.off < 0
  ·rw [if_pos c1] at hq
   subst hq
   have h1 : (1 : Int) ≠ 0 := by omega
   simp (maxSteps:=1000000) (disch:=first|assumption|omega|rfl) only [↓gp, gc, Nat.reduceAdd, hPS, zagg, z32v, kX, kM, svz, sv, lv, zR, zN, hr4, jX h1]
   exact ⟨rfl, Res.fail h1 hK02⟩
  rw [if_neg c1] at hq
  by_cases c2 : o.off > 34304 - (o.data.length : Int)
  ·rw [if_pos c2] at hq
   subst hq
   have h11 : (11 : Int) ≠ 0 := by omega
   simp (maxSteps:=1000000) (disch:=first|assumption|omega|rfl) only [↓gp, gc, Nat.reduceAdd, hPS, zagg, z32v, kX, kM, svz, sv, lv, zR, zN, hr4, lenB, jJ, jX h11]
   exact ⟨rfl, Res.fail h11 hK02⟩
  rw [if_neg c2] at hq
  by_cases c3 : o.data.length = 0
  ·rw [if_pos c3] at hq
   subst hq
   have c3' : (o.data.length : Int) = 0 := by omega
   simp (maxSteps:=1000000) (disch:=first|assumption|omega|rfl) only [↓gp, gc, Nat.reduceAdd, hPS, zagg, z32v, kX, kM, svz, sv, lv, zR, zN, hr4, lenB, jJ]
   exact ⟨rfl, _, rfl, Res.done (v5 := .ts []) (v6 := .ts []) rfl hT2 hrr vQ (.inl ⟨rfl, rfl⟩) hK02.toR⟩
  rw [if_neg c3] at hq
  have c3' : ¬ (o.data.length : Int) = 0 := by omega
  have hlen := (hT2.st.da x trivial).len (t := 29) Try.underlying29
  obtain ⟨p, hp⟩ : ∃ p : Nat, o.off = p := ⟨o.off.toNat, by omega⟩
  obtain ⟨k, hk⟩ : ∃ k : Nat, (if (p : Int) + (o.data.length : Int) > ((getN t x).data.length : Int) then (p : Int) + (o.data.length : Int) else ((getN t x).data.length : Int)) = k := by
   refine ⟨(if (p : Int) + (o.data.length : Int) > ((getN t x).data.length : Int) then (p : Int) + (o.data.length : Int) else ((getN t x).data.length : Int)).toNat, ?_⟩
   split <;> omega
  have hk1 : p + o.data.length ≤ k := by split at hk <;> omega
  have hk2 : k ≤ 34304 := by split at hk <;> omega
  have hkW : z71 (getN t x) o = k := by
   unfold z71
   rw [hp, hsz1, ← hk]
   split <;> split <;> omega
  have c2' : ¬ (p : Int) > 34304 - (o.data.length : Int) := by omega
  have c1' : ¬ (p : Int) < 0 := by omega
  simp (maxSteps:=1000000) (disch:=first|assumption|omega|rfl) only [↓gp, gc, Nat.reduceAdd, hPS, zagg, z32v, kX, kM, svz, sv, lv, zR, zN, hr4, lenB, jJ, hp, lv5, hlen, zsr hk]
  have h42 := qO (l := [Ob.row [zD (getN t x) (A x) (B x)] 32]) h4
  have hlt : S0.length ≤ S1.length := hK01.len
  generalize hS2 : S1 ++ [Ob.row [zD (getN t x) (A x) (B x)] 32] = S2 at *
  have hlt2 : S1.length < S2.length := qN h6
  refine jK rfl (zq3 S2 (getN t x) (A x) (B x) (hT2.st.da x trivial) (hT2.st.na x trivial) hsz k hk2) ?_ ?_
  ·rintro v S3 ⟨v', hv, hv', hf3, hi3, hS3⟩
   cases hv
   have notA : ∀ (j : Nat) (ys : List V) (e : TypeId), e ≠ 5 → S2[j]? = some (.row ys e) → idOf (A x) ≠ some j := fun j ys e he hj hh => by
    obtain ⟨zs, q⟩ := (hT2.st.da x trivial).row hh
    rw [hj] at q; cases q; exact he rfl
   have h63 := hf3 _ _ h6 (notA _ _ _ (by decide) h6)
   have h43 := hf3 _ _ h42 (notA _ _ _ (by decide) h42)
   have hrr3 := hf3 _ _ hrr (notA _ _ _ (by decide) hrr)
   have hr63 := zE h63
   have hpr63 := fun y => qD (y := y) h63
   simp (maxSteps:=1000000) (disch:=first|assumption|omega|rfl) only [↓gp, gc, Nat.reduceAdd, hPS, hr63, hpr63, sv]
   have h64 : (S3.set S1.length (.row [zD { getN t x with size := (k : Int) } v' (B x)] 32))[S1.length]? = some (.row [zD { getN t x with size := (k : Int) } v' (B x)] 32) := jR h63
   have ne5 : ∀ (j : Nat) (ys : List V), S3[j]? = some (.row ys 5) → j ≠ S1.length := fun j ys hj => by
    rintro rfl
    rw [h63] at hj; cases hj
   have hne : S0.length ≠ S1.length := by
    have h1 := hK1.len
    rw [List.length_append, List.length_singleton] at h1
    omega
   have h44 : (S3.set S1.length (.row [zD { getN t x with size := (k : Int) } v' (B x)] 32))[S0.length]? = some (.row [.d (encOpn o)] 48) := by rw [List.getElem?_set_ne (Ne.symm hne)]; exact h43
   have hrr4 : (S3.set S1.length (.row [zD { getN t x with size := (k : Int) } v' (B x)] 32))[r]? = some (.row [ansV okN (.ts []) (.ts [])] 44) := by
    rw [List.getElem?_set_ne]
    ·exact hrr3
    ·rintro rfl
     have q := h63.symm.trans hrr3
     simp only [Option.some.injEq, Ob.row.injEq] at q
     exact absurd q.2 (by decide)
   have hf4 : ∀ (j : Nat) (q : Ob), S0[j]? = some q → idOf (A x) ≠ some j → (S3.set S1.length (.row [zD { getN t x with size := (k : Int) } v' (B x)] 32))[j]? = some q := fun j q hj hn => by
    have := qN hj
    rw [List.getElem?_set_ne (by omega)]
    exact hf3 j q (hK02 j q hj) hn
   have hv4 : SlE encU (S3.set S1.length (.row [zD { getN t x with size := (k : Int) } v' (B x)] 32)) v' 5 (sizedB (getN t x).data k) := hv'.frame2 fun j q hj hi => by
    obtain ⟨ys, hq⟩ := hv'.row hi
    rw [List.getElem?_set_ne (Ne.symm (ne5 j ys hq))]; exact hj
   generalize S3.set S1.length (.row [zD { getN t x with size := (k : Int) } v' (B x)] 32) = S4 at *
   have hr64 := zE h64
   have hr44 := zE h44
   obtain ⟨id, ys, hvr, hrow, hsl⟩ := zjw (p := p) hv4 (by rw [z4d]; omega)
   rw [z4d] at hsl hvr
   have hcp := zsj (data := o.data) (off := p) hrow z4d hk1
   refine vG (is := [0, 1, 2, 3, 4, 5, 6, 7]) (h := 0) (by kernel_rfl) (by kernel_rfl) ?_
   simp (maxSteps:=1000000) (disch:=first|assumption|omega|rfl) only [List.replicate_zero, eq_self, gw, ga, Nat.reduceAdd, ↓gq, hPS, List.append_nil, hr64, hr44, lv5, hp, hsl, zfq, hcp, Option.map_some, Option.map_none]
   refine ⟨zG (by kernel_rfl) (zG (by kernel_rfl) (zG (by kernel_rfl) (zG (by kernel_rfl) qV))), by kernel_rfl, ?_⟩
   have hid := qN hrow
   have hnid : ∀ (j : Nat) (zs : List V) (e : TypeId), e ≠ 5 → S4[j]? = some (.row zs e) → (S4.set id (.row (((sizedB (getN t x).data k).take p ++ o.data ++ (sizedB (getN t x).data k).drop (p + o.data.length) ++ ys).map fun a => .d (encU a)) 5))[j]? = some (.row zs e) := fun j zs e he hj => by
    rw [List.getElem?_set_ne]
    ·exact hj
    ·rintro rfl
     rw [hrow] at hj
     simp only [Option.some.injEq, Ob.row.injEq] at hj
     exact he hj.2.symm
   have hdata : (z42 (getN t x) o).data = (sizedB (getN t x).data k).take p ++ o.data ++ (sizedB (getN t x).data k).drop (p + o.data.length) := by
    show layN (layN (List.replicate (z71 (getN t x) o).toNat 0) 0 (getN t x).data) o.off o.data = _
    rw [hkW, Int.toNat_natCast, zcu, hp, zzd _ _ _ (by rw [z4d]; exact hk1)]
   have hdl : (z42 (getN t x) o).data.length = k := by
    show (layN (layN (List.replicate (z71 (getN t x) o).toNat 0) 0 (getN t x).data) o.off o.data).length = _
    rw [z30, z30, List.length_replicate, hkW, Int.toNat_natCast]
   have h65 := hnid _ _ _ (by decide) h64
   have hrr5 := hnid _ _ _ (by decide) hrr4
   have hf5 : ∀ (j : Nat) (q : Ob), S0[j]? = some q → idOf (A x) ≠ some j → (S4.set id (.row (((sizedB (getN t x).data k).take p ++ o.data ++ (sizedB (getN t x).data k).drop (p + o.data.length) ++ ys).map fun a => .d (encU a)) 5))[j]? = some q := fun j q hj hn => by
    have hjl := qN hj
    rw [List.getElem?_set_ne]
    ·exact hf4 j q hj hn
    ·rintro rfl
     rcases hi3 id (by rw [hvr]; rfl) with h | h
     ·exact hn h
     ·omega
   have hv5 : SlE encU (S4.set id (.row (((sizedB (getN t x).data k).take p ++ o.data ++ (sizedB (getN t x).data k).drop (p + o.data.length) ++ ys).map fun a => .d (encU a)) 5)) v' 5 (z42 (getN t x) o).data := .inr ⟨id, ys, by rw [hdl]; exact hvr, by rw [List.getElem?_set_self hid, hdata]⟩
   generalize S4.set id (.row (((sizedB (getN t x).data k).take p ++ o.data ++ (sizedB (getN t x).data k).drop (p + o.data.length) ++ ys).map fun a => .d (encU a)) 5) = S5 at *
   have hnW : zD { getN t x with size := (k : Int) } v' (B x) = zD (z42 (getN t x) o) v' (B x) := by
    unfold zD z42
    rw [hkW]
   rw [hnW] at h65
   obtain ⟨o7, hup, hT6, hK6, hc5⟩ := hT0.renewK (x := x) (n := z42 (getN t x) o) (p := v') (q := B x) (S' := S5) hG.lj.srt hxi (fun j q hj hn _ => hf5 j q hj hn) hv5
    ((hT0.st.na x trivial).frame2 fun j q hj hi => hf5 j q hj (fun hh => hT0.st.apart x x j hh hi))
    (fun i hi => (hi3 i hi).elim .inl (fun h => .inr (by omega))) (fun i hi => .inl hi)
   have hra5 := zE hc5
   have hr65 := zE h65
   have hwi : (z42 (getN t x) o).ino = x := hxi
   simp (maxSteps:=1000000) (disch:=first|assumption|omega|rfl) only [↓gp, gc, Nat.reduceAdd, hPS]
   refine qS (is := [0, 1, 2, 3, 4, 5, 6, 7]) (h := 0) (by kernel_rfl) (by kernel_rfl) ?_
   simp (maxSteps:=1000000) (disch:=first|assumption|omega|rfl) only [List.replicate_zero, eq_self, gd, ga, Nat.reduceAdd, ↓gq, hPS, List.append_nil, qL, qG, jC, vD, wU, hra5, hr65, lv, lv0, hwi, hup, Option.map_some]
   refine ⟨fun _ => by kernel_rfl, ?_⟩
   refine ⟨by kernel_rfl, ?_⟩
   subst hq
   simp (maxSteps:=1000000) (disch:=first|assumption|omega|rfl) only [↓gp, gc, Nat.reduceAdd, hPS]
   exact ⟨rfl, _, rfl, Res.done (v5 := .ts []) (v6 := .ts []) rfl hT6 (hK6 _ _ _ hrr5) vQ (.inl ⟨rfl, rfl⟩) (fun j ys e he _ hj => hK6 _ _ _ (hf5 j _ hj (fun hh => by obtain ⟨zs, q⟩ := (hT0.st.da x trivial).row hh; rw [hj] at q; cases q; rcases he with he | he <;> exact absurd he (by decide))))⟩
  ·rintro v S3 ⟨v', hv, _⟩
   cases hv
 ·rintro e (⟨h0, rfl⟩ | ⟨h0, h2, rfl⟩) S1 hK1
  ·rw [if_pos h0] at hq
   subst hq
   exact ⟨rfl, Res.fail h0 (Keep.app.trans hK1)⟩
  ·rw [if_neg (by simp [h0]), if_pos h2] at hq
   subst hq
   exact ⟨rfl, Res.fail (by omega) (Keep.app.trans hK1)⟩
end Go.Proofs.Ytghllhghboaagaa
end
