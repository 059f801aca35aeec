/- alloc: the free blocks, one after the other. -/
import Derived.Test.YtobgdmgldagjkaaGreatA09
set_option linter.unusedVariables false
set_option linter.unusedSimpArgs false
set_option maxRecDepth 100000
set_option maxHeartbeats 4000000
set_option linter.defProp false
section
namespace Go.Proofs.YtobgdmgldagjkaaGreat
open Go.Vm
theorem zp8 {ops : Array Oper} {dst : Option Tmp} {k : List Oper} {T : List V} {S : zB} {F : Dfs} {Q : Post} {u : V} {b : List UInt8} {n : Int} (hu : IsB u b) (hb : b.length = 256) : WpR cfg ops dst k T S F Q (some (.enter 76 [u, .d (.int .i64 n)])) = WpL cfg ops k (putT T dst (.d (.bool (hasI b n)))) S F Q :=
 kW (ds := [blkD b, .int .i64 n]) rfl (by simp only [allO, hu.frz (n := 10), zJ]; rfl) (by rw [List.flatMap_cons, hu.frzIds]; rfl) (zrf b hb n)
theorem z82 {b : List UInt8} {n : Nat} (h : n < 2048) : hasI b (n : Int) = hasB b n := by
 unfold hasI
 rw [decide_eq_true ⟨by omega, by omega⟩, Bool.true_and, Int.toNat_natCast]
def frB (bm : List UInt8) (D i : Nat) : List Nat := (List.range i).filter fun n => decide (D ≤ n) && !hasB bm n
theorem zh3 {bm : List UInt8} {D i : Nat} (hi : D ≤ i) : frB bm D (i + 1) = frB bm D i ++ if hasB bm i then [] else [i] := by
 unfold frB
 rw [List.range_succ, List.filter_append]
 congr 1
 cases h : hasB bm i <;> simp [h, hi]
theorem q1e {bm : List UInt8} {D : Nat} : frB bm D D = [] := by
 unfold frB
 rw [List.filter_eq_nil_iff]
 intro n hn
 have := List.mem_range.1 hn
 simp; omega
theorem zmx {bm : List UInt8} {D : Nat} : ∀ {k i : Nat}, D ≤ i → ∃ t, frB bm D (i + k) = frB bm D i ++ t
 | 0, i, _ => ⟨[], by simp⟩
 | k + 1, i, h => by
  obtain ⟨t, ht⟩ := zmx (k := k) (i := i) h
  exact ⟨t ++ _, by rw [← Nat.add_assoc, zh3 (by omega), ht, List.append_assoc]⟩
theorem zx3 (B c r m y a1 a2 A D : Nat) (l : Lay) (C : CS) (vv u : V) (bm : List UInt8) (hu : IsB u bm) (hbl : bm.length = 256) (gg : Nat) (hvv : vv = kO l.blocks l.inodes l.merge gg) (g : FuncId) (caps : List V) (J : List Nat → zB → Prop) (more : Bool) (ha : AskF m r g caps A J more) (hBA : B ≤ A) (N : Nat) (hN : l.blocks = N) (hN2 : N ≤ 512) (R : Post) (S0 : zB) :
 ∀ (k i : Nat) (S : zB) (g2 g3 g7 g8 g9 gI gE gG gB gC gA gD gL gM gF gK gN gJ gH gO gP gT gQ gU gR gS gV gW gX gY gZ gh : V), N - i = k → D ≤ i → i ≤ N → CacheIn S B c r m C → S[a1]? = some (.row [vv] 55) → S[a2]? = some (.row [u] 42) → J (frB bm D i) S → (more = false → frB bm D i = []) → FrA m r A S0 S →
 (∀ S' i' g2 g3 g7 g8 g9 gI gE gG gB gC gA gD gL gM gF gK gN gJ gH gO gP gT gQ gU gR gS gV gW gX gY gZ gh, CacheIn S' B c r m C → FrA m r A S0 S' → J (if more then frB bm D N else (frB bm D N).take 1) S' → R (.exit 0) ((.ref y 0 0) :: (.fn (.func g) [] caps) :: g2 :: g3 :: (.ref a1 0 0) :: (.ref a2 0 0) :: i' :: g7 :: g8 :: g9 :: gI :: gE :: gG :: gB :: gC :: gA :: gD :: gL :: gM :: gF :: gK :: gN :: gJ :: gH :: gO :: gP :: gT :: gQ :: gU :: gR :: gS :: gV :: gW :: gX :: gY :: gZ :: gh :: []) S' []) →
 (∀ S' i' g2 g3 g7 g8 g9 gI gE gG gB gC gA gD gL gM gF gK gN gJ gH gO gP gT gQ gU gR gS gV gW gX gY gZ gh, CacheIn S' B c r m C → FrA m r A S0 S' → J (if more then frB bm D N else (frB bm D N).take 1) S' → R .ret ((.ref y 0 0) :: (.fn (.func g) [] caps) :: g2 :: g3 :: (.ref a1 0 0) :: (.ref a2 0 0) :: i' :: g7 :: g8 :: g9 :: gI :: gE :: gG :: gB :: gC :: gA :: gD :: gL :: gM :: gF :: gK :: gN :: gJ :: gH :: gO :: gP :: gT :: gQ :: gU :: gR :: gS :: gV :: gW :: gX :: gY :: gZ :: gh :: []) S' []) →
 Wp cfg (.loop (lpOf (Tryz.f67.body.getD .skip) 0)) ((.ref y 0 0) :: (.fn (.func g) [] caps) :: g2 :: g3 :: (.ref a1 0 0) :: (.ref a2 0 0) :: (.d (.int .i64 (i : Int))) :: g7 :: g8 :: g9 :: gI :: gE :: gG :: gB :: gC :: gA :: gD :: gL :: gM :: gF :: gK :: gN :: gJ :: gH :: gO :: gP :: gT :: gQ :: gU :: gR :: gS :: gV :: gW :: gX :: gY :: gZ :: gh :: []) S [] R := by
 subst hvv
 intro k
 induction k with
 | zero =>
  intro i S g2 g3 g7 g8 g9 gI gE gG gB gC gA gD gL gM gF gK gN gJ gH gO gP gT gQ gU gR gS gV gW gX gY gZ gh hk hi2 hiN hC h52 h42 hJ hmo hFA hR hR2
  have hie : i = N := by omega
  subst hie
  have hr52 := zD (e := 55) h52
  have hle : ¬ ((i : Int)) < l.blocks := by omega
  rw [zR]
  refine zL ?_
  conv => arg 2; whnf
  simp (maxSteps:=1000000) (disch:=first|assumption|omega|rfl) only [↓gp, gc, Nat.reduceAdd, z0c, vF, hr52, zao]
  refine hR _ _ _ _ _ _ _ _ _ _ _ _ _ _ _ _ _ _ _ _ _ _ _ _ _ _ _ _ _ _ _ _ _ _ hC hFA ?_
  cases more with
  | true => exact hJ
  | false => rw [hmo rfl] at hJ ⊢; exact hJ
 | succ k ih =>
  intro i S g2 g3 g7 g8 g9 gI gE gG gB gC gA gD gL gM gF gK gN gJ gH gO gP gT gQ gU gR gS gV gW gX gY gZ gh hk hi2 hiN hC h52 h42 hJ hmo hFA hR hR2
  have hr52 := zD (e := 55) h52
  have hr42 := zD (e := 42) h42
  have hld := bt42.load hu hbl
  have hu1 := hu.one
  have hle : (i : Int) < l.blocks := by omega
  have hhas := fun {ops dst k T S F Q} => zp8 (ops := ops) (dst := dst) (k := k) (T := T) (S := S) (F := F) (Q := Q) (n := (i : Int)) hu hbl
  rw [z82 (by omega)] at hhas
  have hw : IntKind.i64.wrap ((i : Int) + 1) = ((i + 1 : Nat) : Int) := by rw [wrap64 (by omega)]; omega
  have hsu := zh3 (bm := bm) hi2
  rw [zR]
  refine zL ?_
  conv => arg 2; whnf
  cases h0 : hasB bm i with
  | false =>
   rw [h0] at hhas
   rw [h0, if_neg Bool.false_ne_true] at hsu
   obtain ⟨o, S2, ⟨rfl, hJ2, hl2, hk2⟩, hcall⟩ := qF (ha.call S _ i hJ)
   have hcall := fun {ops dst k T F Q} => zH (ops := ops) (dst := dst) (l := k) (T := T) (F := F) (Q := Q) ha.sh hcall
   have hcv := cvF (g := g) (caps := caps) (n := (i : Int)) ha.bo
   simp (maxSteps:=1000000) (disch:=first|assumption|omega|rfl) only [↓gp, gc, Nat.reduceAdd, ↓vI, z0c, vF, hr52, zao, hr42, hld, hu1, hhas, bo76, hcv, hcall, jG, Bool.not_false, hw]
   have hC2 : CacheIn S2 B c r m C := ⟨Nat.le_trans hC.1 hl2, hC.2.keep (fun j p hj => z9d (hk2 j p (z03 _ _ hj) (.inl (Nat.lt_of_lt_of_le (z16 hj) hBA))) (z16 hj))⟩
   have h52c := hk2 _ _ h52 (.inr fun xs e he => by cases he; exact ⟨by decide, by decide⟩)
   have h42c := hk2 _ _ h42 (.inr fun xs e he => by cases he; exact ⟨by decide, by decide⟩)
   have hFA2 : FrA m r A S0 S2 := hFA.trans ⟨hl2, fun j p hj hp _ => hk2 j p hp (.inl hj)⟩
   cases more with
   | true =>
    simp (maxSteps:=1000000) (disch:=first|assumption|omega|rfl) only [↓gp, gc, Nat.reduceAdd, jG, Bool.not_true, hw]
    exact ih (i + 1) S2 _ _ _ _ _ _ _ _ _ _ _ _ _ _ _ _ _ _ _ _ _ _ _ _ _ _ _ _ _ _ _ _ (by omega) (by omega) (by omega) hC2 h52c h42c (by rw [hsu]; exact hJ2) (fun hh => by cases hh) hFA2 hR hR2
   | false =>
    simp (maxSteps:=1000000) (disch:=first|assumption|omega|rfl) only [↓gp, gc, Nat.reduceAdd, jG, Bool.not_false]
    refine hR2 _ _ _ _ _ _ _ _ _ _ _ _ _ _ _ _ _ _ _ _ _ _ _ _ _ _ _ _ _ _ _ _ _ _ hC2 hFA2 ?_
    have h1 : frB bm D i = [] := hmo rfl
    rw [h1, List.nil_append] at hJ2
    obtain ⟨t, ht⟩ := zmx (bm := bm) (D := D) (k := N - (i + 1)) (i := i + 1) (by omega)
    have e : i + 1 + (N - (i + 1)) = N := by omega
    rw [e, hsu, h1, List.nil_append] at ht
    rw [if_neg Bool.false_ne_true, ht]
    exact hJ2
  | true =>
   rw [h0] at hhas
   rw [h0, if_pos rfl, List.append_nil] at hsu
   simp (maxSteps:=1000000) (disch:=first|assumption|omega|rfl) only [↓gp, gc, Nat.reduceAdd, ↓vI, z0c, vF, hr52, zao, hr42, hld, hu1, hhas, bo76, jG, Bool.not_true, hw]
   exact ih (i + 1) S _ _ _ _ _ _ _ _ _ _ _ _ _ _ _ _ _ _ _ _ _ _ _ _ _ _ _ _ _ _ _ _ (by omega) (by omega) (by omega) hC h52 h42 (by rw [hsu]; exact hJ) (fun hh => by rw [hsu]; exact hmo hh) hFA hR hR2
section
variable (S : zB) (B y x c r m mk gm : Nat) (l : Lay) (e : Int) (C : CS) (h : SeenAt S B y x c r m mk gm l e C) (hB : l.blocks = C.img.length) (hb : InB l.blocks) (hi : InB l.inodes) (hm : MayL l) (D : Nat) (hD : 2 + l.inodes.tdiv 8 = (D : Int)) (N : Nat) (hN : l.blocks = N)
include h hB hb hi hm hD hN
theorem zl0 (A : Nat) (g : FuncId) (caps : List V) (J : List Nat → zB → Prop) (more : Bool) (ha : AskF m r g caps A J more) (hBA : B ≤ A) (haA : A ≤ S.length) (hJ : J [] S) :
  EvS cfg 67 [.ref y 0 0, .fn (.func g) [] caps] S (fun o S' => o = .ret (.tup []) ∧ CacheIn S' B c r m C ∧ FrA m r A S S' ∧ J (if more then frB (C.see 1) D N else (frB (C.see 1) D N).take 1) S') := by
 refine qH rfl q1h ?_
 show Wp cfg (Tryz.f67.body.getD .skip) ((.ref y 0 0) :: (.fn (.func g) [] caps) :: uZ (uZ (uZ ((.tup []) :: (.tup []) :: (.tup []) :: (.tup []) :: (.tup []) :: [])))) S [] _
 unfold uZ
 conv => arg 2; whnf
 rw [zR]
 have hry := zD (e := 116) h.hy
 obtain ⟨o, S1, ⟨hK, v, rfl, hv⟩, hview⟩ := qF (z6f S x c mk l.blocks l.inodes l.merge e h.hx)
 have hview := fun {ops dst k T F Q} => zH (ops := ops) (dst := dst) (l := k) (T := T) (F := F) (Q := Q) rfl hview
 obtain ⟨gg, rfl, hg⟩ := hv
 generalize ha1 : S1.length = a1
 have hSl := hK.len
 have hno : 1 < C.img.length := by have := hm.1; omega
 simp (maxSteps:=1000000) (disch:=first|assumption|omega|rfl) only [↓gp, gc, Nat.reduceAdd, z9z, wO, hry, kA, hview, bo27, z52, zf52, z7l, ha1, rA0 ha1, pA0 ha1, sr52]
 have hKa : Keep S (S1 ++ [.row [kO l.blocks l.inodes l.merge gg] 55]) := hK.app
 have hga : (S1 ++ [Ob.row [kO l.blocks l.inodes l.merge gg] 55])[gg]? = some (.row [getF c] 131) := by rw [List.getElem?_append_left (zQ hg)]; exact hg
 have h52 : (S1 ++ [.row [kO l.blocks l.inodes l.merge gg] 55])[a1]? = some (.row [kO l.blocks l.inodes l.merge gg] 55) := by rw [← ha1]; simp
 have hl2 : (S1 ++ [Ob.row [kO l.blocks l.inodes l.merge gg] 55]).length = a1 + 1 := by simp [ha1]
 generalize S1 ++ [Ob.row [kO l.blocks l.inodes l.merge gg] 55] = S2 at *
 have hK5 : Keep S2 (S2 ++ [.hole, .hole, .hole, .hole, .hole]) := Keep.refl.app
 obtain ⟨o, S3, ⟨hF, hC, u, rfl, hu⟩, hE⟩ := qF (z7t (S2 ++ [.hole, .hole, .hole, .hole, .hole]) _ B c r m l.blocks l.inodes l.merge C (h.ca.keep (hKa.trans hK5)) ⟨gg, rfl, hK5 _ _ hga⟩ hB 1 hno)
 simp only [nl1] at hE
 have hbk := fun {ops base K ws cs i dst T} => jC (ops := ops) (base := base) (K := K) (ws := ws) (cs := cs) (i := i) (dst := dst) (T := T) rfl hE
 have hsl := hC.at.ok.see_len hno
 have hu1 := hu.one
 have hst := bt42.store hu hsl (w := blkV (zK 256)) isB_v z256
 have hr52 := zD (e := 55) (hK5 _ _ h52)
 have hh3 : S3[a1 + 1 + 3]? = some .hole := hF.hole (by rw [← hl2, List.getElem?_append_right (by omega), Nat.add_sub_cancel_left]; rfl)
 have hh3l := zQ hh3
 have hra3 : rowE (S3.set (a1 + 1 + 3) (.row [blkV (zK 256)] 42)) (a1 + 1 + 3) 0 = some (blkV (zK 256)) := zD (e := 42) (List.getElem?_set_self hh3l)
 have hpa3 : ∀ y, jQ (S3.set (a1 + 1 + 3) (.row [blkV (zK 256)] 42)) (a1 + 1 + 3) 0 y = some (S3.set (a1 + 1 + 3) (.row [y] 42)) := fun y => by
  rw [qJ (e := 42) (List.getElem?_set_self hh3l), List.set_set]
 have hB2 := h.ca.1
 refine qX (is := [0, 1, 2, 3, 4]) (h := 5) (by kernel_rfl) (by kernel_rfl) ?_
 simp (maxSteps:=1000000) (disch:=first|assumption|omega|rfl) only [List.replicate_zero, eq_self, gw, ga, Nat.reduceAdd, ↓gq, vso, hr52, lr52, z7l, zlq, bo77, hbk, bo49, hu1, z80 z42 zf42, z6g, hl2, hra3, hpa3, hst]
 refine ⟨zS (by kernel_rfl) (zS (by kernel_rfl) zZ), hh3, zS (by kernel_rfl) (zS (by kernel_rfl) zZ), by kernel_rfl, ?_⟩
 have h52b : (S3.set (a1 + 1 + 3) (.row [u] 42))[a1]? = some (.row [kO l.blocks l.inodes l.merge gg] 55) := by
  rw [List.getElem?_set_ne (by omega)]
  exact hF.row (hK5 _ _ h52) rfl
 have h42b : (S3.set (a1 + 1 + 3) (.row [u] 42))[a1 + 1 + 3]? = some (.row [u] 42) := List.getElem?_set_self hh3l
 have hF4 : FrC m r S (S3.set (a1 + 1 + 3) (.row [u] 42)) := ((Frm.keep (hKa.trans hK5)).trans hF).setn (by omega)
 have hC4 : CacheIn (S3.set (a1 + 1 + 3) (.row [u] 42)) B c r m C := hC.setn (by omega)
 generalize S3.set (a1 + 1 + 3) (Ob.row [u] 42) = S4 at *
 have hr52b := zD (e := 55) h52b
 have hdt : ∀ {ops dst k T S F Q}, WpR cfg ops dst k T S F Q (some (.enter 108 [.agg [.d (.int .i64 l.blocks), .d (.int .i64 l.inodes), .d (.int .u64 l.merge)]])) = WpL cfg ops k (putT T dst (.d (.int .i64 (2 + l.inodes.tdiv 8)))) S F Q := fun {ops dst k T S F Q} => kW (ds := [encLay l]) rfl rfl rfl (zbn l hb hi hm)
 rw [hD] at hdt
 have hDN : D ≤ N := by have := hm.2.2.2.2.2; omega
 simp (maxSteps:=1000000) (disch:=first|assumption|omega|rfl) only [↓gp, gc, Nat.reduceAdd, z0c, hr52b, z5a, hdt, za1]
 refine zx3 B c r m y a1 (a1 + 1 + 3) A D l C _ u (C.see 1) hu hsl gg rfl g caps J more ha hBA N hN (by have := hm.2.1; omega) _ S (N - D) D _ _ _ _ _ _ _ _ _ _ _ _ _ _ _ _ _ _ _ _ _ _ _ _ _ _ _ _ _ _ _ _ _ rfl (Nat.le_refl _) hDN hC4 h52b h42b (by rw [q1e]; exact ha.keep _ _ _ hJ hF4) (fun _ => q1e) (FrA.of hF4) ?_ ?_
 ·intro S' i' g2 g3 g7 g8 g9 gI gE gG gB gC gA gD gL gM gF gK gN gJ gH gO gP gT gQ gU gR gS gV gW gX gY gZ gh hC' hF' hJ'
  simp (maxSteps:=1000000) (disch:=first|assumption|omega|rfl) only [↓gp, gc, Nat.reduceAdd]
  exact ⟨rfl, _, rfl, rfl, hC', hF', hJ'⟩
 ·intro S' i' g2 g3 g7 g8 g9 gI gE gG gB gC gA gD gL gM gF gK gN gJ gH gO gP gT gQ gU gR gS gV gW gX gY gZ gh hC' hF' hJ'
  simp (maxSteps:=1000000) (disch:=first|assumption|omega|rfl) only [↓gp, gc, Nat.reduceAdd]
  exact ⟨rfl, _, rfl, rfl, hC', hF', hJ'⟩
end
theorem q2r {S : zB} {a : Nat} : mfS (.func 67) S [.ref a 0 0] [] = some (.val (.fn (.func 67) [.ref a 0 0] []) S 0) := z15 rfl
theorem zv8 {bm : List UInt8} {D i : Nat} : (frB bm D i).length ≤ i := Nat.le_trans (List.length_filter_le ..) (by simp)
theorem zou (m r A n0 : Nat) (hA : A ≤ n0) : AskF m r 68 [.ref n0 0 0] A (cntJ n0) true := by
 refine ⟨?_, ?_, bo68, rfl⟩
 ·rintro S l n ⟨v, hv, hl⟩
  refine qH rfl zyf ?_
  show Wp cfg (Tryz.f68.body.getD .skip) ((.d (.int .i64 (n : Int))) :: (.ref n0 0 0) :: (.tup []) :: (.tup []) :: (.tup []) :: (.tup []) :: []) S [] _
  conv => arg 2; whnf
  rw [zR]
  have hr := zD (e := 3) hv
  have hp := fun y => qJ (y := y) (e := 3) hv
  simp (maxSteps:=1000000) (disch:=first|assumption|omega|rfl) only [↓vmp, vme, vmb, ty, hP, zw6, zu0, List.length_map, Int.toNat_natCast, Nat.reduceAdd, List.cons_append, List.nil_append, Option.map_some, Option.map_none, zbb, zlh, zmd, vmg, ↓vgd, ↓vst, ↓vix, hr, hp, ld3r, st3]
  refine ⟨rfl, _, rfl, rfl, ⟨_, List.getElem?_set_self (zQ hv), fun hh => ?_⟩, by rw [List.length_set]; exact Nat.le_refl _, ?_⟩
  ·rw [List.length_append, List.length_singleton] at hh
   rw [hl (by omega), wrap64 (by omega), List.length_append, List.length_singleton]
   omega
  ·intro j o hj hc
   rw [List.getElem?_set_ne]
   ·exact hj
   ·rintro rfl
    rcases hc with hc | hc
    ·omega
    ·exact absurd rfl (hc _ _ (getE hj hv)).1
 ·rintro S S' l ⟨v, hv, hl⟩ hF
  exact ⟨v, hF.row hv rfl, hl⟩
section
variable (S : zB) (B y x c r m mk gm : Nat) (l : Lay) (e : Int) (C : CS) (h : SeenAt S B y x c r m mk gm l e C) (hB : l.blocks = C.img.length) (hb : InB l.blocks) (hi : InB l.inodes) (hm : MayL l) (D : Nat) (hD : 2 + l.inodes.tdiv 8 = (D : Int)) (N : Nat) (hN : l.blocks = N)
include h hB hb hi hm hD hN
theorem zfp : EvS cfg 21 [.ref y 0 0] S (fun o S' => o = .ret (.d (.int .i64 ((frB (C.see 1) D N).length : Int))) ∧ CacheIn S' B c r m C ∧ FrC m r S S') := by
 refine qH rfl q0e ?_
 show Wp cfg (Tryz.f21.body.getD .skip) ((.ref y 0 0) :: (.tup []) :: (.tup []) :: (.tup []) :: (.tup []) :: (.tup []) :: (.tup []) :: (.tup []) :: []) S [] _
 conv => arg 2; whnf
 rw [zR]
 generalize ha : S.length = a
 have hN1 : N ≤ 512 := by have := hm.2.1; omega
 have hBS := h.ca.1
 obtain ⟨o, S2, ⟨rfl, hC, hF, v, hv, hvl⟩, hE⟩ := qF (zl0 (S ++ [.row [.d (.int .i64 0)] 3]) B y x c r m mk gm l e C (h.keep Keep.refl.app) hB hb hi hm D hD N hN a _ _ _ _ (zou m r a a (Nat.le_refl _)) (by omega) (by simp; omega) ⟨0, by rw [← ha]; simp, fun _ => rfl⟩)
 have hE := fun {ops dst k T F Q} => zH (ops := ops) (dst := dst) (l := k) (T := T) (F := F) (Q := Q) rfl hE
 have hr := zD (e := 3) hv
 simp (maxSteps:=1000000) (disch:=first|assumption|omega|rfl) only [↓gp, gc, Nat.reduceAdd, z3, ha, rA0 ha, pA0 ha, st3, jS, q24, z8v, hE, bo67, hr, ld3r]
 have hl := zv8 (bm := C.see 1) (D := D) (i := N)
 rw [if_pos rfl] at hvl
 refine ⟨rfl, .d (.int .i64 v), rfl, by rw [hvl (by omega)], hC, by have := hF.1; simp at this; omega, fun j p hj hc => ?_⟩
 have hjl := zQ hj
 exact hF.2 j p (by omega) (by rw [List.getElem?_append_left hjl]; exact hj) hc
theorem zne : EvS cfg 43 [.ref y 0 0] S (fun o S' => o = .ret (.tup [.d (.int .i64 (((frB (C.see 1) D N).headD 0 : Nat) : Int)), .d (.bool (decide (frB (C.see 1) D N ≠ [])))]) ∧ CacheIn S' B c r m C ∧ FrC m r S S') := by
 have hfst : EvS cfg 91 [.fn (.func 67) [.ref y 0 0] []] S (fun o S' => o = .ret (.tup [.d (.int .i64 (((frB (C.see 1) D N).headD 0 : Nat) : Int)), .d (.bool (decide (frB (C.see 1) D N ≠ [])))]) ∧ CacheIn S' B c r m C ∧ FrC m r S S') := by
  refine qH rfl zxo ?_
  show Wp cfg (Tryz.f91.body.getD .skip) ((.fn (.func 67) [.ref y 0 0] []) :: uZ []) S [] _
  unfold uZ
  conv => arg 2; whnf
  rw [zR]
  generalize ha : S.length = a
  have hBS := h.ca.1
  have h0 : (S ++ [.row [.d (.int .i64 0)] 3, .row [.d (.bool false)] 4])[a]? = some (.row [.d (.int .i64 0)] 3) := by rw [List.getElem?_append_right (by omega), ha, Nat.sub_self]; rfl
  have h1 : (S ++ [.row [.d (.int .i64 0)] 3, .row [.d (.bool false)] 4])[a + 1]? = some (.row [.d (.bool false)] 4) := by rw [List.getElem?_append_right (by omega), ha, Nat.add_sub_cancel_left]; rfl
  obtain ⟨o, S2, ⟨rfl, hC, hF, v, b, hv, hb', hv0, hvl⟩, hE⟩ := qF (zl0 (S ++ [.row [.d (.int .i64 0)] 3, .row [.d (.bool false)] 4]) B y x c r m mk gm l e C (h.keep Keep.refl.app) hB hb hi hm D hD N hN a _ _ _ _ (zl5 m r a a (a + 1) (Nat.le_refl _) (by omega) (by omega)) (by omega) (by simp; omega) ⟨0, false, h0, h1, fun _ => ⟨rfl, rfl⟩, fun n hn => by cases hn⟩)
  have hE := fun {ops dst k T F Q} => zH (ops := ops) (dst := dst) (l := k) (T := T) (F := F) (Q := Q) rfl hE
  have hr := zD (e := 3) hv
  have hr2 := zD (e := 4) hb'
  have hcv : ∀ u : V, u.one = true → cvV Tryz.prog [u] (.fn (.func 67) [.ref y 0 0] []) = some (.enter 67 [.ref y 0 0, u]) := fun u hu => zio (by simp [hu]) bo67
  have hcv := hcv _ (z8v (f := .func 130) (a := []) (b := [.ref a 0 0, .ref (a + 1) 0 0]))
  simp (maxSteps:=1000000) (disch:=first|assumption|omega|rfl) only [↓gp, gc, Nat.reduceAdd, ↓vI, z3, z4, List.append_assoc, List.length_append, List.length_cons, List.length_nil, ha, rA0 ha, pA0 ha, rA1 ha, pA1 ha, st3, st4b, jS, q1v, z8v, hcv, hE]
  refine wU (is := [0, 1, 2, 3]) (h := 0) (by kernel_rfl) (by kernel_rfl) ?_
  simp (maxSteps:=1000000) (disch:=first|assumption|omega|rfl) only [List.replicate_zero, eq_self, gd, ga, Nat.reduceAdd, ↓gq, vso, List.append_nil, hr, hr2, ld3r, ld4r]
  refine ⟨by kernel_rfl, ?_⟩
  simp (maxSteps:=1000000) (disch:=first|assumption|omega|rfl) only [↓gp, gc, Nat.reduceAdd]
  rw [if_neg (by decide)] at hv0 hvl
  have hres : v = (((frB (C.see 1) D N).headD 0 : Nat) : Int) ∧ b = decide (frB (C.see 1) D N ≠ []) := by
   cases hfr : frB (C.see 1) D N with
   | nil => rw [hfr] at hv0; obtain ⟨e1, e2⟩ := hv0 rfl; exact ⟨by rw [e1]; rfl, by rw [e2]; rfl⟩
   | cons n t =>
    rw [hfr] at hvl
    obtain ⟨e1, e2⟩ := hvl n rfl
    exact ⟨by rw [e1]; rfl, by rw [e2]; exact (decide_eq_true (by simp)).symm⟩
  refine ⟨rfl, .tup [.d (.int .i64 v), .d (.bool b)], z11 rfl rfl rfl rfl, by rw [hres.1, hres.2], hC, by have := hF.1; simp at this; omega, fun j p hj hc => ?_⟩
  have hjl := zQ hj
  exact hF.2 j p (by omega) (by rw [List.getElem?_append_left hjl]; exact hj) hc
 refine qH rfl zzo ?_
 show Wp cfg (Tryz.f43.body.getD .skip) ((.ref y 0 0) :: (.tup []) :: (.tup []) :: (.tup []) :: (.tup []) :: (.tup []) :: (.tup []) :: (.tup []) :: (.tup []) :: []) S [] _
 conv => arg 2; whnf
 rw [zR]
 obtain ⟨o, S2, ⟨rfl, hC, hF⟩, hE⟩ := qF hfst
 have hE := fun {ops dst k T F Q} => zH (ops := ops) (dst := dst) (l := k) (T := T) (F := F) (Q := Q) rfl hE
 simp (maxSteps:=1000000) (disch:=first|assumption|omega|rfl) only [↓gp, gc, Nat.reduceAdd, jS, q2r, z8v, hE, bo91]
 exact ⟨rfl, _, z11 rfl rfl rfl rfl, rfl, hC, hF⟩
end
theorem zbc {b d : List UInt8} {a : Nat} (h : a + d.length ≤ b.length) (i : Nat) : (layB b a d)[i]? = if a ≤ i ∧ i < a + d.length then d[i - a]? else b[i]? := by
 unfold layB
 have e1 : (b.take a).length = a := by rw [List.length_take]; omega
 by_cases h1 : i < a
 ·rw [if_neg (by omega), List.append_assoc, List.getElem?_append_left (by rw [e1]; exact h1), List.getElem?_take, if_pos h1]
 ·by_cases h2 : i < a + d.length
  ·rw [if_pos ⟨by omega, h2⟩, List.append_assoc, List.getElem?_append_right (by rw [e1]; omega), e1, List.getElem?_append_left (by omega)]
  ·rw [if_neg (by omega), List.getElem?_append_right (by rw [List.length_append, e1]; omega), List.length_append, e1, List.getElem?_drop]
   congr 1
   omega
theorem zqj {b d e : List UInt8} {x y : Nat} (h1 : x + d.length ≤ b.length) (h2 : y + e.length ≤ b.length) (hm : x + d.length ≤ y ∨ y + e.length ≤ x) : layB (layB b x d) y e = layB (layB b y e) x d := by
 apply List.ext_getElem?
 intro i
 rw [zbc (by rw [jB h1]; exact h2), zbc h1, zbc (by rw [jB h2]; exact h1), zbc h2]
 by_cases c1 : x ≤ i ∧ i < x + d.length
 ·by_cases c2 : y ≤ i ∧ i < y + e.length
  ·omega
  ·rw [if_neg c2, if_pos c1, if_pos c1]
 ·rw [if_neg c1, if_neg c1]
def layC (b : List UInt8) (ch : Chg) : List UInt8 := layB b ch.at_.toNat ch.data
theorem znx {b : List UInt8} {ch : Chg} (hb : b.length = 256) (h : kP ch.at_ ch.data) : (layC b ch).length = 256 := by
 obtain ⟨_, _, h3, h4⟩ := h
 unfold layC
 rw [jB (by omega), hb]
theorem zjy {b : List UInt8} {c d : Chg} (hb : b.length = 256) (hc : kP c.at_ c.data) (hd : kP d.at_ d.data) (hm : ¬ z4d c.at_ c.data d.at_ d.data) : layC (layC b c) d = layC (layC b d) c := by
 obtain ⟨_, _, c3, c4⟩ := hc
 obtain ⟨_, _, d3, d4⟩ := hd
 unfold z4d at hm
 exact zqj (by omega) (by omega) (by omega)
theorem z2v {b : List UInt8} {l : List Chg} {ch : Chg} {no : Int} : seeL b (ch :: l) no = seeL (if ch.no = no then layC b ch else b) l no := rfl
theorem zco {no : Int} {c : Chg} (hc : kP c.at_ c.data) : ∀ {l : List Chg} {b : List UInt8}, b.length = 256 → (∀ g ∈ l, kP g.at_ g.data) → (∀ g ∈ l, g.no = no → ¬ z4d g.at_ g.data c.at_ c.data) → seeL (layC b c) l no = layC (seeL b l no) c
 | [], b, _, _, _ => rfl
 | g :: r, b, hb, hg, hm => by
  rw [z2v, z2v]
  have hg1 := hg g List.mem_cons_self
  have ih := fun {b : List UInt8} (hb : b.length = 256) => zco (b := b) hc hb (fun x hx => hg x (List.mem_cons_of_mem _ hx)) (fun x hx => hm x (List.mem_cons_of_mem _ hx))
  by_cases e : g.no = no
  ·rw [if_pos e, if_pos e, ← zjy hb hg1 hc (hm g List.mem_cons_self e)]
   exact ih (znx hb hg1)
  ·rw [if_neg e, if_neg e]
   exact ih hb
theorem zd2 {l : List Chg} {no : Int} {ids : List Int} {b : List UInt8} (hb : b.length = 256) (hok : ∀ ch ∈ l, kP ch.at_ ch.data) (hrd : RdOk l no l.length ids) : ∀ i, i ≤ l.length → seeL (rolL b (l.take i) no ids) ((l.take i).filter fun ch => decide (ch.id ∉ ids)) no = seeL b (l.take i) no
 | 0, _ => rfl
 | i + 1, hi => by
  have hlt : i < l.length := by omega
  have ih := zd2 hb hok hrd i (by omega)
  have hpk := hok l[i] (List.getElem_mem hlt)
  have hsub : ∀ ch ∈ l.take i, kP ch.at_ ch.data := fun ch hch => hok ch (List.mem_of_mem_take hch)
  have hlr := z1y (no := no) (ids := ids) hb hsub
  rw [kT hlt, zee, z1a, List.filter_append]
  by_cases hin : l[i].id ∈ ids
  ·have e : ([l[i]].filter fun ch => decide (ch.id ∉ ids)) = [] := by simp [hin]
   rw [e, List.append_nil]
   by_cases hno : l[i].no = no
   ·rw [if_pos ⟨hno, hin⟩, if_pos hno, ← ih]
    show seeL (layC _ l[i]) _ no = layC _ l[i]
    refine zco hpk hlr (fun g hg => hsub g (List.mem_filter.1 hg).1) fun g hg hgn hmt => ?_
    obtain ⟨g1, g2⟩ := List.mem_filter.1 hg
    simp only [decide_eq_true_eq] at g2
    exact g2 (hrd.2 i l[i] (List.getElem?_eq_getElem hlt) hin g g1 hgn hmt)
   ·rw [if_neg (fun h => hno h.1), if_neg hno]
    exact ih
  ·have e : ([l[i]].filter fun ch => decide (ch.id ∉ ids)) = [l[i]] := by simp [hin]
   have hn2 : ¬ (l[i].no = no ∧ l[i].id ∈ ids) := fun h => hin h.2
   rw [e, z1a, if_neg hn2, ih]
theorem zif {b : List UInt8} {no : Int} {p : Chg → Bool} : ∀ {l : List Chg}, (∀ ch ∈ l, p ch = false → ch.no ≠ no) → seeL b (l.filter p) no = seeL b l no := by
 intro l
 induction l generalizing b with
 | nil => intro _; rfl
 | cons ch r ih =>
  intro h
  have ih := fun {b : List UInt8} => ih (b := b) fun c hc => h c (List.mem_cons_of_mem _ hc)
  cases hp : p ch with
  | true =>
   rw [List.filter_cons_of_pos (by rw [hp]), z2v, z2v]
   exact ih
  | false =>
   rw [List.filter_cons_of_neg (by rw [hp]; decide), z2v, if_neg (h ch List.mem_cons_self hp)]
   exact ih
theorem CS.Ok.img_len {C : CS} (h : C.Ok) {no : Nat} (hn : no < C.img.length) : (C.img.getD no []).length = 256 := by
 rw [List.getD_eq_getElem?_getD, List.getElem?_eq_getElem hn]
 exact h.len _ (List.getElem_mem hn)
theorem zkt {C : CS} (h : C.Ok) {k : Nat} {ids : List Int} (hk : k < C.img.length) (hrd : RdOk C.list (k : Int) C.list.length ids) {no : Nat} (hn : no < C.img.length) : (C.flush k ids).see no = C.see no := by
 have hpk : ∀ ch ∈ C.list, kP ch.at_ ch.data := fun ch hch => (h.chs ch hch).1
 unfold CS.see CS.flush
 by_cases e : no = k
 ·subst e
  have e1 : (C.img.set no (rolL (C.img.getD no []) C.list (no : Int) ids)).getD no [] = rolL (C.img.getD no []) C.list (no : Int) ids := by
   rw [List.getD_eq_getElem?_getD, List.getElem?_set_self hk]; rfl
  rw [e1]
  have := zd2 (h.img_len hk) hpk hrd C.list.length (Nat.le_refl _)
  rw [List.take_length] at this
  exact this
 ·have e1 : (C.img.set k (rolL (C.img.getD k []) C.list (k : Int) ids)).getD no [] = C.img.getD no [] := by
   rw [List.getD_eq_getElem?_getD, List.getElem?_set_ne (Ne.symm e), ← List.getD_eq_getElem?_getD]
  rw [e1]
  refine zif fun ch hch hp => ?_
  simp only [decide_eq_false_iff_not, Decidable.not_not] at hp
  obtain ⟨c2, h1, h2, h3⟩ := hrd.1 _ hp
  obtain ⟨i, hi⟩ := List.mem_iff_getElem?.1 hch
  obtain ⟨j, hj⟩ := List.mem_iff_getElem?.1 (List.mem_of_mem_take h1)
  have := zjj h.ids hi hj h2.symm
  subst this
  rw [hi] at hj
  cases hj
  omega
theorem zek {C C' : CS} (h : C.Ok) {no : Int} (hf : zlx C C' no) : C'.img.length = C.img.length ∧ C'.last = C.last ∧ ∀ k < C.img.length, C'.see k = C.see k := by
 rcases hf with rfl | ⟨k, ids, rfl, hk, hrd, rfl⟩
 ·exact ⟨rfl, rfl, fun _ _ => rfl⟩
 ·refine ⟨?_, rfl, fun j hj => zkt h hk hrd hj⟩
  show (C.img.set _ _).length = _
  rw [List.length_set]
theorem zgi {C : CS} {no : Nat} {a : Int} {b : List UInt8} {needs : List Int} {k : Nat} : (C.put no a b needs).see k = if no = k then layB (C.see k) a.toNat b else C.see k := by
 unfold CS.see CS.put
 rw [z1a]
 by_cases e : no = k
 ·rw [if_pos e, if_pos (by subst e; rfl)]
 ·rw [if_neg e, if_neg (by show ¬ ((no : Int) = (k : Int)); omega)]
def small (n : Int) : Prop := 0 ≤ n ∧ n ≤ 65535
instance {n : Int} : Decidable (small n) := by unfold small; infer_instance
def numI (i : Ino) : List Int := [i.d0, i.d1, i.d2, i.d3, i.d4, i.d5, i.ind]
def zcf : Ino := ⟨0, 0, 0, 0, 0, 0, 0, 0, 0, 0, 0⟩
def MayI (i : Ino) : Prop := (0 ≤ i.kind ∧ i.kind ≤ 2 ∧ (i.kind = 0 → i = zcf)) ∧ small i.links ∧ small i.parent ∧ 0 ≤ i.size ∧ i.size ≤ 34304 ∧ ∀ n ∈ numI i, small n
instance {i : Ino} : Decidable (MayI i) := by unfold MayI; infer_instance
def aggI (l : List Int) : D := .agg (l.map (.int .i64))
theorem zuw : zC Tryz.prog 165 = some ⟨(Tryz.f165.body.getD .skip), 9, #[.tmp 2]⟩ := by
 unfold zC
 rw [Tryz.func165]
 rfl
theorem zt6 : zC Tryz.prog 156 = some ⟨(Tryz.f156.body.getD .skip), 52, #[.tmp 2]⟩ := by
 unfold zC
 rw [Tryz.func156]
 rfl
theorem zfz : (zC Tryz.prog 165).isSome = true := by kernel_rfl
theorem zzx : (zC Tryz.prog 157).isSome = true := by kernel_rfl
theorem zyw : (zC Tryz.prog 156).isSome = true := by kernel_rfl
theorem zo9 (n : Int) : Ev cfg 165 [.int .i64 n] (.ret (.d (.bool (decide (small n))))) := by
 refine kD rfl rfl zuw ?_
 show Wp cfg (Tryz.f165.body.getD .skip) ((.d (.int .i64 n)) :: (.tup []) :: (.tup []) :: (.tup []) :: (.tup []) :: (.tup []) :: (.tup []) :: (.tup []) :: (.tup []) :: []) [] [] _
 conv => arg 2; whnf
 by_cases h1 : n ≥ 0
 ·have e : decide (small n) = decide (n ≤ 65535) := by
   by_cases h : n ≤ 65535
   ·rw [decide_eq_true h]; exact decide_eq_true ⟨h1, h⟩
   ·rw [decide_eq_false h]; exact decide_eq_false (fun hh => h hh.2)
  rw [e]
  simp (maxSteps:=1000000) (disch:=first|assumption|omega|rfl) only [↓gp, gc, Nat.reduceAdd]
  exact zP rfl rfl rfl
 ·have e : decide (small n) = false := decide_eq_false (fun hh => h1 hh.1)
  rw [e]
  simp (maxSteps:=1000000) (disch:=first|assumption|omega|rfl) only [↓gp, gc, Nat.reduceAdd]
  exact zP rfl rfl rfl
theorem ziu (i : Ino) : Ev cfg 157 [qK i] (.ret (.d (aggI (numI i)))) := ⟨1000, by kernel_rfl⟩
section
variable {ops : Array Oper} {dst : Option Tmp} {k : List Oper} {T : List V} {S : zB} {F : Dfs} {Q : Post}
theorem z0y {n : Int} : WpR cfg ops dst k T S F Q (some (.enter 165 [.d (.int .i64 n)])) = WpL cfg ops k (putT T dst (.d (.bool (decide (small n))))) S F Q := qA (ds := [.int .i64 n]) rfl (zo9 n)
theorem zcg {i : Ino} : WpR cfg ops dst k T S F Q (some (.enter 157 [.d (qK i)])) = WpL cfg ops k (putT T dst (.d (aggI (numI i)))) S F Q := qA (ds := [qK i]) rfl (ziu i)
end
theorem zgq {e : TypeId} (he : Tryz.prog.underlying e = some (.int .i64)) : ∀ (xs ys : List Int), xs.length = ys.length → eqLs Tryz.prog e xs.length (xs.map (.int .i64)) (ys.map (.int .i64)) = some (decide (xs = ys))
 | [], [], _ => rfl
 | x :: xs, y :: ys, h => by
  have ih := zgq he xs ys (by simpa using h)
  have h1 : vK Tryz.prog e (.int .i64 x) (.int .i64 y) = some (x == y) := by simp [vK, he]
  simp only [List.length_cons, List.map_cons, eqLs, h1]
  by_cases hx : x = y
  ·subst hx
   simp only [beq_self_eq_true, ih]
   congr 1
   by_cases hq : xs = ys
   ·rw [decide_eq_true hq, decide_eq_true (by rw [hq])]
   ·rw [decide_eq_false hq, decide_eq_false (by simpa using hq)]
  ·have h2 : (x == y) = false := by simp [hx]
   rw [h2]
   simp [hx]
theorem u3 : Tryz.prog.underlying 3 = some (.int .i64) := by kernel_rfl
theorem eq61 (i j : Ino) : eqD Tryz.prog 8 70 (qK i) (qK j) = some (decide (i = j)) := by
 have hs : Tryz.prog.stoodInHeld 70 = false := by kernel_rfl
 have hu59 : Tryz.prog.underlying 68 = some (.array 6 3) := by kernel_rfl
 have hs3 : sz Tryz.prog 3 = some 1 := by kernel_rfl
 have p0 : ∀ {x0 x1 x2 x3 x4 x5 x6 x7 x8 x9 x10 : D}, z1c Tryz.prog 3 [x0, x1, x2, x3, x4, x5, x6, x7, x8, x9, x10] 0 = some x0 := by intros; kernel_rfl
 have p1 : ∀ {x0 x1 x2 x3 x4 x5 x6 x7 x8 x9 x10 : D}, z1c Tryz.prog 3 [x0, x1, x2, x3, x4, x5, x6, x7, x8, x9, x10] 1 = some x1 := by intros; kernel_rfl
 have p2 : ∀ {x0 x1 x2 x3 x4 x5 x6 x7 x8 x9 x10 : D}, z1c Tryz.prog 3 [x0, x1, x2, x3, x4, x5, x6, x7, x8, x9, x10] 2 = some x2 := by intros; kernel_rfl
 have p3 : ∀ {x0 x1 x2 x3 x4 x5 x6 x7 x8 x9 x10 : D}, z1c Tryz.prog 3 [x0, x1, x2, x3, x4, x5, x6, x7, x8, x9, x10] 3 = some x3 := by intros; kernel_rfl
 have p4 : ∀ {x0 x1 x2 x3 x4 x5 x6 x7 x8 x9 x10 : D}, z1c Tryz.prog 68 [x0, x1, x2, x3, x4, x5, x6, x7, x8, x9, x10] 4 = some (.agg [x4, x5, x6, x7, x8, x9]) := by intros; kernel_rfl
 have p5 : ∀ {x0 x1 x2 x3 x4 x5 x6 x7 x8 x9 x10 : D}, z1c Tryz.prog 3 [x0, x1, x2, x3, x4, x5, x6, x7, x8, x9, x10] 10 = some x10 := by intros; kernel_rfl
 have g3 : ∀ x y : Int, eqD Tryz.prog 7 3 (.int .i64 x) (.int .i64 y) = some (x == y) := fun x y => by simp [eqD, vK, u3]
 have xN : ∀ (a b c d e f a' b' c' d' e' f' : Int), eqD Tryz.prog 7 68 (.agg [.int .i64 a, .int .i64 b, .int .i64 c, .int .i64 d, .int .i64 e, .int .i64 f]) (.agg [.int .i64 a', .int .i64 b', .int .i64 c', .int .i64 d', .int .i64 e', .int .i64 f']) = some (decide ([a, b, c, d, e, f] = [a', b', c', d', e', f'])) := by
  intro a b c d e f a' b' c' d' e' f'
  have := zgq u3 [a, b, c, d, e, f] [a', b', c', d', e', f'] rfl
  simp only [List.length_cons, List.length_nil, List.map_cons, List.map_nil] at this
  simp only [eqD, hu59, hs3]
  rw [← this]
  rfl
 obtain ⟨k, l, s, p, a, b, c, d, e, f, n⟩ := i
 obtain ⟨k', l', s', p', a', b', c', d', e', f', n'⟩ := j
 unfold eqD qK
 simp only [Tryz.underlying70, hs, Bool.false_eq_true, if_false]
 simp only [eqFs, p0, p1, p2, p3, p4, p5, g3, xN]
 simp only [ne_eq, String.reduceEq, not_false_eq_true, if_true]
 by_cases h1 : k = k'
 ·by_cases h2 : l = l'
  ·by_cases h3 : s = s'
   ·by_cases h4 : p = p'
    ·by_cases h5 : [a, b, c, d, e, f] = [a', b', c', d', e', f']
     ·by_cases h6 : n = n'
      ·simp only [List.cons.injEq, and_true] at h5
       simp [h1, h2, h3, h4, h5, h6]
      ·simp only [List.cons.injEq, and_true] at h5
       have e6 : (n == n') = false := by simp [h6]
       simp [h1, h2, h3, h4, h5, h6, e6]
     ·rw [decide_eq_false h5]
      simp only [List.cons.injEq, and_true] at h5
      simp only [h1, h2, h3, h4, beq_self_eq_true]
      refine congrArg some (decide_eq_false ?_).symm
      intro h
      simp only [Ino.mk.injEq] at h
      exact h5 ⟨h.2.2.2.2.1, h.2.2.2.2.2.1, h.2.2.2.2.2.2.1, h.2.2.2.2.2.2.2.1, h.2.2.2.2.2.2.2.2.1, h.2.2.2.2.2.2.2.2.2.1⟩
    ·have e4 : (p == p') = false := by simp [h4]
     simp [h1, h2, h3, h4, e4]
   ·have e3 : (s == s') = false := by simp [h3]
    simp [h1, h2, h3, e3]
  ·have e2 : (l == l') = false := by simp [h2]
   simp [h1, h2, e2]
 ·have e1 : (k == k') = false := by simp [h1]
  simp [h1, e1]
theorem ne61 {u : V} {i j : Ino} {v : V} (hu : IsI u i) (hv : IsI v j) : binV Tryz.prog .neq 70 u v = some (.d (.bool (decide (i ≠ j)))) ∧ binV Tryz.prog .eql 70 u v = some (.d (.bool (decide (i = j)))) := by
 have h1 : ptrT Tryz.prog 70 = false := by kernel_rfl
 have h2 : mapT Tryz.prog 70 = false := by kernel_rfl
 have h3 : fnT Tryz.prog 70 = false := by kernel_rfl
 have h4 : Tryz.prog.eqGuardType Tryz.prog.depth 70 = false := by kernel_rfl
 have ha : asD u = some (qK i) := by rcases hu with rfl | rfl <;> rfl
 have hb : asD v = some (qK j) := by rcases hv with rfl | rfl <;> rfl
 have h8 : eqV Tryz.prog 70 u v = some (decide (i = j)) := by
  have h7 := eq61 i j
  simp only [eqV, h1, h2, h3, ha, hb, Bool.false_eq_true, if_false]
  simp only [qK, h4, Bool.false_eq_true, if_false] at h7 ⊢
  exact h7
 have hn : (!decide (i = j)) = decide (i ≠ j) := by by_cases h : i = j <;> simp [h]
 constructor
 ·have : binV Tryz.prog .neq 70 u v = (eqV Tryz.prog 70 u v).map fun b => .d (.bool (!b)) := by rcases hu with rfl | rfl <;> rfl
  rw [this, h8, Option.map_some, hn]
 ·have : binV Tryz.prog .eql 70 u v = (eqV Tryz.prog 70 u v).map fun b => .d (.bool b) := by rcases hu with rfl | rfl <;> rfl
  rw [this, h8, Option.map_some]
section
variable {i : Ino} {d x y : Nat}
theorem li_0 : qT Tryz.prog 3 0 (some (.d (qK i))) = some (.d (.int .i64 i.kind)) := by kernel_rfl
theorem li_1 : qT Tryz.prog 3 1 (some (.d (qK i))) = some (.d (.int .i64 i.links)) := by kernel_rfl
theorem li_2 : qT Tryz.prog 3 2 (some (.d (qK i))) = some (.d (.int .i64 i.size)) := by kernel_rfl
theorem li_3 : qT Tryz.prog 3 3 (some (.d (qK i))) = some (.d (.int .i64 i.parent)) := by kernel_rfl
theorem z5c : zT Tryz.prog 70 0 (.ref d x y) = some (.ref d x (y + 0)) := by kernel_rfl
theorem zaj : zT Tryz.prog 70 1 (.ref d x y) = some (.ref d x (y + 1)) := by kernel_rfl
theorem za7 : zT Tryz.prog 70 2 (.ref d x y) = some (.ref d x (y + 2)) := by kernel_rfl
theorem zas : zT Tryz.prog 70 3 (.ref d x y) = some (.ref d x (y + 3)) := by kernel_rfl
theorem z6z : zT Tryz.prog 70 4 (.ref d x y) = some (.ref d x (y + 4)) := by kernel_rfl
theorem z7f : zT Tryz.prog 70 5 (.ref d x y) = some (.ref d x (y + 10)) := by kernel_rfl
theorem zti : wY Tryz.prog 70 [] = some z61V := by kernel_rfl
end
theorem q01 {l : List Int} (hl : l.length = 7) {j : Nat} (hj : j < l.length) : z2n Tryz.prog 218 (.d (aggI l)) (.d (.int .i64 (j : Int))) = some (.d (.int .i64 l[j])) := by
 have hu : Tryz.prog.underlying 218 = some (.array 7 3) := by kernel_rfl
 have hs : sz Tryz.prog 3 = some 1 := by kernel_rfl
 have ha : aggT Tryz.prog 3 = false := by kernel_rfl
 have hag : (aggI l).isAgg = true := rfl
 have hc : (aggI l).cells = l.map (.int .i64) := rfl
 simp only [z2n, intOf?, hu, hs]
 rw [if_pos ⟨by omega, by omega⟩]
 simp only [hag, hc, if_true, z1c, hs, ha, List.length_map, Int.toNat_natCast, Nat.mul_one]
 rw [if_pos (by omega)]
 simp only [Bool.false_eq_true, if_false, if_true, List.getElem?_map, List.getElem?_eq_getElem hj, Option.map_some]
theorem ztw (S : zB) (l : List Int) (hl : l.length = 7) (R : Post) : ∀ (k j : Nat) (g0 g1 g2 g3 g4 g5 g6 g7 g8 g9 gI gE gG gB gC gA gD gL gM gF gK gN gJ gH gO gP gT gQ gU gR gS gV gW gX gY gZ gh gj gk gn gr gz hH hU hZ xA xB xC xD xE : V), l.length - j = k → j ≤ l.length → (∀ n ∈ l.take j, small n) →
 (∀ j' g0 g1 g2 g3 g4 g5 g6 g7 g8 g9 gI gE gG gB gC gA gD gL gM gF gK gN gJ gH gO gP gT gQ gU gR gS gV gW gX gY gZ gh gj gk gn gr gz hH hU hZ xA xB xC xD xE, (∀ n ∈ l, small n) → R (.exit 0) (g0 :: g1 :: g2 :: g3 :: g4 :: g5 :: g6 :: g7 :: g8 :: g9 :: gI :: gE :: gG :: gB :: gC :: gA :: gD :: gL :: gM :: gF :: gK :: gN :: gJ :: gH :: gO :: gP :: gT :: gQ :: gU :: gR :: gS :: gV :: gW :: gX :: gY :: gZ :: gh :: gj :: gk :: gn :: gr :: gz :: hH :: hU :: (.d (aggI l)) :: j' :: hZ :: xA :: xB :: xC :: xD :: xE :: []) S []) →
 (∀ T, ¬ (∀ n ∈ l, small n) → T.getD 2 (.tup []) = .d (.int .i64 1) → R .ret T S []) →
 Wp cfg (.loop (lpOf (Tryz.f156.body.getD .skip) 0)) (g0 :: g1 :: g2 :: g3 :: g4 :: g5 :: g6 :: g7 :: g8 :: g9 :: gI :: gE :: gG :: gB :: gC :: gA :: gD :: gL :: gM :: gF :: gK :: gN :: gJ :: gH :: gO :: gP :: gT :: gQ :: gU :: gR :: gS :: gV :: gW :: gX :: gY :: gZ :: gh :: gj :: gk :: gn :: gr :: gz :: hH :: hU :: (.d (aggI l)) :: (.d (.int .i64 (j : Int))) :: hZ :: xA :: xB :: xC :: xD :: xE :: []) S [] R := by
 intro k
 induction k with
 | zero =>
  intro j g0 g1 g2 g3 g4 g5 g6 g7 g8 g9 gI gE gG gB gC gA gD gL gM gF gK gN gJ gH gO gP gT gQ gU gR gS gV gW gX gY gZ gh gj gk gn gr gz hH hU hZ xA xB xC xD xE hk hj hs hR hR2
  have hje : j = 7 := by omega
  subst hje
  rw [List.take_of_length_le (by omega)] at hs
  rw [zR]
  refine zL ?_
  conv => arg 2; whnf
  have h7 : ¬ ((7 : Nat) : Int) < 7 := by omega
  simp (maxSteps:=1000000) (disch:=first|assumption|omega|rfl) only [↓gp, gc, Nat.reduceAdd]
  exact hR _ _ _ _ _ _ _ _ _ _ _ _ _ _ _ _ _ _ _ _ _ _ _ _ _ _ _ _ _ _ _ _ _ _ _ _ _ _ _ _ _ _ _ _ _ _ _ _ _ _ _ hs
 | succ k ih =>
  intro j g0 g1 g2 g3 g4 g5 g6 g7 g8 g9 gI gE gG gB gC gA gD gL gM gF gK gN gJ gH gO gP gT gQ gU gR gS gV gW gX gY gZ gh gj gk gn gr gz hH hU hZ xA xB xC xD xE hk hj hs hR hR2
  have hlt : j < l.length := by omega
  have hlt7 : (j : Int) < 7 := by omega
  have hix := q01 hl hlt
  have h3 : IntKind.i64.wrap ((j : Int) + 1) = ((j + 1 : Nat) : Int) := by rw [wrap64 (by omega)]; omega
  rw [zR]
  refine zL ?_
  conv => arg 2; whnf
  by_cases h : small l[j]
  ·have hc := fun {ops dst k T S F Q} => z0y (ops := ops) (dst := dst) (k := k) (T := T) (S := S) (F := F) (Q := Q) (n := l[j])
   rw [decide_eq_true h] at hc
   simp (maxSteps:=1000000) (disch:=first|assumption|omega|rfl) only [↓gp, gc, Nat.reduceAdd, hix, hc, zfz, jG, Bool.not_true, h3]
   refine ih (j + 1) _ _ _ _ _ _ _ _ _ _ _ _ _ _ _ _ _ _ _ _ _ _ _ _ _ _ _ _ _ _ _ _ _ _ _ _ _ _ _ _ _ _ _ _ _ _ _ _ _ _ (by omega) (by omega) ?_ hR hR2
   intro n hn
   rw [List.take_add_one, List.getElem?_eq_getElem hlt] at hn
   rcases List.mem_append.1 hn with hn | hn
   ·exact hs n hn
   ·simp only [Option.toList_some, List.mem_singleton] at hn; subst hn; exact h
  ·have hc := fun {ops dst k T S F Q} => z0y (ops := ops) (dst := dst) (k := k) (T := T) (S := S) (F := F) (Q := Q) (n := l[j])
   rw [decide_eq_false h] at hc
   simp (maxSteps:=1000000) (disch:=first|assumption|omega|rfl) only [↓gp, gc, Nat.reduceAdd, hix, hc, zfz, jG, Bool.not_false]
   exact hR2 _ (fun hh => h (hh _ (List.getElem_mem hlt))) rfl
theorem zhu : Ev cfg 156 [qK zcf] (.ret (.d (.int .i64 0))) := ⟨1000, by kernel_rfl⟩
theorem zcq (i : Ino) : Ev cfg 156 [qK i] (.ret (.d (.int .i64 (if MayI i then 0 else 1)))) := by
 by_cases hz : i = zcf
 ·subst hz
  rw [if_pos (by decide)]
  exact zhu
 refine kD rfl rfl zt6 ?_
 show Wp cfg (Tryz.f156.body.getD .skip) ((.d (qK i)) :: uZ (uZ (uZ (uZ (uZ ((.tup []) :: [])))))) [] [] _
 unfold uZ
 conv => arg 2; whnf
 have hne := (ne61 (u := .d (qK i)) (i := i) (j := zcf) (v := z61V) (.inl rfl) (.inr rfl)).1
 have bad : ∀ (h : ¬ MayI i), (if MayI i then (0 : Int) else 1) = 1 := fun h => if_neg h
 by_cases h1 : i.kind < 0
 ·rw [bad (fun h => by have := h.1.1; omega)]
  simp (maxSteps:=1000000) (disch:=first|assumption|omega|rfl) only [↓gp, gc, Nat.reduceAdd, ftI, z5c, li_0]
  exact zP rfl rfl rfl
 by_cases h2 : i.kind > 2
 ·rw [bad (fun h => by have := h.1.2.1; omega)]
  simp (maxSteps:=1000000) (disch:=first|assumption|omega|rfl) only [↓gp, gc, Nat.reduceAdd, ftI, z5c, li_0]
  exact zP rfl rfl rfl
 by_cases h3 : i.kind = 0 ∧ i ≠ zcf
 ·rw [bad (fun h => h3.2 (h.1.2.2 h3.1))]
  rw [decide_eq_true h3.2] at hne
  have hk := h3.1
  have hde : ∀ i' : Decidable (i.kind = 0), @decide (i.kind = 0) i' = true := fun i' => decide_eq_true hk
  simp (maxSteps:=1000000) (disch:=first|assumption|omega|rfl) only [↓gp, gc, Nat.reduceAdd, ftI, z5c, li_0, hde, lrI, zti, hne]
  exact zP rfl rfl rfl
 have hk0 : ¬ i.kind = 0 := fun hh => h3 ⟨hh, hz⟩
 have hde : ∀ i' : Decidable (i.kind = 0), @decide (i.kind = 0) i' = false := fun i' => decide_eq_false hk0
 have hc1 := fun {ops dst k T S F Q} => z0y (ops := ops) (dst := dst) (k := k) (T := T) (S := S) (F := F) (Q := Q) (n := i.links)
 have hc2 := fun {ops dst k T S F Q} => z0y (ops := ops) (dst := dst) (k := k) (T := T) (S := S) (F := F) (Q := Q) (n := i.parent)
 by_cases h4 : small i.links
 ·rw [decide_eq_true h4] at hc1
  by_cases h5 : small i.parent
  ·rw [decide_eq_true h5] at hc2
   by_cases h6 : i.size < 0
   ·rw [bad (fun h => by have := h.2.2.2.1; omega)]
    simp (maxSteps:=1000000) (disch:=first|assumption|omega|rfl) only [↓gp, gc, Nat.reduceAdd, ftI, z5c, zaj, za7, zas, li_0, li_1, li_2, li_3, hde, hc1, hc2, zfz, jG, Bool.not_true, zN]
    exact zP rfl rfl rfl
   ·by_cases h7 : i.size > 34304
    ·rw [bad (fun h => by have := h.2.2.2.2.1; omega)]
     simp (maxSteps:=1000000) (disch:=first|assumption|omega|rfl) only [↓gp, gc, Nat.reduceAdd, ftI, z5c, zaj, za7, zas, li_0, li_1, li_2, li_3, hde, hc1, hc2, zfz, jG, Bool.not_true, zN]
     exact zP rfl rfl rfl
    ·have hn := fun {ops dst k T S F Q} => zcg (ops := ops) (dst := dst) (k := k) (T := T) (S := S) (F := F) (Q := Q) (i := i)
     simp (maxSteps:=1000000) (disch:=first|assumption|omega|rfl) only [↓gp, gc, Nat.reduceAdd, ftI, z5c, zaj, za7, zas, li_0, li_1, li_2, li_3, hde, hc1, hc2, zfz, jG, Bool.not_true, zN, lrI, hn, zzx]
     refine ztw _ (numI i) rfl _ 7 0 _ _ _ _ _ _ _ _ _ _ _ _ _ _ _ _ _ _ _ _ _ _ _ _ _ _ _ _ _ _ _ _ _ _ _ _ _ _ _ _ _ _ _ _ _ _ _ _ _ _ rfl (Nat.zero_le _) (by simp) ?_ ?_
     ·intro j' g0 g1 g2 g3 g4 g5 g6 g7 g8 g9 gI gE gG gB gC gA gD gL gM gF gK gN gJ gH gO gP gT gQ gU gR gS gV gW gX gY gZ gh gj gk gn gr gz hH hU hZ xA xB xC xD xE hs
      have hm : MayI i := ⟨⟨by omega, by omega, fun hh => absurd hh hk0⟩, h4, h5, by omega, by omega, hs⟩
      rw [if_pos hm]
      simp (maxSteps:=1000000) (disch:=first|assumption|omega|rfl) only [↓gp, gc, Nat.reduceAdd]
      exact zP rfl rfl rfl
     ·intro T hs hT
      rw [bad (fun h => hs h.2.2.2.2.2)]
      exact zP hT rfl rfl
  ·rw [decide_eq_false h5] at hc2
   rw [bad (fun h => h5 h.2.2.1)]
   simp (maxSteps:=1000000) (disch:=first|assumption|omega|rfl) only [↓gp, gc, Nat.reduceAdd, ftI, z5c, zaj, za7, zas, li_0, li_1, li_2, li_3, hde, hc1, hc2, zfz, jG, Bool.not_true, Bool.not_false, zN]
   exact zP rfl rfl rfl
 ·rw [decide_eq_false h4] at hc1
  rw [bad (fun h => h4 h.2.1)]
  simp (maxSteps:=1000000) (disch:=first|assumption|omega|rfl) only [↓gp, gc, Nat.reduceAdd, ftI, z5c, zaj, za7, zas, li_0, li_1, li_2, li_3, hde, hc1, hc2, zfz, jG, Bool.not_true, Bool.not_false, zN]
  exact zP rfl rfl rfl
def inoN (k l s p : Nat) (ns : List Nat) : Ino := ⟨k, l, s, p, ns.getD 0 0, ns.getD 1 0, ns.getD 2 0, ns.getD 3 0, ns.getD 4 0, ns.getD 5 0, ns.getD 6 0⟩
theorem zxp {k l s p : Nat} {ns : List Nat} : ∀ (j : Nat) (h : j < (numI (inoN k l s p ns)).length), (numI (inoN k l s p ns))[j] = ((ns.getD j 0 : Nat) : Int)
 | 0, _ => rfl
 | 1, _ => rfl
 | 2, _ => rfl
 | 3, _ => rfl
 | 4, _ => rfl
 | 5, _ => rfl
 | 6, _ => rfl
 | j + 7, h => absurd (show j + 7 < 7 from h) (by omega)
def za0 (k l s p : Nat) : List UInt8 := layB (layB (layB (layB (zK 256) 0 (leB 1 k)) 2 (leB 2 l)) 4 (leB 4 s)) 8 (leB 2 p)
def z9g (b : List UInt8) (ns : List Nat) (j : Nat) : List UInt8 := (List.range j).foldl (fun b k => layB b (10 + 2 * k) (leB 2 (ns.getD k 0))) b
theorem z6m {b : List UInt8} {ns : List Nat} {j : Nat} : z9g b ns (j + 1) = layB (z9g b ns j) (10 + 2 * j) (leB 2 (ns.getD j 0)) := by
 unfold z9g
 rw [List.range_succ, List.foldl_append]
 rfl
theorem zi2 {b : List UInt8} {ns : List Nat} : z9g b ns 0 = b := rfl
theorem z19 {b : List UInt8} {ns : List Nat} (hb : b.length = 256) : ∀ j, j ≤ 7 → (z9g b ns j).length = 256
 | 0, _ => hb
 | j + 1, h => by rw [z6m, jB (by rw [z19 hb j (by omega), qV]; omega), z19 hb j (by omega)]
theorem z5n {k l s p : Nat} : (za0 k l s p).length = 256 := by
 unfold za0
 have h1 : (layB (zK 256) 0 (leB 1 k)).length = 256 := by rw [jB (by rw [qV, z256]; omega), z256]
 have h2 : (layB (layB (zK 256) 0 (leB 1 k)) 2 (leB 2 l)).length = 256 := by rw [jB (by rw [qV, h1]; omega), h1]
 have h3 : (layB (layB (layB (zK 256) 0 (leB 1 k)) 2 (leB 2 l)) 4 (leB 4 s)).length = 256 := by rw [jB (by rw [qV, h2]; omega), h2]
 rw [jB (by rw [qV, h3]; omega), h3]
def inoB (k l s p : Nat) (ns : List Nat) : List UInt8 := (z9g (za0 k l s p) ns 7).take 32
theorem zoe {k l s p : Nat} {ns : List Nat} : (inoB k l s p ns).length = 32 := by unfold inoB; rw [List.length_take, z19 z5n 7 (by omega)]; omega
theorem zn8 : zC Tryz.prog 139 = some ⟨(Tryz.f139.body.getD .skip), 55, #[.cell 2 180, .tmp 3]⟩ := by
 unfold zC
 rw [Tryz.func139]
 rfl
theorem zty (i : Ino) (hm : ¬ MayI i) : Ev cfg 139 [qK i] (.ret (.tup [.d (blkD (zK 32)), .d (.int .i64 1)])) := by
 refine kD rfl rfl zn8 ?_
 show Wp cfg (Tryz.f139.body.getD .skip) ((.d (qK i)) :: uZ (uZ (uZ (uZ (uZ ((.tup []) :: (.tup []) :: (.tup []) :: (.tup []) :: [])))))) [] [] _
 unfold uZ
 conv => arg 2; whnf
 have hc : ∀ {ops dst k T S F Q}, WpR cfg ops dst k T S F Q (some (.enter 156 [.d (qK i)])) = WpL cfg ops k (putT T dst (.d (.int .i64 1))) S F Q := fun {ops dst k T S F Q} => qA (C := cfg) (ds := [qK i]) rfl (by have := zcq i; rwa [if_neg hm] at this)
 have hld := bt158.load (v := blkV (zK 32)) isB_v z32l
 have hst := bt158.store (v := blkV (zK 32)) isB_v z32l (w := blkV (zK 32)) isB_v z32l
 simp (maxSteps:=1000000) (disch:=first|assumption|omega|rfl) only [↓gp, gc, Nat.reduceAdd, ftI, z158, zih, lrI, hc, zyw, hld, hst, zN]
 exact z2y rfl rfl ((zG rfl).trans hld) rfl rfl rfl isB_v.frz
theorem zxz (k0 l s p : Nat) (ns : List Nat) (x0 x1 x2 : Ob) (R : Post) : ∀ (k j : Nat) (u : V) (g0 g3 g5 g7 g8 g9 gI gE gG gB gC gA gD gL gM gF gK gN gJ gH gO gP gT gQ gU gR gS gV gW gZ gh gj gk gn gr gz hH hU hY xF hZ xA xB xC xD xE xG xH xI : V), 7 - j = k → j ≤ 7 → IsB u (z9g (za0 k0 l s p) ns j) →
 (∀ u j' g0 g3 g5 g7 g8 g9 gI gE gG gB gC gA gD gL gM gF gK gN gJ gH gO gP gT gQ gU gR gS gV gW gZ gh gj gk gn gr gz hH hU hY xF hZ xA xB xC xD xE xG xH xI, IsB u (z9g (za0 k0 l s p) ns 7) → R (.exit 0) (g0 :: (.ref 0 0 0) :: (.ref 1 0 0) :: g3 :: (.ref 2 0 0) :: g5 :: (.ref 3 0 0) :: g7 :: g8 :: g9 :: gI :: gE :: gG :: gB :: gC :: gA :: gD :: gL :: gM :: gF :: gK :: gN :: gJ :: gH :: gO :: gP :: gT :: gQ :: gU :: gR :: gS :: gV :: gW :: (.d (aggI (numI (inoN k0 l s p ns)))) :: j' :: gZ :: gh :: gj :: gk :: gn :: gr :: gz :: hH :: hU :: hY :: xF :: hZ :: xA :: xB :: xC :: xD :: xE :: xG :: xH :: xI :: []) [x0, x1, x2, .row [u] 42] []) →
 Wp cfg (.loop (lpOf (Tryz.f139.body.getD .skip) 0)) (g0 :: (.ref 0 0 0) :: (.ref 1 0 0) :: g3 :: (.ref 2 0 0) :: g5 :: (.ref 3 0 0) :: g7 :: g8 :: g9 :: gI :: gE :: gG :: gB :: gC :: gA :: gD :: gL :: gM :: gF :: gK :: gN :: gJ :: gH :: gO :: gP :: gT :: gQ :: gU :: gR :: gS :: gV :: gW :: (.d (aggI (numI (inoN k0 l s p ns)))) :: (.d (.int .i64 (j : Int))) :: gZ :: gh :: gj :: gk :: gn :: gr :: gz :: hH :: hU :: hY :: xF :: hZ :: xA :: xB :: xC :: xD :: xE :: xG :: xH :: xI :: []) [x0, x1, x2, .row [u] 42] [] R := by
 intro k
 induction k with
 | zero =>
  intro j u g0 g3 g5 g7 g8 g9 gI gE gG gB gC gA gD gL gM gF gK gN gJ gH gO gP gT gQ gU gR gS gV gW gZ gh gj gk gn gr gz hH hU hY xF hZ xA xB xC xD xE xG xH xI hk hj hu hR
  have hje : j = 7 := by omega
  subst hje
  have h7 : ¬ ((7 : Nat) : Int) < 7 := by omega
  rw [zR]
  refine zL ?_
  conv => arg 2; whnf
  simp (maxSteps:=1000000) (disch:=first|assumption|omega|rfl) only [↓gp, gc, Nat.reduceAdd]
  exact hR _ _ _ _ _ _ _ _ _ _ _ _ _ _ _ _ _ _ _ _ _ _ _ _ _ _ _ _ _ _ _ _ _ _ _ _ _ _ _ _ _ _ _ _ _ _ _ _ _ _ _ hu
 | succ k ih =>
  intro j u g0 g3 g5 g7 g8 g9 gI gE gG gB gC gA gD gL gM gF gK gN gJ gH gO gP gT gQ gU gR gS gV gW gZ gh gj gk gn gr gz hH hU hY xF hZ xA xB xC xD xE xG xH xI hk hj hu hR
  have hlt : j < 7 := by omega
  have hlt7 : (j : Int) < 7 := by omega
  have hnl : (numI (inoN k0 l s p ns)).length = 7 := rfl
  have hix := q01 (l := numI (inoN k0 l s p ns)) hnl (j := j) (by rw [hnl]; exact hlt)
  rw [zxp] at hix
  have hl := z19 (ns := ns) (z5n (k := k0) (l := l) (s := s) (p := p)) j (by omega)
  have hl2 := z19 (ns := ns) (z5n (k := k0) (l := l) (s := s) (p := p)) (j + 1) (by omega)
  rw [z6m] at hl2
  have h1 : IntKind.i64.wrap (2 * (j : Int)) = ((2 * j : Nat) : Int) := by rw [wrap64 (by omega)]; omega
  have h2 : IntKind.i64.wrap (10 + ((2 * j : Nat) : Int)) = ((10 + 2 * j : Nat) : Int) := by rw [wrap64 (by omega)]; omega
  have h3 : IntKind.i64.wrap ((j : Int) + 1) = ((j + 1 : Nat) : Int) := by rw [wrap64 (by omega)]; omega
  have hc := fun {ops dst k T S F Q} => z02 (ops := ops) (dst := dst) (k := k) (T := T) (S := S) (F := F) (Q := Q) hu hl (k0 := 10 + 2 * j) (w := 2) (v := ns.getD j 0) (by omega) (by omega) (by omega)
  simp only [nl2] at hc
  have hld := bt42.load hu hl
  have hst := bt42.store (v := .d (blkD (layB (z9g (za0 k0 l s p) ns j) (10 + 2 * j) (leB 2 (ns.getD j 0))))) jT hl2 hu hl
  have hu1 := hu.one
  rw [zR]
  refine zL ?_
  conv => arg 2; whnf
  simp (maxSteps:=1000000) (disch:=first|assumption|omega|rfl) only [↓gp, gc, Nat.reduceAdd, hix, hld, h1, h2, h3, hu1, hc, zkv, hst]
  exact ih (j + 1) _ _ _ _ _ _ _ _ _ _ _ _ _ _ _ _ _ _ _ _ _ _ _ _ _ _ _ _ _ _ _ _ _ _ _ _ _ _ _ _ _ _ _ _ _ _ _ _ _ _ (by omega) (by omega) (by rw [z6m]; exact jT) hR
theorem zxg (b : List UInt8) (hb : b.length = 256) (x0 x1 : Ob) (u : V) (hu : IsB u b) (R : Post) : ∀ (k j : Nat) (v : V) (g0 g1 g3 g5 g7 g8 g9 gI gE gG gB gC gA gD gL gM gF gK gN gJ gH gO gP gT gQ gU gR gS gV gW gX gY gZ gh gj gk gn gr gz hH hU hY hZ xA xB xC xD xE xG xH xI : V), 32 - j = k → j ≤ 32 → IsB v (wM (b.take 32) j) →
 (∀ v j' g0 g1 g3 g5 g7 g8 g9 gI gE gG gB gC gA gD gL gM gF gK gN gJ gH gO gP gT gQ gU gR gS gV gW gX gY gZ gh gj gk gn gr gz hH hU hY hZ xA xB xC xD xE xG xH xI, IsB v (b.take 32) → R (.exit 2) (g0 :: g1 :: (.ref 1 0 0) :: g3 :: (.ref 2 0 0) :: g5 :: (.ref 3 0 0) :: g7 :: g8 :: g9 :: gI :: gE :: gG :: gB :: gC :: gA :: gD :: gL :: gM :: gF :: gK :: gN :: gJ :: gH :: gO :: gP :: gT :: gQ :: gU :: gR :: gS :: gV :: gW :: gX :: gY :: gZ :: gh :: gj :: gk :: gn :: gr :: gz :: hH :: hU :: hY :: j' :: hZ :: xA :: xB :: xC :: xD :: xE :: xG :: xH :: xI :: []) [x0, x1, .row [v] 180, .row [u] 42] []) →
 Wp cfg (.loop (lpOf (Tryz.f139.body.getD .skip) 2)) (g0 :: g1 :: (.ref 1 0 0) :: g3 :: (.ref 2 0 0) :: g5 :: (.ref 3 0 0) :: g7 :: g8 :: g9 :: gI :: gE :: gG :: gB :: gC :: gA :: gD :: gL :: gM :: gF :: gK :: gN :: gJ :: gH :: gO :: gP :: gT :: gQ :: gU :: gR :: gS :: gV :: gW :: gX :: gY :: gZ :: gh :: gj :: gk :: gn :: gr :: gz :: hH :: hU :: hY :: (.d (.int .i64 (j : Int))) :: hZ :: xA :: xB :: xC :: xD :: xE :: xG :: xH :: xI :: []) [x0, x1, .row [v] 180, .row [u] 42] [] R := by
 intro k
 have htl : (b.take 32).length = 32 := by rw [List.length_take]; omega
 induction k with
 | zero =>
  intro j v g0 g1 g3 g5 g7 g8 g9 gI gE gG gB gC gA gD gL gM gF gK gN gJ gH gO gP gT gQ gU gR gS gV gW gX gY gZ gh gj gk gn gr gz hH hU hY hZ xA xB xC xD xE xG xH xI hk hj hv hR
  have hje : j = 32 := by omega
  subst hje
  have e : wM (b.take 32) 32 = b.take 32 := by
   have : wM (b.take 32) (b.take 32).length = b.take 32 := by unfold wM zK; rw [List.take_length, Nat.sub_self]; simp
   rw [htl] at this; exact this
  rw [e] at hv
  have h7 : ¬ ((32 : Nat) : Int) < 32 := by omega
  rw [zR]
  refine zL ?_
  conv => arg 2; whnf
  simp (maxSteps:=1000000) (disch:=first|assumption|omega|rfl) only [↓gp, gc, Nat.reduceAdd]
  exact hR _ _ _ _ _ _ _ _ _ _ _ _ _ _ _ _ _ _ _ _ _ _ _ _ _ _ _ _ _ _ _ _ _ _ _ _ _ _ _ _ _ _ _ _ _ _ _ _ _ _ _ _ _ hv
 | succ k ih =>
  intro j v g0 g1 g3 g5 g7 g8 g9 gI gE gG gB gC gA gD gL gM gF gK gN gJ gH gO gP gT gQ gU gR gS gV gW gX gY gZ gh gj gk gn gr gz hH hU hY hZ xA xB xC xD xE xG xH xI hk hj hv hR
  have hlt : j < 32 := by omega
  have hlt7 : (j : Int) < 32 := by omega
  have hfl := z5o (t := b.take 32) (i := j) (by omega)
  have h3 : IntKind.i64.wrap ((j : Int) + 1) = ((j + 1 : Nat) : Int) := by rw [wrap64 (by omega)]; omega
  have hia := fun S j' x => ia42 (S := S) (j := j') (x := x) (i := j) (by omega)
  have hia2 := fun S j' x => q12 (S := S) (j := j') (x := x) (i := j) hlt
  have hg := bt42.get hu hb (i := j) (by omega)
  have he : b[j] = (b.take 32)[j]'(by omega) := by rw [List.getElem_take]
  rw [he] at hg
  have hpt := bt158.put hv (hfl.trans htl) (i := j) (by omega) (x := (b.take 32)[j]'(by omega))
  rw [z5q (by omega)] at hpt
  rw [zR]
  refine zL ?_
  conv => arg 2; whnf
  simp (maxSteps:=1000000) (disch:=first|assumption|omega|rfl) only [↓gp, gc, Nat.reduceAdd, h3, hia, hia2, hg, hpt]
  exact ih (j + 1) _ _ _ _ _ _ _ _ _ _ _ _ _ _ _ _ _ _ _ _ _ _ _ _ _ _ _ _ _ _ _ _ _ _ _ _ _ _ _ _ _ _ _ _ _ _ _ _ _ _ _ _ (by omega) (by omega) isB_v hR
theorem zxm (k0 l s p : Nat) (ns : List Nat) (hm : MayI (inoN k0 l s p ns)) : Ev cfg 139 [qK (inoN k0 l s p ns)] (.ret (.tup [.d (blkD (inoB k0 l s p ns)), .d (.int .i64 0)])) := by
 refine kD rfl rfl zn8 ?_
 show Wp cfg (Tryz.f139.body.getD .skip) ((.d (qK (inoN k0 l s p ns))) :: uZ (uZ (uZ (uZ (uZ ((.tup []) :: (.tup []) :: (.tup []) :: (.tup []) :: [])))))) [] [] _
 unfold uZ
 conv => arg 2; whnf
 have hc : ∀ {ops dst k T S F Q}, WpR cfg ops dst k T S F Q (some (.enter 156 [.d (qK (inoN k0 l s p ns))])) = WpL cfg ops k (putT T dst (.d (.int .i64 0))) S F Q := fun {ops dst k T S F Q} => qA (C := cfg) (ds := [qK (inoN k0 l s p ns)]) rfl (by have := zcq (inoN k0 l s p ns); rwa [if_pos hm] at this)
 have l0 := z256
 have w1 := fun {ops dst k T S F Q} => z02 (ops := ops) (dst := dst) (k := k) (T := T) (S := S) (F := F) (Q := Q) (u := blkV (zK 256)) isB_v z256 (k0 := 0) (w := 1) (v := k0) (by omega) (by omega) (by omega)
 have l1 : (layB (zK 256) 0 (leB 1 k0)).length = 256 := by rw [jB (by rw [qV, z256]; omega), z256]
 have w2 := fun {ops dst k T S F Q} => z02 (ops := ops) (dst := dst) (k := k) (T := T) (S := S) (F := F) (Q := Q) (u := .d (blkD _)) jT l1 (k0 := 2) (w := 2) (v := l) (by omega) (by omega) (by omega)
 have l2 : (layB (layB (zK 256) 0 (leB 1 k0)) 2 (leB 2 l)).length = 256 := by rw [jB (by rw [qV, l1]; omega), l1]
 have w3 := fun {ops dst k T S F Q} => z02 (ops := ops) (dst := dst) (k := k) (T := T) (S := S) (F := F) (Q := Q) (u := .d (blkD _)) jT l2 (k0 := 4) (w := 4) (v := s) (by omega) (by omega) (by omega)
 have l3 : (layB (layB (layB (zK 256) 0 (leB 1 k0)) 2 (leB 2 l)) 4 (leB 4 s)).length = 256 := by rw [jB (by rw [qV, l2]; omega), l2]
 have w4 := fun {ops dst k T S F Q} => z02 (ops := ops) (dst := dst) (k := k) (T := T) (S := S) (F := F) (Q := Q) (u := .d (blkD _)) jT l3 (k0 := 8) (w := 2) (v := p) (by omega) (by omega) (by omega)
 simp only [nl0, nl1, nl2, nl4, nl8] at w1 w2 w3 w4
 have e4 : layB (layB (layB (layB (zK 256) 0 (leB 1 k0)) 2 (leB 2 l)) 4 (leB 4 s)) 8 (leB 2 p) = za0 k0 l s p := by unfold za0; rfl
 simp only [e4] at w4
 have l4 := z5n (k := k0) (l := l) (s := s) (p := p)
 have q0 : qT Tryz.prog 3 0 (some (.d (qK (inoN k0 l s p ns)))) = some (.d (.int .i64 (k0 : Int))) := li_0
 have q1 : qT Tryz.prog 3 1 (some (.d (qK (inoN k0 l s p ns)))) = some (.d (.int .i64 (l : Int))) := li_1
 have q2 : qT Tryz.prog 3 2 (some (.d (qK (inoN k0 l s p ns)))) = some (.d (.int .i64 (s : Int))) := li_2
 have q3 : qT Tryz.prog 3 3 (some (.d (qK (inoN k0 l s p ns)))) = some (.d (.int .i64 (p : Int))) := li_3
 have hn := fun {ops dst k T S F Q} => zcg (ops := ops) (dst := dst) (k := k) (T := T) (S := S) (F := F) (Q := Q) (i := inoN k0 l s p ns)
 simp (maxSteps:=1000000) (disch:=first|assumption|omega|rfl) only [↓gp, gc, Nat.reduceAdd, ftI, z158, zih, lrI, hc, zyw, z42, zf42, z5c, zaj, za7, zas, q0, q1, q2, q3, z8z, z08, z9j, zpq, zhn, w1, w2, w3, w4, zkv, hn, zzx]
 refine zxz k0 l s p ns _ _ _ _ 7 0 _ _ _ _ _ _ _ _ _ _ _ _ _ _ _ _ _ _ _ _ _ _ _ _ _ _ _ _ _ _ _ _ _ _ _ _ _ _ _ _ _ _ _ _ _ _ _ _ _ _ rfl (by omega) (by rw [zi2]; exact jT) ?_
 intro u j' g0 g3 g5 g7 g8 g9 gI gE gG gB gC gA gD gL gM gF gK gN gJ gH gO gP gT gQ gU gR gS gV gW gZ gh gj gk gn gr gz hH hU hY xF hZ xA xB xC xD xE xG xH xI hu
 simp (maxSteps:=1000000) (disch:=first|assumption|omega|rfl) only [↓gp, gc, Nat.reduceAdd]
 have hbl := z19 (ns := ns) (z5n (k := k0) (l := l) (s := s) (p := p)) 7 (by omega)
 have hvl : ((z9g (za0 k0 l s p) ns 7).take 32).length = 32 := by rw [List.length_take, hbl]; rfl
 unfold inoB
 generalize z9g (za0 k0 l s p) ns 7 = b7 at *
 have e0 : wM (b7.take 32) 0 = zK 32 := by unfold wM; rw [hvl, List.take_zero, List.nil_append]
 refine zxg b7 hbl _ _ u hu _ 32 0 (blkV (zK 32)) _ _ _ _ _ _ _ _ _ _ _ _ _ _ _ _ _ _ _ _ _ _ _ _ _ _ _ _ _ _ _ _ _ _ _ _ _ _ _ _ _ _ _ _ _ _ _ _ _ _ _ rfl (by omega) (by rw [e0]; exact isB_v) ?_
 intro v j2 g0 g1 g3 g5 g7 g8 g9 gI gE gG gB gC gA gD gL gM gF gK gN gJ gH gO gP gT gQ gU gR gS gV gW gX gY gZ gh gj gk gn gr gz hH hU hY hZ xA xB xC xD xE xG xH xI hv
 have hld := bt158.load hv hvl
 have hst := bt158.store hv hvl (w := blkV (zK 32)) isB_v z32l
 simp (maxSteps:=1000000) (disch:=first|assumption|omega|rfl) only [↓gp, gc, Nat.reduceAdd, hld, hst]
 exact z2y rfl rfl ((zG rfl).trans hld) rfl hv.one rfl hv.frz
def fld (x : List UInt8) (k w : Nat) : Nat := leN ((x.drop k).take w)
def getX (x : List UInt8) : Ino := inoN (fld x 0 1) (fld x 2 2) (fld x 4 4) (fld x 8 2) [fld x 10 2, fld x 12 2, fld x 14 2, fld x 16 2, fld x 18 2, fld x 20 2, fld x 22 2]
def getI (b : List UInt8) : Ino := getX (layB (zK 256) 0 b)
theorem sI4 {x0 x1 x2 x3 x4 x5 x6 x7 x8 x9 x10 : V} {n : Int} : qM Tryz.prog 3 4 (.d (.int .i64 n)) (.agg [x0, x1, x2, x3, x4, x5, x6, x7, x8, x9, x10]) = some (.agg [x0, x1, x2, x3, .d (.int .i64 n), x5, x6, x7, x8, x9, x10]) := by kernel_rfl
theorem sI5 {x0 x1 x2 x3 x4 x5 x6 x7 x8 x9 x10 : V} {n : Int} : qM Tryz.prog 3 5 (.d (.int .i64 n)) (.agg [x0, x1, x2, x3, x4, x5, x6, x7, x8, x9, x10]) = some (.agg [x0, x1, x2, x3, x4, .d (.int .i64 n), x6, x7, x8, x9, x10]) := by kernel_rfl
theorem sI6 {x0 x1 x2 x3 x4 x5 x6 x7 x8 x9 x10 : V} {n : Int} : qM Tryz.prog 3 6 (.d (.int .i64 n)) (.agg [x0, x1, x2, x3, x4, x5, x6, x7, x8, x9, x10]) = some (.agg [x0, x1, x2, x3, x4, x5, .d (.int .i64 n), x7, x8, x9, x10]) := by kernel_rfl
theorem sI7 {x0 x1 x2 x3 x4 x5 x6 x7 x8 x9 x10 : V} {n : Int} : qM Tryz.prog 3 7 (.d (.int .i64 n)) (.agg [x0, x1, x2, x3, x4, x5, x6, x7, x8, x9, x10]) = some (.agg [x0, x1, x2, x3, x4, x5, x6, .d (.int .i64 n), x8, x9, x10]) := by kernel_rfl
theorem sI8 {x0 x1 x2 x3 x4 x5 x6 x7 x8 x9 x10 : V} {n : Int} : qM Tryz.prog 3 8 (.d (.int .i64 n)) (.agg [x0, x1, x2, x3, x4, x5, x6, x7, x8, x9, x10]) = some (.agg [x0, x1, x2, x3, x4, x5, x6, x7, .d (.int .i64 n), x9, x10]) := by kernel_rfl
theorem sI9 {x0 x1 x2 x3 x4 x5 x6 x7 x8 x9 x10 : V} {n : Int} : qM Tryz.prog 3 9 (.d (.int .i64 n)) (.agg [x0, x1, x2, x3, x4, x5, x6, x7, x8, x9, x10]) = some (.agg [x0, x1, x2, x3, x4, x5, x6, x7, x8, .d (.int .i64 n), x10]) := by kernel_rfl
theorem sI10 {x0 x1 x2 x3 x4 x5 x6 x7 x8 x9 x10 : V} {n : Int} : qM Tryz.prog 3 10 (.d (.int .i64 n)) (.agg [x0, x1, x2, x3, x4, x5, x6, x7, x8, x9, x10]) = some (.agg [x0, x1, x2, x3, x4, x5, x6, x7, x8, x9, .d (.int .i64 n)]) := by kernel_rfl
theorem lI {x0 x1 x2 x3 x4 x5 x6 x7 x8 x9 x10 : V} : qT Tryz.prog 70 0 (some (.agg [x0, x1, x2, x3, x4, x5, x6, x7, x8, x9, x10])) = some (.agg [x0, x1, x2, x3, x4, x5, x6, x7, x8, x9, x10]) := by kernel_rfl
theorem sI0 {x0 x1 x2 x3 x4 x5 x6 x7 x8 x9 x10 y0 y1 y2 y3 y4 y5 y6 y7 y8 y9 y10 : V} : qM Tryz.prog 70 0 (.agg [x0, x1, x2, x3, x4, x5, x6, x7, x8, x9, x10]) (.agg [y0, y1, y2, y3, y4, y5, y6, y7, y8, y9, y10]) = some (.agg [x0, x1, x2, x3, x4, x5, x6, x7, x8, x9, x10]) := by kernel_rfl
theorem wa0 : (10 + 2 * 0 : Int) = 10 := by decide
theorem wi0 : (0 + 1 : Int) = 1 := by decide
theorem wa1 : (10 + 2 * 1 : Int) = 12 := by decide
theorem wi1 : (1 + 1 : Int) = 2 := by decide
theorem wa2 : (10 + 2 * 2 : Int) = 14 := by decide
theorem wi2 : (2 + 1 : Int) = 3 := by decide
theorem wa3 : (10 + 2 * 3 : Int) = 16 := by decide
theorem wi3 : (3 + 1 : Int) = 4 := by decide
theorem wa4 : (10 + 2 * 4 : Int) = 18 := by decide
theorem wi4 : (4 + 1 : Int) = 5 := by decide
theorem wa5 : (10 + 2 * 5 : Int) = 20 := by decide
theorem wi5 : (5 + 1 : Int) = 6 := by decide
theorem nl14 : ((14 : Nat) : Int) = 14 := rfl
theorem nl18 : ((18 : Nat) : Int) = 18 := rfl
theorem nl22 : ((22 : Nat) : Int) = 22 := rfl
theorem z4e {ops : Array Oper} {dst : Option Tmp} {k : List Oper} {T : List V} {S : zB} {F : Dfs} {Q : Post} {b : List UInt8} (hb : b.length = 256) {k0 w : Nat} (hk0 : k0 + w ≤ 256) (hw1 : 1 ≤ w) (hw4 : w ≤ 4) : WpR cfg ops dst k T S F Q (some (.enter 119 [.d (blkD b), .d (.int .i64 (k0 : Int)), .d (.int .i64 (w : Int))])) = WpL cfg ops k (putT T dst (.d (.int .i64 (leN ((b.drop k0).take w) : Int)))) S F Q :=
 qA (ds := [blkD b, .int .i64 (k0 : Int), .int .i64 (w : Int)]) rfl (q0g b hb k0 w hk0 hw1 hw4)
theorem q2v {a b c d : Int} : wY Tryz.prog 70 [(0, .d (.int .i64 a)), (1, .d (.int .i64 b)), (2, .d (.int .i64 c)), (3, .d (.int .i64 d))] = some (.agg [.d (.int .i64 a), .d (.int .i64 b), .d (.int .i64 c), .d (.int .i64 d), .d (.int .i64 0), .d (.int .i64 0), .d (.int .i64 0), .d (.int .i64 0), .d (.int .i64 0), .d (.int .i64 0), .d (.int .i64 0)]) := by kernel_rfl
theorem ia59 {S : zB} {j x y : Nat} {i : Nat} (hi : i < 6) : zI Tryz.prog S 68 (.ref j x y) (.d (.int .i64 (i : Int))) = some (.ref j x (y + i)) := by
 have hu : Tryz.prog.underlying 68 = some (.array 6 3) := by kernel_rfl
 have hs : sz Tryz.prog 3 = some 1 := by kernel_rfl
 simp only [zI, intOf?, hu, hs]
 rw [if_pos ⟨by omega, by omega⟩]
 simp
theorem z72 {S : zB} {j x y : Nat} : zI Tryz.prog S 68 (.ref j x y) (.d (.int .i64 0)) = some (.ref j x (y + 0)) := ia59 (i := 0) (by omega)
theorem z76 {S : zB} {j x y : Nat} : zI Tryz.prog S 68 (.ref j x y) (.d (.int .i64 1)) = some (.ref j x (y + 1)) := ia59 (i := 1) (by omega)
theorem z7j {S : zB} {j x y : Nat} : zI Tryz.prog S 68 (.ref j x y) (.d (.int .i64 2)) = some (.ref j x (y + 2)) := ia59 (i := 2) (by omega)
theorem z7c {S : zB} {j x y : Nat} : zI Tryz.prog S 68 (.ref j x y) (.d (.int .i64 3)) = some (.ref j x (y + 3)) := ia59 (i := 3) (by omega)
theorem z7g {S : zB} {j x y : Nat} : zI Tryz.prog S 68 (.ref j x y) (.d (.int .i64 4)) = some (.ref j x (y + 4)) := ia59 (i := 4) (by omega)
theorem z71 {S : zB} {j x y : Nat} : zI Tryz.prog S 68 (.ref j x y) (.d (.int .i64 5)) = some (.ref j x (y + 5)) := ia59 (i := 5) (by omega)
theorem zvx {S : zB} {a : Nat} {u : V} {b : List UInt8} (ha : S[a]? = some (.row [u] 180)) (hu : IsB u b) (hl : b.length = 32) : Go.Vm.frz S zJ (.cs a 0 0 32) = some (encB b) := by
 show (match S[a]? with
  | some (.row xs e) => match xs[0]? with
   | some x => if x.isAgg && 0 + 32 ≤ x.cells.length && (allO (Go.Vm.frz S 11) xs).isSome then (allO z2b ((x.cells.drop 0).take 32)).map D.sl else none
   | none => none
  | some (.fz xs e) => match xs[0]? with
   | some x => if x.isAgg && 0 + 32 ≤ x.cells.length then some (D.sl ((x.cells.drop 0).take 32)) else none
   | none => none
  | _ => none) = _
 have ht : ((b.map fun x => V.d (byD x)).drop 0).take 32 = b.map fun x => V.d (byD x) := by rw [List.drop_zero, List.take_of_length_le (by simp; omega)]
 have h1 : allO (Go.Vm.frz S 11) [u] = some [blkD b] := by simp only [allO, hu.frz (n := 9)]
 have h2 : allO z2b (b.map fun x => V.d (byD x)) = some (b.map byD) := by
  clear ht h1 hu hl
  induction b with
  | nil => rfl
  | cons x r ih =>
   have h : z2b (.d (byD x)) = some (byD x) := rfl
   simp only [List.map_cons, allO, h, ih]
 simp only [ha, List.getElem?_cons_zero, hu.isAgg, hu.cells, List.length_map, hl, h1, Option.isSome_some, ht, h2, Bool.and_self, Option.map_some, Nat.zero_add, Nat.le_refl, decide_true, if_true]
 rfl
theorem zto : zC Tryz.prog 150 = some ⟨(Tryz.f150.body.getD .skip), 33, #[.cell 2 70]⟩ := by
 unfold zC
 rw [Tryz.func150]
 rfl
theorem zv1 : (zC Tryz.prog 150).isSome = true := by kernel_rfl
theorem z61' : zeroV Tryz.prog 70 = some z61V := z61
theorem zyu (b : List UInt8) (hb : b.length = 32) : Ev cfg 150 [blkD b] (.ret (.d (qK (getI b)))) := by
 refine kD rfl rfl zto ?_
 show Wp cfg (Tryz.f150.body.getD .skip) ((.d (blkD b)) :: uZ (uZ (uZ ((.tup []) :: (.tup []) :: [])))) [] [] _
 unfold uZ
 conv => arg 2; whnf
 have hf : qB Tryz.prog 180 (.d (blkD b)) = true := bt158.fits jT hb
 have hx : (layB (zK 256) 0 b).length = 256 := by rw [jB (by rw [z256]; omega), z256]
 have hsl : ∀ l : zB, wN Tryz.prog (.row [.d (blkD b)] 180 :: l) 180 (.ref 0 0 0) Option.none Option.none = some (.cs 0 0 0 32) := fun l => q1l rfl
 have hof : ∀ {ops dst k T F Q} (l : zB), WpR cfg ops dst k T (.row [.d (blkD b)] 180 :: l) F Q (some (.enter 145 [.cs 0 0 0 32])) = WpL cfg ops k (putT T dst (.d (blkD (layB (zK 256) 0 b)))) (.row [.d (blkD b)] 180 :: l) F Q := fun {ops dst k T F Q} l => zj9 (C := cfg) (ds := [encB b]) rfl (by simp only [allO, zvx (S := .row [.d (blkD b)] 180 :: l) (a := 0) rfl jT hb]) (by
   show D.plain (blkD _) = true
   simp only [D.plain, blkD, List.all_eq_true, List.mem_map]
   rintro _ ⟨x, _, rfl⟩
   rfl) (zxi b (by omega))
 have hcs1 : (V.cs 0 0 0 32).one = true := rfl
 have l0 := z256
 simp (maxSteps:=1000000) (disch:=first|assumption|omega|rfl) only [↓gp, gc, Nat.reduceAdd, hf, z61', zf61, zbu, Option.map_none, hsl, hcs1, hof, zuz, z42, zf42, z9j]
 have d1 := fun {ops F Q K rd cs i dst T S} => zhv (ops := ops) (F := F) (Q := Q) (K := K) (rd := rd) (cs := cs) (i := i) (dst := dst) (T := T) (S := S) hx (k0 := 0) (w := 1) (by omega) (by omega) (by omega)
 have d2 := fun {ops F Q K rd cs i dst T S} => zhv (ops := ops) (F := F) (Q := Q) (K := K) (rd := rd) (cs := cs) (i := i) (dst := dst) (T := T) (S := S) hx (k0 := 2) (w := 2) (by omega) (by omega) (by omega)
 have d3 := fun {ops F Q K rd cs i dst T S} => zhv (ops := ops) (F := F) (Q := Q) (K := K) (rd := rd) (cs := cs) (i := i) (dst := dst) (T := T) (S := S) hx (k0 := 4) (w := 4) (by omega) (by omega) (by omega)
 have d4 := fun {ops F Q K rd cs i dst T S} => zhv (ops := ops) (F := F) (Q := Q) (K := K) (rd := rd) (cs := cs) (i := i) (dst := dst) (T := T) (S := S) hx (k0 := 8) (w := 2) (by omega) (by omega) (by omega)
 simp only [nl0, nl1, nl2, nl4, nl8] at d1 d2 d3 d4
 unfold getI
 generalize layB (zK 256) 0 b = x at *
 refine wU (is := [0, 2, 4, 6, 1, 3, 5, 7, 8, 9, 10]) (h := 11) (by kernel_rfl) (by kernel_rfl) ?_
 simp (maxSteps:=1000000) (disch:=first|assumption|omega|rfl) only [List.replicate_zero, eq_self, gd, ga, Nat.reduceAdd, ↓gq, vso, d1, d2, d3, d4, z8x, z08, q2v, z80 z61 zf61, z6g, true_and, sI0]
 refine ⟨fun _ => by kernel_rfl, ?_⟩
 refine ⟨by kernel_rfl, ?_⟩
 have a0 := fun {ops dst k T S F Q} => z4e (ops := ops) (dst := dst) (k := k) (T := T) (S := S) (F := F) (Q := Q) hx (k0 := 10) (w := 2) (by omega) (by omega) (by omega)
 have a1 := fun {ops dst k T S F Q} => z4e (ops := ops) (dst := dst) (k := k) (T := T) (S := S) (F := F) (Q := Q) hx (k0 := 12) (w := 2) (by omega) (by omega) (by omega)
 have a2 := fun {ops dst k T S F Q} => z4e (ops := ops) (dst := dst) (k := k) (T := T) (S := S) (F := F) (Q := Q) hx (k0 := 14) (w := 2) (by omega) (by omega) (by omega)
 have a3 := fun {ops dst k T S F Q} => z4e (ops := ops) (dst := dst) (k := k) (T := T) (S := S) (F := F) (Q := Q) hx (k0 := 16) (w := 2) (by omega) (by omega) (by omega)
 have a4 := fun {ops dst k T S F Q} => z4e (ops := ops) (dst := dst) (k := k) (T := T) (S := S) (F := F) (Q := Q) hx (k0 := 18) (w := 2) (by omega) (by omega) (by omega)
 have a5 := fun {ops dst k T S F Q} => z4e (ops := ops) (dst := dst) (k := k) (T := T) (S := S) (F := F) (Q := Q) hx (k0 := 20) (w := 2) (by omega) (by omega) (by omega)
 have a6 := fun {ops dst k T S F Q} => z4e (ops := ops) (dst := dst) (k := k) (T := T) (S := S) (F := F) (Q := Q) hx (k0 := 22) (w := 2) (by omega) (by omega) (by omega)
 simp only [nl2, nl10, nl12, nl14, nl16, nl18, nl20, nl22] at a0 a1 a2 a3 a4 a5 a6
 simp (maxSteps:=1000000) (disch:=first|assumption|omega|rfl) only [↓gp, gc, Nat.reduceAdd, z08, wa0, wa1, wa2, wa3, wa4, wa5, wi0, wi1, wi2, wi3, wi4, wi5, a0, a1, a2, a3, a4, a5, a6, z8x, z6z, z7f, z72, z76, z7j, z7c, z7g, z71, sI4, sI5, sI6, sI7, sI8, sI9, sI10, lI, sI0]
 rw [zR]
 refine zL ?_
 conv => arg 2; whnf
 simp (maxSteps:=1000000) (disch:=first|assumption|omega|rfl) only [↓gp, gc, Nat.reduceAdd, z08, wa0, wa1, wa2, wa3, wa4, wa5, wi0, wi1, wi2, wi3, wi4, wi5, a0, a1, a2, a3, a4, a5, a6, z8x, z6z, z7f, z72, z76, z7j, z7c, z7g, z71, sI4, sI5, sI6, sI7, sI8, sI9, sI10, lI, sI0]
 rw [zR]
 refine zL ?_
 conv => arg 2; whnf
 simp (maxSteps:=1000000) (disch:=first|assumption|omega|rfl) only [↓gp, gc, Nat.reduceAdd, z08, wa0, wa1, wa2, wa3, wa4, wa5, wi0, wi1, wi2, wi3, wi4, wi5, a0, a1, a2, a3, a4, a5, a6, z8x, z6z, z7f, z72, z76, z7j, z7c, z7g, z71, sI4, sI5, sI6, sI7, sI8, sI9, sI10, lI, sI0]
 rw [zR]
 refine zL ?_
 conv => arg 2; whnf
 simp (maxSteps:=1000000) (disch:=first|assumption|omega|rfl) only [↓gp, gc, Nat.reduceAdd, z08, wa0, wa1, wa2, wa3, wa4, wa5, wi0, wi1, wi2, wi3, wi4, wi5, a0, a1, a2, a3, a4, a5, a6, z8x, z6z, z7f, z72, z76, z7j, z7c, z7g, z71, sI4, sI5, sI6, sI7, sI8, sI9, sI10, lI, sI0]
 rw [zR]
 refine zL ?_
 conv => arg 2; whnf
 simp (maxSteps:=1000000) (disch:=first|assumption|omega|rfl) only [↓gp, gc, Nat.reduceAdd, z08, wa0, wa1, wa2, wa3, wa4, wa5, wi0, wi1, wi2, wi3, wi4, wi5, a0, a1, a2, a3, a4, a5, a6, z8x, z6z, z7f, z72, z76, z7j, z7c, z7g, z71, sI4, sI5, sI6, sI7, sI8, sI9, sI10, lI, sI0]
 rw [zR]
 refine zL ?_
 conv => arg 2; whnf
 simp (maxSteps:=1000000) (disch:=first|assumption|omega|rfl) only [↓gp, gc, Nat.reduceAdd, z08, wa0, wa1, wa2, wa3, wa4, wa5, wi0, wi1, wi2, wi3, wi4, wi5, a0, a1, a2, a3, a4, a5, a6, z8x, z6z, z7f, z72, z76, z7j, z7c, z7g, z71, sI4, sI5, sI6, sI7, sI8, sI9, sI10, lI, sI0]
 rw [zR]
 refine zL ?_
 conv => arg 2; whnf
 simp (maxSteps:=1000000) (disch:=first|assumption|omega|rfl) only [↓gp, gc, Nat.reduceAdd, z08, wa0, wa1, wa2, wa3, wa4, wa5, wi0, wi1, wi2, wi3, wi4, wi5, a0, a1, a2, a3, a4, a5, a6, z8x, z6z, z7f, z72, z76, z7j, z7c, z7g, z71, sI4, sI5, sI6, sI7, sI8, sI9, sI10, lI, sI0]
 rw [zR]
 refine zL ?_
 conv => arg 2; whnf
 simp (maxSteps:=1000000) (disch:=first|assumption|omega|rfl) only [↓gp, gc, Nat.reduceAdd, z08, wa0, wa1, wa2, wa3, wa4, wa5, wi0, wi1, wi2, wi3, wi4, wi5, a0, a1, a2, a3, a4, a5, a6, z8x, z6z, z7f, z72, z76, z7j, z7c, z7g, z71, sI4, sI5, sI6, sI7, sI8, sI9, sI10, lI, sI0]
 exact wK (u := .ref 1 0 0) (v := inoV (getX x)) rfl ((zG rfl).trans lI) rfl rfl
def putI (i : Ino) : List UInt8 := inoB i.kind.toNat i.links.toNat i.size.toNat i.parent.toNat ((numI i).map Int.toNat)
theorem zbr {i : Ino} : (putI i).length = 32 := zoe
theorem MayI.nat {i : Ino} (h : MayI i) : i = inoN i.kind.toNat i.links.toNat i.size.toNat i.parent.toNat ((numI i).map Int.toNat) := by
 obtain ⟨⟨k1, k2, _⟩, ⟨l1, _⟩, ⟨p1, _⟩, s1, s2, hn⟩ := h
 obtain ⟨k, l, s, p, d0, d1, d2, d3, d4, d5, d6⟩ := i
 simp only [numI, List.forall_mem_cons, small] at hn k1 l1 p1 s1
 obtain ⟨⟨a0, _⟩, ⟨a1, _⟩, ⟨a2, _⟩, ⟨a3, _⟩, ⟨a4, _⟩, ⟨a5, _⟩, ⟨a6, _⟩, _⟩ := hn
 simp only [inoN, numI, List.map_cons, List.map_nil, List.getD_cons_zero, List.getD_cons_succ, Int.toNat_of_nonneg, k1, l1, p1, s1, a0, a1, a2, a3, a4, a5, a6]
theorem zv0 (i : Ino) (hm : MayI i) : Ev cfg 139 [qK i] (.ret (.tup [.d (blkD (putI i)), .d (.int .i64 0)])) := by
 have e := hm.nat
 have h := zxm i.kind.toNat i.links.toNat i.size.toNat i.parent.toNat ((numI i).map Int.toNat) (e ▸ hm)
 rw [← e] at h
 exact h
def z4v (b : List UInt8) : Ino × Bool := if MayI (getI b) ∧ putI (getI b) = b then (getI b, true) else (zcf, false)
theorem zjo (P : Program) {e : TypeId} (he : P.underlying e = some (.int .u8)) : ∀ (xs ys : List UInt8), xs.length = ys.length → eqLs P e xs.length (xs.map byD) (ys.map byD) = some (decide (xs = ys))
 | [], [], _ => rfl
 | x :: xs, y :: ys, h => by
  have ih := zjo P he xs ys (by simpa using h)
  have hxy : ((x.toNat : Int) == (y.toNat : Int)) = (x == y) := by
   by_cases e : x = y
   ·subst e; simp
   ·have h1 : (x == y) = false := by simp [e]
    have h2 : ¬ (x.toNat : Int) = (y.toNat : Int) := fun hh => e (UInt8.toNat_inj.1 (by omega))
    rw [h1]
    exact beq_eq_false_iff_ne.2 h2
  have h1 : vK P e (byD x) (byD y) = some (x == y) := by
   simp only [vK, he, byD, if_true, hxy]
  simp only [List.length_cons, List.map_cons, eqLs, h1]
  by_cases hx : x = y
  ·subst hx
   simp only [beq_self_eq_true, ih]
   congr 1
   by_cases hq : xs = ys
   ·rw [decide_eq_true hq, decide_eq_true (by rw [hq])]
   ·rw [decide_eq_false hq, decide_eq_false (by simpa using hq)]
  ·have h2 : (x == y) = false := by simp [hx]
   rw [h2]
   simp [hx]
theorem zx0 {u : V} {b : List UInt8} (h : IsB u b) : asD u = some (blkD b) := by
 rcases h with rfl | rfl
 ·rfl
 ·have h2 : ∀ b : List UInt8, allO z2b (b.map fun x => V.d (byD x)) = some (b.map byD) := fun b => by
   induction b with
   | nil => rfl
   | cons x r ih =>
    have h : z2b (.d (byD x)) = some (byD x) := rfl
    simp only [List.map_cons, allO, h, ih]
  show (allO z2b (b.map fun x => V.d (byD x))).map D.agg = _
  rw [h2]
  rfl
theorem neB (t n : Nat) (ht : BT Tryz.prog t 5 n) (h1 : ptrT Tryz.prog t = false) (h2 : mapT Tryz.prog t = false) (h3 : fnT Tryz.prog t = false) (h4 : Tryz.prog.eqGuardType Tryz.prog.depth t = false) {u v : V} {a b : List UInt8} (hu : IsB u a) (hv : IsB v b) (ha : a.length = n) (hb : b.length = n) : binV Tryz.prog .neq t u v = some (.d (.bool (decide (a ≠ b)))) ∧ binV Tryz.prog .eql t u v = some (.d (.bool (decide (a = b)))) := by
 have h5 : Tryz.prog.underlying 5 = some (.int .u8) := by kernel_rfl
 have h6 := zjo Tryz.prog h5 a b (by omega)
 have hs := ht.se
 rw [ha] at h6
 have h7 : eqD Tryz.prog 8 t (blkD a) (blkD b) = some (decide (a = b)) := by
  simp only [blkD, eqD, ht.u, hs]
  exact h6
 have h8 : eqV Tryz.prog t u v = some (decide (a = b)) := by
  simp only [eqV, h1, h2, h3, zx0 hu, zx0 hv, Bool.false_eq_true, if_false]
  simp only [blkD, h4, Bool.false_eq_true, if_false] at h7 ⊢
  exact h7
 have hn : (!decide (a = b)) = decide (a ≠ b) := by by_cases h : a = b <;> simp [h]
 constructor
 ·have : binV Tryz.prog .neq t u v = (eqV Tryz.prog t u v).map fun b => .d (.bool (!b)) := by rcases hu with rfl | rfl <;> rfl
  rw [this, h8, Option.map_some, hn]
 ·have : binV Tryz.prog .eql t u v = (eqV Tryz.prog t u v).map fun b => .d (.bool b) := by rcases hu with rfl | rfl <;> rfl
  rw [this, h8, Option.map_some]
theorem q2n {u v : V} {a b : List UInt8} (hu : IsB u a) (hv : IsB v b) (ha : a.length = 32) (hb : b.length = 32) : binV Tryz.prog .neq 180 u v = some (.d (.bool (decide (a ≠ b)))) := (neB 180 32 bt158 (by kernel_rfl) (by kernel_rfl) (by kernel_rfl) (by kernel_rfl) hu hv ha hb).1
theorem zu4 : zC Tryz.prog 123 = some ⟨(Tryz.f123.body.getD .skip), 23, #[.cell 2 70, .tmp 3]⟩ := by
 unfold zC
 rw [Tryz.func123]
 rfl
theorem zpb (b : List UInt8) (hb : b.length = 32) : Ev cfg 123 [blkD b] (.ret (.tup [.d (qK (z4v b).1), .d (.bool (z4v b).2)])) := by
 refine kD rfl rfl zu4 ?_
 show Wp cfg (Tryz.f123.body.getD .skip) ((.d (blkD b)) :: uZ (uZ ((.tup []) :: (.tup []) :: []))) [] [] _
 unfold uZ
 conv => arg 2; whnf
 have hf : qB Tryz.prog 180 (.d (blkD b)) = true := bt158.fits jT hb
 have hld := bt158.load (v := .d (blkD b)) jT hb
 have hg : ∀ {ops dst k T S F Q}, WpR cfg ops dst k T S F Q (some (.enter 150 [.d (blkD b)])) = WpL cfg ops k (putT T dst (.d (qK (getI b)))) S F Q := fun {ops dst k T S F Q} => qA (C := cfg) (ds := [blkD b]) rfl (zyu b hb)
 by_cases hm : MayI (getI b)
 ·have hp : ∀ {ops dst k T S F Q}, WpR cfg ops dst k T S F Q (some (.enter 139 [.d (qK (getI b))])) = WpL cfg ops k (putT T dst (.tup [.d (blkD (putI (getI b))), .d (.int .i64 0)])) S F Q := fun {ops dst k T S F Q} => qA (C := cfg) (ds := [qK (getI b)]) rfl (zv0 _ hm)
  have hld2 := bt158.load (v := .d (blkD (putI (getI b)))) jT zbr
  have hst2 := bt158.store (v := .d (blkD (putI (getI b)))) jT zbr (w := blkV (zK 32)) isB_v z32l
  have hne := q2n (u := .d (blkD (putI (getI b)))) (v := .d (blkD b)) jT jT zbr hb
  by_cases he : putI (getI b) = b
  ·have hc : z4v b = (getI b, true) := by unfold z4v; rw [if_pos ⟨hm, he⟩]
   rw [hc]
   rw [decide_eq_false (fun h => h he)] at hne
   simp (maxSteps:=1000000) (disch:=first|assumption|omega|rfl) only [↓gp, gc, Nat.reduceAdd, hf, hld, z61, zf61, hg, zv1, srI, lrI, hp, zwm, z158, zih, hld2, hst2, hne, zN]
   exact z2y rfl rfl ((zG rfl).trans lrI) rfl rfl rfl rfl
  ·have hc : z4v b = (zcf, false) := by unfold z4v; rw [if_neg (fun h => he h.2)]
   rw [hc]
   rw [decide_eq_true he] at hne
   simp (maxSteps:=1000000) (disch:=first|assumption|omega|rfl) only [↓gp, gc, Nat.reduceAdd, hf, hld, z61, zf61, hg, zv1, srI, lrI, hp, zwm, z158, zih, hld2, hst2, hne, zN, zti, sI0]
   exact z2y rfl rfl ((zG rfl).trans lI) rfl rfl rfl rfl
 ·have hc : z4v b = (zcf, false) := by unfold z4v; rw [if_neg (fun h => hm h.1)]
  rw [hc]
  have hp : ∀ {ops dst k T S F Q}, WpR cfg ops dst k T S F Q (some (.enter 139 [.d (qK (getI b))])) = WpL cfg ops k (putT T dst (.tup [.d (blkD (zK 32)), .d (.int .i64 1)])) S F Q := fun {ops dst k T S F Q} => qA (C := cfg) (ds := [qK (getI b)]) rfl (zty _ hm)
  have hst2 := bt158.store (v := .d (blkD (zK 32))) jT z32l (w := blkV (zK 32)) isB_v z32l
  simp (maxSteps:=1000000) (disch:=first|assumption|omega|rfl) only [↓gp, gc, Nat.reduceAdd, hf, hld, z61, zf61, hg, zv1, srI, lrI, hp, zwm, z158, zih, hst2, zN, zti, sI0]
  exact z2y rfl rfl ((zG rfl).trans lI) rfl rfl rfl rfl
def z7p (C : CS) (l : List Int) : List Int := (C.list.map (·.id)).filter (fun n => decide (n ∈ l))
theorem zgr {C : CS} (h : C.Ok) {l : List Int} : (z7p C l).Pairwise (· < ·) ∧ ∀ y ∈ z7p C l, 1 ≤ y ∧ y ≤ C.last := by
 refine ⟨List.Pairwise.sublist List.filter_sublist (List.pairwise_map.2 h.ids), ?_⟩
 intro y hy
 obtain ⟨ch, hch, rfl⟩ := List.mem_map.1 (List.mem_filter.1 hy).1
 obtain ⟨_, _, _, h4, h5, _⟩ := h.chs ch hch
 exact ⟨h4, h5⟩
theorem zpz {C : CS} (h : C.Ok) {l out : List Int} (ho : NdOk C l out) (hrg : ∀ x ∈ l, 1 ≤ x ∧ x ≤ C.last) : out = z7p C l := by
 refine zjt ho.1 (zgr h).1 fun x => ?_
 rw [ho.2 x]
 unfold z7p
 rw [List.mem_filter, List.mem_map, decide_eq_true_eq]
 constructor
 ·rintro ⟨a, b⟩
  refine ⟨?_, a⟩
  by_cases hh : ∃ ch, ch ∈ C.list ∧ ch.id = x
  ·exact hh
  ·exact absurd ⟨(hrg x a).1, (hrg x a).2, fun ch hch e => hh ⟨ch, hch, e⟩⟩ b
 ·rintro ⟨⟨ch, hch, rfl⟩, a⟩
  exact ⟨a, fun hd => hd.2.2 ch hch rfl⟩
theorem zaa (S : zB) (c r m : Nat) (C : CS) (h0 : CacheAt S c r m C) (v : V) (l : List Int) (hv : OwnS S v 3 (zW l)) (hl : l.length ≤ 50000) : EvS cfg 135 [.ref c 0 0, v] S (fun o S' => Keep S S' ∧ (((∀ x ∈ l, 1 ≤ x ∧ x ≤ C.last) ∧ ∃ nv, o = .ret (.tup [nv, .d (.bool true)]) ∧ OwnS S' nv 3 (zW (z7p C l))) ∨ (¬ (∀ x ∈ l, 1 ≤ x ∧ x ≤ C.last) ∧ o = .ret (.tup [.ts [], .d (.bool false)])))) := by
 refine qH rfl zu7 ?_
 show Wp cfg (Tryz.f135.body.getD .skip) ((.ref c 0 0) :: v :: uZ (uZ (uZ (uZ (uZ (uZ (uZ []))))))) S [] _
 unfold uZ
 conv => arg 2; whnf
 rw [zR]
 have hln : zO Tryz.prog S .len [22] [v] = some (.val (.d (.int .i64 (l.length : Int))) S 0) := by rw [wC Tryz.underlying22 hv, qC]
 simp (maxSteps:=1000000) (disch:=first|assumption|omega|rfl) only [↓gp, gc, Nat.reduceAdd, hln]
 refine zxu c r m C S h0 v l hv hl _ l.length 0 S (.ts []) [] _ _ _ _ _ _ _ _ _ _ _ _ _ _ _ _ _ _ _ _ _ _ _ _ _ _ _ _ _ _ _ _ _ _ _ _ _ _ _ _ _ _ _ _ _ _ _ _ _ _ _ _ _ _ _ _ _ _ _ _ _ _ _ _ _ _ _ rfl (Nat.zero_le _) Keep.refl (fun j _ => NotAt.ts) (.inl ⟨rfl, rfl⟩) (by simp) ⟨List.Pairwise.nil, fun x => by simp⟩ (fun x hx => by simp at hx) ?_ ?_
 ·intro S2 v6 out i' g1 g2 g3 g4 g5 g7 g8 g9 gB gC gA gD gL gM gF gK gN gJ gH gO gP gT gQ gU gR gS gV gW gX gY gZ gh gj gk gn gr gz hH hU hY xF hZ xA xB xC xD xE xG xH xI xJ xK xL xM xN xO xP xQ xR xS xT xU xV xW xX xY xZ hK ho hok hrg
  have hv1 := qL ho
  simp (maxSteps:=1000000) (disch:=first|assumption|omega|rfl) only [↓gp, gc, Nat.reduceAdd]
  refine ⟨rfl, _, z11 rfl rfl hv1 rfl, hK, .inl ⟨hrg, v6, rfl, ?_⟩⟩
  rw [← zpz h0.ok hok hrg]
  exact ho
 ·intro S2 T hK hrg h4 h5
  exact ⟨rfl, _, z11 h4 h5 rfl rfl, hK, .inr ⟨hrg, rfl⟩⟩
theorem zkp (S : zB) (c r m : Nat) (C : CS) (h0 : CacheAt S c r m C) (v : V) (l : List Int) (hv : OwnS S v 3 (zW l)) (hl : l.length ≤ 50000) (hrg : ∀ x ∈ l, 1 ≤ x ∧ x ≤ C.last) : EvS cfg 135 [.ref c 0 0, v] S (NdR c r m C (z7p C l) S) :=
 z5l (zaa S c r m C h0 v l hv hl) fun o S' ⟨hK, h⟩ => by
  rcases h with ⟨_, nv, h1, h2⟩ | ⟨h1, _⟩
  ·exact ⟨Frm.keep hK, h0.keep hK, nv, h1, h2⟩
  ·exact absurd hrg h1
theorem zsw (S : zB) (d r : Nat) (vs : List V) (f w q : Int) (lit : Bool) (no : Int) (h : DskAt S d r vs f lit false w q) (hn : no < 0 ∨ no ≥ vs.length) : EvS cfg 111 [.ref d 0 0, .d (.int .i64 no)] S (fun o S' => S' = S ∧ o = .ret (.d (.int .i64 2))) := by
 refine qH rfl zki ?_
 show Wp cfg (Tryz.f111.body.getD .skip) ((.ref d 0 0) :: (.d (.int .i64 no)) :: uZ (uZ ((.tup []) :: (.tup []) :: (.tup []) :: []))) S [] _
 unfold uZ
 conv => arg 2; whnf
 rw [zR]
 have hd := h.rd'
 by_cases c1 : no < 0
 ·simp (maxSteps:=1000000) (disch:=first|assumption|omega|rfl) only [↓gp, gc, Nat.reduceAdd, zf9, z8b, zav, hd, lk0, lk3, zox, zN]
  exact ⟨rfl, _, rfl, rfl, rfl⟩
 ·have c2 : no ≥ (vs.length : Int) := by rcases hn with h | h <;> omega
  simp (maxSteps:=1000000) (disch:=first|assumption|omega|rfl) only [↓gp, gc, Nat.reduceAdd, zf9, z8b, zav, hd, lk0, lk3, zox, zN]
  exact ⟨rfl, _, rfl, rfl, rfl⟩
theorem zpc (S : zB) (d r : Nat) (vs : List V) (f w q : Int) (lit : Bool) (no : Int) (h : DskAt S d r vs f lit false w q) (hn : no < 0 ∨ no ≥ vs.length) : EvS cfg 78 [.ref d 0 0, .d (.int .i64 no)] S (fun o S' => S' = S ++ [.row [.ref d 0 0] 60, .row [blkV (zK 256)] 42] ∧ o = .ret (.tup [blkV (zK 256), .d (.int .i64 2)])) := by
 refine zbp rfl zr9 ?_
 show Wp cfg (Tryz.f78.body.getD .skip) ((.ref d 0 0) :: (.d (.int .i64 no)) :: uZ ((.tup []) :: (.tup []) :: (.tup []) :: (.tup []) :: (.tup []) :: (.tup []) :: (.tup []) :: (.tup []) :: (.tup []) :: [])) S [] _
 unfold uZ
 conv => arg 2; whnf
 rw [zR]
 generalize ha : S.length = a
 have l0 := z256
 have hm := fun {ops dst k T F Q} l => zH (ops := ops) (dst := dst) (l := k) (T := T) (F := F) (Q := Q) rfl (zsw (S ++ l) d r vs f w q lit no h.app hn)
 simp (maxSteps:=1000000) (disch:=first|assumption|omega|rfl) only [↓gp, gc, Nat.reduceAdd, ft26, z42, zf42, List.append_assoc, List.length_append, List.length_cons, List.length_nil, ha, rA0 ha, rA1 ha, pA1 ha, lr26, hm, zhz, z8z, zjs, zN]
 exact ⟨.inr rfl, _, _, rfl, zjq rfl ((zG (rA1 ha)).trans (z8z z256)) rfl rfl rfl, rfl, rfl⟩
theorem zkj (S : zB) (c r m : Nat) (C : CS) (h0 : CacheAt S c r m C) (no : Int) (hn : no < 0 ∨ no ≥ C.img.length) : EvS cfg 114 [.ref c 0 0, .d (.int .i64 no)] S (fun o S' => Keep S S' ∧ o = .ret (.d (.int .i64 2))) := by
 obtain ⟨d, L, es, vs, f, z, w, q, h, hq⟩ := h0
 refine qH rfl zjr ?_
 show Wp cfg (Tryz.f114.body.getD .skip) ((.ref c 0 0) :: (.d (.int .i64 no)) :: uZ (uZ (uZ ((.tup []) :: (.tup []) :: (.tup []) :: (.tup []) :: (.tup []) :: (.tup []) :: (.tup []) :: [])))) S [] _
 unfold uZ
 conv => arg 2; whnf
 rw [zR]
 have hc : ∀ l, rowE (S ++ l) c 0 = some (cacV d m L C.last) := fun l => zD (e := 126) (by rw [List.getElem?_append_left (zQ h.hc)]; exact h.hc)
 have hc0 := hc []
 rw [List.append_nil] at hc0
 have hlk := (h.hm.look zj4 no).1
 generalize ha : S.length = a
 cases hf : f no with
 | some v =>
  obtain ⟨k, b, hk, hb, hv⟩ := h.kn _ _ hf
  have := (List.getElem?_eq_some_iff.1 hb).1
  omega
 | none =>
  rw [hf] at hlk
  simp only [Option.getD_none, Option.isSome_none] at hlk
  have l0 := z256
  have h1 := h.keep (S' := S ++ [.row [blkV (zK 256)] 42]) Keep.refl.app
  have hrd := fun {ops dst k T F Q} => zH (ops := ops) (dst := dst) (l := k) (T := T) (F := F) (Q := Q) rfl (zpc _ d r vs z w q false no h1.dk (by rw [h.il]; exact hn))
  generalize hl3 : (S ++ [Ob.row [blkV (zK 256)] 42] ++ [.row [.ref d 0 0] 60, .row [blkV (zK 256)] 42]) = S3 at hrd
  have hK : Keep S S3 := hl3 ▸ Keep.refl.app.app
  generalize ha3 : S3.length = a3
  simp (maxSteps:=1000000) (disch:=first|assumption|omega|rfl) only [↓gp, gc, Nat.reduceAdd, z6l, z2q, zft, hc0, hc, lc0, lc1, hlk, z42, zf42, ha, rA0 ha, pA0 ha, zjs, hrd, bo78, ha3, rA0 ha3, pA0 ha3]
  exact ⟨rfl, _, rfl, hK.app, rfl⟩
def putE (C : CS) (no : Int) (a : Int) (b : List UInt8) (l : List Int) : Int := if ¬ kP a b then 1 else if ¬ (∀ x ∈ l, 1 ≤ x ∧ x ≤ (C.last : Int)) then 1 else if no < 0 ∨ no ≥ C.img.length then 2 else 0
theorem zp7 (S : zB) (c r m : Nat) (C : CS) (h0 : CacheAt S c r m C) (no : Int) (p dv : V) (a : Int) (b : List UInt8) (hp : PatV S p dv a b) (ha : InB a) (nd : V) (l : List Int) (hnd : OwnS S nd 3 (zW l)) (hl : l.length ≤ 50000) (he : putE C no a b l ≠ 0) :
  EvS cfg 97 [.ref c 0 0, .d (.int .i64 no), p, nd] S (fun o S' => Keep S S' ∧ o = .ret (.tup [.d (.int .i64 0), .d (.int .i64 (putE C no a b l))])) := by
 refine qH rfl zqx ?_
 show Wp cfg (Tryz.f97.body.getD .skip) ((.ref c 0 0) :: (.d (.int .i64 no)) :: p :: nd :: uZ (uZ (uZ (uZ (uZ (uZ ((.tup []) :: (.tup []) :: (.tup []) :: []))))))) S [] _
 unfold uZ
 conv => arg 2; whnf
 rw [zR]
 generalize hal : S.length = al
 have hft := hp.ft
 have hl0 := hp.l0
 have hp1 := hp.one
 have hk0 : Keep S (S ++ [.row [p] 78]) := Keep.refl.app
 have hp0 : PatV (S ++ [.row [p] 78]) p dv a b := hp.frm (ts := []) (ms := []) (r := 0) (Frm.keep hk0) rfl
 have hck := fun {ops dst k T F Q} => z0i (ops := ops) (dst := dst) (k := k) (T := T) (F := F) (Q := Q) hp0 ha
 by_cases hpk : kP a b
 ·rw [if_pos hpk] at hck
  have hd1 := qL hnd
  obtain ⟨o, S1, ⟨hK1, hor⟩, hE⟩ := qF (zaa _ c r m C (h0.keep hk0) nd l (hk0.own hnd) hl)
  by_cases hrg : ∀ x ∈ l, 1 ≤ x ∧ x ≤ (C.last : Int)
  ·obtain ⟨nv, rfl, hnv⟩ : ∃ nv, o = .ret (.tup [nv, .d (.bool true)]) ∧ OwnS S1 nv 3 (zW (z7p C l)) := by
    rcases hor with ⟨_, h⟩ | ⟨h, _⟩
    ·exact h
    ·exact absurd hrg h
   have hE := fun {ops dst k T F Q} => zH (ops := ops) (dst := dst) (l := k) (T := T) (F := F) (Q := Q) rfl hE
   have hno : no < 0 ∨ no ≥ C.img.length := by
    by_cases h : no < 0 ∨ no ≥ C.img.length
    ·exact h
    ·exact absurd (by unfold putE; rw [if_neg (fun hh => hh hpk), if_neg (fun hh => hh hrg), if_neg h]) he
   have hpe : putE C no a b l = 2 := by unfold putE; rw [if_neg (fun hh => hh hpk), if_neg (fun hh => hh hrg), if_pos hno]
   obtain ⟨o2, S2, ⟨hK2, rfl⟩, hE2⟩ := qF (zkj S1 c r m C ((h0.keep hk0).keep hK1) no hno)
   have hE2 := fun {ops dst k T F Q} => zH (ops := ops) (dst := dst) (l := k) (T := T) (F := F) (Q := Q) rfl hE2
   have hnv1 := qL hnv
   rw [hpe]
   simp (maxSteps:=1000000) (disch:=first|assumption|omega|rfl) only [↓gp, gc, Nat.reduceAdd, hft, hal, rA0 hal, hl0, hp1, hck, z9p, z6l, hE, zp5, hd1, hnv1, jG, Bool.not_true, hE2, znv, zN]
   exact ⟨rfl, _, z11 rfl rfl rfl rfl, (hk0.trans hK1).trans hK2, rfl⟩
  ·have hor : o = .ret (.tup [.ts [], .d (.bool false)]) := by
    rcases hor with ⟨h, _⟩ | ⟨_, h⟩
    ·exact absurd h hrg
    ·exact h
   subst hor
   have hE := fun {ops dst k T F Q} => zH (ops := ops) (dst := dst) (l := k) (T := T) (F := F) (Q := Q) rfl hE
   have hpe : putE C no a b l = 1 := by unfold putE; rw [if_neg (fun hh => hh hpk), if_pos hrg]
   rw [hpe]
   simp (maxSteps:=1000000) (disch:=first|assumption|omega|rfl) only [↓gp, gc, Nat.reduceAdd, hft, hal, rA0 hal, hl0, hp1, hck, z9p, z6l, hE, zp5, hd1, jG, Bool.not_false, zN]
   exact ⟨rfl, _, z11 rfl rfl rfl rfl, hk0.trans hK1, rfl⟩
 ·rw [if_neg hpk] at hck
  have hpe : putE C no a b l = 1 := by unfold putE; rw [if_pos hpk]
  rw [hpe]
  simp (maxSteps:=1000000) (disch:=first|assumption|omega|rfl) only [↓gp, gc, Nat.reduceAdd, hft, hal, rA0 hal, hl0, hp1, hck, z9p, z6l, zN]
  exact ⟨rfl, _, z11 rfl rfl rfl rfl, hk0, rfl⟩
def spE (e : Int) (C : CS) (no a : Int) (b : List UInt8) (ids : List Int) : Int := if e ≠ 0 then e else putE C no a b (noZ ids)
def spC (e : Int) (C : CS) (no a : Int) (b : List UInt8) (ids : List Int) : CS := if e ≠ 0 then C else if putE C no a b (noZ ids) ≠ 0 then C else C.put no a b (z7p C (noZ ids))
def spI (e : Int) (C : CS) (no a : Int) (b : List UInt8) (ids : List Int) : Int := if e ≠ 0 then 0 else if putE C no a b (noZ ids) ≠ 0 then 0 else (C.last : Int) + 1
theorem zoh (S : zB) (x c r m mk : Nat) (l : Lay) (e : Int) (C : CS) (mf : Int → Option V) (h0 : StoreP S x c r m mk l e C mf) (he0 : e ≠ 0) (u p nd : V) (hft : qB Tryz.prog 78 p = true) : EvS cfg 50 [.ref x 0 0, u, p, nd] S (fun o S' => Keep S S' ∧ o = .ret (.d (.int .i64 0))) := by
 refine qH rfl zmo ?_
 show Wp cfg (Tryz.f50.body.getD .skip) ((.ref x 0 0) :: u :: p :: nd :: uZ (uZ ((.tup []) :: (.tup []) :: (.tup []) :: (.tup []) :: (.tup []) :: (.tup []) :: (.tup []) :: []))) S [] _
 unfold uZ
 conv => arg 2; whnf
 rw [zR]
 have hk0 : Keep S (S ++ [.row [p] 78]) := Keep.refl.app
 have he := fun {ops dst k T F Q} => zH (ops := ops) (dst := dst) (l := k) (T := T) (F := F) (Q := Q) rfl (z74 _ x c mk l.blocks l.inodes l.merge e (h0.keep hk0).hx)
 have hde : ∀ i : Decidable (e ≠ 0), @decide (e ≠ 0) i = true := fun i => decide_eq_true he0
 simp (maxSteps:=1000000) (disch:=first|assumption|omega|rfl) only [↓gp, gc, Nat.reduceAdd, hft, he, bo45, hde]
 exact ⟨rfl, _, rfl, hk0, rfl⟩
theorem zon (S : zB) (x c r m mk : Nat) (l : Lay) (C : CS) (mf : Int → Option V) (h0 : StoreP S x c r m mk l 0 C mf) (no : Int) (p dv : V) (a : Int) (b : List UInt8) (hp : PatV S p dv a b) (ha : InB a) (nd : V) (ids : List Int) (hnd : IntsV S nd ids) (hids : ids.length ≤ 50000) (hpe : putE C no a b (noZ ids) ≠ 0) :
  EvS cfg 50 [.ref x 0 0, .d (.int .i64 no), p, nd] S (fun o S' => FrS m r S S' ∧ StoreP S' x c r m mk l (putE C no a b (noZ ids)) C mf ∧ o = .ret (.d (.int .i64 0))) := by
 refine qH rfl zmo ?_
 show Wp cfg (Tryz.f50.body.getD .skip) ((.ref x 0 0) :: (.d (.int .i64 no)) :: p :: nd :: uZ (uZ ((.tup []) :: (.tup []) :: (.tup []) :: (.tup []) :: (.tup []) :: (.tup []) :: (.tup []) :: []))) S [] _
 unfold uZ
 conv => arg 2; whnf
 rw [zR]
 generalize hal : S.length = al
 have hft := hp.ft
 have hl0 := hp.l0
 have hd1 := hnd.one
 have hk0 : Keep S (S ++ [.row [p] 78]) := Keep.refl.app
 have h3 := h0.keep hk0
 have he := fun {ops dst k T F Q} => zH (ops := ops) (dst := dst) (l := k) (T := T) (F := F) (Q := Q) rfl (z74 _ x c mk l.blocks l.inodes l.merge 0 h3.hx)
 obtain ⟨o, S1, ⟨hK1, v, rfl, hv⟩, hsE⟩ := qF (znf _ nd ids (hnd.keep hk0) (by omega))
 have hs := fun {ops base K ws cs i dst T} => jC (ops := ops) (base := base) (K := K) (ws := ws) (cs := cs) (i := i) (dst := dst) (T := T) rfl hsE
 have h3b := h3.keep hK1
 have hk1 := hk0.trans hK1
 have hp1 : PatV S1 p dv a b := hp.frm (ts := []) (ms := []) (r := 0) (Frm.keep hk1) rfl
 have hnl : (noZ ids).length ≤ 50000 := Nat.le_trans (List.length_filter_le ..) hids
 obtain ⟨o, S2, ⟨hK2, rfl⟩, hE⟩ := qF (zp7 _ c r m C h3b.ca no p dv a b hp1 ha v (noZ ids) hv hnl hpe)
 have hcp := fun {ops base K ws cs i dst T} => jC (ops := ops) (base := base) (K := K) (ws := ws) (cs := cs) (i := i) (dst := dst) (T := T) rfl hE
 have hrx := zD (e := 122) h3.hx
 have hrx1 := zD (e := 122) h3b.hx
 have hal1 := hK1 al (.row [p] 78) (by rw [List.getElem?_append_right (by omega), hal, Nat.sub_self]; rfl)
 have hral1 := zD (e := 78) hal1
 have h4 := h3b.keep hK2
 have hrx2 := zD (e := 122) h4.hx
 have hpx2 := fun y => qJ (y := y) (e := 122) h4.hx
 have hp1' := hp.one
 have hv1 := qL hv
 simp (maxSteps:=1000000) (disch:=first|assumption|omega|rfl) only [↓gp, gc, Nat.reduceAdd, hft, hal, he, bo45]
 refine qX (is := [0, 1, 2, 3, 4, 5, 6, 7, 8, 9, 10, 11, 12, 13]) (h := 0) (by kernel_rfl) (by kernel_rfl) ?_
 simp (maxSteps:=1000000) (disch:=first|assumption|omega|rfl) only [List.replicate_zero, eq_self, gw, ga, Nat.reduceAdd, ↓gq, vso, List.append_nil, hrx, qU, kI, zes, z8c, rA0 hal, hl0, hs, bo98, hcp, bo97, hp1', hd1, hv1]
 have hsm := hp.same
 refine ⟨qE rfl (by kernel_rfl) rfl (vB ((zG hral1).trans hl0)) hsm (qE rfl (by kernel_rfl) rfl (vB ((zG hrx1).trans z8c)) (by simp [wV, qW, qQ]) zZ), zS (by kernel_rfl) (zS (by kernel_rfl) zZ), by kernel_rfl, ?_⟩
 simp (maxSteps:=1000000) (disch:=first|assumption|omega|rfl) only [↓gp, gc, Nat.reduceAdd, zg2, hrx2, zkn, hpx2]
 refine ⟨rfl, _, rfl, ?_, h4.err _, rfl⟩
 exact ((Frm.keep (hk1.trans hK2))).set (fun q hq => by cases getE h0.hx hq; rfl)
theorem zh4 (S : zB) (x c r m mk : Nat) (l : Lay) (e : Int) (C : CS) (mf : Int → Option V) (h0 : StoreP S x c r m mk l e C mf) (no : Int) (p dv : V) (a : Int) (b : List UInt8) (hp : PatV S p dv a b) (ha : InB a) (nd : V) (ids : List Int) (hnd : IntsV S nd ids) (hids : ids.length ≤ 50000) (hl : C.last < 100000) :
  EvS cfg 50 [.ref x 0 0, .d (.int .i64 no), p, nd] S (fun o S' => FrS m r S S' ∧ StoreP S' x c r m mk l (spE e C no a b ids) (spC e C no a b ids) mf ∧ o = .ret (.d (.int .i64 (spI e C no a b ids)))) := by
 by_cases he : e = 0
 ·subst he
  by_cases hpe : putE C no a b (noZ ids) ≠ 0
  ·refine z5l (zon S x c r m mk l C mf h0 no p dv a b hp ha nd ids hnd hids hpe) fun o S' h => ?_
   unfold spE spC spI
   have hz : ¬ ((0 : Int) ≠ 0) := fun h => h rfl
   rw [if_neg hz, if_neg hz, if_neg hz, if_pos hpe, if_pos hpe]
   exact h
  ·have hpe' : putE C no a b (noZ ids) = 0 := by omega
   have hpk : kP a b := by
    by_cases h : kP a b
    ·exact h
    ·unfold putE at hpe'; rw [if_pos h] at hpe'; cases hpe'
   have hrg : ∀ y ∈ noZ ids, 1 ≤ y ∧ y ≤ (C.last : Int) := by
    by_cases h : ∀ y ∈ noZ ids, 1 ≤ y ∧ y ≤ (C.last : Int)
    ·exact h
    ·unfold putE at hpe'; rw [if_neg (fun hh => hh hpk), if_pos h] at hpe'; cases hpe'
   have hno : ¬ (no < 0 ∨ no ≥ C.img.length) := by
    intro h
    unfold putE at hpe'
    rw [if_neg (fun hh => hh hpk), if_neg (fun hh => hh hrg), if_pos h] at hpe'
    cases hpe'
   obtain ⟨k, rfl⟩ : ∃ k : Nat, no = k := ⟨no.toNat, by omega⟩
   have hnl : (noZ ids).length ≤ 50000 := Nat.le_trans (List.length_filter_le ..) hids
   have hnd2 := zgr h0.ca.ok (l := noZ ids)
   refine z5l (zsg S x c r m mk l C mf h0 k (by omega) p dv a b hp hpk ha nd ids (z7p C (noZ ids)) hnd (by omega) (fun S1 v h1 h2 => zkp S1 c r m C h1 v (noZ ids) h2 hnl hrg) hnd2.1 hnd2.2 hl) fun o S' h => ?_
   unfold spE spC spI
   have hz : ¬ ((0 : Int) ≠ 0) := fun h => h rfl
   rw [if_neg hz, if_neg hz, if_neg hz, if_neg hpe, if_neg hpe, hpe']
   exact h
 ·refine z5l (zoh S x c r m mk l e C mf h0 he (.d (.int .i64 no)) p nd hp.ft) fun o S' ⟨h1, h2⟩ => ?_
  unfold spE spC spI
  rw [if_pos he, if_pos he, if_pos he]
  exact ⟨Frm.keep h1, h0.keep h1, h2⟩
theorem q1y {n : Int} {b : List UInt8} : wY Tryz.prog 78 [(0, .d (.int .i64 n)), (1, .d (encB b))] = some (.agg [.d (.int .i64 n), .d (encB b)]) := by kernel_rfl
theorem znu {ops : Array Oper} {dst : Option Tmp} {k : List Oper} {T : List V} {S : zB} {F : Dfs} {Q : Post} {u : V} {b : List UInt8} (hu : IsB u b) (hb : b.length = 256) : WpR cfg ops dst k T S F Q (some (.enter 107 [u, .d (.int .i64 0), .d (.int .i64 256)])) = WpL cfg ops k (putT T dst (.d (encB b))) S F Q :=
 kW (ds := [blkD b, .int .i64 0, .int .i64 256]) rfl (by simp only [allO, hu.frz (n := 10), zJ]; rfl) (by rw [List.flatMap_cons, hu.frzIds]; rfl) (by
  have := zr8 b hb 0 256 (by omega) (by omega)
  rw [List.drop_zero, List.take_of_length_le (by omega)] at this
  exact this)
theorem zo7 (S : zB) (x c r m mk : Nat) (l : Lay) (e : Int) (C : CS) (mf : Int → Option V) (h0 : StoreP S x c r m mk l e C mf) (no : Int) (u : V) (b : List UInt8) (hu : IsB u b) (hb : b.length = 256) (nd : V) (ids : List Int) (hnd : IntsV S nd ids) (hids : ids.length ≤ 50000) (hl : C.last < 100000) :
  EvS cfg 66 [.ref x 0 0, .d (.int .i64 no), u, nd] S (fun o S' => FrS m r S S' ∧ StoreP S' x c r m mk l (spE e C no 0 b ids) (spC e C no 0 b ids) mf ∧ o = .ret (.d (.int .i64 (spI e C no 0 b ids)))) := by
 refine qH rfl zzu ?_
 show Wp cfg (Tryz.f66.body.getD .skip) ((.ref x 0 0) :: (.d (.int .i64 no)) :: u :: nd :: uZ ((.tup []) :: (.tup []) :: [])) S [] _
 unfold uZ
 conv => arg 2; whnf
 rw [zR]
 generalize hal : S.length = al
 have hf := bt42.fits hu hb
 have hld := bt42.load hu hb
 have hu1 := hu.one
 have hd1 := hnd.one
 have hk0 : Keep S (S ++ [.row [u] 42]) := Keep.refl.app
 have hc := fun {ops dst k T S F Q} => znu (ops := ops) (dst := dst) (k := k) (T := T) (S := S) (F := F) (Q := Q) hu hb
 have hpt : PatV (S ++ [.row [u] 42]) (.agg [.d (.int .i64 0), .d (encB b)]) (.d (encB b)) 0 b := .inl ⟨rfl, .inr (.inl rfl)⟩
 have hp1 := hpt.one
 obtain ⟨o, S2, ⟨hF, hS, rfl⟩, hE⟩ := qF (zh4 _ x c r m mk l e C mf (h0.keep hk0) no _ _ 0 b hpt (by unfold InB; omega) nd ids (hnd.keep hk0) hids hl)
 have hE := fun {ops dst k T F Q} => zH (ops := ops) (dst := dst) (l := k) (T := T) (F := F) (Q := Q) rfl hE
 simp (maxSteps:=1000000) (disch:=first|assumption|omega|rfl) only [↓gp, gc, Nat.reduceAdd, hf, hal, rA0 hal, hld, hu1, hc, zqq, q1y, hd1, hp1, hE, bo50]
 exact ⟨rfl, _, rfl, (Frm.keep hk0).trans hF, hS, rfl⟩
def q03 (l : Lay) (ino : Int) : Prop := 1 ≤ ino ∧ ino ≤ l.inodes
instance {l : Lay} {ino : Int} : Decidable (q03 l ino) := by unfold q03; infer_instance
def fulL (x : UInt8) : List UInt8 := List.replicate 256 x
theorem z5d {x : UInt8} : (fulL x).length = 256 := by unfold fulL; rw [List.length_replicate]
theorem q1g (x : UInt8) (R : Post) : ∀ (k j : Nat) (v : V) (g1 g5 g6 g7 g8 g9 gI gE gG : V), 256 - j = k → j ≤ 256 → IsB v (wM (fulL x) j) →
 (∀ v j' g1 g5 g6 g7 g8 g9 gI gE gG, IsB v (fulL x) → R (.exit 0) ((.d (byD x)) :: g1 :: (.ref 0 0 0) :: (.ref 1 0 0) :: j' :: g5 :: g6 :: g7 :: g8 :: g9 :: gI :: gE :: gG :: []) [.row [blkV (zK 256)] 42, .row [v] 42] []) →
 Wp cfg (.loop (lpOf (Tryz.f20.body.getD .skip) 0)) ((.d (byD x)) :: g1 :: (.ref 0 0 0) :: (.ref 1 0 0) :: (.d (.int .i64 (j : Int))) :: g5 :: g6 :: g7 :: g8 :: g9 :: gI :: gE :: gG :: []) [.row [blkV (zK 256)] 42, .row [v] 42] [] R := by
 intro k
 have htl : (fulL x).length = 256 := z5d
 induction k with
 | zero =>
  intro j v g1 g5 g6 g7 g8 g9 gI gE gG hk hj hv hR
  have hje : j = 256 := by omega
  subst hje
  have e : wM (fulL x) 256 = fulL x := by
   have : wM (fulL x) (fulL x).length = fulL x := by unfold wM zK; rw [List.take_length, Nat.sub_self]; simp
   rw [htl] at this; exact this
  rw [e] at hv
  have h7 : ¬ ((256 : Nat) : Int) < 256 := by omega
  rw [zR]
  refine zL ?_
  conv => arg 2; whnf
  simp (maxSteps:=1000000) (disch:=first|assumption|omega|rfl) only [↓gp, gc, Nat.reduceAdd]
  exact hR _ _ _ _ _ _ _ _ _ _ _ hv
 | succ k ih =>
  intro j v g1 g5 g6 g7 g8 g9 gI gE gG hk hj hv hR
  have hlt : j < 256 := by omega
  have hlt7 : (j : Int) < 256 := by omega
  have hfl := z5o (t := fulL x) (i := j) (by omega)
  have h3 : IntKind.i64.wrap ((j : Int) + 1) = ((j + 1 : Nat) : Int) := by rw [wrap64 (by omega)]; omega
  have hia := fun S j' y => ia42 (S := S) (j := j') (x := y) (i := j) (by omega)
  have he : (fulL x)[j]'(by omega) = x := by unfold fulL; rw [List.getElem_replicate]
  have hpt := bt42.put hv (hfl.trans htl) (i := j) (by omega) (x := (fulL x)[j]'(by omega))
  rw [z5q (by omega)] at hpt
  have hpt : qM Tryz.prog 5 j (.d (byD x)) v = some (blkV (wM (fulL x) (j + 1))) := by
   rw [← hpt, he]; rfl
  rw [zR]
  refine zL ?_
  conv => arg 2; whnf
  simp (maxSteps:=1000000) (disch:=first|assumption|omega|rfl) only [↓gp, gc, Nat.reduceAdd, h3, hia, hpt]
  exact ih (j + 1) _ _ _ _ _ _ _ _ _ _ (by omega) (by omega) isB_v hR
theorem zrw (x : UInt8) : Ev cfg 20 [byD x] (.ret (.d (blkD (fulL x)))) := by
 refine kD rfl rfl zx1 ?_
 show Wp cfg (Tryz.f20.body.getD .skip) ((.d (byD x)) :: uZ ((.tup []) :: (.tup []) :: [])) [] [] _
 unfold uZ
 conv => arg 2; whnf
 simp (maxSteps:=1000000) (disch:=first|assumption|omega|rfl) only [↓gp, gc, Nat.reduceAdd, z42, zf42]
 refine q1g x _ 256 0 _ _ _ _ _ _ _ _ _ _ rfl (Nat.zero_le _) (by
  have : wM (fulL x) 0 = zK 256 := by unfold wM; rw [List.take_zero, z5d]; rfl
  rw [this]; exact isB_v) ?_
 intro v j' g1 g5 g6 g7 g8 g9 gI gE gG hv
 have l0 := z256
 have hld := bt42.load hv z5d
 have hv1 := hv.one
 have hst := bt42.store hv z5d (w := blkV (zK 256)) isB_v z256
 simp (maxSteps:=1000000) (disch:=first|assumption|omega|rfl) only [↓gp, gc, Nat.reduceAdd, hld, hv1, hst]
 exact wK (u := .ref 0 0 0) (v := v) rfl ((zG rfl).trans hld) hv1 (hv.frz (n := 10))

theorem zsb : IK Tryz.prog 114 3 22 (.ts []) := ⟨by kernel_rfl, fun _ _ => rfl, fun _ => by kernel_rfl, by kernel_rfl⟩
section
variable {d x y c mk : Nat} {B I M e : Int}
end
def MkV (S : zB) (mf : Int → Option V) (b : Nat) : Prop := ∀ n v, mf n = some v → ∃ ms, OwnS S v 3 (zW ms) ∧ ms.length ≤ b
theorem MkV.own {S S' : zB} {mf : Int → Option V} {b : Nat} (h : MkV S mf b) (hk : ∀ v xs, OwnS S v 3 xs → OwnS S' v 3 xs) : MkV S' mf b := fun n v hv => by
 obtain ⟨ms, h1, h2⟩ := h n v hv
 exact ⟨ms, hk _ _ h1, h2⟩
theorem q21 {S : zB} {w : V} {ys : List Int} (h : OwnS S w 3 (zW ys)) : srcV Tryz.prog S 3 22 w = some (zW ys) := by
 have he : kK S w = some (zW ys) := by
  rcases h with ⟨rfl, h2⟩ | ⟨id, rfl, h2⟩
  ·rw [h2]; rfl
  ·simp only [kK, h2, Nat.zero_add, Nat.le_refl, if_true, List.drop_zero, List.take_length]
 have hs : ∀ s, w ≠ .d (.str s) := by
  intro s hh
  rcases z1r h with h | ⟨_, _, h⟩ <;> (rw [h] at hh; cases hh)
 have hf : (zW ys).all (qB Tryz.prog 3) = true := by
  rw [List.all_eq_true]
  intro x hx
  obtain ⟨y, _, rfl⟩ := List.mem_map.1 hx
  exact z8a y
 have h6 : (sz Tryz.prog 3).isSome = true := s3z
 unfold srcV
 split
 ·rename_i s; exact absurd rfl (hs s)
 ·simp only [Tryz.underlying22, he, hf, h6, Bool.and_self, if_true]
abbrev FrM (m mk r : Nat) : zB → zB → Prop := Frm stT [m, mk] 42 r
theorem FrS.toM {m mk r : Nat} {S S' : zB} (h : FrS m r S S') : FrM m mk r S S' := h.mono (fun _ h => h) (fun e he => by simp only [List.contains_cons, List.contains_nil, Bool.or_false, beq_iff_eq] at he ⊢; simp [he])
theorem CacheP.setmp {S : zB} {c d r m k : Nat} {L : V} {es vs : List V} {f : Int → Option V} {z : Int} {w q : Nat} {C : CS} (h : CacheP S c d r m L es vs f z w q C) {xs : List (D × V × Nat)} {e : Nat} (hk : S[k]? = some (.mp xs e)) (hkm : k ≠ m) {o : Ob} : CacheP (S.set k o) c d r m L es vs f z w q C := by
 have at_ : ∀ {j : Nat} {ys : List V} {t : TypeId}, S[j]? = some (.row ys t) → (S.set k o)[j]? = some (.row ys t) := fun hj => by rw [List.getElem?_set_ne (by rintro rfl; cases getE hk hj)]; exact hj
 have own : ∀ {u : V} {t : TypeId} {ys : List V}, OwnS S u t ys → OwnS (S.set k o) u t ys := fun ho => by
  rcases ho with ho | ⟨id, p, q⟩
  ·exact .inl ho
  ·exact .inr ⟨id, p, at_ q⟩
 obtain ⟨l, kk, h1, h2⟩ := h.hm
 exact ⟨at_ h.hc, ⟨l, kk, by rw [List.getElem?_set_ne hkm]; exact h1, h2⟩, ⟨at_ h.dk.hd, at_ h.dk.hr, h.dk.ne⟩, h.zb, h.il, h.im, h.kn, own h.lo, h.lc.mono (fun _ _ => own) (fun _ _ => own), h.wq, h.ok⟩
theorem CacheAt.setmp {S : zB} {c r m k : Nat} {C : CS} (h : CacheAt S c r m C) {xs : List (D × V × Nat)} {e : Nat} (hk : S[k]? = some (.mp xs e)) (hkm : k ≠ m) {o : Ob} : CacheAt (S.set k o) c r m C := by
 obtain ⟨d, L, es, vs, f, z, w, q, h, hq⟩ := h
 exact ⟨d, L, es, vs, f, z, w, q, h.setmp hk hkm, hq⟩
theorem zsh (S : zB) (c r m : Nat) (C : CS) (h0 : CacheAt S c r m C) : EvS cfg 37 [.ref c 0 0] S (fun o S' => Keep S S' ∧ ∃ v fs, o = .ret v ∧ OwnS S' v 80 fs ∧ ChgsV S' fs C.list) := by
 obtain ⟨d, L, es, vs, f, z, w, q, h, hq⟩ := h0
 refine qH rfl zz9 ?_
 show Wp cfg (Tryz.f37.body.getD .skip) ((.ref c 0 0) :: (.tup []) :: (.tup []) :: (.tup []) :: (.tup []) :: (.tup []) :: (.tup []) :: (.tup []) :: (.tup []) :: (.tup []) :: []) S [] _
 conv => arg 2; whnf
 rw [zR]
 have hc0 : rowE S c 0 = some (cacV d m L C.last) := zD (e := 126) h.hc
 have hl1 := qL h.lo
 obtain ⟨o, S1, ⟨hK, v, fs, rfl, ho, hc⟩, hE⟩ := qF (zb5 S L es C.list h.lo h.lc (by have h1 := h.wq; have h2 := h.ok.last; have h3 := h.lc.1; omega) C.img.length C.last h.ok.last h.ok.chs (.ts []) [] (.inl ⟨rfl, rfl⟩) (Nat.zero_le _))
 have hE := fun {ops dst k T F Q} => zH (ops := ops) (dst := dst) (l := k) (T := T) (F := F) (Q := Q) rfl hE
 simp (maxSteps:=1000000) (disch:=first|assumption|omega|rfl) only [↓gp, gc, Nat.reduceAdd, z6l, z4c, hc0, lc2, hl1, hE, bo89]
 refine ⟨rfl, _, rfl, hK, v, fs, rfl, ho, ?_⟩
 have e : (C.list.filter fun ch => decide (ch.id ∉ ([] : List Int))) = C.list := by simp
 rw [← e]; exact hc
structure AllP (S : zB) (y x c r m mk gm : Nat) (l : Lay) (e : Int) (C : CS) (mf gf : Int → Option V) (gl : Int → List Int) (b : Nat) : Prop where
 hy : S[y]? = some (.row [allV x gm] 116)
 sp : StoreP S x c r m mk l e C mf
 gp : MpI S gm gf
 gv : ∀ n, OwnS S ((gf n).getD (.ts [])) 3 (zW (gl n))
 gb : ∀ n, (gl n).length ≤ b
 n1 : gm ≠ m
 n2 : gm ≠ mk
section
variable {S S' : zB} {y x c r m mk gm : Nat} {l : Lay} {e : Int} {C : CS} {mf gf : Int → Option V} {gl : Int → List Int} {b : Nat}
theorem AllP.keep (h : AllP S y x c r m mk gm l e C mf gf gl b) (hk : Keep S S') : AllP S' y x c r m mk gm l e C mf gf gl b := ⟨hk _ _ h.hy, h.sp.keep hk, hk.map h.gp, fun n => hk.own (h.gv n), h.gb, h.n1, h.n2⟩
theorem AllP.seen (h : AllP S y x c r m mk gm l e C mf gf gl b) : SeenAt S S.length y x c r m mk gm l e C := ⟨h.hy, h.sp.hx, CacheIn.of h.sp.ca⟩
theorem AllP.frC (h : AllP S y x c r m mk gm l e C mf gf gl b) (hF : FrC m r S S') {C' : CS} (hc : CacheAt S' c r m C') (hi : C'.img.length = C.img.length) : AllP S' y x c r m mk gm l e C' mf gf gl b :=
 ⟨hF.row h.hy rfl, h.sp.step hF hc hi, hF.map h.gp (by have := h.n1; simpa using this), fun n => hF.own (h.gv n) rfl, h.gb, h.n1, h.n2⟩
theorem AllP.frS (h : AllP S y x c r m mk gm l e C mf gf gl b) (hF : FrS m r S S') {e' : Int} {C' : CS} (hs : StoreP S' x c r m mk l e' C' mf) : AllP S' y x c r m mk gm l e' C' mf gf gl b :=
 ⟨hF.row h.hy rfl, hs, hF.map h.gp (by have := h.n1; simpa using this), fun n => hF.own (h.gv n) rfl, h.gb, h.n1, h.n2⟩
end
def z0e (l : List Chg) (gs : List Int) : List Int := (l.filter fun ch => decide (ch.id ∈ gs)).map (·.id)
theorem zj6 {l : List Chg} {ch : Chg} {gs : List Int} : z0e (l ++ [ch]) gs = z0e l gs ++ if ch.id ∈ gs then [ch.id] else [] := by
 unfold z0e
 rw [List.filter_append, List.map_append]
 congr 1
 by_cases h : ch.id ∈ gs <;> simp [h]
theorem zdh {l : List Chg} {gs : List Int} : (z0e l gs).length ≤ l.length := by
 unfold z0e
 rw [List.length_map]
 exact List.length_filter_le ..
theorem zsx (y gm a7 n : Nat) (x : Nat) (no id : Int) (c1 c2 : Int) (dv nv : V) (S0 : zB) (v17 v18 v19 v28 : V) (gs : List Int) (hg : OwnS S0 v28 3 (zW gs)) (hgl : gs.length ≤ 1000000) (out : List Int) (hol : out.length ≤ 200000) (R : Post) (B0 : Nat) (hB0 : B0 ≤ S0.length) (S : zB) (hK : Keep S0 S)
  (h7 : S[a7]? = some (.row [.agg [.d (.int .i64 id), .d (.int .i64 c1), .d (.int .i64 c2), dv, nv]] 80)) (v5 : V) (hN : ∀ j, j < B0 → NotAt v5 j) (ho : OwnS S v5 3 (zW out)) :
 ∀ (k i : Nat) (g2 g3 g4 g6 g8 g9 gI gE gG gB gC gA gD gK gN gJ gH gO gP gT gQ gV gW gX gY gZ gh gj gk gn gr gz hH hU hY : V), gs.length - i = k → i ≤ gs.length → id ∉ gs.take i →
 (∀ S' v5' i' g2 g3 g4 g6 g8 g9 gI gE gG gB gC gA gD gK gN gJ gH gO gP gT gQ gV gW gX gY gZ gh gj gk gn gr gz hH hU hY, (∀ j o, j < B0 → S[j]? = some o → S'[j]? = some o) → S.length ≤ S'.length → (∀ j, j < B0 → NotAt v5' j) → OwnS S' v5' 3 (zW (out ++ if id ∈ gs then [id] else [])) → R (.exit 2) ((.ref y 0 0) :: (.d (.int .i64 no)) :: g2 :: g3 :: g4 :: v5' :: g6 :: (.ref a7 0 0) :: g8 :: g9 :: gI :: gE :: gG :: gB :: gC :: gA :: gD :: v17 :: v18 :: v19 :: gK :: gN :: gJ :: gH :: gO :: gP :: gT :: gQ :: v28 :: (.d (.int .i64 (gs.length : Int))) :: i' :: gV :: gW :: gX :: gY :: gZ :: gh :: gj :: gk :: gn :: gr :: gz :: hH :: hU :: hY :: []) S' []) →
 Wp cfg (.loop (lpOf (Tryz.f44.body.getD .skip) 2)) ((.ref y 0 0) :: (.d (.int .i64 no)) :: g2 :: g3 :: g4 :: v5 :: g6 :: (.ref a7 0 0) :: g8 :: g9 :: gI :: gE :: gG :: gB :: gC :: gA :: gD :: v17 :: v18 :: v19 :: gK :: gN :: gJ :: gH :: gO :: gP :: gT :: gQ :: v28 :: (.d (.int .i64 (gs.length : Int))) :: (.d (.int .i64 (i : Int))) :: gV :: gW :: gX :: gY :: gZ :: gh :: gj :: gk :: gn :: gr :: gz :: hH :: hU :: hY :: []) S [] R := by
 intro k
 induction k with
 | zero =>
  intro i g2 g3 g4 g6 g8 g9 gI gE gG gB gC gA gD gK gN gJ gH gO gP gT gQ gV gW gX gY gZ gh gj gk gn gr gz hH hU hY hk hi hn hR
  have hie : i = gs.length := by omega
  subst hie
  rw [List.take_length] at hn
  rw [zR]
  refine zL ?_
  conv => arg 2; whnf
  simp (maxSteps:=1000000) (disch:=first|assumption|omega|rfl) only [↓gp, gc, Nat.reduceAdd]
  exact hR _ _ _ _ _ _ _ _ _ _ _ _ _ _ _ _ _ _ _ _ _ _ _ _ _ _ _ _ _ _ _ _ _ _ _ _ _ _ (fun _ _ _ h => h) (Nat.le_refl _) hN (by rw [if_neg hn, List.append_nil]; exact ho)
 | succ k ih =>
  intro i g2 g3 g4 g6 g8 g9 gI gE gG gB gC gA gD gK gN gJ gH gO gP gT gQ gV gW gX gY gZ gh gj gk gn gr gz hH hU hY hk hi hn hR
  have hlt : i < gs.length := by omega
  have h3 : IntKind.i64.wrap ((i : Int) + 1) = ((i + 1 : Nat) : Int) := by rw [wrap64 (by omega)]; omega
  obtain ⟨q, hix, hre, _⟩ := wH Tryz.underlying22 s3z (hK.own hg) (i := i) (by rw [qC]; exact hlt)
  have hre : rowE S q i = some (.d (.int .i64 gs[i])) := by rw [hre]; simp [zW]
  have hr7 := zD (e := 80) h7
  rw [zR]
  refine zL ?_
  conv => arg 2; whnf
  by_cases h : gs[i] = id
  ·have hde : ∀ i' : Decidable (gs[i] = id), @decide (gs[i] = id) i' = true := fun i' => decide_eq_true h
   have hmem : id ∈ gs := by rw [← h]; exact List.getElem_mem hlt
   obtain ⟨v', S', c, hap, ho', hfr, hlen⟩ := ap22 gs[i] ho (by omega)
   simp (maxSteps:=1000000) (disch:=first|assumption|omega|rfl) only [↓gp, gc, Nat.reduceAdd, hix, hre, ld3r, z0u, hr7, z0l, hde, hap]
   refine hR S' v' _ _ _ _ _ _ _ _ _ _ _ _ _ _ _ _ _ _ _ _ _ _ _ _ _ _ _ _ _ _ _ _ _ _ _ _ (fun j o hj hjo => (hfr j o hjo (hN j hj)).1) hlen (fun j hj => (hfr j _ (List.getElem?_eq_getElem (Nat.lt_of_lt_of_le hj (Nat.le_trans hB0 hK.len))) (hN j hj)).2) ?_
   rw [if_pos hmem, ← h]; exact ho'
  ·have hde : ∀ i' : Decidable (gs[i] = id), @decide (gs[i] = id) i' = false := fun i' => decide_eq_false h
   simp (maxSteps:=1000000) (disch:=first|assumption|omega|rfl) only [↓gp, gc, Nat.reduceAdd, hix, hre, ld3r, z0u, hr7, z0l, hde, h3]
   refine ih (i + 1) _ _ _ _ _ _ _ _ _ _ _ _ _ _ _ _ _ _ _ _ _ _ _ _ _ _ _ _ _ _ _ _ _ _ _ (by omega) (by omega) ?_ hR
   rw [kT hlt]
   intro hh
   rcases List.mem_append.1 hh with hh | hh
   ·exact hn hh
   ·rw [List.mem_singleton] at hh
    exact h hh.symm
theorem zuu (y x c r m mk gm : Nat) (l : Lay) (e : Int) (C : CS) (mf gf : Int → Option V) (gl : Int → List Int) (b : Nat) (S0 : zB) (h : AllP S0 y x c r m mk gm l e C mf gf gl b) (hb : b ≤ 1000000) (hll : C.list.length ≤ 150000) (no : Int) (v17 : V) (fs : List V) (hv17 : OwnS S0 v17 80 fs) (hfs : ChgsV S0 fs C.list) (R : Post) :
 ∀ (k i : Nat) (S : zB) (v5 g2 g3 g4 g6 g7 g8 g9 gI gE gG gB gC gA gD gK gN gJ gH gO gP gT gQ gU gR gS gV gW gX gY gZ gh gj gk gn gr gz hH hU hY : V), C.list.length - i = k → i ≤ C.list.length → Keep S0 S → (∀ j, j < S0.length → NotAt v5 j) → OwnS S v5 3 (zW (z0e (C.list.take i) (gl no))) →
 (∀ S v5 i' g2 g3 g4 g6 g7 g8 g9 gI gE gG gB gC gA gD gK gN gJ gH gO gP gT gQ gU gR gS gV gW gX gY gZ gh gj gk gn gr gz hH hU hY, Keep S0 S → (∀ j, j < S0.length → NotAt v5 j) → OwnS S v5 3 (zW (z0e C.list (gl no))) → R (.exit 0) ((.ref y 0 0) :: (.d (.int .i64 no)) :: g2 :: g3 :: g4 :: v5 :: g6 :: g7 :: g8 :: g9 :: gI :: gE :: gG :: gB :: gC :: gA :: gD :: v17 :: (.d (.int .i64 (C.list.length : Int))) :: i' :: gK :: gN :: gJ :: gH :: gO :: gP :: gT :: gQ :: gU :: gR :: gS :: gV :: gW :: gX :: gY :: gZ :: gh :: gj :: gk :: gn :: gr :: gz :: hH :: hU :: hY :: []) S []) →
 Wp cfg (.loop (lpOf (Tryz.f44.body.getD .skip) 0)) ((.ref y 0 0) :: (.d (.int .i64 no)) :: g2 :: g3 :: g4 :: v5 :: g6 :: g7 :: g8 :: g9 :: gI :: gE :: gG :: gB :: gC :: gA :: gD :: v17 :: (.d (.int .i64 (C.list.length : Int))) :: (.d (.int .i64 (i : Int))) :: gK :: gN :: gJ :: gH :: gO :: gP :: gT :: gQ :: gU :: gR :: gS :: gV :: gW :: gX :: gY :: gZ :: gh :: gj :: gk :: gn :: gr :: gz :: hH :: hU :: hY :: []) S [] R := by
 intro k
 have hle := hfs.1
 induction k with
 | zero =>
  intro i S v5 g2 g3 g4 g6 g7 g8 g9 gI gE gG gB gC gA gD gK gN gJ gH gO gP gT gQ gU gR gS gV gW gX gY gZ gh gj gk gn gr gz hH hU hY hk hi hK hN ho hR
  have hie : i = C.list.length := by omega
  subst hie
  rw [List.take_length] at ho
  rw [zR]
  refine zL ?_
  conv => arg 2; whnf
  simp (maxSteps:=1000000) (disch:=first|assumption|omega|rfl) only [↓gp, gc, Nat.reduceAdd]
  exact hR _ _ _ _ _ _ _ _ _ _ _ _ _ _ _ _ _ _ _ _ _ _ _ _ _ _ _ _ _ _ _ _ _ _ _ _ _ _ _ _ _ _ hK hN ho
 | succ k ih =>
  intro i S v5 g2 g3 g4 g6 g7 g8 g9 gI gE gG gB gC gA gD gK gN gJ gH gO gP gT gQ gU gR gS gV gW gX gY gZ gh gj gk gn gr gz hH hU hY hk hi hK hN ho hR
  have hlt : i < C.list.length := by omega
  have hlt2 : i < fs.length := by omega
  obtain ⟨id', hix, hre, _⟩ := wH u119 s122 (hK.own hv17) hlt2
  obtain ⟨dv, nv, he, hd5, hn3⟩ := hfs.2 i fs[i] C.list[i] (List.getElem?_eq_getElem hlt2) (List.getElem?_eq_getElem hlt)
  rw [he] at hre
  have h3 : IntKind.i64.wrap ((i : Int) + 1) = ((i + 1 : Nat) : Int) := by rw [wrap64 (by omega)]; omega
  have hS := h.keep hK
  have hry := fun l => zD (e := 116) ((Keep.refl.app (S := S) (S' := S) (l := l)) _ _ hS.hy)
  have hlk := fun l => (((Keep.refl.app (S := S) (S' := S) (l := l)).map hS.gp).look zsb no).2
  have hgv := hS.gv no
  have hgb := hS.gb no
  have hgv0 := h.gv no
  generalize (gf no).getD (.ts []) = v28 at *
  have hv28 := qL hgv
  have hln := fun l => (wC (S := S ++ l) Tryz.underlying22 ((Keep.refl.app (S := S) (S' := S) (l := l)).own hgv))
  simp only [qC] at hln
  have htk : C.list.take (i + 1) = C.list.take i ++ [C.list[i]] := kT hlt
  have hgl : (z0e (C.list.take i) (gl no)).length ≤ 150000 := Nat.le_trans zdh (by rw [List.length_take]; omega)
  generalize ha : S.length = a
  rw [zR]
  refine zL ?_
  conv => arg 2; whnf
  simp (maxSteps:=1000000) (disch:=first|assumption|omega|rfl) only [↓gp, gc, Nat.reduceAdd, hix, hre, z2c, z122, z2d, z3s, ha, rA0 ha, pA0 ha, z65, hry, z31, hlk, hv28, hln]
  refine zsx y gm a 0 x no C.list[i].id C.list[i].no C.list[i].at_ dv nv S0 _ _ _ v28 (gl no) hgv0 (by omega) _ (by omega) _ S0.length (Nat.le_refl _) _ hK.app (by rw [List.getElem?_append_right (by omega), ha, Nat.sub_self]; rfl) v5 hN ((Keep.refl.app (S := S) (S' := S)).own ho) (gl no).length 0 _ _ _ _ _ _ _ _ _ _ _ _ _ _ _ _ _ _ _ _ _ _ _ _ _ _ _ _ _ _ _ _ _ _ _ rfl (Nat.zero_le _) (by simp) ?_
  intro S' v5' i' g2 g3 g4 g6 g8 g9 gI gE gG gB gC gA gD gK gN gJ gH gO gP gT gQ gV gW gX gY gZ gh gj gk gn gr gz hH hU hY hK2 hl2 hN2 ho2
  simp (maxSteps:=1000000) (disch:=first|assumption|omega|rfl) only [↓gp, gc, Nat.reduceAdd, h3]
  refine ih (i + 1) S' v5' _ _ _ _ _ _ _ _ _ _ _ _ _ _ _ _ _ _ _ _ _ _ _ _ _ _ _ _ _ _ _ _ _ _ _ _ _ _ _ (by omega) (by omega) (fun j o hj => hK2 j o (zQ hj) (hK.app _ _ hj)) hN2 ?_ hR
  rw [htk, zj6]
  exact ho2
theorem zun (S : zB) (y x c r m mk gm : Nat) (l : Lay) (e : Int) (C : CS) (mf gf : Int → Option V) (gl : Int → List Int) (b : Nat) (h : AllP S y x c r m mk gm l e C mf gf gl b) (hb : b ≤ 1000000) (no : Int) :
  EvS cfg 44 [.ref y 0 0, .d (.int .i64 no)] S (fun o S' => Keep S S' ∧ ∃ v, o = .ret v ∧ (∀ j, j < S.length → NotAt v j) ∧ OwnS S' v 3 (zW (z0e C.list (gl no)))) := by
 refine qH rfl zz8 ?_
 show Wp cfg (Tryz.f44.body.getD .skip) ((.ref y 0 0) :: (.d (.int .i64 no)) :: uZ (uZ (uZ (uZ ((.tup []) :: (.tup []) :: (.tup []) :: []))))) S [] _
 unfold uZ
 conv => arg 2; whnf
 rw [zR]
 have hry := zD (e := 116) h.hy
 have hch := fun {ops dst k T F Q} => zH (ops := ops) (dst := dst) (l := k) (T := T) (F := F) (Q := Q) rfl (zbz S x c mk l.blocks l.inodes l.merge e h.sp.hx)
 obtain ⟨o, S1, ⟨hK, v, fs, rfl, ho, hc⟩, hE⟩ := qF (zsh S c r m C h.sp.ca)
 have hE := fun {ops dst k T F Q} => zH (ops := ops) (dst := dst) (l := k) (T := T) (F := F) (Q := Q) rfl hE
 have hln : zO Tryz.prog S1 .len [74] [v] = some (.val (.d (.int .i64 (C.list.length : Int))) S1 0) := by rw [wC u119 ho, hc.1]
 have hll : C.list.length ≤ 150000 := by
  obtain ⟨_, _, _, _, _, _, _, _, g, _⟩ := h.sp.ca
  have h1 := g.wq
  have h2 := g.ok.last
  omega
 simp (maxSteps:=1000000) (disch:=first|assumption|omega|rfl) only [↓gp, gc, Nat.reduceAdd, z9z, wO, hry, kA, hch, bo25, hE, bo37, hln]
 refine zuu y x c r m mk gm l e C mf gf gl b S1 (h.keep hK) hb hll no v fs ho hc _ C.list.length 0 S1 (.ts []) _ _ _ _ _ _ _ _ _ _ _ _ _ _ _ _ _ _ _ _ _ _ _ _ _ _ _ _ _ _ _ _ _ _ _ _ _ _ _ rfl (Nat.zero_le _) Keep.refl (fun j _ => NotAt.ts) (.inl ⟨rfl, rfl⟩) ?_
 intro S2 v5 i' g2 g3 g4 g6 g7 g8 g9 gI gE gG gB gC gA gD gK gN gJ gH gO gP gT gQ gU gR gS gV gW gX gY gZ gh gj gk gn gr gz hH hU hY hK2 hN2 ho2
 have h51 := qL ho2
 simp (maxSteps:=1000000) (disch:=first|assumption|omega|rfl) only [↓gp, gc, Nat.reduceAdd, h51]
 exact ⟨rfl, _, rfl, hK.trans hK2, v5, rfl, fun j hj => hN2 j (Nat.lt_of_lt_of_le hj hK.len), ho2⟩
def bitP (C : CS) (no : Nat) (on : Bool) : List UInt8 := [setB (C.see 1) no on]
theorem zr4 (S : zB) (y x c r m mk gm : Nat) (l : Lay) (e : Int) (C : CS) (mf gf : Int → Option V) (gl : Int → List Int) (b : Nat) (h : AllP S y x c r m mk gm l e C mf gf gl b) (hb : InB l.blocks) (hi : InB l.inodes) (hm : MayL l) (no : Nat) (hno : no < 2048) (on : Bool) (nd : V) (ids : List Int) (hnd : IntsV S nd ids) (hids : ids.length ≤ 50000) (hl : C.last < 100000) :
  EvS cfg 65 [.ref y 0 0, .d (.int .i64 (no : Int)), .d (.bool on), nd] S (fun o S' => FrS m r S S' ∧ StoreP S' x c r m mk l (spE e C 1 ((no / 8 : Nat) : Int) (bitP C no on) ids) (spC e C 1 ((no / 8 : Nat) : Int) (bitP C no on) ids) mf ∧ o = .ret (.d (.int .i64 (spI e C 1 ((no / 8 : Nat) : Int) (bitP C no on) ids)))) := by
 refine qH rfl zyn ?_
 show Wp cfg (Tryz.f65.body.getD .skip) ((.ref y 0 0) :: (.d (.int .i64 (no : Int))) :: (.d (.bool on)) :: nd :: uZ (uZ ((.tup []) :: (.tup []) :: []))) S [] _
 unfold uZ
 conv => arg 2; whnf
 rw [zR]
 have hry := zD (e := 116) h.hy
 have h1B : 1 < C.img.length := by have := hm.1; have := h.sp.hB; omega
 obtain ⟨o, S1, ⟨hK, v, rfl, hv⟩, hE1⟩ := qF (z6f S x c mk l.blocks l.inodes l.merge e h.sp.hx)
 have hview := fun {ops base K ws cs i dst T} => jC (ops := ops) (base := base) (K := K) (ws := ws) (cs := cs) (i := i) (dst := dst) (T := T) rfl hE1
 have hv1 : v.one = true := by obtain ⟨g, rfl, _⟩ := hv; rfl
 obtain ⟨o, S2, ⟨hF, hC, u, rfl, hu⟩, hE2⟩ := qF (z7t S1 v S.length c r m l.blocks l.inodes l.merge C ((CacheIn.of h.sp.ca).keep hK) hv h.sp.hB 1 h1B)
 simp only [nl1] at hE2
 have hbk := fun {ops base K ws cs i dst T} => jC (ops := ops) (base := base) (K := K) (ws := ws) (cs := cs) (i := i) (dst := dst) (T := T) rfl hE2
 have hsl := hC.at.ok.see_len h1B
 have hu1 := hu.one
 have hF2 : FrC m r S S2 := (Frm.keep hK).trans hF
 have h2 : StoreP S2 x c r m mk l e C mf := h.sp.step hF2 hC.at rfl
 have hpt := fun {ops base K ws cs i dst T S} => zot (ops := ops) (base := base) (K := K) (ws := ws) (cs := cs) (i := i) (dst := dst) (T := T) (S := S) (on := on) hu hsl hno
 have hnd2 : IntsV S2 nd ids := by
  rcases hnd with h | h | h
  ·exact .inl h
  ·exact .inr (.inl h)
  ·exact .inr (.inr (hF2.own h rfl))
 obtain ⟨o, S3, ⟨hF3, h3, rfl⟩, hE3⟩ := qF (zh4 S2 x c r m mk l e C mf h2 1 (.d (patD ((no / 8 : Nat) : Int) (bitP C no on))) (.d (encB (bitP C no on))) ((no / 8 : Nat) : Int) (bitP C no on) (.inr ⟨rfl, rfl⟩) (by unfold InB; omega) nd ids hnd2 hids hl)
 have hput := fun {ops base K ws cs i dst T} => jC (ops := ops) (base := base) (K := K) (ws := ws) (cs := cs) (i := i) (dst := dst) (T := T) rfl hE3
 unfold bitP at *
 have hd1 := hnd.one
 have hry1 := zD (e := 116) (hK _ _ h.hy)
 have hry2 := zD (e := 116) (hF2.row h.hy rfl)
 simp (maxSteps:=1000000) (disch:=first|assumption|omega|rfl) only [↓gp, gc, Nat.reduceAdd]
 refine qX (is := [0, 1, 2, 3, 5, 6, 7, 8, 12, 13, 15, 4, 9, 10, 11, 14, 16, 17]) (h := 0) (by kernel_rfl) (by kernel_rfl) ?_
 simp (maxSteps:=1000000) (disch:=first|assumption|omega|rfl) only [List.replicate_zero, eq_self, gw, ga, Nat.reduceAdd, ↓gq, vso, List.append_nil, hry, qU, kI, wO, kA, zlq, bo77, hview, bo27, hv1, hbk, bo49, hu1, hpt, zwy, hd1, hput, bo50]
 refine ⟨?_, ?_, ?_, by kernel_rfl, ?_⟩
 ·exact zS (by kernel_rfl) (zS (by kernel_rfl) (qE rfl (by kernel_rfl) rfl (vB ((zG hry1).trans kA)) (by simp [wV, qW, qQ]) zZ))
 ·exact zS (by kernel_rfl) (zS (by kernel_rfl) (zS (by kernel_rfl) (qE rfl (by kernel_rfl) rfl (vB ((zG hry2).trans kA)) (by simp [wV, qW, qQ]) zZ)))
 ·repeat first | exact zZ | refine zS (by kernel_rfl) ?_
 simp (maxSteps:=1000000) (disch:=first|assumption|omega|rfl) only [↓gp, gc, Nat.reduceAdd]
 exact ⟨rfl, _, rfl, hF2.toS.trans hF3, h3, rfl⟩
theorem dlM {S S' : zB} {m : Nat} {x : Int} (h : z0b Tryz.prog S 114 (.mr m) (.d (.int .i64 x)) = some S') : zO Tryz.prog S .delete [114, 3] [.mr m, .d (.int .i64 x)] = some (.val (.tup []) S' 3) := by
 simp only [zO, h, Option.map_some]
noncomputable def bs2 (S : zB) (v w : V) : Option Rs := opV Tryz.prog S [v, w] ⟨none, .buildSlice 22 2 #[(0, .tmp 0), (1, .tmp 1)], 0, "", #[], none⟩
theorem zr6 {S : zB} {T : List V} {x y : Operand} {dst : Option Tmp} {ty : TypeId} {pos : String} {after : Array Edge} {g : Option (Nat × Bool)} : opV Tryz.prog S T ⟨dst, .buildSlice 22 2 #[(0, x), (1, y)], ty, pos, after, g⟩ = bs2 S (zE T x) (zE T y) := rfl
theorem zz2 {S : zB} {a b : Int} : bs2 S (.d (.int .i64 a)) (.d (.int .i64 b)) = some (.val (.ts [.int .i64 a, .int .i64 b]) S 0) := by kernel_rfl
theorem srcI {S : zB} {w : V} {ys : List Int} (h : IntsV S w ys) : srcV Tryz.prog S 3 22 w = some (zW ys) := by
 have hf : ((ys.map (D.int .i64)).map V.d).all (qB Tryz.prog 3) = true := by
  rw [List.all_eq_true]
  intro x hx
  obtain ⟨y, hy, rfl⟩ := List.mem_map.1 hx
  obtain ⟨z, _, rfl⟩ := List.mem_map.1 hy
  exact z8a z
 have h6 : (sz Tryz.prog 3).isSome = true := s3z
 have e : (ys.map (D.int .i64)).map V.d = zW ys := by unfold zW; rw [List.map_map]; rfl
 rw [e] at hf
 rcases h with rfl | rfl | h
 ·show srcV Tryz.prog S 3 22 (.d (.sl (ys.map (D.int .i64)))) = _
  simp only [srcV, Tryz.underlying22, kK, hf, h6, Bool.and_self, if_true, e]
 ·simp only [srcV, Tryz.underlying22, kK, hf, h6, Bool.and_self, if_true, e]
 ·exact q21 h
theorem appI {S : zB} {v w : V} {xs ys : List Int} (ho : OwnS S v 3 (zW xs)) (hw : IntsV S w ys) (hl : xs.length + ys.length ≤ 500000) :
  ∃ v' S' k, qN Tryz.prog S 22 22 v w = some (v', S', k) ∧ ((k = 1 ∧ S' = S) ∨ k = 2 ∨ k = 3) ∧ OwnS S' v' 3 (zW (xs ++ ys)) ∧ ∀ j o, S[j]? = some o → NotAt v j → S'[j]? = some o ∧ NotAt v' j := by
 have src := srcI hw
 cases ys with
 | nil =>
  rw [List.append_nil]
  refine ⟨v, S, 1, ?_, .inl ⟨rfl, rfl⟩, ho, fun j o hj hn => ⟨hj, hn⟩⟩
  have e : zW [] = [] := rfl
  rw [e] at src
  rcases z1r ho with rfl | ⟨i, k, rfl⟩ <;> simp only [qN, Tryz.underlying22, src]
 | cons y r =>
  have hz : zOk Tryz.prog 3 = true := zsa
  have e : zW (y :: r) = .d (.int .i64 y) :: zW r := rfl
  rw [e] at src
  have hr : room Tryz.prog 3 (xs.length + ((zW r).length + 1)) = true := zk2 (by rw [qC]; simp at hl; omega)
  have hcat : zW (xs ++ y :: r) = zW xs ++ (.d (.int .i64 y) :: zW r) := by unfold zW; simp
  have hlen : (zW (xs ++ y :: r)).length = xs.length + ((zW r).length + 1) := by rw [qC, qC]; simp
  rcases ho with ⟨rfl, h0⟩ | ⟨id, rfl, h1⟩
  ·have hx0 : xs = [] := by
    have := congrArg List.length h0
    rw [qC] at this
    exact List.length_eq_zero_iff.1 this
   subst hx0
   refine ⟨.rs S.length 0 ((zW r).length + 1), S ++ [.row (.d (.int .i64 y) :: zW r) 3], 2, ?_, .inr (.inl rfl), ?_, fun j o hj hn => ⟨by rw [List.getElem?_append_left (zQ hj)]; exact hj, fun off k hh => by have := zQ hj; cases hh; omega⟩⟩
   ·have hr' : room Tryz.prog 3 ((zW r).length + 1) = true := by simpa using hr
    simp only [qN, Tryz.underlying22, src, hz, if_true, List.all_nil, List.length_nil, Nat.zero_add, hr', Bool.and_self, List.map_nil, List.nil_append]
   ·refine .inr ⟨S.length, ?_, ?_⟩
    ·rw [hlen]; simp
    ·rw [List.getElem?_append_right (Nat.le_refl _), Nat.sub_self]; rfl
  ·refine ⟨.rs S.length 0 (xs.length + ((zW r).length + 1)), S.set id .dead ++ [.row (zW xs ++ .d (.int .i64 y) :: zW r) 3], 3, ?_, .inr (.inr rfl), ?_, fun j o hj hn => ⟨?_, fun off k hh => by have := zQ hj; cases hh; omega⟩⟩
   ·have hxl : (zW xs).length = xs.length := qC
    simp only [qN, Tryz.underlying22, src, hz, if_true, h1, hxl, Nat.le_refl, hr, decide_true, Bool.and_self]
    rw [← hxl, List.take_length]
   ·refine .inr ⟨S.length, ?_, ?_⟩
    ·rw [hlen]
    ·rw [List.getElem?_append_right (by rw [List.length_set]; exact Nat.le_refl _), List.length_set, Nat.sub_self, hcat]; rfl
   ·have hjl := zQ hj
    rw [List.getElem?_append_left (by rw [List.length_set]; exact hjl), List.getElem?_set_ne (by rintro rfl; exact hn _ _ rfl)]
    exact hj
theorem AllP.setgm {S : zB} {y x c r m mk gm : Nat} {l : Lay} {e : Int} {C : CS} {mf gf gf' : Int → Option V} {gl gl' : Int → List Int} {b b' : Nat} (h : AllP S y x c r m mk gm l e C mf gf gl b) {o : Ob} (hm : MpI (S.set gm o) gm gf') (gv : ∀ n, OwnS S ((gf' n).getD (.ts [])) 3 (zW (gl' n))) (gb : ∀ n, (gl' n).length ≤ b') : AllP (S.set gm o) y x c r m mk gm l e C mf gf' gl' b' := by
 obtain ⟨L, cc, h1, _⟩ := h.gp
 have at_ : ∀ {j : Nat} {ys : List V} {t : TypeId}, S[j]? = some (.row ys t) → (S.set gm o)[j]? = some (.row ys t) := fun hj => by rw [List.getElem?_set_ne (by rintro rfl; cases getE h1 hj)]; exact hj
 refine ⟨at_ h.hy, ⟨at_ h.sp.hx, h.sp.ca.setmp h1 h.n1, ?_, h.sp.ne, h.sp.hB⟩, hm, fun n => ?_, gb, h.n1, h.n2⟩
 ·exact h.sp.mp.keep (List.getElem?_set_ne h.n2)
 ·rcases gv n with ho | ⟨id, p, q⟩
  ·exact .inl ho
  ·exact .inr ⟨id, p, at_ q⟩
theorem AllP.frgm {S S' : zB} {y x c r m mk gm : Nat} {l : Lay} {e : Int} {C : CS} {mf gf : Int → Option V} {gl : Int → List Int} {b : Nat} (h : AllP S' y x c r m mk gm l e C mf gf gl b) (hF : FrM m gm r S S') (h0 : ∃ L cc, S[gm]? = some (.mp L cc)) {o : Ob} : FrM m gm r S (S'.set gm o) := by
 refine hF.set fun q hq => ?_
 obtain ⟨L, cc, h1⟩ := h0
 cases getE hq h1
 simp [calm]
end Go.Proofs.YtobgdmgldagjkaaGreat
end
