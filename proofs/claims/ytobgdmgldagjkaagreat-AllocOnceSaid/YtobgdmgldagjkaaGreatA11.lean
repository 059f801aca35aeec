/- alloc.Take. -/
import Derived.ProofKit
import Derived.Deep.Slices
import Derived.OpenShut
import Derived.Test.YtobgdmgldagjkaaGreatA10
set_option linter.unusedVariables false
set_option linter.unusedSimpArgs false
set_option maxRecDepth 100000
set_option maxHeartbeats 4000000
set_option linter.defProp false
section
namespace Go.Proofs.YtobgdmgldagjkaaGreat
open Go.Vm
def bitC (C : CS) (no : Nat) (on : Bool) (ids : List Int) : CS := C.put 1 ((no / 8 : Nat) : Int) (bitP C no on) (z7p C (noZ ids))
theorem zhd {C : CS} {no : Nat} {on : Bool} {ids : List Int} (h1 : 1 < C.img.length) (hno : no < 2048) (hid : ∀ x ∈ noZ ids, 1 ≤ x ∧ x ≤ (C.last : Int)) : putE C 1 ((no / 8 : Nat) : Int) (bitP C no on) (noZ ids) = 0 := by
 unfold putE
 have hp : kP ((no / 8 : Nat) : Int) (bitP C no on) := by
  unfold kP bitP
  refine ⟨?_, ?_, ?_, ?_⟩ <;> simp <;> omega
 rw [if_neg (fun hh => hh hp), if_neg (fun hh => hh hid), if_neg (by omega)]
def takE (C : CS) (no : Nat) (bb : List UInt8) (gs ids : List Int) : Int := spE 0 (bitC C no true []) (no : Int) 0 bb (z0e (bitC C no true []).list gs ++ ids)
def takC (C : CS) (no : Nat) (bb : List UInt8) (gs ids : List Int) : CS := spC 0 (bitC C no true []) (no : Int) 0 bb (z0e (bitC C no true []).list gs ++ ids)
theorem zjx (S : zB) (y x c r m mk gm : Nat) (l : Lay) (C : CS) (mf gf : Int → Option V) (gl : Int → List Int) (b : Nat) (h : AllP S y x c r m mk gm l 0 C mf gf gl b) (hbb : b ≤ 1000000) (hb : InB l.blocks) (hi : InB l.inodes) (hm : MayL l) (D : Nat) (hD : 2 + l.inodes.tdiv 8 = (D : Int)) (N : Nat) (hN : l.blocks = N) (u : V) (bb : List UInt8) (hu : IsB u bb) (hul : bb.length = 256) (nd : V) (ids : List Int) (hnd : IntsV S nd ids) (hids : ids.length ≤ 20000) (hl : C.last < 20000) (no : Nat) (t : List Nat) (hfr : frB (C.see 1) D N = no :: t) :
  EvS cfg 19 [.ref y 0 0, u, nd] S (fun o S' => FrM m gm r S S' ∧ (∃ gf', AllP S' y x c r m mk gm l (takE C no bb (gl no) ids) (takC C no bb (gl no) ids) mf gf' (fun n => if n = (no : Int) then [] else gl n) b) ∧
   o = .ret (if takE C no bb (gl no) ids ≠ 0 then .tup [.d (.int .i64 0), .ts []] else .tup [.d (.int .i64 (no : Int)), .ts [.int .i64 ((C.last : Int) + 1), .int .i64 ((C.last : Int) + 2)]])) := by
 refine qH rfl zrj ?_
 show Wp cfg (Tryz.f19.body.getD .skip) ((.ref y 0 0) :: u :: nd :: uZ (uZ (uZ (uZ (uZ ((.tup []) :: (.tup []) :: (.tup []) :: (.tup []) :: [])))))) S [] _
 unfold uZ
 conv => arg 2; whnf
 rw [zR]
 generalize ha : S.length = a
 have hf := bt42.fits hu hul
 have hld := bt42.load hu hul
 have hu1 := hu.one
 have hd1 := hnd.one
 have h1B : 1 < C.img.length := by have := hm.1; have := h.sp.hB; omega
 have hk0 : Keep S (S ++ [.row [u] 42]) := Keep.refl.app
 have h0 := h.keep hk0
 obtain ⟨o, S1, ⟨rfl, hC1, hF1⟩, hE⟩ := qF (zne _ _ y x c r m mk gm l 0 C h0.seen h0.sp.hB hb hi hm D hD N hN)
 have hnx := fun {ops dst k T F Q} => zH (ops := ops) (dst := dst) (l := k) (T := T) (F := F) (Q := Q) rfl hE
 rw [hfr] at hnx
 have hde : ∀ i : Decidable (no :: t ≠ []), @decide (no :: t ≠ []) i = true := fun i => decide_eq_true (by simp)
 simp only [List.headD_cons, hde] at hnx
 have h1 := h0.frC hF1 hC1.at rfl
 have her := fun {ops dst k T F Q} => zH (ops := ops) (dst := dst) (l := k) (T := T) (F := F) (Q := Q) rfl (z74 S1 x c mk _ _ _ 0 h1.sp.hx)
 have hmem : no ∈ frB (C.see 1) D N := by rw [hfr]; simp
 have hnoN : no < N := by
  unfold frB at hmem
  exact List.mem_range.1 (List.mem_filter.1 hmem).1
 have hN512 : N ≤ 512 := by have := hm.2.1; omega
 have hpe : putE C 1 ((no / 8 : Nat) : Int) (bitP C no true) (noZ []) = 0 := zhd h1B (by omega) (by intro x hx; cases hx)
 obtain ⟨o, S2, ⟨hF2, h2s, rfl⟩, hE2⟩ := qF (zr4 S1 y x c r m mk gm l 0 C mf gf gl b h1 hb hi hm no (by omega) true (.ts []) [] (.inr (.inl rfl)) (Nat.zero_le _) (by omega))
 have e1 : spE 0 C 1 ((no / 8 : Nat) : Int) (bitP C no true) [] = 0 := by unfold spE; rw [if_neg (fun h => h rfl), hpe]
 have e2 : spC 0 C 1 ((no / 8 : Nat) : Int) (bitP C no true) [] = bitC C no true [] := by unfold spC bitC; rw [if_neg (fun h => h rfl), if_neg (fun hh => hh hpe)]
 have e3 : spI 0 C 1 ((no / 8 : Nat) : Int) (bitP C no true) [] = (C.last : Int) + 1 := by unfold spI; rw [if_neg (fun h => h rfl), if_neg (fun hh => hh hpe)]
 rw [e1, e2] at h2s
 rw [e3] at hE2
 have hbit := fun {ops dst k T F Q} => zH (ops := ops) (dst := dst) (l := k) (T := T) (F := F) (Q := Q) rfl hE2
 have h2 := h1.frS hF2 h2s
 have hC1l : (bitC C no true []).last = C.last + 1 := rfl
 have hC1n : (bitC C no true []).img = C.img := rfl
 unfold takE takC
 generalize hCC : bitC C no true [] = C1 at *
 obtain ⟨o, S3, ⟨hK3, v38, rfl, hN3, ho3⟩, hE3⟩ := qF (zun S2 y x c r m mk gm l 0 C1 mf gf gl b h2 hbb no)
 have hgone := fun {ops base K ws cs i dst T} => jC (ops := ops) (base := base) (K := K) (ws := ws) (cs := cs) (i := i) (dst := dst) (T := T) rfl hE3
 have hv38 := qL ho3
 have hF02 : FrM m gm r (S ++ [.row [u] 42]) S2 := FrS.toM (mk := gm) (Frm.trans hF1.toS hF2)
 have h3 := h2.keep hK3
 have hnd3 : IntsV S3 nd ids := by
  rcases hnd with h | h | h
  ·exact .inl h
  ·exact .inr (.inl h)
  ·exact .inr (.inr (hK3.own (hF02.own (hk0.own h) rfl)))
 have hgl : (z0e C1.list (gl (no : Int))).length ≤ 20102 := by
  refine Nat.le_trans zdh ?_
  obtain ⟨_, _, _, _, _, _, _, _, g, _⟩ := h3.sp.ca
  have := g.wq
  omega
 obtain ⟨v40, S4, kk, hap, hkk, ho4, hfr4⟩ := appI ho3 hnd3 (by omega)
 have hK4 : Keep S2 S4 := fun j p hj => (hfr4 j p (hK3 j p hj) (hN3 j (zQ hj))).1
 have h4 := h2.keep hK4
 have hv40 := qL ho4
 obtain ⟨o, S5, ⟨hF5, h5s, rfl⟩, hE5⟩ := qF (zo7 S4 x c r m mk l 0 C1 mf h4.sp (no : Int) u bb hu hul v40 (z0e C1.list (gl (no : Int)) ++ ids) (.inr (.inr ho4)) (by simp; omega) (by omega))
 have hfill := fun {ops base K ws cs i dst T} => jC (ops := ops) (base := base) (K := K) (ws := ws) (cs := cs) (i := i) (dst := dst) (T := T) rfl hE5
 have h5 := h4.frS hF5 h5s
 generalize hce : spE 0 C1 (no : Int) 0 bb (z0e C1.list (gl (no : Int)) ++ ids) = ee at *
 generalize hcc : spC 0 C1 (no : Int) 0 bb (z0e C1.list (gl (no : Int)) ++ ids) = C2 at *
 have hryk := fun {S' : zB} (hh : AllP S' y x c r m mk gm l 0 C1 mf gf gl b) => zD (e := 116) hh.hy
 have hry1 := zD (e := 116) h1.hy
 have hry2 := hryk h2
 have hry3 := hryk h3
 have hry4 := hryk h4
 have hry5 := zD (e := 116) h5.hy
 have hu0 : (S ++ [Ob.row [u] 42])[a]? = some (.row [u] 42) := by rw [List.getElem?_append_right (by omega), ha, Nat.sub_self]; rfl
 have har : a ≠ r := by
  have := h.sp.ca.rn
  omega
 have hu2 : S2[a]? = some (.row [u] 42) := hF02.row hu0 (by simp [har])
 have hru2 := zD (e := 42) hu2
 have hru3 := zD (e := 42) (hK3 _ _ hu2)
 have hru4 := zD (e := 42) (hK4 _ _ hu2)
 have hus := zc7 hu
 have hw1 : ∀ {i : Nat} {ws : Ws}, True := fun {_ _} => trivial
 have hde0 : ∀ i : Decidable ((0 : Int) ≠ 0), @decide ((0 : Int) ≠ 0) i = false := fun i => decide_eq_false (fun h => h rfl)
 simp (maxSteps:=1000000) (disch:=first|assumption|omega|rfl) only [↓gp, gc, Nat.reduceAdd, hf, ha, hnx, bo43, jG, Bool.not_true, hry1, wO, kA, her, bo45, hde0, z0v, hbit, bo65]
 refine Wp.mono (Q := fun x T' S' F' => x = .norm ∧ F' = [] ∧ S' = S5 ∧ ∃ w11 g1 g2 g3 g4 g5 g9 gG gB gC gA gD gL gM gF gK gN gJ gH gO gP gT gQ gU gR gS gV gW gX gY gZ gh gj gk gn gr gz hH hU hY xF hZ xA xB xC xD xE xG xH xI xJ xK, w11 = V.d (.int .i64 (spI 0 C1 (no : Int) 0 bb (z0e C1.list (gl (no : Int)) ++ ids))) ∧ T' = ((.ref y 0 0) :: g1 :: g2 :: g3 :: g4 :: g5 :: (.d (.int .i64 0)) :: (.ts []) :: (.d (.int .i64 (no : Int))) :: g9 :: (.d (.int .i64 ((C.last : Int) + 1))) :: w11 :: gG :: gB :: gC :: gA :: gD :: gL :: gM :: gF :: gK :: gN :: gJ :: gH :: gO :: gP :: gT :: gQ :: gU :: gR :: gS :: gV :: gW :: gX :: gY :: gZ :: gh :: gj :: gk :: gn :: gr :: gz :: hH :: hU :: hY :: xF :: hZ :: xA :: xB :: xC :: xD :: xE :: xG :: xH :: xI :: xJ :: xK :: [])) ?_ ?_
 ·rcases hkk with ⟨rfl, rfl⟩ | rfl | rfl
  ·refine qX (is := [0, 1, 2, 3, 4, 5, 6, 7, 9, 8, 10, 11, 12]) (h := 0) (by kernel_rfl) (by kernel_rfl) ?_
   simp (maxSteps:=1000000) (disch:=first|assumption|omega|rfl) only [List.replicate_zero, eq_self, gw, ga, Nat.reduceAdd, ↓gq, vso, List.append_nil, hry2, qU, kI, wO, kA, hru2, hld, hu1, hgone, bo44, hv38, hd1, hap, hv40, hfill, bo66]
   refine ⟨qE rfl (by kernel_rfl) rfl (vB ((zG hru3).trans hld)) hus (qE rfl (by kernel_rfl) rfl (vB ((zG hry3).trans kA)) (by simp [wV, qW, qQ]) zZ), zS (by kernel_rfl) (zS (by kernel_rfl) (zS (by kernel_rfl) zZ)), by kernel_rfl, ?_⟩
   exact ⟨trivial, trivial, trivial, _, _, _, _, _, _, _, _, _, _, _, _, _, _, _, _, _, _, _, _, _, _, _, _, _, _, _, _, _, _, _, _, _, _, _, _, _, _, _, _, _, _, _, _, _, _, _, _, _, _, _, _, rfl, rfl⟩
  ·refine qX (is := [0, 1, 2, 3, 4, 5, 6, 7, 9, 8, 10, 11, 12]) (h := 0) (by kernel_rfl) (by kernel_rfl) ?_
   simp (maxSteps:=1000000) (disch:=first|assumption|omega|rfl) only [List.replicate_zero, eq_self, gw, ga, Nat.reduceAdd, ↓gq, vso, List.append_nil, hry2, qU, kI, wO, kA, hru2, hld, hu1, hgone, bo44, hv38, hd1, hap, hv40, hfill, bo66]
   refine ⟨qE rfl (by kernel_rfl) rfl (vB ((zG hru3).trans hld)) hus (qE rfl (by kernel_rfl) rfl (vB ((zG hry3).trans kA)) (by simp [wV, qW, qQ]) zZ), qE rfl (by kernel_rfl) rfl (vB ((zG hru4).trans hld)) hus (qE rfl (by kernel_rfl) rfl (vB ((zG hry4).trans kA)) (by simp [wV, qW, qQ]) zZ), zS (by kernel_rfl) (zS (by kernel_rfl) zZ), by kernel_rfl, ?_⟩
   exact ⟨trivial, trivial, trivial, _, _, _, _, _, _, _, _, _, _, _, _, _, _, _, _, _, _, _, _, _, _, _, _, _, _, _, _, _, _, _, _, _, _, _, _, _, _, _, _, _, _, _, _, _, _, _, _, _, _, _, _, rfl, rfl⟩
  ·refine qX (is := [0, 1, 2, 3, 4, 5, 6, 7, 9, 8, 10, 11, 12]) (h := 0) (by kernel_rfl) (by kernel_rfl) ?_
   simp (maxSteps:=1000000) (disch:=first|assumption|omega|rfl) only [List.replicate_zero, eq_self, gw, ga, Nat.reduceAdd, ↓gq, vso, List.append_nil, hry2, qU, kI, wO, kA, hru2, hld, hu1, hgone, bo44, hv38, hd1, hap, hv40, hfill, bo66]
   refine ⟨qE rfl (by kernel_rfl) rfl (vB ((zG hru3).trans hld)) hus (qE rfl (by kernel_rfl) rfl (vB ((zG hry3).trans kA)) (by simp [wV, qW, qQ]) zZ), qE rfl (by kernel_rfl) rfl (vB ((zG hru4).trans hld)) hus (qE rfl (by kernel_rfl) rfl (vB ((zG hry4).trans kA)) (by simp [wV, qW, qQ]) zZ), zS (by kernel_rfl) (zS (by kernel_rfl) zZ), by kernel_rfl, ?_⟩
   exact ⟨trivial, trivial, trivial, _, _, _, _, _, _, _, _, _, _, _, _, _, _, _, _, _, _, _, _, _, _, _, _, _, _, _, _, _, _, _, _, _, _, _, _, _, _, _, _, _, _, _, _, _, _, _, _, _, _, _, _, rfl, rfl⟩
 ·rintro _ _ S5 _ ⟨rfl, rfl, rfl, w11, g1, g2, g3, g4, g5, g9, gG, gB, gC, gA, gD, gL, gM, gF, gK, gN, gJ, gH, gO, gP, gT, gQ, gU, gR, gS, gV, gW, gX, gY, gZ, gh, gj, gk, gn, gr, gz, hH, hU, hY, xF, hZ, xA, xB, xC, xD, xE, xG, xH, xI, xJ, xK, rfl, rfl⟩
  obtain ⟨om, hdl, hm6, es6, cc6, rfl⟩ := h5.gp.del zsb (no : Int)
  have hdl := dlM hdl
  have h6 := h5.setgm (gl' := fun n => if n = (no : Int) then [] else gl n) (b' := b) hm6 (fun n => by
   unfold updI
   by_cases hn : n = (no : Int)
   ·rw [if_pos hn]; simp only [hn, if_true]; exact .inl ⟨rfl, rfl⟩
   ·rw [if_neg hn]; simp only [hn, if_false]; exact h5.gv n) (fun n => by
   by_cases hn : n = (no : Int)
   ·simp only [hn, if_true]; exact Nat.zero_le _
   ·simp only [hn, if_false]; exact h5.gb n)
  have hry6 := zD (e := 116) h6.hy
  have hF06 : FrM m gm r S (S5.set gm (.mp es6 cc6)) := by
   refine h5.frgm ?_ (by obtain ⟨L, cc, e, _⟩ := h.gp; exact ⟨_, cc, e⟩)
   exact (Frm.keep hk0).trans (hF02.trans ((FrS.toM (mk := gm) ((FrC.toS (Frm.keep hK4)).trans hF5))))
  generalize S5.set gm (Ob.mp es6 cc6) = S6 at *
  have her6 := fun {ops dst k T F Q} => zH (ops := ops) (dst := dst) (l := k) (T := T) (F := F) (Q := Q) rfl (z74 S6 x c mk _ _ _ ee h6.sp.hx)
  by_cases hee : ee = 0
  ·have hde6 : ∀ i : Decidable (ee ≠ 0), @decide (ee ≠ 0) i = false := fun i => decide_eq_false (fun h => h hee)
   have hsp : spI 0 C1 (no : Int) 0 bb (z0e C1.list (gl (no : Int)) ++ ids) = (C.last : Int) + 2 := by
    unfold spE at hce
    rw [if_neg (fun h => h rfl)] at hce
    unfold spI
    rw [if_neg (fun h => h rfl), if_neg (fun hh => hh (by rw [hce]; exact hee)), hC1l]
    omega
   rw [hsp]
   simp (maxSteps:=1000000) (disch:=first|assumption|omega|rfl) only [↓gp, gc, Nat.reduceAdd, ↓vbs, hry5, z65, z31, hdl, hry6, wO, kA, her6, bo45, hde6, zr6, zz2]
   refine ⟨rfl, _, z11 rfl rfl rfl rfl, hF06, ⟨_, h6⟩, ?_⟩
   rw [if_neg (fun h => h hee)]
   rfl
  ·have hde6 : ∀ i : Decidable (ee ≠ 0), @decide (ee ≠ 0) i = true := fun i => decide_eq_true hee
   simp (maxSteps:=1000000) (disch:=first|assumption|omega|rfl) only [↓gp, gc, Nat.reduceAdd, ↓vbs, hry5, z65, z31, hdl, hry6, wO, kA, her6, bo45, hde6]
   refine ⟨rfl, _, z11 rfl rfl rfl rfl, hF06, ⟨_, h6⟩, ?_⟩
   rw [if_pos hee]
   rfl
theorem zm7 (S : zB) (y x c r m mk gm : Nat) (l : Lay) (e : Int) (C : CS) (mf gf : Int → Option V) (gl : Int → List Int) (b : Nat) (h : AllP S y x c r m mk gm l e C mf gf gl b) (hb : InB l.blocks) (hi : InB l.inodes) (hm : MayL l) (D : Nat) (hD : 2 + l.inodes.tdiv 8 = (D : Int)) (N : Nat) (hN : l.blocks = N) (u : V) (bb : List UInt8) (hu : IsB u bb) (hul : bb.length = 256) (nd : V) (hor : frB (C.see 1) D N = [] ∨ e ≠ 0) :
  EvS cfg 19 [.ref y 0 0, u, nd] S (fun o S' => FrC m r S S' ∧ AllP S' y x c r m mk gm l e C mf gf gl b ∧ o = .ret (.tup [.d (.int .i64 0), .ts []])) := by
 refine qH rfl zrj ?_
 show Wp cfg (Tryz.f19.body.getD .skip) ((.ref y 0 0) :: u :: nd :: uZ (uZ (uZ (uZ (uZ ((.tup []) :: (.tup []) :: (.tup []) :: (.tup []) :: [])))))) S [] _
 unfold uZ
 conv => arg 2; whnf
 rw [zR]
 generalize ha : S.length = a
 have hf := bt42.fits hu hul
 have hk0 : Keep S (S ++ [.row [u] 42]) := Keep.refl.app
 have h0 := h.keep hk0
 obtain ⟨o, S1, ⟨rfl, hC1, hF1⟩, hE⟩ := qF (zne _ _ y x c r m mk gm l e C h0.seen h0.sp.hB hb hi hm D hD N hN)
 have hnx := fun {ops dst k T F Q} => zH (ops := ops) (dst := dst) (l := k) (T := T) (F := F) (Q := Q) rfl hE
 have h1 := h0.frC hF1 hC1.at rfl
 have her := fun {ops dst k T F Q} => zH (ops := ops) (dst := dst) (l := k) (T := T) (F := F) (Q := Q) rfl (z74 S1 x c mk _ _ _ e h1.sp.hx)
 have hry1 := zD (e := 116) h1.hy
 cases hfr : frB (C.see 1) D N with
 | nil =>
  rw [hfr] at hnx
  have hde : ∀ i : Decidable (([] : List Nat) ≠ []), @decide (([] : List Nat) ≠ []) i = false := fun i => decide_eq_false (fun h => h rfl)
  simp only [hde] at hnx
  simp (maxSteps:=1000000) (disch:=first|assumption|omega|rfl) only [↓gp, gc, Nat.reduceAdd, hf, ha, hnx, bo43, jG, Bool.not_false, z0v]
  exact ⟨rfl, _, z11 rfl rfl rfl rfl, (Frm.keep hk0).trans hF1, h1, rfl⟩
 | cons no t =>
  rw [hfr] at hnx hor
  have he : e ≠ 0 := by
   rcases hor with hor | hor
   ·cases hor
   ·exact hor
  have hde : ∀ i : Decidable (no :: t ≠ []), @decide (no :: t ≠ []) i = true := fun i => decide_eq_true (by simp)
  simp only [hde] at hnx
  have hde2 : ∀ i : Decidable (e ≠ 0), @decide (e ≠ 0) i = true := fun i => decide_eq_true he
  simp (maxSteps:=1000000) (disch:=first|assumption|omega|rfl) only [↓gp, gc, Nat.reduceAdd, hf, ha, hnx, bo43, jG, Bool.not_true, hry1, wO, kA, her, bo45, hde2, z0v]
  exact ⟨rfl, _, z11 rfl rfl rfl rfl, (Frm.keep hk0).trans hF1, h1, rfl⟩
theorem zku (l : Lay) (hb : InB l.blocks) (hi : InB l.inodes) (hm : MayL l) (no : Int) : Ev cfg 69 [encLay l, .int .i64 no] (.ret (.d (.bool (decide (2 + l.inodes.tdiv 8 ≤ no ∧ no < l.blocks))))) := by
 refine kD rfl rfl q06 ?_
 show Wp cfg (Tryz.f69.body.getD .skip) ((.d (encLay l)) :: (.d (.int .i64 no)) :: uZ ((.tup []) :: (.tup []) :: (.tup []) :: (.tup []) :: (.tup []) :: (.tup []) :: (.tup []) :: [])) [] [] _
 unfold uZ
 conv => arg 2; whnf
 have hok : ∀ {ops dst k T S F Q}, WpR cfg ops dst k T S F Q (some (.enter 109 [.d (encLay l)])) = WpL cfg ops k (putT T dst (.d (.bool true))) S F Q := fun {ops dst k T S F Q} => qA (ds := [encLay l]) rfl (zw5 l hb hi hm)
 have hdt : ∀ {ops dst k T S F Q}, WpR cfg ops dst k T S F Q (some (.enter 108 [.d (encLay l)])) = WpL cfg ops k (putT T dst (.d (.int .i64 (2 + l.inodes.tdiv 8)))) S F Q := fun {ops dst k T S F Q} => qA (ds := [encLay l]) rfl (zbn l hb hi hm)
 by_cases h1 : no ≥ 2 + l.inodes.tdiv 8
 ·have e : decide (2 + l.inodes.tdiv 8 ≤ no ∧ no < l.blocks) = decide (no < l.blocks) := by
   by_cases h2 : no < l.blocks
   ·rw [decide_eq_true h2, decide_eq_true ⟨h1, h2⟩]
   ·rw [decide_eq_false h2, decide_eq_false (fun h => h2 h.2)]
  rw [e]
  simp (maxSteps:=1000000) (disch:=first|assumption|omega|rfl) only [↓gp, gc, Nat.reduceAdd, lr32, vF, z0q, hok, zke, hdt, za1, zN]
  exact zP rfl rfl rfl
 ·rw [decide_eq_false (fun h => h1 h.1)]
  simp (maxSteps:=1000000) (disch:=first|assumption|omega|rfl) only [↓gp, gc, Nat.reduceAdd, lr32, vF, z0q, hok, zke, hdt, za1, zN]
  exact zP rfl rfl rfl
theorem z97 {ops : Array Oper} {dst : Option Tmp} {k : List Oper} {T : List V} {S : zB} {F : Dfs} {Q : Post} {l : Lay} (hb : InB l.blocks) (hi : InB l.inodes) (hm : MayL l) {no : Int} : WpR cfg ops dst k T S F Q (some (.enter 69 [.agg [.d (.int .i64 l.blocks), .d (.int .i64 l.inodes), .d (.int .u64 l.merge)], .d (.int .i64 no)])) = WpL cfg ops k (putT T dst (.d (.bool (decide (2 + l.inodes.tdiv 8 ≤ no ∧ no < l.blocks))))) S F Q :=
 kW (ds := [encLay l, .int .i64 no]) rfl rfl rfl (zku l hb hi hm no)
theorem zum (S : zB) (y x c r m mk gm : Nat) (l : Lay) (e : Int) (C : CS) (mf gf : Int → Option V) (gl : Int → List Int) (b : Nat) (h : AllP S y x c r m mk gm l e C mf gf gl b) (hb : InB l.blocks) (hi : InB l.inodes) (hm : MayL l) (no : Int) (nd : V) (hor : ¬ (2 + l.inodes.tdiv 8 ≤ no ∧ no < l.blocks) ∨ z2g l C no = false ∨ e ≠ 0) :
  EvS cfg 23 [.ref y 0 0, .d (.int .i64 no), nd] S (fun o S' => FrC m r S S' ∧ AllP S' y x c r m mk gm l e C mf gf gl b ∧ o = .ret (.d (.int .i64 0))) := by
 refine qH rfl zrd ?_
 show Wp cfg (Tryz.f23.body.getD .skip) ((.ref y 0 0) :: (.d (.int .i64 no)) :: nd :: uZ (uZ (uZ (uZ ((.tup []) :: (.tup []) :: (.tup []) :: (.tup []) :: (.tup []) :: []))))) S [] _
 unfold uZ
 conv => arg 2; whnf
 rw [zR]
 have hry := zD (e := 116) h.hy
 obtain ⟨o, S1, ⟨hK, v, rfl, hv⟩, hE1⟩ := qF (z6f S x c mk l.blocks l.inodes l.merge e h.sp.hx)
 have hview := fun {ops dst k T F Q} => zH (ops := ops) (dst := dst) (l := k) (T := T) (F := F) (Q := Q) rfl hE1
 have hv0 := hv
 obtain ⟨gg, rfl, hg⟩ := hv
 generalize ha1 : S1.length = a1
 have hKa : Keep S (S1 ++ [.row [kO l.blocks l.inodes l.merge gg] 55]) := hK.app
 have hid := fun {ops dst k T S F Q} => z97 (ops := ops) (dst := dst) (k := k) (T := T) (S := S) (F := F) (Q := Q) (no := no) hb hi hm
 by_cases c1 : 2 + l.inodes.tdiv 8 ≤ no ∧ no < l.blocks
 case neg =>
  have hde : ∀ i : Decidable (2 + l.inodes.tdiv 8 ≤ no ∧ no < l.blocks), @decide (2 + l.inodes.tdiv 8 ≤ no ∧ no < l.blocks) i = false := fun i => decide_eq_false c1
  simp only [hde] at hid
  simp (maxSteps:=1000000) (disch:=first|assumption|omega|rfl) only [↓gp, gc, Nat.reduceAdd, z9z, wO, hry, kA, hview, bo27, z52, zf52, z7l, ha1, rA0 ha1, pA0 ha1, sr52, z0c, z5a, lr52, hid, bo69, jG, Bool.not_false]
  exact ⟨rfl, _, rfl, Frm.keep hKa, h.keep hKa, rfl⟩
 have hde : ∀ i : Decidable (2 + l.inodes.tdiv 8 ≤ no ∧ no < l.blocks), @decide (2 + l.inodes.tdiv 8 ≤ no ∧ no < l.blocks) i = true := fun i => decide_eq_true c1
 simp only [hde] at hid
 have h2 := h.keep hKa
 obtain ⟨o, S3, ⟨hF3, hC3, w, rfl, rfl⟩, hE3⟩ := qF (zez (S1 ++ [.row [kO l.blocks l.inodes l.merge gg] 55]) _ _ c r m l C (CacheIn.of h2.sp.ca) (hv0.keep Keep.refl.app) h.sp.hB hb hi hm no)
 have hus := fun {ops dst k T F Q} => zH (ops := ops) (dst := dst) (l := k) (T := T) (F := F) (Q := Q) rfl hE3
 have h3 := h2.frC hF3 hC3.at rfl
 have hF03 : FrC m r S S3 := (Frm.keep hKa).trans hF3
 have hry3 := zD (e := 116) h3.hy
 have her := fun {ops dst k T F Q} => zH (ops := ops) (dst := dst) (l := k) (T := T) (F := F) (Q := Q) rfl (z74 S3 x c mk _ _ _ e h3.sp.hx)
 cases hu : z2g l C no with
 | false =>
  rw [hu] at hus
  simp (maxSteps:=1000000) (disch:=first|assumption|omega|rfl) only [↓gp, gc, Nat.reduceAdd, z9z, wO, hry, kA, hview, bo27, z52, zf52, z7l, ha1, rA0 ha1, pA0 ha1, sr52, z0c, z5a, lr52, hid, bo69, jG, Bool.not_true, Bool.not_false, hus, bo28]
  exact ⟨rfl, _, rfl, hF03, h3, rfl⟩
 | true =>
  rw [hu] at hus hor
  have he : e ≠ 0 := by
   rcases hor with hor | hor | hor
   ·exact absurd c1 hor
   ·cases hor
   ·exact hor
  have hde2 : ∀ i : Decidable (e ≠ 0), @decide (e ≠ 0) i = true := fun i => decide_eq_true he
  simp (maxSteps:=1000000) (disch:=first|assumption|omega|rfl) only [↓gp, gc, Nat.reduceAdd, z9z, wO, hry, kA, hview, bo27, z52, zf52, z7l, ha1, rA0 ha1, pA0 ha1, sr52, z0c, z5a, lr52, hid, bo69, jG, Bool.not_true, Bool.not_false, hus, bo28, hry3, her, bo45, hde2]
  exact ⟨rfl, _, rfl, hF03, h3, rfl⟩
theorem zw0 (S : zB) (y x c r m mk gm : Nat) (l : Lay) (C : CS) (mf gf : Int → Option V) (gl : Int → List Int) (b : Nat) (h : AllP S y x c r m mk gm l 0 C mf gf gl b) (hb : InB l.blocks) (hi : InB l.inodes) (hm : MayL l) (no : Nat) (nd : V) (ids : List Int) (hnd : IntsV S nd ids) (hids : ids.length ≤ 20000) (hl : C.last < 100000) (c1 : 2 + l.inodes.tdiv 8 ≤ (no : Int) ∧ (no : Int) < l.blocks) (hu : z2g l C no = true) :
  EvS cfg 23 [.ref y 0 0, .d (.int .i64 (no : Int)), nd] S (fun o S' => FrM m gm r S S' ∧ (∃ gf', AllP S' y x c r m mk gm l (spE 0 C 1 ((no / 8 : Nat) : Int) (bitP C no false) ids) (spC 0 C 1 ((no / 8 : Nat) : Int) (bitP C no false) ids) mf gf' (fun n => if n = (no : Int) then ids else gl n) (max b ids.length)) ∧ o = .ret (.d (.int .i64 (spI 0 C 1 ((no / 8 : Nat) : Int) (bitP C no false) ids)))) := by
 refine qH rfl zrd ?_
 show Wp cfg (Tryz.f23.body.getD .skip) ((.ref y 0 0) :: (.d (.int .i64 (no : Int))) :: nd :: uZ (uZ (uZ (uZ ((.tup []) :: (.tup []) :: (.tup []) :: (.tup []) :: (.tup []) :: []))))) S [] _
 unfold uZ
 conv => arg 2; whnf
 rw [zR]
 have hry := zD (e := 116) h.hy
 obtain ⟨o, S1, ⟨hK, v, rfl, hv⟩, hE1⟩ := qF (z6f S x c mk l.blocks l.inodes l.merge 0 h.sp.hx)
 have hview := fun {ops dst k T F Q} => zH (ops := ops) (dst := dst) (l := k) (T := T) (F := F) (Q := Q) rfl hE1
 have hv0 := hv
 obtain ⟨gg, rfl, hg⟩ := hv
 generalize ha1 : S1.length = a1
 have hKa : Keep S (S1 ++ [.row [kO l.blocks l.inodes l.merge gg] 55]) := hK.app
 have hid := fun {ops dst k T S F Q} => z97 (ops := ops) (dst := dst) (k := k) (T := T) (S := S) (F := F) (Q := Q) (no := (no : Int)) hb hi hm
 have hde : ∀ i : Decidable (2 + l.inodes.tdiv 8 ≤ (no : Int) ∧ (no : Int) < l.blocks), @decide (2 + l.inodes.tdiv 8 ≤ (no : Int) ∧ (no : Int) < l.blocks) i = true := fun i => decide_eq_true c1
 simp only [hde] at hid
 have h2 := h.keep hKa
 obtain ⟨o, S3, ⟨hF3, hC3, w, rfl, rfl⟩, hE3⟩ := qF (zez (S1 ++ [.row [kO l.blocks l.inodes l.merge gg] 55]) _ _ c r m l C (CacheIn.of h2.sp.ca) (hv0.keep Keep.refl.app) h.sp.hB hb hi hm (no : Int))
 have hus := fun {ops dst k T F Q} => zH (ops := ops) (dst := dst) (l := k) (T := T) (F := F) (Q := Q) rfl hE3
 rw [hu] at hus
 have h3 := h2.frC hF3 hC3.at rfl
 have hF03 : FrC m r S S3 := (Frm.keep hKa).trans hF3
 have hry3 := zD (e := 116) h3.hy
 have her := fun {ops dst k T F Q} => zH (ops := ops) (dst := dst) (l := k) (T := T) (F := F) (Q := Q) rfl (z74 S3 x c mk _ _ _ 0 h3.sp.hx)
 have hde0 : ∀ i : Decidable ((0 : Int) ≠ 0), @decide ((0 : Int) ≠ 0) i = false := fun i => decide_eq_false (fun h => h rfl)
 have hfI : ∀ {S' : zB}, FrC m r S S' → IntsV S' nd ids := fun {S'} hF => by
  rcases hnd with h | h | h
  ·exact .inl h
  ·exact .inr (.inl h)
  ·exact .inr (.inr (hF.own h rfl))
 have h512 := hm.2.1
 obtain ⟨o, S4, ⟨hF4, h4s, rfl⟩, hE4⟩ := qF (zr4 S3 y x c r m mk gm l 0 C mf gf gl b h3 hb hi hm no (by omega) false nd ids (hfI hF03) (by omega) hl)
 have hbit := fun {ops dst k T F Q} => zH (ops := ops) (dst := dst) (l := k) (T := T) (F := F) (Q := Q) rfl hE4
 have h4 := h3.frS hF4 h4s
 have hd1 := hnd.one
 have hnd4 : IntsV S4 nd ids := by
  rcases hfI hF03 with h | h | h
  ·exact .inl h
  ·exact .inr (.inl h)
  ·exact .inr (.inr (hF4.own h rfl))
 generalize spE 0 C 1 ((no / 8 : Nat) : Int) (bitP C no false) ids = e' at *
 generalize spC 0 C 1 ((no / 8 : Nat) : Int) (bitP C no false) ids = C' at *
 generalize spI 0 C 1 ((no / 8 : Nat) : Int) (bitP C no false) ids = id' at *
 have hry4 := zD (e := 116) h4.hy
 obtain ⟨v46, S5, kk, hap, hkk, ho5, hfr5⟩ := appI (S := S4) (v := .ts []) (xs := []) (.inl ⟨rfl, rfl⟩) hnd4 (by simp; omega)
 have hK5 : Keep S4 S5 := fun j p hj => (hfr5 j p hj NotAt.ts).1
 have h5 := h4.keep hK5
 have hry5 := zD (e := 116) h5.hy
 have hv46 := qL ho5
 rw [List.nil_append] at ho5
 obtain ⟨om, hup, hm6, es6, cc6, rfl⟩ := h5.gp.put zsb (no : Int) (v := v46) hv46
 have h6 := h5.setgm (gl' := fun n => if n = (no : Int) then ids else gl n) (b' := max b ids.length) hm6 (fun n => by
  unfold updI
  by_cases hn : n = (no : Int)
  ·rw [if_pos hn]; simp only [hn, if_true]; exact ho5
  ·rw [if_neg hn]; simp only [hn, if_false]; exact h5.gv n) (fun n => by
  by_cases hn : n = (no : Int)
  ·simp only [hn, if_true]; omega
  ·simp only [hn, if_false]; have := h5.gb n; omega)
 have hF06 : FrM m gm r S (S5.set gm (.mp es6 cc6)) := by
  refine h5.frgm ?_ (by obtain ⟨L, cc, e, _⟩ := h.gp; exact ⟨_, cc, e⟩)
  exact (FrS.toM (mk := gm) hF03.toS).trans (FrS.toM (mk := gm) (hF4.trans (FrC.toS (Frm.keep hK5))))
 simp (maxSteps:=1000000) (disch:=first|assumption|omega|rfl) only [↓gp, gc, Nat.reduceAdd, z9z, wO, hry, kA, hview, bo27, z52, zf52, z7l, ha1, rA0 ha1, pA0 ha1, sr52, z0c, z5a, lr52, hid, bo69, jG, Bool.not_true, Bool.not_false, hus, bo28, hry3, her, bo45, hde0, hd1, hbit, bo65]
 refine Wp.mono (Q := fun x T' S' F' => x = .norm ∧ F' = [] ∧ S' = S5.set gm (.mp es6 cc6) ∧ ∃ g1 g2 g3 g4 g5 g7 g9 gI gE gG gB gC gA gD gL gM gF gK gN gJ gH gO gP gT gQ gU gR gS gV gW gX gY gZ gh gj gk gn gr gz hH hU hY xF hZ xA, T' = ((.ref y 0 0) :: g1 :: g2 :: g3 :: g4 :: g5 :: (.d (.int .i64 0)) :: g7 :: (.d (.int .i64 id')) :: g9 :: gI :: gE :: gG :: gB :: gC :: gA :: gD :: gL :: gM :: gF :: gK :: gN :: gJ :: gH :: gO :: gP :: gT :: gQ :: gU :: gR :: gS :: gV :: gW :: gX :: gY :: gZ :: gh :: gj :: gk :: gn :: gr :: gz :: hH :: hU :: hY :: xF :: hZ :: xA :: [])) ?_ ?_
 ·rcases hkk with ⟨rfl, rfl⟩ | rfl | rfl
  ·refine qX (is := [0, 1, 2, 3, 4, 5, 6, 7, 8]) (h := 0) (by kernel_rfl) (by kernel_rfl) ?_
   simp (maxSteps:=1000000) (disch:=first|assumption|omega|rfl) only [List.replicate_zero, eq_self, gw, ga, Nat.reduceAdd, ↓gq, vso, List.append_nil, hry4, qU, kI, z65, z31, zdw, hd1, hap, hv46, z7v, hup]
   exact ⟨zS (by kernel_rfl) (zS (by kernel_rfl) zZ), by kernel_rfl, trivial, trivial, trivial, _, _, _, _, _, _, _, _, _, _, _, _, _, _, _, _, _, _, _, _, _, _, _, _, _, _, _, _, _, _, _, _, _, _, _, _, _, _, _, _, _, _, _, _, _, rfl⟩
  ·refine qX (is := [0, 1, 2, 3, 4, 5, 6, 7, 8]) (h := 0) (by kernel_rfl) (by kernel_rfl) ?_
   simp (maxSteps:=1000000) (disch:=first|assumption|omega|rfl) only [List.replicate_zero, eq_self, gw, ga, Nat.reduceAdd, ↓gq, vso, List.append_nil, hry4, qU, kI, z65, z31, zdw, hd1, hap, hv46, z7v, hup]
   exact ⟨qE rfl (by kernel_rfl) rfl (vB ((zG hry5).trans z31)) (by simp [wV, qW, qQ]) zZ, zS (by kernel_rfl) zZ, by kernel_rfl, trivial, trivial, trivial, _, _, _, _, _, _, _, _, _, _, _, _, _, _, _, _, _, _, _, _, _, _, _, _, _, _, _, _, _, _, _, _, _, _, _, _, _, _, _, _, _, _, _, _, _, rfl⟩
  ·refine qX (is := [0, 1, 2, 3, 4, 5, 6, 7, 8]) (h := 0) (by kernel_rfl) (by kernel_rfl) ?_
   simp (maxSteps:=1000000) (disch:=first|assumption|omega|rfl) only [List.replicate_zero, eq_self, gw, ga, Nat.reduceAdd, ↓gq, vso, List.append_nil, hry4, qU, kI, z65, z31, zdw, hd1, hap, hv46, z7v, hup]
   exact ⟨qE rfl (by kernel_rfl) rfl (vB ((zG hry5).trans z31)) (by simp [wV, qW, qQ]) zZ, zS (by kernel_rfl) zZ, by kernel_rfl, trivial, trivial, trivial, _, _, _, _, _, _, _, _, _, _, _, _, _, _, _, _, _, _, _, _, _, _, _, _, _, _, _, _, _, _, _, _, _, _, _, _, _, _, _, _, _, _, _, _, _, rfl⟩
 ·rintro _ _ S6 _ ⟨rfl, rfl, hS6, g1, g2, g3, g4, g5, g7, g9, gI, gE, gG, gB, gC, gA, gD, gL, gM, gF, gK, gN, gJ, gH, gO, gP, gT, gQ, gU, gR, gS, gV, gW, gX, gY, gZ, gh, gj, gk, gn, gr, gz, hH, hU, hY, xF, hZ, xA, rfl⟩
  rw [← hS6] at h6 hF06
  simp (maxSteps:=1000000) (disch:=first|assumption|omega|rfl) only [↓gp, gc, Nat.reduceAdd]
  exact ⟨rfl, _, rfl, hF06, ⟨_, h6⟩, rfl⟩

theorem q0b (l : Lay) (hb : InB l.blocks) (hi : InB l.inodes) : Ev cfg 63 [encLay l] (.ret (.d (.bool (decide (MayL l))))) := by
 refine kD rfl rfl q1a ?_
 show Wp cfg (Tryz.f63.body.getD .skip) ((.d (encLay l)) :: uZ (uZ (uZ ((.tup []) :: (.tup []) :: (.tup []) :: (.tup []) :: (.tup []) :: [])))) [] [] _
 unfold uZ
 conv => arg 2; whnf
 generalize hp : decide (MayL l) = p
 have hq := quo8 hi
 have hr := rem8 (a := l.inodes)
 by_cases c1 : l.blocks ≥ 16
 case neg =>
  rw [decide_eq_false (fun h => by have := h.1; omega)] at hp; subst hp
  simp (maxSteps:=1000000) (disch:=first|assumption|omega|rfl) only [↓gp, gc, Nat.reduceAdd]
  exact zP rfl rfl rfl
 by_cases c2 : l.blocks ≤ 512
 case neg =>
  rw [decide_eq_false (fun h => by have := h.2.1; omega)] at hp; subst hp
  simp (maxSteps:=1000000) (disch:=first|assumption|omega|rfl) only [↓gp, gc, Nat.reduceAdd]
  exact zP rfl rfl rfl
 by_cases c3 : l.inodes ≥ 8
 case neg =>
  rw [decide_eq_false (fun h => by have := h.2.2.1; omega)] at hp; subst hp
  simp (maxSteps:=1000000) (disch:=first|assumption|omega|rfl) only [↓gp, gc, Nat.reduceAdd]
  exact zP rfl rfl rfl
 by_cases c4 : l.inodes ≤ 128
 case neg =>
  rw [decide_eq_false (fun h => by have := h.2.2.2.1; omega)] at hp; subst hp
  simp (maxSteps:=1000000) (disch:=first|assumption|omega|rfl) only [↓gp, gc, Nat.reduceAdd]
  exact zP rfl rfl rfl
 by_cases c5 : l.inodes.tmod 8 = 0
 case neg =>
  rw [decide_eq_false (fun h => c5 h.2.2.2.2.1)] at hp; subst hp
  simp (maxSteps:=1000000) (disch:=first|assumption|omega|rfl) only [↓gp, gc, Nat.reduceAdd, hr]
  exact zP rfl rfl rfl
 have hd : 0 ≤ l.inodes.tdiv 8 ∧ l.inodes.tdiv 8 ≤ 16 := by
  rw [Int.tdiv_eq_ediv_of_nonneg (by omega)]; omega
 have hw : IntKind.i64.wrap (2 + l.inodes.tdiv 8) = 2 + l.inodes.tdiv 8 := wrap64 (by omega)
 by_cases c6 : 2 + l.inodes.tdiv 8 < l.blocks
 case neg =>
  rw [decide_eq_false (fun h => c6 h.2.2.2.2.2)] at hp; subst hp
  simp (maxSteps:=1000000) (disch:=first|assumption|omega|rfl) only [↓gp, gc, Nat.reduceAdd, hr, hq, hw, c5, zN]
  exact zP rfl rfl rfl
 rw [decide_eq_true ⟨by omega, by omega, by omega, by omega, c5, by omega⟩] at hp; subst hp
 simp (maxSteps:=1000000) (disch:=first|assumption|omega|rfl) only [↓gp, gc, Nat.reduceAdd, hr, hq, hw, c5, zN]
 exact zP rfl rfl rfl
section
variable {ops : Array Oper} {dst : Option Tmp} {k : List Oper} {T : List V} {S : zB} {F : Dfs} {Q : Post}
theorem zb9 {l : Lay} (hb : InB l.blocks) (hi : InB l.inodes) : WpR cfg ops dst k T S F Q (some (.enter 63 [.d (encLay l)])) = WpL cfg ops k (putT T dst (.d (.bool (decide (MayL l))))) S F Q := qA (ds := [encLay l]) rfl (q0b l hb hi)
end
theorem zko (l : Lay) (hb : InB l.blocks) (hi : InB l.inodes) : Ev cfg 16 [encLay l] (.ret (.d (.bool (decide (MayL l ∧ l.blocks ≤ 60))))) := by
 refine kD rfl rfl q19 ?_
 show Wp cfg (Tryz.f16.body.getD .skip) ((.d (encLay l)) :: (.tup []) :: (.tup []) :: (.tup []) :: (.tup []) :: (.tup []) :: (.tup []) :: (.tup []) :: (.tup []) :: (.tup []) :: []) [] [] _
 conv => arg 2; whnf
 have hc := fun {ops dst k T S F Q} => zb9 (ops := ops) (dst := dst) (k := k) (T := T) (S := S) (F := F) (Q := Q) hb hi
 by_cases h1 : MayL l
 ·rw [decide_eq_true h1] at hc
  have e : decide (MayL l ∧ l.blocks ≤ 60) = decide (l.blocks ≤ 60) := by simp [h1]
  rw [e]
  simp (maxSteps:=1000000) (disch:=first|assumption|omega|rfl) only [↓gp, gc, Nat.reduceAdd, lr32, vF, z0q, hc, bo63]
  exact zP rfl rfl rfl
 ·rw [decide_eq_false h1] at hc
  have e : decide (MayL l ∧ l.blocks ≤ 60) = false := decide_eq_false (fun h => h1 h.1)
  rw [e]
  simp (maxSteps:=1000000) (disch:=first|assumption|omega|rfl) only [↓gp, gc, Nat.reduceAdd, lr32, vF, z0q, hc, bo63]
  exact zP rfl rfl rfl
theorem zff {ops : Array Oper} {dst : Option Tmp} {k : List Oper} {T : List V} {S : zB} {F : Dfs} {Q : Post} {l : Lay} (hb : InB l.blocks) (hi : InB l.inodes) : WpR cfg ops dst k T S F Q (some (.enter 16 [.d (encLay l)])) = WpL cfg ops k (putT T dst (.d (.bool (decide (MayL l ∧ l.blocks ≤ 60))))) S F Q := qA (ds := [encLay l]) rfl (zko l hb hi)
def z7q (l : Lay) (no : Int) : Int := if no < 0 ∨ no ≥ l.blocks then 0 else if no < 2 then no + 1 else if no < 2 + l.inodes.tdiv 8 then 3 else 4
theorem zd0 {l : Lay} (hm : MayL l) {no : Int} : z7q l no = 4 ↔ (2 + l.inodes.tdiv 8 ≤ no ∧ no < l.blocks) := by
 have h3 := hm.2.2.1
 have h4 : l.inodes.tdiv 8 = l.inodes / 8 := Int.tdiv_eq_ediv_of_nonneg (by omega)
 unfold z7q
 split
 ·constructor <;> intro h <;> omega
 ·split
  ·constructor <;> intro h <;> omega
  ·split
   ·constructor <;> intro h <;> omega
   ·constructor <;> intro h <;> omega
theorem zl7 (l : Lay) (hb : InB l.blocks) (hi : InB l.inodes) (hm : MayL l) (no : Int) : Ev cfg 22 [encLay l, .int .i64 no] (.ret (.d (.int .i64 (z7q l no)))) := by
 refine kD rfl rfl zxa ?_
 show Wp cfg (Tryz.f22.body.getD .skip) ((.d (encLay l)) :: (.d (.int .i64 no)) :: uZ (uZ ((.tup []) :: (.tup []) :: (.tup []) :: (.tup []) :: (.tup []) :: (.tup []) :: []))) [] [] _
 unfold uZ
 conv => arg 2; whnf
 have hc := fun {ops dst k T S F Q} => zb9 (ops := ops) (dst := dst) (k := k) (T := T) (S := S) (F := F) (Q := Q) hb hi
 rw [decide_eq_true hm] at hc
 generalize ha : z7q l no = v
 have h3 := hm.2.2.1
 have h4 : l.inodes.tdiv 8 = l.inodes / 8 := Int.tdiv_eq_ediv_of_nonneg (by omega)
 have h5 := hm.2.2.2.2.1
 have h6 : l.inodes.tmod 8 = l.inodes % 8 := Int.tmod_eq_emod_of_nonneg (by omega)
 have h7 := hm.2.1
 unfold z7q at ha
 by_cases c1 : no < 0
 ·rw [if_pos (.inl c1)] at ha
  subst ha
  simp (maxSteps:=1000000) (disch:=first|assumption|omega|rfl) only [↓gp, gc, Nat.reduceAdd, lr32, hc, bo63, jG, Bool.not_true, zN]
  exact zP rfl rfl rfl
 by_cases c2 : no ≥ l.blocks
 ·rw [if_pos (.inr c2)] at ha
  subst ha
  simp (maxSteps:=1000000) (disch:=first|assumption|omega|rfl) only [↓gp, gc, Nat.reduceAdd, lr32, vF, z0q, hc, bo63, jG, Bool.not_true, zN]
  exact zP rfl rfl rfl
 rw [if_neg (by omega)] at ha
 by_cases c3 : no < 2
 ·rw [if_pos c3] at ha
  subst ha
  have hw : IntKind.i64.wrap (no + 1) = no + 1 := wrap64 (by omega)
  simp (maxSteps:=1000000) (disch:=first|assumption|omega|rfl) only [↓gp, gc, Nat.reduceAdd, lr32, vF, z0q, hc, bo63, jG, Bool.not_true, zN, hw]
  exact zP rfl rfl rfl
 rw [if_neg c3] at ha
 have hw1 : IntKind.i64.wrap (no - 2) = no - 2 := wrap64 (by omega)
 have hw2 : IntKind.i64.wrap ((no - 2) * 8) = (no - 2) * 8 := wrap64 (by omega)
 by_cases c4 : (no - 2) * 8 < l.inodes
 ·rw [if_pos (by omega)] at ha
  subst ha
  simp (maxSteps:=1000000) (disch:=first|assumption|omega|rfl) only [↓gp, gc, Nat.reduceAdd, lr32, vF, zb6, z0q, zks, hc, bo63, jG, Bool.not_true, zN, hw1, hw2]
  exact zP rfl rfl rfl
 ·rw [if_neg (by omega)] at ha
  subst ha
  simp (maxSteps:=1000000) (disch:=first|assumption|omega|rfl) only [↓gp, gc, Nat.reduceAdd, lr32, vF, zb6, z0q, zks, hc, bo63, jG, Bool.not_true, zN, hw1, hw2]
  exact zP rfl rfl rfl
theorem zq5 {b : List UInt8} {i : Nat} {x : UInt8} (h : i < b.length) : layB b i [x] = b.set i x := by
 unfold layB
 rw [List.set_eq_take_append_cons_drop, if_pos h]
 simp
theorem zge {C : CS} (hC : C.Ok) (h1 : 1 < C.img.length) {no : Nat} (hno : no < 2048) {on : Bool} {ids : List Int} {k : Nat} : (bitC C no on ids).see k = if k = 1 then z1h (C.see 1) no on else C.see k := by
 have hl := hC.see_len h1
 unfold bitC
 have := zgi (C := C) (no := 1) (a := ((no / 8 : Nat) : Int)) (b := bitP C no on) (needs := z7p C (noZ ids)) (k := k)
 rw [show ((1 : Nat) : Int) = 1 from rfl] at this
 rw [this]
 by_cases h : k = 1
 ·subst h
  rw [if_pos rfl, if_pos rfl, Int.toNat_natCast]
  unfold bitP z1h
  exact zq5 (by omega)
 ·rw [if_neg (Ne.symm h), if_neg h]
theorem zlv {b d : List UInt8} (h : d.length = b.length) : layB b 0 d = d := by
 unfold layB
 simp [h]
theorem z8l {l : List Chg} : z0e l [] = [] := by unfold z0e; simp
theorem zk1 {C : CS} {no : Nat} {bb : List UInt8} {ids : List Int} (h1 : no < C.img.length) (hb : bb.length = 256) (hid : ∀ x ∈ noZ ids, 1 ≤ x ∧ x ≤ (C.last : Int)) : putE C (no : Int) 0 bb (noZ ids) = 0 := by
 unfold putE
 have hp : kP 0 bb := by unfold kP; omega
 rw [if_neg (fun hh => hh hp), if_neg (fun hh => hh hid), if_neg (by omega)]
theorem z8t {C : CS} {no : Nat} {bb : List UInt8} {gs ids : List Int} (h1 : no < C.img.length) (hb : bb.length = 256) (hid : ∀ x ∈ noZ (z0e (bitC C no true []).list gs ++ ids), 1 ≤ x ∧ x ≤ (C.last : Int) + 1) : takE C no bb gs ids = 0 ∧ takC C no bb gs ids = (bitC C no true []).put (no : Int) 0 bb (z7p (bitC C no true []) (noZ (z0e (bitC C no true []).list gs ++ ids))) := by
 have hpe : putE (bitC C no true []) (no : Int) 0 bb (noZ (z0e (bitC C no true []).list gs ++ ids)) = 0 := zk1 h1 hb (fun x hx => by have := hid x hx; exact ⟨this.1, by show x ≤ ((C.last + 1 : Nat) : Int); omega⟩)
 unfold takE takC spE spC
 rw [if_neg (fun h => h rfl), if_neg (fun h => h rfl), if_neg (fun hh => hh hpe)]
 exact ⟨hpe, rfl⟩
theorem zgs {C : CS} (hC : C.Ok) {no : Nat} {bb : List UInt8} {gs ids : List Int} (h1 : no < C.img.length) (h11 : 1 < C.img.length) (hno : no < 2048) (hb : bb.length = 256) (hid : ∀ x ∈ noZ (z0e (bitC C no true []).list gs ++ ids), 1 ≤ x ∧ x ≤ (C.last : Int) + 1) (hn1 : no ≠ 1) (k : Nat) : (takC C no bb gs ids).see k = if k = no then bb else if k = 1 then z1h (C.see 1) no true else C.see k := by
 rw [(z8t h1 hb hid).2, zgi, zge hC h11 hno]
 by_cases h : k = no
 ·subst h
  rw [if_pos rfl, if_pos rfl, if_neg hn1]
  exact zlv (by rw [hb, hC.see_len h1])
 ·rw [if_neg (Ne.symm h), if_neg h]
theorem ldI3 {S : zB} {a : Int} : kF Tryz.prog S 3 (.d (.ptr (.int .i64 a))) = some (.d (.int .i64 a)) := by kernel_rfl
theorem ixI {S : zB} {l : List Int} {i : Nat} (h : i < l.length) : zI Tryz.prog S 22 (.d (encI l)) (.d (.int .i64 (i : Int))) = some (.d (.ptr (.int .i64 l[i]))) := ix22 h
theorem lnI {S : zB} {l : List Int} : zO Tryz.prog S .len [22] [.d (encI l)] = some (.val (.d (.int .i64 (l.length : Int))) S 0) := IntsV.len (.inl rfl)
theorem zzd (a b : List Int) (hl : a.length ≤ 1000000) (he : a.length = b.length) (R : Post) : ∀ (k i : Nat) (g2 g3 g4 g6 g7 g8 g9 gI gE gG gB gC gA gD gL gM gF gK gN gJ gH gO gP : V), a.length - i = k → i ≤ a.length → a.take i = b.take i →
 (∀ i' g2 g3 g4 g6 g7 g8 g9 gI gE gG gB gC gA gD gL gM gF gK gN gJ gH gO gP, a = b → R (.exit 0) ((.d (encI a)) :: (.d (encI b)) :: g2 :: g3 :: g4 :: i' :: g6 :: g7 :: g8 :: g9 :: gI :: gE :: gG :: gB :: gC :: gA :: gD :: gL :: gM :: gF :: gK :: gN :: gJ :: gH :: gO :: gP :: []) [] []) →
 (∀ T, a ≠ b → T.getD 4 (.tup []) = .d (.bool false) → R .ret T [] []) →
 Wp cfg (.loop (lpOf (Tryz.f39.body.getD .skip) 0)) ((.d (encI a)) :: (.d (encI b)) :: g2 :: g3 :: g4 :: (.d (.int .i64 (i : Int))) :: g6 :: g7 :: g8 :: g9 :: gI :: gE :: gG :: gB :: gC :: gA :: gD :: gL :: gM :: gF :: gK :: gN :: gJ :: gH :: gO :: gP :: []) [] [] R := by
 intro k
 induction k with
 | zero =>
  intro i g2 g3 g4 g6 g7 g8 g9 gI gE gG gB gC gA gD gL gM gF gK gN gJ gH gO gP hk hi ht hR hR2
  have hie : i = a.length := by omega
  subst hie
  rw [List.take_length, he, List.take_length] at ht
  have hln := fun S => lnI (S := S) (l := a)
  rw [zR]
  refine zL ?_
  conv => arg 2; whnf
  simp (maxSteps:=1000000) (disch:=first|assumption|omega|rfl) only [↓gp, gc, Nat.reduceAdd, hln]
  exact hR _ _ _ _ _ _ _ _ _ _ _ _ _ _ _ _ _ _ _ _ _ _ _ _ ht
 | succ k ih =>
  intro i g2 g3 g4 g6 g7 g8 g9 gI gE gG gB gC gA gD gL gM gF gK gN gJ gH gO gP hk hi ht hR hR2
  have hlt : i < a.length := by omega
  have hlt2 : i < b.length := by omega
  have h3 : IntKind.i64.wrap ((i : Int) + 1) = ((i + 1 : Nat) : Int) := by rw [wrap64 (by omega)]; omega
  have hln := fun S => lnI (S := S) (l := a)
  have hxa := fun S => ixI (S := S) hlt
  have hxb := fun S => ixI (S := S) hlt2
  rw [zR]
  refine zL ?_
  conv => arg 2; whnf
  simp (maxSteps:=1000000) (disch:=first|assumption|omega|rfl) only [↓gp, gc, Nat.reduceAdd, hln]
  refine qX (is := [0, 1, 2, 3, 4, 5, 6, 7, 8]) (h := 0) (by kernel_rfl) (by kernel_rfl) ?_
  simp (maxSteps:=1000000) (disch:=first|assumption|omega|rfl) only [List.replicate_zero, eq_self, gw, ga, Nat.reduceAdd, ↓gq, vso, List.append_nil, hxa, hxb, ldI3]
  refine ⟨by kernel_rfl, ?_⟩
  by_cases h : a[i] = b[i]
  ·have hde : ∀ i' : Decidable (a[i] ≠ b[i]), @decide (a[i] ≠ b[i]) i' = false := fun i' => decide_eq_false (fun hh => hh h)
   simp (maxSteps:=1000000) (disch:=first|assumption|omega|rfl) only [↓gp, gc, Nat.reduceAdd, hde, h3]
   refine ih (i + 1) _ _ _ _ _ _ _ _ _ _ _ _ _ _ _ _ _ _ _ _ _ _ _ (by omega) (by omega) ?_ hR hR2
   rw [kT hlt, kT hlt2, ht, h]
  ·have hde : ∀ i' : Decidable (a[i] ≠ b[i]), @decide (a[i] ≠ b[i]) i' = true := fun i' => decide_eq_true h
   simp (maxSteps:=1000000) (disch:=first|assumption|omega|rfl) only [↓gp, gc, Nat.reduceAdd, hde]
   exact hR2 _ (fun hh => h (by subst hh; rfl)) rfl
theorem ztq (a b : List Int) (hl : a.length ≤ 1000000) : Ev cfg 39 [encI a, encI b] (.ret (.d (.bool (decide (a = b))))) := by
 refine kD rfl rfl q09 ?_
 show Wp cfg (Tryz.f39.body.getD .skip) ((.d (encI a)) :: (.d (encI b)) :: uZ (uZ ((.tup []) :: (.tup []) :: (.tup []) :: (.tup []) :: []))) [] [] _
 unfold uZ
 conv => arg 2; whnf
 have hln := fun S => lnI (S := S) (l := a)
 have hlb := fun S => lnI (S := S) (l := b)
 by_cases he : (a.length : Int) = (b.length : Int)
 ·have hde : ∀ i' : Decidable ((a.length : Int) ≠ (b.length : Int)), @decide ((a.length : Int) ≠ (b.length : Int)) i' = false := fun i' => decide_eq_false (fun hh => hh he)
  simp (maxSteps:=1000000) (disch:=first|assumption|omega|rfl) only [↓gp, gc, Nat.reduceAdd, hln, hlb, hde]
  refine zzd a b hl (by omega) _ a.length 0 _ _ _ _ _ _ _ _ _ _ _ _ _ _ _ _ _ _ _ _ _ _ _ rfl (Nat.zero_le _) (by simp) ?_ ?_
  ·intro i' g2 g3 g4 g6 g7 g8 g9 gI gE gG gB gC gA gD gL gM gF gK gN gJ gH gO gP hab
   rw [decide_eq_true hab]
   simp (maxSteps:=1000000) (disch:=first|assumption|omega|rfl) only [↓gp, gc, Nat.reduceAdd]
   exact zP rfl rfl rfl
  ·intro T hab hT
   rw [decide_eq_false hab]
   exact zP hT rfl rfl
 ·have hde : ∀ i' : Decidable ((a.length : Int) ≠ (b.length : Int)), @decide ((a.length : Int) ≠ (b.length : Int)) i' = true := fun i' => decide_eq_true he
  rw [decide_eq_false (fun hh => he (by rw [hh]))]
  simp (maxSteps:=1000000) (disch:=first|assumption|omega|rfl) only [↓gp, gc, Nat.reduceAdd, hln, hlb, hde]
  exact zP rfl rfl rfl
theorem zs5 {C : CS} {no : Int} {a : Int} {b : List UInt8} {needs : List Int} {k : Nat} : (C.put no a b needs).see k = if no = k then layB (C.see k) a.toNat b else C.see k := z1a
theorem zp0 {b d : List UInt8} {k k' : Nat} (hb : b.length = 256) (hd : d.length = 32) (hk : k < 8) (hk' : k' < 8) : wP (layB b (k' * 32) d) k = if k = k' then d else wP b k := by
 have e0 : (b.take (k' * 32)).length = k' * 32 := by rw [List.length_take]; omega
 unfold wP layB
 apply List.ext_getElem?
 intro i
 rw [List.getElem?_take]
 by_cases hi : i < 32
 ·rw [if_pos hi, List.getElem?_drop]
  rcases Nat.lt_trichotomy k k' with h | h | h
  ·rw [if_neg (by omega), List.append_assoc, List.getElem?_append_left (by omega), List.getElem?_take, if_pos (by omega), List.getElem?_take, if_pos hi, List.getElem?_drop]
  ·subst h
   rw [if_pos rfl, List.append_assoc, List.getElem?_append_right (by omega), e0, List.getElem?_append_left (by omega)]
   congr 1
   omega
  ·rw [if_neg (by omega), List.getElem?_append_right (by rw [List.length_append]; omega), List.length_append, e0, List.getElem?_drop, List.getElem?_take, if_pos hi, List.getElem?_drop]
   congr 1
   omega
 ·rw [if_neg hi]
  split
  ·rw [List.getElem?_eq_none (by omega)]
  ·rw [List.getElem?_take, if_neg hi]
structure LaidC (B I M K : Nat) (us : List Nat) (C : CS) : Prop where
 img : C.img = (C0 B I M K).img
 last : C.last = us.length
 see : ∀ no k, 2 ≤ no → no < B → k < 8 → wP (C.see no) k = if (no - 2) * 8 + k + 1 ∈ us then q0z else wP (finB B I M K no) k
theorem zjm {B I M K no : Nat} (h : no < B) : (C0 B I M K).see no = finB B I M K no := by
 show ((C0 B I M K).img.getD no []) = _
 rw [List.getD_eq_getElem?_getD, zrp h]
 rfl
theorem LaidC.zero {B I M K : Nat} : LaidC B I M K [] (C0 B I M K) := ⟨rfl, rfl, fun no k h1 h2 h3 => by rw [zjm h2]; simp⟩
theorem LaidC.next {B I M K : Nat} {us : List Nat} {C : CS} (h : LaidC B I M K us C) (hC : C.Ok) {u : Nat} (hu : 1 ≤ u) (hB : 2 + (u - 1) / 8 < B) : LaidC B I M K (us ++ [u]) (C.put ((2 + (u - 1) / 8 : Nat) : Int) (((u - 1) % 8 * 32 : Nat) : Int) q0z []) := by
 refine ⟨h.img, by rw [List.length_append]; show C.last + 1 = _; rw [h.last]; rfl, fun no k h1 h2 h3 => ?_⟩
 have hl : (C.see no).length = 256 := hC.see_len (by rw [h.img, zaf]; exact h2)
 have hk : (u - 1) % 8 < 8 := Nat.mod_lt _ (by decide)
 have ih := h.see no k h1 h2 h3
 rw [zs5, Int.toNat_natCast]
 by_cases e : ((2 + (u - 1) / 8 : Nat) : Int) = (no : Int)
 ·rw [if_pos e, zp0 hl rfl h3 hk]
  have e' : 2 + (u - 1) / 8 = no := by omega
  by_cases e2 : k = (u - 1) % 8
  ·have e3 : (no - 2) * 8 + k + 1 = u := by omega
   rw [if_pos e2, if_pos (by rw [e3]; simp)]
  ·have e3 : (no - 2) * 8 + k + 1 ≠ u := by omega
   rw [if_neg e2, ih]
   simp [e3]
 ·rw [if_neg e, ih]
  have e3 : (no - 2) * 8 + k + 1 ≠ u := by omega
  simp [e3]
theorem zaq {S : zB} {y x c r m mk gm : Nat} {l : Lay} {C : CS} (h1 : S[y]? = some (.row [allV x gm] 116)) (h2 : S[gm]? = some (.mp [] 0)) (n1 : gm ≠ m) (n2 : gm ≠ mk) (h3 : StoreP S x c r m mk l 0 C (fun _ => none)) : AllP S y x c r m mk gm l 0 C (fun _ => none) (fun _ => none) (fun _ => []) 0 :=
 ⟨h1, h3, MpI.nil h2, fun _ => .inl ⟨rfl, rfl⟩, fun _ => Nat.le_refl _, n1, n2⟩
def inoF (C : CS) (ino : Nat) : Ino := (z4v (wP (C.see (2 + (ino - 1) / 8)) ((ino - 1) % 8))).1
theorem zuc {C : CS} (hC : C.Ok) {l : Lay} (hB : l.blocks = C.img.length) (hm : MayL l) (ino : Nat) (h2 : 2 ≤ ino) (hi : (ino : Int) ≤ l.inodes) : ∃ bb, Ev cfg 123 [blkD (wP (C.see (2 + (ino - 1) / 8)) ((ino - 1) % 8))] (.ret (.tup [.d (qK (inoF C ino)), .d (.bool bb)])) := by
 have h3 := hm.2.2.2.2.2
 have h4 : l.inodes.tdiv 8 = l.inodes / 8 := Int.tdiv_eq_ediv_of_nonneg (by omega)
 have h5 := hm.2.2.2.2.1
 have h6 : l.inodes.tmod 8 = l.inodes % 8 := Int.tmod_eq_emod_of_nonneg (by omega)
 have hl := hC.see_len (no := 2 + (ino - 1) / 8) (by omega)
 exact ⟨_, zpb _ (z30 hl (Nat.mod_lt _ (by decide)))⟩
def l16 : Lay := ⟨16, 8, 0⟩
theorem q0m : Ev cfg 62 [] (.ret (.d (encLay l16))) := ⟨100, by kernel_rfl⟩
theorem zzb : wY Tryz.prog 42 [(0, .d (.int .u8 7))] = some (blkV (7 :: zK 255)) := by kernel_rfl
theorem zrk : frB (mapB 3) 3 16 = [3, 4, 5, 6, 7, 8, 9, 10, 11, 12, 13, 14, 15] := by decide +kernel
theorem zu5 : (frB (z1h (mapB 3) 3 true) 3 16).length = 12 := by decide +kernel
theorem zqm : (frN (inoF (C0 16 8 0 1)) 9).length = 7 := by decide +kernel
theorem zkf {ops : Array Oper} {dst : Option Tmp} {k : List Oper} {T : List V} {S : zB} {F : Dfs} {Q : Post} {a b : List Int} (hl : a.length ≤ 1000000) : WpR cfg ops dst k T S F Q (some (.enter 39 [.ts (a.map (.int .i64)), .ts (b.map (.int .i64))])) = WpL cfg ops k (putT T dst (.d (.bool (decide (a = b))))) S F Q :=
 kW (ds := [encI a, encI b]) rfl rfl rfl (ztq a b hl)
theorem zeo : Ev cfg 17 [] (.ret (.d (.bool true))) := by
 refine kD rfl rfl zxd ?_
 show Wp cfg (Tryz.f17.body.getD .skip) (uZ (uZ (uZ (uZ [])))) [] [] _
 unfold uZ
 conv => arg 2; whnf
 have hm : MayL l16 := by decide
 have hb : InB l16.blocks := by decide
 have hi : InB l16.inodes := by decide
 have hlay : ∀ {ops dst k T S F Q}, WpR cfg ops dst k T S F Q (some (.enter 62 [])) = WpL cfg ops k (putT T dst (.d (encLay l16))) S F Q := fun {ops dst k T S F Q} => qA (ds := []) rfl q0m
 obtain ⟨o, S1, ⟨_, y, x, c, r, m, mk, gm, rfl, h1, h2, h3, h4, h5⟩, hE⟩ := qF (zch [] l16 16 8 0 1 rfl (by decide) (by decide) (by decide) hm (by decide) (by decide) (by decide))
 have hbeg := fun {ops dst k T F Q} => zH (ops := ops) (dst := dst) (l := k) (T := T) (F := F) (Q := Q) rfl hE
 have hA1 := zaq h1 h2 h3 h4 h5
 have hD : 2 + l16.inodes.tdiv 8 = ((3 : Nat) : Int) := by decide
 have hN : l16.blocks = ((16 : Nat) : Int) := by decide
 obtain ⟨o, S2, ⟨rfl, hC2, hF2⟩, hE2⟩ := qF (zfp S1 _ y x c r m mk gm l16 0 _ hA1.seen hA1.sp.hB hb hi hm 3 hD 16 hN)
 have hfree := fun {ops dst k T F Q} => zH (ops := ops) (dst := dst) (l := k) (T := T) (F := F) (Q := Q) rfl hE2
 have hA2 := hA1.frC hF2 hC2.at rfl
 obtain ⟨o, S3, ⟨rfl, hC3, hF3⟩, hE3⟩ := qF (zm4 S2 _ y x c r m mk gm l16 0 _ hA2.seen hA2.sp.hB hb hi hm (inoF (C0 16 8 0 1)) (fun ino g1 g2 => zuc hA2.sp.ca.ok hA2.sp.hB hm ino g1 g2) 8 rfl)
 have hinos := fun {ops dst k T F Q} => zH (ops := ops) (dst := dst) (l := k) (T := T) (F := F) (Q := Q) rfl hE3
 have hA3 := hA2.frC hF3 hC3.at rfl
 have hs1 : (C0 16 8 0 1).see 1 = mapB 3 := zjm (by decide)
 have hok := hA3.sp.ca.ok
 have hfr : frB ((C0 16 8 0 1).see 1) 3 16 = 3 :: [4, 5, 6, 7, 8, 9, 10, 11, 12, 13, 14, 15] := by rw [hs1]; exact zrk
 have hul : ((7 : UInt8) :: zK 255).length = 256 := rfl
 obtain ⟨o, S4, ⟨hF4, ⟨gf4, hA4⟩, rfl⟩, hE4⟩ := qF (zjx S3 y x c r m mk gm l16 _ _ _ _ 0 hA3 (by decide) hb hi hm 3 hD 16 hN (blkV (7 :: zK 255)) _ isB_v hul (.ts []) [] (.inr (.inl rfl)) (by decide) (by decide) 3 _ hfr)
 have hlen : 3 < (C0 16 8 0 1).img.length := by rw [zaf]; decide
 have hz := z8t (C := C0 16 8 0 1) (no := 3) (bb := 7 :: zK 255) (gs := []) (ids := []) hlen hul (by rw [z8l]; intro x hx; cases hx)
 have hsee := zgs (bb := 7 :: zK 255) (gs := []) (ids := []) hok (no := 3) hlen (by rw [zaf]; decide) (by decide) hul (by rw [z8l]; intro x hx; cases hx) (by decide) 1
 rw [if_neg (by decide), if_pos rfl, hs1] at hsee
 rw [hz.1] at hA4
 rw [if_neg (fun h => h hz.1)] at hE4
 have e1 : (((C0 16 8 0 1).last : Nat) : Int) + 1 = 1 := rfl
 have e2 : (((C0 16 8 0 1).last : Nat) : Int) + 2 = 2 := rfl
 have e3 : ((3 : Nat) : Int) = 3 := rfl
 rw [e1, e2, e3] at hE4
 have htake := fun {ops dst k T F Q} => zH (ops := ops) (dst := dst) (l := k) (T := T) (F := F) (Q := Q) rfl hE4
 obtain ⟨o, S5, ⟨rfl, hC5, hF5⟩, hE5⟩ := qF (zfp S4 _ y x c r m mk gm l16 0 _ hA4.seen hA4.sp.hB hb hi hm 3 hD 16 hN)
 rw [hsee, zu5] at hE5
 have hfree2 := fun {ops dst k T F Q} => zH (ops := ops) (dst := dst) (l := k) (T := T) (F := F) (Q := Q) rfl hE5
 rw [hs1, zrk] at hfree
 rw [zqm] at hinos
 have hints := fun {ops dst k T S F Q} => zkf (ops := ops) (dst := dst) (k := k) (T := T) (S := S) (F := F) (Q := Q) (a := [1, 2]) (b := [1, 2]) (by decide)
 simp only [List.map_cons, List.map_nil] at hints
 have hl13 : (([3, 4, 5, 6, 7, 8, 9, 10, 11, 12, 13, 14, 15] : List Nat).length : Int) = 13 := rfl
 have hl7 : ((7 : Nat) : Int) = 7 := rfl
 have hl12 : ((12 : Nat) : Int) = 12 := rfl
 rw [hl13] at hfree
 rw [hl7] at hinos
 rw [hl12] at hfree2
 simp (maxSteps:=1000000) (disch:=first|assumption|omega|rfl) only [↓gp, gc, Nat.reduceAdd, ↓vbs, ↓zew, hlay, bo62, hbeg, bo18, z9z, hfree, bo21, hinos, bo64, zzb, zhn, z0v, htake, bo19, zr6, zz2, hints, bo39, hfree2, zN]
 exact zP rfl rfl rfl
def z0p (t : List Bool) : V := .agg (t.map fun b => .d (.bool b))
theorem z60 : zeroV Tryz.prog 37 = some (z0p (List.replicate 60 false)) := by kernel_rfl
theorem zf60 : qB Tryz.prog 37 (z0p (List.replicate 60 false)) = true := by kernel_rfl
theorem ia60 {S : zB} {j x : Nat} {i : Nat} (hi : i < 60) : zI Tryz.prog S 37 (.ref j x 0) (.d (.int .i64 (i : Int))) = some (.ref j x i) := by
 have hu : Tryz.prog.underlying 37 = some (.array 60 4) := by kernel_rfl
 have h4 : sz Tryz.prog 4 = some 1 := by kernel_rfl
 simp only [zI, intOf?, hu, h4]
 rw [if_pos ⟨by omega, by omega⟩]
 simp
theorem zg9 {t : List Bool} {i : Nat} (hi : i < t.length) : qT Tryz.prog 4 i (some (z0p t)) = some (.d (.bool t[i])) := by
 unfold z0p
 rw [zs9 (by kernel_rfl) (by kernel_rfl) (by simpa using hi), List.getElem_map]
theorem zrq {t : List Bool} {i : Nat} {b : Bool} (hi : i < t.length) : qM Tryz.prog 4 i (.d (.bool b)) (z0p t) = some (z0p (t.set i b)) := by
 unfold z0p
 rw [zwd (by kernel_rfl) rfl rfl (by simpa using hi), List.map_set]
theorem nb4 {b : Bool} : binV Tryz.prog .neq 4 (.d (.bool b)) (.d (.bool b)) = some (.d (.bool false)) := by cases b <;> kernel_rfl
theorem zm0 {b : Bool} : wV (.d (.bool b)) (.d (.bool b)) = true := by cases b <;> rfl
theorem zt8 {T : List V} {S : zB} {dst : Option Tmp} {t : TypeId} {x y : Nat} {ty : TypeId} {pos : String} {after : Array Edge} {g : Option (Nat × Bool)} {v : V} (h : zI Tryz.prog S t (T.getD x .junk) (T.getD y .junk) = some v) : opV Tryz.prog S T ⟨dst, .indexAddr t (.tmp x) (.tmp y), ty, pos, after, g⟩ = some (.val v S 1) := by
 show (zI Tryz.prog S t (T.getD x .junk) (T.getD y .junk)).map (fun v => Rs.val v S 1) = _
 rw [h]
 rfl
theorem zjk {a b c : Nat} : wV (.ref a b c) (.ref a b c) = true := by simp [wV, qW, qQ]
structure OnceP (S : zB) (y x c r m mk gm ah : Nat) (l : Lay) (C : CS) (mf gf : Int → Option V) (held : List Bool) (D N n : Nat) : Prop where
 al : AllP S y x c r m mk gm l 0 C mf gf (fun _ => []) 0
 h0 : S[0]? = some (.row [.d (encLay l)] 32)
 hh : S[ah]? = some (.row [z0p held] 37)
 hl : held.length = 60
 las : C.last ≤ 2 * n
 eq : ∀ no (h : no < held.length), held[no] = (decide (D ≤ no ∧ no < N) && hasB (C.see 1) no)
theorem OnceP.frC {S S' : zB} {y x c r m mk gm ah : Nat} {l : Lay} {C : CS} {mf gf : Int → Option V} {held : List Bool} {D N n : Nat} (h : OnceP S y x c r m mk gm ah l C mf gf held D N n) (hF : FrC m r S S') (hc : CacheAt S' c r m C) : OnceP S' y x c r m mk gm ah l C mf gf held D N n :=
 ⟨h.al.frC hF hc rfl, hF.row h.h0 rfl, hF.row h.hh rfl, h.hl, h.las, h.eq⟩
theorem OnceP.keep {S S' : zB} {y x c r m mk gm ah : Nat} {l : Lay} {C : CS} {mf gf : Int → Option V} {held : List Bool} {D N n : Nat} (h : OnceP S y x c r m mk gm ah l C mf gf held D N n) (hK : Keep S S') : OnceP S' y x c r m mk gm ah l C mf gf held D N n :=
 ⟨h.al.keep hK, hK _ _ h.h0, hK _ _ h.hh, h.hl, h.las, h.eq⟩
theorem zfk (v1 v7 : V) (y x c r m mk gm ah : Nat) (l : Lay) (C : CS) (mf gf : Int → Option V) (held : List Bool) (D N n : Nat) (hb : InB l.blocks) (hi : InB l.inodes) (hm : MayL l) (hD : 2 + l.inodes.tdiv 8 = (D : Int)) (hN : l.blocks = N) (hN60 : N ≤ 60) (R : Post) :
 ∀ (k i : Nat) (S : zB) (g0 g3 g4 g8 g9 gI gE gB gC gA gD gL gM gF gK gN gJ gH gO gP gT gQ gU gR gS gV gW gX gY gZ gh gj gk gn gr gz hH hU hY xF hZ xA xB xC xD xE xG xH xI xJ xK xL xM xN xO xP xQ xR xS xT xU xV xW xX xY xZ g72 g73 g74 g75 g76 g77 g78 g79 g80 g81 g82 g83 g84 g85 g86 g87 g88 g89 g90 g91 g92 g93 g94 g95 g96 g97 g98 g99 g100 g101 g102 g103 g104 g105 g106 g107 g108 g109 g110 g111 g112 g113 g114 g115 g116 g117 g118 g119 g120 g121 g122 g123 g124 g125 g126 g127 g128 g129 g130 g131 g132 g133 g134 : V), N - i = k → i ≤ N → OnceP S y x c r m mk gm ah l C mf gf held D N n →
 (∀ S i' g0 g3 g4 g8 g9 gI gE gB gC gA gD gL gM gF gK gN gJ gH gO gP gT gQ gU gR gS gV gW gX gY gZ gh gj gk gn gr gz hH hU hY xF hZ xA xB xC xD xE xG xH xI xJ xK xL xM xN xO xP xQ xR xS xT xU xV xW xX xY xZ g72 g73 g74 g75 g76 g77 g78 g79 g80 g81 g82 g83 g84 g85 g86 g87 g88 g89 g90 g91 g92 g93 g94 g95 g96 g97 g98 g99 g100 g101 g102 g103 g104 g105 g106 g107 g108 g109 g110 g111 g112 g113 g114 g115 g116 g117 g118 g119 g120 g121 g122 g123 g124 g125 g126 g127 g128 g129 g130 g131 g132 g133 g134, OnceP S y x c r m mk gm ah l C mf gf held D N n → R (.exit 2) (g0 :: v1 :: (.ref 0 0 0) :: g3 :: g4 :: (.ref y 0 0) :: (.ref ah 0 0) :: v7 :: g8 :: g9 :: gI :: gE :: i' :: gB :: gC :: gA :: gD :: gL :: gM :: gF :: gK :: gN :: gJ :: gH :: gO :: gP :: gT :: gQ :: gU :: gR :: gS :: gV :: gW :: gX :: gY :: gZ :: gh :: gj :: gk :: gn :: gr :: gz :: hH :: hU :: hY :: xF :: hZ :: xA :: xB :: xC :: xD :: xE :: xG :: xH :: xI :: xJ :: xK :: xL :: xM :: xN :: xO :: xP :: xQ :: xR :: xS :: xT :: xU :: xV :: xW :: xX :: xY :: xZ :: g72 :: g73 :: g74 :: g75 :: g76 :: g77 :: g78 :: g79 :: g80 :: g81 :: g82 :: g83 :: g84 :: g85 :: g86 :: g87 :: g88 :: g89 :: g90 :: g91 :: g92 :: g93 :: g94 :: g95 :: g96 :: g97 :: g98 :: g99 :: g100 :: g101 :: g102 :: g103 :: g104 :: g105 :: g106 :: g107 :: g108 :: g109 :: g110 :: g111 :: g112 :: g113 :: g114 :: g115 :: g116 :: g117 :: g118 :: g119 :: g120 :: g121 :: g122 :: g123 :: g124 :: g125 :: g126 :: g127 :: g128 :: g129 :: g130 :: g131 :: g132 :: g133 :: g134 :: []) S []) →
 Wp cfg (.loop (lpOf (Tryz.f4.body.getD .skip) 2)) (g0 :: v1 :: (.ref 0 0 0) :: g3 :: g4 :: (.ref y 0 0) :: (.ref ah 0 0) :: v7 :: g8 :: g9 :: gI :: gE :: (.d (.int .i64 (i : Int))) :: gB :: gC :: gA :: gD :: gL :: gM :: gF :: gK :: gN :: gJ :: gH :: gO :: gP :: gT :: gQ :: gU :: gR :: gS :: gV :: gW :: gX :: gY :: gZ :: gh :: gj :: gk :: gn :: gr :: gz :: hH :: hU :: hY :: xF :: hZ :: xA :: xB :: xC :: xD :: xE :: xG :: xH :: xI :: xJ :: xK :: xL :: xM :: xN :: xO :: xP :: xQ :: xR :: xS :: xT :: xU :: xV :: xW :: xX :: xY :: xZ :: g72 :: g73 :: g74 :: g75 :: g76 :: g77 :: g78 :: g79 :: g80 :: g81 :: g82 :: g83 :: g84 :: g85 :: g86 :: g87 :: g88 :: g89 :: g90 :: g91 :: g92 :: g93 :: g94 :: g95 :: g96 :: g97 :: g98 :: g99 :: g100 :: g101 :: g102 :: g103 :: g104 :: g105 :: g106 :: g107 :: g108 :: g109 :: g110 :: g111 :: g112 :: g113 :: g114 :: g115 :: g116 :: g117 :: g118 :: g119 :: g120 :: g121 :: g122 :: g123 :: g124 :: g125 :: g126 :: g127 :: g128 :: g129 :: g130 :: g131 :: g132 :: g133 :: g134 :: []) S [] R := by
 intro k
 induction k with
 | zero =>
  intro i S g0 g3 g4 g8 g9 gI gE gB gC gA gD gL gM gF gK gN gJ gH gO gP gT gQ gU gR gS gV gW gX gY gZ gh gj gk gn gr gz hH hU hY xF hZ xA xB xC xD xE xG xH xI xJ xK xL xM xN xO xP xQ xR xS xT xU xV xW xX xY xZ g72 g73 g74 g75 g76 g77 g78 g79 g80 g81 g82 g83 g84 g85 g86 g87 g88 g89 g90 g91 g92 g93 g94 g95 g96 g97 g98 g99 g100 g101 g102 g103 g104 g105 g106 g107 g108 g109 g110 g111 g112 g113 g114 g115 g116 g117 g118 g119 g120 g121 g122 g123 g124 g125 g126 g127 g128 g129 g130 g131 g132 g133 g134 hk hi2 hO hR
  have hie : i = N := by omega
  subst hie
  have hr0 := zD (e := 32) hO.h0
  have hle : ¬ ((i : Int)) < l.blocks := by omega
  rw [zR]
  refine zL ?_
  conv => arg 2; whnf
  simp (maxSteps:=1000000) (disch:=first|assumption|omega|rfl) only [↓gp, gc, Nat.reduceAdd, vF, hr0, z0q]
  exact hR _ _ _ _ _ _ _ _ _ _ _ _ _ _ _ _ _ _ _ _ _ _ _ _ _ _ _ _ _ _ _ _ _ _ _ _ _ _ _ _ _ _ _ _ _ _ _ _ _ _ _ _ _ _ _ _ _ _ _ _ _ _ _ _ _ _ _ _ _ _ _ _ _ _ _ _ _ _ _ _ _ _ _ _ _ _ _ _ _ _ _ _ _ _ _ _ _ _ _ _ _ _ _ _ _ _ _ _ _ _ _ _ _ _ _ _ _ _ _ _ _ _ _ _ _ _ _ _ _ _ _ hO
 | succ k ih =>
  intro i S g0 g3 g4 g8 g9 gI gE gB gC gA gD gL gM gF gK gN gJ gH gO gP gT gQ gU gR gS gV gW gX gY gZ gh gj gk gn gr gz hH hU hY xF hZ xA xB xC xD xE xG xH xI xJ xK xL xM xN xO xP xQ xR xS xT xU xV xW xX xY xZ g72 g73 g74 g75 g76 g77 g78 g79 g80 g81 g82 g83 g84 g85 g86 g87 g88 g89 g90 g91 g92 g93 g94 g95 g96 g97 g98 g99 g100 g101 g102 g103 g104 g105 g106 g107 g108 g109 g110 g111 g112 g113 g114 g115 g116 g117 g118 g119 g120 g121 g122 g123 g124 g125 g126 g127 g128 g129 g130 g131 g132 g133 g134 hk hi2 hO hR
  have hr0 := zD (e := 32) hO.h0
  have hle : (i : Int) < l.blocks := by omega
  have h3 : IntKind.i64.wrap ((i : Int) + 1) = ((i + 1 : Nat) : Int) := by rw [wrap64 (by omega)]; omega
  have har : ∀ {ops base K ws cs i' dst T S}, WpEw cfg ops base K ws cs i' dst T S (some (.enter 22 [.d (encLay l), .d (.int .i64 (i : Int))])) = K ((i', T, .d (.int .i64 (z7q l (i : Int)))) :: ws) (cs ++ [(i', 1)]) (putT T dst (.d (.int .i64 (z7q l (i : Int))))) S := fun {ops base K ws cs i' dst T S} => z37 (ds := [encLay l, .int .i64 (i : Int)]) rfl rfl rfl (zl7 l hb hi hm (i : Int))
  have hda := zd0 hm (no := (i : Int))
  rw [hD, hN] at hda
  rw [zR]
  refine zL ?_
  conv => arg 2; whnf
  by_cases hdat : D ≤ i
  ·have hde : ∀ i' : Decidable (z7q l (i : Int) = 4), @decide (z7q l (i : Int) = 4) i' = true := fun i' => decide_eq_true (hda.2 ⟨by omega, by omega⟩)
   have hil : i < held.length := by rw [hO.hl]; omega
   have hst := fun {ops base K ws cs i dst T} => jC (ops := ops) (base := base) (K := K) (ws := ws) (cs := cs) (i := i) (dst := dst) (T := T) rfl (zdt S y x gm hO.al.hy)
   obtain ⟨o, S1, ⟨hK1, v, rfl, hv⟩, hE1⟩ := qF (z6f S x c mk l.blocks l.inodes l.merge 0 hO.al.sp.hx)
   have hview := fun {ops base K ws cs i dst T} => jC (ops := ops) (base := base) (K := K) (ws := ws) (cs := cs) (i := i) (dst := dst) (T := T) rfl hE1
   have hv1 : v.one = true := by obtain ⟨g, rfl, _⟩ := hv; rfl
   have hO1 := hO.keep hK1
   obtain ⟨o, S2, ⟨hF2, hC2, w, rfl, rfl⟩, hE2⟩ := qF (zez S1 v _ c r m l C (CacheIn.of hO1.al.sp.ca) hv hO.al.sp.hB hb hi hm (i : Int))
   have hus := fun {ops base K ws cs i dst T} => jC (ops := ops) (base := base) (K := K) (ws := ws) (cs := cs) (i := i) (dst := dst) (T := T) rfl hE2
   have hO2 := hO1.frC hF2 hC2.at
   have hue : z2g l C (i : Int) = held[i] := by
    rw [hO.eq i hil, decide_eq_true ⟨hdat, by omega⟩, Bool.true_and]
    unfold z2g
    rw [decide_eq_true ⟨by omega, by omega⟩, Bool.true_and, z82 (by omega)]
   rw [hue] at hus
   have hia := fun S => ia60 (S := S) (j := ah) (x := 0) (i := i) (by omega)
   have hget := zg9 hil
   have hrh := zD (e := 37) hO.hh
   have hrh1 := zD (e := 37) hO1.hh
   have hrh2 := zD (e := 37) hO2.hh
   have hlh : kF Tryz.prog S 4 (.ref ah 0 i) = some (.d (.bool held[i])) := (zG hrh).trans hget
   simp (maxSteps:=1000000) (disch:=first|assumption|omega|rfl) only [↓gp, gc, Nat.reduceAdd, vF, hr0, z0q]
   refine qX (is := [0, 1, 2, 3, 4, 5, 8, 10, 11, 12, 6, 7, 9, 13, 14]) (h := 0) (by kernel_rfl) (by kernel_rfl) ?_
   simp (maxSteps:=1000000) (disch:=first|assumption|omega|rfl) only [List.replicate_zero, eq_self, gw, ga, Nat.reduceAdd, ↓gq, vso, List.append_nil, hr0, lr32, har, bo22, hde, hia, hlh, hst, bo24, hview, bo27, hv1, hus, bo28, nb4]
   have hlh1 : kF Tryz.prog S1 4 (.ref ah 0 i) = some (.d (.bool held[i])) := (zG hrh1).trans hget
   have hlh2 : kF Tryz.prog S2 4 (.ref ah 0 i) = some (.d (.bool held[i])) := (zG hrh2).trans hget
   refine ⟨qE rfl (by kernel_rfl) rfl (vB hlh) zm0 (qE rfl (by kernel_rfl) rfl (zt8 (hia S)) zjk (zS (by kernel_rfl) (zS (by kernel_rfl) zZ))), qE rfl (by kernel_rfl) rfl (vB hlh1) zm0 (qE rfl (by kernel_rfl) rfl (zt8 (hia S1)) zjk (zS (by kernel_rfl) (zS (by kernel_rfl) zZ))), qE rfl (by kernel_rfl) rfl (vB hlh2) zm0 (qE rfl (by kernel_rfl) rfl (zt8 (hia S2)) zjk (zS (by kernel_rfl) (zS (by kernel_rfl) zZ))), by kernel_rfl, ?_⟩
   simp (maxSteps:=1000000) (disch:=first|assumption|omega|rfl) only [↓gp, gc, Nat.reduceAdd, h3]
   exact ih (i + 1) S2 _ _ _ _ _ _ _ _ _ _ _ _ _ _ _ _ _ _ _ _ _ _ _ _ _ _ _ _ _ _ _ _ _ _ _ _ _ _ _ _ _ _ _ _ _ _ _ _ _ _ _ _ _ _ _ _ _ _ _ _ _ _ _ _ _ _ _ _ _ _ _ _ _ _ _ _ _ _ _ _ _ _ _ _ _ _ _ _ _ _ _ _ _ _ _ _ _ _ _ _ _ _ _ _ _ _ _ _ _ _ _ _ _ _ _ _ _ _ _ _ _ _ _ _ _ _ _ _ _ (by omega) (by omega) hO2 hR
  ·have hde : ∀ i' : Decidable (z7q l (i : Int) = 4), @decide (z7q l (i : Int) = 4) i' = false := fun i' => decide_eq_false (fun h => hdat (by have := (hda.1 h).1; omega))
   simp (maxSteps:=1000000) (disch:=first|assumption|omega|rfl) only [↓gp, gc, Nat.reduceAdd, vF, hr0, z0q]
   refine qX (is := [0, 1, 2, 3, 4, 5, 8, 10, 11, 12, 6, 7, 9, 13, 14]) (h := 0) (by kernel_rfl) (by kernel_rfl) ?_
   simp (maxSteps:=1000000) (disch:=first|assumption|omega|rfl) only [List.replicate_zero, eq_self, gw, ga, Nat.reduceAdd, ↓gq, vso, List.append_nil, hr0, lr32, har, bo22, hde]
   refine ⟨by kernel_rfl, ?_⟩
   simp (maxSteps:=1000000) (disch:=first|assumption|omega|rfl) only [↓gp, gc, Nat.reduceAdd, h3]
   exact ih (i + 1) S _ _ _ _ _ _ _ _ _ _ _ _ _ _ _ _ _ _ _ _ _ _ _ _ _ _ _ _ _ _ _ _ _ _ _ _ _ _ _ _ _ _ _ _ _ _ _ _ _ _ _ _ _ _ _ _ _ _ _ _ _ _ _ _ _ _ _ _ _ _ _ _ _ _ _ _ _ _ _ _ _ _ _ _ _ _ _ _ _ _ _ _ _ _ _ _ _ _ _ _ _ _ _ _ _ _ _ _ _ _ _ _ _ _ _ _ _ _ _ _ _ _ _ _ _ _ _ _ _ (by omega) (by omega) hO hR
structure StpA where
 do_ : Int
 no : Int
 byte : UInt8
 needs : List Int
def encStpA (s : StpA) : D := .agg [.int .i64 s.do_, .int .i64 s.no, byD s.byte, encI s.needs]
section
variable {s : StpA} {d x y : Nat}
theorem zA : zeroV Tryz.prog 39 = some (.agg [.d (.int .i64 0), .d (.int .i64 0), .d (.int .u8 0), .ts []]) := by kernel_rfl
theorem zfA : qB Tryz.prog 39 (.agg [.d (.int .i64 0), .d (.int .i64 0), .d (.int .u8 0), .ts []]) = true := by kernel_rfl
theorem stA : qM Tryz.prog 39 0 (.d (encStpA s)) (.agg [.d (.int .i64 0), .d (.int .i64 0), .d (.int .u8 0), .ts []]) = some (.d (encStpA s)) := by kernel_rfl
theorem pldA {S : zB} : kF Tryz.prog S 39 (.d (.ptr (encStpA s))) = some (.d (encStpA s)) := by kernel_rfl
theorem ze3 : zT Tryz.prog 39 0 (.ref d x y) = some (.ref d x (y + 0)) := by kernel_rfl
theorem zk0 : zT Tryz.prog 39 1 (.ref d x y) = some (.ref d x (y + 1)) := by kernel_rfl
theorem ztl : zT Tryz.prog 39 2 (.ref d x y) = some (.ref d x (y + 2)) := by kernel_rfl
theorem zdr : qT Tryz.prog 3 0 (some (.d (encStpA s))) = some (.d (.int .i64 s.do_)) := by kernel_rfl
theorem zj2 : qT Tryz.prog 3 1 (some (.d (encStpA s))) = some (.d (.int .i64 s.no)) := by kernel_rfl
theorem zst : qT Tryz.prog 5 2 (some (.d (encStpA s))) = some (.d (byD s.byte)) := by kernel_rfl
end
theorem uA : Tryz.prog.underlying 33 = some (.slice 39) := by kernel_rfl
theorem ixA {S : zB} {l : List StpA} {i : Nat} (h : i < l.length) : zI Tryz.prog S 33 (.d (.sl (l.map encStpA))) (.d (.int .i64 (i : Int))) = some (.d (.ptr (encStpA l[i]))) := znc uA (fun a => by kernel_rfl) h
theorem lnA {S : zB} {l : List StpA} : zO Tryz.prog S .len [33] [.d (.sl (l.map encStpA))] = some (.val (.d (.int .i64 (l.length : Int))) S 0) := by rw [zmp uA, List.length_map]
theorem zi0 {ops : Array Oper} {dst : Option Tmp} {k : List Oper} {T : List V} {S : zB} {F : Dfs} {Q : Post} {x : UInt8} : WpR cfg ops dst k T S F Q (some (.enter 20 [.d (byD x)])) = WpL cfg ops k (putT T dst (.d (blkD (fulL x)))) S F Q := qA (ds := [byD x]) rfl (zrw x)
theorem zi9 {ops : Array Oper} {dst : Option Tmp} {k : List Oper} {T : List V} {S : zB} {F : Dfs} {Q : Post} {l : Lay} (hb : InB l.blocks) (hi : InB l.inodes) (hm : MayL l) {no : Int} : WpR cfg ops dst k T S F Q (some (.enter 22 [.d (encLay l), .d (.int .i64 no)])) = WpL cfg ops k (putT T dst (.d (.int .i64 (z7q l no)))) S F Q := qA (ds := [encLay l, .int .i64 no]) rfl (zl7 l hb hi hm no)
theorem AllP.set1 {S : zB} {y x c r m mk gm : Nat} {l : Lay} {e : Int} {C : CS} {mf gf : Int → Option V} {gl : Int → List Int} {b : Nat} (h : AllP S y x c r m mk gm l e C mf gf gl b) {a : Nat} {xs : List V} {t : TypeId} (ha : S[a]? = some (.row xs t)) (ht : (t != 135 && t != 126 && t != 80 && t != 5 && t != 3) = true) (h1 : t ≠ 116) (h2 : t ≠ 122) (h3 : t ≠ 3) (hr : a ≠ r) {o : Ob} : AllP (S.set a o) y x c r m mk gm l e C mf gf gl b := by
 have at_ : ∀ {j : Nat} {ys : List V} {u : TypeId}, u ≠ t → S[j]? = some (.row ys u) → (S.set a o)[j]? = some (.row ys u) := fun hn hj => by
  rw [List.getElem?_set_ne (by rintro rfl; have := getE ha hj; simp at this; exact hn this.2.symm)]; exact hj
 have mp_ : ∀ {k : Nat} {f : Int → Option V}, MpI S k f → MpI (S.set a o) k f := fun hm => by
  obtain ⟨L, q, e1, e2⟩ := hm
  exact ⟨L, q, by rw [List.getElem?_set_ne (by rintro rfl; cases getE ha e1)]; exact e1, e2⟩
 refine ⟨at_ (Ne.symm h1) h.hy, ⟨at_ (Ne.symm h2) h.sp.hx, h.sp.ca.set1 ha ht hr, mp_ h.sp.mp, h.sp.ne, h.sp.hB⟩, mp_ h.gp, fun n => ?_, h.gb, h.n1, h.n2⟩
 rcases h.gv n with ho | ⟨id, p, q⟩
 ·exact .inl ho
 ·exact .inr ⟨id, p, at_ (Ne.symm h3) q⟩
theorem OnceP.hold {S : zB} {y x c r m mk gm ah : Nat} {l : Lay} {C : CS} {mf gf : Int → Option V} {held held' : List Bool} {D N n : Nat} (hA : AllP S y x c r m mk gm l 0 C mf gf (fun _ => []) 0) (h0 : S[0]? = some (.row [.d (encLay l)] 32)) (hh : S[ah]? = some (.row [z0p held] 37)) (hl : held'.length = 60) (las : C.last ≤ 2 * n) (eq : ∀ no (h : no < held'.length), held'[no] = (decide (D ≤ no ∧ no < N) && hasB (C.see 1) no)) : OnceP (S.set ah (.row [z0p held'] 37)) y x c r m mk gm ah l C mf gf held' D N n := by
 have hr : ah ≠ r := by
  rintro rfl
  obtain ⟨_, _, _, _, _, _, _, _, g, _⟩ := hA.sp.ca
  have := getE hh g.dk.hr
  simp at this
 refine ⟨hA.set1 hh rfl (by decide) (by decide) (by decide) hr, ?_, List.getElem?_set_self (zQ hh), hl, las, eq⟩
 rw [List.getElem?_set_ne (by rintro rfl; have := getE hh h0; simp at this)]
 exact h0
theorem zpu {bm : List UInt8} {D N no : Nat} {t : List Nat} (h : frB bm D N = no :: t) : D ≤ no ∧ no < N ∧ hasB bm no = false := by
 have hmem : no ∈ frB bm D N := by rw [h]; simp
 unfold frB at hmem
 obtain ⟨h1, h2⟩ := List.mem_filter.1 hmem
 simp only [Bool.and_eq_true, decide_eq_true_eq, Bool.not_eq_true'] at h2
 exact ⟨h2.1, List.mem_range.1 h1, h2.2⟩
theorem zdn {held : List Bool} {bm bm' : List UInt8} {D N no : Nat} (eq : ∀ k (h : k < held.length), held[k] = (decide (D ≤ k ∧ k < N) && hasB bm k)) (hno : D ≤ no ∧ no < N) (on : Bool) (hbm : ∀ k, hasB bm' k = if k = no then on else hasB bm k) : ∀ k (h : k < (held.set no on).length), (held.set no on)[k] = (decide (D ≤ k ∧ k < N) && hasB bm' k) := by
 intro k h
 rw [List.length_set] at h
 rw [List.getElem_set, hbm]
 by_cases hk : no = k
 ·subst hk
  rw [if_pos rfl, if_pos rfl, decide_eq_true hno, Bool.true_and]
 ·rw [if_neg hk, if_neg (Ne.symm hk)]
  exact eq k h
theorem zqe {p : Prop} (h : ¬ p) : ∀ i : Decidable p, @decide p i = false := fun i => decide_eq_false h
theorem zps {p : Prop} (h : p) : ∀ i : Decidable p, @decide p i = true := fun i => decide_eq_true h
theorem ztc {S : zB} {a b : Int} : zO Tryz.prog S .len [22] [.ts [.int .i64 a, .int .i64 b]] = some (.val (.d (.int .i64 2)) S 0) := by kernel_rfl
theorem zvk {S : zB} : zO Tryz.prog S .len [22] [.ts []] = some (.val (.d (.int .i64 0)) S 0) := by kernel_rfl
theorem q05 (steps : List StpA) (hst : steps.length ≤ 24) (y x c r m mk gm ah : Nat) (l : Lay) (D N : Nat) (hb : InB l.blocks) (hi : InB l.inodes) (hm : MayL l) (hD : 2 + l.inodes.tdiv 8 = (D : Int)) (hN : l.blocks = N) (hN60 : N ≤ 60) (R : Post) :
 ∀ (k i : Nat) (S : zB) (C : CS) (mf gf : Int → Option V) (held : List Bool) (g0 g3 g4 g8 g9 gI gE gG gB gC gA gD gL gM gF gK gN gJ gH gO gP gT gQ gU gR gS gV gW gX gY gZ gh gj gk gn gr gz hH hU hY xF hZ xA xB xC xD xE xG xH xI xJ xK xL xM xN xO xP xQ xR xS xT xU xV xW xX xY xZ g72 g73 g74 g75 g76 g77 g78 g79 g80 g81 g82 g83 g84 g85 g86 g87 g88 g89 g90 g91 g92 g93 g94 g95 g96 g97 g98 g99 g100 g101 g102 g103 g104 g105 g106 g107 g108 g109 g110 g111 g112 g113 g114 g115 g116 g117 g118 g119 g120 g121 g122 g123 g124 g125 g126 g127 g128 g129 g130 g131 g132 g133 g134 : V), steps.length - i = k → i ≤ steps.length → OnceP S y x c r m mk gm ah l C mf gf held D N i →
 (∀ S i' g0 g3 g4 g8 g9 gI gE gG gB gC gA gD gL gM gF gK gN gJ gH gO gP gT gQ gU gR gS gV gW gX gY gZ gh gj gk gn gr gz hH hU hY xF hZ xA xB xC xD xE xG xH xI xJ xK xL xM xN xO xP xQ xR xS xT xU xV xW xX xY xZ g72 g73 g74 g75 g76 g77 g78 g79 g80 g81 g82 g83 g84 g85 g86 g87 g88 g89 g90 g91 g92 g93 g94 g95 g96 g97 g98 g99 g100 g101 g102 g103 g104 g105 g106 g107 g108 g109 g110 g111 g112 g113 g114 g115 g116 g117 g118 g119 g120 g121 g122 g123 g124 g125 g126 g127 g128 g129 g130 g131 g132 g133 g134, R (.exit 0) (g0 :: (.d (.sl (steps.map encStpA))) :: (.ref 0 0 0) :: g3 :: g4 :: (.ref y 0 0) :: (.ref ah 0 0) :: i' :: g8 :: g9 :: gI :: gE :: gG :: gB :: gC :: gA :: gD :: gL :: gM :: gF :: gK :: gN :: gJ :: gH :: gO :: gP :: gT :: gQ :: gU :: gR :: gS :: gV :: gW :: gX :: gY :: gZ :: gh :: gj :: gk :: gn :: gr :: gz :: hH :: hU :: hY :: xF :: hZ :: xA :: xB :: xC :: xD :: xE :: xG :: xH :: xI :: xJ :: xK :: xL :: xM :: xN :: xO :: xP :: xQ :: xR :: xS :: xT :: xU :: xV :: xW :: xX :: xY :: xZ :: g72 :: g73 :: g74 :: g75 :: g76 :: g77 :: g78 :: g79 :: g80 :: g81 :: g82 :: g83 :: g84 :: g85 :: g86 :: g87 :: g88 :: g89 :: g90 :: g91 :: g92 :: g93 :: g94 :: g95 :: g96 :: g97 :: g98 :: g99 :: g100 :: g101 :: g102 :: g103 :: g104 :: g105 :: g106 :: g107 :: g108 :: g109 :: g110 :: g111 :: g112 :: g113 :: g114 :: g115 :: g116 :: g117 :: g118 :: g119 :: g120 :: g121 :: g122 :: g123 :: g124 :: g125 :: g126 :: g127 :: g128 :: g129 :: g130 :: g131 :: g132 :: g133 :: g134 :: []) S []) →
 Wp cfg (.loop (lpOf (Tryz.f4.body.getD .skip) 0)) (g0 :: (.d (.sl (steps.map encStpA))) :: (.ref 0 0 0) :: g3 :: g4 :: (.ref y 0 0) :: (.ref ah 0 0) :: (.d (.int .i64 (i : Int))) :: g8 :: g9 :: gI :: gE :: gG :: gB :: gC :: gA :: gD :: gL :: gM :: gF :: gK :: gN :: gJ :: gH :: gO :: gP :: gT :: gQ :: gU :: gR :: gS :: gV :: gW :: gX :: gY :: gZ :: gh :: gj :: gk :: gn :: gr :: gz :: hH :: hU :: hY :: xF :: hZ :: xA :: xB :: xC :: xD :: xE :: xG :: xH :: xI :: xJ :: xK :: xL :: xM :: xN :: xO :: xP :: xQ :: xR :: xS :: xT :: xU :: xV :: xW :: xX :: xY :: xZ :: g72 :: g73 :: g74 :: g75 :: g76 :: g77 :: g78 :: g79 :: g80 :: g81 :: g82 :: g83 :: g84 :: g85 :: g86 :: g87 :: g88 :: g89 :: g90 :: g91 :: g92 :: g93 :: g94 :: g95 :: g96 :: g97 :: g98 :: g99 :: g100 :: g101 :: g102 :: g103 :: g104 :: g105 :: g106 :: g107 :: g108 :: g109 :: g110 :: g111 :: g112 :: g113 :: g114 :: g115 :: g116 :: g117 :: g118 :: g119 :: g120 :: g121 :: g122 :: g123 :: g124 :: g125 :: g126 :: g127 :: g128 :: g129 :: g130 :: g131 :: g132 :: g133 :: g134 :: []) S [] R := by
 intro k
 have hln := fun S => lnA (S := S) (l := steps)
 induction k with
 | zero =>
  intro i S C mf gf held g0 g3 g4 g8 g9 gI gE gG gB gC gA gD gL gM gF gK gN gJ gH gO gP gT gQ gU gR gS gV gW gX gY gZ gh gj gk gn gr gz hH hU hY xF hZ xA xB xC xD xE xG xH xI xJ xK xL xM xN xO xP xQ xR xS xT xU xV xW xX xY xZ g72 g73 g74 g75 g76 g77 g78 g79 g80 g81 g82 g83 g84 g85 g86 g87 g88 g89 g90 g91 g92 g93 g94 g95 g96 g97 g98 g99 g100 g101 g102 g103 g104 g105 g106 g107 g108 g109 g110 g111 g112 g113 g114 g115 g116 g117 g118 g119 g120 g121 g122 g123 g124 g125 g126 g127 g128 g129 g130 g131 g132 g133 g134 hk hi2 hO hR
  have hie : i = steps.length := by omega
  subst hie
  rw [zR]
  refine zL ?_
  conv => arg 2; whnf
  simp (maxSteps:=1000000) (disch:=first|assumption|omega|rfl) only [↓gp, gc, Nat.reduceAdd, hln]
  exact hR _ _ _ _ _ _ _ _ _ _ _ _ _ _ _ _ _ _ _ _ _ _ _ _ _ _ _ _ _ _ _ _ _ _ _ _ _ _ _ _ _ _ _ _ _ _ _ _ _ _ _ _ _ _ _ _ _ _ _ _ _ _ _ _ _ _ _ _ _ _ _ _ _ _ _ _ _ _ _ _ _ _ _ _ _ _ _ _ _ _ _ _ _ _ _ _ _ _ _ _ _ _ _ _ _ _ _ _ _ _ _ _ _ _ _ _ _ _ _ _ _ _ _ _ _ _ _ _ _ _ _ _
 | succ k ih =>
  intro i S C mf gf held g0 g3 g4 g8 g9 gI gE gG gB gC gA gD gL gM gF gK gN gJ gH gO gP gT gQ gU gR gS gV gW gX gY gZ gh gj gk gn gr gz hH hU hY xF hZ xA xB xC xD xE xG xH xI xJ xK xL xM xN xO xP xQ xR xS xT xU xV xW xX xY xZ g72 g73 g74 g75 g76 g77 g78 g79 g80 g81 g82 g83 g84 g85 g86 g87 g88 g89 g90 g91 g92 g93 g94 g95 g96 g97 g98 g99 g100 g101 g102 g103 g104 g105 g106 g107 g108 g109 g110 g111 g112 g113 g114 g115 g116 g117 g118 g119 g120 g121 g122 g123 g124 g125 g126 g127 g128 g129 g130 g131 g132 g133 g134 hk hi2 hO hR
  have hlt : i < steps.length := by omega
  have h3 : IntKind.i64.wrap ((i : Int) + 1) = ((i + 1 : Nat) : Int) := by rw [wrap64 (by omega)]; omega
  have hix := fun S => ixA (S := S) hlt
  generalize hs : steps[i] = s at hix
  generalize ha : S.length = a
  have hO1 := hO.keep (Keep.refl.app (S' := S) (l := [.row [.d (encStpA s)] 39]))
  have ha1 : (S ++ [Ob.row [.d (encStpA s)] 39])[a]? = some (.row [.d (encStpA s)] 39) := by rw [List.getElem?_append_right (by omega), ha, Nat.sub_self]; rfl
  have hra := zD (e := 39) ha1
  have mono : ∀ {S' : zB} {C' : CS} {mf' gf' : Int → Option V} {held' : List Bool}, OnceP S' y x c r m mk gm ah l C' mf' gf' held' D N i → OnceP S' y x c r m mk gm ah l C' mf' gf' held' D N (i + 1) := fun h => ⟨h.al, h.h0, h.hh, h.hl, by have := h.las; omega, h.eq⟩
  have hgl : ∀ no : Int, (fun n : Int => if n = no then ([] : List Int) else (fun _ => ([] : List Int)) n) = fun _ => [] := fun no => by funext n; split <;> rfl
  have hlas := hO.las
  have h512 := hm.2.1
  have hn1 : 1 < C.img.length := by have := hm.1; have := hO.al.sp.hB; omega
  have hnl : N = C.img.length := by have := hO.al.sp.hB; omega
  have hDD : 2 ≤ D := by
   have h8 := hm.2.2.1
   have h4 : l.inodes.tdiv 8 = l.inodes / 8 := Int.tdiv_eq_ediv_of_nonneg (by omega)
   omega
  have hok := hO.al.sp.ca.ok
  rw [zR]
  refine zL ?_
  conv => arg 2; whnf
  by_cases d0 : s.do_ = 0
  ·have hd0 := zps d0
   have hfull := fun {ops dst k T S F Q} => zi0 (ops := ops) (dst := dst) (k := k) (T := T) (S := S) (F := F) (Q := Q) (x := s.byte)
   have hf1 := z5d (x := s.byte)
   cases hfr : frB (C.see 1) D N with
   | nil =>
    obtain ⟨o, S2, ⟨hF2, hA2, rfl⟩, hE2⟩ := qF (zm7 _ y x c r m mk gm l 0 C mf gf _ 0 hO1.al hb hi hm D hD N hN (.d (blkD (fulL s.byte))) _ jT hf1 (.ts []) (.inl hfr))
    have htake := fun {ops dst k T F Q} => zH (ops := ops) (dst := dst) (l := k) (T := T) (F := F) (Q := Q) rfl hE2
    have hO2 := hO1.frC hF2 hA2.sp.ca
    obtain ⟨o, S3, ⟨rfl, hC3, hF3⟩, hE3⟩ := qF (zfp S2 _ y x c r m mk gm l 0 C hA2.seen hA2.sp.hB hb hi hm D hD N hN)
    rw [hfr] at hE3
    have hfree := fun {ops dst k T F Q} => zH (ops := ops) (dst := dst) (l := k) (T := T) (F := F) (Q := Q) rfl hE3
    have e0 : ((([] : List Nat).length : Nat) : Int) = 0 := rfl
    rw [e0] at hfree
    have hO3 := mono (hO2.frC hF3 hC3.at)
    simp (maxSteps:=1000000) (disch:=first|assumption|omega|rfl) only [↓gp, gc, Nat.reduceAdd, hln, hix, pldA, zA, zfA, stA, ha, rA0 ha, pA0 ha, ze3, ztl, hra, zdr, zst, hd0, hfull, bo20, z0v, htake, bo19, zN, hfree, bo21, zvk, h3]
    exact ih (i + 1) S3 C mf gf held _ _ _ _ _ _ _ _ _ _ _ _ _ _ _ _ _ _ _ _ _ _ _ _ _ _ _ _ _ _ _ _ _ _ _ _ _ _ _ _ _ _ _ _ _ _ _ _ _ _ _ _ _ _ _ _ _ _ _ _ _ _ _ _ _ _ _ _ _ _ _ _ _ _ _ _ _ _ _ _ _ _ _ _ _ _ _ _ _ _ _ _ _ _ _ _ _ _ _ _ _ _ _ _ _ _ _ _ _ _ _ _ _ _ _ _ _ _ _ _ _ _ _ _ _ _ _ _ _ _ (by omega) (by omega) hO3 hR
   | cons no t =>
    obtain ⟨n1, n2, n3⟩ := zpu hfr
    obtain ⟨o, S2, ⟨hF2, ⟨gf2, hA2⟩, rfl⟩, hE2⟩ := qF (zjx _ y x c r m mk gm l C mf gf _ 0 hO1.al (by decide) hb hi hm D hD N hN (.d (blkD (fulL s.byte))) _ jT hf1 (.ts []) [] (.inr (.inl rfl)) (by decide) (by omega) no t hfr)
    have hidn : ∀ x ∈ noZ (z0e (bitC C no true []).list [] ++ []), 1 ≤ x ∧ x ≤ (C.last : Int) + 1 := by rw [z8l]; intro x hx; cases hx
    obtain ⟨z1, z2⟩ := z8t (bb := fulL s.byte) (by omega : no < C.img.length) hf1 hidn
    have hsee := zgs (bb := fulL s.byte) hok (by omega : no < C.img.length) hn1 (by omega) hf1 hidn (by omega) 1
    rw [if_neg (by omega), if_pos rfl] at hsee
    rw [hgl, z1] at hA2
    rw [if_neg (fun h => h z1)] at hE2
    have htake := fun {ops dst k T F Q} => zH (ops := ops) (dst := dst) (l := k) (T := T) (F := F) (Q := Q) rfl hE2
    have h02 : S2[0]? = some (.row [.d (encLay l)] 32) := hF2.row hO1.h0 rfl
    have hh2 : S2[ah]? = some (.row [z0p held] 37) := hF2.row hO1.hh rfl
    have hnh : no < held.length := by rw [hO.hl]; omega
    have hheld : held[no] = false := by rw [hO.eq no hnh, n3, Bool.and_false]
    have hl2 : (takC C no (fulL s.byte) [] []).last = C.last + 2 := by rw [z2]; rfl
    have hO3 := OnceP.hold (held' := held.set no true) (n := i + 1) hA2 h02 hh2 (by rw [List.length_set]; exact hO.hl) (by rw [hl2]; omega) (by
     rw [hsee]
     exact zdn hO.eq ⟨n1, n2⟩ true (fun k => zbm (hok.see_len hn1) (by omega)))
    have hia := fun S => ia60 (S := S) (j := ah) (x := 0) (i := no) (by omega)
    have hrh := zD (e := 37) hh2
    have hlh : kF Tryz.prog S2 4 (.ref ah 0 no) = some (.d (.bool false)) := by rw [(zG hrh).trans (zg9 hnh), hheld]
    have hst4 : ∀ v, vJ Tryz.prog S2 4 (.ref ah 0 no) v = z3y S2 ah 0 (qM Tryz.prog 4 no v (z0p held)) := fun v => z1l hrh
    have hput := zrq (b := true) hnh
    have hpr := fun v => qJ (y := v) (e := 37) hh2
    have hr02 := zD (e := 32) h02
    have har := fun {ops dst k T S F Q} => zi9 (ops := ops) (dst := dst) (k := k) (T := T) (S := S) (F := F) (Q := Q) (no := (no : Int)) hb hi hm
    rw [(zd0 hm).2 ⟨by omega, by omega⟩] at har
    have hno0 := zqe (show ¬ (no : Int) = 0 by omega)
    simp (maxSteps:=1000000) (disch:=first|assumption|omega|rfl) only [↓gp, gc, Nat.reduceAdd, hln, hix, pldA, zA, zfA, stA, ha, rA0 ha, pA0 ha, ze3, ztl, hra, zdr, zst, hd0, hfull, bo20, z0v, htake, bo19, hno0, hr02, lr32, har, bo22, zN, hia, hlh, ztc, hst4, hput, hpr]
    refine zfk _ _ y x c r m mk gm ah l _ mf gf2 _ D N (i + 1) hb hi hm hD hN hN60 _ N 0 _ _ _ _ _ _ _ _ _ _ _ _ _ _ _ _ _ _ _ _ _ _ _ _ _ _ _ _ _ _ _ _ _ _ _ _ _ _ _ _ _ _ _ _ _ _ _ _ _ _ _ _ _ _ _ _ _ _ _ _ _ _ _ _ _ _ _ _ _ _ _ _ _ _ _ _ _ _ _ _ _ _ _ _ _ _ _ _ _ _ _ _ _ _ _ _ _ _ _ _ _ _ _ _ _ _ _ _ _ _ _ _ _ _ _ _ _ _ _ _ _ _ _ _ _ _ _ _ _ _ rfl (Nat.zero_le _) hO3 ?_
    intro S5 i' g0 g3 g4 g8 g9 gI gE gB gC gA gD gL gM gF gK gN gJ gH gO gP gT gQ gU gR gS gV gW gX gY gZ gh gj gk gn gr gz hH hU hY xF hZ xA xB xC xD xE xG xH xI xJ xK xL xM xN xO xP xQ xR xS xT xU xV xW xX xY xZ g72 g73 g74 g75 g76 g77 g78 g79 g80 g81 g82 g83 g84 g85 g86 g87 g88 g89 g90 g91 g92 g93 g94 g95 g96 g97 g98 g99 g100 g101 g102 g103 g104 g105 g106 g107 g108 g109 g110 g111 g112 g113 g114 g115 g116 g117 g118 g119 g120 g121 g122 g123 g124 g125 g126 g127 g128 g129 g130 g131 g132 g133 g134 hO5
    simp (maxSteps:=1000000) (disch:=first|assumption|omega|rfl) only [↓gp, gc, Nat.reduceAdd, h3]
    exact ih (i + 1) S5 _ mf gf2 _ _ _ _ _ _ _ _ _ _ _ _ _ _ _ _ _ _ _ _ _ _ _ _ _ _ _ _ _ _ _ _ _ _ _ _ _ _ _ _ _ _ _ _ _ _ _ _ _ _ _ _ _ _ _ _ _ _ _ _ _ _ _ _ _ _ _ _ _ _ _ _ _ _ _ _ _ _ _ _ _ _ _ _ _ _ _ _ _ _ _ _ _ _ _ _ _ _ _ _ _ _ _ _ _ _ _ _ _ _ _ _ _ _ _ _ _ _ _ _ _ _ _ _ _ _ _ _ _ _ _ (by omega) (by omega) hO5 hR
  have hd0 := zqe d0
  by_cases d1 : s.do_ = 1
  ·have hd1 := zps d1
   by_cases hg : (2 + l.inodes.tdiv 8 ≤ s.no ∧ s.no < l.blocks) ∧ z2g l C s.no = true
   ·obtain ⟨⟨g1, g2⟩, hu⟩ := hg
    obtain ⟨no, hno⟩ : ∃ no : Nat, s.no = no := ⟨s.no.toNat, by omega⟩
    rw [hno] at g1 g2 hu
    have hl1 : qT Tryz.prog 3 1 (some (.d (encStpA s))) = some (.d (.int .i64 (no : Int))) := by rw [zj2, hno]
    have n1 : D ≤ no := by omega
    have n2 : no < N := by omega
    obtain ⟨o, S2, ⟨hF2, ⟨gf2, hA2⟩, rfl⟩, hE2⟩ := qF (zw0 _ y x c r m mk gm l C mf gf _ 0 hO1.al hb hi hm no (.ts []) [] (.inr (.inl rfl)) (by decide) (by omega) ⟨g1, g2⟩ hu)
    have hpe : putE C 1 ((no / 8 : Nat) : Int) (bitP C no false) (noZ []) = 0 := zhd hn1 (by omega) (by intro x hx; cases hx)
    have e1 : spE 0 C 1 ((no / 8 : Nat) : Int) (bitP C no false) [] = 0 := by unfold spE; rw [if_neg (fun h => h rfl), hpe]
    have e2 : spC 0 C 1 ((no / 8 : Nat) : Int) (bitP C no false) [] = bitC C no false [] := by unfold spC bitC; rw [if_neg (fun h => h rfl), if_neg (fun hh => hh hpe)]
    have e3 : spI 0 C 1 ((no / 8 : Nat) : Int) (bitP C no false) [] = (C.last : Int) + 1 := by unfold spI; rw [if_neg (fun h => h rfl), if_neg (fun hh => hh hpe)]
    have e4 : max 0 ([] : List Int).length = 0 := rfl
    rw [hgl, e1, e2, e4] at hA2
    rw [e3] at hE2
    have hgive := fun {ops dst k T F Q} => zH (ops := ops) (dst := dst) (l := k) (T := T) (F := F) (Q := Q) rfl hE2
    have h02 : S2[0]? = some (.row [.d (encLay l)] 32) := hF2.row hO1.h0 rfl
    have hh2 : S2[ah]? = some (.row [z0p held] 37) := hF2.row hO1.hh rfl
    have ha2 := hF2.row ha1 rfl
    have hra2 := zD (e := 39) ha2
    have hnh : no < held.length := by rw [hO.hl]; omega
    have hsee := zge hok hn1 (no := no) (by omega) (on := false) (ids := []) (k := 1)
    rw [if_pos rfl] at hsee
    have hheld : held[no] = true := by
     rw [hO.eq no hnh, decide_eq_true ⟨n1, n2⟩, Bool.true_and]
     unfold z2g at hu
     rw [decide_eq_true ⟨by omega, by omega⟩, Bool.true_and, z82 (by omega)] at hu
     exact hu
    have hO3 := OnceP.hold (held' := held.set no false) (n := i + 1) hA2 h02 hh2 (by rw [List.length_set]; exact hO.hl) (by show C.last + 1 ≤ _; omega) (by
     rw [hsee]
     exact zdn hO.eq ⟨n1, n2⟩ false (fun k => zbm (hok.see_len hn1) (by omega)))
    have hia := fun S => ia60 (S := S) (j := ah) (x := 0) (i := no) (by omega)
    have hrh := zD (e := 37) hh2
    have hlh : kF Tryz.prog S2 4 (.ref ah 0 no) = some (.d (.bool true)) := by rw [(zG hrh).trans (zg9 hnh), hheld]
    have hst4 : ∀ v, vJ Tryz.prog S2 4 (.ref ah 0 no) v = z3y S2 ah 0 (qM Tryz.prog 4 no v (z0p held)) := fun v => z1l hrh
    have hput := zrq (b := false) hnh
    have hpr := fun v => qJ (y := v) (e := 37) hh2
    have hid := zps (show (C.last : Int) + 1 ≠ 0 by omega)
    have hmin := fun S => min_le (S := S) (a := (no : Int)) (b := 59) (by omega)
    have hmax := fun S => max_le (S := S) (a := 0) (b := (no : Int)) (by omega)
    simp (maxSteps:=1000000) (disch:=first|assumption|omega|rfl) only [↓gp, gc, Nat.reduceAdd, hln, hix, pldA, zA, zfA, stA, ha, rA0 ha, pA0 ha, ze3, zk0, hra, zdr, hl1, hd0, hd1, z0v, hgive, bo23, hid, hra2, hmin, hmax, hia, hlh, ↓nb4, hst4, hput, hpr]
    refine zfk _ _ y x c r m mk gm ah l _ mf gf2 _ D N (i + 1) hb hi hm hD hN hN60 _ N 0 _ _ _ _ _ _ _ _ _ _ _ _ _ _ _ _ _ _ _ _ _ _ _ _ _ _ _ _ _ _ _ _ _ _ _ _ _ _ _ _ _ _ _ _ _ _ _ _ _ _ _ _ _ _ _ _ _ _ _ _ _ _ _ _ _ _ _ _ _ _ _ _ _ _ _ _ _ _ _ _ _ _ _ _ _ _ _ _ _ _ _ _ _ _ _ _ _ _ _ _ _ _ _ _ _ _ _ _ _ _ _ _ _ _ _ _ _ _ _ _ _ _ _ _ _ _ _ _ _ _ rfl (Nat.zero_le _) hO3 ?_
    intro S5 i' g0 g3 g4 g8 g9 gI gE gB gC gA gD gL gM gF gK gN gJ gH gO gP gT gQ gU gR gS gV gW gX gY gZ gh gj gk gn gr gz hH hU hY xF hZ xA xB xC xD xE xG xH xI xJ xK xL xM xN xO xP xQ xR xS xT xU xV xW xX xY xZ g72 g73 g74 g75 g76 g77 g78 g79 g80 g81 g82 g83 g84 g85 g86 g87 g88 g89 g90 g91 g92 g93 g94 g95 g96 g97 g98 g99 g100 g101 g102 g103 g104 g105 g106 g107 g108 g109 g110 g111 g112 g113 g114 g115 g116 g117 g118 g119 g120 g121 g122 g123 g124 g125 g126 g127 g128 g129 g130 g131 g132 g133 g134 hO5
    simp (maxSteps:=1000000) (disch:=first|assumption|omega|rfl) only [↓gp, gc, Nat.reduceAdd, h3]
    exact ih (i + 1) S5 _ mf gf2 _ _ _ _ _ _ _ _ _ _ _ _ _ _ _ _ _ _ _ _ _ _ _ _ _ _ _ _ _ _ _ _ _ _ _ _ _ _ _ _ _ _ _ _ _ _ _ _ _ _ _ _ _ _ _ _ _ _ _ _ _ _ _ _ _ _ _ _ _ _ _ _ _ _ _ _ _ _ _ _ _ _ _ _ _ _ _ _ _ _ _ _ _ _ _ _ _ _ _ _ _ _ _ _ _ _ _ _ _ _ _ _ _ _ _ _ _ _ _ _ _ _ _ _ _ _ _ _ _ _ _ (by omega) (by omega) hO5 hR
   ·have hor : ¬ (2 + l.inodes.tdiv 8 ≤ s.no ∧ s.no < l.blocks) ∨ z2g l C s.no = false ∨ (0 : Int) ≠ 0 := by
     by_cases h : 2 + l.inodes.tdiv 8 ≤ s.no ∧ s.no < l.blocks
     ·cases hu : z2g l C s.no with
      | false => exact .inr (.inl rfl)
      | true => exact absurd ⟨h, hu⟩ hg
     ·exact .inl h
    obtain ⟨o, S2, ⟨hF2, hA2, rfl⟩, hE2⟩ := qF (zum _ y x c r m mk gm l 0 C mf gf _ 0 hO1.al hb hi hm s.no (.ts []) hor)
    have hgive := fun {ops dst k T F Q} => zH (ops := ops) (dst := dst) (l := k) (T := T) (F := F) (Q := Q) rfl hE2
    have hO2 := hO1.frC hF2 hA2.sp.ca
    have ha2 := hF2.row ha1 rfl
    have hra2 := zD (e := 39) ha2
    by_cases b1 : s.no ≥ 0
    case neg =>
     simp (maxSteps:=1000000) (disch:=first|assumption|omega|rfl) only [↓gp, gc, Nat.reduceAdd, hln, hix, pldA, zA, zfA, stA, ha, rA0 ha, pA0 ha, ze3, zk0, hra, zdr, zj2, hd0, hd1, z0v, hgive, bo23, hra2, ↓nb4]
     refine zfk _ _ y x c r m mk gm ah l C mf gf held D N (i + 1) hb hi hm hD hN hN60 _ N 0 _ _ _ _ _ _ _ _ _ _ _ _ _ _ _ _ _ _ _ _ _ _ _ _ _ _ _ _ _ _ _ _ _ _ _ _ _ _ _ _ _ _ _ _ _ _ _ _ _ _ _ _ _ _ _ _ _ _ _ _ _ _ _ _ _ _ _ _ _ _ _ _ _ _ _ _ _ _ _ _ _ _ _ _ _ _ _ _ _ _ _ _ _ _ _ _ _ _ _ _ _ _ _ _ _ _ _ _ _ _ _ _ _ _ _ _ _ _ _ _ _ _ _ _ _ _ _ _ _ _ rfl (Nat.zero_le _) (mono hO2) ?_
     intro S5 i' g0 g3 g4 g8 g9 gI gE gB gC gA gD gL gM gF gK gN gJ gH gO gP gT gQ gU gR gS gV gW gX gY gZ gh gj gk gn gr gz hH hU hY xF hZ xA xB xC xD xE xG xH xI xJ xK xL xM xN xO xP xQ xR xS xT xU xV xW xX xY xZ g72 g73 g74 g75 g76 g77 g78 g79 g80 g81 g82 g83 g84 g85 g86 g87 g88 g89 g90 g91 g92 g93 g94 g95 g96 g97 g98 g99 g100 g101 g102 g103 g104 g105 g106 g107 g108 g109 g110 g111 g112 g113 g114 g115 g116 g117 g118 g119 g120 g121 g122 g123 g124 g125 g126 g127 g128 g129 g130 g131 g132 g133 g134 hO5
     simp (maxSteps:=1000000) (disch:=first|assumption|omega|rfl) only [↓gp, gc, Nat.reduceAdd, h3]
     exact ih (i + 1) S5 C mf gf held _ _ _ _ _ _ _ _ _ _ _ _ _ _ _ _ _ _ _ _ _ _ _ _ _ _ _ _ _ _ _ _ _ _ _ _ _ _ _ _ _ _ _ _ _ _ _ _ _ _ _ _ _ _ _ _ _ _ _ _ _ _ _ _ _ _ _ _ _ _ _ _ _ _ _ _ _ _ _ _ _ _ _ _ _ _ _ _ _ _ _ _ _ _ _ _ _ _ _ _ _ _ _ _ _ _ _ _ _ _ _ _ _ _ _ _ _ _ _ _ _ _ _ _ _ _ _ _ _ _ (by omega) (by omega) hO5 hR
    by_cases b2 : s.no < 60
    case neg =>
     simp (maxSteps:=1000000) (disch:=first|assumption|omega|rfl) only [↓gp, gc, Nat.reduceAdd, hln, hix, pldA, zA, zfA, stA, ha, rA0 ha, pA0 ha, ze3, zk0, hra, zdr, zj2, hd0, hd1, z0v, hgive, bo23, hra2, ↓nb4]
     refine zfk _ _ y x c r m mk gm ah l C mf gf held D N (i + 1) hb hi hm hD hN hN60 _ N 0 _ _ _ _ _ _ _ _ _ _ _ _ _ _ _ _ _ _ _ _ _ _ _ _ _ _ _ _ _ _ _ _ _ _ _ _ _ _ _ _ _ _ _ _ _ _ _ _ _ _ _ _ _ _ _ _ _ _ _ _ _ _ _ _ _ _ _ _ _ _ _ _ _ _ _ _ _ _ _ _ _ _ _ _ _ _ _ _ _ _ _ _ _ _ _ _ _ _ _ _ _ _ _ _ _ _ _ _ _ _ _ _ _ _ _ _ _ _ _ _ _ _ _ _ _ _ _ _ _ _ rfl (Nat.zero_le _) (mono hO2) ?_
     intro S5 i' g0 g3 g4 g8 g9 gI gE gB gC gA gD gL gM gF gK gN gJ gH gO gP gT gQ gU gR gS gV gW gX gY gZ gh gj gk gn gr gz hH hU hY xF hZ xA xB xC xD xE xG xH xI xJ xK xL xM xN xO xP xQ xR xS xT xU xV xW xX xY xZ g72 g73 g74 g75 g76 g77 g78 g79 g80 g81 g82 g83 g84 g85 g86 g87 g88 g89 g90 g91 g92 g93 g94 g95 g96 g97 g98 g99 g100 g101 g102 g103 g104 g105 g106 g107 g108 g109 g110 g111 g112 g113 g114 g115 g116 g117 g118 g119 g120 g121 g122 g123 g124 g125 g126 g127 g128 g129 g130 g131 g132 g133 g134 hO5
     simp (maxSteps:=1000000) (disch:=first|assumption|omega|rfl) only [↓gp, gc, Nat.reduceAdd, h3]
     exact ih (i + 1) S5 C mf gf held _ _ _ _ _ _ _ _ _ _ _ _ _ _ _ _ _ _ _ _ _ _ _ _ _ _ _ _ _ _ _ _ _ _ _ _ _ _ _ _ _ _ _ _ _ _ _ _ _ _ _ _ _ _ _ _ _ _ _ _ _ _ _ _ _ _ _ _ _ _ _ _ _ _ _ _ _ _ _ _ _ _ _ _ _ _ _ _ _ _ _ _ _ _ _ _ _ _ _ _ _ _ _ _ _ _ _ _ _ _ _ _ _ _ _ _ _ _ _ _ _ _ _ _ _ _ _ _ _ _ (by omega) (by omega) hO5 hR
    obtain ⟨no, hno⟩ : ∃ no : Nat, s.no = no := ⟨s.no.toNat, by omega⟩
    rw [hno] at hg hgive
    have hl1 : qT Tryz.prog 3 1 (some (.d (encStpA s))) = some (.d (.int .i64 (no : Int))) := by rw [zj2, hno]
    have hnh : no < held.length := by rw [hO.hl]; omega
    have hheld : held[no] = false := by
     rw [hO.eq no hnh]
     by_cases hdn : D ≤ no ∧ no < N
     ·rw [decide_eq_true hdn, Bool.true_and]
      cases hh : hasB (C.see 1) no with
      | false => rfl
      | true =>
       refine absurd ⟨⟨by omega, by omega⟩, ?_⟩ hg
       unfold z2g
       rw [decide_eq_true ⟨by omega, by omega⟩, Bool.true_and, z82 (by omega)]
       exact hh
     ·rw [decide_eq_false hdn, Bool.false_and]
    have hia := fun S => ia60 (S := S) (j := ah) (x := 0) (i := no) (by omega)
    have hrh := zD (e := 37) hO2.hh
    have hlh : kF Tryz.prog S2 4 (.ref ah 0 no) = some (.d (.bool false)) := by rw [(zG hrh).trans (zg9 hnh), hheld]
    have hmin := fun S => min_le (S := S) (a := (no : Int)) (b := 59) (by omega)
    have hmax := fun S => max_le (S := S) (a := 0) (b := (no : Int)) (by omega)
    simp (maxSteps:=1000000) (disch:=first|assumption|omega|rfl) only [↓gp, gc, Nat.reduceAdd, hln, hix, pldA, zA, zfA, stA, ha, rA0 ha, pA0 ha, ze3, zk0, hra, zdr, hl1, hd0, hd1, z0v, hgive, bo23, hra2, hmin, hmax, hia, hlh, ↓nb4]
    refine zfk _ _ y x c r m mk gm ah l C mf gf held D N (i + 1) hb hi hm hD hN hN60 _ N 0 _ _ _ _ _ _ _ _ _ _ _ _ _ _ _ _ _ _ _ _ _ _ _ _ _ _ _ _ _ _ _ _ _ _ _ _ _ _ _ _ _ _ _ _ _ _ _ _ _ _ _ _ _ _ _ _ _ _ _ _ _ _ _ _ _ _ _ _ _ _ _ _ _ _ _ _ _ _ _ _ _ _ _ _ _ _ _ _ _ _ _ _ _ _ _ _ _ _ _ _ _ _ _ _ _ _ _ _ _ _ _ _ _ _ _ _ _ _ _ _ _ _ _ _ _ _ _ _ _ _ rfl (Nat.zero_le _) (mono hO2) ?_
    intro S5 i' g0 g3 g4 g8 g9 gI gE gB gC gA gD gL gM gF gK gN gJ gH gO gP gT gQ gU gR gS gV gW gX gY gZ gh gj gk gn gr gz hH hU hY xF hZ xA xB xC xD xE xG xH xI xJ xK xL xM xN xO xP xQ xR xS xT xU xV xW xX xY xZ g72 g73 g74 g75 g76 g77 g78 g79 g80 g81 g82 g83 g84 g85 g86 g87 g88 g89 g90 g91 g92 g93 g94 g95 g96 g97 g98 g99 g100 g101 g102 g103 g104 g105 g106 g107 g108 g109 g110 g111 g112 g113 g114 g115 g116 g117 g118 g119 g120 g121 g122 g123 g124 g125 g126 g127 g128 g129 g130 g131 g132 g133 g134 hO5
    simp (maxSteps:=1000000) (disch:=first|assumption|omega|rfl) only [↓gp, gc, Nat.reduceAdd, h3]
    exact ih (i + 1) S5 C mf gf held _ _ _ _ _ _ _ _ _ _ _ _ _ _ _ _ _ _ _ _ _ _ _ _ _ _ _ _ _ _ _ _ _ _ _ _ _ _ _ _ _ _ _ _ _ _ _ _ _ _ _ _ _ _ _ _ _ _ _ _ _ _ _ _ _ _ _ _ _ _ _ _ _ _ _ _ _ _ _ _ _ _ _ _ _ _ _ _ _ _ _ _ _ _ _ _ _ _ _ _ _ _ _ _ _ _ _ _ _ _ _ _ _ _ _ _ _ _ _ _ _ _ _ _ _ _ _ _ _ _ (by omega) (by omega) hO5 hR
  have hd1 := zqe d1
  by_cases d2 : s.do_ = 2
  ·have hd2 := zps d2
   have hst := fun {ops base K ws cs i dst T} => jC (ops := ops) (base := base) (K := K) (ws := ws) (cs := cs) (i := i) (dst := dst) (T := T) rfl (zdt _ y x gm hO1.al.hy)
   have hch := fun {ops base K ws cs i dst T} => jC (ops := ops) (base := base) (K := K) (ws := ws) (cs := cs) (i := i) (dst := dst) (T := T) rfl (zbz _ x c mk l.blocks l.inodes l.merge 0 hO1.al.sp.hx)
   obtain ⟨o, S2, ⟨hF2, rfl, C', hC', hfs⟩, hE2⟩ := qF (zqw _ c r m C hO1.al.sp.ca s.no)
   have hfl := fun {ops base K ws cs i dst T} => jC (ops := ops) (base := base) (K := K) (ws := ws) (cs := cs) (i := i) (dst := dst) (T := T) rfl hE2
   obtain ⟨f1, f2, f3⟩ := zek hok hfs
   have hO2 : OnceP S2 y x c r m mk gm ah l C' mf gf held D N (i + 1) := ⟨hO1.al.frC hF2 hC' f1, hF2.row hO1.h0 rfl, hF2.row hO1.hh rfl, hO.hl, by omega, fun no h => by rw [f3 1 hn1]; exact hO.eq no h⟩
   simp (maxSteps:=1000000) (disch:=first|assumption|omega|rfl) only [↓gp, gc, Nat.reduceAdd, hln, hix, pldA, zA, zfA, stA, ha, rA0 ha, pA0 ha, ze3, hra, zdr, hd0, hd1, hd2]
   have hl1 := (zG hra).trans (zj2 (s := s))
   refine qX (is := [0, 3, 4, 1, 2, 5]) (h := 0) (by kernel_rfl) (by kernel_rfl) ?_
   simp (maxSteps:=1000000) (disch:=first|assumption|omega|rfl) only [List.replicate_zero, eq_self, gw, ga, Nat.reduceAdd, ↓gq, vso, List.append_nil, zk0, hra, zj2, hst, bo24, hch, bo25, hfl, bo26]
   refine ⟨qE rfl (by kernel_rfl) rfl (vB hl1) z3b zZ, qE rfl (by kernel_rfl) rfl (vB hl1) z3b zZ, zS (by kernel_rfl) zZ, by kernel_rfl, ?_⟩
   simp (maxSteps:=1000000) (disch:=first|assumption|omega|rfl) only [↓gp, gc, Nat.reduceAdd]
   refine zfk _ _ y x c r m mk gm ah l C' mf gf held D N (i + 1) hb hi hm hD hN hN60 _ N 0 _ _ _ _ _ _ _ _ _ _ _ _ _ _ _ _ _ _ _ _ _ _ _ _ _ _ _ _ _ _ _ _ _ _ _ _ _ _ _ _ _ _ _ _ _ _ _ _ _ _ _ _ _ _ _ _ _ _ _ _ _ _ _ _ _ _ _ _ _ _ _ _ _ _ _ _ _ _ _ _ _ _ _ _ _ _ _ _ _ _ _ _ _ _ _ _ _ _ _ _ _ _ _ _ _ _ _ _ _ _ _ _ _ _ _ _ _ _ _ _ _ _ _ _ _ _ _ _ _ _ rfl (Nat.zero_le _) hO2 ?_
   intro S5 i' g0 g3 g4 g8 g9 gI gE gB gC gA gD gL gM gF gK gN gJ gH gO gP gT gQ gU gR gS gV gW gX gY gZ gh gj gk gn gr gz hH hU hY xF hZ xA xB xC xD xE xG xH xI xJ xK xL xM xN xO xP xQ xR xS xT xU xV xW xX xY xZ g72 g73 g74 g75 g76 g77 g78 g79 g80 g81 g82 g83 g84 g85 g86 g87 g88 g89 g90 g91 g92 g93 g94 g95 g96 g97 g98 g99 g100 g101 g102 g103 g104 g105 g106 g107 g108 g109 g110 g111 g112 g113 g114 g115 g116 g117 g118 g119 g120 g121 g122 g123 g124 g125 g126 g127 g128 g129 g130 g131 g132 g133 g134 hO5
   simp (maxSteps:=1000000) (disch:=first|assumption|omega|rfl) only [↓gp, gc, Nat.reduceAdd, h3]
   exact ih (i + 1) S5 C' mf gf held _ _ _ _ _ _ _ _ _ _ _ _ _ _ _ _ _ _ _ _ _ _ _ _ _ _ _ _ _ _ _ _ _ _ _ _ _ _ _ _ _ _ _ _ _ _ _ _ _ _ _ _ _ _ _ _ _ _ _ _ _ _ _ _ _ _ _ _ _ _ _ _ _ _ _ _ _ _ _ _ _ _ _ _ _ _ _ _ _ _ _ _ _ _ _ _ _ _ _ _ _ _ _ _ _ _ _ _ _ _ _ _ _ _ _ _ _ _ _ _ _ _ _ _ _ _ _ _ _ _ (by omega) (by omega) hO5 hR
  have hd2 := zqe d2
  simp (maxSteps:=1000000) (disch:=first|assumption|omega|rfl) only [↓gp, gc, Nat.reduceAdd, hln, hix, pldA, zA, zfA, stA, ha, rA0 ha, pA0 ha, ze3, ztl, hra, zdr, zst, hd0, hd1, hd2]
  refine zfk _ _ y x c r m mk gm ah l C mf gf held D N (i + 1) hb hi hm hD hN hN60 _ N 0 _ _ _ _ _ _ _ _ _ _ _ _ _ _ _ _ _ _ _ _ _ _ _ _ _ _ _ _ _ _ _ _ _ _ _ _ _ _ _ _ _ _ _ _ _ _ _ _ _ _ _ _ _ _ _ _ _ _ _ _ _ _ _ _ _ _ _ _ _ _ _ _ _ _ _ _ _ _ _ _ _ _ _ _ _ _ _ _ _ _ _ _ _ _ _ _ _ _ _ _ _ _ _ _ _ _ _ _ _ _ _ _ _ _ _ _ _ _ _ _ _ _ _ _ _ _ _ _ _ _ rfl (Nat.zero_le _) (mono hO1) ?_
  intro S5 i' g0 g3 g4 g8 g9 gI gE gB gC gA gD gL gM gF gK gN gJ gH gO gP gT gQ gU gR gS gV gW gX gY gZ gh gj gk gn gr gz hH hU hY xF hZ xA xB xC xD xE xG xH xI xJ xK xL xM xN xO xP xQ xR xS xT xU xV xW xX xY xZ g72 g73 g74 g75 g76 g77 g78 g79 g80 g81 g82 g83 g84 g85 g86 g87 g88 g89 g90 g91 g92 g93 g94 g95 g96 g97 g98 g99 g100 g101 g102 g103 g104 g105 g106 g107 g108 g109 g110 g111 g112 g113 g114 g115 g116 g117 g118 g119 g120 g121 g122 g123 g124 g125 g126 g127 g128 g129 g130 g131 g132 g133 g134 hO5
  simp (maxSteps:=1000000) (disch:=first|assumption|omega|rfl) only [↓gp, gc, Nat.reduceAdd, h3]
  exact ih (i + 1) S5 C mf gf held _ _ _ _ _ _ _ _ _ _ _ _ _ _ _ _ _ _ _ _ _ _ _ _ _ _ _ _ _ _ _ _ _ _ _ _ _ _ _ _ _ _ _ _ _ _ _ _ _ _ _ _ _ _ _ _ _ _ _ _ _ _ _ _ _ _ _ _ _ _ _ _ _ _ _ _ _ _ _ _ _ _ _ _ _ _ _ _ _ _ _ _ _ _ _ _ _ _ _ _ _ _ _ _ _ _ _ _ _ _ _ _ _ _ _ _ _ _ _ _ _ _ _ _ _ _ _ _ _ _ (by omega) (by omega) hO5 hR
theorem zlk {i : Nat} : hasB (zK 256) i = false := by
 unfold hasB
 have h : (zK 256).getD (i / 8) 0 = 0 := by
  unfold zK
  rw [List.getD_eq_getElem?_getD, List.getElem?_replicate]
  split <;> rfl
 rw [h]
 simp
theorem zg6 {i : Nat} : ∀ {k : Nat}, k ≤ 2048 → hasB (mapB k) i = decide (i < k)
 | 0, _ => by
  have : mapB 0 = zK 256 := rfl
  rw [this, zlk]; simp
 | k + 1, h => by
  have e : zdo (mapB k) k = z1h (mapB k) k true := rfl
  rw [zkx, e, zbm (z0z k) (by omega), zg6 (k := k) (by omega)]
  by_cases hi : i = k
  ·rw [if_pos hi]; simp; omega
  ·rw [if_neg hi]
   by_cases h2 : i < k
   ·rw [decide_eq_true h2, decide_eq_true (by omega)]
   ·rw [decide_eq_false h2, decide_eq_false (by omega)]
theorem z1u {ops : Array Oper} {dst : Option Tmp} {k : List Oper} {T : List V} {S : zB} {F : Dfs} {Q : Post} : WpR cfg ops dst k T S F Q (some (.enter 17 [])) = WpL cfg ops k (putT T dst (.d (.bool true))) S F Q := qA (ds := []) rfl zeo
theorem zuk {l : Lay} (hm : MayL l) (h60 : l.blocks ≤ 60) (hM : 0 ≤ l.merge ∧ l.merge < 18446744073709551616) : ∃ B I M K : Nat, l = ⟨(B : Int), (I : Int), (M : Int)⟩ ∧ 2 + l.inodes.tdiv 8 = ((2 + K : Nat) : Int) ∧ B ≤ 60 ∧ I ≤ 128 ∧ 8 ≤ I ∧ M < 18446744073709551616 ∧ K ≤ 16 ∧ 2 + K < B ∧ 2 + I / 8 ≤ B := by
 obtain ⟨m1, m2, m3, m4, m5, m6⟩ := hm
 have htd : l.inodes.tdiv 8 = l.inodes / 8 := Int.tdiv_eq_ediv_of_nonneg (by omega)
 have htm : l.inodes.tmod 8 = l.inodes % 8 := Int.tmod_eq_emod_of_nonneg (by omega)
 rw [htd] at m6
 rw [htm] at m5
 refine ⟨l.blocks.toNat, l.inodes.toNat, l.merge.toNat, (l.inodes / 8).toNat, ?_, by rw [htd]; omega, by omega, by omega, by omega, by omega, by omega, by omega, by omega⟩
 cases l
 simp only [Lay.mk.injEq]
 simp only at m1 m3 hM
 omega
theorem once_ok (l : Lay) (hb : InB l.blocks) (hi : InB l.inodes) (hM : 0 ≤ l.merge ∧ l.merge < 18446744073709551616) (steps : List StpA) : Ev cfg 4 [encLay l, .sl (steps.map encStpA)] (.ret (.d (.bool true))) := by
 have hc := fun {ops dst k T S F Q} => zff (ops := ops) (dst := dst) (k := k) (T := T) (S := S) (F := F) (Q := Q) hb hi
 have hln := fun S => lnA (S := S) (l := steps)
 refine kD rfl rfl q22 ?_
 show Wp cfg (Tryz.f4.body.getD .skip) ((.d (encLay l)) :: (.d (.sl (steps.map encStpA))) :: uZ (uZ (uZ (uZ (uZ (uZ (uZ (uZ (uZ (uZ (uZ (uZ (uZ ((.tup []) :: (.tup []) :: (.tup []) :: [])))))))))))))) [] [] _
 unfold uZ
 conv => arg 2; whnf
 by_cases hs : MayL l ∧ l.blocks ≤ 60
 ·rw [decide_eq_true hs] at hc
  by_cases hst : (steps.length : Int) > 24
  ·simp (maxSteps:=1000000) (disch:=first|assumption|omega|rfl) only [↓gp, gc, Nat.reduceAdd, lr32, hc, bo16, jG, Bool.not_true, hln, z1u, bo17, zN]
   exact zP rfl rfl rfl
  ·obtain ⟨hm, h60⟩ := hs
   obtain ⟨B, I, M, K, hl, hK, hB, hI, hI8, hMM, hK16, hKB, hIB⟩ := zuk hm h60 hM
   obtain ⟨o, S1, ⟨hK1, y, x, c, r, m, mk, gm, rfl, h1, h2, h3, h4, h5⟩, hE⟩ := qF (zch [.row [.d (encLay l)] 32] l B I M K hl (by omega) hI hMM hm hK hK16 hKB)
   have hE := fun {ops dst k T F Q} => zH (ops := ops) (dst := dst) (l := k) (T := T) (F := F) (Q := Q) rfl hE
   have hA1 := (zaq h1 h2 h3 h4 h5).keep (Keep.refl.app (S' := S1) (l := [.row [z0p (List.replicate 60 false)] 37]))
   generalize ha : S1.length = a
   simp (maxSteps:=1000000) (disch:=first|assumption|omega|rfl) only [↓gp, gc, Nat.reduceAdd, lr32, hc, bo16, jG, Bool.not_true, hln, hE, bo18, z9z, z60, zf60, ha]
   have hBl : l.blocks = (B : Int) := by rw [hl]
   refine q05 steps (by omega) y x c r m mk gm a l (2 + K) B hb hi hm hK hBl (by omega) _ steps.length 0 _ (C0 B I M K) (fun _ => none) (fun _ => none) (List.replicate 60 false) _ _ _ _ _ _ _ _ _ _ _ _ _ _ _ _ _ _ _ _ _ _ _ _ _ _ _ _ _ _ _ _ _ _ _ _ _ _ _ _ _ _ _ _ _ _ _ _ _ _ _ _ _ _ _ _ _ _ _ _ _ _ _ _ _ _ _ _ _ _ _ _ _ _ _ _ _ _ _ _ _ _ _ _ _ _ _ _ _ _ _ _ _ _ _ _ _ _ _ _ _ _ _ _ _ _ _ _ _ _ _ _ _ _ _ _ _ _ _ _ _ _ _ _ _ _ _ _ _ _ rfl (Nat.zero_le _) ⟨hA1, Keep.app hK1 _ _ rfl, by rw [List.getElem?_append_right (by omega), ha, Nat.sub_self]; rfl, rfl, Nat.zero_le _, ?_⟩ ?_
   ·intro no h
    rw [List.getElem_replicate, zjm (by omega)]
    have e : finB B I M K 1 = mapB (2 + K) := rfl
    rw [e, zg6 (by omega)]
    by_cases hd : 2 + K ≤ no ∧ no < B
    ·rw [decide_eq_true hd, decide_eq_false (by omega)]; rfl
    ·rw [decide_eq_false hd]; rfl
   ·intro S4 i' g0 g3 g4 g8 g9 gI gE gG gB gC gA gD gL gM gF gK gN gJ gH gO gP gT gQ gU gR gS gV gW gX gY gZ gh gj gk gn gr gz hH hU hY xF hZ xA xB xC xD xE xG xH xI xJ xK xL xM xN xO xP xQ xR xS xT xU xV xW xX xY xZ g72 g73 g74 g75 g76 g77 g78 g79 g80 g81 g82 g83 g84 g85 g86 g87 g88 g89 g90 g91 g92 g93 g94 g95 g96 g97 g98 g99 g100 g101 g102 g103 g104 g105 g106 g107 g108 g109 g110 g111 g112 g113 g114 g115 g116 g117 g118 g119 g120 g121 g122 g123 g124 g125 g126 g127 g128 g129 g130 g131 g132 g133 g134
    simp (maxSteps:=1000000) (disch:=first|assumption|omega|rfl) only [↓gp, gc, Nat.reduceAdd, z1u, bo17]
    exact zP rfl rfl rfl
 ·rw [decide_eq_false hs] at hc
  simp (maxSteps:=1000000) (disch:=first|assumption|omega|rfl) only [↓gp, gc, Nat.reduceAdd, lr32, hc, bo16, jG, Bool.not_false, z1u, bo17]
  exact zP rfl rfl rfl
theorem extZ_ok : z64 cfg := by
 intro f g h ds o ho
 cases h
theorem catchZ_ok : zbd cfg := fun f post h => by cases h
end Go.Proofs.YtobgdmgldagjkaaGreat
end
section
namespace Go.Vm
open Go.ChangeShapes Go.RowKit
inductive Ty where
 | bool
 | int (k : IntKind)
 | str
 | sl (e : Ty)
 | agg (fs : List Ty)
 deriving Inhabited
def Ty.isAgg : Ty → Bool | .agg _ => true | _ => false
def Ty.cells : Ty → List Ty | .agg fs => fs | .bool => [.bool] | .int k => [.int k] | .str => [.str] | .sl e => [.sl e]
def z10 (P : Program) (g : TypeId → Option Ty) : List Field → Nat → Option (List Ty)
 | [], _ => some []
 | f :: r, off => match g f.type with
  | some x => if f.offset = off ∧ P.cellsOf f.type = x.cells.length then match z10 P g r (off + x.cells.length) with
   | some l => some (x.cells ++ l)
   | none => none
   else none
  | none => none
def ofType (P : Program) : Nat → TypeId → Option Ty
 | 0, _ => none
 | n + 1, t => match P.underlying t with
  | some .bool => some .bool
  | some (.int k) => some (.int k)
  | some .string => some .str
  | some (.slice e) => match ofType P n e with
   | some x => if P.cellsOf e = x.cells.length ∧ x.cells.length ≠ 0 then some (.sl x) else none
   | none => none
  | some (.struct fs) => match z10 P (ofType P n) fs.toList 0 with
   | some l => if P.cellsOf t = l.length then some (.agg l) else none
   | none => none
  | some (.array m e) => match ofType P n e with
   | some x => if P.cellsOf e = x.cells.length ∧ P.cellsOf t = m * x.cells.length then some (.agg (List.replicate m x.cells).flatten) else none
   | none => none
  | _ => none
mutual
def HasTy : Ty → D → Prop
 | .bool, x => ∃ b, x = .bool b
 | .int k, x => ∃ n, x = .int k n ∧ k.min ≤ n ∧ n ≤ k.max
 | .str, x => ∃ s, x = .str s ∧ s.length ≤ maxLen
 | .sl e, x => ∃ xs, x = .sl xs ∧ xs.length ≤ maxLen ∧ ∀ y ∈ xs, HasTy e y
 | .agg fs, x => ∃ xs, x = .agg xs ∧ HasL fs xs
def HasL : List Ty → List D → Prop
 | [], xs => xs = []
 | t :: ts, xs => ∃ y r, xs = y :: r ∧ HasTy t y ∧ HasL ts r
end
theorem zd9 {t : Ty} {x : D} (h : HasTy t x) : x.isAgg = t.isAgg := by
 cases t <;> simp only [HasTy] at h <;> obtain ⟨_, rfl, _⟩ := h <;> rfl
theorem z4k : ∀ {ts us : List Ty} {xs ys : List D}, HasL ts xs → HasL us ys → HasL (ts ++ us) (xs ++ ys)
 | [], us, xs, ys, h, h' => by simp only [HasL] at h; subst h; exact h'
 | t :: ts, us, xs, ys, h, h' => by
  simp only [HasL] at h
  obtain ⟨y, r, rfl, h1, h2⟩ := h
  simp only [List.cons_append, HasL]
  exact ⟨y, r ++ ys, rfl, h1, z4k h2 h'⟩
theorem z9m {t : Ty} {x : D} (h : HasTy t x) : HasL t.cells x.cells := by
 cases t with
 | agg fs => simp only [HasTy] at h; obtain ⟨xs, rfl, h⟩ := h; exact h
 | _ =>
  have h' := h
  simp only [HasTy] at h
  obtain ⟨_, rfl, _⟩ := h
  simp only [Ty.cells, D.cells, HasL]
  exact ⟨_, [], rfl, h', rfl⟩
section
variable {P : Program} {H : Type} {enc : TypeId × Value → H} {w : World}
theorem z9r {α β : Type} {f : α → Option β} {x : α} {r : List α} {ys : List β} (h : (x :: r).mapM f = some ys) : ∃ y zs, f x = some y ∧ r.mapM f = some zs ∧ ys = y :: zs := by
 rw [List.mapM_cons] at h
 cases h1 : f x with
 | none => simp [h1] at h
 | some y =>
  cases h2 : r.mapM f with
  | none => simp [h1, h2] at h
  | some zs => simp [h1, h2] at h; exact ⟨y, zs, rfl, rfl, h.symm⟩
theorem zbl {α β : Type} {f : α → Option β} {ys : List β} (h : ([] : List α).mapM f = some ys) : ys = [] := by simpa using h.symm
theorem cells?_spec {base : Nat} {a : Addr} {n : Nat} {us : List Value} (h : w.cells? base a n = some us) : us.length = n ∧ ∀ j v, us[j]? = some v → w.cell? (a.add j) = some v := by
 unfold World.cells? at h
 split at h
 ·have key : ∀ (m s : Nat) (us : List Value), (List.range' s m).mapM (fun i => w.cell? (a.add i)) = some us → us.length = m ∧ ∀ j v, us[j]? = some v → w.cell? (a.add (s + j)) = some v := by
   intro m
   induction m with
   | zero => intro s us h; have := zbl h; subst this; exact ⟨rfl, fun j v h => by simp at h⟩
   | succ m ih =>
    intro s us h
    rw [List.range'_succ] at h
    obtain ⟨y, zs, h1, h2, rfl⟩ := z9r h
    obtain ⟨g1, g2⟩ := ih (s + 1) zs h2
    refine ⟨by simp [g1], fun j v hj => ?_⟩
    cases j with
    | zero => simp at hj; subst hj; exact h1
    | succ j => simp at hj; have := g2 j v hj; rw [show s + (j + 1) = s + 1 + j by omega]; exact this
  rw [List.range_eq_range'] at h
  obtain ⟨g1, g2⟩ := key n 0 us h
  exact ⟨g1, fun j v hj => by simpa using g2 j v hj⟩
 ·cases h
theorem zhw {a : Addr} {us : List Value} (hne : us ≠ []) (h : ∀ j v, us[j]? = some v → w.cell? (a.add j) = some v) : a.spot = none ∧ a.block < w.heap.size ∧ CellsAt w a.block a.off us := by
 have h0 : ∃ v, us[0]? = some v := by cases us with | nil => exact absurd rfl hne | cons x r => exact ⟨x, rfl⟩
 obtain ⟨v, hv⟩ := h0
 have := h 0 v hv
 rw [Addr.add_zero'] at this
 unfold World.cell? at this
 cases hb : w.heap[a.block]? with
 | none => simp [hb] at this
 | some o =>
  cases o with
  | cells c e f =>
   simp only [hb] at this
   split at this
   ·cases this
   ·rename_i hs
    refine ⟨by simpa using hs, kH hb, c, e, f, hb, fun j v hj => ?_⟩
    have := h j v hj
    unfold World.cell? at this
    have hbl : (a.add j).block = a.block := by unfold Addr.add; split <;> rfl
    have hoff : (a.add j).off = a.off + j := by unfold Addr.add; split <;> simp_all
    simp only [hbl, hb] at this
    split at this
    ·cases this
    ·rw [hoff] at this; exact this
  | _ => simp [hb] at this
theorem zdf (a : Addr) (m n : Nat) : (a.add m).add n = a.add (m + n) := by
 unfold Addr.add
 by_cases h : m = 0 <;> by_cases h' : n = 0 <;> simp [h, h', Nat.add_assoc]
abbrev Old (w : World) (b : Nat) : Prop := b < w.heap.size
theorem z2i {A : Nat → Prop} : ∀ {xs ys : List D} {us vs : List Value}, RepL A w xs us → RepL A w ys vs → RepL A w (xs ++ ys) (us ++ vs)
 | [], ys, us, vs, h, h' => by simp only [RepL] at h; subst h; exact h'
 | x :: r, ys, us, vs, h, h' => by
  simp only [RepL] at h
  obtain ⟨v, us', rfl, h1, h2, h3⟩ := h
  simp only [List.cons_append, RepL]
  exact ⟨v, us' ++ vs, rfl, h1, h2, z2i h3 h'⟩
theorem zam {base : Nat} {spare : Nat → Bool} {held : Bool} {g : TypeId → Option Ty} {cs : List Value} {fu : Nat} (ih : ∀ {t : TypeId} {cs : List Value} {z : DataW H × List MemPlace} {T : Ty}, DataW.trod enc P w base spare held fu t cs = some z → g t = some T → ∃ x, HasTy T x ∧ RepC (Old w) w x cs) :
  ∀ {l : List Field} {off : Nat} {ts : List Ty}, z10 P g l off = some ts → (∀ f ∈ l, ∃ z, DataW.trod enc P w base spare held fu f.type ((cs.drop f.offset).take (P.cellsOf f.type)) = some z) → ∃ xs, HasL ts xs ∧ RepL (Old w) w xs ((cs.drop off).take ts.length)
 | [], off, ts, h, _ => by
  simp only [z10, Option.some.injEq] at h; subst h
  exact ⟨[], rfl, by simp [RepL]⟩
 | f :: r, off, ts, h, hz => by
  simp only [z10] at h
  cases hg : g f.type with
  | none => simp [hg] at h
  | some T =>
   simp only [hg] at h
   split at h
   ·rename_i hc
    obtain ⟨rfl, hc2⟩ := hc
    cases hr : z10 P g r (f.offset + T.cells.length) with
    | none => simp [hr] at h
    | some l =>
     simp only [hr, Option.some.injEq] at h; subst h
     obtain ⟨z, hz1⟩ := hz f (by simp)
     obtain ⟨x, hx, hrx⟩ := ih hz1 hg
     obtain ⟨xs, h1, h2⟩ := zam ih hr (fun f' hf' => hz f' (by simp [hf']))
     refine ⟨x.cells ++ xs, z4k (z9m hx) h1, ?_⟩
     have e : (cs.drop f.offset).take (T.cells ++ l).length = (cs.drop f.offset).take (P.cellsOf f.type) ++ (cs.drop (f.offset + T.cells.length)).take l.length := by
      rw [List.length_append, List.take_add, hc2, List.drop_drop]
     rw [e]
     exact z2i (wL hrx) h2
   ·cases h
theorem zq7 {base : Nat} {spare : Nat → Bool} {held : Bool} : ∀ (n : Nat) (fuel : Nat) {t : TypeId} {cs : List Value} {z : DataW H × List MemPlace} {T : Ty}, DataW.trod enc P w base spare held fuel t cs = some z → ofType P n t = some T → ∃ x, HasTy T x ∧ RepC (Old w) w x cs := by
 intro n
 induction n with
 | zero => intro fuel t cs z T h hT; simp [ofType] at hT
 | succ n ih =>
  intro fuel t cs z T h hT
  simp only [ofType] at hT
  cases hu : P.underlying t with
  | none => simp [hu] at hT
  | some td =>
   simp only [hu] at hT
   cases td with
   | bool =>
    simp only [Option.some.injEq] at hT; subst hT
    obtain ⟨b, rfl, _⟩ := DataW.trod_bool hu h
    exact ⟨.bool b, ⟨b, rfl⟩, by simp [RepC]⟩
   | int k =>
    simp only [Option.some.injEq] at hT; subst hT
    obtain ⟨m, rfl, _, hwf⟩ := DataW.trod_int hu h
    exact ⟨.int k m, ⟨m, rfl, by simpa [Lit.wf] using hwf⟩, by simp [RepC]⟩
   | string =>
    simp only [Option.some.injEq] at hT; subst hT
    obtain ⟨s, rfl, _, hl⟩ := DataW.trod_string hu h
    exact ⟨.str s.data.toList, ⟨_, rfl, hl⟩, by simp [RepC]⟩
   | slice e =>
    simp only at hT
    cases he : ofType P n e with
    | none => simp [he] at hT
    | some E =>
     simp only [he] at hT
     split at hT
     ·rename_i hc
      obtain ⟨hc, hne⟩ := hc
      simp only [Option.some.injEq] at hT; subst hT
      rcases Go.Deep.open_slice hu h with ⟨rfl, _⟩ | ⟨a, len, cap, m, fu, D0, Pl, rfl, _, hle, hcap, hm, _, hel⟩
      ·refine ⟨.sl [], ⟨[], rfl, by simp, by simp⟩, ?_⟩
       simp only [RepC]
       exact ⟨none, 0, rfl, Nat.le_refl _, .inl trivial⟩
      ·have hlm : len ≤ m := by rw [hm]; split <;> omega
       rw [hc] at hel
       have key : ∀ (l s : Nat), s + l ≤ m → ∃ xs us, xs.length = l ∧ us.length = l * E.cells.length ∧ (∀ y ∈ xs, HasTy E y) ∧ RepE (Old w) w E.cells.length xs us ∧ ∀ j v, us[j]? = some v → w.cell? (a.add (s * E.cells.length + j)) = some v := by
        intro l
        induction l with
        | zero => intro s _; exact ⟨[], [], rfl, by simp, by simp, by simp [RepE], fun j v h => by simp at h⟩
        | succ l ihl =>
         intro s hs
         obtain ⟨cs', g1, g2⟩ := hel s (by omega)
         obtain ⟨x, hx, hr⟩ := ih fu g2 he
         obtain ⟨k1, k2⟩ := cells?_spec g1
         obtain ⟨xs, us, f1, f2, f3, f4, f5⟩ := ihl (s + 1) (by omega)
         refine ⟨x :: xs, cs' ++ us, by simp [f1], by simp [k1, f2, Nat.succ_mul]; omega, fun y hy => ?_, ?_, fun j v hj => ?_⟩
         ·rcases List.mem_cons.1 hy with rfl | hy
          ·exact hx
          ·exact f3 y hy
         ·simp only [RepE]
          exact ⟨cs', us, rfl, k1, hr, f4⟩
         ·rw [List.getElem?_append] at hj
          split at hj
          ·have := k2 j v hj
           rwa [zdf] at this
          ·rename_i hlt
           have := f5 _ v hj
           rw [show s * E.cells.length + j = (s + 1) * E.cells.length + (j - cs'.length) by rw [Nat.succ_mul]; omega]
           exact this
       obtain ⟨xs, us, f1, f2, f3, f4, f5⟩ := key len 0 (by omega)
       refine ⟨.sl xs, ⟨xs, rfl, by omega, f3⟩, ?_⟩
       simp only [RepC]
       refine ⟨some a, cap, by rw [f1], by omega, ?_⟩
       by_cases h0 : xs = []
       ·exact .inl h0
       ·right
        have hne' : us ≠ [] := by
         intro hn
         rw [hn] at f2
         simp only [List.length_nil] at f2
         have : len ≠ 0 := by
          intro h00; rw [h00] at f1; exact h0 (List.length_eq_zero_iff.1 f1)
         have := Nat.mul_ne_zero this hne
         omega
        obtain ⟨c1, c2, c3⟩ := zhw hne' (fun j v hj => by simpa using f5 j v hj)
        exact ⟨a, _, us, rfl, c1, c2, c3, f4⟩
     ·cases hT
   | struct fs =>
    simp only at hT
    cases hf : z10 P (ofType P n) fs.toList 0 with
    | none => simp [hf] at hT
    | some l =>
     simp only [hf] at hT
     split at hT
     ·rename_i hc
      simp only [Option.some.injEq] at hT; subst hT
      obtain ⟨xs, fu, _, _, hl, hxl, hel⟩ := DataW.trod_struct hu h
      obtain ⟨ys, h1, h2⟩ := zam (fun a b => ih fu a b) hf (fun f hf' => by
       obtain ⟨i, hi⟩ := List.getElem?_of_mem hf'
       have hi' : fs[i]? = some f := by simpa using hi
       have := hel i f hi'
       have hlt : i < xs.length := by
        rw [hxl]
        rcases Nat.lt_or_ge i fs.size with h' | h'
        ·exact h'
        ·simp [h'] at hi'
       exact ⟨xs[i], by rw [this]; simp [hlt]⟩)
      refine ⟨.agg ys, ⟨ys, rfl, h1⟩, ?_⟩
      simp only [RepC]
      rw [List.drop_zero, List.take_of_length_le (by omega)] at h2
      exact h2
     ·cases hT
   | array m e =>
    simp only at hT
    cases he : ofType P n e with
    | none => simp [he] at hT
    | some E =>
     simp only [he] at hT
     split at hT
     ·rename_i hc
      obtain ⟨hc, hc2⟩ := hc
      simp only [Option.some.injEq] at hT; subst hT
      obtain ⟨xs, fu, _, _, hl, hxl, hel⟩ := DataW.trod_array hu h
      rw [hc] at hel
      have key : ∀ (l s : Nat), s + l ≤ m → ∃ ys, HasL (List.replicate l E.cells).flatten ys ∧ RepL (Old w) w ys ((cs.drop (s * E.cells.length)).take (l * E.cells.length)) := by
       intro l
       induction l with
       | zero => intro s _; exact ⟨[], by simp [HasL], by simp [RepL]⟩
       | succ l ihl =>
        intro s hs
        have hlt : s < xs.length := by omega
        have h0 := hel s (by omega)
        rw [List.getElem?_eq_getElem hlt] at h0
        obtain ⟨x, hx, hr⟩ := ih fu h0 he
        obtain ⟨ys, f1, f2⟩ := ihl (s + 1) (by omega)
        refine ⟨x.cells ++ ys, by rw [List.replicate_succ, List.flatten_cons]; exact z4k (z9m hx) f1, ?_⟩
        have e : (cs.drop (s * E.cells.length)).take ((l + 1) * E.cells.length) = (cs.drop (s * E.cells.length)).take E.cells.length ++ (cs.drop ((s + 1) * E.cells.length)).take (l * E.cells.length) := by
         rw [Nat.succ_mul, Nat.add_comm (l * _), List.take_add, List.drop_drop, Nat.succ_mul]
        rw [e]
        exact z2i (wL hr) f2
      obtain ⟨ys, f1, f2⟩ := key m 0 (by omega)
      refine ⟨.agg ys, ⟨ys, rfl, f1⟩, ?_⟩
      simp only [RepC]
      rw [Nat.zero_mul, List.drop_zero, List.take_of_length_le (by omega)] at f2
      exact f2
     ·cases hT
   | _ => simp at hT
def zjp (P : Program) (n : Nat) : List TypeId → Option (List Ty) := allO (ofType P n)
theorem zj5 {r : Reach} {base : Nat} {t : TypeId} {v : Value} {n : Nat} {T : Ty} (hT : ofType P n t = some T) (hok : Value.okWide P w r base t v) : (T.isAgg = true ∧ ∃ us, v = .agg us) ∨ (T.isAgg = false ∧ v.cells = #[v]) := by
 cases n with
 | zero => simp [ofType] at hT
 | succ n =>
  simp only [ofType] at hT
  unfold Value.okWide at hok
  cases hu : P.underlying t with
  | none => simp [hu] at hT
  | some td =>
   simp only [hu] at hT hok
   cases td with
   | bool =>
    simp only [Option.some.injEq] at hT; subst hT
    refine .inr ⟨rfl, ?_⟩
    simp only [Cell.okWide, hu] at hok
    cases v <;> simp_all [Cell.ok, Value.cells]
   | int k =>
    simp only [Option.some.injEq] at hT; subst hT
    refine .inr ⟨rfl, ?_⟩
    simp only [Cell.okWide, hu] at hok
    cases v <;> simp_all [Cell.ok, Value.cells]
   | string =>
    simp only [Option.some.injEq] at hT; subst hT
    refine .inr ⟨rfl, ?_⟩
    simp only [Cell.okWide, hu] at hok
    cases v <;> simp_all [Cell.ok, Value.cells]
   | slice e =>
    simp only at hT
    cases he : ofType P n e with
    | none => simp [he] at hT
    | some E =>
     simp only [he] at hT
     split at hT
     ·simp only [Option.some.injEq] at hT; subst hT
      refine .inr ⟨rfl, ?_⟩
      simp only [Cell.okWide, hu] at hok
      cases v <;> simp_all [Cell.ok, Value.cells]
     ·cases hT
   | struct fs =>
    simp only at hT
    cases hf : z10 P (ofType P n) fs.toList 0 with
    | none => simp [hf] at hT
    | some l =>
     simp only [hf] at hT
     split at hT
     ·simp only [Option.some.injEq] at hT; subst hT
      obtain ⟨cs, h, _⟩ := hok
      exact .inl ⟨rfl, cs, h⟩
     ·cases hT
   | array m e =>
    simp only at hT
    cases he : ofType P n e with
    | none => simp [he] at hT
    | some E =>
     simp only [he] at hT
     split at hT
     ·simp only [Option.some.injEq] at hT; subst hT
      obtain ⟨cs, h, _⟩ := hok
      exact .inl ⟨rfl, cs, h⟩
     ·cases hT
   | _ => simp at hT
theorem open_all {base : Nat} {spare : Nat → Bool} {held : Bool} {r : Reach} {b0 : Nat} {n : Nat} : ∀ {ts : List TypeId} {vs : List Value} {ds : List (DataW H)} {ps : List MemPlace} {Ts : List Ty}, DataW.TrodAll enc P w base spare held ts vs ds ps → zjp P n ts = some Ts →
  (∀ (j : Nat) t v, ts[j]? = some t → vs[j]? = some v → Value.okWide P w r b0 t v) → ∃ xs, HasL Ts xs ∧ RepS (Old w) w xs vs
 | [], vs, ds, ps, Ts, h, hT, _ => by
  simp only [zjp, allO, Option.some.injEq] at hT; subst hT
  cases vs with
  | nil => exact ⟨[], rfl, by simp [RepS]⟩
  | cons v vs => cases ds <;> simp [DataW.TrodAll] at h
 | t :: ts, vs, ds, ps, Ts, h, hT, hok => by
  obtain ⟨T, Ts', h1, h2, rfl⟩ := wQ hT
  cases vs with
  | nil => simp [DataW.TrodAll] at h
  | cons v vs =>
   cases ds with
   | nil => simp [DataW.TrodAll] at h
   | cons d ds =>
    obtain ⟨p, q, ⟨fu, hd⟩, hr, rfl⟩ := h
    obtain ⟨x, hx, hrx⟩ := zq7 n fu hd h1
    obtain ⟨xs, g1, g2⟩ := open_all hr h2 (fun j t v hj hv => hok (j + 1) t v (by simpa using hj) (by simpa using hv))
    refine ⟨x :: xs, by simp only [HasL]; exact ⟨x, xs, rfl, hx, g1⟩, ?_⟩
    simp only [RepS]
    refine ⟨v, vs, rfl, ?_, g2⟩
    rcases zj5 h1 (hok 0 t v (by simp) (by simp)) with ⟨e1, us, rfl⟩ | ⟨e1, e2⟩
    ·exact .inl ⟨by rw [zd9 hx, e1], us, rfl, by simpa [Value.cells] using hrx⟩
    ·exact .inr ⟨by rw [zd9 hx, e1], by rw [e2] at hrx; simpa using hrx⟩
theorem trodAll_len {base : Nat} {spare : Nat → Bool} {held : Bool} : ∀ {ts : List TypeId} {vs : List Value} {ds : List (DataW H)} {ps : List MemPlace}, DataW.TrodAll enc P w base spare held ts vs ds ps → ds.length = ts.length
 | [], vs, ds, ps, h => by
  cases vs <;> cases ds <;> simp_all [DataW.TrodAll]
 | t :: ts, vs, ds, ps, h => by
  cases vs with
  | nil => simp [DataW.TrodAll] at h
  | cons v vs =>
   cases ds with
   | nil => simp [DataW.TrodAll] at h
   | cons d ds =>
    obtain ⟨p, q, _, hr, rfl⟩ := h
    simp [trodAll_len hr]
theorem trodVars_nil {T : List String} {gs : List (DataW H)} {q : List MemPlace} {own : Nat → Bool} (hT : T = []) (h : DataW.TrodVars enc P w own T gs q) : gs = [] := by
 subst hT
 cases gs with
 | nil => rfl
 | cons g gs => simp [DataW.TrodVars] at h
theorem zdy {W W' : World} (hl : laidOutB P = true) (hb : Below W.heap.size W W') : ∀ {ts : List TypeId} {vs : List Value} {ds : List (DataW H)} {ps : List MemPlace}, (ts.all fun t => P.readableRec t && decide (t < P.types.size)) = true → DataW.TrodAll enc P W 0 (fun _ => true) true ts vs ds ps → (∀ x ∈ ps, x.block < W.heap.size) → DataW.TrodAll enc P W' 0 (fun b => decide (b < W.heap.size)) true ts vs ds ps
 | [], vs, ds, ps, _, h, _ => by
  cases vs <;> cases ds <;> simp_all [DataW.TrodAll]
 | t :: ts, vs, ds, ps, hr, h, hlt => by
  simp only [List.all_cons, Bool.and_eq_true, decide_eq_true_eq] at hr
  cases vs with
  | nil => simp [DataW.TrodAll] at h
  | cons v vs =>
   cases ds with
   | nil => simp [DataW.TrodAll] at h
   | cons d ds =>
    obtain ⟨p, q, hd, hrest, rfl⟩ := h
    exact ⟨p, q, Below.trod hl hr.1.1 hr.1.2 hd hb (fun x hx => hlt x (by simp [hx])), zdy hl hb (by simpa using hr.2) hrest (fun x hx => hlt x (by simp [hx])), rfl⟩
theorem law_post {f : Func} {s : ChangeSpec} {apart : Bool} {W W' : World} {args : Array Value} {ds gs : List (DataW H)} {before : List MemPlace} {t : TypeId} (hl : laidOutB P = true) (hread : (f.params.toList.all fun t => P.readableRec t && decide (t < P.types.size)) = true)
  (hW : DataW.Whole enc P f.params.toList s.vars apart W args.toList ds gs before) (hv : s.vars = []) (hres : f.resultTypes = #[t]) (hu : P.underlying t = some .bool)
  (hfn : s.fn H (ds ++ gs) = { results := [.lit (.bool true)], args := ds }) (hb : Below W.heap.size W W') : s.post enc P f apart true false false W args (.bool true) W' := by
 have hlt : ∀ x ∈ before, x.block < W.heap.size := fun x hx => by simpa using hW.lt x hx
 have hW0 := hW
 obtain ⟨p, q, hA, hV, rfl, hz, hn⟩ := hW
 refine ⟨ds, gs, p ++ q, [], p, q, hW0, ?_, ?_, ?_, hb.frame _, fun h => by cases h⟩
 ·rw [hfn, hres]
  exact trodAll_mk1 (shut_bool hu true)
 ·rw [hfn]
  exact zdy hl hb hread hA (fun x hx => hlt x (by simp [hx]))
 ·rw [hfn]
  rw [hv] at hV ⊢
  cases gs with
  | nil => exact hV
  | cons g gs => simp [DataW.TrodVars] at hV
theorem law_calls {C : Cfg} (hext : z64 C) (hcatch : zbd C) {n : Nat} {f : FuncId} {xs : List D} {args : Array Value} {W : World} (hrun : runD C n f xs = some (.ret (.d (.bool true)))) (hr : RepS (Old W) W xs args.toList) (hgl : GlobOk C.P (Old W) W) :
  Calls C.P f args W fun e W' => e = .returned (.bool true) ∧ Below W.heap.size W W' := by
 obtain ⟨o', ho, hcalls⟩ := zt7 hext hcatch n f xs _ hrun
 have ho' : o' = .ret (.bool true) := by
  cases o' with
  | ret x => simp only [OutD.out, Out.ret.injEq, V.d.injEq] at ho; rw [ho]
  | tup xs => simp [OutD.out] at ho
  | pan x => simp [OutD.out] at ho
 subst ho'
 refine (hcalls (Old W) W args (fun b hb => hb) hgl hr).mono fun e W' he => ?_
 cases e with
 | returned v =>
  obtain ⟨A', h1, h2⟩ := he
  have h2 := (zF rfl).1 h2
  simp only [RepC, List.cons.injEq, and_true] at h2
  exact ⟨by rw [h2], h1.os, h1.tape, h1.output, h1.size, h1.old⟩
 | panicked c => obtain ⟨x, v, h, _⟩ := he; cases h
 | outgrown => exact he.elim
end
end Go.Vm
end
