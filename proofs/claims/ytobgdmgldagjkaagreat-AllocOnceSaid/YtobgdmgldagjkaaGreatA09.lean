/- ready.index, put: maps that tell numbers; a number is put into a list that rises. -/
import Derived.Test.YtobgdmgldagjkaaGreatA08
set_option linter.unusedVariables false
set_option linter.unusedSimpArgs false
set_option maxRecDepth 100000
set_option maxHeartbeats 4000000
set_option linter.defProp false
section
namespace Go.Proofs.YtobgdmgldagjkaaGreat
open Go.Vm
theorem zsm : IK Tryz.prog 186 3 3 (.d (.int .i64 0)) := ⟨by kernel_rfl, fun _ _ => rfl, fun _ => by kernel_rfl, z3⟩
def MG (S : zB) (m : Nat) (g : Int → Int) : Prop := ∃ f, MpI S m f ∧ ∀ n, (f n).getD (.d (.int .i64 0)) = .d (.int .i64 (g n))
def updG (g : Int → Int) (k v : Int) : Int → Int := fun x => if x = k then v else g x
section
variable {S S' : zB} {m : Nat} {g : Int → Int}
theorem MG.keep (h : MG S m g) (hk : Keep S S') : MG S' m g := by
 obtain ⟨f, h1, h2⟩ := h
 exact ⟨f, hk.map h1, h2⟩
theorem MG.nil {c : Nat} (h : S[m]? = some (.mp [] c)) : MG S m (fun _ => 0) := ⟨_, MpI.nil h, fun _ => rfl⟩
theorem MG.look (h : MG S m g) (x : Int) : wI Tryz.prog S 186 (.mr m) (.d (.int .i64 x)) false = some (.d (.int .i64 (g x))) := by
 obtain ⟨f, h1, h2⟩ := h
 rw [(h1.look zsm x).2, h2 x]
theorem MG.put (h : MG S m g) (x k : Int) : ∃ o, jX Tryz.prog S 186 (.mr m) (.d (.int .i64 x)) (.d (.int .i64 k)) = some (S.set m o) ∧ MG (S.set m o) m (updG g x k) ∧ (∃ es c, o = .mp es c) := by
 obtain ⟨f, h1, h2⟩ := h
 obtain ⟨o, a, b, c⟩ := h1.put zsm x (v := .d (.int .i64 k)) rfl
 refine ⟨o, a, ⟨_, b, fun n => ?_⟩, c⟩
 unfold updI updG
 by_cases e : n = x
 ·rw [if_pos e, if_pos e]; rfl
 ·rw [if_neg e, if_neg e]; exact h2 n
theorem MG.del (h : MG S m g) (x : Int) : ∃ o, z0b Tryz.prog S 186 (.mr m) (.d (.int .i64 x)) = some (S.set m o) ∧ MG (S.set m o) m (updG g x 0) ∧ (∃ es c, o = .mp es c) := by
 obtain ⟨f, h1, h2⟩ := h
 obtain ⟨o, a, b, c⟩ := h1.del zsm x
 refine ⟨o, a, ⟨_, b, fun n => ?_⟩, c⟩
 unfold updI updG
 by_cases e : n = x
 ·rw [if_pos e, if_pos e]; rfl
 ·rw [if_neg e, if_neg e]; exact h2 n
end
theorem zt5 (S0 : zB) (L : V) (es : List V) (l : List Chg) (hL : OwnS S0 L 80 es) (hl : ChgsV S0 es l) (hes : es.length ≤ 1000000) (mm : Nat) (hmm : S0.length ≤ mm) (R : Post) :
 ∀ (k i : Nat) (S : zB) (g : Int → Int) (g0 g1 g2 g4 g5 g6 gI gE gG gB gC gA gD gL gM gF gK : V), l.length - i = k → i ≤ l.length → Keep S0 S → MG S mm g → (∀ n, g n ≠ 0 ↔ ∃ ch ∈ l.take i, ch.id = n) →
 (∀ S' g' i' g0 g1 g2 g4 g5 g6 gI gE gG gB gC gA gD gL gM gF gK, Keep S0 S' → MG S' mm g' → (∀ n, g' n ≠ 0 ↔ ∃ ch ∈ l, ch.id = n) → R (.exit 0) (g0 :: g1 :: g2 :: (.mr mm) :: g4 :: g5 :: g6 :: L :: (.d (.int .i64 (l.length : Int))) :: i' :: gI :: gE :: gG :: gB :: gC :: gA :: gD :: gL :: gM :: gF :: gK :: []) S' []) →
 Wp cfg (.loop (lpOf (Tryz.f159.body.getD .skip) 0)) (g0 :: g1 :: g2 :: (.mr mm) :: g4 :: g5 :: g6 :: L :: (.d (.int .i64 (l.length : Int))) :: (.d (.int .i64 (i : Int))) :: gI :: gE :: gG :: gB :: gC :: gA :: gD :: gL :: gM :: gF :: gK :: []) S [] R := by
 intro k
 have hll := hl.1
 induction k with
 | zero =>
  intro i S g g0 g1 g2 g4 g5 g6 gI gE gG gB gC gA gD gL gM gF gK hk hi hK hm hg hR
  have hie : i = l.length := by omega
  subst hie
  rw [List.take_length] at hg
  rw [zR]
  refine zL ?_
  conv => arg 2; whnf
  simp (maxSteps:=1000000) (disch:=first|assumption|omega|rfl) only [↓gp, gc, Nat.reduceAdd]
  exact hR _ _ _ _ _ _ _ _ _ _ _ _ _ _ _ _ _ _ _ _ hK hm hg
 | succ k ih =>
  intro i S g g0 g1 g2 g4 g5 g6 gI gE gG gB gC gA gD gL gM gF gK hk hi hK hm hg hR
  have hlt : i < l.length := by omega
  have hlt2 : i < es.length := by omega
  obtain ⟨id', hix, hre, _⟩ := wH u119 s122 (hK.own hL) hlt2
  obtain ⟨dv, nv, he, hd5, hn3⟩ := hl.2 i es[i] l[i] (List.getElem?_eq_getElem hlt2) (List.getElem?_eq_getElem hlt)
  rw [he] at hre
  have h3 : IntKind.i64.wrap ((i : Int) + 1) = ((i + 1 : Nat) : Int) := by rw [wrap64 (by omega)]; omega
  have hm1 : MG (S ++ [.row [.agg [.d (.int .i64 l[i].id), .d (.int .i64 l[i].no), .d (.int .i64 l[i].at_), dv, nv]] 80]) mm g := hm.keep Keep.refl.app
  obtain ⟨o, ho, hm2, _⟩ := hm1.put l[i].id ((i + 1 : Nat) : Int)
  generalize ha : S.length = a
  rw [zR]
  refine zL ?_
  conv => arg 2; whnf
  simp (maxSteps:=1000000) (disch:=first|assumption|omega|rfl) only [↓gp, gc, Nat.reduceAdd, hix, hre, z2c, z122, z2d, z3s, ha, rA0 ha, pA0 ha, z0u, z0l, h3, ho]
  refine ih (i + 1) _ _ _ _ _ _ _ _ _ _ _ _ _ _ _ _ _ _ _ (by omega) (by omega) ((Keep.app hK).set hmm) hm2 ?_ hR
  intro n
  rw [kT hlt]
  unfold updG
  by_cases e : n = l[i].id
  ·rw [if_pos e]
   exact ⟨fun _ => ⟨l[i], List.mem_append_right _ (List.mem_singleton.2 rfl), e.symm⟩, fun _ => by omega⟩
  ·rw [if_neg e, hg n]
   constructor
   ·exact fun ⟨ch, h1, h2⟩ => ⟨ch, List.mem_append_left _ h1, h2⟩
   ·rintro ⟨ch, h1, h2⟩
    rcases List.mem_append.1 h1 with h1 | h1
    ·exact ⟨ch, h1, h2⟩
    ·simp only [List.mem_singleton] at h1
     subst h1
     exact absurd h2.symm e
theorem zgz (S : zB) (L : V) (es : List V) (l : List Chg) (hL : OwnS S L 80 es) (hl : ChgsV S es l) (hes : es.length ≤ 1000000) : EvS cfg 159 [L] S (fun o S' => Keep S S' ∧ ∃ m g, o = .ret (.mr m) ∧ S.length ≤ m ∧ MG S' m g ∧ ∀ n, g n ≠ 0 ↔ ∃ ch ∈ l, ch.id = n) := by
 refine qH rfl zu3 ?_
 show Wp cfg (Tryz.f159.body.getD .skip) (L :: uZ (uZ [])) S [] _
 unfold uZ
 conv => arg 2; whnf
 rw [zR]
 have hln : ∀ s, zO Tryz.prog (S ++ s) .len [74] [L] = some (.val (.d (.int .i64 (l.length : Int))) (S ++ s) 0) := fun s => by rw [wC u119 ((Keep.refl.app (l := s)).own hL), hl.1]
 simp (maxSteps:=1000000) (disch:=first|assumption|omega|rfl) only [↓gp, gc, Nat.reduceAdd, ↓z1g, hln]
 refine zt5 S L es l hL hl hes S.length (Nat.le_refl _) _ l.length 0 _ (fun _ => 0) _ _ _ _ _ _ _ _ _ _ _ _ _ _ _ _ _ rfl (Nat.zero_le _) Keep.refl.app (MG.nil (c := 0) (by rw [List.getElem?_append_right (Nat.le_refl _), Nat.sub_self]; rfl)) (fun n => by simp) ?_
 intro S' g' i' g0 g1 g2 g4 g5 g6 gI gE gG gB gC gA gD gL gM gF gK hK hm hg
 simp (maxSteps:=1000000) (disch:=first|assumption|omega|rfl) only [↓gp, gc, Nat.reduceAdd]
 exact ⟨rfl, _, rfl, hK, _, _, rfl, Nat.le_refl _, hm, hg⟩
theorem q0f (n : Int) (S : zB) (v : V) (out : List Int) (ho : OwnS S v 3 (zW out)) (hlen : out.length ≤ 300000) (R : Post) :
 ∀ (p : Nat) (g2 g3 g4 g6 g7 g8 g9 gI gE gG gB gC gA gD gL gM gF gK gN gJ gH gO gP gT gQ gU gR gS gV gW gX gY gZ gh gj gk gn gr gz hH hU hY xF hZ xA xB xC : V), p ≤ out.length → (∀ x ∈ out.drop p, n ≤ x) →
 (∀ (p' : Nat) (hp : p' ≤ out.length) g2 g3 g4 g6 g7 g8 g9 gI gE gG gB gC gA gD gL gM gF gK gN gJ gH gO gP gT gQ gU gR gS gV gW gX gY gZ gh gj gk gn gr gz hH hU hY xF hZ xA xB xC, R (.exit 0) (v :: (.d (.int .i64 n)) :: g2 :: g3 :: g4 :: (.d (.int .i64 (p' : Int))) :: g6 :: g7 :: g8 :: g9 :: gI :: gE :: gG :: gB :: gC :: gA :: gD :: gL :: gM :: gF :: gK :: gN :: gJ :: gH :: gO :: gP :: gT :: gQ :: gU :: gR :: gS :: gV :: gW :: gX :: gY :: gZ :: gh :: gj :: gk :: gn :: gr :: gz :: hH :: hU :: hY :: xF :: hZ :: xA :: xB :: xC :: []) S []) →
 Wp cfg (.loop (lpOf (Tryz.f167.body.getD .skip) 0)) (v :: (.d (.int .i64 n)) :: g2 :: g3 :: g4 :: (.d (.int .i64 (p : Int))) :: g6 :: g7 :: g8 :: g9 :: gI :: gE :: gG :: gB :: gC :: gA :: gD :: gL :: gM :: gF :: gK :: gN :: gJ :: gH :: gO :: gP :: gT :: gQ :: gU :: gR :: gS :: gV :: gW :: gX :: gY :: gZ :: gh :: gj :: gk :: gn :: gr :: gz :: hH :: hU :: hY :: xF :: hZ :: xA :: xB :: xC :: []) S [] R := by
 intro p
 induction p with
 | zero =>
  intro g2 g3 g4 g6 g7 g8 g9 gI gE gG gB gC gA gD gL gM gF gK gN gJ gH gO gP gT gQ gU gR gS gV gW gX gY gZ gh gj gk gn gr gz hH hU hY xF hZ xA xB xC hp hd hR
  rw [zR]
  refine zL ?_
  conv => arg 2; whnf
  simp only [nl0]
  simp (maxSteps:=1000000) (disch:=first|assumption|omega|rfl) only [↓gp, gc, Nat.reduceAdd]
  exact hR 0 hp _ _ _ _ _ _ _ _ _ _ _ _ _ _ _ _ _ _ _ _ _ _ _ _ _ _ _ _ _ _ _ _ _ _ _ _ _ _ _ _ _ _ _ _ _ _ _
 | succ p ih =>
  intro g2 g3 g4 g6 g7 g8 g9 gI gE gG gB gC gA gD gL gM gF gK gN gJ gH gO gP gT gQ gU gR gS gV gW gX gY gZ gh gj gk gn gr gz hH hU hY xF hZ xA xB xC hp hd hR
  have hlt : p < out.length := by omega
  obtain ⟨id, hix, hre, _⟩ := wH Tryz.underlying22 s3z ho (i := p) (by rw [qC]; exact hlt)
  have hre : rowE S id p = some (.d (.int .i64 out[p])) := by rw [hre]; simp [zW]
  have hs : IntKind.i64.wrap (((p + 1 : Nat) : Int) - 1) = (p : Int) := by rw [wrap64 (by omega)]; omega
  have hpos : ((p + 1 : Nat) : Int) > 0 := by omega
  rw [zR]
  refine zL ?_
  conv => arg 2; whnf
  by_cases hgt : out[p] ≥ n
  ·have hde : ∀ i' : Decidable (out[p] ≥ n), @decide (out[p] ≥ n) i' = true := fun i' => decide_eq_true hgt
   simp (maxSteps:=1000000) (disch:=first|assumption|omega|rfl) only [↓gp, gc, Nat.reduceAdd, hs, hix, hre, ld3r, hde]
   refine ih _ _ _ _ _ _ _ _ _ _ _ _ _ _ _ _ _ _ _ _ _ _ _ _ _ _ _ _ _ _ _ _ _ _ _ _ _ _ _ _ _ _ _ _ _ _ _ (by omega) ?_ hR
   intro x hx
   rw [List.drop_eq_getElem_cons hlt] at hx
   rcases List.mem_cons.1 hx with rfl | hx
   ·exact hgt
   ·exact hd x hx
  ·have hde : ∀ i' : Decidable (out[p] ≥ n), @decide (out[p] ≥ n) i' = false := fun i' => decide_eq_false hgt
   simp (maxSteps:=1000000) (disch:=first|assumption|omega|rfl) only [↓gp, gc, Nat.reduceAdd, hs, hix, hre, ld3r, hde]
   exact hR (p + 1) hp _ _ _ _ _ _ _ _ _ _ _ _ _ _ _ _ _ _ _ _ _ _ _ _ _ _ _ _ _ _ _ _ _ _ _ _ _ _ _ _ _ _ _ _ _ _ _
theorem zgf (S : zB) (v : V) (out : List Int) (n : Int) (ho2 : OwnS S v 3 (zW out)) (hlen : out.length ≤ 300000) : EvS cfg 167 [v, .d (.int .i64 n)] S (fun o S' => S.length ≤ S'.length ∧ (∀ j q, S[j]? = some q → NotAt v j → S'[j]? = some q) ∧ ∃ v' out', o = .ret v' ∧ OwnS S' v' 3 (zW out') ∧ (∀ j, j < S.length → NotAt v j → NotAt v' j) ∧ (∀ x, x ∈ out' ↔ x ∈ out ∨ x = n) ∧ out'.length ≤ out.length + 1) := by
 refine qH rfl zs3 ?_
 show Wp cfg (Tryz.f167.body.getD .skip) (v :: (.d (.int .i64 n)) :: uZ (uZ (uZ (uZ ((.tup []) :: (.tup []) :: (.tup []) :: (.tup []) :: (.tup []) :: (.tup []) :: (.tup []) :: (.tup []) :: []))))) S [] _
 unfold uZ
 conv => arg 2; whnf
 rw [zR]
 have hln : zO Tryz.prog S .len [22] [v] = some (.val (.d (.int .i64 (out.length : Int))) S 0) := by rw [wC Tryz.underlying22 ho2, qC]
 simp (maxSteps:=1000000) (disch:=first|assumption|omega|rfl) only [↓gp, gc, Nat.reduceAdd, hln]
 refine q0f n S v out ho2 hlen _ out.length _ _ _ _ _ _ _ _ _ _ _ _ _ _ _ _ _ _ _ _ _ _ _ _ _ _ _ _ _ _ _ _ _ _ _ _ _ _ _ _ _ _ _ _ _ _ _ (Nat.le_refl _) (by simp) ?_
 intro p hp g2 g3 g4 g6 g7 g8 g9 gI gE gG gB gC gA gD gL gM gF gK gN gJ gH gO gP gT gQ gU gR gS gV gW gX gY gZ gh gj gk gn gr gz hH hU hY xF hZ xA xB xC
 have hv1 := qL ho2
 by_cases heq : ∃ h : p < out.length, out[p] = n
 ·obtain ⟨hp0, heq⟩ := heq
  obtain ⟨id2, hix2, hre2, _⟩ := wH Tryz.underlying22 s3z ho2 (i := p) (by rw [qC]; omega)
  have hre2 : rowE S id2 p = some (.d (.int .i64 n)) := by rw [hre2]; simp [zW, heq]
  have hpl : (p : Int) < (out.length : Int) := by omega
  simp (maxSteps:=1000000) (disch:=first|assumption|omega|rfl) only [↓gp, gc, Nat.reduceAdd, hln, hix2, hre2, ld3r, zN]
  exact ⟨rfl, _, rfl, Nat.le_refl _, fun j q h _ => h, v, out, rfl, ho2, fun j _ h => h, fun x => ⟨.inl, fun h => h.elim id (fun e => e ▸ heq ▸ List.getElem_mem _)⟩, by omega⟩
 ·obtain ⟨v', S3, cst, hap, ho3, hfr, hlen3⟩ := ap22 0 ho2 (by omega)
  have hos : OwnS S3 v' 3 (zW out ++ [.d (.int .i64 0)]) := by
   have : (out ++ [0]).map (fun x => V.d (D.int .i64 x)) = zW out ++ [.d (.int .i64 0)] := by unfold zW; simp
   rw [← this]; exact ho3
  have hfit : ∀ x ∈ zW out ++ [.d (.int .i64 0)], qB Tryz.prog 3 x = true := by
   intro x hx
   rcases List.mem_append.1 hx with hx | hx
   ·obtain ⟨y, _, rfl⟩ := List.mem_map.1 hx
    exact z8a y
   ·simp only [List.mem_singleton] at hx
    subst hx
    exact z8a 0
  obtain ⟨id3, hv', hrow, hs1, hs2, hcp⟩ := zlo (k := p) Tryz.underlying22 s3z hfit hos (by rw [qC]; exact hp) i46
  rw [qC] at hs1 hs2 hcp hv'
  subst hv'
  have hw1 : IntKind.i64.wrap ((p : Int) + 1) = ((p + 1 : Nat) : Int) := by rw [wrap64 (by omega)]; omega
  have hil := zQ hrow
  generalize hX : (zW out ++ [V.d (D.int .i64 0)]).take (p + 1) ++ (zW out).drop p = X at hcp
  have hXl : X.length = out.length + 1 := by rw [← hX]; simp [zW]; omega
  have hXe : ∀ y ∈ X, ∃ a : Int, y = .d (.int .i64 a) := by
   intro y hy
   rw [← hX] at hy
   rcases List.mem_append.1 hy with hy | hy
   ·rcases List.mem_append.1 (List.mem_of_mem_take hy) with hy | hy
    ·obtain ⟨a, _, rfl⟩ := List.mem_map.1 hy; exact ⟨a, rfl⟩
    ·simp only [List.mem_singleton] at hy; exact ⟨0, hy⟩
   ·obtain ⟨a, _, rfl⟩ := List.mem_map.1 (List.mem_of_mem_drop hy); exact ⟨a, rfl⟩
  have hXs : X.set p (.d (.int .i64 n)) = zW (out.take p ++ n :: out.drop p) := by
   rw [← hX, zlf (by rw [qC]; exact hp)]
   unfold zW
   simp [List.map_take, List.map_drop]
  have hrow4 : (S3.set id3 (.row X 3))[id3]? = some (.row X 3) := List.getElem?_set_self hil
  obtain ⟨id4, hix4, hre4, _⟩ := wH (i := p) Tryz.underlying22 s3z (show OwnS (S3.set id3 (.row X 3)) (.rs id3 0 (out.length + 1)) 3 X from .inr ⟨id3, by rw [hXl], hrow4⟩) (by omega)
  have hid4 : id4 = id3 := by
   have h5 : rowT (S3.set id3 (.row X 3)) id3 3 = true := by simp only [rowT, hrow4, beq_self_eq_true]
   have h6 : (sz Tryz.prog 3).isSome = true := s3z
   simp only [zI, intOf?, Tryz.underlying22, h5, h6] at hix4
   rw [if_pos ⟨⟨by omega, by omega⟩, trivial, trivial⟩] at hix4
   simp only [Option.some.injEq, V.ref.injEq] at hix4
   exact hix4.1.symm
  subst hid4
  obtain ⟨a4, ha4⟩ := hXe X[p] (List.getElem_mem _)
  rw [ha4] at hre4
  have hst4 : ∀ b : Int, vJ Tryz.prog (S3.set id4 (.row X 3)) 3 (.ref id4 p 0) (.d (.int .i64 b)) = z3y (S3.set id4 (.row X 3)) id4 p (some (.d (.int .i64 b))) := fun b => by rw [z1l hre4, st3]
  have hp4 : ∀ y, jQ (S3.set id4 (.row X 3)) id4 p y = some (S3.set id4 (.row (X.set p y) 3)) := fun y => by
   simp only [jQ, hrow4, List.set_set]
  have fin : ∀ (o : Out), o = .ret (.rs id4 0 (out.length + 1)) → S.length ≤ (S3.set id4 (.row (X.set p (.d (.int .i64 n))) 3)).length ∧ (∀ j q, S[j]? = some q → NotAt v j → (S3.set id4 (.row (X.set p (.d (.int .i64 n))) 3))[j]? = some q) ∧ ∃ v' out', o = .ret v' ∧ OwnS (S3.set id4 (.row (X.set p (.d (.int .i64 n))) 3)) v' 3 (zW out') ∧ (∀ j, j < S.length → NotAt v j → NotAt v' j) ∧ (∀ x, x ∈ out' ↔ x ∈ out ∨ x = n) ∧ out'.length ≤ out.length + 1 := by
   intro o ho
   refine ⟨by rw [List.length_set]; exact hlen3, fun j q hj hn => ?_, _, out.take p ++ n :: out.drop p, ho, ?_, fun j hj hn => ?_, fun x => zk9, ?_⟩
   ·obtain ⟨h1, h2⟩ := hfr j q hj hn
    rw [List.getElem?_set_ne (by rintro rfl; exact h2 _ _ rfl)]
    exact h1
   ·rw [hXs]
    exact .inr ⟨id4, by rw [qC]; simp; omega, List.getElem?_set_self hil⟩
   ·exact (hfr j _ (List.getElem?_eq_getElem hj) hn).2
   ·simp; omega
  by_cases hp0 : p < out.length
  ·obtain ⟨id2, hix2, hre2, _⟩ := wH Tryz.underlying22 s3z ho2 (i := p) (by rw [qC]; omega)
   have hre2 : rowE S id2 p = some (.d (.int .i64 out[p])) := by rw [hre2]; simp [zW]
   have hpl : (p : Int) < (out.length : Int) := by omega
   have hne : ∀ i' : Decidable (out[p] = n), @decide (out[p] = n) i' = false := fun i' => decide_eq_false (fun hh => heq ⟨hp0, hh⟩)
   simp (maxSteps:=1000000) (disch:=first|assumption|omega|rfl) only [↓gp, gc, Nat.reduceAdd, hln, hix2, hre2, ld3r, hne, zN, zq6, hap]
   refine wU (is := [0, 1, 2, 3, 4, 5, 6, 7]) (h := 0) (by kernel_rfl) (by kernel_rfl) ?_
   simp (maxSteps:=1000000) (disch:=first|assumption|omega|rfl) only [List.replicate_zero, eq_self, gd, ga, Nat.reduceAdd, ↓gq, vso, List.append_nil, Option.map_none, hw1, hs1, hs2, hcp]
   refine ⟨fun _ => by kernel_rfl, by kernel_rfl, ?_⟩
   simp (maxSteps:=1000000) (disch:=first|assumption|omega|rfl) only [↓gp, gc, Nat.reduceAdd, hix4, hst4, hp4]
   exact ⟨rfl, _, rfl, fin _ rfl⟩
  ·have hpl : ¬ (p : Int) < (out.length : Int) := by omega
   simp (maxSteps:=1000000) (disch:=first|assumption|omega|rfl) only [↓gp, gc, Nat.reduceAdd, hln, zN, zq6, hap]
   refine wU (is := [0, 1, 2, 3, 4, 5, 6, 7]) (h := 0) (by kernel_rfl) (by kernel_rfl) ?_
   simp (maxSteps:=1000000) (disch:=first|assumption|omega|rfl) only [List.replicate_zero, eq_self, gd, ga, Nat.reduceAdd, ↓gq, vso, List.append_nil, Option.map_none, hw1, hs1, hs2, hcp]
   refine ⟨fun _ => by kernel_rfl, by kernel_rfl, ?_⟩
   simp (maxSteps:=1000000) (disch:=first|assumption|omega|rfl) only [↓gp, gc, Nat.reduceAdd, hix4, hst4, hp4]
   exact ⟨rfl, _, rfl, fin _ rfl⟩
theorem zze (en : Int) (l : List Int) (hl : l.length ≤ 100000) (R : Post) : ∀ (k i : Nat) (was : Int) (S : zB) (g0 g2 g3 g4 g6 g7 gE gG gB gC gA gD gL gM gF gK gN gJ gH : V), l.length - i = k → i ≤ l.length → (l.drop i).Pairwise (· < ·) → (∀ x ∈ l.drop i, was < x ∧ x < en) →
 (∀ was' i' g0 g2 g3 g4 g6 g7 gE gG gB gC gA gD gL gM gF gK gN gJ gH, R (.exit 0) (g0 :: (.d (.int .i64 en)) :: g2 :: g3 :: g4 :: was' :: g6 :: g7 :: (.d (encI l)) :: (.d (.int .i64 (l.length : Int))) :: i' :: gE :: gG :: gB :: gC :: gA :: gD :: gL :: gM :: gF :: gK :: gN :: gJ :: gH :: []) S []) →
 Wp cfg (.loop (lpOf (Tryz.f166.body.getD .skip) 0)) (g0 :: (.d (.int .i64 en)) :: g2 :: g3 :: g4 :: (.d (.int .i64 was)) :: g6 :: g7 :: (.d (encI l)) :: (.d (.int .i64 (l.length : Int))) :: (.d (.int .i64 (i : Int))) :: gE :: gG :: gB :: gC :: gA :: gD :: gL :: gM :: gF :: gK :: gN :: gJ :: gH :: []) S [] R := by
 intro k
 induction k with
 | zero =>
  intro i was S g0 g2 g3 g4 g6 g7 gE gG gB gC gA gD gL gM gF gK gN gJ gH hk hi hp hr hR
  have hie : i = l.length := by omega
  subst hie
  rw [zR]
  refine zL ?_
  conv => arg 2; whnf
  simp (maxSteps:=1000000) (disch:=first|assumption|omega|rfl) only [↓gp, gc, Nat.reduceAdd]
  exact hR _ _ _ _ _ _ _ _ _ _ _ _ _ _ _ _ _ _ _ _ _
 | succ k ih =>
  intro i was S g0 g2 g3 g4 g6 g7 gE gG gB gC gA gD gL gM gF gK gN gJ gH hk hi hp hr hR
  have hlt : i < l.length := by omega
  have h3 : IntKind.i64.wrap ((i : Int) + 1) = ((i + 1 : Nat) : Int) := by rw [wrap64 (by omega)]; omega
  obtain ⟨q, hix, hld⟩ := IntsV.ix (S := S) (v := .d (encI l)) (.inl rfl) hlt
  rw [List.drop_eq_getElem_cons hlt] at hp hr
  rw [List.pairwise_cons] at hp
  obtain ⟨h1, h2⟩ := hr l[i] List.mem_cons_self
  have n1 : ¬ l[i] ≤ was := by omega
  have n2 : ¬ l[i] ≥ en := by omega
  rw [zR]
  refine zL ?_
  conv => arg 2; whnf
  simp (maxSteps:=1000000) (disch:=first|assumption|omega|rfl) only [↓gp, gc, Nat.reduceAdd, hix, hld, zN, h3]
  exact ih (i + 1) l[i] S _ _ _ _ _ _ _ _ _ _ _ _ _ _ _ _ _ _ _ (by omega) (by omega) hp.2 (fun x hx => ⟨hp.1 x hx, (hr x (List.mem_cons_of_mem _ hx)).2⟩) hR
theorem zs4 (en : Int) (l : List Int) (hl : l.length ≤ 100000) (hp : l.Pairwise (· < ·)) (hr : ∀ x ∈ l, 1 ≤ x ∧ x < en) : Ev cfg 166 [encI l, .int .i64 en] (.ret (.d (.bool true))) := by
 refine kD rfl rfl zuy ?_
 show Wp cfg (Tryz.f166.body.getD .skip) ((.d (encI l)) :: (.d (.int .i64 en)) :: uZ (uZ ((.tup []) :: (.tup []) :: []))) [] [] _
 unfold uZ
 conv => arg 2; whnf
 have hln : zO Tryz.prog [] .len [22] [.d (encI l)] = some (.val (.d (.int .i64 (l.length : Int))) [] 0) := IntsV.len (.inl rfl)
 simp (maxSteps:=1000000) (disch:=first|assumption|omega|rfl) only [↓gp, gc, Nat.reduceAdd, hln]
 refine zze en l hl _ l.length 0 0 [] _ _ _ _ _ _ _ _ _ _ _ _ _ _ _ _ _ _ _ rfl (Nat.zero_le _) hp (fun x hx => ⟨by have := (hr x hx).1; omega, (hr x hx).2⟩) ?_
 intro was' i' g0 g2 g3 g4 g6 g7 gE gG gB gC gA gD gL gM gF gK gN gJ gH
 simp (maxSteps:=1000000) (disch:=first|assumption|omega|rfl) only [↓gp, gc, Nat.reduceAdd]
 exact zP rfl rfl rfl
section
variable {a b c : Int} {dv nv : V}
theorem zbt : qT Tryz.prog 22 4 (some (.agg [.d (.int .i64 a), .d (.int .i64 b), .d (.int .i64 c), dv, nv])) = some nv := by kernel_rfl
theorem zbj {d x y : Nat} : zT Tryz.prog 80 3 (.ref d x y) = some (.ref d x (y + 4)) := by kernel_rfl
end
theorem zjb {ops : Array Oper} {dst : Option Tmp} {k : List Oper} {T : List V} {S : zB} {F : Dfs} {Q : Post} {nv : V} {l : List Int} {en : Int} (hn : OwnS S nv 3 (zW l)) (hl : l.length ≤ 100000) (hp : l.Pairwise (· < ·)) (hr : ∀ x ∈ l, 1 ≤ x ∧ x < en) : WpR cfg ops dst k T S F Q (some (.enter 166 [nv, .d (.int .i64 en)])) = WpL cfg ops k (putT T dst (.d (.bool true))) S F Q :=
 zj9 (ds := [encI l, .int .i64 en]) rfl (by
  have h1 : Go.Vm.frz S zJ nv = some (encI l) := zlb (by rw [List.map_map]; exact hn)
  simp only [allO, h1]; rfl) rfl (zs4 en l hl hp hr)
theorem z7y : ∀ {l : List Int} {a : Int}, l.Pairwise (· < ·) → (∀ x ∈ l, a ≤ x) → ∀ {b : Int}, (∀ x ∈ l, x < b) → a ≤ b → (l.length : Int) ≤ b - a
 | [], _, _, _, _, _, h => by simp; omega
 | x :: r, a, hp, h1, b, h2, hab => by
  rw [List.pairwise_cons] at hp
  have hx := h1 x List.mem_cons_self
  have hx2 := h2 x List.mem_cons_self
  have := z7y (a := x + 1) hp.2 (fun y hy => by have := hp.1 y hy; omega) (b := b) (fun y hy => h2 y (List.mem_cons_of_mem _ hy)) (by omega)
  rw [List.length_cons]
  omega
theorem zo0 (n last : Nat) (hlast : last ≤ 100000) (S0 : zB) (L : V) (es : List V) (l : List Chg) (hL : OwnS S0 L 80 es) (hl : ChgsV S0 es l) (hes : es.length ≤ 1000000) (hok : ∀ ch ∈ l, z6q n last ch) (hids : l.Pairwise (fun a b => a.id < b.id)) (R : Post) :
 ∀ (k i : Nat) (was : Int) (S : zB) (g0 g1 g4 g5 g9 gI gE gG gB gC gA gD gL gM gF gK gN gJ gH gO gP gT gQ gU gR gS gV gW gX gY gZ gh gj : V), l.length - i = k → i ≤ l.length → Keep S0 S → (∀ ch ∈ l.drop i, was < ch.id) →
 (∀ S' was' i' g0 g1 g4 g5 g9 gI gE gG gB gC gA gD gL gM gF gK gN gJ gH gO gP gT gQ gU gR gS gV gW gX gY gZ gh gj, Keep S0 S' → R (.exit 0) (g0 :: g1 :: (.d (.int .i64 0)) :: was' :: g4 :: g5 :: L :: (.d (.int .i64 (l.length : Int))) :: i' :: g9 :: gI :: gE :: gG :: gB :: gC :: gA :: gD :: gL :: gM :: gF :: gK :: gN :: gJ :: gH :: gO :: gP :: gT :: gQ :: gU :: gR :: gS :: gV :: gW :: gX :: gY :: gZ :: gh :: gj :: []) S' []) →
 Wp cfg (.loop (lpOf (Tryz.f158.body.getD .skip) 0)) (g0 :: g1 :: (.d (.int .i64 0)) :: (.d (.int .i64 was)) :: g4 :: g5 :: L :: (.d (.int .i64 (l.length : Int))) :: (.d (.int .i64 (i : Int))) :: g9 :: gI :: gE :: gG :: gB :: gC :: gA :: gD :: gL :: gM :: gF :: gK :: gN :: gJ :: gH :: gO :: gP :: gT :: gQ :: gU :: gR :: gS :: gV :: gW :: gX :: gY :: gZ :: gh :: gj :: []) S [] R := by
 intro k
 have hll := hl.1
 induction k with
 | zero =>
  intro i was S g0 g1 g4 g5 g9 gI gE gG gB gC gA gD gL gM gF gK gN gJ gH gO gP gT gQ gU gR gS gV gW gX gY gZ gh gj hk hi hK hw hR
  have hie : i = l.length := by omega
  subst hie
  rw [zR]
  refine zL ?_
  conv => arg 2; whnf
  simp (maxSteps:=1000000) (disch:=first|assumption|omega|rfl) only [↓gp, gc, Nat.reduceAdd]
  exact hR _ _ _ _ _ _ _ _ _ _ _ _ _ _ _ _ _ _ _ _ _ _ _ _ _ _ _ _ _ _ _ _ _ _ _ _ hK
 | succ k ih =>
  intro i was S g0 g1 g4 g5 g9 gI gE gG gB gC gA gD gL gM gF gK gN gJ gH gO gP gT gQ gU gR gS gV gW gX gY gZ gh gj hk hi hK hw hR
  have hlt : i < l.length := by omega
  have hlt2 : i < es.length := by omega
  obtain ⟨id', hix, hre, _⟩ := wH u119 s122 (hK.own hL) hlt2
  obtain ⟨dv, nv, he, hd5, hn3⟩ := hl.2 i es[i] l[i] (List.getElem?_eq_getElem hlt2) (List.getElem?_eq_getElem hlt)
  rw [he] at hre
  have h3 : IntKind.i64.wrap ((i : Int) + 1) = ((i + 1 : Nat) : Int) := by rw [wrap64 (by omega)]; omega
  obtain ⟨g1, g2, g3, g4, g5, g6, g7⟩ := hok l[i] (List.getElem_mem hlt)
  rw [List.drop_eq_getElem_cons hlt] at hw
  have hw1 := hw l[i] List.mem_cons_self
  have n1 : ¬ l[i].id ≤ was := by omega
  have n2 : ¬ l[i].no < 0 := by omega
  have hkx : Keep S0 (S ++ [.row [.agg [.d (.int .i64 l[i].id), .d (.int .i64 l[i].no), .d (.int .i64 l[i].at_), dv, nv]] 80]) := hK.app
  have hpc := fun {ops dst k T F Q} => z0i (ops := ops) (dst := dst) (k := k) (T := T) (F := F) (Q := Q) (S := S ++ [.row [.agg [.d (.int .i64 l[i].id), .d (.int .i64 l[i].no), .d (.int .i64 l[i].at_), dv, nv]] 80]) (p := .agg [.d (.int .i64 l[i].at_), dv]) (dv := dv) (a := l[i].at_) (b := l[i].data) (.inl ⟨rfl, .inl (hkx.own hd5)⟩) (by obtain ⟨_, _, q3, q4⟩ := g1; unfold InB; omega)
  rw [if_pos g1] at hpc
  have hri := fun {ops dst k T F Q} => zjb (ops := ops) (dst := dst) (k := k) (T := T) (F := F) (Q := Q) (hkx.own hn3) (en := l[i].id) (by have := z7y g6 (fun x hx => (g7 x hx).1) (fun x hx => (g7 x hx).2) (by omega); omega) g6 g7
  have hn1 := qL hn3
  have hd1 := qL hd5
  generalize ha : S.length = a
  rw [zR]
  refine zL ?_
  conv => arg 2; whnf
  simp (maxSteps:=1000000) (disch:=first|assumption|omega|rfl) only [↓gp, gc, Nat.reduceAdd, hix, hre, z2c, z122, z2d, z3s, ha, rA0 ha, pA0 ha, z0u, z0k, z0m, zbj, z0l, z0h, z25, zbt, zN, hpc, z9p, hri, q14, hn1, hd1, jG, Bool.not_true, h3]
  refine ih (i + 1) l[i].id _ _ _ _ _ _ _ _ _ _ _ _ _ _ _ _ _ _ _ _ _ _ _ _ _ _ _ _ _ _ _ _ _ _ (by omega) (by omega) hkx ?_ hR
  intro ch hch
  have := List.pairwise_iff_getElem.1 hids
  obtain ⟨j, hj, rfl⟩ := List.mem_iff_getElem.1 hch
  rw [List.getElem_drop]
  exact this i (i + 1 + j) hlt (by rw [List.length_drop] at hj; omega) (by omega)
theorem zm6 (n last : Nat) (hlast : last ≤ 100000) (S : zB) (L : V) (es : List V) (l : List Chg) (hL : OwnS S L 80 es) (hl : ChgsV S es l) (hes : es.length ≤ 1000000) (hok : ∀ ch ∈ l, z6q n last ch) (hids : l.Pairwise (fun a b => a.id < b.id)) : EvS cfg 158 [L] S (fun o S' => Keep S S' ∧ o = .ret (.d (.int .i64 0))) := by
 refine qH rfl zt3 ?_
 show Wp cfg (Tryz.f158.body.getD .skip) (L :: uZ (uZ (uZ ((.tup []) :: (.tup []) :: (.tup []) :: (.tup []) :: (.tup []) :: (.tup []) :: (.tup []) :: [])))) S [] _
 unfold uZ
 conv => arg 2; whnf
 rw [zR]
 have hln : zO Tryz.prog S .len [74] [L] = some (.val (.d (.int .i64 (l.length : Int))) S 0) := by rw [wC u119 hL, hl.1]
 simp (maxSteps:=1000000) (disch:=first|assumption|omega|rfl) only [↓gp, gc, Nat.reduceAdd, hln]
 refine zo0 n last hlast S L es l hL hl hes hok hids _ l.length 0 0 S _ _ _ _ _ _ _ _ _ _ _ _ _ _ _ _ _ _ _ _ _ _ _ _ _ _ _ _ _ _ _ _ _ rfl (Nat.zero_le _) Keep.refl (fun ch hch => by have := (hok ch (by simpa using hch)).2.2.2.1; omega) ?_
 intro S' was' i' g0 g1 g4 g5 g9 gI gE gG gB gC gA gD gL gM gF gK gN gJ gH gO gP gT gQ gU gR gS gV gW gX gY gZ gh gj hK
 simp (maxSteps:=1000000) (disch:=first|assumption|omega|rfl) only [↓gp, gc, Nat.reduceAdd]
 exact ⟨rfl, _, rfl, hK, rfl⟩
def z4d (a : Int) (x : List UInt8) (b : Int) (y : List UInt8) : Prop := a < b + y.length ∧ b < a + x.length
instance {a : Int} {x : List UInt8} {b : Int} {y : List UInt8} : Decidable (z4d a x b y) := by unfold z4d; infer_instance
theorem ztg (a : Int) (x : List UInt8) (b : Int) (y : List UInt8) (hx : kP a x) (hy : kP b y) : Ev cfg 168 [patD a x, patD b y] (.ret (.d (.bool (decide (z4d a x b y))))) := by
 refine kD rfl rfl zrv ?_
 show Wp cfg (Tryz.f168.body.getD .skip) ((.d (patD a x)) :: (.d (patD b y)) :: uZ (uZ (uZ ((.tup []) :: [])))) [] [] _
 unfold uZ
 conv => arg 2; whnf
 have x1 := hx.1
 have x2 := hx.2.1
 have x3 := hx.2.2.1
 have x4 := hx.2.2.2
 have y1 := hy.1
 have y2 := hy.2.1
 have y3 := hy.2.2.1
 have y4 := hy.2.2.2
 have c1 := fun {ops dst k T S F Q} => z0i (ops := ops) (dst := dst) (k := k) (T := T) (F := F) (Q := Q) (S := S) (p := .d (patD a x)) (dv := .d (encB x)) (a := a) (b := x) (.inr ⟨rfl, rfl⟩) (by unfold InB; omega)
 have c2 := fun {ops dst k T S F Q} => z0i (ops := ops) (dst := dst) (k := k) (T := T) (F := F) (Q := Q) (S := S) (p := .d (patD b y)) (dv := .d (encB y)) (a := b) (b := y) (.inr ⟨rfl, rfl⟩) (by unfold InB; omega)
 rw [if_pos hx] at c1
 rw [if_pos hy] at c2
 have w1 : IntKind.i64.wrap (b + (y.length : Int)) = b + y.length := wrap64 (by omega)
 have w2 : IntKind.i64.wrap (a + (x.length : Int)) = a + x.length := wrap64 (by omega)
 by_cases h1 : a < b + (y.length : Int)
 ·by_cases h2 : b < a + (x.length : Int)
  ·have e : decide (z4d a x b y) = true := decide_eq_true ⟨h1, h2⟩
   rw [e]
   simp (maxSteps:=1000000) (disch:=first|assumption|omega|rfl) only [↓gp, gc, Nat.reduceAdd, fd56, z5z, z2a, z5j, z5h, zqc, z5w, zN, c1, c2, z9p, w1, w2]
   exact zP rfl rfl rfl
  ·have e : decide (z4d a x b y) = false := decide_eq_false (fun h => h2 h.2)
   rw [e]
   simp (maxSteps:=1000000) (disch:=first|assumption|omega|rfl) only [↓gp, gc, Nat.reduceAdd, fd56, z5z, z2a, z5j, z5h, zqc, z5w, zN, c1, c2, z9p, w1, w2]
   exact zP rfl rfl rfl
 ·have e : decide (z4d a x b y) = false := decide_eq_false (fun h => h1 h.1)
  rw [e]
  simp (maxSteps:=1000000) (disch:=first|assumption|omega|rfl) only [↓gp, gc, Nat.reduceAdd, fd56, z5z, z2a, z5j, z5h, zqc, z5w, zN, c1, c2, z9p, w1, w2]
  exact zP rfl rfl rfl
section
variable {C : Cfg} {S : zB} {T : List V} {dst : Option Tmp} {ops : Array Oper} {F : Dfs} {Q : Post} {K : List Nat → List (Nat × Nat) → List V → zB → Prop} {rd : List Nat} {cs : List (Nat × Nat)} {i : Nat}
theorem q1q {f : FuncId} {args : List V} {ds : List D} {v : V} (hs : C.shared f = false) (hf : allO (Go.Vm.frz S zJ) args = some ds) (hp : z0w (.ret v) = true) (he : Ev C f ds (.ret v)) :
  WpE C ops F Q K rd cs i dst T S (some (.enter f args)) = K (i :: rd) (cs ++ [(i, 1)]) (putT T dst v) S := by
 obtain ⟨n, hc⟩ := zhe hs hf hp he
 apply propext
 constructor
 ·rintro ⟨m, v', S', c, h1, h2, h3⟩
  have := wR h1 hc
  simp only [Prod.mk.injEq] at this
  obtain ⟨h4, rfl, rfl⟩ := this
  cases h4
  exact h3
 ·exact fun h => ⟨n, _, _, _, hc, fun hh => absurd hh (by decide), h⟩
end
theorem zl1 {S : zB} {L : V} {es : List V} {k : Nat} (hL : OwnS S L 80 es) (h : k < es.length) : ∃ id, L = .rs id 0 es.length ∧ S[id]? = some (.row es 80) ∧ wN Tryz.prog S 74 L none (some (.d (.int .i64 (k : Int)))) = some (.rs id 0 k) := by
 rcases hL with ⟨rfl, rfl⟩ | ⟨id, rfl, h1⟩
 ·simp at h
 ·refine ⟨id, rfl, h1, ?_⟩
  have h3 : rowT S id 80 = true := by simp only [rowT, h1, beq_self_eq_true]
  have hb := zly (y := es.length) (d := es.length) (k := k) (by omega)
  have h4 : (sz Tryz.prog 80).isSome = true := s122
  simp only [wN, u119, hb, zc1, h3, h4, Bool.and_self, if_true, Nat.add_zero, Nat.sub_zero]
theorem zmm {S : zB} {es : List V} {id i k : Nat} (h1 : S[id]? = some (.row es 80)) (hi : i < k) : zI Tryz.prog S 74 (.rs id 0 k) (.d (.int .i64 (i : Int))) = some (.ref id i 0) := by
 have h3 : rowT S id 80 = true := by simp only [rowT, h1, beq_self_eq_true]
 have h4 : (sz Tryz.prog 80).isSome = true := s122
 simp only [zI, intOf?, u119, h3, h4]
 rw [if_pos ⟨⟨by omega, by omega⟩, trivial, trivial⟩, Nat.zero_add, Int.toNat_natCast]
theorem zrm {S : zB} {a : Int} {dv : V} {b : List UInt8} (hd : OwnS S dv 5 (bysV b)) : Go.Vm.frz S zJ (.agg [.d (.int .i64 a), dv]) = some (patD a b) := by
 have hd' : OwnS S dv 5 ((b.map byD).map .d) := by rw [List.map_map]; exact hd
 have hf := zbo (n := 9) hd'
 have h0 : Go.Vm.frz S 11 (.d (.int .i64 a)) = some (.int .i64 a) := rfl
 show (match allO (Go.Vm.frz S 11) [.d (.int .i64 a), dv] with | some ds => if ds.any D.isAgg then none else some (D.agg ds) | none => none) = _
 simp only [allO, h0, hf]
 rfl
theorem zwo (S0 : zB) (L : V) (at_ mm : Nat) (g : Int → Int) (hm : MG S0 mm g) (nv : V) (ns : List Int) (hn : OwnS S0 nv 3 (zW ns)) (hns : ns.length ≤ 100000) (R : Post) :
 ∀ (k i : Nat) (S : zB) (v7 : V) (out : List Int) (g3 g4 g5 g6 g8 g9 gI gE gG gB gC gA gF gK gN gJ gH gO gP gT gQ gU gR gS gV gW gX gY gZ gh gj gk gn gr gz hH hU hY xF hZ xA xB xC xD xE xG xH xI xJ xK xL xM xN xO xP : V), ns.length - i = k → i ≤ ns.length → Keep S0 S → (∀ j, j < S0.length → NotAt v7 j) → OwnS S v7 3 (zW out) → out.length ≤ i →
 (∀ S v7 out i' g3 g4 g5 g6 g8 g9 gI gE gG gB gC gA gF gK gN gJ gH gO gP gT gQ gU gR gS gV gW gX gY gZ gh gj gk gn gr gz hH hU hY xF hZ xA xB xC xD xE xG xH xI xJ xK xL xM xN xO xP, Keep S0 S → (∀ j, j < S0.length → NotAt v7 j) → OwnS S v7 3 (zW out) → out.length ≤ ns.length → R (.exit 0) (L :: (.d (.int .i64 (at_ : Int))) :: (.mr mm) :: g3 :: g4 :: g5 :: g6 :: v7 :: g8 :: g9 :: gI :: gE :: gG :: gB :: gC :: gA :: nv :: (.d (.int .i64 (ns.length : Int))) :: i' :: gF :: gK :: gN :: gJ :: gH :: gO :: gP :: gT :: gQ :: gU :: gR :: gS :: gV :: gW :: gX :: gY :: gZ :: gh :: gj :: gk :: gn :: gr :: gz :: hH :: hU :: hY :: xF :: hZ :: xA :: xB :: xC :: xD :: xE :: xG :: xH :: xI :: xJ :: xK :: xL :: xM :: xN :: xO :: xP :: []) S []) →
 Wp cfg (.loop (lpOf (Tryz.f160.body.getD .skip) 0)) (L :: (.d (.int .i64 (at_ : Int))) :: (.mr mm) :: g3 :: g4 :: g5 :: g6 :: v7 :: g8 :: g9 :: gI :: gE :: gG :: gB :: gC :: gA :: nv :: (.d (.int .i64 (ns.length : Int))) :: (.d (.int .i64 (i : Int))) :: gF :: gK :: gN :: gJ :: gH :: gO :: gP :: gT :: gQ :: gU :: gR :: gS :: gV :: gW :: gX :: gY :: gZ :: gh :: gj :: gk :: gn :: gr :: gz :: hH :: hU :: hY :: xF :: hZ :: xA :: xB :: xC :: xD :: xE :: xG :: xH :: xI :: xJ :: xK :: xL :: xM :: xN :: xO :: xP :: []) S [] R := by
 intro k
 induction k with
 | zero =>
  intro i S v7 out g3 g4 g5 g6 g8 g9 gI gE gG gB gC gA gF gK gN gJ gH gO gP gT gQ gU gR gS gV gW gX gY gZ gh gj gk gn gr gz hH hU hY xF hZ xA xB xC xD xE xG xH xI xJ xK xL xM xN xO xP hk hi hK hN ho hol hR
  have hie : i = ns.length := by omega
  subst hie
  rw [zR]
  refine zL ?_
  conv => arg 2; whnf
  simp (maxSteps:=1000000) (disch:=first|assumption|omega|rfl) only [↓gp, gc, Nat.reduceAdd]
  exact hR _ _ _ _ _ _ _ _ _ _ _ _ _ _ _ _ _ _ _ _ _ _ _ _ _ _ _ _ _ _ _ _ _ _ _ _ _ _ _ _ _ _ _ _ _ _ _ _ _ _ _ _ _ _ _ _ _ _ _ hK hN ho hol
 | succ k ih =>
  intro i S v7 out g3 g4 g5 g6 g8 g9 gI gE gG gB gC gA gF gK gN gJ gH gO gP gT gQ gU gR gS gV gW gX gY gZ gh gj gk gn gr gz hH hU hY xF hZ xA xB xC xD xE xG xH xI xJ xK xL xM xN xO xP hk hi hK hN ho hol hR
  have hlt : i < ns.length := by omega
  have h3 : IntKind.i64.wrap ((i : Int) + 1) = ((i + 1 : Nat) : Int) := by rw [wrap64 (by omega)]; omega
  obtain ⟨id, hix, hre, _⟩ := wH Tryz.underlying22 s3z (hK.own hn) (i := i) (by rw [qC]; exact hlt)
  have hre : rowE S id i = some (.d (.int .i64 ns[i])) := by rw [hre]; simp [zW]
  have hlk := (hm.keep hK).look ns[i]
  have ho1 := qL ho
  rw [zR]
  refine zL ?_
  conv => arg 2; whnf
  by_cases hg : g ns[i] = 0
  ·simp (maxSteps:=1000000) (disch:=first|assumption|omega|rfl) only [↓gp, gc, Nat.reduceAdd, hix, hre, ld3r, hlk, hg, zN, h3]
   exact ih (i + 1) S v7 out _ _ _ _ _ _ _ _ _ _ _ _ _ _ _ _ _ _ _ _ _ _ _ _ _ _ _ _ _ _ _ _ _ _ _ _ _ _ _ _ _ _ _ _ _ _ _ _ _ _ _ _ _ _ _ (by omega) (by omega) hK hN ho (by omega) hR
  ·obtain ⟨o, S2, ⟨hlen, hfr, v', out', rfl, ho', hna, hmem, hol'⟩, hE⟩ := qF (zgf S v7 out ns[i] ho (by omega))
   have hE := fun {ops dst k T F Q} => zH (ops := ops) (dst := dst) (l := k) (T := T) (F := F) (Q := Q) rfl hE
   have hde : ∀ i' : Decidable (g ns[i] ≠ 0), @decide (g ns[i] ≠ 0) i' = true := fun i' => decide_eq_true hg
   simp (maxSteps:=1000000) (disch:=first|assumption|omega|rfl) only [↓gp, gc, Nat.reduceAdd, hix, hre, ld3r, hlk, hde, hE, zwk, ho1, h3]
   exact ih (i + 1) S2 v' out' _ _ _ _ _ _ _ _ _ _ _ _ _ _ _ _ _ _ _ _ _ _ _ _ _ _ _ _ _ _ _ _ _ _ _ _ _ _ _ _ _ _ _ _ _ _ _ _ _ _ _ _ _ _ _ (by omega) (by omega) (fun j o hj => hfr j o (hK j o hj) (hN j (zQ hj))) (fun j hj => hna j (Nat.lt_of_lt_of_le hj hK.len) (hN j hj)) ho' (by omega) hR
def WtOk (l : List Chg) (at_ : Nat) (i : Nat) (out : List Int) : Prop := ∀ (c : Chg), l[at_]? = some c → ∀ ch ∈ l.take i, ch.no = c.no → z4d ch.at_ ch.data c.at_ c.data → ch.id ∈ out
theorem zu1 (S0 : zB) (L : V) (es : List V) (l : List Chg) (hL : OwnS S0 L 80 es) (hl : ChgsV S0 es l) (hes : es.length ≤ 150000) (n last : Nat) (hok : ∀ ch ∈ l, z6q n last ch) (at_ mm id : Nat) (hat : at_ < l.length) (hid : L = .rs id 0 es.length) (hrw : S0[id]? = some (.row es 80)) (o0 : Nat) (ho0 : o0 ≤ 100000) (R : Post) :
 ∀ (k i : Nat) (S : zB) (v7 : V) (out : List Int) (g2 g3 g4 g5 g6 g8 g9 gI gE gG gB gC gA gD gL gM gF gK gN gJ gH gO gP gT gQ gU gR gS gV gZ gh gj gk gn gr gz hH hU hY xF hZ xA xB xC xD xE xG xH xI xJ xK xL xM xN xO xP : V), at_ - i = k → i ≤ at_ → Keep S0 S → (∀ j, j < S0.length → NotAt v7 j) → OwnS S v7 3 (zW out) → out.length ≤ o0 + i → WtOk l at_ i out →
 (∀ S v7 out i' g2 g3 g4 g5 g6 g8 g9 gI gE gG gB gC gA gD gL gM gF gK gN gJ gH gO gP gT gQ gU gR gS gV gZ gh gj gk gn gr gz hH hU hY xF hZ xA xB xC xD xE xG xH xI xJ xK xL xM xN xO xP, Keep S0 S → OwnS S v7 3 (zW out) → out.length ≤ o0 + at_ → WtOk l at_ at_ out → R (.exit 2) (L :: (.d (.int .i64 (at_ : Int))) :: g2 :: g3 :: g4 :: g5 :: g6 :: v7 :: g8 :: g9 :: gI :: gE :: gG :: gB :: gC :: gA :: gD :: gL :: gM :: gF :: gK :: gN :: gJ :: gH :: gO :: gP :: gT :: gQ :: gU :: gR :: gS :: gV :: (.rs id 0 at_) :: (.d (.int .i64 (at_ : Int))) :: i' :: gZ :: gh :: gj :: gk :: gn :: gr :: gz :: hH :: hU :: hY :: xF :: hZ :: xA :: xB :: xC :: xD :: xE :: xG :: xH :: xI :: xJ :: xK :: xL :: xM :: xN :: xO :: xP :: []) S []) →
 Wp cfg (.loop (lpOf (Tryz.f160.body.getD .skip) 2)) (L :: (.d (.int .i64 (at_ : Int))) :: g2 :: g3 :: g4 :: g5 :: g6 :: v7 :: g8 :: g9 :: gI :: gE :: gG :: gB :: gC :: gA :: gD :: gL :: gM :: gF :: gK :: gN :: gJ :: gH :: gO :: gP :: gT :: gQ :: gU :: gR :: gS :: gV :: (.rs id 0 at_) :: (.d (.int .i64 (at_ : Int))) :: (.d (.int .i64 (i : Int))) :: gZ :: gh :: gj :: gk :: gn :: gr :: gz :: hH :: hU :: hY :: xF :: hZ :: xA :: xB :: xC :: xD :: xE :: xG :: xH :: xI :: xJ :: xK :: xL :: xM :: xN :: xO :: xP :: []) S [] R := by
 intro k
 have hll := hl.1
 induction k with
 | zero =>
  intro i S v7 out g2 g3 g4 g5 g6 g8 g9 gI gE gG gB gC gA gD gL gM gF gK gN gJ gH gO gP gT gQ gU gR gS gV gZ gh gj gk gn gr gz hH hU hY xF hZ xA xB xC xD xE xG xH xI xJ xK xL xM xN xO xP hk hi hK hN ho hol hw hR
  have hie : i = at_ := by omega
  subst hie
  rw [zR]
  refine zL ?_
  conv => arg 2; whnf
  simp (maxSteps:=1000000) (disch:=first|assumption|omega|rfl) only [↓gp, gc, Nat.reduceAdd]
  exact hR _ _ _ _ _ _ _ _ _ _ _ _ _ _ _ _ _ _ _ _ _ _ _ _ _ _ _ _ _ _ _ _ _ _ _ _ _ _ _ _ _ _ _ _ _ _ _ _ _ _ _ _ _ _ _ _ _ _ _ _ hK ho hol hw
 | succ k ih =>
  intro i S v7 out g2 g3 g4 g5 g6 g8 g9 gI gE gG gB gC gA gD gL gM gF gK gN gJ gH gO gP gT gQ gU gR gS gV gZ gh gj gk gn gr gz hH hU hY xF hZ xA xB xC xD xE xG xH xI xJ xK xL xM xN xO xP hk hi hK hN ho hol hw hR
  have hlt : i < at_ := by omega
  have hil : i < l.length := by omega
  have h3 : IntKind.i64.wrap ((i : Int) + 1) = ((i + 1 : Nat) : Int) := by rw [wrap64 (by omega)]; omega
  obtain ⟨dv, nv, he, hd5, hn3⟩ := hl.2 i es[i] l[i] (List.getElem?_eq_getElem (by omega)) (List.getElem?_eq_getElem (by omega))
  obtain ⟨dw, nw, hf, hd6, hn4⟩ := hl.2 at_ es[at_] l[at_] (List.getElem?_eq_getElem (by omega)) (List.getElem?_eq_getElem (by omega))
  have hrS := hK _ _ hrw
  have hix1 : zI Tryz.prog S 74 (.rs id 0 at_) (.d (.int .i64 (i : Int))) = some (.ref id i 0) := zmm hrS hlt
  have hre1 : rowE S id i = some (.agg [.d (.int .i64 l[i].id), .d (.int .i64 l[i].no), .d (.int .i64 l[i].at_), dv, nv]) := by
   unfold rowE; rw [hrS, ← he]; exact List.getElem?_eq_getElem (by omega)
  have hkx : Keep S (S ++ [.row [.agg [.d (.int .i64 l[i].id), .d (.int .i64 l[i].no), .d (.int .i64 l[i].at_), dv, nv]] 80]) := Keep.refl.app
  have hk0 := hK.trans hkx
  have hix2 : ∀ s : zB, zI Tryz.prog (S ++ s) 74 (.rs id 0 es.length) (.d (.int .i64 (at_ : Int))) = some (.ref id at_ 0) := fun s => zmm ((Keep.refl.app (l := s)) _ _ hrS) (by omega)
  have hre2 : ∀ s : zB, rowE (S ++ s) id at_ = some (.agg [.d (.int .i64 l[at_].id), .d (.int .i64 l[at_].no), .d (.int .i64 l[at_].at_), dw, nw]) := fun s => by
   unfold rowE; rw [(Keep.refl.app (l := s)) _ _ hrS, ← hf]; exact List.getElem?_eq_getElem (by omega)
  have ho1 := qL ho
  have hd1 := qL hd5
  have hd2 := qL hd6
  have hg1 := (hok l[i] (List.getElem_mem _)).1
  have hg2 := (hok l[at_] (List.getElem_mem _)).1
  have hml : ∀ {ops F Q K rd cs i' dst T}, WpE cfg ops F Q K rd cs i' dst T (S ++ [.row [.agg [.d (.int .i64 l[i].id), .d (.int .i64 l[i].no), .d (.int .i64 l[i].at_), dv, nv]] 80]) (some (.enter 168 [.agg [.d (.int .i64 l[i].at_), dv], .agg [.d (.int .i64 l[at_].at_), dw]])) = K (i' :: rd) (cs ++ [(i', 1)]) (putT T dst (.d (.bool (decide (z4d l[i].at_ l[i].data l[at_].at_ l[at_].data))))) (S ++ [.row [.agg [.d (.int .i64 l[i].id), .d (.int .i64 l[i].no), .d (.int .i64 l[i].at_), dv, nv]] 80]) :=
   fun {ops F Q K rd cs i' dst T} => q1q (ds := [patD l[i].at_ l[i].data, patD l[at_].at_ l[at_].data]) rfl (by
    simp only [allO, zrm (hk0.own hd5), zrm (hk0.own hd6)]) rfl (ztg _ _ _ _ hg1 hg2)
  have skip : ∀ out', (l[i].no = l[at_].no → z4d l[i].at_ l[i].data l[at_].at_ l[at_].data → l[i].id ∈ out') → (∀ x ∈ out, x ∈ out') → WtOk l at_ (i + 1) out' := by
   intro out' h1 h2 c hc ch hch e1 e2
   rw [kT hil] at hch
   rcases List.mem_append.1 hch with hch | hch
   ·exact h2 _ (hw c hc ch hch e1 e2)
   ·simp only [List.mem_singleton] at hch
    subst hch
    rw [List.getElem?_eq_getElem hat] at hc
    cases hc
    exact h1 e1 e2
  generalize ha : S.length = a
  rw [zR]
  refine zL ?_
  conv => arg 2; whnf
  subst hid
  simp (maxSteps:=1000000) (disch:=first|assumption|omega|rfl) only [↓gp, gc, Nat.reduceAdd, hix1, hre1, z2c, z122, z2d, z3s, ha, rA0 ha, pA0 ha]
  refine wU (is := [0, 1, 2, 3, 4, 5, 6, 7, 8, 9, 10, 11, 12, 13, 14, 15, 16, 17]) (h := 0) (by kernel_rfl) (by kernel_rfl) ?_
  by_cases hno : l[i].no = l[at_].no
  ·have hde : ∀ i' : Decidable (l[i].no = l[at_].no), @decide (l[i].no = l[at_].no) i' = true := fun i' => decide_eq_true hno
   by_cases hmt : z4d l[i].at_ l[i].data l[at_].at_ l[at_].data
   ·rw [decide_eq_true hmt] at hml
    obtain ⟨o, S2, ⟨hlen, hfr, v', out', rfl, ho', hna, hmem, hol'⟩, hE⟩ := qF (zgf _ v7 out l[i].id (hkx.own ho) (by omega))
    have hE := fun {ops dst k T F Q} => zH (ops := ops) (dst := dst) (l := k) (T := T) (F := F) (Q := Q) rfl hE
    simp (maxSteps:=1000000) (disch:=first|assumption|omega|rfl) only [List.replicate_zero, eq_self, gd, ga, Nat.reduceAdd, ↓gq, vso, rA0 ha, z0k, z0m, z0h, z25, hix2, hre2, hde, hml, zvw, hd1, hd2, List.append_nil]
    refine ⟨by kernel_rfl, ?_⟩
    simp (maxSteps:=1000000) (disch:=first|assumption|omega|rfl) only [↓gp, gc, Nat.reduceAdd, rA0 ha, z0u, z0l, hE, zwk, ho1, h3]
    exact ih (i + 1) S2 v' out' _ _ _ _ _ _ _ _ _ _ _ _ _ _ _ _ _ _ _ _ _ _ _ _ _ _ _ _ _ _ _ _ _ _ _ _ _ _ _ _ _ _ _ _ _ _ _ _ _ _ _ _ _ _ _ _ (by omega) (by omega) (fun j o hj => hfr j o (hk0 j o hj) (hN j (zQ hj))) (fun j hj => hna j (Nat.lt_of_lt_of_le hj hk0.len) (hN j hj)) ho' (by omega) (skip _ (fun _ _ => (hmem _).2 (.inr rfl)) (fun x hx => (hmem x).2 (.inl hx))) hR
   ·rw [decide_eq_false hmt] at hml
    simp (maxSteps:=1000000) (disch:=first|assumption|omega|rfl) only [List.replicate_zero, eq_self, gd, ga, Nat.reduceAdd, ↓gq, vso, rA0 ha, z0k, z0m, z0h, z25, hix2, hre2, hde, hml, zvw, hd1, hd2, List.append_nil]
    refine ⟨by kernel_rfl, ?_⟩
    simp (maxSteps:=1000000) (disch:=first|assumption|omega|rfl) only [↓gp, gc, Nat.reduceAdd, h3]
    exact ih (i + 1) _ v7 out _ _ _ _ _ _ _ _ _ _ _ _ _ _ _ _ _ _ _ _ _ _ _ _ _ _ _ _ _ _ _ _ _ _ _ _ _ _ _ _ _ _ _ _ _ _ _ _ _ _ _ _ _ _ _ _ (by omega) (by omega) hk0 hN (hkx.own ho) (by omega) (skip _ (fun _ h => absurd h hmt) (fun x hx => hx)) hR
  ·have hde : ∀ i' : Decidable (l[i].no = l[at_].no), @decide (l[i].no = l[at_].no) i' = false := fun i' => decide_eq_false hno
   simp (maxSteps:=1000000) (disch:=first|assumption|omega|rfl) only [List.replicate_zero, eq_self, gd, ga, Nat.reduceAdd, ↓gq, vso, rA0 ha, z0k, z0m, z0h, z25, hix2, hre2, hde, List.append_nil]
   refine ⟨by kernel_rfl, ?_⟩
   simp (maxSteps:=1000000) (disch:=first|assumption|omega|rfl) only [↓gp, gc, Nat.reduceAdd, h3]
   exact ih (i + 1) _ v7 out _ _ _ _ _ _ _ _ _ _ _ _ _ _ _ _ _ _ _ _ _ _ _ _ _ _ _ _ _ _ _ _ _ _ _ _ _ _ _ _ _ _ _ _ _ _ _ _ _ _ _ _ _ _ _ _ (by omega) (by omega) hk0 hN (hkx.own ho) (by omega) (skip _ (fun h _ => absurd h hno) (fun x hx => hx)) hR
theorem zo6 (S : zB) (L : V) (es : List V) (l : List Chg) (hL : OwnS S L 80 es) (hl : ChgsV S es l) (hes : es.length ≤ 150000) (n last : Nat) (hlast : last ≤ 100000) (hok : ∀ ch ∈ l, z6q n last ch) (at_ mm : Nat) (hat : at_ < l.length) (g : Int → Int) (hm : MG S mm g) :
  EvS cfg 160 [L, .d (.int .i64 (at_ : Int)), .mr mm] S (fun o S' => Keep S S' ∧ ∃ v out, o = .ret v ∧ OwnS S' v 3 (zW out) ∧ out.length ≤ 300000 ∧ WtOk l at_ at_ out) := by
 refine qH rfl zut ?_
 show Wp cfg (Tryz.f160.body.getD .skip) (L :: (.d (.int .i64 (at_ : Int))) :: (.mr mm) :: uZ (uZ (uZ (uZ (uZ ((.tup []) :: (.tup []) :: (.tup []) :: (.tup []) :: (.tup []) :: (.tup []) :: (.tup []) :: (.tup []) :: (.tup []) :: [])))))) S [] _
 unfold uZ
 conv => arg 2; whnf
 rw [zR]
 have hll := hl.1
 have hae : at_ < es.length := by omega
 obtain ⟨id, rfl, hrw, hsl⟩ := zl1 hL hae
 obtain ⟨dw, nw, hf, hd6, hn4⟩ := hl.2 at_ es[at_] l[at_] (List.getElem?_eq_getElem (by omega)) (List.getElem?_eq_getElem (by omega))
 have hix2 : zI Tryz.prog S 74 (.rs id 0 es.length) (.d (.int .i64 (at_ : Int))) = some (.ref id at_ 0) := zmm hrw (by omega)
 have hre2 : rowE S id at_ = some (.agg [.d (.int .i64 l[at_].id), .d (.int .i64 l[at_].no), .d (.int .i64 l[at_].at_), dw, nw]) := by
  unfold rowE; rw [hrw, ← hf]; exact List.getElem?_eq_getElem (by omega)
 have hln : zO Tryz.prog S .len [22] [nw] = some (.val (.d (.int .i64 (l[at_].needs.length : Int))) S 0) := by rw [wC Tryz.underlying22 hn4, qC]
 obtain ⟨_, _, _, g4, g5, g6, g7⟩ := hok l[at_] (List.getElem_mem _)
 have hnl : l[at_].needs.length ≤ 100000 := by have := z7y g6 (fun x hx => (g7 x hx).1) (fun x hx => (g7 x hx).2) (by omega); omega
 have hn1 := qL hn4
 simp (maxSteps:=1000000) (disch:=first|assumption|omega|rfl) only [↓gp, gc, Nat.reduceAdd, hix2, zbj, hre2, zbt, hln, hn1]
 refine zwo S (.rs id 0 es.length) at_ mm g hm nw l[at_].needs hn4 hnl _ l[at_].needs.length 0 S (.ts []) [] _ _ _ _ _ _ _ _ _ _ _ _ _ _ _ _ _ _ _ _ _ _ _ _ _ _ _ _ _ _ _ _ _ _ _ _ _ _ _ _ _ _ _ _ _ _ _ _ _ _ _ _ _ _ _ rfl (Nat.zero_le _) Keep.refl (fun j _ => NotAt.ts) (.inl ⟨rfl, rfl⟩) (by simp) ?_
 intro S2 v7 out i' g3 g4 g5 g6 g8 g9 gI gE gG gB gC gA gF gK gN gJ gH gO gP gT gQ gU gR gS gV gW gX gY gZ gh gj gk gn gr gz hH hU hY xF hZ xA xB xC xD xE xG xH xI xJ xK xL xM xN xO xP hK hN ho hol
 have hsl2 : wN Tryz.prog S2 74 (.rs id 0 es.length) none (some (.d (.int .i64 (at_ : Int)))) = some (.rs id 0 at_) := by
  obtain ⟨id', e1, _, e2⟩ := zl1 (hK.own hL) hae
  cases e1
  exact e2
 have hln2 : zO Tryz.prog S2 .len [74] [.rs id 0 at_] = some (.val (.d (.int .i64 (at_ : Int))) S2 0) := zn1 u119
 simp (maxSteps:=1000000) (disch:=first|assumption|omega|rfl) only [↓gp, gc, Nat.reduceAdd, zbu, Option.map_none, Option.map_some, hsl2, hln2]
 refine zu1 S _ es l hL hl hes n last hok at_ mm id hat rfl hrw l[at_].needs.length hnl _ at_ 0 S2 v7 out _ _ _ _ _ _ _ _ _ _ _ _ _ _ _ _ _ _ _ _ _ _ _ _ _ _ _ _ _ _ _ _ _ _ _ _ _ _ _ _ _ _ _ _ _ _ _ _ _ _ _ _ _ _ _ _ rfl (Nat.zero_le _) hK hN ho (by omega) (fun c _ ch hch => by simp at hch) ?_
 intro S3 v7 out i' g2 g3 g4 g5 g6 g8 g9 gI gE gG gB gC gA gD gL gM gF gK gN gJ gH gO gP gT gQ gU gR gS gV gZ gh gj gk gn gr gz hH hU hY xF hZ xA xB xC xD xE xG xH xI xJ xK xL xM xN xO xP hK ho hol hw
 have ho1 := qL ho
 simp (maxSteps:=1000000) (disch:=first|assumption|omega|rfl) only [↓gp, gc, Nat.reduceAdd]
 exact ⟨rfl, _, rfl, hK, v7, out, rfl, ho, by omega, hw⟩
theorem zea {S : zB} {v : V} {e : TypeId} {xs : List V} {m : Nat} {g : Int → Int} (ho : OwnS S v e xs) (hm : MG S m g) : NotAt v m := by
 obtain ⟨f, ⟨L, c, h1, _⟩, _⟩ := hm
 rcases ho with ⟨rfl, _⟩ | ⟨id, rfl, h2⟩
 ·exact NotAt.ts
 ·intro off k hh
  cases hh
  cases getE h1 h2
theorem zkd {S : zB} {v : V} {e : TypeId} {xs : List V} {m : Nat} {g : Int → Int} {o : Ob} (ho : OwnS S v e xs) (hm : MG S m g) : OwnS (S.set m o) v e xs := by
 have hn := zea ho hm
 rcases ho with h | ⟨id, rfl, h2⟩
 ·exact .inl h
 ·exact .inr ⟨id, rfl, by rw [List.getElem?_set_ne (by rintro rfl; exact hn _ _ rfl)]; exact h2⟩
theorem MG.of {S S' : zB} {m : Nat} {g : Int → Int} (h : MG S m g) (hk : S'[m]? = S[m]?) : MG S' m g := by
 obtain ⟨f, h1, h2⟩ := h
 exact ⟨f, h1.keep hk, h2⟩
theorem MG.lt {S : zB} {m : Nat} {g : Int → Int} (h : MG S m g) : m < S.length := by
 obtain ⟨f, h1, h2⟩ := h
 exact h1.lt
theorem q2y {S S' : zB} {m : Nat} {x : Int} (h : z0b Tryz.prog S 186 (.mr m) (.d (.int .i64 x)) = some S') : zO Tryz.prog S .delete [186, 3] [.mr m, .d (.int .i64 x)] = some (.val (.tup []) S' 3) := by
 simp only [zO, h, Option.map_some]
theorem zpj (S : zB) (ml : Nat) (gl : Int → Int) (hm : MG S ml gl) (v34 : V) (w : List Int) (hw : OwnS S v34 3 (zW w)) (hwl : w.length ≤ 300000) (R : Post) :
 ∀ (k i : Nat) (b : Bool) (g0 g1 g2 g3 g4 g6 g7 g8 g9 gE gG gB gC gA gD gL gM gF gK gN gJ gH gO gP gT gQ gU gR gS gV gW gX gj gk gn gr gz hH hU hY xF hZ xA xB xC xD xE xG xH xI xJ xK xL xM : V), w.length - i = k → i ≤ w.length → (b = true ↔ ∀ x ∈ w.take i, gl x = 0) →
 (∀ (b' : Bool) i' (_12 _37 _38 _39 _40 _41 _42 _43 _44 _45 _46 _47 : V), (b' = true ↔ ∀ x ∈ w, gl x = 0) → R (.exit 2) (g0 :: g1 :: g2 :: g3 :: g4 :: (.mr ml) :: g6 :: g7 :: g8 :: g9 :: (.d (.bool b')) :: gE :: _12 :: gB :: gC :: gA :: gD :: gL :: gM :: gF :: gK :: gN :: gJ :: gH :: gO :: gP :: gT :: gQ :: gU :: gR :: gS :: gV :: gW :: gX :: v34 :: (.d (.int .i64 (w.length : Int))) :: i' :: _37 :: _38 :: _39 :: _40 :: _41 :: _42 :: _43 :: _44 :: _45 :: _46 :: _47 :: xB :: xC :: xD :: xE :: xG :: xH :: xI :: xJ :: xK :: xL :: xM :: []) S []) →
 Wp cfg (.loop (lpOf (Tryz.f141.body.getD .skip) 2)) (g0 :: g1 :: g2 :: g3 :: g4 :: (.mr ml) :: g6 :: g7 :: g8 :: g9 :: (.d (.bool b)) :: gE :: gG :: gB :: gC :: gA :: gD :: gL :: gM :: gF :: gK :: gN :: gJ :: gH :: gO :: gP :: gT :: gQ :: gU :: gR :: gS :: gV :: gW :: gX :: v34 :: (.d (.int .i64 (w.length : Int))) :: (.d (.int .i64 (i : Int))) :: gj :: gk :: gn :: gr :: gz :: hH :: hU :: hY :: xF :: hZ :: xA :: xB :: xC :: xD :: xE :: xG :: xH :: xI :: xJ :: xK :: xL :: xM :: []) S [] R := by
 intro k
 induction k with
 | zero =>
  intro i b g0 g1 g2 g3 g4 g6 g7 g8 g9 gE gG gB gC gA gD gL gM gF gK gN gJ gH gO gP gT gQ gU gR gS gV gW gX gj gk gn gr gz hH hU hY xF hZ xA xB xC xD xE xG xH xI xJ xK xL xM hk hi hb hR
  have hie : i = w.length := by omega
  subst hie
  rw [List.take_length] at hb
  rw [zR]
  refine zL ?_
  conv => arg 2; whnf
  simp (maxSteps:=1000000) (disch:=first|assumption|omega|rfl) only [↓gp, gc, Nat.reduceAdd]
  exact hR _ _ _ _ _ _ _ _ _ _ _ _ _ _ hb
 | succ k ih =>
  intro i b g0 g1 g2 g3 g4 g6 g7 g8 g9 gE gG gB gC gA gD gL gM gF gK gN gJ gH gO gP gT gQ gU gR gS gV gW gX gj gk gn gr gz hH hU hY xF hZ xA xB xC xD xE xG xH xI xJ xK xL xM hk hi hb hR
  have hlt : i < w.length := by omega
  have h3 : IntKind.i64.wrap ((i : Int) + 1) = ((i + 1 : Nat) : Int) := by rw [wrap64 (by omega)]; omega
  obtain ⟨id, hix, hre, _⟩ := wH Tryz.underlying22 s3z hw (i := i) (by rw [qC]; exact hlt)
  have hre : rowE S id i = some (.d (.int .i64 w[i])) := by rw [hre]; simp [zW]
  have hlk := hm.look w[i]
  rw [zR]
  refine zL ?_
  conv => arg 2; whnf
  cases b with
  | false =>
   simp (maxSteps:=1000000) (disch:=first|assumption|omega|rfl) only [↓gp, gc, Nat.reduceAdd, hix, hre, ld3r, h3]
   refine ih (i + 1) false _ _ _ _ _ _ _ _ _ _ _ _ _ _ _ _ _ _ _ _ _ _ _ _ _ _ _ _ _ _ _ _ _ _ _ _ _ _ _ _ _ _ _ _ _ _ _ _ _ _ _ _ _ _ (by omega) (by omega) ⟨fun h => (Bool.false_ne_true h).elim, fun h => hb.2 fun x hx => h x ?_⟩ hR
   rw [kT hlt]
   exact List.mem_append_left _ hx
  | true =>
   have hall := hb.1 rfl
   by_cases hg : gl w[i] = 0
   ·simp (maxSteps:=1000000) (disch:=first|assumption|omega|rfl) only [↓gp, gc, Nat.reduceAdd, hix, hre, ld3r, hlk, hg, zN, h3]
    refine ih (i + 1) true _ _ _ _ _ _ _ _ _ _ _ _ _ _ _ _ _ _ _ _ _ _ _ _ _ _ _ _ _ _ _ _ _ _ _ _ _ _ _ _ _ _ _ _ _ _ _ _ _ _ _ _ _ _ (by omega) (by omega) ⟨fun _ x hx => ?_, fun _ => rfl⟩ hR
    rw [kT hlt] at hx
    rcases List.mem_append.1 hx with hx | hx
    ·exact hall x hx
    ·simp only [List.mem_singleton] at hx
     rw [hx]; exact hg
   ·have hde : ∀ i' : Decidable (gl w[i] = 0), @decide (gl w[i] = 0) i' = false := fun i' => decide_eq_false hg
    simp (maxSteps:=1000000) (disch:=first|assumption|omega|rfl) only [↓gp, gc, Nat.reduceAdd, hix, hre, ld3r, hlk, hde, h3]
    refine ih (i + 1) false _ _ _ _ _ _ _ _ _ _ _ _ _ _ _ _ _ _ _ _ _ _ _ _ _ _ _ _ _ _ _ _ _ _ _ _ _ _ _ _ _ _ _ _ _ _ _ _ _ _ _ _ _ _ (by omega) (by omega) ⟨fun h => (Bool.false_ne_true h).elim, fun h => absurd (h w[i] ?_) hg⟩ hR
    rw [kT hlt]
    exact List.mem_append_right _ (List.mem_singleton.2 rfl)
def RdOk (l : List Chg) (no : Int) (i : Nat) (out : List Int) : Prop :=
 (∀ x ∈ out, ∃ ch ∈ l.take i, ch.id = x ∧ ch.no = no) ∧ ∀ (j : Nat) (c : Chg), l[j]? = some c → c.id ∈ out → ∀ ch ∈ l.take j, ch.no = no → z4d ch.at_ ch.data c.at_ c.data → ch.id ∈ out
theorem zjj {l : List Chg} (h : l.Pairwise (fun a b => a.id < b.id)) {i j : Nat} {a b : Chg} (hi : l[i]? = some a) (hj : l[j]? = some b) (he : a.id = b.id) : i = j := by
 have hp := List.pairwise_iff_getElem.1 h
 obtain ⟨i1, i2⟩ := List.getElem?_eq_some_iff.1 hi
 obtain ⟨j1, j2⟩ := List.getElem?_eq_some_iff.1 hj
 rcases Nat.lt_trichotomy i j with hl | hl | hl
 ·have := hp i j i1 j1 hl; rw [i2, j2] at this; omega
 ·exact hl
 ·have := hp j i j1 i1 hl; rw [i2, j2] at this; omega
theorem RdOk.skip {l : List Chg} {no : Int} {i : Nat} {out : List Int} (h : RdOk l no i out) : RdOk l no (i + 1) out :=
 ⟨fun x hx => by
  obtain ⟨ch, h1, h2⟩ := h.1 x hx
  exact ⟨ch, (List.take_subset_take_left l (by omega)) h1, h2⟩, h.2⟩
theorem RdOk.snoc {l : List Chg} {no : Int} {i : Nat} {out : List Int} (h : RdOk l no i out) (hp : l.Pairwise (fun a b => a.id < b.id)) {c : Chg} (hc : l[i]? = some c) (hno : c.no = no) (hw : ∀ ch ∈ l.take i, ch.no = no → z4d ch.at_ ch.data c.at_ c.data → ch.id ∈ out) : RdOk l no (i + 1) (out ++ [c.id]) := by
 obtain ⟨i1, i2⟩ := List.getElem?_eq_some_iff.1 hc
 refine ⟨fun x hx => ?_, fun j d hd hm ch hch e1 e2 => ?_⟩
 ·rcases List.mem_append.1 hx with hx | hx
  ·exact h.skip.1 x hx
  ·simp only [List.mem_singleton] at hx
   subst hx
   exact ⟨c, by rw [kT i1, ← i2]; exact List.mem_append_right _ (List.mem_singleton.2 rfl), rfl, hno⟩
 ·rcases List.mem_append.1 hm with hm | hm
  ·exact List.mem_append_left _ (h.2 j d hd hm ch hch e1 e2)
  ·simp only [List.mem_singleton] at hm
   have := zjj hp hd hc hm
   subst this
   rw [hd] at hc
   cases hc
   exact List.mem_append_left _ (hw ch hch e1 e2)
theorem zrt (no : Int) (S0 : zB) (L : V) (es : List V) (l : List Chg) (hL : OwnS S0 L 80 es) (hl : ChgsV S0 es l) (hes : es.length ≤ 150000) (n last : Nat) (hlast : last ≤ 100000) (hok : ∀ ch ∈ l, z6q n last ch) (hids : l.Pairwise (fun a b => a.id < b.id)) (ml mi : Nat) (hml : S0.length ≤ ml) (hmi : ml < mi) (gi : Int → Int) (R : Post) :
 ∀ (k i : Nat) (S : zB) (v7 : V) (out : List Int) (gl : Int → Int) (g2 g3 g4 g8 g9 gI gE gG gB gC gA gD gL gM gF gH gO gP gT gQ gU gR gS gV gW gX gY gZ gh gj gk gn gr gz hH hU hY xF hZ xA xB xC xD xE xG xH xI xJ xK xL xM : V), l.length - i = k → i ≤ l.length → Keep S0 S → MG S ml gl → MG S mi gi → (∀ j, j < S0.length → NotAt v7 j) → OwnS S v7 3 (zW out) → out.length ≤ i → RdOk l no i out → (∀ n, gl n ≠ 0 ↔ (∃ ch ∈ l, ch.id = n) ∧ n ∉ out) →
 (∀ S v7 out i' g2 g3 g4 g8 g9 gI gE gG gB gC gA gD gL gM gF gH gO gP gT gQ gU gR gS gV gW gX gY gZ gh gj gk gn gr gz hH hU hY xF hZ xA xB xC xD xE xG xH xI xJ xK xL xM, Keep S0 S → OwnS S v7 3 (zW out) → out.length ≤ l.length → RdOk l no l.length out → R (.exit 0) (L :: (.d (.int .i64 no)) :: g2 :: g3 :: g4 :: (.mr ml) :: (.mr mi) :: v7 :: g8 :: g9 :: gI :: gE :: gG :: gB :: gC :: gA :: gD :: gL :: gM :: gF :: L :: (.d (.int .i64 (l.length : Int))) :: i' :: gH :: gO :: gP :: gT :: gQ :: gU :: gR :: gS :: gV :: gW :: gX :: gY :: gZ :: gh :: gj :: gk :: gn :: gr :: gz :: hH :: hU :: hY :: xF :: hZ :: xA :: xB :: xC :: xD :: xE :: xG :: xH :: xI :: xJ :: xK :: xL :: xM :: []) S []) →
 Wp cfg (.loop (lpOf (Tryz.f141.body.getD .skip) 0)) (L :: (.d (.int .i64 no)) :: g2 :: g3 :: g4 :: (.mr ml) :: (.mr mi) :: v7 :: g8 :: g9 :: gI :: gE :: gG :: gB :: gC :: gA :: gD :: gL :: gM :: gF :: L :: (.d (.int .i64 (l.length : Int))) :: (.d (.int .i64 (i : Int))) :: gH :: gO :: gP :: gT :: gQ :: gU :: gR :: gS :: gV :: gW :: gX :: gY :: gZ :: gh :: gj :: gk :: gn :: gr :: gz :: hH :: hU :: hY :: xF :: hZ :: xA :: xB :: xC :: xD :: xE :: xG :: xH :: xI :: xJ :: xK :: xL :: xM :: []) S [] R := by
 intro k
 have hll := hl.1
 induction k with
 | zero =>
  intro i S v7 out gl g2 g3 g4 g8 g9 gI gE gG gB gC gA gD gL gM gF gH gO gP gT gQ gU gR gS gV gW gX gY gZ gh gj gk gn gr gz hH hU hY xF hZ xA xB xC xD xE xG xH xI xJ xK xL xM hk hi hK hm1 hm2 hN ho hol hrd hgl hR
  have hie : i = l.length := by omega
  subst hie
  rw [zR]
  refine zL ?_
  conv => arg 2; whnf
  simp (maxSteps:=1000000) (disch:=first|assumption|omega|rfl) only [↓gp, gc, Nat.reduceAdd]
  exact hR _ _ _ _ _ _ _ _ _ _ _ _ _ _ _ _ _ _ _ _ _ _ _ _ _ _ _ _ _ _ _ _ _ _ _ _ _ _ _ _ _ _ _ _ _ _ _ _ _ _ _ _ _ _ _ hK ho hol hrd
 | succ k ih =>
  intro i S v7 out gl g2 g3 g4 g8 g9 gI gE gG gB gC gA gD gL gM gF gH gO gP gT gQ gU gR gS gV gW gX gY gZ gh gj gk gn gr gz hH hU hY xF hZ xA xB xC xD xE xG xH xI xJ xK xL xM hk hi hK hm1 hm2 hN ho hol hrd hgl hR
  have hlt : i < l.length := by omega
  have hlt2 : i < es.length := by omega
  obtain ⟨id', hix, hre, _⟩ := wH u119 s122 (hK.own hL) hlt2
  obtain ⟨dv, nv, he, hd5, hn3⟩ := hl.2 i es[i] l[i] (List.getElem?_eq_getElem hlt2) (List.getElem?_eq_getElem hlt)
  rw [he] at hre
  have h3 : IntKind.i64.wrap ((i : Int) + 1) = ((i + 1 : Nat) : Int) := by rw [wrap64 (by omega)]; omega
  have hkx : Keep S (S ++ [.row [.agg [.d (.int .i64 l[i].id), .d (.int .i64 l[i].no), .d (.int .i64 l[i].at_), dv, nv]] 80]) := Keep.refl.app
  have hk0 := hK.trans hkx
  generalize ha : S.length = a
  rw [zR]
  refine zL ?_
  conv => arg 2; whnf
  by_cases hno : l[i].no = no
  ·have hde : ∀ i' : Decidable (l[i].no ≠ no), @decide (l[i].no ≠ no) i' = false := fun i' => decide_eq_false (fun h => h hno)
   obtain ⟨o, S2, ⟨hK2, v34, w, rfl, hw34, hwl, hwt⟩, hE⟩ := qF (zo6 _ L es l (hk0.own hL) (hl.mono (fun _ _ => hk0.own) (fun _ _ => hk0.own)) hes n last hlast hok i mi hlt gi (hm2.keep hkx))
   have hE := fun {ops dst k T F Q} => zH (ops := ops) (dst := dst) (l := k) (T := T) (F := F) (Q := Q) rfl hE
   have hK02 := hk0.trans hK2
   have hm12 := hm1.keep (hkx.trans hK2)
   have hm22 := hm2.keep (hkx.trans hK2)
   have ho2 := (hkx.trans hK2).own ho
   have hln : zO Tryz.prog S2 .len [22] [v34] = some (.val (.d (.int .i64 (w.length : Int))) S2 0) := by rw [wC Tryz.underlying22 hw34, qC]
   have hL1 := qL hL
   simp (maxSteps:=1000000) (disch:=first|assumption|omega|rfl) only [↓gp, gc, Nat.reduceAdd, hix, hre, z2c, z122, z2d, z3s, ha, rA0 ha, pA0 ha, z0k, z0h, hde, hE, q10, hln, hL1]
   have hrow : S2[a]? = some (.row [.agg [.d (.int .i64 l[i].id), .d (.int .i64 l[i].no), .d (.int .i64 l[i].at_), dv, nv]] 80) := hK2 _ _ (by subst ha; simp)
   have hra := zD (e := 80) hrow
   refine zpj S2 ml gl hm12 v34 w hw34 hwl _ w.length 0 true _ _ _ _ _ _ _ _ _ _ _ _ _ _ _ _ _ _ _ _ _ _ _ _ _ _ _ _ _ _ _ _ _ _ _ _ _ _ _ _ _ _ _ _ _ _ _ _ _ _ _ _ _ _ rfl (Nat.zero_le _) (by simp) ?_
   intro b' i' gG gj gk gn gr gz hH hU hY xF hZ xA hb
   cases b' with
   | false =>
    simp (maxSteps:=1000000) (disch:=first|assumption|omega|rfl) only [↓gp, gc, Nat.reduceAdd, h3]
    exact ih (i + 1) S2 v7 out gl _ _ _ _ _ _ _ _ _ _ _ _ _ _ _ _ _ _ _ _ _ _ _ _ _ _ _ _ _ _ _ _ _ _ _ _ _ _ _ _ _ _ _ _ _ _ _ _ _ _ _ (by omega) (by omega) hK02 hm12 hm22 hN ho2 (by omega) hrd.skip hgl hR
   | true =>
    have hall := hb.1 rfl
    obtain ⟨o, ho3, hm3, es', c', ho4⟩ := hm12.del l[i].id
    have hd := q2y ho3
    have hmlt := hm12.lt
    have hne : a ≠ ml := by
     rintro rfl
     obtain ⟨f, ⟨_, _, q1, _⟩, _⟩ := hm12
     cases getE hrow q1
    have hra3 : rowE (S2.set ml o) a 0 = some (.agg [.d (.int .i64 l[i].id), .d (.int .i64 l[i].no), .d (.int .i64 l[i].at_), dv, nv]) := zD (e := 80) (by rw [List.getElem?_set_ne (Ne.symm hne)]; exact hrow)
    have ho5 := zkd (o := o) ho2 hm12
    obtain ⟨v', S4, cst, hap, ho6, hfr, hlen⟩ := ap22 l[i].id ho5 (by omega)
    simp (maxSteps:=1000000) (disch:=first|assumption|omega|rfl) only [↓gp, gc, Nat.reduceAdd, hra, hra3, z0u, z0l, hd, hap, h3]
    have hN2 : ∀ j, j < S0.length → NotAt v' j := fun j hj => (hfr j _ (by rw [List.getElem?_set_ne (by omega)]; exact hK02 j _ (List.getElem?_eq_getElem hj)) (hN j hj)).2
    have hmi2 : ((S2.set ml o))[mi]? = S2[mi]? := List.getElem?_set_ne (by omega)
    have hm23 : MG (S2.set ml o) mi gi := hm22.of hmi2
    have mv : ∀ {m : Nat} {g : Int → Int}, MG (S2.set ml o) m g → MG S4 m g := fun {m g} h => h.of (by
     have hlt3 := h.lt
     rw [(hfr m _ (List.getElem?_eq_getElem hlt3) (zea ho5 h)).1, List.getElem?_eq_getElem hlt3])
    refine ih (i + 1) S4 v' (out ++ [l[i].id]) _ _ _ _ _ _ _ _ _ _ _ _ _ _ _ _ _ _ _ _ _ _ _ _ _ _ _ _ _ _ _ _ _ _ _ _ _ _ _ _ _ _ _ _ _ _ _ _ _ _ _ _ (by omega) (by omega) (fun j q hj => (hfr j q (by rw [List.getElem?_set_ne (by have := zQ hj; omega)]; exact hK02 j q hj) (hN j (zQ hj))).1) (mv hm3) (mv hm23) hN2 ho6 (by simp; omega) ?_ ?_ hR
    ·refine hrd.snoc hids (List.getElem?_eq_getElem hlt) hno fun ch hch e1 e2 => ?_
     have h5 := hwt l[i] (List.getElem?_eq_getElem hlt) ch hch (e1.trans hno.symm) e2
     have h6 := hall _ h5
     by_cases hin : ch.id ∈ out
     ·exact hin
     ·exact absurd h6 ((hgl ch.id).2 ⟨⟨ch, List.mem_of_mem_take hch, rfl⟩, hin⟩)
    ·intro x
     unfold updG
     by_cases e : x = l[i].id
     ·rw [if_pos e]
      refine ⟨fun h => absurd rfl h, fun h => absurd ?_ h.2⟩
      exact List.mem_append_right _ (List.mem_singleton.2 e)
     ·rw [if_neg e, hgl x, List.mem_append, List.mem_singleton]
      exact ⟨fun h => ⟨h.1, fun hh => hh.elim h.2 e⟩, fun h => ⟨h.1, fun hh => h.2 (.inl hh)⟩⟩
  ·have hde : ∀ i' : Decidable (l[i].no ≠ no), @decide (l[i].no ≠ no) i' = true := fun i' => decide_eq_true hno
   simp (maxSteps:=1000000) (disch:=first|assumption|omega|rfl) only [↓gp, gc, Nat.reduceAdd, hix, hre, z2c, z122, z2d, z3s, ha, rA0 ha, pA0 ha, z0k, z0h, hde, h3]
   exact ih (i + 1) _ v7 out gl _ _ _ _ _ _ _ _ _ _ _ _ _ _ _ _ _ _ _ _ _ _ _ _ _ _ _ _ _ _ _ _ _ _ _ _ _ _ _ _ _ _ _ _ _ _ _ _ _ _ _ (by omega) (by omega) hk0 (hm1.keep hkx) (hm2.keep hkx) hN (hkx.own ho) (by omega) hrd.skip hgl hR
theorem zov (no : Int) (S : zB) (L : V) (es : List V) (l : List Chg) (hL : OwnS S L 80 es) (hl : ChgsV S es l) (hes : es.length ≤ 150000) (n last : Nat) (hlast : last ≤ 100000) (hok : ∀ ch ∈ l, z6q n last ch) (hids : l.Pairwise (fun a b => a.id < b.id)) :
  EvS cfg 141 [L, .d (.int .i64 no)] S (fun o S' => Keep S S' ∧ ∃ v out, o = .ret v ∧ OwnS S' v 3 (zW out) ∧ out.length ≤ l.length ∧ RdOk l no l.length out) := by
 refine qH rfl zw8 ?_
 show Wp cfg (Tryz.f141.body.getD .skip) (L :: (.d (.int .i64 no)) :: uZ (uZ (uZ (uZ (uZ ((.tup []) :: (.tup []) :: (.tup []) :: (.tup []) :: (.tup []) :: (.tup []) :: (.tup []) :: [])))))) S [] _
 unfold uZ
 conv => arg 2; whnf
 rw [zR]
 have hL1 := qL hL
 obtain ⟨o, S1, ⟨hK1, rfl⟩, hE1⟩ := qF (zm6 n last hlast S L es l hL hl (by omega) hok hids)
 have hE1 := fun {ops dst k T F Q} => zH (ops := ops) (dst := dst) (l := k) (T := T) (F := F) (Q := Q) rfl hE1
 obtain ⟨o, S2, ⟨hK2, ml, gl, rfl, hml, hm1, hgl⟩, hE2⟩ := qF (zgz S1 L es l (hK1.own hL) (hl.mono (fun _ _ => hK1.own) (fun _ _ => hK1.own)) (by omega))
 have hE2 := fun {ops dst k T F Q} => zH (ops := ops) (dst := dst) (l := k) (T := T) (F := F) (Q := Q) rfl hE2
 have hK02 := hK1.trans hK2
 obtain ⟨o, S3, ⟨hK3, mi, gi, rfl, hmi, hm2, hgi⟩, hE3⟩ := qF (zgz S2 L es l (hK02.own hL) (hl.mono (fun _ _ => hK02.own) (fun _ _ => hK02.own)) (by omega))
 have hE3 := fun {ops dst k T F Q} => zH (ops := ops) (dst := dst) (l := k) (T := T) (F := F) (Q := Q) rfl hE3
 have hK03 := hK02.trans hK3
 have hln : zO Tryz.prog S3 .len [74] [L] = some (.val (.d (.int .i64 (l.length : Int))) S3 0) := by rw [wC u119 (hK03.own hL), hl.1]
 have hlt := hm1.lt
 have hl1 := hK1.len
 simp (maxSteps:=1000000) (disch:=first|assumption|omega|rfl) only [↓gp, gc, Nat.reduceAdd, hL1, hE1, zyx, hE2, zzs, hE3, hln]
 refine zrt no S L es l hL hl hes n last hlast hok hids ml mi (by omega) (by omega) gi _ l.length 0 S3 (.ts []) [] gl _ _ _ _ _ _ _ _ _ _ _ _ _ _ _ _ _ _ _ _ _ _ _ _ _ _ _ _ _ _ _ _ _ _ _ _ _ _ _ _ _ _ _ _ _ _ _ _ _ _ _ rfl (Nat.zero_le _) hK03 (hm1.keep hK3) hm2 (fun j _ => NotAt.ts) (.inl ⟨rfl, rfl⟩) (by simp) ⟨fun x hx => by simp at hx, fun j c _ hc => by simp at hc⟩ (fun x => by rw [hgl x]; simp) ?_
 intro S4 v7 out i' g2 g3 g4 g8 g9 gI gE gG gB gC gA gD gL gM gF gH gO gP gT gQ gU gR gS gV gW gX gY gZ gh gj gk gn gr gz hH hU hY xF hZ xA xB xC xD xE xG xH xI xJ xK xL xM hK ho hol hrd
 have ho1 := qL ho
 simp (maxSteps:=1000000) (disch:=first|assumption|omega|rfl) only [↓gp, gc, Nat.reduceAdd]
 exact ⟨rfl, _, rfl, hK, v7, out, rfl, ho, hol, hrd⟩
section
variable {a b c : Int} {dv nv : V} {id n : Nat}
theorem zmz : qT Tryz.prog 76 3 (some (.agg [.d (.int .i64 a), .d (.int .i64 b), .d (.int .i64 c), dv, nv])) = some dv := by kernel_rfl
theorem zli : qM Tryz.prog 76 3 (.rs id 0 n) (.agg [.d (.int .i64 a), .d (.int .i64 b), .d (.int .i64 c), dv, nv]) = some (.agg [.d (.int .i64 a), .d (.int .i64 b), .d (.int .i64 c), .rs id 0 n, nv]) := by kernel_rfl
theorem zt9 : qM Tryz.prog 22 4 (.rs id 0 n) (.agg [.d (.int .i64 a), .d (.int .i64 b), .d (.int .i64 c), dv, nv]) = some (.agg [.d (.int .i64 a), .d (.int .i64 b), .d (.int .i64 c), dv, .rs id 0 n]) := by kernel_rfl
theorem zvz : qM Tryz.prog 22 4 (.ts []) (.agg [.d (.int .i64 a), .d (.int .i64 b), .d (.int .i64 c), dv, nv]) = some (.agg [.d (.int .i64 a), .d (.int .i64 b), .d (.int .i64 c), dv, .ts []]) := by kernel_rfl
theorem zp1 : qB Tryz.prog 80 (.agg [.d (.int .i64 a), .d (.int .i64 b), .d (.int .i64 c), dv, nv]) = true := by kernel_rfl
end
theorem zdw {S : zB} {T : List V} {dst : Option Tmp} {ty : TypeId} {pos : String} {after : Array Edge} {g : Option (Nat × Bool)} : opV Tryz.prog S T ⟨dst, .buildSlice 22 0 #[], ty, pos, after, g⟩ = some (.val (.ts []) S 0) := by kernel_rfl
theorem zp2 {m : Nat} : qT Tryz.prog 186 0 (some (.mr m)) = some (.mr m) := by kernel_rfl
theorem z178 : zeroV Tryz.prog 186 = some (.d .nilm) := by kernel_rfl
theorem q0k {m : Nat} : qM Tryz.prog 186 0 (.mr m) (.d .nilm) = some (.mr m) := by kernel_rfl
theorem zlj {S : zB} {nv : V} {l : List Int} (h : OwnS S nv 3 (zW l)) (h0 : l ≠ []) (hl : l.length ≤ 300000) : qN Tryz.prog S 22 22 (.ts []) nv = some (.rs S.length 0 l.length, S ++ [.row (zW l) 3], 2) := by
 obtain ⟨y, r, hyr⟩ : ∃ y r, l = y :: r := by
  cases l with
  | nil => exact absurd rfl h0
  | cons y r => exact ⟨y, r, rfl⟩
 have he : kK S nv = some (zW l) := by
  rcases h with ⟨rfl, h2⟩ | ⟨id, rfl, h2⟩
  ·subst hyr; cases h2
  ·simp only [kK, h2, Nat.zero_add, Nat.le_refl, if_true, List.drop_zero, List.take_length]
 have hs : ∀ s, nv ≠ .d (.str s) := by
  intro s hh
  rcases z1r h with h | ⟨_, _, h⟩ <;> (rw [h] at hh; cases hh)
 have hf : (zW l).all (qB Tryz.prog 3) = true := by
  rw [List.all_eq_true]
  intro x hx
  obtain ⟨y, _, rfl⟩ := List.mem_map.1 hx
  exact z8a y
 have src : srcV Tryz.prog S 3 22 nv = some (zW l) := by
  have h6 : (sz Tryz.prog 3).isSome = true := s3z
  unfold srcV
  split
  ·rename_i s; exact absurd rfl (hs s)
  ·simp only [Tryz.underlying22, he, hf, h6, Bool.and_self, if_true]
 subst hyr
 have hr : room Tryz.prog 3 (0 + ((zW r).length + 1)) = true := zk2 (by rw [qC]; simp at hl; omega)
 have hz : zOk Tryz.prog 3 = true := zsa
 have e : zW (y :: r) = .d (.int .i64 y) :: zW r := rfl
 rw [e] at src
 simp only [qN, Tryz.underlying22, src, hz, if_true, List.all_nil, List.length_nil, hr, Bool.and_self, List.map_nil, List.nil_append]
 rw [e]
 simp [qC]
theorem zn6 {S : zB} {nv : V} (h : OwnS S nv 3 (zW [])) : qN Tryz.prog S 22 22 (.ts []) nv = some (.ts [], S, 1) := by
 have he : kK S nv = some [] := by
  rcases h with ⟨rfl, h2⟩ | ⟨id, rfl, h2⟩
  ·rfl
  ·simp only [kK, h2]; rfl
 have src : srcV Tryz.prog S 3 22 nv = some [] := by
  have h6 : (sz Tryz.prog 3).isSome = true := s3z
  rcases z1r h with h | ⟨_, _, h⟩
  ·subst h; simp only [srcV, Tryz.underlying22, he, h6]; rfl
  ·subst h; simp only [srcV, Tryz.underlying22, he, h6]; rfl
 simp only [qN, Tryz.underlying22, src]
theorem ChgV.form {S : zB} {v : V} {ch : Chg} (h : ChgV S v ch) (h1 : 1 ≤ ch.data.length) : ∃ dv nv id, v = .agg [.d (.int .i64 ch.id), .d (.int .i64 ch.no), .d (.int .i64 ch.at_), dv, nv] ∧ OwnS S dv 5 (bysV ch.data) ∧ OwnS S nv 3 (zW ch.needs) ∧ dv = .rs id 0 ch.data.length := by
 obtain ⟨dv, nv, h2, h3, h4⟩ := h
 rcases h3 with ⟨rfl, h5⟩ | ⟨id, rfl, h5⟩
 ·have : (bysV ch.data).length = 0 := by rw [h5]; rfl
  unfold bysV at this
  rw [List.length_map] at this
  omega
 ·refine ⟨_, nv, id, h2, .inr ⟨id, rfl, h5⟩, h4, ?_⟩
  unfold bysV; rw [List.length_map]
theorem zk4 (S : zB) (v : V) (ch : Chg) (hv : ChgV S v ch) (hp : kP ch.at_ ch.data) (hn : ch.needs.length ≤ 300000) : EvS cfg 90 [v] S (fun o S' => Keep S S' ∧ ∃ u, o = .ret u ∧ ChgV S' u ch) := by
 obtain ⟨dv, nv, id, rfl, hd, hn3, hdv⟩ := hv.form hp.1
 refine qH rfl zxk ?_
 show Wp cfg (Tryz.f90.body.getD .skip) ((.agg [.d (.int .i64 ch.id), .d (.int .i64 ch.no), .d (.int .i64 ch.at_), dv, nv]) :: uZ ((.tup []) :: (.tup []) :: (.tup []) :: (.tup []) :: (.tup []) :: [])) S [] _
 unfold uZ
 conv => arg 2; whnf
 rw [zR]
 generalize ha : S.length = a
 have hb0 : ch.data ≠ [] := by intro h; have := hp.1; rw [h] at this; simp at this
 have hkx : ∀ s, Keep S (S ++ s) := fun s => Keep.refl.app
 have hpv : ∀ s, PatV (S ++ s) (.agg [.d (.int .i64 ch.at_), dv]) dv ch.at_ ch.data := fun s => .inl ⟨rfl, .inl ((hkx s).own hd)⟩
 have hap := fun s => (hpv s).app hb0 (by have := hp.2.1; omega)
 have hby : (rowY ch.data) = .row (bysV ch.data) 5 := rfl
 by_cases h0 : ch.needs = []
 ·have hap2 : ∀ s, qN Tryz.prog (S ++ s) 22 22 (.ts []) nv = some (.ts [], S ++ s, 1) := fun s => zn6 ((hkx s).own (h0 ▸ hn3))
  have hd1 := qL hd
  have hn1 := qL hn3
  simp (maxSteps:=1000000) (disch:=first|assumption|omega|rfl) only [↓gp, gc, Nat.reduceAdd, ↓vbs, zp1, z122, z2d, ha, rA0 ha, pA0 ha, rA1 ha, pA1 ha, zgk, zdw, z0m, zbj, z2a, zmz, zbt, hap, hap2, zli, zvz, z2c, z3s, hd1, hn1, List.append_assoc, List.length_append, List.length_cons, List.length_nil]
  refine ⟨rfl, _, z0x (x := .ref (a + 1) 0 0) rfl ((zG (rA1 ha)).trans z2c), Keep.refl.app, _, rfl, _, _, rfl, ?_, ?_⟩
  ·refine .inr ⟨a + 2, ?_, ?_⟩
   ·unfold bysV; rw [List.length_map]
   ·rw [List.getElem?_append_right (by omega), ha, Nat.add_sub_cancel_left]; rfl
  ·rw [h0]; exact .inl ⟨rfl, rfl⟩
 ·have hap2 : ∀ s, qN Tryz.prog (S ++ s) 22 22 (.ts []) nv = some (.rs (S ++ s).length 0 ch.needs.length, (S ++ s) ++ [.row (zW ch.needs) 3], 2) := fun s => zlj ((hkx s).own hn3) h0 hn
  have hd1 := qL hd
  have hn1 := qL hn3
  simp (maxSteps:=1000000) (disch:=first|assumption|omega|rfl) only [↓gp, gc, Nat.reduceAdd, ↓vbs, zp1, z122, z2d, ha, rA0 ha, pA0 ha, rA1 ha, pA1 ha, zgk, zdw, z0m, zbj, z2a, zmz, zbt, hap, hap2, zli, zt9, z2c, z3s, hd1, hn1, List.append_assoc, List.length_append, List.length_cons, List.length_nil]
  refine ⟨rfl, _, z0x (x := .ref (a + 1) 0 0) rfl ((zG (rA1 ha)).trans z2c), Keep.refl.app, _, rfl, _, _, rfl, ?_, ?_⟩
  ·refine .inr ⟨a + 2, ?_, ?_⟩
   ·unfold bysV; rw [List.length_map]
   ·rw [List.getElem?_append_right (by omega), ha, Nat.add_sub_cancel_left]; rfl
  ·refine .inr ⟨a + 3, ?_, ?_⟩
   ·rw [qC]
   ·rw [List.getElem?_append_right (by omega), ha, Nat.add_sub_cancel_left]; rfl
theorem zyc (S : zB) (v : V) (ch : Chg) (hv : ChgV S v ch) (p m : Nat) (g : Int → Int) (hp : S[p]? = some (.row [.mr m] 186)) (hm : MG S m g) : EvS cfg 129 [v, .ref p 0 0] S (fun o S' => Keep S S' ∧ o = .ret (.d (.bool (decide (g ch.id = 0))))) := by
 obtain ⟨dv, nv, rfl, hd, hn3⟩ := hv
 refine qH rfl zso ?_
 show Wp cfg (Tryz.f129.body.getD .skip) ((.agg [.d (.int .i64 ch.id), .d (.int .i64 ch.no), .d (.int .i64 ch.at_), dv, nv]) :: (.ref p 0 0) :: (.tup []) :: (.tup []) :: (.tup []) :: (.tup []) :: (.tup []) :: (.tup []) :: (.tup []) :: []) S [] _
 conv => arg 2; whnf
 rw [zR]
 have hk : Keep S (S ++ [.row [.agg [.d (.int .i64 ch.id), .d (.int .i64 ch.no), .d (.int .i64 ch.at_), dv, nv]] 80]) := Keep.refl.app
 have hr : ∀ s, rowE (S ++ s) p 0 = some (.mr m) := fun s => zD (e := 186) ((Keep.refl.app (l := s)) _ _ hp)
 have hlk := (hm.keep hk).look ch.id
 generalize ha : S.length = a
 simp (maxSteps:=1000000) (disch:=first|assumption|omega|rfl) only [↓gp, gc, Nat.reduceAdd, zp1, ha, rA0 ha, hr, zp2, z0u, z0l, hlk]
 exact ⟨rfl, _, rfl, hk, rfl⟩
theorem mfWi {S : zB} {a : Nat} : mfS (.func 129) S [] [.ref a 0 0] = some (.val (.fn (.func 129) [] [.ref a 0 0]) S 0) := z15 rfl
theorem zmh {f : Fn} {a b : List V} : (V.fn f a b).one = true := rfl
theorem cvWi {v : V} {p : Nat} (h : v.one = true) : cvV Tryz.prog [v] (.fn (.func 129) [] [.ref p 0 0]) = some (.enter 129 [v, .ref p 0 0]) := zio (by simp [h]) zsf
theorem ChgV.keep {S S' : zB} {v : V} {ch : Chg} (h : ChgV S v ch) (hk : Keep S S') : ChgV S' v ch := h.mono (fun _ _ => hk.own) (fun _ _ => hk.own)
theorem ChgsV.keep {S S' : zB} {es : List V} {l : List Chg} (h : ChgsV S es l) (hk : Keep S S') : ChgsV S' es l := h.mono (fun _ _ => hk.own) (fun _ _ => hk.own)
theorem z3o {S : zB} {v : V} {e : TypeId} {xs ys : List V} {i : Nat} {o : Ob} (h : OwnS S v e xs) (hi : S[i]? = some (.row ys 80)) (he : e ≠ 80) : OwnS (S.set i o) v e xs := by
 rcases h with h | ⟨id, rfl, h2⟩
 ·exact .inl h
 ·refine .inr ⟨id, rfl, ?_⟩
  rw [List.getElem?_set_ne (by rintro rfl; cases getE hi h2; exact he rfl)]
  exact h2
theorem ChgsV.set122 {S : zB} {es : List V} {l : List Chg} {ys : List V} {i : Nat} {o : Ob} (h : ChgsV S es l) (hi : S[i]? = some (.row ys 80)) : ChgsV (S.set i o) es l := h.mono (fun _ _ hh => z3o hh hi (by decide)) (fun _ _ hh => z3o hh hi (by decide))
theorem ChgsV.snoc {S : zB} {es : List V} {l : List Chg} {e : V} {ch : Chg} (h : ChgsV S es l) (he : ChgV S e ch) : ChgsV S (es ++ [e]) (l ++ [ch]) := by
 refine ⟨by rw [List.length_append, List.length_append, h.1]; rfl, fun i v c hv hc => ?_⟩
 rcases Nat.lt_or_ge i es.length with hi | hi
 ·rw [List.getElem?_append_left hi] at hv
  rw [List.getElem?_append_left (by rw [← h.1]; exact hi)] at hc
  exact h.2 i v c hv hc
 ·rw [List.getElem?_append_right hi] at hv
  rw [List.getElem?_append_right (by rw [← h.1]; exact hi), ← h.1] at hc
  have hz : i - es.length = 0 := by
   have := (List.getElem?_eq_some_iff.1 hv).1
   simp at this
   omega
  rw [hz] at hv hc
  cases hv
  cases hc
  exact he
theorem zwv {S : zB} {v u : V} {es : List V} {l : List Chg} {ch : Chg} (ho : OwnS S v 80 es) (hc : ChgsV S es l) (hu : ChgV S u ch) (h1 : 1 ≤ ch.data.length) (hl : es.length ≤ 200000) :
  ∃ v' S', (∃ k, bs1 Tryz.prog S 74 u = some (.val (.rs S.length 0 1) (S ++ [.row [u] 80]) k)) ∧ (∃ k, qN Tryz.prog (S ++ [.row [u] 80]) 74 74 v (.rs S.length 0 1) = some (v', S', k)) ∧ OwnS S' v' 80 (es ++ [u]) ∧ ChgsV S' (es ++ [u]) (l ++ [ch]) ∧ (∀ j o, S[j]? = some o → NotAt v j → S'[j]? = some o ∧ NotAt v' j) := by
 obtain ⟨dv, nv, id, hue, hd, hn, hdv⟩ := hu.form h1
 have hu0 := hu
 have hk : Keep S (S ++ [.row [u] 80]) := Keep.refl.app
 have hf : qB Tryz.prog 80 u = true := by rw [hue]; exact zp1
 have hb : bs1 Tryz.prog S 74 u = some (.val (.rs S.length 0 1) (S ++ [.row [u] 80]) 2) := by rw [hue, hdv]; exact q0w (z1r hn)
 have hx : (S ++ [Ob.row [u] 80])[S.length]? = some (.row [u] 80) := by simp
 rcases zgv u119 zra s122 (hk.own ho) hx hf (zk5 (by omega)) with ⟨rfl, rfl, hap⟩ | ⟨i, rfl, hi, hap⟩
 ·refine ⟨_, _, ⟨2, hb⟩, ⟨_, hap⟩, ?_, ?_, ?_⟩
  ·refine .inr ⟨(S ++ [Ob.row [u] 80]).length, rfl, ?_⟩
   rw [List.getElem?_append_right (Nat.le_refl _), Nat.sub_self]; rfl
  ·exact ((hc.keep hk).keep Keep.refl.app).snoc ((hu.keep hk).keep Keep.refl.app)
  ·intro j o hj _
   refine ⟨(hk.app) j o hj, ?_⟩
   intro off k hh
   have := zQ hj
   cases hh
   simp at this
   omega
 ·have hl0 : i < S.length := by
   rcases ho with ⟨hh, _⟩ | ⟨id', hh, h2⟩
   ·cases hh
   ·cases hh; exact zQ h2
  refine ⟨_, _, ⟨2, hb⟩, ⟨_, hap⟩, ?_, ?_, ?_⟩
  ·refine .inr ⟨(S ++ [Ob.row [u] 80]).length, by rw [show (es ++ [u]).length = es.length + 1 from by simp], ?_⟩
   rw [List.getElem?_append_right (by rw [List.length_set]; exact Nat.le_refl _), List.length_set, Nat.sub_self]; rfl
  ·exact (((hc.keep hk).set122 hi).keep Keep.refl.app).snoc ((((hu.keep hk)).mono (fun _ _ hh => z3o hh hi (by decide)) (fun _ _ hh => z3o hh hi (by decide))).keep Keep.refl.app)
  ·intro j o hj hn
   have hj2 := zQ hj
   refine ⟨?_, ?_⟩
   ·rw [List.getElem?_append_left (by rw [List.length_set, List.length_append]; omega), List.getElem?_set_ne (by rintro rfl; exact hn _ _ rfl)]
    exact hk j o hj
   ·intro off k hh
    cases hh
    simp at hj2
    omega
theorem zud (p m : Nat) (g : Int → Int) (S0 : zB) (hp : S0[p]? = some (.row [.mr m] 186)) (hm : MG S0 m g) (L : V) (es : List V) (l : List Chg) (hL : OwnS S0 L 80 es) (hl : ChgsV S0 es l) (hes : es.length ≤ 150000) (n last : Nat) (hlast : last ≤ 100000) (hok : ∀ ch ∈ l, z6q n last ch) (R : Post) :
 ∀ (k i : Nat) (S : zB) (v5 : V) (fs : List V) (g0 g2 g3 g4 g6 g7 gE gG gB gC gA gD gL gM gF gK gN gJ gH : V), l.length - i = k → i ≤ l.length → Keep S0 S → (∀ j, j < S0.length → NotAt v5 j) → OwnS S v5 80 fs → ChgsV S fs ((l.take i).filter fun ch => decide (g ch.id = 0)) →
 (∀ S v5 fs i' g0 g2 g3 g4 g6 g7 gE gG gB gC gA gD gL gM gF gK gN gJ gH, Keep S0 S → (∀ j, j < S0.length → NotAt v5 j) → OwnS S v5 80 fs → ChgsV S fs (l.filter fun ch => decide (g ch.id = 0)) → R (.exit 0) (g0 :: (.fn (.func 129) [] [.ref p 0 0]) :: g2 :: g3 :: g4 :: v5 :: g6 :: g7 :: L :: (.d (.int .i64 (l.length : Int))) :: i' :: gE :: gG :: gB :: gC :: gA :: gD :: gL :: gM :: gF :: gK :: gN :: gJ :: gH :: []) S []) →
 Wp cfg (.loop (lpOf (Tryz.f128.body.getD .skip) 0)) (g0 :: (.fn (.func 129) [] [.ref p 0 0]) :: g2 :: g3 :: g4 :: v5 :: g6 :: g7 :: L :: (.d (.int .i64 (l.length : Int))) :: (.d (.int .i64 (i : Int))) :: gE :: gG :: gB :: gC :: gA :: gD :: gL :: gM :: gF :: gK :: gN :: gJ :: gH :: []) S [] R := by
 intro k
 have hll := hl.1
 induction k with
 | zero =>
  intro i S v5 fs g0 g2 g3 g4 g6 g7 gE gG gB gC gA gD gL gM gF gK gN gJ gH hk hi hK hN ho hc hR
  have hie : i = l.length := by omega
  subst hie
  rw [List.take_length] at hc
  rw [zR]
  refine zL ?_
  conv => arg 2; whnf
  simp (maxSteps:=1000000) (disch:=first|assumption|omega|rfl) only [↓gp, gc, Nat.reduceAdd]
  exact hR _ _ _ _ _ _ _ _ _ _ _ _ _ _ _ _ _ _ _ _ _ _ _ hK hN ho hc
 | succ k ih =>
  intro i S v5 fs g0 g2 g3 g4 g6 g7 gE gG gB gC gA gD gL gM gF gK gN gJ gH hk hi hK hN ho hc hR
  have hlt : i < l.length := by omega
  have hlt2 : i < es.length := by omega
  obtain ⟨id', hix, hre, _⟩ := wH u119 s122 (hK.own hL) hlt2
  have hcv := hl.2 i es[i] l[i] (List.getElem?_eq_getElem hlt2) (List.getElem?_eq_getElem hlt)
  have h3 : IntKind.i64.wrap ((i : Int) + 1) = ((i + 1 : Nat) : Int) := by rw [wrap64 (by omega)]; omega
  obtain ⟨g1, g2, g3, g4, g5, g6, g7⟩ := hok l[i] (List.getElem_mem hlt)
  have hnl : l[i].needs.length ≤ 300000 := by have := z7y g6 (fun x hx => (g7 x hx).1) (fun x hx => (g7 x hx).2) (by omega); omega
  have hfl : fs.length ≤ 150000 := by
   rw [hc.1]
   have := List.length_filter_le (fun ch : Chg => decide (g ch.id = 0)) (l.take i)
   rw [List.length_take] at this
   omega
  have hv1 : (V.fn (.func 129) [] [.ref p 0 0]).one = true := rfl
  have hsn : (l.take (i + 1)).filter (fun ch => decide (g ch.id = 0)) = (l.take i).filter (fun ch => decide (g ch.id = 0)) ++ (if g l[i].id = 0 then [l[i]] else []) := by
   rw [kT hlt, List.filter_append]
   by_cases h : g l[i].id = 0 <;> simp [h]
  generalize hev : es[i] = ev at *
  obtain ⟨dv, nv, id, hue, hd, hn, hdv⟩ := hcv.form g1.1
  have hone : ev.one = true := by rw [hue]; rfl
  have hl122 : qT Tryz.prog 80 0 (some ev) = some ev := by rw [hue]; exact z2c
  have hs122 : qM Tryz.prog 80 0 ev (.agg [.d (.int .i64 0), .d (.int .i64 0), .d (.int .i64 0), .ts [], .ts []]) = some ev := by rw [hue]; exact z3s
  have hkx : Keep S (S ++ [.row [ev] 80]) := Keep.refl.app
  have hk0 := hK.trans hkx
  obtain ⟨o, S2, ⟨hK2, rfl⟩, hE⟩ := qF (zyc (S ++ [.row [ev] 80]) ev l[i] (hcv.keep hk0) p m g (hk0 _ _ hp) (hm.keep hk0))
  have hE := fun {ops dst k T F Q} => zH (ops := ops) (dst := dst) (l := k) (T := T) (F := F) (Q := Q) rfl hE
  have hcvv := cvWi (p := p) hone
  have hK02 := hk0.trans hK2
  generalize ha : S.length = a
  have hrow : S2[a]? = some (.row [ev] 80) := hK2 _ _ (by subst ha; simp)
  have hra := zD (e := 80) hrow
  rw [zR]
  refine zL ?_
  conv => arg 2; whnf
  by_cases hg : g l[i].id = 0
  ·rw [decide_eq_true hg] at hE
   rw [if_pos hg] at hsn
   obtain ⟨o, S3, ⟨hK3, u, rfl, hu⟩, hE3⟩ := qF (zk4 S2 ev l[i] (hcv.keep hK02) g1 hnl)
   have hE3 := fun {ops dst k T F Q} => zH (ops := ops) (dst := dst) (l := k) (T := T) (F := F) (Q := Q) rfl hE3
   have hkt := (hkx.trans hK2).trans hK3
   obtain ⟨v', S4, ⟨kb, hb⟩, ⟨ka, hap⟩, ho4, hc4, hfr⟩ := zwv (hkt.own ho) (hc.keep hkt) hu g1.1 (by omega)
   have hu1 : u.one = true := by obtain ⟨_, _, hh, _⟩ := hu; rw [hh]; rfl
   simp (maxSteps:=1000000) (disch:=first|assumption|omega|rfl) only [↓gp, gc, Nat.reduceAdd, ↓vI, ↓vbs, hix, hre, hl122, z122, z2d, hs122, ha, rA0 ha, pA0 ha, hcvv, hone, hE, zsf, hra, hE3, bo90, hb, hap, hu1, h3]
   refine ih (i + 1) S4 v' _ _ _ _ _ _ _ _ _ _ _ _ _ _ _ _ _ _ _ _ (by omega) (by omega) (fun j q hj => (hfr j q ((hK02.trans hK3) j q hj) (hN j (zQ hj))).1) (fun j hj => (hfr j _ ((hK02.trans hK3) j _ (List.getElem?_eq_getElem hj)) (hN j hj)).2) ho4 ?_ hR
   rw [hsn]; exact hc4
  ·rw [decide_eq_false hg] at hE
   rw [if_neg hg, List.append_nil] at hsn
   simp (maxSteps:=1000000) (disch:=first|assumption|omega|rfl) only [↓gp, gc, Nat.reduceAdd, ↓vI, hix, hre, hl122, z122, z2d, hs122, ha, rA0 ha, pA0 ha, hcvv, hone, hE, zsf, h3]
   refine ih (i + 1) S2 v5 fs _ _ _ _ _ _ _ _ _ _ _ _ _ _ _ _ _ _ _ (by omega) (by omega) hK02 hN ((hkx.trans hK2).own ho) ?_ hR
   rw [hsn]; exact hc.keep (hkx.trans hK2)
theorem zpx (S : zB) (p m : Nat) (g : Int → Int) (hp : S[p]? = some (.row [.mr m] 186)) (hm : MG S m g) (L : V) (es : List V) (l : List Chg) (hL : OwnS S L 80 es) (hl : ChgsV S es l) (hes : es.length ≤ 150000) (n last : Nat) (hlast : last ≤ 100000) (hok : ∀ ch ∈ l, z6q n last ch) :
  EvS cfg 128 [L, .fn (.func 129) [] [.ref p 0 0]] S (fun o S' => Keep S S' ∧ ∃ v fs, o = .ret v ∧ OwnS S' v 80 fs ∧ ChgsV S' fs (l.filter fun ch => decide (g ch.id = 0))) := by
 refine qH rfl zsc ?_
 show Wp cfg (Tryz.f128.body.getD .skip) (L :: (.fn (.func 129) [] [.ref p 0 0]) :: uZ (uZ ((.tup []) :: (.tup []) :: []))) S [] _
 unfold uZ
 conv => arg 2; whnf
 rw [zR]
 have hln : zO Tryz.prog S .len [74] [L] = some (.val (.d (.int .i64 (l.length : Int))) S 0) := by rw [wC u119 hL, hl.1]
 simp (maxSteps:=1000000) (disch:=first|assumption|omega|rfl) only [↓gp, gc, Nat.reduceAdd, hln]
 refine zud p m g S hp hm L es l hL hl hes n last hlast hok _ l.length 0 S (.ts []) [] _ _ _ _ _ _ _ _ _ _ _ _ _ _ _ _ _ _ _ rfl (Nat.zero_le _) Keep.refl (fun j _ => NotAt.ts) (.inl ⟨rfl, rfl⟩) ⟨rfl, fun i e ch he => by simp at he⟩ ?_
 intro S2 v5 fs i' g0 g2 g3 g4 g6 g7 gE gG gB gC gA gD gL gM gF gK gN gJ gH hK hN ho hc
 have ho1 := qL ho
 simp (maxSteps:=1000000) (disch:=first|assumption|omega|rfl) only [↓gp, gc, Nat.reduceAdd]
 exact ⟨rfl, _, rfl, hK, v5, fs, rfl, ho, hc⟩
def inG (l : List Int) : Int → Int := fun n => if n ∈ l then 1 else 0
theorem zh5 {l : List Int} {k : Int} : updG (inG l) k 1 = inG (l ++ [k]) := by
 funext n
 unfold updG inG
 by_cases e : n = k
 ·rw [if_pos e, if_pos (by rw [e]; simp)]
 ·rw [if_neg e]
  by_cases h : n ∈ l
  ·rw [if_pos h, if_pos (List.mem_append_left _ h)]
  ·rw [if_neg h, if_neg (by simp [h, e])]
theorem zxj (S0 : zB) (p m : Nat) (hp : S0.length ≤ p) (hmm : S0.length ≤ m) (hpm : p ≠ m) (v9 : V) (ids : List Int) (hv : OwnS S0 v9 3 (zW ids)) (hl : ids.length ≤ 300000) (L : V) (R : Post) :
 ∀ (k i : Nat) (S : zB) (g1 g2 g3 g4 g6 g7 g8 gG gB gC gA gD gL gM gF gK : V), ids.length - i = k → i ≤ ids.length → Keep S0 S → S[p]? = some (.row [.mr m] 186) → MG S m (inG (ids.take i)) →
 (∀ S i' g1 g2 g3 g4 g6 g7 g8 gG gB gC gA gD gL gM gF gK, Keep S0 S → S[p]? = some (.row [.mr m] 186) → MG S m (inG ids) → R (.exit 0) (L :: g1 :: g2 :: g3 :: g4 :: (.ref p 0 0) :: g6 :: g7 :: g8 :: v9 :: (.d (.int .i64 (ids.length : Int))) :: i' :: gG :: gB :: gC :: gA :: gD :: gL :: gM :: gF :: gK :: []) S []) →
 Wp cfg (.loop (lpOf (Tryz.f89.body.getD .skip) 0)) (L :: g1 :: g2 :: g3 :: g4 :: (.ref p 0 0) :: g6 :: g7 :: g8 :: v9 :: (.d (.int .i64 (ids.length : Int))) :: (.d (.int .i64 (i : Int))) :: gG :: gB :: gC :: gA :: gD :: gL :: gM :: gF :: gK :: []) S [] R := by
 intro k
 induction k with
 | zero =>
  intro i S g1 g2 g3 g4 g6 g7 g8 gG gB gC gA gD gL gM gF gK hk hi hK hr hm hR
  have hie : i = ids.length := by omega
  subst hie
  rw [List.take_length] at hm
  rw [zR]
  refine zL ?_
  conv => arg 2; whnf
  simp (maxSteps:=1000000) (disch:=first|assumption|omega|rfl) only [↓gp, gc, Nat.reduceAdd]
  exact hR _ _ _ _ _ _ _ _ _ _ _ _ _ _ _ _ _ _ hK hr hm
 | succ k ih =>
  intro i S g1 g2 g3 g4 g6 g7 g8 gG gB gC gA gD gL gM gF gK hk hi hK hr hm hR
  have hlt : i < ids.length := by omega
  have h3 : IntKind.i64.wrap ((i : Int) + 1) = ((i + 1 : Nat) : Int) := by rw [wrap64 (by omega)]; omega
  obtain ⟨id, hix, hre, _⟩ := wH Tryz.underlying22 s3z (hK.own hv) (i := i) (by rw [qC]; exact hlt)
  have hre : rowE S id i = some (.d (.int .i64 ids[i])) := by rw [hre]; simp [zW]
  have hrp := zD (e := 186) hr
  obtain ⟨o, ho, hm2, _⟩ := hm.put ids[i] 1
  rw [zR]
  refine zL ?_
  conv => arg 2; whnf
  simp (maxSteps:=1000000) (disch:=first|assumption|omega|rfl) only [↓gp, gc, Nat.reduceAdd, hix, hre, ld3r, hrp, zp2, ho, h3]
  refine ih (i + 1) _ _ _ _ _ _ _ _ _ _ _ _ _ _ _ _ _ (by omega) (by omega) (hK.set hmm) (by rw [List.getElem?_set_ne (Ne.symm hpm)]; exact hr) ?_ hR
  rw [kT hlt, ← zh5]
  exact hm2
theorem zb5 (S : zB) (L : V) (es : List V) (l : List Chg) (hL : OwnS S L 80 es) (hl : ChgsV S es l) (hes : es.length ≤ 150000) (n last : Nat) (hlast : last ≤ 100000) (hok : ∀ ch ∈ l, z6q n last ch) (v9 : V) (ids : List Int) (hv : OwnS S v9 3 (zW ids)) (hidl : ids.length ≤ 300000) :
  EvS cfg 89 [L, v9] S (fun o S' => Keep S S' ∧ ∃ v fs, o = .ret v ∧ OwnS S' v 80 fs ∧ ChgsV S' fs (l.filter fun ch => decide (ch.id ∉ ids))) := by
 refine qH rfl zxr ?_
 show Wp cfg (Tryz.f89.body.getD .skip) (L :: v9 :: uZ ((.tup []) :: (.tup []) :: (.tup []) :: (.tup []) :: (.tup []) :: (.tup []) :: (.tup []) :: (.tup []) :: (.tup []) :: [])) S [] _
 unfold uZ
 conv => arg 2; whnf
 rw [zR]
 generalize ha : S.length = a
 have hln : ∀ s, zO Tryz.prog (S ++ s) .len [22] [v9] = some (.val (.d (.int .i64 (ids.length : Int))) (S ++ s) 0) := fun s => by rw [wC Tryz.underlying22 ((Keep.refl.app (l := s)).own hv), qC]
 have hL1 := qL hL
 simp (maxSteps:=1000000) (disch:=first|assumption|omega|rfl) only [↓gp, gc, Nat.reduceAdd, ↓z1g, z178, q0k, List.append_assoc, List.length_append, List.length_cons, List.length_nil, ha, rA1 ha, pA1 ha, hln]
 have h0 : MG (S ++ [Ob.mp [] 0, Ob.row [V.mr a] 186]) a (inG (ids.take 0)) := by
  have := MG.nil (S := S ++ [Ob.mp [] 0, Ob.row [V.mr a] 186]) (m := a) (c := 0) (by rw [List.getElem?_append_right (by omega), ha, Nat.sub_self]; rfl)
  have e : inG (ids.take 0) = fun _ => 0 := by funext n; simp [inG]
  rw [e]; exact this
 refine zxj S (a + 1) a (by omega) (by omega) (by omega) v9 ids hv hidl L _ ids.length 0 _ _ _ _ _ _ _ _ _ _ _ _ _ _ _ _ _ rfl (Nat.zero_le _) Keep.refl.app (by rw [List.getElem?_append_right (by omega), ha, Nat.add_sub_cancel_left]; rfl) h0 ?_
 intro S2 i' g1 g2 g3 g4 g6 g7 g8 gG gB gC gA gD gL gM gF gK hK hr hm
 obtain ⟨o, S3, ⟨hK3, v, fs, rfl, ho, hc⟩, hE⟩ := qF (zpx S2 (a + 1) a _ hr hm L es l (hK.own hL) (hl.keep hK) hes n last hlast hok)
 have hE := fun {ops dst k T F Q} => zH (ops := ops) (dst := dst) (l := k) (T := T) (F := F) (Q := Q) rfl hE
 have ho1 := qL ho
 simp (maxSteps:=1000000) (disch:=first|assumption|omega|rfl) only [↓gp, gc, Nat.reduceAdd, jS, mfWi, zmh, hL1, hE, zyt]
 refine ⟨rfl, _, rfl, hK.trans hK3, v, fs, rfl, ho, ?_⟩
 have e : (l.filter fun ch => decide (inG ids ch.id = 0)) = l.filter fun ch => decide (ch.id ∉ ids) := by
  congr 1
  funext ch
  unfold inG
  by_cases h : ch.id ∈ ids <;> simp [h]
 rw [← e]; exact hc
theorem mfIm {S : zB} {a : Nat} : mfS (.func 143) S [] [.ref a 0 0] = some (.val (.fn (.func 143) [] [.ref a 0 0]) S 0) := z15 rfl
theorem cvIm {n : Int} {p : Nat} : cvV Tryz.prog [.d (.int .i64 n)] (.fn (.func 143) [] [.ref p 0 0]) = some (.enter 143 [.d (.int .i64 n), .ref p 0 0]) := zio rfl zt0
theorem zzm (S : zB) (n : Int) (p m : Nat) (g : Int → Int) (hp : S[p]? = some (.row [.mr m] 186)) (hm : MG S m g) : EvS cfg 143 [.d (.int .i64 n), .ref p 0 0] S (fun o S' => S' = S ∧ o = .ret (.d (.bool (decide (g n = 1))))) := by
 refine qH rfl zw1 ?_
 show Wp cfg (Tryz.f143.body.getD .skip) ((.d (.int .i64 n)) :: (.ref p 0 0) :: (.tup []) :: (.tup []) :: (.tup []) :: (.tup []) :: (.tup []) :: (.tup []) :: []) S [] _
 conv => arg 2; whnf
 rw [zR]
 have hr := zD (e := 186) hp
 have hlk := hm.look n
 simp (maxSteps:=1000000) (disch:=first|assumption|omega|rfl) only [↓gp, gc, Nat.reduceAdd, hr, zp2, hlk]
 exact ⟨rfl, _, rfl, rfl, rfl⟩
def rolL (b : List UInt8) (l : List Chg) (no : Int) (ids : List Int) : List UInt8 := seeL b (l.filter fun ch => decide (ch.id ∈ ids)) no
theorem z1y {b : List UInt8} {no : Int} {l : List Chg} {ids : List Int} (hb : b.length = 256) (h : ∀ ch ∈ l, kP ch.at_ ch.data) : (rolL b l no ids).length = 256 := z7z hb fun ch hch => h ch (List.mem_filter.1 hch).1
theorem zee {b : List UInt8} {l : List Chg} {ch : Chg} {no : Int} {ids : List Int} : rolL b (l ++ [ch]) no ids = if ch.no = no ∧ ch.id ∈ ids then layB (rolL b l no ids) ch.at_.toNat ch.data else rolL b l no ids := by
 unfold rolL
 rw [List.filter_append]
 by_cases h : ch.id ∈ ids
 ·have : ([ch].filter fun ch => decide (ch.id ∈ ids)) = [ch] := by simp [h]
  rw [this, z1a]
  by_cases h2 : ch.no = no
  ·rw [if_pos h2, if_pos ⟨h2, h⟩]
  ·rw [if_neg h2, if_neg (fun hh => h2 hh.1)]
 ·have : ([ch].filter fun ch => decide (ch.id ∈ ids)) = [] := by simp [h]
  rw [this, List.append_nil, if_neg (fun hh => h hh.2)]
theorem q0j (no : Int) (ids : List Int) (p m a4 a8 : Nat) (S0 : zB) (hp : S0[p]? = some (.row [.mr m] 186)) (hm : MG S0 m (inG ids)) (b : List UInt8) (hb : b.length = 256) (L : V) (es : List V) (l : List Chg) (hL : OwnS S0 L 80 es) (hl : ChgsV S0 es l) (hok : ∀ ch ∈ l, kP ch.at_ ch.data) (hes : es.length ≤ 1000000) (h48 : a4 ≠ a8) (R : Post) :
 ∀ (k i : Nat) (S : zB) (u : V) (g0 g1 g5 g6 g7 g9 gI gC gA gD gL gM gF gK gN gJ gH gO gP gT gQ gU gR gS gV gW : V), l.length - i = k → i ≤ l.length → Keep S0 S → S0.length ≤ a4 → S[a4]? = some (.row [u] 42) → S[a8]? = some (.row [blkV (zK 256)] 42) → IsB u (rolL b (l.take i) no ids) →
 (∀ S' u' i' g0 g1 g5 g6 g7 g9 gI gC gA gD gL gM gF gK gN gJ gH gO gP gT gQ gU gR gS gV gW, Keep S0 S' → S'[a4]? = some (.row [u'] 42) → S'[a8]? = some (.row [blkV (zK 256)] 42) → IsB u' (rolL b l no ids) → R (.exit 0) (g0 :: g1 :: (.d (.int .i64 no)) :: (.fn (.func 143) [] [.ref p 0 0]) :: (.ref a4 0 0) :: g5 :: g6 :: g7 :: (.ref a8 0 0) :: g9 :: gI :: L :: (.d (.int .i64 (l.length : Int))) :: i' :: gC :: gA :: gD :: gL :: gM :: gF :: gK :: gN :: gJ :: gH :: gO :: gP :: gT :: gQ :: gU :: gR :: gS :: gV :: gW :: []) S' []) →
 Wp cfg (.loop (lpOf (Tryz.f142.body.getD .skip) 0)) (g0 :: g1 :: (.d (.int .i64 no)) :: (.fn (.func 143) [] [.ref p 0 0]) :: (.ref a4 0 0) :: g5 :: g6 :: g7 :: (.ref a8 0 0) :: g9 :: gI :: L :: (.d (.int .i64 (l.length : Int))) :: (.d (.int .i64 (i : Int))) :: gC :: gA :: gD :: gL :: gM :: gF :: gK :: gN :: gJ :: gH :: gO :: gP :: gT :: gQ :: gU :: gR :: gS :: gV :: gW :: []) S [] R := by
 intro k
 have hll := hl.1
 induction k with
 | zero =>
  intro i S u g0 g1 g5 g6 g7 g9 gI gC gA gD gL gM gF gK gN gJ gH gO gP gT gQ gU gR gS gV gW hk hi hK ha7 hS hS8 hu hR
  have hie : i = l.length := by omega
  subst hie
  rw [List.take_length] at hu
  rw [zR]
  refine zL ?_
  conv => arg 2; whnf
  simp (maxSteps:=1000000) (disch:=first|assumption|omega|rfl) only [↓gp, gc, Nat.reduceAdd]
  exact hR _ _ _ _ _ _ _ _ _ _ _ _ _ _ _ _ _ _ _ _ _ _ _ _ _ _ _ _ _ hK hS hS8 hu
 | succ k ih =>
  intro i S u g0 g1 g5 g6 g7 g9 gI gC gA gD gL gM gF gK gN gJ gH gO gP gT gQ gU gR gS gV gW hk hi hK ha7 hS hS8 hu hR
  have hlt : i < l.length := by omega
  have hlt2 : i < es.length := by omega
  obtain ⟨id, hix, hre, _⟩ := wH u119 s122 (hK.own hL) hlt2
  obtain ⟨dv, nv, he, hd5, hn3⟩ := hl.2 i es[i] l[i] (List.getElem?_eq_getElem hlt2) (List.getElem?_eq_getElem hlt)
  rw [he] at hre
  have hpk := hok l[i] (List.getElem_mem hlt)
  have h3 : IntKind.i64.wrap ((i : Int) + 1) = ((i + 1 : Nat) : Int) := by rw [wrap64 (by omega)]; omega
  have hsl := z1y (no := no) (ids := ids) hb (l := l.take i) (fun ch hch => hok ch (List.mem_of_mem_take hch))
  have hsn : rolL b (l.take (i + 1)) no ids = if l[i].no = no ∧ l[i].id ∈ ids then layB (rolL b (l.take i) no ids) l[i].at_.toNat l[i].data else rolL b (l.take i) no ids := by
   rw [kT hlt]
   exact zee
  have hkx : Keep S (S ++ [.row [.agg [.d (.int .i64 l[i].id), .d (.int .i64 l[i].no), .d (.int .i64 l[i].at_), dv, nv]] 80]) := Keep.refl.app
  have hk0 := hK.trans hkx
  obtain ⟨o, S2, ⟨rfl, rfl⟩, hE⟩ := qF (zzm _ l[i].id p m _ (hk0 _ _ hp) (hm.keep hk0))
  have hE := fun {ops dst k T F Q} => zH (ops := ops) (dst := dst) (l := k) (T := T) (F := F) (Q := Q) rfl hE
  have hcv := cvIm (n := l[i].id) (p := p)
  generalize ha : S.length = a
  have hal := zQ hS
  have hr7 : ∀ o, rowE (S ++ [o]) a4 0 = some u := fun o => zD (e := 42) (by rw [List.getElem?_append_left hal]; exact hS)
  have hp7 : ∀ o y, jQ (S ++ [o]) a4 0 y = some (S.set a4 (.row [y] 42) ++ [o]) := fun o y => by
   rw [qJ (x := u) (e := 42) (by rw [List.getElem?_append_left hal]; exact hS), List.set_append_left _ _ hal]
  have hld := bt42.load hu hsl
  have hu1 := hu.one
  have hcl := fun {ops dst k T F Q} => zcr (ops := ops) (dst := dst) (k := k) (T := T) (F := F) (Q := Q) (S := S ++ [.row [.agg [.d (.int .i64 l[i].id), .d (.int .i64 l[i].no), .d (.int .i64 l[i].at_), dv, nv]] 80]) hu hsl ((Keep.app hK).own hd5) hpk
  have hst := bt42.store (v := .d (blkD (layB (rolL b (l.take i) no ids) l[i].at_.toNat l[i].data))) jT (by obtain ⟨_, _, p3, p4⟩ := hpk; rw [jB (by omega), hsl]) hu hsl
  rw [zR]
  refine zL ?_
  conv => arg 2; whnf
  by_cases hno : l[i].no = no
  ·have hde : ∀ i' : Decidable (l[i].no = no), @decide (l[i].no = no) i' = true := fun i' => decide_eq_true hno
   by_cases hin : l[i].id ∈ ids
   ·rw [if_pos ⟨hno, hin⟩] at hsn
    have hg : inG ids l[i].id = 1 := if_pos hin
    rw [decide_eq_true hg] at hE
    simp (maxSteps:=1000000) (disch:=first|assumption|omega|rfl) only [↓gp, gc, Nat.reduceAdd, ↓vI, hix, hre, z2c, z122, z2d, z3s, ha, rA0 ha, pA0 ha, z0u, z0k, z0m, z0l, z0h, z25, hde, hcv, hE, zt0, hr7, hp7, hld, hcl, hst, hu1, zru, h3]
    refine ih (i + 1) _ (.d (blkD (layB (rolL b (l.take i) no ids) l[i].at_.toNat l[i].data))) _ _ _ _ _ _ _ _ _ _ _ _ _ _ _ _ _ _ _ _ _ _ _ _ _ _ (by omega) (by omega) (Keep.app (hK.set ha7)) ha7 ?_ ?_ (by rw [hsn]; exact jT) hR
    ·rw [List.getElem?_append_left (by rw [List.length_set]; exact hal), List.getElem?_set_self hal]
    ·rw [List.getElem?_append_left (by rw [List.length_set]; exact zQ hS8), List.getElem?_set_ne h48]; exact hS8
   ·rw [if_neg (fun hh => hin hh.2)] at hsn
    have hg : inG ids l[i].id ≠ 1 := by unfold inG; rw [if_neg hin]; decide
    rw [decide_eq_false hg] at hE
    simp (maxSteps:=1000000) (disch:=first|assumption|omega|rfl) only [↓gp, gc, Nat.reduceAdd, ↓vI, hix, hre, z2c, z122, z2d, z3s, ha, rA0 ha, pA0 ha, z0u, z0k, z0m, z0l, z0h, z25, hde, hcv, hE, zt0, h3]
    exact ih (i + 1) _ u _ _ _ _ _ _ _ _ _ _ _ _ _ _ _ _ _ _ _ _ _ _ _ _ _ _ (by omega) (by omega) (Keep.app hK) ha7 (hkx _ _ hS) (hkx _ _ hS8) (by rw [hsn]; exact hu) hR
  ·rw [if_neg (fun hh => hno hh.1)] at hsn
   have hde : ∀ i' : Decidable (l[i].no = no), @decide (l[i].no = no) i' = false := fun i' => decide_eq_false hno
   simp (maxSteps:=1000000) (disch:=first|assumption|omega|rfl) only [↓gp, gc, Nat.reduceAdd, ↓vI, hix, hre, z2c, z122, z2d, z3s, ha, rA0 ha, pA0 ha, z0k, z0m, z0h, z25, hde, h3]
   exact ih (i + 1) _ u _ _ _ _ _ _ _ _ _ _ _ _ _ _ _ _ _ _ _ _ _ _ _ _ _ _ (by omega) (by omega) (Keep.app hK) ha7 (hkx _ _ hS) (hkx _ _ hS8) (by rw [hsn]; exact hu) hR
theorem ztd (S : zB) (no : Int) (ids : List Int) (p m : Nat) (hp : S[p]? = some (.row [.mr m] 186)) (hm : MG S m (inG ids)) (u : V) (b : List UInt8) (hu : IsB u b) (hb : b.length = 256) (L : V) (es : List V) (l : List Chg) (hL : OwnS S L 80 es) (hl : ChgsV S es l) (hok : ∀ ch ∈ l, kP ch.at_ ch.data) (hes : es.length ≤ 1000000) :
  EvS cfg 142 [u, L, .d (.int .i64 no), .fn (.func 143) [] [.ref p 0 0]] S (fun o S' => Keep S S' ∧ ∃ v, o = .ret v ∧ IsB v (rolL b l no ids)) := by
 refine qH rfl zsr ?_
 show Wp cfg (Tryz.f142.body.getD .skip) (u :: L :: (.d (.int .i64 no)) :: (.fn (.func 143) [] [.ref p 0 0]) :: uZ (uZ ((.tup []) :: (.tup []) :: (.tup []) :: (.tup []) :: (.tup []) :: (.tup []) :: (.tup []) :: (.tup []) :: (.tup []) :: []))) S [] _
 unfold uZ
 conv => arg 2; whnf
 rw [zR]
 generalize ha : S.length = a
 have hft := bt42.fits hu hb
 have hu1 := hu.one
 have hln : ∀ s, zO Tryz.prog (S ++ s) .len [74] [L] = some (.val (.d (.int .i64 (l.length : Int))) (S ++ s) 0) := fun s => by rw [wC u119 ((Keep.refl.app (l := s)).own hL), hl.1]
 simp (maxSteps:=1000000) (disch:=first|assumption|omega|rfl) only [↓gp, gc, Nat.reduceAdd, hft, z42, zf42, List.append_assoc, List.length_append, List.length_cons, List.length_nil, ha, hln]
 refine q0j no ids p m a (a + 1) S hp hm b hb L es l hL hl hok hes (by omega) _ l.length 0 _ u _ _ _ _ _ _ _ _ _ _ _ _ _ _ _ _ _ _ _ _ _ _ _ _ _ _ rfl (Nat.zero_le _) Keep.refl.app (by omega) (by rw [List.getElem?_append_right (by omega), ha, Nat.sub_self]; rfl) (by rw [List.getElem?_append_right (by omega), ha, Nat.add_sub_cancel_left]; rfl) (by rw [List.take_zero]; exact hu) ?_
 intro S2 u2 i' g0 g1 g5 g6 g7 g9 gI gC gA gD gL gM gF gK gN gJ gH gO gP gT gQ gU gR gS gV gW hK h4 h8 hu2
 have hl2 := z1y (no := no) (ids := ids) hb hok
 have hr4 := zD (e := 42) h4
 have hr8 := zD (e := 42) h8
 have hp8 := fun y => qJ (y := y) (e := 42) h8
 have hld := bt42.load hu2 hl2
 have l0 := z256
 have hst2 := bt42.store hu2 hl2 (w := blkV (zK 256)) isB_v z256
 have hu21 := hu2.one
 simp (maxSteps:=1000000) (disch:=first|assumption|omega|rfl) only [↓gp, gc, Nat.reduceAdd, hr4, hr8, hld, hst2, hp8]
 have hl1 : kF Tryz.prog (S2.set (a + 1) (.row [u2] 42)) 42 (.ref (a + 1) 0 0) = some u2 := (zG (zD (e := 42) (List.getElem?_set_self (zQ h8)))).trans hld
 exact ⟨rfl, _, z0x rfl hl1, hK.set (by omega), u2, rfl, hu2⟩
theorem zz4 (S0 : zB) (p m : Nat) (hp : S0.length ≤ p) (hmm : S0.length ≤ m) (hpm : p ≠ m) (v9 : V) (ids : List Int) (hv : OwnS S0 v9 3 (zW ids)) (hl : ids.length ≤ 300000) (R : Post) :
 ∀ (k i : Nat) (S : zB) (g0 g1 g2 g3 g4 g5 g6 g7 g8 gI gE gG gB gC gA gF gK gN gJ gH gO gP gT gQ gU gR gS : V), ids.length - i = k → i ≤ ids.length → Keep S0 S → S[p]? = some (.row [.mr m] 186) → MG S m (inG (ids.take i)) →
 (∀ S i' (_11 _19 _20 _21 _22 _23 _24 : V), Keep S0 S → S[p]? = some (.row [.mr m] 186) → MG S m (inG ids) → R (.exit 0) (g0 :: g1 :: g2 :: g3 :: g4 :: g5 :: g6 :: g7 :: g8 :: (.ref p 0 0) :: gI :: _11 :: gG :: gB :: gC :: gA :: v9 :: (.d (.int .i64 (ids.length : Int))) :: i' :: _19 :: _20 :: _21 :: _22 :: _23 :: _24 :: gP :: gT :: gQ :: gU :: gR :: gS :: []) S []) →
 Wp cfg (.loop (lpOf (Tryz.f110.body.getD .skip) 0)) (g0 :: g1 :: g2 :: g3 :: g4 :: g5 :: g6 :: g7 :: g8 :: (.ref p 0 0) :: gI :: gE :: gG :: gB :: gC :: gA :: v9 :: (.d (.int .i64 (ids.length : Int))) :: (.d (.int .i64 (i : Int))) :: gF :: gK :: gN :: gJ :: gH :: gO :: gP :: gT :: gQ :: gU :: gR :: gS :: []) S [] R := by
 intro k
 induction k with
 | zero =>
  intro i S g0 g1 g2 g3 g4 g5 g6 g7 g8 gI gE gG gB gC gA gF gK gN gJ gH gO gP gT gQ gU gR gS hk hi hK hr hm hR
  have hie : i = ids.length := by omega
  subst hie
  rw [List.take_length] at hm
  rw [zR]
  refine zL ?_
  conv => arg 2; whnf
  simp (maxSteps:=1000000) (disch:=first|assumption|omega|rfl) only [↓gp, gc, Nat.reduceAdd]
  exact hR _ _ _ _ _ _ _ _ _ hK hr hm
 | succ k ih =>
  intro i S g0 g1 g2 g3 g4 g5 g6 g7 g8 gI gE gG gB gC gA gF gK gN gJ gH gO gP gT gQ gU gR gS hk hi hK hr hm hR
  have hlt : i < ids.length := by omega
  have h3 : IntKind.i64.wrap ((i : Int) + 1) = ((i + 1 : Nat) : Int) := by rw [wrap64 (by omega)]; omega
  obtain ⟨id, hix, hre, _⟩ := wH Tryz.underlying22 s3z (hK.own hv) (i := i) (by rw [qC]; exact hlt)
  have hre : rowE S id i = some (.d (.int .i64 ids[i])) := by rw [hre]; simp [zW]
  have hrp := zD (e := 186) hr
  obtain ⟨o, ho, hm2, _⟩ := hm.put ids[i] 1
  rw [zR]
  refine zL ?_
  conv => arg 2; whnf
  simp (maxSteps:=1000000) (disch:=first|assumption|omega|rfl) only [↓gp, gc, Nat.reduceAdd, hix, hre, ld3r, hrp, zp2, ho, h3]
  refine ih (i + 1) _ _ _ _ _ _ _ _ _ _ _ _ _ _ _ _ _ _ _ _ _ _ _ _ _ _ _ _ (by omega) (by omega) (hK.set hmm) (by rw [List.getElem?_set_ne (Ne.symm hpm)]; exact hr) ?_ hR
  rw [kT hlt, ← zh5]
  exact hm2
theorem z5v {S : zB} {v : V} {e f : TypeId} {xs ys : List V} {i : Nat} {o : Ob} (h : OwnS S v e xs) (hi : S[i]? = some (.row ys f)) (he : e ≠ f) : OwnS (S.set i o) v e xs := by
 rcases h with h | ⟨id, rfl, h2⟩
 ·exact .inl h
 ·refine .inr ⟨id, rfl, ?_⟩
  rw [List.getElem?_set_ne (by rintro rfl; cases getE hi h2; exact he rfl)]
  exact h2
theorem zl6 (S : zB) (no : Int) (u : V) (b : List UInt8) (hu : IsB u b) (hb : b.length = 256) (L : V) (es : List V) (l : List Chg) (hL : OwnS S L 80 es) (hl : ChgsV S es l) (hes : es.length ≤ 150000) (n last : Nat) (hlast : last ≤ 100000) (hok : ∀ ch ∈ l, z6q n last ch) (hids : l.Pairwise (fun a b => a.id < b.id)) :
  EvS cfg 110 [u, L, .d (.int .i64 no)] S (fun o S' => Keep S S' ∧ ∃ v w ids, o = .ret (.tup [v, w]) ∧ IsB v (rolL b l no ids) ∧ OwnS S' w 3 (zW ids) ∧ ids.length ≤ l.length ∧ RdOk l no l.length ids) := by
 refine qH rfl zry ?_
 show Wp cfg (Tryz.f110.body.getD .skip) (u :: L :: (.d (.int .i64 no)) :: uZ (uZ ((.tup []) :: (.tup []) :: (.tup []) :: (.tup []) :: (.tup []) :: (.tup []) :: (.tup []) :: (.tup []) :: []))) S [] _
 unfold uZ
 conv => arg 2; whnf
 rw [zR]
 generalize ha : S.length = a
 have hft := bt42.fits hu hb
 have hu1 := hu.one
 have hL1 := qL hL
 have hk0 : Keep S (S ++ [.row [u] 42, .row [blkV (zK 256)] 42]) := Keep.refl.app
 obtain ⟨o, S2, ⟨hK2, v8, ids, rfl, hv8, hidl, hrd⟩, hE⟩ := qF (zov no (S ++ [.row [u] 42, .row [blkV (zK 256)] 42]) L es l (hk0.own hL) (hl.keep hk0) hes n last hlast hok hids)
 have hE := fun {ops dst k T F Q} => zH (ops := ops) (dst := dst) (l := k) (T := T) (F := F) (Q := Q) rfl hE
 have hK02 := hk0.trans hK2
 have h8 := qL hv8
 have hln : ∀ s, zO Tryz.prog (S2 ++ s) .len [22] [v8] = some (.val (.d (.int .i64 (ids.length : Int))) (S2 ++ s) 0) := fun s => by rw [wC Tryz.underlying22 ((Keep.refl.app (l := s)).own hv8), qC]
 generalize ha2 : S2.length = a2
 simp (maxSteps:=1000000) (disch:=first|assumption|omega|rfl) only [↓gp, gc, Nat.reduceAdd, ↓z1g, hft, z42, zf42, z178, q0k, List.append_assoc, List.length_append, List.length_cons, List.length_nil, ha, hL1, hE, zxf, h8, ha2, rA1 ha2, pA1 ha2, hln]
 have h0 : MG (S2 ++ [Ob.mp [] 0, Ob.row [V.mr a2] 186]) a2 (inG (ids.take 0)) := by
  have := MG.nil (S := S2 ++ [Ob.mp [] 0, Ob.row [V.mr a2] 186]) (m := a2) (c := 0) (by rw [List.getElem?_append_right (by omega), ha2, Nat.sub_self]; rfl)
  have e : inG (ids.take 0) = fun _ => 0 := by funext n; simp [inG]
  rw [e]; exact this
 have hll := hl.1
 refine zz4 S2 (a2 + 1) a2 (by omega) (by omega) (by omega) v8 ids hv8 (by omega) _ ids.length 0 _ _ _ _ _ _ _ _ _ _ _ _ _ _ _ _ _ _ _ _ _ _ _ _ _ _ _ _ rfl (Nat.zero_le _) Keep.refl.app (by rw [List.getElem?_append_right (by omega), ha2, Nat.add_sub_cancel_left]; rfl) h0 ?_
 intro S3 i' gE gF gK gN gJ gH gO hK3 hr hm
 have hK03 := hK02.trans hK3
 obtain ⟨o, S4, ⟨hK4, v, rfl, hv⟩, hE4⟩ := qF (ztd S3 no ids (a2 + 1) a2 hr hm u b hu hb L es l (hK03.own hL) (hl.keep hK03) (fun ch hch => (hok ch hch).1) (by omega))
 have hE4 := fun {ops dst k T F Q} => zH (ops := ops) (dst := dst) (l := k) (T := T) (F := F) (Q := Q) rfl hE4
 have hlv := z1y (no := no) (ids := ids) hb (fun ch hch => (hok ch hch).1)
 have hra : S3[a]? = some (.row [u] 42) := hK3 _ _ (hK2 _ _ (by rw [List.getElem?_append_right (by omega), ha, Nat.sub_self]; rfl))
 have hrb : S4[a + 1]? = some (.row [blkV (zK 256)] 42) := hK4 _ _ (hK3 _ _ (hK2 _ _ (by rw [List.getElem?_append_right (by omega), ha, Nat.add_sub_cancel_left]; rfl)))
 have hr4 := zD (e := 42) hra
 have hr8 := zD (e := 42) hrb
 have hp8 := fun y => qJ (y := y) (e := 42) hrb
 have hld := bt42.load hu hb
 have l0 := z256
 have hst2 := bt42.store hv hlv (w := blkV (zK 256)) isB_v z256
 have hv1 := hv.one
 simp (maxSteps:=1000000) (disch:=first|assumption|omega|rfl) only [↓gp, gc, Nat.reduceAdd, hr4, hld, hL1, jS, mfIm, zmh, hE4, zyy, hv1, hu1, hr8, hst2, hp8]
 have hl1 : kF Tryz.prog (S4.set (a + 1) (.row [v] 42)) 42 (.ref (a + 1) 0 0) = some v := (zG (zD (e := 42) (List.getElem?_set_self (zQ hrb)))).trans (bt42.load hv hlv)
 exact ⟨rfl, _, zjq rfl hl1 rfl hv1 h8, (hK03.trans hK4).set (by omega), v, v8, ids, rfl, hv, z5v ((hK3.trans hK4).own hv8) hrb (by decide), hidl, hrd⟩
theorem zb3 : ∀ b : List UInt8, kX (b.map fun x => .d (byD x)) (b.map fun x => .d (byD x)) = true
 | [] => rfl
 | x :: r => by
  have h : qW (.d (byD x)) (.d (byD x)) = true := by
   show jN (byD x) (byD x) = true
   exact z51
  simp only [List.map_cons, kX, h, zb3 r, Bool.and_self]
theorem zc7 {v : V} {b : List UInt8} (h : IsB v b) : wV v v = true := by
 rcases h with rfl | rfl
 ·exact z4p (n := 4) b
 ·exact zb3 b
theorem ztz {P : Program} {S : zB} {T : List V} {a u1 u2 : Tmp} {t : TypeId} {x v w1 w2 : V} (h : T.getD a (.tup []) = x) (hl : kF P S t x = some v) (h1 : T.getD u1 (.tup []) = w1) (h2 : T.getD u2 (.tup []) = w2) (o0 : v.one = true) (o1 : w1.one = true) (o2 : w2.one = true) : qG P #[.cell a t, .tmp u1, .tmp u2] T S = some (.tup [v, w1, w2]) := by
 simp only [qG, allO, jY, h, hl, h1, h2, List.all_cons, List.all_nil, o0, o1, o2, Bool.and_self, if_true]
theorem zjd (S : zB) (no : Int) (u : V) (b : List UInt8) (hu : IsB u b) (hb : b.length = 256) (L : V) (es : List V) (l : List Chg) (hL : OwnS S L 80 es) (hl : ChgsV S es l) (hes : es.length ≤ 150000) (n last : Nat) (hlast : last ≤ 100000) (hok : ∀ ch ∈ l, z6q n last ch) (hids : l.Pairwise (fun a b => a.id < b.id)) :
  EvS cfg 70 [u, L, .d (.int .i64 no)] S (fun o S' => Keep S S' ∧ ∃ v L' w fs ids, o = .ret (.tup [v, L', w]) ∧ IsB v (rolL b l no ids) ∧ OwnS S' L' 80 fs ∧ ChgsV S' fs (l.filter fun ch => decide (ch.id ∉ ids)) ∧ OwnS S' w 3 (zW ids) ∧ ids.length ≤ l.length ∧ RdOk l no l.length ids) := by
 refine qH rfl zy2 ?_
 show Wp cfg (Tryz.f70.body.getD .skip) (u :: L :: (.d (.int .i64 no)) :: uZ (uZ [])) S [] _
 unfold uZ
 conv => arg 2; whnf
 rw [zR]
 generalize ha : S.length = a
 have hft := bt42.fits hu hb
 have hu1 := hu.one
 have hL1 := qL hL
 have hll := hl.1
 have hldu := bt42.load hu hb
 have hk0 : Keep S (S ++ [.row [u] 42, .row [blkV (zK 256)] 42]) := Keep.refl.app
 obtain ⟨o, S1, ⟨hK1, v, w, ids, rfl, hv, hw, hidl, hrd⟩, hE⟩ := qF (zl6 (S ++ [.row [u] 42, .row [blkV (zK 256)] 42]) no u b hu hb L es l (hk0.own hL) (hl.keep hk0) hes n last hlast hok hids)
 have hE := fun {ops dst k T F Q} => zH (ops := ops) (dst := dst) (l := k) (T := T) (F := F) (Q := Q) rfl hE
 have hK01 := hk0.trans hK1
 have hlv := z1y (no := no) (ids := ids) hb (fun ch hch => (hok ch hch).1)
 have hv1 := hv.one
 have hw1 := qL hw
 have l0 := z256
 have hst := bt42.store hv hlv (w := blkV (zK 256)) isB_v z256
 have hld := bt42.load hv hlv
 have hk2 : Keep S1 (S1 ++ [.row [v] 42]) := Keep.refl.app
 have hK02 := hK01.trans hk2
 obtain ⟨o, S3, ⟨hK3, L', fs, rfl, hL', hc'⟩, hE3⟩ := qF (zb5 (S1 ++ [.row [v] 42]) L es l (hK02.own hL) (hl.keep hK02) hes n last hlast hok w ids (hk2.own hw) (by omega))
 have hE3 := fun {ops base K ws cs i dst T} => jC (ops := ops) (base := base) (K := K) (ws := ws) (cs := cs) (i := i) (dst := dst) (T := T) rfl hE3
 have hL'1 := qL hL'
 generalize ha1 : S1.length = a1
 simp (maxSteps:=1000000) (disch:=first|assumption|omega|rfl) only [↓gp, gc, Nat.reduceAdd, hft, z42, zf42, List.append_assoc, List.length_append, List.length_cons, List.length_nil, ha, rA0 ha, hldu, hu1, hL1, hE, zye, hv1, hw1, ha1, rA0 ha1, pA0 ha1, hst, z256]
 have hr3 : S3[a1]? = some (.row [v] 42) := hK3 _ _ (by rw [List.getElem?_append_right (by omega), ha1, Nat.sub_self]; rfl)
 have hrb : S3[a + 1]? = some (.row [blkV (zK 256)] 42) := hK3 _ _ (hk2 _ _ (hK1 _ _ (by rw [List.getElem?_append_right (by omega), ha, Nat.add_sub_cancel_left]; rfl)))
 have hr8 := zD (e := 42) hrb
 have hp8 := fun y => qJ (y := y) (e := 42) hrb
 have hsm := zc7 hv
 refine qX (is := [0, 1, 2, 4, 3, 5, 6, 7]) (h := 0) (by kernel_rfl) (by kernel_rfl) ?_
 simp (maxSteps:=1000000) (disch:=first|assumption|omega|rfl) only [List.replicate_zero, eq_self, gw, ga, Nat.reduceAdd, ↓gq, vso, List.append_nil, rA0 ha1, hld, hL1, hw1, hE3, bo89, hL'1, hr8, hp8, hst, hv1]
 refine ⟨qE rfl (by kernel_rfl) rfl (vB ((zG (zD (e := 42) hr3)).trans hld)) hsm zZ, zS (by kernel_rfl) zZ, by kernel_rfl, ?_⟩
 simp (maxSteps:=1000000) (disch:=first|assumption|omega|rfl) only [↓gp, gc, Nat.reduceAdd]
 have hl1 : kF Tryz.prog (S3.set (a + 1) (.row [v] 42)) 42 (.ref (a + 1) 0 0) = some v := (zG (zD (e := 42) (List.getElem?_set_self (zQ hrb)))).trans hld
 exact ⟨rfl, _, ztz rfl hl1 rfl rfl hv1 hL'1 hw1, (hK02.trans hK3).set (by omega), v, L', w, fs, ids, rfl, hv, z5v hL' hrb (by decide), hc'.mono (fun _ _ hh => z5v hh hrb (by decide)) (fun _ _ hh => z5v hh hrb (by decide)), z5v ((hk2.trans hK3).own hw) hrb (by decide), hidl, hrd⟩
def CS.flush (C : CS) (k : Nat) (ids : List Int) : CS := ⟨C.img.set k (rolL (C.img.getD k []) C.list (k : Int) ids), C.list.filter (fun ch => decide (ch.id ∉ ids)), C.last⟩
def zlx (C C' : CS) (no : Int) : Prop := C' = C ∨ ∃ (k : Nat) (ids : List Int), no = k ∧ k < C.img.length ∧ RdOk C.list (k : Int) C.list.length ids ∧ C' = C.flush k ids
theorem CS.Ok.flush {C : CS} (h : C.Ok) {k : Nat} (hk : k < C.img.length) {ids : List Int} : (C.flush k ids).Ok := by
 have hb : (C.img.getD k []).length = 256 := by
  rw [List.getD_eq_getElem?_getD, List.getElem?_eq_getElem hk]
  exact h.len _ (List.getElem_mem hk)
 refine ⟨?_, ?_, ?_, ?_, h.last⟩
 ·show (C.img.set _ _).length ≤ 512
  rw [List.length_set]; exact h.n
 ·intro b hm
  rcases List.mem_or_eq_of_mem_set hm with hm | rfl
  ·exact h.len b hm
  ·exact z1y hb fun ch hch => (h.chs ch hch).1
 ·intro ch hch
  have := h.chs ch (List.mem_filter.1 hch).1
  show z6q (C.img.set _ _).length _ _
  rw [List.length_set]; exact this
 ·exact h.ids.sublist List.filter_sublist
theorem zar {f g : Int → Option V} (h : ∀ x, (f x).isSome = (g x).isSome) : ∀ n, cntI f n = cntI g n
 | 0 => rfl
 | n + 1 => by unfold cntI; rw [zar h n, h]
theorem zny {S : zB} {v : V} {e : TypeId} {xs : List V} {i : Nat} {o : Ob} (h : OwnS S v e xs) (hi : S[i]? = some .hole) : OwnS (S.set i o) v e xs := by
 rcases h with h | ⟨id, rfl, h2⟩
 ·exact .inl h
 ·refine .inr ⟨id, rfl, ?_⟩
  rw [List.getElem?_set_ne (by rintro rfl; cases getE hi h2)]
  exact h2
theorem lc2' {d m : Nat} {L : V} {last : Int} {id n : Nat} : qM Tryz.prog 74 2 (.rs id 0 n) (cacV d m L last) = some (cacV d m (.rs id 0 n) last) := by kernel_rfl
theorem lc2n {d m : Nat} {L : V} {last : Int} : qM Tryz.prog 74 2 (.ts []) (cacV d m L last) = some (cacV d m (.ts []) last) := by kernel_rfl
theorem sc2g {S : zB} {d m : Nat} {L v : V} {xs : List V} {e : TypeId} {last : Int} (h : OwnS S v e xs) : qM Tryz.prog 74 2 v (cacV d m L last) = some (cacV d m v last) := by
 rcases z1r h with rfl | ⟨i, k, rfl⟩
 ·exact lc2n
 ·exact lc2'
theorem zqh {P : Program} {S : zB} {T : List V} {dst : Option Tmp} {ty : TypeId} {pos : String} {after : Array Edge} {g : Option (Nat × Bool)} {t : TypeId} {m k : Operand} : opV P S T ⟨dst, .mapEntry t m k, ty, pos, after, g⟩ = (vC P S t (zE T m) (zE T k)).map fun r => .val r.1 r.2 3 := rfl
theorem zo5 {P : Program} {S : zB} {T : List V} {dst : Option Tmp} {ty : TypeId} {pos : String} {after : Array Edge} {g : Option (Nat × Bool)} {t : TypeId} {m k x : Operand} : opV P S T ⟨dst, .entryStore t m k x, ty, pos, after, g⟩ = (kU S (zE T m) (zE T k) (zE T x)).map fun S' => .skip S' 3 := rfl
theorem zqn {ty : TypeId} {pos : String} {after : Array Edge} {dst : Option Tmp} {g : Option (Nat × Bool)} {t : TypeId} {r k : Operand} : jV ⟨dst, .mapEntry t r k, ty, pos, after, g⟩ = false := rfl
theorem znz {ty : TypeId} {pos : String} {after : Array Edge} {dst : Option Tmp} {g : Option (Nat × Bool)} {t : TypeId} {r k x : Operand} : jV ⟨dst, .entryStore t r k x, ty, pos, after, g⟩ = false := rfl
theorem zqw (S : zB) (c r m : Nat) (C : CS) (h0 : CacheAt S c r m C) (no : Int) : EvS cfg 26 [.ref c 0 0, .d (.int .i64 no)] S (fun o S' => FrC m r S S' ∧ o = .ret (.d (.int .i64 0)) ∧ ∃ C', CacheAt S' c r m C' ∧ zlx C C' no) := by
 obtain ⟨d, L, es, vs, f, z, w, q, h, hq⟩ := h0
 refine qH rfl zx8 ?_
 show Wp cfg (Tryz.f26.body.getD .skip) ((.ref c 0 0) :: (.d (.int .i64 no)) :: uZ (uZ (uZ (uZ (uZ ((.tup []) :: (.tup []) :: (.tup []) :: (.tup []) :: (.tup []) :: (.tup []) :: (.tup []) :: (.tup []) :: [])))))) S [] _
 unfold uZ
 conv => arg 2; whnf
 rw [zR]
 have hc0 : rowE S c 0 = some (cacV d m L C.last) := zD (e := 126) h.hc
 have hlk := (h.hm.look zj4 no).1
 generalize ha : S.length = a
 cases hf : f no with
 | none =>
  rw [hf] at hlk
  simp only [Option.getD_none, Option.isSome_none] at hlk
  have l0 := z256
  have hst := bt42.store (v := blkV (zK 256)) isB_v z256 (w := blkV (zK 256)) isB_v z256
  simp (maxSteps:=1000000) (disch:=first|assumption|omega|rfl) only [↓gp, gc, Nat.reduceAdd, z6l, z2q, hc0, lc1, hlk, z42, zf42, ha, rA0 ha, pA0 ha, hst, jG, Bool.not_false]
  exact ⟨rfl, _, rfl, Frm.refl.app, rfl, C, ⟨d, L, es, vs, f, z, w, q, h.keep Keep.refl.app, hq⟩, .inl rfl⟩
 | some v =>
  rw [hf] at hlk
  simp only [Option.getD_some, Option.isSome_some] at hlk
  obtain ⟨k, b, rfl, hb, hvb⟩ := h.kn _ _ hf
  have hkl : k < C.img.length := (List.getElem?_eq_some_iff.1 hb).1
  have hbl := h.ok.len b (List.mem_of_getElem? hb)
  have l0 := z256
  have hst := bt42.store hvb hbl (w := blkV (zK 256)) isB_v z256
  have hldv := bt42.load hvb hbl
  have hv1 := hvb.one
  have hlast := h.ok.last
  have hwq := h.wq
  have hll := h.lc.1
  have hk2 : Keep S ((S ++ [.row [v] 42]) ++ [.hole, .hole, .hole, .hole, .hole, .hole, .hole, .hole, .hole, .hole, .hole, .hole, .hole, .hole, .hole]) := Keep.refl.app.app
  have h2 := h.keep hk2
  obtain ⟨o, S3, ⟨hK3, v2, L', wv, fs, ids, rfl, hv2, hL', hc', hwv, hidl, hrd⟩, hE⟩ := qF (zjd ((S ++ [.row [v] 42]) ++ [.hole, .hole, .hole, .hole, .hole, .hole, .hole, .hole, .hole, .hole, .hole, .hole, .hole, .hole, .hole]) (k : Int) v b hvb hbl L es C.list h2.lo h2.lc (by omega) C.img.length C.last hlast h.ok.chs h.ok.ids)
  have hE := fun {ops base K ws cs i dst T} => jC (ops := ops) (base := base) (K := K) (ws := ws) (cs := cs) (i := i) (dst := dst) (T := T) rfl hE
  have hlv := z1y (no := (k : Int)) (ids := ids) hbl (fun ch hch => (h.ok.chs ch hch).1)
  have hL1 := qL h.lo
  have hL'1 := qL hL'
  have hw1 := qL hwv
  have hv21 := hv2.one
  have hst2 := bt42.store hv2 hlv (w := blkV (zK 256)) isB_v z256
  have hK03 := hk2.trans hK3
  simp (maxSteps:=1000000) (disch:=first|assumption|omega|rfl) only [↓gp, gc, Nat.reduceAdd, z6l, z2q, hc0, lc1, hlk, z42, zf42, ha, rA0 ha, pA0 ha, hst, jG, Bool.not_true]
  have hc2 : ∀ l, rowE ((S ++ [.row [v] 42]) ++ l) c 0 = some (cacV d m L C.last) := fun l => zD (e := 126) ((Keep.refl.app.app (l := l)) _ _ h.hc)
  have hr2 : ∀ l, rowE ((S ++ [.row [v] 42]) ++ l) a 0 = some v := fun l => zD (e := 42) (by rw [List.append_assoc, List.getElem?_append_right (by omega), ha, Nat.sub_self]; rfl)
  have hk1 : Keep S (S ++ [.row [v] 42]) := Keep.refl.app
  have hb1 : (S ++ [Ob.row [v] 42]).length = a + 1 := by simp [ha]
  generalize S ++ [Ob.row [v] 42] = S1 at *
  have hh3 : S3[a + 1 + 11]? = some .hole := hK3 _ _ (by rw [← hb1, List.getElem?_append_right (by omega), Nat.add_sub_cancel_left]; rfl)
  have hh3l := zQ hh3
  have hra3 : rowE (S3.set (a + 1 + 11) (.row [blkV (zK 256)] 42)) (a + 1 + 11) 0 = some (blkV (zK 256)) := zD (e := 42) (List.getElem?_set_self hh3l)
  have hpa3 : ∀ y, jQ (S3.set (a + 1 + 11) (.row [blkV (zK 256)] 42)) (a + 1 + 11) 0 y = some (S3.set (a + 1 + 11) (.row [y] 42)) := fun y => by
   rw [qJ (e := 42) (List.getElem?_set_self hh3l), List.set_set]
  refine qX (is := [0, 1, 2, 3, 4, 5, 6, 7, 8, 9, 10, 11, 12, 13, 14]) (h := 15) (by kernel_rfl) (by kernel_rfl) ?_
  simp (maxSteps:=1000000) (disch:=first|assumption|omega|rfl) only [List.replicate_zero, eq_self, gw, ga, Nat.reduceAdd, ↓gq, vso, hc2, hr2, qU, kI, z4c, lc2, hldv, hL1, hv1, hE, bo70, hv21, hL'1, hw1, z80 z42 zf42, z6g, hb1, hra3, hpa3, hst2]
  refine ⟨zS (by kernel_rfl) (zS (by kernel_rfl) zZ), hh3, zS (by kernel_rfl) (zS (by kernel_rfl) zZ), by kernel_rfl, ?_⟩
  have hkA : ∀ {x : V} {e : TypeId} {xs : List V}, OwnS S3 x e xs → OwnS (S3.set (a + 1 + 11) (.row [v2] 42)) x e xs := fun ho => zny ho hh3
  have hK04 : Keep S (S3.set (a + 1 + 11) (.row [v2] 42)) := hK03.set (by omega)
  have hL'4 := hkA hL'
  have hc'4 := hc'.mono (fun _ _ => hkA) (fun _ _ => hkA)
  have hwv4 := hkA hwv
  have hr4 : (S3.set (a + 1 + 11) (.row [v2] 42))[a + 1 + 11]? = some (.row [v2] 42) := List.getElem?_set_self hh3l
  generalize S3.set (a + 1 + 11) (.row [v2] 42) = S4 at *
  have hln : zO Tryz.prog S4 .len [22] [wv] = some (.val (.d (.int .i64 (ids.length : Int))) S4 0) := by rw [wC Tryz.underlying22 hwv4, qC]
  have h4 := h.keep hK04
  by_cases hz : ids.length = 0
  ·have hde : ∀ i' : Decidable ((ids.length : Int) = 0), @decide ((ids.length : Int) = 0) i' = true := fun i' => decide_eq_true (by omega)
   simp (maxSteps:=1000000) (disch:=first|assumption|omega|rfl) only [↓gp, gc, Nat.reduceAdd, hln, hde]
   exact ⟨rfl, _, rfl, Frm.keep hK04, rfl, C, ⟨d, L, es, vs, f, z, w, q, h4, hq⟩, .inl rfl⟩
  ·have hde : ∀ i' : Decidable ((ids.length : Int) = 0), @decide ((ids.length : Int) = 0) i' = false := fun i' => decide_eq_false (by omega)
   have hc4 := zD (e := 126) h4.hc
   have hra4 := zD (e := 42) hr4
   have hld2 := bt42.load hv2 hlv
   have hkv : k < vs.length := by rw [h.il]; exact hkl
   obtain ⟨v0, b0, hv0l, hv0, hb0, hvb0, hbl0⟩ := h.imv hkl
   have hwr := fun {ops base K ws cs i dst T} => jC (ops := ops) (base := base) (K := K) (ws := ws) (cs := cs) (i := i) (dst := dst) (T := T) rfl (z5p S4 d r vs z w q false k v2 v0 _ b0 h4.dk hkv hv2 hlv hv0 hvb0 hbl0 (by omega) h.zb (fun hh => Bool.noConfusion hh))
   simp only [Bool.false_eq_true, if_false] at hwr
   simp (maxSteps:=1000000) (disch:=first|assumption|omega|rfl) only [↓gp, gc, Nat.reduceAdd, hln, hde]
   refine qX (is := [0, 1, 2, 3, 4, 5, 6, 7]) (h := 0) (by kernel_rfl) (by kernel_rfl) ?_
   simp (maxSteps:=1000000) (disch:=first|assumption|omega|rfl) only [List.replicate_zero, eq_self, gw, ga, Nat.reduceAdd, ↓gq, vso, List.append_nil, hc4, hra4, qU, kI, zft, lc0, hld2, hv21, hwr, bo71]
   refine ⟨zS (by kernel_rfl) (zS (by kernel_rfl) zZ), by kernel_rfl, ?_⟩
   have hdr : d ≠ r := fun e => h4.dk.ne e.symm
   have hdl := zQ h4.dk.hd
   have hrl := zQ h4.dk.hr
   have hK5 : ∀ j o, S4[j]? = some o → j ≠ d → j ≠ r → (((S4.set d (.row [dskV r vs.length z false false ((w : Int) + 1) q] 135)).set r (.row (vs.set k v2) 42)) ++ [.row [.ref d 0 0] 60, .row [v2] 42, .row [.d (.int .i64 0)] 47])[j]? = some o := fun j o hj n1 n2 => by
    rw [List.getElem?_append_left (by rw [List.length_set, List.length_set]; exact zQ hj), List.getElem?_set_ne (Ne.symm n2), List.getElem?_set_ne (Ne.symm n1)]
    exact hj
   have hD5 : DskAt (((S4.set d (.row [dskV r vs.length z false false ((w : Int) + 1) q] 135)).set r (.row (vs.set k v2) 42)) ++ [.row [.ref d 0 0] 60, .row [v2] 42, .row [.d (.int .i64 0)] 47]) d r (vs.set k v2) z false false ((w + 1 : Nat) : Int) q := by
    refine ⟨?_, ?_, h4.dk.ne⟩
    ·rw [List.getElem?_append_left (by rw [List.length_set, List.length_set]; exact hdl), List.getElem?_set_ne (Ne.symm hdr), List.getElem?_set_self hdl, List.length_set]
     have : ((w + 1 : Nat) : Int) = (w : Int) + 1 := by omega
     rw [this]
    ·rw [List.getElem?_append_left (by rw [List.length_set, List.length_set]; exact hrl), List.getElem?_set_self (by rw [List.length_set]; exact hrl)]
   have hl5 : S4.length ≤ (((S4.set d (Ob.row [dskV r vs.length z false false ((w : Int) + 1) q] 135)).set r (Ob.row (vs.set k v2) 42)) ++ [Ob.row [.ref d 0 0] 60, Ob.row [v2] 42, Ob.row [.d (.int .i64 0)] 47]).length := by simp
   generalize ((S4.set d (Ob.row [dskV r vs.length z false false ((w : Int) + 1) q] 135)).set r (Ob.row (vs.set k v2) 42)) ++ [Ob.row [.ref d 0 0] 60, Ob.row [v2] 42, Ob.row [.d (.int .i64 0)] 47] = S5 at *
   have hra_d : a + 1 + 11 ≠ d := by rintro rfl; have := getE hr4 h4.dk.hd; simp at this
   have hra_r : a + 1 + 11 ≠ r := by have := zQ h.dk.hr; omega
   have hc5' := hK5 _ _ h4.hc h4.cd h4.cr
   have hc5 := zD (e := 126) hc5'
   have hra5' := hK5 _ _ hr4 hra_d hra_r
   have hra5 := zD (e := 42) hra5'
   have hm5 : MpI S5 m f := by
    obtain ⟨l, kk, e1, e2⟩ := h4.hm
    exact ⟨l, kk, hK5 _ _ e1 h4.md h4.mr, e2⟩
   obtain ⟨n, hme, hes⟩ := hm5.entry zj4 (k : Int) hf
   obtain ⟨oo, hes2, hm6, es', cc', hoo⟩ := hes S5 v2 rfl hv21
   have hc6' : (S5.set m oo)[c]? = some (.row [cacV d m L C.last] 126) := by rw [List.getElem?_set_ne (Ne.symm h4.cm)]; exact hc5'
   have hc6 := zD (e := 126) hc6'
   have hpc6 := fun y => qJ (y := y) (e := 126) hc6'
   have hscL := sc2g (d := d) (m := m) (L := L) (last := (C.last : Int)) hL'4
   have hsm := zc7 hv2
   simp (maxSteps:=1000000) (disch:=first|assumption|omega|rfl) only [↓gp, gc, Nat.reduceAdd]
   refine qX (is := [0, 1, 2, 3, 4, 5, 6, 7, 8, 9, 10, 11, 12, 13]) (h := 0) (by kernel_rfl) (by kernel_rfl) ?_
   simp (maxSteps:=1000000) (disch:=first|assumption|omega|rfl) only [List.replicate_zero, eq_self, gw, ga, Nat.reduceAdd, ↓gq, vso, List.append_nil, hc5, hra5, qU, kI, z2q, z4c, lc1, hld2, hv21, zqh, zo5, zqn, znz, hme, hes2, hc6, hpc6, hscL, hL'1]
   refine ⟨qE rfl (by kernel_rfl) rfl (vB ((zG hra5).trans hld2)) hsm (zS (by kernel_rfl) zZ), zS (by kernel_rfl) (zS (by kernel_rfl) zZ), zS (by kernel_rfl) (zS (by kernel_rfl) zZ), by kernel_rfl, ?_⟩
   simp (maxSteps:=1000000) (disch:=first|assumption|omega|rfl) only [↓gp, gc, Nat.reduceAdd]
   have hcl6 := zQ hc6'
   have kp : ∀ j o, S4[j]? = some o → j ≠ d → j ≠ r → j ≠ m → j ≠ c → ((S5.set m oo).set c (.row [cacV d m L' C.last] 126))[j]? = some o := fun j o hj n1 n2 n3 n4 => by
    rw [List.getElem?_set_ne (Ne.symm n4), List.getElem?_set_ne (Ne.symm n3)]
    exact hK5 j o hj n1 n2
   have hc7 : ((S5.set m oo).set c (.row [cacV d m L' C.last] 126))[c]? = some (.row [cacV d m L' C.last] 126) := List.getElem?_set_self hcl6
   have hm7 : MpI ((S5.set m oo).set c (.row [cacV d m L' C.last] 126)) m (updI f (k : Int) (some v2)) := hm6.keep (List.getElem?_set_ne h4.cm)
   have hd7 : DskAt ((S5.set m oo).set c (.row [cacV d m L' C.last] 126)) d r (vs.set k v2) z false false ((w + 1 : Nat) : Int) q :=
    ⟨by rw [List.getElem?_set_ne h4.cd, List.getElem?_set_ne h4.md]; exact hD5.hd, by rw [List.getElem?_set_ne h4.cr, List.getElem?_set_ne h4.mr]; exact hD5.hr, hD5.ne⟩
   have hl7 : S4.length ≤ ((S5.set m oo).set c (.row [cacV d m L' C.last] 126)).length := by rw [List.length_set, List.length_set]; exact hl5
   generalize (S5.set m oo).set c (Ob.row [cacV d m L' C.last] 126) = S7 at *
   have own7 : ∀ {x : V} {e : TypeId} {xs : List V}, (e ≠ 135 ∧ e ≠ 42 ∧ e ≠ 126) → OwnS S4 x e xs → OwnS S7 x e xs := fun he ho => by
    rcases ho with ho | ⟨id, e1, e2⟩
    ·exact .inl ho
    ·refine .inr ⟨id, e1, kp _ _ e2 ?_ ?_ ?_ ?_⟩
     ·rintro rfl; cases getE e2 h4.dk.hd; exact he.1 rfl
     ·rintro rfl; cases getE e2 h4.dk.hr; exact he.2.1 rfl
     ·rintro rfl; obtain ⟨_, _, e3, _⟩ := h4.hm; cases getE e2 e3
     ·rintro rfl; cases getE e2 h4.hc; exact he.2.2 rfl
   have hF : FrC m r S S7 := (Frm.keep hK04).trans ⟨hl7, fun j o hj hcm => by
    refine kp j o hj ?_ ?_ ?_ ?_
    ·rintro rfl; have := getE hj h4.dk.hd; subst this; cases hcm
    ·rintro rfl; have := getE hj h4.dk.hr; subst this; simp [calm] at hcm
    ·rintro rfl; obtain ⟨_, _, e3, _⟩ := h4.hm; have := getE hj e3; subst this; simp [calm] at hcm
    ·rintro rfl; have := getE hj h4.hc; subst this; cases hcm⟩
   have hgd : C.img.getD k [] = b := by rw [List.getD_eq_getElem?_getD, hb]; rfl
   have hflt : (C.list.filter fun ch => decide (ch.id ∉ ids)).length < C.list.length := by
    obtain ⟨x, xs, hx⟩ : ∃ x xs, ids = x :: xs := by
     cases ids with
     | nil => simp at hz
     | cons x xs => exact ⟨x, xs, rfl⟩
    obtain ⟨ch, h1, h2, _⟩ := hrd.1 x (by rw [hx]; exact List.mem_cons_self)
    have h1 := List.mem_of_mem_take h1
    rcases Nat.lt_or_ge (C.list.filter fun ch => decide (ch.id ∉ ids)).length C.list.length with hh | hh
    ·exact hh
    ·have hall := List.filter_eq_self.1 (List.filter_sublist.eq_of_length (Nat.le_antisymm (List.length_filter_le ..) hh)) ch h1
     simp only [decide_eq_true_eq] at hall
     exact absurd (by rw [hx, ← h2]; exact List.mem_cons_self) hall
   refine ⟨rfl, _, rfl, hF, rfl, C.flush k ids, ⟨d, L', fs, vs.set k v2, updI f (k : Int) (some v2), z, w + 1, q, ⟨hc7, hm7, hd7, h.zb, ?_, ?_, ?_, own7 (by decide) hL'4, hc'4.mono (fun _ _ => own7 (by decide)) (fun _ _ => own7 (by decide)), ?_, h.ok.flush hkl⟩, ?_⟩, .inr ⟨k, ids, rfl, hkl, hrd, rfl⟩⟩
   ·show (vs.set k v2).length = (C.img.set k _).length
    rw [List.length_set, List.length_set]; exact h.il
   ·intro i x bb hx hbb
    have hbb : (C.img.set k (rolL (C.img.getD k []) C.list (k : Int) ids))[i]? = some bb := hbb
    by_cases e : i = k
    ·subst e
     rw [List.getElem?_set_self (by rw [h.il]; exact hkl)] at hx
     rw [List.getElem?_set_self hkl] at hbb
     cases hx
     cases hbb
     rw [hgd]; exact hv2
    ·rw [List.getElem?_set_ne (Ne.symm e)] at hx hbb
     exact h.im i x bb hx hbb
   ·intro x u hx
    unfold updI at hx
    split at hx
    ·rename_i e
     cases hx
     refine ⟨k, _, e, List.getElem?_set_self hkl, ?_⟩
     rw [hgd]; exact hv2
    ·rename_i e
     obtain ⟨k2, b2, e2, e3, e4⟩ := h.kn x u hx
     refine ⟨k2, b2, e2, ?_, e4⟩
     show (C.img.set k _)[k2]? = some b2
     rw [List.getElem?_set_ne (by rintro rfl; exact e e2)]
     exact e3
   ·show w + 1 + (C.list.filter fun ch => decide (ch.id ∉ ids)).length ≤ C.last + 100
    omega
   ·show q ≤ cntI (updI f (k : Int) (some v2)) (C.img.set k _).length + 1
    rw [List.length_set, zar (g := f) (fun x => by
     unfold updI
     split
     ·rename_i e; rw [e, hf]; rfl
     ·rfl)]
    exact hq
end Go.Proofs.YtobgdmgldagjkaaGreat
end
