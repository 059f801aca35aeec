/- The program's paths: what stands between strokes, route.Split, route.Up. -/
import Derived.Test.YtghllhghboaagaaC07
set_option linter.unusedVariables false
set_option linter.unusedSimpArgs false
set_option maxRecDepth 100000
set_option maxHeartbeats 4000000
set_option linter.defProp false
section
namespace Go.Proofs.Ytghllhghboaagaa
open Go.Vm
def za5 (S : zA) : V → Option Rs
 | .it id => match S[id]? with
  | some (.iter s pos) => if pos < s.length then some (.val (.tup [.d (.bool true), .d (.int .i64 pos), .d (.int .i32 (Utf8.decode ⟨s.toArray⟩ pos).1)]) (S.set id (.iter s (pos + (Utf8.decode ⟨s.toArray⟩ pos).2))) 3) else some (.val (.tup [.d (.bool false)]) S 3)
  | _ => none
 | _ => none
def zku (S : zA) : V → Option Rs
 | .d (.str s) => some (.val (.it S.length) (S ++ [.iter s 0]) 2)
 | _ => none
theorem z8l {C : Cfg} {ops : Array Oper} {dst : Option Tmp} {ty : TypeId} {pos : String} {after : Array Edge} {l : List Oper} {T : List V} {S : zA} {F : Dfs} {Q : Post} {it : Operand} : WpL C ops (⟨dst, .next it true, ty, pos, after, none⟩ :: l) T S F Q = WpR C ops dst l T S F Q (za5 S (zF T it)) := by
 rw [z09 rfl]
 simp only [opV, za5]
 cases zF T it <;> rfl
theorem zl0 {ops : Array Oper} {dst : Option Tmp} {ty : TypeId} {pos : String} {after : Array Edge} {l : List Oper} {T : List V} {S : zA} {F : Dfs} {Q : Post} {x : Operand} : WpL cfg ops (⟨dst, .range 9 x, ty, pos, after, none⟩ :: l) T S F Q = WpR cfg ops dst l T S F Q (zku S (zF T x)) := by
 rw [z09 rfl]
 simp only [opV, hP, Try.underlying9, zku]
 cases zF T x with
 | d y => cases y <;> rfl
 | _ => rfl
theorem zis {S : zA} {s : List UInt8} : zku S (.d (.str s)) = some (.val (.it S.length) (S ++ [.iter s 0]) 2) := rfl
theorem zln {P : Program} {S : zA} {t : TypeId} {s : List UInt8} {lo : Int} (hu : P.underlying t = some .string) (h0 : 0 ≤ lo) (h1 : lo ≤ s.length) :
  jL P S t (.d (.str s)) (some (.d (.int .i64 lo))) none = some (.d (.str (s.drop lo.toNat))) := by
 simp only [jL, hu, z3a (n := s.length) (d := 0) (i := lo) h0 (by omega), z1f, List.take_length]
def spl : List UInt8 → List UInt8 → List (List UInt8)
 | part, [] => [part]
 | part, c :: r => if c = 47 then part :: spl [] r else spl (part ++ [c]) r
theorem zh7 : ∀ (w : Nat) (s part : List UInt8), w ≤ s.length → (∀ k, k < w → s.getD k 0 ≠ 47) → spl part s = spl (part ++ s.take w) (s.drop w)
 | 0, s, part, _, _ => by simp
 | w + 1, [], part, h, _ => by simp at h
 | w + 1, c :: r, part, h, hk => by
  have h0 : c ≠ 47 := hk 0 (by omega)
  have := zh7 w r (part ++ [c]) (by simpa using h) (fun k hkw => by have := hk (k + 1) (by omega); simpa using this)
  simp only [spl, h0, if_false, List.take_succ_cons, List.drop_succ_cons]
  rw [this, List.append_assoc]
  rfl
theorem z8j : ∀ (s part : List UInt8), (spl part s).length ≤ s.length + 1
 | [], part => by simp [spl]
 | c :: r, part => by
  unfold spl
  split
  ·have := z8j r []; simp; omega
  ·have := z8j r (part ++ [c]); simp; omega
theorem zmd (s : List UInt8) (hl : s.length < 1000000) (total : List (List UInt8)) (ht : total.length < 1000000) (R : Post) (g2 : V) : ∀ (k p b : Nat) (xs : List (List UInt8)) (S : zA) (v3 v5 v6 g9 gI gJ gF gA gB gG gH gC gD gE gK gL gO gM gN gP gQ gV gR gS gT gU gW gX : V), s.length - p ≤ k → b ≤ p → 1 ≤ p → p ≤ s.length → xs ++ spl ((s.take p).drop b) (s.drop p) = total → OwnS S v3 9 (xs.map fun x => .d (.str x)) → S[0]? = some (.iter s p) →
 (∀ S v3 (b' : Nat) ys v5 v6 g9 gI gJ gF gA gB gG gH gC gD gE gK gL gO gM gN gP gQ gV gR gS gT gU gW gX, b' ≤ s.length → ys ++ [s.drop b'] = total → OwnS S v3 9 (ys.map fun x => .d (.str x)) → R (.exit 0) ((.d (.str s)) :: (.tup []) :: g2 :: v3 :: (.d (.int .i64 b')) :: v5 :: v6 :: (.d (.str s)) :: (.it 0) :: g9 :: gI :: gJ :: gF :: gA :: gB :: gG :: gH :: gC :: gD :: gE :: gK :: gL :: gO :: gM :: gN :: gP :: gQ :: gV :: gR :: gS :: gT :: gU :: gW :: gX :: []) S []) →
 Wp cfg (.loop (lpOf (Try.f113.body.getD .skip) 0)) ((.d (.str s)) :: (.tup []) :: g2 :: v3 :: (.d (.int .i64 b)) :: v5 :: v6 :: (.d (.str s)) :: (.it 0) :: g9 :: gI :: gJ :: gF :: gA :: gB :: gG :: gH :: gC :: gD :: gE :: gK :: gL :: gO :: gM :: gN :: gP :: gQ :: gV :: gR :: gS :: gT :: gU :: gW :: gX :: []) S [] R := by
 intro k
 induction k with
 | zero =>
  intro p b xs S v3 v5 v6 g9 gI gJ gF gA gB gG gH gC gD gE gK gL gO gM gN gP gQ gV gR gS gT gU gW gX hk hb hp hpl hx ho hS hR
  have hpe : p = s.length := by omega
  have hnx : za5 S (.it 0) = some (.val (.tup [.d (.bool false)]) S 3) := by simp only [za5, hS]; rw [if_neg (by omega)]
  rw [qK]
  refine zS ?_
  conv => arg 2; whnf
  simp (maxSteps:=1000000) (disch:=first|assumption|omega|rfl) only [↓gp, gc, Nat.reduceAdd, ↓z8l, hnx]
  rw [hpe, List.drop_length, List.take_length] at hx
  exact hR _ _ b xs _ _ _ _ _ _ _ _ _ _ _ _ _ _ _ _ _ _ _ _ _ _ _ _ _ _ _ (by omega) hx ho
 | succ k ih =>
  intro p b xs S v3 v5 v6 g9 gI gJ gF gA gB gG gH gC gD gE gK gL gO gM gN gP gQ gV gR gS gT gU gW gX hk hb hp hpl hx ho hS hR
  by_cases hlt : p < s.length
  ·have hnx : za5 S (.it 0) = some (.val (.tup [.d (.bool true), .d (.int .i64 p), .d (.int .i32 (Utf8.decode ⟨s.toArray⟩ p).1)]) (S.set 0 (.iter s (p + (Utf8.decode ⟨s.toArray⟩ p).2))) 3) := by simp only [za5, hS]; rw [if_pos hlt]
   obtain ⟨h1, h2, h3, h4, h5⟩ := zgy s p hlt
   have hdr : s.drop p = s[p] :: s.drop (p + 1) := List.drop_eq_getElem_cons hlt
   have hna : NotAt v3 0 := zqe ho (fun o ho' xs e he => by rw [hS] at ho'; cases ho'; cases he)
   rw [qK]
   refine zS ?_
   conv => arg 2; whnf
   by_cases c47 : s[p] = 47
   ·have hd := h3 c47
    rw [hd] at hnx
    have hc : ((((47, 1) : Nat × Nat).1 : Nat) : Int) = 47 := rfl
    have hsl := zla (S := S.set 0 (.iter s (p + 1))) (P := Try.prog) (t := 9) (s := s) (lo := (b : Int)) (hi := (p : Int)) Try.underlying9 (by omega) (by omega) (by omega)
    rw [Int.toNat_natCast, Int.toNat_natCast] at hsl
    have hxl : xs.length < 1000000 := by have := congrArg List.length hx; simp at this; omega
    obtain ⟨v', S', c, ha, ho', hfr, hlen⟩ := ap42 ((s.take p).drop b) (vC (o := .iter s (p + 1)) ho hna) hxl
    have hp0 : ((p : Int)) > 0 := by omega
    simp (maxSteps:=1000000) (disch:=first|assumption|omega|rfl) only [↓gp, gc, Nat.reduceAdd, ↓z8l, hnx, hsl, ha]
    have hS' := (hfr 0 _ (jR (o' := .iter s (p + 1)) hS) hna).1
    refine ih (p + 1) (p + 1) (xs ++ [(s.take p).drop b]) S' v' _ _ _ _ _ _ _ _ _ _ _ _ _ _ _ _ _ _ _ _ _ _ _ _ _ _ _ (by omega) (Nat.le_refl _) (by omega) (by omega) ?_ ho' hS' hR
    rw [← hx, hdr, List.append_assoc]
    simp only [spl, c47, if_true]
    rw [show (s.take (p + 1)).drop (p + 1) = [] from List.drop_eq_nil_of_le (by rw [List.length_take]; omega)]
    rfl
   ·have hne := h4 c47
    generalize Utf8.decode ⟨s.toArray⟩ p = d at *
    have hne' : ¬ ((d.1 : Int)) = 47 := by omega
    simp (maxSteps:=1000000) (disch:=first|assumption|omega|rfl) only [↓gp, gc, Nat.reduceAdd, ↓z8l, hnx]
    refine ih (p + d.2) b xs _ v3 _ _ _ _ _ _ _ _ _ _ _ _ _ _ _ _ _ _ _ _ _ _ _ _ _ _ _ (by omega) (by omega) (by omega) (by omega) ?_ (vC ho hna) (jR hS) hR
    rw [← hx, zh7 d.2 (s.drop p) _ (by rw [List.length_drop]; omega) (fun k hk => ?_)]
    ·rw [List.drop_drop, ← List.drop_append_of_le_length (by rw [List.length_take]; omega), ← List.take_add]
    ·rw [List.getD_eq_getElem?_getD, List.getElem?_drop, ← List.getD_eq_getElem?_getD]
     by_cases hk0 : k = 0
     ·rw [hk0, Nat.add_zero, List.getD_eq_getElem?_getD, List.getElem?_eq_getElem hlt]; exact c47
     ·exact h5 (p + k) (by omega) (by omega)
  ·have hpe : p = s.length := by omega
   have hnx : za5 S (.it 0) = some (.val (.tup [.d (.bool false)]) S 3) := by simp only [za5, hS]; rw [if_neg (by omega)]
   rw [qK]
   refine zS ?_
   conv => arg 2; whnf
   simp (maxSteps:=1000000) (disch:=first|assumption|omega|rfl) only [↓gp, gc, Nat.reduceAdd, ↓z8l, hnx]
   rw [hpe, List.drop_length, List.take_length] at hx
   exact hR _ _ b xs _ _ _ _ _ _ _ _ _ _ _ _ _ _ _ _ _ _ _ _ _ _ _ _ _ _ _ (by omega) hx ho
theorem zid (r : List UInt8) (hl : r.length < 900000) : Ev cfg 113 [.str (47 :: r)] (.ret (.d (.sl ((spl [] r).map .str)))) := by
 refine kQ rfl rfl zqj ?_
 show Wp cfg (Try.f113.body.getD .skip) ((.d (.str (47 :: r))) :: uZ (uZ (uZ ((.tup []) :: (.tup []) :: (.tup []) :: [])))) [] [] _
 unfold uZ
 conv => arg 2; whnf
 have hlt : 0 < (47 :: r).length := by simp
 obtain ⟨_, _, h3, _, _⟩ := zgy (47 :: r) 0 hlt
 have hd := h3 rfl
 have hnx : za5 [.iter (47 :: r) 0] (.it 0) = some (.val (.tup [.d (.bool true), .d (.int .i64 0), .d (.int .i32 47)]) [.iter (47 :: r) 1] 3) := by
  simp only [za5]
  rw [show ([Ob.iter (47 :: r) 0] : zA)[0]? = some (.iter (47 :: r) 0) from rfl]
  simp only
  rw [if_pos hlt, hd]
  rfl
 simp (maxSteps:=1000000) (disch:=first|assumption|omega|rfl) only [↓gp, gc, Nat.reduceAdd, ↓zl0, zis]
 rw [qK]
 refine zS ?_
 conv => arg 2; whnf
 simp (maxSteps:=1000000) (disch:=first|assumption|omega|rfl) only [↓gp, gc, Nat.reduceAdd, ↓z8l, hnx, decide_true, decide_false]
 refine zmd (47 :: r) (by simp; omega) (spl [] r) (by have := z8j r []; omega) _ _ (47 :: r).length 1 1 [] _ _ _ _ _ _ _ _ _ _ _ _ _ _ _ _ _ _ _ _ _ _ _ _ _ _ _ _ _ (by omega) (Nat.le_refl _) (Nat.le_refl _) (by simp) ?_ OwnS.nil rfl ?_
 ·simp
 ·intro S v3 b' ys v5 v6 g9 gI gJ gF gA gB gG gH gC gD gE gK gL gO gM gN gP gQ gV gR gS gT gU gW gX hb hy ho
  have hsl := zln (S := S) (P := Try.prog) (t := 9) (s := 47 :: r) (lo := (b' : Int)) Try.underlying9 (by omega) (by omega)
  rw [Int.toNat_natCast] at hsl
  have hyl : ys.length < 1000000 := by
   have h1 := congrArg List.length hy
   have h2 := z8j r []
   simp at h1; omega
  obtain ⟨v', S', c, ha, ho', hfr, hlen⟩ := ap42 ((47 :: r).drop b') ho hyl
  simp (maxSteps:=1000000) (disch:=first|assumption|omega|rfl) only [↓gp, gc, Nat.reduceAdd, hsl, ha]
  rw [← hy]
  exact zV rfl (z19 ho') (z1e ho')
theorem zcl {ops : Array Oper} {dst : Option Tmp} {k : List Oper} {T : List V} {S : zA} {F : Dfs} {Q : Post} {r : List UInt8} (hl : r.length < 900000) :
  WpR cfg ops dst k T S F Q (some (.enter 113 [.d (.str (47 :: r))])) = WpL cfg ops k (putT T dst (.d (.sl ((spl [] r).map .str)))) S F Q :=
 zX (ds := [.str (47 :: r)]) rfl (zid r hl)
theorem z9q : ∀ (r part : List UInt8), kW part r = if [] ∈ spl part r then none else some (spl part r)
 | [], part => by
  by_cases hp : part = []
  ·simp [kW, spl, hp]
  ·have : ¬ ([] : List UInt8) = part := fun h => hp h.symm
   simp [kW, spl, hp, this]
 | c :: r, part => by
  by_cases hc : c = 47
  ·by_cases hp : part = []
   ·simp [kW, spl, hp, hc]
   ·have hp' : ¬ ([] : List UInt8) = part := fun h => hp h.symm
    simp only [kW, spl, hc, hp, if_true, if_false, z9q r [], List.mem_cons, hp', false_or]
    split <;> rfl
  ·simp only [kW, spl, hc, if_false]
   exact z9q r _
theorem zfj : ∀ (r part x : List UInt8), x ∈ spl part r → x.length ≤ part.length + r.length
 | [], part, x, h => by simp [spl] at h; subst h; simp
 | c :: r, part, x, h => by
  unfold spl at h
  split at h
  ·rcases List.mem_cons.1 h with rfl | h
   ·simp
   ·have := zfj r [] x h; simp at this ⊢; omega
  ·have := zfj r _ x h; simp at this ⊢; omega
theorem zsi (l : List (List UInt8)) (hl : l.length < 1000000) (R : Post) (S : zA) (g0 g1 g2 g3 g4 : V) : ∀ (k i : Nat) (g5 g6 g7 g8 g9 gI gJ gF gA gB gG gH gC gD gE gK gL gO gM gN gR gS gT gU gW gX gY gZ gf gg gh gi gj gk gm gn gr : V), l.length - i = k → i ≤ l.length →
 (∀ i' g5 g6 g7 g8 g9 gI gJ gF gA gB gG gH gC gD gE gK gL gO gM gN gR gS gT gU gW gX gY gZ gf gg gh gi gj gk gm gn gr, [] ∉ l.drop i → R (.exit 0) (g0 :: g1 :: g2 :: g3 :: g4 :: g5 :: g6 :: g7 :: g8 :: g9 :: gI :: gJ :: gF :: gA :: gB :: gG :: gH :: gC :: gD :: gE :: gK :: gL :: gO :: gM :: gN :: (.d (.sl (l.map .str))) :: (.d (.int .i64 l.length)) :: i' :: gR :: gS :: gT :: gU :: gW :: gX :: gY :: gZ :: gf :: gg :: gh :: gi :: gj :: gk :: gm :: gn :: gr :: []) S []) →
 (∀ i' g5 g6 g7 g8 g9 gI gJ gF gA gB gG gH gC gD gE gK gL gO gM gN gR gS gT gU gW gX gY gZ gf gg gh gi gj gk gm gn gr, [] ∈ l.drop i → R .ret (g0 :: g1 :: (.ts []) :: (.d (.int .i64 15)) :: g4 :: g5 :: g6 :: g7 :: g8 :: g9 :: gI :: gJ :: gF :: gA :: gB :: gG :: gH :: gC :: gD :: gE :: gK :: gL :: gO :: gM :: gN :: (.d (.sl (l.map .str))) :: (.d (.int .i64 l.length)) :: i' :: gR :: gS :: gT :: gU :: gW :: gX :: gY :: gZ :: gf :: gg :: gh :: gi :: gj :: gk :: gm :: gn :: gr :: []) S []) →
 Wp cfg (.loop (lpOf (Try.f97.body.getD .skip) 0)) (g0 :: g1 :: g2 :: g3 :: g4 :: g5 :: g6 :: g7 :: g8 :: g9 :: gI :: gJ :: gF :: gA :: gB :: gG :: gH :: gC :: gD :: gE :: gK :: gL :: gO :: gM :: gN :: (.d (.sl (l.map .str))) :: (.d (.int .i64 l.length)) :: (.d (.int .i64 i)) :: gR :: gS :: gT :: gU :: gW :: gX :: gY :: gZ :: gf :: gg :: gh :: gi :: gj :: gk :: gm :: gn :: gr :: []) S [] R := by
 intro k
 induction k with
 | zero =>
  intro i g5 g6 g7 g8 g9 gI gJ gF gA gB gG gH gC gD gE gK gL gO gM gN gR gS gT gU gW gX gY gZ gf gg gh gi gj gk gm gn gr hk hi hE hR
  have hie : i = l.length := by omega
  rw [qK]
  refine zS ?_
  conv => arg 2; whnf
  simp (maxSteps:=1000000) (disch:=first|assumption|omega|rfl) only [↓gp, gc, Nat.reduceAdd]
  exact hE _ _ _ _ _ _ _ _ _ _ _ _ _ _ _ _ _ _ _ _ _ _ _ _ _ _ _ _ _ _ _ _ _ _ _ _ _ _ (by rw [hie, List.drop_length]; simp)
 | succ k ih =>
  intro i g5 g6 g7 g8 g9 gI gJ gF gA gB gG gH gC gD gE gK gL gO gM gN gR gS gT gU gW gX gY gZ gf gg gh gi gj gk gm gn gr hk hi hE hR
  have hlt : i < l.length := by omega
  have hdr : l.drop i = l[i] :: l.drop (i + 1) := List.drop_eq_getElem_cons hlt
  rw [hdr] at hE hR
  rw [qK]
  refine zS ?_
  conv => arg 2; whnf
  by_cases hc : l[i] = []
  ·simp (maxSteps:=1000000) (disch:=first|assumption|omega|rfl) only [↓gp, gc, Nat.reduceAdd]
   exact hR _ _ _ _ _ _ _ _ _ _ _ _ _ _ _ _ _ _ _ _ _ _ _ _ _ _ _ _ _ _ _ _ _ _ _ _ _ _ (by rw [hc]; exact List.mem_cons_self)
  ·have hc' : ¬ [] = l[i] := fun h => hc h.symm
   simp (maxSteps:=1000000) (disch:=first|assumption|omega|rfl) only [↓gp, gc, Nat.reduceAdd]
   exact ih (i + 1) _ _ _ _ _ _ _ _ _ _ _ _ _ _ _ _ _ _ _ _ _ _ _ _ _ _ _ _ _ _ _ _ _ _ _ _ _ (by omega) (by omega) (fun i' g5 g6 g7 g8 g9 gI gJ gF gA gB gG gH gC gD gE gK gL gO gM gN gR gS gT gU gW gX gY gZ gf gg gh gi gj gk gm gn gr h => hE i' g5 g6 g7 g8 g9 gI gJ gF gA gB gG gH gC gD gE gK gL gO gM gN gR gS gT gU gW gX gY gZ gf gg gh gi gj gk gm gn gr (by rw [List.mem_cons]; exact fun hh => hh.elim hc' h)) (fun i' g5 g6 g7 g8 g9 gI gJ gF gA gB gG gH gC gD gE gK gL gO gM gN gR gS gT gU gW gX gY gZ gf gg gh gi gj gk gm gn gr h => hR i' g5 g6 g7 g8 g9 gI gJ gF gA gB gG gH gC gD gE gK gL gO gM gN gR gS gT gU gW gX gY gZ gf gg gh gi gj gk gm gn gr (List.mem_cons_of_mem _ h))
theorem zqn (l : List (List UInt8)) (hl : l.length < 1000000) (hm : ∀ x ∈ l, x.length < 1000000) (R : Post) (S : zA) (g0 g1 g2 g3 g4 : V) : ∀ (k i : Nat) (g5 g6 g7 g8 g9 gI gJ gF gA gB gG gH gC gD gE gK gL gO gM gN gP gQ gV gR gS gT gU gW gX gg gh gi gj gk gm gn gr : V), l.length - i = k → i ≤ l.length →
 (∀ i' g5 g6 g7 g8 g9 gI gJ gF gA gB gG gH gC gD gE gK gL gO gM gN gP gQ gV gR gS gT gU gW gX gg gh gi gj gk gm gn gr, (l.drop i).all wM = true → R (.exit 2) (g0 :: g1 :: g2 :: g3 :: g4 :: g5 :: g6 :: g7 :: g8 :: g9 :: gI :: gJ :: gF :: gA :: gB :: gG :: gH :: gC :: gD :: gE :: gK :: gL :: gO :: gM :: gN :: gP :: gQ :: gV :: gR :: gS :: gT :: gU :: gW :: gX :: (.d (.sl (l.map .str))) :: (.d (.int .i64 l.length)) :: i' :: gg :: gh :: gi :: gj :: gk :: gm :: gn :: gr :: []) S []) →
 (∀ i' g5 g6 g7 g8 g9 gI gJ gF gA gB gG gH gC gD gE gK gL gO gM gN gP gQ gV gR gS gT gU gW gX gg gh gi gj gk gm gn gr, (l.drop i).all wM = false → R .ret (g0 :: g1 :: (.ts []) :: (.d (.int .i64 3)) :: g4 :: g5 :: g6 :: g7 :: g8 :: g9 :: gI :: gJ :: gF :: gA :: gB :: gG :: gH :: gC :: gD :: gE :: gK :: gL :: gO :: gM :: gN :: gP :: gQ :: gV :: gR :: gS :: gT :: gU :: gW :: gX :: (.d (.sl (l.map .str))) :: (.d (.int .i64 l.length)) :: i' :: gg :: gh :: gi :: gj :: gk :: gm :: gn :: gr :: []) S []) →
 Wp cfg (.loop (lpOf (Try.f97.body.getD .skip) 2)) (g0 :: g1 :: g2 :: g3 :: g4 :: g5 :: g6 :: g7 :: g8 :: g9 :: gI :: gJ :: gF :: gA :: gB :: gG :: gH :: gC :: gD :: gE :: gK :: gL :: gO :: gM :: gN :: gP :: gQ :: gV :: gR :: gS :: gT :: gU :: gW :: gX :: (.d (.sl (l.map .str))) :: (.d (.int .i64 l.length)) :: (.d (.int .i64 i)) :: gg :: gh :: gi :: gj :: gk :: gm :: gn :: gr :: []) S [] R := by
 intro k
 induction k with
 | zero =>
  intro i g5 g6 g7 g8 g9 gI gJ gF gA gB gG gH gC gD gE gK gL gO gM gN gP gQ gV gR gS gT gU gW gX gg gh gi gj gk gm gn gr hk hi hE hR
  have hie : i = l.length := by omega
  rw [qK]
  refine zS ?_
  conv => arg 2; whnf
  simp (maxSteps:=1000000) (disch:=first|assumption|omega|rfl) only [↓gp, gc, Nat.reduceAdd]
  exact hE _ _ _ _ _ _ _ _ _ _ _ _ _ _ _ _ _ _ _ _ _ _ _ _ _ _ _ _ _ _ _ _ _ _ _ _ _ _ (by rw [hie, List.drop_length]; rfl)
 | succ k ih =>
  intro i g5 g6 g7 g8 g9 gI gJ gF gA gB gG gH gC gD gE gK gL gO gM gN gP gQ gV gR gS gT gU gW gX gg gh gi gj gk gm gn gr hk hi hE hR
  have hlt : i < l.length := by omega
  have hdr : l.drop i = l[i] :: l.drop (i + 1) := List.drop_eq_getElem_cons hlt
  rw [hdr, List.all_cons] at hE hR
  have hml := hm _ (List.getElem_mem hlt)
  rw [qK]
  refine zS ?_
  conv => arg 2; whnf
  cases hc : wM l[i] with
  | false =>
   have hn : ¬ z4u l[i] = 0 := by simp [z4u, hc]
   simp (maxSteps:=1000000) (disch:=first|assumption|omega|rfl) only [↓gp, gc, Nat.reduceAdd, zat]
   exact hR _ _ _ _ _ _ _ _ _ _ _ _ _ _ _ _ _ _ _ _ _ _ _ _ _ _ _ _ _ _ _ _ _ _ _ _ _ _ (by rw [hc]; rfl)
  | true =>
   have hn : z4u l[i] = 0 := by simp [z4u, hc]
   rw [hc, Bool.true_and] at hE hR
   simp (maxSteps:=1000000) (disch:=first|assumption|omega|rfl) only [↓gp, gc, Nat.reduceAdd, zat, hn]
   exact ih (i + 1) _ _ _ _ _ _ _ _ _ _ _ _ _ _ _ _ _ _ _ _ _ _ _ _ _ _ _ _ _ _ _ _ _ _ _ _ _ (by omega) (by omega) hE hR
theorem ze6 (s : List UInt8) (hl : s.length < 900000) : Ev cfg 97 [.str s] (.ret (.tup [.d (.sl ((zQ s).1.map .str)), .d (.int .i64 (zQ s).2)])) := by
 refine kQ rfl rfl zvr ?_
 show Wp cfg (Try.f97.body.getD .skip) ((.d (.str s)) :: uZ (uZ (uZ (uZ ((.tup []) :: (.tup []) :: (.tup []) :: (.tup []) :: []))))) [] [] _
 unfold uZ
 conv => arg 2; whnf
 by_cases h0 : s = []
 ·subst h0
  simp (maxSteps:=1000000) (disch:=first|assumption|omega|rfl) only [↓gp, gc, Nat.reduceAdd, decide_true, decide_false]
  exact kF rfl rfl rfl rfl rfl rfl
 ·by_cases h1 : (s.length : Int) > 200
  ·have e : zQ s = ([], 15) := by unfold zQ; rw [if_pos (.inr (.inl (by omega)))]
   simp (maxSteps:=1000000) (disch:=first|assumption|omega|rfl) only [↓gp, gc, Nat.reduceAdd, decide_true, decide_false]
   rw [e]
   exact kF rfl rfl rfl rfl rfl rfl
  ·obtain ⟨c, r, rfl⟩ : ∃ c r, s = c :: r := by
    cases s with
    | nil => exact absurd rfl h0
    | cons c r => exact ⟨c, r, rfl⟩
   have hix : z46 Try.prog 9 (.d (.str (c :: r))) (.d (.int .i64 0)) = some (.d (.int .u8 c.toNat)) := zgl (i := 0) (s := c :: r) Try.underlying9 (by simp)
   have e47 : c = 47 ↔ (c.toNat : Int) = 47 := ⟨fun h => by rw [h]; rfl, fun h => UInt8.toNat_inj.1 (by show c.toNat = 47; omega)⟩
   by_cases h2 : (c.toNat : Int) = 47
   ·have hc : c = 47 := e47.2 h2
    subst hc
    by_cases h3 : r = []
    ·subst h3
     simp (maxSteps:=1000000) (disch:=first|assumption|omega|rfl) only [↓gp, gc, Nat.reduceAdd, decide_true, decide_false, hix]
     exact kF rfl rfl rfl rfl rfl rfl
    ·have h3' : ¬ (47 :: r) = [47] := fun h => h3 (by simpa using h)
     have hrl : r.length < 900000 := by simp at hl; omega
     have hsl := z8j r []
     have hll : (spl [] r).length < 1000000 := by omega
     have e : zQ (47 :: r) = match kW [] r with | none => ([], 15) | some l => if l.all wM then (l, 0) else ([], 3) := by
      unfold zQ
      rw [if_neg (by simp at h1 ⊢; omega), if_neg (by intro h; exact h3 (by simpa using h))]
      rfl
     rw [z9q] at e
     simp (maxSteps:=1000000) (disch:=first|assumption|omega|rfl) only [↓gp, gc, Nat.reduceAdd, decide_true, decide_false, hix, zcl]
     refine zsi (spl [] r) hll _ _ _ _ _ _ _ (spl [] r).length 0 _ _ _ _ _ _ _ _ _ _ _ _ _ _ _ _ _ _ _ _ _ _ _ _ _ _ _ _ _ _ _ _ _ _ _ _ _ rfl (by omega) ?_ ?_
     ·intro i' g5 g6 g7 g8 g9 gI gJ gF gA gB gG gH gC gD gE gK gL gO gM gN gR gS gT gU gW gX gY gZ gf gg gh gi gj gk gm gn gr hne
      rw [List.drop_zero] at hne
      rw [if_neg hne] at e
      simp only at e
      simp (maxSteps:=1000000) (disch:=first|assumption|omega|rfl) only [↓gp, gc, Nat.reduceAdd, decide_true, decide_false]
      refine zqn (spl [] r) hll (fun x hx => by have := zfj r [] x hx; simp at this; omega) _ _ _ _ _ _ _ (spl [] r).length 0 _ _ _ _ _ _ _ _ _ _ _ _ _ _ _ _ _ _ _ _ _ _ _ _ _ _ _ _ _ _ _ _ _ _ _ _ _ rfl (by omega) ?_ ?_
      ·intro i' g5 g6 g7 g8 g9 gI gJ gF gA gB gG gH gC gD gE gK gL gO gM gN gP gQ gV gR gS gT gU gW gX gg gh gi gj gk gm gn gr ha
       rw [List.drop_zero] at ha
       rw [if_pos ha] at e
       simp (maxSteps:=1000000) (disch:=first|assumption|omega|rfl) only [↓gp, gc, Nat.reduceAdd, decide_true, decide_false]
       rw [e]
       exact kF rfl rfl rfl rfl rfl rfl
      ·intro i' g5 g6 g7 g8 g9 gI gJ gF gA gB gG gH gC gD gE gK gL gO gM gN gP gQ gV gR gS gT gU gW gX gg gh gi gj gk gm gn gr ha
       rw [List.drop_zero] at ha
       rw [if_neg (by rw [ha]; exact Bool.noConfusion)] at e
       simp (maxSteps:=1000000) (disch:=first|assumption|omega|rfl) only [↓gp, gc, Nat.reduceAdd, decide_true, decide_false]
       rw [e]
       exact kF rfl rfl rfl rfl rfl rfl
     ·intro i' g5 g6 g7 g8 g9 gI gJ gF gA gB gG gH gC gD gE gK gL gO gM gN gR gS gT gU gW gX gY gZ gf gg gh gi gj gk gm gn gr hne
      rw [List.drop_zero] at hne
      rw [if_pos hne] at e
      simp (maxSteps:=1000000) (disch:=first|assumption|omega|rfl) only [↓gp, gc, Nat.reduceAdd, decide_true, decide_false]
      rw [e]
      exact kF rfl rfl rfl rfl rfl rfl
   ·have e : zQ (c :: r) = ([], 15) := by
     unfold zQ
     rw [if_pos (.inr (.inr (by simp; exact fun h => h2 (e47.1 h))))]
    simp (maxSteps:=1000000) (disch:=first|assumption|omega|rfl) only [↓gp, gc, Nat.reduceAdd, decide_true, decide_false, hix]
    rw [e]
    exact kF rfl rfl rfl rfl rfl rfl
theorem z56 {ops : Array Oper} {dst : Option Tmp} {k : List Oper} {T : List V} {S : zA} {F : Dfs} {Q : Post} {s : List UInt8} (hl : s.length < 900000) :
  WpR cfg ops dst k T S F Q (some (.enter 97 [.d (.str s)])) = WpL cfg ops k (putT T dst (.tup [.d (.sl ((zQ s).1.map .str)), .d (.int .i64 (zQ s).2)])) S F Q :=
 zX (ds := [.str s]) rfl (ze6 s hl)
def upN (s : List UInt8) : List (List UInt8) × List UInt8 × Int :=
 if (zQ s).2 ≠ 0 then ([], [], (zQ s).2)
 else if (zQ s).1.length = 0 then ([], [], 15)
 else ((zQ s).1.take ((zQ s).1.length - 1), (zQ s).1.getD ((zQ s).1.length - 1) [], 0)
theorem q0m (s : List UInt8) (hl : s.length < 900000) : Ev cfg 101 [.str s] (.ret (.tup [.d (.sl ((upN s).1.map .str)), .d (.str (upN s).2.1), .d (.int .i64 (upN s).2.2)])) := by
 refine kQ rfl rfl zqb ?_
 show Wp cfg (Try.f101.body.getD .skip) ((.d (.str s)) :: uZ (uZ ((.tup []) :: (.tup []) :: (.tup []) :: (.tup []) :: (.tup []) :: (.tup []) :: (.tup []) :: (.tup []) :: []))) [] [] _
 unfold uZ
 conv => arg 2; whnf
 generalize hr : upN s = q
 unfold upN at hr
 have hn := z2t s
 by_cases h : (zQ s).2 = 0
 ·rw [if_neg (by simp [h])] at hr
  by_cases h0 : (zQ s).1.length = 0
  ·have h0' : ((zQ s).1.length : Int) = 0 := by omega
   simp (maxSteps:=1000000) (disch:=first|assumption|omega|rfl) only [↓gp, gc, Nat.reduceAdd, z56]
   rw [if_pos h0] at hr
   subst hr
   exact z03 rfl rfl rfl rfl rfl rfl rfl rfl rfl
  ·have h0' : ¬ ((zQ s).1.length : Int) = 0 := by omega
   rw [if_neg h0] at hr
   have hsl := zpl (S := []) (P := Try.prog) (t := 42) (e := 9) (xs := (zQ s).1.map D.str) (hi := ((zQ s).1.length : Int) - 1) Try.underlying42 (by simp only [List.all_map, List.all_eq_true]; intro x _; exact zo5 x) zjv (by omega) (by simp only [List.length_map]; omega)
   rw [← List.map_take, show (((zQ s).1.length : Int) - 1).toNat = (zQ s).1.length - 1 by omega] at hsl
   have hlt : (zQ s).1.length - 1 < (zQ s).1.length := by omega
   have hix := ix42 (S := []) hlt
   rw [show (((zQ s).1.length - 1 : Nat) : Int) = ((zQ s).1.length : Int) - 1 by omega] at hix
   simp (maxSteps:=1000000) (disch:=first|assumption|omega|rfl) only [↓gp, gc, Nat.reduceAdd, z56]
   refine qS (is := [0, 1, 2, 3, 4, 5, 6, 7, 8, 9, 10, 11, 12, 13]) (h := 0) (by kernel_rfl) (by kernel_rfl) ?_
   simp (maxSteps:=1000000) (disch:=first|assumption|omega|rfl) only [List.replicate_zero, eq_self, gd, ga, Nat.reduceAdd, ↓gq, Option.map_some, Option.map_none, hsl, hix]
   refine ⟨by kernel_rfl, ?_⟩
   simp (maxSteps:=1000000) (disch:=first|assumption|omega|rfl) only [↓gp, gc, Nat.reduceAdd]
   subst hr
   rw [List.getD_eq_getElem?_getD, List.getElem?_eq_getElem hlt]
   exact z03 rfl rfl rfl rfl rfl rfl rfl rfl rfl
 ·simp (maxSteps:=1000000) (disch:=first|assumption|omega|rfl) only [↓gp, gc, Nat.reduceAdd, z56]
  rw [if_pos h] at hr
  subst hr
  exact z03 rfl rfl rfl rfl rfl rfl rfl rfl rfl
theorem zai {C : Cfg} {ops : Array Oper} {dst : Option Tmp} {ty : TypeId} {pos : String} {after : Array Edge} {l : List Oper} {T : List V} {S : zA} {F : Dfs} {Q : Post} {t : TypeId} : WpL C ops (⟨dst, .makeMap t none, ty, pos, after, none⟩ :: l) T S F Q = WpL C ops l (putT T dst (.mr S.length)) (S ++ [.mp [] 0]) F Q := by
 rw [z09 rfl]; rfl
def z9i (t : List Node) : List Int → Prop
 | [] => False
 | i :: r => hasN t i = true ∧ match r with
  | [] => i = 1
  | j :: _ => i ≠ 1 ∧ (getN t i).parent = j ∧ z9i t r
theorem eqI {a b : Int} : eqV Try.prog 3 (.d (.int .i64 a)) (.d (.int .i64 b)) = some (a == b) := by kernel_rfl
theorem keyI {k : Int} : za3 Try.prog 3 (.d (.int .i64 k)) = true := by kernel_rfl
theorem z3 : zeroV Try.prog 3 = some (.d (.int .i64 0)) := by kernel_rfl
def mapD (t : List Node) : List (D × D) := t.map fun n => (.int .i64 n.ino, zB n)
abbrev stD (t : List Node) : D := .ptr (.agg [.map (mapD t)])
theorem z6f {S S' : zA} {v : V} {e : TypeId} {xs : List V} (h : OwnS S v e xs) (hk : ∀ (j : Nat) (ys : List V) (u : TypeId), S[j]? = some (.row ys u) → S'[j]? = some (.row ys u)) : OwnS S' v e xs := by
 rcases h with h | ⟨j, rfl, h1⟩
 ·exact .inl h
 ·exact .inr ⟨j, rfl, hk _ _ _ h1⟩
def MapN (S : zA) : Nat → List Node → List (D × V × Nat) → Prop
 | _, [], [] => True
 | c, n :: ns, e :: es => (∃ v1 v2, e = (.int .i64 n.ino, zD n v1 v2, c) ∧ OwnS S v1 5 (n.data.map fun b => .d (.int .u8 b.toNat)) ∧ OwnS S v2 88 (n.names.map fun x => .d (zI x))) ∧ MapN S (c + 1) ns es
 | _, _, _ => False
theorem MapN.keep {S S' : zA} (hk : ∀ (j : Nat) (ys : List V) (u : TypeId), S[j]? = some (.row ys u) → S'[j]? = some (.row ys u)) : ∀ {ns : List Node} {es : List (D × V × Nat)} {c : Nat}, MapN S c ns es → MapN S' c ns es
 | [], [], _, _ => trivial
 | n :: ns, e :: es, c, ⟨⟨v1, v2, h0, h1, h2⟩, h3⟩ => ⟨⟨v1, v2, h0, z6f h1 hk, z6f h2 hk⟩, MapN.keep hk h3⟩
theorem MapN.snoc {S : zA} {n : Node} {v1 v2 : V} (h1 : OwnS S v1 5 (n.data.map fun b => .d (.int .u8 b.toNat))) (h2 : OwnS S v2 88 (n.names.map fun x => .d (zI x))) : ∀ {ns : List Node} {es : List (D × V × Nat)} {c : Nat}, MapN S c ns es → MapN S c (ns ++ [n]) (es ++ [(.int .i64 n.ino, zD n v1 v2, c + ns.length)])
 | [], [], c, _ => ⟨⟨v1, v2, rfl, h1, h2⟩, trivial⟩
 | m :: ns, e :: es, c, ⟨h3, h4⟩ => by
  have := MapN.snoc h1 h2 h4
  rw [show c + 1 + ns.length = c + (m :: ns).length by simp; omega] at this
  exact ⟨h3, this⟩
theorem MapN.no {S : zA} {k : Int} : ∀ {ns : List Node} {es : List (D × V × Nat)} {c i : Nat}, MapN S c ns es → k ∉ ns.map (·.ino) → findD Try.prog 3 (.d (.int .i64 k)) es i = some none
 | [], [], _, _, _, _ => rfl
 | n :: ns, e :: es, c, i, ⟨⟨v1, v2, h0, _, _⟩, h3⟩, hk => by
  subst h0
  have h1 : (k == n.ino) = false := by rw [beq_eq_false_iff_ne]; rintro rfl; exact hk (by simp)
  simp only [findD, eqI, h1]
  exact MapN.no h3 (fun hh => hk (by simp at hh ⊢; exact .inr hh))
theorem MapN.frz {S : zA} : ∀ {ns : List Node} {es : List (D × V × Nat)} {c : Nat}, MapN S c ns es → allO (fun (e : D × V × Nat) => (frz S 9 e.2.1).map fun x => (e.1, x)) es = some (mapD ns)
 | [], [], _, _ => rfl
 | n :: ns, e :: es, c, ⟨⟨v1, v2, h0, h1, h2⟩, h3⟩ => by
  subst h0
  have hf : Go.Vm.frz S 9 (zD n v1 v2) = some (zB n) := zcv (k := 6) h1 h2
  simp only [allO, hf, Option.map_some, MapN.frz h3]
  rfl
theorem zq5 {S : zA} {ns : List Node} {es : List (D × V × Nat)} {n : Node} {v1 v2 : V} (h : S[0]? = some (.mp es ns.length)) (hm : MapN S 0 ns es) (hk : n.ino ∉ ns.map (·.ino)) : jG Try.prog S 125 (.mr 0) (.d (.int .i64 n.ino)) (zD n v1 v2) = some (S.set 0 (.mp (es ++ [(.int .i64 n.ino, zD n v1 v2, ns.length)]) (ns.length + 1))) := by
 have ho : V.one (zD n v1 v2) = true := rfl
 have ha : asD (.d (.int .i64 n.ino)) = some (.int .i64 n.ino) := rfl
 simp only [jG, Try.underlying125, keyI, ho, Bool.and_self, if_true, ha, h, hm.no hk]
theorem zyx {i : Nat} : vP Try.prog 127 [(0, .mr i)] = some (.agg [.mr i]) := by kernel_rfl
theorem zy1 {i : Nat} : qI Try.prog 127 (.agg [.mr i]) = true := by kernel_rfl
theorem vD {j x y : Nat} : zL Try.prog 127 0 (.ref j x y) = some (.ref j x (y + 0)) := by kernel_rfl
theorem wU {i : Nat} : kA Try.prog 125 0 (some (.agg [.mr i])) = some (.mr i) := by kernel_rfl
theorem zwl {t : List Node} : zL Try.prog 127 0 (.d (stD t)) = some (.d (.ptr (.map (mapD t)))) := by kernel_rfl
theorem zzi {S : zA} {es : List (D × D)} : jV Try.prog S 125 (.d (.ptr (.map es))) = some (.d (.map es)) := by kernel_rfl
theorem jC {P : Program} {S : zA} {T : List V} {dst : Option Tmp} {ty : TypeId} {pos : String} {after : Array Edge} {g : Option (Nat × Bool)} {t : TypeId} {m k x : Operand} : opV P S T ⟨dst, .mapUpdate t m k x, ty, pos, after, g⟩ = (jG P S t (zF T m) (zF T k) (zF T x)).map fun S' => .skip S' 3 := rfl
def nilS (S : zA) : V → Option Rs
 | .ref i ix off => some (.val (.ref i ix off) S 0)
 | .d (.ptr x) => some (.val (.d (.ptr x)) S 0)
 | .fn (.func g) a b => some (.val (.fn (.func g) a b) S 0)
 | _ => none
theorem qL {P : Program} {S : zA} {T : List V} {dst : Option Tmp} {ty : TypeId} {pos : String} {after : Array Edge} {g : Option (Nat × Bool)} {x : Operand} : opV P S T ⟨dst, .nilCheck x, ty, pos, after, g⟩ = nilS S (zF T x) := by
 simp only [opV]
 generalize zF T x = v
 cases v with
 | d y => cases y <;> rfl
 | fn f a b => cases f <;> rfl
 | _ => rfl
theorem qG {S : zA} {i ix off : Nat} : nilS S (.ref i ix off) = some (.val (.ref i ix off) S 0) := rfl
theorem zk8 {S : zA} {t : List Node} : nilS S (.d (stD t)) = some (.val (.d (stD t)) S 0) := rfl
theorem zp6 {C : Cfg} {ops : Array Oper} {dst : Option Tmp} {ty : TypeId} {pos : String} {after : Array Edge} {l : List Oper} {T : List V} {S : zA} {F : Dfs} {Q : Post} {x : Operand} : WpL C ops (⟨dst, .nilCheck x, ty, pos, after, none⟩ :: l) T S F Q = WpR C ops dst l T S F Q (nilS S (zF T x)) := by
 rw [z09 rfl, qL]
theorem zu9 (t : List Node) (k0 : Nat) (hk0 : k0 < 300000) (hS : Small k0 t) (hnd : (t.map (·.ino)).Nodup) (R : Post) (g1 g2 : V) : ∀ (k i : Nat) (es : List (D × V × Nat)) (S : zA) (v5 g6 g7 g8 gF gA gB gG gH gC gD gE gK gL gO gM gN gP gQ gV gR gS gT gU gW gX : V), t.length - i = k → i ≤ t.length → S[0]? = some (.mp es i) → MapN S 0 (t.take i) es → S[1]? = some (.row [.agg [.mr 0]] 127) →
 (∀ S es v5 i' g6 g7 g8 gF gA gB gG gH gC gD gE gK gL gO gM gN gP gQ gV gR gS gT gU gW gX, S[0]? = some (.mp es t.length) → MapN S 0 t es → S[1]? = some (.row [.agg [.mr 0]] 127) → R (.exit 0) ((.d (.sl (t.map zB))) :: g1 :: g2 :: (.ref 1 0 0) :: (.tup []) :: v5 :: g6 :: g7 :: g8 :: (.d (.sl (t.map zB))) :: (.d (.int .i64 t.length)) :: i' :: gF :: gA :: gB :: gG :: gH :: gC :: gD :: gE :: gK :: gL :: gO :: gM :: gN :: gP :: gQ :: gV :: gR :: gS :: gT :: gU :: gW :: gX :: []) S []) →
 Wp cfg (.loop (lpOf (Try.f40.body.getD .skip) 0)) ((.d (.sl (t.map zB))) :: g1 :: g2 :: (.ref 1 0 0) :: (.tup []) :: v5 :: g6 :: g7 :: g8 :: (.d (.sl (t.map zB))) :: (.d (.int .i64 t.length)) :: (.d (.int .i64 i)) :: gF :: gA :: gB :: gG :: gH :: gC :: gD :: gE :: gK :: gL :: gO :: gM :: gN :: gP :: gQ :: gV :: gR :: gS :: gT :: gU :: gW :: gX :: []) S [] R := by
 have hlt0 : t.length < 400000 := Nat.lt_of_le_of_lt hS.len (by omega)
 intro k
 induction k with
 | zero =>
  intro i es S v5 g6 g7 g8 gF gA gB gG gH gC gD gE gK gL gO gM gN gP gQ gV gR gS gT gU gW gX hk hi hm hM hb hR
  have hie : i = t.length := by omega
  rw [qK]
  refine zS ?_
  conv => arg 2; whnf
  simp (maxSteps:=1000000) (disch:=first|assumption|omega|rfl) only [↓gp, gc, Nat.reduceAdd]
  rw [hie, List.take_length] at hM
  rw [hie] at hm
  exact hR _ es _ _ _ _ _ _ _ _ _ _ _ _ _ _ _ _ _ _ _ _ _ _ _ _ _ _ _ hm hM hb
 | succ k ih =>
  intro i es S v5 g6 g7 g8 gF gA gB gG gH gC gD gE gK gL gO gM gN gP gQ gV gR gS gT gU gW gX hk hi hm hM hb hR
  have hlt : i < t.length := by omega
  have htk : t.take (i + 1) = t.take i ++ [t[i]] := by rw [List.take_succ_eq_append_getElem hlt]
  have hmem := List.getElem_mem hlt
  have hd := hS.siz _ hmem
  have hn := hS.nms _ hmem
  have hno : t[i].ino ∉ (t.take i).map (·.ino) := by
   intro hh
   have h1 : t.map (·.ino) = (t.take i).map (·.ino) ++ t[i].ino :: (t.drop (i + 1)).map (·.ino) := by
    have h2 := congrArg (List.map (fun n : Node => n.ino)) (List.take_append_drop i t).symm
    rw [List.drop_eq_getElem_cons hlt, List.map_append, List.map_cons] at h2
    exact h2
   rw [h1] at hnd
   exact (List.nodup_append.1 hnd).2.2 _ hh _ (by simp) rfl
  have hll : (t.take i).length = i := by rw [List.length_take]; omega
  have hS1 : 1 < S.length := qN hb
  rw [qK]
  refine zS ?_
  conv => arg 2; whnf
  generalize hN : t[i] = n at *
  have hbS : (S ++ [.row [.d (zB n)] 32])[S.length]? = some (.row [.d (zB n)] 32) := by simp
  obtain ⟨v1, S1, c1, ha1, ho1, hf1, hl1⟩ := apB (S := S ++ [.row [.d (zB n)] 32]) (l := n.data) (by omega)
  have hb2 : S1[S.length]? = some (.row [.d (zB n)] 32) := (hf1 S.length _ hbS).1
  have hr2 := zE hb2
  have hst1 := zpj (a := n) (v := v1) (z1z ho1 (by kernel_rfl) (by kernel_rfl)) (z0z ho1)
  have hpr1 := fun y => qD (y := y) hb2
  have hb3 : ∀ y : V, (S1.set S.length (.row [y] 32))[S.length]? = some (.row [y] 32) := fun y => jR hb2
  have hr3 : ∀ y, rowE (S1.set S.length (.row [y] 32)) S.length 0 = some y := fun y => zE (hb3 y)
  obtain ⟨v2, S2, c2, ha2, ho2, hf2, hl2⟩ := apE (S := S1.set S.length (.row [zD n v1 (.d (.sl (n.names.map zI)))] 32)) (l := n.names) (by omega)
  have hb4 : S2[S.length]? = some (.row [zD n v1 (.d (.sl (n.names.map zI)))] 32) := (hf2 S.length _ (hb3 _)).1
  have hr4 := zE hb4
  have hst2 := fun (x0 x1 x2 x3 x4 x5 x6 : V) => zff (x0 := x0) (x1 := x1) (x2 := x2) (x3 := x3) (x4 := x4) (x5 := x5) (x6 := x6) (v := v2) (z1z ho2 (by kernel_rfl) (by kernel_rfl)) (z0z ho2)
  have hpr2 := fun y => qD (y := y) hb4
  have hr5 : ∀ y, rowE (S2.set S.length (.row [y] 32)) S.length 0 = some y := fun y => zE (jR hb4)
  have hkeep : ∀ (j : Nat) (o : Ob), S[j]? = some o → (S2.set S.length (.row [zD n v1 v2] 32))[j]? = some o := fun j o hj => by
   have hjl := qN hj
   have h1 : (S ++ [.row [.d (zB n)] 32])[j]? = some o := by rw [List.getElem?_append_left hjl]; exact hj
   have h2 := (hf1 j o h1).1
   have h3 : (S1.set S.length (.row [zD n v1 (.d (.sl (n.names.map zI)))] 32))[j]? = some o := by rw [List.getElem?_set_ne (by omega)]; exact h2
   have h4 := (hf2 j o h3).1
   rw [List.getElem?_set_ne (by omega)]; exact h4
  have hv1 : OwnS (S2.set S.length (.row [zD n v1 v2] 32)) v1 5 (n.data.map fun b => .d (.int .u8 b.toNat)) := vC (z0f (vC ho1 (hf1 S.length _ hbS).2) (fun j o hj => (hf2 j o hj).1)) (hf1 S.length _ hbS).2
  have hv2 : OwnS (S2.set S.length (.row [zD n v1 v2] 32)) v2 88 (n.names.map fun x => .d (zI x)) := vC ho2 (hf2 S.length _ (hb3 _)).2
  have hm6 := hkeep 0 _ hm
  have hb6 := hkeep 1 _ hb
  have hM6 : MapN (S2.set S.length (.row [zD n v1 v2] 32)) 0 (t.take i) es := hM.keep (fun j ys u hj => hkeep j _ hj)
  have hr6 : rowE (S2.set S.length (.row [zD n v1 v2] 32)) 1 0 = some (.agg [.mr 0]) := zE hb6
  have hr7 : rowE (S2.set S.length (.row [zD n v1 v2] 32)) S.length 0 = some (zD n v1 v2) := zE (jR hb4)
  have hup := zq5 (n := n) (v1 := v1) (v2 := v2) (by rw [hll]; exact hm6) hM6 hno
  rw [hll] at hup
  have hkR : ∀ (j : Nat) (ys : List V) (u : TypeId) (o : Ob), (S2.set S.length (.row [zD n v1 v2] 32))[j]? = some (.row ys u) → ((S2.set S.length (.row [zD n v1 v2] 32)).set 0 o)[j]? = some (.row ys u) := fun j ys u o hj => by
   rw [List.getElem?_set_ne]
   ·exact hj
   ·rintro rfl; rw [hm6] at hj; cases hj
  unfold zD at ha2 hr4 hpr2 hr6 hr7 hup
  simp (maxSteps:=1000000) (disch:=first|assumption|omega|rfl) only [↓gp, gc, Nat.reduceAdd, ↓vbs, hN, zR, zN, zcp, zpe, ha1, hr2, hst1, hpr1, hr3, ha2, hr4, hst2, hpr2]
  refine qS (is := [0, 1, 2, 3, 4, 5, 6, 7]) (h := 0) (by kernel_rfl) (by kernel_rfl) ?_
  simp (maxSteps:=1000000) (disch:=first|assumption|omega|rfl) only [List.replicate_zero, eq_self, gd, ga, Nat.reduceAdd, ↓gq, List.append_nil, qL, qG, jC, vD, wU, hr6, hr7, hup, Option.map_some]
  refine ⟨fun _ => by kernel_rfl, ?_⟩
  refine ⟨by kernel_rfl, ?_⟩
  simp (maxSteps:=1000000) (disch:=first|assumption|omega|rfl) only [↓gp, gc, Nat.reduceAdd]
  have hfin := (hM6.keep (fun j ys u hj => hkR j ys u (.mp (es ++ [(.int .i64 n.ino, zD n v1 v2, i)]) (i + 1)) hj)).snoc (z6f hv1 (fun j ys u hj => hkR j ys u (.mp (es ++ [(.int .i64 n.ino, zD n v1 v2, i)]) (i + 1)) hj)) (z6f hv2 (fun j ys u hj => hkR j ys u (.mp (es ++ [(.int .i64 n.ino, zD n v1 v2, i)]) (i + 1)) hj))
  rw [hll, Nat.zero_add] at hfin
  exact ih (i + 1) _ _ _ _ _ _ _ _ _ _ _ _ _ _ _ _ _ _ _ _ _ _ _ _ _ _ _ _ (by omega) (by omega) (jR hm6) (by rw [htk]; exact hfin) (hkR 1 _ _ _ hb6) hR
theorem zsf (t : List Node) (k0 : Nat) (hk0 : k0 < 300000) (hS : Small k0 t) (hnd : (t.map (·.ino)).Nodup) : Ev cfg 40 [.sl (t.map zB)] (.ret (.d (stD t))) := by
 refine kQ rfl rfl zpf ?_
 show Wp cfg (Try.f40.body.getD .skip) ((.d (.sl (t.map zB))) :: uZ (uZ (uZ ((.tup []) :: (.tup []) :: (.tup []) :: [])))) [] [] _
 unfold uZ
 conv => arg 2; whnf
 simp (maxSteps:=1000000) (disch:=first|assumption|omega|rfl) only [↓gp, gc, Nat.reduceAdd, ↓zai, zyx, zy1]
 refine zu9 t k0 hk0 hS hnd _ _ _ t.length 0 [] _ _ _ _ _ _ _ _ _ _ _ _ _ _ _ _ _ _ _ _ _ _ _ _ _ _ _ rfl (by omega) rfl trivial rfl ?_
 intro S es v5 i' g6 g7 g8 gF gA gB gG gH gC gD gE gK gL gO gM gN gP gQ gV gR gS gT gU gW gX hm hM hb
 simp (maxSteps:=1000000) (disch:=first|assumption|omega|rfl) only [↓gp, gc, Nat.reduceAdd]
 refine zV rfl rfl ?_
 have e1 : frz S 10 (.mr 0) = some (.map (mapD t)) := by
  show (match S[0]? with | some (.mp es _) => (allO (fun (e : D × V × Nat) => (frz S 9 e.2.1).map fun x => (e.1, x)) es).map D.map | some (.fm es) => some (.map es) | _ => none) = _
  rw [hm]
  simp only [hM.frz, Option.map_some]
 have e2 : frz S 11 (.agg [.mr 0]) = some (.agg [.map (mapD t)]) := by
  show (match allO (frz S 10) [.mr 0] with | some ds => if ds.any D.isAgg then none else some (D.agg ds) | none => none) = _
  simp only [allO, e1]
  rfl
 show (match S[1]? with
   | some (.row xs e) => match xs[0]? with
    | some x => if (allO (frz S 11) xs).isSome then (frz S 11 x).map D.ptr else none
    | none => none
   | some (.fz xs e) => (xs[0]?).map D.ptr
   | _ => none) = _
 rw [hb]
 simp only [List.getElem?_cons_zero, allO, e2, Option.isSome_some, if_true, Option.map_some]
def PanQ (o : Out) : Post := fun x T S F => ∃ v, x = .pan v ∧ F = [] ∧ z7e S (.pan v) = some o
theorem zdq {C : Cfg} {f : FuncId} {c : Code} {n : Nat} {rs : Array ResultVar} {ds : List D} {o : Out} (hx : C.ext f = none) (hc : C.catch_ f = none) (hb : zC C.P f = some ⟨c, n, rs⟩)
  (h : Wp C c (z1n n (ds.map .d)) [] [] (post C [] (PanQ o))) : Ev C f ds o := by
 obtain ⟨m, x, T, S, F, h1, v, rfl, rfl, h4⟩ := h
 refine ⟨m + 1, ?_⟩
 unfold runD answer
 simp only [hx, run, hc, hb, h1]
 exact h4
theorem zcc {C : Cfg} {S : zA} {ops : Array Oper} {dst : Option Tmp} {l : List Oper} {T : List V} {F : Dfs} {Q : Post} {f : FuncId} {ds : List D} {v : V} (hs : C.shared f = false) (he : Ev C f ds (.pan v)) :
  WpR C ops dst l T S F Q (some (.enter f (ds.map .d))) = Q (.pan v) T S F := by
 obtain ⟨n, hn⟩ := he
 have hn' : answer C (run C n) f ds = some (.pan v) := hn
 have hfz : ∀ ds : List D, allO (frz S zO) (ds.map V.d) = some ds := by
  intro ds
  induction ds with
  | nil => rfl
  | cons x r ih => simp only [List.map_cons, allO, ih, zd8]
 have hid : ((ds.map V.d).flatMap (zZ S zO)).isEmpty = true := by rw [zb6]; rfl
 have hc : kE C (run C n) f (ds.map .d) S = some (.pan v, S, 1) := by
  unfold kE
  simp only [hs, Bool.false_eq_true, if_false, hfz, hn', hid, if_true]
 apply propext
 constructor
 ·rintro ⟨m, o, S', c, h1, h2⟩
  have := z2k h1 hc
  simp only [Prod.mk.injEq] at this
  obtain ⟨rfl, rfl, rfl⟩ := this
  exact h2
 ·exact fun h => ⟨n, _, _, _, hc, h⟩
def panS (Q : Post) (T : List V) (S : zA) (F : Dfs) : V → Prop
 | .iface t v => Q (.pan (.iface t v)) T S F
 | .d (.iface t v) => Q (.pan (.d (.iface t v))) T S F
 | _ => False
theorem znk {C : Cfg} {ops : Array Oper} {dst : Option Tmp} {ty : TypeId} {pos : String} {after : Array Edge} {l : List Oper} {T : List V} {S : zA} {F : Dfs} {Q : Post} {x : Operand} : WpL C ops (⟨dst, .panic x, ty, pos, after, none⟩ :: l) T S F Q = panS Q T S F (zF T x) := by
 apply propext
 have hp : z1w C.P T ⟨dst, .panic x, ty, pos, after, none⟩ l = none := z25 rfl
 generalize he : zF T x = v
 constructor
 ·rintro ⟨n, y, T', S', F', h1, h2⟩
  simp only [seqV, hp, qE, opV, he] at h1
  cases v with
  | iface t u => simp only [Option.some.injEq, Prod.mk.injEq] at h1; obtain ⟨rfl, rfl, rfl, rfl⟩ := h1; exact h2
  | d u => cases u <;> simp only [reduceCtorEq, Option.some.injEq, Prod.mk.injEq] at h1; obtain ⟨rfl, rfl, rfl, rfl⟩ := h1; exact h2
  | _ => cases h1
 ·intro h
  cases v with
  | iface t u => exact ⟨0, _, T, S, F, by simp only [seqV, hp, qE, opV, he], h⟩
  | d u => cases u <;> first | exact h.elim | exact ⟨0, _, T, S, F, by simp only [seqV, hp, qE, opV, he], h⟩
  | _ => exact h.elim
def zjz (t : TypeId) (S : zA) (v : V) : Option Rs := if v.one = true then some (.val (.iface t v) S 0) else none
theorem zhs {ops : Array Oper} {dst : Option Tmp} {ty : TypeId} {pos : String} {after : Array Edge} {l : List Oper} {T : List V} {S : zA} {F : Dfs} {Q : Post} {x : Operand} : WpL cfg ops (⟨dst, .makeInterface 41 x, ty, pos, after, none⟩ :: l) T S F Q = WpR cfg ops dst l T S F Q (zjz 41 S (zF T x)) := by
 rw [z09 rfl]
 simp only [opV, hP, Try.underlying41, zjz]
theorem zn1 {t : TypeId} {S : zA} {x : D} : zjz t S (.d x) = some (.val (.iface t (.d x)) S 0) := rfl
theorem zhm {P : Program} {x : Ex} {T : List V} {S : zA} (hx : x = .norm ∨ x = .ret) : RetQ P #[] (.ret (.tup [])) x T S [] := ⟨hx, rfl, .tup [], rfl, rfl⟩
def panD (e : Int) : Out := .pan (.d (.iface 41 (.int .i64 e)))
theorem zpt : zC Try.prog 98 = some ⟨Try.f98.body.getD .skip, 6, #[]⟩ := by
 unfold zC
 rw [Try.func98]
 rfl
theorem zjk : zC Try.prog 102 = some ⟨Try.f102.body.getD .skip, 7, #[]⟩ := by
 unfold zC
 rw [Try.func102]
 rfl
theorem ztw : Ev cfg 98 [.int .i64 0] (.ret (.tup [])) := by
 refine kQ rfl rfl zpt ?_
 show Wp cfg (Try.f98.body.getD .skip) ((.d (.int .i64 0)) :: (.tup []) :: (.tup []) :: (.tup []) :: (.tup []) :: (.tup []) :: []) [] [] _
 conv => arg 2; whnf
 simp (maxSteps:=1000000) (disch:=first|assumption|omega|rfl) only [↓gp, gc, Nat.reduceAdd, decide_false, ne_eq, not_true_eq_false]
 exact zhm (.inl rfl)
theorem zpd (e : Int) (he : e ≠ 0) : Ev cfg 98 [.int .i64 e] (panD e) := by
 refine zdq rfl rfl zpt ?_
 show Wp cfg (Try.f98.body.getD .skip) ((.d (.int .i64 e)) :: (.tup []) :: (.tup []) :: (.tup []) :: (.tup []) :: (.tup []) :: []) [] [] _
 conv => arg 2; whnf
 simp (maxSteps:=1000000) (disch:=first|assumption|omega|rfl) only [↓gp, gc, Nat.reduceAdd, ↓zhs, zn1, ↓znk, panS]
 exact ⟨_, rfl, rfl, rfl⟩
theorem zi7 {ops : Array Oper} {dst : Option Tmp} {k : List Oper} {T : List V} {S : zA} {F : Dfs} {Q : Post} {e : Int} (he : e ≠ 0) :
  WpR cfg ops dst k T S F Q (some (.enter 98 [.d (.int .i64 e)])) = Q (.pan (.d (.iface 41 (.int .i64 e)))) T S F :=
 zcc (ds := [.int .i64 e]) rfl (zpd e he)
theorem zy2 (e : Int) : Ev cfg 102 [.bool false, .int .i64 e] (.ret (.tup [])) := by
 refine kQ rfl rfl zjk ?_
 show Wp cfg (Try.f102.body.getD .skip) ((.d (.bool false)) :: (.d (.int .i64 e)) :: (.tup []) :: (.tup []) :: (.tup []) :: (.tup []) :: (.tup []) :: []) [] [] _
 conv => arg 2; whnf
 simp (maxSteps:=1000000) (disch:=first|assumption|omega|rfl) only [↓gp, gc, Nat.reduceAdd]
 exact zhm (.inl rfl)
theorem zuv (e : Int) (he : e ≠ 0) : Ev cfg 102 [.bool true, .int .i64 e] (panD e) := by
 refine zdq rfl rfl zjk ?_
 show Wp cfg (Try.f102.body.getD .skip) ((.d (.bool true)) :: (.d (.int .i64 e)) :: (.tup []) :: (.tup []) :: (.tup []) :: (.tup []) :: (.tup []) :: []) [] [] _
 conv => arg 2; whnf
 simp (maxSteps:=1000000) (disch:=first|assumption|omega|rfl) only [↓gp, gc, Nat.reduceAdd, zi7 he]
 exact ⟨_, rfl, rfl, rfl⟩
theorem z3u {t : List Node} {k : Int} : ∀ {i : Nat}, findD Try.prog 3 (.d (.int .i64 k)) ((mapD t).map fun e => (e.1, V.d e.2)) i = some none ∧ t.find? (fun n => decide (n.ino = k)) = none ∨ ∃ j n, findD Try.prog 3 (.d (.int .i64 k)) ((mapD t).map fun e => (e.1, V.d e.2)) i = some (some (j, .d (zB n))) ∧ t.find? (fun n => decide (n.ino = k)) = some n := by
 induction t with
 | nil => exact fun {i} => .inl ⟨rfl, rfl⟩
 | cons n r ih =>
  intro i
  by_cases h : n.ino = k
  ·refine .inr ⟨i, n, ?_, by simp [h]⟩
   simp only [mapD, List.map_cons, findD, eqI, h, beq_self_eq_true]
  ·have h1 : (k == n.ino) = false := by rw [beq_eq_false_iff_ne]; exact fun hh => h hh.symm
   simp only [mapD, List.map_cons, findD, eqI, h1]
   rcases ih (i := i + 1) with ⟨h2, h3⟩ | ⟨j, m, h2, h3⟩
   ·exact .inl ⟨h2, by simp [h, h3]⟩
   ·exact .inr ⟨j, m, h2, by simp [h, h3]⟩
theorem zsz {S : zA} {t : List Node} {k : Int} (h : hasN t k = true) : wO Try.prog S 125 (.d (.map (mapD t))) (.d (.int .i64 k)) true = some (.tup [.d (zB (getN t k)), .d (.bool true)]) := by
 unfold hasN at h
 rcases z3u (t := t) (k := k) (i := 0) with ⟨h2, h3⟩ | ⟨j, n, h2, h3⟩
 ·rw [h3] at h; cases h
 ·simp only [wO, Try.underlying125, keyI, if_true, kV, z32, h2, getN, h3, Option.getD_some]
theorem zt9 {S : zA} {t : List Node} {k : Int} (h : hasN t k = false) : wO Try.prog S 125 (.d (.map (mapD t))) (.d (.int .i64 k)) true = some (.tup [.agg [.d (.int .i64 0), .d (.int .i64 0), .d (.int .i64 0), .d (.int .i64 0), .d (.int .i64 0), .ts [], .ts []], .d (.bool false)]) := by
 unfold hasN at h
 rcases z3u (t := t) (k := k) (i := 0) with ⟨h2, h3⟩ | ⟨j, n, h2, h3⟩
 ·simp only [wO, Try.underlying125, keyI, if_true, kV, z32, h2]
 ·rw [h3] at h; cases h
theorem znm {t : List Node} {i : Int} : hasN t i = decide (0 ≤ jE i 0 t) := by
 unfold hasN
 rcases z06 i t 0 with ⟨h1, h2⟩ | ⟨k, hk, h1, h2⟩
 ·rw [h1, h2]; rfl
 ·rw [h1, h2, decide_eq_true (by omega)]; rfl
theorem z9g {t : List Node} : ∀ {k : Nat} {i j : Int}, i ≤ j → j < z2j t k i → hasN t j = true
 | 0, i, j, h1, h2 => by simp only [z2j] at h2; omega
 | k + 1, i, j, h1, h2 => by
  unfold z2j at h2
  split at h2
  ·rename_i hf
   by_cases hij : i = j
   ·rw [znm, ← hij]; exact decide_eq_true hf
   ·exact z9g (k := k) (i := i + 1) (by omega) h2
  ·omega
def fidx (s : List UInt8) : Nat → List Ent → Option Nat
 | _, [] => none
 | i, e :: r => if e.name = s then some i else fidx s (i + 1) r
theorem z15 {s : List UInt8} : ∀ {l : List Ent} {i : Nat}, (fidx s i l = none ∧ qQ l s = -1) ∨ ∃ k, ∃ h : k < l.length, fidx s i l = some (i + k) ∧ qQ l s = l[k].ino
 | [], i => .inl ⟨rfl, rfl⟩
 | e :: r, i => by
  by_cases h : e.name = s
  ·refine .inr ⟨0, by simp, ?_, ?_⟩
   ·simp [fidx, h]
   ·rw [zct h]; rfl
  ·rcases z15 (s := s) (l := r) (i := i + 1) with ⟨h1, h2⟩ | ⟨k, hk, h1, h2⟩
   ·exact .inl ⟨by simp only [fidx, h, if_false, h1], by rw [z8n h, h2]⟩
   ·refine .inr ⟨k + 1, by simp; omega, ?_, ?_⟩
    ·simp only [fidx, h, if_false, h1]
     rw [show i + 1 + k = i + (k + 1) by omega]
    ·rw [z8n h, h2]; rfl
theorem zs6 (n : Node) (s : List UInt8) (hl : n.names.length < 1000000) (R : Post) (g3 g8 : V) : ∀ (k i : Nat) (S : zA) (v6 v7 gF gA gB gG gH gC gD gE gK gL : V), n.names.length - i = k → i ≤ n.names.length →
 (∀ S v6 v7 i' gF gA gB gG gH gC gD gE gK gL, fidx s i (n.names.drop i) = none → R (.exit 0) ((.d (zB n)) :: (.d (.str s)) :: (.ref 0 0 0) :: g3 :: (.d (.int .i64 0)) :: (.d (.bool false)) :: v6 :: v7 :: g8 :: (.d (.sl (n.names.map zI))) :: (.d (.int .i64 n.names.length)) :: i' :: gF :: gA :: gB :: gG :: gH :: gC :: gD :: gE :: gK :: gL :: []) S []) →
 (∀ S v6 v7 i' (j : Nat) gF gA gB gG gH gC gD gE gK gL, fidx s i (n.names.drop i) = some j → R .ret ((.d (zB n)) :: (.d (.str s)) :: (.ref 0 0 0) :: g3 :: (.d (.int .i64 j)) :: (.d (.bool true)) :: v6 :: v7 :: g8 :: (.d (.sl (n.names.map zI))) :: (.d (.int .i64 n.names.length)) :: i' :: gF :: gA :: gB :: gG :: gH :: gC :: gD :: gE :: gK :: gL :: []) S []) →
 Wp cfg (.loop (lpOf (Try.f105.body.getD .skip) 0)) ((.d (zB n)) :: (.d (.str s)) :: (.ref 0 0 0) :: g3 :: (.d (.int .i64 0)) :: (.d (.bool false)) :: v6 :: v7 :: g8 :: (.d (.sl (n.names.map zI))) :: (.d (.int .i64 n.names.length)) :: (.d (.int .i64 i)) :: gF :: gA :: gB :: gG :: gH :: gC :: gD :: gE :: gK :: gL :: []) S [] R := by
 intro k
 induction k with
 | zero =>
  intro i S v6 v7 gF gA gB gG gH gC gD gE gK gL hk hi hE hR
  have hie : i = n.names.length := by omega
  rw [qK]
  refine zS ?_
  conv => arg 2; whnf
  simp (maxSteps:=1000000) (disch:=first|assumption|omega|rfl) only [↓gp, gc, Nat.reduceAdd]
  exact hE _ _ _ _ _ _ _ _ _ _ _ _ _ _ (by rw [hie, List.drop_length]; rfl)
 | succ k ih =>
  intro i S v6 v7 gF gA gB gG gH gC gD gE gK gL hk hi hE hR
  have hlt : i < n.names.length := by omega
  have hdr : n.names.drop i = n.names[i] :: n.names.drop (i + 1) := List.drop_eq_getElem_cons hlt
  rw [hdr] at hE hR
  rw [qK]
  refine zS ?_
  conv => arg 2; whnf
  by_cases hc : n.names[i].name = s
  ·have e : fidx s i (n.names[i] :: n.names.drop (i + 1)) = some i := by simp only [fidx, hc, if_true]
   simp (maxSteps:=1000000) (disch:=first|assumption|omega|rfl) only [↓gp, gc, Nat.reduceAdd, zR, zN]
   exact hR _ _ _ _ _ _ _ _ _ _ _ _ _ _ _ e
  ·have e : fidx s i (n.names[i] :: n.names.drop (i + 1)) = fidx s (i + 1) (n.names.drop (i + 1)) := by simp only [fidx, hc, if_false]
   rw [e] at hE hR
   simp (maxSteps:=1000000) (disch:=first|assumption|omega|rfl) only [↓gp, gc, Nat.reduceAdd, zR, zN]
   exact ih (i + 1) _ _ _ _ _ _ _ _ _ _ _ _ _ (by omega) (by omega) hE hR
def vX (n : Node) (s : List UInt8) : Int × Bool := match fidx s 0 n.names with | some j => ((j : Nat), true) | none => (0, false)
theorem zot (n : Node) (s : List UInt8) (hl : n.names.length < 1000000) : Ev cfg 105 [zB n, .str s] (.ret (.tup [.d (.int .i64 (vX n s).1), .d (.bool (vX n s).2)])) := by
 refine kQ rfl rfl zqz ?_
 show Wp cfg (Try.f105.body.getD .skip) ((.d (zB n)) :: (.d (.str s)) :: uZ (uZ [])) [] [] _
 unfold uZ
 conv => arg 2; whnf
 simp (maxSteps:=1000000) (disch:=first|assumption|omega|rfl) only [↓gp, gc, Nat.reduceAdd]
 refine zs6 n s hl _ _ _ n.names.length 0 _ _ _ _ _ _ _ _ _ _ _ _ _ rfl (by omega) ?_ ?_
 ·intro S v6 v7 i' gF gA gB gG gH gC gD gE gK gL h
  rw [List.drop_zero] at h
  simp (maxSteps:=1000000) (disch:=first|assumption|omega|rfl) only [↓gp, gc, Nat.reduceAdd]
  unfold vX
  rw [h]
  exact kF rfl rfl rfl rfl rfl rfl
 ·intro S v6 v7 i' j gF gA gB gG gH gC gD gE gK gL h
  rw [List.drop_zero] at h
  simp (maxSteps:=1000000) (disch:=first|assumption|omega|rfl) only [↓gp, gc, Nat.reduceAdd]
  unfold vX
  rw [h]
  exact kF rfl rfl rfl rfl rfl rfl
structure Told (t : List Node) : Prop where
 root : hasN t 1 = true
 has : ∀ x, ∀ e ∈ (getN t x).names, hasN t e.ino = true
 ge2 : ∀ x, ∀ e ∈ (getN t x).names, 2 ≤ e.ino
end Go.Proofs.Ytghllhghboaagaa
end
section
namespace Go.Vm
open Go
section
variable {C : Cfg} {ops : Array Oper} {base : Nat} {F : Dfs} {Q : Post}
theorem jK {dst : Option Tmp} {l : List Oper} {T : List V} {S : zA} {f : FuncId} {args : List V} {R : Out → zA → Prop} (hs : C.shared f = true) (he : EvS C f args S R) (hk : ∀ v S', R (.ret v) S' → WpL C ops l (putT T dst v) S' F Q) (hpan : ∀ v S', R (.pan v) S' → Q (.pan v) T S' F) : WpR C ops dst l T S F Q (some (.enter f args)) := by
 obtain ⟨n, out, S', hn, hR⟩ := he
 have hc : kE C (run C n) f args S = some (out, S', 3) := by
  unfold kE
  simp only [hs, if_true, hn, Option.map_some]
 refine ⟨n, out, S', 3, hc, ?_⟩
 cases out with
 | ret v => exact hk v S' hR
 | pan v => exact hpan v S' hR
theorem zd4 {f g : FuncId} {first caps : List V} {S : zA} {R R' : Out → zA → Prop} {pst : Out → Option V} (hc : C.catch_ f = some pst) (he : EvS C g (first ++ caps) S R) (hR : ∀ o S', R o S' → ∃ v, pst o = some v ∧ R' (.ret v) S') : EvS C f [.fn (.func g) first caps] S R' := by
 obtain ⟨n, o, S', hn, hr⟩ := he
 obtain ⟨v, hv, hr'⟩ := hR o S' hr
 exact ⟨n + 1, .ret v, S', by simp only [run, hc, hn, hv], hr'⟩
def RQ (P : Program) (rs : Array ResultVar) (R : Out → zA → Prop) : Post := fun x T S F => F = [] ∧ match x with | .norm => ∃ v, jQ P rs T S = some v ∧ R (.ret v) S | .ret => ∃ v, jQ P rs T S = some v ∧ R (.ret v) S | .pan v => R (.pan v) S | .exit _ => False
theorem vE {f : FuncId} {c : Code} {n : Nat} {rs : Array ResultVar} {args : List V} {S : zA} {R : Out → zA → Prop} (hc : C.catch_ f = none) (hb : zC C.P f = some ⟨c, n, rs⟩) (h : Wp C c (z1n n args) S [] (RQ C.P rs R)) : EvS C f args S R := zl3 hc hb h
def mfS (fn : Fn) (S : zA) (xs ys : List V) : Option Rs := if xs.all V.one && ys.all V.one then some (.val (.fn fn xs ys) S 0) else none
theorem z9d {dst : Option Tmp} {ty : TypeId} {pos : String} {after : Array Edge} {l : List Oper} {T : List V} {S : zA} {fn : Fn} {first caps : Array Operand} : WpL C ops (⟨dst, .makeFunc fn first caps, ty, pos, after, none⟩ :: l) T S F Q = WpR C ops dst l T S F Q (mfS fn S (first.toList.map (zF T)) (caps.toList.map (zF T))) := by
 rw [z09 rfl]; rfl
end
theorem z84 {P : Program} {T : List V} {dst : Option Tmp} {ty : TypeId} {pos : String} {after : Array Edge} {g : Option (Nat × Bool)} {e : TypeId} {z : V} (hz : zeroV P e = some z) (hf : qI P e z = true) : addO P T ⟨dst, .alloc e, ty, pos, after, g⟩ = some (.row [z] e, fun id => .ref id 0 0) := by
 simp only [addO, hz, hf, if_true]
end Go.Vm
end
section
namespace Go.Proofs.Ytghllhghboaagaa
open Go.Vm

theorem zu4 {fn : Fn} {S : zA} {a b c d e f g h i : Nat} : mfS fn S [] [.ref a b c, .ref d e f, .ref g h i] = some (.val (.fn fn [] [.ref a b c, .ref d e f, .ref g h i]) S 0) := rfl
theorem bo42 : (zC Try.prog 42).isSome = true := by kernel_rfl
theorem z7z {dst : Option Tmp} {ty : TypeId} {pos : String} {after : Array Edge} {g : Option (Nat × Bool)} {t : TypeId} : kR ⟨dst, .alloc t, ty, pos, after, g⟩ = true := rfl
theorem zsq {t : List Node} (hT : Told t) : ∀ (ps : List (List UInt8)) (d : Int), hasN t d = true → (goN t ps d).2 = 0 → hasN t (goN t ps d).1 = true := fun ps => by
 induction ps with
 | nil => intro d hd _; exact hd
 | cons p r ih =>
  intro d hd h
  unfold goN at h ⊢
  split at h
  ·simp at h
  ·split at h
   ·simp at h
   ·rename_i h1 h2
    rw [if_neg h1, if_neg h2]
    rcases z15 (s := p) (l := (getN t d).names) (i := 0) with ⟨_, h3⟩ | ⟨j, hj, _, h3⟩
    ·rw [h3] at h2; exact absurd (by omega) h2
    ·rw [h3] at h ⊢
     exact ih _ (hT.has d _ (List.getElem_mem hj)) h
def upd (g : Int → Node) (m : Node) : Int → Node := fun x => if x = m.ino then m else g x
def del (g : Int → Node) (i : Int) : Int → Node := fun x => if x = i then zM else g x
inductive Up (g : Int → Node) (i : Int) : Int → Prop
 | root : i ≠ 1 → Up g i 1
 | step {x : Int} : x ≠ i → (g x).kind = 2 → x ≠ 1 → Up g i (g x).parent → Up g i x
theorem Up.mono {g g' : Int → Node} {i x : Int} (h : ∀ x, (g x).kind = 2 → x ≠ i → (g' x).kind = 2 ∧ (g' x).parent = (g x).parent) (hx : Up g i x) : Up g' i x := by
 induction hx with
 | root h1 => exact .root h1
 | step h1 h2 h3 _ ih => exact .step h1 (h _ h2 h1).1 h3 (by rw [(h _ h2 h1).2]; exact ih)
structure Inv (g : Int → Node) (i : Int) : Prop where
 root : (g 1).kind = 2
 ge2 : ∀ x, ∀ e ∈ (g x).names, 2 ≤ e.ino
 un : ∀ x, ∀ e ∈ (g x).names, ∀ e' ∈ (g x).names, e.name = e'.name → e.ino = e'.ino
 ln : ∀ x, (g x).kind = 2 → (g x).links = 1
 told : ∀ x, (g x).kind = 2 → x ≠ 1 → x ≠ i → (g (g x).parent).kind = 2 ∧ ∃ e ∈ (g (g x).parent).names, e.ino = x
 way : ∀ x, (g x).kind = 2 → Up g 0 x
 pos : ∀ x, (g x).kind = 2 → 1 ≤ x
theorem Inv.any {g : Int → Node} {i : Int} (h : Inv g 1) : Inv g i :=
 ⟨h.root, h.ge2, h.un, h.ln, fun x h1 h2 _ => h.told x h1 h2 h2, h.way, h.pos⟩
theorem Inv.file {g : Int → Node} {i : Int} {m : Node} (h : Inv g i) (hm : m.kind ≠ 2) (hg : (g m.ino).kind ≠ 2) (h2 : ∀ e ∈ m.names, 2 ≤ e.ino) (hu : ∀ e ∈ m.names, ∀ e' ∈ m.names, e.name = e'.name → e.ino = e'.ino) : Inv (upd g m) i := by
 have hk : ∀ x, (upd g m x).kind = 2 → x ≠ m.ino ∧ (g x).kind = 2 := fun x hx => by unfold upd at hx; grind
 have he : ∀ x, x ≠ m.ino → upd g m x = g x := fun x hx => by simp [upd, hx]
 have hs : upd g m m.ino = m := by simp [upd]
 refine ⟨?_, ?_, ?_, ?_, ?_, ?_, ?_⟩
 ·rw [he]; exact h.root
  intro h1; rw [← h1] at hg; exact hg h.root
 ·intro x e hx
  by_cases hxm : x = m.ino
  ·rw [hxm, hs] at hx; exact h2 e hx
  ·rw [he x hxm] at hx; exact h.ge2 x e hx
 ·intro x
  by_cases hxm : x = m.ino
  ·rw [hxm, hs]; exact hu
  ·rw [he x hxm]; exact h.un x
 ·intro x hx
  obtain ⟨h1, h3⟩ := hk x hx
  rw [he x h1]; exact h.ln x h3
 ·intro x hx n1 ni
  obtain ⟨h1, h3⟩ := hk x hx
  rw [he x h1]
  obtain ⟨h4, h5⟩ := h.told x h3 n1 ni
  have h6 : (g x).parent ≠ m.ino := fun hh => by rw [hh] at h4; exact hg h4
  rw [he _ h6]; exact ⟨h4, h5⟩
 ·intro x hx
  obtain ⟨h1, h3⟩ := hk x hx
  refine (h.way x h3).mono fun y hy _ => ?_
  have : y ≠ m.ino := fun hh => by rw [hh] at hy; exact hg hy
  rw [he y this]; exact ⟨hy, rfl⟩
 ·intro x hx
  exact h.pos x (hk x hx).2
theorem Inv.delFile {g : Int → Node} {i j : Int} (h : Inv g i) (hg : (g j).kind ≠ 2) : Inv (del g j) i := by
 have he : ∀ x, x ≠ j → del g j x = g x := fun x hx => by simp [del, hx]
 have hs : del g j j = zM := by simp [del]
 have hk : ∀ x, (del g j x).kind = 2 → x ≠ j ∧ (g x).kind = 2 := fun x hx => by
  by_cases hxj : x = j
  ·rw [hxj, hs] at hx; exact absurd hx (by simp [zM])
  ·rw [he x hxj] at hx; exact ⟨hxj, hx⟩
 refine ⟨?_, ?_, ?_, ?_, ?_, ?_, ?_⟩
 ·rw [he]; exact h.root
  intro h1; rw [← h1] at hg; exact hg h.root
 ·intro x e hx
  by_cases hxm : x = j
  ·rw [hxm, hs] at hx; simp [zM] at hx
  ·rw [he x hxm] at hx; exact h.ge2 x e hx
 ·intro x
  by_cases hxm : x = j
  ·rw [hxm, hs]; simp [zM]
  ·rw [he x hxm]; exact h.un x
 ·intro x hx
  obtain ⟨h1, h3⟩ := hk x hx
  rw [he x h1]; exact h.ln x h3
 ·intro x hx n1 ni
  obtain ⟨h1, h3⟩ := hk x hx
  rw [he x h1]
  obtain ⟨h4, h5⟩ := h.told x h3 n1 ni
  have h6 : (g x).parent ≠ j := fun hh => by rw [hh] at h4; exact hg h4
  rw [he _ h6]; exact ⟨h4, h5⟩
 ·intro x hx
  obtain ⟨h1, h3⟩ := hk x hx
  refine (h.way x h3).mono fun y hy _ => ?_
  have : y ≠ j := fun hh => by rw [hh] at hy; exact hg hy
  rw [he y this]; exact ⟨hy, rfl⟩
 ·intro x hx
  exact h.pos x (hk x hx).2
theorem Inv.delDir {g : Int → Node} {j : Int} (h : Inv g j) (hj : j ≠ 1) (hn : (g j).names = []) : Inv (del g j) 1 := by
 have he : ∀ x, x ≠ j → del g j x = g x := fun x hx => by simp [del, hx]
 have hs : del g j j = zM := by simp [del]
 have hk : ∀ x, (del g j x).kind = 2 → x ≠ j ∧ (g x).kind = 2 := fun x hx => by
  by_cases hxj : x = j
  ·rw [hxj, hs] at hx; exact absurd hx (by simp [zM])
  ·rw [he x hxj] at hx; exact ⟨hxj, hx⟩
 have hp : ∀ x, (g x).kind = 2 → x ≠ 1 → x ≠ j → (g x).parent ≠ j := fun x h1 h2 h3 hh => by
  obtain ⟨_, e, h5, _⟩ := h.told x h1 h2 h3
  rw [hh, hn] at h5
  simp at h5
 refine ⟨?_, ?_, ?_, ?_, ?_, ?_, ?_⟩
 ·rw [he _ (fun h1 => hj h1.symm)]; exact h.root
 ·intro x e hx
  by_cases hxm : x = j
  ·rw [hxm, hs] at hx; simp [zM] at hx
  ·rw [he x hxm] at hx; exact h.ge2 x e hx
 ·intro x
  by_cases hxm : x = j
  ·rw [hxm, hs]; simp [zM]
  ·rw [he x hxm]; exact h.un x
 ·intro x hx
  obtain ⟨h1, h3⟩ := hk x hx
  rw [he x h1]; exact h.ln x h3
 ·intro x hx n1 ni
  obtain ⟨h1, h3⟩ := hk x hx
  rw [he x h1, he _ (hp x h3 n1 h1)]
  exact h.told x h3 n1 h1
 ·intro x hx
  obtain ⟨h1, h3⟩ := hk x hx
  have hw := h.way x h3
  clear hx h3
  induction hw with
  | root h0 => exact .root h0
  | step h4 h5 h6 _ ih => exact .step h4 (by rw [he _ h1]; exact h5) h6 (by rw [he _ h1]; exact ih (hp _ h5 h6 h1))
 ·intro x hx
  exact h.pos x (hk x hx).2
theorem Inv.names {g : Int → Node} {i j d : Int} {m : Node} (h : Inv g i) (hd : (g d).kind = 2) (hi : m.ino = d) (hk : m.kind = 2) (hl : m.links = (g d).links) (hp : m.parent = (g d).parent)
  (h2 : ∀ e ∈ m.names, 2 ≤ e.ino) (hu : ∀ e ∈ m.names, ∀ e' ∈ m.names, e.name = e'.name → e.ino = e'.ino)
  (ht : ∀ x, (g x).kind = 2 → x ≠ 1 → x ≠ j → (g (g x).parent).kind = 2 ∧ ∃ e ∈ (if (g x).parent = d then m.names else (g (g x).parent).names), e.ino = x) : Inv (upd g m) j := by
 have he : ∀ x, x ≠ d → upd g m x = g x := fun x hx => by simp [upd, hi, hx]
 have hs : upd g m d = m := by simp [upd, hi]
 have hkk : ∀ x, (upd g m x).kind = (g x).kind := fun x => by
  by_cases hx : x = d
  ·rw [hx, hs, hk, hd]
  ·rw [he x hx]
 have hpp : ∀ x, (upd g m x).parent = (g x).parent := fun x => by
  by_cases hx : x = d
  ·rw [hx, hs, hp]
  ·rw [he x hx]
 have hnn : ∀ x, (upd g m x).names = if x = d then m.names else (g x).names := fun x => by
  by_cases hx : x = d
  ·rw [if_pos hx, hx, hs]
  ·rw [if_neg hx, he x hx]
 refine ⟨?_, ?_, ?_, ?_, ?_, ?_, ?_⟩
 ·rw [hkk]; exact h.root
 ·intro x e hx
  rw [hnn] at hx
  split at hx
  ·exact h2 e hx
  ·exact h.ge2 x e hx
 ·intro x
  rw [hnn]
  split
  ·exact hu
  ·exact h.un x
 ·intro x hx
  rw [hkk] at hx
  by_cases hxd : x = d
  ·rw [hxd, hs, hl]; exact h.ln d hd
  ·rw [he x hxd]; exact h.ln x hx
 ·intro x hx n1 nj
  rw [hkk] at hx
  rw [hpp, hkk, hnn]
  exact ht x hx n1 nj
 ·intro x hx
  rw [hkk] at hx
  exact (h.way x hx).mono fun y hy _ => ⟨by rw [hkk]; exact hy, hpp y⟩
 ·intro x hx
  rw [hkk] at hx
  exact h.pos x hx
theorem Inv.newDir {g : Int → Node} {m : Node} (h : Inv g 1) (hg : (g m.ino).kind ≠ 2) (hm : m.kind = 2) (hl : m.links = 1) (hn : m.names = []) (hp : (g m.parent).kind = 2) (h2 : 2 ≤ m.ino) : Inv (upd g m) m.ino := by
 have he : ∀ x, x ≠ m.ino → upd g m x = g x := fun x hx => by simp [upd, hx]
 have hs : upd g m m.ino = m := by simp [upd]
 have hmono : ∀ x, Up g 0 x → Up (upd g m) 0 x := fun x hx => hx.mono fun y hy _ => by
  have : y ≠ m.ino := fun hh => by rw [hh] at hy; exact hg hy
  rw [he y this]; exact ⟨hy, rfl⟩
 refine ⟨?_, ?_, ?_, ?_, ?_, ?_, ?_⟩
 ·rw [he _ (by omega)]; exact h.root
 ·intro x e hx
  by_cases hxm : x = m.ino
  ·rw [hxm, hs, hn] at hx; simp at hx
  ·rw [he x hxm] at hx; exact h.ge2 x e hx
 ·intro x
  by_cases hxm : x = m.ino
  ·rw [hxm, hs, hn]; simp
  ·rw [he x hxm]; exact h.un x
 ·intro x hx
  by_cases hxm : x = m.ino
  ·rw [hxm, hs, hl]
  ·rw [he x hxm] at hx ⊢; exact h.ln x hx
 ·intro x hx n1 ni
  rw [he x ni] at hx ⊢
  obtain ⟨h4, h5⟩ := h.told x hx n1 n1
  have h6 : (g x).parent ≠ m.ino := fun hh => by rw [hh] at h4; exact hg h4
  rw [he _ h6]; exact ⟨h4, h5⟩
 ·intro x hx
  by_cases hxm : x = m.ino
  ·rw [hxm]
   refine .step (by omega) (by rw [hs]; exact hm) (by omega) ?_
   rw [hs]
   exact hmono _ (h.way _ hp)
  ·rw [he x hxm] at hx; exact hmono _ (h.way x hx)
 ·intro x hx
  by_cases hxm : x = m.ino
  ·omega
  ·rw [he x hxm] at hx; exact h.pos x hx
theorem Inv.move {g : Int → Node} {i d : Int} {m : Node} (h : Inv g i) (hi : m.ino = i) (hk : m.kind = 2) (hki : (g i).kind = 2) (h1 : i ≠ 1) (hl : m.links = (g i).links) (hp : m.parent = d) (hn : m.names = (g i).names)
  (hd : (g d).kind = 2) (hid : d ≠ i) (ht : ∃ e ∈ (g d).names, e.ino = i) (hu : Up g i d) : Inv (upd g m) 1 := by
 have he : ∀ x, x ≠ i → upd g m x = g x := fun x hx => by simp [upd, hi, hx]
 have hs : upd g m i = m := by simp [upd, hi]
 have hkk : ∀ x, (upd g m x).kind = (g x).kind := fun x => by
  by_cases hx : x = i
  ·rw [hx, hs, hk, hki]
  ·rw [he x hx]
 have hnn : ∀ x, (upd g m x).names = (g x).names := fun x => by
  by_cases hx : x = i
  ·rw [hx, hs, hn]
  ·rw [he x hx]
 have hpi := h.pos i hki
 have hup : ∀ x, Up g i x → Up (upd g m) 0 x := fun x hx => by
  induction hx with
  | root _ => exact .root (by omega)
  | step a b c _ ih =>
   have := h.pos _ b
   exact .step (by omega) (by rw [hkk]; exact b) c (by rw [he _ a]; exact ih)
 refine ⟨?_, ?_, ?_, ?_, ?_, ?_, ?_⟩
 ·rw [hkk]; exact h.root
 ·intro x e hx
  rw [hnn] at hx; exact h.ge2 x e hx
 ·intro x
  rw [hnn]; exact h.un x
 ·intro x hx
  rw [hkk] at hx
  by_cases hxi : x = i
  ·rw [hxi, hs, hl]; exact h.ln i hki
  ·rw [he x hxi]; exact h.ln x hx
 ·intro x hx n1 _
  rw [hkk] at hx
  by_cases hxi : x = i
  ·rw [hxi, hs, hp, hkk, hnn]; exact ⟨hd, ht⟩
  ·rw [he x hxi, hkk, hnn]; exact h.told x hx n1 hxi
 ·intro x hx
  rw [hkk] at hx
  have hw := h.way x hx
  clear hx
  induction hw with
  | root h0 => exact .root h0
  | @step x a b c _ ih =>
   by_cases hxi : x = i
   ·refine .step a (by rw [hkk]; exact b) c ?_
    rw [hxi, hs, hp]
    exact hup _ hu
   ·exact .step a (by rw [hkk]; exact b) c (by rw [he _ hxi]; exact ih)
 ·intro x hx
  rw [hkk] at hx; exact h.pos x hx
def Uniq (t : List Node) : Prop := ∀ n ∈ t, ∀ m ∈ t, n.ino = m.ino → n = m
theorem z4c {t : List Node} (hu : Uniq t) {n : Node} (hn : n ∈ t) : getN t n.ino = n := by
 rcases jM t n.ino with ⟨_, h⟩ | ⟨h1, h2⟩
 ·exact absurd rfl (h n hn)
 ·exact hu _ h1 _ hn h2
theorem z1t {t : List Node} {x : Int} (h : ∀ n ∈ t, n.ino ≠ x) : getN t x = zM := by
 rcases jM t x with ⟨h1, _⟩ | ⟨h1, h2⟩
 ·exact h1
 ·exact absurd h2 (h _ h1)
theorem z16 {t : List Node} {m : Node} (hu : Uniq t) : Uniq (qT t m) := by
 intro n hn n' hn' he
 rw [wV] at hn hn'
 rcases hn with rfl | ⟨h1, h2⟩ <;> rcases hn' with rfl | ⟨h3, h4⟩
 ·rfl
 ·exact absurd he.symm h4
 ·exact absurd he h2
 ·exact hu _ h1 _ h3 he
theorem jF {t : List Node} {m : Node} (hu : Uniq t) : getN (qT t m) = upd (getN t) m := by
 funext x
 unfold upd
 split
 ·rename_i hx
  rw [hx]
  exact z4c (z16 hu) (wV.2 (.inl rfl))
 ·rename_i hx
  rcases jM t x with ⟨h1, h2⟩ | ⟨h1, h2⟩
  ·rw [h1]
   refine z1t fun n hn => ?_
   rcases wV.1 hn with rfl | ⟨h3, _⟩
   ·exact fun h => hx h.symm
   ·exact h2 n h3
  ·have h3 : getN t x ∈ qT t m := wV.2 (.inr ⟨h1, by rw [h2]; exact hx⟩)
   have := z4c (z16 hu) h3
   rw [h2] at this
   exact this
theorem z5f {t : List Node} {p : Node → Bool} (hu : Uniq t) : Uniq (t.filter p) :=
 fun n hn m hm => hu n (List.mem_filter.1 hn).1 m (List.mem_filter.1 hm).1
theorem z1s {t : List Node} {i : Int} (hu : Uniq t) : getN (t.filter (fun n => n.ino ≠ i)) = del (getN t) i := by
 funext x
 unfold del
 split
 ·rename_i hx
  refine z1t fun n hn => ?_
  have := (List.mem_filter.1 hn).2
  rw [hx]
  simpa using this
 ·rename_i hx
  rcases jM t x with ⟨h1, h2⟩ | ⟨h1, h2⟩
  ·rw [h1]
   exact z1t fun n hn => h2 n (List.mem_filter.1 hn).1
  ·have h3 : getN t x ∈ t.filter (fun n => n.ino ≠ i) := List.mem_filter.2 ⟨h1, by rw [h2]; simpa using hx⟩
   have := z4c (z5f hu) h3
   rw [h2] at this
   exact this
theorem jH {t : List Node} {d : Int} (h : (getN t d).kind = 2) : (getN t d).ino = d := by
 rcases jM t d with ⟨h1, _⟩ | ⟨_, h2⟩
 ·rw [h1] at h; simp [zM] at h
 ·exact h2
theorem zbk {t : List Node} {i x : Int} (h : Inv (getN t) i) (hx : (getN t x).kind ≠ 2) : (getN t (getN t x).ino).kind ≠ 2 := by
 rcases jM t x with ⟨h1, _⟩ | ⟨_, h2⟩
 ·rw [h1]
  intro hh
  have := h.pos _ hh
  simp [zM] at this
 ·rw [h2]; exact hx
structure TInv (t : List Node) (i : Int) : Prop where
 uniq : Uniq t
 inv : Inv (getN t) i
theorem vM {l : List Ent} {s : List UInt8} (h : 0 ≤ qQ l s) : ∃ e ∈ l, e.name = s ∧ e.ino = qQ l s := by
 unfold qQ at h ⊢
 cases hf : l.find? (fun e => decide (e.name = s)) with
 | none => rw [hf] at h; simp at h
 | some e =>
  refine ⟨e, List.mem_of_find?_eq_some hf, ?_, rfl⟩
  have := List.find?_some hf
  simpa using this
theorem z0j {l : List Ent} {s : List UInt8} (h2 : ∀ e ∈ l, 2 ≤ e.ino) (h : qQ l s < 0) : ∀ e ∈ l, e.name ≠ s := by
 unfold qQ at h
 cases hf : l.find? (fun e => decide (e.name = s)) with
 | none =>
  intro e he hs
  have := List.find?_eq_none.1 hf e he
  simp [hs] at this
 | some e =>
  rw [hf] at h
  have := h2 e (List.mem_of_find?_eq_some hf)
  simp only at h
  omega
theorem TInv.drop {t : List Node} {i d : Int} {s : List UInt8} (h : TInv t i) (hd : (getN t d).kind = 2) (hs : ∀ e ∈ (getN t d).names, e.name = s → (getN t e.ino).kind ≠ 2 ∨ e.ino = i) : TInv (zU t d s) i := by
 refine ⟨z16 h.uniq, ?_⟩
 unfold zU
 rw [jF h.uniq]
 refine h.inv.names hd (jH hd) hd rfl rfl ?_ ?_ ?_
 ·intro e he
  exact h.inv.ge2 d e (List.mem_filter.1 he).1
 ·intro e he e' he'
  exact h.inv.un d e (List.mem_filter.1 he).1 e' (List.mem_filter.1 he').1
 ·intro x hx n1 ni
  obtain ⟨h1, e, h2, h3⟩ := h.inv.told x hx n1 ni
  refine ⟨h1, e, ?_, h3⟩
  split
  ·rename_i hp
   rw [hp] at h2
   refine List.mem_filter.2 ⟨h2, ?_⟩
   rw [decide_eq_true_eq]
   intro hes
   rcases hs e h2 hes with h4 | h4
   ·rw [h3] at h4; exact h4 hx
   ·rw [h3] at h4; exact ni h4
  ·exact h2
theorem TInv.put {t : List Node} {i j d x : Int} {s : List UInt8} (h : TInv t i) (hd : (getN t d).kind = 2) (hs : ∀ e ∈ (getN t d).names, e.name ≠ s) (h2 : 2 ≤ x) (hj : i ≠ j → (x = i ∧ (getN t i).parent = d)) : TInv (putN t d s x) j := by
 refine ⟨z16 h.uniq, ?_⟩
 unfold putN
 rw [jF h.uniq]
 refine h.inv.names hd (jH hd) hd rfl rfl ?_ ?_ ?_
 ·intro e he
  rcases mem_putA.1 he with ⟨_, rfl⟩ | he
  ·exact h2
  ·exact h.inv.ge2 d e he
 ·intro e he e' he'
  rcases mem_putA.1 he with ⟨_, rfl⟩ | he <;> rcases mem_putA.1 he' with ⟨_, rfl⟩ | he'
  ·exact fun _ => rfl
  ·exact fun hh => absurd hh.symm (hs _ he')
  ·exact fun hh => absurd hh (hs _ he)
  ·exact h.inv.un d e he e' he'
 ·intro y hy n1 nj
  by_cases hyi : y = i
  ·have hij : i ≠ j := fun hh => nj (hyi.trans hh)
   obtain ⟨hx, hp⟩ := hj hij
   rw [hyi, hp, if_pos rfl]
   exact ⟨hd, ⟨s, x⟩, mem_putA.2 (.inl ⟨rfl, rfl⟩), hx⟩
  ·obtain ⟨h1, e, h3, h4⟩ := h.inv.told y hy n1 hyi
   refine ⟨h1, e, ?_, h4⟩
   split
   ·rename_i hp
    rw [hp] at h3
    exact mem_putA.2 (.inr h3)
   ·exact h3
theorem TInv.loses {t : List Node} {i x : Int} (h : TInv t i) (hx : (getN t x).kind ≠ 2) : TInv (jN t x) i := by
 unfold jN
 split
 ·refine ⟨z5f h.uniq, ?_⟩
  rw [z1s h.uniq]
  exact h.inv.delFile hx
 ·refine ⟨z16 h.uniq, ?_⟩
  rw [jF h.uniq]
  exact h.inv.file hx (zbk h.inv hx) (h.inv.ge2 x) (h.inv.un x)
theorem TInv.with {t : List Node} {i : Int} {m : Node} (h : TInv t i) (hm : m.kind ≠ 2) (hg : (getN t m.ino).kind ≠ 2) (h2 : ∀ e ∈ m.names, 2 ≤ e.ino) (hu : ∀ e ∈ m.names, ∀ e' ∈ m.names, e.name = e'.name → e.ino = e'.ino) : TInv (qT t m) i := by
 refine ⟨z16 h.uniq, ?_⟩
 rw [jF h.uniq]
 exact h.inv.file hm hg h2 hu
theorem kB {t : List Node} {s : List UInt8} (h : (zK t s).2.2 = 0) : (getN t (zK t s).1).kind = 2 := by
 unfold zK at h ⊢
 by_cases h1 : (zQ s).2 ≠ 0
 ·rw [if_pos h1] at h; exact absurd h h1
 ·rw [if_neg h1] at h ⊢
  by_cases h2 : (zQ s).1.length = 0
  ·rw [if_pos h2] at h; simp at h
  ·rw [if_neg h2] at h ⊢
   split at h
   ·rename_i h3; exact absurd h h3
   ·split at h
    ·simp at h
    ·rename_i h3 h4
     rw [if_neg h3, if_neg h4]
     simpa using h4
theorem zpu {t : List Node} (h2 : ∀ x, ∀ e ∈ (getN t x).names, 2 ≤ e.ino) : ∀ {ps : List (List UInt8)} {d : Int}, (goN t ps d).2 = 0 → (goN t ps d).1 = d ∨ 2 ≤ (goN t ps d).1
 | [], d, _ => .inl rfl
 | p :: r, d, h => by
  unfold goN at h ⊢
  split at h
  ·simp at h
  ·split at h
   ·simp at h
   ·rename_i h3 h4
    rw [if_neg h3, if_neg h4]
    obtain ⟨e, h5, _, h6⟩ := vM (l := (getN t d).names) (s := p) (by omega)
    have h7 := h2 d e h5
    rcases zpu h2 h with h8 | h8
    ·right; rw [h8]; omega
    ·exact .inr h8
theorem zev {t : List Node} {s : List UInt8} (h2 : ∀ x, ∀ e ∈ (getN t x).names, 2 ≤ e.ino) (h : (zH t s).2 = 0) : (zH t s).1 = 1 ∨ 2 ≤ (zH t s).1 := by
 unfold zH at h ⊢
 split at h
 ·rename_i h1; exact absurd h h1
 ·rename_i h1
  rw [if_neg h1]
  exact zpu h2 h
theorem TInv.make {t : List Node} {o : Opn} (h : TInv t 1) : TInv (z0h t o).1 1 := by
 unfold z0h
 split
 ·exact h
 ·rename_i h1
  split
  ·exact h
  ·rename_i h2
   have hd := kB (t := t) (s := o.a) (by simpa using h1)
   obtain ⟨hn1, hn2, _⟩ := z1h t
   have hz : getN t (jA t) = zM := z1t hn1
   have hnd : (zK t o.a).1 ≠ jA t := fun hh => by rw [hh, hz] at hd; simp [zM] at hd
   have hkz : (getN t (jA t)).kind ≠ 2 := by rw [hz]; simp [zM]
   have hfresh := z0j (h.inv.ge2 (zK t o.a).1) (Int.not_le.1 h2)
   have hi : (qA t o).ino = jA t := by unfold qA; split <;> rfl
   have hgd : getN (qT t (qA t o)) (zK t o.a).1 = getN t (zK t o.a).1 := by
    rw [jF h.uniq]
    unfold upd
    rw [hi, if_neg hnd]
   by_cases ho : o.does = 2
   ·have hm : qA t o = ⟨jA t, 2, 1, (zK t o.a).1, 0, [], []⟩ := by unfold qA; rw [if_pos ho]
    have h3 : TInv (qT t (qA t o)) (jA t) := by
     refine ⟨z16 h.uniq, ?_⟩
     rw [jF h.uniq]
     have := h.inv.newDir (m := qA t o) (by rw [hi]; exact hkz) (by rw [hm]) (by rw [hm]) (by rw [hm]) (by rw [hm]; exact hd) (by rw [hi]; exact hn2)
     rw [hi] at this
     exact this
    have hgi : getN (qT t (qA t o)) (jA t) = qA t o := by
     rw [jF h.uniq]
     unfold upd
     rw [hi, if_pos rfl]
    exact h3.put (by rw [hgd]; exact hd) (by rw [hgd]; exact hfresh) hn2 (fun _ => ⟨rfl, by rw [hgi, hm]⟩)
   ·have hm : (qA t o).kind ≠ 2 := by unfold qA; rw [if_neg ho]; simp
    have hn : (qA t o).names = [] := by unfold qA; rw [if_neg ho]
    have h3 : TInv (qT t (qA t o)) 1 := h.with hm (by rw [hi]; exact hkz) (by rw [hn]; simp) (by rw [hn]; simp)
    exact h3.put (by rw [hgd]; exact hd) (by rw [hgd]; exact hfresh) hn2 (fun hh => absurd rfl hh)
theorem TInv.link {t : List Node} {o : Opn} (h : TInv t 1) : TInv (vR t o).1 1 := by
 unfold vR
 split
 ·exact h
 ·rename_i h1
  split
  ·exact h
  ·rename_i h2
   split
   ·exact h
   ·rename_i h3
    split
    ·exact h
    ·rename_i h4
     have hd := kB (t := t) (s := o.b) (by simpa using h3)
     have hge := zev (t := t) (s := o.a) h.inv.ge2 (by simpa using h1)
     have hfresh := z0j (h.inv.ge2 (zK t o.b).1) (Int.not_le.1 h4)
     have hfi := zbk h.inv h2
     have h5 : TInv (qT t (more (getN t (zH t o.a).1))) 1 := h.with h2 hfi (h.inv.ge2 _) (h.inv.un _)
     have hgd : getN (qT t (more (getN t (zH t o.a).1))) (zK t o.b).1 = getN t (zK t o.b).1 := by
      rw [jF h.uniq]
      unfold upd
      rw [if_neg]
      intro hh
      have hh : (zK t o.b).1 = (getN t (zH t o.a).1).ino := hh
      rw [hh] at hd
      exact hfi hd
     refine h5.put (by rw [hgd]; exact hd) (by rw [hgd]; exact hfresh) ?_ (fun hh => absurd rfl hh)
     rcases hge with hg | hg
     ·rw [hg] at h2; exact absurd h.inv.root h2
     ·exact hg
theorem TInv.bytes {t : List Node} {o : Opn} (h : TInv t 1) : TInv (wC t o).1 1 := by
 unfold wC
 split
 ·exact h
 ·unfold z47
  split
  ·exact h
  ·rename_i hk
   have hfi := zbk h.inv hk
   have hw : ∀ m : Node, m.ino = (getN t (zH t o.a).1).ino → m.kind = (getN t (zH t o.a).1).kind → m.names = (getN t (zH t o.a).1).names → TInv (qT t m) 1 := fun m a b c =>
    h.with (by rw [b]; exact hk) (by rw [a]; exact hfi) (by rw [c]; exact h.inv.ge2 _) (by rw [c]; exact h.inv.un _)
   repeat' split
   all_goals first | exact h | exact hw _ rfl rfl rfl
theorem vS {t : List Node} {d y : Int} {s : List UInt8} (hu : Uniq t) (hd : (getN t d).kind = 2) : getN (zU t d s) y = if y = d then { getN t d with names := (getN t d).names.filter (fun e => decide (e.name ≠ s)) } else getN t y := by
 unfold zU
 rw [jF hu]
 unfold upd
 have : (getN t d).ino = d := jH hd
 simp only [this]
theorem qZ {t : List Node} {d y : Int} {s : List UInt8} (hu : Uniq t) (hd : (getN t d).kind = 2) : (getN (zU t d s) y).kind = (getN t y).kind ∧ (getN (zU t d s) y).parent = (getN t y).parent ∧ (getN (zU t d s) y).links = (getN t y).links := by
 rw [vS hu hd]
 split
 ·rename_i h; rw [h]; exact ⟨rfl, rfl, rfl⟩
 ·exact ⟨rfl, rfl, rfl⟩
theorem z1k {t : List Node} {d y : Int} {s : List UInt8} (hu : Uniq t) (hd : (getN t d).kind = 2) : ∀ e ∈ (getN (zU t d s) y).names, e ∈ (getN t y).names ∧ (y = d → e.name ≠ s) := by
 rw [vS hu hd]
 split
 ·rename_i h
  rw [h]
  intro e he
  exact ⟨(List.mem_filter.1 he).1, fun _ => by have := (List.mem_filter.1 he).2; simpa using this⟩
 ·rename_i h
  exact fun e he => ⟨he, fun hh => absurd hh h⟩
theorem z0o {t : List Node} {x y : Int} (hu : Uniq t) (hy : y ≠ x) : getN (jN t x) y = getN t y := by
 unfold jN
 split
 ·rw [z1s hu]; simp [del, hy]
 ·rename_i hl
  rw [jF hu]
  unfold upd
  rw [if_neg]
  rcases jM t x with ⟨h1, _⟩ | ⟨_, h2⟩
  ·rw [h1] at hl; simp [zM] at hl
  ·intro hh
   have hh : y = (getN t x).ino := hh
   exact hy (hh.trans h2)
theorem TInv.remove {t : List Node} {o : Opn} (h : TInv t 1) (hdo : o.does = 4 ∨ o.does = 5) : TInv (kU t o).1 1 := by
 unfold kU
 split
 ·exact h
 ·rename_i h1
  split
  ·exact h
  ·rename_i h2
   have hd := kB (t := t) (s := o.a) (by simpa using h1)
   generalize zK t o.a = w at *
   obtain ⟨e0, he0, hs0, hi0⟩ := vM (l := (getN t w.1).names) (s := w.2.1) (by omega)
   have hge : 2 ≤ qQ (getN t w.1).names w.2.1 := by rw [← hi0]; exact h.inv.ge2 _ e0 he0
   have hall : ∀ e ∈ (getN t w.1).names, e.name = w.2.1 → e.ino = qQ (getN t w.1).names w.2.1 := fun e he hs => by
    rw [← hi0]; exact h.inv.un _ e he e0 he0 (hs.trans hs0.symm)
   generalize qQ (getN t w.1).names w.2.1 = ino at *
   split
   ·exact h
   ·rename_i h3
    split
    ·exact h
    ·rename_i h4
     split
     ·exact h
     ·rename_i h5
      rcases hdo with d4 | d5
      ·have hk : (getN t ino).kind ≠ 2 := fun hh => h3 ⟨d4, hh⟩
       have hD := h.drop (d := w.1) (s := w.2.1) hd (fun e he hs => .inl (by rw [hall e he hs]; exact hk))
       exact hD.loses (by rw [(qZ h.uniq hd).1]; exact hk)
      ·have hk : (getN t ino).kind = 2 := Decidable.byContradiction fun hh => h4 ⟨d5, hh⟩
       have hn : (getN t ino).names = [] := by
        have : ¬ 0 < (getN t ino).names.length := fun hh => h5 ⟨d5, hh⟩
        exact List.length_eq_zero_iff.1 (by omega)
       have hne : ino ≠ w.1 := fun hh => by rw [← hh, hn] at he0; simp at he0
       have hD : TInv (zU t w.1 w.2.1) ino := TInv.drop ⟨h.uniq, h.inv.any⟩ hd (fun e he hs => .inr (hall e he hs))
       have hg : getN (zU t w.1 w.2.1) ino = getN t ino := by rw [vS h.uniq hd, if_neg hne]
       unfold jN
       rw [if_pos (by rw [hg, h.inv.ln ino hk]; omega)]
       refine ⟨z5f hD.uniq, ?_⟩
       rw [z1s hD.uniq]
       exact hD.inv.delDir (by omega) (by rw [hg]; exact hn)
theorem zgd {t : List Node} {x : Int} (h : (getN t x).kind = 2) : hasN t x = true := by
 unfold hasN
 cases hf : t.find? (fun n => decide (n.ino = x)) with
 | none => unfold getN at h; rw [hf] at h; simp [zM] at h
 | some n => rfl
theorem znh {t : List Node} {x : Int} (h : hasN t x = true) : x ∈ t.map (·.ino) := by
 unfold hasN at h
 cases hf : t.find? (fun n => decide (n.ino = x)) with
 | none => rw [hf] at h; cases h
 | some n =>
  have h1 := List.mem_of_find?_eq_some hf
  have h2 := List.find?_some hf
  exact List.mem_map.2 ⟨n, h1, by simpa using h2⟩
theorem zh9 {t : List Node} {x : Int} (hr : (getN t 1).kind = 2) (h : Up (getN t) 0 x) : ∃ c, z9i t (x :: c) ∧ ∀ y ∈ x :: c, (getN t y).kind = 2 := by
 induction h with
 | root _ => exact ⟨[], ⟨zgd hr, rfl⟩, fun y hy => by simp at hy; rw [hy]; exact hr⟩
 | @step x a b c _ ih =>
  obtain ⟨l, h1, h2⟩ := ih
  refine ⟨_ :: l, ⟨zgd b, c, rfl, h1⟩, fun y hy => ?_⟩
  rcases List.mem_cons.1 hy with rfl | hy
  ·exact b
  ·exact h2 y hy
theorem zaj {t : List Node} : ∀ {c c' : List Int} {x : Int}, z9i t (x :: c) → z9i t (x :: c') → c = c'
 | [], [], x, _, _ => rfl
 | [], j :: r, x, h, h' => absurd h.2 h'.2.1
 | j :: r, [], x, h, h' => absurd h'.2 h.2.1
 | j :: r, j' :: r', x, h, h' => by
  have e : j = j' := h.2.2.1.symm.trans h'.2.2.1
  subst e
  rw [zaj h.2.2.2 h'.2.2.2]
theorem z7o {t : List Node} : ∀ {c : List Int} {x y : Int}, z9i t (x :: c) → y ∈ c → ∃ c', z9i t (y :: c') ∧ c'.length < c.length
 | [], x, y, _, hy => by simp at hy
 | j :: r, x, y, h, hy => by
  rcases List.mem_cons.1 hy with rfl | hy
  ·exact ⟨r, h.2.2.2, by simp⟩
  ·obtain ⟨c', h1, h2⟩ := z7o h.2.2.2 hy
   exact ⟨c', h1, by simp; omega⟩
theorem z5b {t : List Node} : ∀ {c : List Int} {x : Int}, z9i t (x :: c) → (x :: c).Nodup
 | [], x, _ => by simp
 | j :: r, x, h => by
  refine List.nodup_cons.2 ⟨fun hx => ?_, z5b h.2.2.2⟩
  obtain ⟨c', h1, h2⟩ := z7o h hx
  rw [zaj h1 h] at h2
  omega
theorem zej {t : List Node} : ∀ {c : List Int} {x : Int}, z9i t (x :: c) → ∀ y ∈ x :: c, hasN t y = true
 | [], x, h, y, hy => by simp at hy; rw [hy]; exact h.1
 | j :: r, x, h, y, hy => by
  rcases List.mem_cons.1 hy with rfl | hy
  ·exact h.1
  ·exact zej h.2.2.2 y hy
theorem zdm : ∀ {l m : List Int}, l.Nodup → (∀ x ∈ l, x ∈ m) → l.length ≤ m.length
 | [], m, _, _ => Nat.zero_le _
 | x :: r, m, hn, hs => by
  obtain ⟨h1, h2⟩ := List.nodup_cons.1 hn
  have hx := hs x (by simp)
  have := zdm (l := r) (m := m.erase x) h2 (fun y hy => (List.mem_erase_of_ne (fun h : y = x => h1 (by rw [← h]; exact hy))).2 (hs y (by simp [hy])))
  rw [List.length_erase_of_mem hx] at this
  have := List.length_pos_of_mem hx
  simp only [List.length_cons]
  omega
theorem zjm {t : List Node} {c : List Int} {x : Int} (h : z9i t (x :: c)) : (x :: c).length ≤ t.length := by
 have := zdm (m := t.map (·.ino)) (z5b h) (fun y hy => znh (zej h y hy))
 rwa [List.length_map] at this
theorem z8s {t : List Node} {i : Int} : ∀ {c : List Int} {x : Int} {k : Nat}, z9i t (x :: c) → i ∈ x :: c → (x :: c).length ≤ k → wJ t i k x = true
 | _, x, 0, _, _, hk => by simp at hk
 | [], x, k + 1, _, hi, _ => by simp at hi; rw [hi]; simp [wJ]
 | j :: r, x, k + 1, h, hi, hk => by
  unfold wJ
  split
  ·rfl
  ·rename_i hx
   rw [h.2.2.1]
   refine z8s h.2.2.2 ?_ (by simpa using hk)
   rcases List.mem_cons.1 hi with rfl | hi
   ·exact absurd rfl hx
   ·exact hi
theorem zh2 {t : List Node} {i : Int} : ∀ {c : List Int} {x : Int}, z9i t (x :: c) → (∀ y ∈ x :: c, (getN t y).kind = 2) → i ∉ x :: c → Up (getN t) i x
 | [], x, h, _, hi => by
  have hx : x = 1 := h.2
  rw [hx] at hi ⊢
  exact .root (fun hh => hi (by simp [hh]))
 | j :: r, x, h, hk, hi => by
  refine .step (fun hh => hi (by simp [hh])) (hk x (by simp)) h.2.1 ?_
  rw [h.2.2.1]
  exact zh2 h.2.2.2 (fun y hy => hk y (by simp [hy])) (fun hh => hi (by simp [hh]))
theorem zlp {t : List Node} {i d : Int} (h : TInv t 1) (hd : (getN t d).kind = 2) (hb : wJ t i (t.length + 1) d = false) : Up (getN t) i d := by
 obtain ⟨c, h1, h2⟩ := zh9 h.inv.root (h.inv.way d hd)
 refine zh2 h1 h2 fun hi => ?_
 rw [z8s h1 hi (by have := zjm h1; omega)] at hb
 cases hb
theorem z8a {t : List Node} {d y x : Int} {s : List UInt8} (hu : Uniq t) (hd : (getN t d).kind = 2) : (getN (putN t d s x) y).kind = (getN t y).kind ∧ (getN (putN t d s x) y).parent = (getN t y).parent ∧ (y = d → ∀ e, e ∈ (getN (putN t d s x) y).names ↔ (e = ⟨s, x⟩ ∨ e ∈ (getN t d).names)) := by
 unfold putN
 rw [jF hu]
 unfold upd
 have hi : (getN t d).ino = d := jH hd
 simp only [hi]
 split
 ·rename_i h
  rw [h]
  refine ⟨rfl, rfl, fun _ e => ?_⟩
  exact mem_putA.trans (by simp)
 ·rename_i h
  exact ⟨rfl, rfl, fun hh => absurd hh h⟩
theorem TInv.rename {t : List Node} {o : Opn} (h : TInv t 1) : TInv (kT t o).1 1 := by
 unfold kT
 split
 ·exact h
 ·rename_i h1
  split
  ·exact h
  ·rename_i h2
   split
   ·exact h
   ·rename_i h3
    have hf := kB (t := t) (s := o.a) (by simpa using h1)
    have hd := kB (t := t) (s := o.b) (by simpa using h3)
    generalize zK t o.a = w at *
    generalize zK t o.b = v at *
    obtain ⟨f, old, _⟩ := w
    obtain ⟨d, s, _⟩ := v
    simp only at *
    obtain ⟨e0, he0, hs0, hi0⟩ := vM (l := (getN t f).names) (s := old) (by omega)
    have hge : 2 ≤ qQ (getN t f).names old := by rw [← hi0]; exact h.inv.ge2 _ e0 he0
    have hall : ∀ e ∈ (getN t f).names, e.name = old → e.ino = qQ (getN t f).names old := fun e he hs => by
     rw [← hi0]; exact h.inv.un _ e he e0 he0 (hs.trans hs0.symm)
    generalize qQ (getN t f).names old = ino at *
    unfold z39
    split
    ·exact h
    ·rename_i h4
     split
     ·exact h
     ·rename_i h5
      split
      ·exact h
      ·rename_i h6
       split
       ·exact h
       ·rename_i h7
        unfold renamed
        by_cases hk : (getN t ino).kind = 2
        ·
         have hw : ¬ 0 ≤ qQ (getN t d).names s := fun hh => h6 ⟨hh, hk⟩
         have hbl : wJ t ino (t.length + 1) d = false := by
          cases hb : wJ t ino (t.length + 1) d with
          | false => rfl
          | true => exact absurd ⟨hk, hb⟩ h5
         have hid : d ≠ ino := fun hh => by rw [hh] at hbl; simp [wJ] at hbl
         have hup := zlp h hd hbl
         have hfresh := z0j (h.inv.ge2 d) (Int.not_le.1 hw)
         simp only [if_neg hw, if_pos hk]
         have hD : TInv (zU t f old) ino := TInv.drop ⟨h.uniq, h.inv.any⟩ hf (fun e he hs => .inr (hall e he hs))
         have hkd : (getN (zU t f old) d).kind = 2 := by rw [(qZ h.uniq hf).1]; exact hd
         have hP : TInv (putN (zU t f old) d s ino) ino := hD.put hkd (fun e he => hfresh e ((z1k h.uniq hf) e he).1) hge (fun hh => absurd rfl hh)
         have hk2 : ∀ y, (getN (putN (zU t f old) d s ino) y).kind = (getN t y).kind := fun y => by
          rw [(z8a hD.uniq hkd).1, (qZ h.uniq hf).1]
         have hp2 : ∀ y, (getN (putN (zU t f old) d s ino) y).parent = (getN t y).parent := fun y => by
          rw [(z8a hD.uniq hkd).2.1, (qZ h.uniq hf).2.1]
         refine ⟨z16 hP.uniq, ?_⟩
         rw [jF hP.uniq]
         have hki : (getN (putN (zU t f old) d s ino) ino).kind = 2 := by rw [hk2]; exact hk
         exact hP.inv.move (i := ino) (d := d) (jH hki) hki hki (by omega) rfl rfl rfl (by rw [hk2]; exact hd) hid
          ⟨⟨s, ino⟩, ((z8a hD.uniq hkd).2.2 rfl _).2 (.inl rfl), rfl⟩ (hup.mono fun y hy _ => ⟨by rw [hk2]; exact hy, hp2 y⟩)
        ·
         simp only [if_neg hk]
         have main : ∀ u : List Node, TInv u 1 → (getN u f).kind = 2 → (getN u d).kind = 2 → (∀ e ∈ (getN u f).names, e ∈ (getN t f).names) → (∀ e ∈ (getN u d).names, e.name ≠ s) → (getN u ino).kind ≠ 2 → TInv (putN (zU u f old) d s ino) 1 := fun u hu kf kd nf nd ki => by
          have hD : TInv (zU u f old) 1 := hu.drop kf (fun e he hs => .inl (by rw [hall e (nf e he) hs]; exact ki))
          exact hD.put (by rw [(qZ hu.uniq kf).1]; exact kd) (fun e he => nd e ((z1k hu.uniq kf) e he).1) hge (fun hh => absurd rfl hh)
         split
         ·rename_i hw
          have hkw : (getN t (qQ (getN t d).names s)).kind ≠ 2 := fun hh => h7 ⟨hw, hh⟩
          obtain ⟨e1, he1, hs1, hi1⟩ := vM hw
          have hall1 : ∀ e ∈ (getN t d).names, e.name = s → e.ino = qQ (getN t d).names s := fun e he hs => by
           rw [← hi1]; exact h.inv.un _ e he e1 he1 (hs.trans hs1.symm)
          generalize qQ (getN t d).names s = was at *
          have hD : TInv (zU t d s) 1 := h.drop hd (fun e he hs => .inl (by rw [hall1 e he hs]; exact hkw))
          have hL : TInv (jN (zU t d s) was) 1 := hD.loses (by rw [(qZ h.uniq hd).1]; exact hkw)
          have hnf : f ≠ was := fun hh => by rw [hh] at hf; exact hkw hf
          have hnd : d ≠ was := fun hh => by rw [hh] at hd; exact hkw hd
          refine main _ hL ?_ ?_ ?_ ?_ ?_
          ·rw [z0o hD.uniq hnf, (qZ h.uniq hd).1]; exact hf
          ·rw [z0o hD.uniq hnd, (qZ h.uniq hd).1]; exact hd
          ·rw [z0o hD.uniq hnf]; exact fun e he => ((z1k h.uniq hd) e he).1
          ·rw [z0o hD.uniq hnd]; exact fun e he => ((z1k h.uniq hd) e he).2 rfl
          ·rw [z0o hD.uniq (fun hh => h4 hh.symm), (qZ h.uniq hd).1]; exact hk
         ·rename_i hw
          exact main t h hf hd (fun e he => he) (z0j (h.inv.ge2 d) (Int.not_le.1 hw)) hk
theorem TInv.step {t : List Node} {o : Opn} (h : TInv t 1) : TInv (qR t o).1 1 := by
 unfold qR
 split
 ·exact h
 ·rename_i hm
  repeat' split
  ·exact h.make
  ·exact h.link
  ·exact h.remove (by omega)
  ·exact h.rename
  ·exact h.bytes
  ·exact h
  ·exact h
theorem z5w (x : Int) : getN newN x = if x = 1 then ⟨1, 2, 1, 1, 0, [], []⟩ else zM := by
 unfold getN newN
 by_cases hx : x = 1
 ·subst hx; rfl
 ·have : ¬ (1 : Int) = x := fun hh => hx hh.symm
  simp [hx, this]
theorem TInv.new : TInv newN 1 := by
 have hn : ∀ x, (getN newN x).names = [] := fun x => by rw [z5w]; split <;> rfl
 have hk : ∀ x, (getN newN x).kind = 2 → x = 1 := fun x hx => by
  rw [z5w] at hx
  split at hx
  ·assumption
  ·simp [zM] at hx
 refine ⟨fun n hn m hm _ => ?_, ⟨rfl, fun x e he => by rw [hn] at he; simp at he, fun x e he => by rw [hn] at he; simp at he, fun x hx => by rw [hk x hx]; rfl, fun x hx n1 _ => absurd (hk x hx) n1, fun x hx => by rw [hk x hx]; exact .root (by omega), fun x hx => by rw [hk x hx]; omega⟩⟩
 simp only [newN, List.mem_singleton] at hn hm
 rw [hn, hm]
theorem TInv.play (l : List Opn) : TInv (zjp l) 1 := by
 have : ∀ (l : List Opn) (t : List Node), TInv t 1 → TInv (l.foldl (fun t o => (qR t o).1) t) 1 := fun l => by
  induction l with
  | nil => exact fun t h => h
  | cons o r ih => exact fun t h => ih _ h.step
 exact this l newN TInv.new
end Go.Proofs.Ytghllhghboaagaa
end
section
namespace Go.Proofs.Ytghllhghboaagaa
theorem zhg : ∀ {a : List UInt8}, kY a a = false
 | [] => rfl
 | x :: a => by simp [kY, zhg (a := a)]
theorem z6n : ∀ {a b c : List UInt8}, kY a b = true → kY b c = true → kY a c = true
 | [], [], _, h, _ => by cases h
 | [], _ :: _, [], _, h => by simp [kY] at h
 | [], _ :: _, _ :: _, _, _ => rfl
 | _ :: _, [], _, h, _ => by simp [kY] at h
 | _ :: _, _ :: _, [], _, h => by simp [kY] at h
 | x :: a, y :: b, z :: c, h1, h2 => by
  simp only [kY] at h1 h2 ⊢
  by_cases hxy : x = y
  ·subst hxy
   by_cases hxz : x = z
   ·subst hxz
    simp only [ne_eq, not_true_eq_false, if_false] at h1 h2 ⊢
    exact z6n h1 h2
   ·rw [if_pos hxz] at h2 ⊢
    exact h2
  ·rw [if_pos hxy, decide_eq_true_eq] at h1
   by_cases hyz : y = z
   ·subst hyz
    rw [if_pos hxy, decide_eq_true_eq]
    exact h1
   ·rw [if_pos hyz, decide_eq_true_eq] at h2
    have h3 : x < z := by rw [UInt8.lt_iff_toNat_lt] at *; omega
    have hne : x ≠ z := fun hh => by subst hh; rw [UInt8.lt_iff_toNat_lt] at h3; omega
    rw [if_pos hne, decide_eq_true_eq]
    exact h3
theorem zbp : ∀ {a b : List UInt8}, kY b a = !(kY a b || a == b)
 | [], [] => rfl
 | [], _ :: _ => rfl
 | _ :: _, [] => rfl
 | x :: a, y :: b => by
  by_cases hxy : x = y
  ·subst hxy
   have := zbp (a := a) (b := b)
   simp [kY, this]
  ·have hyx : y ≠ x := fun hh => hxy hh.symm
   have h1 : decide (y < x) = !(decide (x < y)) := by
    by_cases h : x < y
    ·have : ¬ y < x := by rw [UInt8.lt_iff_toNat_lt] at *; omega
     simp [h, this]
    ·have hn : x.toNat ≠ y.toNat := fun hh => hxy (UInt8.toNat_inj.1 hh)
     have : y < x := by rw [UInt8.lt_iff_toNat_lt] at *; omega
     simp [h, this]
   simp [kY, hxy, hyx, h1]
theorem zb7 : ∀ {a b : List UInt8}, Op.bytesLess a b = kY a b
 | [], [] => rfl
 | [], _ :: _ => rfl
 | _ :: _, [] => rfl
 | x :: a, y :: b => by
  by_cases hxy : x = y
  ·subst hxy
   have h : ¬ x < x := by rw [UInt8.lt_iff_toNat_lt]; omega
   simp [kY, Op.bytesLess, zb7, h]
  ·simp [kY, Op.bytesLess, hxy]
def Ord (l : List Ent) : Prop := (l.map (·.name)).Pairwise fun a b => kY a b = true
theorem Ord.cons {e : Ent} {l : List Ent} : Ord (e :: l) ↔ (∀ x ∈ l, kY e.name x.name = true) ∧ Ord l := by
 unfold Ord
 rw [List.map_cons, List.pairwise_cons]
 simp
theorem Ord.nodup {l : List Ent} (h : Ord l) : (l.map (·.name)).Nodup := List.Pairwise.imp (fun {a b} h => fun hh => by rw [hh, zhg] at h; cases h) h
theorem Ord.filter {l : List Ent} {p : Ent → Bool} (h : Ord l) : Ord (l.filter p) := by
 unfold Ord at *
 exact h.sublist (List.filter_sublist.map _)
theorem z8y {s : List UInt8} {i : Int} : ∀ {l : List Ent}, putA s i true l = l
 | [] => rfl
 | e :: r => by simp [putA, z8y (l := r)]
theorem Ord.put {s : List UInt8} {i : Int} : ∀ {l : List Ent}, Ord l → (∀ e ∈ l, e.name ≠ s) → Ord (putA s i false l)
 | [], _, _ => by simp [putA, Ord]
 | e :: r, h, hs => by
  obtain ⟨h1, h2⟩ := Ord.cons.1 h
  cases hl : kY s e.name with
  | true =>
   have e1 : putA s i false (e :: r) = ⟨s, i⟩ :: e :: r := by simp [putA, hl, z8y]
   rw [e1]
   refine Ord.cons.2 ⟨fun x hx => ?_, h⟩
   rcases List.mem_cons.1 hx with rfl | hx
   ·exact hl
   ·exact z6n hl (h1 x hx)
  | false =>
   have e1 : putA s i false (e :: r) = e :: putA s i false r := by simp [putA, hl]
   have hes : kY e.name s = true := by
    rw [zbp (a := s) (b := e.name), hl]
    have : ¬ s = e.name := fun hh => hs e (by simp) hh.symm
    simp [this]
   rw [e1]
   refine Ord.cons.2 ⟨fun x hx => ?_, Ord.put h2 (fun x hx => hs x (List.mem_cons_of_mem _ hx))⟩
   rcases mem_putA.1 hx with ⟨_, rfl⟩ | hx
   ·exact hes
   ·exact h1 x hx
theorem zpq {s : List UInt8} {i : Int} : ∀ {l : List Ent} {k : Nat}, k ≤ l.length → (∀ j (h : j < l.length), j < k → kY s l[j].name = false) → (∀ h : k < l.length, kY s l[k].name = true) → putA s i false l = l.take k ++ ⟨s, i⟩ :: l.drop k
 | [], k, hk, _, _ => by
  have : k = 0 := by simpa using hk
  subst this
  rfl
 | e :: r, 0, hk, _, h2 => by
  have := h2 (by simp)
  simp only [List.getElem_cons_zero] at this
  simp [putA, this, z8y]
 | e :: r, k + 1, hk, h1, h2 => by
  have h0 := h1 0 (by simp) (by omega)
  simp only [List.getElem_cons_zero] at h0
  have ih := zpq (s := s) (i := i) (l := r) (k := k) (by simpa using hk) (fun j h hj => by have := h1 (j + 1) (by simpa using h) (by omega); simpa using this) (fun h => by have := h2 (by simpa using h); simpa using this)
  simp [putA, h0, ih]
theorem zqy {l : List Ent} {k : Nat} (h : (l.map (·.name)).Nodup) (hk : k < l.length) : l.filter (fun e => decide (e.name ≠ l[k].name)) = l.take k ++ l.drop (k + 1) := by
 have hs : l = l.take k ++ l[k] :: l.drop (k + 1) := by rw [← List.drop_eq_getElem_cons hk, List.take_append_drop]
 generalize l[k] = e at *
 generalize l.take k = a at *
 generalize l.drop (k + 1) = b at *
 subst hs
 rw [List.map_append, List.map_cons, List.nodup_append] at h
 obtain ⟨_, h2, h3⟩ := h
 rw [List.nodup_cons] at h2
 rw [List.filter_append, List.filter_cons_of_neg (by simp), List.filter_eq_self.2, List.filter_eq_self.2]
 ·intro x hx
  rw [decide_eq_true_eq]
  exact fun hh => h2.1 (List.mem_map.2 ⟨x, hx, hh⟩)
 ·intro x hx
  rw [decide_eq_true_eq]
  exact fun hh => h3 _ (List.mem_map.2 ⟨x, hx, rfl⟩) _ (by simp) hh
def cp (l : List Ent) (x : Int) : Nat := l.countP fun e => decide (e.ino = x)
def cnt (t : List Node) (x : Int) : Nat := (t.map fun n => cp n.names x).sum
theorem zs5 (x : Int) : cnt [] x = 0 := rfl
theorem z28 (n : Node) (r : List Node) (x : Int) : cnt (n :: r) x = cp n.names x + cnt r x := by simp [cnt]
theorem zp7 (x : Int) : cp [] x = 0 := rfl
theorem z97 (e : Ent) (l : List Ent) (x : Int) : cp (e :: l) x = cp l x + if e.ino = x then 1 else 0 := by simp [cp, List.countP_cons]
theorem zpi {l : List Ent} {e : Ent} (h : e ∈ l) : cp l e.ino ≠ 0 := by
 have : 0 < cp l e.ino := List.countP_pos_iff.2 ⟨e, h, by simp⟩
 omega
theorem zko {t : List Node} {n : Node} (h : n ∈ t) (x : Int) : cp n.names x ≤ cnt t x := by
 induction t with
 | nil => cases h
 | cons m r ih =>
  rw [z28]
  rcases List.mem_cons.1 h with rfl | h
  ·omega
  ·have := ih h; omega
def Srt (t : List Node) : Prop := (t.map (·.ino)).Pairwise (· < ·)
theorem Srt.cons {n : Node} {r : List Node} : Srt (n :: r) ↔ (∀ m ∈ r, n.ino < m.ino) ∧ Srt r := by
 unfold Srt
 rw [List.map_cons, List.pairwise_cons]
 simp
theorem Srt.nodup {t : List Node} (h : Srt t) : (t.map (·.ino)).Nodup := List.Pairwise.imp (fun h => Int.ne_of_lt h) h
theorem Srt.uniq {t : List Node} (h : Srt t) : Uniq t := by
 induction t with
 | nil => intro n hn; cases hn
 | cons x r ih =>
  obtain ⟨h1, h2⟩ := Srt.cons.1 h
  intro n hn m hm he
  rcases List.mem_cons.1 hn with e | hn <;> rcases List.mem_cons.1 hm with e' | hm
  ·rw [e, e']
  ·have := h1 m hm; rw [e] at he; omega
  ·have := h1 n hn; rw [e'] at he; omega
  ·exact ih h2 n hn m hm he
theorem Srt.filter {t : List Node} {p : Node → Bool} (h : Srt t) : Srt (t.filter p) := by
 unfold Srt at *
 exact h.sublist (List.filter_sublist.map _)
theorem z2q {n : Node} : ∀ {l : List Node}, wG n true l = l.filter (fun m => m.ino ≠ n.ino)
 | [] => rfl
 | x :: r => by
  have ih := z2q (n := n) (l := r)
  by_cases h : x.ino = n.ino <;> simp [wG, h, ih]
theorem ze4 {n : Node} : ∀ {l : List Node}, Srt l → Srt (wG n false l)
 | [], _ => by simp [wG, Srt]
 | x :: r, h => by
  obtain ⟨h1, h2⟩ := Srt.cons.1 h
  by_cases hx : n.ino ≤ x.ino
  ·have e : wG n false (x :: r) = n :: (x :: r).filter (fun m => m.ino ≠ n.ino) := by
    rw [← z2q]
    simp [wG, hx]
   rw [e]
   refine Srt.cons.2 ⟨fun m hm => ?_, h.filter⟩
   obtain ⟨hm1, hm2⟩ := List.mem_filter.1 hm
   have hm2 : m.ino ≠ n.ino := by simpa using hm2
   rcases List.mem_cons.1 hm1 with rfl | hm1
   ·omega
   ·have := h1 m hm1; omega
  ·have e : wG n false (x :: r) = x :: wG n false r := by
    have : x.ino ≠ n.ino := by omega
    simp [wG, hx, this]
   rw [e]
   refine Srt.cons.2 ⟨fun m hm => ?_, ze4 h2⟩
   rcases z9n.1 hm with ⟨_, rfl⟩ | ⟨hm1, _⟩
   ·omega
   ·exact h1 m hm1
theorem Srt.with {t : List Node} {n : Node} (h : Srt t) : Srt (qT t n) := ze4 h
theorem zep {n : Node} {x : Int} : ∀ {l : List Node}, cnt (wG n false l) x = cp n.names x + cnt (l.filter (fun m => m.ino ≠ n.ino)) x
 | [] => by simp [wG, z28, zs5]
 | y :: r => by
  by_cases hy : n.ino ≤ y.ino
  ·have e : wG n false (y :: r) = n :: (y :: r).filter (fun m => m.ino ≠ n.ino) := by
    rw [← z2q]
    simp [wG, hy]
   rw [e, z28]
  ·have e : wG n false (y :: r) = y :: wG n false r := by
    have : y.ino ≠ n.ino := by omega
    simp [wG, hy, this]
   have hne : y.ino ≠ n.ino := by omega
   rw [e, z28, zep, List.filter_cons_of_pos (by simpa using hne), z28]
   omega
theorem zkg (n : Node) (r : List Node) (i : Int) : getN (n :: r) i = if n.ino = i then n else getN r i := by
 unfold getN
 by_cases h : n.ino = i
 ·rw [if_pos h, List.find?_cons_of_pos (by simpa using h)]; rfl
 ·rw [if_neg h, List.find?_cons_of_neg (by simpa using h)]
theorem z73 {i x : Int} : ∀ {t : List Node}, Srt t → cnt (t.filter (fun m => m.ino ≠ i)) x + cp (getN t i).names x = cnt t x
 | [], _ => rfl
 | n :: r, h => by
  obtain ⟨h1, h2⟩ := Srt.cons.1 h
  have ih := z73 (i := i) (x := x) h2
  rw [zkg]
  by_cases hn : n.ino = i
  ·rw [if_pos hn, List.filter_cons_of_neg (by simpa using hn), z28]
   have : r.filter (fun m => m.ino ≠ i) = r := List.filter_eq_self.2 fun m hm => by have := h1 m hm; simp; omega
   rw [this]; omega
  ·rw [if_neg hn, List.filter_cons_of_pos (by simpa using hn), z28, z28]
   omega
theorem zhj {t : List Node} {n : Node} {x : Int} (h : Srt t) : cnt (qT t n) x + cp (getN t n.ino).names x = cnt t x + cp n.names x := by
 have := z73 (i := n.ino) (x := x) h
 unfold qT
 rw [zep]
 omega
theorem zmb {s : List UInt8} {i x : Int} : ∀ {l : List Ent} {b : Bool}, cp (putA s i b l) x = cp l x + if b = false ∧ i = x then 1 else 0
 | [], b => by cases b <;> simp [putA, z97, zp7]
 | e :: r, b => by
  have ih := zmb (s := s) (i := i) (x := x) (l := r) (b := b || kY s e.name)
  cases b <;> cases hl : kY s e.name <;> simp only [hl, Bool.or_true, Bool.or_false, Bool.true_or, Bool.false_or] at ih <;> simp [putA, z97, hl, ih] <;> split <;> omega
theorem zg7 {s : List UInt8} {i x : Int} : ∀ {l : List Ent}, (l.map (·.name)).Nodup → (∃ e ∈ l, e.name = s ∧ e.ino = i) → cp (l.filter (fun e => decide (e.name ≠ s))) x + (if i = x then 1 else 0) = cp l x
 | [], _, h => by obtain ⟨e, he, _⟩ := h; cases he
 | e :: r, hn, h => by
  rw [List.map_cons, List.nodup_cons] at hn
  obtain ⟨h1, h2⟩ := hn
  by_cases hs : e.name = s
  ·have hi : e.ino = i := by
    obtain ⟨e', he', hs', hi'⟩ := h
    rcases List.mem_cons.1 he' with rfl | he'
    ·exact hi'
    ·exact absurd (List.mem_map.2 ⟨e', he', hs'.trans hs.symm⟩) h1
   rw [List.filter_cons_of_neg (by simpa using hs), z97, hi]
   have : r.filter (fun e => decide (e.name ≠ s)) = r := List.filter_eq_self.2 fun m hm => by
    simp only [decide_eq_true_eq]
    exact fun hh => h1 (List.mem_map.2 ⟨m, hm, hh.trans hs.symm⟩)
   rw [this]
  ·have ih := zg7 (x := x) h2 (by
    obtain ⟨e', he', hs', hi'⟩ := h
    rcases List.mem_cons.1 he' with rfl | he'
    ·exact absurd hs' hs
    ·exact ⟨e', he', hs', hi'⟩)
   rw [List.filter_cons_of_pos (by simpa using hs), z97, z97]
   omega
structure LJ (t : List Node) (d : Int → Int) : Prop where
 srt : Srt t
 knd : ∀ n ∈ t, n.kind ≠ 0
 lnk : ∀ x, (getN t x).kind ≠ 0 → x ≠ 1 → (getN t x).links = cnt t x + d x
 has : ∀ x, cnt t x ≠ 0 → (getN t x).kind ≠ 0
 fil : ∀ x, (getN t x).kind ≠ 2 → (getN t x).names = []
 nod : ∀ x, Ord (getN t x).names
theorem z0u {t : List Node} {x : Int} (h : (getN t x).kind ≠ 0) : (getN t x).ino = x := by
 rcases jM t x with ⟨h1, _⟩ | ⟨_, h2⟩
 ·rw [h1] at h; exact absurd rfl h
 ·exact h2
theorem zon {t : List Node} {x : Int} (h : (getN t x).kind ≠ 0) : hasN t x = true := by
 unfold hasN
 cases hf : t.find? (fun n => decide (n.ino = x)) with
 | none => unfold getN at h; rw [hf] at h; exact absurd rfl h
 | some n => rfl
theorem LJ.hasK {t : List Node} {d : Int → Int} (h : LJ t d) {x : Int} (hx : hasN t x = true) : (getN t x).kind ≠ 0 := by
 unfold hasN at hx
 unfold getN
 cases hf : t.find? (fun n => decide (n.ino = x)) with
 | none => rw [hf] at hx; cases hx
 | some n => exact h.knd n (List.mem_of_find?_eq_some hf)
theorem LJ.congr {t : List Node} {d d' : Int → Int} (h : LJ t d) (e : ∀ x, d x = d' x) : LJ t d' := (funext e : d = d') ▸ h
theorem LJ.told {t : List Node} {d : Int → Int} (h : LJ t d) {x : Int} {e : Ent} (he : e ∈ (getN t x).names) : (getN t e.ino).kind ≠ 0 := by
 refine h.has _ ?_
 rcases jM t x with ⟨h1, _⟩ | ⟨h1, _⟩
 ·rw [h1] at he; cases he
 ·have := zko h1 e.ino
  have := zpi he
  omega
theorem LJ.toTold {t : List Node} {d : Int → Int} (h : LJ t d) (hT : TInv t 1) : Told t :=
 ⟨zgd hT.inv.root, fun x e he => zon (h.told he), hT.inv.ge2⟩
theorem LJ.with {t : List Node} {d d' : Int → Int} {m : Node} (h : LJ t d) (hk : m.kind ≠ 0) (hn : m.names = (getN t m.ino).names) (hf : m.kind ≠ 2 → m.names = []) (hd : ∀ x, x ≠ m.ino → d' x = d x) (hl : m.ino ≠ 1 → m.links = cnt t m.ino + d' m.ino) : LJ (qT t m) d' := by
 have hc : ∀ x, cnt (qT t m) x = cnt t x := fun x => by have := zhj (n := m) (x := x) h.srt; rw [hn] at this; omega
 have hg := jF (m := m) h.srt.uniq
 refine ⟨h.srt.with, ?_, ?_, ?_, ?_, ?_⟩
 ·intro n hn'
  rcases wV.1 hn' with rfl | ⟨h1, _⟩
  ·exact hk
  ·exact h.knd n h1
 ·intro x hx n1
  rw [hg] at hx ⊢
  rw [hc]
  unfold upd at hx ⊢
  split
  ·rename_i e; subst e; exact hl n1
  ·rename_i e
   rw [if_neg e] at hx
   rw [hd x e]; exact h.lnk x hx n1
 ·intro x hx
  rw [hc] at hx
  rw [hg]
  unfold upd
  split
  ·exact hk
  ·exact h.has x hx
 ·intro x
  rw [hg]
  unfold upd
  split
  ·exact hf
  ·exact h.fil x
 ·intro x
  rw [hg]
  unfold upd
  split
  ·rw [hn]; exact h.nod _
  ·exact h.nod x
theorem LJ.names {t : List Node} {d d' : Int → Int} {d0 : Int} {l : List Ent} (h : LJ t d) (hd : (getN t d0).kind = 2) (hl : Ord l) (hc : ∀ x, (cp l x : Int) + d' x = cp (getN t d0).names x + d x) (hh : ∀ x, cp (getN t d0).names x < cp l x → (getN t x).kind ≠ 0) : LJ (qT t { getN t d0 with names := l }) d' := by
 have hi : (getN t d0).ino = d0 := jH hd
 have hct : ∀ x, cnt (qT t { getN t d0 with names := l }) x + cp (getN t d0).names x = cnt t x + cp l x := fun x => by
  have := zhj (n := { getN t d0 with names := l }) (x := x) h.srt
  rw [show ({ getN t d0 with names := l } : Node).ino = d0 from hi] at this
  exact this
 have hg : ∀ x, getN (qT t { getN t d0 with names := l }) x = if x = d0 then { getN t d0 with names := l } else getN t x := fun x => by
  rw [jF h.srt.uniq]
  unfold upd
  simp only [hi]
 have hkd : ∀ x, (getN (qT t { getN t d0 with names := l }) x).kind = (getN t x).kind ∧ (getN (qT t { getN t d0 with names := l }) x).links = (getN t x).links := fun x => by
  rw [hg]
  split
  ·rename_i e; subst e; exact ⟨rfl, rfl⟩
  ·exact ⟨rfl, rfl⟩
 refine ⟨h.srt.with, ?_, ?_, ?_, ?_, ?_⟩
 ·intro n hn'
  rcases wV.1 hn' with rfl | ⟨h1, _⟩
  ·show (getN t d0).kind ≠ 0
   rw [hd]; decide
  ·exact h.knd n h1
 ·intro x hx n1
  rw [(hkd x).1] at hx
  rw [(hkd x).2, h.lnk x hx n1]
  have := hct x
  have := hc x
  omega
 ·intro x hx
  rw [(hkd x).1]
  by_cases hlt : cp (getN t d0).names x < cp l x
  ·exact hh x hlt
  ·refine h.has x ?_
   have := hct x
   have : cp (getN t d0).names x ≤ cnt t x := by
    rcases jM t d0 with ⟨h1, _⟩ | ⟨h1, _⟩
    ·rw [h1]; exact Nat.zero_le _
    ·exact zko h1 x
   omega
 ·intro x hx
  rw [(hkd x).1] at hx
  rw [hg]
  split
  ·rename_i e; subst e; exact absurd hd hx
  ·exact h.fil x hx
 ·intro x
  rw [hg]
  split
  ·exact hl
  ·exact h.nod x
theorem LJ.drop {t : List Node} {d : Int → Int} {d0 i : Int} {s : List UInt8} (h : LJ t d) (hd : (getN t d0).kind = 2) (he : ∃ e ∈ (getN t d0).names, e.name = s ∧ e.ino = i) : LJ (zU t d0 s) (fun x => d x + if i = x then 1 else 0) := by
 unfold zU
 refine h.names hd ?_ ?_ ?_
 ·exact (h.nod d0).filter
 ·intro x
  have := zg7 (x := x) (h.nod d0).nodup he
  split <;> rename_i e <;> simp only [e, if_true, if_false] at this <;> omega
 ·intro x hx
  have := zg7 (x := x) (h.nod d0).nodup he
  omega
theorem LJ.put {t : List Node} {d : Int → Int} {d0 i : Int} {s : List UInt8} (h : LJ t d) (hd : (getN t d0).kind = 2) (hs : ∀ e ∈ (getN t d0).names, e.name ≠ s) (hi : (getN t i).kind ≠ 0) : LJ (putN t d0 s i) (fun x => d x - if i = x then 1 else 0) := by
 unfold putN
 refine h.names hd ((h.nod d0).put hs) ?_ ?_
 ·intro x
  rw [zmb]
  by_cases e : i = x <;> simp [e]
  omega
 ·intro x hx
  rw [zmb] at hx
  by_cases e : i = x
  ·rw [← e]; exact hi
  ·simp [e] at hx
theorem LJ.loses {t : List Node} {d : Int → Int} {i : Int} (h : LJ t d) (hk : (getN t i).kind ≠ 0) (hn : (getN t i).names = []) (h1 : i ≠ 1) (hd : d i = 1) : LJ (jN t i) (fun x => if x = i then 0 else d x) := by
 have hi := z0u hk
 have hl := h.lnk i hk h1
 unfold jN
 split
 ·rename_i hlt
  have hc : ∀ x, cnt (t.filter (fun n => n.ino ≠ i)) x = cnt t x := fun x => by have := z73 (i := i) (x := x) h.srt; rw [hn, zp7] at this; exact this
  have hg := z1s (i := i) h.srt.uniq
  refine ⟨h.srt.filter, fun n hn => h.knd n (List.mem_filter.1 hn).1, ?_, ?_, ?_, ?_⟩
  ·intro x hx n1
   rw [hg] at hx ⊢
   unfold del at hx ⊢
   split
   ·rename_i e; rw [if_pos e] at hx; exact absurd rfl hx
   ·rename_i e
    rw [if_neg e] at hx
    rw [hc]
    exact h.lnk x hx n1
  ·intro x hx
   rw [hc] at hx
   rw [hg]
   unfold del
   split
   ·rename_i e; subst e; omega
   ·exact h.has x hx
  ·intro x
   rw [hg]
   unfold del
   split
   ·exact fun _ => rfl
   ·exact h.fil x
  ·intro x
   rw [hg]
   unfold del
   split
   ·simp [zM, Ord]
   ·exact h.nod x
 ·refine h.with hk ?_ (fun _ => hn) ?_ ?_
  ·show (getN t i).names = (getN t (getN t i).ino).names
   rw [hi]
  ·intro x hx
   have hx : x ≠ (getN t i).ino := hx
   rw [hi] at hx
   exact if_neg hx
  ·intro _
   show (getN t i).links - 1 = _
   have e : (({ getN t i with links := (getN t i).links - 1 } : Node).ino) = i := hi
   rw [e, if_pos rfl]
   omega
theorem LJ.new : LJ newN (fun _ => 0) := by
 have hc : ∀ x, cnt newN x = 0 := fun x => rfl
 refine ⟨by simp [Srt, newN], ?_, ?_, ?_, ?_, ?_⟩
 ·intro n hn
  simp only [newN, List.mem_singleton] at hn
  subst hn
  decide
 ·intro x hx n1
  rw [z5w, if_neg n1] at hx
  exact absurd rfl hx
 ·intro x hx; exact absurd (hc x) hx
 ·intro x _; rw [z5w]; split <;> rfl
 ·intro x; rw [z5w]; split <;> simp [zM, Ord]
theorem LJ.make {t : List Node} {o : Opn} (h : LJ t (fun _ => 0)) (hT : TInv t 1) : LJ (z0h t o).1 (fun _ => 0) := by
 unfold z0h
 split
 ·exact h
 ·rename_i h1
  split
  ·exact h
  ·rename_i h2
   have hd := kB (t := t) (s := o.a) (by simpa using h1)
   obtain ⟨hn1, hn2, _⟩ := z1h t
   have hz : getN t (jA t) = zM := z1t hn1
   have hnd : (zK t o.a).1 ≠ jA t := fun hh => by rw [hh, hz] at hd; simp [zM] at hd
   have hfresh := z0j (hT.inv.ge2 (zK t o.a).1) (Int.not_le.1 h2)
   have hi : (qA t o).ino = jA t := by unfold qA; split <;> rfl
   have hns : (qA t o).names = [] := by unfold qA; split <;> rfl
   have hlk : (qA t o).links = 1 := by unfold qA; split <;> rfl
   have hkd : (qA t o).kind ≠ 0 := by unfold qA; split <;> simp
   have hc : cnt t (jA t) = 0 := Classical.byContradiction fun hh => h.has _ hh (by rw [hz]; rfl)
   have hgd : getN (qT t (qA t o)) (zK t o.a).1 = getN t (zK t o.a).1 := by
    rw [jF h.srt.uniq]
    unfold upd
    rw [hi, if_neg hnd]
   have h3 : LJ (qT t (qA t o)) (fun x => if jA t = x then 1 else 0) := h.with hkd (by rw [hns, hi, hz]; rfl) (fun _ => hns)
    (fun x hx => by rw [hi] at hx; exact if_neg fun hh => hx hh.symm) (fun _ => by rw [hlk, hi, hc, if_pos rfl]; rfl)
   have h4 := h3.put (d0 := (zK t o.a).1) (s := (zK t o.a).2.1) (i := jA t) (by rw [hgd]; exact hd) (by rw [hgd]; exact hfresh) (by
    rw [jF h.srt.uniq]
    unfold upd
    rw [hi, if_pos rfl]
    exact hkd)
   exact h4.congr fun x => by simp
theorem vN {t : List Node} (hT : Told t) {s : List UInt8} (h : (zH t s).2 = 0) : hasN t (zH t s).1 = true := by
 unfold zH at h ⊢
 split at h
 ·rename_i h1; exact absurd h h1
 ·rename_i h1
  rw [if_neg h1]
  exact zsq hT _ _ hT.root h
theorem LJ.link {t : List Node} {o : Opn} (h : LJ t (fun _ => 0)) (hT : TInv t 1) : LJ (vR t o).1 (fun _ => 0) := by
 unfold vR
 split
 ·exact h
 ·rename_i h1
  split
  ·exact h
  ·rename_i h2
   split
   ·exact h
   ·rename_i h3
    split
    ·exact h
    ·rename_i h4
     have hd := kB (t := t) (s := o.b) (by simpa using h3)
     have hfresh := z0j (hT.inv.ge2 (zK t o.b).1) (Int.not_le.1 h4)
     have hk := h.hasK (vN (h.toTold hT) (s := o.a) (by simpa using h1))
     generalize (zH t o.a).1 = r at *
     have hr := z0u hk
     have hne : (zK t o.b).1 ≠ r := fun hh => by rw [hh] at hd; exact h2 hd
     have hmi : (more (getN t r)).ino = r := hr
     have hgd : getN (qT t (more (getN t r))) (zK t o.b).1 = getN t (zK t o.b).1 := by
      rw [jF h.srt.uniq]
      unfold upd
      rw [hmi, if_neg hne]
     have h5 : LJ (qT t (more (getN t r))) (fun x => if r = x then 1 else 0) := h.with hk (by rw [hmi]; rfl) (fun _ => h.fil r h2)
      (fun x hx => by rw [hmi] at hx; exact if_neg fun hh => hx hh.symm) (fun n1 => by
       rw [hmi] at n1 ⊢
       rw [if_pos rfl]
       show (getN t r).links + 1 = _
       rw [h.lnk r hk n1]; omega)
     have h6 := h5.put (d0 := (zK t o.b).1) (s := (zK t o.b).2.1) (i := r) (by rw [hgd]; exact hd) (by rw [hgd]; exact hfresh) (by
      rw [jF h.srt.uniq]
      unfold upd
      rw [hmi, if_pos rfl]
      exact hk)
     exact h6.congr fun x => by simp
theorem LJ.bytes {t : List Node} {o : Opn} (h : LJ t (fun _ => 0)) (hT : TInv t 1) : LJ (wC t o).1 (fun _ => 0) := by
 unfold wC
 split
 ·exact h
 ·rename_i h1
  have hk := h.hasK (vN (h.toTold hT) (s := o.a) (by simpa using h1))
  generalize (zH t o.a).1 = r at *
  have hr := z0u hk
  have go : ∀ m : Node, m.ino = (getN t r).ino → m.kind = (getN t r).kind → m.links = (getN t r).links → m.names = (getN t r).names → LJ (qT t m) (fun _ => 0) := fun m e1 e2 e3 e4 =>
   h.with (by rw [e2]; exact hk) (by rw [e4, e1, hr]) (fun h2 => by rw [e4]; exact h.fil r (by rw [← e2]; exact h2)) (fun _ _ => rfl) (fun n1 => by
    rw [e1, hr] at n1 ⊢
    rw [e3]; exact h.lnk r hk n1)
  unfold z47
  repeat' split
  all_goals first | exact h | exact go _ rfl rfl rfl rfl
theorem LJ.remove {t : List Node} {o : Opn} (h : LJ t (fun _ => 0)) (hT : TInv t 1) (hdo : o.does = 4 ∨ o.does = 5) : LJ (kU t o).1 (fun _ => 0) := by
 unfold kU
 split
 ·exact h
 ·rename_i h1
  split
  ·exact h
  ·rename_i h2
   have hd := kB (t := t) (s := o.a) (by simpa using h1)
   generalize zK t o.a = w at *
   obtain ⟨e0, he0, hs0, hi0⟩ := vM (l := (getN t w.1).names) (s := w.2.1) (by omega)
   have hge : 2 ≤ qQ (getN t w.1).names w.2.1 := by rw [← hi0]; exact hT.inv.ge2 _ e0 he0
   have hk0 : (getN t (qQ (getN t w.1).names w.2.1)).kind ≠ 0 := by rw [← hi0]; exact h.told he0
   generalize qQ (getN t w.1).names w.2.1 = ino at *
   split
   ·exact h
   ·rename_i h3
    split
    ·exact h
    ·rename_i h4
     split
     ·exact h
     ·rename_i h5
      have hn : (getN t ino).names = [] := by
       rcases hdo with d4 | d5
       ·exact h.fil _ fun hh => h3 ⟨d4, hh⟩
       ·have : ¬ 0 < (getN t ino).names.length := fun hh => h5 ⟨d5, hh⟩
        exact List.length_eq_zero_iff.1 (by omega)
      have hne : ino ≠ w.1 := fun hh => by rw [← hh, hn] at he0; cases he0
      have hgi : getN (zU t w.1 w.2.1) ino = getN t ino := by rw [vS h.srt.uniq hd, if_neg hne]
      have hD := h.drop (i := ino) (s := w.2.1) hd ⟨e0, he0, hs0, hi0⟩
      have hL := hD.loses (i := ino) (by rw [hgi]; exact hk0) (by rw [hgi]; exact hn) (by omega) (by simp)
      exact hL.congr fun x => by
       by_cases e : x = ino
       ·simp [e]
       ·have : ¬ ino = x := fun hh => e hh.symm
        simp [e, this]
theorem LJ.rename {t : List Node} {o : Opn} (h : LJ t (fun _ => 0)) (hT : TInv t 1) : LJ (kT t o).1 (fun _ => 0) := by
 unfold kT
 split
 ·exact h
 ·rename_i h1
  split
  ·exact h
  ·rename_i h2
   split
   ·exact h
   ·rename_i h3
    have hf := kB (t := t) (s := o.a) (by simpa using h1)
    have hd := kB (t := t) (s := o.b) (by simpa using h3)
    generalize zK t o.a = w at *
    generalize zK t o.b = v at *
    obtain ⟨f, old, _⟩ := w
    obtain ⟨d, s, _⟩ := v
    simp only at *
    obtain ⟨e0, he0, hs0, hi0⟩ := vM (l := (getN t f).names) (s := old) (by omega)
    have hk0 : (getN t (qQ (getN t f).names old)).kind ≠ 0 := by rw [← hi0]; exact h.told he0
    have hwas : ∀ e ∈ (getN t f).names, e.name = old → e.ino = qQ (getN t f).names old := fun e he hs => by
     rw [← hi0]; exact hT.inv.un _ e he e0 he0 (hs.trans hs0.symm)
    generalize qQ (getN t f).names old = ino at *
    unfold z39
    split
    ·exact h
    ·rename_i h4
     split
     ·exact h
     ·split
      ·exact h
      ·rename_i h6
       split
       ·exact h
       ·rename_i h7
        unfold renamed
        have main : ∀ u : List Node, LJ u (fun _ => 0) → (getN u f).kind = 2 → (getN u d).kind = 2 → (∃ e ∈ (getN u f).names, e.name = old ∧ e.ino = ino) → (∀ e ∈ (getN u d).names, e.name ≠ s) → (getN u ino).kind ≠ 0 → (getN u ino).kind = (getN t ino).kind → LJ (if (getN t ino).kind = 2 then qT (putN (zU u f old) d s ino) (moved (getN (putN (zU u f old) d s ino) ino) d) else putN (zU u f old) d s ino) (fun _ => 0) := fun u hu kf kd nf nd ki kt => by
         have hD := hu.drop (i := ino) (s := old) kf nf
         have hP := (hD.put (d0 := d) (s := s) (i := ino) (by rw [(qZ hu.srt.uniq kf).1]; exact kd) (fun e he => nd e ((z1k hu.srt.uniq kf) e he).1) (by rw [(qZ hu.srt.uniq kf).1]; exact ki)).congr (d' := fun _ => 0) (fun x => by omega)
         split
         ·rename_i hk
          have hki : (getN (putN (zU u f old) d s ino) ino).kind = 2 := by
           rw [(z8a hD.srt.uniq (by rw [(qZ hu.srt.uniq kf).1]; exact kd)).1, (qZ hu.srt.uniq kf).1, kt]; exact hk
          generalize putN (zU u f old) d s ino = p at *
          have hin : (moved (getN p ino) d).ino = ino := jH hki
          refine hP.with (by show (getN p ino).kind ≠ 0; rw [hki]; decide) (by rw [hin]; rfl) (fun hh => absurd hki hh) (fun _ _ => rfl) (fun n1 => ?_)
          rw [hin] at n1 ⊢
          exact hP.lnk ino (by rw [hki]; decide) n1
         ·exact hP
        by_cases hw : 0 ≤ qQ (getN t d).names s
        ·simp only [if_pos hw]
         have hkw : (getN t (qQ (getN t d).names s)).kind ≠ 2 := fun hh => h7 ⟨hw, hh⟩
         obtain ⟨e1, he1, hs1, hi1⟩ := vM hw
         have hk1 : (getN t (qQ (getN t d).names s)).kind ≠ 0 := by rw [← hi1]; exact h.told he1
         have hg1 : 2 ≤ qQ (getN t d).names s := by rw [← hi1]; exact hT.inv.ge2 _ e1 he1
         generalize qQ (getN t d).names s = was at *
         have hnf : f ≠ was := fun hh => by rw [hh] at hf; exact hkw hf
         have hnd : d ≠ was := fun hh => by rw [hh] at hd; exact hkw hd
         have hni : ino ≠ was := fun hh => h4 hh.symm
         have hgw : getN (zU t d s) was = getN t was := by rw [vS h.srt.uniq hd, if_neg (fun hh => hnd hh.symm)]
         have hD := h.drop (i := was) (s := s) hd ⟨e1, he1, hs1, hi1⟩
         have hL := (hD.loses (i := was) (by rw [hgw]; exact hk1) (by rw [hgw]; exact h.fil _ hkw) (by omega) (by simp)).congr (d' := fun _ => 0) (fun x => by
          by_cases e : x = was
          ·simp [e]
          ·have : ¬ was = x := fun hh => e hh.symm
           simp [e, this])
         have hgl : ∀ y, y ≠ was → getN (jN (zU t d s) was) y = getN (zU t d s) y := fun y hy => z0o hD.srt.uniq hy
         refine main _ hL ?_ ?_ ?_ ?_ ?_ ?_
         ·rw [hgl f hnf, (qZ h.srt.uniq hd).1]; exact hf
         ·rw [hgl d hnd, (qZ h.srt.uniq hd).1]; exact hd
         ·rw [hgl f hnf, vS h.srt.uniq hd]
          split
          ·rename_i hfd
           subst hfd
           refine ⟨e0, List.mem_filter.2 ⟨he0, ?_⟩, hs0, hi0⟩
           rw [decide_eq_true_eq]
           intro hh
           have := hT.inv.un _ e0 he0 e1 he1 (hh.trans hs1.symm)
           exact hni (hi0.symm.trans (this.trans hi1))
          ·exact ⟨e0, he0, hs0, hi0⟩
         ·rw [hgl d hnd]; exact fun e he => ((z1k h.srt.uniq hd) e he).2 rfl
         ·rw [hgl ino hni, (qZ h.srt.uniq hd).1]; exact hk0
         ·rw [hgl ino hni, (qZ h.srt.uniq hd).1]
        ·simp only [if_neg hw]
         exact main t h hf hd ⟨e0, he0, hs0, hi0⟩ (z0j (hT.inv.ge2 d) (Int.not_le.1 hw)) hk0 rfl
theorem LJ.step {t : List Node} {o : Opn} (h : LJ t (fun _ => 0)) (hT : TInv t 1) : LJ (qR t o).1 (fun _ => 0) := by
 unfold qR
 split
 ·exact h
 ·rename_i hm
  have := of_decide_eq_true ((Bool.not_eq_false _).mp hm)
  repeat' split
  ·exact h.make hT
  ·exact h.link hT
  ·exact h.remove hT (by omega)
  ·exact h.rename hT
  ·exact h.bytes hT
  ·exact h
  ·exact h
theorem LJ.play (l : List Opn) : LJ (zjp l) (fun _ => 0) := by
 have : ∀ (l : List Opn) (t : List Node), TInv t 1 → LJ t (fun _ => 0) → LJ (l.foldl (fun t o => (qR t o).1) t) (fun _ => 0) := fun l => by
  induction l with
  | nil => exact fun t _ h => h
  | cons o r ih => exact fun t hT h => ih _ hT.step (h.step hT)
 exact this l newN TInv.new LJ.new
end Go.Proofs.Ytghllhghboaagaa
end
