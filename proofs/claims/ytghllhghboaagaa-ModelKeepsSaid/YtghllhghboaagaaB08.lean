/- The program's paths: what stands between strokes, route.Split, route.Up. -/
import Derived.Test.YtghllhghboaagaaB07
set_option linter.unusedVariables false
set_option linter.unusedSimpArgs false
set_option maxRecDepth 100000
set_option maxHeartbeats 4000000
set_option linter.defProp false
section
namespace Go.Proofs.Ytghllhghboaagaa
open Go.Vm
def zak (S : zA) : V → Option Rs
 | .it id => match S[id]? with
  | some (.iter s pos) => if pos < s.length then some (.val (.tup [.d (.bool true), .d (.int .i64 pos), .d (.int .i32 (Utf8.decode ⟨s.toArray⟩ pos).1)]) (S.set id (.iter s (pos + (Utf8.decode ⟨s.toArray⟩ pos).2))) 3) else some (.val (.tup [.d (.bool false)]) S 3)
  | _ => none
 | _ => none
def zmx (S : zA) : V → Option Rs
 | .d (.str s) => some (.val (.it S.length) (S ++ [.iter s 0]) 2)
 | _ => none
theorem za9 {C : Cfg} {ops : Array Oper} {dst : Option Tmp} {ty : TypeId} {pos : String} {after : Array Edge} {l : List Oper} {T : List V} {S : zA} {F : Dfs} {Q : Post} {it : Operand} : WpL C ops (⟨dst, .next it true, ty, pos, after, none⟩ :: l) T S F Q = WpR C ops dst l T S F Q (zak S (zG T it)) := by
 rw [z0q rfl]
 simp only [opV, zak]
 cases zG T it <;> rfl
theorem znc {ops : Array Oper} {dst : Option Tmp} {ty : TypeId} {pos : String} {after : Array Edge} {l : List Oper} {T : List V} {S : zA} {F : Dfs} {Q : Post} {x : Operand} : WpL cfg ops (⟨dst, .range 9 x, ty, pos, after, none⟩ :: l) T S F Q = WpR cfg ops dst l T S F Q (zmx S (zG T x)) := by
 rw [z0q rfl]
 simp only [opV, hP, Try.underlying9, zmx]
 cases zG T x with
 | d y => cases y <;> rfl
 | _ => rfl
theorem zj4 {S : zA} {s : List UInt8} : zmx S (.d (.str s)) = some (.val (.it S.length) (S ++ [.iter s 0]) 2) := rfl
theorem znk {P : Program} {S : zA} {t : TypeId} {s : List UInt8} {lo : Int} (hu : P.underlying t = some .string) (h0 : 0 ≤ lo) (h1 : lo ≤ s.length) :
  jM P S t (.d (.str s)) (some (.d (.int .i64 lo))) none = some (.d (.str (s.drop lo.toNat))) := by
 simp only [jM, hu, z3e (n := s.length) (d := 0) (i := lo) h0 (by omega), z1l, List.take_length]
def spl : List UInt8 → List UInt8 → List (List UInt8)
 | part, [] => [part]
 | part, c :: r => if c = 47 then part :: spl [] r else spl (part ++ [c]) r
theorem zig : ∀ (w : Nat) (s part : List UInt8), w ≤ s.length → (∀ k, k < w → s.getD k 0 ≠ 47) → spl part s = spl (part ++ s.take w) (s.drop w)
 | 0, s, part, _, _ => by simp
 | w + 1, [], part, h, _ => by simp at h
 | w + 1, c :: r, part, h, hk => by
  have h0 : c ≠ 47 := hk 0 (by omega)
  have := zig w r (part ++ [c]) (by simpa using h) (fun k hkw => by have := hk (k + 1) (by omega); simpa using this)
  simp only [spl, h0, if_false, List.take_succ_cons, List.drop_succ_cons]
  rw [this, List.append_assoc]
  rfl
theorem zag : ∀ (s part : List UInt8), (spl part s).length ≤ s.length + 1
 | [], part => by simp [spl]
 | c :: r, part => by
  unfold spl
  split
  ·have := zag r []; simp; omega
  ·have := zag r (part ++ [c]); simp; omega
theorem zmg (s : List UInt8) (hl : s.length < 1000000) (total : List (List UInt8)) (ht : total.length < 1000000) (R : Post) (g2 : V) : ∀ (k p b : Nat) (xs : List (List UInt8)) (S : zA) (v3 v5 v6 g9 gH gO gI gD gA gE gF gG gB gC gJ gK gN gL gM gP gQ gU gR gS gT gV gW gX : V), s.length - p ≤ k → b ≤ p → 1 ≤ p → p ≤ s.length → xs ++ spl ((s.take p).drop b) (s.drop p) = total → OwnS S v3 9 (xs.map fun x => .d (.str x)) → S[0]? = some (.iter s p) →
 (∀ S v3 (b' : Nat) ys v5 v6 g9 gH gO gI gD gA gE gF gG gB gC gJ gK gN gL gM gP gQ gU gR gS gT gV gW gX, b' ≤ s.length → ys ++ [s.drop b'] = total → OwnS S v3 9 (ys.map fun x => .d (.str x)) → R (.exit 0) ((.d (.str s)) :: (.tup []) :: g2 :: v3 :: (.d (.int .i64 b')) :: v5 :: v6 :: (.d (.str s)) :: (.it 0) :: g9 :: gH :: gO :: gI :: gD :: gA :: gE :: gF :: gG :: gB :: gC :: gJ :: gK :: gN :: gL :: gM :: gP :: gQ :: gU :: gR :: gS :: gT :: gV :: gW :: gX :: []) S []) →
 Wp cfg (.loop (lpOf (Try.f113.body.getD .skip) 0)) ((.d (.str s)) :: (.tup []) :: g2 :: v3 :: (.d (.int .i64 b)) :: v5 :: v6 :: (.d (.str s)) :: (.it 0) :: g9 :: gH :: gO :: gI :: gD :: gA :: gE :: gF :: gG :: gB :: gC :: gJ :: gK :: gN :: gL :: gM :: gP :: gQ :: gU :: gR :: gS :: gT :: gV :: gW :: gX :: []) S [] R := by
 intro k
 induction k with
 | zero =>
  intro p b xs S v3 v5 v6 g9 gH gO gI gD gA gE gF gG gB gC gJ gK gN gL gM gP gQ gU gR gS gT gV gW gX hk hb hp hpl hx ho hS hR
  have hpe : p = s.length := by omega
  have hnx : zak S (.it 0) = some (.val (.tup [.d (.bool false)]) S 3) := by simp only [zak, hS]; rw [if_neg (by omega)]
  rw [qL]
  refine zU ?_
  conv => arg 2; whnf
  simp (maxSteps:=1000000) (disch:=first|assumption|omega|rfl) only [↓gp, gc, Nat.reduceAdd, ↓za9, hnx]
  rw [hpe, List.drop_length, List.take_length] at hx
  exact hR _ _ b xs _ _ _ _ _ _ _ _ _ _ _ _ _ _ _ _ _ _ _ _ _ _ _ _ _ _ _ (by omega) hx ho
 | succ k ih =>
  intro p b xs S v3 v5 v6 g9 gH gO gI gD gA gE gF gG gB gC gJ gK gN gL gM gP gQ gU gR gS gT gV gW gX hk hb hp hpl hx ho hS hR
  by_cases hlt : p < s.length
  ·have hnx : zak S (.it 0) = some (.val (.tup [.d (.bool true), .d (.int .i64 p), .d (.int .i32 (Utf8.decode ⟨s.toArray⟩ p).1)]) (S.set 0 (.iter s (p + (Utf8.decode ⟨s.toArray⟩ p).2))) 3) := by simp only [zak, hS]; rw [if_pos hlt]
   obtain ⟨h1, h2, h3, h4, h5⟩ := zij s p hlt
   have hdr : s.drop p = s[p] :: s.drop (p + 1) := List.drop_eq_getElem_cons hlt
   have hna : NotAt v3 0 := zu7 ho (fun o ho' xs e he => by rw [hS] at ho'; cases ho'; cases he)
   rw [qL]
   refine zU ?_
   conv => arg 2; whnf
   by_cases c47 : s[p] = 47
   ·have hd := h3 c47
    rw [hd] at hnx
    have hc : ((((47, 1) : Nat × Nat).1 : Nat) : Int) = 47 := rfl
    have hsl := zn7 (S := S.set 0 (.iter s (p + 1))) (P := Try.prog) (t := 9) (s := s) (lo := (b : Int)) (hi := (p : Int)) Try.underlying9 (by omega) (by omega) (by omega)
    rw [Int.toNat_natCast, Int.toNat_natCast] at hsl
    have hxl : xs.length < 1000000 := by have := congrArg List.length hx; simp at this; omega
    obtain ⟨v', S', c, ha, ho', hfr, hlen⟩ := ap42 ((s.take p).drop b) (wN (o := .iter s (p + 1)) ho hna) hxl
    have hp0 : ((p : Int)) > 0 := by omega
    simp (maxSteps:=1000000) (disch:=first|assumption|omega|rfl) only [↓gp, gc, Nat.reduceAdd, ↓za9, hnx, hsl, ha]
    have hS' := (hfr 0 _ (jL (o' := .iter s (p + 1)) hS) hna).1
    refine ih (p + 1) (p + 1) (xs ++ [(s.take p).drop b]) S' v' _ _ _ _ _ _ _ _ _ _ _ _ _ _ _ _ _ _ _ _ _ _ _ _ _ _ _ (by omega) (Nat.le_refl _) (by omega) (by omega) ?_ ho' hS' hR
    rw [← hx, hdr, List.append_assoc]
    simp only [spl, c47, if_true]
    rw [show (s.take (p + 1)).drop (p + 1) = [] from List.drop_eq_nil_of_le (by rw [List.length_take]; omega)]
    rfl
   ·have hne := h4 c47
    generalize Utf8.decode ⟨s.toArray⟩ p = d at *
    have hne' : ¬ ((d.1 : Int)) = 47 := by omega
    simp (maxSteps:=1000000) (disch:=first|assumption|omega|rfl) only [↓gp, gc, Nat.reduceAdd, ↓za9, hnx]
    refine ih (p + d.2) b xs _ v3 _ _ _ _ _ _ _ _ _ _ _ _ _ _ _ _ _ _ _ _ _ _ _ _ _ _ _ (by omega) (by omega) (by omega) (by omega) ?_ (wN ho hna) (jL hS) hR
    rw [← hx, zig d.2 (s.drop p) _ (by rw [List.length_drop]; omega) (fun k hk => ?_)]
    ·rw [List.drop_drop, ← List.drop_append_of_le_length (by rw [List.length_take]; omega), ← List.take_add]
    ·rw [List.getD_eq_getElem?_getD, List.getElem?_drop, ← List.getD_eq_getElem?_getD]
     by_cases hk0 : k = 0
     ·rw [hk0, Nat.add_zero, List.getD_eq_getElem?_getD, List.getElem?_eq_getElem hlt]; exact c47
     ·exact h5 (p + k) (by omega) (by omega)
  ·have hpe : p = s.length := by omega
   have hnx : zak S (.it 0) = some (.val (.tup [.d (.bool false)]) S 3) := by simp only [zak, hS]; rw [if_neg (by omega)]
   rw [qL]
   refine zU ?_
   conv => arg 2; whnf
   simp (maxSteps:=1000000) (disch:=first|assumption|omega|rfl) only [↓gp, gc, Nat.reduceAdd, ↓za9, hnx]
   rw [hpe, List.drop_length, List.take_length] at hx
   exact hR _ _ b xs _ _ _ _ _ _ _ _ _ _ _ _ _ _ _ _ _ _ _ _ _ _ _ _ _ _ _ (by omega) hx ho
theorem zji (r : List UInt8) (hl : r.length < 900000) : Ev cfg 113 [.str (47 :: r)] (.ret (.d (.sl ((spl [] r).map .str)))) := by
 refine kR rfl rfl zs7 ?_
 show Wp cfg (Try.f113.body.getD .skip) ((.d (.str (47 :: r))) :: uZ (uZ (uZ ((.tup []) :: (.tup []) :: (.tup []) :: [])))) [] [] _
 unfold uZ
 conv => arg 2; whnf
 have hlt : 0 < (47 :: r).length := by simp
 obtain ⟨_, _, h3, _, _⟩ := zij (47 :: r) 0 hlt
 have hd := h3 rfl
 have hnx : zak [.iter (47 :: r) 0] (.it 0) = some (.val (.tup [.d (.bool true), .d (.int .i64 0), .d (.int .i32 47)]) [.iter (47 :: r) 1] 3) := by
  simp only [zak]
  rw [show ([Ob.iter (47 :: r) 0] : zA)[0]? = some (.iter (47 :: r) 0) from rfl]
  simp only
  rw [if_pos hlt, hd]
  rfl
 simp (maxSteps:=1000000) (disch:=first|assumption|omega|rfl) only [↓gp, gc, Nat.reduceAdd, ↓znc, zj4]
 rw [qL]
 refine zU ?_
 conv => arg 2; whnf
 simp (maxSteps:=1000000) (disch:=first|assumption|omega|rfl) only [↓gp, gc, Nat.reduceAdd, ↓za9, hnx, decide_true, decide_false]
 refine zmg (47 :: r) (by simp; omega) (spl [] r) (by have := zag r []; omega) _ _ (47 :: r).length 1 1 [] _ _ _ _ _ _ _ _ _ _ _ _ _ _ _ _ _ _ _ _ _ _ _ _ _ _ _ _ _ (by omega) (Nat.le_refl _) (Nat.le_refl _) (by simp) ?_ OwnS.nil rfl ?_
 ·simp
 ·intro S v3 b' ys v5 v6 g9 gH gO gI gD gA gE gF gG gB gC gJ gK gN gL gM gP gQ gU gR gS gT gV gW gX hb hy ho
  have hsl := znk (S := S) (P := Try.prog) (t := 9) (s := 47 :: r) (lo := (b' : Int)) Try.underlying9 (by omega) (by omega)
  rw [Int.toNat_natCast] at hsl
  have hyl : ys.length < 1000000 := by
   have h1 := congrArg List.length hy
   have h2 := zag r []
   simp at h1; omega
  obtain ⟨v', S', c, ha, ho', hfr, hlen⟩ := ap42 ((47 :: r).drop b') ho hyl
  simp (maxSteps:=1000000) (disch:=first|assumption|omega|rfl) only [↓gp, gc, Nat.reduceAdd, hsl, ha]
  rw [← hy]
  exact zM rfl (z2j ho') (z4t ho')
theorem ze7 {ops : Array Oper} {dst : Option Tmp} {k : List Oper} {T : List V} {S : zA} {F : Dfs} {Q : Post} {r : List UInt8} (hl : r.length < 900000) :
  WpR cfg ops dst k T S F Q (some (.enter 113 [.d (.str (47 :: r))])) = WpL cfg ops k (putT T dst (.d (.sl ((spl [] r).map .str)))) S F Q :=
 zV (ds := [.str (47 :: r)]) rfl (zji r hl)
theorem z96 : ∀ (r part : List UInt8), kU part r = if [] ∈ spl part r then none else some (spl part r)
 | [], part => by
  by_cases hp : part = []
  ·simp [kU, spl, hp]
  ·have : ¬ ([] : List UInt8) = part := fun h => hp h.symm
   simp [kU, spl, hp, this]
 | c :: r, part => by
  by_cases hc : c = 47
  ·by_cases hp : part = []
   ·simp [kU, spl, hp, hc]
   ·have hp' : ¬ ([] : List UInt8) = part := fun h => hp h.symm
    simp only [kU, spl, hc, hp, if_true, if_false, z96 r [], List.mem_cons, hp', false_or]
    split <;> rfl
  ·simp only [kU, spl, hc, if_false]
   exact z96 r _
theorem zhj : ∀ (r part x : List UInt8), x ∈ spl part r → x.length ≤ part.length + r.length
 | [], part, x, h => by simp [spl] at h; subst h; simp
 | c :: r, part, x, h => by
  unfold spl at h
  split at h
  ·rcases List.mem_cons.1 h with rfl | h
   ·simp
   ·have := zhj r [] x h; simp at this ⊢; omega
  ·have := zhj r _ x h; simp at this ⊢; omega
theorem zu9 (l : List (List UInt8)) (hl : l.length < 1000000) (R : Post) (S : zA) (g0 g1 g2 g3 g4 : V) : ∀ (k i : Nat) (g5 g6 g7 g8 g9 gH gO gI gD gA gE gF gG gB gC gJ gK gN gL gM gR gS gT gV gW gX gY gZ gf gg gh gi gj gk gm gn gr : V), l.length - i = k → i ≤ l.length →
 (∀ i' g5 g6 g7 g8 g9 gH gO gI gD gA gE gF gG gB gC gJ gK gN gL gM gR gS gT gV gW gX gY gZ gf gg gh gi gj gk gm gn gr, [] ∉ l.drop i → R (.exit 0) (g0 :: g1 :: g2 :: g3 :: g4 :: g5 :: g6 :: g7 :: g8 :: g9 :: gH :: gO :: gI :: gD :: gA :: gE :: gF :: gG :: gB :: gC :: gJ :: gK :: gN :: gL :: gM :: (.d (.sl (l.map .str))) :: (.d (.int .i64 l.length)) :: i' :: gR :: gS :: gT :: gV :: gW :: gX :: gY :: gZ :: gf :: gg :: gh :: gi :: gj :: gk :: gm :: gn :: gr :: []) S []) →
 (∀ i' g5 g6 g7 g8 g9 gH gO gI gD gA gE gF gG gB gC gJ gK gN gL gM gR gS gT gV gW gX gY gZ gf gg gh gi gj gk gm gn gr, [] ∈ l.drop i → R .ret (g0 :: g1 :: (.ts []) :: (.d (.int .i64 15)) :: g4 :: g5 :: g6 :: g7 :: g8 :: g9 :: gH :: gO :: gI :: gD :: gA :: gE :: gF :: gG :: gB :: gC :: gJ :: gK :: gN :: gL :: gM :: (.d (.sl (l.map .str))) :: (.d (.int .i64 l.length)) :: i' :: gR :: gS :: gT :: gV :: gW :: gX :: gY :: gZ :: gf :: gg :: gh :: gi :: gj :: gk :: gm :: gn :: gr :: []) S []) →
 Wp cfg (.loop (lpOf (Try.f97.body.getD .skip) 0)) (g0 :: g1 :: g2 :: g3 :: g4 :: g5 :: g6 :: g7 :: g8 :: g9 :: gH :: gO :: gI :: gD :: gA :: gE :: gF :: gG :: gB :: gC :: gJ :: gK :: gN :: gL :: gM :: (.d (.sl (l.map .str))) :: (.d (.int .i64 l.length)) :: (.d (.int .i64 i)) :: gR :: gS :: gT :: gV :: gW :: gX :: gY :: gZ :: gf :: gg :: gh :: gi :: gj :: gk :: gm :: gn :: gr :: []) S [] R := by
 intro k
 induction k with
 | zero =>
  intro i g5 g6 g7 g8 g9 gH gO gI gD gA gE gF gG gB gC gJ gK gN gL gM gR gS gT gV gW gX gY gZ gf gg gh gi gj gk gm gn gr hk hi hE hR
  have hie : i = l.length := by omega
  rw [qL]
  refine zU ?_
  conv => arg 2; whnf
  simp (maxSteps:=1000000) (disch:=first|assumption|omega|rfl) only [↓gp, gc, Nat.reduceAdd]
  exact hE _ _ _ _ _ _ _ _ _ _ _ _ _ _ _ _ _ _ _ _ _ _ _ _ _ _ _ _ _ _ _ _ _ _ _ _ _ _ (by rw [hie, List.drop_length]; simp)
 | succ k ih =>
  intro i g5 g6 g7 g8 g9 gH gO gI gD gA gE gF gG gB gC gJ gK gN gL gM gR gS gT gV gW gX gY gZ gf gg gh gi gj gk gm gn gr hk hi hE hR
  have hlt : i < l.length := by omega
  have hdr : l.drop i = l[i] :: l.drop (i + 1) := List.drop_eq_getElem_cons hlt
  rw [hdr] at hE hR
  rw [qL]
  refine zU ?_
  conv => arg 2; whnf
  by_cases hc : l[i] = []
  ·simp (maxSteps:=1000000) (disch:=first|assumption|omega|rfl) only [↓gp, gc, Nat.reduceAdd]
   exact hR _ _ _ _ _ _ _ _ _ _ _ _ _ _ _ _ _ _ _ _ _ _ _ _ _ _ _ _ _ _ _ _ _ _ _ _ _ _ (by rw [hc]; exact List.mem_cons_self)
  ·have hc' : ¬ [] = l[i] := fun h => hc h.symm
   simp (maxSteps:=1000000) (disch:=first|assumption|omega|rfl) only [↓gp, gc, Nat.reduceAdd]
   exact ih (i + 1) _ _ _ _ _ _ _ _ _ _ _ _ _ _ _ _ _ _ _ _ _ _ _ _ _ _ _ _ _ _ _ _ _ _ _ _ _ (by omega) (by omega) (fun i' g5 g6 g7 g8 g9 gH gO gI gD gA gE gF gG gB gC gJ gK gN gL gM gR gS gT gV gW gX gY gZ gf gg gh gi gj gk gm gn gr h => hE i' g5 g6 g7 g8 g9 gH gO gI gD gA gE gF gG gB gC gJ gK gN gL gM gR gS gT gV gW gX gY gZ gf gg gh gi gj gk gm gn gr (by rw [List.mem_cons]; exact fun hh => hh.elim hc' h)) (fun i' g5 g6 g7 g8 g9 gH gO gI gD gA gE gF gG gB gC gJ gK gN gL gM gR gS gT gV gW gX gY gZ gf gg gh gi gj gk gm gn gr h => hR i' g5 g6 g7 g8 g9 gH gO gI gD gA gE gF gG gB gC gJ gK gN gL gM gR gS gT gV gW gX gY gZ gf gg gh gi gj gk gm gn gr (List.mem_cons_of_mem _ h))
theorem zux (l : List (List UInt8)) (hl : l.length < 1000000) (hm : ∀ x ∈ l, x.length < 1000000) (R : Post) (S : zA) (g0 g1 g2 g3 g4 : V) : ∀ (k i : Nat) (g5 g6 g7 g8 g9 gH gO gI gD gA gE gF gG gB gC gJ gK gN gL gM gP gQ gU gR gS gT gV gW gX gg gh gi gj gk gm gn gr : V), l.length - i = k → i ≤ l.length →
 (∀ i' g5 g6 g7 g8 g9 gH gO gI gD gA gE gF gG gB gC gJ gK gN gL gM gP gQ gU gR gS gT gV gW gX gg gh gi gj gk gm gn gr, (l.drop i).all wR = true → R (.exit 2) (g0 :: g1 :: g2 :: g3 :: g4 :: g5 :: g6 :: g7 :: g8 :: g9 :: gH :: gO :: gI :: gD :: gA :: gE :: gF :: gG :: gB :: gC :: gJ :: gK :: gN :: gL :: gM :: gP :: gQ :: gU :: gR :: gS :: gT :: gV :: gW :: gX :: (.d (.sl (l.map .str))) :: (.d (.int .i64 l.length)) :: i' :: gg :: gh :: gi :: gj :: gk :: gm :: gn :: gr :: []) S []) →
 (∀ i' g5 g6 g7 g8 g9 gH gO gI gD gA gE gF gG gB gC gJ gK gN gL gM gP gQ gU gR gS gT gV gW gX gg gh gi gj gk gm gn gr, (l.drop i).all wR = false → R .ret (g0 :: g1 :: (.ts []) :: (.d (.int .i64 3)) :: g4 :: g5 :: g6 :: g7 :: g8 :: g9 :: gH :: gO :: gI :: gD :: gA :: gE :: gF :: gG :: gB :: gC :: gJ :: gK :: gN :: gL :: gM :: gP :: gQ :: gU :: gR :: gS :: gT :: gV :: gW :: gX :: (.d (.sl (l.map .str))) :: (.d (.int .i64 l.length)) :: i' :: gg :: gh :: gi :: gj :: gk :: gm :: gn :: gr :: []) S []) →
 Wp cfg (.loop (lpOf (Try.f97.body.getD .skip) 2)) (g0 :: g1 :: g2 :: g3 :: g4 :: g5 :: g6 :: g7 :: g8 :: g9 :: gH :: gO :: gI :: gD :: gA :: gE :: gF :: gG :: gB :: gC :: gJ :: gK :: gN :: gL :: gM :: gP :: gQ :: gU :: gR :: gS :: gT :: gV :: gW :: gX :: (.d (.sl (l.map .str))) :: (.d (.int .i64 l.length)) :: (.d (.int .i64 i)) :: gg :: gh :: gi :: gj :: gk :: gm :: gn :: gr :: []) S [] R := by
 intro k
 induction k with
 | zero =>
  intro i g5 g6 g7 g8 g9 gH gO gI gD gA gE gF gG gB gC gJ gK gN gL gM gP gQ gU gR gS gT gV gW gX gg gh gi gj gk gm gn gr hk hi hE hR
  have hie : i = l.length := by omega
  rw [qL]
  refine zU ?_
  conv => arg 2; whnf
  simp (maxSteps:=1000000) (disch:=first|assumption|omega|rfl) only [↓gp, gc, Nat.reduceAdd]
  exact hE _ _ _ _ _ _ _ _ _ _ _ _ _ _ _ _ _ _ _ _ _ _ _ _ _ _ _ _ _ _ _ _ _ _ _ _ _ _ (by rw [hie, List.drop_length]; rfl)
 | succ k ih =>
  intro i g5 g6 g7 g8 g9 gH gO gI gD gA gE gF gG gB gC gJ gK gN gL gM gP gQ gU gR gS gT gV gW gX gg gh gi gj gk gm gn gr hk hi hE hR
  have hlt : i < l.length := by omega
  have hdr : l.drop i = l[i] :: l.drop (i + 1) := List.drop_eq_getElem_cons hlt
  rw [hdr, List.all_cons] at hE hR
  have hml := hm _ (List.getElem_mem hlt)
  rw [qL]
  refine zU ?_
  conv => arg 2; whnf
  cases hc : wR l[i] with
  | false =>
   have hn : ¬ z57 l[i] = 0 := by simp [z57, hc]
   simp (maxSteps:=1000000) (disch:=first|assumption|omega|rfl) only [↓gp, gc, Nat.reduceAdd, zbi]
   exact hR _ _ _ _ _ _ _ _ _ _ _ _ _ _ _ _ _ _ _ _ _ _ _ _ _ _ _ _ _ _ _ _ _ _ _ _ _ _ (by rw [hc]; rfl)
  | true =>
   have hn : z57 l[i] = 0 := by simp [z57, hc]
   rw [hc, Bool.true_and] at hE hR
   simp (maxSteps:=1000000) (disch:=first|assumption|omega|rfl) only [↓gp, gc, Nat.reduceAdd, zbi, hn]
   exact ih (i + 1) _ _ _ _ _ _ _ _ _ _ _ _ _ _ _ _ _ _ _ _ _ _ _ _ _ _ _ _ _ _ _ _ _ _ _ _ _ (by omega) (by omega) hE hR
theorem zeg (s : List UInt8) (hl : s.length < 900000) : Ev cfg 97 [.str s] (.ret (.tup [.d (.sl ((zL s).1.map .str)), .d (.int .i64 (zL s).2)])) := by
 refine kR rfl rfl zze ?_
 show Wp cfg (Try.f97.body.getD .skip) ((.d (.str s)) :: uZ (uZ (uZ (uZ ((.tup []) :: (.tup []) :: (.tup []) :: (.tup []) :: []))))) [] [] _
 unfold uZ
 conv => arg 2; whnf
 by_cases h0 : s = []
 ·subst h0
  simp (maxSteps:=1000000) (disch:=first|assumption|omega|rfl) only [↓gp, gc, Nat.reduceAdd, decide_true, decide_false]
  exact kM rfl rfl rfl rfl rfl rfl
 ·by_cases h1 : (s.length : Int) > 200
  ·have e : zL s = ([], 15) := by unfold zL; rw [if_pos (.inr (.inl (by omega)))]
   simp (maxSteps:=1000000) (disch:=first|assumption|omega|rfl) only [↓gp, gc, Nat.reduceAdd, decide_true, decide_false]
   rw [e]
   exact kM rfl rfl rfl rfl rfl rfl
  ·obtain ⟨c, r, rfl⟩ : ∃ c r, s = c :: r := by
    cases s with
    | nil => exact absurd rfl h0
    | cons c r => exact ⟨c, r, rfl⟩
   have hix : z4e Try.prog 9 (.d (.str (c :: r))) (.d (.int .i64 0)) = some (.d (.int .u8 c.toNat)) := zhf (i := 0) (s := c :: r) Try.underlying9 (by simp)
   have e47 : c = 47 ↔ (c.toNat : Int) = 47 := ⟨fun h => by rw [h]; rfl, fun h => UInt8.toNat_inj.1 (by show c.toNat = 47; omega)⟩
   by_cases h2 : (c.toNat : Int) = 47
   ·have hc : c = 47 := e47.2 h2
    subst hc
    by_cases h3 : r = []
    ·subst h3
     simp (maxSteps:=1000000) (disch:=first|assumption|omega|rfl) only [↓gp, gc, Nat.reduceAdd, decide_true, decide_false, hix]
     exact kM rfl rfl rfl rfl rfl rfl
    ·have h3' : ¬ (47 :: r) = [47] := fun h => h3 (by simpa using h)
     have hrl : r.length < 900000 := by simp at hl; omega
     have hsl := zag r []
     have hll : (spl [] r).length < 1000000 := by omega
     have e : zL (47 :: r) = match kU [] r with | none => ([], 15) | some l => if l.all wR then (l, 0) else ([], 3) := by
      unfold zL
      rw [if_neg (by simp at h1 ⊢; omega), if_neg (by intro h; exact h3 (by simpa using h))]
      rfl
     rw [z96] at e
     simp (maxSteps:=1000000) (disch:=first|assumption|omega|rfl) only [↓gp, gc, Nat.reduceAdd, decide_true, decide_false, hix, ze7]
     refine zu9 (spl [] r) hll _ _ _ _ _ _ _ (spl [] r).length 0 _ _ _ _ _ _ _ _ _ _ _ _ _ _ _ _ _ _ _ _ _ _ _ _ _ _ _ _ _ _ _ _ _ _ _ _ _ rfl (by omega) ?_ ?_
     ·intro i' g5 g6 g7 g8 g9 gH gO gI gD gA gE gF gG gB gC gJ gK gN gL gM gR gS gT gV gW gX gY gZ gf gg gh gi gj gk gm gn gr hne
      rw [List.drop_zero] at hne
      rw [if_neg hne] at e
      simp only at e
      simp (maxSteps:=1000000) (disch:=first|assumption|omega|rfl) only [↓gp, gc, Nat.reduceAdd, decide_true, decide_false]
      refine zux (spl [] r) hll (fun x hx => by have := zhj r [] x hx; simp at this; omega) _ _ _ _ _ _ _ (spl [] r).length 0 _ _ _ _ _ _ _ _ _ _ _ _ _ _ _ _ _ _ _ _ _ _ _ _ _ _ _ _ _ _ _ _ _ _ _ _ _ rfl (by omega) ?_ ?_
      ·intro i' g5 g6 g7 g8 g9 gH gO gI gD gA gE gF gG gB gC gJ gK gN gL gM gP gQ gU gR gS gT gV gW gX gg gh gi gj gk gm gn gr ha
       rw [List.drop_zero] at ha
       rw [if_pos ha] at e
       simp (maxSteps:=1000000) (disch:=first|assumption|omega|rfl) only [↓gp, gc, Nat.reduceAdd, decide_true, decide_false]
       rw [e]
       exact kM rfl rfl rfl rfl rfl rfl
      ·intro i' g5 g6 g7 g8 g9 gH gO gI gD gA gE gF gG gB gC gJ gK gN gL gM gP gQ gU gR gS gT gV gW gX gg gh gi gj gk gm gn gr ha
       rw [List.drop_zero] at ha
       rw [if_neg (by rw [ha]; exact Bool.noConfusion)] at e
       simp (maxSteps:=1000000) (disch:=first|assumption|omega|rfl) only [↓gp, gc, Nat.reduceAdd, decide_true, decide_false]
       rw [e]
       exact kM rfl rfl rfl rfl rfl rfl
     ·intro i' g5 g6 g7 g8 g9 gH gO gI gD gA gE gF gG gB gC gJ gK gN gL gM gR gS gT gV gW gX gY gZ gf gg gh gi gj gk gm gn gr hne
      rw [List.drop_zero] at hne
      rw [if_pos hne] at e
      simp (maxSteps:=1000000) (disch:=first|assumption|omega|rfl) only [↓gp, gc, Nat.reduceAdd, decide_true, decide_false]
      rw [e]
      exact kM rfl rfl rfl rfl rfl rfl
   ·have e : zL (c :: r) = ([], 15) := by
     unfold zL
     rw [if_pos (.inr (.inr (by simp; exact fun h => h2 (e47.1 h))))]
    simp (maxSteps:=1000000) (disch:=first|assumption|omega|rfl) only [↓gp, gc, Nat.reduceAdd, decide_true, decide_false, hix]
    rw [e]
    exact kM rfl rfl rfl rfl rfl rfl
theorem z0u {ops : Array Oper} {dst : Option Tmp} {k : List Oper} {T : List V} {S : zA} {F : Dfs} {Q : Post} {s : List UInt8} (hl : s.length < 900000) :
  WpR cfg ops dst k T S F Q (some (.enter 97 [.d (.str s)])) = WpL cfg ops k (putT T dst (.tup [.d (.sl ((zL s).1.map .str)), .d (.int .i64 (zL s).2)])) S F Q :=
 zV (ds := [.str s]) rfl (zeg s hl)
def upN (s : List UInt8) : List (List UInt8) × List UInt8 × Int :=
 if (zL s).2 ≠ 0 then ([], [], (zL s).2)
 else if (zL s).1.length = 0 then ([], [], 15)
 else ((zL s).1.take ((zL s).1.length - 1), (zL s).1.getD ((zL s).1.length - 1) [], 0)
theorem q0s (s : List UInt8) (hl : s.length < 900000) : Ev cfg 101 [.str s] (.ret (.tup [.d (.sl ((upN s).1.map .str)), .d (.str (upN s).2.1), .d (.int .i64 (upN s).2.2)])) := by
 refine kR rfl rfl zrs ?_
 show Wp cfg (Try.f101.body.getD .skip) ((.d (.str s)) :: uZ (uZ ((.tup []) :: (.tup []) :: (.tup []) :: (.tup []) :: (.tup []) :: (.tup []) :: (.tup []) :: (.tup []) :: []))) [] [] _
 unfold uZ
 conv => arg 2; whnf
 generalize hr : upN s = q
 unfold upN at hr
 have hn := z1o s
 by_cases h : (zL s).2 = 0
 ·rw [if_neg (by simp [h])] at hr
  by_cases h0 : (zL s).1.length = 0
  ·have h0' : ((zL s).1.length : Int) = 0 := by omega
   simp (maxSteps:=1000000) (disch:=first|assumption|omega|rfl) only [↓gp, gc, Nat.reduceAdd, z0u]
   rw [if_pos h0] at hr
   subst hr
   exact z0a rfl rfl rfl rfl rfl rfl rfl rfl rfl
  ·have h0' : ¬ ((zL s).1.length : Int) = 0 := by omega
   rw [if_neg h0] at hr
   have hsl := zqq (S := []) (P := Try.prog) (t := 42) (e := 9) (xs := (zL s).1.map D.str) (hi := ((zL s).1.length : Int) - 1) Try.underlying42 (by simp only [List.all_map, List.all_eq_true]; intro x _; exact zo8 x) zn6 (by omega) (by simp only [List.length_map]; omega)
   rw [← List.map_take, show (((zL s).1.length : Int) - 1).toNat = (zL s).1.length - 1 by omega] at hsl
   have hlt : (zL s).1.length - 1 < (zL s).1.length := by omega
   have hix := ix42 (S := []) hlt
   rw [show (((zL s).1.length - 1 : Nat) : Int) = ((zL s).1.length : Int) - 1 by omega] at hix
   simp (maxSteps:=1000000) (disch:=first|assumption|omega|rfl) only [↓gp, gc, Nat.reduceAdd, z0u]
   refine qT (is := [0, 1, 2, 3, 4, 5, 6, 7, 8, 9, 10, 11, 12, 13]) (h := 0) (by kernel_rfl) (by kernel_rfl) ?_
   simp (maxSteps:=1000000) (disch:=first|assumption|omega|rfl) only [List.replicate_zero, eq_self, gd, ga, Nat.reduceAdd, ↓gq, Option.map_some, Option.map_none, hsl, hix]
   refine ⟨by kernel_rfl, ?_⟩
   simp (maxSteps:=1000000) (disch:=first|assumption|omega|rfl) only [↓gp, gc, Nat.reduceAdd]
   subst hr
   rw [List.getD_eq_getElem?_getD, List.getElem?_eq_getElem hlt]
   exact z0a rfl rfl rfl rfl rfl rfl rfl rfl rfl
 ·simp (maxSteps:=1000000) (disch:=first|assumption|omega|rfl) only [↓gp, gc, Nat.reduceAdd, z0u]
  rw [if_pos h] at hr
  subst hr
  exact z0a rfl rfl rfl rfl rfl rfl rfl rfl rfl
theorem zb3 {C : Cfg} {ops : Array Oper} {dst : Option Tmp} {ty : TypeId} {pos : String} {after : Array Edge} {l : List Oper} {T : List V} {S : zA} {F : Dfs} {Q : Post} {t : TypeId} : WpL C ops (⟨dst, .makeMap t none, ty, pos, after, none⟩ :: l) T S F Q = WpL C ops l (putT T dst (.mr S.length)) (S ++ [.mp [] 0]) F Q := by
 rw [z0q rfl]; rfl
def z51 (t : List Node) : List Int → Prop
 | [] => False
 | i :: r => hasN t i = true ∧ match r with
  | [] => i = 1
  | j :: _ => i ≠ 1 ∧ (getN t i).parent = j ∧ z51 t r
theorem eqI {a b : Int} : eqV Try.prog 3 (.d (.int .i64 a)) (.d (.int .i64 b)) = some (a == b) := by kernel_rfl
theorem keyI {k : Int} : zao Try.prog 3 (.d (.int .i64 k)) = true := by kernel_rfl
theorem z3 : zeroV Try.prog 3 = some (.d (.int .i64 0)) := by kernel_rfl
def mapD (t : List Node) : List (D × D) := t.map fun n => (.int .i64 n.ino, zB n)
abbrev stD (t : List Node) : D := .ptr (.agg [.map (mapD t)])
theorem z67 {S S' : zA} {v : V} {e : TypeId} {xs : List V} (h : OwnS S v e xs) (hk : ∀ (j : Nat) (ys : List V) (u : TypeId), S[j]? = some (.row ys u) → S'[j]? = some (.row ys u)) : OwnS S' v e xs := by
 rcases h with h | ⟨j, rfl, h1⟩
 ·exact .inl h
 ·exact .inr ⟨j, rfl, hk _ _ _ h1⟩
def MapN (S : zA) : Nat → List Node → List (D × V × Nat) → Prop
 | _, [], [] => True
 | c, n :: ns, e :: es => (∃ v1 v2, e = (.int .i64 n.ino, zD n v1 v2, c) ∧ OwnS S v1 5 (n.data.map fun b => .d (.int .u8 b.toNat)) ∧ OwnS S v2 88 (n.names.map fun x => .d (zJ x))) ∧ MapN S (c + 1) ns es
 | _, _, _ => False
theorem MapN.keep {S S' : zA} (hk : ∀ (j : Nat) (ys : List V) (u : TypeId), S[j]? = some (.row ys u) → S'[j]? = some (.row ys u)) : ∀ {ns : List Node} {es : List (D × V × Nat)} {c : Nat}, MapN S c ns es → MapN S' c ns es
 | [], [], _, _ => trivial
 | n :: ns, e :: es, c, ⟨⟨v1, v2, h0, h1, h2⟩, h3⟩ => ⟨⟨v1, v2, h0, z67 h1 hk, z67 h2 hk⟩, MapN.keep hk h3⟩
theorem MapN.snoc {S : zA} {n : Node} {v1 v2 : V} (h1 : OwnS S v1 5 (n.data.map fun b => .d (.int .u8 b.toNat))) (h2 : OwnS S v2 88 (n.names.map fun x => .d (zJ x))) : ∀ {ns : List Node} {es : List (D × V × Nat)} {c : Nat}, MapN S c ns es → MapN S c (ns ++ [n]) (es ++ [(.int .i64 n.ino, zD n v1 v2, c + ns.length)])
 | [], [], c, _ => ⟨⟨v1, v2, rfl, h1, h2⟩, trivial⟩
 | m :: ns, e :: es, c, ⟨h3, h4⟩ => by
  have := MapN.snoc h1 h2 h4
  rw [show c + 1 + ns.length = c + (m :: ns).length by simp; omega] at this
  exact ⟨h3, this⟩
theorem MapN.no {S : zA} {k : Int} : ∀ {ns : List Node} {es : List (D × V × Nat)} {c i : Nat}, MapN S c ns es → k ∉ ns.map (·.ino) → findD Try.prog 3 (.d (.int .i64 k)) es i = some none
 | [], [], _, _, _, _ => rfl
 | n :: ns, e :: es, c, i, ⟨⟨v1, v2, h0, _, _⟩, h3⟩, hk => by
  subst h0
  have h1 : (k == n.ino) = false := by rw [beq_eq_false_iff_ne]; rintro rfl; exact hk (by simp)
  simp only [findD, eqI, h1]
  exact MapN.no h3 (fun hh => hk (by simp at hh ⊢; exact .inr hh))
theorem MapN.frz {S : zA} : ∀ {ns : List Node} {es : List (D × V × Nat)} {c : Nat}, MapN S c ns es → allO (fun (e : D × V × Nat) => (frz S 9 e.2.1).map fun x => (e.1, x)) es = some (mapD ns)
 | [], [], _, _ => rfl
 | n :: ns, e :: es, c, ⟨⟨v1, v2, h0, h1, h2⟩, h3⟩ => by
  subst h0
  have hf : Go.Vm.frz S 9 (zD n v1 v2) = some (zB n) := zf1 (k := 6) h1 h2
  simp only [allO, hf, Option.map_some, MapN.frz h3]
  rfl
theorem zsj {S : zA} {ns : List Node} {es : List (D × V × Nat)} {n : Node} {v1 v2 : V} (h : S[0]? = some (.mp es ns.length)) (hm : MapN S 0 ns es) (hk : n.ino ∉ ns.map (·.ino)) : jI Try.prog S 125 (.mr 0) (.d (.int .i64 n.ino)) (zD n v1 v2) = some (S.set 0 (.mp (es ++ [(.int .i64 n.ino, zD n v1 v2, ns.length)]) (ns.length + 1))) := by
 have ho : V.one (zD n v1 v2) = true := rfl
 have ha : asD (.d (.int .i64 n.ino)) = some (.int .i64 n.ino) := rfl
 simp only [jI, Try.underlying125, keyI, ho, Bool.and_self, if_true, ha, h, hm.no hk]
theorem zxo {i : Nat} : z05 Try.prog 127 [(0, .mr i)] = some (.agg [.mr i]) := by kernel_rfl
theorem zz8 {i : Nat} : qH Try.prog 127 (.agg [.mr i]) = true := by kernel_rfl
theorem vK {j x y : Nat} : zP Try.prog 127 0 (.ref j x y) = some (.ref j x (y + 0)) := by kernel_rfl
theorem vC {i : Nat} : kS Try.prog 125 0 (some (.agg [.mr i])) = some (.mr i) := by kernel_rfl
theorem zsc {t : List Node} : zP Try.prog 127 0 (.d (stD t)) = some (.d (.ptr (.map (mapD t)))) := by kernel_rfl
theorem zus {S : zA} {es : List (D × D)} : jZ Try.prog S 125 (.d (.ptr (.map es))) = some (.d (.map es)) := by kernel_rfl
theorem jE {P : Program} {S : zA} {T : List V} {dst : Option Tmp} {ty : TypeId} {pos : String} {after : Array Edge} {g : Option (Nat × Bool)} {t : TypeId} {m k x : Operand} : opV P S T ⟨dst, .mapUpdate t m k x, ty, pos, after, g⟩ = (jI P S t (zG T m) (zG T k) (zG T x)).map fun S' => .skip S' 3 := rfl
def nilS (S : zA) : V → Option Rs
 | .ref i ix off => some (.val (.ref i ix off) S 0)
 | .d (.ptr x) => some (.val (.d (.ptr x)) S 0)
 | .fn (.func g) a b => some (.val (.fn (.func g) a b) S 0)
 | _ => none
theorem qK {P : Program} {S : zA} {T : List V} {dst : Option Tmp} {ty : TypeId} {pos : String} {after : Array Edge} {g : Option (Nat × Bool)} {x : Operand} : opV P S T ⟨dst, .nilCheck x, ty, pos, after, g⟩ = nilS S (zG T x) := by
 simp only [opV]
 generalize zG T x = v
 cases v with
 | d y => cases y <;> rfl
 | fn f a b => cases f <;> rfl
 | _ => rfl
theorem qF {S : zA} {i ix off : Nat} : nilS S (.ref i ix off) = some (.val (.ref i ix off) S 0) := rfl
theorem zg2 {S : zA} {t : List Node} : nilS S (.d (stD t)) = some (.val (.d (stD t)) S 0) := rfl
theorem zrc {C : Cfg} {ops : Array Oper} {dst : Option Tmp} {ty : TypeId} {pos : String} {after : Array Edge} {l : List Oper} {T : List V} {S : zA} {F : Dfs} {Q : Post} {x : Operand} : WpL C ops (⟨dst, .nilCheck x, ty, pos, after, none⟩ :: l) T S F Q = WpR C ops dst l T S F Q (nilS S (zG T x)) := by
 rw [z0q rfl, qK]
theorem zyi (t : List Node) (k0 : Nat) (hk0 : k0 < 300000) (hS : Small k0 t) (hnd : (t.map (·.ino)).Nodup) (R : Post) (g1 g2 : V) : ∀ (k i : Nat) (es : List (D × V × Nat)) (S : zA) (v5 g6 g7 g8 gI gD gA gE gF gG gB gC gJ gK gN gL gM gP gQ gU gR gS gT gV gW gX : V), t.length - i = k → i ≤ t.length → S[0]? = some (.mp es i) → MapN S 0 (t.take i) es → S[1]? = some (.row [.agg [.mr 0]] 127) →
 (∀ S es v5 i' g6 g7 g8 gI gD gA gE gF gG gB gC gJ gK gN gL gM gP gQ gU gR gS gT gV gW gX, S[0]? = some (.mp es t.length) → MapN S 0 t es → S[1]? = some (.row [.agg [.mr 0]] 127) → R (.exit 0) ((.d (.sl (t.map zB))) :: g1 :: g2 :: (.ref 1 0 0) :: (.tup []) :: v5 :: g6 :: g7 :: g8 :: (.d (.sl (t.map zB))) :: (.d (.int .i64 t.length)) :: i' :: gI :: gD :: gA :: gE :: gF :: gG :: gB :: gC :: gJ :: gK :: gN :: gL :: gM :: gP :: gQ :: gU :: gR :: gS :: gT :: gV :: gW :: gX :: []) S []) →
 Wp cfg (.loop (lpOf (Try.f40.body.getD .skip) 0)) ((.d (.sl (t.map zB))) :: g1 :: g2 :: (.ref 1 0 0) :: (.tup []) :: v5 :: g6 :: g7 :: g8 :: (.d (.sl (t.map zB))) :: (.d (.int .i64 t.length)) :: (.d (.int .i64 i)) :: gI :: gD :: gA :: gE :: gF :: gG :: gB :: gC :: gJ :: gK :: gN :: gL :: gM :: gP :: gQ :: gU :: gR :: gS :: gT :: gV :: gW :: gX :: []) S [] R := by
 have hlt0 : t.length < 400000 := Nat.lt_of_le_of_lt hS.len (by omega)
 intro k
 induction k with
 | zero =>
  intro i es S v5 g6 g7 g8 gI gD gA gE gF gG gB gC gJ gK gN gL gM gP gQ gU gR gS gT gV gW gX hk hi hm hM hb hR
  have hie : i = t.length := by omega
  rw [qL]
  refine zU ?_
  conv => arg 2; whnf
  simp (maxSteps:=1000000) (disch:=first|assumption|omega|rfl) only [↓gp, gc, Nat.reduceAdd]
  rw [hie, List.take_length] at hM
  rw [hie] at hm
  exact hR _ es _ _ _ _ _ _ _ _ _ _ _ _ _ _ _ _ _ _ _ _ _ _ _ _ _ _ _ hm hM hb
 | succ k ih =>
  intro i es S v5 g6 g7 g8 gI gD gA gE gF gG gB gC gJ gK gN gL gM gP gQ gU gR gS gT gV gW gX hk hi hm hM hb hR
  have hlt : i < t.length := by omega
  have htk : t.take (i + 1) = t.take i ++ [t[i]] := by rw [List.take_succ_eq_append_getElem hlt]
  have hmem := List.getElem_mem hlt
  have hd := hS.siz _ hmem
  have hn := hS.nms _ hmem
  have hno : t[i].ino ∉ (t.take i).map (·.ino) := by
   intro hh
   have h1 : t.map (·.ino) = (t.take i).map (·.ino) ++ t[i].ino :: (t.drop (i + 1)).map (·.ino) := by
    have h2 := congrArg (List.map (fun n : Node => n.ino)) (List.take_append_drop i t).symm
    rw [List.drop_eq_getElem_cons hlt, List.map_append, List.map_cons] at h2
    exact h2
   rw [h1] at hnd
   exact (List.nodup_append.1 hnd).2.2 _ hh _ (by simp) rfl
  have hll : (t.take i).length = i := by rw [List.length_take]; omega
  have hS1 : 1 < S.length := qM hb
  rw [qL]
  refine zU ?_
  conv => arg 2; whnf
  generalize hN : t[i] = n at *
  have hbS : (S ++ [.row [.d (zB n)] 32])[S.length]? = some (.row [.d (zB n)] 32) := by simp
  obtain ⟨v1, S1, c1, ha1, ho1, hf1, hl1⟩ := apB (S := S ++ [.row [.d (zB n)] 32]) (l := n.data) (by omega)
  have hb2 : S1[S.length]? = some (.row [.d (zB n)] 32) := (hf1 S.length _ hbS).1
  have hr2 := zF hb2
  have hst1 := zlm (a := n) (v := v1) (z13 ho1 (by kernel_rfl) (by kernel_rfl)) (z04 ho1)
  have hpr1 := fun y => qB (y := y) hb2
  have hb3 : ∀ y : V, (S1.set S.length (.row [y] 32))[S.length]? = some (.row [y] 32) := fun y => jL hb2
  have hr3 : ∀ y, rowE (S1.set S.length (.row [y] 32)) S.length 0 = some y := fun y => zF (hb3 y)
  obtain ⟨v2, S2, c2, ha2, ho2, hf2, hl2⟩ := apE (S := S1.set S.length (.row [zD n v1 (.d (.sl (n.names.map zJ)))] 32)) (l := n.names) (by omega)
  have hb4 : S2[S.length]? = some (.row [zD n v1 (.d (.sl (n.names.map zJ)))] 32) := (hf2 S.length _ (hb3 _)).1
  have hr4 := zF hb4
  have hst2 := fun (x0 x1 x2 x3 x4 x5 x6 : V) => zd1 (x0 := x0) (x1 := x1) (x2 := x2) (x3 := x3) (x4 := x4) (x5 := x5) (x6 := x6) (v := v2) (z13 ho2 (by kernel_rfl) (by kernel_rfl)) (z04 ho2)
  have hpr2 := fun y => qB (y := y) hb4
  have hr5 : ∀ y, rowE (S2.set S.length (.row [y] 32)) S.length 0 = some y := fun y => zF (jL hb4)
  have hkeep : ∀ (j : Nat) (o : Ob), S[j]? = some o → (S2.set S.length (.row [zD n v1 v2] 32))[j]? = some o := fun j o hj => by
   have hjl := qM hj
   have h1 : (S ++ [.row [.d (zB n)] 32])[j]? = some o := by rw [List.getElem?_append_left hjl]; exact hj
   have h2 := (hf1 j o h1).1
   have h3 : (S1.set S.length (.row [zD n v1 (.d (.sl (n.names.map zJ)))] 32))[j]? = some o := by rw [List.getElem?_set_ne (by omega)]; exact h2
   have h4 := (hf2 j o h3).1
   rw [List.getElem?_set_ne (by omega)]; exact h4
  have hv1 : OwnS (S2.set S.length (.row [zD n v1 v2] 32)) v1 5 (n.data.map fun b => .d (.int .u8 b.toNat)) := wN (z06 (wN ho1 (hf1 S.length _ hbS).2) (fun j o hj => (hf2 j o hj).1)) (hf1 S.length _ hbS).2
  have hv2 : OwnS (S2.set S.length (.row [zD n v1 v2] 32)) v2 88 (n.names.map fun x => .d (zJ x)) := wN ho2 (hf2 S.length _ (hb3 _)).2
  have hm6 := hkeep 0 _ hm
  have hb6 := hkeep 1 _ hb
  have hM6 : MapN (S2.set S.length (.row [zD n v1 v2] 32)) 0 (t.take i) es := hM.keep (fun j ys u hj => hkeep j _ hj)
  have hr6 : rowE (S2.set S.length (.row [zD n v1 v2] 32)) 1 0 = some (.agg [.mr 0]) := zF hb6
  have hr7 : rowE (S2.set S.length (.row [zD n v1 v2] 32)) S.length 0 = some (zD n v1 v2) := zF (jL hb4)
  have hup := zsj (n := n) (v1 := v1) (v2 := v2) (by rw [hll]; exact hm6) hM6 hno
  rw [hll] at hup
  have hkR : ∀ (j : Nat) (ys : List V) (u : TypeId) (o : Ob), (S2.set S.length (.row [zD n v1 v2] 32))[j]? = some (.row ys u) → ((S2.set S.length (.row [zD n v1 v2] 32)).set 0 o)[j]? = some (.row ys u) := fun j ys u o hj => by
   rw [List.getElem?_set_ne]
   ·exact hj
   ·rintro rfl; rw [hm6] at hj; cases hj
  unfold zD at ha2 hr4 hpr2 hr6 hr7 hup
  simp (maxSteps:=1000000) (disch:=first|assumption|omega|rfl) only [↓gp, gc, Nat.reduceAdd, ↓vbs, hN, zT, zQ, zbs, zld, ha1, hr2, hst1, hpr1, hr3, ha2, hr4, hst2, hpr2]
  refine qT (is := [0, 1, 2, 3, 4, 5, 6, 7]) (h := 0) (by kernel_rfl) (by kernel_rfl) ?_
  simp (maxSteps:=1000000) (disch:=first|assumption|omega|rfl) only [List.replicate_zero, eq_self, gd, ga, Nat.reduceAdd, ↓gq, List.append_nil, qK, qF, jE, vK, vC, hr6, hr7, hup, Option.map_some]
  refine ⟨fun _ => by kernel_rfl, ?_⟩
  refine ⟨by kernel_rfl, ?_⟩
  simp (maxSteps:=1000000) (disch:=first|assumption|omega|rfl) only [↓gp, gc, Nat.reduceAdd]
  have hfin := (hM6.keep (fun j ys u hj => hkR j ys u (.mp (es ++ [(.int .i64 n.ino, zD n v1 v2, i)]) (i + 1)) hj)).snoc (z67 hv1 (fun j ys u hj => hkR j ys u (.mp (es ++ [(.int .i64 n.ino, zD n v1 v2, i)]) (i + 1)) hj)) (z67 hv2 (fun j ys u hj => hkR j ys u (.mp (es ++ [(.int .i64 n.ino, zD n v1 v2, i)]) (i + 1)) hj))
  rw [hll, Nat.zero_add] at hfin
  exact ih (i + 1) _ _ _ _ _ _ _ _ _ _ _ _ _ _ _ _ _ _ _ _ _ _ _ _ _ _ _ _ (by omega) (by omega) (jL hm6) (by rw [htk]; exact hfin) (hkR 1 _ _ _ hb6) hR
theorem zmb (t : List Node) (k0 : Nat) (hk0 : k0 < 300000) (hS : Small k0 t) (hnd : (t.map (·.ino)).Nodup) : Ev cfg 40 [.sl (t.map zB)] (.ret (.d (stD t))) := by
 refine kR rfl rfl zqt ?_
 show Wp cfg (Try.f40.body.getD .skip) ((.d (.sl (t.map zB))) :: uZ (uZ (uZ ((.tup []) :: (.tup []) :: (.tup []) :: [])))) [] [] _
 unfold uZ
 conv => arg 2; whnf
 simp (maxSteps:=1000000) (disch:=first|assumption|omega|rfl) only [↓gp, gc, Nat.reduceAdd, ↓zb3, zxo, zz8]
 refine zyi t k0 hk0 hS hnd _ _ _ t.length 0 [] _ _ _ _ _ _ _ _ _ _ _ _ _ _ _ _ _ _ _ _ _ _ _ _ _ _ _ rfl (by omega) rfl trivial rfl ?_
 intro S es v5 i' g6 g7 g8 gI gD gA gE gF gG gB gC gJ gK gN gL gM gP gQ gU gR gS gT gV gW gX hm hM hb
 simp (maxSteps:=1000000) (disch:=first|assumption|omega|rfl) only [↓gp, gc, Nat.reduceAdd]
 refine zM rfl rfl ?_
 have e1 : frz S 10 (.mr 0) = some (.map (mapD t)) := by
  show (match S[0]? with | some (.mp es _) => (allO (fun (e : D × V × Nat) => (frz S 9 e.2.1).map fun x => (e.1, x)) es).map D.map | some (.fm es) => some (.map es) | _ => none) = _
  rw [hm]
  simp only [hM.frz, Option.map_some]
 have e2 : frz S 11 (.agg [.mr 0]) = some (.agg [.map (mapD t)]) := by
  show (match allO (frz S 10) [.mr 0] with | some ds => if ds.any D.isAgg then none else some (D.agg ds) | none => none) = _
  simp only [allO, e1]
  rfl
 show (match S[1]? with
   | some (.row xs e) => match xs[0]? with
    | some x => if (allO (frz S 11) xs).isSome then (frz S 11 x).map D.ptr else none
    | none => none
   | some (.fz xs e) => (xs[0]?).map D.ptr
   | _ => none) = _
 rw [hb]
 simp only [List.getElem?_cons_zero, allO, e2, Option.isSome_some, if_true, Option.map_some]
def PanQ (o : Out) : Post := fun x T S F => ∃ v, x = .pan v ∧ F = [] ∧ z82 S (.pan v) = some o
theorem z4b {C : Cfg} {f : FuncId} {c : Code} {n : Nat} {rs : Array ResultVar} {ds : List D} {o : Out} (hx : C.ext f = none) (hc : C.catch_ f = none) (hb : zC C.P f = some ⟨c, n, rs⟩)
  (h : Wp C c (z1y n (ds.map .d)) [] [] (post C [] (PanQ o))) : Ev C f ds o := by
 obtain ⟨m, x, T, S, F, h1, v, rfl, rfl, h4⟩ := h
 refine ⟨m + 1, ?_⟩
 unfold runD answer
 simp only [hx, run, hc, hb, h1]
 exact h4
theorem z6a {C : Cfg} {S : zA} {ops : Array Oper} {dst : Option Tmp} {l : List Oper} {T : List V} {F : Dfs} {Q : Post} {f : FuncId} {ds : List D} {v : V} (hs : C.shared f = false) (he : Ev C f ds (.pan v)) :
  WpR C ops dst l T S F Q (some (.enter f (ds.map .d))) = Q (.pan v) T S F := by
 obtain ⟨n, hn⟩ := he
 have hn' : answer C (run C n) f ds = some (.pan v) := hn
 have hfz : ∀ ds : List D, allO (frz S zO) (ds.map V.d) = some ds := by
  intro ds
  induction ds with
  | nil => rfl
  | cons x r ih => simp only [List.map_cons, allO, ih, zco]
 have hid : ((ds.map V.d).flatMap (zZ S zO)).isEmpty = true := by rw [z8e]; rfl
 have hc : jW C (run C n) f (ds.map .d) S = some (.pan v, S, 1) := by
  unfold jW
  simp only [hs, Bool.false_eq_true, if_false, hfz, hn', hid, if_true]
 apply propext
 constructor
 ·rintro ⟨m, o, S', c, h1, h2⟩
  have := z31 h1 hc
  simp only [Prod.mk.injEq] at this
  obtain ⟨rfl, rfl, rfl⟩ := this
  exact h2
 ·exact fun h => ⟨n, _, _, _, hc, h⟩
def panS (Q : Post) (T : List V) (S : zA) (F : Dfs) : V → Prop
 | .iface t v => Q (.pan (.iface t v)) T S F
 | .d (.iface t v) => Q (.pan (.d (.iface t v))) T S F
 | _ => False
theorem zoz {C : Cfg} {ops : Array Oper} {dst : Option Tmp} {ty : TypeId} {pos : String} {after : Array Edge} {l : List Oper} {T : List V} {S : zA} {F : Dfs} {Q : Post} {x : Operand} : WpL C ops (⟨dst, .panic x, ty, pos, after, none⟩ :: l) T S F Q = panS Q T S F (zG T x) := by
 apply propext
 have hp : vT C.P T ⟨dst, .panic x, ty, pos, after, none⟩ l = none := z2e rfl
 generalize he : zG T x = v
 constructor
 ·rintro ⟨n, y, T', S', F', h1, h2⟩
  simp only [seqV, hp, zX, opV, he] at h1
  cases v with
  | iface t u => simp only [Option.some.injEq, Prod.mk.injEq] at h1; obtain ⟨rfl, rfl, rfl, rfl⟩ := h1; exact h2
  | d u => cases u <;> simp only [reduceCtorEq, Option.some.injEq, Prod.mk.injEq] at h1; obtain ⟨rfl, rfl, rfl, rfl⟩ := h1; exact h2
  | _ => cases h1
 ·intro h
  cases v with
  | iface t u => exact ⟨0, _, T, S, F, by simp only [seqV, hp, zX, opV, he], h⟩
  | d u => cases u <;> first | exact h.elim | exact ⟨0, _, T, S, F, by simp only [seqV, hp, zX, opV, he], h⟩
  | _ => exact h.elim
def zn2 (t : TypeId) (S : zA) (v : V) : Option Rs := if v.one = true then some (.val (.iface t v) S 0) else none
theorem zj6 {ops : Array Oper} {dst : Option Tmp} {ty : TypeId} {pos : String} {after : Array Edge} {l : List Oper} {T : List V} {S : zA} {F : Dfs} {Q : Post} {x : Operand} : WpL cfg ops (⟨dst, .makeInterface 41 x, ty, pos, after, none⟩ :: l) T S F Q = WpR cfg ops dst l T S F Q (zn2 41 S (zG T x)) := by
 rw [z0q rfl]
 simp only [opV, hP, Try.underlying41, zn2]
theorem zpz {t : TypeId} {S : zA} {x : D} : zn2 t S (.d x) = some (.val (.iface t (.d x)) S 0) := rfl
theorem zht {P : Program} {x : Ex} {T : List V} {S : zA} (hx : x = .norm ∨ x = .ret) : RetQ P #[] (.ret (.tup [])) x T S [] := ⟨hx, rfl, .tup [], rfl, rfl⟩
def panD (e : Int) : Out := .pan (.d (.iface 41 (.int .i64 e)))
theorem zr7 : zC Try.prog 98 = some ⟨Try.f98.body.getD .skip, 6, #[]⟩ := by
 unfold zC
 rw [Try.func98]
 rfl
theorem zlp : zC Try.prog 102 = some ⟨Try.f102.body.getD .skip, 7, #[]⟩ := by
 unfold zC
 rw [Try.func102]
 rfl
theorem zr0 : Ev cfg 98 [.int .i64 0] (.ret (.tup [])) := by
 refine kR rfl rfl zr7 ?_
 show Wp cfg (Try.f98.body.getD .skip) ((.d (.int .i64 0)) :: (.tup []) :: (.tup []) :: (.tup []) :: (.tup []) :: (.tup []) :: []) [] [] _
 conv => arg 2; whnf
 simp (maxSteps:=1000000) (disch:=first|assumption|omega|rfl) only [↓gp, gc, Nat.reduceAdd, decide_false, ne_eq, not_true_eq_false]
 exact zht (.inl rfl)
theorem zqf (e : Int) (he : e ≠ 0) : Ev cfg 98 [.int .i64 e] (panD e) := by
 refine z4b rfl rfl zr7 ?_
 show Wp cfg (Try.f98.body.getD .skip) ((.d (.int .i64 e)) :: (.tup []) :: (.tup []) :: (.tup []) :: (.tup []) :: (.tup []) :: []) [] [] _
 conv => arg 2; whnf
 simp (maxSteps:=1000000) (disch:=first|assumption|omega|rfl) only [↓gp, gc, Nat.reduceAdd, ↓zj6, zpz, ↓zoz, panS]
 exact ⟨_, rfl, rfl, rfl⟩
theorem zb4 {ops : Array Oper} {dst : Option Tmp} {k : List Oper} {T : List V} {S : zA} {F : Dfs} {Q : Post} {e : Int} (he : e = 0) :
  WpR cfg ops dst k T S F Q (some (.enter 98 [.d (.int .i64 e)])) = WpL cfg ops k (putT T dst (.tup [])) S F Q := by
 subst he
 exact zV (ds := [.int .i64 0]) rfl zr0
theorem zb2 {ops : Array Oper} {dst : Option Tmp} {k : List Oper} {T : List V} {S : zA} {F : Dfs} {Q : Post} {e : Int} (he : e ≠ 0) :
  WpR cfg ops dst k T S F Q (some (.enter 98 [.d (.int .i64 e)])) = Q (.pan (.d (.iface 41 (.int .i64 e)))) T S F :=
 z6a (ds := [.int .i64 e]) rfl (zqf e he)
theorem zrg (e : Int) : Ev cfg 102 [.bool false, .int .i64 e] (.ret (.tup [])) := by
 refine kR rfl rfl zlp ?_
 show Wp cfg (Try.f102.body.getD .skip) ((.d (.bool false)) :: (.d (.int .i64 e)) :: (.tup []) :: (.tup []) :: (.tup []) :: (.tup []) :: (.tup []) :: []) [] [] _
 conv => arg 2; whnf
 simp (maxSteps:=1000000) (disch:=first|assumption|omega|rfl) only [↓gp, gc, Nat.reduceAdd]
 exact zht (.inl rfl)
theorem zqg (e : Int) (he : e ≠ 0) : Ev cfg 102 [.bool true, .int .i64 e] (panD e) := by
 refine z4b rfl rfl zlp ?_
 show Wp cfg (Try.f102.body.getD .skip) ((.d (.bool true)) :: (.d (.int .i64 e)) :: (.tup []) :: (.tup []) :: (.tup []) :: (.tup []) :: (.tup []) :: []) [] [] _
 conv => arg 2; whnf
 simp (maxSteps:=1000000) (disch:=first|assumption|omega|rfl) only [↓gp, gc, Nat.reduceAdd, zb2 he]
 exact ⟨_, rfl, rfl, rfl⟩
theorem zbb {ops : Array Oper} {dst : Option Tmp} {k : List Oper} {T : List V} {S : zA} {F : Dfs} {Q : Post} {e : Int} :
  WpR cfg ops dst k T S F Q (some (.enter 102 [.d (.bool false), .d (.int .i64 e)])) = WpL cfg ops k (putT T dst (.tup [])) S F Q :=
 zV (ds := [.bool false, .int .i64 e]) rfl (zrg e)
theorem zc2 {ops : Array Oper} {dst : Option Tmp} {k : List Oper} {T : List V} {S : zA} {F : Dfs} {Q : Post} {e : Int} (he : e ≠ 0) :
  WpR cfg ops dst k T S F Q (some (.enter 102 [.d (.bool true), .d (.int .i64 e)])) = Q (.pan (.d (.iface 41 (.int .i64 e)))) T S F :=
 z6a (ds := [.bool true, .int .i64 e]) rfl (zqg e he)
theorem z66 {t : List Node} {k : Int} : ∀ {i : Nat}, findD Try.prog 3 (.d (.int .i64 k)) ((mapD t).map fun e => (e.1, V.d e.2)) i = some none ∧ t.find? (fun n => decide (n.ino = k)) = none ∨ ∃ j n, findD Try.prog 3 (.d (.int .i64 k)) ((mapD t).map fun e => (e.1, V.d e.2)) i = some (some (j, .d (zB n))) ∧ t.find? (fun n => decide (n.ino = k)) = some n := by
 induction t with
 | nil => exact fun {i} => .inl ⟨rfl, rfl⟩
 | cons n r ih =>
  intro i
  by_cases h : n.ino = k
  ·refine .inr ⟨i, n, ?_, by simp [h]⟩
   simp only [mapD, List.map_cons, findD, eqI, h, beq_self_eq_true]
  ·have h1 : (k == n.ino) = false := by rw [beq_eq_false_iff_ne]; exact fun hh => h hh.symm
   simp only [mapD, List.map_cons, findD, eqI, h1]
   rcases ih (i := i + 1) with ⟨h2, h3⟩ | ⟨j, m, h2, h3⟩
   ·exact .inl ⟨h2, by simp [h, h3]⟩
   ·exact .inr ⟨j, m, h2, by simp [h, h3]⟩
theorem zi5 {S : zA} {t : List Node} {k : Int} (h : hasN t k = true) : vJ Try.prog S 125 (.d (.map (mapD t))) (.d (.int .i64 k)) false = some (.d (zB (getN t k))) := by
 unfold hasN at h
 rcases z66 (t := t) (k := k) (i := 0) with ⟨h2, h3⟩ | ⟨j, n, h2, h3⟩
 ·rw [h3] at h; cases h
 ·simp only [vJ, Try.underlying125, keyI, if_true, kY, z32, h2, getN, h3, Option.getD_some, Bool.false_eq_true, if_false]
theorem zpk {t : List Node} {i : Int} : hasN t i = decide (0 ≤ jH i 0 t) := by
 unfold hasN
 rcases z0k i t 0 with ⟨h1, h2⟩ | ⟨k, hk, h1, h2⟩
 ·rw [h1, h2]; rfl
 ·rw [h1, h2, decide_eq_true (by omega)]; rfl
theorem z9r {t : List Node} : ∀ {k : Nat} {i j : Int}, i ≤ j → j < z2z t k i → hasN t j = true
 | 0, i, j, h1, h2 => by simp only [z2z] at h2; omega
 | k + 1, i, j, h1, h2 => by
  unfold z2z at h2
  split at h2
  ·rename_i hf
   by_cases hij : i = j
   ·rw [zpk, ← hij]; exact decide_eq_true hf
   ·exact z9r (k := k) (i := i + 1) (by omega) h2
  ·omega
def fidx (s : List UInt8) : Nat → List Ent → Option Nat
 | _, [] => none
 | i, e :: r => if e.name = s then some i else fidx s (i + 1) r
theorem z02 {s : List UInt8} : ∀ {l : List Ent} {i : Nat}, (fidx s i l = none ∧ qE l s = -1) ∨ ∃ k, ∃ h : k < l.length, fidx s i l = some (i + k) ∧ qE l s = l[k].ino
 | [], i => .inl ⟨rfl, rfl⟩
 | e :: r, i => by
  by_cases h : e.name = s
  ·refine .inr ⟨0, by simp, ?_, ?_⟩
   ·simp [fidx, h]
   ·rw [zdl h]; rfl
  ·rcases z02 (s := s) (l := r) (i := i + 1) with ⟨h1, h2⟩ | ⟨k, hk, h1, h2⟩
   ·exact .inl ⟨by simp only [fidx, h, if_false, h1], by rw [zac h, h2]⟩
   ·refine .inr ⟨k + 1, by simp; omega, ?_, ?_⟩
    ·simp only [fidx, h, if_false, h1]
     rw [show i + 1 + k = i + (k + 1) by omega]
    ·rw [zac h, h2]; rfl
theorem zrk (n : Node) (s : List UInt8) (hl : n.names.length < 1000000) (R : Post) (g3 g8 : V) : ∀ (k i : Nat) (S : zA) (v6 v7 gI gD gA gE gF gG gB gC gJ gK : V), n.names.length - i = k → i ≤ n.names.length →
 (∀ S v6 v7 i' gI gD gA gE gF gG gB gC gJ gK, fidx s i (n.names.drop i) = none → R (.exit 0) ((.d (zB n)) :: (.d (.str s)) :: (.ref 0 0 0) :: g3 :: (.d (.int .i64 0)) :: (.d (.bool false)) :: v6 :: v7 :: g8 :: (.d (.sl (n.names.map zJ))) :: (.d (.int .i64 n.names.length)) :: i' :: gI :: gD :: gA :: gE :: gF :: gG :: gB :: gC :: gJ :: gK :: []) S []) →
 (∀ S v6 v7 i' (j : Nat) gI gD gA gE gF gG gB gC gJ gK, fidx s i (n.names.drop i) = some j → R .ret ((.d (zB n)) :: (.d (.str s)) :: (.ref 0 0 0) :: g3 :: (.d (.int .i64 j)) :: (.d (.bool true)) :: v6 :: v7 :: g8 :: (.d (.sl (n.names.map zJ))) :: (.d (.int .i64 n.names.length)) :: i' :: gI :: gD :: gA :: gE :: gF :: gG :: gB :: gC :: gJ :: gK :: []) S []) →
 Wp cfg (.loop (lpOf (Try.f105.body.getD .skip) 0)) ((.d (zB n)) :: (.d (.str s)) :: (.ref 0 0 0) :: g3 :: (.d (.int .i64 0)) :: (.d (.bool false)) :: v6 :: v7 :: g8 :: (.d (.sl (n.names.map zJ))) :: (.d (.int .i64 n.names.length)) :: (.d (.int .i64 i)) :: gI :: gD :: gA :: gE :: gF :: gG :: gB :: gC :: gJ :: gK :: []) S [] R := by
 intro k
 induction k with
 | zero =>
  intro i S v6 v7 gI gD gA gE gF gG gB gC gJ gK hk hi hE hR
  have hie : i = n.names.length := by omega
  rw [qL]
  refine zU ?_
  conv => arg 2; whnf
  simp (maxSteps:=1000000) (disch:=first|assumption|omega|rfl) only [↓gp, gc, Nat.reduceAdd]
  exact hE _ _ _ _ _ _ _ _ _ _ _ _ _ _ (by rw [hie, List.drop_length]; rfl)
 | succ k ih =>
  intro i S v6 v7 gI gD gA gE gF gG gB gC gJ gK hk hi hE hR
  have hlt : i < n.names.length := by omega
  have hdr : n.names.drop i = n.names[i] :: n.names.drop (i + 1) := List.drop_eq_getElem_cons hlt
  rw [hdr] at hE hR
  rw [qL]
  refine zU ?_
  conv => arg 2; whnf
  by_cases hc : n.names[i].name = s
  ·have e : fidx s i (n.names[i] :: n.names.drop (i + 1)) = some i := by simp only [fidx, hc, if_true]
   simp (maxSteps:=1000000) (disch:=first|assumption|omega|rfl) only [↓gp, gc, Nat.reduceAdd, zT, zQ]
   exact hR _ _ _ _ _ _ _ _ _ _ _ _ _ _ _ e
  ·have e : fidx s i (n.names[i] :: n.names.drop (i + 1)) = fidx s (i + 1) (n.names.drop (i + 1)) := by simp only [fidx, hc, if_false]
   rw [e] at hE hR
   simp (maxSteps:=1000000) (disch:=first|assumption|omega|rfl) only [↓gp, gc, Nat.reduceAdd, zT, zQ]
   exact ih (i + 1) _ _ _ _ _ _ _ _ _ _ _ _ _ (by omega) (by omega) hE hR
def vE (n : Node) (s : List UInt8) : Int × Bool := match fidx s 0 n.names with | some j => ((j : Nat), true) | none => (0, false)
theorem zhz (n : Node) (s : List UInt8) (hl : n.names.length < 1000000) : Ev cfg 105 [zB n, .str s] (.ret (.tup [.d (.int .i64 (vE n s).1), .d (.bool (vE n s).2)])) := by
 refine kR rfl rfl zue ?_
 show Wp cfg (Try.f105.body.getD .skip) ((.d (zB n)) :: (.d (.str s)) :: uZ (uZ [])) [] [] _
 unfold uZ
 conv => arg 2; whnf
 simp (maxSteps:=1000000) (disch:=first|assumption|omega|rfl) only [↓gp, gc, Nat.reduceAdd]
 refine zrk n s hl _ _ _ n.names.length 0 _ _ _ _ _ _ _ _ _ _ _ _ _ rfl (by omega) ?_ ?_
 ·intro S v6 v7 i' gI gD gA gE gF gG gB gC gJ gK h
  rw [List.drop_zero] at h
  simp (maxSteps:=1000000) (disch:=first|assumption|omega|rfl) only [↓gp, gc, Nat.reduceAdd]
  unfold vE
  rw [h]
  exact kM rfl rfl rfl rfl rfl rfl
 ·intro S v6 v7 i' j gI gD gA gE gF gG gB gC gJ gK h
  rw [List.drop_zero] at h
  simp (maxSteps:=1000000) (disch:=first|assumption|omega|rfl) only [↓gp, gc, Nat.reduceAdd]
  unfold vE
  rw [h]
  exact kM rfl rfl rfl rfl rfl rfl
theorem zbt {ops : Array Oper} {dst : Option Tmp} {k : List Oper} {T : List V} {S : zA} {F : Dfs} {Q : Post} {n : Node} {s : List UInt8} (hl : n.names.length < 1000000) :
  WpR cfg ops dst k T S F Q (some (.enter 105 [.d (zB n), .d (.str s)])) = WpL cfg ops k (putT T dst (.tup [.d (.int .i64 (vE n s).1), .d (.bool (vE n s).2)])) S F Q :=
 zV (ds := [zB n, .str s]) rfl (zhz n s hl)
structure Told (t : List Node) : Prop where
 root : hasN t 1 = true
 has : ∀ x, ∀ e ∈ (getN t x).names, hasN t e.ino = true
 ge2 : ∀ x, ∀ e ∈ (getN t x).names, 2 ≤ e.ino
theorem zw8 (t : List Node) (hT : Told t) (k0 : Nat) (hk0 : k0 < 300000) (hS : Small k0 t) (ps : List (List UInt8)) (hl : ps.length < 1000000) (z : V) (R : Post) (g2 g3 g6 : V) : ∀ (k i : Nat) (d : Int) (g7 g8 g9 gH gO gI gD gA gB gC gJ gK gN gL gM gP gQ gU gR gS gT gV gW gX gY gZ gf gg gh gi gj gk gm gn gr gz hC : V), ps.length - i = k → i ≤ ps.length →
 (∀ d' i' g7 g8 g9 gH gO gI gD gA gB gC gJ gK gN gL gM gP gQ gU gR gS gT gV gW gX gY gZ gf gg gh gi gj gk gm gn gr gz hC, goN t (ps.drop i) d = (d', 0) → R (.exit 0) ((.d (stD t)) :: (.d (.sl (ps.map .str))) :: g2 :: g3 :: (.ref 0 0 0) :: (.ref 1 0 0) :: g6 :: g7 :: g8 :: g9 :: gH :: gO :: gI :: gD :: gA :: (.d (.sl (ps.map .str))) :: (.d (.int .i64 ps.length)) :: i' :: gB :: gC :: gJ :: gK :: gN :: gL :: gM :: gP :: gQ :: gU :: gR :: gS :: gT :: gV :: gW :: gX :: gY :: gZ :: gf :: gg :: gh :: gi :: gj :: gk :: gm :: gn :: gr :: gz :: hC :: []) [.row [z] 32, .row [.d (zB (getN t d'))] 32] []) →
 (∀ T S e, (goN t (ps.drop i) d).2 = e → e ≠ 0 → R (.pan (.d (.iface 41 (.int .i64 e)))) T S []) →
 Wp cfg (.loop (lpOf (Try.f99.body.getD .skip) 0)) ((.d (stD t)) :: (.d (.sl (ps.map .str))) :: g2 :: g3 :: (.ref 0 0 0) :: (.ref 1 0 0) :: g6 :: g7 :: g8 :: g9 :: gH :: gO :: gI :: gD :: gA :: (.d (.sl (ps.map .str))) :: (.d (.int .i64 ps.length)) :: (.d (.int .i64 i)) :: gB :: gC :: gJ :: gK :: gN :: gL :: gM :: gP :: gQ :: gU :: gR :: gS :: gT :: gV :: gW :: gX :: gY :: gZ :: gf :: gg :: gh :: gi :: gj :: gk :: gm :: gn :: gr :: gz :: hC :: []) [.row [z] 32, .row [.d (zB (getN t d))] 32] [] R := by
 intro k
 induction k with
 | zero =>
  intro i d g7 g8 g9 gH gO gI gD gA gB gC gJ gK gN gL gM gP gQ gU gR gS gT gV gW gX gY gZ gf gg gh gi gj gk gm gn gr gz hC hk hi hE hR
  have hie : i = ps.length := by omega
  rw [qL]
  refine zU ?_
  conv => arg 2; whnf
  simp (maxSteps:=1000000) (disch:=first|assumption|omega|rfl) only [↓gp, gc, Nat.reduceAdd]
  exact hE d _ _ _ _ _ _ _ _ _ _ _ _ _ _ _ _ _ _ _ _ _ _ _ _ _ _ _ _ _ _ _ _ _ _ _ _ _ _ (by rw [hie, List.drop_length]; rfl)
 | succ k ih =>
  intro i d g7 g8 g9 gH gO gI gD gA gB gC gJ gK gN gL gM gP gQ gU gR gS gT gV gW gX gY gZ gf gg gh gi gj gk gm gn gr gz hC hk hi hE hR
  have hlt : i < ps.length := by omega
  have hdr : ps.drop i = ps[i] :: ps.drop (i + 1) := List.drop_eq_getElem_cons hlt
  rw [hdr] at hE hR
  have hgn : (getN t d).names.length < 1000000 := Nat.lt_of_le_of_lt (hS.gnms d) (by omega)
  rw [qL]
  refine zU ?_
  conv => arg 2; whnf
  by_cases hc : (getN t d).kind = 2
  ·rcases z02 (s := ps[i]) (l := (getN t d).names) (i := 0) with ⟨h1, h2⟩ | ⟨j, hj, h1, h2⟩
   ·have hf : vE (getN t d) ps[i] = (0, false) := by unfold vE; rw [h1]
    have e : goN t (ps[i] :: ps.drop (i + 1)) d = (0, 4) := by simp only [goN, ne_eq, hc, not_true_eq_false, if_false, h2]; rfl
    have h4 : (4 : Int) ≠ 0 := by omega
    simp (maxSteps:=1000000) (disch:=first|assumption|omega|rfl) only [↓gp, gc, Nat.reduceAdd, zbb, zbt, hf, wJ, Bool.not_false, zc2 h4]
    exact hR _ _ 4 (by rw [e]) (by omega)
   ·rw [Nat.zero_add] at h1
    have hf : vE (getN t d) ps[i] = (((j : Nat) : Int), true) := by unfold vE; rw [h1]
    have hge := hT.ge2 d _ (List.getElem_mem hj)
    have hhas := hT.has d _ (List.getElem_mem hj)
    have e : goN t (ps[i] :: ps.drop (i + 1)) d = goN t (ps.drop (i + 1)) (qE (getN t d).names ps[i]) := by
     simp only [goN, ne_eq, hc, not_true_eq_false, if_false]
     rw [if_neg (by rw [h2]; omega)]
    rw [e, h2] at hE hR
    have hlk := fun S => zi5 (S := S) hhas
    simp (maxSteps:=1000000) (disch:=first|assumption|omega|rfl) only [↓gp, gc, Nat.reduceAdd, zbb, zbt, hf, wJ, Bool.not_true]
    refine qT (is := [0, 1, 2, 3, 4, 5, 6, 7, 8, 9, 10, 11]) (h := 0) (by kernel_rfl) (by kernel_rfl) ?_
    simp (maxSteps:=1000000) (disch:=first|assumption|omega|rfl) only [List.replicate_zero, eq_self, gd, ga, Nat.reduceAdd, ↓gq, List.append_nil, qK, zg2, zsc, zus, hlk]
    refine ⟨fun _ => by kernel_rfl, ?_⟩
    refine ⟨by kernel_rfl, ?_⟩
    simp (maxSteps:=1000000) (disch:=first|assumption|omega|rfl) only [↓gp, gc, Nat.reduceAdd]
    exact ih (i + 1) _ _ _ _ _ _ _ _ _ _ _ _ _ _ _ _ _ _ _ _ _ _ _ _ _ _ _ _ _ _ _ _ _ _ _ _ _ _ (by omega) (by omega) hE hR
  ·have e : goN t (ps[i] :: ps.drop (i + 1)) d = (0, 6) := by simp only [goN, ne_eq, hc, not_false_eq_true, if_true]
   have h6 : (6 : Int) ≠ 0 := by omega
   simp (maxSteps:=1000000) (disch:=first|assumption|omega|rfl) only [↓gp, gc, Nat.reduceAdd, zc2 h6]
   exact hR _ _ 6 (by rw [e]) (by omega)
def endD (t : List Node) (q : Int × Int) : Out := if q.2 = 0 then .ret (.d (zB (getN t q.1))) else panD q.2
theorem zqb (t : List Node) (hT : Told t) (k0 : Nat) (hk0 : k0 < 300000) (hS : Small k0 t) (ps : List (List UInt8)) (hl : ps.length < 1000000) : Ev cfg 99 [stD t, .sl (ps.map .str)] (endD t (goN t ps 1)) := by
 have hlk := fun S => zi5 (S := S) hT.root
 by_cases h : (goN t ps 1).2 = 0
 ·have e : endD t (goN t ps 1) = .ret (.d (zB (getN t (goN t ps 1).1))) := if_pos h
  rw [e]
  refine kR rfl rfl zlr ?_
  show Wp cfg (Try.f99.body.getD .skip) ((.d (stD t)) :: (.d (.sl (ps.map .str))) :: uZ (uZ (uZ (uZ ((.tup []) :: (.tup []) :: (.tup []) :: (.tup []) :: (.tup []) :: []))))) [] [] _
  unfold uZ
  conv => arg 2; whnf
  simp (maxSteps:=1000000) (disch:=first|assumption|omega|rfl) only [↓gp, gc, Nat.reduceAdd, zg2, zsc, zus, hlk]
  refine zw8 t hT k0 hk0 hS ps hl _ _ _ _ _ ps.length 0 1 _ _ _ _ _ _ _ _ _ _ _ _ _ _ _ _ _ _ _ _ _ _ _ _ _ _ _ _ _ _ _ _ _ _ _ _ _ rfl (by omega) ?_ ?_
  ·intro d' i' g7 g8 g9 gH gO gI gD gA gB gC gJ gK gN gL gM gP gQ gU gR gS gT gV gW gX gY gZ gf gg gh gi gj gk gm gn gr gz hC hg
   rw [List.drop_zero] at hg
   simp (maxSteps:=1000000) (disch:=first|assumption|omega|rfl) only [↓gp, gc, Nat.reduceAdd]
   rw [hg]
   exact vO rfl (v := .d (zB (getN t d'))) (by kernel_rfl) rfl rfl
  ·intro T S e he hne
   rw [List.drop_zero] at he
   exact absurd (he.symm.trans h) hne
 ·have e : endD t (goN t ps 1) = panD (goN t ps 1).2 := if_neg h
  rw [e]
  refine z4b rfl rfl zlr ?_
  show Wp cfg (Try.f99.body.getD .skip) ((.d (stD t)) :: (.d (.sl (ps.map .str))) :: uZ (uZ (uZ (uZ ((.tup []) :: (.tup []) :: (.tup []) :: (.tup []) :: (.tup []) :: []))))) [] [] _
  unfold uZ
  conv => arg 2; whnf
  simp (maxSteps:=1000000) (disch:=first|assumption|omega|rfl) only [↓gp, gc, Nat.reduceAdd, zg2, zsc, zus, hlk]
  refine zw8 t hT k0 hk0 hS ps hl _ _ _ _ _ ps.length 0 1 _ _ _ _ _ _ _ _ _ _ _ _ _ _ _ _ _ _ _ _ _ _ _ _ _ _ _ _ _ _ _ _ _ _ _ _ _ rfl (by omega) ?_ ?_
  ·intro d' i' g7 g8 g9 gH gO gI gD gA gB gC gJ gK gN gL gM gP gQ gU gR gS gT gV gW gX gY gZ gf gg gh gi gj gk gm gn gr gz hC hg
   rw [List.drop_zero] at hg
   rw [hg] at h
   exact absurd rfl h
  ·intro T S e he hne
   rw [List.drop_zero] at he
   simp (maxSteps:=1000000) (disch:=first|assumption|omega|rfl) only [↓vmp, gb, strOf_mk, Nat.reduceAdd]
   subst he
   exact ⟨_, rfl, rfl, rfl⟩
end Go.Proofs.Ytghllhghboaagaa
end
section
namespace Go.Vm
open Go
section
variable {C : Cfg} {ops : Array Oper} {base : Nat} {F : Dfs} {Q : Post}
def WpN (C : Cfg) (ops : Array Oper) (base : Nat) (K : List (Nat × Nat) → Nat → List Nat → V → zA → Prop) : List (Nat × Nat) → List Nat → List V → zA → Prop
 | _, [], _, _ => False
 | cs, i :: is, T, S => ∃ o, ops[i]? = some o ∧ ((∃ n v S', panO C (run C n) ops o T S = some (v, S') ∧ K cs i is v S') ∨ (∃ n v S' c, effC C (run C n) ops (base + i) o T S = some (v, S', c) ∧ c ≤ 2 ∧ WpN C ops base K (cs ++ [(i, c)]) is (putT T o.dst v) S'))
theorem zr6 {K : List (Nat × Nat) → Nat → List Nat → V → zA → Prop} : ∀ {is : List Nat} {cs : List (Nat × Nat)} {T : List V} {S : zA}, WpN C ops base K cs is T S → ∀ ws : List (Nat × List V × V), ∃ n v S' cs' p rest, seqP C (run C n) ops (befs ops) base ws is T S = some (v, S', cs', p, rest) ∧ K (cs ++ cs') p rest v S'
 | [], cs, T, S, h, ws => h.elim
 | i :: is, cs, T, S, h, ws => by
  obtain ⟨o, ho, h⟩ := h
  rcases h with ⟨n, v, S', h1, h2⟩ | ⟨n, v, S', c, h1, h2, h3⟩
  ·exact ⟨n, v, S', [], i, is, by simp only [seqP, ho, h1], by simpa using h2⟩
  ·obtain ⟨m, v2, S2, cs', p, rest, h4, h5⟩ := zr6 h3 (if c = 1 then (i, T, v) :: ws else ws)
   have he := z00 (z3o C (Nat.le_max_left n m)) h1
   have hs := z6k (z3o C (Nat.le_max_right n m)) h4
   refine ⟨max n m, v2, S2, (i, c) :: cs', p, rest, ?_, by simpa using h5⟩
   simp only [seqP, ho, z6o he, he, hs]
   rw [if_neg (fun hh => by omega)]
theorem zg5 {id : Nat} {T : List V} {S : zA} {is : List Nat} {h : Nat} (ho : z1h C.shared ops = is) (hh : vY ops = h) (hd : WpN C ops S.length (fun cs p rest v S' => znh C.P ops cs p rest = true ∧ Q (.pan v) T (killAll S.length rest S') F) [] is T (S ++ List.replicate h .hole)) : Wp C (.region id ops true) T S F Q := by
 subst ho; subst hh
 obtain ⟨n, v, S', cs', p, rest, h1, h2, h3⟩ := zr6 hd []
 refine ⟨n + 1, .pan v, T, _, F, ?_, h3⟩
 have hn : seqC C (run C n) ops (befs ops) S.length [] (z1h C.shared ops) T (S ++ List.replicate (vY ops) .hole) = none := z4g (fun _ _ _ _ h => h) h1
 simp only [exec, hn, h1]
 rw [if_pos (by simpa using h2)]
theorem zpj {id : Nat} {o : Oper} {T : List V} {S : zA} {f : FuncId} {ds : List D} {v : V} (hw : zX ops T o = some true) (ha : kG o = false) (hop : opV C.P S T o = some (.enter f (ds.map .d))) (hs : C.shared f = false) (he : Ev C f ds (.ret v)) : ∃ n, effC C (run C n) ops id o T S = some (v, S, 1) := by
 obtain ⟨n, hn⟩ := he
 have hn' : answer C (run C n) f ds = some (.ret v) := hn
 have hfz : ∀ ds : List D, allO (frz S zO) (ds.map V.d) = some ds := by
  intro ds
  induction ds with
  | nil => rfl
  | cons x r ih => simp only [List.map_cons, allO, ih, zco]
 have hid : ((ds.map V.d).flatMap (zZ S zO)).isEmpty = true := by rw [z8e]; rfl
 have hc : jW C (run C n) f (ds.map .d) S = some (.ret v, S, 1) := by
  unfold jW
  simp only [hs, Bool.false_eq_true, if_false, hfz, hn', hid, if_true]
 exact ⟨n, by simp only [effC, hw, ha, Bool.false_eq_true, if_false, hop, hc]; rfl⟩
theorem zp2 {o : Oper} {T : List V} {S : zA} {f : FuncId} {ds : List D} {v : V} (hw : zX ops T o = some true) (ha : kG o = false) (hop : opV C.P S T o = some (.enter f (ds.map .d))) (hs : C.shared f = false) (he : Ev C f ds (.pan v)) : ∃ n, panO C (run C n) ops o T S = some (v, S) := by
 obtain ⟨n, hn⟩ := he
 have hn' : answer C (run C n) f ds = some (.pan v) := hn
 have hfz : ∀ ds : List D, allO (frz S zO) (ds.map V.d) = some ds := by
  intro ds
  induction ds with
  | nil => rfl
  | cons x r ih => simp only [List.map_cons, allO, ih, zco]
 have hid : ((ds.map V.d).flatMap (zZ S zO)).isEmpty = true := by rw [z8e]; rfl
 have hc : jW C (run C n) f (ds.map .d) S = some (.pan v, S, 1) := by
  unfold jW
  simp only [hs, Bool.false_eq_true, if_false, hfz, hn', hid, if_true]
 exact ⟨n, by simp only [panO, hw, ha, Bool.false_eq_true, if_false, hop, hc]⟩
theorem ziq {K : List (Nat × Nat) → Nat → List Nat → V → zA → Prop} {cs : List (Nat × Nat)} {i : Nat} {is : List Nat} {T : List V} {S S' : zA} {o : Oper} {v : V} {c : Nat} (ho : ops[i]? = some o) (he : effC C (run C 0) ops (base + i) o T S = some (v, S', c)) (hc : c ≤ 2) (hk : WpN C ops base K (cs ++ [(i, c)]) is (putT T o.dst v) S') : WpN C ops base K cs (i :: is) T S :=
 ⟨o, ho, .inr ⟨0, v, S', c, he, hc, hk⟩⟩
theorem zox {K : List (Nat × Nat) → Nat → List Nat → V → zA → Prop} {cs : List (Nat × Nat)} {i : Nat} {is : List Nat} {T : List V} {S : zA} {o : Oper} {f : FuncId} {ds : List D} {v : V} (ho : ops[i]? = some o) (hw : zX ops T o = some true) (ha : kG o = false) (hop : opV C.P S T o = some (.enter f (ds.map .d))) (hs : C.shared f = false) (he : Ev C f ds (.ret v)) (hk : WpN C ops base K (cs ++ [(i, 1)]) is (putT T o.dst v) S) : WpN C ops base K cs (i :: is) T S := by
 obtain ⟨n, hn⟩ := zpj (id := base + i) hw ha hop hs he
 exact ⟨o, ho, .inr ⟨n, v, S, 1, hn, by omega, hk⟩⟩
theorem zuq {K : List (Nat × Nat) → Nat → List Nat → V → zA → Prop} {cs : List (Nat × Nat)} {i : Nat} {is : List Nat} {T : List V} {S : zA} {o : Oper} {f : FuncId} {ds : List D} {v : V} (ho : ops[i]? = some o) (hw : zX ops T o = some true) (ha : kG o = false) (hop : opV C.P S T o = some (.enter f (ds.map .d))) (hs : C.shared f = false) (he : Ev C f ds (.pan v)) (hk : K cs i is v S) : WpN C ops base K cs (i :: is) T S := by
 obtain ⟨n, hn⟩ := zp2 hw ha hop hs he
 exact ⟨o, ho, .inl ⟨n, v, S, hn, hk⟩⟩
theorem jG {dst : Option Tmp} {l : List Oper} {T : List V} {S : zA} {f : FuncId} {args : List V} {R : Out → zA → Prop} (hs : C.shared f = true) (he : EvS C f args S R) (hk : ∀ v S', R (.ret v) S' → WpL C ops l (putT T dst v) S' F Q) (hpan : ∀ v S', R (.pan v) S' → Q (.pan v) T S' F) : WpR C ops dst l T S F Q (some (.enter f args)) := by
 obtain ⟨n, out, S', hn, hR⟩ := he
 have hc : jW C (run C n) f args S = some (out, S', 3) := by
  unfold jW
  simp only [hs, if_true, hn, Option.map_some]
 refine ⟨n, out, S', 3, hc, ?_⟩
 cases out with
 | ret v => exact hk v S' hR
 | pan v => exact hpan v S' hR
theorem z69 {f g : FuncId} {first caps : List V} {S : zA} {R R' : Out → zA → Prop} {pst : Out → Option V} (hc : C.catch_ f = some pst) (he : EvS C g (first ++ caps) S R) (hR : ∀ o S', R o S' → ∃ v, pst o = some v ∧ R' (.ret v) S') : EvS C f [.fn (.func g) first caps] S R' := by
 obtain ⟨n, o, S', hn, hr⟩ := he
 obtain ⟨v, hv, hr'⟩ := hR o S' hr
 exact ⟨n + 1, .ret v, S', by simp only [run, hc, hn, hv], hr'⟩
def RQ (P : Program) (rs : Array ResultVar) (R : Out → zA → Prop) : Post := fun x T S F => F = [] ∧ match x with | .norm => ∃ v, jQ P rs T S = some v ∧ R (.ret v) S | .ret => ∃ v, jQ P rs T S = some v ∧ R (.ret v) S | .pan v => R (.pan v) S | .exit _ => False
theorem wU {f : FuncId} {c : Code} {n : Nat} {rs : Array ResultVar} {args : List V} {S : zA} {R : Out → zA → Prop} (hc : C.catch_ f = none) (hb : zC C.P f = some ⟨c, n, rs⟩) (h : Wp C c (z1y n args) S [] (RQ C.P rs R)) : EvS C f args S R := zmw hc hb h
def mfS (fn : Fn) (S : zA) (xs ys : List V) : Option Rs := if xs.all V.one && ys.all V.one then some (.val (.fn fn xs ys) S 0) else none
theorem z5d {dst : Option Tmp} {ty : TypeId} {pos : String} {after : Array Edge} {l : List Oper} {T : List V} {S : zA} {fn : Fn} {first caps : Array Operand} : WpL C ops (⟨dst, .makeFunc fn first caps, ty, pos, after, none⟩ :: l) T S F Q = WpR C ops dst l T S F Q (mfS fn S (first.toList.map (zG T)) (caps.toList.map (zG T))) := by
 rw [z0q rfl]; rfl
end
theorem z8w {P : Program} {T : List V} {dst : Option Tmp} {ty : TypeId} {pos : String} {after : Array Edge} {g : Option (Nat × Bool)} {e : TypeId} {z : V} (hz : zeroV P e = some z) (hf : qH P e z = true) : addO P T ⟨dst, .alloc e, ty, pos, after, g⟩ = some (.row [z] e, fun id => .ref id 0 0) := by
 simp only [addO, hz, hf, if_true]
end Go.Vm
end
section
namespace Go.Proofs.Ytghllhghboaagaa
open Go.Vm
theorem zlf {ops : Array Oper} {dst : Option Tmp} {k : List Oper} {T : List V} {S : zA} {F : Dfs} {Q : Post} {t : List Node} {ps : List (List UInt8)} {k0 : Nat} (hT : Told t) (hS : Small k0 t) (hk0 : k0 < 300000) (h : (goN t ps 1).2 = 0) (hl : ps.length < 1000000) :
  WpR cfg ops dst k T S F Q (some (.enter 99 [.d (stD t), .d (.sl (ps.map .str))])) = WpL cfg ops k (putT T dst (.d (zB (getN t (goN t ps 1).1)))) S F Q := by
 have := zqb t hT k0 hk0 hS ps hl
 rw [show endD t (goN t ps 1) = .ret (.d (zB (getN t (goN t ps 1).1))) from if_pos h] at this
 exact zV (ds := [stD t, .sl (ps.map .str)]) rfl this
theorem zni {ops : Array Oper} {dst : Option Tmp} {k : List Oper} {T : List V} {S : zA} {F : Dfs} {Q : Post} {t : List Node} {ps : List (List UInt8)} {k0 : Nat} (hT : Told t) (hS : Small k0 t) (hk0 : k0 < 300000) (h : ¬ (goN t ps 1).2 = 0) (hl : ps.length < 1000000) :
  WpR cfg ops dst k T S F Q (some (.enter 99 [.d (stD t), .d (.sl (ps.map .str))])) = Q (.pan (.d (.iface 41 (.int .i64 (goN t ps 1).2)))) T S F := by
 have := zqb t hT k0 hk0 hS ps hl
 rw [show endD t (goN t ps 1) = panD (goN t ps 1).2 from if_neg h] at this
 exact z6a (ds := [stD t, .sl (ps.map .str)]) rfl this
theorem znl (t : List Node) (hT : Told t) (k0 : Nat) (hk0 : k0 < 300000) (hS : Small k0 t) (s : List UInt8) (hl : s.length < 900000) : Ev cfg 60 [stD t, .str s] (endD t (zE t s)) := by
 have hn := z1o s
 have hn' : (zL s).1.length < 1000000 := by omega
 unfold endD
 generalize hr : zE t s = r
 unfold zE at hr
 by_cases h : (zL s).2 = 0
 ·rw [if_neg (by simp [h])] at hr
  subst hr
  by_cases h2 : (goN t (zL s).1 1).2 = 0
  ·rw [if_pos h2]
   refine kR rfl rfl zii ?_
   show Wp cfg (Try.f60.body.getD .skip) ((.d (stD t)) :: (.d (.str s)) :: uZ ((.tup []) :: (.tup []) :: (.tup []) :: (.tup []) :: (.tup []) :: [])) [] [] _
   unfold uZ
   conv => arg 2; whnf
   simp (maxSteps:=1000000) (disch:=first|assumption|omega|rfl) only [↓gp, gc, Nat.reduceAdd, z0u, zb4 h, zlf hT hS hk0 h2]
   exact vO rfl (v := .d (zB (getN t (goN t (zL s).1 1).1))) (by kernel_rfl) rfl rfl
  ·rw [if_neg h2]
   refine z4b rfl rfl zii ?_
   show Wp cfg (Try.f60.body.getD .skip) ((.d (stD t)) :: (.d (.str s)) :: uZ ((.tup []) :: (.tup []) :: (.tup []) :: (.tup []) :: (.tup []) :: [])) [] [] _
   unfold uZ
   conv => arg 2; whnf
   simp (maxSteps:=1000000) (disch:=first|assumption|omega|rfl) only [↓gp, gc, Nat.reduceAdd, z0u, zb4 h, zni hT hS hk0 h2]
   exact ⟨_, rfl, rfl, rfl⟩
 ·rw [if_pos h] at hr
  subst hr
  rw [if_neg h]
  refine z4b rfl rfl zii ?_
  show Wp cfg (Try.f60.body.getD .skip) ((.d (stD t)) :: (.d (.str s)) :: uZ ((.tup []) :: (.tup []) :: (.tup []) :: (.tup []) :: (.tup []) :: [])) [] [] _
  unfold uZ
  conv => arg 2; whnf
  simp (maxSteps:=1000000) (disch:=first|assumption|omega|rfl) only [↓gp, gc, Nat.reduceAdd, z0u, zb2 h]
  exact ⟨_, rfl, rfl, rfl⟩
theorem q0o {a : List D} : kS Try.prog 25 0 (some (.d (.sl a))) = some (.d (.sl a)) := by kernel_rfl
theorem lrS9 {a : List UInt8} : kS Try.prog 9 0 (some (.d (.str a))) = some (.d (.str a)) := by kernel_rfl
theorem lrI3 {a : Int} : kS Try.prog 3 0 (some (.d (.int .i64 a))) = some (.d (.int .i64 a)) := by kernel_rfl
theorem srI3 {a b : Int} : qX Try.prog 3 0 (.d (.int .i64 a)) (.d (.int .i64 b)) = some (.d (.int .i64 a)) := by kernel_rfl
theorem zre {fn : Fn} {S : zA} {a b c d e f g h i : Nat} : mfS fn S [] [.ref a b c, .ref d e f, .ref g h i] = some (.val (.fn fn [] [.ref a b c, .ref d e f, .ref g h i]) S 0) := rfl
theorem bo42 : (zC Try.prog 42).isSome = true := by kernel_rfl
theorem zqs : zC Try.prog 59 = some ⟨Try.f59.body.getD .skip, 8, #[]⟩ := by
 unfold zC
 rw [Try.func59]
 rfl
abbrev stR (t : List Node) (s : List UInt8) (x : Int) : zA := [.row [.d (.sl (t.map zB))] 25, .row [.d (.str s)] 9, .row [.d (.int .i64 x)] 3]
theorem ztl {ops : Array Oper} {F : Dfs} {Q : Post} {K : List Nat → List (Nat × Nat) → List V → zA → Prop} {rd : List Nat} {cs : List (Nat × Nat)} {i : Nat} {dst : Option Tmp} {T : List V} {S : zA} {t : List Node} {k0 : Nat} (hS : Small k0 t) (hk0 : k0 < 300000) (hnd : (t.map (·.ino)).Nodup) :
  WpE cfg ops F Q K rd cs i dst T S (some (.enter 40 [.d (.sl (t.map zB))])) = K (i :: rd) (cs ++ [(i, 1)]) (putT T dst (.d (stD t))) S := z2s (ds := [.sl (t.map zB)]) rfl (zmb t k0 hk0 hS hnd)
theorem zta {ops : Array Oper} {F : Dfs} {Q : Post} {K : List Nat → List (Nat × Nat) → List V → zA → Prop} {rd : List Nat} {cs : List (Nat × Nat)} {i : Nat} {dst : Option Tmp} {T : List V} {S : zA} {t : List Node} {k0 : Nat} {s : List UInt8} (hT : Told t) (hS : Small k0 t) (hk0 : k0 < 300000) (hl : s.length < 900000) (h : (zE t s).2 = 0) :
  WpE cfg ops F Q K rd cs i dst T S (some (.enter 60 [.d (stD t), .d (.str s)])) = K (i :: rd) (cs ++ [(i, 1)]) (putT T dst (.d (zB (getN t (zE t s).1)))) S := by
 have := znl t hT k0 hk0 hS s hl
 rw [show endD t (zE t s) = .ret (.d (zB (getN t (zE t s).1))) from if_pos h] at this
 exact z2s (ds := [stD t, .str s]) rfl this
theorem zrm (t : List Node) (hT : Told t) (k0 : Nat) (hk0 : k0 < 300000) (hS : Small k0 t) (hnd : (t.map (·.ino)).Nodup) (s : List UInt8) (hl : s.length < 900000) (h : (zE t s).2 = 0) :
  EvS cfg 59 [.ref 0 0 0, .ref 1 0 0, .ref 2 0 0] (stR t s 0) (fun o S' => (∃ v, o = .ret v) ∧ S' = stR t s (getN t (zE t s).1).ino) := by
 refine wU rfl zqs ?_
 show Wp cfg (Try.f59.body.getD .skip) [.ref 0 0 0, .ref 1 0 0, .ref 2 0 0, .tup [], .tup [], .tup [], .tup [], .tup []] (stR t s 0) [] _
 conv => arg 2; whnf
 refine qT (is := [0, 2, 1, 3, 4, 5]) (h := 0) (by kernel_rfl) (by kernel_rfl) ?_
 simp (maxSteps:=1000000) (disch:=first|assumption|omega|rfl) only [List.replicate_zero, eq_self, gd, ga, Nat.reduceAdd, ↓gq, List.append_nil, q0o, lrS9, srI3, ztl hS hk0 hnd, zta hT hS hk0 hl h]
 refine ⟨fun _ => by kernel_rfl, ?_⟩
 refine ⟨by kernel_rfl, ?_⟩
 exact ⟨rfl, _, rfl, ⟨_, rfl⟩, rfl⟩
theorem zpy (t : List Node) (hT : Told t) (k0 : Nat) (hk0 : k0 < 300000) (hS : Small k0 t) (hnd : (t.map (·.ino)).Nodup) (s : List UInt8) (hl : s.length < 900000) (h : ¬ (zE t s).2 = 0) :
  EvS cfg 59 [.ref 0 0 0, .ref 1 0 0, .ref 2 0 0] (stR t s 0) (fun o S' => o = .pan (.d (.iface 41 (.int .i64 (zE t s).2))) ∧ S' = stR t s 0) := by
 have hnode := znl t hT k0 hk0 hS s hl
 rw [show endD t (zE t s) = panD (zE t s).2 from if_neg h] at hnode
 refine wU rfl zqs ?_
 show Wp cfg (Try.f59.body.getD .skip) [.ref 0 0 0, .ref 1 0 0, .ref 2 0 0, .tup [], .tup [], .tup [], .tup [], .tup []] (stR t s 0) [] _
 conv => arg 2; whnf
 refine zg5 (is := [0, 2, 1, 3, 4, 5]) (h := 0) (by kernel_rfl) (by kernel_rfl) ?_
 refine ziq rfl (v := .d (.sl (t.map zB))) (S' := stR t s 0 ++ List.replicate 0 .hole) (c := 1) (by kernel_rfl) (by omega) ?_
 refine ziq rfl (v := .d (.str s)) (S' := stR t s 0 ++ List.replicate 0 .hole) (c := 1) (by kernel_rfl) (by omega) ?_
 refine zox rfl (by kernel_rfl) rfl (ds := [.sl (t.map zB)]) (f := 40) (by kernel_rfl) rfl (zmb t k0 hk0 hS hnd) ?_
 refine zuq rfl (by kernel_rfl) rfl (ds := [stD t, .str s]) (f := 60) (by kernel_rfl) rfl hnode ?_
 exact ⟨by kernel_rfl, rfl, rfl, rfl⟩
theorem zeb {t : List Node} {s : List UInt8} (h : ¬ (zE t s).2 = 0) : (zE t s).1 = 0 := by
 have go : ∀ (ps : List (List UInt8)) (d : Int), ¬ (goN t ps d).2 = 0 → (goN t ps d).1 = 0 := fun ps => by
  induction ps with
  | nil => intro d h; exact absurd rfl h
  | cons p r ih =>
   intro d h
   unfold goN at h ⊢
   split
   ·rfl
   ·split
    ·rfl
    ·rename_i h1 h2
     rw [if_neg h1, if_neg h2] at h
     exact ih _ h
 unfold zE at h ⊢
 split
 ·rfl
 ·rename_i h1
  rw [if_neg h1] at h
  exact go _ _ h
theorem zem {t : List Node} (hT : Told t) {s : List UInt8} (h : (zE t s).2 = 0) : (getN t (zE t s).1).ino = (zE t s).1 := by
 have ino : ∀ d, hasN t d = true → (getN t d).ino = d := fun d hd => by
  unfold hasN at hd
  unfold getN
  cases hf : t.find? (fun n => decide (n.ino = d)) with
  | none => rw [hf] at hd; cases hd
  | some n => have := List.find?_some hf; simpa using this
 have go : ∀ (ps : List (List UInt8)) (d : Int), hasN t d = true → (goN t ps d).2 = 0 → hasN t (goN t ps d).1 = true := fun ps => by
  induction ps with
  | nil => intro d hd _; exact hd
  | cons p r ih =>
   intro d hd h
   unfold goN at h ⊢
   split at h
   ·simp at h
   ·split at h
    ·simp at h
    ·rename_i h1 h2
     rw [if_neg h1, if_neg h2]
     rcases z02 (s := p) (l := (getN t d).names) (i := 0) with ⟨_, h3⟩ | ⟨j, hj, _, h3⟩
     ·rw [h3] at h2; exact absurd (by omega) h2
     ·rw [h3] at h ⊢
      exact ih _ (hT.has d _ (List.getElem_mem hj)) h
 unfold zE at h ⊢
 split at h
 ·rename_i h1; exact absurd h h1
 ·rename_i h1
  rw [if_neg h1]
  exact ino _ (go _ _ hT.root h)
theorem zge (t : List Node) (hT : Told t) (k0 : Nat) (hk0 : k0 < 300000) (hS : Small k0 t) (hnd : (t.map (·.ino)).Nodup) (s : List UInt8) (hl : s.length < 900000) : Ev cfg 27 [.sl (t.map zB), .str s] (.ret (.tup [.d (.int .i64 (zE t s).1), .d (.int .i64 (zE t s).2)])) := by
 refine kR rfl rfl q0e ?_
 show Wp cfg (Try.f27.body.getD .skip) ((.d (.sl (t.map zB))) :: (.d (.str s)) :: (.tup []) :: (.tup []) :: (.tup []) :: (.tup []) :: (.tup []) :: (.tup []) :: (.tup []) :: (.tup []) :: []) [] [] _
 conv => arg 2; whnf
 simp (maxSteps:=1000000) (disch:=first|assumption|omega|rfl) only [↓gp, gc, Nat.reduceAdd, z3, ↓z5d, zre, bo42]
 by_cases h : (zE t s).2 = 0
 ·refine jG (R := fun o S' => o = .ret (.d (.int .i64 0)) ∧ S' = stR t s (getN t (zE t s).1).ino) rfl (z69 (f := 42) (g := 59) (first := []) (caps := [.ref 0 0 0, .ref 1 0 0, .ref 2 0 0]) (pst := z1g) rfl (zrm t hT k0 hk0 hS hnd s hl h) ?_) ?_ ?_
  ·rintro o S' ⟨⟨v, rfl⟩, rfl⟩
   exact ⟨_, rfl, rfl, rfl⟩
  ·rintro v S' ⟨hv, rfl⟩
   cases hv
   simp (maxSteps:=1000000) (disch:=first|assumption|omega|rfl) only [↓gp, gc, Nat.reduceAdd, lrI3, srI3]
   rw [zem hT h, h]
   exact zmd rfl rfl (x := .d (.int .i64 (zE t s).1)) (by kernel_rfl) rfl rfl rfl rfl
  ·rintro v S' ⟨hv, _⟩
   cases hv
 ·refine jG (R := fun o S' => o = .ret (.d (.int .i64 (zE t s).2)) ∧ S' = stR t s 0) rfl (z69 (f := 42) (g := 59) (first := []) (caps := [.ref 0 0 0, .ref 1 0 0, .ref 2 0 0]) (pst := z1g) rfl (zpy t hT k0 hk0 hS hnd s hl h) ?_) ?_ ?_
  ·rintro o S' ⟨rfl, rfl⟩
   exact ⟨_, rfl, rfl, rfl⟩
  ·rintro v S' ⟨hv, rfl⟩
   cases hv
   simp (maxSteps:=1000000) (disch:=first|assumption|omega|rfl) only [↓gp, gc, Nat.reduceAdd, lrI3, srI3]
   rw [zeb h]
   exact zmd rfl rfl (x := .d (.int .i64 0)) (by kernel_rfl) rfl rfl rfl rfl
  ·rintro v S' ⟨hv, _⟩
   cases hv
theorem z8q {dst : Option Tmp} {ty : TypeId} {pos : String} {after : Array Edge} {g : Option (Nat × Bool)} {t : TypeId} : kG ⟨dst, .alloc t, ty, pos, after, g⟩ = true := rfl
theorem zss {t : List Node} (hT : Told t) : ∀ (ps : List (List UInt8)) (d : Int), hasN t d = true → (goN t ps d).2 = 0 → hasN t (goN t ps d).1 = true := fun ps => by
 induction ps with
 | nil => intro d hd _; exact hd
 | cons p r ih =>
  intro d hd h
  unfold goN at h ⊢
  split at h
  ·simp at h
  ·split at h
   ·simp at h
   ·rename_i h1 h2
    rw [if_neg h1, if_neg h2]
    rcases z02 (s := p) (l := (getN t d).names) (i := 0) with ⟨_, h3⟩ | ⟨j, hj, _, h3⟩
    ·rw [h3] at h2; exact absurd (by omega) h2
    ·rw [h3] at h ⊢
     exact ih _ (hT.has d _ (List.getElem_mem hj)) h
def upd (g : Int → Node) (m : Node) : Int → Node := fun x => if x = m.ino then m else g x
def del (g : Int → Node) (i : Int) : Int → Node := fun x => if x = i then zN else g x
inductive Up (g : Int → Node) (i : Int) : Int → Prop
 | root : i ≠ 1 → Up g i 1
 | step {x : Int} : x ≠ i → (g x).kind = 2 → x ≠ 1 → Up g i (g x).parent → Up g i x
theorem Up.mono {g g' : Int → Node} {i x : Int} (h : ∀ x, (g x).kind = 2 → x ≠ i → (g' x).kind = 2 ∧ (g' x).parent = (g x).parent) (hx : Up g i x) : Up g' i x := by
 induction hx with
 | root h1 => exact .root h1
 | step h1 h2 h3 _ ih => exact .step h1 (h _ h2 h1).1 h3 (by rw [(h _ h2 h1).2]; exact ih)
structure Inv (g : Int → Node) (i : Int) : Prop where
 root : (g 1).kind = 2
 ge2 : ∀ x, ∀ e ∈ (g x).names, 2 ≤ e.ino
 un : ∀ x, ∀ e ∈ (g x).names, ∀ e' ∈ (g x).names, e.name = e'.name → e.ino = e'.ino
 ln : ∀ x, (g x).kind = 2 → (g x).links = 1
 told : ∀ x, (g x).kind = 2 → x ≠ 1 → x ≠ i → (g (g x).parent).kind = 2 ∧ ∃ e ∈ (g (g x).parent).names, e.ino = x
 way : ∀ x, (g x).kind = 2 → Up g 0 x
 pos : ∀ x, (g x).kind = 2 → 1 ≤ x
theorem Inv.any {g : Int → Node} {i : Int} (h : Inv g 1) : Inv g i :=
 ⟨h.root, h.ge2, h.un, h.ln, fun x h1 h2 _ => h.told x h1 h2 h2, h.way, h.pos⟩
theorem Inv.file {g : Int → Node} {i : Int} {m : Node} (h : Inv g i) (hm : m.kind ≠ 2) (hg : (g m.ino).kind ≠ 2) (h2 : ∀ e ∈ m.names, 2 ≤ e.ino) (hu : ∀ e ∈ m.names, ∀ e' ∈ m.names, e.name = e'.name → e.ino = e'.ino) : Inv (upd g m) i := by
 have hk : ∀ x, (upd g m x).kind = 2 → x ≠ m.ino ∧ (g x).kind = 2 := fun x hx => by unfold upd at hx; grind
 have he : ∀ x, x ≠ m.ino → upd g m x = g x := fun x hx => by simp [upd, hx]
 have hs : upd g m m.ino = m := by simp [upd]
 refine ⟨?_, ?_, ?_, ?_, ?_, ?_, ?_⟩
 ·rw [he]; exact h.root
  intro h1; rw [← h1] at hg; exact hg h.root
 ·intro x e hx
  by_cases hxm : x = m.ino
  ·rw [hxm, hs] at hx; exact h2 e hx
  ·rw [he x hxm] at hx; exact h.ge2 x e hx
 ·intro x
  by_cases hxm : x = m.ino
  ·rw [hxm, hs]; exact hu
  ·rw [he x hxm]; exact h.un x
 ·intro x hx
  obtain ⟨h1, h3⟩ := hk x hx
  rw [he x h1]; exact h.ln x h3
 ·intro x hx n1 ni
  obtain ⟨h1, h3⟩ := hk x hx
  rw [he x h1]
  obtain ⟨h4, h5⟩ := h.told x h3 n1 ni
  have h6 : (g x).parent ≠ m.ino := fun hh => by rw [hh] at h4; exact hg h4
  rw [he _ h6]; exact ⟨h4, h5⟩
 ·intro x hx
  obtain ⟨h1, h3⟩ := hk x hx
  refine (h.way x h3).mono fun y hy _ => ?_
  have : y ≠ m.ino := fun hh => by rw [hh] at hy; exact hg hy
  rw [he y this]; exact ⟨hy, rfl⟩
 ·intro x hx
  exact h.pos x (hk x hx).2
theorem Inv.delFile {g : Int → Node} {i j : Int} (h : Inv g i) (hg : (g j).kind ≠ 2) : Inv (del g j) i := by
 have he : ∀ x, x ≠ j → del g j x = g x := fun x hx => by simp [del, hx]
 have hs : del g j j = zN := by simp [del]
 have hk : ∀ x, (del g j x).kind = 2 → x ≠ j ∧ (g x).kind = 2 := fun x hx => by
  by_cases hxj : x = j
  ·rw [hxj, hs] at hx; exact absurd hx (by simp [zN])
  ·rw [he x hxj] at hx; exact ⟨hxj, hx⟩
 refine ⟨?_, ?_, ?_, ?_, ?_, ?_, ?_⟩
 ·rw [he]; exact h.root
  intro h1; rw [← h1] at hg; exact hg h.root
 ·intro x e hx
  by_cases hxm : x = j
  ·rw [hxm, hs] at hx; simp [zN] at hx
  ·rw [he x hxm] at hx; exact h.ge2 x e hx
 ·intro x
  by_cases hxm : x = j
  ·rw [hxm, hs]; simp [zN]
  ·rw [he x hxm]; exact h.un x
 ·intro x hx
  obtain ⟨h1, h3⟩ := hk x hx
  rw [he x h1]; exact h.ln x h3
 ·intro x hx n1 ni
  obtain ⟨h1, h3⟩ := hk x hx
  rw [he x h1]
  obtain ⟨h4, h5⟩ := h.told x h3 n1 ni
  have h6 : (g x).parent ≠ j := fun hh => by rw [hh] at h4; exact hg h4
  rw [he _ h6]; exact ⟨h4, h5⟩
 ·intro x hx
  obtain ⟨h1, h3⟩ := hk x hx
  refine (h.way x h3).mono fun y hy _ => ?_
  have : y ≠ j := fun hh => by rw [hh] at hy; exact hg hy
  rw [he y this]; exact ⟨hy, rfl⟩
 ·intro x hx
  exact h.pos x (hk x hx).2
theorem Inv.delDir {g : Int → Node} {j : Int} (h : Inv g j) (hj : j ≠ 1) (hn : (g j).names = []) : Inv (del g j) 1 := by
 have he : ∀ x, x ≠ j → del g j x = g x := fun x hx => by simp [del, hx]
 have hs : del g j j = zN := by simp [del]
 have hk : ∀ x, (del g j x).kind = 2 → x ≠ j ∧ (g x).kind = 2 := fun x hx => by
  by_cases hxj : x = j
  ·rw [hxj, hs] at hx; exact absurd hx (by simp [zN])
  ·rw [he x hxj] at hx; exact ⟨hxj, hx⟩
 have hp : ∀ x, (g x).kind = 2 → x ≠ 1 → x ≠ j → (g x).parent ≠ j := fun x h1 h2 h3 hh => by
  obtain ⟨_, e, h5, _⟩ := h.told x h1 h2 h3
  rw [hh, hn] at h5
  simp at h5
 refine ⟨?_, ?_, ?_, ?_, ?_, ?_, ?_⟩
 ·rw [he _ (fun h1 => hj h1.symm)]; exact h.root
 ·intro x e hx
  by_cases hxm : x = j
  ·rw [hxm, hs] at hx; simp [zN] at hx
  ·rw [he x hxm] at hx; exact h.ge2 x e hx
 ·intro x
  by_cases hxm : x = j
  ·rw [hxm, hs]; simp [zN]
  ·rw [he x hxm]; exact h.un x
 ·intro x hx
  obtain ⟨h1, h3⟩ := hk x hx
  rw [he x h1]; exact h.ln x h3
 ·intro x hx n1 ni
  obtain ⟨h1, h3⟩ := hk x hx
  rw [he x h1, he _ (hp x h3 n1 h1)]
  exact h.told x h3 n1 h1
 ·intro x hx
  obtain ⟨h1, h3⟩ := hk x hx
  have hw := h.way x h3
  clear hx h3
  induction hw with
  | root h0 => exact .root h0
  | step h4 h5 h6 _ ih => exact .step h4 (by rw [he _ h1]; exact h5) h6 (by rw [he _ h1]; exact ih (hp _ h5 h6 h1))
 ·intro x hx
  exact h.pos x (hk x hx).2
theorem Inv.names {g : Int → Node} {i j d : Int} {m : Node} (h : Inv g i) (hd : (g d).kind = 2) (hi : m.ino = d) (hk : m.kind = 2) (hl : m.links = (g d).links) (hp : m.parent = (g d).parent)
  (h2 : ∀ e ∈ m.names, 2 ≤ e.ino) (hu : ∀ e ∈ m.names, ∀ e' ∈ m.names, e.name = e'.name → e.ino = e'.ino)
  (ht : ∀ x, (g x).kind = 2 → x ≠ 1 → x ≠ j → (g (g x).parent).kind = 2 ∧ ∃ e ∈ (if (g x).parent = d then m.names else (g (g x).parent).names), e.ino = x) : Inv (upd g m) j := by
 have he : ∀ x, x ≠ d → upd g m x = g x := fun x hx => by simp [upd, hi, hx]
 have hs : upd g m d = m := by simp [upd, hi]
 have hkk : ∀ x, (upd g m x).kind = (g x).kind := fun x => by
  by_cases hx : x = d
  ·rw [hx, hs, hk, hd]
  ·rw [he x hx]
 have hpp : ∀ x, (upd g m x).parent = (g x).parent := fun x => by
  by_cases hx : x = d
  ·rw [hx, hs, hp]
  ·rw [he x hx]
 have hnn : ∀ x, (upd g m x).names = if x = d then m.names else (g x).names := fun x => by
  by_cases hx : x = d
  ·rw [if_pos hx, hx, hs]
  ·rw [if_neg hx, he x hx]
 refine ⟨?_, ?_, ?_, ?_, ?_, ?_, ?_⟩
 ·rw [hkk]; exact h.root
 ·intro x e hx
  rw [hnn] at hx
  split at hx
  ·exact h2 e hx
  ·exact h.ge2 x e hx
 ·intro x
  rw [hnn]
  split
  ·exact hu
  ·exact h.un x
 ·intro x hx
  rw [hkk] at hx
  by_cases hxd : x = d
  ·rw [hxd, hs, hl]; exact h.ln d hd
  ·rw [he x hxd]; exact h.ln x hx
 ·intro x hx n1 nj
  rw [hkk] at hx
  rw [hpp, hkk, hnn]
  exact ht x hx n1 nj
 ·intro x hx
  rw [hkk] at hx
  exact (h.way x hx).mono fun y hy _ => ⟨by rw [hkk]; exact hy, hpp y⟩
 ·intro x hx
  rw [hkk] at hx
  exact h.pos x hx
theorem Inv.newDir {g : Int → Node} {m : Node} (h : Inv g 1) (hg : (g m.ino).kind ≠ 2) (hm : m.kind = 2) (hl : m.links = 1) (hn : m.names = []) (hp : (g m.parent).kind = 2) (h2 : 2 ≤ m.ino) : Inv (upd g m) m.ino := by
 have he : ∀ x, x ≠ m.ino → upd g m x = g x := fun x hx => by simp [upd, hx]
 have hs : upd g m m.ino = m := by simp [upd]
 have hmono : ∀ x, Up g 0 x → Up (upd g m) 0 x := fun x hx => hx.mono fun y hy _ => by
  have : y ≠ m.ino := fun hh => by rw [hh] at hy; exact hg hy
  rw [he y this]; exact ⟨hy, rfl⟩
 refine ⟨?_, ?_, ?_, ?_, ?_, ?_, ?_⟩
 ·rw [he _ (by omega)]; exact h.root
 ·intro x e hx
  by_cases hxm : x = m.ino
  ·rw [hxm, hs, hn] at hx; simp at hx
  ·rw [he x hxm] at hx; exact h.ge2 x e hx
 ·intro x
  by_cases hxm : x = m.ino
  ·rw [hxm, hs, hn]; simp
  ·rw [he x hxm]; exact h.un x
 ·intro x hx
  by_cases hxm : x = m.ino
  ·rw [hxm, hs, hl]
  ·rw [he x hxm] at hx ⊢; exact h.ln x hx
 ·intro x hx n1 ni
  rw [he x ni] at hx ⊢
  obtain ⟨h4, h5⟩ := h.told x hx n1 n1
  have h6 : (g x).parent ≠ m.ino := fun hh => by rw [hh] at h4; exact hg h4
  rw [he _ h6]; exact ⟨h4, h5⟩
 ·intro x hx
  by_cases hxm : x = m.ino
  ·rw [hxm]
   refine .step (by omega) (by rw [hs]; exact hm) (by omega) ?_
   rw [hs]
   exact hmono _ (h.way _ hp)
  ·rw [he x hxm] at hx; exact hmono _ (h.way x hx)
 ·intro x hx
  by_cases hxm : x = m.ino
  ·omega
  ·rw [he x hxm] at hx; exact h.pos x hx
theorem Inv.move {g : Int → Node} {i d : Int} {m : Node} (h : Inv g i) (hi : m.ino = i) (hk : m.kind = 2) (hki : (g i).kind = 2) (h1 : i ≠ 1) (hl : m.links = (g i).links) (hp : m.parent = d) (hn : m.names = (g i).names)
  (hd : (g d).kind = 2) (hid : d ≠ i) (ht : ∃ e ∈ (g d).names, e.ino = i) (hu : Up g i d) : Inv (upd g m) 1 := by
 have he : ∀ x, x ≠ i → upd g m x = g x := fun x hx => by simp [upd, hi, hx]
 have hs : upd g m i = m := by simp [upd, hi]
 have hkk : ∀ x, (upd g m x).kind = (g x).kind := fun x => by
  by_cases hx : x = i
  ·rw [hx, hs, hk, hki]
  ·rw [he x hx]
 have hnn : ∀ x, (upd g m x).names = (g x).names := fun x => by
  by_cases hx : x = i
  ·rw [hx, hs, hn]
  ·rw [he x hx]
 have hpi := h.pos i hki
 have hup : ∀ x, Up g i x → Up (upd g m) 0 x := fun x hx => by
  induction hx with
  | root _ => exact .root (by omega)
  | step a b c _ ih =>
   have := h.pos _ b
   exact .step (by omega) (by rw [hkk]; exact b) c (by rw [he _ a]; exact ih)
 refine ⟨?_, ?_, ?_, ?_, ?_, ?_, ?_⟩
 ·rw [hkk]; exact h.root
 ·intro x e hx
  rw [hnn] at hx; exact h.ge2 x e hx
 ·intro x
  rw [hnn]; exact h.un x
 ·intro x hx
  rw [hkk] at hx
  by_cases hxi : x = i
  ·rw [hxi, hs, hl]; exact h.ln i hki
  ·rw [he x hxi]; exact h.ln x hx
 ·intro x hx n1 _
  rw [hkk] at hx
  by_cases hxi : x = i
  ·rw [hxi, hs, hp, hkk, hnn]; exact ⟨hd, ht⟩
  ·rw [he x hxi, hkk, hnn]; exact h.told x hx n1 hxi
 ·intro x hx
  rw [hkk] at hx
  have hw := h.way x hx
  clear hx
  induction hw with
  | root h0 => exact .root h0
  | @step x a b c _ ih =>
   by_cases hxi : x = i
   ·refine .step a (by rw [hkk]; exact b) c ?_
    rw [hxi, hs, hp]
    exact hup _ hu
   ·exact .step a (by rw [hkk]; exact b) c (by rw [he _ hxi]; exact ih)
 ·intro x hx
  rw [hkk] at hx; exact h.pos x hx
def Uniq (t : List Node) : Prop := ∀ n ∈ t, ∀ m ∈ t, n.ino = m.ino → n = m
theorem z72 {t : List Node} (hu : Uniq t) {n : Node} (hn : n ∈ t) : getN t n.ino = n := by
 rcases jN t n.ino with ⟨_, h⟩ | ⟨h1, h2⟩
 ·exact absurd rfl (h n hn)
 ·exact hu _ h1 _ hn h2
theorem z1x {t : List Node} {x : Int} (h : ∀ n ∈ t, n.ino ≠ x) : getN t x = zN := by
 rcases jN t x with ⟨h1, _⟩ | ⟨h1, h2⟩
 ·exact h1
 ·exact absurd h2 (h _ h1)
theorem vN {t : List Node} {m : Node} (hu : Uniq t) : Uniq (qR t m) := by
 intro n hn n' hn' he
 rw [vB] at hn hn'
 rcases hn with rfl | ⟨h1, h2⟩ <;> rcases hn' with rfl | ⟨h3, h4⟩
 ·rfl
 ·exact absurd he.symm h4
 ·exact absurd he h2
 ·exact hu _ h1 _ h3 he
theorem jA {t : List Node} {m : Node} (hu : Uniq t) : getN (qR t m) = upd (getN t) m := by
 funext x
 unfold upd
 split
 ·rename_i hx
  rw [hx]
  exact z72 (vN hu) (vB.2 (.inl rfl))
 ·rename_i hx
  rcases jN t x with ⟨h1, h2⟩ | ⟨h1, h2⟩
  ·rw [h1]
   refine z1x fun n hn => ?_
   rcases vB.1 hn with rfl | ⟨h3, _⟩
   ·exact fun h => hx h.symm
   ·exact h2 n h3
  ·have h3 : getN t x ∈ qR t m := vB.2 (.inr ⟨h1, by rw [h2]; exact hx⟩)
   have := z72 (vN hu) h3
   rw [h2] at this
   exact this
theorem z63 {t : List Node} {p : Node → Bool} (hu : Uniq t) : Uniq (t.filter p) :=
 fun n hn m hm => hu n (List.mem_filter.1 hn).1 m (List.mem_filter.1 hm).1
theorem z20 {t : List Node} {i : Int} (hu : Uniq t) : getN (t.filter (fun n => n.ino ≠ i)) = del (getN t) i := by
 funext x
 unfold del
 split
 ·rename_i hx
  refine z1x fun n hn => ?_
  have := (List.mem_filter.1 hn).2
  rw [hx]
  simpa using this
 ·rename_i hx
  rcases jN t x with ⟨h1, h2⟩ | ⟨h1, h2⟩
  ·rw [h1]
   exact z1x fun n hn => h2 n (List.mem_filter.1 hn).1
  ·have h3 : getN t x ∈ t.filter (fun n => n.ino ≠ i) := List.mem_filter.2 ⟨h1, by rw [h2]; simpa using hx⟩
   have := z72 (z63 hu) h3
   rw [h2] at this
   exact this
theorem jF {t : List Node} {d : Int} (h : (getN t d).kind = 2) : (getN t d).ino = d := by
 rcases jN t d with ⟨h1, _⟩ | ⟨_, h2⟩
 ·rw [h1] at h; simp [zN] at h
 ·exact h2
theorem zcm {t : List Node} {i x : Int} (h : Inv (getN t) i) (hx : (getN t x).kind ≠ 2) : (getN t (getN t x).ino).kind ≠ 2 := by
 rcases jN t x with ⟨h1, _⟩ | ⟨_, h2⟩
 ·rw [h1]
  intro hh
  have := h.pos _ hh
  simp [zN] at this
 ·rw [h2]; exact hx
structure TInv (t : List Node) (i : Int) : Prop where
 uniq : Uniq t
 inv : Inv (getN t) i
theorem wC {l : List Ent} {s : List UInt8} (h : 0 ≤ qE l s) : ∃ e ∈ l, e.name = s ∧ e.ino = qE l s := by
 unfold qE at h ⊢
 cases hf : l.find? (fun e => decide (e.name = s)) with
 | none => rw [hf] at h; simp at h
 | some e =>
  refine ⟨e, List.mem_of_find?_eq_some hf, ?_, rfl⟩
  have := List.find?_some hf
  simpa using this
theorem z0b {l : List Ent} {s : List UInt8} (h2 : ∀ e ∈ l, 2 ≤ e.ino) (h : qE l s < 0) : ∀ e ∈ l, e.name ≠ s := by
 unfold qE at h
 cases hf : l.find? (fun e => decide (e.name = s)) with
 | none =>
  intro e he hs
  have := List.find?_eq_none.1 hf e he
  simp [hs] at this
 | some e =>
  rw [hf] at h
  have := h2 e (List.mem_of_find?_eq_some hf)
  simp only at h
  omega
theorem TInv.drop {t : List Node} {i d : Int} {s : List UInt8} (h : TInv t i) (hd : (getN t d).kind = 2) (hs : ∀ e ∈ (getN t d).names, e.name = s → (getN t e.ino).kind ≠ 2 ∨ e.ino = i) : TInv (zS t d s) i := by
 refine ⟨vN h.uniq, ?_⟩
 unfold zS
 rw [jA h.uniq]
 refine h.inv.names hd (jF hd) hd rfl rfl ?_ ?_ ?_
 ·intro e he
  exact h.inv.ge2 d e (List.mem_filter.1 he).1
 ·intro e he e' he'
  exact h.inv.un d e (List.mem_filter.1 he).1 e' (List.mem_filter.1 he').1
 ·intro x hx n1 ni
  obtain ⟨h1, e, h2, h3⟩ := h.inv.told x hx n1 ni
  refine ⟨h1, e, ?_, h3⟩
  split
  ·rename_i hp
   rw [hp] at h2
   refine List.mem_filter.2 ⟨h2, ?_⟩
   rw [decide_eq_true_eq]
   intro hes
   rcases hs e h2 hes with h4 | h4
   ·rw [h3] at h4; exact h4 hx
   ·rw [h3] at h4; exact ni h4
  ·exact h2
theorem TInv.put {t : List Node} {i j d x : Int} {s : List UInt8} (h : TInv t i) (hd : (getN t d).kind = 2) (hs : ∀ e ∈ (getN t d).names, e.name ≠ s) (h2 : 2 ≤ x) (hj : i ≠ j → (x = i ∧ (getN t i).parent = d)) : TInv (putN t d s x) j := by
 refine ⟨vN h.uniq, ?_⟩
 unfold putN
 rw [jA h.uniq]
 refine h.inv.names hd (jF hd) hd rfl rfl ?_ ?_ ?_
 ·intro e he
  rcases mem_putA.1 he with ⟨_, rfl⟩ | he
  ·exact h2
  ·exact h.inv.ge2 d e he
 ·intro e he e' he'
  rcases mem_putA.1 he with ⟨_, rfl⟩ | he <;> rcases mem_putA.1 he' with ⟨_, rfl⟩ | he'
  ·exact fun _ => rfl
  ·exact fun hh => absurd hh.symm (hs _ he')
  ·exact fun hh => absurd hh (hs _ he)
  ·exact h.inv.un d e he e' he'
 ·intro y hy n1 nj
  by_cases hyi : y = i
  ·have hij : i ≠ j := fun hh => nj (hyi.trans hh)
   obtain ⟨hx, hp⟩ := hj hij
   rw [hyi, hp, if_pos rfl]
   exact ⟨hd, ⟨s, x⟩, mem_putA.2 (.inl ⟨rfl, rfl⟩), hx⟩
  ·obtain ⟨h1, e, h3, h4⟩ := h.inv.told y hy n1 hyi
   refine ⟨h1, e, ?_, h4⟩
   split
   ·rename_i hp
    rw [hp] at h3
    exact mem_putA.2 (.inr h3)
   ·exact h3
theorem TInv.loses {t : List Node} {i x : Int} (h : TInv t i) (hx : (getN t x).kind ≠ 2) : TInv (jO t x) i := by
 unfold jO
 split
 ·refine ⟨z63 h.uniq, ?_⟩
  rw [z20 h.uniq]
  exact h.inv.delFile hx
 ·refine ⟨vN h.uniq, ?_⟩
  rw [jA h.uniq]
  exact h.inv.file hx (zcm h.inv hx) (h.inv.ge2 x) (h.inv.un x)
theorem TInv.with {t : List Node} {i : Int} {m : Node} (h : TInv t i) (hm : m.kind ≠ 2) (hg : (getN t m.ino).kind ≠ 2) (h2 : ∀ e ∈ m.names, 2 ≤ e.ino) (hu : ∀ e ∈ m.names, ∀ e' ∈ m.names, e.name = e'.name → e.ino = e'.ino) : TInv (qR t m) i := by
 refine ⟨vN h.uniq, ?_⟩
 rw [jA h.uniq]
 exact h.inv.file hm hg h2 hu
theorem jP {t : List Node} {s : List UInt8} (h : (zI t s).2.2 = 0) : (getN t (zI t s).1).kind = 2 := by
 unfold zI at h ⊢
 by_cases h1 : (zL s).2 ≠ 0
 ·rw [if_pos h1] at h; exact absurd h h1
 ·rw [if_neg h1] at h ⊢
  by_cases h2 : (zL s).1.length = 0
  ·rw [if_pos h2] at h; simp at h
  ·rw [if_neg h2] at h ⊢
   split at h
   ·rename_i h3; exact absurd h h3
   ·split at h
    ·simp at h
    ·rename_i h3 h4
     rw [if_neg h3, if_neg h4]
     simpa using h4
theorem zqj {t : List Node} (h2 : ∀ x, ∀ e ∈ (getN t x).names, 2 ≤ e.ino) : ∀ {ps : List (List UInt8)} {d : Int}, (goN t ps d).2 = 0 → (goN t ps d).1 = d ∨ 2 ≤ (goN t ps d).1
 | [], d, _ => .inl rfl
 | p :: r, d, h => by
  unfold goN at h ⊢
  split at h
  ·simp at h
  ·split at h
   ·simp at h
   ·rename_i h3 h4
    rw [if_neg h3, if_neg h4]
    obtain ⟨e, h5, _, h6⟩ := wC (l := (getN t d).names) (s := p) (by omega)
    have h7 := h2 d e h5
    rcases zqj h2 h with h8 | h8
    ·right; rw [h8]; omega
    ·exact .inr h8
theorem zgw {t : List Node} {s : List UInt8} (h2 : ∀ x, ∀ e ∈ (getN t x).names, 2 ≤ e.ino) (h : (zE t s).2 = 0) : (zE t s).1 = 1 ∨ 2 ≤ (zE t s).1 := by
 unfold zE at h ⊢
 split at h
 ·rename_i h1; exact absurd h h1
 ·rename_i h1
  rw [if_neg h1]
  exact zqj h2 h
theorem TInv.make {t : List Node} {o : Opn} (h : TInv t 1) : TInv (z17 t o).1 1 := by
 unfold z17
 split
 ·exact h
 ·rename_i h1
  split
  ·exact h
  ·rename_i h2
   have hd := jP (t := t) (s := o.a) (by simpa using h1)
   obtain ⟨hn1, hn2, _⟩ := z1q t
   have hz : getN t (jB t) = zN := z1x hn1
   have hnd : (zI t o.a).1 ≠ jB t := fun hh => by rw [hh, hz] at hd; simp [zN] at hd
   have hkz : (getN t (jB t)).kind ≠ 2 := by rw [hz]; simp [zN]
   have hfresh := z0b (h.inv.ge2 (zI t o.a).1) (Int.not_le.1 h2)
   have hi : (qA t o).ino = jB t := by unfold qA; split <;> rfl
   have hgd : getN (qR t (qA t o)) (zI t o.a).1 = getN t (zI t o.a).1 := by
    rw [jA h.uniq]
    unfold upd
    rw [hi, if_neg hnd]
   by_cases ho : o.does = 2
   ·have hm : qA t o = ⟨jB t, 2, 1, (zI t o.a).1, 0, [], []⟩ := by unfold qA; rw [if_pos ho]
    have h3 : TInv (qR t (qA t o)) (jB t) := by
     refine ⟨vN h.uniq, ?_⟩
     rw [jA h.uniq]
     have := h.inv.newDir (m := qA t o) (by rw [hi]; exact hkz) (by rw [hm]) (by rw [hm]) (by rw [hm]) (by rw [hm]; exact hd) (by rw [hi]; exact hn2)
     rw [hi] at this
     exact this
    have hgi : getN (qR t (qA t o)) (jB t) = qA t o := by
     rw [jA h.uniq]
     unfold upd
     rw [hi, if_pos rfl]
    exact h3.put (by rw [hgd]; exact hd) (by rw [hgd]; exact hfresh) hn2 (fun _ => ⟨rfl, by rw [hgi, hm]⟩)
   ·have hm : (qA t o).kind ≠ 2 := by unfold qA; rw [if_neg ho]; simp
    have hn : (qA t o).names = [] := by unfold qA; rw [if_neg ho]
    have h3 : TInv (qR t (qA t o)) 1 := h.with hm (by rw [hi]; exact hkz) (by rw [hn]; simp) (by rw [hn]; simp)
    exact h3.put (by rw [hgd]; exact hd) (by rw [hgd]; exact hfresh) hn2 (fun hh => absurd rfl hh)
theorem TInv.link {t : List Node} {o : Opn} (h : TInv t 1) : TInv (z0g t o).1 1 := by
 unfold z0g
 split
 ·exact h
 ·rename_i h1
  split
  ·exact h
  ·rename_i h2
   split
   ·exact h
   ·rename_i h3
    split
    ·exact h
    ·rename_i h4
     have hd := jP (t := t) (s := o.b) (by simpa using h3)
     have hge := zgw (t := t) (s := o.a) h.inv.ge2 (by simpa using h1)
     have hfresh := z0b (h.inv.ge2 (zI t o.b).1) (Int.not_le.1 h4)
     have hfi := zcm h.inv h2
     have h5 : TInv (qR t (more (getN t (zE t o.a).1))) 1 := h.with h2 hfi (h.inv.ge2 _) (h.inv.un _)
     have hgd : getN (qR t (more (getN t (zE t o.a).1))) (zI t o.b).1 = getN t (zI t o.b).1 := by
      rw [jA h.uniq]
      unfold upd
      rw [if_neg]
      intro hh
      have hh : (zI t o.b).1 = (getN t (zE t o.a).1).ino := hh
      rw [hh] at hd
      exact hfi hd
     refine h5.put (by rw [hgd]; exact hd) (by rw [hgd]; exact hfresh) ?_ (fun hh => absurd rfl hh)
     rcases hge with hg | hg
     ·rw [hg] at h2; exact absurd h.inv.root h2
     ·exact hg
theorem TInv.bytes {t : List Node} {o : Opn} (h : TInv t 1) : TInv (wI t o).1 1 := by
 unfold wI
 split
 ·exact h
 ·unfold z3w
  split
  ·exact h
  ·rename_i hk
   have hfi := zcm h.inv hk
   have hw : ∀ m : Node, m.ino = (getN t (zE t o.a).1).ino → m.kind = (getN t (zE t o.a).1).kind → m.names = (getN t (zE t o.a).1).names → TInv (qR t m) 1 := fun m a b c =>
    h.with (by rw [b]; exact hk) (by rw [a]; exact hfi) (by rw [c]; exact h.inv.ge2 _) (by rw [c]; exact h.inv.un _)
   repeat' split
   all_goals first | exact h | exact hw _ rfl rfl rfl
theorem vA {t : List Node} {d y : Int} {s : List UInt8} (hu : Uniq t) (hd : (getN t d).kind = 2) : getN (zS t d s) y = if y = d then { getN t d with names := (getN t d).names.filter (fun e => decide (e.name ≠ s)) } else getN t y := by
 unfold zS
 rw [jA hu]
 unfold upd
 have : (getN t d).ino = d := jF hd
 simp only [this]
theorem qQ {t : List Node} {d y : Int} {s : List UInt8} (hu : Uniq t) (hd : (getN t d).kind = 2) : (getN (zS t d s) y).kind = (getN t y).kind ∧ (getN (zS t d s) y).parent = (getN t y).parent ∧ (getN (zS t d s) y).links = (getN t y).links := by
 rw [vA hu hd]
 split
 ·rename_i h; rw [h]; exact ⟨rfl, rfl, rfl⟩
 ·exact ⟨rfl, rfl, rfl⟩
theorem z1p {t : List Node} {d y : Int} {s : List UInt8} (hu : Uniq t) (hd : (getN t d).kind = 2) : ∀ e ∈ (getN (zS t d s) y).names, e ∈ (getN t y).names ∧ (y = d → e.name ≠ s) := by
 rw [vA hu hd]
 split
 ·rename_i h
  rw [h]
  intro e he
  exact ⟨(List.mem_filter.1 he).1, fun _ => by have := (List.mem_filter.1 he).2; simpa using this⟩
 ·rename_i h
  exact fun e he => ⟨he, fun hh => absurd hh h⟩
theorem vV {t : List Node} {x y : Int} (hu : Uniq t) (hy : y ≠ x) : getN (jO t x) y = getN t y := by
 unfold jO
 split
 ·rw [z20 hu]; simp [del, hy]
 ·rename_i hl
  rw [jA hu]
  unfold upd
  rw [if_neg]
  rcases jN t x with ⟨h1, _⟩ | ⟨_, h2⟩
  ·rw [h1] at hl; simp [zN] at hl
  ·intro hh
   have hh : y = (getN t x).ino := hh
   exact hy (hh.trans h2)
theorem TInv.remove {t : List Node} {o : Opn} (h : TInv t 1) (hdo : o.does = 4 ∨ o.does = 5) : TInv (wB t o).1 1 := by
 unfold wB
 split
 ·exact h
 ·rename_i h1
  split
  ·exact h
  ·rename_i h2
   have hd := jP (t := t) (s := o.a) (by simpa using h1)
   generalize zI t o.a = w at *
   obtain ⟨e0, he0, hs0, hi0⟩ := wC (l := (getN t w.1).names) (s := w.2.1) (by omega)
   have hge : 2 ≤ qE (getN t w.1).names w.2.1 := by rw [← hi0]; exact h.inv.ge2 _ e0 he0
   have hall : ∀ e ∈ (getN t w.1).names, e.name = w.2.1 → e.ino = qE (getN t w.1).names w.2.1 := fun e he hs => by
    rw [← hi0]; exact h.inv.un _ e he e0 he0 (hs.trans hs0.symm)
   generalize qE (getN t w.1).names w.2.1 = ino at *
   split
   ·exact h
   ·rename_i h3
    split
    ·exact h
    ·rename_i h4
     split
     ·exact h
     ·rename_i h5
      rcases hdo with d4 | d5
      ·have hk : (getN t ino).kind ≠ 2 := fun hh => h3 ⟨d4, hh⟩
       have hD := h.drop (d := w.1) (s := w.2.1) hd (fun e he hs => .inl (by rw [hall e he hs]; exact hk))
       exact hD.loses (by rw [(qQ h.uniq hd).1]; exact hk)
      ·have hk : (getN t ino).kind = 2 := Decidable.byContradiction fun hh => h4 ⟨d5, hh⟩
       have hn : (getN t ino).names = [] := by
        have : ¬ 0 < (getN t ino).names.length := fun hh => h5 ⟨d5, hh⟩
        exact List.length_eq_zero_iff.1 (by omega)
       have hne : ino ≠ w.1 := fun hh => by rw [← hh, hn] at he0; simp at he0
       have hD : TInv (zS t w.1 w.2.1) ino := TInv.drop ⟨h.uniq, h.inv.any⟩ hd (fun e he hs => .inr (hall e he hs))
       have hg : getN (zS t w.1 w.2.1) ino = getN t ino := by rw [vA h.uniq hd, if_neg hne]
       unfold jO
       rw [if_pos (by rw [hg, h.inv.ln ino hk]; omega)]
       refine ⟨z63 hD.uniq, ?_⟩
       rw [z20 hD.uniq]
       exact hD.inv.delDir (by omega) (by rw [hg]; exact hn)
theorem za8 {t : List Node} {x : Int} (h : (getN t x).kind = 2) : hasN t x = true := by
 unfold hasN
 cases hf : t.find? (fun n => decide (n.ino = x)) with
 | none => unfold getN at h; rw [hf] at h; simp [zN] at h
 | some n => rfl
theorem zok {t : List Node} {x : Int} (h : hasN t x = true) : x ∈ t.map (·.ino) := by
 unfold hasN at h
 cases hf : t.find? (fun n => decide (n.ino = x)) with
 | none => rw [hf] at h; cases h
 | some n =>
  have h1 := List.mem_of_find?_eq_some hf
  have h2 := List.find?_some hf
  exact List.mem_map.2 ⟨n, h1, by simpa using h2⟩
theorem z8u {t : List Node} {x : Int} (hr : (getN t 1).kind = 2) (h : Up (getN t) 0 x) : ∃ c, z51 t (x :: c) ∧ ∀ y ∈ x :: c, (getN t y).kind = 2 := by
 induction h with
 | root _ => exact ⟨[], ⟨za8 hr, rfl⟩, fun y hy => by simp at hy; rw [hy]; exact hr⟩
 | @step x a b c _ ih =>
  obtain ⟨l, h1, h2⟩ := ih
  refine ⟨_ :: l, ⟨za8 b, c, rfl, h1⟩, fun y hy => ?_⟩
  rcases List.mem_cons.1 hy with rfl | hy
  ·exact b
  ·exact h2 y hy
theorem z0v {t : List Node} : ∀ {c c' : List Int} {x : Int}, z51 t (x :: c) → z51 t (x :: c') → c = c'
 | [], [], x, _, _ => rfl
 | [], j :: r, x, h, h' => absurd h.2 h'.2.1
 | j :: r, [], x, h, h' => absurd h'.2 h.2.1
 | j :: r, j' :: r', x, h, h' => by
  have e : j = j' := h.2.2.1.symm.trans h'.2.2.1
  subst e
  rw [z0v h.2.2.2 h'.2.2.2]
theorem z2a {t : List Node} : ∀ {c : List Int} {x y : Int}, z51 t (x :: c) → y ∈ c → ∃ c', z51 t (y :: c') ∧ c'.length < c.length
 | [], x, y, _, hy => by simp at hy
 | j :: r, x, y, h, hy => by
  rcases List.mem_cons.1 hy with rfl | hy
  ·exact ⟨r, h.2.2.2, by simp⟩
  ·obtain ⟨c', h1, h2⟩ := z2a h.2.2.2 hy
   exact ⟨c', h1, by simp; omega⟩
theorem z5g {t : List Node} : ∀ {c : List Int} {x : Int}, z51 t (x :: c) → (x :: c).Nodup
 | [], x, _ => by simp
 | j :: r, x, h => by
  refine List.nodup_cons.2 ⟨fun hx => ?_, z5g h.2.2.2⟩
  obtain ⟨c', h1, h2⟩ := z2a h hx
  rw [z0v h1 h] at h2
  omega
theorem zdx {t : List Node} : ∀ {c : List Int} {x : Int}, z51 t (x :: c) → ∀ y ∈ x :: c, hasN t y = true
 | [], x, h, y, hy => by simp at hy; rw [hy]; exact h.1
 | j :: r, x, h, y, hy => by
  rcases List.mem_cons.1 hy with rfl | hy
  ·exact h.1
  ·exact zdx h.2.2.2 y hy
theorem zf3 : ∀ {l m : List Int}, l.Nodup → (∀ x ∈ l, x ∈ m) → l.length ≤ m.length
 | [], m, _, _ => Nat.zero_le _
 | x :: r, m, hn, hs => by
  obtain ⟨h1, h2⟩ := List.nodup_cons.1 hn
  have hx := hs x (by simp)
  have := zf3 (l := r) (m := m.erase x) h2 (fun y hy => (List.mem_erase_of_ne (fun h : y = x => h1 (by rw [← h]; exact hy))).2 (hs y (by simp [hy])))
  rw [List.length_erase_of_mem hx] at this
  have := List.length_pos_of_mem hx
  simp only [List.length_cons]
  omega
theorem zep {t : List Node} {c : List Int} {x : Int} (h : z51 t (x :: c)) : (x :: c).length ≤ t.length := by
 have := zf3 (m := t.map (·.ino)) (z5g h) (fun y hy => zok (zdx h y hy))
 rwa [List.length_map] at this
theorem z5z {t : List Node} {i : Int} : ∀ {c : List Int} {x : Int} {k : Nat}, z51 t (x :: c) → i ∈ x :: c → (x :: c).length ≤ k → wF t i k x = true
 | _, x, 0, _, _, hk => by simp at hk
 | [], x, k + 1, _, hi, _ => by simp at hi; rw [hi]; simp [wF]
 | j :: r, x, k + 1, h, hi, hk => by
  unfold wF
  split
  ·rfl
  ·rename_i hx
   rw [h.2.2.1]
   refine z5z h.2.2.2 ?_ (by simpa using hk)
   rcases List.mem_cons.1 hi with rfl | hi
   ·exact absurd rfl hx
   ·exact hi
theorem zi6 {t : List Node} {i : Int} : ∀ {c : List Int} {x : Int}, z51 t (x :: c) → (∀ y ∈ x :: c, (getN t y).kind = 2) → i ∉ x :: c → Up (getN t) i x
 | [], x, h, _, hi => by
  have hx : x = 1 := h.2
  rw [hx] at hi ⊢
  exact .root (fun hh => hi (by simp [hh]))
 | j :: r, x, h, hk, hi => by
  refine .step (fun hh => hi (by simp [hh])) (hk x (by simp)) h.2.1 ?_
  rw [h.2.2.1]
  exact zi6 h.2.2.2 (fun y hy => hk y (by simp [hy])) (fun hh => hi (by simp [hh]))
theorem zmt {t : List Node} {i d : Int} (h : TInv t 1) (hd : (getN t d).kind = 2) (hb : wF t i (t.length + 1) d = false) : Up (getN t) i d := by
 obtain ⟨c, h1, h2⟩ := z8u h.inv.root (h.inv.way d hd)
 refine zi6 h1 h2 fun hi => ?_
 rw [z5z h1 hi (by have := zep h1; omega)] at hb
 cases hb
theorem z4y {t : List Node} {d y x : Int} {s : List UInt8} (hu : Uniq t) (hd : (getN t d).kind = 2) : (getN (putN t d s x) y).kind = (getN t y).kind ∧ (getN (putN t d s x) y).parent = (getN t y).parent ∧ (y = d → ∀ e, e ∈ (getN (putN t d s x) y).names ↔ (e = ⟨s, x⟩ ∨ e ∈ (getN t d).names)) := by
 unfold putN
 rw [jA hu]
 unfold upd
 have hi : (getN t d).ino = d := jF hd
 simp only [hi]
 split
 ·rename_i h
  rw [h]
  refine ⟨rfl, rfl, fun _ e => ?_⟩
  exact mem_putA.trans (by simp)
 ·rename_i h
  exact ⟨rfl, rfl, fun hh => absurd hh h⟩
theorem TInv.rename {t : List Node} {o : Opn} (h : TInv t 1) : TInv (kA t o).1 1 := by
 unfold kA
 split
 ·exact h
 ·rename_i h1
  split
  ·exact h
  ·rename_i h2
   split
   ·exact h
   ·rename_i h3
    have hf := jP (t := t) (s := o.a) (by simpa using h1)
    have hd := jP (t := t) (s := o.b) (by simpa using h3)
    generalize zI t o.a = w at *
    generalize zI t o.b = v at *
    obtain ⟨f, old, _⟩ := w
    obtain ⟨d, s, _⟩ := v
    simp only at *
    obtain ⟨e0, he0, hs0, hi0⟩ := wC (l := (getN t f).names) (s := old) (by omega)
    have hge : 2 ≤ qE (getN t f).names old := by rw [← hi0]; exact h.inv.ge2 _ e0 he0
    have hall : ∀ e ∈ (getN t f).names, e.name = old → e.ino = qE (getN t f).names old := fun e he hs => by
     rw [← hi0]; exact h.inv.un _ e he e0 he0 (hs.trans hs0.symm)
    generalize qE (getN t f).names old = ino at *
    unfold z08
    split
    ·exact h
    ·rename_i h4
     split
     ·exact h
     ·rename_i h5
      split
      ·exact h
      ·rename_i h6
       split
       ·exact h
       ·rename_i h7
        unfold renamed
        by_cases hk : (getN t ino).kind = 2
        ·
         have hw : ¬ 0 ≤ qE (getN t d).names s := fun hh => h6 ⟨hh, hk⟩
         have hbl : wF t ino (t.length + 1) d = false := by
          cases hb : wF t ino (t.length + 1) d with
          | false => rfl
          | true => exact absurd ⟨hk, hb⟩ h5
         have hid : d ≠ ino := fun hh => by rw [hh] at hbl; simp [wF] at hbl
         have hup := zmt h hd hbl
         have hfresh := z0b (h.inv.ge2 d) (Int.not_le.1 hw)
         simp only [if_neg hw, if_pos hk]
         have hD : TInv (zS t f old) ino := TInv.drop ⟨h.uniq, h.inv.any⟩ hf (fun e he hs => .inr (hall e he hs))
         have hkd : (getN (zS t f old) d).kind = 2 := by rw [(qQ h.uniq hf).1]; exact hd
         have hP : TInv (putN (zS t f old) d s ino) ino := hD.put hkd (fun e he => hfresh e ((z1p h.uniq hf) e he).1) hge (fun hh => absurd rfl hh)
         have hk2 : ∀ y, (getN (putN (zS t f old) d s ino) y).kind = (getN t y).kind := fun y => by
          rw [(z4y hD.uniq hkd).1, (qQ h.uniq hf).1]
         have hp2 : ∀ y, (getN (putN (zS t f old) d s ino) y).parent = (getN t y).parent := fun y => by
          rw [(z4y hD.uniq hkd).2.1, (qQ h.uniq hf).2.1]
         refine ⟨vN hP.uniq, ?_⟩
         rw [jA hP.uniq]
         have hki : (getN (putN (zS t f old) d s ino) ino).kind = 2 := by rw [hk2]; exact hk
         exact hP.inv.move (i := ino) (d := d) (jF hki) hki hki (by omega) rfl rfl rfl (by rw [hk2]; exact hd) hid
          ⟨⟨s, ino⟩, ((z4y hD.uniq hkd).2.2 rfl _).2 (.inl rfl), rfl⟩ (hup.mono fun y hy _ => ⟨by rw [hk2]; exact hy, hp2 y⟩)
        ·
         simp only [if_neg hk]
         have main : ∀ u : List Node, TInv u 1 → (getN u f).kind = 2 → (getN u d).kind = 2 → (∀ e ∈ (getN u f).names, e ∈ (getN t f).names) → (∀ e ∈ (getN u d).names, e.name ≠ s) → (getN u ino).kind ≠ 2 → TInv (putN (zS u f old) d s ino) 1 := fun u hu kf kd nf nd ki => by
          have hD : TInv (zS u f old) 1 := hu.drop kf (fun e he hs => .inl (by rw [hall e (nf e he) hs]; exact ki))
          exact hD.put (by rw [(qQ hu.uniq kf).1]; exact kd) (fun e he => nd e ((z1p hu.uniq kf) e he).1) hge (fun hh => absurd rfl hh)
         split
         ·rename_i hw
          have hkw : (getN t (qE (getN t d).names s)).kind ≠ 2 := fun hh => h7 ⟨hw, hh⟩
          obtain ⟨e1, he1, hs1, hi1⟩ := wC hw
          have hall1 : ∀ e ∈ (getN t d).names, e.name = s → e.ino = qE (getN t d).names s := fun e he hs => by
           rw [← hi1]; exact h.inv.un _ e he e1 he1 (hs.trans hs1.symm)
          generalize qE (getN t d).names s = was at *
          have hD : TInv (zS t d s) 1 := h.drop hd (fun e he hs => .inl (by rw [hall1 e he hs]; exact hkw))
          have hL : TInv (jO (zS t d s) was) 1 := hD.loses (by rw [(qQ h.uniq hd).1]; exact hkw)
          have hnf : f ≠ was := fun hh => by rw [hh] at hf; exact hkw hf
          have hnd : d ≠ was := fun hh => by rw [hh] at hd; exact hkw hd
          refine main _ hL ?_ ?_ ?_ ?_ ?_
          ·rw [vV hD.uniq hnf, (qQ h.uniq hd).1]; exact hf
          ·rw [vV hD.uniq hnd, (qQ h.uniq hd).1]; exact hd
          ·rw [vV hD.uniq hnf]; exact fun e he => ((z1p h.uniq hd) e he).1
          ·rw [vV hD.uniq hnd]; exact fun e he => ((z1p h.uniq hd) e he).2 rfl
          ·rw [vV hD.uniq (fun hh => h4 hh.symm), (qQ h.uniq hd).1]; exact hk
         ·rename_i hw
          exact main t h hf hd (fun e he => he) (z0b (h.inv.ge2 d) (Int.not_le.1 hw)) hk
theorem TInv.step {t : List Node} {o : Opn} (h : TInv t 1) : TInv (qU t o).1 1 := by
 unfold qU
 split
 ·exact h
 ·rename_i hm
  repeat' split
  ·exact h.make
  ·exact h.link
  ·exact h.remove (by omega)
  ·exact h.rename
  ·exact h.bytes
  ·exact h
  ·exact h
theorem z6t (x : Int) : getN newN x = if x = 1 then ⟨1, 2, 1, 1, 0, [], []⟩ else zN := by
 unfold getN newN
 by_cases hx : x = 1
 ·subst hx; rfl
 ·have : ¬ (1 : Int) = x := fun hh => hx hh.symm
  simp [hx, this]
theorem TInv.new : TInv newN 1 := by
 have hn : ∀ x, (getN newN x).names = [] := fun x => by rw [z6t]; split <;> rfl
 have hk : ∀ x, (getN newN x).kind = 2 → x = 1 := fun x hx => by
  rw [z6t] at hx
  split at hx
  ·assumption
  ·simp [zN] at hx
 refine ⟨fun n hn m hm _ => ?_, ⟨rfl, fun x e he => by rw [hn] at he; simp at he, fun x e he => by rw [hn] at he; simp at he, fun x hx => by rw [hk x hx]; rfl, fun x hx n1 _ => absurd (hk x hx) n1, fun x hx => by rw [hk x hx]; exact .root (by omega), fun x hx => by rw [hk x hx]; omega⟩⟩
 simp only [newN, List.mem_singleton] at hn hm
 rw [hn, hm]
theorem TInv.play (l : List Opn) : TInv (zjk l) 1 := by
 have : ∀ (l : List Opn) (t : List Node), TInv t 1 → TInv (l.foldl (fun t o => (qU t o).1) t) 1 := fun l => by
  induction l with
  | nil => exact fun t h => h
  | cons o r ih => exact fun t h => ih _ h.step
 exact this l newN TInv.new
end Go.Proofs.Ytghllhghboaagaa
end
section
namespace Go.Proofs.Ytghllhghboaagaa
theorem zi7 : ∀ {a : List UInt8}, kV a a = false
 | [] => rfl
 | x :: a => by simp [kV, zi7 (a := a)]
theorem z79 : ∀ {a b c : List UInt8}, kV a b = true → kV b c = true → kV a c = true
 | [], [], _, h, _ => by cases h
 | [], _ :: _, [], _, h => by simp [kV] at h
 | [], _ :: _, _ :: _, _, _ => rfl
 | _ :: _, [], _, h, _ => by simp [kV] at h
 | _ :: _, _ :: _, [], _, h => by simp [kV] at h
 | x :: a, y :: b, z :: c, h1, h2 => by
  simp only [kV] at h1 h2 ⊢
  by_cases hxy : x = y
  ·subst hxy
   by_cases hxz : x = z
   ·subst hxz
    simp only [ne_eq, not_true_eq_false, if_false] at h1 h2 ⊢
    exact z79 h1 h2
   ·rw [if_pos hxz] at h2 ⊢
    exact h2
  ·rw [if_pos hxy, decide_eq_true_eq] at h1
   by_cases hyz : y = z
   ·subst hyz
    rw [if_pos hxy, decide_eq_true_eq]
    exact h1
   ·rw [if_pos hyz, decide_eq_true_eq] at h2
    have h3 : x < z := by rw [UInt8.lt_iff_toNat_lt] at *; omega
    have hne : x ≠ z := fun hh => by subst hh; rw [UInt8.lt_iff_toNat_lt] at h3; omega
    rw [if_pos hne, decide_eq_true_eq]
    exact h3
theorem zc8 : ∀ {a b : List UInt8}, kV b a = !(kV a b || a == b)
 | [], [] => rfl
 | [], _ :: _ => rfl
 | _ :: _, [] => rfl
 | x :: a, y :: b => by
  by_cases hxy : x = y
  ·subst hxy
   have := zc8 (a := a) (b := b)
   simp [kV, this]
  ·have hyx : y ≠ x := fun hh => hxy hh.symm
   have h1 : decide (y < x) = !(decide (x < y)) := by
    by_cases h : x < y
    ·have : ¬ y < x := by rw [UInt8.lt_iff_toNat_lt] at *; omega
     simp [h, this]
    ·have hn : x.toNat ≠ y.toNat := fun hh => hxy (UInt8.toNat_inj.1 hh)
     have : y < x := by rw [UInt8.lt_iff_toNat_lt] at *; omega
     simp [h, this]
   simp [kV, hxy, hyx, h1]
theorem zbp : ∀ {a b : List UInt8}, Op.bytesLess a b = kV a b
 | [], [] => rfl
 | [], _ :: _ => rfl
 | _ :: _, [] => rfl
 | x :: a, y :: b => by
  by_cases hxy : x = y
  ·subst hxy
   have h : ¬ x < x := by rw [UInt8.lt_iff_toNat_lt]; omega
   simp [kV, Op.bytesLess, zbp, h]
  ·simp [kV, Op.bytesLess, hxy]
def Ord (l : List Ent) : Prop := (l.map (·.name)).Pairwise fun a b => kV a b = true
theorem Ord.cons {e : Ent} {l : List Ent} : Ord (e :: l) ↔ (∀ x ∈ l, kV e.name x.name = true) ∧ Ord l := by
 unfold Ord
 rw [List.map_cons, List.pairwise_cons]
 simp
theorem Ord.nodup {l : List Ent} (h : Ord l) : (l.map (·.name)).Nodup := List.Pairwise.imp (fun {a b} h => fun hh => by rw [hh, zi7] at h; cases h) h
theorem Ord.filter {l : List Ent} {p : Ent → Bool} (h : Ord l) : Ord (l.filter p) := by
 unfold Ord at *
 exact h.sublist (List.filter_sublist.map _)
theorem z9n {s : List UInt8} {i : Int} : ∀ {l : List Ent}, putA s i true l = l
 | [] => rfl
 | e :: r => by simp [putA, z9n (l := r)]
theorem Ord.put {s : List UInt8} {i : Int} : ∀ {l : List Ent}, Ord l → (∀ e ∈ l, e.name ≠ s) → Ord (putA s i false l)
 | [], _, _ => by simp [putA, Ord]
 | e :: r, h, hs => by
  obtain ⟨h1, h2⟩ := Ord.cons.1 h
  cases hl : kV s e.name with
  | true =>
   have e1 : putA s i false (e :: r) = ⟨s, i⟩ :: e :: r := by simp [putA, hl, z9n]
   rw [e1]
   refine Ord.cons.2 ⟨fun x hx => ?_, h⟩
   rcases List.mem_cons.1 hx with rfl | hx
   ·exact hl
   ·exact z79 hl (h1 x hx)
  | false =>
   have e1 : putA s i false (e :: r) = e :: putA s i false r := by simp [putA, hl]
   have hes : kV e.name s = true := by
    rw [zc8 (a := s) (b := e.name), hl]
    have : ¬ s = e.name := fun hh => hs e (by simp) hh.symm
    simp [this]
   rw [e1]
   refine Ord.cons.2 ⟨fun x hx => ?_, Ord.put h2 (fun x hx => hs x (List.mem_cons_of_mem _ hx))⟩
   rcases mem_putA.1 hx with ⟨_, rfl⟩ | hx
   ·exact hes
   ·exact h1 x hx
theorem zr2 {s : List UInt8} {i : Int} : ∀ {l : List Ent} {k : Nat}, k ≤ l.length → (∀ j (h : j < l.length), j < k → kV s l[j].name = false) → (∀ h : k < l.length, kV s l[k].name = true) → putA s i false l = l.take k ++ ⟨s, i⟩ :: l.drop k
 | [], k, hk, _, _ => by
  have : k = 0 := by simpa using hk
  subst this
  rfl
 | e :: r, 0, hk, _, h2 => by
  have := h2 (by simp)
  simp only [List.getElem_cons_zero] at this
  simp [putA, this, z9n]
 | e :: r, k + 1, hk, h1, h2 => by
  have h0 := h1 0 (by simp) (by omega)
  simp only [List.getElem_cons_zero] at h0
  have ih := zr2 (s := s) (i := i) (l := r) (k := k) (by simpa using hk) (fun j h hj => by have := h1 (j + 1) (by simpa using h) (by omega); simpa using this) (fun h => by have := h2 (by simpa using h); simpa using this)
  simp [putA, h0, ih]
theorem zrt {l : List Ent} {k : Nat} (h : (l.map (·.name)).Nodup) (hk : k < l.length) : l.filter (fun e => decide (e.name ≠ l[k].name)) = l.take k ++ l.drop (k + 1) := by
 have hs : l = l.take k ++ l[k] :: l.drop (k + 1) := by rw [← List.drop_eq_getElem_cons hk, List.take_append_drop]
 generalize l[k] = e at *
 generalize l.take k = a at *
 generalize l.drop (k + 1) = b at *
 subst hs
 rw [List.map_append, List.map_cons, List.nodup_append] at h
 obtain ⟨_, h2, h3⟩ := h
 rw [List.nodup_cons] at h2
 rw [List.filter_append, List.filter_cons_of_neg (by simp), List.filter_eq_self.2, List.filter_eq_self.2]
 ·intro x hx
  rw [decide_eq_true_eq]
  exact fun hh => h2.1 (List.mem_map.2 ⟨x, hx, hh⟩)
 ·intro x hx
  rw [decide_eq_true_eq]
  exact fun hh => h3 _ (List.mem_map.2 ⟨x, hx, rfl⟩) _ (by simp) hh
def cp (l : List Ent) (x : Int) : Nat := l.countP fun e => decide (e.ino = x)
def cnt (t : List Node) (x : Int) : Nat := (t.map fun n => cp n.names x).sum
theorem zri (x : Int) : cnt [] x = 0 := rfl
theorem z28 (n : Node) (r : List Node) (x : Int) : cnt (n :: r) x = cp n.names x + cnt r x := by simp [cnt]
theorem zrd (x : Int) : cp [] x = 0 := rfl
theorem zad (e : Ent) (l : List Ent) (x : Int) : cp (e :: l) x = cp l x + if e.ino = x then 1 else 0 := by simp [cp, List.countP_cons]
theorem zrf {l : List Ent} {e : Ent} (h : e ∈ l) : cp l e.ino ≠ 0 := by
 have : 0 < cp l e.ino := List.countP_pos_iff.2 ⟨e, h, by simp⟩
 omega
theorem znn {t : List Node} {n : Node} (h : n ∈ t) (x : Int) : cp n.names x ≤ cnt t x := by
 induction t with
 | nil => cases h
 | cons m r ih =>
  rw [z28]
  rcases List.mem_cons.1 h with rfl | h
  ·omega
  ·have := ih h; omega
def Srt (t : List Node) : Prop := (t.map (·.ino)).Pairwise (· < ·)
theorem Srt.cons {n : Node} {r : List Node} : Srt (n :: r) ↔ (∀ m ∈ r, n.ino < m.ino) ∧ Srt r := by
 unfold Srt
 rw [List.map_cons, List.pairwise_cons]
 simp
theorem Srt.nodup {t : List Node} (h : Srt t) : (t.map (·.ino)).Nodup := List.Pairwise.imp (fun h => Int.ne_of_lt h) h
theorem Srt.uniq {t : List Node} (h : Srt t) : Uniq t := by
 induction t with
 | nil => intro n hn; cases hn
 | cons x r ih =>
  obtain ⟨h1, h2⟩ := Srt.cons.1 h
  intro n hn m hm he
  rcases List.mem_cons.1 hn with e | hn <;> rcases List.mem_cons.1 hm with e' | hm
  ·rw [e, e']
  ·have := h1 m hm; rw [e] at he; omega
  ·have := h1 n hn; rw [e'] at he; omega
  ·exact ih h2 n hn m hm he
theorem Srt.filter {t : List Node} {p : Node → Bool} (h : Srt t) : Srt (t.filter p) := by
 unfold Srt at *
 exact h.sublist (List.filter_sublist.map _)
theorem z2r {n : Node} : ∀ {l : List Node}, wL n true l = l.filter (fun m => m.ino ≠ n.ino)
 | [] => rfl
 | x :: r => by
  have ih := z2r (n := n) (l := r)
  by_cases h : x.ino = n.ino <;> simp [wL, h, ih]
theorem ze2 {n : Node} : ∀ {l : List Node}, Srt l → Srt (wL n false l)
 | [], _ => by simp [wL, Srt]
 | x :: r, h => by
  obtain ⟨h1, h2⟩ := Srt.cons.1 h
  by_cases hx : n.ino ≤ x.ino
  ·have e : wL n false (x :: r) = n :: (x :: r).filter (fun m => m.ino ≠ n.ino) := by
    rw [← z2r]
    simp [wL, hx]
   rw [e]
   refine Srt.cons.2 ⟨fun m hm => ?_, h.filter⟩
   obtain ⟨hm1, hm2⟩ := List.mem_filter.1 hm
   have hm2 : m.ino ≠ n.ino := by simpa using hm2
   rcases List.mem_cons.1 hm1 with rfl | hm1
   ·omega
   ·have := h1 m hm1; omega
  ·have e : wL n false (x :: r) = x :: wL n false r := by
    have : x.ino ≠ n.ino := by omega
    simp [wL, hx, this]
   rw [e]
   refine Srt.cons.2 ⟨fun m hm => ?_, ze2 h2⟩
   rcases zab.1 hm with ⟨_, rfl⟩ | ⟨hm1, _⟩
   ·omega
   ·exact h1 m hm1
theorem Srt.with {t : List Node} {n : Node} (h : Srt t) : Srt (qR t n) := ze2 h
theorem zdm {n : Node} {x : Int} : ∀ {l : List Node}, cnt (wL n false l) x = cp n.names x + cnt (l.filter (fun m => m.ino ≠ n.ino)) x
 | [] => by simp [wL, z28, zri]
 | y :: r => by
  by_cases hy : n.ino ≤ y.ino
  ·have e : wL n false (y :: r) = n :: (y :: r).filter (fun m => m.ino ≠ n.ino) := by
    rw [← z2r]
    simp [wL, hy]
   rw [e, z28]
  ·have e : wL n false (y :: r) = y :: wL n false r := by
    have : y.ino ≠ n.ino := by omega
    simp [wL, hy, this]
   have hne : y.ino ≠ n.ino := by omega
   rw [e, z28, zdm, List.filter_cons_of_pos (by simpa using hne), z28]
   omega
theorem zl1 (n : Node) (r : List Node) (i : Int) : getN (n :: r) i = if n.ino = i then n else getN r i := by
 unfold getN
 by_cases h : n.ino = i
 ·rw [if_pos h, List.find?_cons_of_pos (by simpa using h)]; rfl
 ·rw [if_neg h, List.find?_cons_of_neg (by simpa using h)]
theorem z7r {i x : Int} : ∀ {t : List Node}, Srt t → cnt (t.filter (fun m => m.ino ≠ i)) x + cp (getN t i).names x = cnt t x
 | [], _ => rfl
 | n :: r, h => by
  obtain ⟨h1, h2⟩ := Srt.cons.1 h
  have ih := z7r (i := i) (x := x) h2
  rw [zl1]
  by_cases hn : n.ino = i
  ·rw [if_pos hn, List.filter_cons_of_neg (by simpa using hn), z28]
   have : r.filter (fun m => m.ino ≠ i) = r := List.filter_eq_self.2 fun m hm => by have := h1 m hm; simp; omega
   rw [this]; omega
  ·rw [if_neg hn, List.filter_cons_of_pos (by simpa using hn), z28, z28]
   omega
theorem zhp {t : List Node} {n : Node} {x : Int} (h : Srt t) : cnt (qR t n) x + cp (getN t n.ino).names x = cnt t x + cp n.names x := by
 have := z7r (i := n.ino) (x := x) h
 unfold qR
 rw [zdm]
 omega
theorem zl5 {s : List UInt8} {i x : Int} : ∀ {l : List Ent} {b : Bool}, cp (putA s i b l) x = cp l x + if b = false ∧ i = x then 1 else 0
 | [], b => by cases b <;> simp [putA, zad, zrd]
 | e :: r, b => by
  have ih := zl5 (s := s) (i := i) (x := x) (l := r) (b := b || kV s e.name)
  cases b <;> cases hl : kV s e.name <;> simp only [hl, Bool.or_true, Bool.or_false, Bool.true_or, Bool.false_or] at ih <;> simp [putA, zad, hl, ih] <;> split <;> omega
theorem zgf {s : List UInt8} {i x : Int} : ∀ {l : List Ent}, (l.map (·.name)).Nodup → (∃ e ∈ l, e.name = s ∧ e.ino = i) → cp (l.filter (fun e => decide (e.name ≠ s))) x + (if i = x then 1 else 0) = cp l x
 | [], _, h => by obtain ⟨e, he, _⟩ := h; cases he
 | e :: r, hn, h => by
  rw [List.map_cons, List.nodup_cons] at hn
  obtain ⟨h1, h2⟩ := hn
  by_cases hs : e.name = s
  ·have hi : e.ino = i := by
    obtain ⟨e', he', hs', hi'⟩ := h
    rcases List.mem_cons.1 he' with rfl | he'
    ·exact hi'
    ·exact absurd (List.mem_map.2 ⟨e', he', hs'.trans hs.symm⟩) h1
   rw [List.filter_cons_of_neg (by simpa using hs), zad, hi]
   have : r.filter (fun e => decide (e.name ≠ s)) = r := List.filter_eq_self.2 fun m hm => by
    simp only [decide_eq_true_eq]
    exact fun hh => h1 (List.mem_map.2 ⟨m, hm, hh.trans hs.symm⟩)
   rw [this]
  ·have ih := zgf (x := x) h2 (by
    obtain ⟨e', he', hs', hi'⟩ := h
    rcases List.mem_cons.1 he' with rfl | he'
    ·exact absurd hs' hs
    ·exact ⟨e', he', hs', hi'⟩)
   rw [List.filter_cons_of_pos (by simpa using hs), zad, zad]
   omega
end Go.Proofs.Ytghllhghboaagaa
end
