/- num.With, num.Lay, num.Of: numbers and bytes laid into a block. -/
import Derived.Test.YtobgdmgldagjkaaG06
set_option linter.unusedVariables false
set_option linter.unusedSimpArgs false
set_option maxRecDepth 100000
set_option maxHeartbeats 4000000
set_option linter.defProp false
section
namespace Go.Proofs.Ytobgdmgldagjkaa
open Go.Vm
section
variable {ops : Array Oper} {dst : Option Tmp} {k : List Oper} {T : List V} {S : Store} {F : Dfs} {Q : Post}
theorem z3a {a w n : Nat} (ha : a ≤ 1000000) (hw : w ≤ 1000000) (hn : n ≤ 1000000) : WpR cfg ops dst k T S F Q (some (.enter 116 [.d (.int .i64 (a : Int)), .d (.int .i64 (w : Int)), .d (.int .i64 (n : Int))])) = WpL cfg ops k (putT T dst (.d (.bool (decide (1 ≤ w ∧ a + w ≤ n))))) S F Q :=
 qA (ds := [.int .i64 (a : Int), .int .i64 (w : Int), .int .i64 (n : Int)]) rfl (zod a w n ha hw hn)
end
theorem zvt (b : List UInt8) (hb : b.length = 256) (k0 w v : Nat) (hk0 : k0 + w ≤ 256) (hw4 : w ≤ 4) (z : V) (R : Post) : ∀ (k i : Nat) (u : V) (g0 g5 g6 g7 g9 gM gF gG gB gC gA gE gH gI gN gK gJ gO gP gW gT gU gQ gR gS gV gX gY : V), w - i = k → i ≤ w → IsB u (layB b k0 (leB i v)) →
 (∀ u i' g0 g5 g6 g7 g9 gM gF gG gB gC gA gE gH gI gN gK gJ gO gP gW gT gU gQ gR gS gV gX gY, IsB u (layB b k0 (leB w v)) → R (.exit 0) (g0 :: (.d (.int .i64 (k0 : Int))) :: (.d (.int .i64 (w : Int))) :: (.d (.int .i64 (v : Int))) :: (.ref 0 0 0) :: g5 :: g6 :: g7 :: (.ref 1 0 0) :: g9 :: gM :: gF :: gG :: gB :: gC :: gA :: gE :: gH :: gI :: (.d (.int .i64 (w : Int))) :: i' :: gN :: gK :: gJ :: gO :: gP :: gW :: gT :: gU :: gQ :: gR :: gS :: gV :: gX :: gY :: []) [.row [u] 42, .row [z] 42] []) →
 Wp cfg (.loop (lpOf (Try.f87.body.getD .skip) 0)) (g0 :: (.d (.int .i64 (k0 : Int))) :: (.d (.int .i64 (w : Int))) :: (.d (.int .i64 (v : Int))) :: (.ref 0 0 0) :: g5 :: g6 :: g7 :: (.ref 1 0 0) :: g9 :: gM :: gF :: gG :: gB :: gC :: gA :: gE :: gH :: gI :: (.d (.int .i64 (w : Int))) :: (.d (.int .i64 (i : Int))) :: gN :: gK :: gJ :: gO :: gP :: gW :: gT :: gU :: gQ :: gR :: gS :: gV :: gX :: gY :: []) [.row [u] 42, .row [z] 42] [] R := by
 intro k
 induction k with
 | zero =>
  intro i u g0 g5 g6 g7 g9 gM gF gG gB gC gA gE gH gI gN gK gJ gO gP gW gT gU gQ gR gS gV gX gY hk hi hu hR
  have hie : i = w := by omega
  subst hie
  rw [zR]
  refine zJ ?_
  conv => arg 2; whnf
  simp (maxSteps:=1000000) (disch:=first|assumption|omega|rfl) only [↓gp, gc, Nat.reduceAdd]
  exact hR _ _ _ _ _ _ _ _ _ _ _ _ _ _ _ _ _ _ _ _ _ _ _ _ _ _ _ _ _ _ hu
 | succ k ih =>
  intro i u g0 g5 g6 g7 g9 gM gF gG gB gC gA gE gH gI gN gK gJ gO gP gW gT gU gQ gR gS gV gX gY hk hi hu hR
  have hlt : i < w := by omega
  have hl : (layB b k0 (leB i v)).length = 256 := by rw [qU (by rw [qK]; omega), hb]
  have h1 : IntKind.i64.wrap ((k0 : Int) + (i : Int)) = ((k0 + i : Nat) : Int) := by rw [wrap64 (by omega)]; omega
  have h2 : IntKind.i64.wrap (8 * (i : Int)) = ((8 * i : Nat) : Int) := by rw [wrap64 (by omega)]; omega
  have h3 : IntKind.i64.wrap ((i : Int) + 1) = ((i + 1 : Nat) : Int) := by rw [wrap64 (by omega)]; omega
  have hcv := fun S => cvu (S := S) (i := 8 * i) (by omega)
  have hsh := fun K' => zq6 (K := .i64) (K' := K') (t := 3) (v := v) (i := i) rfl (by omega)
  have hia := fun S j x => ia42 (S := S) (j := j) (x := x) (i := k0 + i) (by omega)
  have hc5 := fun S => cv35 (S := S) (n := v / 256 ^ i)
  have hp := bt42.put hu hl (i := k0 + i) (by omega) (x := UInt8.ofNat (v / 256 ^ i % 256))
  have e : (layB b k0 (leB i v)).set (k0 + i) (UInt8.ofNat (v / 256 ^ i % 256)) = layB b k0 (leB (i + 1) v) := by
   rw [zgj, z4n (by rw [qK]; omega), qK]
  rw [e] at hp
  rw [zR]
  refine zJ ?_
  conv => arg 2; whnf
  simp (maxSteps:=1000000) (disch:=first|assumption|omega|rfl) only [↓gp, gc, Nat.reduceAdd, h1, h2, h3, hcv, hsh, hia, hc5, hp]
  exact ih (i + 1) _ _ _ _ _ _ _ _ _ _ _ _ _ _ _ _ _ _ _ _ _ _ _ _ _ _ _ _ _ (by omega) (by omega) isB_v hR
theorem zqp (b : List UInt8) (hb : b.length = 256) (k0 w v : Nat) (hk0 : k0 + w ≤ 256) (hw1 : 1 ≤ w) (hw4 : w ≤ 4) : Ev cfg 87 [blkD b, .int .i64 (k0 : Int), .int .i64 (w : Int), .int .i64 (v : Int)] (.ret (.d (blkD (layB b k0 (leB w v))))) := by
 refine jW rfl rfl zu4 ?_
 show Wp cfg (Try.f87.body.getD .skip) ((.d (blkD b)) :: (.d (.int .i64 (k0 : Int))) :: (.d (.int .i64 (w : Int))) :: (.d (.int .i64 (v : Int))) :: uZ (uZ (uZ ((.tup []) :: [])))) [] [] _
 unfold uZ
 conv => arg 2; whnf
 have c4 : ¬ (w : Int) > 4 := by omega
 have ct := fun {ops dst k T S F Q} => z3a (ops := ops) (dst := dst) (k := k) (T := T) (S := S) (F := F) (Q := Q) (a := k0) (w := w) (n := 256) (by omega) (by omega) (by omega)
 rw [decide_eq_true (show 1 ≤ w ∧ k0 + w ≤ 256 from ⟨hw1, hk0⟩)] at ct
 simp only [nl0, nl1, nl2, nl4, nl8, nl10, nl12, nl16, nl20, zha] at ct
 have hll : (layB b k0 (leB w v)).length = 256 := by rw [qU (by rw [qK]; omega), hb]
 have hf := fd42 hb
 simp (maxSteps:=1000000) (disch:=first|assumption|omega|rfl) only [↓gp, gc, Nat.reduceAdd, z42, zf42, hf, ct, zka]
 refine zvt b hb k0 w v hk0 hw4 _ _ w 0 _ _ _ _ _ _ _ _ _ _ _ _ _ _ _ _ _ _ _ _ _ _ _ _ _ _ _ _ _ rfl (Nat.zero_le _) (by rw [show leB 0 v = [] from rfl, z7b]; exact jL) ?_
 intro u i' g0 g5 g6 g7 g9 gM gF gG gB gC gA gE gH gI gN gK gJ gO gP gW gT gU gQ gR gS gV gX gY hu
 have hld := bt42.load hu hll
 have hst := bt42.store hu hll (w := blkV (zC 256)) isB_v z256
 simp (maxSteps:=1000000) (disch:=first|assumption|omega|rfl) only [↓gp, gc, Nat.reduceAdd, hld, hst]
 exact wK (u := .ref 1 0 0) (v := u) rfl ((zM rfl).trans hld) hu.one (hu.frz (n := 10))
theorem q2j (b : List UInt8) (hb : b.length = 256) (k0 : Nat) (d : List UInt8) (hk0 : k0 + d.length ≤ 256) (z : V) (R : Post) : ∀ (k i : Nat) (u : V) (g0 g4 g5 g7 g8 g9 gM gF gG gB gC gA gD gL gN gK gJ gO gP gW gT gU gQ gR gS gV gX : V), d.length - i = k → i ≤ d.length → IsB u (layB b k0 (d.take i)) →
 (∀ u i' g0 g4 g5 g7 g8 g9 gM gF gG gB gC gA gD gL gN gK gJ gO gP gW gT gU gQ gR gS gV gX, IsB u (layB b k0 d) → R (.exit 0) (g0 :: (.d (.int .i64 (k0 : Int))) :: (.d (encB d)) :: (.ref 0 0 0) :: g4 :: g5 :: (.ref 1 0 0) :: g7 :: g8 :: g9 :: gM :: gF :: gG :: gB :: gC :: gA :: (.d (encB d)) :: (.d (.int .i64 d.length)) :: i' :: gD :: gL :: gN :: gK :: gJ :: gO :: gP :: gW :: gT :: gU :: gQ :: gR :: gS :: gV :: gX :: []) [.row [u] 42, .row [z] 42] []) →
 Wp cfg (.loop (lpOf (Try.f89.body.getD .skip) 0)) (g0 :: (.d (.int .i64 (k0 : Int))) :: (.d (encB d)) :: (.ref 0 0 0) :: g4 :: g5 :: (.ref 1 0 0) :: g7 :: g8 :: g9 :: gM :: gF :: gG :: gB :: gC :: gA :: (.d (encB d)) :: (.d (.int .i64 d.length)) :: (.d (.int .i64 (i : Int))) :: gD :: gL :: gN :: gK :: gJ :: gO :: gP :: gW :: gT :: gU :: gQ :: gR :: gS :: gV :: gX :: []) [.row [u] 42, .row [z] 42] [] R := by
 intro k
 induction k with
 | zero =>
  intro i u g0 g4 g5 g7 g8 g9 gM gF gG gB gC gA gD gL gN gK gJ gO gP gW gT gU gQ gR gS gV gX hk hi hu hR
  have hie : i = d.length := by omega
  subst hie
  rw [List.take_length] at hu
  rw [zR]
  refine zJ ?_
  conv => arg 2; whnf
  simp (maxSteps:=1000000) (disch:=first|assumption|omega|rfl) only [↓gp, gc, Nat.reduceAdd]
  exact hR _ _ _ _ _ _ _ _ _ _ _ _ _ _ _ _ _ _ _ _ _ _ _ _ _ _ _ _ _ hu
 | succ k ih =>
  intro i u g0 g4 g5 g7 g8 g9 gM gF gG gB gC gA gD gL gN gK gJ gO gP gW gT gU gQ gR gS gV gX hk hi hu hR
  have hlt : i < d.length := by omega
  have htl : (d.take i).length = i := by rw [List.length_take]; omega
  have hl : (layB b k0 (d.take i)).length = 256 := by rw [qU (by rw [htl]; omega), hb]
  have h1 : IntKind.i64.wrap ((k0 : Int) + (i : Int)) = ((k0 + i : Nat) : Int) := by rw [wrap64 (by omega)]; omega
  have h2 : IntKind.i64.wrap (256 - (k0 : Int)) = 256 - (k0 : Int) := wrap64 (by omega)
  have h4 : ¬ (i : Int) ≥ 256 - (k0 : Int) := by omega
  have h3 : IntKind.i64.wrap ((i : Int) + 1) = ((i + 1 : Nat) : Int) := by rw [wrap64 (by omega)]; omega
  have hix := fun S => ix40 (S := S) (l := d) hlt
  have hia := fun S j x => ia42 (S := S) (j := j) (x := x) (i := k0 + i) (by omega)
  have hp := bt42.put hu hl (i := k0 + i) (by omega) (x := d[i])
  have e : (layB b k0 (d.take i)).set (k0 + i) d[i] = layB b k0 (d.take (i + 1)) := by
   rw [List.take_add_one, List.getElem?_eq_getElem hlt]
   show _ = layB b k0 (d.take i ++ [d[i]])
   rw [z4n (by rw [htl]; omega), htl]
  rw [e] at hp
  rw [zR]
  refine zJ ?_
  conv => arg 2; whnf
  simp (maxSteps:=1000000) (disch:=first|assumption|omega|rfl) only [↓gp, gc, Nat.reduceAdd, encB, h1, h2, h3, hix, hia, hp]
  exact ih (i + 1) _ _ _ _ _ _ _ _ _ _ _ _ _ _ _ _ _ _ _ _ _ _ _ _ _ _ _ _ (by omega) (by omega) isB_v hR
theorem zxf (b : List UInt8) (hb : b.length = 256) (k0 : Nat) (hk : k0 < 256) (d : List UInt8) (hk0 : k0 + d.length ≤ 256) : Ev cfg 89 [blkD b, .int .i64 (k0 : Int), encB d] (.ret (.d (blkD (layB b k0 d)))) := by
 refine jW rfl rfl zya ?_
 show Wp cfg (Try.f89.body.getD .skip) ((.d (blkD b)) :: (.d (.int .i64 (k0 : Int))) :: (.d (encB d)) :: uZ (uZ (uZ ((.tup []) :: [])))) [] [] _
 unfold uZ
 conv => arg 2; whnf
 have c1 : ¬ (k0 : Int) < 0 := by omega
 have c2 : ¬ (k0 : Int) ≥ 256 := by omega
 have hll : (layB b k0 d).length = 256 := by rw [qU (by omega), hb]
 have hf := fd42 hb
 have hln : ∀ S : Store, zI Try.prog S .len [40] [.d (encB d)] = some (.val (.d (.int .i64 d.length)) S 0) := fun S => by rw [encB, zmp, List.length_map]
 simp (maxSteps:=1000000) (disch:=first|assumption|omega|rfl) only [↓gp, gc, Nat.reduceAdd, z42, zf42, hf, hln]
 refine q2j b hb k0 d hk0 _ _ d.length 0 _ _ _ _ _ _ _ _ _ _ _ _ _ _ _ _ _ _ _ _ _ _ _ _ _ _ _ _ rfl (Nat.zero_le _) (by rw [List.take_zero, z7b]; exact jL) ?_
 intro u i' g0 g4 g5 g7 g8 g9 gM gF gG gB gC gA gD gL gN gK gJ gO gP gW gT gU gQ gR gS gV gX hu
 have hld := bt42.load hu hll
 have hst := bt42.store hu hll (w := blkV (zC 256)) isB_v z256
 simp (maxSteps:=1000000) (disch:=first|assumption|omega|rfl) only [↓gp, gc, Nat.reduceAdd, hld, hst]
 exact wK (u := .ref 1 0 0) (v := u) rfl ((zM rfl).trans hld) hu.one (hu.frz (n := 10))
theorem bd42 : wP Try.prog 42 [] = some (blkV (zC 256)) := by kernel_rfl
section
variable {ops : Array Oper} {dst : Option Tmp} {k : List Oper} {T : List V} {S : Store} {F : Dfs} {Q : Post}
theorem zfc {u : V} {b d : List UInt8} (hu : IsB u b) (hb : b.length = 256) {k0 : Nat} (hk : k0 < 256) (hk0 : k0 + d.length ≤ 256) : WpR cfg ops dst k T S F Q (some (.enter 89 [u, .d (.int .i64 (k0 : Int)), .d (encB d)])) = WpL cfg ops k (putT T dst (.d (blkD (layB b k0 d)))) S F Q :=
 wJ (ds := [blkD b, .int .i64 (k0 : Int), encB d]) rfl (by simp only [allO, hu.frz (n := 10), zH]; rfl) (by rw [List.flatMap_cons, hu.frzIds]; rfl) (zxf b hb k0 hk d hk0)
theorem vQ {u : V} {b : List UInt8} (hu : IsB u b) (hb : b.length = 256) {k0 w v : Nat} (hk0 : k0 + w ≤ 256) (hw1 : 1 ≤ w) (hw4 : w ≤ 4) : WpR cfg ops dst k T S F Q (some (.enter 87 [u, .d (.int .i64 (k0 : Int)), .d (.int .i64 (w : Int)), .d (.int .i64 (v : Int))])) = WpL cfg ops k (putT T dst (.d (blkD (layB b k0 (leB w v))))) S F Q :=
 wJ (ds := [blkD b, .int .i64 (k0 : Int), .int .i64 (w : Int), .int .i64 (v : Int)]) rfl (by simp only [allO, hu.frz (n := 10), zH]; rfl) (by rw [List.flatMap_cons, hu.frzIds]; rfl) (zqp b hb k0 w v hk0 hw1 hw4)
end
theorem zu6 (d : List UInt8) (hd : d.length ≤ 256) : Ev cfg 86 [encB d] (.ret (.d (blkD (layB (zC 256) 0 d)))) := by
 refine jW rfl rfl zyi ?_
 show Wp cfg (Try.f86.body.getD .skip) ((.d (encB d)) :: (.tup []) :: (.tup []) :: (.tup []) :: (.tup []) :: (.tup []) :: []) [] [] _
 conv => arg 2; whnf
 have hll : (layB (zC 256) 0 d).length = 256 := by rw [qU (by rw [z256]; omega), z256]
 have hc := fun {ops dst k T S F Q} => zfc (ops := ops) (dst := dst) (k := k) (T := T) (S := S) (F := F) (Q := Q) (u := blkV (zC 256)) (b := zC 256) (d := d) isB_v z256 (k0 := 0) (by omega) (by omega)
 have hst := z7y hll z256
 have h1 : (blkV (zC 256)).one = true := rfl
 simp only [nl0, nl1, nl2, nl4, nl8, nl10, nl12, nl16, nl20, zha] at hc
 simp (maxSteps:=1000000) (disch:=first|assumption|omega|rfl) only [↓gp, gc, Nat.reduceAdd, z42, zf42, bd42, hc, bo89, hst, h1]
 exact wK (u := .ref 0 0 0) (v := .d (blkD (layB (zC 256) 0 d))) rfl ((zM rfl).trans (z04 hll)) rfl rfl
def rowY (d : List UInt8) : Ob := .row (d.map fun x => V.d (byD x)) 5
section
variable {S : Store} {id n i : Nat} {d : List UInt8}
theorem ixY (hS : S[id]? = some (rowY d)) (hi : i < n) : zE Try.prog S 40 (.rs id 0 n) (.d (.int .i64 (i : Int))) = some (.ref id i 0) := by
 have h1 : rowT S id 5 = true := by unfold rowT; rw [hS]; rfl
 have h2 : (sz Try.prog 5).isSome = true := by kernel_rfl
 simp only [zE, intOf?, Try.underlying40]
 rw [if_pos ⟨⟨by omega, by omega⟩, h1, h2⟩]
 simp
theorem zpp (hS : S[id]? = some (rowY d)) (hi : i < d.length) : rowE S id i = some (.d (.int .u8 (d[i].toNat : Int))) := by
 unfold rowE
 rw [hS]
 simp only [rowY, List.getElem?_map, List.getElem?_eq_getElem hi, Option.map_some]
 rfl
theorem zxl (hS : S[id]? = some (rowY d)) {x : UInt8} : jF S id i (.d (.int .u8 (x.toNat : Int))) = some (S.set id (rowY (d.set i x))) := by
 unfold jF
 rw [hS]
 simp only [rowY, List.map_set]
 rfl
theorem zsq (hS : S[id]? = some (rowY d)) (hn : n = d.length) : Go.Vm.frz S zH (.rs id 0 n) = some (encB d) := by
 subst hn
 show (match S[id]? with
  | some (.row xs e) => if 0 + d.length ≤ xs.length && (allO (Go.Vm.frz S 11) xs).isSome then (allO (Go.Vm.frz S 11) ((xs.drop 0).take d.length)).map D.sl else none
  | some (.fz xs e) => if 0 + d.length ≤ xs.length then some (D.sl ((xs.drop 0).take d.length)) else none
  | _ => none) = _
 rw [hS]
 have h2 : ((d.map fun x => V.d (byD x)).drop 0).take d.length = d.map fun x => V.d (byD x) := by rw [List.drop_zero, List.take_of_length_le (by simp)]
 simp only [rowY, zbc, h2, List.length_map, Nat.zero_add, Nat.le_refl, decide_true, Option.isSome_some, Bool.and_self, if_true, Option.map_some]
 rfl
theorem mk40 (h : n ≤ 1000000) : jG Try.prog S 40 (.d (.int .i64 (n : Int))) (.d (.int .i64 (n : Int))) = some (.rs S.length 0 n, S ++ [rowY (zC n)]) := by
 have hz : zeroV Try.prog 5 = some (.d (.int .u8 0)) := by kernel_rfl
 have hf : zZ Try.prog 5 (.d (.int .u8 0)) = true := by kernel_rfl
 have hr : room Try.prog 5 n = true := zgo h
 have e : List.replicate n (V.d (.int .u8 0)) = (zC n).map fun x => V.d (byD x) := by unfold zC; rw [List.map_replicate]; rfl
 simp only [jG, Try.underlying40, hz, Int.toNat_natCast, hr, hf, Bool.and_self, if_true]
 rw [if_pos ⟨by omega, Int.le_refl _, by omega⟩, e]
 rfl
end
theorem st5 {a b : Int} : qI Try.prog 5 0 (.d (.int .u8 a)) (.d (.int .u8 b)) = some (.d (.int .u8 a)) := by kernel_rfl
theorem min_le {S : Store} {a b : Int} (h : a ≤ b) : zI Try.prog S .min [3, 3] [.d (.int .i64 a), .d (.int .i64 b)] = some (.val (.d (.int .i64 a)) S 0) := by
 simp only [zI, zdc, zmv, if_true]
 rw [if_neg (by omega)]
 rfl
theorem max_le {S : Store} {a b : Int} (h : a ≤ b) : zI Try.prog S .max [3, 3] [.d (.int .i64 a), .d (.int .i64 b)] = some (.val (.d (.int .i64 b)) S 0) := by
 simp only [zI, zdc, zno, if_true]
 by_cases hh : b > a
 ·rw [if_pos hh]; rfl
 ·have : a = b := by omega
  subst this; rw [if_neg hh]; rfl
def wF (t : List UInt8) (i : Nat) : List UInt8 := t.take i ++ zC (t.length - i)
theorem z4z {t : List UInt8} {i : Nat} (h : i ≤ t.length) : (wF t i).length = t.length := by unfold wF; simp [zC]; omega
theorem z5b {t : List UInt8} {i : Nat} (h : i < t.length) : (wF t i).set i t[i] = wF t (i + 1) := by
 unfold wF zC
 obtain ⟨m, hm⟩ : ∃ m, t.length - i = m + 1 := ⟨t.length - i - 1, by omega⟩
 have h1 : (t.take i).length = i := by rw [List.length_take]; omega
 rw [List.set_append_right _ _ (by omega), h1, Nat.sub_self, hm, List.replicate_succ, List.set_cons_zero, List.take_add_one, List.getElem?_eq_getElem h]
 have : t.length - (i + 1) = m := by omega
 rw [this, List.append_assoc]
 rfl
theorem zzo (b : List UInt8) (hb : b.length = 256) (k0 : Nat) (t : List UInt8) (ht : t = (b.drop k0).take t.length) (hk0 : k0 + t.length ≤ 256) (x6 : V) (R : Post) : ∀ (k i : Nat) (g0 g2 g4 g5 g8 g9 gM gF gG gB gC gA gE gH gI gD gL gN gK gJ gO gT gU gQ gR gS gV gX gY gf gg gZ gh : V), t.length - i = k → i ≤ t.length →
 (∀ i' g0 g2 g4 g5 g8 g9 gM gF gG gB gC gA gE gH gI gD gL gN gK gJ gO gT gU gQ gR gS gV gX gY gf gg gZ gh, R (.exit 0) (g0 :: (.d (.int .i64 (k0 : Int))) :: g2 :: (.ref 0 0 0) :: g4 :: g5 :: x6 :: (.rs 1 0 t.length) :: g8 :: g9 :: gM :: gF :: gG :: gB :: gC :: gA :: gE :: gH :: gI :: gD :: gL :: gN :: gK :: gJ :: gO :: (.d (.int .i64 (t.length : Int))) :: i' :: gT :: gU :: gQ :: gR :: gS :: gV :: gX :: gY :: gf :: gg :: gZ :: gh :: []) [.row [.d (blkD b)] 42, rowY t] []) →
 Wp cfg (.loop (lpOf (Try.f69.body.getD .skip) 0)) (g0 :: (.d (.int .i64 (k0 : Int))) :: g2 :: (.ref 0 0 0) :: g4 :: g5 :: x6 :: (.rs 1 0 t.length) :: g8 :: g9 :: gM :: gF :: gG :: gB :: gC :: gA :: gE :: gH :: gI :: gD :: gL :: gN :: gK :: gJ :: gO :: (.d (.int .i64 (t.length : Int))) :: (.d (.int .i64 (i : Int))) :: gT :: gU :: gQ :: gR :: gS :: gV :: gX :: gY :: gf :: gg :: gZ :: gh :: []) [.row [.d (blkD b)] 42, rowY (wF t i)] [] R := by
 intro k
 induction k with
 | zero =>
  intro i g0 g2 g4 g5 g8 g9 gM gF gG gB gC gA gE gH gI gD gL gN gK gJ gO gT gU gQ gR gS gV gX gY gf gg gZ gh hk hi hR
  have hie : i = t.length := by omega
  subst hie
  have e : wF t t.length = t := by unfold wF zC; simp
  rw [e]
  rw [zR]
  refine zJ ?_
  conv => arg 2; whnf
  simp (maxSteps:=1000000) (disch:=first|assumption|omega|rfl) only [↓gp, gc, Nat.reduceAdd]
  exact hR _ _ _ _ _ _ _ _ _ _ _ _ _ _ _ _ _ _ _ _ _ _ _ _ _ _ _ _ _ _ _ _ _ _
 | succ k ih =>
  intro i g0 g2 g4 g5 g8 g9 gM gF gG gB gC gA gE gH gI gD gL gN gK gJ gO gT gU gQ gR gS gV gX gY gf gg gZ gh hk hi hR
  have hlt : i < t.length := by omega
  have hl := z4z (t := t) (i := i) (by omega)
  have h1 : IntKind.i64.wrap ((k0 : Int) + (i : Int)) = ((k0 + i : Nat) : Int) := by rw [wrap64 (by omega)]; omega
  have h3 : IntKind.i64.wrap ((i : Int) + 1) = ((i + 1 : Nat) : Int) := by rw [wrap64 (by omega)]; omega
  have hia := fun S j x => ia42 (S := S) (j := j) (x := x) (i := k0 + i) (by omega)
  have hg := bt42.get (v := .d (blkD b)) jL hb (i := k0 + i) (by omega)
  have he : b[k0 + i] = t[i] := by
   have : t[i] = ((b.drop k0).take t.length)[i]'(by rw [← ht]; exact hlt) := by congr 1
   rw [this]; simp
  rw [he] at hg
  have hS : ([.row [.d (blkD b)] 42, rowY (wF t i)] : Store)[1]? = some (rowY (wF t i)) := rfl
  have hix := ixY (n := t.length) (i := i) hS hlt
  have hrw := zpp (i := i) hS (by omega)
  have hpt := zxl (i := i) hS (x := t[i])
  rw [z5b hlt] at hpt
  have hpt : jF [.row [.d (blkD b)] 42, rowY (wF t i)] 1 i (.d (.int .u8 (t[i].toNat : Int))) = some [.row [.d (blkD b)] 42, rowY (wF t (i + 1))] := hpt
  rw [zR]
  refine zJ ?_
  conv => arg 2; whnf
  simp (maxSteps:=1000000) (disch:=first|assumption|omega|rfl) only [↓gp, gc, Nat.reduceAdd, h1, h3, hia, hg, hix, hrw, st5, hpt]
  exact ih (i + 1) _ _ _ _ _ _ _ _ _ _ _ _ _ _ _ _ _ _ _ _ _ _ _ _ _ _ _ _ _ _ _ _ _ (by omega) (by omega) hR
theorem zpw (b : List UInt8) (hb : b.length = 256) (k0 n : Nat) (hn : 1 ≤ n) (hk0 : k0 + n ≤ 256) : Ev cfg 69 [blkD b, .int .i64 (k0 : Int), .int .i64 (n : Int)] (.ret (.d (encB ((b.drop k0).take n)))) := by
 refine jW rfl rfl zyf ?_
 show Wp cfg (Try.f69.body.getD .skip) ((.d (blkD b)) :: (.d (.int .i64 (k0 : Int))) :: (.d (.int .i64 (n : Int))) :: uZ (uZ (uZ ((.tup []) :: (.tup []) :: (.tup []) :: (.tup []) :: (.tup []) :: (.tup []) :: [])))) [] [] _
 unfold uZ
 conv => arg 2; whnf
 have hl : ((b.drop k0).take n).length = n := by rw [List.length_take, List.length_drop]; omega
 have c1 : ¬ (k0 : Int) < 0 := by omega
 have c2 : ¬ (k0 : Int) ≥ 256 := by omega
 have c3 : ¬ (n : Int) < 1 := by omega
 have h1 : IntKind.i64.wrap (256 - (k0 : Int)) = 256 - (k0 : Int) := wrap64 (by omega)
 have hmin := fun S => min_le (S := S) (a := (n : Int)) (b := 256 - (k0 : Int)) (by omega)
 have hf := fd42 hb
 have hmk := fun S => mk40 (S := S) (n := n) (by omega)
 simp (maxSteps:=1000000) (disch:=first|assumption|omega|rfl) only [↓gp, gc, Nat.reduceAdd, hf, h1, hmin, hmk]
 have ht : (b.drop k0).take n = (b.drop k0).take ((b.drop k0).take n).length := by rw [hl]
 generalize (b.drop k0).take n = t at *
 subst hl
 have e0 : zC t.length = wF t 0 := by unfold wF; simp
 rw [e0]
 refine zzo b hb k0 t ht hk0 _ _ t.length 0 _ _ _ _ _ _ _ _ _ _ _ _ _ _ _ _ _ _ _ _ _ _ _ _ _ _ _ _ _ _ _ _ _ rfl (Nat.zero_le _) ?_
 intro i' g0 g2 g4 g5 g8 g9 gM gF gG gB gC gA gE gH gI gD gL gN gK gJ gO gT gU gQ gR gS gV gX gY gf gg gZ gh
 simp (maxSteps:=1000000) (disch:=first|assumption|omega|rfl) only [↓gp, gc, Nat.reduceAdd]
 exact zO rfl rfl (zsq rfl rfl)
theorem zow {S : Store} {b : List UInt8} (h0 : b ≠ []) (hl : b.length ≤ 100000) : qE Try.prog S 40 40 (.ts []) (.d (encB b)) = some (.rs S.length 0 b.length, S ++ [rowY b], 2) := by
 have hall : ((b.map byD).map V.d).all (zZ Try.prog 5) = true := by
  rw [List.all_eq_true]
  intro y hy
  obtain ⟨z, hz, rfl⟩ := List.mem_map.1 hy
  obtain ⟨a, _, rfl⟩ := List.mem_map.1 hz
  exact zk3 _
 have h5 : (sz Try.prog 5).isSome = true := by kernel_rfl
 have src : srcV Try.prog S 5 40 (.d (encB b)) = some ((b.map byD).map V.d) := by
  have : encB b = .sl (b.map byD) := rfl
  rw [this]
  simp only [srcV, Try.underlying40, kA, hall, h5, Bool.and_self, if_true]
 cases b with
 | nil => exact absurd rfl h0
 | cons a r =>
  have src1 : srcV Try.prog S 5 40 (.d (encB (a :: r))) = some (.d (byD a) :: (r.map byD).map .d) := src
  have hl2 : ((r.map byD).map V.d).length = r.length := by simp
  have hr : room Try.prog 5 (r.length + 1) = true := zgo (by simp at hl; omega)
  simp only [qE, Try.underlying40, src1, zsb, if_true, List.all_nil, List.length_nil, hr, Bool.and_self, List.map_nil, List.nil_append, List.length_cons, List.cons_append, List.map_cons, List.map_map, Function.comp_def, Nat.zero_add, List.length_map, Bool.and_true, rowY]
theorem q1o {S : Store} {n : Nat} : qD Try.prog S 22 5 (.d (.int .u64 (n : Int))) = some (.d (.int .u8 ((UInt8.ofNat (n % 256)).toNat : Int)), 0) := by
 have h1 : Try.prog.underlying 22 = some (.int .u64) := by kernel_rfl
 have h2 : Try.prog.underlying 5 = some (.int .u8) := by kernel_rfl
 have e : ((UInt8.ofNat (n % 256)).toNat : Int) = (n : Int) % 256 := by rw [UInt8.toNat_ofNat']; omega
 simp only [qD, h1, h2]
 rw [zpt, e]
theorem q1a (b : List UInt8) (hb : b.length ≤ 1000) (k0 w v : Nat) (hk0 : k0 + w ≤ b.length) (hw8 : w ≤ 8) (x8 x9 : V) (R : Post) : ∀ (k i : Nat) (g0 g2 g4 g5 g6 g7 gF gG gB gC gA gE gH gI gD gL gN gK gJ gO gT gU gQ gR gS gV gX gY gf gg gZ gh gj gk gn : V), w - i = k → i ≤ w →
 (∀ i' g0 g2 g4 g5 g6 g7 gF gG gB gC gA gE gH gI gD gL gN gK gJ gO gT gU gQ gR gS gV gX gY gf gg gZ gh gj gk gn, R (.exit 0) (g0 :: (.d (.int .i64 (k0 : Int))) :: g2 :: (.d (.int .u64 (v : Int))) :: g4 :: g5 :: g6 :: g7 :: x8 :: x9 :: (.rs 0 0 b.length) :: gF :: gG :: gB :: gC :: gA :: gE :: gH :: gI :: gD :: gL :: gN :: gK :: gJ :: gO :: (.d (.int .i64 (w : Int))) :: i' :: gT :: gU :: gQ :: gR :: gS :: gV :: gX :: gY :: gf :: gg :: gZ :: gh :: gj :: gk :: gn :: []) [rowY (layB b k0 (leB w v))] []) →
 Wp cfg (.loop (lpOf (Try.f88.body.getD .skip) 0)) (g0 :: (.d (.int .i64 (k0 : Int))) :: g2 :: (.d (.int .u64 (v : Int))) :: g4 :: g5 :: g6 :: g7 :: x8 :: x9 :: (.rs 0 0 b.length) :: gF :: gG :: gB :: gC :: gA :: gE :: gH :: gI :: gD :: gL :: gN :: gK :: gJ :: gO :: (.d (.int .i64 (w : Int))) :: (.d (.int .i64 (i : Int))) :: gT :: gU :: gQ :: gR :: gS :: gV :: gX :: gY :: gf :: gg :: gZ :: gh :: gj :: gk :: gn :: []) [rowY (layB b k0 (leB i v))] [] R := by
 intro k
 induction k with
 | zero =>
  intro i g0 g2 g4 g5 g6 g7 gF gG gB gC gA gE gH gI gD gL gN gK gJ gO gT gU gQ gR gS gV gX gY gf gg gZ gh gj gk gn hk hi hR
  have hie : i = w := by omega
  subst hie
  rw [zR]
  refine zJ ?_
  conv => arg 2; whnf
  simp (maxSteps:=1000000) (disch:=first|assumption|omega|rfl) only [↓gp, gc, Nat.reduceAdd]
  exact hR _ _ _ _ _ _ _ _ _ _ _ _ _ _ _ _ _ _ _ _ _ _ _ _ _ _ _ _ _ _ _ _ _ _ _ _
 | succ k ih =>
  intro i g0 g2 g4 g5 g6 g7 gF gG gB gC gA gE gH gI gD gL gN gK gJ gO gT gU gQ gR gS gV gX gY gf gg gZ gh gj gk gn hk hi hR
  have hlt : i < w := by omega
  have hl : (layB b k0 (leB i v)).length = b.length := by rw [qU (by rw [qK]; omega)]
  have h1 : IntKind.i64.wrap ((k0 : Int) + (i : Int)) = ((k0 + i : Nat) : Int) := by rw [wrap64 (by omega)]; omega
  have h2 : IntKind.i64.wrap (8 * (i : Int)) = ((8 * i : Nat) : Int) := by rw [wrap64 (by omega)]; omega
  have h3 : IntKind.i64.wrap ((i : Int) + 1) = ((i + 1 : Nat) : Int) := by rw [wrap64 (by omega)]; omega
  have hcv := fun S => cvu (S := S) (i := 8 * i) (by omega)
  have hsh := fun K' => zq6 (K := .u64) (K' := K') (t := 22) (v := v) (i := i) rfl (by omega)
  have hc5 := fun S => q1o (S := S) (n := v / 256 ^ i)
  have hS : ([rowY (layB b k0 (leB i v))] : Store)[0]? = some (rowY (layB b k0 (leB i v))) := rfl
  have hix := ixY (n := b.length) (i := k0 + i) hS (by omega)
  have hrw := zpp (i := k0 + i) hS (by omega)
  have hpt := zxl (i := k0 + i) hS (x := UInt8.ofNat (v / 256 ^ i % 256))
  have e : (layB b k0 (leB i v)).set (k0 + i) (UInt8.ofNat (v / 256 ^ i % 256)) = layB b k0 (leB (i + 1) v) := by
   rw [zgj, z4n (by rw [qK]; omega), qK]
  rw [e] at hpt
  have hpt : jF [rowY (layB b k0 (leB i v))] 0 (k0 + i) (.d (.int .u8 ((UInt8.ofNat (v / 256 ^ i % 256)).toNat : Int))) = some [rowY (layB b k0 (leB (i + 1) v))] := hpt
  rw [zR]
  refine zJ ?_
  conv => arg 2; whnf
  simp (maxSteps:=1000000) (disch:=first|assumption|omega|rfl) only [↓gp, gc, Nat.reduceAdd, h1, h2, h3, hcv, hsh, hc5, hix, hrw, st5, hpt]
  exact ih (i + 1) _ _ _ _ _ _ _ _ _ _ _ _ _ _ _ _ _ _ _ _ _ _ _ _ _ _ _ _ _ _ _ _ _ _ _ (by omega) (by omega) hR
theorem z7u {S : Store} {T : List V} {dst : Option Tmp} {ty : TypeId} {pos : String} {after : Array Edge} {g : Option (Nat × Bool)} : opV Try.prog S T ⟨dst, .buildSlice 40 0 #[], ty, pos, after, g⟩ = some (.val (.ts []) S 0) := by kernel_rfl
theorem zyt (b : List UInt8) (hb0 : b ≠ []) (hb : b.length ≤ 1000) (k0 w v : Nat) (hk0 : k0 + w ≤ b.length) (hw1 : 1 ≤ w) (hw8 : w ≤ 8) : Ev cfg 88 [encB b, .int .i64 (k0 : Int), .int .i64 (w : Int), .int .u64 (v : Int)] (.ret (.tup [.d (encB (layB b k0 (leB w v))), .d (.bool true)])) := by
 refine jW rfl rfl zys ?_
 show Wp cfg (Try.f88.body.getD .skip) ((.d (encB b)) :: (.d (.int .i64 (k0 : Int))) :: (.d (.int .i64 (w : Int))) :: (.d (.int .u64 (v : Int))) :: uZ (uZ (uZ ((.tup []) :: (.tup []) :: (.tup []) :: (.tup []) :: (.tup []) :: (.tup []) :: (.tup []) :: (.tup []) :: [])))) [] [] _
 unfold uZ
 conv => arg 2; whnf
 have c4 : ¬ (w : Int) > 8 := by omega
 have ct := fun {ops dst k T S F Q} => z3a (ops := ops) (dst := dst) (k := k) (T := T) (S := S) (F := F) (Q := Q) (a := k0) (w := w) (n := b.length) (by omega) (by omega) (by omega)
 rw [decide_eq_true (show 1 ≤ w ∧ k0 + w ≤ b.length from ⟨hw1, hk0⟩)] at ct
 have hln : ∀ S : Store, zI Try.prog S .len [40] [.d (encB b)] = some (.val (.d (.int .i64 b.length)) S 0) := fun S => by rw [encB, zmp, List.length_map]
 have hap := fun S => zow (S := S) hb0 (by omega)
 have hll : (layB b k0 (leB w v)).length = b.length := by rw [qU (by rw [qK]; omega)]
 simp (maxSteps:=1000000) (disch:=first|assumption|omega|rfl) only [↓gp, gc, Nat.reduceAdd, ↓vbs, ct, zka, hln, z7u, hap]
 have e0 : rowY b = rowY (layB b k0 (leB 0 v)) := by rw [show leB 0 v = [] from rfl, z7b]
 rw [e0]
 refine q1a b hb k0 w v hk0 hw8 _ _ _ w 0 _ _ _ _ _ _ _ _ _ _ _ _ _ _ _ _ _ _ _ _ _ _ _ _ _ _ _ _ _ _ _ _ _ _ _ rfl (Nat.zero_le _) ?_
 intro i' g0 g2 g4 g5 g6 g7 gF gG gB gC gA gE gH gI gD gL gN gK gJ gO gT gU gQ gR gS gV gX gY gf gg gZ gh gj gk gn
 simp (maxSteps:=1000000) (disch:=first|assumption|omega|rfl) only [↓gp, gc, Nat.reduceAdd]
 exact zbd rfl rfl rfl rfl (zsq rfl hll.symm) rfl
theorem u64_in {n : Int} (h0 : 0 ≤ n) (h1 : n < 18446744073709551616) : IntKind.u64.wrap n = n := by
 have : IntKind.u64.wrap n = n % 18446744073709551616 := rfl
 rw [this]
 omega
theorem zpj {a x i : Nat} (ha : a < 256 ^ i) : a ||| x * 256 ^ i = a + x * 256 ^ i := by
 have e : (256 : Nat) ^ i = 2 ^ (8 * i) := by rw [Nat.pow_mul]
 rw [e] at ha ⊢
 have := Nat.shiftLeft_add_eq_or_of_lt (i := 8 * i) (b := a) ha x
 rw [Nat.shiftLeft_eq] at this
 rw [Nat.or_comm, ← this, Nat.add_comm]
theorem zz4 {a x i : Nat} {t : TypeId} (ha : a < 256 ^ i) (h : a + x * 256 ^ i < 18446744073709551616) : binV Try.prog .or t (.d (.int .u64 (a : Int))) (.d (.int .u64 ((x * 256 ^ i : Nat) : Int))) = some (.d (.int .u64 ((a + x * 256 ^ i : Nat) : Int))) := by
 have e1 : BitVec.ofInt IntKind.u64.bits (a : Int) = BitVec.ofNat 64 a := BitVec.ofInt_natCast ..
 have e2 : BitVec.ofInt IntKind.u64.bits ((x * 256 ^ i : Nat) : Int) = BitVec.ofNat 64 (x * 256 ^ i) := BitVec.ofInt_natCast ..
 have e3 : (BitVec.ofNat 64 a ||| BitVec.ofNat 64 (x * 256 ^ i)).toNat = a + x * 256 ^ i := by
  rw [BitVec.toNat_or, BitVec.toNat_ofNat, BitVec.toNat_ofNat, Nat.mod_eq_of_lt (by omega), Nat.mod_eq_of_lt (by omega), zpj ha]
 simp only [binV, qP, e1, e2]
 show some (V.d (.int .u64 (IntKind.u64.wrap (((BitVec.ofNat 64 a ||| BitVec.ofNat 64 (x * 256 ^ i)).toNat : Nat) : Int)))) = _
 rw [e3, u64_in (by omega) (by omega)]
theorem zyn {a x i : Nat} {t : TypeId} (ha : a < 256 ^ i) (h : a + x * 256 ^ i < 9223372036854775808) : binV Try.prog .or t (.d (.int .i64 (a : Int))) (.d (.int .i64 ((x * 256 ^ i : Nat) : Int))) = some (.d (.int .i64 ((a + x * 256 ^ i : Nat) : Int))) := by
 have e1 : BitVec.ofInt IntKind.i64.bits (a : Int) = BitVec.ofNat 64 a := BitVec.ofInt_natCast ..
 have e2 : BitVec.ofInt IntKind.i64.bits ((x * 256 ^ i : Nat) : Int) = BitVec.ofNat 64 (x * 256 ^ i) := BitVec.ofInt_natCast ..
 have e3 : (BitVec.ofNat 64 a ||| BitVec.ofNat 64 (x * 256 ^ i)).toNat = a + x * 256 ^ i := by
  rw [BitVec.toNat_or, BitVec.toNat_ofNat, BitVec.toNat_ofNat, Nat.mod_eq_of_lt (by omega), Nat.mod_eq_of_lt (by omega), zpj ha]
 simp only [binV, qP, e1, e2]
 show some (V.d (.int .i64 (IntKind.i64.wrap (((BitVec.ofNat 64 a ||| BitVec.ofNat 64 (x * 256 ^ i)).toNat : Nat) : Int)))) = _
 rw [e3, wrap64 (by omega)]
theorem zxu {x i : Nat} {K' : IntKind} {t : TypeId} (hi : i < 8) (h : x * 256 ^ i < 18446744073709551616) : binV Try.prog .shl t (.d (.int .u64 (x : Int))) (.d (.int K' ((8 * i : Nat) : Int))) = some (.d (.int .u64 ((x * 256 ^ i : Nat) : Int))) := by
 have e : min ((8 * i : Nat) : Int).toNat IntKind.u64.bits = 8 * i := by show min ((8 * i : Nat) : Int).toNat 64 = 8 * i; omega
 have e2 : (x : Int) * 2 ^ (8 * i) = ((x * 256 ^ i : Nat) : Int) := by
  have : (256 : Nat) ^ i = 2 ^ (8 * i) := by rw [Nat.pow_mul]
  rw [this]; push_cast; rfl
 simp only [binV, qP]
 rw [if_neg (by omega), e, e2, u64_in (by omega) (by omega)]
 rfl
theorem zr6 {x i : Nat} {K' : IntKind} {t : TypeId} (hi : i < 8) (h : x * 256 ^ i < 9223372036854775808) : binV Try.prog .shl t (.d (.int .i64 (x : Int))) (.d (.int K' ((8 * i : Nat) : Int))) = some (.d (.int .i64 ((x * 256 ^ i : Nat) : Int))) := by
 have e : min ((8 * i : Nat) : Int).toNat IntKind.i64.bits = 8 * i := by show min ((8 * i : Nat) : Int).toNat 64 = 8 * i; omega
 have e2 : (x : Int) * 2 ^ (8 * i) = ((x * 256 ^ i : Nat) : Int) := by
  have : (256 : Nat) ^ i = 2 ^ (8 * i) := by rw [Nat.pow_mul]
  rw [this]; push_cast; rfl
 simp only [binV, qP]
 rw [if_neg (by omega), e, e2, wrap64 (by omega)]
 rfl
theorem zzu {S : Store} {x : UInt8} : qD Try.prog S 5 22 (.d (.int .u8 (x.toNat : Int))) = some (.d (.int .u64 (x.toNat : Int)), 0) := by
 have h1 : Try.prog.underlying 5 = some (.int .u8) := by kernel_rfl
 have h2 : Try.prog.underlying 22 = some (.int .u64) := by kernel_rfl
 have : x.toNat < 256 := x.toNat_lt
 simp only [qD, h1, h2]
 rw [u64_in (by omega) (by omega)]
theorem cv53 {S : Store} {x : UInt8} : qD Try.prog S 5 3 (.d (.int .u8 (x.toNat : Int))) = some (.d (.int .i64 (x.toNat : Int)), 0) := by
 have h1 : Try.prog.underlying 5 = some (.int .u8) := by kernel_rfl
 have h2 : Try.prog.underlying 3 = some (.int .i64) := by kernel_rfl
 have : x.toNat < 256 := x.toNat_lt
 simp only [qD, h1, h2]
 rw [wrap64 (by omega)]
theorem zfo {t : List UInt8} {i : Nat} (h : i < t.length) : leN (t.take (i + 1)) = leN (t.take i) + t[i].toNat * 256 ^ i := by
 rw [List.take_add_one, List.getElem?_eq_getElem h]
 show leN (t.take i ++ [t[i]]) = _
 rw [zgb, List.length_take, Nat.min_eq_left (by omega), Nat.mul_comm]
theorem z1t {t : List UInt8} {i : Nat} (h : i ≤ t.length) : leN (t.take i) < 256 ^ i := by
 have := zqc (t.take i)
 rwa [List.length_take, Nat.min_eq_left h] at this
theorem zqd {i w : Nat} (h : i ≤ w) : (256 : Nat) ^ i ≤ 256 ^ w := Nat.pow_le_pow_right (by decide) h
theorem q2o (b : List UInt8) (hb : b.length ≤ 1000) (k0 : Nat) (t : List UInt8) (ht : t = (b.drop k0).take t.length) (hk0 : k0 + t.length ≤ b.length) (hw8 : t.length ≤ 8) (x6 x7 : V) (R : Post) (S : Store) : ∀ (k i : Nat) (g2 g3 g4 g5 g9 gM gF gG gB gC gA gE gH gI gD gK gJ gO gP gW gT gU gQ gR gS gV gX gY gf gg gZ gh : V), t.length - i = k → i ≤ t.length →
 (∀ i' g2 g3 g4 g5 g9 gM gF gG gB gC gA gE gH gI gD gK gJ gO gP gW gT gU gQ gR gS gV gX gY gf gg gZ gh, R (.exit 0) ((.d (encB b)) :: (.d (.int .i64 (k0 : Int))) :: g2 :: g3 :: g4 :: g5 :: x6 :: x7 :: (.d (.int .u64 (leN t : Int))) :: g9 :: gM :: gF :: gG :: gB :: gC :: gA :: gE :: gH :: gI :: gD :: (.d (.int .i64 (t.length : Int))) :: i' :: gK :: gJ :: gO :: gP :: gW :: gT :: gU :: gQ :: gR :: gS :: gV :: gX :: gY :: gf :: gg :: gZ :: gh :: []) S []) →
 Wp cfg (.loop (lpOf (Try.f97.body.getD .skip) 0)) ((.d (encB b)) :: (.d (.int .i64 (k0 : Int))) :: g2 :: g3 :: g4 :: g5 :: x6 :: x7 :: (.d (.int .u64 (leN (t.take i) : Int))) :: g9 :: gM :: gF :: gG :: gB :: gC :: gA :: gE :: gH :: gI :: gD :: (.d (.int .i64 (t.length : Int))) :: (.d (.int .i64 (i : Int))) :: gK :: gJ :: gO :: gP :: gW :: gT :: gU :: gQ :: gR :: gS :: gV :: gX :: gY :: gf :: gg :: gZ :: gh :: []) S [] R := by
 intro k
 induction k with
 | zero =>
  intro i g2 g3 g4 g5 g9 gM gF gG gB gC gA gE gH gI gD gK gJ gO gP gW gT gU gQ gR gS gV gX gY gf gg gZ gh hk hi hR
  have hie : i = t.length := by omega
  subst hie
  rw [List.take_length]
  rw [zR]
  refine zJ ?_
  conv => arg 2; whnf
  simp (maxSteps:=1000000) (disch:=first|assumption|omega|rfl) only [↓gp, gc, Nat.reduceAdd]
  exact hR _ _ _ _ _ _ _ _ _ _ _ _ _ _ _ _ _ _ _ _ _ _ _ _ _ _ _ _ _ _ _ _ _
 | succ k ih =>
  intro i g2 g3 g4 g5 g9 gM gF gG gB gC gA gE gH gI gD gK gJ gO gP gW gT gU gQ gR gS gV gX gY gf gg gZ gh hk hi hR
  have hlt : i < t.length := by omega
  have h1 : IntKind.i64.wrap ((k0 : Int) + (i : Int)) = ((k0 + i : Nat) : Int) := by rw [wrap64 (by omega)]; omega
  have h2 : IntKind.i64.wrap (8 * (i : Int)) = ((8 * i : Nat) : Int) := by rw [wrap64 (by omega)]; omega
  have h3 : IntKind.i64.wrap ((i : Int) + 1) = ((i + 1 : Nat) : Int) := by rw [wrap64 (by omega)]; omega
  have hcv := fun S => cvu (S := S) (i := 8 * i) (by omega)
  have he : b[k0 + i] = t[i] := by
   have : t[i] = ((b.drop k0).take t.length)[i]'(by rw [← ht]; exact hlt) := by congr 1
   rw [this]; simp
  have hix : ∀ S : Store, zE Try.prog S 40 (.d (encB b)) (.d (.int .i64 ((k0 + i : Nat) : Int))) = some (.d (.ptr (.int .u8 (t[i].toNat : Int)))) := fun S => by rw [encB, ix40 (l := b) (i := k0 + i) (by omega), he]
  have hn := zfo hlt
  have hlow := z1t (t := t) (i := i) (by omega)
  have hhi := z1t (t := t) (i := i + 1) (by omega)
  have hp := zqd (i := i + 1) (w := 8) (by omega)
  have hp8 : (256 : Nat) ^ 8 = 18446744073709551616 := by decide
  rw [hn] at hhi
  have hcx := fun S => zzu (S := S) (x := t[i])
  have hsh := fun K' => zxu (K' := K') (t := 22) (x := t[i].toNat) (i := i) (by omega) (by omega)
  have hor := zz4 (t := 22) (a := leN (t.take i)) (x := t[i].toNat) (i := i) hlow (by omega)
  rw [← hn] at hor
  rw [zR]
  refine zJ ?_
  conv => arg 2; whnf
  simp (maxSteps:=1000000) (disch:=first|assumption|omega|rfl) only [↓gp, gc, Nat.reduceAdd, h1, h2, h3, hcv, hix, hcx, hsh, hor]
  exact ih (i + 1) _ _ _ _ _ _ _ _ _ _ _ _ _ _ _ _ _ _ _ _ _ _ _ _ _ _ _ _ _ _ _ _ (by omega) (by omega) hR
theorem zvr (b : List UInt8) (hb : b.length ≤ 1000) (k0 w : Nat) (hk0 : k0 + w ≤ b.length) (hw1 : 1 ≤ w) (hw8 : w ≤ 8) : Ev cfg 97 [encB b, .int .i64 (k0 : Int), .int .i64 (w : Int)] (.ret (.tup [.d (.int .u64 (leN ((b.drop k0).take w) : Int)), .d (.bool true)])) := by
 refine jW rfl rfl zxk ?_
 show Wp cfg (Try.f97.body.getD .skip) ((.d (encB b)) :: (.d (.int .i64 (k0 : Int))) :: (.d (.int .i64 (w : Int))) :: uZ (uZ (uZ ((.tup []) :: (.tup []) :: (.tup []) :: (.tup []) :: (.tup []) :: (.tup []) :: [])))) [] [] _
 unfold uZ
 conv => arg 2; whnf
 have c4 : ¬ (w : Int) > 8 := by omega
 have ct := fun {ops dst k T S F Q} => z3a (ops := ops) (dst := dst) (k := k) (T := T) (S := S) (F := F) (Q := Q) (a := k0) (w := w) (n := b.length) (by omega) (by omega) (by omega)
 rw [decide_eq_true (show 1 ≤ w ∧ k0 + w ≤ b.length from ⟨hw1, hk0⟩)] at ct
 have hln : ∀ S : Store, zI Try.prog S .len [40] [.d (encB b)] = some (.val (.d (.int .i64 b.length)) S 0) := fun S => by rw [encB, zmp, List.length_map]
 simp (maxSteps:=1000000) (disch:=first|assumption|omega|rfl) only [↓gp, gc, Nat.reduceAdd, ct, zka, hln]
 have hl : ((b.drop k0).take w).length = w := by rw [List.length_take, List.length_drop]; omega
 have ht : (b.drop k0).take w = (b.drop k0).take ((b.drop k0).take w).length := by rw [hl]
 generalize (b.drop k0).take w = t at *
 subst hl
 refine q2o b hb k0 t ht hk0 hw8 _ _ _ _ t.length 0 _ _ _ _ _ _ _ _ _ _ _ _ _ _ _ _ _ _ _ _ _ _ _ _ _ _ _ _ _ _ _ _ rfl (Nat.zero_le _) ?_
 intro i' g2 g3 g4 g5 g9 gM gF gG gB gC gA gE gH gI gD gK gJ gO gP gW gT gU gQ gR gS gV gX gY gf gg gZ gh
 simp (maxSteps:=1000000) (disch:=first|assumption|omega|rfl) only [↓gp, gc, Nat.reduceAdd]
 exact zbd rfl rfl rfl rfl rfl rfl
theorem at_l (b : List UInt8) (hb : b.length = 256) (k0 : Nat) (t : List UInt8) (ht : t = (b.drop k0).take t.length) (hk0 : k0 + t.length ≤ b.length) (hw4 : t.length ≤ 4) (x6 : V) (R : Post) : ∀ (k i : Nat) (g0 g2 g4 g5 g8 g9 gM gF gG gB gC gA gE gD gL gN gK gJ gO gP gW gT gU gQ gR gS gV gX gY : V), t.length - i = k → i ≤ t.length →
 (∀ i' g0 g2 g4 g5 g8 g9 gM gF gG gB gC gA gE gD gL gN gK gJ gO gP gW gT gU gQ gR gS gV gX gY, R (.exit 0) (g0 :: (.d (.int .i64 (k0 : Int))) :: g2 :: (.ref 0 0 0) :: g4 :: g5 :: x6 :: (.d (.int .i64 (leN t : Int))) :: g8 :: g9 :: gM :: gF :: gG :: gB :: gC :: gA :: gE :: (.d (.int .i64 (t.length : Int))) :: i' :: gD :: gL :: gN :: gK :: gJ :: gO :: gP :: gW :: gT :: gU :: gQ :: gR :: gS :: gV :: gX :: gY :: []) [.row [.d (blkD b)] 42] []) →
 Wp cfg (.loop (lpOf (Try.f98.body.getD .skip) 0)) (g0 :: (.d (.int .i64 (k0 : Int))) :: g2 :: (.ref 0 0 0) :: g4 :: g5 :: x6 :: (.d (.int .i64 (leN (t.take i) : Int))) :: g8 :: g9 :: gM :: gF :: gG :: gB :: gC :: gA :: gE :: (.d (.int .i64 (t.length : Int))) :: (.d (.int .i64 (i : Int))) :: gD :: gL :: gN :: gK :: gJ :: gO :: gP :: gW :: gT :: gU :: gQ :: gR :: gS :: gV :: gX :: gY :: []) [.row [.d (blkD b)] 42] [] R := by
 intro k
 induction k with
 | zero =>
  intro i g0 g2 g4 g5 g8 g9 gM gF gG gB gC gA gE gD gL gN gK gJ gO gP gW gT gU gQ gR gS gV gX gY hk hi hR
  have hie : i = t.length := by omega
  subst hie
  rw [List.take_length]
  rw [zR]
  refine zJ ?_
  conv => arg 2; whnf
  simp (maxSteps:=1000000) (disch:=first|assumption|omega|rfl) only [↓gp, gc, Nat.reduceAdd]
  exact hR _ _ _ _ _ _ _ _ _ _ _ _ _ _ _ _ _ _ _ _ _ _ _ _ _ _ _ _ _ _
 | succ k ih =>
  intro i g0 g2 g4 g5 g8 g9 gM gF gG gB gC gA gE gD gL gN gK gJ gO gP gW gT gU gQ gR gS gV gX gY hk hi hR
  have hlt : i < t.length := by omega
  have h1 : IntKind.i64.wrap ((k0 : Int) + (i : Int)) = ((k0 + i : Nat) : Int) := by rw [wrap64 (by omega)]; omega
  have h2 : IntKind.i64.wrap (8 * (i : Int)) = ((8 * i : Nat) : Int) := by rw [wrap64 (by omega)]; omega
  have h3 : IntKind.i64.wrap ((i : Int) + 1) = ((i + 1 : Nat) : Int) := by rw [wrap64 (by omega)]; omega
  have hcv := fun S => cvu (S := S) (i := 8 * i) (by omega)
  have hia := fun S j x => ia42 (S := S) (j := j) (x := x) (i := k0 + i) (by omega)
  have hg := bt42.get (v := .d (blkD b)) jL hb (i := k0 + i) (by omega)
  have he : b[k0 + i] = t[i] := by
   have : t[i] = ((b.drop k0).take t.length)[i]'(by rw [← ht]; exact hlt) := by congr 1
   rw [this]; simp
  rw [he] at hg
  have hn := zfo hlt
  have hlow := z1t (t := t) (i := i) (by omega)
  have hhi := z1t (t := t) (i := i + 1) (by omega)
  have hp := zqd (i := i + 1) (w := 4) (by omega)
  have hp8 : (256 : Nat) ^ 4 = 4294967296 := by decide
  rw [hn] at hhi
  have hcx := fun S => cv53 (S := S) (x := t[i])
  have hsh := fun K' => zr6 (K' := K') (t := 3) (x := t[i].toNat) (i := i) (by omega) (by omega)
  have hor := zyn (t := 3) (a := leN (t.take i)) (x := t[i].toNat) (i := i) hlow (by omega)
  rw [← hn] at hor
  rw [zR]
  refine zJ ?_
  conv => arg 2; whnf
  simp (maxSteps:=1000000) (disch:=first|assumption|omega|rfl) only [↓gp, gc, Nat.reduceAdd, h1, h2, h3, hcv, hia, hg, hcx, hsh, hor]
  exact ih (i + 1) _ _ _ _ _ _ _ _ _ _ _ _ _ _ _ _ _ _ _ _ _ _ _ _ _ _ _ _ _ (by omega) (by omega) hR
theorem zwh (b : List UInt8) (hb : b.length = 256) (k0 w : Nat) (hk0 : k0 + w ≤ 256) (hw1 : 1 ≤ w) (hw4 : w ≤ 4) : Ev cfg 98 [blkD b, .int .i64 (k0 : Int), .int .i64 (w : Int)] (.ret (.d (.int .i64 (leN ((b.drop k0).take w) : Int)))) := by
 refine jW rfl rfl zxg ?_
 show Wp cfg (Try.f98.body.getD .skip) ((.d (blkD b)) :: (.d (.int .i64 (k0 : Int))) :: (.d (.int .i64 (w : Int))) :: uZ (uZ (uZ ((.tup []) :: (.tup []) :: [])))) [] [] _
 unfold uZ
 conv => arg 2; whnf
 have c4 : ¬ (w : Int) > 4 := by omega
 have hf := fd42 hb
 have ct := fun {ops dst k T S F Q} => z3a (ops := ops) (dst := dst) (k := k) (T := T) (S := S) (F := F) (Q := Q) (a := k0) (w := w) (n := 256) (by omega) (by omega) (by omega)
 rw [decide_eq_true (show 1 ≤ w ∧ k0 + w ≤ 256 from ⟨hw1, hk0⟩)] at ct
 simp only [zha] at ct
 simp (maxSteps:=1000000) (disch:=first|assumption|omega|rfl) only [↓gp, gc, Nat.reduceAdd, hf, ct, zka]
 have hl : ((b.drop k0).take w).length = w := by rw [List.length_take, List.length_drop]; omega
 have ht : (b.drop k0).take w = (b.drop k0).take ((b.drop k0).take w).length := by rw [hl]
 generalize (b.drop k0).take w = t at *
 subst hl
 refine at_l b hb k0 t ht (by omega) hw4 _ _ t.length 0 _ _ _ _ _ _ _ _ _ _ _ _ _ _ _ _ _ _ _ _ _ _ _ _ _ _ _ _ _ rfl (Nat.zero_le _) ?_
 intro i' g0 g2 g4 g5 g8 g9 gM gF gG gB gC gA gE gD gL gN gK gJ gO gP gW gT gU gQ gR gS gV gX gY
 simp (maxSteps:=1000000) (disch:=first|assumption|omega|rfl) only [↓gp, gc, Nat.reduceAdd]
 exact zO rfl rfl rfl
theorem ze9 {n : Int} : IntKind.u32.wrap n = n % 4294967296 := rfl
theorem zvh {h : Nat} {x : UInt8} (hh : h < 4294967296) : binV Try.prog .xor 139 (.d (.int .u32 (h : Int))) (.d (.int .u32 (x.toNat : Int))) = some (.d (.int .u32 ((h ^^^ x.toNat : Nat) : Int))) := by
 have hx : x.toNat < 256 := x.toNat_lt
 have e1 : BitVec.ofInt IntKind.u32.bits (h : Int) = BitVec.ofNat 32 h := BitVec.ofInt_natCast ..
 have e2 : BitVec.ofInt IntKind.u32.bits (x.toNat : Int) = BitVec.ofNat 32 x.toNat := BitVec.ofInt_natCast ..
 have e3 : (BitVec.ofNat 32 h ^^^ BitVec.ofNat 32 x.toNat).toNat = h ^^^ x.toNat := by
  rw [BitVec.toNat_xor, BitVec.toNat_ofNat, BitVec.toNat_ofNat, Nat.mod_eq_of_lt (by omega), Nat.mod_eq_of_lt (by omega)]
 have hlt : h ^^^ x.toNat < 4294967296 := Nat.xor_lt_two_pow (n := 32) hh (by omega)
 simp only [binV, qP, e1, e2]
 show some (V.d (.int .u32 (IntKind.u32.wrap (((BitVec.ofNat 32 h ^^^ BitVec.ofNat 32 x.toNat).toNat : Nat) : Int)))) = _
 rw [e3, ze9]
 congr 3
 omega
theorem zw2 {h : Nat} {x : UInt8} : binV Try.prog .mul 139 (.d (.int .u32 ((h ^^^ x.toNat : Nat) : Int))) (.d (.int .u32 16777619)) = some (.d (.int .u32 (mixS h x : Int))) := by
 have : IntKind.u32.wrap (((h ^^^ x.toNat : Nat) : Int) * 16777619) = (mixS h x : Int) := by
  rw [ze9]; unfold mixS; omega
 simp only [binV, qP, this]
 rfl
theorem zvl {S : Store} {x : UInt8} : qD Try.prog S 5 139 (.d (.int .u8 (x.toNat : Int))) = some (.d (.int .u32 (x.toNat : Int)), 0) := by
 have h1 : Try.prog.underlying 5 = some (.int .u8) := by kernel_rfl
 have h2 : Try.prog.underlying 139 = some (.int .u32) := by kernel_rfl
 have hx : x.toNat < 256 := x.toNat_lt
 simp only [qD, h1, h2]
 have : IntKind.u32.wrap (x.toNat : Int) = (x.toNat : Int) := by rw [ze9]; omega
 rw [this]
theorem zkr {s : List UInt8} {x : UInt8} {h : Nat} : mixL h (s ++ [x]) = mixS (mixL h s) x := by
 unfold mixL
 rw [List.foldl_append, List.foldl_cons, List.foldl_nil]
theorem zmg {s : List UInt8} {i h : Nat} (hi : i < s.length) : mixL h (s.take (i + 1)) = mixS (mixL h (s.take i)) s[i] := by
 rw [List.take_succ_eq_append_getElem hi, zkr]
theorem zuv (s : List UInt8) (hs : s.length ≤ 1000000) (h : Nat) (hh : h < 4294967296) (x4 : V) (R : Post) (S : Store) : ∀ (k i : Nat) (g2 g3 g5 g6 g9 gM gF gG gB gC gA gE gH gI gD : V), s.length - i = k → i ≤ s.length →
 (∀ i' g2 g3 g5 g6 g9 gM gF gG gB gC gA gE gH gI gD, R (.exit 0) ((.d (.int .u32 (mixL h s : Int))) :: (.d (.str s)) :: g2 :: g3 :: x4 :: g5 :: g6 :: (.d (.int .i64 (s.length : Int))) :: i' :: g9 :: gM :: gF :: gG :: gB :: gC :: gA :: gE :: gH :: gI :: gD :: []) S []) →
 Wp cfg (.loop (lpOf (Try.f117.body.getD .skip) 0)) ((.d (.int .u32 (mixL h (s.take i) : Int))) :: (.d (.str s)) :: g2 :: g3 :: x4 :: g5 :: g6 :: (.d (.int .i64 (s.length : Int))) :: (.d (.int .i64 (i : Int))) :: g9 :: gM :: gF :: gG :: gB :: gC :: gA :: gE :: gH :: gI :: gD :: []) S [] R := by
 intro k
 induction k with
 | zero =>
  intro i g2 g3 g5 g6 g9 gM gF gG gB gC gA gE gH gI gD hk hi hR
  have hie : i = s.length := by omega
  subst hie
  rw [List.take_length]
  rw [zR]
  refine zJ ?_
  conv => arg 2; whnf
  simp (maxSteps:=1000000) (disch:=first|assumption|omega|rfl) only [↓gp, gc, Nat.reduceAdd]
  exact hR _ _ _ _ _ _ _ _ _ _ _ _ _ _ _ _
 | succ k ih =>
  intro i g2 g3 g5 g6 g9 gM gF gG gB gC gA gE gH gI gD hk hi hR
  have hlt : i < s.length := by omega
  have h3 : IntKind.i64.wrap ((i : Int) + 1) = ((i + 1 : Nat) : Int) := by rw [wrap64 (by omega)]; omega
  have hix := q1g hlt
  have hcx := fun S => zvl (S := S) (x := s[i])
  have hlt2 := zek (s.take i) h hh
  have hxo := zvh (x := s[i]) hlt2
  have hmu := zw2 (h := mixL h (s.take i)) (x := s[i])
  rw [← zmg hlt] at hmu
  rw [zR]
  refine zJ ?_
  conv => arg 2; whnf
  simp (maxSteps:=1000000) (disch:=first|assumption|omega|rfl) only [↓gp, gc, Nat.reduceAdd, h3, hix, hcx, hxo, hmu]
  exact ih (i + 1) _ _ _ _ _ _ _ _ _ _ _ _ _ _ _ (by omega) (by omega) hR
theorem zt5 (s : List UInt8) (hs : s.length ≤ 1000000) (h : Nat) (hh : h < 4294967296) : Ev cfg 117 [.int .u32 (h : Int), .str s] (.ret (.d (.int .u32 (mixL h s : Int)))) := by
 refine jW rfl rfl zrl ?_
 show Wp cfg (Try.f117.body.getD .skip) ((.d (.int .u32 (h : Int))) :: (.d (.str s)) :: uZ ((.tup []) :: (.tup []) :: (.tup []) :: (.tup []) :: (.tup []) :: (.tup []) :: (.tup []) :: (.tup []) :: [])) [] [] _
 unfold uZ
 conv => arg 2; whnf
 simp (maxSteps:=1000000) (disch:=first|assumption|omega|rfl) only [↓gp, gc, Nat.reduceAdd]
 refine zuv s hs h hh _ _ _ s.length 0 _ _ _ _ _ _ _ _ _ _ _ _ _ _ _ rfl (Nat.zero_le _) ?_
 intro i' g2 g3 g5 g6 g9 gM gF gG gB gC gA gE gH gI gD
 simp (maxSteps:=1000000) (disch:=first|assumption|omega|rfl) only [↓gp, gc, Nat.reduceAdd]
 exact zO rfl rfl rfl
section
variable {ops : Array Oper} {dst : Option Tmp} {k : List Oper} {T : List V} {S : Store} {F : Dfs} {Q : Post}
theorem zk7 {s : List UInt8} (hs : s.length ≤ 1000000) : WpR cfg ops dst k T S F Q (some (.enter 117 [.d (.int .u32 2166136261), .d (.str s)])) = WpL cfg ops k (putT T dst (.d (.int .u32 (zbz s : Int)))) S F Q :=
 qA (ds := [.int .u32 2166136261, .str s]) rfl (zt5 s hs 2166136261 (by decide))
end
theorem zxy (s : List UInt8) (hs : s.length ≤ 1000000) : Ev cfg 90 [.str s] (.ret (.d (.int .u32 (zbz s : Int)))) := by
 refine jW rfl rfl zw6 ?_
 show Wp cfg (Try.f90.body.getD .skip) ((.d (.str s)) :: (.tup []) :: (.tup []) :: (.tup []) :: (.tup []) :: []) [] [] _
 conv => arg 2; whnf
 simp (maxSteps:=1000000) (disch:=first|assumption|omega|rfl) only [↓gp, gc, Nat.reduceAdd, zk7 hs, zy8]
 exact zO rfl rfl rfl
section
variable {ops : Array Oper} {dst : Option Tmp} {k : List Oper} {T : List V} {S : Store} {F : Dfs} {Q : Post}
theorem zou {o o2 : Oper} {T2 : List V} (h : vY cfg.P T o (o2 :: k) = some T2) : WpL cfg ops (o :: o2 :: k) T S F Q = WpL cfg ops k T2 S F Q := by
 have e : ∀ n, seqV cfg (run cfg n) ops (o :: o2 :: k) T S F = seqV cfg (run cfg n) ops k T2 S F := fun n => by
  conv => lhs; unfold seqV
  simp only [h]
 unfold WpL
 simp only [e]
theorem zor {d : Nat} {dst2 : Option Tmp} {ty ty2 : TypeId} {pos pos2 : String} {af af2 : Array Edge} (hd : Nat.ble (d + 1) T.length = true) :
  WpL cfg ops (⟨some d, .buildSlice 40 8 #[(0, .const (.int .u8 101)), (1, .const (.int .u8 115)), (2, .const (.int .u8 99)), (3, .const (.int .u8 104)), (4, .const (.int .u8 101)), (5, .const (.int .u8 97)), (6, .const (.int .u8 116)), (7, .const (.int .u8 49))], ty, pos, af, none⟩ :: ⟨dst2, .convert 40 40 (.tmp d), ty2, pos2, af2, none⟩ :: k) T S F Q = WpL cfg ops k (putT (putT T (some d) .junk) dst2 (.ts (magicB.map byD))) S F Q := by
 refine zou ?_
 have hd' : d < T.length := Nat.le_of_ble_eq_true hd
 have hu : Try.prog.underlying 40 = some (.slice 5) := Try.underlying40
 unfold vY
 simp only
 rw [if_pos ⟨rfl, rfl, trivial, trivial, trivial, hd'⟩]
 rfl
end
theorem z9s {ops : Array Oper} {dst : Option Tmp} {k : List Oper} {T : List V} {S : Store} {F : Dfs} {Q : Post} {l : Lay} (hb : InB l.blocks) (hi : InB l.inodes) : WpR cfg ops dst k T S F Q (some (.enter 67 [.d (encLay l)])) = WpL cfg ops k (putT T dst (.d (.int .i64 (if MayL l then 0 else 1)))) S F Q :=
 qA (ds := [encLay l]) rfl (zfu l hb hi)
theorem zr1 {ops : Array Oper} {dst : Option Tmp} {k : List Oper} {T : List V} {S : Store} {F : Dfs} {Q : Post} : WpR cfg ops dst k T S F Q (some (.enter 86 [.ts (magicB.map byD)])) = WpL cfg ops k (putT T dst (.d (blkD (magicB ++ zC 248)))) S F Q :=
 wJ (ds := [encB magicB]) rfl (by kernel_rfl) (by kernel_rfl) (by rw [← (zjy 0 0 0).1]; exact zu6 magicB (by decide))
theorem zg7 {ops : Array Oper} {dst : Option Tmp} {k : List Oper} {T : List V} {S : Store} {F : Dfs} {Q : Post} {b : List UInt8} (hb : b.length = 256) {k0 n : Nat} (hn : 1 ≤ n) (hk0 : k0 + n ≤ 256) : WpR cfg ops dst k T S F Q (some (.enter 69 [.d (blkD b), .d (.int .i64 (k0 : Int)), .d (.int .i64 (n : Int))])) = WpL cfg ops k (putT T dst (.d (encB ((b.drop k0).take n)))) S F Q :=
 qA (ds := [blkD b, .int .i64 (k0 : Int), .int .i64 (n : Int)]) rfl (zpw b hb k0 n hn hk0)
theorem zp9 {ops : Array Oper} {dst : Option Tmp} {k : List Oper} {T : List V} {S : Store} {F : Dfs} {Q : Post} {s : List UInt8} (hs : s.length ≤ 1000000) : WpR cfg ops dst k T S F Q (some (.enter 90 [.d (.str s)])) = WpL cfg ops k (putT T dst (.d (.int .u32 (zbz s : Int)))) S F Q :=
 qA (ds := [.str s]) rfl (zxy s hs)
theorem zn7 {l : List UInt8} : z6m (l.map fun b => V.d (.int .u8 b.toNat)) = some l := by
 induction l with
 | nil => rfl
 | cons b r ih =>
  simp only [List.map_cons, z6m, ih]
  rw [Int.toNat_natCast, UInt8.ofNat_toNat]
theorem z0s {P : Program} {T : List V} {S : Store} {t a u : Nat} {v w x : V} {d e : D} (hv : T.getD t (.tup []) = v) (ha : T.getD a (.tup []) = w) (hl : kC P S u w = some x) (h1 : v.one = true) (h2 : x.one = true) (h3 : Go.Vm.frz S zH v = some d) (h4 : Go.Vm.frz S zH x = some e) : RetQ P #[.cell a u, .tmp t] (.ret (.tup [.d e, .d d])) .ret T S [] :=
 z4v (r1 := .cell a u) (r2 := .tmp t) (l := []) (vs := [x, v]) (ds := [e, d]) (by simp only [allO, jS, hv, ha, hl]) (by simp [h1, h2]) (by simp only [allO, h3, h4])
theorem zdq : ∀ l : List UInt8, eqLs Try.prog 5 l.length (l.map byD) (l.map byD) = some true
 | [] => rfl
 | x :: r => by
  have h : vC Try.prog 5 (byD x) (byD x) = some true := by
   have h5 : Try.prog.underlying 5 = some (.int .u8) := by kernel_rfl
   simp [vC, h5, byD]
  simp only [List.length_cons, List.map_cons, eqLs, h, zdq r]
theorem q09 {b : List UInt8} (hb : b.length = 256) : binV Try.prog .neq 42 (.d (blkD b)) (.d (blkD b)) = some (.d (.bool false)) := by
 have h1 : ptrT Try.prog 42 = false := by kernel_rfl
 have h2 : mapT Try.prog 42 = false := by kernel_rfl
 have h3 : fnT Try.prog 42 = false := by kernel_rfl
 have h4 : Try.prog.eqGuardType Try.prog.depth 42 = false := by kernel_rfl
 have h5 : sz Try.prog 5 = some 1 := by kernel_rfl
 have h6 := zdq b
 rw [hb] at h6
 have h7 : eqD Try.prog 8 42 (.agg (b.map byD)) (.agg (b.map byD)) = some true := by
  simp only [eqD, Try.underlying42, h5, h6]
  rfl
 have h8 : eqV Try.prog 42 (.d (.agg (b.map byD))) (.d (.agg (b.map byD))) = some true := by
  simp only [eqV, h1, h2, h3, asD, h4, h7, Bool.false_eq_true, if_false]
 show (eqV Try.prog 42 (.d (.agg (b.map byD))) (.d (.agg (b.map byD)))).map (fun b => V.d (.bool (!b))) = _
 rw [h8]
 rfl
theorem q2s {S : Store} {l : List UInt8} : qD Try.prog S 40 9 (.d (encB l)) = some (.d (.str l), 1) := by
 have hu : Try.prog.underlying 9 = some .string := by kernel_rfl
 have h5 : Try.prog.underlying 5 = some (.int .u8) := by kernel_rfl
 unfold encB
 simp only [qD, Try.underlying40, hu, h5, kA, List.map_map, Function.comp_def, zn7, Option.map_some]
theorem zv3 {S : Store} {h : Nat} (hh : h < 4294967296) : qD Try.prog S 139 3 (.d (.int .u32 (h : Int))) = some (.d (.int .i64 (h : Int)), 0) := by
 have h1 : Try.prog.underlying 139 = some (.int .u32) := by kernel_rfl
 have h2 : Try.prog.underlying 3 = some (.int .i64) := by kernel_rfl
 simp only [qD, h1, h2]
 rw [wrap64 (by omega)]
theorem zp1 {n v : Nat} : layB (zC n) 0 (leB n v) = leB n v := by
 have := z1c (a := []) (n := n) (d := leB n v) (by rw [qK]; omega)
 rw [qK, Nat.sub_self] at this
 simpa [zC] using this
theorem zx4 {ops : Array Oper} {F : Dfs} {Q : Post} {K : List Nat → List (Nat × Nat) → List V → Store → Prop} {rd : List Nat} {cs : List (Nat × Nat)} {i id : Nat} {dst : Option Tmp} {T : List V} {S : Store} {M : Nat} (hr : S[id]? = some (.row (List.replicate 8 (.d (.int .u8 0))) 5)) :
  WpE cfg ops F Q K rd cs i dst T S (some (.enter 88 [.rs id 0 8, .d (.int .i64 0), .d (.int .i64 8), .d (.int .u64 (M : Int))])) = (z3j ops rd i 3 ∧ K rd (cs ++ [(i, 3)]) (putT T dst (.tup [.d (encB (leB 8 M)), .d (.bool true)])) (S.set id (.fz ((zC 8).map byD) 5))) := by
 have hr' : S[id]? = some (rowY (zC 8)) := hr
 have hr2 : S[id]? = some (.row (((zC 8).map byD).map .d) 5) := hr
 refine zdr (ds := [encB (zC 8), .int .i64 ((0 : Nat) : Int), .int .i64 ((8 : Nat) : Int), .int .u64 (M : Int)]) rfl ?_ ?_ hr2 rfl ?_
 ·have h1 : Go.Vm.frz S zH (.rs id 0 8) = some (encB (zC 8)) := zsq hr' rfl
  simp only [allO, zqy, h1]
  rfl
 ·have h1 : frzIds S zH (.rs id 0 8) = [id] := by
   show (match S[id]? with | some (.row xs e) => id :: xs.flatMap (frzIds S 11) | _ => []) = _
   rw [hr2]
   simp only [zgd]
  simp only [List.flatMap_cons, h1, List.flatMap_nil, zal, List.append_nil]
 ·have := zyt (zC 8) (by decide) (by decide) 0 8 M (by decide) (by omega) (by omega)
  rw [zp1] at this
  exact this
theorem zj7 (l : Lay) (B I M : Nat) (hl : l = ⟨(B : Int), (I : Int), (M : Int)⟩) (hB : B ≤ 512) (hI : I ≤ 128) (hM : M < 18446744073709551616) (hm : MayL l) : Ev cfg 48 [encLay l] (.ret (.tup [.d (blkD (supB B I M)), .d (.int .i64 0)])) := by
 refine jW rfl rfl zu8 ?_
 show Wp cfg (Try.f48.body.getD .skip) ((.d (encLay l)) :: uZ (uZ (uZ (uZ ((.tup []) :: (.tup []) :: (.tup []) :: []))))) [] [] _
 unfold uZ
 conv => arg 2; whnf
 have hc := fun {ops dst k T S F Q} => z9s (ops := ops) (dst := dst) (k := k) (T := T) (S := S) (F := F) (Q := Q) (l := l) (by subst hl; unfold InB; simp only; omega) (by subst hl; unfold InB; simp only; omega)
 rw [if_pos hm] at hc
 subst hl
 obtain ⟨w1, w2, w3, w4, w5, w6⟩ := zjy B I M
 have l1 : (magicB ++ zC 248).length = 256 := by decide
 have l2 : ((magicB ++ leB 2 B) ++ zC 246).length = 256 := by simp [magicB, qK, z26]
 have l3 : ((magicB ++ leB 2 B ++ leB 2 I) ++ zC 244).length = 256 := by simp [magicB, qK, z26]
 have l4 : (supL B I M ++ zC 236).length = 256 := by rw [List.length_append, z3c, z26]
 have l5 := z5e B I M
 have hx := zoq (supL B I M)
 have c1 := fun {ops dst k T S F Q} => vQ (ops := ops) (dst := dst) (k := k) (T := T) (S := S) (F := F) (Q := Q) (u := .d (blkD (magicB ++ zC 248))) (b := magicB ++ zC 248) jL l1 (k0 := 8) (w := 2) (v := B) (by omega) (by omega) (by omega)
 have c2 := fun {ops dst k T S F Q} => vQ (ops := ops) (dst := dst) (k := k) (T := T) (S := S) (F := F) (Q := Q) (u := .d (blkD ((magicB ++ leB 2 B) ++ zC 246))) jL l2 (k0 := 10) (w := 2) (v := I) (by omega) (by omega) (by omega)
 have c3 := fun {ops dst k T S F Q} => zfc (ops := ops) (dst := dst) (k := k) (T := T) (S := S) (F := F) (Q := Q) (u := .d (blkD ((magicB ++ leB 2 B ++ leB 2 I) ++ zC 244))) (d := leB 8 M) jL l3 (k0 := 12) (by omega) (by rw [qK]; omega)
 have c4 := fun {ops dst k T S F Q} => zg7 (ops := ops) (dst := dst) (k := k) (T := T) (S := S) (F := F) (Q := Q) l4 (k0 := 0) (n := 20) (by omega) (by omega)
 have c5 := fun {ops dst k T S F Q} => zp9 (ops := ops) (dst := dst) (k := k) (T := T) (S := S) (F := F) (Q := Q) (s := supL B I M) (by rw [z3c]; omega)
 have c6 := fun {ops dst k T S F Q} => vQ (ops := ops) (dst := dst) (k := k) (T := T) (S := S) (F := F) (Q := Q) (u := .d (blkD (supL B I M ++ zC 236))) jL l4 (k0 := 20) (w := 4) (v := zbz (supL B I M)) (by omega) (by omega) (by omega)
 rw [w2] at c1
 rw [w3] at c2
 rw [w4] at c3
 rw [w5] at c4
 rw [w6] at c6
 simp only [nl0, nl1, nl2, nl4, nl8, nl10, nl12, nl16, nl20, zha] at c1 c2 c3 c4 c5 c6
 have l0 := z256
 have hcv := fun S => zv3 (S := S) hx
 simp (maxSteps:=1000000) (disch:=first|assumption|omega|rfl) only [↓gp, gc, Nat.reduceAdd, z42, zf42, hc, bo67]
 rw [zor (by kernel_rfl)]
 simp (maxSteps:=1000000) (disch:=first|assumption|omega|rfl) only [↓gp, gc, Nat.reduceAdd, z42, zf42, zr1, bo86, c1, c2, bo87, ztz, z7y, z04, zam]
 have hroom : room Try.prog 5 (8 : Int).toNat = true := by kernel_rfl
 have hz0 : zZ Try.prog 5 (.d (.int .u8 0)) = true := by kernel_rfl
 have z5 : zeroV Try.prog 5 = some (.d (.int .u8 0)) := by kernel_rfl
 refine kH (is := [1, 2, 0, 3, 4, 5, 6, 7, 8]) (h := 9) (by kernel_rfl) (by kernel_rfl) ?_
 simp (maxSteps:=1000000) (disch:=first|assumption|omega|rfl) only [List.replicate_zero, eq_self, gd, ga, Nat.reduceAdd, ↓gq, vso, z8x, zu0, zqh Try.underlying40 z5, zzl hroom hz0, true_and]
 rw [show Int.toNat 8 = 8 from rfl, zx4 rfl]
 refine ⟨fun _ => by kernel_rfl, ?_⟩
 simp (maxSteps:=1000000) (disch:=first|assumption|omega|rfl) only [List.replicate_zero, eq_self, gd, ga, Nat.reduceAdd, ↓gq, vso]
 refine ⟨by kernel_rfl, ?_⟩
 simp (maxSteps:=1000000) (disch:=first|assumption|omega|rfl) only [↓gp, gc, Nat.reduceAdd, c3, bo89, c4, bo69, c5, bo90, c6, bo87, q2s, hcv, ztz, z7y, z04, zam]
 exact z0s rfl rfl ((zM rfl).trans (z04 l5)) rfl rfl rfl rfl
section
variable {ops : Array Oper} {dst : Option Tmp} {k : List Oper} {T : List V} {S : Store} {F : Dfs} {Q : Post}
theorem zjz {b : List UInt8} (hb : b.length = 8) : WpR cfg ops dst k T S F Q (some (.enter 97 [.d (encB b), .d (.int .i64 0), .d (.int .i64 8)])) = WpL cfg ops k (putT T dst (.tup [.d (.int .u64 (leN b : Int)), .d (.bool true)])) S F Q := by
 have := zvr b (by omega) 0 8 (by omega) (by omega) (by omega)
 rw [List.drop_zero, List.take_of_length_le (by omega)] at this
 exact qA (ds := [encB b, .int .i64 0, .int .i64 8]) rfl this
theorem zlf {l : Lay} {v : V} (h : Ev cfg 48 [encLay l] (.ret v)) : WpR cfg ops dst k T S F Q (some (.enter 48 [.d (encLay l)])) = WpL cfg ops k (putT T dst v) S F Q :=
 qA (ds := [encLay l]) rfl h
theorem bd24 {a b : Int} {c : Int} : wP Try.prog 24 [(0, .d (.int .i64 a)), (1, .d (.int .i64 b)), (2, .d (.int .u64 c))] = some (.agg [.d (.int .i64 a), .d (.int .i64 b), .d (.int .u64 c)]) := by kernel_rfl
end
theorem st24 {a b a' b' : Int} {c c' : Int} : qI Try.prog 24 0 (.agg [.d (.int .i64 a), .d (.int .i64 b), .d (.int .u64 c)]) (.agg [.d (.int .i64 a'), .d (.int .i64 b'), .d (.int .u64 c')]) = some (.agg [.d (.int .i64 a), .d (.int .i64 b), .d (.int .u64 c)]) := by kernel_rfl
theorem ztt {ops : Array Oper} {dst : Option Tmp} {k : List Oper} {T : List V} {S : Store} {F : Dfs} {Q : Post} {a b : Int} {c : Int} {v : V} (h : Ev cfg 48 [.agg [.int .i64 a, .int .i64 b, .int .u64 c]] (.ret v)) : WpR cfg ops dst k T S F Q (some (.enter 48 [.agg [.d (.int .i64 a), .d (.int .i64 b), .d (.int .u64 c)]])) = WpL cfg ops k (putT T dst v) S F Q :=
 wJ (ds := [.agg [.int .i64 a, .int .i64 b, .int .u64 c]]) rfl rfl rfl h
theorem zhq {ops : Array Oper} {F : Dfs} {Q : Post} {K : List Nat → List (Nat × Nat) → List V → Store → Prop} {rd : List Nat} {cs : List (Nat × Nat)} {i : Nat} {dst : Option Tmp} {T : List V} {S : Store} {b : List UInt8} (hb : b.length = 256) {k0 w : Nat} (hk0 : k0 + w ≤ 256) (hw1 : 1 ≤ w) (hw4 : w ≤ 4) :
  WpE cfg ops F Q K rd cs i dst T S (some (.enter 98 [.d (blkD b), .d (.int .i64 (k0 : Int)), .d (.int .i64 (w : Int))])) = K (i :: rd) (cs ++ [(i, 1)]) (putT T dst (.d (.int .i64 (leN ((b.drop k0).take w) : Int)))) S :=
 z4m (ds := [blkD b, .int .i64 (k0 : Int), .int .i64 (w : Int)]) rfl rfl rfl (zwh b hb k0 w hk0 hw1 hw4)
theorem zs6 (B I M : Nat) (hB : B ≤ 512) (hI : I ≤ 128) (hM : M < 18446744073709551616) (hm : MayL ⟨(B : Int), (I : Int), (M : Int)⟩) : Ev cfg 57 [blkD (supB B I M)] (.ret (.tup [.d (encLay ⟨(B : Int), (I : Int), (M : Int)⟩), .d (.int .i64 0)])) := by
 refine jW rfl rfl zym ?_
 show Wp cfg (Try.f57.body.getD .skip) ((.d (blkD (supB B I M))) :: uZ (uZ (uZ ((.tup []) :: (.tup []) :: (.tup []) :: (.tup []) :: [])))) [] [] _
 unfold uZ
 conv => arg 2; whnf
 have l5 := z5e B I M
 have hf := fd42 l5
 have hp := zj7 _ B I M rfl hB hI hM hm
 have l0 := z256
 have e1 : ((supB B I M).drop 12).take 8 = leB 8 M := by
  unfold supB supL
  simp [magicB, qK, List.drop_append, List.take_append]
 have c1 := fun {ops dst k T S F Q} => zg7 (ops := ops) (dst := dst) (k := k) (T := T) (S := S) (F := F) (Q := Q) l5 (k0 := 12) (n := 8) (by omega) (by omega)
 rw [e1] at c1
 have c2 := fun {ops dst k T S F Q} => zjz (ops := ops) (dst := dst) (k := k) (T := T) (S := S) (F := F) (Q := Q) (qK 8 M)
 rw [z88, Nat.mod_eq_of_lt (by omega)] at c2
 simp only [nl0, nl1, nl2, nl4, nl8, nl10, nl12, nl16, nl20, zha] at c1 c2
 simp (maxSteps:=1000000) (disch:=first|assumption|omega|rfl) only [↓gp, gc, Nat.reduceAdd, hf, c1, c2, bo69, bo97, z04]
 have a1 : ((supB B I M).drop 8).take 2 = leB 2 B := by
  unfold supB supL
  simp [magicB, qK, List.drop_append, List.take_append]
 have a2 : ((supB B I M).drop 10).take 2 = leB 2 I := by
  unfold supB supL
  simp [magicB, qK, List.drop_append, List.take_append]
 have d1 := fun {ops F Q K rd cs i dst T S} => zhq (ops := ops) (F := F) (Q := Q) (K := K) (rd := rd) (cs := cs) (i := i) (dst := dst) (T := T) (S := S) l5 (k0 := 8) (w := 2) (by omega) (by omega) (by omega)
 have d2 := fun {ops F Q K rd cs i dst T S} => zhq (ops := ops) (F := F) (Q := Q) (K := K) (rd := rd) (cs := cs) (i := i) (dst := dst) (T := T) (S := S) l5 (k0 := 10) (w := 2) (by omega) (by omega) (by omega)
 rw [a1, z88, Nat.mod_eq_of_lt (by omega)] at d1
 rw [a2, z88, Nat.mod_eq_of_lt (by omega)] at d2
 simp only [nl0, nl1, nl2, nl4, nl8, nl10, nl12, nl16, nl20, zha] at d1 d2
 refine kH (is := [0, 2, 4, 1, 3, 5, 6, 7]) (h := 8) (by kernel_rfl) (by kernel_rfl) ?_
 simp (maxSteps:=1000000) (disch:=first|assumption|omega|rfl) only [List.replicate_zero, eq_self, gd, ga, Nat.reduceAdd, ↓gq, vso, d1, d2, bo98, z04, bd24, zay z24 zf24, z8x, true_and, st24]
 refine ⟨fun _ => by kernel_rfl, ?_⟩
 refine ⟨by kernel_rfl, ?_⟩
 simp (maxSteps:=1000000) (disch:=first|assumption|omega|rfl) only [↓gp, gc, Nat.reduceAdd, ztt hp, bo48, z42, zf42, z7y, z04, q09, st24]
 exact z0s rfl rfl (x := .agg [.d (.int .i64 (B : Int)), .d (.int .i64 (I : Int)), .d (.int .u64 (M : Int))]) ((zM rfl).trans (by kernel_rfl)) rfl rfl rfl rfl
theorem zlw : Ev cfg 50 [] (.ret (.d (.int .i64 1))) := ⟨50, by kernel_rfl⟩
theorem zqg (l : Lay) (hb : InB l.blocks) (hi : InB l.inodes) (hm : MayL l) : Ev cfg 112 [encLay l] (.ret (.d (.bool true))) := by
 refine jW rfl rfl zta ?_
 show Wp cfg (Try.f112.body.getD .skip) ((.d (encLay l)) :: (.tup []) :: (.tup []) :: (.tup []) :: (.tup []) :: (.tup []) :: []) [] [] _
 conv => arg 2; whnf
 have hc := fun {ops dst k T S F Q} => z9s (ops := ops) (dst := dst) (k := k) (T := T) (S := S) (F := F) (Q := Q) (l := l) hb hi
 rw [if_pos hm] at hc
 simp (maxSteps:=1000000) (disch:=first|assumption|omega|rfl) only [↓gp, gc, Nat.reduceAdd, hc, bo67]
 exact zO rfl rfl rfl
theorem zfh (l : Lay) (hb : InB l.blocks) (hi : InB l.inodes) (hm : MayL l) : Ev cfg 91 [encLay l] (.ret (.tup [.d (.int .i64 2), .d (.int .i64 (l.inodes.tdiv 8))])) := by
 refine jW rfl rfl zv5 ?_
 show Wp cfg (Try.f91.body.getD .skip) ((.d (encLay l)) :: uZ ((.tup []) :: [])) [] [] _
 unfold uZ
 conv => arg 2; whnf
 have hc := fun {ops dst k T S F Q} => qA (C := cfg) (ops := ops) (dst := dst) (l := k) (T := T) (S := S) (F := F) (Q := Q) (ds := [encLay l]) rfl (zqg l hb hi hm)
 have hc : ∀ {ops dst k T S F Q}, WpR cfg ops dst k T S F Q (some (.enter 112 [.d (encLay l)])) = WpL cfg ops k (putT T dst (.d (.bool true))) S F Q := hc
 have hq := quo8 hi
 have hM := fun {ops F Q K rd cs i dst T S} => z4x (C := cfg) (ops := ops) (F := F) (Q := Q) (K := K) (rd := rd) (cs := cs) (i := i) (dst := dst) (T := T) (S := S) (ds := []) rfl zlw
 simp only [List.map_nil] at hM
 simp (maxSteps:=1000000) (disch:=first|assumption|omega|rfl) only [↓gp, gc, Nat.reduceAdd, hc, zji]
 refine kH (is := [2, 3, 4, 0, 1, 5, 6]) (h := 0) (by kernel_rfl) (by kernel_rfl) ?_
 simp (maxSteps:=1000000) (disch:=first|assumption|omega|rfl) only [List.replicate_zero, eq_self, gd, ga, Nat.reduceAdd, ↓gq, vso, hM, bo50, hq]
 refine ⟨by kernel_rfl, ?_⟩
 simp (maxSteps:=1000000) (disch:=first|assumption|omega|rfl) only [↓gp, gc, Nat.reduceAdd]
 exact zbd rfl rfl rfl rfl rfl rfl
theorem zk4 (l : Lay) (hb : InB l.blocks) (hi : InB l.inodes) (hm : MayL l) : Ev cfg 51 [encLay l] (.ret (.d (.int .i64 (2 + l.inodes.tdiv 8)))) := by
 refine jW rfl rfl zwq ?_
 show Wp cfg (Try.f51.body.getD .skip) ((.d (encLay l)) :: uZ ((.tup []) :: (.tup []) :: [])) [] [] _
 unfold uZ
 conv => arg 2; whnf
 have hc : ∀ {ops dst k T S F Q}, WpR cfg ops dst k T S F Q (some (.enter 91 [.d (encLay l)])) = WpL cfg ops k (putT T dst (.tup [.d (.int .i64 2), .d (.int .i64 (l.inodes.tdiv 8))])) S F Q := fun {ops dst k T S F Q} => qA (C := cfg) (ops := ops) (dst := dst) (l := k) (T := T) (S := S) (F := F) (Q := Q) (ds := [encLay l]) rfl (zfh l hb hi hm)
 have hd : 0 ≤ l.inodes.tdiv 8 ∧ l.inodes.tdiv 8 ≤ 16 := by
  have h1 := hm.2.2.1
  have h2 := hm.2.2.2.1
  rw [Int.tdiv_eq_ediv_of_nonneg (by omega)]; omega
 have hw : IntKind.i64.wrap (2 + l.inodes.tdiv 8) = 2 + l.inodes.tdiv 8 := wrap64 (by omega)
 simp (maxSteps:=1000000) (disch:=first|assumption|omega|rfl) only [↓gp, gc, Nat.reduceAdd, hc, bo91, hw]
 exact zO rfl rfl rfl
def upto (n : Nat) : List Int := (List.range n).map fun i : Nat => (i : Int)
theorem zme (n : Nat) : upto (n + 1) = upto n ++ [(n : Int)] := by unfold upto; rw [List.range_succ, List.map_append]; rfl
theorem z7a (n : Nat) : (upto n).length = n := by unfold upto; simp
def encI (l : List Int) : D := .sl (l.map (D.int .i64))
theorem zzp (l : Lay) (n : Nat) (hn : n ≤ 1000) (R : Post) : ∀ (k i : Nat) (S : Store) (v3 g0 g1 g2 g4 g5 g8 g9 gM gF gG gB gC gA : V), n - i = k → i ≤ n → OwnS S v3 3 ((upto i).map fun x => .d (D.int .i64 x)) →
 (∀ S v3 i' g0 g1 g2 g4 g5 g8 g9 gM gF gG gB gC gA, OwnS S v3 3 ((upto n).map fun x => .d (D.int .i64 x)) → R (.exit 0) (g0 :: g1 :: g2 :: v3 :: g4 :: g5 :: (.d (.int .i64 (n : Int))) :: i' :: g8 :: g9 :: gM :: gF :: gG :: gB :: gC :: gA :: []) S []) →
 Wp cfg (.loop (lpOf (Try.f55.body.getD .skip) 0)) (g0 :: g1 :: g2 :: v3 :: g4 :: g5 :: (.d (.int .i64 (n : Int))) :: (.d (.int .i64 (i : Int))) :: g8 :: g9 :: gM :: gF :: gG :: gB :: gC :: gA :: []) S [] R := by
 intro k
 induction k with
 | zero =>
  intro i S v3 g0 g1 g2 g4 g5 g8 g9 gM gF gG gB gC gA hk hi ho hR
  have hie : i = n := by omega
  subst hie
  rw [zR]
  refine zJ ?_
  conv => arg 2; whnf
  simp (maxSteps:=1000000) (disch:=first|assumption|omega|rfl) only [↓gp, gc, Nat.reduceAdd]
  exact hR _ _ _ _ _ _ _ _ _ _ _ _ _ _ _ _ ho
 | succ k ih =>
  intro i S v3 g0 g1 g2 g4 g5 g8 g9 gM gF gG gB gC gA hk hi ho hR
  have hlt : i < n := by omega
  have h3 : IntKind.i64.wrap ((i : Int) + 1) = ((i + 1 : Nat) : Int) := by rw [wrap64 (by omega)]; omega
  obtain ⟨v', S', c, ha, ho', hfr, hlen⟩ := ap46 (i : Int) ho (by rw [z7a]; omega)
  rw [← zme] at ho'
  rw [zR]
  refine zJ ?_
  conv => arg 2; whnf
  simp (maxSteps:=1000000) (disch:=first|assumption|omega|rfl) only [↓gp, gc, Nat.reduceAdd, ha, h3]
  exact ih (i + 1) S' v' _ _ _ _ _ _ _ _ _ _ _ _ _ (by omega) (by omega) ho' hR
theorem zvp (l : Lay) (n : Nat) (hb : InB l.blocks) (hi : InB l.inodes) (hm : MayL l) (hn : 2 + l.inodes.tdiv 8 = (n : Int)) (hn1 : n ≤ 1000) : Ev cfg 55 [encLay l] (.ret (.d (encI (upto n)))) := by
 refine jW rfl rfl zub ?_
 show Wp cfg (Try.f55.body.getD .skip) ((.d (encLay l)) :: uZ ((.tup []) :: (.tup []) :: (.tup []) :: (.tup []) :: (.tup []) :: [])) [] [] _
 unfold uZ
 conv => arg 2; whnf
 have hc : ∀ {ops dst k T S F Q}, WpR cfg ops dst k T S F Q (some (.enter 51 [.d (encLay l)])) = WpL cfg ops k (putT T dst (.d (.int .i64 (2 + l.inodes.tdiv 8)))) S F Q := fun {ops dst k T S F Q} => qA (C := cfg) (ops := ops) (dst := dst) (l := k) (T := T) (S := S) (F := F) (Q := Q) (ds := [encLay l]) rfl (zk4 l hb hi hm)
 rw [hn] at hc
 simp (maxSteps:=1000000) (disch:=first|assumption|omega|rfl) only [↓gp, gc, Nat.reduceAdd, hc, bo51]
 refine zzp l n hn1 _ n 0 _ _ _ _ _ _ _ _ _ _ _ _ _ _ _ rfl (by omega) OwnS.nil ?_
 intro S v3 i' g0 g1 g2 g4 g5 g8 g9 gM gF gG gB gC gA ho
 simp (maxSteps:=1000000) (disch:=first|assumption|omega|rfl) only [↓gp, gc, Nat.reduceAdd]
 exact zO rfl (qF ho) (zok (enc := D.int .i64) ho)
theorem zmk : ∀ k, k < 18 → Ev cfg 95 [blkD (mapB k), .int .i64 (k : Int), .bool true] (.ret (.d (blkD (mapB (k + 1)))))
 | 0, _ => ⟨200, by kernel_rfl⟩
 | 1, _ => ⟨200, by kernel_rfl⟩
 | 2, _ => ⟨200, by kernel_rfl⟩
 | 3, _ => ⟨200, by kernel_rfl⟩
 | 4, _ => ⟨200, by kernel_rfl⟩
 | 5, _ => ⟨200, by kernel_rfl⟩
 | 6, _ => ⟨200, by kernel_rfl⟩
 | 7, _ => ⟨200, by kernel_rfl⟩
 | 8, _ => ⟨200, by kernel_rfl⟩
 | 9, _ => ⟨200, by kernel_rfl⟩
 | 10, _ => ⟨200, by kernel_rfl⟩
 | 11, _ => ⟨200, by kernel_rfl⟩
 | 12, _ => ⟨200, by kernel_rfl⟩
 | 13, _ => ⟨200, by kernel_rfl⟩
 | 14, _ => ⟨200, by kernel_rfl⟩
 | 15, _ => ⟨200, by kernel_rfl⟩
 | 16, _ => ⟨200, by kernel_rfl⟩
 | 17, _ => ⟨200, by kernel_rfl⟩
 | n + 18, h => by omega
theorem zsx {ops : Array Oper} {dst : Option Tmp} {k : List Oper} {T : List V} {S : Store} {F : Dfs} {Q : Post} {u : V} {i : Nat} (hu : IsB u (mapB i)) (hi : i < 18) : WpR cfg ops dst k T S F Q (some (.enter 95 [u, .d (.int .i64 (i : Int)), .d (.bool true)])) = WpL cfg ops k (putT T dst (.d (blkD (mapB (i + 1))))) S F Q :=
 wJ (ds := [blkD (mapB i), .int .i64 (i : Int), .bool true]) rfl (by simp only [allO, hu.frz (n := 10), zH]; rfl) (by rw [List.flatMap_cons, hu.frzIds]; rfl) (zmk i hi)
theorem zw1 (n : Nat) (hn : n ≤ 18) (R : Post) : ∀ (k i : Nat) (u : V) (g0 g1 g4 g5 g9 gM gF gG gB gC gA gE : V), n - i = k → i ≤ n → IsB u (mapB i) →
 (∀ u i' g0 g1 g4 g5 g9 gM gF gG gB gC gA gE, IsB u (mapB n) → R (.exit 0) (g0 :: g1 :: (.ref 0 0 0) :: (.ref 1 0 0) :: g4 :: g5 :: (.d (encI (upto n))) :: (.d (.int .i64 (n : Int))) :: i' :: g9 :: gM :: gF :: gG :: gB :: gC :: gA :: gE :: []) [.row [blkV (zC 256)] 42, .row [u] 42] []) →
 Wp cfg (.loop (lpOf (Try.f54.body.getD .skip) 0)) (g0 :: g1 :: (.ref 0 0 0) :: (.ref 1 0 0) :: g4 :: g5 :: (.d (encI (upto n))) :: (.d (.int .i64 (n : Int))) :: (.d (.int .i64 (i : Int))) :: g9 :: gM :: gF :: gG :: gB :: gC :: gA :: gE :: []) [.row [blkV (zC 256)] 42, .row [u] 42] [] R := by
 intro k
 induction k with
 | zero =>
  intro i u g0 g1 g4 g5 g9 gM gF gG gB gC gA gE hk hi hu hR
  have hie : i = n := by omega
  subst hie
  rw [zR]
  refine zJ ?_
  conv => arg 2; whnf
  simp (maxSteps:=1000000) (disch:=first|assumption|omega|rfl) only [↓gp, gc, Nat.reduceAdd]
  exact hR _ _ _ _ _ _ _ _ _ _ _ _ _ _ hu
 | succ k ih =>
  intro i u g0 g1 g4 g5 g9 gM gF gG gB gC gA gE hk hi hu hR
  have hlt : i < n := by omega
  have h3 : IntKind.i64.wrap ((i : Int) + 1) = ((i + 1 : Nat) : Int) := by rw [wrap64 (by omega)]; omega
  have hix : ∀ S : Store, zE Try.prog S 46 (.d (encI (upto n))) (.d (.int .i64 (i : Int))) = some (.d (.ptr (.int .i64 (i : Int)))) := fun S => by
   have := ix46 (S := S) (l := upto n) (i := i) (by rw [z7a]; omega)
   have e : (upto n)[i]'(by rw [z7a]; omega) = (i : Int) := by simp [upto]
   rw [e] at this
   exact this
  have hld := bt42.load hu (z1f i)
  have hcw := fun {ops dst k T S F Q} => zsx (ops := ops) (dst := dst) (k := k) (T := T) (S := S) (F := F) (Q := Q) hu (by omega)
  have hst := bt42.store (jL (b := mapB (i + 1))) (z1f _) hu (z1f i)
  rw [zR]
  refine zJ ?_
  conv => arg 2; whnf
  simp (maxSteps:=1000000) (disch:=first|assumption|omega|rfl) only [↓gp, gc, Nat.reduceAdd, h3, hix, hld, hcw, bo95, hst, hu.one, if_true, eq_self]
  exact ih (i + 1) _ _ _ _ _ _ _ _ _ _ _ _ _ (by omega) (by omega) jL hR
theorem ztk (n : Nat) (hn : n ≤ 18) : Ev cfg 54 [encI (upto n)] (.ret (.d (blkD (mapB n)))) := by
 refine jW rfl rfl zyp ?_
 show Wp cfg (Try.f54.body.getD .skip) ((.d (encI (upto n))) :: uZ ((.tup []) :: (.tup []) :: (.tup []) :: (.tup []) :: (.tup []) :: (.tup []) :: [])) [] [] _
 unfold uZ
 conv => arg 2; whnf
 have hln : ∀ S : Store, zI Try.prog S .len [46] [.d (encI (upto n))] = some (.val (.d (.int .i64 n)) S 0) := fun S => by rw [encI, zwu, List.length_map, z7a]
 simp (maxSteps:=1000000) (disch:=first|assumption|omega|rfl) only [↓gp, gc, Nat.reduceAdd, z42, zf42, hln]
 refine zw1 n hn _ n 0 _ _ _ _ _ _ _ _ _ _ _ _ _ rfl (Nat.zero_le _) isB_v ?_
 intro u i' g0 g1 g4 g5 g9 gM gF gG gB gC gA gE hu
 have hld := bt42.load hu (z1f n)
 have hst := bt42.store hu (z1f n) (w := blkV (zC 256)) isB_v z256
 simp (maxSteps:=1000000) (disch:=first|assumption|omega|rfl) only [↓gp, gc, Nat.reduceAdd, hld, hst]
 exact wK (u := .ref 0 0 0) (v := u) rfl ((zM rfl).trans hld) hu.one (hu.frz (n := 10))
def rootB : List UInt8 := [2, 0, 1, 0, 0, 0, 0, 0, 1, 0] ++ zC 246
def zyh : D := .agg [.int .i64 2, .int .i64 1, .int .i64 0, .int .i64 1, .int .i64 0, .int .i64 0, .int .i64 0, .int .i64 0, .int .i64 0, .int .i64 0, .int .i64 0]
theorem zmm : Ev cfg 52 [blkD (zC 256), .int .i64 0, zyh] (.ret (.tup [.d (blkD rootB), .d (.int .i64 0)])) := ⟨1000, by kernel_rfl⟩
def dskV (r n : Nat) (f : Int) (lit off : Bool) (w q : Int) : V := .agg [.rs r 0 n, .d (.int .i64 f), .d (.bool lit), .d (.bool off), .d (.int .i64 w), .d (.int .i64 q)]
section
variable {r n d x y : Nat} {f w q f' w' q' : Int} {lit off lit' off' : Bool} {S : Store}
theorem z82 : zF Try.prog 89 0 (.ref d x y) = some (.ref d x (y + 0)) := by kernel_rfl
theorem zjx : zF Try.prog 89 1 (.ref d x y) = some (.ref d x (y + 1)) := by kernel_rfl
theorem zli : zF Try.prog 89 2 (.ref d x y) = some (.ref d x (y + 2)) := by kernel_rfl
theorem z9h : zF Try.prog 89 3 (.ref d x y) = some (.ref d x (y + 3)) := by kernel_rfl
theorem zu7 : zF Try.prog 89 4 (.ref d x y) = some (.ref d x (y + 4)) := by kernel_rfl
theorem zup : zF Try.prog 89 5 (.ref d x y) = some (.ref d x (y + 5)) := by kernel_rfl
theorem lk0 : qL Try.prog 37 0 (some (dskV r n f lit off w q)) = some (.rs r 0 n) := by kernel_rfl
theorem lk1 : qL Try.prog 3 1 (some (dskV r n f lit off w q)) = some (.d (.int .i64 f)) := by kernel_rfl
theorem lk2 : qL Try.prog 4 2 (some (dskV r n f lit off w q)) = some (.d (.bool lit)) := by kernel_rfl
theorem lk3 : qL Try.prog 4 3 (some (dskV r n f lit off w q)) = some (.d (.bool off)) := by kernel_rfl
theorem lk4 : qL Try.prog 3 4 (some (dskV r n f lit off w q)) = some (.d (.int .i64 w)) := by kernel_rfl
theorem lk5 : qL Try.prog 3 5 (some (dskV r n f lit off w q)) = some (.d (.int .i64 q)) := by kernel_rfl
theorem sk1 : qI Try.prog 3 1 (.d (.int .i64 f')) (dskV r n f lit off w q) = some (dskV r n f' lit off w q) := by kernel_rfl
theorem sk3 : qI Try.prog 4 3 (.d (.bool off')) (dskV r n f lit off w q) = some (dskV r n f lit off' w q) := by kernel_rfl
theorem sk4 : qI Try.prog 3 4 (.d (.int .i64 w')) (dskV r n f lit off w q) = some (dskV r n f lit off w' q) := by kernel_rfl
theorem sk5 : qI Try.prog 3 5 (.d (.int .i64 q')) (dskV r n f lit off w q) = some (dskV r n f lit off w q') := by kernel_rfl
theorem zev : binV Try.prog .eql 26 (.ref d x y) (.d .nilp) = some (.d (.bool false)) := by kernel_rfl
theorem u37 : Try.prog.underlying 37 = some (.slice 42) := by kernel_rfl
theorem zn1 {i o m : Nat} : zI Try.prog S .len [37] [.rs i o m] = some (.val (.d (.int .i64 m)) S 0) := z9t u37
theorem lr26 : qL Try.prog 26 0 (some (.ref d x y)) = some (.ref d x y) := by kernel_rfl
theorem zhb : qL Try.prog 29 0 (some (.d (.int .i64 f))) = some (.d (.int .i64 f)) := by kernel_rfl
theorem zmf : qI Try.prog 29 0 (.d (.int .i64 f')) (.d (.int .i64 f)) = some (.d (.int .i64 f')) := by kernel_rfl
theorem ft26 : zZ Try.prog 26 (.ref d x y) = true := by kernel_rfl
theorem z29 : zeroV Try.prog 29 = some (.d (.int .i64 0)) := by kernel_rfl
end
section
variable {S l : Store} {n k i : Nat} {x y : V} {a b c o : Ob} {e : TypeId}
theorem rA0 (h : S.length = n) : rowE (S ++ .row [x] e :: l) n 0 = some x := by
 subst h; exact zK (e := e) (by simp)
theorem rA1 (h : S.length = n) : rowE (S ++ a :: .row [x] e :: l) (n + 1) 0 = some x := by
 subst h; exact zK (e := e) (by rw [List.getElem?_append_right (by omega)]; simp)
theorem rA2 (h : S.length = n) : rowE (S ++ a :: b :: .row [x] e :: l) (n + 2) 0 = some x := by
 subst h; exact zK (e := e) (by rw [List.getElem?_append_right (by omega)]; simp)
theorem pA0 (h : S.length = n) : jF (S ++ .row [x] e :: l) n 0 y = some (S ++ .row [y] e :: l) := by
 subst h
 rw [qH (x := x) (e := e) (by simp)]
 simp
theorem pA1 (h : S.length = n) : jF (S ++ a :: .row [x] e :: l) (n + 1) 0 y = some (S ++ a :: .row [y] e :: l) := by
 subst h
 rw [qH (x := x) (e := e) (by rw [List.getElem?_append_right (by omega)]; simp)]
 rw [List.set_append_right _ _ (by omega)]
 simp
theorem pA2 (h : S.length = n) : jF (S ++ a :: b :: .row [x] e :: l) (n + 2) 0 y = some (S ++ a :: b :: .row [y] e :: l) := by
 subst h
 rw [qH (x := x) (e := e) (by rw [List.getElem?_append_right (by omega)]; simp)]
 rw [List.set_append_right _ _ (by omega)]
 simp
theorem rS0 (h : i < S.length) : rowE (S.set i (.row [x] e) ++ l) i 0 = some x := zK (e := e) (by rw [List.getElem?_append_left (by simpa using h)]; simp [h])
end
theorem zik : zA Try.prog 94 = some ⟨(Try.f94.body.getD .skip), 11, #[]⟩ := by
 unfold zA
 rw [Try.func94]
 rfl
theorem zx0 : zA Try.prog 96 = some ⟨(Try.f96.body.getD .skip), 8, #[]⟩ := by
 unfold zA
 rw [Try.func96]
 rfl
structure DskAt (S : Store) (d r : Nat) (vs : List V) (f : Int) (lit off : Bool) (w q : Int) : Prop where
 hd : S[d]? = some (.row [dskV r vs.length f lit off w q] 89)
 hr : S[r]? = some (.row vs 42)
 ne : r ≠ d
section
variable {S l : Store} {d r : Nat} {vs : List V} {f w q : Int} {lit off : Bool}
theorem DskAt.rd (h : DskAt S d r vs f lit off w q) : rowE (S ++ l) d 0 = some (dskV r vs.length f lit off w q) := zK (e := 89) (by rw [List.getElem?_append_left (zN h.hd)]; exact h.hd)
theorem DskAt.rd' (h : DskAt S d r vs f lit off w q) : rowE S d 0 = some (dskV r vs.length f lit off w q) := zK (e := 89) h.hd
theorem DskAt.pd (h : DskAt S d r vs f lit off w q) {y : V} : jF (S ++ l) d 0 y = some (S.set d (.row [y] 89) ++ l) := by
 rw [qH (e := 89) (by rw [List.getElem?_append_left (zN h.hd)]; exact h.hd), List.set_append_left _ _ (zN h.hd)]
theorem DskAt.dl (h : DskAt S d r vs f lit off w q) : d < S.length := zN h.hd
theorem DskAt.rl (h : DskAt S d r vs f lit off w q) : r < S.length := zN h.hr
end
theorem zm9 (S : Store) (d r : Nat) (vs : List V) (f w q : Int) (lit off : Bool) (h : DskAt S d r vs f lit off w q) : EvS cfg 49 [.ref d 0 0] S (fun o S' => S' = S ∧ o = .ret (.d (.int .i64 vs.length))) := by
 refine qN rfl zxs ?_
 show Wp cfg (Try.f49.body.getD .skip) ((.ref d 0 0) :: (.tup []) :: (.tup []) :: (.tup []) :: (.tup []) :: (.tup []) :: (.tup []) :: (.tup []) :: (.tup []) :: (.tup []) :: []) S [] _
 conv => arg 2; whnf
 rw [zR]
 have hd := h.rd'
 simp (maxSteps:=1000000) (disch:=first|assumption|omega|rfl) only [↓gp, gc, Nat.reduceAdd, zev, z82, hd, lk0, zn1]
 exact ⟨rfl, _, rfl, rfl, rfl⟩
theorem zjd (S : Store) (d r : Nat) (vs : List V) (f w q : Int) (lit : Bool) (no : Nat) (h : DskAt S d r vs f lit false w q) (hn : no < vs.length) : EvS cfg 93 [.ref d 0 0, .d (.int .i64 (no : Int))] S (fun o S' => S' = S ∧ o = .ret (.d (.int .i64 0))) := by
 refine qN rfl zq3 ?_
 show Wp cfg (Try.f93.body.getD .skip) ((.ref d 0 0) :: (.d (.int .i64 (no : Int))) :: uZ (uZ ((.tup []) :: (.tup []) :: (.tup []) :: []))) S [] _
 unfold uZ
 conv => arg 2; whnf
 rw [zR]
 have hd := h.rd'
 have c1 : ¬ (no : Int) < 0 := by omega
 have c2 : ¬ (no : Int) ≥ (vs.length : Int) := by omega
 simp (maxSteps:=1000000) (disch:=first|assumption|omega|rfl) only [↓gp, gc, Nat.reduceAdd, zev, z82, z9h, hd, lk0, lk3, zn1]
 exact ⟨rfl, _, rfl, rfl, rfl⟩
theorem lset {S : Store} {d : Nat} {o : Ob} : (S.set d o).length = S.length := List.length_set ..
theorem mf94 {S : Store} {a b : Nat} : mfS (.func 94) S [] [.ref a 0 0, .ref b 0 0] = some (.val (.fn (.func 94) [] [.ref a 0 0, .ref b 0 0]) S 0) := z62 rfl
theorem mf96 {S : Store} {a : Nat} : mfS (.func 96) S [] [.ref a 0 0] = some (.val (.fn (.func 96) [] [.ref a 0 0]) S 0) := z62 rfl
section
variable {ops : Array Oper} {dst : Option Tmp} {l : List Oper} {T : List V} {S : Store} {F : Dfs} {Q : Post} {ty : TypeId} {pos : String} {after : Array Edge} {t a b : Nat} {pre suf : List V}
noncomputable def dfV : V → Option Rs
 | .fn (.func g) first caps => if (zA Try.prog g).isSome then some (.dfr g (first ++ caps)) else none
 | _ => none
theorem z78 : WpL cfg ops (⟨dst, .defer ⟨.value (.tmp t), #[], #[]⟩, ty, pos, after, none⟩ :: l) T S F Q = WpR cfg ops dst l T S F Q (dfV (T.getD t .junk)) := by
 rw [vG rfl]
 have e : opV cfg.P S T ⟨dst, .defer ⟨.value (.tmp t), #[], #[]⟩, ty, pos, after, none⟩ = dfV (T.getD t .junk) := by
  show (match T.getD t .junk with | .fn (.func g) first caps => if [].all V.one && (zA Try.prog g).isSome then some (Rs.dfr g (first ++ [] ++ caps)) else none | _ => none) = _
  simp only [List.all_nil, Bool.true_and, List.append_nil]
  rfl
 rw [e]
theorem zg3 {f : FuncId} {args : List V} : WpR cfg ops dst l T S F Q (some (.dfr f args)) = WpL cfg ops l (putT T dst (.tup [])) S ((f, args) :: F) Q := rfl
theorem df94 {x y : V} : dfV (.fn (.func 94) [] [x, y]) = some (.dfr 94 [x, y]) := by
 unfold dfV
 exact if_pos bo94
theorem df96 {x : V} : dfV (.fn (.func 96) [] [x]) = some (.dfr 96 [x]) := by
 unfold dfV
 exact if_pos bo96
end
def nilS (S : Store) : V → Option Rs
 | .ref i ix off => some (.val (.ref i ix off) S 0)
 | .d (.ptr x) => some (.val (.d (.ptr x)) S 0)
 | .fn (.func g) a b => some (.val (.fn (.func g) a b) S 0)
 | _ => none
theorem kB {P : Program} {S : Store} {T : List V} {dst : Option Tmp} {ty : TypeId} {pos : String} {after : Array Edge} {g : Option (Nat × Bool)} {x : Operand} : opV P S T ⟨dst, .nilCheck x, ty, pos, after, g⟩ = nilS S (zB T x) := by
 simp only [opV]
 generalize zB T x = v
 cases v with
 | d y => cases y <;> rfl
 | fn f a b => cases f <;> rfl
 | _ => rfl
theorem vK {S : Store} {i ix off : Nat} : nilS S (.ref i ix off) = some (.val (.ref i ix off) S 0) := rfl
theorem zQ {ops : Array Oper} {dst : Option Tmp} {l : List Oper} {T : List V} {S S2 : Store} {F : Dfs} {Q : Post} {f : FuncId} {args : List V} {v : V} (hs : cfg.shared f = true) (he : EvS cfg f args S (fun o S' => S' = S2 ∧ o = .ret v)) : WpR cfg ops dst l T S F Q (some (.enter f args)) = WpL cfg ops l (putT T dst v) S2 F Q := by
 obtain ⟨n, o, S', hn, rfl, rfl⟩ := he
 have hc : jM cfg (run cfg n) f args S = some (.ret v, S', 3) := by
  unfold jM
  simp only [hs, if_true, hn, Option.map_some]
 apply propext
 constructor
 ·rintro ⟨m, o, S2, c, h1, h2⟩
  have := wV h1 hc
  simp only [Prod.mk.injEq] at this
  obtain ⟨rfl, rfl, rfl⟩ := this
  exact h2
 ·exact fun h => ⟨n, _, _, _, hc, h⟩
theorem DskAt.app {S l : Store} {d r : Nat} {vs : List V} {f w q : Int} {lit off : Bool} (h : DskAt S d r vs f lit off w q) : DskAt (S ++ l) d r vs f lit off w q :=
 ⟨by rw [List.getElem?_append_left h.dl]; exact h.hd, by rw [List.getElem?_append_left h.rl]; exact h.hr, h.ne⟩
theorem DskAt.setd {S : Store} {d r : Nat} {vs : List V} {f w q f' w' q' : Int} {lit off lit' off' : Bool} (h : DskAt S d r vs f lit off w q) : DskAt (S.set d (.row [dskV r vs.length f' lit' off' w' q'] 89)) d r vs f' lit' off' w' q' :=
 ⟨zim h.hd, by rw [List.getElem?_set_ne (Ne.symm h.ne)]; exact h.hr, h.ne⟩
theorem q2t {S : Store} {r n i : Nat} {vs : List V} (hS : S[r]? = some (.row vs 42)) (hi : i < n) : zE Try.prog S 37 (.rs r 0 n) (.d (.int .i64 (i : Int))) = some (.ref r i 0) := by
 have h1 : rowT S r 42 = true := by unfold rowT; rw [hS]; rfl
 have h2 : (sz Try.prog 42).isSome = true := by kernel_rfl
 simp only [zE, intOf?, u37]
 rw [if_pos ⟨⟨by omega, by omega⟩, h1, h2⟩]
 simp
section
variable {S l : Store} {d r : Nat} {vs : List V} {f w q : Int} {lit off : Bool} {i : Nat}
theorem DskAt.ix (h : DskAt S d r vs f lit off w q) (hi : i < vs.length) : zE Try.prog (S ++ l) 37 (.rs r 0 vs.length) (.d (.int .i64 (i : Int))) = some (.ref r i 0) := q2t (vs := vs) (h.app (l := l)).hr hi
theorem DskAt.rr (h : DskAt S d r vs f lit off w q) (hi : i < vs.length) : rowE (S ++ l) r i = some vs[i] := by
 unfold rowE
 rw [(h.app (l := l)).hr]
 exact List.getElem?_eq_getElem hi
theorem DskAt.pr (h : DskAt S d r vs f lit off w q) {y : V} : jF (S ++ l) r i y = some (S.set r (.row (vs.set i y) 42) ++ l) := by
 unfold jF
 rw [(h.app (l := l)).hr]
 simp only [List.set_append_left _ _ h.rl]
theorem DskAt.setr (h : DskAt S d r vs f lit off w q) {y : V} : DskAt (S.set r (.row (vs.set i y) 42)) d r (vs.set i y) f lit off w q :=
 ⟨by rw [List.getElem?_set_ne h.ne, List.length_set]; exact h.hd, zim h.hr, h.ne⟩
end
theorem zky (S : Store) (a d r : Nat) (vs : List V) (f w q : Int) (lit off : Bool) (h : DskAt S d r vs f lit off w q) (hS : S.length = a) (hw : 0 ≤ w ∧ w ≤ 1000000) (b : Ob) :
  Wp cfg (Try.f94.body.getD .skip) ((.ref (a + 2) 0 0) :: (.ref a 0 0) :: (.tup []) :: (.tup []) :: (.tup []) :: (.tup []) :: (.tup []) :: (.tup []) :: (.tup []) :: (.tup []) :: (.tup []) :: []) (S ++ [.row [.ref d 0 0] 26, b, .row [.d (.int .i64 0)] 29]) [] (fun x T S2 F => (x = .norm ∨ x = .ret) ∧ F = [] ∧ (∃ v, qC cfg.P #[] T S2 = some v) ∧ S2 = S.set d (.row [dskV r vs.length f lit off (w + 1) q] 89) ++ [.row [.ref d 0 0] 26, b, .row [.d (.int .i64 0)] 29]) := by
 conv => arg 2; whnf
 rw [zR]
 have hd := fun l => h.rd (l := l)
 have hp := fun l y => h.pd (l := l) (y := y)
 have h3 : IntKind.i64.wrap (w + 1) = w + 1 := wrap64 (by omega)
 simp (maxSteps:=1000000) (disch:=first|assumption|omega|rfl) only [↓gp, gc, Nat.reduceAdd, zu7, rA0 hS, rA1 hS, rA2 hS, hd, hp, zhb, lr26, lk4, sk4, h3, zL]
 try exact ⟨.inl trivial, trivial, ⟨_, rfl⟩, trivial⟩
theorem zro (S l : Store) (a : Nat) (e : Int) (he : e ≠ 0) (hS : S.length = a) (b c : Ob) :
  Wp cfg (Try.f94.body.getD .skip) ((.ref (a + 2) 0 0) :: (.ref a 0 0) :: (.tup []) :: (.tup []) :: (.tup []) :: (.tup []) :: (.tup []) :: (.tup []) :: (.tup []) :: (.tup []) :: (.tup []) :: []) (S ++ [c, b, .row [.d (.int .i64 e)] 29]) [] (fun x T S2 F => (x = .norm ∨ x = .ret) ∧ F = [] ∧ (∃ v, qC cfg.P #[] T S2 = some v) ∧ S2 = S ++ [c, b, .row [.d (.int .i64 e)] 29]) := by
 conv => arg 2; whnf
 rw [zR]
 have hde : ∀ i : Decidable (e = 0), @decide (e = 0) i = false := fun i => decide_eq_false he
 simp (maxSteps:=1000000) (disch:=first|assumption|omega|rfl) only [↓gp, gc, Nat.reduceAdd, rA2 hS, zhb, hde]
 try exact ⟨.inl trivial, trivial, ⟨_, rfl⟩, trivial⟩
theorem zrf {T : List V} {S : Store} {t x : Nat} {e : Int} (h1 : T.getD t (.tup []) = .ref x 0 0) (h2 : rowE S x 0 = some (.d (.int .i64 e))) : qC Try.prog #[.cell t 29] T S = some (.d (.int .i64 e)) := by
 have hl : kC Try.prog S 29 (.ref x 0 0) = some (.d (.int .i64 e)) := (zM h2).trans zhb
 simp only [qC, allO, jS, h1, hl]
theorem z4u (S : Store) (d r : Nat) (vs : List V) (w q : Int) (no : Nat) (u : V) (b : List UInt8) (h : DskAt S d r vs 0 true false w q) (hn : no < vs.length) (hu : IsB u b) (hb : b.length = 256) :
  EvS cfg 53 [.ref d 0 0, .d (.int .i64 (no : Int)), u] S (fun o S' => S' = S.set d (.row [dskV r vs.length 0 true true w q] 89) ++ [.row [.ref d 0 0] 26, .row [u] 42, .row [.d (.int .i64 12)] 29] ∧ o = .ret (.d (.int .i64 12))) := by
 refine zb1 rfl zpq ?_
 show Wp cfg (Try.f53.body.getD .skip) ((.ref d 0 0) :: (.d (.int .i64 (no : Int))) :: u :: uZ (uZ (uZ (uZ ((.tup []) :: (.tup []) :: (.tup []) :: []))))) S [] _
 unfold uZ
 conv => arg 2; whnf
 rw [zR]
 have hf := bt42.fits hu hb
 have hu1 := hu.one
 generalize ha : S.length = a
 have hd := fun l => h.rd (l := l)
 have hp := fun l y => h.pd (l := l) (y := y)
 have hdl := h.dl
 have hl : ∀ o, (S.set d o).length = a := fun o => lset.trans ha
 have hm := fun {ops dst k T F Q} l => zQ (ops := ops) (dst := dst) (l := k) (T := T) (F := F) (Q := Q) rfl (zjd (S ++ l) d r vs 0 w q true no h.app hn)
 simp (maxSteps:=1000000) (disch:=first|assumption|omega|rfl) only [↓gp, gc, Nat.reduceAdd, ft26, hf, z29, hu1, List.append_assoc, List.length_append, List.length_cons, List.length_nil, ha, rA0 ha, rA1 ha, rA2 ha, pA2 ha, rA0 (hl _), rA1 (hl _), rA2 (hl _), pA2 (hl _), lr26, zhb, zmf, hm, bo93, hd, hp, zjx, zli, z9h, lk1, lk2, sk3, wE, mf94, z78, df94, zg3, zL]
 exact ⟨.inr rfl, _, _, ⟨_, _, zik, zro (S.set d _) [] a 12 (by decide) (hl _) _ _, rfl⟩, zrf rfl (rA2 (hl _)), rfl, rfl⟩
theorem z55 (S : Store) (d r : Nat) (vs : List V) (f w q : Int) (lit : Bool) (no : Nat) (u v : V) (b b0 : List UInt8) (h : DskAt S d r vs f lit false w q) (hn : no < vs.length) (hu : IsB u b) (hb : b.length = 256) (hv : vs[no] = v) (hb0 : IsB v b0) (hl0 : b0.length = 256) (hw : 0 ≤ w ∧ w ≤ 1000000) (hf0 : 0 ≤ f ∧ InB f) (hlf : lit = true → f ≠ 0) :
  EvS cfg 53 [.ref d 0 0, .d (.int .i64 (no : Int)), u] S (fun o S' => S' = (S.set d (.row [dskV r vs.length (if lit then f - 1 else f) lit false (w + 1) q] 89)).set r (.row (vs.set no u) 42) ++ [.row [.ref d 0 0] 26, .row [u] 42, .row [.d (.int .i64 0)] 29] ∧ o = .ret (.d (.int .i64 0))) := by
 refine zb1 rfl zpq ?_
 show Wp cfg (Try.f53.body.getD .skip) ((.ref d 0 0) :: (.d (.int .i64 (no : Int))) :: u :: uZ (uZ (uZ (uZ ((.tup []) :: (.tup []) :: (.tup []) :: []))))) S [] _
 unfold uZ
 conv => arg 2; whnf
 rw [zR]
 have hf := bt42.fits hu hb
 have hu1 := hu.one
 generalize ha : S.length = a
 have hd := fun l => h.rd (l := l)
 have hp := fun l y => h.pd (l := l) (y := y)
 have hdl := h.dl
 have hl : ∀ o, (S.set d o).length = a := fun o => lset.trans ha
 have hm := fun {ops dst k T F Q} l => zQ (ops := ops) (dst := dst) (l := k) (T := T) (F := F) (Q := Q) rfl (zjd (S ++ l) d r vs f w q lit no h.app hn)
 have hld := bt42.load hu hb
 have hst := bt42.store hu hb (hv ▸ hb0) hl0
 have hl0 : ∀ i o, (S.set i o).length = a := fun i o => lset.trans ha
 have hl2 : ∀ i o j p, ((S.set i o).set j p).length = a := fun i o j p => lset.trans (lset.trans ha)
 have hcm : ∀ o p, (S.set r o).set d p = (S.set d p).set r o := fun o p => List.set_comm _ _ h.ne
 cases lit with
 | false =>
  have hix := fun l => h.ix (l := l) hn
  have hrr := fun l => h.rr (l := l) hn
  have hpr := fun l y => h.pr (l := l) (i := no) (y := y)
  simp (maxSteps:=1000000) (disch:=first|assumption|omega|rfl) only [↓gp, gc, Nat.reduceAdd, ft26, hf, z29, hu1, List.append_assoc, List.length_append, List.length_cons, List.length_nil, ha, rA0 ha, rA1 ha, rA2 ha, pA2 ha, rA0 (hl0 _ _), rA1 (hl0 _ _), rA2 (hl0 _ _), pA2 (hl0 _ _), lr26, zhb, zmf, hm, bo93, hd, hp, zjx, zli, z9h, lk1, lk2, sk3, wE, mf94, z78, df94, zg3, zL]
  refine kH (is := [0, 1, 2, 3, 4, 5, 6, 7]) (h := 0) (by kernel_rfl) (by kernel_rfl) ?_
  simp (maxSteps:=1000000) (disch:=first|assumption|omega|rfl) only [List.replicate_zero, eq_self, gd, ga, Nat.reduceAdd, ↓gq, vso, rA0 ha, rA1 ha, rA2 ha, lr26, hd, kB, vK, z82, lk0, hix, hld, hrr, hst, hpr, List.append_nil]
  refine ⟨fun _ => by kernel_rfl, ?_⟩
  refine ⟨by kernel_rfl, ?_⟩
  simp (maxSteps:=1000000) (disch:=first|assumption|omega|rfl) only [↓gp, gc, Nat.reduceAdd, pA2 (hl0 _ _), rA2 (hl0 _ _), zmf]
  refine ⟨.inr rfl, _, _, ⟨_, _, zik, zky _ a d r _ _ w q _ _ h.setr (hl0 _ _) hw _, rfl⟩, zrf rfl (rA2 (hl2 _ _ _ _)), ?_, rfl⟩
  rw [hcm, List.length_set]
  rfl
 | true =>
  have hf1 : ¬ f = 0 := hlf rfl
  have h3 : IntKind.i64.wrap (f - 1) = f - 1 := wrap64 (by obtain ⟨_, _, _⟩ := hf0; omega)
  have h' : ∀ f', DskAt (S.set d (.row [dskV r vs.length f' true false w q] 89)) d r vs f' true false w q := fun f' => h.setd
  have hde : ∀ i : Decidable (f = 0), @decide (f = 0) i = false := fun i => decide_eq_false hf1
  have hd1 := fun f' l => (h' f').rd (l := l)
  have hix := fun f' l => (h' f').ix (l := l) hn
  have hrr := fun f' l => (h' f').rr (l := l) hn
  have hpr := fun f' l y => (h' f').pr (l := l) (i := no) (y := y)
  simp (maxSteps:=1000000) (disch:=first|assumption|omega|rfl) only [↓gp, gc, Nat.reduceAdd, ft26, hf, z29, hu1, List.append_assoc, List.length_append, List.length_cons, List.length_nil, ha, rA0 ha, rA1 ha, rA2 ha, pA2 ha, rA0 (hl0 _ _), rA1 (hl0 _ _), rA2 (hl0 _ _), pA2 (hl0 _ _), lr26, zhb, zmf, hm, bo93, hd, hp, zjx, zli, z9h, lk1, lk2, sk1, sk3, wE, mf94, z78, df94, zg3, zL, hde, h3, hd1]
  refine kH (is := [0, 1, 2, 3, 4, 5, 6, 7]) (h := 0) (by kernel_rfl) (by kernel_rfl) ?_
  simp (maxSteps:=1000000) (disch:=first|assumption|omega|rfl) only [List.replicate_zero, eq_self, gd, ga, Nat.reduceAdd, ↓gq, vso, rA0 (hl0 _ _), rA1 (hl0 _ _), rA2 (hl0 _ _), lr26, hd1, kB, vK, z82, lk0, hix, hld, hrr, hst, hpr, List.append_nil]
  refine ⟨fun _ => by kernel_rfl, ?_⟩
  refine ⟨by kernel_rfl, ?_⟩
  simp (maxSteps:=1000000) (disch:=first|assumption|omega|rfl) only [↓gp, gc, Nat.reduceAdd, pA2 (hl2 _ _ _ _), rA2 (hl2 _ _ _ _), zmf]
  refine ⟨.inr rfl, _, _, ⟨_, _, zik, zky _ a d r _ _ w q _ _ (h' _).setr (hl2 _ _ _ _) hw _, rfl⟩, zrf rfl (rA2 (lset.trans (hl2 _ _ _ _))), ?_, rfl⟩
  rw [List.set_comm _ _ h.ne, List.set_set, List.length_set]
  try rfl
theorem q1x (S : Store) (a d r : Nat) (vs : List V) (f w q : Int) (lit off : Bool) (h : DskAt S d r vs f lit off w q) (hS : S.length = a) (hq : 0 ≤ q ∧ q ≤ 1000000) (b : Ob) :
  Wp cfg (Try.f96.body.getD .skip) ((.ref a 0 0) :: (.tup []) :: (.tup []) :: (.tup []) :: (.tup []) :: (.tup []) :: (.tup []) :: (.tup []) :: []) (S ++ [.row [.ref d 0 0] 26, b]) [] (fun x T S2 F => (x = .norm ∨ x = .ret) ∧ F = [] ∧ (∃ v, qC cfg.P #[] T S2 = some v) ∧ S2 = S.set d (.row [dskV r vs.length f lit off w (q + 1)] 89) ++ [.row [.ref d 0 0] 26, b]) := by
 conv => arg 2; whnf
 rw [zR]
 have hd := fun l => h.rd (l := l)
 have hp := fun l y => h.pd (l := l) (y := y)
 have h3 : IntKind.i64.wrap (q + 1) = q + 1 := wrap64 (by omega)
 simp (maxSteps:=1000000) (disch:=first|assumption|omega|rfl) only [↓gp, gc, Nat.reduceAdd, zup, rA0 hS, hd, hp, lr26, lk5, sk5, h3]
 try exact ⟨.inl trivial, trivial, ⟨_, rfl⟩, trivial⟩
theorem zkb (S : Store) (d r : Nat) (vs : List V) (f w q : Int) (lit : Bool) (no : Nat) (v : V) (b : List UInt8) (h : DskAt S d r vs f lit false w q) (hn : no < vs.length) (hv : vs[no] = v) (hb : IsB v b) (hl : b.length = 256) (hq : 0 ≤ q ∧ q ≤ 1000000) :
  EvS cfg 56 [.ref d 0 0, .d (.int .i64 (no : Int))] S (fun o S' => S' = S.set d (.row [dskV r vs.length f lit false w (q + 1)] 89) ++ [.row [.ref d 0 0] 26, .row [v] 42] ∧ o = .ret (.tup [v, .d (.int .i64 0)])) := by
 refine zb1 rfl zqb ?_
 show Wp cfg (Try.f56.body.getD .skip) ((.ref d 0 0) :: (.d (.int .i64 (no : Int))) :: uZ ((.tup []) :: (.tup []) :: (.tup []) :: (.tup []) :: (.tup []) :: (.tup []) :: (.tup []) :: (.tup []) :: (.tup []) :: [])) S [] _
 unfold uZ
 conv => arg 2; whnf
 rw [zR]
 generalize ha : S.length = a
 have hm := fun {ops dst k T F Q} l => zQ (ops := ops) (dst := dst) (l := k) (T := T) (F := F) (Q := Q) rfl (zjd (S ++ l) d r vs f w q lit no h.app hn)
 have hd := fun l => h.rd (l := l)
 have hix := fun l => h.ix (l := l) hn
 have hrr := fun l => h.rr (l := l) hn
 rw [hv] at hrr
 have hld := bt42.load hb hl
 have hst := bt42.store hb hl (w := blkV (zC 256)) isB_v z256
 have hl0 : ∀ i o, (S.set i o).length = a := fun i o => lset.trans ha
 simp (maxSteps:=1000000) (disch:=first|assumption|omega|rfl) only [↓gp, gc, Nat.reduceAdd, ft26, z42, zf42, List.append_assoc, List.length_append, List.length_cons, List.length_nil, ha, rA0 ha, rA1 ha, pA1 ha, lr26, hm, bo93, hd, z82, lk0, hix, hrr, hld, hst, wE, mf96, z78, df96, zg3]
 have hres : ∀ T : List V, T.getD 4 (.tup []) = .ref (a + 1) 0 0 → T.getD 5 (.tup []) = .d (.int .i64 0) → qC Try.prog #[.cell 4 42, .tmp 5] T (S.set d (.row [dskV r vs.length f lit false w (q + 1)] 89) ++ [.row [.ref d 0 0] 26, .row [v] 42]) = some (.tup [v, .d (.int .i64 0)]) := fun T h1 h2 => by
  have hl1 : kC Try.prog (S.set d (.row [dskV r vs.length f lit false w (q + 1)] 89) ++ [.row [.ref d 0 0] 26, .row [v] 42]) 42 (.ref (a + 1) 0 0) = some v := (zM (rA1 (hl0 _ _))).trans hld
  have h3 : V.one (.d (.int .i64 0)) = true := rfl
  simp only [qC, allO, jS, h1, h2, hl1, List.all_cons, List.all_nil, hb.one, h3, Bool.and_self, if_true]
 exact ⟨.inr rfl, _, _, ⟨_, _, zx0, q1x _ a d r _ _ w q _ _ h ha hq _, rfl⟩, hres _ rfl rfl, rfl, rfl⟩
theorem zvb {m : Nat} (h : m ≤ 1000000) : room Try.prog 42 m = true := zbi rfl (by decide +kernel) h
theorem mk37 {S : Store} {n : Nat} (h : n ≤ 1000000) : jG Try.prog S 37 (.d (.int .i64 (n : Int))) (.d (.int .i64 (n : Int))) = some (.rs S.length 0 n, S ++ [.row (List.replicate n (blkV (zC 256))) 42]) := by
 have hr := zvb h
 simp only [jG, u37, z42, Int.toNat_natCast, hr, zf42, Bool.and_self, if_true]
 rw [if_pos ⟨by omega, Int.le_refl _, by omega⟩]
theorem bd89 {r n : Nat} : wP Try.prog 89 [(0, .rs r 0 n)] = some (dskV r n 0 false false 0 0) := by kernel_rfl
theorem ft89 {r n : Nat} {f w q : Int} {lit off : Bool} : zZ Try.prog 89 (dskV r n f lit off w q) = true := by kernel_rfl
theorem zxm (S : Store) (n : Nat) (h1 : 16 ≤ n) (h2 : n ≤ 512) : EvS cfg 8 [.d (.int .i64 (n : Int))] S (fun o S' => S' = S ++ [.row (List.replicate n (blkV (zC 256))) 42, .row [dskV S.length n 0 false false 0 0] 89] ∧ o = .ret (.ref (S.length + 1) 0 0)) := by
 refine qN rfl q1z ?_
 show Wp cfg (Try.f8.body.getD .skip) ((.d (.int .i64 (n : Int))) :: (.tup []) :: (.tup []) :: (.tup []) :: (.tup []) :: (.tup []) :: (.tup []) :: (.tup []) :: (.tup []) :: (.tup []) :: []) S [] _
 conv => arg 2; whnf
 rw [zR]
 have hmin := fun S => min_le (S := S) (a := (n : Int)) (b := 512) (by omega)
 have hmax := fun S => max_le (S := S) (a := 16) (b := (n : Int)) (by omega)
 have hmk := fun S => mk37 (S := S) (n := n) (by omega)
 have h1 : (dskV S.length n 0 false false 0 0).one = true := rfl
 simp (maxSteps:=1000000) (disch:=first|assumption|omega|rfl) only [↓gp, gc, Nat.reduceAdd, hmin, hmax, hmk, bd89, ft89, h1, List.append_assoc, List.length_append, List.length_cons, List.length_nil]
 exact ⟨rfl, _, rfl, rfl, rfl⟩
def K2 (d r : Nat) (S S' : Store) : Prop := ∀ j o, j ≠ d → j ≠ r → S[j]? = some o → S'[j]? = some o
section
variable {d r : Nat} {S S' S'' l : Store} {o : Ob}
theorem K2.refl : K2 d r S S := fun _ _ _ _ h => h
theorem K2.trans (h : K2 d r S S') (h' : K2 d r S' S'') : K2 d r S S'' := fun j o a b c => h' j o a b (h j o a b c)
theorem K2.app (h : K2 d r S S') : K2 d r S (S' ++ l) := fun j o a b c => by
 have := h j o a b c
 rw [List.getElem?_append_left (zN this)]; exact this
theorem K2.setd (h : K2 d r S S') : K2 d r S (S'.set d o) := fun j p a b c => by
 rw [List.getElem?_set_ne (Ne.symm a)]; exact h j p a b c
theorem K2.setr (h : K2 d r S S') : K2 d r S (S'.set r o) := fun j p a b c => by
 rw [List.getElem?_set_ne (Ne.symm b)]; exact h j p a b c
end
def zc4 (no : Nat) : List UInt8 := if no = 2 then rootB else zC 256
theorem zma (no : Nat) : (zc4 no).length = 256 := by unfold zc4; split <;> rfl
def Fin2 (vs : List V) (B no : Nat) : Prop := vs.length = B ∧ vs[0]? = some (blkV (zC 256)) ∧ ∀ i v, vs[i]? = some v → IsB v (if 2 ≤ i ∧ i < no then zc4 i else zC 256)
theorem Fin2.next {vs : List V} {B no : Nat} {u : V} (h : Fin2 vs B no) (h2 : 2 ≤ no) (hu : IsB u (zc4 no)) : Fin2 (vs.set no u) B (no + 1) := by
 obtain ⟨h1, h3, h4⟩ := h
 refine ⟨by rw [List.length_set]; exact h1, by rw [List.getElem?_set_ne (by omega)]; exact h3, ?_⟩
 intro i v hv
 by_cases hi : i = no
 ·subst hi
  have hlt : i < vs.length := by have := (List.getElem?_eq_some_iff.1 hv).1; rwa [List.length_set] at this
  rw [List.getElem?_set_self hlt] at hv
  cases hv
  rw [if_pos ⟨h2, by omega⟩]
  exact hu
 ·rw [List.getElem?_set_ne (Ne.symm hi)] at hv
  have := h4 i v hv
  by_cases hc : 2 ≤ i ∧ i < no
  ·rw [if_pos hc] at this; rw [if_pos ⟨hc.1, by omega⟩]; exact this
  ·rw [if_neg hc] at this; rw [if_neg (by omega)]; exact this
theorem Fin2.at {vs : List V} {B no : Nat} (h : Fin2 vs B no) (hn : no < vs.length) : IsB vs[no] (zC 256) := by
 have := h.2.2 no vs[no] (List.getElem?_eq_getElem hn)
 rw [if_neg (by omega)] at this
 exact this
theorem bd61 : wP Try.prog 61 [(0, .d (.int .i64 2)), (1, .d (.int .i64 1)), (3, .d (.int .i64 1))] = some (.agg [.d (.int .i64 2), .d (.int .i64 1), .d (.int .i64 0), .d (.int .i64 1), .d (.int .i64 0), .d (.int .i64 0), .d (.int .i64 0), .d (.int .i64 0), .d (.int .i64 0), .d (.int .i64 0), .d (.int .i64 0)]) := by kernel_rfl
theorem zlh : rootB.length = 256 := rfl
section
variable {ops : Array Oper} {dst : Option Tmp} {k : List Oper} {T : List V} {S : Store} {F : Dfs} {Q : Post}
theorem zb5 : WpR cfg ops dst k T S F Q (some (.enter 52 [blkV (zC 256), .d (.int .i64 0), .agg [.d (.int .i64 2), .d (.int .i64 1), .d (.int .i64 0), .d (.int .i64 1), .d (.int .i64 0), .d (.int .i64 0), .d (.int .i64 0), .d (.int .i64 0), .d (.int .i64 0), .d (.int .i64 0), .d (.int .i64 0)]])) = WpL cfg ops k (putT T dst (.tup [.d (blkD rootB), .d (.int .i64 0)])) S F Q :=
 wJ (ds := [blkD (zC 256), .int .i64 0, zyh]) rfl (by simp only [allO, q0x]; rfl) (by kernel_rfl) zmm
theorem z4f : WpR cfg ops dst k T S F Q (some (.enter 50 [])) = WpL cfg ops k (putT T dst (.d (.int .i64 1))) S F Q :=
 qA (ds := []) rfl zlw
theorem zcw {l : Lay} (hb : InB l.blocks) (hi : InB l.inodes) (hm : MayL l) : WpR cfg ops dst k T S F Q (some (.enter 51 [.d (encLay l)])) = WpL cfg ops k (putT T dst (.d (.int .i64 (2 + l.inodes.tdiv 8)))) S F Q :=
 qA (ds := [encLay l]) rfl (zk4 l hb hi hm)
theorem z7d {S2 : Store} {K : List Nat → List (Nat × Nat) → List V → Store → Prop} {rd : List Nat} {cs : List (Nat × Nat)} {i : Nat} {f : FuncId} {args : List V} {v : V} (hs : cfg.shared f = true) (he : EvS cfg f args S (fun o S' => S' = S2 ∧ o = .ret v)) :
  WpE cfg ops F Q K rd cs i dst T S (some (.enter f args)) = (z3j ops rd i 3 ∧ K rd (cs ++ [(i, 3)]) (putT T dst v) S2) := by
 obtain ⟨n, o, S', hn, rfl, rfl⟩ := he
 have hc : jM cfg (run cfg n) f args S = some (.ret v, S', 3) := by
  unfold jM
  simp only [hs, if_true, hn, Option.map_some]
 apply propext
 constructor
 ·rintro ⟨m, v', S2, c, h1, h2, h3⟩
  have := wV h1 hc
  simp only [Prod.mk.injEq] at this
  obtain ⟨h4, rfl, rfl⟩ := this
  cases h4
  exact ⟨h2, h3⟩
 ·exact fun h => ⟨n, _, _, _, hc, h.1, h.2⟩
end
theorem q15 (l : Lay) (B K : Nat) (hb : InB l.blocks) (hi : InB l.inodes) (hm : MayL l) (hK : 2 + l.inodes.tdiv 8 = ((2 + K : Nat) : Int)) (hK1 : K ≤ 16) (hB : 2 + K < B) (S0 : Store) (a d r : Nat) (hd : d < a) (hr : r < a) (h0 : S0[a]? = some (.row [.d (encLay l)] 24)) (lit : Bool) (f0 : Int) (R : Post) (x5 : V) :
 ∀ (k no : Nat) (S : Store) (vs : List V) (f w : Int) (g1 g2 g4 g6 g8 g9 gM gF gG gB gC gA gE gH gI gD gL gN gK gJ gO gP gW gT gU gQ gR gS gV gX gY gf gg gZ gh gj gk gn gr gz hZ xC hH hJ hU hY xA xB xD xE xF xG xH xI xJ xK xL xM xN xO : V), 2 + K - no = k → 2 ≤ no → no ≤ 2 + K → K2 d r S0 S → DskAt S d r vs f lit false w 0 → w = (no : Int) - 2 → Fin2 vs B no → (lit = true → f + w = f0) → (0 ≤ f ∧ InB f) →
 (∀ (S : Store) (vs : List V) (f w : Int) (g1 g2 g4 g6 g8 g9 gM gF gG gB gC gA gE gH gI gD gL gN gK gJ gO gP gW gT gU gQ gR gS gV gX gY gf gg gZ gh gj gk gn gr gz hZ xC hH hJ hU hY xA xB xD xE xF xG xH xI xJ xK xL xM xN xO : V), K2 d r S0 S → DskAt S d r vs f lit false w 0 → w = (K : Int) → Fin2 vs B (2 + K) → (lit = true → f + w = f0) → (0 ≤ f ∧ InB f) → R (.exit 0) ((.ref d 0 0) :: g1 :: g2 :: (.ref a 0 0) :: g4 :: x5 :: g6 :: (.d (.int .i64 ((2 + K : Nat) : Int))) :: g8 :: g9 :: gM :: gF :: gG :: gB :: gC :: gA :: gE :: gH :: gI :: gD :: gL :: gN :: gK :: gJ :: gO :: gP :: gW :: gT :: gU :: gQ :: gR :: gS :: gV :: gX :: gY :: gf :: gg :: gZ :: gh :: gj :: gk :: gn :: gr :: gz :: hZ :: xC :: hH :: hJ :: hU :: hY :: xA :: xB :: xD :: xE :: xF :: xG :: xH :: xI :: xJ :: xK :: xL :: xM :: xN :: xO :: []) S []) →
 (∀ (S : Store) (vs : List V) (w : Int) (T : List V), lit = true → f0 < K → K2 d r S0 S → DskAt S d r vs 0 true true w 0 → vs.length = B → vs[0]? = some (blkV (zC 256)) → T.getD 4 (.tup []) = .d (.int .i64 12) → R .ret T S []) →
 Wp cfg (.loop (lpOf (Try.f10.body.getD .skip) 0)) ((.ref d 0 0) :: g1 :: g2 :: (.ref a 0 0) :: g4 :: x5 :: g6 :: (.d (.int .i64 (no : Int))) :: g8 :: g9 :: gM :: gF :: gG :: gB :: gC :: gA :: gE :: gH :: gI :: gD :: gL :: gN :: gK :: gJ :: gO :: gP :: gW :: gT :: gU :: gQ :: gR :: gS :: gV :: gX :: gY :: gf :: gg :: gZ :: gh :: gj :: gk :: gn :: gr :: gz :: hZ :: xC :: hH :: hJ :: hU :: hY :: xA :: xB :: xD :: xE :: xF :: xG :: xH :: xI :: xJ :: xK :: xL :: xM :: xN :: xO :: []) S [] R := by
 intro k
 induction k with
 | zero =>
  intro no S vs f w g1 g2 g4 g6 g8 g9 gM gF gG gB gC gA gE gH gI gD gL gN gK gJ gO gP gW gT gU gQ gR gS gV gX gY gf gg gZ gh gj gk gn gr gz hZ xC hH hJ hU hY xA xB xD xE xF xG xH xI xJ xK xL xM xN xO hk h2 hn hK2 hD hw hF hlf hf hE hR
  have hie : no = 2 + K := by omega
  subst hie
  have hcell : rowE S a 0 = some (.d (encLay l)) := zK (hK2 _ _ (by omega) (by omega) h0)
  have hdt := fun {ops dst k T S F Q} => zcw (ops := ops) (dst := dst) (k := k) (T := T) (S := S) (F := F) (Q := Q) hb hi hm
  rw [hK] at hdt
  rw [zR]
  refine zJ ?_
  conv => arg 2; whnf
  simp (maxSteps:=1000000) (disch:=first|assumption|omega|rfl) only [↓gp, gc, Nat.reduceAdd, hcell, hdt, bo51]
  exact hE S vs f w _ _ _ _ _ _ _ _ _ _ _ _ _ _ _ _ _ _ _ _ _ _ _ _ _ _ _ _ _ _ _ _ _ _ _ _ _ _ _ _ _ _ _ _ _ _ _ _ _ _ _ _ _ _ _ _ _ _ _ _ hK2 hD (by omega) hF hlf hf
 | succ k ih =>
  intro no S vs f w g1 g2 g4 g6 g8 g9 gM gF gG gB gC gA gE gH gI gD gL gN gK gJ gO gP gW gT gU gQ gR gS gV gX gY gf gg gZ gh gj gk gn gr gz hZ xC hH hJ hU hY xA xB xD xE xF xG xH xI xJ xK xL xM xN xO hk h2 hn hK2 hD hw hF hlf hf hE hR
  have hlt : no < 2 + K := by omega
  have hcell : rowE S a 0 = some (.d (encLay l)) := zK (hK2 _ _ (by omega) (by omega) h0)
  have hdt := fun {ops dst k T S F Q} => zcw (ops := ops) (dst := dst) (k := k) (T := T) (S := S) (F := F) (Q := Q) hb hi hm
  rw [hK] at hdt
  have h3 : IntKind.i64.wrap ((no : Int) + 1) = ((no + 1 : Nat) : Int) := by rw [wrap64 (by omega)]; omega
  have hvl : no < vs.length := by have := hF.1; omega
  have hu0 := hF.at hvl
  have l0 := z256
  have l1 := zlh
  rw [zR]
  refine zJ ?_
  conv => arg 2; whnf
  by_cases hn2 : no = 2
  ·have hB2 : zc4 no = rootB := if_pos hn2
   have hnt : ((no : Int) = 2) = True := by simp [hn2]
   by_cases hoff : lit = true ∧ f = 0
   ·obtain ⟨rfl, rfl⟩ := hoff
    have hwr := fun {ops dst k T F Q} => zQ (ops := ops) (dst := dst) (l := k) (T := T) (F := F) (Q := Q) rfl (z4u (S ++ [.row [.d (blkD rootB)] 42]) d r vs w 0 no (.d (blkD rootB)) _ hD.app hvl (jL (b := rootB)) (by rfl))
    simp (maxSteps:=1000000) (disch:=first|assumption|omega|rfl) only [↓gp, gc, Nat.reduceAdd, hcell, hdt, bo51, z42, zf42, z4f, bo50, z77, z35, bd61, zb5, bo52, z7y, zam, z04, zll, zL, hnt, hwr, bo53]
    exact hR _ vs w _ rfl (by have := hlf rfl; omega) hK2.app.setd.app (hD.app.setd (f' := 0) (lit' := true) (off' := true) (w' := w) (q' := 0)).app hF.1 hF.2.1 rfl
   ·have hlf0 : lit = true → f ≠ 0 := fun e h => hoff ⟨e, h⟩
    have hwr := fun {ops dst k T F Q} => zQ (ops := ops) (dst := dst) (l := k) (T := T) (F := F) (Q := Q) rfl (z55 (S ++ [.row [.d (blkD rootB)] 42]) d r vs f w 0 lit no (.d (blkD rootB)) vs[no] _ _ hD.app hvl (jL (b := rootB)) (by rfl) rfl hu0 l0 (by omega) hf hlf0)
    simp (maxSteps:=1000000) (disch:=first|assumption|omega|rfl) only [↓gp, gc, Nat.reduceAdd, hcell, hdt, bo51, z42, zf42, z4f, bo50, z77, z35, bd61, zb5, bo52, z7y, zam, z04, zll, zL, hnt, hwr, bo53, h3]
    refine ih (no + 1) _ (vs.set no (.d (blkD rootB))) (if lit = true then f - 1 else f) (w + 1) _ _ _ _ _ _ _ _ _ _ _ _ _ _ _ _ _ _ _ _ _ _ _ _ _ _ _ _ _ _ _ _ _ _ _ _ _ _ _ _ _ _ _ _ _ _ _ _ _ _ _ _ _ _ _ _ _ _ _ _ (by omega) (by omega) (by omega) hK2.app.setd.setr.app (hD.app.setd (f' := if lit = true then f - 1 else f) (lit' := lit) (off' := false) (w' := w + 1) (q' := 0)).setr.app (by omega) (hF.next h2 (by rw [hB2]; exact jL)) ?_ ?_ hE hR
    ·intro e; rw [if_pos e]; have := hlf e; omega
    ·obtain ⟨q1, q2, q3⟩ := hf
     cases lit
     ·exact ⟨q1, q2, q3⟩
     ·have := hlf0 rfl; exact ⟨by simp only [if_true]; omega, by simp only [InB, if_true]; omega⟩
  ·have hB2 : zc4 no = zC 256 := if_neg hn2
   have hn3 : ¬ (no : Int) = 2 := by omega
   have hde : ∀ i : Decidable ((no : Int) = 2), @decide ((no : Int) = 2) i = false := fun i => decide_eq_false hn3
   by_cases hoff : lit = true ∧ f = 0
   ·obtain ⟨rfl, rfl⟩ := hoff
    have hwr := fun {ops dst k T F Q} => zQ (ops := ops) (dst := dst) (l := k) (T := T) (F := F) (Q := Q) rfl (z4u (S ++ [.row [blkV (zC 256)] 42]) d r vs w 0 no (blkV (zC 256)) _ hD.app hvl (isB_v (b := zC 256)) (by rfl))
    simp (maxSteps:=1000000) (disch:=first|assumption|omega|rfl) only [↓gp, gc, Nat.reduceAdd, hcell, hdt, bo51, z42, zf42, z4f, bo50, z77, z35, bd61, zb5, bo52, z7y, zam, z04, zll, zL, hde, hwr, bo53]
    exact hR _ vs w _ rfl (by have := hlf rfl; omega) hK2.app.setd.app (hD.app.setd (f' := 0) (lit' := true) (off' := true) (w' := w) (q' := 0)).app hF.1 hF.2.1 rfl
   ·have hlf0 : lit = true → f ≠ 0 := fun e h => hoff ⟨e, h⟩
    have hwr := fun {ops dst k T F Q} => zQ (ops := ops) (dst := dst) (l := k) (T := T) (F := F) (Q := Q) rfl (z55 (S ++ [.row [blkV (zC 256)] 42]) d r vs f w 0 lit no (blkV (zC 256)) vs[no] _ _ hD.app hvl (isB_v (b := zC 256)) (by rfl) rfl hu0 l0 (by omega) hf hlf0)
    simp (maxSteps:=1000000) (disch:=first|assumption|omega|rfl) only [↓gp, gc, Nat.reduceAdd, hcell, hdt, bo51, z42, zf42, z4f, bo50, z77, z35, bd61, zb5, bo52, z7y, zam, z04, zll, zL, hde, hwr, bo53, h3]
    refine ih (no + 1) _ (vs.set no (blkV (zC 256))) (if lit = true then f - 1 else f) (w + 1) _ _ _ _ _ _ _ _ _ _ _ _ _ _ _ _ _ _ _ _ _ _ _ _ _ _ _ _ _ _ _ _ _ _ _ _ _ _ _ _ _ _ _ _ _ _ _ _ _ _ _ _ _ _ _ _ _ _ _ _ (by omega) (by omega) (by omega) hK2.app.setd.setr.app (hD.app.setd (f' := if lit = true then f - 1 else f) (lit' := lit) (off' := false) (w' := w + 1) (q' := 0)).setr.app (by omega) (hF.next h2 (by rw [hB2]; exact isB_v)) ?_ ?_ hE hR
    ·intro e; rw [if_pos e]; have := hlf e; omega
    ·obtain ⟨q1, q2, q3⟩ := hf
     cases lit
     ·exact ⟨q1, q2, q3⟩
     ·have := hlf0 rfl; exact ⟨by simp only [if_true]; omega, by simp only [InB, if_true]; omega⟩
def gw := And.intro gd <| And.intro @dw1 <| And.intro @dw2 <| And.intro @dw3 <| And.intro @dw4 <| And.intro @dw5 <| And.intro @dw6 <| And.intro @dw7 <| And.intro @dw8 <| And.intro @dw9 <| And.intro @dw10 <| And.intro @dw11 @dw12
def finB (B I M K i : Nat) : List UInt8 := if i = 0 then supB B I M else if i = 1 then mapB (2 + K) else zc4 i
def FmtR (S : Store) (d r B I M K : Nat) (lit : Bool) (f0 : Int) : Out → Store → Prop := fun o S' =>
 (¬ (lit = true ∧ f0 < 2 + (K : Int)) ∧ o = .ret (.d (.int .i64 0)) ∧ ∃ vs f w, K2 d r S S' ∧ DskAt S' d r vs f lit false w 0 ∧ vs.length = B ∧ (∀ (i : Nat) (v : V), vs[i]? = some v → IsB v (finB B I M K i)) ∧ (lit = false → 0 ≤ f ∧ InB f ∧ 0 ≤ w ∧ w ≤ 100)) ∨
 ((lit = true ∧ f0 < 2 + (K : Int)) ∧ o = .ret (.d (.int .i64 12)) ∧ ∃ vs w, K2 d r S S' ∧ DskAt S' d r vs 0 true true w 0 ∧ vs.length = B ∧ vs[0]? = some (blkV (zC 256)))
theorem kV {ops : Array Oper} {base : Nat} {K : Ws → List (Nat × Nat) → List V → Store → Prop} {ws : Ws} {cs : List (Nat × Nat)} {i : Nat} {dst : Option Tmp} {T : List V} {S S2 : Store} {f : FuncId} {args : List V} {v : V} (hs : cfg.shared f = true) (he : EvS cfg f args S (fun o S' => S' = S2 ∧ o = .ret v)) :
  WpEw cfg ops base K ws cs i dst T S (some (.enter f args)) = (WAll cfg ops base ws i S2 ∧ K ws (cs ++ [(i, 3)]) (putT T dst v) S2) := by
 obtain ⟨n, o, S', hn, rfl, rfl⟩ := he
 have hc : jM cfg (run cfg n) f args S = some (.ret v, S', 3) := by
  unfold jM
  simp only [hs, if_true, hn, Option.map_some]
 apply propext
 constructor
 ·rintro ⟨m, v', S2, c, h1, h2, h3⟩
  have := wV h1 hc
  simp only [Prod.mk.injEq] at this
  obtain ⟨h4, rfl, rfl⟩ := this
  cases h4
  exact ⟨h2 (by decide), h3⟩
 ·exact fun h => ⟨n, _, _, _, hc, fun _ => h.1, h.2⟩
theorem z3f {T : List V} {S : Store} {dst : Option Tmp} {t x : Nat} {ty : TypeId} {pos : String} {after : Array Edge} {g : Option (Nat × Bool)} {v : V} (h : kC Try.prog S t (T.getD x .junk) = some v) : opV Try.prog S T ⟨dst, .load t (.tmp x), ty, pos, after, g⟩ = some (.val v S 1) := by
 show (kC Try.prog S t (T.getD x .junk)).map (fun v => Rs.val v S 1) = _
 rw [h]
 rfl
theorem za0 {k : IntKind} {n : Int} : z0t (.d (.int k n)) (.d (.int k n)) = true := by simp [z0t, kF, jY, wS, jI]
theorem fin0 (n : Nat) (hn : 1 ≤ n) : Fin2 (List.replicate n (blkV (zC 256))) n 2 := by
 refine ⟨List.length_replicate .., by rw [List.getElem?_replicate, if_pos (by omega)], ?_⟩
 intro i v hv
 rw [List.getElem?_replicate] at hv
 split at hv
 ·cases hv; rw [if_neg (by omega)]; exact isB_v
 ·cases hv
section
variable (l : Lay) (B I M K : Nat) (hl : l = ⟨(B : Int), (I : Int), (M : Int)⟩) (hB : B ≤ 512) (hI : I ≤ 128) (hM : M < 18446744073709551616) (hm : MayL l) (S : Store) (d r : Nat) (vs : List V) (f w q : Int) (lit off : Bool) (h : DskAt S d r vs f lit off w q)
include hl hB hI hM hm h
end
theorem zuy (l : Lay) (B I M K : Nat) (hl : l = ⟨(B : Int), (I : Int), (M : Int)⟩) (hB : B ≤ 512) (hI : I ≤ 128) (hM : M < 18446744073709551616) (hm : MayL l) (hK : 2 + l.inodes.tdiv 8 = ((2 + K : Nat) : Int)) (hK1 : K ≤ 16) (hKB : 2 + K < B) (S : Store) (d r : Nat) (f0 : Int) (hf0 : 0 ≤ f0 ∧ InB f0) (lit : Bool) (h : DskAt S d r (List.replicate B (blkV (zC 256))) f0 lit false 0 0) : EvS cfg 10 [.ref d 0 0, .d (encLay l)] S (FmtR S d r B I M K lit f0) := by
 refine qN rfl zyj ?_
 show Wp cfg (Try.f10.body.getD .skip) ((.ref d 0 0) :: (.d (encLay l)) :: uZ (uZ (uZ (uZ (uZ (uZ ((.tup []) :: (.tup []) :: []))))))) S [] _
 unfold uZ
 conv => arg 2; whnf
 rw [zR]
 have l0 := z256
 have l5 := z5e B I M
 have hlb : l.blocks = (B : Int) := by rw [hl]
 have hib : InB l.blocks := by rw [hl]; simp only [InB]; omega
 have hii : InB l.inodes := by rw [hl]; simp only [InB]; omega
 have hp := fun {ops dst k T S F Q} => zlf (ops := ops) (dst := dst) (k := k) (T := T) (S := S) (F := F) (Q := Q) (zj7 l B I M hl hB hI hM hm)
 generalize ha : S.length = a
 simp (maxSteps:=1000000) (disch:=first|assumption|omega|rfl) only [↓gp, gc, Nat.reduceAdd, List.append_assoc, List.length_append, List.length_cons, List.length_nil, ha, rA0 ha, rA1 ha, pA1 ha, hp, bo48, z42, zf42, z7y, zev, zL]
 have hsz := fun {ops base K ws cs i dst T} l => kV (ops := ops) (base := base) (K := K) (ws := ws) (cs := cs) (i := i) (dst := dst) (T := T) rfl (zm9 (S ++ l) d r _ _ _ _ _ _ h.app)
 rw [List.length_replicate] at hsz
 have hne : ∀ i : Decidable ((B : Int) ≠ l.blocks), @decide ((B : Int) ≠ l.blocks) i = false := fun i => decide_eq_false (by omega)
 refine kL (is := [0, 2, 3, 1, 4]) (h := 0) (by kernel_rfl) (by kernel_rfl) ?_
 simp (maxSteps:=1000000) (disch:=first|assumption|omega|rfl) only [List.replicate_zero, eq_self, gw, ga, Nat.reduceAdd, ↓gq, vso, List.append_nil, rA0 ha, rA1 ha, hsz, bo49]
 refine ⟨qV rfl (by kernel_rfl) rfl (z3f ((zM (rA0 ha)).trans z9y)) (by exact za0) qM, ?_⟩
 refine ⟨by kernel_rfl, ?_⟩
 simp (maxSteps:=1000000) (disch:=first|assumption|omega|rfl) only [↓gp, gc, Nat.reduceAdd, hne, z4f, bo50]
 have hS1 : ∀ o1 o2 : Ob, K2 d r S (S ++ [o1, o2]) := fun o1 o2 => K2.refl.app
 have hdl := h.dl
 have hrl := h.rl
 refine q15 l B K hib hii hm hK hK1 hKB (S ++ [.row [.d (encLay l)] 24, .row [.d (blkD (supB B I M))] 42]) a d r (by omega) (by omega) (by rw [List.getElem?_append_right (by omega), ha]; simp) lit f0 _ _ K 2 _ _ f0 0 _ _ _ _ _ _ _ _ _ _ _ _ _ _ _ _ _ _ _ _ _ _ _ _ _ _ _ _ _ _ _ _ _ _ _ _ _ _ _ _ _ _ _ _ _ _ _ _ _ _ _ _ _ _ _ _ _ _ _ _ (by omega) (by omega) (by omega) K2.refl h.app (by omega) (fin0 B (by omega)) (fun _ => by omega) hf0 ?_ ?_
 ·intro S1 vs f w g1 g2 g4 g6 g8 g9 gM gF gG gB gC gA gE gH gI gD gL gN gK gJ gO gP gW gT gU gQ gR gS gV gX gY gf gg gZ gh gj gk gn gr gz hZ xC hH hJ hU hY xA xB xD xE xF xG xH xI xJ xK xL xM xN xO hK2 hD hw hF hlf hf
  have hca : rowE S1 a 0 = some (.d (encLay l)) := zK (hK2 a (.row [.d (encLay l)] 24) (by omega) (by omega) (by rw [List.getElem?_append_right (by omega), ha]; simp))
  have hcb := hK2 (a + 1) (.row [.d (blkD (supB B I M))] 42) (by omega) (by omega) (by rw [List.getElem?_append_right (by omega), ha]; simp)
  have hM := fun {ops F Q K rd cs i dst T S} => z4x (C := cfg) (ops := ops) (F := F) (Q := Q) (K := K) (rd := rd) (cs := cs) (i := i) (dst := dst) (T := T) (S := S) (ds := []) rfl zlw
  simp only [List.map_nil] at hM
  have hO : ∀ {ops F Q K' rd cs i dst T S}, WpE cfg ops F Q K' rd cs i dst T S (some (.enter 55 [.d (encLay l)])) = K' (i :: rd) (cs ++ [(i, 1)]) (putT T dst (.d (encI (upto (2 + K))))) S := fun {ops F Q K' rd cs i dst T S} => z4x (C := cfg) (ds := [encLay l]) rfl (zvp l (2 + K) hib hii hm hK (by omega))
  have hN : ∀ {ops F Q K' rd cs i dst T S}, WpE cfg ops F Q K' rd cs i dst T S (some (.enter 54 [.d (encI (upto (2 + K)))])) = K' (i :: rd) (cs ++ [(i, 1)]) (putT T dst (.d (blkD (mapB (2 + K))))) S := fun {ops F Q K' rd cs i dst T S} => z4x (C := cfg) (ds := [encI (upto (2 + K))]) rfl (ztk (2 + K) (by omega))
  have hml := z1f (2 + K)
  have h1l : 1 < vs.length := by have := hF.1; omega
  have hv1 : IsB vs[1] (zC 256) := by
   have := hF.2.2 1 vs[1] (List.getElem?_eq_getElem h1l)
   rw [if_neg (by omega)] at this
   exact this
  by_cases hoff : lit = true ∧ f = 0
  ·obtain ⟨rfl, rfl⟩ := hoff
   have hwr := fun {ops F Q K' rd cs i dst T} => z7d (ops := ops) (F := F) (Q := Q) (K := K') (rd := rd) (cs := cs) (i := i) (dst := dst) (T := T) rfl (z4u S1 d r vs w 0 1 (.d (blkD (mapB (2 + K)))) _ hD h1l jL hml)
   simp only [nl1] at hwr
   simp (maxSteps:=1000000) (disch:=first|assumption|omega|rfl) only [↓gp, gc, Nat.reduceAdd]
   refine kH (is := [0, 2, 1, 3, 4, 5, 6]) (h := 0) (by kernel_rfl) (by kernel_rfl) ?_
   simp (maxSteps:=1000000) (disch:=first|assumption|omega|rfl) only [List.replicate_zero, eq_self, gd, ga, Nat.reduceAdd, ↓gq, vso, List.append_nil, hca, hM, bo50, hO, bo55, hN, bo54, hwr, bo53]
   refine ⟨fun _ => by kernel_rfl, ?_⟩
   refine ⟨by kernel_rfl, ?_⟩
   simp (maxSteps:=1000000) (disch:=first|assumption|omega|rfl) only [↓gp, gc, Nat.reduceAdd]
   exact ⟨rfl, _, rfl, .inr ⟨⟨rfl, by have := hlf rfl; omega⟩, rfl, vs, w, ((hS1 _ _).trans hK2).setd.app, (hD.setd (f' := 0) (lit' := true) (off' := true) (w' := w) (q' := 0)).app, hF.1, hF.2.1⟩⟩
  ·have hlf0 : lit = true → f ≠ 0 := fun e h => hoff ⟨e, h⟩
   have hf1 : 0 ≤ (if lit = true then f - 1 else f) ∧ InB (if lit = true then f - 1 else f) := by
    obtain ⟨q1, q2, q3⟩ := hf
    cases lit
    ·exact ⟨q1, q2, q3⟩
    ·have := hlf0 rfl; exact ⟨by simp only [if_true]; omega, by simp only [InB, if_true]; omega⟩
   have hlf1 : lit = true → (if lit = true then f - 1 else f) + (w + 1) = f0 := fun e => by rw [if_pos e]; have := hlf e; omega
   have hwr := fun {ops F Q K' rd cs i dst T} => z7d (ops := ops) (F := F) (Q := Q) (K := K') (rd := rd) (cs := cs) (i := i) (dst := dst) (T := T) rfl (z55 S1 d r vs f w 0 lit 1 (.d (blkD (mapB (2 + K)))) vs[1] _ _ hD h1l jL hml rfl hv1 l0 (by omega) hf hlf0)
   simp only [nl1] at hwr
   have hD2 := (hD.setd (f' := if lit = true then f - 1 else f) (lit' := lit) (off' := false) (w' := w + 1) (q' := 0)).setr (i := 1) (y := .d (blkD (mapB (2 + K))))
   have hK3 : ∀ l', K2 d r S (((S1.set d (.row [dskV r vs.length (if lit = true then f - 1 else f) lit false (w + 1) 0] 89)).set r (.row (vs.set 1 (.d (blkD (mapB (2 + K))))) 42)) ++ l') := fun l' => ((hS1 _ _).trans hK2).setd.setr.app
   have hcb2 : ∀ l', rowE (((S1.set d (.row [dskV r vs.length (if lit = true then f - 1 else f) lit false (w + 1) 0] 89)).set r (.row (vs.set 1 (.d (blkD (mapB (2 + K))))) 42)) ++ l') (a + 1) 0 = some (.d (blkD (supB B I M))) := fun l' => zK ((K2.refl (d := d) (r := r) (S := S1)).setd.setr.app (a + 1) _ (by omega) (by omega) hcb)
   simp (maxSteps:=1000000) (disch:=first|assumption|omega|rfl) only [↓gp, gc, Nat.reduceAdd]
   refine kH (is := [0, 2, 1, 3, 4, 5, 6]) (h := 0) (by kernel_rfl) (by kernel_rfl) ?_
   simp (maxSteps:=1000000) (disch:=first|assumption|omega|rfl) only [List.replicate_zero, eq_self, gd, ga, Nat.reduceAdd, ↓gq, vso, List.append_nil, hca, hM, bo50, hO, bo55, hN, bo54, hwr, bo53]
   refine ⟨fun _ => by kernel_rfl, ?_⟩
   refine ⟨by kernel_rfl, ?_⟩
   generalize hf' : (if lit = true then f - 1 else f) = f' at *
   have h0l : 0 < (vs.set 1 (.d (blkD (mapB (2 + K))))).length := by rw [List.length_set]; omega
   by_cases hoff2 : lit = true ∧ f' = 0
   ·obtain ⟨rfl, rfl⟩ := hoff2
    have hwr2 := fun {ops dst k T F Q} l' => zQ (ops := ops) (dst := dst) (l := k) (T := T) (F := F) (Q := Q) rfl (z4u _ d r _ (w + 1) 0 0 (.d (blkD (supB B I M))) _ (hD2.app (l := l')) h0l jL l5)
    simp only [nl0] at hwr2
    simp (maxSteps:=1000000) (disch:=first|assumption|omega|rfl) only [↓gp, gc, Nat.reduceAdd, hcb2, z04, hwr2, bo53, zL]
    exact ⟨rfl, _, rfl, .inr ⟨⟨rfl, by have := hlf1 rfl; omega⟩, rfl, _, w + 1, (hK3 _).setd.app, (hD2.app.setd (f' := 0) (lit' := true) (off' := true) (w' := w + 1) (q' := 0)).app, by rw [List.length_set]; exact hF.1, by rw [List.getElem?_set_ne (by decide)]; exact hF.2.1⟩⟩
   ·have hlf2 : lit = true → f' ≠ 0 := fun e h => hoff2 ⟨e, h⟩
    have hv0 : IsB (vs.set 1 (.d (blkD (mapB (2 + K)))))[0] (zC 256) := by
     have h3 : (vs.set 1 (.d (blkD (mapB (2 + K)))))[0]? = some (blkV (zC 256)) := by rw [List.getElem?_set_ne (by decide)]; exact hF.2.1
     rw [List.getElem?_eq_getElem h0l] at h3
     rw [Option.some.inj h3]
     exact isB_v
    have hwr2 := fun {ops dst k T F Q} l' => zQ (ops := ops) (dst := dst) (l := k) (T := T) (F := F) (Q := Q) rfl (z55 _ d r _ f' (w + 1) 0 lit 0 (.d (blkD (supB B I M))) _ _ _ (hD2.app (l := l')) h0l jL l5 rfl hv0 l0 (by omega) hf1 hlf2)
    simp only [nl0] at hwr2
    simp (maxSteps:=1000000) (disch:=first|assumption|omega|rfl) only [↓gp, gc, Nat.reduceAdd, hcb2, z04, hwr2, bo53, zL]
    refine ⟨rfl, _, rfl, .inl ⟨?_, rfl, _, _, w + 1 + 1, (hK3 _).setd.setr.app, (hD2.app.setd (f' := if lit = true then f' - 1 else f') (lit' := lit) (off' := false) (w' := w + 1 + 1) (q' := 0)).setr.app, by rw [List.length_set, List.length_set]; exact hF.1, ?_, ?_⟩⟩
    ·rintro ⟨e, h⟩
     have := hlf1 e
     have := hlf2 e
     omega
    ·intro i v hv
     unfold finB
     by_cases hi0 : i = 0
     ·subst hi0
      rw [List.getElem?_set_self h0l] at hv
      cases hv
      rw [if_pos rfl]
      exact jL
     ·rw [List.getElem?_set_ne (by omega)] at hv
      rw [if_neg hi0]
      by_cases hi1 : i = 1
      ·subst hi1
       rw [List.getElem?_set_self h1l] at hv
       cases hv
       rw [if_pos rfl]
       exact jL
      ·rw [List.getElem?_set_ne (by omega)] at hv
       rw [if_neg hi1]
       have h4 := hF.2.2 i v hv
       by_cases hc : 2 ≤ i ∧ i < 2 + K
       ·rw [if_pos hc] at h4; exact h4
       ·rw [if_neg hc] at h4
        have hK0 : 1 ≤ K := by
         have h6 := hm.2.2.1
         have h7 := hK
         rw [Int.tdiv_eq_ediv_of_nonneg (by omega)] at h7
         omega
        have h5 : zc4 i = zC 256 := if_neg (by omega)
        rw [h5]; exact h4
    ·intro e
     subst e
     simp only [Bool.false_eq_true, if_false] at hf' ⊢
     exact ⟨hf1.1, hf1.2, by omega, by omega⟩
 ·intro S1 vs w T hlt hfk hK2 hD hv hv0 hT
  refine ⟨rfl, _, ?_, .inr ⟨⟨hlt, by omega⟩, rfl, vs, w, (hS1 _ _).trans hK2, hD, hv, hv0⟩⟩
  simp only [qC, jS, hT]
theorem zjm {ops : Array Oper} {dst : Option Tmp} {k : List Oper} {T : List V} {S : Store} {F : Dfs} {Q : Post} {u v : V} {b : List UInt8} (hu : IsB u b) (h : Ev cfg 57 [blkD b] (.ret v)) : WpR cfg ops dst k T S F Q (some (.enter 57 [u])) = WpL cfg ops k (putT T dst v) S F Q :=
 wJ (ds := [blkD b]) rfl (by simp only [allO, hu.frz (n := 10), zH]) (by rw [List.flatMap_cons, hu.frzIds]; rfl) h
theorem zh4 (S : Store) (d r : Nat) (vs : List V) (f w : Int) (lit : Bool) (v : V) (b : List UInt8) (h : DskAt S d r vs f lit false w 0) (h0 : vs[0]? = some v) (hb : IsB v b) (hl : b.length = 256) :
  ∃ S1, K2 d r S S1 ∧ DskAt S1 d r vs f lit false w 1 ∧ ∀ {ops dst k T F Q}, WpR cfg ops dst k T S F Q (some (.enter 56 [.ref d 0 0, .d (.int .i64 0)])) = WpL cfg ops k (putT T dst (.tup [v, .d (.int .i64 0)])) S1 F Q := by
 have h0l : 0 < vs.length := (List.getElem?_eq_some_iff.1 h0).1
 have h0v : vs[0] = v := (List.getElem?_eq_some_iff.1 h0).2
 have hrd := fun {ops dst k T F Q} => zQ (ops := ops) (dst := dst) (l := k) (T := T) (F := F) (Q := Q) rfl (zkb S d r vs f w 0 lit 0 _ _ h h0l h0v hb hl (by omega))
 simp only [nl0] at hrd
 exact ⟨_, K2.refl.setd.app, (h.setd (f' := f) (lit' := lit) (off' := false) (w' := w) (q' := 0 + 1)).app, hrd⟩
theorem z37 {C : Cfg} {ops : Array Oper} {dst : Option Tmp} {ty : TypeId} {pos : String} {after : Array Edge} {l : List Oper} {T : List V} {S : Store} {F : Dfs} {Q : Post} {t : TypeId} : WpL C ops (⟨dst, .makeMap t none, ty, pos, after, none⟩ :: l) T S F Q = WpL C ops l (putT T dst (.mr S.length)) (S ++ [.mp [] 0]) F Q := by
 rw [vG rfl]; rfl
theorem q0t {x : Nat} {m : Nat} : wP Try.prog 150 [(0, .ref x 0 0), (1, .mr m)] = some (.agg [.ref x 0 0, .mr m, .ts [], .d (.int .i64 0)]) := by kernel_rfl
theorem zzx {x : Nat} {m : Nat} : zZ Try.prog 150 (.agg [.ref x 0 0, .mr m, .ts [], .d (.int .i64 0)]) = true := by kernel_rfl
theorem zrk (S : Store) (d : Nat) : EvS cfg 58 [.ref d 0 0] S (fun o S' => S' = S ++ [.mp [] 0, .row [.agg [.ref d 0 0, .mr S.length, .ts [], .d (.int .i64 0)]] 150] ∧ o = .ret (.ref (S.length + 1) 0 0)) := by
 refine qN rfl zw7 ?_
 show Wp cfg (Try.f58.body.getD .skip) ((.ref d 0 0) :: (.tup []) :: (.tup []) :: (.tup []) :: (.tup []) :: (.tup []) :: (.tup []) :: (.tup []) :: (.tup []) :: []) S [] _
 conv => arg 2; whnf
 rw [zR]
 simp (maxSteps:=1000000) (disch:=first|assumption|omega|rfl) only [↓gp, gc, Nat.reduceAdd, ↓z37, zev, q0t, zzx, List.append_assoc, List.length_append, List.length_cons, List.length_nil]
 exact ⟨rfl, _, rfl, rfl, rfl⟩
def stoV (c m : Nat) (B I M : Int) (e : Int) : V := .agg [.ref c 0 0, .d (.int .i64 B), .d (.int .i64 I), .d (.int .u64 M), .d (.int .i64 e), .mr m]
theorem q0q {c m : Nat} {l : Lay} : wP Try.prog 103 [(0, .ref c 0 0), (1, .d (encLay l)), (3, .mr m)] = some (stoV c m l.blocks l.inodes l.merge 0) := by kernel_rfl
theorem q26 {c m : Nat} {B I M e : Int} : zZ Try.prog 103 (stoV c m B I M e) = true := by kernel_rfl
theorem zy9 {P : Program} {T : List V} {dst : Option Tmp} {ty : TypeId} {pos : String} {after : Array Edge} {g : Option (Nat × Bool)} {t : TypeId} : addO P T ⟨dst, .makeMap t none, ty, pos, after, g⟩ = some (.mp [] 0, .mr) := rfl
theorem zwa {ty : TypeId} {pos : String} {after : Array Edge} {dst : Option Tmp} {g : Option (Nat × Bool)} {t : TypeId} {r : Option Operand} : jK ⟨dst, .makeMap t r, ty, pos, after, g⟩ = true := rfl
theorem zuu {ty : TypeId} {pos : String} {after : Array Edge} {dst : Option Tmp} {g : Option (Nat × Bool)} {t : TypeId} {r : Operand} : jK ⟨dst, .box t r, ty, pos, after, g⟩ = true := rfl
theorem zst {P : Program} {T : List V} {dst : Option Tmp} {ty : TypeId} {pos : String} {after : Array Edge} {g : Option (Nat × Bool)} {e : TypeId} {x : Nat} : addO P T ⟨dst, .box e (.tmp x), ty, pos, after, g⟩ = if zZ P e (T.getD x .junk) then some (.row [T.getD x .junk] e, fun id => .ref id 0 0) else none := rfl
theorem znf {l : Lay} : z0t (.d (encLay l)) (.d (encLay l)) = true := by
 simp [z0t, kF, jY, wS, jI, encLay, all2]
theorem zf9 {S l : Store} {i : Nat} (h : Nat.ble (i + 1) 8 = true) : (S ++ [.hole, .hole, .hole, .hole, .hole, .hole, .hole, .hole] ++ l)[S.length + i]? = some Ob.hole := by
 rw [List.append_assoc, List.getElem?_append_right (by omega), Nat.add_sub_cancel_left]
 have hi : i < 8 := Nat.le_of_ble_eq_true h
 match i, hi with
 | 0, _ => rfl
 | 1, _ => rfl
 | 2, _ => rfl
 | 3, _ => rfl
 | 4, _ => rfl
 | 5, _ => rfl
 | 6, _ => rfl
 | 7, _ => rfl
theorem K2.setn {d r : Nat} {S S' : Store} {i : Nat} {o : Ob} (h : K2 d r S S') (hi : S.length ≤ i) : K2 d r S (S'.set i o) := fun j p a b c => by
 have := zN c
 rw [List.getElem?_set_ne (by omega)]; exact h j p a b c
theorem DskAt.seto {S : Store} {d r : Nat} {vs : List V} {f w q : Int} {lit off : Bool} {i : Nat} {o : Ob} (h : DskAt S d r vs f lit off w q) (h1 : i ≠ d) (h2 : i ≠ r) : DskAt (S.set i o) d r vs f lit off w q :=
 ⟨by rw [List.getElem?_set_ne h1]; exact h.hd, by rw [List.getElem?_set_ne h2]; exact h.hr, h.ne⟩
section
variable {d x y c m : Nat} {B I M e : Int}
theorem zjp : binV Try.prog .eql 32 (.ref d x y) (.d .nilp) = some (.d (.bool false)) := by kernel_rfl
theorem zb7 : zF Try.prog 103 1 (.ref d x y) = some (.ref d x (y + 1)) := by kernel_rfl
theorem z80 : zF Try.prog 103 2 (.ref d x y) = some (.ref d x (y + 4)) := by kernel_rfl
theorem zu3 : qL Try.prog 24 1 (some (stoV c m B I M e)) = some (.agg [.d (.int .i64 B), .d (.int .i64 I), .d (.int .u64 M)]) := by kernel_rfl
theorem ztb : qL Try.prog 29 4 (some (stoV c m B I M e)) = some (.d (.int .i64 e)) := by kernel_rfl
end
theorem zgy (S : Store) (d r : Nat) (vs : List V) (f w : Int) (lit : Bool) (B I M : Nat) (hB : B ≤ 512) (hI : I ≤ 128) (hM : M < 18446744073709551616) (hm : MayL ⟨(B : Int), (I : Int), (M : Int)⟩) (h : DskAt S d r vs f lit false w 0) (v : V) (h0 : vs[0]? = some v) (hv : IsB v (supB B I M)) (hvl : vs.length = B) :
  EvS cfg 13 [.ref d 0 0] S (fun o S' => K2 d r S S' ∧ DskAt S' d r vs f lit false w 1 ∧ ∃ x c m m0, o = .ret (.tup [.ref x 0 0, .d (.int .i64 0)]) ∧ S'[x]? = some (.row [stoV c m B I M 0] 103) ∧ S'[c]? = some (.row [.agg [.ref d 0 0, .mr m0, .ts [], .d (.int .i64 0)]] 150) ∧ S'[m0]? = some (.mp [] 0) ∧ S'[m]? = some (.mp [] 0) ∧ m ≠ m0) := by
 refine qN rfl zuh ?_
 show Wp cfg (Try.f13.body.getD .skip) ((.ref d 0 0) :: uZ (uZ (uZ ((.tup []) :: (.tup []) :: (.tup []) :: (.tup []) :: (.tup []) :: (.tup []) :: [])))) S [] _
 unfold uZ
 conv => arg 2; whnf
 rw [zR]
 have l0 := z256
 have l5 := z5e B I M
 obtain ⟨S1, hK, hD, hrd⟩ := zh4 S d r vs f w lit _ _ h h0 hv l5
 have hg := fun {ops dst k T S F Q} => zjm (ops := ops) (dst := dst) (k := k) (T := T) (S := S) (F := F) (Q := Q) hv (zs6 B I M hB hI hM hm)
 have hst := bt42.store hv l5 (w := blkV (zC 256)) isB_v z256
 have hld := bt42.load hv l5
 have hv1 := hv.one
 have hne : ∀ i : Decidable ((B : Int) ≠ (B : Int)), @decide ((B : Int) ≠ (B : Int)) i = false := fun i => decide_eq_false (by omega)
 generalize ha : S1.length = a
 simp (maxSteps:=1000000) (disch:=first|assumption|omega|rfl) only [↓gp, gc, Nat.reduceAdd, zev, hrd, bo56, z42, zf42, z24, zf24, List.append_assoc, List.length_append, List.length_cons, List.length_nil, ha, rA0 ha, rA1 ha, pA0 ha, pA1 ha, hst, hld, hv1, hg, bo57, zv6, lr24, zL]
 have hsz := fun {ops base K ws cs i dst T} l => kV (ops := ops) (base := base) (K := K) (ws := ws) (cs := cs) (i := i) (dst := dst) (T := T) rfl (zm9 (S1 ++ l) d r _ _ _ _ _ _ hD.app)
 rw [hvl] at hsz
 refine kL (is := [0, 1, 2, 3, 4, 5, 6, 7, 8]) (h := 0) (by kernel_rfl) (by kernel_rfl) ?_
 simp (maxSteps:=1000000) (disch:=first|assumption|omega|rfl) only [List.replicate_zero, eq_self, gw, ga, Nat.reduceAdd, ↓gq, vso, List.append_nil, rA1 ha, hsz, bo49]
 refine ⟨qV rfl (by kernel_rfl) rfl (z3f ((zM (rA1 ha)).trans z9y)) za0 qM, by kernel_rfl, ?_⟩
 have hrow : ∀ l', rowE ((S1 ++ [.row [v] 42, .row [.d (encLay ⟨(B : Int), (I : Int), (M : Int)⟩)] 24]) ++ l') (a + 1) 0 = some (.d (encLay ⟨(B : Int), (I : Int), (M : Int)⟩)) := fun l' => by
  rw [List.append_assoc]; exact rA1 ha
 have hD2 := hD.app (l := [.row [v] 42, .row [.d (encLay ⟨(B : Int), (I : Int), (M : Int)⟩)] 24])
 have hK2 := hK.app (l := [.row [v] 42, .row [.d (encLay ⟨(B : Int), (I : Int), (M : Int)⟩)] 24])
 generalize S1 ++ [Ob.row [v] 42, .row [.d (encLay ⟨(B : Int), (I : Int), (M : Int)⟩)] 24] = S2 at *
 simp (maxSteps:=1000000) (disch:=first|assumption|omega|rfl) only [↓gp, gc, Nat.reduceAdd]
 have hcn := fun {ops base K ws cs i dst T} => kV (ops := ops) (base := base) (K := K) (ws := ws) (cs := cs) (i := i) (dst := dst) (T := T) rfl (zrk (S2 ++ [.hole, .hole, .hole, .hole, .hole, .hole, .hole, .hole]) d)
 refine kL (is := [0, 2, 1, 3, 4, 5, 6, 7]) (h := 8) (by kernel_rfl) (by kernel_rfl) ?_
 simp (maxSteps:=1000000) (disch:=first|assumption|omega|rfl) only [List.replicate_zero, eq_self, gw, ga, Nat.reduceAdd, ↓gq, vso, hrow, hcn, bo58, lr24, zwa, zuu, zy9, zst, z8x, q0q, q26, if_true, eq_self]
 refine ⟨qV rfl (by kernel_rfl) rfl (z3f ((zM (by rw [List.append_assoc]; exact hrow _)).trans lr24)) znf qM, zf9 (by decide), ?_⟩
 refine ⟨by rw [List.getElem?_set_ne (by omega)]; exact zf9 (by decide), by kernel_rfl, ?_⟩
 simp (maxSteps:=1000000) (disch:=first|assumption|omega|rfl) only [↓gp, gc, Nat.reduceAdd]
 have hdl := hD2.dl
 have hrl := hD2.rl
 have hhl : (S2 ++ [Ob.hole, .hole, .hole, .hole, .hole, .hole, .hole, .hole]).length = S2.length + 8 := by simp
 have hend : ∀ (l : Store) (i : Nat), (S2 ++ [Ob.hole, .hole, .hole, .hole, .hole, .hole, .hole, .hole] ++ l)[S2.length + 8 + i]? = l[i]? := fun l i => by
  rw [List.getElem?_append_right (by rw [hhl]; omega), hhl, Nat.add_sub_cancel_left]
 simp only [hhl]
 refine ⟨rfl, _, rfl, hK2.trans ((K2.refl.app.app.setn (by omega)).setn (by omega)), ((hD2.app.app).seto (by omega) (by omega)).seto (by omega) (by omega), S2.length + 5, S2.length + 8 + 1, S2.length + 3, S2.length + 8, rfl, zim (o := .hole) ?_, ?_, ?_, ?_, ?_⟩
 ·rw [List.getElem?_set_ne (by omega)]
  exact zf9 (by decide)
 ·rw [List.getElem?_set_ne (by omega), List.getElem?_set_ne (by omega), Nat.add_assoc S2.length 8 1]
  exact hend _ 1
 ·rw [List.getElem?_set_ne (by omega), List.getElem?_set_ne (by omega)]
  exact hend _ 0
 ·rw [List.getElem?_set_ne (by omega), List.getElem?_set_self (by simp)]
 ·omega
theorem zww (S : Store) (x c m : Nat) (B I M e : Int) (h : S[x]? = some (.row [stoV c m B I M e] 103)) : EvS cfg 17 [.ref x 0 0] S (fun o S' => S' = S ++ [.row [.agg [.d (.int .i64 B), .d (.int .i64 I), .d (.int .u64 M)]] 24] ∧ o = .ret (.agg [.d (.int .i64 B), .d (.int .i64 I), .d (.int .u64 M)])) := by
 refine qN rfl zyz ?_
 show Wp cfg (Try.f17.body.getD .skip) ((.ref x 0 0) :: (.tup []) :: (.tup []) :: (.tup []) :: (.tup []) :: (.tup []) :: (.tup []) :: (.tup []) :: (.tup []) :: (.tup []) :: []) S [] _
 conv => arg 2; whnf
 rw [zR]
 have hr : ∀ l, rowE (S ++ l) x 0 = some (stoV c m B I M e) := fun l => zK (e := 103) (by rw [List.getElem?_append_left (zN h)]; exact h)
 simp (maxSteps:=1000000) (disch:=first|assumption|omega|rfl) only [↓gp, gc, Nat.reduceAdd, zjp, zb7, z24, zf24, hr, zu3, rA0 rfl, pA0 rfl, st24]
 refine ⟨rfl, _, ?_, rfl, rfl⟩
 show kC Try.prog _ 24 (.ref S.length 0 0) = _
 rw [zM (rA0 rfl)]
 kernel_rfl
theorem zcb (S : Store) (x c m : Nat) (B I M e : Int) (h : S[x]? = some (.row [stoV c m B I M e] 103)) : EvS cfg 18 [.ref x 0 0] S (fun o S' => S' = S ∧ o = .ret (.d (.int .i64 e))) := by
 refine qN rfl zuf ?_
 show Wp cfg (Try.f18.body.getD .skip) ((.ref x 0 0) :: (.tup []) :: (.tup []) :: (.tup []) :: (.tup []) :: (.tup []) :: (.tup []) :: (.tup []) :: (.tup []) :: []) S [] _
 conv => arg 2; whnf
 rw [zR]
 have hr : rowE S x 0 = some (stoV c m B I M e) := zK (e := 103) h
 simp (maxSteps:=1000000) (disch:=first|assumption|omega|rfl) only [↓gp, gc, Nat.reduceAdd, zjp, z80, hr, ztb]
 exact ⟨rfl, _, rfl, rfl, rfl⟩
def IsBy (S : Store) (x : V) (b : List UInt8) : Prop := x = .d (encB b) ∨ ∃ id, x = .rs id 0 b.length ∧ S[id]? = some (rowY b)
theorem znp {S : Store} {x : V} {b : List UInt8} (h : IsBy S x b) : Go.Vm.frz S 11 x = some (encB b) := by
 rcases h with rfl | ⟨id, rfl, hS⟩
 ·rfl
 ·show (match S[id]? with
   | some (.row xs e) => if 0 + b.length ≤ xs.length && (allO (Go.Vm.frz S 10) xs).isSome then (allO (Go.Vm.frz S 10) ((xs.drop 0).take b.length)).map D.sl else none
   | some (.fz xs e) => if 0 + b.length ≤ xs.length then some (D.sl ((xs.drop 0).take b.length)) else none
   | _ => none) = _
  rw [hS]
  have h2 : ((b.map fun x => V.d (byD x)).drop 0).take b.length = b.map fun x => V.d (byD x) := by rw [List.drop_zero, List.take_of_length_le (by simp)]
  simp only [rowY, zbc, h2, List.length_map, Nat.zero_add, Nat.le_refl, decide_true, Option.isSome_some, Bool.and_self, if_true, Option.map_some]
  rfl
theorem z09 {f : FuncId} {args : List V} {S : Store} {R : Out → Store → Prop} (hs : cfg.shared f = true) (he : EvS cfg f args S R) : ∃ o S2, R o S2 ∧ ∀ v, o = .ret v → ∀ {ops dst k T F Q}, WpR cfg ops dst k T S F Q (some (.enter f args)) = WpL cfg ops k (putT T dst v) S2 F Q := by
 obtain ⟨n, o, S', hn, hR⟩ := he
 refine ⟨o, S', hR, ?_⟩
 rintro v rfl ops dst k T F Q
 exact zQ hs ⟨n, _, _, hn, rfl, rfl⟩
end Go.Proofs.Ytobgdmgldagjkaa
end
