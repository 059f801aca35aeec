/- geom.IsInode, Where; table.Raw: where an inode is. -/
import Derived.Test.YtobgdmgldagjkaaG07
set_option linter.unusedVariables false
set_option linter.unusedSimpArgs false
set_option maxRecDepth 100000
set_option maxHeartbeats 4000000
set_option linter.defProp false
section
namespace Go.Proofs.Ytobgdmgldagjkaa
open Go.Vm
theorem zl9 : zA Try.prog 106 = some ⟨(Try.f106.body.getD .skip), 17, #[.tmp 4]⟩ := by
 unfold zA
 rw [Try.func106]
 rfl
theorem zq8 : zA Try.prog 70 = some ⟨(Try.f70.body.getD .skip), 26, #[.tmp 4, .tmp 5, .tmp 6]⟩ := by
 unfold zA
 rw [Try.func70]
 rfl
theorem zru : zA Try.prog 115 = some ⟨(Try.f115.body.getD .skip), 27, #[.cell 4 158]⟩ := by
 unfold zA
 rw [Try.func115]
 rfl
theorem zv0 : (zA Try.prog 106).isSome = true := by kernel_rfl
theorem bo70 : (zA Try.prog 70).isSome = true := by kernel_rfl
theorem q14 : (zA Try.prog 115).isSome = true := by kernel_rfl
theorem zhm (l : Lay) (hb : InB l.blocks) (hi : InB l.inodes) (hm : MayL l) (ino : Nat) (h1 : 1 ≤ ino) (h2 : (ino : Int) ≤ l.inodes) : Ev cfg 106 [encLay l, .int .i64 (ino : Int)] (.ret (.d (.bool true))) := by
 refine jW rfl rfl zl9 ?_
 show Wp cfg (Try.f106.body.getD .skip) ((.d (encLay l)) :: (.d (.int .i64 (ino : Int))) :: uZ ((.tup []) :: (.tup []) :: (.tup []) :: (.tup []) :: (.tup []) :: [])) [] [] _
 unfold uZ
 conv => arg 2; whnf
 have hc : ∀ {ops dst k T S F Q}, WpR cfg ops dst k T S F Q (some (.enter 112 [.d (encLay l)])) = WpL cfg ops k (putT T dst (.d (.bool true))) S F Q := fun {ops dst k T S F Q} => qA (C := cfg) (ds := [encLay l]) rfl (zqg l hb hi hm)
 simp (maxSteps:=1000000) (disch:=first|assumption|omega|rfl) only [↓gp, gc, Nat.reduceAdd, hc, zji]
 exact zO rfl rfl rfl
theorem zmn (l : Lay) (hb : InB l.blocks) (hi : InB l.inodes) (hm : MayL l) (ino : Nat) (h1 : 1 ≤ ino) (h2 : (ino : Int) ≤ l.inodes) : Ev cfg 70 [encLay l, .int .i64 (ino : Int)] (.ret (.tup [.d (.int .i64 ((2 + (ino - 1) / 8 : Nat) : Int)), .d (.int .i64 (((ino - 1) % 8 : Nat) : Int)), .d (.bool true)])) := by
 refine jW rfl rfl zq8 ?_
 show Wp cfg (Try.f70.body.getD .skip) ((.d (encLay l)) :: (.d (.int .i64 (ino : Int))) :: uZ (uZ ((.tup []) :: (.tup []) :: (.tup []) :: (.tup []) :: []))) [] [] _
 unfold uZ
 conv => arg 2; whnf
 have hc : ∀ {ops dst k T S F Q}, WpR cfg ops dst k T S F Q (some (.enter 106 [.d (encLay l), .d (.int .i64 (ino : Int))])) = WpL cfg ops k (putT T dst (.d (.bool true))) S F Q := fun {ops dst k T S F Q} => qA (C := cfg) (ds := [encLay l, .int .i64 (ino : Int)]) rfl (zhm l hb hi hm ino h1 h2)
 have hc2 : ∀ {ops dst k T S F Q}, WpR cfg ops dst k T S F Q (some (.enter 91 [.d (encLay l)])) = WpL cfg ops k (putT T dst (.tup [.d (.int .i64 2), .d (.int .i64 (l.inodes.tdiv 8))])) S F Q := fun {ops dst k T S F Q} => qA (C := cfg) (ds := [encLay l]) rfl (zfh l hb hi hm)
 have hle := hm.2.2.2.1
 have hw : IntKind.i64.wrap ((ino : Int) - 1) = ((ino - 1 : Nat) : Int) := by rw [wrap64 (by omega)]; omega
 have e1 : ((ino - 1 : Nat) : Int).tdiv 8 = (((ino - 1) / 8 : Nat) : Int) := by rw [Int.tdiv_eq_ediv_of_nonneg (by omega)]; rfl
 have e2 : ((ino - 1 : Nat) : Int).tmod 8 = (((ino - 1) % 8 : Nat) : Int) := by rw [Int.tmod_eq_emod_of_nonneg (by omega)]; rfl
 have hq := quo8 (a := ((ino - 1 : Nat) : Int)) (by unfold InB; omega)
 have hr := rem8 (a := ((ino - 1 : Nat) : Int))
 rw [e1] at hq
 rw [e2] at hr
 have hw2 : IntKind.i64.wrap (2 + (((ino - 1) / 8 : Nat) : Int)) = ((2 + (ino - 1) / 8 : Nat) : Int) := by rw [wrap64 (by omega)]; omega
 simp (maxSteps:=1000000) (disch:=first|assumption|omega|rfl) only [↓gp, gc, Nat.reduceAdd, hc, hc2, zv0, bo91, hw, hq, hr, hw2, kJ, Bool.not_true]
 exact z4v (r1 := .tmp 4) (r2 := .tmp 5) (l := [.tmp 6]) (vs := [.d (.int .i64 ((2 + (ino - 1) / 8 : Nat) : Int)), .d (.int .i64 (((ino - 1) % 8 : Nat) : Int)), .d (.bool true)]) (ds := [.int .i64 ((2 + (ino - 1) / 8 : Nat) : Int), .int .i64 (((ino - 1) % 8 : Nat) : Int), .bool true]) rfl rfl rfl
theorem bt158 : BT Try.prog 158 5 32 := ⟨by kernel_rfl, by kernel_rfl, by kernel_rfl, by kernel_rfl, by kernel_rfl, by decide⟩
theorem z158 : zeroV Try.prog 158 = some (blkV (zC 32)) := by kernel_rfl
theorem zdn : zZ Try.prog 158 (blkV (zC 32)) = true := by kernel_rfl
theorem z32l : (zC 32).length = 32 := rfl
theorem zvf {S : Store} {j x : Nat} {i : Nat} (hi : i < 32) : zE Try.prog S 158 (.ref j x 0) (.d (.int .i64 (i : Int))) = some (.ref j x i) := by rw [bt158.ia hi, Nat.zero_add]
def wU (b : List UInt8) (k : Nat) : List UInt8 := (b.drop (32 * k)).take 32
theorem z22 {b : List UInt8} {k : Nat} (hb : b.length = 256) (hk : k < 8) : (wU b k).length = 32 := by unfold wU; rw [List.length_take, List.length_drop]; omega
theorem q0r (b : List UInt8) (hb : b.length = 256) (k0 : Nat) (hk0 : k0 < 8) (z : V) (R : Post) : ∀ (k i : Nat) (u : V) (g0 g3 g6 g7 g8 g9 gM gF gG gB gA gE gH gI gD gL gN gK gJ gO gP gW : V), 32 - i = k → i ≤ 32 → IsB u (wF (wU b k0) i) →
 (∀ u i' g0 g3 g6 g7 g8 g9 gM gF gG gB gA gE gH gI gD gL gN gK gJ gO gP gW, IsB u (wU b k0) → R (.exit 0) (g0 :: (.d (.int .i64 (k0 : Int))) :: (.ref 0 0 0) :: g3 :: (.ref 1 0 0) :: (.ref 2 0 0) :: g6 :: g7 :: g8 :: g9 :: gM :: gF :: gG :: gB :: i' :: gA :: gE :: gH :: gI :: gD :: gL :: gN :: gK :: gJ :: gO :: gP :: gW :: []) [.row [.d (blkD b)] 42, .row [z] 158, .row [u] 158] []) →
 Wp cfg (.loop (lpOf (Try.f115.body.getD .skip) 0)) (g0 :: (.d (.int .i64 (k0 : Int))) :: (.ref 0 0 0) :: g3 :: (.ref 1 0 0) :: (.ref 2 0 0) :: g6 :: g7 :: g8 :: g9 :: gM :: gF :: gG :: gB :: (.d (.int .i64 (i : Int))) :: gA :: gE :: gH :: gI :: gD :: gL :: gN :: gK :: gJ :: gO :: gP :: gW :: []) [.row [.d (blkD b)] 42, .row [z] 158, .row [u] 158] [] R := by
 intro k
 have hsl := z22 hb hk0
 induction k with
 | zero =>
  intro i u g0 g3 g6 g7 g8 g9 gM gF gG gB gA gE gH gI gD gL gN gK gJ gO gP gW hk hi hu hR
  have hie : i = 32 := by omega
  subst hie
  have e : wF (wU b k0) 32 = wU b k0 := by
   have : wF (wU b k0) (wU b k0).length = wU b k0 := by unfold wF zC; simp
   rw [hsl] at this; exact this
  rw [e] at hu
  rw [zR]
  refine zJ ?_
  conv => arg 2; whnf
  simp (maxSteps:=1000000) (disch:=first|assumption|omega|rfl) only [↓gp, gc, Nat.reduceAdd]
  exact hR _ _ _ _ _ _ _ _ _ _ _ _ _ _ _ _ _ _ _ _ _ _ _ _ hu
 | succ k ih =>
  intro i u g0 g3 g6 g7 g8 g9 gM gF gG gB gA gE gH gI gD gL gN gK gJ gO gP gW hk hi hu hR
  have hlt : i < 32 := by omega
  have hfl := z4z (t := wU b k0) (i := i) (by omega)
  have h1 : IntKind.i64.wrap ((k0 : Int) * 32) = ((k0 * 32 : Nat) : Int) := by rw [wrap64 (by omega)]; omega
  have h2 : IntKind.i64.wrap (((k0 * 32 : Nat) : Int) + (i : Int)) = ((k0 * 32 + i : Nat) : Int) := by rw [wrap64 (by omega)]; omega
  have h3 : IntKind.i64.wrap ((i : Int) + 1) = ((i + 1 : Nat) : Int) := by rw [wrap64 (by omega)]; omega
  have hia := fun S j x => ia42 (S := S) (j := j) (x := x) (i := k0 * 32 + i) (by omega)
  have hia2 := fun S j x => zvf (S := S) (j := j) (x := x) (i := i) hlt
  have hg := bt42.get (v := .d (blkD b)) jL hb (i := k0 * 32 + i) (by omega)
  have he : b[k0 * 32 + i] = (wU b k0)[i]'(by omega) := by
   simp [wU, Nat.mul_comm]
  rw [he] at hg
  have hpt := bt158.put hu (hfl.trans hsl) (i := i) (by omega) (x := (wU b k0)[i]'(by omega))
  rw [z5b (by omega)] at hpt
  rw [zR]
  refine zJ ?_
  conv => arg 2; whnf
  simp (maxSteps:=1000000) (disch:=first|assumption|omega|rfl) only [↓gp, gc, Nat.reduceAdd, h1, h2, h3, hia, hia2, hg, hpt]
  exact ih (i + 1) _ _ _ _ _ _ _ _ _ _ _ _ _ _ _ _ _ _ _ _ _ _ _ (by omega) (by omega) isB_v hR
theorem zun (b : List UInt8) (hb : b.length = 256) (k0 : Nat) (hk0 : k0 < 8) : Ev cfg 115 [blkD b, .int .i64 (k0 : Int)] (.ret (.d (blkD (wU b k0)))) := by
 refine jW rfl rfl zru ?_
 show Wp cfg (Try.f115.body.getD .skip) ((.d (blkD b)) :: (.d (.int .i64 (k0 : Int))) :: uZ (uZ ((.tup []) :: (.tup []) :: (.tup []) :: (.tup []) :: (.tup []) :: []))) [] [] _
 unfold uZ
 conv => arg 2; whnf
 have hf := fd42 hb
 have c1 : ¬ (k0 : Int) < 0 := by omega
 have c2 : ¬ (k0 : Int) ≥ 8 := by omega
 simp (maxSteps:=1000000) (disch:=first|assumption|omega|rfl) only [↓gp, gc, Nat.reduceAdd, hf, z158, zdn]
 have e0 : IsB (blkV (zC 32)) (wF (wU b k0) 0) := by
  have : wF (wU b k0) 0 = zC 32 := by unfold wF; rw [z22 hb hk0]; rfl
  rw [this]; exact isB_v
 refine q0r b hb k0 hk0 _ _ 32 0 _ _ _ _ _ _ _ _ _ _ _ _ _ _ _ _ _ _ _ _ _ _ _ rfl (Nat.zero_le _) e0 ?_
 intro u i' g0 g3 g6 g7 g8 g9 gM gF gG gB gA gE gH gI gD gL gN gK gJ gO gP gW hu
 have hld := bt158.load hu (z22 hb hk0)
 have hst := bt158.store hu (z22 hb hk0) (w := blkV (zC 32)) isB_v z32l
 simp (maxSteps:=1000000) (disch:=first|assumption|omega|rfl) only [↓gp, gc, Nat.reduceAdd, hld, hst]
 exact wK (u := .ref 1 0 0) (v := u) rfl ((zM rfl).trans hld) hu.one (hu.frz (n := 10))
theorem zph : zA Try.prog 71 = some ⟨(Try.f71.body.getD .skip), 30, #[.cell 4 56, .tmp 5]⟩ := by
 unfold zA
 rw [Try.func71]
 rfl
theorem zyy : zA Try.prog 84 = some ⟨(Try.f84.body.getD .skip), 19, #[.cell 4 61, .tmp 5]⟩ := by
 unfold zA
 rw [Try.func84]
 rfl
theorem bo71 : (zA Try.prog 71).isSome = true := by kernel_rfl
theorem bo84 : (zA Try.prog 84).isSome = true := by kernel_rfl
theorem zly : (zA Try.prog 107).isSome = true := by kernel_rfl
theorem q16 : (zA Try.prog 114).isSome = true := by kernel_rfl
def zv1 : List UInt8 := [1, 0, 1, 0] ++ zC 28
theorem z61 : zeroV Try.prog 61 = some (.agg [.d (.int .i64 0), .d (.int .i64 0), .d (.int .i64 0), .d (.int .i64 0), .d (.int .i64 0), .d (.int .i64 0), .d (.int .i64 0), .d (.int .i64 0), .d (.int .i64 0), .d (.int .i64 0), .d (.int .i64 0)]) := by kernel_rfl
theorem zf61 : zZ Try.prog 61 (.agg [.d (.int .i64 0), .d (.int .i64 0), .d (.int .i64 0), .d (.int .i64 0), .d (.int .i64 0), .d (.int .i64 0), .d (.int .i64 0), .d (.int .i64 0), .d (.int .i64 0), .d (.int .i64 0), .d (.int .i64 0)]) = true := by kernel_rfl
def patD (at_ : Int) (b : List UInt8) : D := .agg [.int .i64 at_, encB b]
theorem z56 : zeroV Try.prog 56 = some (.agg [.d (.int .i64 0), .ts []]) := by kernel_rfl
theorem zf56 : zZ Try.prog 56 (.agg [.d (.int .i64 0), .ts []]) = true := by kernel_rfl
theorem bd56 {n : Int} {id m : Nat} : wP Try.prog 56 [(0, .d (.int .i64 n)), (1, .rs id 0 m)] = some (.agg [.d (.int .i64 n), .rs id 0 m]) := by kernel_rfl
theorem sr56 {n : Int} {id m : Nat} : qI Try.prog 56 0 (.agg [.d (.int .i64 n), .rs id 0 m]) (.agg [.d (.int .i64 0), .ts []]) = some (.agg [.d (.int .i64 n), .rs id 0 m]) := by kernel_rfl
theorem lr56 {n : Int} {id m : Nat} : qL Try.prog 56 0 (some (.agg [.d (.int .i64 n), .rs id 0 m])) = some (.agg [.d (.int .i64 n), .rs id 0 m]) := by kernel_rfl
theorem zvd {S : Store} {a i : Nat} {vs : List V} (ha : S[a]? = some (.row vs 158)) : wD Try.prog S 158 (.ref a i 0) Option.none Option.none = some (.cs a i 0 32) := by
 have h0 : Try.prog.underlying 158 = some (.array 32 5) := by kernel_rfl
 have h1 : (sz Try.prog 5 == some 1) = true := by kernel_rfl
 have h2 : aggT Try.prog 5 = false := by kernel_rfl
 have h3 : sz Try.prog 158 = some 32 := by kernel_rfl
 have hb1 : jR 32 Option.none 32 = some 32 := by kernel_rfl
 have hb2 : jR 32 Option.none 0 = some 0 := by kernel_rfl
 simp only [wD, h0, kY, h1, h2, hb1, hb2, ha, h3, Bool.not_false, Bool.and_self, if_true, Nat.zero_add, Nat.le_refl, Nat.sub_zero]
theorem zx8 {S : Store} {a : Nat} {u : V} {b : List UInt8} (ha : S[a]? = some (.row [u] 158)) (hu : IsB u b) (hl : b.length = 32) : qE Try.prog S 40 40 (.ts []) (.cs a 0 0 32) = some (.rs S.length 0 32, S ++ [rowY b], 2) := by
 have h5 : (sz Try.prog 5).isSome = true := by kernel_rfl
 have ht : ((b.map fun x => V.d (byD x)).drop 0).take 32 = b.map fun x => V.d (byD x) := by rw [List.drop_zero, List.take_of_length_le (by simp; omega)]
 have el : kA S (.cs a 0 0 32) = some (b.map fun x => V.d (byD x)) := by
  simp only [kA, ha, List.getElem?_cons_zero, hu.isAgg, hu.cells, List.length_map, hl, Nat.zero_add, Nat.le_refl, decide_true, Bool.and_self, if_true, ht]
 have hall : (b.map fun x => V.d (byD x)).all (zZ Try.prog 5) = true := by
  rw [List.all_eq_true]
  intro y hy
  obtain ⟨z, hz, rfl⟩ := List.mem_map.1 hy
  exact zk3 _
 have src : srcV Try.prog S 5 40 (.cs a 0 0 32) = some (b.map fun x => V.d (byD x)) := by
  simp only [srcV, Try.underlying40, el, hall, h5, Bool.and_self, if_true]
 cases b with
 | nil => simp at hl
 | cons x r =>
  have hr : room Try.prog 5 (r.length + 1) = true := zgo (by simp at hl; omega)
  have hrl : r.length + 1 = 32 := by simpa using hl
  rw [List.map_cons] at src
  simp only [qE, Try.underlying40, src, zsb, if_true, List.all_nil, List.length_nil, List.length_map, Nat.zero_add, hr, Bool.and_self, List.map_nil, List.nil_append]
  rw [hrl]
  rfl
theorem zf1 {ops : Array Oper} {dst : Option Tmp} {ty : TypeId} {pos : String} {after : Array Edge} {l : List Oper} {T : List V} {S : Store} {F : Dfs} {Q : Post} {t : TypeId} {n : Nat} {ps : Array (Nat × Operand)} {d2 : Option Tmp} {ty2 : TypeId} {pos2 : String} {after2 : Array Edge} {g2 : Option (Nat × Bool)} {t2 : TypeId} {x : Operand} {lo hi mx : Option Operand} : WpL cfg ops (⟨dst, .buildSlice t n ps, ty, pos, after, none⟩ :: ⟨d2, .slice t2 x lo hi mx, ty2, pos2, after2, g2⟩ :: l) T S F Q = WpR cfg ops dst (⟨d2, .slice t2 x lo hi mx, ty2, pos2, after2, g2⟩ :: l) T S F Q (opV cfg.P S T ⟨dst, .buildSlice t n ps, ty, pos, after, none⟩) := z6j rfl
def kW (a : Int) (b : List UInt8) : Prop := 1 ≤ b.length ∧ b.length ≤ 256 ∧ 0 ≤ a ∧ a + b.length ≤ 256
instance {a : Int} {b : List UInt8} : Decidable (kW a b) := by unfold kW; infer_instance
theorem fd56 {a : Int} {b : List UInt8} : zZ Try.prog 56 (.d (patD a b)) = true := by kernel_rfl
theorem z4d {d x y : Nat} : zF Try.prog 56 0 (.ref d x y) = some (.ref d x (y + 0)) := by kernel_rfl
theorem z1w {d x y : Nat} : zF Try.prog 56 1 (.ref d x y) = some (.ref d x (y + 1)) := by kernel_rfl
theorem z1v {a : Int} {b : List UInt8} : qL Try.prog 3 0 (some (.d (patD a b))) = some (.d (.int .i64 a)) := by kernel_rfl
theorem z2t {a : Int} {b : List UInt8} : qL Try.prog 40 1 (some (.d (patD a b))) = some (.d (encB b)) := by kernel_rfl
theorem zgr {a : Int} {b : List UInt8} : qL Try.prog 56 0 (some (.d (patD a b))) = some (.d (patD a b)) := by kernel_rfl
theorem z1x {S : Store} {b : List UInt8} : zI Try.prog S .len [40] [.d (encB b)] = some (.val (.d (.int .i64 b.length)) S 0) := by rw [encB, zmp, List.length_map]
theorem zga (a : Int) (b : List UInt8) (ha : InB a) : Ev cfg 104 [patD a b] (.ret (.d (.int .i64 (if kW a b then 0 else 2)))) := by
 refine jW rfl rfl zqt ?_
 show Wp cfg (Try.f104.body.getD .skip) ((.d (patD a b)) :: uZ (uZ ((.tup []) :: (.tup []) :: (.tup []) :: (.tup []) :: []))) [] [] _
 unfold uZ
 conv => arg 2; whnf
 have ha1 := ha.1
 have ha2 := ha.2
 by_cases h1 : (b.length : Int) < 1
 ·rw [if_neg (by unfold kW; omega)]
  simp (maxSteps:=1000000) (disch:=first|assumption|omega|rfl) only [↓gp, gc, Nat.reduceAdd, fd56, z4d, z1w, z1v, z2t, z1x, zL]
  exact zO rfl rfl rfl
 ·by_cases h2 : (b.length : Int) > 256
  ·rw [if_neg (by unfold kW; omega)]
   simp (maxSteps:=1000000) (disch:=first|assumption|omega|rfl) only [↓gp, gc, Nat.reduceAdd, fd56, z4d, z1w, z1v, z2t, z1x, zL]
   exact zO rfl rfl rfl
  ·by_cases h3 : a < 0
   ·rw [if_neg (by unfold kW; omega)]
    simp (maxSteps:=1000000) (disch:=first|assumption|omega|rfl) only [↓gp, gc, Nat.reduceAdd, fd56, z4d, z1w, z1v, z2t, z1x, zL]
    exact zO rfl rfl rfl
   ·have hw : IntKind.i64.wrap (256 - (b.length : Int)) = 256 - (b.length : Int) := wrap64 (by omega)
    by_cases h4 : a > 256 - (b.length : Int)
    ·rw [if_neg (by unfold kW; omega)]
     simp (maxSteps:=1000000) (disch:=first|assumption|omega|rfl) only [↓gp, gc, Nat.reduceAdd, fd56, z4d, z1w, z1v, z2t, z1x, zL, hw]
     exact zO rfl rfl rfl
    ·rw [if_pos (by unfold kW; omega)]
     simp (maxSteps:=1000000) (disch:=first|assumption|omega|rfl) only [↓gp, gc, Nat.reduceAdd, fd56, z4d, z1w, z1v, z2t, z1x, zL, hw]
     exact zO rfl rfl rfl
theorem zyo (b : List UInt8) (hb : b.length = 256) (k0 : Nat) (d : List UInt8) (hk0 : k0 + d.length ≤ 256) (z : V) (R : Post) : ∀ (k i : Nat) (u : V) (g0 g1 g5 g6 g7 g8 g9 gM gF gA gE gH gI gD gL gN gK gJ gO gP gW : V), d.length - i = k → i ≤ d.length → IsB u (layB b k0 (d.take i)) →
 (∀ u i' g0 g1 g5 g6 g7 g8 g9 gM gF gA gE gH gI gD gL gN gK gJ gO gP gW, IsB u (layB b k0 d) → R (.exit 0) (g0 :: g1 :: (.ref 0 0 0) :: (.ref 1 0 0) :: (.ref 2 0 0) :: g5 :: g6 :: g7 :: g8 :: g9 :: gM :: gF :: (.d (encB d)) :: (.d (.int .i64 d.length)) :: i' :: gA :: gE :: gH :: gI :: gD :: gL :: gN :: gK :: gJ :: gO :: gP :: gW :: []) [.row [u] 42, .row [.d (patD (k0 : Int) d)] 56, .row [z] 42] []) →
 Wp cfg (.loop (lpOf (Try.f92.body.getD .skip) 0)) (g0 :: g1 :: (.ref 0 0 0) :: (.ref 1 0 0) :: (.ref 2 0 0) :: g5 :: g6 :: g7 :: g8 :: g9 :: gM :: gF :: (.d (encB d)) :: (.d (.int .i64 d.length)) :: (.d (.int .i64 (i : Int))) :: gA :: gE :: gH :: gI :: gD :: gL :: gN :: gK :: gJ :: gO :: gP :: gW :: []) [.row [u] 42, .row [.d (patD (k0 : Int) d)] 56, .row [z] 42] [] R := by
 intro k
 induction k with
 | zero =>
  intro i u g0 g1 g5 g6 g7 g8 g9 gM gF gA gE gH gI gD gL gN gK gJ gO gP gW hk hi hu hR
  have hie : i = d.length := by omega
  subst hie
  rw [List.take_length] at hu
  rw [zR]
  refine zJ ?_
  conv => arg 2; whnf
  simp (maxSteps:=1000000) (disch:=first|assumption|omega|rfl) only [↓gp, gc, Nat.reduceAdd]
  exact hR _ _ _ _ _ _ _ _ _ _ _ _ _ _ _ _ _ _ _ _ _ _ _ hu
 | succ k ih =>
  intro i u g0 g1 g5 g6 g7 g8 g9 gM gF gA gE gH gI gD gL gN gK gJ gO gP gW hk hi hu hR
  have hlt : i < d.length := by omega
  have htl : (d.take i).length = i := by rw [List.length_take]; omega
  have hl : (layB b k0 (d.take i)).length = 256 := by rw [qU (by rw [htl]; omega), hb]
  have h1 : IntKind.i64.wrap ((k0 : Int) + (i : Int)) = ((k0 + i : Nat) : Int) := by rw [wrap64 (by omega)]; omega
  have h3 : IntKind.i64.wrap ((i : Int) + 1) = ((i + 1 : Nat) : Int) := by rw [wrap64 (by omega)]; omega
  have hix := fun S => ix40 (S := S) (l := d) hlt
  have hia := fun S j x => ia42 (S := S) (j := j) (x := x) (i := k0 + i) (by omega)
  have hp := bt42.put hu hl (i := k0 + i) (by omega) (x := d[i])
  have e : (layB b k0 (d.take i)).set (k0 + i) d[i] = layB b k0 (d.take (i + 1)) := by
   rw [List.take_add_one, List.getElem?_eq_getElem hlt]
   show _ = layB b k0 (d.take i ++ [d[i]])
   rw [z4n (by rw [htl]; omega), htl]
  rw [e] at hp
  rw [zR]
  refine zJ ?_
  conv => arg 2; whnf
  simp (maxSteps:=1000000) (disch:=first|assumption|omega|rfl) only [↓gp, gc, Nat.reduceAdd, encB, z4d, z1v, h1, h3, hix, hia, hp]
  exact ih (i + 1) _ _ _ _ _ _ _ _ _ _ _ _ _ _ _ _ _ _ _ _ _ _ (by omega) (by omega) isB_v hR
theorem ztd (b : List UInt8) (hb : b.length = 256) (k0 : Nat) (d : List UInt8) (hp : kW (k0 : Int) d) : Ev cfg 92 [blkD b, patD (k0 : Int) d] (.ret (.d (blkD (layB b k0 d)))) := by
 obtain ⟨p1, p2, p3, p4⟩ := hp
 refine jW rfl rfl zwc ?_
 show Wp cfg (Try.f92.body.getD .skip) ((.d (blkD b)) :: (.d (patD (k0 : Int) d)) :: uZ (uZ ((.tup []) :: (.tup []) :: (.tup []) :: (.tup []) :: (.tup []) :: []))) [] [] _
 unfold uZ
 conv => arg 2; whnf
 have hll : (layB b k0 d).length = 256 := by rw [qU (by omega), hb]
 have hf := fd42 hb
 have hc : ∀ {ops dst k T S F Q}, WpR cfg ops dst k T S F Q (some (.enter 104 [.d (patD (k0 : Int) d)])) = WpL cfg ops k (putT T dst (.d (.int .i64 0))) S F Q := fun {ops dst k T S F Q} => qA (C := cfg) (ds := [patD (k0 : Int) d]) rfl (by have := zga (k0 : Int) d (by unfold InB; omega); rwa [if_pos (by unfold kW; omega)] at this)
 simp (maxSteps:=1000000) (disch:=first|assumption|omega|rfl) only [↓gp, gc, Nat.reduceAdd, z42, zf42, hf, fd56, zgr, z1w, z2t, z1x, hc, z96]
 refine zyo b hb k0 d (by omega) _ _ d.length 0 _ _ _ _ _ _ _ _ _ _ _ _ _ _ _ _ _ _ _ _ _ _ rfl (Nat.zero_le _) (by rw [List.take_zero, z7b]; exact jL) ?_
 intro u i' g0 g1 g5 g6 g7 g8 g9 gM gF gA gE gH gI gD gL gN gK gJ gO gP gW hu
 have hld := bt42.load hu hll
 have hst := bt42.store hu hll (w := blkV (zC 256)) isB_v z256
 simp (maxSteps:=1000000) (disch:=first|assumption|omega|rfl) only [↓gp, gc, Nat.reduceAdd, hld, hst]
 exact wK (u := .ref 2 0 0) (v := u) rfl ((zM rfl).trans hld) hu.one (hu.frz (n := 10))
end Go.Proofs.Ytobgdmgldagjkaa
end
section
namespace Go.Vm
structure IK (P : Program) (t kt et : TypeId) (z : V) : Prop where
 u : P.underlying t = some (.map kt et)
 eq : ∀ a b : Int, eqV P kt (.d (.int .i64 a)) (.d (.int .i64 b)) = some (a == b)
 ok : ∀ a : Int, z93 P kt (.d (.int .i64 a)) = true
 z : zeroV P et = some z
abbrev EntI := Int × V × Nat
def mkI (e : EntI) : D × V × Nat := (.int .i64 e.1, e.2)
def StI (L : List EntI) (c : Nat) : Prop := (L.map (·.2.2)).Nodup ∧ ∀ e ∈ L, e.2.2 < c
def MpI (S : Store) (m : Nat) (f : Int → Option V) : Prop := ∃ (L : List EntI) (c : Nat), S[m]? = some (.mp (L.map mkI) c) ∧ (L.map (·.1)).Nodup ∧ (∀ e ∈ L, f e.1 = some e.2.1) ∧ (∀ x v, f x = some v → ∃ e ∈ L, e.1 = x) ∧ StI L c
def updI (f : Int → Option V) (k : Int) (v : Option V) : Int → Option V := fun x => if x = k then v else f x
theorem MpI.keep {S S' : Store} {m : Nat} {f : Int → Option V} (h : MpI S m f) (hk : S'[m]? = S[m]?) : MpI S' m f := by
 obtain ⟨L, c, h1, h2⟩ := h
 exact ⟨L, c, hk.trans h1, h2⟩
theorem MpI.lt {S : Store} {m : Nat} {f : Int → Option V} (h : MpI S m f) : m < S.length := by
 obtain ⟨L, c, h1, h2⟩ := h
 exact zN h1
theorem MpI.nil {S : Store} {m c : Nat} (h : S[m]? = some (.mp [] c)) : MpI S m (fun _ => none) := ⟨[], c, h, by simp, by simp, by simp, by simp [StI]⟩
theorem zbb {L : List EntI} (h : (L.map (·.1)).Nodup) {i j : Nat} {a b : EntI} (hi : L[i]? = some a) (hj : L[j]? = some b) (he : a.1 = b.1) : i = j := by
 have hp := List.pairwise_iff_getElem.1 h
 obtain ⟨i1, i2⟩ := List.getElem?_eq_some_iff.1 hi
 obtain ⟨j1, j2⟩ := List.getElem?_eq_some_iff.1 hj
 rcases Nat.lt_trichotomy i j with hl | hl | hl
 ·exact (hp i j (by simpa using i1) (by simpa using j1) hl (by rw [List.getElem_map, List.getElem_map, i2, j2, he])).elim
 ·exact hl
 ·exact (hp j i (by simpa using j1) (by simpa using i1) hl (by rw [List.getElem_map, List.getElem_map, i2, j2, he])).elim
theorem z54 {α β : Type} (f : α → β) : ∀ (l : List α) (j : Nat), (l.map f).eraseIdx j = (l.eraseIdx j).map f
 | [], _ => rfl
 | _ :: _, 0 => rfl
 | a :: r, j + 1 => by rw [List.map_cons, List.eraseIdx_cons_succ, List.eraseIdx_cons_succ, List.map_cons, z54 f r j]
theorem mem_erase {α : Type} {L : List α} {j : Nat} {q : α} (h : q ∈ L.eraseIdx j) : ∃ i, L[i]? = some q ∧ i ≠ j := by
 obtain ⟨i, hi⟩ := List.mem_iff_getElem?.1 h
 rw [List.getElem?_eraseIdx] at hi
 split at hi
 ·exact ⟨i, hi, by omega⟩
 ·exact ⟨i + 1, hi, by omega⟩
theorem zm1 {α : Type} {L : List α} {i j : Nat} {q : α} (h : L[i]? = some q) (hij : i ≠ j) : q ∈ L.eraseIdx j := by
 refine List.mem_iff_getElem?.2 ?_
 rcases Nat.lt_or_ge i j with hl | hl
 ·exact ⟨i, by rw [List.getElem?_eraseIdx, if_pos hl]; exact h⟩
 ·exact ⟨i - 1, by rw [List.getElem?_eraseIdx, if_neg (by omega), Nat.sub_add_cancel (by omega)]; exact h⟩
theorem zbk {α : Type} : ∀ {l : List α} {j : Nat} {x : α}, l[j]? = some x → l.set j x = l
 | [], _, _, h => by simp at h
 | a :: r, 0, x, h => by simp at h; simp [h]
 | a :: r, j + 1, x, h => by simp only [List.getElem?_cons_succ] at h; rw [List.set_cons_succ, zbk h]
theorem zu2 {L : List EntI} {c : Nat} {x : Int} {v : V} (h : StI L c) : StI (L ++ [(x, v, c)]) (c + 1) := by
 refine ⟨?_, fun e he => ?_⟩
 ·rw [List.map_append, List.nodup_append]
  refine ⟨h.1, by simp, ?_⟩
  intro a ha b hb
  obtain ⟨e, he, rfl⟩ := List.mem_map.1 ha
  simp only [List.map_cons, List.map_nil, List.mem_singleton] at hb
  subst hb
  have := h.2 e he
  omega
 ·rcases List.mem_append.1 he with he | he
  ·have := h.2 e he; omega
  ·simp only [List.mem_singleton] at he; subst he; exact Nat.lt_succ_self c
theorem zq0 {L : List EntI} {c j : Nat} {e : EntI} {v : V} (h : StI L c) (hj : L[j]? = some e) : StI (L.set j (e.1, v, e.2.2)) c := by
 refine ⟨?_, fun q hq => ?_⟩
 ·rw [List.map_set]
  have : (L.map (·.2.2)).set j e.2.2 = L.map (·.2.2) := by
   apply List.ext_getElem?
   intro i
   by_cases hi : i = j
   ·subst hi; rw [List.getElem?_set_self (by have := (List.getElem?_eq_some_iff.1 hj).1; simpa using this), List.getElem?_map, hj]; rfl
   ·rw [List.getElem?_set_ne (Ne.symm hi)]
  show ((L.map (·.2.2)).set j e.2.2).Nodup
  rw [this]; exact h.1
 ·rcases List.mem_or_eq_of_mem_set hq with hq | hq
  ·exact h.2 q hq
  ·subst hq; exact h.2 e (List.mem_of_getElem? hj)
theorem zx1 {L : List EntI} {c j : Nat} (h : StI L c) : StI (L.eraseIdx j) c := by
 refine ⟨?_, fun q hq => h.2 q (List.mem_of_mem_eraseIdx hq)⟩
 rw [← z54]
 exact h.1.sublist (List.eraseIdx_sublist ..)
theorem zxr {n : Nat} : ∀ {L : List EntI} {i j : Nat} {e : EntI}, (L.map (·.2.2)).Nodup → L[j]? = some e → e.2.2 = n → z4i (n : Int) (L.map mkI) i = some (i + j)
 | [], i, j, e, _, h, _ => by simp at h
 | q :: r, i, 0, e, hn, h, he => by
  simp only [List.getElem?_cons_zero, Option.some.injEq] at h
  subst h
  simp only [List.map_cons, mkI, z4i, he, beq_self_eq_true, if_true, Nat.add_zero]
 | q :: r, i, j + 1, e, hn, h, he => by
  simp only [List.getElem?_cons_succ] at h
  rw [List.map_cons, List.nodup_cons] at hn
  have hne : ((q.2.2 : Int) == (n : Int)) = false := by
   rw [beq_eq_false_iff_ne]
   intro hh
   apply hn.1
   rw [List.mem_map]
   exact ⟨e, List.mem_of_getElem? h, by omega⟩
  have := zxr (i := i + 1) hn.2 h he
  rw [show i + (j + 1) = i + 1 + j by omega, ← this]
  show (if ((q.2.2 : Int) == (n : Int)) = true then some i else z4i (n : Int) (r.map mkI) (i + 1)) = _
  rw [hne, if_neg (by decide)]
section
variable {P : Program} {t kt et : TypeId} {z : V} (ik : IK P t kt et z)
include ik
theorem zmd {x : Int} : ∀ {L : List EntI} {i : Nat}, (findD P kt (.d (.int .i64 x)) (L.map mkI) i = some none ∧ ∀ e ∈ L, e.1 ≠ x) ∨ ∃ j e, findD P kt (.d (.int .i64 x)) (L.map mkI) i = some (some (i + j, e.2)) ∧ L[j]? = some e ∧ e.1 = x
 | [], i => .inl ⟨rfl, fun e he => by cases he⟩
 | e :: r, i => by
  by_cases h : e.1 = x
  ·refine .inr ⟨0, e, ?_, rfl, h⟩
   simp only [List.map_cons, mkI, findD, ik.eq, h, beq_self_eq_true, Nat.add_zero]
  ·have h1 : (x == e.1) = false := by rw [beq_eq_false_iff_ne]; exact fun hh => h hh.symm
   rcases zmd (x := x) (L := r) (i := i + 1) with ⟨h2, h3⟩ | ⟨j, q, h2, h3, h4⟩
   ·refine .inl ⟨?_, ?_⟩
    ·simp only [List.map_cons, mkI, findD, ik.eq, h1]
     exact h2
    ·intro q hq
     rcases List.mem_cons.1 hq with rfl | hq
     ·exact h
     ·exact h3 q hq
   ·refine .inr ⟨j + 1, q, ?_, h3, h4⟩
    simp only [List.map_cons, mkI, findD, ik.eq, h1]
    rw [show i + (j + 1) = i + 1 + j by omega]
    exact h2
theorem zl5 {x : Int} : ∀ {L : List EntI} {i : Nat}, findD P kt (.d (.int .i64 x)) ((L.map mkI).map fun e => (e.1, e.2.1)) i = (findD P kt (.d (.int .i64 x)) (L.map mkI) i).map fun q => q.map fun p => (p.1, p.2.1)
 | [], i => rfl
 | e :: r, i => by
  have ih := zl5 (x := x) (L := r) (i := i + 1)
  by_cases h : e.1 = x
  ·simp only [List.map_cons, mkI, findD, ik.eq, h, beq_self_eq_true, Option.map_some]
  ·have h1 : (x == e.1) = false := by rw [beq_eq_false_iff_ne]; exact fun hh => h hh.symm
   simp only [List.map_cons, mkI, findD, ik.eq, h1]
   exact ih
variable {S : Store} {m : Nat} {f : Int → Option V}
theorem MpI.look (h : MpI S m f) (x : Int) : wA P S t (.mr m) (.d (.int .i64 x)) true = some (.tup [(f x).getD z, .d (.bool (f x).isSome)]) ∧ wA P S t (.mr m) (.d (.int .i64 x)) false = some ((f x).getD z) := by
 obtain ⟨L, c, h1, h2, h3, h4, h8, h9⟩ := h
 have he : kE S (.mr m) = some ((L.map mkI).map fun e => (e.1, e.2.1)) := by simp only [kE, h1]
 rcases zmd ik (x := x) (L := L) (i := 0) with ⟨h5, h6⟩ | ⟨j, e, h5, h6, rfl⟩
 ·have hn : f x = none := by
   cases hf : f x with
   | none => rfl
   | some v => obtain ⟨e, he, hx⟩ := h4 x v hf; exact absurd hx (h6 e he)
  rw [hn]
  constructor <;> simp only [wA, ik.u, ik.ok, if_true, he, ik.z, zl5 ik, h5, Option.map_some, Option.map_none, Bool.false_eq_true, if_false, Option.getD_none, Option.isSome_none]
 ·have q1 := h3 e (List.mem_of_getElem? h6)
  rw [q1]
  constructor <;> simp only [wA, ik.u, ik.ok, if_true, he, ik.z, zl5 ik, h5, Option.map_some, Bool.false_eq_true, if_false, Option.getD_some, Option.isSome_some]
theorem MpI.put (h : MpI S m f) (x : Int) {v : V} (hv : v.one = true) : ∃ o, jO P S t (.mr m) (.d (.int .i64 x)) v = some (S.set m o) ∧ MpI (S.set m o) m (updI f x (some v)) ∧ (∃ es c, o = .mp es c) := by
 obtain ⟨L, c, h1, h2, h3, h4, h8, h9⟩ := h
 have hd : asD (.d (.int .i64 x)) = some (.int .i64 x) := rfl
 rcases zmd ik (x := x) (L := L) (i := 0) with ⟨h5, h6⟩ | ⟨j, e, h5, h6, h7⟩
 ·refine ⟨.mp ((L ++ [(x, v, c)]).map mkI) (c + 1), ?_, ⟨L ++ [(x, v, c)], c + 1, ?_, ?_, ?_, ?_, zu2 ⟨h8, h9⟩⟩, _, _, rfl⟩
  ·simp only [jO, ik.u, ik.ok, hv, Bool.and_self, if_true, hd, h1, h5, List.map_append, List.map_cons, List.map_nil, mkI]
  ·rw [List.getElem?_set_self (zN h1)]
  ·rw [List.map_append, List.nodup_append]
   refine ⟨h2, by simp, ?_⟩
   intro a ha b hb
   obtain ⟨e, he, rfl⟩ := List.mem_map.1 ha
   simp only [List.map_cons, List.map_nil, List.mem_singleton] at hb
   subst hb
   exact h6 e he
  ·intro e he
   unfold updI
   rcases List.mem_append.1 he with he | he
   ·rw [if_neg (h6 e he)]; exact h3 e he
   ·simp only [List.mem_singleton] at he; subst he; rw [if_pos rfl]
  ·intro y w hy
   unfold updI at hy
   split at hy
   ·exact ⟨(x, v, c), by simp, by simp [*]⟩
   ·obtain ⟨e, he, hx⟩ := h4 y w hy; exact ⟨e, List.mem_append_left _ he, hx⟩
 ·subst h7
  have hj : j < L.length := (List.getElem?_eq_some_iff.1 h6).1
  have hje : L[j] = e := (List.getElem?_eq_some_iff.1 h6).2
  have hs : z95 (D.int .i64 e.1) (.int .i64 e.1) = true := by simp [z95, jI]
  have hg : (L.map mkI)[j]? = some (mkI e) := by rw [List.getElem?_map, h6]; rfl
  refine ⟨.mp ((L.set j (e.1, v, e.2.2)).map mkI) c, ?_, ⟨L.set j (e.1, v, e.2.2), c, ?_, ?_, ?_, ?_, zq0 ⟨h8, h9⟩ h6⟩, _, _, rfl⟩
  ·simp only [jO, ik.u, ik.ok, hv, Bool.and_self, if_true, hd, h1, h5, Nat.zero_add, hg]
   have hs2 : z95 (mkI e).1 (.int .i64 e.1) = true := hs
   rw [hs2, if_pos rfl, List.map_set]
   rfl
  ·rw [List.getElem?_set_self (zN h1)]
  ·rw [List.map_set]
   have : (L.map (·.1)).set j e.1 = L.map (·.1) := by
    apply List.ext_getElem?
    intro i
    by_cases hi : i = j
    ·subst hi; rw [List.getElem?_set_self (by simpa using hj), List.getElem?_map, h6]; rfl
    ·rw [List.getElem?_set_ne (Ne.symm hi)]
   show ((L.map (·.1)).set j e.1).Nodup
   rw [this]; exact h2
  ·intro q hq
   unfold updI
   obtain ⟨i, hi⟩ := List.mem_iff_getElem?.1 hq
   by_cases hij : i = j
   ·subst hij
    rw [List.getElem?_set_self hj] at hi
    cases hi
    rw [if_pos rfl]
   ·rw [List.getElem?_set_ne (Ne.symm hij)] at hi
    have hq2 := List.mem_of_getElem? hi
    have hne : q.1 ≠ e.1 := fun hh => hij (zbb h2 hi h6 hh)
    rw [if_neg hne]
    exact h3 q hq2
  ·intro y w hy
   unfold updI at hy
   split at hy
   ·rename_i hye
    exact ⟨(e.1, v, e.2.2), List.mem_set hj _, hye.symm⟩
   ·rename_i hye
    obtain ⟨q, hq, hqx⟩ := h4 y w hy
    obtain ⟨i, hi⟩ := List.mem_iff_getElem?.1 hq
    have hij : i ≠ j := fun hh => by subst hh; rw [h6] at hi; cases hi; exact hye hqx.symm
    exact ⟨q, List.mem_iff_getElem?.2 ⟨i, by rw [List.getElem?_set_ne (Ne.symm hij)]; exact hi⟩, hqx⟩
theorem MpI.entry (h : MpI S m f) (x : Int) {u : V} (hu : f x = some u) : ∃ n : Nat, wZ P S t (.mr m) (.d (.int .i64 x)) = some (.tup [u, .d (.int .i64 (n : Int))], S) ∧ ∀ (S2 : Store) (v : V), S2[m]? = S[m]? → v.one = true → ∃ o, kM S2 (.mr m) (.d (.int .i64 (n : Int))) v = some (S2.set m o) ∧ MpI (S2.set m o) m (updI f x (some v)) ∧ (∃ es c, o = .mp es c) := by
 have h0 := h
 obtain ⟨L, c, h1, h2, h3, h4, h8, h9⟩ := h
 have hd : asD (.d (.int .i64 x)) = some (.int .i64 x) := rfl
 rcases zmd ik (x := x) (L := L) (i := 0) with ⟨h5, h6⟩ | ⟨j, e, h5, h6, h7⟩
 ·obtain ⟨e, he, hx⟩ := h4 x u hu
  exact absurd hx (h6 e he)
 ·subst h7
  have hj : j < L.length := (List.getElem?_eq_some_iff.1 h6).1
  have hje : L[j] = e := (List.getElem?_eq_some_iff.1 h6).2
  have hs : z95 (D.int .i64 e.1) (.int .i64 e.1) = true := by simp [z95, jI]
  have hg : (L.map mkI)[j]? = some (mkI e) := by rw [List.getElem?_map, h6]; rfl
  have hue : e.2.1 = u := by
   have := h3 e (List.mem_of_getElem? h6)
   rw [this] at hu
   exact Option.some.inj hu
  refine ⟨e.2.2, ?_, ?_⟩
  ·have hs2 : z95 (mkI e).1 (.int .i64 e.1) = true := hs
   simp only [wZ, ik.u, ik.ok, ik.z, if_true, hd, h1, h5, Nat.zero_add, hg]
   rw [hs2, if_pos rfl]
   have e1 : (L.map mkI).set j (.int .i64 e.1, e.2) = L.map mkI := by
    exact zbk hg
   have e2 : S.set m (.mp (L.map mkI) c) = S := by
    exact zbk h1
   rw [e1, e2, hue]
  ·intro S2 v hS2 hv
   have h1' : S2[m]? = some (.mp (L.map mkI) c) := hS2.trans h1
   have hb := zxr (i := 0) h8 h6 rfl
   rw [Nat.zero_add] at hb
   have hl : m < S2.length := zN h1'
   refine ⟨.mp ((L.set j (e.1, v, e.2.2)).map mkI) c, ?_, ⟨L.set j (e.1, v, e.2.2), c, ?_, ?_, ?_, ?_, zq0 ⟨h8, h9⟩ h6⟩, _, _, rfl⟩
   ·simp only [kM, hv, Bool.not_true, Bool.false_eq_true, if_false, h1', hb, hg]
    rw [List.map_set]
    rfl
   ·rw [List.getElem?_set_self hl]
   ·rw [List.map_set]
    have : (L.map (·.1)).set j e.1 = L.map (·.1) := by
     apply List.ext_getElem?
     intro i
     by_cases hi : i = j
     ·subst hi; rw [List.getElem?_set_self (by simpa using hj), List.getElem?_map, h6]; rfl
     ·rw [List.getElem?_set_ne (Ne.symm hi)]
    show ((L.map (·.1)).set j e.1).Nodup
    rw [this]; exact h2
   ·intro q hq
    unfold updI
    obtain ⟨i, hi⟩ := List.mem_iff_getElem?.1 hq
    by_cases hij : i = j
    ·subst hij
     rw [List.getElem?_set_self hj] at hi
     cases hi
     rw [if_pos rfl]
    ·rw [List.getElem?_set_ne (Ne.symm hij)] at hi
     have hq2 := List.mem_of_getElem? hi
     have hne : q.1 ≠ e.1 := fun hh => hij (zbb h2 hi h6 hh)
     rw [if_neg hne]
     exact h3 q hq2
   ·intro y w hy
    unfold updI at hy
    split at hy
    ·rename_i hye
     exact ⟨(e.1, v, e.2.2), List.mem_set hj _, hye.symm⟩
    ·rename_i hye
     obtain ⟨q, hq, hqx⟩ := h4 y w hy
     obtain ⟨i, hi⟩ := List.mem_iff_getElem?.1 hq
     have hij : i ≠ j := fun hh => by subst hh; rw [h6] at hi; cases hi; exact hye hqx.symm
     exact ⟨q, List.mem_iff_getElem?.2 ⟨i, by rw [List.getElem?_set_ne (Ne.symm hij)]; exact hi⟩, hqx⟩
theorem MpI.del (h : MpI S m f) (x : Int) : ∃ o, z07 P S t (.mr m) (.d (.int .i64 x)) = some (S.set m o) ∧ MpI (S.set m o) m (updI f x none) ∧ (∃ es c, o = .mp es c) := by
 obtain ⟨L, c, h1, h2, h3, h4, h8, h9⟩ := h
 rcases zmd ik (x := x) (L := L) (i := 0) with ⟨h5, h6⟩ | ⟨j, e, h5, h6, h7⟩
 ·refine ⟨.mp (L.map mkI) c, by simp only [z07, ik.u, ik.ok, if_true, h1, h5], ⟨L, c, ?_, h2, ?_, ?_, h8, h9⟩, _, _, rfl⟩
  ·rw [List.getElem?_set_self (zN h1)]
  ·intro e he
   unfold updI
   rw [if_neg (h6 e he)]; exact h3 e he
  ·intro y w hy
   unfold updI at hy
   split at hy
   ·cases hy
   ·exact h4 y w hy
 ·subst h7
  have hj : j < L.length := (List.getElem?_eq_some_iff.1 h6).1
  have hje : L[j] = e := (List.getElem?_eq_some_iff.1 h6).2
  refine ⟨.mp ((L.eraseIdx j).map mkI) c, ?_, ⟨L.eraseIdx j, c, ?_, ?_, ?_, ?_, zx1 ⟨h8, h9⟩⟩, _, _, rfl⟩
  ·simp only [z07, ik.u, ik.ok, if_true, h1, h5, Nat.zero_add, z54]
  ·rw [List.getElem?_set_self (zN h1)]
  ·rw [← z54]
   exact h2.sublist (List.eraseIdx_sublist ..)
  ·intro q hq
   obtain ⟨i, hi⟩ := mem_erase hq
   have hne : q.1 ≠ e.1 := fun hh => hi.2 (zbb h2 hi.1 h6 hh)
   unfold updI
   rw [if_neg hne]
   exact h3 q (List.mem_of_mem_eraseIdx hq)
  ·intro y w hy
   unfold updI at hy
   split at hy
   ·cases hy
   ·rename_i hye
    obtain ⟨q, hq, hqx⟩ := h4 y w hy
    refine ⟨q, ?_, hqx⟩
    obtain ⟨i, hi⟩ := List.mem_iff_getElem?.1 hq
    refine zm1 hi ?_
    intro hij
    subst hij
    rw [h6] at hi
    cases hi
    exact hye hqx.symm
end
end Go.Vm
end
section
namespace Go.Vm
def Keep (S S' : Store) : Prop := ∀ (j : Nat) (o : Ob), S[j]? = some o → S'[j]? = some o
theorem Keep.refl {S : Store} : Keep S S := fun _ _ h => h
theorem Keep.trans {S S' S'' : Store} (h : Keep S S') (h' : Keep S' S'') : Keep S S'' := fun j o hj => h' j o (h j o hj)
theorem Keep.app {S S' l : Store} (h : Keep S S') : Keep S (S' ++ l) := fun j o hj => by
 have := h j o hj
 rw [List.getElem?_append_left (zN this)]; exact this
theorem Keep.len {S S' : Store} (h : Keep S S') : S.length ≤ S'.length := by
 cases hl : S.length with
 | zero => omega
 | succ n =>
  obtain ⟨o, ho⟩ : ∃ o, S[n]? = some o := ⟨S[n], List.getElem?_eq_getElem (by omega)⟩
  have := zN (h n o ho)
  omega
theorem Keep.set {S S' : Store} {i : Nat} {o : Ob} (h : Keep S S') (hi : S.length ≤ i) : Keep S (S'.set i o) := fun j q hj => by
 have := zN hj
 rw [List.getElem?_set_ne (by omega)]
 exact h j q hj
def calm (ts ms : List Nat) (b r j : Nat) : Ob → Bool
 | .row _ e => !ts.contains e && (e != b || j != r)
 | .mp _ _ => !ms.contains j
 | _ => true
def Frm (ts ms : List Nat) (b r : Nat) (S S' : Store) : Prop := S.length ≤ S'.length ∧ ∀ (j : Nat) (o : Ob), S[j]? = some o → calm ts ms b r j o = true → S'[j]? = some o
section
variable {ts ms ts' ms' : List Nat} {b r : Nat} {S S' S'' l : Store}
theorem Frm.refl : Frm ts ms b r S S := ⟨Nat.le_refl _, fun _ _ h _ => h⟩
theorem Frm.trans (h : Frm ts ms b r S S') (h' : Frm ts ms b r S' S'') : Frm ts ms b r S S'' := ⟨Nat.le_trans h.1 h'.1, fun j o hj hc => h'.2 j o (h.2 j o hj hc) hc⟩
theorem Frm.app (h : Frm ts ms b r S S') : Frm ts ms b r S (S' ++ l) := ⟨by have := h.1; simp; omega, fun j o hj hc => by
 have := h.2 j o hj hc
 rw [List.getElem?_append_left (zN this)]; exact this⟩
theorem Frm.keep (h : Keep S S') : Frm ts ms b r S S' := ⟨h.len, fun j o hj _ => h j o hj⟩
theorem Frm.set (h : Frm ts ms b r S S') {i : Nat} {o : Ob} (hi : ∀ p, S[i]? = some p → calm ts ms b r i p = false) : Frm ts ms b r S (S'.set i o) := ⟨by rw [List.length_set]; exact h.1, fun j q hj hc => by
 rw [List.getElem?_set_ne (by rintro rfl; rw [hi q hj] at hc; cases hc)]
 exact h.2 j q hj hc⟩
theorem Frm.setn (h : Frm ts ms b r S S') {i : Nat} {o : Ob} (hi : S.length ≤ i) : Frm ts ms b r S (S'.set i o) := h.set fun p hp => by have := zN hp; omega
theorem Frm.row (h : Frm ts ms b r S S') {j : Nat} {xs : List V} {e : TypeId} (hj : S[j]? = some (.row xs e)) (hc : (!ts.contains e && (e != b || j != r)) = true) : S'[j]? = some (.row xs e) := h.2 j _ hj hc
theorem Frm.mp (h : Frm ts ms b r S S') {j : Nat} {es : List (D × V × Nat)} {c : Nat} (hj : S[j]? = some (.mp es c)) (hc : (!ms.contains j) = true) : S'[j]? = some (.mp es c) := h.2 j _ hj hc
theorem Frm.hole (h : Frm ts ms b r S S') {j : Nat} (hj : S[j]? = some .hole) : S'[j]? = some .hole := h.2 j _ hj rfl
theorem Frm.own (h : Frm ts ms b r S S') {v : V} {e : TypeId} {xs : List V} (ho : OwnS S v e xs) (hc : (!ts.contains e && (e != b)) = true) : OwnS S' v e xs := by
 rcases ho with ho | ⟨id, h1, h2⟩
 ·exact .inl ho
 ·refine .inr ⟨id, h1, h.row h2 ?_⟩
  rw [Bool.and_eq_true] at hc ⊢
  exact ⟨hc.1, by rw [hc.2]; rfl⟩
theorem Frm.map (h : Frm ts ms b r S S') {m : Nat} {f : Int → Option V} (hm : MpI S m f) (hc : (!ms.contains m) = true) : MpI S' m f := by
 obtain ⟨L, c, h1, h2⟩ := hm
 exact ⟨L, c, h.mp h1 hc, h2⟩
theorem Frm.mono (h : Frm ts ms b r S S') (h1 : ∀ e, ts.contains e = true → ts'.contains e = true) (h2 : ∀ m, ms.contains m = true → ms'.contains m = true) : Frm ts' ms' b r S S' := ⟨h.1, fun j o hj hc => h.2 j o hj (by
 cases o with
 | row xs e =>
  simp only [calm, Bool.and_eq_true] at hc ⊢
  refine ⟨?_, hc.2⟩
  cases hh : ts.contains e with
  | false => rfl
  | true => rw [h1 e hh] at hc; exact absurd hc.1 (by decide)
 | mp es c =>
  simp only [calm] at hc ⊢
  cases hh : ms.contains j with
  | false => rfl
  | true => rw [h2 j hh] at hc; exact absurd hc (by decide)
 | _ => rfl)⟩
end
theorem Keep.own {S S' : Store} (h : Keep S S') {v : V} {e : TypeId} {xs : List V} (ho : OwnS S v e xs) : OwnS S' v e xs := by
 rcases ho with ho | ⟨id, h1, h2⟩
 ·exact .inl ho
 ·exact .inr ⟨id, h1, h _ _ h2⟩
theorem Keep.map {S S' : Store} (h : Keep S S') {m : Nat} {f : Int → Option V} (hm : MpI S m f) : MpI S' m f := by
 obtain ⟨L, c, h1, h2⟩ := hm
 exact ⟨L, c, h _ _ h1, h2⟩
def cntI (f : Int → Option V) : Nat → Nat
 | 0 => 0
 | n + 1 => cntI f n + if (f (n : Int)).isSome then 1 else 0
theorem zj5 {f : Int → Option V} : ∀ n, cntI f n ≤ n
 | 0 => Nat.le_refl _
 | n + 1 => by have := zj5 (f := f) n; unfold cntI; split <;> omega
theorem zgg {f : Int → Option V} {k : Int} {v : Option V} : ∀ n : Nat, (n : Int) ≤ k → cntI (updI f k v) n = cntI f n
 | 0, _ => rfl
 | n + 1, h => by
  unfold cntI
  rw [zgg n (by omega)]
  have : updI f k v (n : Int) = f n := if_neg (by omega)
  rw [this]
theorem zgc {f : Int → Option V} {k : Nat} {v : V} (hk : f (k : Int) = none) : ∀ n : Nat, k < n → cntI (updI f k (some v)) n = cntI f n + 1
 | 0, h => by omega
 | n + 1, h => by
  unfold cntI
  by_cases e : n = k
  ·subst e
   rw [zgg n (Int.le_refl _), hk]
   have : updI f (n : Int) (some v) (n : Int) = some v := if_pos rfl
   rw [this]; rfl
  ·rw [zgc hk n (by omega)]
   have : updI f (k : Int) (some v) (n : Int) = f n := if_neg (by omega)
   rw [this]; omega
theorem getE {S : Store} {j : Nat} {o : Ob} (h : S[j]? = some o) {q : Ob} (h' : S[j]? = some q) : o = q := by rw [h] at h'; exact Option.some.inj h'
end Go.Vm
namespace Go.Vm
theorem z12 {S : Store} {B : Nat} : Keep (S.take B) S := fun j o h => by
 rw [List.getElem?_take] at h
 split at h
 ·exact h
 ·cases h
theorem Keep.take {S S' : Store} {B : Nat} (h : Keep S S') : Keep (S.take B) (S'.take B) := fun j o hj => by
 rw [List.getElem?_take] at hj ⊢
 split at hj
 ·rename_i hl
  rw [if_pos hl]
  exact h j o hj
 ·cases hj
theorem zao {S l : Store} {B : Nat} (h : B ≤ S.length) : (S ++ l).take B = S.take B := List.take_append_of_le_length h
theorem zlz {S : Store} {B i : Nat} {o : Ob} (h : B ≤ i) : (S.set i o).take B = S.take B := List.take_set_of_le h
theorem zdt {S : Store} {B j : Nat} {o : Ob} (h : S[j]? = some o) (hj : j < B) : (S.take B)[j]? = some o := by rw [List.getElem?_take, if_pos hj]; exact h
theorem z43 {S : Store} {B j : Nat} {o : Ob} (h : (S.take B)[j]? = some o) : j < B := by
 have := zN h
 rw [List.length_take] at this
 omega
end Go.Vm
end
section
namespace Go.Proofs.Ytobgdmgldagjkaa
open Go.Vm
structure Chg where
 id : Int
 no : Int
 at_ : Int
 data : List UInt8
 needs : List Int
structure CS where
 img : List (List UInt8)
 list : List Chg
 last : Nat
def bysV (b : List UInt8) : List V := b.map fun x => .d (byD x)
def zX (l : List Int) : List V := l.map fun n => .d (.int .i64 n)
def ChgV (S : Store) (v : V) (ch : Chg) : Prop := ∃ dv nv, v = .agg [.d (.int .i64 ch.id), .d (.int .i64 ch.no), .d (.int .i64 ch.at_), dv, nv] ∧ OwnS S dv 5 (bysV ch.data) ∧ OwnS S nv 3 (zX ch.needs)
def ChgsV (S : Store) (es : List V) (l : List Chg) : Prop := es.length = l.length ∧ ∀ (i : Nat) (e : V) (ch : Chg), es[i]? = some e → l[i]? = some ch → ChgV S e ch
def z5n (n last : Nat) (ch : Chg) : Prop := kW ch.at_ ch.data ∧ 0 ≤ ch.no ∧ ch.no < n ∧ 1 ≤ ch.id ∧ ch.id ≤ last ∧ ch.needs.Pairwise (· < ·) ∧ ∀ x ∈ ch.needs, 1 ≤ x ∧ x < ch.id
structure CS.Ok (C : CS) : Prop where
 n : C.img.length ≤ 512
 len : ∀ b ∈ C.img, b.length = 256
 chs : ∀ ch ∈ C.list, z5n C.img.length C.last ch
 ids : C.list.Pairwise (fun a b => a.id < b.id)
 last : C.last ≤ 100000
def cacV (d m : Nat) (L : V) (last : Int) : V := .agg [.ref d 0 0, .mr m, L, .d (.int .i64 last)]
structure CacheP (S : Store) (c d r m : Nat) (L : V) (es vs : List V) (f : Int → Option V) (z : Int) (w q : Nat) (C : CS) : Prop where
 hc : S[c]? = some (.row [cacV d m L C.last] 150)
 hm : MpI S m f
 dk : DskAt S d r vs z false false w q
 zb : 0 ≤ z ∧ InB z
 il : vs.length = C.img.length
 im : ∀ (i : Nat) (v : V) (b : List UInt8), vs[i]? = some v → C.img[i]? = some b → IsB v b
 kn : ∀ no v, f no = some v → ∃ (k : Nat) (b : List UInt8), no = k ∧ C.img[k]? = some b ∧ IsB v b
 lo : OwnS S L 122 es
 lc : ChgsV S es C.list
 wq : w + C.list.length ≤ C.last + 100
 ok : C.Ok
def CacheAt (S : Store) (c r m : Nat) (C : CS) : Prop := ∃ d L es vs f z w q, CacheP S c d r m L es vs f z w q C ∧ q ≤ cntI f C.img.length + 1
abbrev caT : List Nat := [89, 150, 122]
abbrev FrC (m r : Nat) : Store → Store → Prop := Frm caT [m] 42 r
section
variable {S S' l : Store} {c d r m : Nat} {L : V} {es vs : List V} {f : Int → Option V} {z : Int} {w q : Nat} {C : CS}
theorem ChgV.mono {v : V} {ch : Chg} (h : ChgV S v ch) (h5 : ∀ v xs, OwnS S v 5 xs → OwnS S' v 5 xs) (h3 : ∀ v xs, OwnS S v 3 xs → OwnS S' v 3 xs) : ChgV S' v ch := by
 obtain ⟨dv, nv, h1, h2, h4⟩ := h
 exact ⟨dv, nv, h1, h5 _ _ h2, h3 _ _ h4⟩
theorem ChgsV.mono {l : List Chg} (h : ChgsV S es l) (h5 : ∀ v xs, OwnS S v 5 xs → OwnS S' v 5 xs) (h3 : ∀ v xs, OwnS S v 3 xs → OwnS S' v 3 xs) : ChgsV S' es l := ⟨h.1, fun i e ch a b => (h.2 i e ch a b).mono h5 h3⟩
theorem CacheP.keep (h : CacheP S c d r m L es vs f z w q C) (hk : Keep S S') : CacheP S' c d r m L es vs f z w q C :=
 ⟨hk _ _ h.hc, hk.map h.hm, ⟨hk _ _ h.dk.hd, hk _ _ h.dk.hr, h.dk.ne⟩, h.zb, h.il, h.im, h.kn, hk.own h.lo, h.lc.mono (fun _ _ => hk.own) (fun _ _ => hk.own), h.wq, h.ok⟩
theorem CacheAt.keep (h : CacheAt S c r m C) (hk : Keep S S') : CacheAt S' c r m C := by
 obtain ⟨d, L, es, vs, f, z, w, q, h, hq⟩ := h
 exact ⟨d, L, es, vs, f, z, w, q, h.keep hk, hq⟩
theorem CacheP.cd (h : CacheP S c d r m L es vs f z w q C) : c ≠ d := fun e => by have := getE h.hc (e ▸ h.dk.hd); cases this
theorem CacheP.cr (h : CacheP S c d r m L es vs f z w q C) : c ≠ r := fun e => by have := getE h.hc (e ▸ h.dk.hr); cases this
theorem CacheP.md (h : CacheP S c d r m L es vs f z w q C) : m ≠ d := fun e => by obtain ⟨_, _, h1, _⟩ := h.hm; have := getE h1 (e ▸ h.dk.hd); cases this
theorem CacheP.mr (h : CacheP S c d r m L es vs f z w q C) : m ≠ r := fun e => by obtain ⟨_, _, h1, _⟩ := h.hm; have := getE h1 (e ▸ h.dk.hr); cases this
theorem CacheP.cm (h : CacheP S c d r m L es vs f z w q C) : c ≠ m := fun e => by obtain ⟨_, _, h1, _⟩ := h.hm; have := getE h.hc (e ▸ h1); cases this
theorem CacheP.imv (h : CacheP S c d r m L es vs f z w q C) {no : Nat} (hn : no < C.img.length) : ∃ (v : V) (b : List UInt8) (hv : no < vs.length), vs[no] = v ∧ C.img[no]? = some b ∧ IsB v b ∧ b.length = 256 := by
 have hv : no < vs.length := by rw [h.il]; exact hn
 have hb := List.getElem?_eq_getElem hn
 exact ⟨vs[no], C.img[no], hv, rfl, hb, h.im no _ _ (List.getElem?_eq_getElem hv) hb, h.ok.len _ (List.getElem_mem hn)⟩
theorem CacheP.k2 (h : CacheP S c d r m L es vs f z w q C) (hk : K2 d r S S') {q' : Nat} (hd : DskAt S' d r vs z false false w q') : CacheP S' c d r m L es vs f z w q' C := by
 have own : ∀ v e xs, e ≠ 89 → e ≠ 42 → OwnS S v e xs → OwnS S' v e xs := fun v e xs h1 h2 ho => by
  rcases ho with ho | ⟨id, a, b⟩
  ·exact .inl ho
  ·exact .inr ⟨id, a, hk _ _ (fun e => by have := getE b (e ▸ h.dk.hd); cases this; exact h1 rfl) (fun e => by have := getE b (e ▸ h.dk.hr); cases this; exact h2 rfl) b⟩
 have hm : MpI S' m f := by
  obtain ⟨l, k, h1, h2⟩ := h.hm
  exact ⟨l, k, hk _ _ h.md h.mr h1, h2⟩
 exact ⟨hk _ _ h.cd h.cr h.hc, hm, hd, h.zb, h.il, h.im, h.kn, own _ _ _ (by decide) (by decide) h.lo, h.lc.mono (fun _ _ => own _ _ _ (by decide) (by decide)) (fun _ _ => own _ _ _ (by decide) (by decide)), h.wq, h.ok⟩
theorem CacheP.frK2 (h : CacheP S c d r m L es vs f z w q C) (hk : K2 d r S S') (hl : S.length ≤ S'.length) : FrC m r S S' := ⟨hl, fun j o hj hc => hk j o (by
 rintro rfl
 have := getE hj h.dk.hd
 subst this
 cases hc) (by
 rintro rfl
 have := getE hj h.dk.hr
 subst this
 simp [calm] at hc) hj⟩
theorem CacheP.know (h : CacheP S c d r m L es vs f z w q C) {no : Nat} {v : V} {b : List UInt8} (hf : f (no : Int) = none) (hb : C.img[no]? = some b) (hv : IsB v b) {o : Ob} (hm : MpI (S.set m o) m (updI f no (some v))) {q' : Nat} (hd : DskAt (S.set m o) d r vs z false false w q') : CacheP (S.set m o) c d r m L es vs (updI f no (some v)) z w q' C := by
 obtain ⟨l, k, h1, h2⟩ := h.hm
 have own : ∀ (u : V) (e : TypeId) (xs : List V), OwnS S u e xs → OwnS (S.set m o) u e xs := fun u e xs ho => by
  rcases ho with ho | ⟨id, a, b⟩
  ·exact .inl ho
  ·refine .inr ⟨id, a, ?_⟩
   rw [List.getElem?_set_ne (by rintro rfl; have := getE h1 b; cases this)]
   exact b
 refine ⟨?_, hm, hd, h.zb, h.il, h.im, ?_, own _ _ _ h.lo, h.lc.mono (fun _ _ => own _ _ _) (fun _ _ => own _ _ _), h.wq, h.ok⟩
 ·rw [List.getElem?_set_ne (Ne.symm h.cm)]; exact h.hc
 ·intro x u hx
  unfold updI at hx
  split at hx
  ·rename_i hxe
   cases hx
   exact ⟨no, b, hxe, hb, hv⟩
  ·exact h.kn x u hx
end
section
variable {d m c x y n : Nat} {L : V} {last : Int}
theorem z73 : binV Try.prog .eql 48 (.ref d x y) (.d .nilp) = some (.d (.bool false)) := by kernel_rfl
theorem zep : zF Try.prog 150 0 (.ref d x y) = some (.ref d x (y + 0)) := by kernel_rfl
theorem z2o : zF Try.prog 150 1 (.ref d x y) = some (.ref d x (y + 1)) := by kernel_rfl
theorem z5o : zF Try.prog 150 2 (.ref d x y) = some (.ref d x (y + 2)) := by kernel_rfl
theorem vW : zF Try.prog 150 3 (.ref d x y) = some (.ref d x (y + 3)) := by kernel_rfl
theorem lc0 : qL Try.prog 26 0 (some (cacV d m L last)) = some (.ref d 0 0) := by kernel_rfl
theorem lc1 : qL Try.prog 148 1 (some (cacV d m L last)) = some (.mr m) := by kernel_rfl
theorem lc3 : qL Try.prog 3 3 (some (cacV d m L last)) = some (.d (.int .i64 last)) := by kernel_rfl
end
theorem zi8 : IK Try.prog 148 3 42 (blkV (zC 256)) := ⟨by kernel_rfl, fun _ _ => rfl, fun _ => by kernel_rfl, z42⟩
theorem znm {P : Program} {S : Store} {T : List V} {dst : Option Tmp} {ty : TypeId} {pos : String} {after : Array Edge} {g : Option (Nat × Bool)} {t : TypeId} {m k x : Operand} : opV P S T ⟨dst, .mapUpdate t m k x, ty, pos, after, g⟩ = (jO P S t (zB T m) (zB T k) (zB T x)).map fun S' => .skip S' 3 := rfl
theorem q0j (S : Store) (d r : Nat) (vs : List V) (z : Int) (w q : Nat) (no : Nat) (v : V) (b : List UInt8) (h : DskAt S d r vs z false false w q) (hn : no < vs.length) (hv : vs[no] = v) (hb : IsB v b) (hl : b.length = 256) (hq : q ≤ 1000) :
  ∃ S1, K2 d r S S1 ∧ S.length ≤ S1.length ∧ DskAt S1 d r vs z false false w ((q + 1 : Nat) : Int) ∧ ∀ {ops dst k T F Q}, WpR cfg ops dst k T S F Q (some (.enter 56 [.ref d 0 0, .d (.int .i64 (no : Int))])) = WpL cfg ops k (putT T dst (.tup [v, .d (.int .i64 0)])) S1 F Q := by
 have hrd := fun {ops dst k T F Q} => zQ (ops := ops) (dst := dst) (l := k) (T := T) (F := F) (Q := Q) rfl (zkb S d r vs z w q false no _ _ h hn hv hb hl (by omega))
 exact ⟨_, K2.refl.setd.app, by simp, by have := (h.setd (f' := z) (lit' := false) (off' := false) (w' := w) (q' := ((q + 1 : Nat) : Int))).app (l := [.row [.ref d 0 0] 26, .row [v] 42]); exact this, hrd⟩
def KnR (c r m : Nat) (no : Int) (C : CS) (S : Store) (o : Out) (S' : Store) : Prop := o = .ret (.d (.int .i64 0)) ∧ FrC m r S S' ∧ ∃ d L es vs f z w q, CacheP S' c d r m L es vs f z w q C ∧ q ≤ cntI f C.img.length + 1 ∧ (f no).isSome = true
def CacheIn (S : Store) (B c r m : Nat) (C : CS) : Prop := B ≤ S.length ∧ CacheAt (S.take B) c r m C
section
variable {S S' l : Store} {B c r m : Nat} {C : CS}
theorem CacheIn.at (h : CacheIn S B c r m C) : CacheAt S c r m C := h.2.keep z12
theorem CacheIn.of (h : CacheAt S c r m C) : CacheIn S S.length c r m C := ⟨Nat.le_refl _, by rw [List.take_length]; exact h⟩
theorem CacheIn.app (h : CacheIn S B c r m C) : CacheIn (S ++ l) B c r m C := ⟨by have := h.1; simp; omega, by rw [zao h.1]; exact h.2⟩
theorem CacheIn.setn (h : CacheIn S B c r m C) {i : Nat} {o : Ob} (hi : B ≤ i) : CacheIn (S.set i o) B c r m C := ⟨by rw [List.length_set]; exact h.1, by rw [zlz hi]; exact h.2⟩
theorem CacheIn.keep (h : CacheIn S B c r m C) (hk : Keep S S') : CacheIn S' B c r m C := ⟨Nat.le_trans h.1 hk.len, h.2.keep hk.take⟩
end
def KnI (B c r m : Nat) (no : Int) (C : CS) (S : Store) (o : Out) (S' : Store) : Prop := o = .ret (.d (.int .i64 0)) ∧ FrC m r S S' ∧ B ≤ S'.length ∧ ∃ d L es vs f z w q, CacheP (S'.take B) c d r m L es vs f z w q C ∧ q ≤ cntI f C.img.length + 1 ∧ (f no).isSome = true
theorem zfr (S : Store) (B c r m : Nat) (C : CS) (h0 : CacheIn S B c r m C) (no : Nat) (hn : no < C.img.length) : EvS cfg 103 [.ref c 0 0, .d (.int .i64 (no : Int))] S (KnI B c r m no C S) := by
 obtain ⟨hB, d, L, es, vs, f, z, w, q, hp, hq⟩ := h0
 have h := hp.keep (z12 (S := S))
 have hq6 : q ≤ 600 := by have h2 := zj5 (f := f) C.img.length; have h3 := h.ok.n; omega
 refine qN rfl zkf ?_
 show Wp cfg (Try.f103.body.getD .skip) ((.ref c 0 0) :: (.d (.int .i64 (no : Int))) :: uZ (uZ (uZ ((.tup []) :: (.tup []) :: (.tup []) :: (.tup []) :: (.tup []) :: (.tup []) :: (.tup []) :: [])))) S [] _
 unfold uZ
 conv => arg 2; whnf
 rw [zR]
 have hc : ∀ l, rowE (S ++ l) c 0 = some (cacV d m L C.last) := fun l => zK (e := 150) (by rw [List.getElem?_append_left (zN h.hc)]; exact h.hc)
 have hc0 := hc []
 rw [List.append_nil] at hc0
 have hlk := (h.hm.look zi8 no).1
 generalize ha : S.length = a
 cases hf : f (no : Int) with
 | some v =>
  rw [hf] at hlk
  obtain ⟨k, b, hk, hb, hv⟩ := h.kn _ _ hf
  have hbl := h.ok.len b (List.mem_of_getElem? hb)
  have hst := bt42.store hv hbl (w := blkV (zC 256)) isB_v z256
  simp only [Option.getD_some, Option.isSome_some] at hlk
  simp (maxSteps:=1000000) (disch:=first|assumption|omega|rfl) only [↓gp, gc, Nat.reduceAdd, z73, z2o, hc0, lc1, hlk, z42, zf42, ha, rA0 ha, pA0 ha, hst]
  exact ⟨rfl, _, rfl, rfl, Frm.refl.app, by simp; omega, d, L, es, vs, f, z, w, q, by rw [zao hB]; exact hp, hq, by rw [hf]; rfl⟩
 | none =>
  rw [hf] at hlk
  simp only [Option.getD_none, Option.isSome_none] at hlk
  obtain ⟨v, b, hvl, hvv, hb, hv, hbl⟩ := h.imv hn
  have l0 := z256
  have h1 := h.keep (S' := S ++ [.row [blkV (zC 256)] 42]) Keep.refl.app
  obtain ⟨S1, hK, hlen, hD, hrd⟩ := q0j _ d r vs z w q no v b h1.dk hvl hvv hv hbl (by omega)
  have h2 := (h1.k2 hK hD).keep (S' := S1 ++ [.row [v] 42]) Keep.refl.app
  have hrow : ∀ l, rowE (S1 ++ l) c 0 = some (cacV d m L C.last) := fun l => zK (e := 150) (by rw [List.getElem?_append_left (zN (hK _ _ h.cd h.cr h1.hc))]; exact hK _ _ h.cd h.cr h1.hc)
  have hst := bt42.store hv hbl (w := blkV (zC 256)) isB_v z256
  have hld := bt42.load hv hbl
  obtain ⟨o, ho, hm2, ⟨es', k', ho2⟩⟩ := h2.hm.put zi8 (no : Int) (v := v) hv.one
  have hBl : B ≤ S1.length := by simp at hlen; omega
  have hKp : K2 d r (S.take B) (S1.take B) := fun j p n1 n2 hj => zdt (hK j p n1 n2 (by rw [List.getElem?_append_left (zN (z12 _ _ hj))]; exact z12 _ _ hj)) (z43 hj)
  have hdB := z43 hp.dk.hd
  have hrB := z43 hp.dk.hr
  have hmB : m < B := by obtain ⟨_, _, e1, _⟩ := hp.hm; exact z43 e1
  have hDp : DskAt (S1.take B) d r vs z false false w ((q + 1 : Nat) : Int) := ⟨zdt hD.hd hdB, zdt hD.hr hrB, hD.ne⟩
  have h2p := hp.k2 hKp hDp
  have htk : ((S1 ++ [Ob.row [v] 42]).set m o).take B = (S1.take B).set m o := by rw [List.take_set, zao hBl]
  have hm2p : MpI ((S1.take B).set m o) m (updI f no (some v)) := hm2.keep (by
   rw [List.getElem?_set_self (by rw [List.length_take]; omega), List.getElem?_set_self (by simp; omega)])
  have hD2p : DskAt ((S1.take B).set m o) d r vs z false false w ((q + 1 : Nat) : Int) := ⟨by rw [List.getElem?_set_ne h.md]; exact hDp.hd, by rw [List.getElem?_set_ne h.mr]; exact hDp.hr, h.dk.ne⟩
  have h3 := h2p.know hf hb hv hm2p hD2p
  have hcu := zgc (v := v) hf _ hn
  have hF : FrC m r S (List.set (S1 ++ [Ob.row [v] 42]) m o) := ((Frm.refl.app (l := [.row [blkV (zC 256)] 42])).trans ((h1.frK2 hK hlen).app)).set (by
   intro p hp
   obtain ⟨_, _, e1, _⟩ := h.hm
   cases getE hp e1
   simp [calm])
  generalize ha1 : S1.length = a1
  simp (maxSteps:=1000000) (disch:=first|assumption|omega|rfl) only [↓gp, gc, Nat.reduceAdd, z73, z2o, zep, hc0, hc, lc0, lc1, hlk, z42, zf42, ha, rA0 ha, pA0 ha, zqk, z256, hrd, bo56, ha1, rA0 ha1, pA0 ha1, hst]
  refine kH (is := [0, 1, 2, 3, 4, 5, 6]) (h := 0) (by kernel_rfl) (by kernel_rfl) ?_
  simp (maxSteps:=1000000) (disch:=first|assumption|omega|rfl) only [List.replicate_zero, eq_self, gd, ga, Nat.reduceAdd, ↓gq, vso, rA0 ha1, hrow, z2o, lc1, kB, vK, hld, znm, ho, List.append_nil]
  refine ⟨fun _ => by kernel_rfl, ?_⟩
  refine ⟨by kernel_rfl, ?_⟩
  simp (maxSteps:=1000000) (disch:=first|assumption|omega|rfl) only [↓gp, gc, Nat.reduceAdd]
  exact ⟨rfl, _, rfl, rfl, hF, by simp; omega, d, L, es, vs, _, z, w, q + 1, by rw [htk]; exact h3, by rw [hcu]; omega, by unfold updI; rw [if_pos rfl]; rfl⟩
theorem z4q {f : FuncId} {args : List V} {S : Store} {R R' : Out → Store → Prop} (h : EvS cfg f args S R) (hm : ∀ o S', R o S' → R' o S') : EvS cfg f args S R' := by
 obtain ⟨n, o, S', h1, h2⟩ := h
 exact ⟨n, o, S', h1, hm _ _ h2⟩
theorem znl (S : Store) (c r m : Nat) (C : CS) (h0 : CacheAt S c r m C) (no : Nat) (hn : no < C.img.length) : EvS cfg 103 [.ref c 0 0, .d (.int .i64 (no : Int))] S (KnR c r m no C S) :=
 z4q (zfr S _ c r m C (CacheIn.of h0) no hn) fun o S' ⟨h1, h2, _, d, L, es, vs, f, z, w, q, h3, h4⟩ => ⟨h1, h2, d, L, es, vs, f, z, w, q, h3.keep z12, h4⟩
end Go.Proofs.Ytobgdmgldagjkaa
end
section
namespace Go.Vm
section
variable {C : Cfg} {S : Store} {ops : Array Oper} {T : List V} {F : Dfs} {Q : Post}
theorem zfw {f : FuncId} {args : List V} {ds : List D} {o : Out} (hs : C.shared f = false) (hf : allO (frz S zH) args = some ds) (hp : z0p o = true) (he : Ev C f ds o) : ∃ n, jM C (run C n) f args S = some (o, S, 1) := by
 obtain ⟨n, hn⟩ := he
 have hn' : answer C (run C n) f ds = some o := hn
 refine ⟨n, ?_⟩
 unfold jM
 simp only [hs, Bool.false_eq_true, if_false, hf, hn', hp, if_true]
 split <;> rfl
theorem zcd {dst : Option Tmp} {l : List Oper} {f : FuncId} {args : List V} {ds : List D} {v : V} (hs : C.shared f = false) (hf : allO (frz S zH) args = some ds) (hp : z0p (.ret v) = true) (he : Ev C f ds (.ret v)) :
  WpR C ops dst l T S F Q (some (.enter f args)) = WpL C ops l (putT T dst v) S F Q := by
 obtain ⟨n, hc⟩ := zfw hs hf hp he
 apply propext
 constructor
 ·rintro ⟨m, o, S2, c, h1, h2⟩
  have := wV h1 hc
  simp only [Prod.mk.injEq] at this
  obtain ⟨rfl, rfl, rfl⟩ := this
  exact h2
 ·exact fun h => ⟨n, _, _, _, hc, h⟩
theorem wH {P : Program} {t e : TypeId} {v : V} {xs : List V} {i : Nat} (hu : P.underlying t = some (.slice e)) (hz : (sz P e).isSome = true) (ho : OwnS S v e xs) (hi : i < xs.length) : ∃ id, zE P S t v (.d (.int .i64 (i : Int))) = some (.ref id i 0) ∧ rowE S id i = some xs[i] ∧ S[id]? = some (.row xs e) := by
 rcases ho with ⟨rfl, rfl⟩ | ⟨id, rfl, h1⟩
 ·exact absurd hi (by simp)
 ·refine ⟨id, ?_, ?_, h1⟩
  ·have h3 : rowT S id e = true := by simp only [rowT, h1, beq_self_eq_true]
   simp only [zE, intOf?, hu, h3, hz]
   rw [if_pos ⟨⟨by omega, by omega⟩, trivial, trivial⟩, Nat.zero_add, Int.toNat_natCast]
  ·unfold rowE
   rw [h1]
   exact List.getElem?_eq_getElem hi
theorem z1i {dst : Option Tmp} {ty : TypeId} {pos : String} {after : Array Edge} {l : List Oper} {t : Nat} {args : Array Operand} {ts : Array TypeId} : WpL C ops (⟨dst, .call { callee := .value (.tmp t), args := args, argTypes := ts }, ty, pos, after, none⟩ :: l) T S F Q = WpR C ops dst l T S F Q (cvV C.P (args.toList.map (zB T)) (zB T (.tmp t))) := by rw [vG rfl, zn6]
theorem z0q {P : Program} {a : Tmp} {t : TypeId} {x v : V} (h : T.getD a (.tup []) = x) (hl : kC P S t x = some v) : qC P #[.cell a t] T S = some v := by
 simp only [qC, jS, h, hl]
theorem zkw {P : Program} {a u : Tmp} {t : TypeId} {x v w : V} (h : T.getD a (.tup []) = x) (hl : kC P S t x = some v) (h2 : T.getD u (.tup []) = w) (o1 : v.one = true) (o2 : w.one = true) : qC P #[.cell a t, .tmp u] T S = some (.tup [v, w]) := by
 simp only [qC, allO, jS, h, hl, h2, List.all_cons, List.all_nil, o1, o2, Bool.and_self, if_true]
theorem z6g {P : Program} {a u : Tmp} {v w : V} (h : T.getD a (.tup []) = v) (h2 : T.getD u (.tup []) = w) (o1 : v.one = true) (o2 : w.one = true) : qC P #[.tmp a, .tmp u] T S = some (.tup [v, w]) := by
 simp only [qC, allO, jS, h, h2, List.all_cons, List.all_nil, o1, o2, Bool.and_self, if_true]
end
end Go.Vm
namespace Go.Vm
theorem zge {P : Program} {S : Store} {t e : TypeId} {v y : V} {xs : List V} {x : Nat} (hu : P.underlying t = some (.slice e)) (hz : zOk P e = true) (hs : (sz P e).isSome = true) (ho : OwnS S v e xs) (hx : S[x]? = some (.row [y] e)) (hf : zZ P e y = true) (hr : room P e (xs.length + 1) = true) :
  (v = .ts [] ∧ xs = [] ∧ qE P S t t v (.rs x 0 1) = some (.rs S.length 0 1, S ++ [.row [y] e], 2)) ∨ ∃ id, v = .rs id 0 xs.length ∧ S[id]? = some (.row xs e) ∧ qE P S t t v (.rs x 0 1) = some (.rs S.length 0 (xs.length + 1), S.set id .dead ++ [.row (xs ++ [y]) e], 3) := by
 have src : srcV P S e t (.rs x 0 1) = some [y] := by
  have el : kA S (.rs x 0 1) = some [y] := by simp [kA, hx]
  simp only [srcV, hu, el, List.all_cons, hf, List.all_nil, Bool.and_self, hs, if_true]
 rcases ho with ⟨rfl, rfl⟩ | ⟨id, rfl, h1⟩
 ·refine .inl ⟨rfl, rfl, ?_⟩
  have hr1 : room P e 1 = true := by simpa using hr
  simp only [qE, hu, src, hz, if_true, List.all_nil, List.length_nil, Nat.zero_add, hr1, Bool.and_self, List.map_nil, List.nil_append]
 ·refine .inr ⟨id, rfl, h1, ?_⟩
  simp only [qE, hu, src, hz, if_true, h1, List.length_nil, Nat.zero_add, hr, decide_true, Nat.le_refl, Bool.and_self, List.take_length]
end Go.Vm
namespace Go.Vm
section
variable {C : Cfg} {ops : Array Oper} {F : Dfs} {Q : Post} {K : List Nat → List (Nat × Nat) → List V → Store → Prop} {rd : List Nat} {cs : List (Nat × Nat)} {i : Nat} {dst : Option Tmp} {T : List V} {S S' : Store} {v : V}
end
end Go.Vm
namespace Go.Vm
section
variable {P : Program} {e : TypeId} {cs : List V} {i : Nat} {v : V}
end
end Go.Vm
end
section
namespace Go.Proofs.Ytobgdmgldagjkaa
open Go.Vm
theorem st3 {a b : Int} : qI Try.prog 3 0 (.d (.int .i64 a)) (.d (.int .i64 b)) = some (.d (.int .i64 a)) := by kernel_rfl
theorem ld3r {a : Int} : qL Try.prog 3 0 (some (.d (.int .i64 a))) = some (.d (.int .i64 a)) := by kernel_rfl
theorem z3 : zeroV Try.prog 3 = some (.d (.int .i64 0)) := by kernel_rfl
theorem z4 : zeroV Try.prog 4 = some (.d (.bool false)) := by kernel_rfl
def seeL (b : List UInt8) (l : List Chg) (no : Int) : List UInt8 := l.foldl (fun b ch => if ch.no = no then layB b ch.at_.toNat ch.data else b) b
theorem z18 {b : List UInt8} {l : List Chg} {ch : Chg} {no : Int} : seeL b (l ++ [ch]) no = if ch.no = no then layB (seeL b l no) ch.at_.toNat ch.data else seeL b l no := by
 unfold seeL
 rw [List.foldl_append]
 rfl
theorem z7h {b : List UInt8} {no : Int} (hb : b.length = 256) : ∀ {l : List Chg}, (∀ ch ∈ l, kW ch.at_ ch.data) → (seeL b l no).length = 256 := by
 intro l
 induction l generalizing b with
 | nil => intro _; exact hb
 | cons ch r ih =>
  intro h
  have h1 := h ch List.mem_cons_self
  have h2 : (if ch.no = no then layB b ch.at_.toNat ch.data else b).length = 256 := by
   split
   ·obtain ⟨_, _, p3, p4⟩ := h1
    rw [qU (by omega), hb]
   ·exact hb
  exact ih h2 fun x hx => h x (List.mem_cons_of_mem _ hx)
def CS.see (C : CS) (no : Nat) : List UInt8 := seeL (C.img.getD no []) C.list (no : Int)
theorem CS.Ok.see_len {C : CS} (h : C.Ok) {no : Nat} (hn : no < C.img.length) : (C.see no).length = 256 := by
 refine z7h ?_ fun ch hch => (h.chs ch hch).1
 rw [List.getD_eq_getElem?_getD, List.getElem?_eq_getElem hn]
 exact h.len _ (List.getElem_mem hn)
section
variable {a b c : Int} {dv nv : V}
theorem z122 : zeroV Try.prog 122 = some (.agg [.d (.int .i64 0), .d (.int .i64 0), .d (.int .i64 0), .ts [], .ts []]) := by kernel_rfl
theorem z23 : zZ Try.prog 122 (.agg [.d (.int .i64 0), .d (.int .i64 0), .d (.int .i64 0), .ts [], .ts []]) = true := by kernel_rfl
theorem z2n : qL Try.prog 122 0 (some (.agg [.d (.int .i64 a), .d (.int .i64 b), .d (.int .i64 c), dv, nv])) = some (.agg [.d (.int .i64 a), .d (.int .i64 b), .d (.int .i64 c), dv, nv]) := by kernel_rfl
theorem z48 : qI Try.prog 122 0 (.agg [.d (.int .i64 a), .d (.int .i64 b), .d (.int .i64 c), dv, nv]) (.agg [.d (.int .i64 0), .d (.int .i64 0), .d (.int .i64 0), .ts [], .ts []]) = some (.agg [.d (.int .i64 a), .d (.int .i64 b), .d (.int .i64 c), dv, nv]) := by kernel_rfl
theorem z19 : qL Try.prog 3 0 (some (.agg [.d (.int .i64 a), .d (.int .i64 b), .d (.int .i64 c), dv, nv])) = some (.d (.int .i64 a)) := by kernel_rfl
theorem z0f : qL Try.prog 3 1 (some (.agg [.d (.int .i64 a), .d (.int .i64 b), .d (.int .i64 c), dv, nv])) = some (.d (.int .i64 b)) := by kernel_rfl
theorem z1o : qL Try.prog 56 2 (some (.agg [.d (.int .i64 a), .d (.int .i64 b), .d (.int .i64 c), dv, nv])) = some (.agg [.d (.int .i64 c), dv]) := by kernel_rfl
theorem z1j {d x y : Nat} : zF Try.prog 122 0 (.ref d x y) = some (.ref d x (y + 0)) := by kernel_rfl
theorem z08 {d x y : Nat} : zF Try.prog 122 1 (.ref d x y) = some (.ref d x (y + 1)) := by kernel_rfl
theorem z0i {d x y : Nat} : zF Try.prog 122 2 (.ref d x y) = some (.ref d x (y + 2)) := by kernel_rfl
theorem u119 : Try.prog.underlying 119 = some (.slice 122) := by kernel_rfl
theorem s122 : (sz Try.prog 122).isSome = true := by kernel_rfl
end
theorem lc2 {d m : Nat} {L : V} {last : Int} : qL Try.prog 119 2 (some (cacV d m L last)) = some L := by kernel_rfl
theorem zd8 {ops : Array Oper} {dst : Option Tmp} {k : List Oper} {T : List V} {S : Store} {F : Dfs} {Q : Post} {u dv : V} {b d : List UInt8} {a : Int} (hu : IsB u b) (hb : b.length = 256) (hd : OwnS S dv 5 (bysV d)) (hp : kW a d) : WpR cfg ops dst k T S F Q (some (.enter 92 [u, .agg [.d (.int .i64 a), dv]])) = WpL cfg ops k (putT T dst (.d (blkD (layB b a.toNat d)))) S F Q := by
 obtain ⟨n, rfl⟩ : ∃ n : Nat, a = n := ⟨a.toNat, by have := hp.2.2.1; omega⟩
 have hd' : OwnS S dv 5 ((d.map byD).map .d) := by rw [List.map_map]; exact hd
 have hf := zaq (n := 9) hd'
 have h0 : Go.Vm.frz S 11 (.d (.int .i64 (n : Int))) = some (.int .i64 (n : Int)) := rfl
 have h1 : Go.Vm.frz S zH (.agg [.d (.int .i64 (n : Int)), dv]) = some (patD (n : Int) d) := by
  show (match allO (Go.Vm.frz S 11) [.d (.int .i64 (n : Int)), dv] with | some ds => if ds.any D.isAgg then none else some (D.agg ds) | none => none) = _
  simp only [allO, h0, hf]
  rfl
 refine zcd (ds := [blkD b, patD (n : Int) d]) rfl ?_ ?_ (ztd b hb n d hp)
 ·simp only [allO, hu.frz (n := 10), zH]
  have := h1
  rw [zH] at this
  simp only [this]
 ·show D.plain (blkD _) = true
  simp only [D.plain, blkD, List.all_eq_true, List.mem_map]
  rintro _ ⟨x, _, rfl⟩
  rfl
theorem zxb (c no a4 a7 : Nat) (S0 : Store) (b : List UInt8) (hb : b.length = 256) (L : V) (es : List V) (l : List Chg) (hL : OwnS S0 L 122 es) (hl : ChgsV S0 es l) (hok : ∀ ch ∈ l, kW ch.at_ ch.data) (hes : es.length ≤ 1000000) (R : Post) :
 ∀ (k i : Nat) (S : Store) (u : V) (g2 g3 g5 g6 g8 g9 gM gF gG gB gC gA gE gH gI gD gL gN gK gJ gO gP gQ gR gS gV gX gY gf gg gZ gh gj gk gn : V), l.length - i = k → i ≤ l.length → Keep S0 S → S0.length ≤ a7 → S[a7]? = some (.row [u] 42) → IsB u (seeL b (l.take i) no) →
 (∀ S' u' i' g2 g3 g5 g6 g8 g9 gM gF gG gB gC gA gE gH gI gD gL gN gK gJ gO gP gQ gR gS gV gX gY gf gg gZ gh gj gk gn, Keep S0 S' → S'[a7]? = some (.row [u'] 42) → IsB u' (seeL b l no) → R (.exit 0) ((.ref c 0 0) :: (.d (.int .i64 (no : Int))) :: g2 :: g3 :: (.ref a4 0 0) :: g5 :: g6 :: (.ref a7 0 0) :: g8 :: g9 :: gM :: gF :: gG :: gB :: gC :: gA :: gE :: gH :: gI :: gD :: gL :: gN :: gK :: gJ :: gO :: gP :: L :: (.d (.int .i64 (l.length : Int))) :: i' :: gQ :: gR :: gS :: gV :: gX :: gY :: gf :: gg :: gZ :: gh :: gj :: gk :: gn :: []) S' []) →
 Wp cfg (.loop (lpOf (Try.f66.body.getD .skip) 0)) ((.ref c 0 0) :: (.d (.int .i64 (no : Int))) :: g2 :: g3 :: (.ref a4 0 0) :: g5 :: g6 :: (.ref a7 0 0) :: g8 :: g9 :: gM :: gF :: gG :: gB :: gC :: gA :: gE :: gH :: gI :: gD :: gL :: gN :: gK :: gJ :: gO :: gP :: L :: (.d (.int .i64 (l.length : Int))) :: (.d (.int .i64 (i : Int))) :: gQ :: gR :: gS :: gV :: gX :: gY :: gf :: gg :: gZ :: gh :: gj :: gk :: gn :: []) S [] R := by
 intro k
 have hll := hl.1
 induction k with
 | zero =>
  intro i S u g2 g3 g5 g6 g8 g9 gM gF gG gB gC gA gE gH gI gD gL gN gK gJ gO gP gQ gR gS gV gX gY gf gg gZ gh gj gk gn hk hi hK ha7 hS hu hR
  have hie : i = l.length := by omega
  subst hie
  rw [List.take_length] at hu
  rw [zR]
  refine zJ ?_
  conv => arg 2; whnf
  simp (maxSteps:=1000000) (disch:=first|assumption|omega|rfl) only [↓gp, gc, Nat.reduceAdd]
  exact hR _ _ _ _ _ _ _ _ _ _ _ _ _ _ _ _ _ _ _ _ _ _ _ _ _ _ _ _ _ _ _ _ _ _ _ _ _ _ hK hS hu
 | succ k ih =>
  intro i S u g2 g3 g5 g6 g8 g9 gM gF gG gB gC gA gE gH gI gD gL gN gK gJ gO gP gQ gR gS gV gX gY gf gg gZ gh gj gk gn hk hi hK ha7 hS hu hR
  have hlt : i < l.length := by omega
  have hlt2 : i < es.length := by omega
  obtain ⟨id, hix, hre, _⟩ := wH u119 s122 (hK.own hL) hlt2
  obtain ⟨dv, nv, he, hd5, hn3⟩ := hl.2 i es[i] l[i] (List.getElem?_eq_getElem hlt2) (List.getElem?_eq_getElem hlt)
  rw [he] at hre
  have hpk := hok l[i] (List.getElem_mem hlt)
  have h3 : IntKind.i64.wrap ((i : Int) + 1) = ((i + 1 : Nat) : Int) := by rw [wrap64 (by omega)]; omega
  have hsl := z7h (no := (no : Int)) hb (l := l.take i) (fun ch hch => hok ch (List.mem_of_mem_take hch))
  have hsn : seeL b (l.take (i + 1)) no = if l[i].no = no then layB (seeL b (l.take i) no) l[i].at_.toNat l[i].data else seeL b (l.take i) no := by
   rw [List.take_add_one, List.getElem?_eq_getElem hlt]
   exact z18
  generalize ha : S.length = a
  have hal := zN hS
  have hr7 : ∀ o, rowE (S ++ [o]) a7 0 = some u := fun o => zK (e := 42) (by rw [List.getElem?_append_left hal]; exact hS)
  have hp7 : ∀ o y, jF (S ++ [o]) a7 0 y = some (S.set a7 (.row [y] 42) ++ [o]) := fun o y => by
   rw [qH (x := u) (e := 42) (by rw [List.getElem?_append_left hal]; exact hS), List.set_append_left _ _ hal]
  have hld := bt42.load hu hsl
  have hu1 := hu.one
  have hcl := fun {ops dst k T F Q} => zd8 (ops := ops) (dst := dst) (k := k) (T := T) (F := F) (Q := Q) (S := S ++ [.row [.agg [.d (.int .i64 l[i].id), .d (.int .i64 l[i].no), .d (.int .i64 l[i].at_), dv, nv]] 122]) hu hsl ((Keep.app hK).own hd5) hpk
  have hst := bt42.store (v := .d (blkD (layB (seeL b (l.take i) no) l[i].at_.toNat l[i].data))) jL (by obtain ⟨_, _, p3, p4⟩ := hpk; rw [qU (by omega), hsl]) hu hsl
  rw [zR]
  refine zJ ?_
  conv => arg 2; whnf
  by_cases hno : l[i].no = (no : Int)
  ·rw [if_pos hno] at hsn
   have hde : ∀ i' : Decidable (l[i].no = (no : Int)), @decide (l[i].no = (no : Int)) i' = true := fun i' => decide_eq_true hno
   simp (maxSteps:=1000000) (disch:=first|assumption|omega|rfl) only [↓gp, gc, Nat.reduceAdd, hix, hre, z2n, z122, z23, z48, ha, rA0 ha, pA0 ha, z08, z0i, z0f, z1o, hde, hr7, hp7, hld, hcl, hst, hu1, bo92, h3]
   refine ih (i + 1) _ (.d (blkD (layB (seeL b (l.take i) no) l[i].at_.toNat l[i].data))) _ _ _ _ _ _ _ _ _ _ _ _ _ _ _ _ _ _ _ _ _ _ _ _ _ _ _ _ _ _ _ _ _ _ _ (by omega) (by omega) (Keep.app (hK.set ha7)) ha7 ?_ (by rw [hsn]; exact jL) hR
   rw [List.getElem?_append_left (by rw [List.length_set]; exact hal), List.getElem?_set_self hal]
  ·rw [if_neg hno] at hsn
   have hde : ∀ i' : Decidable (l[i].no = (no : Int)), @decide (l[i].no = (no : Int)) i' = false := fun i' => decide_eq_false hno
   simp (maxSteps:=1000000) (disch:=first|assumption|omega|rfl) only [↓gp, gc, Nat.reduceAdd, hix, hre, z2n, z122, z23, z48, ha, rA0 ha, pA0 ha, z08, z0i, z0f, z1o, hde, h3]
   refine ih (i + 1) _ u _ _ _ _ _ _ _ _ _ _ _ _ _ _ _ _ _ _ _ _ _ _ _ _ _ _ _ _ _ _ _ _ _ _ _ (by omega) (by omega) (Keep.app hK) ha7 ?_ (by rw [hsn]; exact hu) hR
   rw [List.getElem?_append_left hal]
   exact hS
def SeeR (B c r m : Nat) (C : CS) (S : Store) (P : V → Prop) (o : Out) (S' : Store) : Prop := FrC m r S S' ∧ CacheIn S' B c r m C ∧ ∃ v, o = .ret v ∧ P v
theorem ztu (S : Store) (B c r m : Nat) (C : CS) (h0 : CacheIn S B c r m C) (no : Nat) (hn : no < C.img.length) : EvS cfg 66 [.ref c 0 0, .d (.int .i64 (no : Int))] S (SeeR B c r m C S fun v => ∃ u, v = .tup [u, .d (.int .i64 0)] ∧ IsB u (C.see no)) := by
 refine qN rfl zus ?_
 show Wp cfg (Try.f66.body.getD .skip) ((.ref c 0 0) :: (.d (.int .i64 (no : Int))) :: uZ (uZ (uZ (uZ [])))) S [] _
 unfold uZ
 conv => arg 2; whnf
 rw [zR]
 generalize ha : S.length = a
 have hA : ∀ o, S[a]? ≠ some o := fun o hh => by have := zN hh; omega
 obtain ⟨o, S1, ⟨rfl, hF, hB1, d, L, es, vs, f, z, w, q, hp, hq, hfs⟩, hkn⟩ := z09 rfl (zfr (S ++ [.row [blkV (zC 256)] 42]) B c r m C h0.app no hn)
 have hB := h0.1
 have h := hp.keep (z12 (S := S1))
 have hkn := fun {ops dst k T F Q} => hkn _ rfl (ops := ops) (dst := dst) (k := k) (T := T) (F := F) (Q := Q)
 obtain ⟨v, hv⟩ := Option.isSome_iff_exists.1 hfs
 obtain ⟨k0, b, hk0, hb, hvb⟩ := h.kn _ _ hv
 cases (by omega : no = k0)
 have hbl := h.ok.len b (List.mem_of_getElem? hb)
 have hlk := (h.hm.look zi8 no).2
 rw [hv] at hlk
 simp only [Option.getD_some] at hlk
 have hc0 : rowE S1 c 0 = some (cacV d m L C.last) := zK (e := 150) h.hc
 have hc1 : ∀ l, rowE (S1 ++ l) c 0 = some (cacV d m L C.last) := fun l => zK (e := 150) (by rw [List.getElem?_append_left (zN h.hc)]; exact h.hc)
 have hst := bt42.store hvb hbl (w := blkV (zC 256)) isB_v z256
 have l0 := z256
 have hlen : ∀ S, Keep S1 S → zI Try.prog S .len [119] [L] = some (.val (.d (.int .i64 (C.list.length : Int))) S 0) := fun S hk => by rw [wB u119 (hk.own h.lo), h.lc.1]
 have hln := hlen (S1 ++ [.row [v] 42]) Keep.refl.app
 have hr1 : r ≠ a := fun e => by
  obtain ⟨_, d', L', es', vs', f', z', w', q', h', _⟩ := h0
  have := z43 h'.dk.hr
  omega
 have h4 : S1[a]? = some (.row [blkV (zC 256)] 42) := hF.row (by subst ha; simp) (by simp [Ne.symm hr1])
 generalize ha1 : S1.length = a1
 simp (maxSteps:=1000000) (disch:=first|assumption|omega|rfl) only [↓gp, gc, Nat.reduceAdd, z42, zf42, ha, rA0 ha, hkn, zp5, z2o, z5o, hc0, hc1, lc1, lc2, hlk, ha1, rA0 ha1, pA0 ha1, hst, hln]
 have hal := zN h4
 refine zxb c no a a1 S1 b hbl L es C.list h.lo h.lc (fun ch hch => (h.ok.chs ch hch).1) (by have h1 := h.wq; have h2 := h.ok.last; have h3 := h.lc.1; omega) _ C.list.length 0 _ v _ _ _ _ _ _ _ _ _ _ _ _ _ _ _ _ _ _ _ _ _ _ _ _ _ _ _ _ _ _ _ _ _ _ _ rfl (Nat.zero_le _) Keep.refl.app (by omega) (by rw [← ha1]; simp) hvb ?_
 intro S2 u i' g2 g3 g5 g6 g8 g9 gM gF gG gB gC gA gE gH gI gD gL gN gK gJ gO gP gQ gR gS gV gX gY gf gg gZ gh gj gk gn hK hS2 hu
 have hca : CacheIn S2 B c r m C := CacheIn.keep ⟨hB1, d, L, es, vs, f, z, w, q, hp, hq⟩ hK
 have hr7 := zK (e := 42) hS2
 have h42 := hK _ _ h4
 have hp4 := fun y => qH (y := y) (x := blkV (zC 256)) (e := 42) h42
 have hr4 := zK (e := 42) h42
 have hsl := z7h (no := (no : Int)) hbl (fun ch hch => (h.ok.chs ch hch).1)
 have hld := bt42.load hu hsl
 have hst2 := bt42.store hu hsl (w := blkV (zC 256)) isB_v z256
 have hu1 := hu.one
 simp (maxSteps:=1000000) (disch:=first|assumption|omega|rfl) only [↓gp, gc, Nat.reduceAdd, hr7, hld, hr4, hst2, hp4]
 have hsee : C.see no = seeL b C.list no := by unfold CS.see; rw [List.getD_eq_getElem?_getD, hb]; rfl
 have hl1 : kC Try.prog (S2.set a (.row [u] 42)) 42 (.ref a 0 0) = some u := (zM (zK (e := 42) (List.getElem?_set_self (zN h42)))).trans hld
 refine ⟨rfl, .tup [u, .d (.int .i64 0)], ?_, ?_, hca.setn (by omega), _, rfl, u, rfl, by rw [hsee]; exact hu⟩
 ·exact zkw rfl hl1 rfl hu1 rfl
 ·refine Frm.setn ?_ (by omega)
  exact ((Frm.refl.app).trans hF).trans (Frm.keep hK)
abbrev getF (c : Nat) : V := .fn (.func 66) [.ref c 0 0] []
def z0k (B I M : Int) (g : Nat) : V := .agg [.d (.int .i64 B), .d (.int .i64 I), .d (.int .u64 M), .fn (.func 102) [] [.ref g 0 0]]
def ViewAt (S : Store) (v : V) (c : Nat) (B I M : Int) : Prop := ∃ g, v = z0k B I M g ∧ S[g]? = some (.row [getF c] 97)
theorem ViewAt.keep {S S' : Store} {v : V} {c : Nat} {B I M : Int} (h : ViewAt S v c B I M) (hk : Keep S S') : ViewAt S' v c B I M := by
 obtain ⟨g, h1, h2⟩ := h
 exact ⟨g, h1, hk _ _ h2⟩
theorem ViewAt.frm {S S' : Store} {v : V} {c : Nat} {B I M : Int} {ts ms : List Nat} {r : Nat} (h : ViewAt S v c B I M) (hk : Frm ts ms 42 r S S') (ht : (!ts.contains 97) = true) : ViewAt S' v c B I M := by
 obtain ⟨g, h1, h2⟩ := h
 exact ⟨g, h1, hk.row h2 (by rw [ht]; rfl)⟩
section
variable {c g x y d : Nat} {B I M : Int} {S : Store}
theorem ft97 : zZ Try.prog 97 (getF c) = true := by kernel_rfl
theorem lr97 : qL Try.prog 97 0 (some (getF c)) = some (getF c) := by kernel_rfl
theorem ne97 : binV Try.prog .eql 97 (getF c) (.d .nilf) = some (.d (.bool false)) := by kernel_rfl
theorem z52 : zeroV Try.prog 52 = some (.agg [.d (.int .i64 0), .d (.int .i64 0), .d (.int .u64 0), .d .nilf]) := by kernel_rfl
theorem zf52 : zZ Try.prog 52 (.agg [.d (.int .i64 0), .d (.int .i64 0), .d (.int .u64 0), .d .nilf]) = true := by kernel_rfl
theorem ft52 : zZ Try.prog 52 (z0k B I M g) = true := by kernel_rfl
theorem bd52 : wP Try.prog 52 [(0, .agg [.d (.int .i64 B), .d (.int .i64 I), .d (.int .u64 M)]), (1, .fn (.func 102) [] [.ref g 0 0])] = some (z0k B I M g) := by kernel_rfl
theorem sr52 : qI Try.prog 52 0 (z0k B I M g) (.agg [.d (.int .i64 0), .d (.int .i64 0), .d (.int .u64 0), .d .nilf]) = some (z0k B I M g) := by kernel_rfl
theorem lr52 : qL Try.prog 52 0 (some (z0k B I M g)) = some (z0k B I M g) := by kernel_rfl
theorem zjw : zF Try.prog 52 0 (.ref d x y) = some (.ref d x (y + 0)) := by kernel_rfl
theorem zq4 : zF Try.prog 52 1 (.ref d x y) = some (.ref d x (y + 3)) := by kernel_rfl
theorem zkh : qL Try.prog 50 3 (some (z0k B I M g)) = some (.fn (.func 102) [] [.ref g 0 0]) := by kernel_rfl
theorem zpo : qL Try.prog 3 0 (some (z0k B I M g)) = some (.d (.int .i64 B)) := by kernel_rfl
theorem zpi : qL Try.prog 24 0 (some (z0k B I M g)) = some (.agg [.d (.int .i64 B), .d (.int .i64 I), .d (.int .u64 M)]) := by kernel_rfl
theorem ne50 : binV Try.prog .neq 50 (.fn (.func 102) [] [.ref g 0 0]) (.d .nilf) = some (.d (.bool true)) := by kernel_rfl
theorem zqo : (z0k B I M g).one = true := rfl
theorem zzn : zZ Try.prog 24 (.agg [.d (.int .i64 B), .d (.int .i64 I), .d (.int .u64 M)]) = true := by kernel_rfl
theorem zzq : qL Try.prog 24 0 (some (.agg [.d (.int .i64 B), .d (.int .i64 I), .d (.int .u64 M)])) = some (.agg [.d (.int .i64 B), .d (.int .i64 I), .d (.int .u64 M)]) := by kernel_rfl
theorem z89 : zF Try.prog 103 0 (.ref d x y) = some (.ref d x (y + 0)) := by kernel_rfl
theorem z83 {mk : Nat} {e : Int} : qL Try.prog 48 0 (some (stoV c mk B I M e)) = some (.ref c 0 0) := by kernel_rfl
theorem mfOn : mfS (.func 102) S [] [.ref g 0 0] = some (.val (.fn (.func 102) [] [.ref g 0 0]) S 0) := z62 rfl
theorem zz0 : mfS (.func 66) S [.ref c 0 0] [] = some (.val (getF c) S 0) := z62 rfl
end
theorem zfx (S : Store) (x c mk : Nat) (B I M e : Int) (h : S[x]? = some (.row [stoV c mk B I M e] 103)) : EvS cfg 20 [.ref x 0 0] S (fun o S' => S' = S ∧ o = .ret (.ref c 0 0)) := by
 refine qN rfl zuw ?_
 show Wp cfg (Try.f20.body.getD .skip) ((.ref x 0 0) :: (.tup []) :: (.tup []) :: (.tup []) :: (.tup []) :: (.tup []) :: (.tup []) :: (.tup []) :: (.tup []) :: []) S [] _
 conv => arg 2; whnf
 rw [zR]
 have hr := zK (e := 103) h
 simp (maxSteps:=1000000) (disch:=first|assumption|omega|rfl) only [↓gp, gc, Nat.reduceAdd, zjp, z89, hr, z83]
 exact ⟨rfl, _, rfl, rfl, rfl⟩
theorem q29 (S : Store) (c : Nat) (B I M : Int) : EvS cfg 65 [.agg [.d (.int .i64 B), .d (.int .i64 I), .d (.int .u64 M)], getF c] S (fun o S' => Keep S S' ∧ ∃ v, o = .ret v ∧ ViewAt S' v c B I M) := by
 refine qN rfl zuc ?_
 show Wp cfg (Try.f65.body.getD .skip) ((.agg [.d (.int .i64 B), .d (.int .i64 I), .d (.int .u64 M)]) :: (getF c) :: (.tup []) :: (.tup []) :: (.tup []) :: (.tup []) :: (.tup []) :: (.tup []) :: []) S [] _
 conv => arg 2; whnf
 rw [zR]
 generalize ha : S.length = a
 simp (maxSteps:=1000000) (disch:=first|assumption|omega|rfl) only [↓gp, gc, Nat.reduceAdd, zzn, ft97, z52, zf52, List.append_assoc, List.length_append, List.length_cons, List.length_nil, ha, rA0 ha, rA1 ha, rA2 ha, pA2 ha, zzq, wE, mfOn, bd52, sr52]
 refine ⟨rfl, z0k B I M (a + 1), ?_, Keep.refl.app, _, rfl, a + 1, rfl, ?_⟩
 ·exact z0q rfl ((zM (rA2 ha)).trans lr52)
 ·rw [List.getElem?_append_right (by omega), ha, Nat.add_sub_cancel_left]; rfl
theorem ze0 (S : Store) (x c mk : Nat) (B I M e : Int) (h : S[x]? = some (.row [stoV c mk B I M e] 103)) : EvS cfg 21 [.ref x 0 0] S (fun o S' => Keep S S' ∧ ∃ v, o = .ret v ∧ ViewAt S' v c B I M) := by
 refine qN rfl zx6 ?_
 show Wp cfg (Try.f21.body.getD .skip) ((.ref x 0 0) :: (.tup []) :: (.tup []) :: (.tup []) :: (.tup []) :: (.tup []) :: (.tup []) :: (.tup []) :: (.tup []) :: []) S [] _
 conv => arg 2; whnf
 rw [zR]
 generalize ha : S.length = a
 have h1 : ∀ l, (S ++ l)[x]? = some (.row [stoV c mk B I M e] 103) := fun l => by rw [List.getElem?_append_left (zN h)]; exact h
 have hl := fun {ops dst k T F Q} l => zQ (ops := ops) (dst := dst) (l := k) (T := T) (F := F) (Q := Q) rfl (zww (S ++ l) x c mk B I M e (h1 l))
 have hc := fun {ops dst k T F Q} l => zQ (ops := ops) (dst := dst) (l := k) (T := T) (F := F) (Q := Q) rfl (zfx (S ++ l) x c mk B I M e (h1 l))
 obtain ⟨o, S2, ⟨hK, v, rfl, hv⟩, hon⟩ := z09 rfl (q29 (S ++ [.row [.agg [.d (.int .i64 0), .d (.int .i64 0), .d (.int .u64 0), .d .nilf]] 52, .row [.agg [.d (.int .i64 B), .d (.int .i64 I), .d (.int .u64 M)]] 24]) c B I M)
 have hon := fun {ops dst k T F Q} => hon _ rfl (ops := ops) (dst := dst) (k := k) (T := T) (F := F) (Q := Q)
 obtain ⟨g, rfl, hg⟩ := hv
 have h52 := hK a (.row [.agg [.d (.int .i64 0), .d (.int .i64 0), .d (.int .u64 0), .d .nilf]] 52) (by rw [List.getElem?_append_right (by omega), ha, Nat.sub_self]; rfl)
 have hr := zK (e := 52) h52
 have hp := fun y => qH (y := y) (e := 52) h52
 simp (maxSteps:=1000000) (disch:=first|assumption|omega|rfl) only [↓gp, gc, Nat.reduceAdd, z52, zf52, List.append_assoc, List.length_append, List.length_cons, List.length_nil, ha, hl, hc, bo17, bo20, wE, zz0, hon, bo65, hr, hp, sr52]
 have hKS : Keep S (S2.set a (.row [z0k B I M g] 52)) := (Keep.refl.app.trans hK).set (by omega)
 refine ⟨rfl, z0k B I M g, ?_, hKS, _, rfl, g, rfl, ?_⟩
 ·exact z0q rfl ((zM (zK (e := 52) (List.getElem?_set_self (zN h52)))).trans lr52)
 ·rw [List.getElem?_set_ne]
  ·exact hg
  ·rintro rfl
   cases getE h52 hg
theorem zl7 {T : List V} : zB T (.const .nilFunc) = .d .nilf := rfl
theorem zco {a r : Nat} (h : a ≠ r) : (!caT.contains 42 && ((42 : Nat) != 42 || a != r)) = true := by simp [h]
theorem q1p {c : Nat} {n : Int} : cvV Try.prog [.d (.int .i64 n)] (getF c) = some (.enter 66 [.ref c 0 0, .d (.int .i64 n)]) := zp6 rfl bo66
theorem cvOn {g : Nat} {n : Int} : cvV Try.prog [.d (.int .i64 n)] (.fn (.func 102) [] [.ref g 0 0]) = some (.enter 102 [.d (.int .i64 n), .ref g 0 0]) := zp6 rfl q1t
theorem SeeR.mono {B c r m : Nat} {C : CS} {S S1 : Store} {P P' : V → Prop} (hk : FrC m r S1 S) (h : ∀ v, P v → P' v) {o : Out} {S' : Store} (hs : SeeR B c r m C S P o S') : SeeR B c r m C S1 P' o S' := by
 obtain ⟨h1, h2, v, h3, h4⟩ := hs
 exact ⟨hk.trans h1, h2, v, h3, h v h4⟩
theorem CacheAt.rn {S : Store} {c r m : Nat} {C : CS} (h : CacheAt S c r m C) : r < S.length := by
 obtain ⟨d, L, es, vs, f, z, w, q, h, _⟩ := h
 exact zN h.dk.hr
theorem CacheAt.ok {S : Store} {c r m : Nat} {C : CS} (h : CacheAt S c r m C) : C.Ok := by
 obtain ⟨d, L, es, vs, f, z, w, q, h, _⟩ := h
 exact h.ok
theorem CacheIn.rn {S : Store} {B c r m : Nat} {C : CS} (h : CacheIn S B c r m C) : r < B := by
 obtain ⟨_, d, L, es, vs, f, z, w, q, h, _⟩ := h
 exact z43 h.dk.hr
theorem zwe (S : Store) (B c r m g : Nat) (C : CS) (h0 : CacheIn S B c r m C) (hg : S[g]? = some (.row [getF c] 97)) (no : Nat) (hn : no < C.img.length) : EvS cfg 102 [.d (.int .i64 (no : Int)), .ref g 0 0] S (SeeR B c r m C S fun v => IsB v (C.see no)) := by
 refine qN rfl zrw ?_
 show Wp cfg (Try.f102.body.getD .skip) ((.d (.int .i64 (no : Int))) :: (.ref g 0 0) :: uZ ((.tup []) :: (.tup []) :: (.tup []) :: (.tup []) :: (.tup []) :: (.tup []) :: (.tup []) :: [])) S [] _
 unfold uZ
 conv => arg 2; whnf
 rw [zR]
 generalize ha : S.length = a
 have hr := h0.rn
 have hB := h0.1
 obtain ⟨o, S1, ⟨hF, hC, _, rfl, u, rfl, hu⟩, hkn⟩ := z09 rfl (ztu (S ++ [.row [blkV (zC 256)] 42]) B c r m C h0.app no hn)
 have hkn := fun {ops dst k T F Q} => hkn _ rfl (ops := ops) (dst := dst) (k := k) (T := T) (F := F) (Q := Q)
 have hg1 := zK (e := 97) (id := g) (S := S ++ [.row [blkV (zC 256)] 42]) (by rw [List.getElem?_append_left (zN hg)]; exact hg)
 have hsl := hC.at.ok.see_len hn
 have hst := bt42.store hu hsl (w := blkV (zC 256)) isB_v z256
 have hld := bt42.load hu hsl
 have hu1 := hu.one
 have h4 : S1[a]? = some (.row [blkV (zC 256)] 42) := hF.row (by subst ha; simp) (zco (by omega))
 have h4' : ∀ l, (S1 ++ l)[a]? = some (.row [blkV (zC 256)] 42) := fun l => by rw [List.getElem?_append_left (zN h4)]; exact h4
 have hr4 := fun l => zK (e := 42) (h4' l)
 have hp4 := fun l y => qH (y := y) (e := 42) (h4' l)
 generalize ha1 : S1.length = a1
 have hal := zN h4
 simp (maxSteps:=1000000) (disch:=first|assumption|omega|rfl) only [↓gp, gc, Nat.reduceAdd, ↓z1i, z42, zf42, ha, rA0 ha, hg1, lr97, zl7, ne97, q1p, hkn, ha1, rA0 ha1, pA0 ha1, hst, hld, hu1, hr4, hp4]
 have hset : List.set (S1 ++ [Ob.row [u] 42]) a (.row [u] 42) = S1.set a (.row [u] 42) ++ [.row [u] 42] := List.set_append_left _ _ hal
 rw [hset]
 refine ⟨rfl, u, ?_, ?_, (hC.setn (by omega)).app, _, rfl, hu⟩
 ·refine z0q rfl ((zM (zK (e := 42) ?_)).trans hld)
  rw [List.getElem?_append_left (by rw [List.length_set]; exact hal), List.getElem?_set_self hal]
 ·exact (((Frm.refl.app).trans hF).setn (by omega)).app
theorem zn2 (S : Store) (v : V) (c : Nat) (B I M : Int) (hv : ViewAt S v c B I M) (no : Nat) (hn : (no : Int) < B) : EvS cfg 85 [v, .d (.int .i64 (no : Int))] S (fun o S' => S' = S ++ [.row [v] 52] ∧ o = .ret (.d (.bool true))) := by
 obtain ⟨g, rfl, hg⟩ := hv
 refine qN rfl zy0 ?_
 show Wp cfg (Try.f85.body.getD .skip) ((z0k B I M g) :: (.d (.int .i64 (no : Int))) :: uZ ((.tup []) :: (.tup []) :: (.tup []) :: (.tup []) :: (.tup []) :: (.tup []) :: (.tup []) :: [])) S [] _
 unfold uZ
 conv => arg 2; whnf
 rw [zR]
 generalize ha : S.length = a
 have c1 : (no : Int) ≥ 0 := by omega
 simp (maxSteps:=1000000) (disch:=first|assumption|omega|rfl) only [↓gp, gc, Nat.reduceAdd, ft52, ha, rA0 ha, zjw, zq4, zaj, zkh, zpo, zl7, ne50, zL]
 exact ⟨rfl, _, rfl, rfl, rfl⟩
theorem zg1 (S : Store) (v : V) (A c r m : Nat) (B I M : Int) (C : CS) (h0 : CacheIn S A c r m C) (hv : ViewAt S v c B I M) (hB : B = C.img.length) (no : Nat) (hn : no < C.img.length) : EvS cfg 47 [v, .d (.int .i64 (no : Int))] S (SeeR A c r m C S fun v => IsB v (C.see no)) := by
 have hv0 := hv
 obtain ⟨g, rfl, hg⟩ := hv
 refine qN rfl zue ?_
 show Wp cfg (Try.f47.body.getD .skip) ((z0k B I M g) :: (.d (.int .i64 (no : Int))) :: uZ ((.tup []) :: (.tup []) :: [])) S [] _
 unfold uZ
 conv => arg 2; whnf
 rw [zR]
 generalize ha : S.length = a
 have hr := h0.rn
 have hA := h0.1
 have ht := fun {ops dst k T F Q} => zQ (ops := ops) (dst := dst) (l := k) (T := T) (F := F) (Q := Q) rfl (zn2 (S ++ [.row [z0k B I M g] 52, .row [blkV (zC 256)] 42]) _ c B I M (hv0.keep Keep.refl.app) no (by omega))
 obtain ⟨o, S1, ⟨hF, hC, u, rfl, hu⟩, hkn⟩ := z09 rfl (zwe (S ++ [.row [z0k B I M g] 52, .row [blkV (zC 256)] 42, .row [z0k B I M g] 52]) A c r m g C h0.app (by rw [List.getElem?_append_left (zN hg)]; exact hg) no hn)
 have hkn := fun {ops dst k T F Q} => hkn _ rfl (ops := ops) (dst := dst) (k := k) (T := T) (F := F) (Q := Q)
 have hsl := hC.at.ok.see_len hn
 have hst := bt42.store hu hsl (w := blkV (zC 256)) isB_v z256
 have hld := bt42.load hu hsl
 have hu1 := hu.one
 have h4 : S1[a + 1]? = some (.row [blkV (zC 256)] 42) := hF.row (by rw [List.getElem?_append_right (by omega), ha, Nat.add_sub_cancel_left]; rfl) (zco (by omega))
 have hr4 := zK (e := 42) h4
 have hp4 := fun y => qH (y := y) (e := 42) h4
 have hal := zN h4
 simp (maxSteps:=1000000) (disch:=first|assumption|omega|rfl) only [↓gp, gc, Nat.reduceAdd, ↓z1i, List.append_assoc, List.length_append, List.length_cons, List.length_nil, ft52, z42, zf42, ha, rA0 ha, lr52, zqo, ht, bo85, kJ, Bool.not_true, zq4, zkh, cvOn, hkn, hst, hld, hu1, hr4, hp4]
 refine ⟨rfl, u, ?_, ?_, hC.setn (by omega), _, rfl, hu⟩
 ·exact z0q rfl ((zM (zK (e := 42) (List.getElem?_set_self hal))).trans hld)
 ·exact ((Frm.refl.app).trans hF).setn (by omega)
structure Ino where
 kind : Int
 links : Int
 size : Int
 parent : Int
 d0 : Int
 d1 : Int
 d2 : Int
 d3 : Int
 d4 : Int
 d5 : Int
 ind : Int
 deriving DecidableEq
def zS (i : Ino) : D := .agg [.int .i64 i.kind, .int .i64 i.links, .int .i64 i.size, .int .i64 i.parent, .int .i64 i.d0, .int .i64 i.d1, .int .i64 i.d2, .int .i64 i.d3, .int .i64 i.d4, .int .i64 i.d5, .int .i64 i.ind]
abbrev z61V : V := .agg [.d (.int .i64 0), .d (.int .i64 0), .d (.int .i64 0), .d (.int .i64 0), .d (.int .i64 0), .d (.int .i64 0), .d (.int .i64 0), .d (.int .i64 0), .d (.int .i64 0), .d (.int .i64 0), .d (.int .i64 0)]
theorem srI {i : Ino} : qI Try.prog 61 0 (.d (zS i)) z61V = some (.d (zS i)) := by kernel_rfl
theorem lrI {i : Ino} : qL Try.prog 61 0 (some (.d (zS i))) = some (.d (zS i)) := by kernel_rfl
theorem ftI {i : Ino} : zZ Try.prog 61 (.d (zS i)) = true := by kernel_rfl
theorem zoi (b : List UInt8) (hb : b.length = 256) (k0 : Nat) (hk0 : k0 < 8) (i : Ino) (bb : Bool) (h : Ev cfg 114 [blkD (wU b k0)] (.ret (.tup [.d (zS i), .d (.bool bb)]))) : Ev cfg 84 [blkD b, .int .i64 (k0 : Int)] (.ret (.tup [.d (zS i), .d (.bool bb)])) := by
 refine jW rfl rfl zyy ?_
 show Wp cfg (Try.f84.body.getD .skip) ((.d (blkD b)) :: (.d (.int .i64 (k0 : Int))) :: uZ ((.tup []) :: (.tup []) :: (.tup []) :: (.tup []) :: (.tup []) :: (.tup []) :: (.tup []) :: [])) [] [] _
 unfold uZ
 conv => arg 2; whnf
 have hf := fd42 hb
 have c1 : ¬ (k0 : Int) < 0 := by omega
 have c2 : ¬ (k0 : Int) ≥ 8 := by omega
 have h1 : ∀ {ops dst k T S F Q}, WpR cfg ops dst k T S F Q (some (.enter 115 [.d (blkD b), .d (.int .i64 (k0 : Int))])) = WpL cfg ops k (putT T dst (.d (blkD (wU b k0)))) S F Q := fun {ops dst k T S F Q} => qA (C := cfg) (ds := [blkD b, .int .i64 (k0 : Int)]) rfl (zun b hb k0 hk0)
 have h2 : ∀ {ops dst k T S F Q}, WpR cfg ops dst k T S F Q (some (.enter 114 [.d (blkD (wU b k0))])) = WpL cfg ops k (putT T dst (.tup [.d (zS i), .d (.bool bb)])) S F Q := fun {ops dst k T S F Q} => qA (C := cfg) (ds := [blkD (wU b k0)]) rfl h
 simp (maxSteps:=1000000) (disch:=first|assumption|omega|rfl) only [↓gp, gc, Nat.reduceAdd, hf, z61, zf61, z04, h1, q14, h2, q16, srI]
 exact z0s rfl rfl ((zM rfl).trans lrI) rfl rfl rfl rfl
abbrev layV (l : Lay) : V := .agg [.d (.int .i64 l.blocks), .d (.int .i64 l.inodes), .d (.int .u64 l.merge)]
section
variable {ops : Array Oper} {dst : Option Tmp} {k : List Oper} {T : List V} {S : Store} {F : Dfs} {Q : Post}
theorem zag {l : Lay} (hb : InB l.blocks) (hi : InB l.inodes) (hm : MayL l) {ino : Nat} (h1 : 1 ≤ ino) (h2 : (ino : Int) ≤ l.inodes) : WpR cfg ops dst k T S F Q (some (.enter 70 [layV l, .d (.int .i64 (ino : Int))])) = WpL cfg ops k (putT T dst (.tup [.d (.int .i64 ((2 + (ino - 1) / 8 : Nat) : Int)), .d (.int .i64 (((ino - 1) % 8 : Nat) : Int)), .d (.bool true)])) S F Q :=
 zcd (ds := [encLay l, .int .i64 (ino : Int)]) rfl rfl rfl (zmn l hb hi hm ino h1 h2)
theorem ziu {u : V} {b : List UInt8} (hu : IsB u b) (hb : b.length = 256) {k0 : Nat} (hk0 : k0 < 8) {i : Ino} {bb : Bool} (h : Ev cfg 114 [blkD (wU b k0)] (.ret (.tup [.d (zS i), .d (.bool bb)]))) : WpR cfg ops dst k T S F Q (some (.enter 84 [u, .d (.int .i64 (k0 : Int))])) = WpL cfg ops k (putT T dst (.tup [.d (zS i), .d (.bool bb)])) S F Q :=
 zcd (ds := [blkD b, .int .i64 (k0 : Int)]) rfl (by simp only [allO, hu.frz (n := 10), zH]; rfl) rfl (zoi b hb k0 hk0 i bb h)
end
theorem zkp (S : Store) (v : V) (B c r m : Nat) (l : Lay) (C : CS) (h0 : CacheIn S B c r m C) (hv : ViewAt S v c l.blocks l.inodes l.merge) (hB : l.blocks = C.img.length) (hb : InB l.blocks) (hi : InB l.inodes) (hm : MayL l) (ino : Nat) (h1 : 1 ≤ ino) (h2 : (ino : Int) ≤ l.inodes) (i : Ino) (bb : Bool) (hcl : Ev cfg 114 [blkD (wU (C.see (2 + (ino - 1) / 8)) ((ino - 1) % 8))] (.ret (.tup [.d (zS i), .d (.bool bb)]))) : EvS cfg 42 [v, .d (.int .i64 (ino : Int))] S (SeeR B c r m C S fun v => v = .d (zS i)) := by
 have hv0 := hv
 obtain ⟨g, rfl, hg⟩ := hv
 refine qN rfl zxa ?_
 show Wp cfg (Try.f42.body.getD .skip) ((z0k l.blocks l.inodes l.merge g) :: (.d (.int .i64 (ino : Int))) :: uZ (uZ ((.tup []) :: (.tup []) :: (.tup []) :: (.tup []) :: (.tup []) :: (.tup []) :: (.tup []) :: (.tup []) :: []))) S [] _
 unfold uZ
 conv => arg 2; whnf
 rw [zR]
 generalize ha : S.length = a
 have hr := h0.rn
 have hA := h0.1
 have hno : 2 + (ino - 1) / 8 < C.img.length := by
  have h3 := hm.2.2.2.2.2
  have h4 : l.inodes.tdiv 8 = l.inodes / 8 := Int.tdiv_eq_ediv_of_nonneg (by omega)
  have h5 := hm.2.2.2.2.1
  have h6 : l.inodes.tmod 8 = l.inodes % 8 := Int.tmod_eq_emod_of_nonneg (by omega)
  omega
 obtain ⟨o, S1, ⟨hF, hC, u, rfl, hu⟩, hkn⟩ := z09 rfl (zg1 (S ++ [.row [z0k l.blocks l.inodes l.merge g] 52, .row [z61V] 61]) _ B c r m _ _ _ C h0.app (hv0.keep Keep.refl.app) hB _ hno)
 have hkn := fun {ops dst k T F Q} => hkn _ rfl (ops := ops) (dst := dst) (k := k) (T := T) (F := F) (Q := Q)
 have hsl := hC.at.ok.see_len hno
 have hw := fun {ops dst k T S F Q} => zag (ops := ops) (dst := dst) (k := k) (T := T) (S := S) (F := F) (Q := Q) hb hi hm h1 h2
 have ht := fun {ops dst k T S F Q} => ziu (ops := ops) (dst := dst) (k := k) (T := T) (S := S) (F := F) (Q := Q) hu hsl (Nat.mod_lt _ (by decide)) hcl
 have hu1 := hu.one
 have h4 : S1[a + 1]? = some (.row [z61V] 61) := hF.row (by rw [List.getElem?_append_right (by omega), ha, Nat.add_sub_cancel_left]; rfl) rfl
 have h4' : ∀ l, (S1 ++ l)[a + 1]? = some (.row [z61V] 61) := fun l => by rw [List.getElem?_append_left (zN h4)]; exact h4
 have hr4 := fun l => zK (e := 61) (h4' l)
 have hp4 := fun l y => qH (y := y) (e := 61) (h4' l)
 have hal := zN h4
 generalize ha1 : S1.length = a1
 simp (maxSteps:=1000000) (disch:=first|assumption|omega|rfl) only [↓gp, gc, Nat.reduceAdd, List.append_assoc, List.length_append, List.length_cons, List.length_nil, ft52, z61, zf61, ha, rA0 ha, lr52, zqo, zjw, zpi, hw, bo70, kJ, Bool.not_true, hkn, bo47, hu1, ht, bo84, ha1, rA0 ha1, pA0 ha1, srI, lrI, hr4, hp4]
 have hset : List.set (S1 ++ [Ob.row [.d (zS i)] 61]) (a + 1) (.row [.d (zS i)] 61) = S1.set (a + 1) (.row [.d (zS i)] 61) ++ [.row [.d (zS i)] 61] := List.set_append_left _ _ hal
 rw [hset]
 refine ⟨rfl, .d (zS i), ?_, ?_, (hC.setn (by omega)).app, _, rfl, rfl⟩
 ·refine z0q rfl ((zM (zK (e := 61) ?_)).trans lrI)
  rw [List.getElem?_append_left (by rw [List.length_set]; exact hal), List.getElem?_set_self hal]
 ·exact (((Frm.refl.app).trans hF).setn (by omega)).app
def PatV (S : Store) (p dv : V) (a : Int) (b : List UInt8) : Prop := (p = .agg [.d (.int .i64 a), dv] ∧ (OwnS S dv 5 (bysV b) ∨ dv = .d (encB b) ∨ dv = .ts (b.map byD))) ∨ (p = .d (patD a b) ∧ dv = .d (encB b))
section
variable {S S' : Store} {p dv : V} {a : Int} {b : List UInt8}
theorem PatV.frm {ts ms : List Nat} {r : Nat} (h : PatV S p dv a b) (hk : Frm ts ms 42 r S S') (h5 : (!ts.contains 5) = true) : PatV S' p dv a b := by
 rcases h with ⟨h1, h2 | h2⟩ | h
 ·exact .inl ⟨h1, .inl (hk.own h2 (by rw [h5]; rfl))⟩
 ·exact .inl ⟨h1, .inr h2⟩
 ·exact .inr h
theorem PatV.one (h : PatV S p dv a b) : p.one = true := by
 rcases h with ⟨rfl, _⟩ | ⟨rfl, rfl⟩ <;> rfl
theorem PatV.ft (h : PatV S p dv a b) : zZ Try.prog 56 p = true := by
 rcases h with ⟨rfl, _⟩ | ⟨rfl, rfl⟩ <;> kernel_rfl
theorem PatV.l0 (h : PatV S p dv a b) : qL Try.prog 56 0 (some p) = some p := by
 rcases h with ⟨rfl, _⟩ | ⟨rfl, rfl⟩ <;> kernel_rfl
theorem PatV.l1 (h : PatV S p dv a b) : qL Try.prog 40 1 (some p) = some dv := by
 rcases h with ⟨rfl, _⟩ | ⟨rfl, rfl⟩ <;> kernel_rfl
theorem PatV.s1 (h : PatV S p dv a b) {id n : Nat} : qI Try.prog 40 1 (.rs id 0 n) p = some (.agg [.d (.int .i64 a), .rs id 0 n]) := by
 rcases h with ⟨rfl, _⟩ | ⟨rfl, rfl⟩ <;> kernel_rfl
theorem PatV.fz (h : PatV S p dv a b) : Go.Vm.frz S zH p = some (patD a b) := by
 rcases h with ⟨rfl, h2⟩ | ⟨rfl, rfl⟩
 ·have h0 : Go.Vm.frz S 11 (.d (.int .i64 a)) = some (.int .i64 a) := rfl
  have hf : Go.Vm.frz S 11 dv = some (encB b) := by
   rcases h2 with h2 | rfl | rfl
   ·have hd' : OwnS S dv 5 ((b.map byD).map .d) := by rw [List.map_map]; exact h2
    exact zaq (n := 9) hd'
   ·rfl
   ·rfl
  show (match allO (Go.Vm.frz S 11) [.d (.int .i64 a), dv] with | some ds => if ds.any D.isAgg then none else some (D.agg ds) | none => none) = _
  simp only [allO, h0, hf]
  rfl
 ·rfl
theorem zsm {dv : V} (hel : kA S dv = some (bysV b)) (hs : ∀ s, dv ≠ .d (.str s)) (h0 : b ≠ []) (hl : b.length ≤ 100000) : qE Try.prog S 40 40 (.ts []) dv = some (.rs S.length 0 b.length, S ++ [rowY b], 2) := by
 have hall : (bysV b).all (zZ Try.prog 5) = true := by
  rw [List.all_eq_true]
  intro y hy
  obtain ⟨z, hz, rfl⟩ := List.mem_map.1 hy
  exact zk3 _
 have h5 : (sz Try.prog 5).isSome = true := by kernel_rfl
 have src : srcV Try.prog S 5 40 dv = some (bysV b) := by
  cases dv with
  | d x => cases x with
   | str s => exact absurd rfl (hs s)
   | _ => simp only [srcV, Try.underlying40, hel, hall, h5, Bool.and_self, if_true]
  | _ => simp only [srcV, Try.underlying40, hel, hall, h5, Bool.and_self, if_true]
 cases b with
 | nil => exact absurd rfl h0
 | cons x r =>
  have hr : room Try.prog 5 (r.length + 1) = true := zgo (by simp at hl; omega)
  unfold bysV at src
  rw [List.map_cons] at src
  simp only [qE, Try.underlying40, src, zsb, if_true, List.all_nil, List.length_nil, List.length_map, Nat.zero_add, hr, Bool.and_self, List.map_nil, List.nil_append]
  rfl
theorem PatV.app (h : PatV S p dv a b) (h0 : b ≠ []) (hl : b.length ≤ 100000) : qE Try.prog S 40 40 (.ts []) dv = some (.rs S.length 0 b.length, S ++ [rowY b], 2) := by
 have he : kA S dv = some (bysV b) ∧ ∀ s, dv ≠ .d (.str s) := by
  rcases h with ⟨_, (⟨rfl, h2⟩ | ⟨id, rfl, h2⟩) | rfl | rfl⟩ | ⟨_, rfl⟩
  ·have : b = [] := by simpa [bysV] using h2
   exact absurd this h0
  ·refine ⟨?_, fun s hh => by cases hh⟩
   simp only [kA, h2, Nat.zero_add, Nat.le_refl, if_true, List.drop_zero, List.take_length]
  ·refine ⟨?_, fun s hh => by cases hh⟩
   show some ((b.map fun x => D.int .u8 x.toNat).map V.d) = _
   rw [List.map_map]
   rfl
  ·refine ⟨?_, fun s hh => by cases hh⟩
   show some ((b.map byD).map V.d) = _
   rw [List.map_map]
   rfl
  ·refine ⟨?_, fun s hh => by cases hh⟩
   show some ((b.map fun x => D.int .u8 x.toNat).map V.d) = _
   rw [List.map_map]
   rfl
 exact zsm he.1 he.2 h0 hl
end
theorem z0a {ops : Array Oper} {dst : Option Tmp} {k : List Oper} {T : List V} {S : Store} {F : Dfs} {Q : Post} {p dv : V} {a : Int} {b : List UInt8} (h : PatV S p dv a b) (ha : InB a) : WpR cfg ops dst k T S F Q (some (.enter 104 [p])) = WpL cfg ops k (putT T dst (.d (.int .i64 (if kW a b then 0 else 2)))) S F Q :=
 zcd (ds := [patD a b]) rfl (by simp only [allO, h.fz]) rfl (zga a b ha)
def CS.put (C : CS) (no a : Int) (b : List UInt8) (needs : List Int) : CS := ⟨C.img, C.list ++ [⟨C.last + 1, no, a, b, needs⟩], C.last + 1⟩
theorem CS.Ok.put {C : CS} (h : C.Ok) {no : Nat} {a : Int} {b : List UInt8} {needs : List Int} (hn : no < C.img.length) (hp : kW a b) (hl : C.last < 100000) (h1 : needs.Pairwise (· < ·)) (h2 : ∀ x ∈ needs, 1 ≤ x ∧ x ≤ C.last) : (C.put no a b needs).Ok := by
 refine ⟨h.n, h.len, ?_, ?_, hl⟩
 ·intro ch hch
  rcases List.mem_append.1 hch with hch | hch
  ·obtain ⟨g1, g2, g3, g4, g5, g6⟩ := h.chs ch hch
   refine ⟨g1, g2, g3, g4, ?_, g6⟩
   show ch.id ≤ ((C.last + 1 : Nat) : Int)
   omega
  ·simp only [List.mem_singleton] at hch
   subst hch
   refine ⟨hp, by show (0 : Int) ≤ (no : Int); omega, by show (no : Int) < (C.img.length : Int); omega, by show (1 : Int) ≤ (C.last : Int) + 1; omega, by show (C.last : Int) + 1 ≤ ((C.last + 1 : Nat) : Int); omega, h1, fun x hx => ?_⟩
   have := h2 x hx
   exact ⟨this.1, by show x < (C.last : Int) + 1; omega⟩
 ·show (C.list ++ [_]).Pairwise _
  rw [List.pairwise_append]
  refine ⟨h.ids, List.pairwise_singleton _ _, ?_⟩
  intro x hx y hy
  simp only [List.mem_singleton] at hy
  subst hy
  have := (h.chs x hx).2.2.2.2.1
  show x.id < (C.last : Int) + 1
  omega
def NdR (c r m : Nat) (C : CS) (needs : List Int) (S : Store) (o : Out) (S' : Store) : Prop := FrC m r S S' ∧ CacheAt S' c r m C ∧ ∃ nv, o = .ret (.tup [nv, .d (.bool true)]) ∧ OwnS S' nv 3 (zX needs)
theorem zpv {a : Int} {id n : Nat} : qL Try.prog 56 0 (some (.agg [.d (.int .i64 a), .rs id 0 n])) = some (.agg [.d (.int .i64 a), .rs id 0 n]) := by kernel_rfl
theorem zlq {m : Nat} (h : m ≤ 1000000) : room Try.prog 122 m = true := zbi rfl (by decide +kernel) h
theorem zps : zOk Try.prog 122 = true := by kernel_rfl
section
variable {d m x y n id : Nat} {L dv nv : V} {last last' a b c e : Int}
theorem sc3 : qI Try.prog 3 3 (.d (.int .i64 last')) (cacV d m L last) = some (cacV d m L last') := by kernel_rfl
theorem sc2 : qI Try.prog 119 2 (.rs id 0 n) (cacV d m L last) = some (cacV d m (.rs id 0 n) last) := by kernel_rfl
theorem zvq (hn : nv = .ts [] ∨ ∃ i k, nv = .rs i 0 k) : wP Try.prog 122 [(0, .d (.int .i64 a)), (1, .d (.int .i64 b)), (2, .agg [.d (.int .i64 c), .rs id 0 n]), (3, nv)] = some (.agg [.d (.int .i64 a), .d (.int .i64 b), .d (.int .i64 c), .rs id 0 n, nv]) := by
 rcases hn with rfl | ⟨i, k, rfl⟩ <;> kernel_rfl
theorem zwf {S : Store} (hn : nv = .ts [] ∨ ∃ i k, nv = .rs i 0 k) : bs1 Try.prog S 119 (.agg [.d (.int .i64 a), .d (.int .i64 b), .d (.int .i64 c), .rs id 0 n, nv]) = some (.val (.rs S.length 0 1) (S ++ [.row [.agg [.d (.int .i64 a), .d (.int .i64 b), .d (.int .i64 c), .rs id 0 n, nv]] 122]) 2) := by
 have hk : sz Try.prog 122 = some 5 := by kernel_rfl
 have hf : zZ Try.prog 122 (.agg [.d (.int .i64 a), .d (.int .i64 b), .d (.int .i64 c), .rs id 0 n, nv]) = true := by kernel_rfl
 simp only [bs1, u119, z122, hk, z23, hf]
 rcases hn with rfl | ⟨i, k, rfl⟩ <;> rfl
theorem f122 : zZ Try.prog 122 (.agg [.d (.int .i64 a), .d (.int .i64 b), .d (.int .i64 c), .rs id 0 n, nv]) = true := by kernel_rfl
end
theorem z1r {S : Store} {v : V} {e : TypeId} {xs : List V} (h : OwnS S v e xs) : v = .ts [] ∨ ∃ i k, v = .rs i 0 k := by
 rcases h with ⟨rfl, _⟩ | ⟨id, rfl, _⟩
 ·exact .inl rfl
 ·exact .inr ⟨_, _, rfl⟩
theorem CacheP.put {S S6 : Store} {c d r m al no : Nat} {L L' dv nv p : V} {es vs : List V} {f : Int → Option V} {z : Int} {w q : Nat} {C : CS} {a : Int} {b : List UInt8} {needs : List Int} (h : CacheP S c d r m L es vs f z w q C) (ha : S[al]? = some (.row [p] 56)) (hK : ∀ j o, S[j]? = some o → j ≠ c → j ≠ al → (∀ xs, o ≠ .row xs 122) → S6[j]? = some o) (hc : S6[c]? = some (.row [cacV d m L' ((C.last : Int) + 1)] 150)) (hL : OwnS S6 L' 122 (es ++ [.agg [.d (.int .i64 ((C.last : Int) + 1)), .d (.int .i64 (no : Int)), .d (.int .i64 a), dv, nv]])) (hdv : OwnS S6 dv 5 (bysV b)) (hnv : OwnS S6 nv 3 (zX needs)) (hok : (C.put no a b needs).Ok) :
  CacheP S6 c d r m L' (es ++ [.agg [.d (.int .i64 ((C.last : Int) + 1)), .d (.int .i64 (no : Int)), .d (.int .i64 a), dv, nv]]) vs f z w q (C.put no a b needs) := by
 obtain ⟨l, k, h1, h2⟩ := h.hm
 have kp : ∀ {j : Nat} {o : Ob}, S[j]? = some o → (∀ xs, o ≠ .row xs 150) → (∀ xs, o ≠ .row xs 56) → (∀ xs, o ≠ .row xs 122) → S6[j]? = some o := fun hj n1 n2 n3 => hK _ _ hj (by rintro rfl; exact n1 _ (getE hj h.hc)) (by rintro rfl; exact n2 _ (getE hj ha)) n3
 have own : ∀ {u : V} {t : TypeId} {ys : List V}, t ≠ 150 → t ≠ 56 → t ≠ 122 → OwnS S u t ys → OwnS S6 u t ys := fun n1 n2 n3 ho => by
  rcases ho with ho | ⟨id, x, y⟩
  ·exact .inl ho
  ·exact .inr ⟨id, x, kp y (fun _ hh => by cases hh; exact n1 rfl) (fun _ hh => by cases hh; exact n2 rfl) (fun _ hh => by cases hh; exact n3 rfl)⟩
 have hcast : ((C.last + 1 : Nat) : Int) = (C.last : Int) + 1 := by omega
 refine ⟨?_, ⟨l, k, kp h1 (fun _ hh => by cases hh) (fun _ hh => by cases hh) (fun _ hh => by cases hh), h2⟩, ⟨kp h.dk.hd (fun _ hh => by cases hh) (fun _ hh => by cases hh) (fun _ hh => by cases hh), kp h.dk.hr (fun _ hh => by cases hh) (fun _ hh => by cases hh) (fun _ hh => by cases hh), h.dk.ne⟩, h.zb, h.il, h.im, h.kn, hL, ⟨?_, ?_⟩, ?_, hok⟩
 ·show S6[c]? = some (.row [cacV d m L' ((C.last + 1 : Nat) : Int)] 150)
  rw [hcast]; exact hc
 ·show (es ++ [_]).length = (C.list ++ [_]).length
  rw [List.length_append, List.length_append, h.lc.1]; rfl
 ·intro i e ch he hch
  have hch : (C.list ++ [_])[i]? = some ch := hch
  rcases Nat.lt_or_ge i es.length with hi | hi
  ·rw [List.getElem?_append_left hi] at he
   rw [List.getElem?_append_left (by rw [← h.lc.1]; exact hi)] at hch
   exact (h.lc.2 i e ch he hch).mono (fun _ _ => own (by decide) (by decide) (by decide)) (fun _ _ => own (by decide) (by decide) (by decide))
  ·rw [List.getElem?_append_right hi] at he
   rw [List.getElem?_append_right (by rw [← h.lc.1]; exact hi), ← h.lc.1] at hch
   have hz : i - es.length = 0 := by
    have := (List.getElem?_eq_some_iff.1 he).1
    simp at this
    omega
   rw [hz] at he hch
   cases he
   cases hch
   exact ⟨dv, nv, rfl, hdv, hnv⟩
 ·show w + (C.list ++ [_]).length ≤ C.last + 1 + 100
  have := h.wq
  rw [List.length_append, List.length_singleton]
  omega
theorem zqq (S : Store) (c r m : Nat) (C : CS) (h0 : CacheAt S c r m C) (no : Nat) (hn : no < C.img.length) (p dv : V) (a : Int) (b : List UInt8) (hp : PatV S p dv a b) (hpk : kW a b) (ha : InB a) (nd : V) (needs : List Int) (hneed : ∀ S1, CacheAt S1 c r m C → Keep S S1 → EvS cfg 105 [.ref c 0 0, nd] S1 (NdR c r m C needs S1)) (hd1 : nd.one = true) (h1 : needs.Pairwise (· < ·)) (h2 : ∀ x ∈ needs, 1 ≤ x ∧ x ≤ C.last) (hl : C.last < 100000) :
  EvS cfg 68 [.ref c 0 0, .d (.int .i64 (no : Int)), p, nd] S (fun o S' => FrC m r S S' ∧ CacheAt S' c r m (C.put no a b needs) ∧ o = .ret (.tup [.d (.int .i64 ((C.last : Int) + 1)), .d (.int .i64 0)])) := by
 refine qN rfl zq2 ?_
 show Wp cfg (Try.f68.body.getD .skip) ((.ref c 0 0) :: (.d (.int .i64 (no : Int))) :: p :: nd :: uZ (uZ (uZ (uZ (uZ (uZ ((.tup []) :: (.tup []) :: (.tup []) :: []))))))) S [] _
 unfold uZ
 conv => arg 2; whnf
 rw [zR]
 generalize hal : S.length = al
 have hft := hp.ft
 have hl0 := hp.l0
 have hk0 : Keep S (S ++ [.row [p] 56]) := Keep.refl.app
 have hp0 : PatV (S ++ [.row [p] 56]) p dv a b := hp.frm (ts := []) (ms := []) (r := 0) (Frm.keep hk0) rfl
 have hck := fun {ops dst k T F Q} => z0a (ops := ops) (dst := dst) (k := k) (T := T) (F := F) (Q := Q) hp0 ha
 rw [if_pos hpk] at hck
 obtain ⟨o, S1, ⟨hF1, hC1, nv, rfl, hnv⟩, hnd⟩ := z09 rfl (hneed _ (h0.keep hk0) hk0)
 have hnd := fun {ops dst k T F Q} => hnd _ rfl (ops := ops) (dst := dst) (k := k) (T := T) (F := F) (Q := Q)
 obtain ⟨o, S2, ⟨rfl, hF2, d, L, es, vs, f, z, w, q, h, hq, hfs⟩, hkn⟩ := z09 rfl (znl S1 c r m C hC1 no hn)
 have hkn := fun {ops dst k T F Q} => hkn _ rfl (ops := ops) (dst := dst) (k := k) (T := T) (F := F) (Q := Q)
 have hF02 := hF1.trans hF2
 have hc2 := zK (e := 150) h.hc
 have hpc2 := fun y => qH (y := y) (e := 150) h.hc
 have ha2 : S2[al]? = some (.row [p] 56) := hF02.row (by subst hal; simp) rfl
 have hp2 : PatV S2 p dv a b := hp0.frm hF02 rfl
 have hnv2 := hF2.own hnv rfl
 have hw : IntKind.i64.wrap ((C.last : Int) + 1) = (C.last : Int) + 1 := wrap64 (by omega)
 have hb0 : b ≠ [] := by rintro rfl; have := hpk.1; simp at this
 have hbl : b.length ≤ 100000 := by have := hpk.2.1; omega
 have hnv1 := qF hnv
 have hca : al ≠ c := by rintro rfl; cases getE ha2 h.hc
 generalize hS3 : S2.set c (.row [cacV d m L ((C.last : Int) + 1)] 150) = S3
 have hF3 : FrC m r S2 S3 := hS3 ▸ Frm.refl.set (fun q hq => by cases getE h.hc hq; rfl)
 have hp3 := hp2.frm hF3 rfl
 have hap := hp3.app hb0 hbl
 have ha3 : S3[al]? = some (.row [p] 56) := hF3.row ha2 rfl
 have hc3 : S3[c]? = some (.row [cacV d m L ((C.last : Int) + 1)] 150) := by rw [← hS3]; exact List.getElem?_set_self (zN h.hc)
 have hp1 := hp.one
 have hl1 := hp.l1
 have hs1 := fun id n => hp.s1 (id := id) (n := n)
 have hra3 := zK (e := 56) ha3
 have hra4 := zK (e := 56) (id := al) (S := S3 ++ [rowY b]) (x := p) (by rw [List.getElem?_append_left (zN ha3)]; exact ha3)
 generalize hal3 : S3.length = al3
 have hpa4 : ∀ y, jF (S3 ++ [rowY b]) al 0 y = some (S3.set al (.row [y] 56) ++ [rowY b]) := fun y => by
  rw [qH (x := p) (e := 56) (by rw [List.getElem?_append_left (zN ha3)]; exact ha3), List.set_append_left _ _ (zN ha3)]
 simp (maxSteps:=1000000) (disch:=first|assumption|omega|rfl) only [↓gp, gc, Nat.reduceAdd, ↓vbs, hft, hal, rA0 hal, hl0, hp1, hck, z96, z73, hnd, zo2, hd1, hnv1, kJ, Bool.not_true, hkn, zp5, vW, hc2, lc3, hw, sc3, hpc2, hS3, zL, z7u, z1w, hra3, hl1, hap, hal3, hra4, hs1, hpa4]
 have h2K : ∀ j o, S2[j]? = some o → j ≠ c → j ≠ al → (S3.set al (.row [.agg [.d (.int .i64 a), .rs al3 0 b.length]] 56) ++ [rowY b])[j]? = some o := fun j o hj n1 n2 => by
  have hl : j < S3.length := by rw [← hS3, List.length_set]; exact zN hj
  rw [List.getElem?_append_left (by rw [List.length_set]; exact hl), List.getElem?_set_ne (Ne.symm n2), ← hS3, List.getElem?_set_ne (Ne.symm n1)]
  exact hj
 have h4c : (S3.set al (.row [.agg [.d (.int .i64 a), .rs al3 0 b.length]] 56) ++ [rowY b])[c]? = some (.row [cacV d m L ((C.last : Int) + 1)] 150) := by
  rw [List.getElem?_append_left (by rw [List.length_set]; exact zN hc3), List.getElem?_set_ne hca]
  exact hc3
 have h4a : (S3.set al (.row [.agg [.d (.int .i64 a), .rs al3 0 b.length]] 56) ++ [rowY b])[al]? = some (.row [.agg [.d (.int .i64 a), .rs al3 0 b.length]] 56) := by
  rw [List.getElem?_append_left (by rw [List.length_set]; exact zN ha3), List.getElem?_set_self (zN ha3)]
 have h4y : (S3.set al (.row [.agg [.d (.int .i64 a), .rs al3 0 b.length]] 56) ++ [rowY b])[al3]? = some (rowY b) := by
  rw [List.getElem?_append_right (by rw [List.length_set]; omega), List.length_set, hal3, Nat.sub_self]; rfl
 have hF4 : FrC m r S (S3.set al (.row [.agg [.d (.int .i64 a), .rs al3 0 b.length]] 56) ++ [rowY b]) := ((((Frm.refl.app).trans hF02).trans hF3).setn (by omega)).app
 have hca4 := Ne.symm hca
 generalize hS4 : S3.set al (.row [.agg [.d (.int .i64 a), .rs al3 0 b.length]] 56) ++ [rowY b] = S4 at *
 have r4c := zK (e := 150) h4c
 have r4a := zK (e := 56) h4a
 have hform := z1r hnv
 have hok := h.ok.put (no := no) hn hpk hl h1 h2
 have hes : es.length ≤ 200000 := by have := h.wq; have := h.ok.last; rw [h.lc.1]; omega
 generalize hchg : V.agg [.d (.int .i64 ((C.last : Int) + 1)), .d (.int .i64 (no : Int)), .d (.int .i64 a), .rs al3 0 b.length, nv] = chg at *
 have hbs : ∀ S : Store, bs1 Try.prog S 119 chg = some (.val (.rs S.length 0 1) (S ++ [.row [chg] 122]) 2) := fun S => by rw [← hchg]; exact zwf hform
 have hf : zZ Try.prog 122 chg = true := by rw [← hchg]; exact f122
 have hr5' : ∀ l, rowE (S4 ++ l) c 0 = some (cacV d m L ((C.last : Int) + 1)) := fun l => zK (e := 150) (by rw [List.getElem?_append_left (zN h4c)]; exact h4c)
 generalize ha4 : S4.length = a4
 have hlo4 : OwnS (S4 ++ [.row [chg] 122]) L 122 es := by
  rcases h.lo with ho | ⟨id, x, y⟩
  ·exact .inl ho
  ·refine .inr ⟨id, x, ?_⟩
   have := h2K id _ y (by rintro rfl; cases getE y h.hc) (by rintro rfl; cases getE y ha2)
   rw [List.getElem?_append_left (zN this)]; exact this
 have y4 : ∀ {id : Nat} {xs : List V} {e : TypeId}, S2[id]? = some (.row xs e) → e ≠ 150 → e ≠ 56 → S4[id]? = some (.row xs e) := fun y n1 n2 => h2K _ _ y (by rintro rfl; cases getE y h.hc; exact n1 rfl) (by rintro rfl; cases getE y ha2; exact n2 rfl)
 have fin : ∀ (S6 : Store) (L' : V), (∀ j o, S4[j]? = some o → j ≠ c → (∀ xs, o ≠ .row xs 122) → S6[j]? = some o) → S6[c]? = some (.row [cacV d m L' ((C.last : Int) + 1)] 150) → OwnS S6 L' 122 (es ++ [chg]) → S4.length ≤ S6.length → FrC m r S S6 ∧ CacheAt S6 c r m (C.put no a b needs) := by
  intro S6 L' k6 c6 o6 l6
  refine ⟨⟨by have := hF4.1; omega, fun j o hj hc => ?_⟩, d, L', _, vs, f, z, w, q, h.put ha2 (S6 := S6) ?_ c6 (dv := .rs al3 0 b.length) (nv := nv) (by rw [hchg]; exact o6) (.inr ⟨al3, by unfold bysV; rw [List.length_map], ?_⟩) ?_ hok, hq⟩
  ·refine k6 j o (hF4.2 j o hj hc) ?_ ?_
   ·rintro rfl
    obtain ⟨d', L', es', vs', f', z', w', q', h', _⟩ := h0
    cases getE h'.hc hj
    cases hc
   ·rintro xs rfl
    cases hc
  ·exact fun j o hj n1 n2 n3 => k6 j o (h2K j o hj n1 n2) n1 n3
  ·exact k6 _ _ h4y (by rintro rfl; have := getE h4c h4y; simp [rowY] at this) (fun xs hh => by simp [rowY] at hh)
  ·rcases hnv2 with ho | ⟨id, x, y⟩
   ·exact .inl ho
   ·exact .inr ⟨id, x, k6 _ _ (y4 y (by decide) (by decide)) (by rintro rfl; have := getE y h.hc; simp at this) (fun xs hh => by simp at hh)⟩
 rcases zge u119 zps s122 hlo4 (x := a4) (y := chg) (by rw [← ha4]; simp) hf (zlq (by omega)) with ⟨rfl, rfl, hap5⟩ | ⟨id, rfl, hid, hap5⟩
 ·have hr5 : rowE (S4 ++ [Ob.row [chg] 122, .row [chg] 122]) c 0 = some (cacV d m (.ts []) ((C.last : Int) + 1)) := zK (e := 150) (by rw [List.getElem?_append_left (zN h4c)]; exact h4c)
  have hp5 : ∀ y, jF (S4 ++ [Ob.row [chg] 122, .row [chg] 122]) c 0 y = some (S4.set c (.row [y] 150) ++ [Ob.row [chg] 122, .row [chg] 122]) := fun y => by
   rw [qH (e := 150) (by rw [List.getElem?_append_left (zN h4c)]; exact h4c), List.set_append_left _ _ (zN h4c)]
  have hr6 : ∀ y, rowE (S4.set c (.row [y] 150) ++ [Ob.row [chg] 122, .row [chg] 122]) c 0 = some y := fun y => rS0 (zN h4c)
  simp only [List.append_assoc, List.length_append, List.length_cons, List.length_nil, ha4] at hap5
  refine kL (is := [0, 1, 2, 3, 4, 5, 6, 7, 8, 9, 10, 11, 12, 13, 14, 15, 16, 17]) (h := 0) (by kernel_rfl) (by kernel_rfl) ?_
  simp (maxSteps:=1000000) (disch:=first|assumption|omega|rfl) only [List.replicate_zero, eq_self, gw, ga, Nat.reduceAdd, ↓gq, vso, List.append_nil, List.append_assoc, r4c, r4a, kB, vK, z5o, vW, lc2, lc3, zpv, zvq hform, hchg, hbs, ha4, hap5, hr5, hp5, sc2]
  refine ⟨zV (by kernel_rfl) (zV (by kernel_rfl) (qV rfl (by kernel_rfl) rfl (z3f ((zM (hr5' _)).trans lc2)) (by simp [z0t, kF, jY, wS, jI, wO]) qM)), zV (by kernel_rfl) (zV (by kernel_rfl) (zV (by kernel_rfl) qM)), zV (by kernel_rfl) (zV (by kernel_rfl) (zV (by kernel_rfl) qM)), by kernel_rfl, ?_⟩
  simp (maxSteps:=1000000) (disch:=first|assumption|omega|rfl) only [↓gp, gc, Nat.reduceAdd, vW, hr6, lc3]
  have hl4 := zN h4c
  obtain ⟨g1, g2⟩ := fin (S4.set c (.row [cacV d m (.rs (a4 + 1) 0 1) ((C.last : Int) + 1)] 150) ++ [.row [chg] 122, .row [chg] 122]) (.rs (a4 + 1) 0 1) (fun j o hj n1 n2 => by
   rw [List.getElem?_append_left (by rw [List.length_set]; exact zN hj), List.getElem?_set_ne (Ne.symm n1)]
   exact hj) (by rw [List.getElem?_append_left (by rw [List.length_set]; exact hl4), List.getElem?_set_self hl4]) (.inr ⟨a4 + 1, rfl, by
   rw [List.getElem?_append_right (by rw [List.length_set]; omega), List.length_set, ha4, Nat.add_sub_cancel_left]; rfl⟩) (by simp)
  exact ⟨rfl, _, z6g rfl rfl rfl rfl, g1, g2, rfl⟩
 ·have hid4 : S4[id]? = some (.row es 122) := by
   have := zN hid
   rcases h.lo with ⟨e, _⟩ | ⟨id', e, y⟩
   ·cases e
   ·cases e; exact y4 y (by decide) (by decide)
  have hcid : c ≠ id := by rintro rfl; have := getE h4c hid4; simp at this
  have hil := zN hid4
  have hl4 := zN h4c
  have hset : (S4 ++ [Ob.row [chg] 122]).set id .dead = S4.set id .dead ++ [Ob.row [chg] 122] := List.set_append_left _ _ hil
  simp only [hset, List.append_assoc, List.length_append, List.length_cons, List.length_nil, ha4] at hap5
  have h5c : (S4.set id .dead)[c]? = some (.row [cacV d m (.rs id 0 es.length) ((C.last : Int) + 1)] 150) := by rw [List.getElem?_set_ne (Ne.symm hcid)]; exact h4c
  have hl5 := zN h5c
  have hr5 : ∀ l, rowE (S4.set id .dead ++ l) c 0 = some (cacV d m (.rs id 0 es.length) ((C.last : Int) + 1)) := fun l => zK (e := 150) (by rw [List.getElem?_append_left hl5]; exact h5c)
  have hp5 : ∀ l y, jF (S4.set id .dead ++ l) c 0 y = some ((S4.set id .dead).set c (.row [y] 150) ++ l) := fun l y => by
   rw [qH (e := 150) (by rw [List.getElem?_append_left hl5]; exact h5c), List.set_append_left _ _ hl5]
  have hr6 : ∀ y l, rowE ((S4.set id .dead).set c (.row [y] 150) ++ l) c 0 = some y := fun y l => rS0 hl5
  refine kL (is := [0, 1, 2, 3, 4, 5, 6, 7, 8, 9, 10, 11, 12, 13, 14, 15, 16, 17]) (h := 0) (by kernel_rfl) (by kernel_rfl) ?_
  simp (maxSteps:=1000000) (disch:=first|assumption|omega|rfl) only [List.replicate_zero, eq_self, gw, ga, Nat.reduceAdd, ↓gq, vso, List.append_nil, List.append_assoc, r4c, r4a, kB, vK, z5o, vW, lc2, lc3, zpv, zvq hform, hchg, hbs, ha4, hap5, hr5, hp5, sc2]
  refine ⟨zV (by kernel_rfl) (zV (by kernel_rfl) (qV rfl (by kernel_rfl) rfl (z3f ((zM (hr5' _)).trans lc2)) (by simp [z0t, kF, jY, wS, jI, wO]) qM)), zV (by kernel_rfl) (zV (by kernel_rfl) (zV (by kernel_rfl) qM)), zV (by kernel_rfl) (zV (by kernel_rfl) (zV (by kernel_rfl) qM)), by kernel_rfl, ?_⟩
  simp (maxSteps:=1000000) (disch:=first|assumption|omega|rfl) only [↓gp, gc, Nat.reduceAdd, vW, hr6, lc3]
  obtain ⟨g1, g2⟩ := fin ((S4.set id .dead).set c (.row [cacV d m (.rs (a4 + 1) 0 (es.length + 1)) ((C.last : Int) + 1)] 150) ++ ([.row [chg] 122] ++ [.row (es ++ [chg]) 122])) (.rs (a4 + 1) 0 (es.length + 1)) (fun j o hj n1 n2 => by
   rw [List.getElem?_append_left (by rw [List.length_set, List.length_set]; exact zN hj), List.getElem?_set_ne (Ne.symm n1), List.getElem?_set_ne (by rintro rfl; exact n2 _ (getE hj hid4))]
   exact hj) (by rw [List.getElem?_append_left (by rw [List.length_set]; exact hl5), List.getElem?_set_self hl5]) (.inr ⟨a4 + 1, by rw [List.length_append]; rfl, by
   rw [List.getElem?_append_right (by rw [List.length_set, List.length_set]; omega), List.length_set, List.length_set, ha4, Nat.add_sub_cancel_left]; rfl⟩) (by simp)
  exact ⟨rfl, _, z6g rfl rfl rfl rfl, g1, g2, rfl⟩
def noZ (l : List Int) : List Int := l.filter (fun n => decide (n ≠ 0))
def IntsV (S : Store) (v : V) (l : List Int) : Prop := v = .d (encI l) ∨ v = .ts (l.map (.int .i64)) ∨ OwnS S v 3 (zX l)
section
variable {S S' : Store} {v : V} {l : List Int}
theorem IntsV.keep (h : IntsV S v l) (hk : Keep S S') : IntsV S' v l := by
 rcases h with h | h | h
 ·exact .inl h
 ·exact .inr (.inl h)
 ·exact .inr (.inr (hk.own h))
theorem IntsV.one (h : IntsV S v l) : v.one = true := by
 rcases h with rfl | rfl | h
 ·rfl
 ·rfl
 ·exact qF h
theorem IntsV.len (h : IntsV S v l) : zI Try.prog S .len [46] [v] = some (.val (.d (.int .i64 (l.length : Int))) S 0) := by
 rcases h with rfl | rfl | h
 ·rw [encI, zwu, List.length_map]
 ·rw [zpn Try.underlying46, List.length_map]
 ·rw [wB Try.underlying46 h]; unfold zX; rw [List.length_map]
theorem IntsV.ix (h : IntsV S v l) {i : Nat} (hi : i < l.length) : ∃ q, zE Try.prog S 46 v (.d (.int .i64 (i : Int))) = some q ∧ kC Try.prog S 3 q = some (.d (.int .i64 l[i])) := by
 rcases h with rfl | rfl | h
 ·exact ⟨_, ix46 hi, by kernel_rfl⟩
 ·refine ⟨.d (.ptr (.int .i64 l[i])), ?_, by kernel_rfl⟩
  have hl : i < (l.map (D.int .i64)).length := by simpa using hi
  have hf := zr9 l[i]
  simp only [zE, intOf?, Try.underlying46, Int.toNat_natCast, List.getElem?_map, List.getElem?_eq_getElem hi, Option.map_some, hf, if_true]
  rw [if_pos ⟨by omega, by omega⟩]
 ·obtain ⟨id, h1, h2, _⟩ := wH Try.underlying46 (by kernel_rfl) h (i := i) (by unfold zX; simpa using hi)
  refine ⟨_, h1, (zM h2).trans ?_⟩
  simp only [zX, List.getElem_map]
  kernel_rfl
end
theorem zy4 (l : List Int) (hl : l.length ≤ 100000) (S0 : Store) (nd : V) (hnd : IntsV S0 nd l) (R : Post) : ∀ (k i : Nat) (S : Store) (v3 g0 g1 g2 g4 g5 g9 gM gF gG gB gC gA gE gH gI gD : V), l.length - i = k → i ≤ l.length → Keep S0 S → (∀ j, j < S0.length → NotAt v3 j) → OwnS S v3 3 (zX (noZ (l.take i))) →
 (∀ S v3 i' g0 g1 g2 g4 g5 g9 gM gF gG gB gC gA gE gH gI gD, Keep S0 S → OwnS S v3 3 (zX (noZ l)) → R (.exit 0) (g0 :: g1 :: g2 :: v3 :: g4 :: g5 :: nd :: (.d (.int .i64 (l.length : Int))) :: i' :: g9 :: gM :: gF :: gG :: gB :: gC :: gA :: gE :: gH :: gI :: gD :: []) S []) →
 Wp cfg (.loop (lpOf (Try.f63.body.getD .skip) 0)) (g0 :: g1 :: g2 :: v3 :: g4 :: g5 :: nd :: (.d (.int .i64 (l.length : Int))) :: (.d (.int .i64 (i : Int))) :: g9 :: gM :: gF :: gG :: gB :: gC :: gA :: gE :: gH :: gI :: gD :: []) S [] R := by
 intro k
 induction k with
 | zero =>
  intro i S v3 g0 g1 g2 g4 g5 g9 gM gF gG gB gC gA gE gH gI gD hk hi hK hN ho hR
  have hie : i = l.length := by omega
  subst hie
  rw [List.take_length] at ho
  rw [zR]
  refine zJ ?_
  conv => arg 2; whnf
  simp (maxSteps:=1000000) (disch:=first|assumption|omega|rfl) only [↓gp, gc, Nat.reduceAdd]
  exact hR _ _ _ _ _ _ _ _ _ _ _ _ _ _ _ _ _ _ _ hK ho
 | succ k ih =>
  intro i S v3 g0 g1 g2 g4 g5 g9 gM gF gG gB gC gA gE gH gI gD hk hi hK hN ho hR
  have hlt : i < l.length := by omega
  have h3 : IntKind.i64.wrap ((i : Int) + 1) = ((i + 1 : Nat) : Int) := by rw [wrap64 (by omega)]; omega
  obtain ⟨q, hix, hld⟩ := (hnd.keep hK).ix hlt
  have htk : noZ (l.take (i + 1)) = noZ (l.take i) ++ (if l[i] ≠ 0 then [l[i]] else []) := by
   rw [List.take_add_one, List.getElem?_eq_getElem hlt]
   unfold noZ
   rw [List.filter_append]
   by_cases h : l[i] = 0
   ·simp [h]
   ·simp [h]
  have hfl : (noZ (l.take i)).length ≤ l.length := Nat.le_trans (List.length_filter_le ..) (by rw [List.length_take]; omega)
  rw [zR]
  refine zJ ?_
  conv => arg 2; whnf
  by_cases h : l[i] = 0
  ·have hde : ∀ i' : Decidable (l[i] ≠ 0), @decide (l[i] ≠ 0) i' = false := fun i' => decide_eq_false (fun hh => hh h)
   simp (maxSteps:=1000000) (disch:=first|assumption|omega|rfl) only [↓gp, gc, Nat.reduceAdd, hix, hld, hde, h3]
   rw [if_neg (fun hh => hh h), List.append_nil] at htk
   exact ih (i + 1) S v3 _ _ _ _ _ _ _ _ _ _ _ _ _ _ _ _ (by omega) (by omega) hK hN (by rw [htk]; exact ho) hR
  ·have hde : ∀ i' : Decidable (l[i] ≠ 0), @decide (l[i] ≠ 0) i' = true := fun i' => decide_eq_true h
   obtain ⟨v', S', c, ha, ho', hfr, hlen⟩ := ap46 l[i] ho (by omega)
   simp (maxSteps:=1000000) (disch:=first|assumption|omega|rfl) only [↓gp, gc, Nat.reduceAdd, hix, hld, hde, h3, ha]
   rw [if_pos h] at htk
   exact ih (i + 1) S' v' _ _ _ _ _ _ _ _ _ _ _ _ _ _ _ _ (by omega) (by omega) (fun j o hj => (hfr j o (hK j o hj) (hN j (zN hj))).1) (fun j hj => (hfr j _ (List.getElem?_eq_getElem (Nat.lt_of_lt_of_le hj hK.len)) (hN j hj)).2) (by rw [htk]; exact ho') hR
theorem ze2 (S : Store) (nd : V) (l : List Int) (hnd : IntsV S nd l) (hl : l.length ≤ 100000) : EvS cfg 63 [nd] S (fun o S' => Keep S S' ∧ ∃ v, o = .ret v ∧ OwnS S' v 3 (zX (noZ l))) := by
 refine qN rfl zwl ?_
 show Wp cfg (Try.f63.body.getD .skip) (nd :: uZ ((.tup []) :: (.tup []) :: (.tup []) :: (.tup []) :: (.tup []) :: (.tup []) :: (.tup []) :: (.tup []) :: (.tup []) :: [])) S [] _
 unfold uZ
 conv => arg 2; whnf
 rw [zR]
 have hln := hnd.len
 simp (maxSteps:=1000000) (disch:=first|assumption|omega|rfl) only [↓gp, gc, Nat.reduceAdd, hln]
 refine zy4 l hl S nd hnd _ l.length 0 S (.ts []) _ _ _ _ _ _ _ _ _ _ _ _ _ _ _ _ rfl (Nat.zero_le _) Keep.refl (fun j _ => NotAt.ts) (.inl ⟨rfl, by rw [List.take_zero]; rfl⟩) ?_
 intro S2 v3 i' g0 g1 g2 g4 g5 g9 gM gF gG gB gC gA gE gH gI gD hK ho
 simp (maxSteps:=1000000) (disch:=first|assumption|omega|rfl) only [↓gp, gc, Nat.reduceAdd]
 exact ⟨rfl, _, rfl, hK, _, rfl, ho⟩
theorem qR {f : FuncId} {args : List V} {S : Store} {R : Out → Store → Prop} (he : EvS cfg f args S R) : ∃ o S2, R o S2 ∧ EvS cfg f args S (fun o' S' => S' = S2 ∧ o' = o) := by
 obtain ⟨n, o, S', hn, hR⟩ := he
 exact ⟨o, S', hR, n, o, S', hn, rfl, rfl⟩
theorem CacheP.set1 {S : Store} {c d r m a : Nat} {L : V} {es vs : List V} {f : Int → Option V} {z : Int} {w q : Nat} {C : CS} (h : CacheP S c d r m L es vs f z w q C) {xs : List V} {e : TypeId} (ha : S[a]? = some (.row xs e)) (he : (e != 89 && e != 150 && e != 122 && e != 5 && e != 3) = true) (hr : a ≠ r) {o : Ob} : CacheP (S.set a o) c d r m L es vs f z w q C := by
 simp only [Bool.and_eq_true, bne_iff_ne, ne_eq] at he
 obtain ⟨⟨⟨⟨e1, e2⟩, e3⟩, e4⟩, e5⟩ := he
 have at_ : ∀ {j : Nat} {p : Ob}, S[j]? = some p → j ≠ a → (S.set a o)[j]? = some p := fun hj hn => by rw [List.getElem?_set_ne (Ne.symm hn)]; exact hj
 have own : ∀ {u : V} {t : TypeId} {ys : List V}, t ≠ e → OwnS S u t ys → OwnS (S.set a o) u t ys := fun hn ho => by
  rcases ho with ho | ⟨id, p, q⟩
  ·exact .inl ho
  ·exact .inr ⟨id, p, at_ q (fun hh => by subst hh; cases getE ha q; exact hn rfl)⟩
 obtain ⟨l, k, h1, h2⟩ := h.hm
 exact ⟨at_ h.hc (fun hh => by subst hh; cases getE ha h.hc; exact e2 rfl), ⟨l, k, at_ h1 (fun hh => by subst hh; cases getE ha h1), h2⟩, ⟨at_ h.dk.hd (fun hh => by subst hh; cases getE ha h.dk.hd; exact e1 rfl), at_ h.dk.hr (Ne.symm hr), h.dk.ne⟩, h.zb, h.il, h.im, h.kn, own (Ne.symm e3) h.lo, h.lc.mono (fun _ _ => own (Ne.symm e4)) (fun _ _ => own (Ne.symm e5)), h.wq, h.ok⟩
theorem CacheAt.set1 {S : Store} {c r m a : Nat} {C : CS} (h : CacheAt S c r m C) {xs : List V} {e : TypeId} (ha : S[a]? = some (.row xs e)) (he : (e != 89 && e != 150 && e != 122 && e != 5 && e != 3) = true) (hr : a ≠ r) {o : Ob} : CacheAt (S.set a o) c r m C := by
 obtain ⟨d, L, es, vs, f, z, w, q, h, hq⟩ := h
 exact ⟨d, L, es, vs, f, z, w, q, h.set1 ha he hr, hq⟩
structure StoreP (S : Store) (x c r m mk : Nat) (l : Lay) (e : Int) (C : CS) (mf : Int → Option V) : Prop where
 hx : S[x]? = some (.row [stoV c mk l.blocks l.inodes l.merge e] 103)
 ca : CacheAt S c r m C
 mp : MpI S mk mf
 ne : mk ≠ m
 hB : l.blocks = C.img.length
abbrev stT : List Nat := [103, 89, 150, 122]
abbrev FrS (m r : Nat) : Store → Store → Prop := Frm stT [m] 42 r
theorem FrC.toS {m r : Nat} {S S' : Store} (h : FrC m r S S') : FrS m r S S' := h.mono (fun e he => by simp only [List.contains_cons, List.contains_nil, Bool.or_eq_true] at he ⊢; exact .inr he) (fun _ h => h)
section
variable {S S' : Store} {x c r m mk : Nat} {l : Lay} {e : Int} {C : CS} {mf : Int → Option V}
theorem StoreP.keep (h : StoreP S x c r m mk l e C mf) (hk : Keep S S') : StoreP S' x c r m mk l e C mf := ⟨hk _ _ h.hx, h.ca.keep hk, hk.map h.mp, h.ne, h.hB⟩
theorem StoreP.step (h : StoreP S x c r m mk l e C mf) (hF : FrC m r S S') {C' : CS} (hc : CacheAt S' c r m C') (hi : C'.img.length = C.img.length) : StoreP S' x c r m mk l e C' mf := ⟨hF.row h.hx rfl, hc, hF.map h.mp (by have := h.ne; simpa using this), h.ne, by rw [hi]; exact h.hB⟩
theorem StoreP.err (h : StoreP S x c r m mk l e C mf) (e' : Int) : StoreP (S.set x (.row [stoV c mk l.blocks l.inodes l.merge e'] 103)) x c r m mk l e' C mf := by
 refine ⟨List.getElem?_set_self (zN h.hx), h.ca.set1 h.hx rfl ?_, ?_, h.ne, h.hB⟩
 ·rintro rfl
  obtain ⟨d, L, es, vs, f, z, w, q, h2, _⟩ := h.ca
  cases getE h.hx h2.dk.hr
 ·obtain ⟨L, k, h1, h2⟩ := h.mp
  exact ⟨L, k, by rw [List.getElem?_set_ne (by rintro rfl; cases getE h.hx h1)]; exact h1, h2⟩
theorem zaw {B I M e' : Int} : qI Try.prog 29 4 (.d (.int .i64 e')) (stoV c mk B I M e) = some (stoV c mk B I M e') := by kernel_rfl
end
theorem kX {k : IntKind} {n : Int} : jI (.int k n) (.int k n) = true := by simp [jI]
theorem zg9 : ∀ b : List UInt8, wO (b.map byD) (b.map byD) = true
 | [] => rfl
 | x :: r => by
  have h : jI (byD x) (byD x) = true := kX
  simp only [List.map_cons, wO, h, zg9 r, Bool.and_self]
theorem z2a {n : Nat} : ∀ b : List UInt8, all2 (wS (n + 1)) (b.map byD) (b.map byD) = true
 | [] => rfl
 | x :: r => by
  have h : wS (n + 1) (byD x) (byD x) = true := kX
  simp only [List.map_cons, all2, h, z2a r, Bool.and_self]
theorem PatV.same {S : Store} {p dv : V} {a : Int} {b : List UInt8} (h : PatV S p dv a b) : z0t p p = true := by
 have e1 : wS 6 (encB b) (encB b) = true := z2a (n := 4) b
 have e2 : wS 5 (encB b) (encB b) = true := z2a (n := 3) b
 have e0 : kF (.d (.int .i64 a)) (.d (.int .i64 a)) = true := by simp [kF, jY, wS, jI]
 rcases h with ⟨rfl, (⟨rfl, _⟩ | ⟨id, rfl, _⟩) | rfl | rfl⟩ | ⟨rfl, rfl⟩
 ·simp only [z0t, kQ, e0]; rfl
 ·simp only [z0t, kQ, e0]; simp [kF, jY]
 ·simp only [z0t, kQ, e0]; simp [kF, jY, e1]
 ·simp only [z0t, kQ, e0]; simp [kF, jY, zg9]
 ·show wS 6 (patD a b) (patD a b) = true
  show all2 (wS 5) [.int .i64 a, encB b] [.int .i64 a, encB b] = true
  have e3 : wS 5 (.int .i64 a) (.int .i64 a) = true := kX
  simp only [all2, e3, e2, Bool.and_self]
theorem zt7 (S : Store) (x c r m mk : Nat) (l : Lay) (C : CS) (mf : Int → Option V) (h0 : StoreP S x c r m mk l 0 C mf) (no : Nat) (hn : no < C.img.length) (p dv : V) (a : Int) (b : List UInt8) (hp : PatV S p dv a b) (hpk : kW a b) (ha : InB a) (nd : V) (ids needs : List Int) (hnd : IntsV S nd ids) (hids : ids.length ≤ 100000) (hneed : ∀ S1 v, CacheAt S1 c r m C → OwnS S1 v 3 (zX (noZ ids)) → EvS cfg 105 [.ref c 0 0, v] S1 (NdR c r m C needs S1)) (h1 : needs.Pairwise (· < ·)) (h2 : ∀ y ∈ needs, 1 ≤ y ∧ y ≤ C.last) (hl : C.last < 100000) :
  EvS cfg 23 [.ref x 0 0, .d (.int .i64 (no : Int)), p, nd] S (fun o S' => FrS m r S S' ∧ StoreP S' x c r m mk l 0 (C.put no a b needs) mf ∧ o = .ret (.d (.int .i64 ((C.last : Int) + 1)))) := by
 refine qN rfl zje ?_
 show Wp cfg (Try.f23.body.getD .skip) ((.ref x 0 0) :: (.d (.int .i64 (no : Int))) :: p :: nd :: uZ (uZ ((.tup []) :: (.tup []) :: (.tup []) :: (.tup []) :: (.tup []) :: (.tup []) :: (.tup []) :: []))) S [] _
 unfold uZ
 conv => arg 2; whnf
 rw [zR]
 generalize hal : S.length = al
 have hft := hp.ft
 have hl0 := hp.l0
 have hd1 := hnd.one
 have hk0 : Keep S (S ++ [.row [p] 56]) := Keep.refl.app
 have h3 := h0.keep hk0
 have he := fun {ops dst k T F Q} => zQ (ops := ops) (dst := dst) (l := k) (T := T) (F := F) (Q := Q) rfl (zcb _ x c mk l.blocks l.inodes l.merge 0 h3.hx)
 obtain ⟨o, S1, ⟨hK1, v, rfl, hv⟩, hsE⟩ := qR (ze2 _ nd ids (hnd.keep hk0) hids)
 have hs := fun {ops base K ws cs i dst T} => kV (ops := ops) (base := base) (K := K) (ws := ws) (cs := cs) (i := i) (dst := dst) (T := T) rfl hsE
 have h3b := h3.keep hK1
 have hk1 := hk0.trans hK1
 have hp1 : PatV S1 p dv a b := hp.frm (ts := []) (ms := []) (r := 0) (Frm.keep hk1) rfl
 obtain ⟨o, S2, ⟨hF, hC, rfl⟩, hE⟩ := qR (zqq _ c r m C h3b.ca no hn p dv a b hp1 hpk ha v needs (fun S1 h hk => hneed S1 v h (hk.own hv)) (qF hv) h1 h2 hl)
 have hcp := fun {ops base K ws cs i dst T} => kV (ops := ops) (base := base) (K := K) (ws := ws) (cs := cs) (i := i) (dst := dst) (T := T) rfl hE
 have hrx := zK (e := 103) h3.hx
 have hrx1 := zK (e := 103) h3b.hx
 have hal1 := hK1 al (.row [p] 56) (by rw [List.getElem?_append_right (by omega), hal, Nat.sub_self]; rfl)
 have hral1 := zK (e := 56) hal1
 have h4 : StoreP S2 x c r m mk l 0 (C.put no a b needs) mf := h3b.step hF hC rfl
 have hrx2 := zK (e := 103) h4.hx
 have hpx2 := fun y => qH (y := y) (e := 103) h4.hx
 have hp1' := hp.one
 have hv1 := qF hv
 simp (maxSteps:=1000000) (disch:=first|assumption|omega|rfl) only [↓gp, gc, Nat.reduceAdd, hft, hal, he, bo18]
 refine kL (is := [0, 1, 2, 3, 4, 5, 6, 7, 8, 9, 10, 11, 12, 13]) (h := 0) (by kernel_rfl) (by kernel_rfl) ?_
 simp (maxSteps:=1000000) (disch:=first|assumption|omega|rfl) only [List.replicate_zero, eq_self, gw, ga, Nat.reduceAdd, ↓gq, vso, List.append_nil, hrx, kB, vK, z89, z83, rA0 hal, hl0, hs, bo63, hcp, bo68, hp1', hd1, hv1]
 have hsm := hp.same
 refine ⟨qV rfl (by kernel_rfl) rfl (z3f ((zM hral1).trans hl0)) hsm (qV rfl (by kernel_rfl) rfl (z3f ((zM hrx1).trans z83)) (by simp [z0t, kF, jY]) qM), zV (by kernel_rfl) (zV (by kernel_rfl) qM), by kernel_rfl, ?_⟩
 simp (maxSteps:=1000000) (disch:=first|assumption|omega|rfl) only [↓gp, gc, Nat.reduceAdd, z80, hrx2, zaw, hpx2]
 refine ⟨rfl, _, rfl, ?_, h4.err 0, rfl⟩
 exact ((Frm.keep hk1).trans hF.toS).set (fun q hq => by cases getE h0.hx hq; rfl)
def inoV (i : Ino) : V := .agg [.d (.int .i64 i.kind), .d (.int .i64 i.links), .d (.int .i64 i.size), .d (.int .i64 i.parent), .d (.int .i64 i.d0), .d (.int .i64 i.d1), .d (.int .i64 i.d2), .d (.int .i64 i.d3), .d (.int .i64 i.d4), .d (.int .i64 i.d5), .d (.int .i64 i.ind)]
def IsI (v : V) (i : Ino) : Prop := v = .d (zS i) ∨ v = inoV i
section
variable {v : V} {i : Ino} {S : Store}
theorem IsI.ft (h : IsI v i) : zZ Try.prog 61 v = true := by rcases h with rfl | rfl <;> kernel_rfl
theorem IsI.l0 (h : IsI v i) : qL Try.prog 61 0 (some v) = some v := by rcases h with rfl | rfl <;> kernel_rfl
theorem IsI.one (h : IsI v i) : v.one = true := by rcases h with rfl | rfl <;> rfl
theorem IsI.fz (h : IsI v i) : Go.Vm.frz S zH v = some (zS i) := by rcases h with rfl | rfl <;> rfl
theorem IsI.fi (h : IsI v i) : frzIds S zH v = [] := by rcases h with rfl | rfl <;> rfl
end
theorem zhu (k0 : Nat) (hk0 : k0 < 8) (i : Ino) (b : List UInt8) (hl : b.length = 32) (h : Ev cfg 107 [zS i] (.ret (.tup [.d (blkD b), .d (.int .i64 0)]))) : Ev cfg 71 [.int .i64 (k0 : Int), zS i] (.ret (.tup [.d (patD ((k0 * 32 : Nat) : Int) b), .d (.int .i64 0)])) := by
 refine jW rfl rfl zph ?_
 show Wp cfg (Try.f71.body.getD .skip) ((.d (.int .i64 (k0 : Int))) :: (.d (zS i)) :: uZ (uZ ((.tup []) :: (.tup []) :: (.tup []) :: (.tup []) :: (.tup []) :: (.tup []) :: (.tup []) :: (.tup []) :: []))) [] [] _
 unfold uZ
 conv => arg 2; whnf
 have c1 : ¬ (k0 : Int) < 0 := by omega
 have c2 : ¬ (k0 : Int) ≥ 8 := by omega
 have hf : zZ Try.prog 61 (.d (zS i)) = true := by kernel_rfl
 have h1 : IntKind.i64.wrap ((k0 : Int) * 32) = ((k0 * 32 : Nat) : Int) := by rw [wrap64 (by omega)]; omega
 have hp : ∀ {ops dst k T S F Q}, WpR cfg ops dst k T S F Q (some (.enter 107 [.d (zS i)])) = WpL cfg ops k (putT T dst (.tup [.d (blkD b), .d (.int .i64 0)])) S F Q := fun {ops dst k T S F Q} => qA (C := cfg) (ds := [zS i]) rfl h
 have hst := bt158.store (jL (b := b)) hl (w := blkV (zC 32)) isB_v z32l
 have hsl : ∀ o1 o2 : Ob, wD Try.prog [o1, o2, .row [.d (blkD b)] 158] 158 (.ref 2 0 0) Option.none Option.none = some (.cs 2 0 0 32) := fun o1 o2 => zvd rfl
 have hap : ∀ o1 o2 : Ob, qE Try.prog [o1, o2, .row [.d (blkD b)] 158] 40 40 (.ts []) (.cs 2 0 0 32) = some (.rs 3 0 32, [o1, o2, .row [.d (blkD b)] 158, rowY b], 2) := fun o1 o2 => zx8 rfl jL hl
 simp (maxSteps:=1000000) (disch:=first|assumption|omega|rfl) only [↓gp, gc, Nat.reduceAdd, ↓vbs, hf, z56, zf56, z158, zdn, lrI, hp, zly, hst, h1, z7u, ↓zf1, z76, Option.map_none, hsl, hap, bd56, sr56]
 have hby : ∀ S : Store, S[3]? = some (rowY b) → Go.Vm.frz S zH (.agg [.d (.int .i64 ((k0 * 32 : Nat) : Int)), .rs 3 0 32]) = some (patD ((k0 * 32 : Nat) : Int) b) := fun S hS => by
  have h2 : Go.Vm.frz S 11 (.rs 3 0 32) = some (encB b) := znp (.inr ⟨3, by rw [hl], hS⟩)
  show (match allO (Go.Vm.frz S 11) [.d (.int .i64 ((k0 * 32 : Nat) : Int)), .rs 3 0 32] with | some ds => if ds.any D.isAgg then none else some (D.agg ds) | none => none) = _
  simp only [allO, h2]
  rfl
 exact z0s rfl rfl ((zM rfl).trans lr56) rfl rfl rfl (hby _ rfl)
theorem ze1 {ops : Array Oper} {dst : Option Tmp} {k : List Oper} {T : List V} {S : Store} {F : Dfs} {Q : Post} {v : V} {i : Ino} (hv : IsI v i) {k0 : Nat} {u : V} (h : Ev cfg 71 [.int .i64 (k0 : Int), zS i] (.ret u)) : WpR cfg ops dst k T S F Q (some (.enter 71 [.d (.int .i64 (k0 : Int)), v])) = WpL cfg ops k (putT T dst u) S F Q :=
 wJ (ds := [.int .i64 (k0 : Int), zS i]) rfl (by simp only [allO, hv.fz]; rfl) (by rw [List.flatMap_cons, List.flatMap_cons, hv.fi]; rfl) h
theorem zva {a : Int} {b : List UInt8} : qI Try.prog 56 0 (.d (patD a b)) (.agg [.d (.int .i64 0), .ts []]) = some (.d (patD a b)) := by kernel_rfl
theorem zeh {c mk : Nat} {l : Lay} {e : Int} : qL Try.prog 24 1 (some (stoV c mk l.blocks l.inodes l.merge e)) = some (layV l) := by kernel_rfl
end Go.Proofs.Ytobgdmgldagjkaa
end
