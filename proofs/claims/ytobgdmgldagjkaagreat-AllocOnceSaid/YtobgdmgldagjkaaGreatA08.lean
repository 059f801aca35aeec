/- cache.Get: a block as it is seen. -/
import Derived.Test.YtobgdmgldagjkaaGreatA07
set_option linter.unusedVariables false
set_option linter.unusedSimpArgs false
set_option maxRecDepth 100000
set_option maxHeartbeats 4000000
set_option linter.defProp false
section
namespace Go.Proofs.YtobgdmgldagjkaaGreat
open Go.Vm
theorem st3 {a b : Int} : qM Tryz.prog 3 0 (.d (.int .i64 a)) (.d (.int .i64 b)) = some (.d (.int .i64 a)) := by kernel_rfl
theorem ld3r {a : Int} : qT Tryz.prog 3 0 (some (.d (.int .i64 a))) = some (.d (.int .i64 a)) := by kernel_rfl
theorem st4b {a b : Bool} : qM Tryz.prog 4 0 (.d (.bool a)) (.d (.bool b)) = some (.d (.bool a)) := by kernel_rfl
theorem ld4r {a : Bool} : qT Tryz.prog 4 0 (some (.d (.bool a))) = some (.d (.bool a)) := by kernel_rfl
theorem z3 : zeroV Tryz.prog 3 = some (.d (.int .i64 0)) := by kernel_rfl
theorem z4 : zeroV Tryz.prog 4 = some (.d (.bool false)) := by kernel_rfl
def seeL (b : List UInt8) (l : List Chg) (no : Int) : List UInt8 := l.foldl (fun b ch => if ch.no = no then layB b ch.at_.toNat ch.data else b) b
theorem z1a {b : List UInt8} {l : List Chg} {ch : Chg} {no : Int} : seeL b (l ++ [ch]) no = if ch.no = no then layB (seeL b l no) ch.at_.toNat ch.data else seeL b l no := by
 unfold seeL
 rw [List.foldl_append]
 rfl
theorem z7z {b : List UInt8} {no : Int} (hb : b.length = 256) : ∀ {l : List Chg}, (∀ ch ∈ l, kP ch.at_ ch.data) → (seeL b l no).length = 256 := by
 intro l
 induction l generalizing b with
 | nil => intro _; exact hb
 | cons ch r ih =>
  intro h
  have h1 := h ch List.mem_cons_self
  have h2 : (if ch.no = no then layB b ch.at_.toNat ch.data else b).length = 256 := by
   split
   ·obtain ⟨_, _, p3, p4⟩ := h1
    rw [jB (by omega), hb]
   ·exact hb
  exact ih h2 fun x hx => h x (List.mem_cons_of_mem _ hx)
def CS.see (C : CS) (no : Nat) : List UInt8 := seeL (C.img.getD no []) C.list (no : Int)
theorem CS.Ok.see_len {C : CS} (h : C.Ok) {no : Nat} (hn : no < C.img.length) : (C.see no).length = 256 := by
 refine z7z ?_ fun ch hch => (h.chs ch hch).1
 rw [List.getD_eq_getElem?_getD, List.getElem?_eq_getElem hn]
 exact h.len _ (List.getElem_mem hn)
section
variable {a b c : Int} {dv nv : V}
theorem z122 : zeroV Tryz.prog 80 = some (.agg [.d (.int .i64 0), .d (.int .i64 0), .d (.int .i64 0), .ts [], .ts []]) := by kernel_rfl
theorem z2d : qB Tryz.prog 80 (.agg [.d (.int .i64 0), .d (.int .i64 0), .d (.int .i64 0), .ts [], .ts []]) = true := by kernel_rfl
theorem z2c : qT Tryz.prog 80 0 (some (.agg [.d (.int .i64 a), .d (.int .i64 b), .d (.int .i64 c), dv, nv])) = some (.agg [.d (.int .i64 a), .d (.int .i64 b), .d (.int .i64 c), dv, nv]) := by kernel_rfl
theorem z3s : qM Tryz.prog 80 0 (.agg [.d (.int .i64 a), .d (.int .i64 b), .d (.int .i64 c), dv, nv]) (.agg [.d (.int .i64 0), .d (.int .i64 0), .d (.int .i64 0), .ts [], .ts []]) = some (.agg [.d (.int .i64 a), .d (.int .i64 b), .d (.int .i64 c), dv, nv]) := by kernel_rfl
theorem z0l : qT Tryz.prog 3 0 (some (.agg [.d (.int .i64 a), .d (.int .i64 b), .d (.int .i64 c), dv, nv])) = some (.d (.int .i64 a)) := by kernel_rfl
theorem z0h : qT Tryz.prog 3 1 (some (.agg [.d (.int .i64 a), .d (.int .i64 b), .d (.int .i64 c), dv, nv])) = some (.d (.int .i64 b)) := by kernel_rfl
theorem z25 : qT Tryz.prog 78 2 (some (.agg [.d (.int .i64 a), .d (.int .i64 b), .d (.int .i64 c), dv, nv])) = some (.agg [.d (.int .i64 c), dv]) := by kernel_rfl
theorem z0u {d x y : Nat} : zT Tryz.prog 80 0 (.ref d x y) = some (.ref d x (y + 0)) := by kernel_rfl
theorem z0k {d x y : Nat} : zT Tryz.prog 80 1 (.ref d x y) = some (.ref d x (y + 1)) := by kernel_rfl
theorem z0m {d x y : Nat} : zT Tryz.prog 80 2 (.ref d x y) = some (.ref d x (y + 2)) := by kernel_rfl
theorem u119 : Tryz.prog.underlying 74 = some (.slice 80) := by kernel_rfl
theorem s122 : (sz Tryz.prog 80).isSome = true := by kernel_rfl
end
theorem lc2 {d m : Nat} {L : V} {last : Int} : qT Tryz.prog 74 2 (some (cacV d m L last)) = some L := by kernel_rfl
theorem zcr {ops : Array Oper} {dst : Option Tmp} {k : List Oper} {T : List V} {S : zB} {F : Dfs} {Q : Post} {u dv : V} {b d : List UInt8} {a : Int} (hu : IsB u b) (hb : b.length = 256) (hd : OwnS S dv 5 (bysV d)) (hp : kP a d) : WpR cfg ops dst k T S F Q (some (.enter 115 [u, .agg [.d (.int .i64 a), dv]])) = WpL cfg ops k (putT T dst (.d (blkD (layB b a.toNat d)))) S F Q := by
 obtain ⟨n, rfl⟩ : ∃ n : Nat, a = n := ⟨a.toNat, by have := hp.2.2.1; omega⟩
 have hd' : OwnS S dv 5 ((d.map byD).map .d) := by rw [List.map_map]; exact hd
 have hf := zbo (n := 9) hd'
 have h0 : Go.Vm.frz S 11 (.d (.int .i64 (n : Int))) = some (.int .i64 (n : Int)) := rfl
 have h1 : Go.Vm.frz S zJ (.agg [.d (.int .i64 (n : Int)), dv]) = some (patD (n : Int) d) := by
  show (match allO (Go.Vm.frz S 11) [.d (.int .i64 (n : Int)), dv] with | some ds => if ds.any D.isAgg then none else some (D.agg ds) | none => none) = _
  simp only [allO, h0, hf]
  rfl
 refine zj9 (ds := [blkD b, patD (n : Int) d]) rfl ?_ ?_ (zsi b hb n d hp)
 ·simp only [allO, hu.frz (n := 10), zJ]
  have := h1
  rw [zJ] at this
  simp only [this]
 ·show D.plain (blkD _) = true
  simp only [D.plain, blkD, List.all_eq_true, List.mem_map]
  rintro _ ⟨x, _, rfl⟩
  rfl
theorem q04 (c no a4 a7 : Nat) (S0 : zB) (b : List UInt8) (hb : b.length = 256) (L : V) (es : List V) (l : List Chg) (hL : OwnS S0 L 80 es) (hl : ChgsV S0 es l) (hok : ∀ ch ∈ l, kP ch.at_ ch.data) (hes : es.length ≤ 1000000) (R : Post) :
 ∀ (k i : Nat) (S : zB) (u : V) (g2 g3 g5 g6 g8 g9 gI gE gG gB gC gA gD gL gM gF gK gN gJ gH gO gP gR gS gV gW gX gY gZ gh gj gk gn gr gz : V), l.length - i = k → i ≤ l.length → Keep S0 S → S0.length ≤ a7 → S[a7]? = some (.row [u] 42) → IsB u (seeL b (l.take i) no) →
 (∀ S' u' i' g2 g3 g5 g6 g8 g9 gI gE gG gB gC gA gD gL gM gF gK gN gJ gH gO gP gR gS gV gW gX gY gZ gh gj gk gn gr gz, Keep S0 S' → S'[a7]? = some (.row [u'] 42) → IsB u' (seeL b l no) → R (.exit 0) ((.ref c 0 0) :: (.d (.int .i64 (no : Int))) :: g2 :: g3 :: (.ref a4 0 0) :: g5 :: g6 :: (.ref a7 0 0) :: g8 :: g9 :: gI :: gE :: gG :: gB :: gC :: gA :: gD :: gL :: gM :: gF :: gK :: gN :: gJ :: gH :: gO :: gP :: L :: (.d (.int .i64 (l.length : Int))) :: i' :: gR :: gS :: gV :: gW :: gX :: gY :: gZ :: gh :: gj :: gk :: gn :: gr :: gz :: []) S' []) →
 Wp cfg (.loop (lpOf (Tryz.f74.body.getD .skip) 0)) ((.ref c 0 0) :: (.d (.int .i64 (no : Int))) :: g2 :: g3 :: (.ref a4 0 0) :: g5 :: g6 :: (.ref a7 0 0) :: g8 :: g9 :: gI :: gE :: gG :: gB :: gC :: gA :: gD :: gL :: gM :: gF :: gK :: gN :: gJ :: gH :: gO :: gP :: L :: (.d (.int .i64 (l.length : Int))) :: (.d (.int .i64 (i : Int))) :: gR :: gS :: gV :: gW :: gX :: gY :: gZ :: gh :: gj :: gk :: gn :: gr :: gz :: []) S [] R := by
 intro k
 have hll := hl.1
 induction k with
 | zero =>
  intro i S u g2 g3 g5 g6 g8 g9 gI gE gG gB gC gA gD gL gM gF gK gN gJ gH gO gP gR gS gV gW gX gY gZ gh gj gk gn gr gz hk hi hK ha7 hS hu hR
  have hie : i = l.length := by omega
  subst hie
  rw [List.take_length] at hu
  rw [zR]
  refine zL ?_
  conv => arg 2; whnf
  simp (maxSteps:=1000000) (disch:=first|assumption|omega|rfl) only [↓gp, gc, Nat.reduceAdd]
  exact hR _ _ _ _ _ _ _ _ _ _ _ _ _ _ _ _ _ _ _ _ _ _ _ _ _ _ _ _ _ _ _ _ _ _ _ _ _ _ hK hS hu
 | succ k ih =>
  intro i S u g2 g3 g5 g6 g8 g9 gI gE gG gB gC gA gD gL gM gF gK gN gJ gH gO gP gR gS gV gW gX gY gZ gh gj gk gn gr gz hk hi hK ha7 hS hu hR
  have hlt : i < l.length := by omega
  have hlt2 : i < es.length := by omega
  obtain ⟨id, hix, hre, _⟩ := wH u119 s122 (hK.own hL) hlt2
  obtain ⟨dv, nv, he, hd5, hn3⟩ := hl.2 i es[i] l[i] (List.getElem?_eq_getElem hlt2) (List.getElem?_eq_getElem hlt)
  rw [he] at hre
  have hpk := hok l[i] (List.getElem_mem hlt)
  have h3 : IntKind.i64.wrap ((i : Int) + 1) = ((i + 1 : Nat) : Int) := by rw [wrap64 (by omega)]; omega
  have hsl := z7z (no := (no : Int)) hb (l := l.take i) (fun ch hch => hok ch (List.mem_of_mem_take hch))
  have hsn : seeL b (l.take (i + 1)) no = if l[i].no = no then layB (seeL b (l.take i) no) l[i].at_.toNat l[i].data else seeL b (l.take i) no := by
   rw [List.take_add_one, List.getElem?_eq_getElem hlt]
   exact z1a
  generalize ha : S.length = a
  have hal := zQ hS
  have hr7 : ∀ o, rowE (S ++ [o]) a7 0 = some u := fun o => zD (e := 42) (by rw [List.getElem?_append_left hal]; exact hS)
  have hp7 : ∀ o y, jQ (S ++ [o]) a7 0 y = some (S.set a7 (.row [y] 42) ++ [o]) := fun o y => by
   rw [qJ (x := u) (e := 42) (by rw [List.getElem?_append_left hal]; exact hS), List.set_append_left _ _ hal]
  have hld := bt42.load hu hsl
  have hu1 := hu.one
  have hcl := fun {ops dst k T F Q} => zcr (ops := ops) (dst := dst) (k := k) (T := T) (F := F) (Q := Q) (S := S ++ [.row [.agg [.d (.int .i64 l[i].id), .d (.int .i64 l[i].no), .d (.int .i64 l[i].at_), dv, nv]] 80]) hu hsl ((Keep.app hK).own hd5) hpk
  have hst := bt42.store (v := .d (blkD (layB (seeL b (l.take i) no) l[i].at_.toNat l[i].data))) jT (by obtain ⟨_, _, p3, p4⟩ := hpk; rw [jB (by omega), hsl]) hu hsl
  rw [zR]
  refine zL ?_
  conv => arg 2; whnf
  by_cases hno : l[i].no = (no : Int)
  ·rw [if_pos hno] at hsn
   have hde : ∀ i' : Decidable (l[i].no = (no : Int)), @decide (l[i].no = (no : Int)) i' = true := fun i' => decide_eq_true hno
   simp (maxSteps:=1000000) (disch:=first|assumption|omega|rfl) only [↓gp, gc, Nat.reduceAdd, hix, hre, z2c, z122, z2d, z3s, ha, rA0 ha, pA0 ha, z0k, z0m, z0h, z25, hde, hr7, hp7, hld, hcl, hst, hu1, zru, h3]
   refine ih (i + 1) _ (.d (blkD (layB (seeL b (l.take i) no) l[i].at_.toNat l[i].data))) _ _ _ _ _ _ _ _ _ _ _ _ _ _ _ _ _ _ _ _ _ _ _ _ _ _ _ _ _ _ _ _ _ _ _ (by omega) (by omega) (Keep.app (hK.set ha7)) ha7 ?_ (by rw [hsn]; exact jT) hR
   rw [List.getElem?_append_left (by rw [List.length_set]; exact hal), List.getElem?_set_self hal]
  ·rw [if_neg hno] at hsn
   have hde : ∀ i' : Decidable (l[i].no = (no : Int)), @decide (l[i].no = (no : Int)) i' = false := fun i' => decide_eq_false hno
   simp (maxSteps:=1000000) (disch:=first|assumption|omega|rfl) only [↓gp, gc, Nat.reduceAdd, hix, hre, z2c, z122, z2d, z3s, ha, rA0 ha, pA0 ha, z0k, z0m, z0h, z25, hde, h3]
   refine ih (i + 1) _ u _ _ _ _ _ _ _ _ _ _ _ _ _ _ _ _ _ _ _ _ _ _ _ _ _ _ _ _ _ _ _ _ _ _ _ (by omega) (by omega) (Keep.app hK) ha7 ?_ (by rw [hsn]; exact hu) hR
   rw [List.getElem?_append_left hal]
   exact hS
def SeeR (B c r m : Nat) (C : CS) (S : zB) (P : V → Prop) (o : Out) (S' : zB) : Prop := FrC m r S S' ∧ CacheIn S' B c r m C ∧ ∃ v, o = .ret v ∧ P v
theorem zu6 (S : zB) (B c r m : Nat) (C : CS) (h0 : CacheIn S B c r m C) (no : Nat) (hn : no < C.img.length) : EvS cfg 74 [.ref c 0 0, .d (.int .i64 (no : Int))] S (SeeR B c r m C S fun v => ∃ u, v = .tup [u, .d (.int .i64 0)] ∧ IsB u (C.see no)) := by
 refine qH rfl q0o ?_
 show Wp cfg (Tryz.f74.body.getD .skip) ((.ref c 0 0) :: (.d (.int .i64 (no : Int))) :: uZ (uZ (uZ (uZ [])))) S [] _
 unfold uZ
 conv => arg 2; whnf
 rw [zR]
 generalize ha : S.length = a
 have hA : ∀ o, S[a]? ≠ some o := fun o hh => by have := zQ hh; omega
 obtain ⟨o, S1, ⟨rfl, hF, hB1, d, L, es, vs, f, z, w, q, hp, hq, hfs⟩, hkn⟩ := vU rfl (zgy (S ++ [.row [blkV (zK 256)] 42]) B c r m C h0.app no hn)
 have hB := h0.1
 have h := hp.keep (z03 (S := S1))
 have hkn := fun {ops dst k T F Q} => hkn _ rfl (ops := ops) (dst := dst) (k := k) (T := T) (F := F) (Q := Q)
 obtain ⟨v, hv⟩ := Option.isSome_iff_exists.1 hfs
 obtain ⟨k0, b, hk0, hb, hvb⟩ := h.kn _ _ hv
 cases (by omega : no = k0)
 have hbl := h.ok.len b (List.mem_of_getElem? hb)
 have hlk := (h.hm.look zj4 no).2
 rw [hv] at hlk
 simp only [Option.getD_some] at hlk
 have hc0 : rowE S1 c 0 = some (cacV d m L C.last) := zD (e := 126) h.hc
 have hc1 : ∀ l, rowE (S1 ++ l) c 0 = some (cacV d m L C.last) := fun l => zD (e := 126) (by rw [List.getElem?_append_left (zQ h.hc)]; exact h.hc)
 have hst := bt42.store hvb hbl (w := blkV (zK 256)) isB_v z256
 have l0 := z256
 have hlen : ∀ S, Keep S1 S → zO Tryz.prog S .len [74] [L] = some (.val (.d (.int .i64 (C.list.length : Int))) S 0) := fun S hk => by rw [wC u119 (hk.own h.lo), h.lc.1]
 have hln := hlen (S1 ++ [.row [v] 42]) Keep.refl.app
 have hr1 : r ≠ a := fun e => by
  obtain ⟨_, d', L', es', vs', f', z', w', q', h', _⟩ := h0
  have := z16 h'.dk.hr
  omega
 have h4 : S1[a]? = some (.row [blkV (zK 256)] 42) := hF.row (by subst ha; simp) (by simp [Ne.symm hr1])
 generalize ha1 : S1.length = a1
 simp (maxSteps:=1000000) (disch:=first|assumption|omega|rfl) only [↓gp, gc, Nat.reduceAdd, z42, zf42, ha, rA0 ha, hkn, znv, z2q, z4c, hc0, hc1, lc1, lc2, hlk, ha1, rA0 ha1, pA0 ha1, hst, hln]
 have hal := zQ h4
 refine q04 c no a a1 S1 b hbl L es C.list h.lo h.lc (fun ch hch => (h.ok.chs ch hch).1) (by have h1 := h.wq; have h2 := h.ok.last; have h3 := h.lc.1; omega) _ C.list.length 0 _ v _ _ _ _ _ _ _ _ _ _ _ _ _ _ _ _ _ _ _ _ _ _ _ _ _ _ _ _ _ _ _ _ _ _ _ rfl (Nat.zero_le _) Keep.refl.app (by omega) (by rw [← ha1]; simp) hvb ?_
 intro S2 u i' g2 g3 g5 g6 g8 g9 gI gE gG gB gC gA gD gL gM gF gK gN gJ gH gO gP gR gS gV gW gX gY gZ gh gj gk gn gr gz hK hS2 hu
 have hca : CacheIn S2 B c r m C := CacheIn.keep ⟨hB1, d, L, es, vs, f, z, w, q, hp, hq⟩ hK
 have hr7 := zD (e := 42) hS2
 have h42 := hK _ _ h4
 have hp4 := fun y => qJ (y := y) (x := blkV (zK 256)) (e := 42) h42
 have hr4 := zD (e := 42) h42
 have hsl := z7z (no := (no : Int)) hbl (fun ch hch => (h.ok.chs ch hch).1)
 have hld := bt42.load hu hsl
 have hst2 := bt42.store hu hsl (w := blkV (zK 256)) isB_v z256
 have hu1 := hu.one
 simp (maxSteps:=1000000) (disch:=first|assumption|omega|rfl) only [↓gp, gc, Nat.reduceAdd, hr7, hld, hr4, hst2, hp4]
 have hsee : C.see no = seeL b C.list no := by unfold CS.see; rw [List.getD_eq_getElem?_getD, hb]; rfl
 have hl1 : kF Tryz.prog (S2.set a (.row [u] 42)) 42 (.ref a 0 0) = some u := (zG (zD (e := 42) (List.getElem?_set_self (zQ h42)))).trans hld
 refine ⟨rfl, .tup [u, .d (.int .i64 0)], ?_, ?_, hca.setn (by omega), _, rfl, u, rfl, by rw [hsee]; exact hu⟩
 ·exact zjq rfl hl1 rfl hu1 rfl
 ·refine Frm.setn ?_ (by omega)
  exact ((Frm.refl.app).trans hF).trans (Frm.keep hK)
abbrev getF (c : Nat) : V := .fn (.func 74) [.ref c 0 0] []
def kO (B I M : Int) (g : Nat) : V := .agg [.d (.int .i64 B), .d (.int .i64 I), .d (.int .u64 M), .fn (.func 113) [] [.ref g 0 0]]
def ViewAt (S : zB) (v : V) (c : Nat) (B I M : Int) : Prop := ∃ g, v = kO B I M g ∧ S[g]? = some (.row [getF c] 131)
theorem ViewAt.keep {S S' : zB} {v : V} {c : Nat} {B I M : Int} (h : ViewAt S v c B I M) (hk : Keep S S') : ViewAt S' v c B I M := by
 obtain ⟨g, h1, h2⟩ := h
 exact ⟨g, h1, hk _ _ h2⟩
theorem ViewAt.frm {S S' : zB} {v : V} {c : Nat} {B I M : Int} {ts ms : List Nat} {r : Nat} (h : ViewAt S v c B I M) (hk : Frm ts ms 42 r S S') (ht : (!ts.contains 131) = true) : ViewAt S' v c B I M := by
 obtain ⟨g, h1, h2⟩ := h
 exact ⟨g, h1, hk.row h2 (by rw [ht]; rfl)⟩
section
variable {c g x y d : Nat} {B I M : Int} {S : zB}
theorem ft97 : qB Tryz.prog 131 (getF c) = true := by kernel_rfl
theorem lr97 : qT Tryz.prog 131 0 (some (getF c)) = some (getF c) := by kernel_rfl
theorem ne97 : binV Tryz.prog .eql 131 (getF c) (.d .nilf) = some (.d (.bool false)) := by kernel_rfl
theorem z52 : zeroV Tryz.prog 55 = some (.agg [.d (.int .i64 0), .d (.int .i64 0), .d (.int .u64 0), .d .nilf]) := by kernel_rfl
theorem zf52 : qB Tryz.prog 55 (.agg [.d (.int .i64 0), .d (.int .i64 0), .d (.int .u64 0), .d .nilf]) = true := by kernel_rfl
theorem ft52 : qB Tryz.prog 55 (kO B I M g) = true := by kernel_rfl
theorem bd52 : wY Tryz.prog 55 [(0, .agg [.d (.int .i64 B), .d (.int .i64 I), .d (.int .u64 M)]), (1, .fn (.func 113) [] [.ref g 0 0])] = some (kO B I M g) := by kernel_rfl
theorem sr52 : qM Tryz.prog 55 0 (kO B I M g) (.agg [.d (.int .i64 0), .d (.int .i64 0), .d (.int .u64 0), .d .nilf]) = some (kO B I M g) := by kernel_rfl
theorem lr52 : qT Tryz.prog 55 0 (some (kO B I M g)) = some (kO B I M g) := by kernel_rfl
theorem z0c : zT Tryz.prog 55 0 (.ref d x y) = some (.ref d x (y + 0)) := by kernel_rfl
theorem zr0 : zT Tryz.prog 55 1 (.ref d x y) = some (.ref d x (y + 3)) := by kernel_rfl
theorem zlz : qT Tryz.prog 53 3 (some (kO B I M g)) = some (.fn (.func 113) [] [.ref g 0 0]) := by kernel_rfl
theorem zao : qT Tryz.prog 3 0 (some (kO B I M g)) = some (.d (.int .i64 B)) := by kernel_rfl
theorem zn9 : qT Tryz.prog 3 1 (some (kO B I M g)) = some (.d (.int .i64 I)) := by kernel_rfl
theorem z5a : qT Tryz.prog 32 0 (some (kO B I M g)) = some (.agg [.d (.int .i64 B), .d (.int .i64 I), .d (.int .u64 M)]) := by kernel_rfl
theorem ne50 : binV Tryz.prog .neq 53 (.fn (.func 113) [] [.ref g 0 0]) (.d .nilf) = some (.d (.bool true)) := by kernel_rfl
theorem z7l : (kO B I M g).one = true := rfl
theorem q1s : qB Tryz.prog 32 (.agg [.d (.int .i64 B), .d (.int .i64 I), .d (.int .u64 M)]) = true := by kernel_rfl
theorem q2o : qT Tryz.prog 32 0 (some (.agg [.d (.int .i64 B), .d (.int .i64 I), .d (.int .u64 M)])) = some (.agg [.d (.int .i64 B), .d (.int .i64 I), .d (.int .u64 M)]) := by kernel_rfl
theorem zes : zT Tryz.prog 122 0 (.ref d x y) = some (.ref d x (y + 0)) := by kernel_rfl
theorem z8c {mk : Nat} {e : Int} : qT Tryz.prog 48 0 (some (stoV c mk B I M e)) = some (.ref c 0 0) := by kernel_rfl
theorem mfOn : mfS (.func 113) S [] [.ref g 0 0] = some (.val (.fn (.func 113) [] [.ref g 0 0]) S 0) := z15 rfl
theorem q2g : mfS (.func 74) S [.ref c 0 0] [] = some (.val (getF c) S 0) := z15 rfl
end
theorem zbz (S : zB) (x c mk : Nat) (B I M e : Int) (h : S[x]? = some (.row [stoV c mk B I M e] 122)) : EvS cfg 25 [.ref x 0 0] S (fun o S' => S' = S ∧ o = .ret (.ref c 0 0)) := by
 refine qH rfl q0q ?_
 show Wp cfg (Tryz.f25.body.getD .skip) ((.ref x 0 0) :: (.tup []) :: (.tup []) :: (.tup []) :: (.tup []) :: (.tup []) :: (.tup []) :: (.tup []) :: (.tup []) :: []) S [] _
 conv => arg 2; whnf
 rw [zR]
 have hr := zD (e := 122) h
 simp (maxSteps:=1000000) (disch:=first|assumption|omega|rfl) only [↓gp, gc, Nat.reduceAdd, zom, zes, hr, z8c]
 exact ⟨rfl, _, rfl, rfl, rfl⟩
theorem q31 (S : zB) (c : Nat) (B I M : Int) : EvS cfg 72 [.agg [.d (.int .i64 B), .d (.int .i64 I), .d (.int .u64 M)], getF c] S (fun o S' => Keep S S' ∧ ∃ v, o = .ret v ∧ ViewAt S' v c B I M) := by
 refine qH rfl zxs ?_
 show Wp cfg (Tryz.f72.body.getD .skip) ((.agg [.d (.int .i64 B), .d (.int .i64 I), .d (.int .u64 M)]) :: (getF c) :: (.tup []) :: (.tup []) :: (.tup []) :: (.tup []) :: (.tup []) :: (.tup []) :: []) S [] _
 conv => arg 2; whnf
 rw [zR]
 generalize ha : S.length = a
 simp (maxSteps:=1000000) (disch:=first|assumption|omega|rfl) only [↓gp, gc, Nat.reduceAdd, q1s, ft97, z52, zf52, List.append_assoc, List.length_append, List.length_cons, List.length_nil, ha, rA0 ha, rA1 ha, rA2 ha, pA2 ha, q2o, jS, mfOn, bd52, sr52]
 refine ⟨rfl, kO B I M (a + 1), ?_, Keep.refl.app, _, rfl, a + 1, rfl, ?_⟩
 ·exact z0x rfl ((zG (rA2 ha)).trans lr52)
 ·rw [List.getElem?_append_right (by omega), ha, Nat.add_sub_cancel_left]; rfl
theorem z6f (S : zB) (x c mk : Nat) (B I M e : Int) (h : S[x]? = some (.row [stoV c mk B I M e] 122)) : EvS cfg 27 [.ref x 0 0] S (fun o S' => Keep S S' ∧ ∃ v, o = .ret v ∧ ViewAt S' v c B I M) := by
 refine qH rfl zy1 ?_
 show Wp cfg (Tryz.f27.body.getD .skip) ((.ref x 0 0) :: (.tup []) :: (.tup []) :: (.tup []) :: (.tup []) :: (.tup []) :: (.tup []) :: (.tup []) :: (.tup []) :: []) S [] _
 conv => arg 2; whnf
 rw [zR]
 generalize ha : S.length = a
 have h1 : ∀ l, (S ++ l)[x]? = some (.row [stoV c mk B I M e] 122) := fun l => by rw [List.getElem?_append_left (zQ h)]; exact h
 have hl := fun {ops dst k T F Q} l => zH (ops := ops) (dst := dst) (l := k) (T := T) (F := F) (Q := Q) rfl (q16 (S ++ l) x c mk B I M e (h1 l))
 have hc := fun {ops dst k T F Q} l => zH (ops := ops) (dst := dst) (l := k) (T := T) (F := F) (Q := Q) rfl (zbz (S ++ l) x c mk B I M e (h1 l))
 obtain ⟨o, S2, ⟨hK, v, rfl, hv⟩, hon⟩ := vU rfl (q31 (S ++ [.row [.agg [.d (.int .i64 0), .d (.int .i64 0), .d (.int .u64 0), .d .nilf]] 55, .row [.agg [.d (.int .i64 B), .d (.int .i64 I), .d (.int .u64 M)]] 32]) c B I M)
 have hon := fun {ops dst k T F Q} => hon _ rfl (ops := ops) (dst := dst) (k := k) (T := T) (F := F) (Q := Q)
 obtain ⟨g, rfl, hg⟩ := hv
 have h52 := hK a (.row [.agg [.d (.int .i64 0), .d (.int .i64 0), .d (.int .u64 0), .d .nilf]] 55) (by rw [List.getElem?_append_right (by omega), ha, Nat.sub_self]; rfl)
 have hr := zD (e := 55) h52
 have hp := fun y => qJ (y := y) (e := 55) h52
 simp (maxSteps:=1000000) (disch:=first|assumption|omega|rfl) only [↓gp, gc, Nat.reduceAdd, z52, zf52, List.append_assoc, List.length_append, List.length_cons, List.length_nil, ha, hl, hc, bo73, bo25, jS, q2g, hon, bo72, hr, hp, sr52]
 have hKS : Keep S (S2.set a (.row [kO B I M g] 55)) := (Keep.refl.app.trans hK).set (by omega)
 refine ⟨rfl, kO B I M g, ?_, hKS, _, rfl, g, rfl, ?_⟩
 ·exact z0x rfl ((zG (zD (e := 55) (List.getElem?_set_self (zQ h52)))).trans lr52)
 ·rw [List.getElem?_set_ne]
  ·exact hg
  ·rintro rfl
   cases getE h52 hg
theorem zje {T : List V} : zE T (.const .nilFunc) = .d .nilf := rfl
theorem zrl {a r : Nat} (h : a ≠ r) : (!caT.contains 42 && ((42 : Nat) != 42 || a != r)) = true := by simp [h]
theorem q1o {c : Nat} {n : Int} : cvV Tryz.prog [.d (.int .i64 n)] (getF c) = some (.enter 74 [.ref c 0 0, .d (.int .i64 n)]) := zio rfl bo74
theorem cvOn {g : Nat} {n : Int} : cvV Tryz.prog [.d (.int .i64 n)] (.fn (.func 113) [] [.ref g 0 0]) = some (.enter 113 [.d (.int .i64 n), .ref g 0 0]) := zio rfl q1t
theorem SeeR.mono {B c r m : Nat} {C : CS} {S S1 : zB} {P P' : V → Prop} (hk : FrC m r S1 S) (h : ∀ v, P v → P' v) {o : Out} {S' : zB} (hs : SeeR B c r m C S P o S') : SeeR B c r m C S1 P' o S' := by
 obtain ⟨h1, h2, v, h3, h4⟩ := hs
 exact ⟨hk.trans h1, h2, v, h3, h v h4⟩
theorem CacheAt.rn {S : zB} {c r m : Nat} {C : CS} (h : CacheAt S c r m C) : r < S.length := by
 obtain ⟨d, L, es, vs, f, z, w, q, h, _⟩ := h
 exact zQ h.dk.hr
theorem CacheAt.ok {S : zB} {c r m : Nat} {C : CS} (h : CacheAt S c r m C) : C.Ok := by
 obtain ⟨d, L, es, vs, f, z, w, q, h, _⟩ := h
 exact h.ok
theorem CacheIn.rn {S : zB} {B c r m : Nat} {C : CS} (h : CacheIn S B c r m C) : r < B := by
 obtain ⟨_, d, L, es, vs, f, z, w, q, h, _⟩ := h
 exact z16 h.dk.hr
theorem zxw (S : zB) (B c r m g : Nat) (C : CS) (h0 : CacheIn S B c r m C) (hg : S[g]? = some (.row [getF c] 131)) (no : Nat) (hn : no < C.img.length) : EvS cfg 113 [.d (.int .i64 (no : Int)), .ref g 0 0] S (SeeR B c r m C S fun v => IsB v (C.see no)) := by
 refine qH rfl ztf ?_
 show Wp cfg (Tryz.f113.body.getD .skip) ((.d (.int .i64 (no : Int))) :: (.ref g 0 0) :: uZ ((.tup []) :: (.tup []) :: (.tup []) :: (.tup []) :: (.tup []) :: (.tup []) :: (.tup []) :: [])) S [] _
 unfold uZ
 conv => arg 2; whnf
 rw [zR]
 generalize ha : S.length = a
 have hr := h0.rn
 have hB := h0.1
 obtain ⟨o, S1, ⟨hF, hC, _, rfl, u, rfl, hu⟩, hkn⟩ := vU rfl (zu6 (S ++ [.row [blkV (zK 256)] 42]) B c r m C h0.app no hn)
 have hkn := fun {ops dst k T F Q} => hkn _ rfl (ops := ops) (dst := dst) (k := k) (T := T) (F := F) (Q := Q)
 have hg1 := zD (e := 131) (id := g) (S := S ++ [.row [blkV (zK 256)] 42]) (by rw [List.getElem?_append_left (zQ hg)]; exact hg)
 have hsl := hC.at.ok.see_len hn
 have hst := bt42.store hu hsl (w := blkV (zK 256)) isB_v z256
 have hld := bt42.load hu hsl
 have hu1 := hu.one
 have h4 : S1[a]? = some (.row [blkV (zK 256)] 42) := hF.row (by subst ha; simp) (zrl (by omega))
 have h4' : ∀ l, (S1 ++ l)[a]? = some (.row [blkV (zK 256)] 42) := fun l => by rw [List.getElem?_append_left (zQ h4)]; exact h4
 have hr4 := fun l => zD (e := 42) (h4' l)
 have hp4 := fun l y => qJ (y := y) (e := 42) (h4' l)
 generalize ha1 : S1.length = a1
 have hal := zQ h4
 simp (maxSteps:=1000000) (disch:=first|assumption|omega|rfl) only [↓gp, gc, Nat.reduceAdd, ↓vI, z42, zf42, ha, rA0 ha, hg1, lr97, zje, ne97, q1o, hkn, ha1, rA0 ha1, pA0 ha1, hst, hld, hu1, hr4, hp4]
 have hset : List.set (S1 ++ [Ob.row [u] 42]) a (.row [u] 42) = S1.set a (.row [u] 42) ++ [.row [u] 42] := List.set_append_left _ _ hal
 rw [hset]
 refine ⟨rfl, u, ?_, ?_, (hC.setn (by omega)).app, _, rfl, hu⟩
 ·refine z0x rfl ((zG (zD (e := 42) ?_)).trans hld)
  rw [List.getElem?_append_left (by rw [List.length_set]; exact hal), List.getElem?_set_self hal]
 ·exact (((Frm.refl.app).trans hF).setn (by omega)).app
theorem zpi (S : zB) (v : V) (c : Nat) (B I M : Int) (hv : ViewAt S v c B I M) (no : Nat) (hn : (no : Int) < B) : EvS cfg 96 [v, .d (.int .i64 (no : Int))] S (fun o S' => S' = S ++ [.row [v] 55] ∧ o = .ret (.d (.bool true))) := by
 obtain ⟨g, rfl, hg⟩ := hv
 refine qH rfl zz0 ?_
 show Wp cfg (Tryz.f96.body.getD .skip) ((kO B I M g) :: (.d (.int .i64 (no : Int))) :: uZ ((.tup []) :: (.tup []) :: (.tup []) :: (.tup []) :: (.tup []) :: (.tup []) :: (.tup []) :: [])) S [] _
 unfold uZ
 conv => arg 2; whnf
 rw [zR]
 generalize ha : S.length = a
 have c1 : (no : Int) ≥ 0 := by omega
 simp (maxSteps:=1000000) (disch:=first|assumption|omega|rfl) only [↓gp, gc, Nat.reduceAdd, ft52, ha, rA0 ha, z0c, zr0, vF, zlz, zao, zje, ne50, zN]
 exact ⟨rfl, _, rfl, rfl, rfl⟩
theorem z7t (S : zB) (v : V) (A c r m : Nat) (B I M : Int) (C : CS) (h0 : CacheIn S A c r m C) (hv : ViewAt S v c B I M) (hB : B = C.img.length) (no : Nat) (hn : no < C.img.length) : EvS cfg 49 [v, .d (.int .i64 (no : Int))] S (SeeR A c r m C S fun v => IsB v (C.see no)) := by
 have hv0 := hv
 obtain ⟨g, rfl, hg⟩ := hv
 refine qH rfl zzt ?_
 show Wp cfg (Tryz.f49.body.getD .skip) ((kO B I M g) :: (.d (.int .i64 (no : Int))) :: uZ ((.tup []) :: (.tup []) :: [])) S [] _
 unfold uZ
 conv => arg 2; whnf
 rw [zR]
 generalize ha : S.length = a
 have hr := h0.rn
 have hA := h0.1
 have ht := fun {ops dst k T F Q} => zH (ops := ops) (dst := dst) (l := k) (T := T) (F := F) (Q := Q) rfl (zpi (S ++ [.row [kO B I M g] 55, .row [blkV (zK 256)] 42]) _ c B I M (hv0.keep Keep.refl.app) no (by omega))
 obtain ⟨o, S1, ⟨hF, hC, u, rfl, hu⟩, hkn⟩ := vU rfl (zxw (S ++ [.row [kO B I M g] 55, .row [blkV (zK 256)] 42, .row [kO B I M g] 55]) A c r m g C h0.app (by rw [List.getElem?_append_left (zQ hg)]; exact hg) no hn)
 have hkn := fun {ops dst k T F Q} => hkn _ rfl (ops := ops) (dst := dst) (k := k) (T := T) (F := F) (Q := Q)
 have hsl := hC.at.ok.see_len hn
 have hst := bt42.store hu hsl (w := blkV (zK 256)) isB_v z256
 have hld := bt42.load hu hsl
 have hu1 := hu.one
 have h4 : S1[a + 1]? = some (.row [blkV (zK 256)] 42) := hF.row (by rw [List.getElem?_append_right (by omega), ha, Nat.add_sub_cancel_left]; rfl) (zrl (by omega))
 have hr4 := zD (e := 42) h4
 have hp4 := fun y => qJ (y := y) (e := 42) h4
 have hal := zQ h4
 simp (maxSteps:=1000000) (disch:=first|assumption|omega|rfl) only [↓gp, gc, Nat.reduceAdd, ↓vI, List.append_assoc, List.length_append, List.length_cons, List.length_nil, ft52, z42, zf42, ha, rA0 ha, lr52, z7l, ht, bo96, jG, Bool.not_true, zr0, zlz, cvOn, hkn, hst, hld, hu1, hr4, hp4]
 refine ⟨rfl, u, ?_, ?_, hC.setn (by omega), _, rfl, hu⟩
 ·exact z0x rfl ((zG (zD (e := 42) (List.getElem?_set_self hal))).trans hld)
 ·exact ((Frm.refl.app).trans hF).setn (by omega)
structure Ino where
 kind : Int
 links : Int
 size : Int
 parent : Int
 d0 : Int
 d1 : Int
 d2 : Int
 d3 : Int
 d4 : Int
 d5 : Int
 ind : Int
 deriving DecidableEq
def qK (i : Ino) : D := .agg [.int .i64 i.kind, .int .i64 i.links, .int .i64 i.size, .int .i64 i.parent, .int .i64 i.d0, .int .i64 i.d1, .int .i64 i.d2, .int .i64 i.d3, .int .i64 i.d4, .int .i64 i.d5, .int .i64 i.ind]
abbrev z61V : V := .agg [.d (.int .i64 0), .d (.int .i64 0), .d (.int .i64 0), .d (.int .i64 0), .d (.int .i64 0), .d (.int .i64 0), .d (.int .i64 0), .d (.int .i64 0), .d (.int .i64 0), .d (.int .i64 0), .d (.int .i64 0)]
theorem srI {i : Ino} : qM Tryz.prog 70 0 (.d (qK i)) z61V = some (.d (qK i)) := by kernel_rfl
theorem lrI {i : Ino} : qT Tryz.prog 70 0 (some (.d (qK i))) = some (.d (qK i)) := by kernel_rfl
theorem ftI {i : Ino} : qB Tryz.prog 70 (.d (qK i)) = true := by kernel_rfl
theorem fdI {i : Ino} : z8u Tryz.prog 70 0 (.d (qK i)) = some (.d (.int .i64 i.kind)) := by kernel_rfl
theorem zqb (b : List UInt8) (hb : b.length = 256) (k0 : Nat) (hk0 : k0 < 8) (i : Ino) (bb : Bool) (h : Ev cfg 123 [blkD (wP b k0)] (.ret (.tup [.d (qK i), .d (.bool bb)]))) : Ev cfg 83 [blkD b, .int .i64 (k0 : Int)] (.ret (.tup [.d (qK i), .d (.bool bb)])) := by
 refine kD rfl rfl zx9 ?_
 show Wp cfg (Tryz.f83.body.getD .skip) ((.d (blkD b)) :: (.d (.int .i64 (k0 : Int))) :: uZ ((.tup []) :: (.tup []) :: (.tup []) :: (.tup []) :: (.tup []) :: (.tup []) :: (.tup []) :: [])) [] [] _
 unfold uZ
 conv => arg 2; whnf
 have hf := fd42 hb
 have c1 : ¬ (k0 : Int) < 0 := by omega
 have c2 : ¬ (k0 : Int) ≥ 8 := by omega
 have h1 : ∀ {ops dst k T S F Q}, WpR cfg ops dst k T S F Q (some (.enter 124 [.d (blkD b), .d (.int .i64 (k0 : Int))])) = WpL cfg ops k (putT T dst (.d (blkD (wP b k0)))) S F Q := fun {ops dst k T S F Q} => qA (C := cfg) (ds := [blkD b, .int .i64 (k0 : Int)]) rfl (zyl b hb k0 hk0)
 have h2 : ∀ {ops dst k T S F Q}, WpR cfg ops dst k T S F Q (some (.enter 123 [.d (blkD (wP b k0))])) = WpL cfg ops k (putT T dst (.tup [.d (qK i), .d (.bool bb)])) S F Q := fun {ops dst k T S F Q} => qA (C := cfg) (ds := [blkD (wP b k0)]) rfl h
 simp (maxSteps:=1000000) (disch:=first|assumption|omega|rfl) only [↓gp, gc, Nat.reduceAdd, hf, z61, zf61, z08, h1, q2k, h2, q2b, srI]
 exact z2y rfl rfl ((zG rfl).trans lrI) rfl rfl rfl rfl
abbrev layV (l : Lay) : V := .agg [.d (.int .i64 l.blocks), .d (.int .i64 l.inodes), .d (.int .u64 l.merge)]
section
variable {ops : Array Oper} {dst : Option Tmp} {k : List Oper} {T : List V} {S : zB} {F : Dfs} {Q : Post}
theorem zhs {l : Lay} (hb : InB l.blocks) (hi : InB l.inodes) (hm : MayL l) {ino : Nat} (h1 : 1 ≤ ino) (h2 : (ino : Int) ≤ l.inodes) : WpR cfg ops dst k T S F Q (some (.enter 82 [layV l, .d (.int .i64 (ino : Int))])) = WpL cfg ops k (putT T dst (.tup [.d (.int .i64 ((2 + (ino - 1) / 8 : Nat) : Int)), .d (.int .i64 (((ino - 1) % 8 : Nat) : Int)), .d (.bool true)])) S F Q :=
 zj9 (ds := [encLay l, .int .i64 (ino : Int)]) rfl rfl rfl (zqd l hb hi hm ino h1 h2)
theorem znl {u : V} {b : List UInt8} (hu : IsB u b) (hb : b.length = 256) {k0 : Nat} (hk0 : k0 < 8) {i : Ino} {bb : Bool} (h : Ev cfg 123 [blkD (wP b k0)] (.ret (.tup [.d (qK i), .d (.bool bb)]))) : WpR cfg ops dst k T S F Q (some (.enter 83 [u, .d (.int .i64 (k0 : Int))])) = WpL cfg ops k (putT T dst (.tup [.d (qK i), .d (.bool bb)])) S F Q :=
 zj9 (ds := [blkD b, .int .i64 (k0 : Int)]) rfl (by simp only [allO, hu.frz (n := 10), zJ]; rfl) rfl (zqb b hb k0 hk0 i bb h)
end
theorem zka (S : zB) (v : V) (B c r m : Nat) (l : Lay) (C : CS) (h0 : CacheIn S B c r m C) (hv : ViewAt S v c l.blocks l.inodes l.merge) (hB : l.blocks = C.img.length) (hb : InB l.blocks) (hi : InB l.inodes) (hm : MayL l) (ino : Nat) (h1 : 1 ≤ ino) (h2 : (ino : Int) ≤ l.inodes) (i : Ino) (bb : Bool) (hcl : Ev cfg 123 [blkD (wP (C.see (2 + (ino - 1) / 8)) ((ino - 1) % 8))] (.ret (.tup [.d (qK i), .d (.bool bb)]))) : EvS cfg 33 [v, .d (.int .i64 (ino : Int))] S (SeeR B c r m C S fun v => v = .d (qK i)) := by
 have hv0 := hv
 obtain ⟨g, rfl, hg⟩ := hv
 refine qH rfl zyz ?_
 show Wp cfg (Tryz.f33.body.getD .skip) ((kO l.blocks l.inodes l.merge g) :: (.d (.int .i64 (ino : Int))) :: uZ (uZ ((.tup []) :: (.tup []) :: (.tup []) :: (.tup []) :: (.tup []) :: (.tup []) :: (.tup []) :: (.tup []) :: []))) S [] _
 unfold uZ
 conv => arg 2; whnf
 rw [zR]
 generalize ha : S.length = a
 have hr := h0.rn
 have hA := h0.1
 have hno : 2 + (ino - 1) / 8 < C.img.length := by
  have h3 := hm.2.2.2.2.2
  have h4 : l.inodes.tdiv 8 = l.inodes / 8 := Int.tdiv_eq_ediv_of_nonneg (by omega)
  have h5 := hm.2.2.2.2.1
  have h6 : l.inodes.tmod 8 = l.inodes % 8 := Int.tmod_eq_emod_of_nonneg (by omega)
  omega
 obtain ⟨o, S1, ⟨hF, hC, u, rfl, hu⟩, hkn⟩ := vU rfl (z7t (S ++ [.row [kO l.blocks l.inodes l.merge g] 55, .row [z61V] 70]) _ B c r m _ _ _ C h0.app (hv0.keep Keep.refl.app) hB _ hno)
 have hkn := fun {ops dst k T F Q} => hkn _ rfl (ops := ops) (dst := dst) (k := k) (T := T) (F := F) (Q := Q)
 have hsl := hC.at.ok.see_len hno
 have hw := fun {ops dst k T S F Q} => zhs (ops := ops) (dst := dst) (k := k) (T := T) (S := S) (F := F) (Q := Q) hb hi hm h1 h2
 have ht := fun {ops dst k T S F Q} => znl (ops := ops) (dst := dst) (k := k) (T := T) (S := S) (F := F) (Q := Q) hu hsl (Nat.mod_lt _ (by decide)) hcl
 have hu1 := hu.one
 have h4 : S1[a + 1]? = some (.row [z61V] 70) := hF.row (by rw [List.getElem?_append_right (by omega), ha, Nat.add_sub_cancel_left]; rfl) rfl
 have h4' : ∀ l, (S1 ++ l)[a + 1]? = some (.row [z61V] 70) := fun l => by rw [List.getElem?_append_left (zQ h4)]; exact h4
 have hr4 := fun l => zD (e := 70) (h4' l)
 have hp4 := fun l y => qJ (y := y) (e := 70) (h4' l)
 have hal := zQ h4
 generalize ha1 : S1.length = a1
 simp (maxSteps:=1000000) (disch:=first|assumption|omega|rfl) only [↓gp, gc, Nat.reduceAdd, List.append_assoc, List.length_append, List.length_cons, List.length_nil, ft52, z61, zf61, ha, rA0 ha, lr52, z7l, z0c, z5a, hw, bo82, jG, Bool.not_true, hkn, bo49, hu1, ht, bo83, ha1, rA0 ha1, pA0 ha1, srI, lrI, hr4, hp4]
 have hset : List.set (S1 ++ [Ob.row [.d (qK i)] 70]) (a + 1) (.row [.d (qK i)] 70) = S1.set (a + 1) (.row [.d (qK i)] 70) ++ [.row [.d (qK i)] 70] := List.set_append_left _ _ hal
 rw [hset]
 refine ⟨rfl, .d (qK i), ?_, ?_, (hC.setn (by omega)).app, _, rfl, rfl⟩
 ·refine z0x rfl ((zG (zD (e := 70) ?_)).trans lrI)
  rw [List.getElem?_append_left (by rw [List.length_set]; exact hal), List.getElem?_set_self hal]
 ·exact (((Frm.refl.app).trans hF).setn (by omega)).app
def PatV (S : zB) (p dv : V) (a : Int) (b : List UInt8) : Prop := (p = .agg [.d (.int .i64 a), dv] ∧ (OwnS S dv 5 (bysV b) ∨ dv = .d (encB b) ∨ dv = .ts (b.map byD))) ∨ (p = .d (patD a b) ∧ dv = .d (encB b))
section
variable {S S' : zB} {p dv : V} {a : Int} {b : List UInt8}
theorem PatV.frm {ts ms : List Nat} {r : Nat} (h : PatV S p dv a b) (hk : Frm ts ms 42 r S S') (h5 : (!ts.contains 5) = true) : PatV S' p dv a b := by
 rcases h with ⟨h1, h2 | h2⟩ | h
 ·exact .inl ⟨h1, .inl (hk.own h2 (by rw [h5]; rfl))⟩
 ·exact .inl ⟨h1, .inr h2⟩
 ·exact .inr h
theorem PatV.one (h : PatV S p dv a b) : p.one = true := by
 rcases h with ⟨rfl, _⟩ | ⟨rfl, rfl⟩ <;> rfl
theorem PatV.ft (h : PatV S p dv a b) : qB Tryz.prog 78 p = true := by
 rcases h with ⟨rfl, _⟩ | ⟨rfl, rfl⟩ <;> kernel_rfl
theorem PatV.l0 (h : PatV S p dv a b) : qT Tryz.prog 78 0 (some p) = some p := by
 rcases h with ⟨rfl, _⟩ | ⟨rfl, rfl⟩ <;> kernel_rfl
theorem PatV.l1 (h : PatV S p dv a b) : qT Tryz.prog 76 1 (some p) = some dv := by
 rcases h with ⟨rfl, _⟩ | ⟨rfl, rfl⟩ <;> kernel_rfl
theorem PatV.s1 (h : PatV S p dv a b) {id n : Nat} : qM Tryz.prog 76 1 (.rs id 0 n) p = some (.agg [.d (.int .i64 a), .rs id 0 n]) := by
 rcases h with ⟨rfl, _⟩ | ⟨rfl, rfl⟩ <;> kernel_rfl
theorem PatV.fz (h : PatV S p dv a b) : Go.Vm.frz S zJ p = some (patD a b) := by
 rcases h with ⟨rfl, h2⟩ | ⟨rfl, rfl⟩
 ·have h0 : Go.Vm.frz S 11 (.d (.int .i64 a)) = some (.int .i64 a) := rfl
  have hf : Go.Vm.frz S 11 dv = some (encB b) := by
   rcases h2 with h2 | rfl | rfl
   ·have hd' : OwnS S dv 5 ((b.map byD).map .d) := by rw [List.map_map]; exact h2
    exact zbo (n := 9) hd'
   ·rfl
   ·rfl
  show (match allO (Go.Vm.frz S 11) [.d (.int .i64 a), dv] with | some ds => if ds.any D.isAgg then none else some (D.agg ds) | none => none) = _
  simp only [allO, h0, hf]
  rfl
 ·rfl
theorem zui {dv : V} (hel : kK S dv = some (bysV b)) (hs : ∀ s, dv ≠ .d (.str s)) (h0 : b ≠ []) (hl : b.length ≤ 100000) : qN Tryz.prog S 76 76 (.ts []) dv = some (.rs S.length 0 b.length, S ++ [rowY b], 2) := by
 have hall : (bysV b).all (qB Tryz.prog 5) = true := by
  rw [List.all_eq_true]
  intro y hy
  obtain ⟨z, hz, rfl⟩ := List.mem_map.1 hy
  exact zr1 _
 have h5 : (sz Tryz.prog 5).isSome = true := by kernel_rfl
 have src : srcV Tryz.prog S 5 76 dv = some (bysV b) := by
  cases dv with
  | d x => cases x with
   | str s => exact absurd rfl (hs s)
   | _ => simp only [srcV, Tryz.underlying76, hel, hall, h5, Bool.and_self, if_true]
  | _ => simp only [srcV, Tryz.underlying76, hel, hall, h5, Bool.and_self, if_true]
 cases b with
 | nil => exact absurd rfl h0
 | cons x r =>
  have hr : room Tryz.prog 5 (r.length + 1) = true := zjc (by simp at hl; omega)
  unfold bysV at src
  rw [List.map_cons] at src
  simp only [qN, Tryz.underlying76, src, zyp, if_true, List.all_nil, List.length_nil, List.length_map, Nat.zero_add, hr, Bool.and_self, List.map_nil, List.nil_append]
  rfl
theorem PatV.app (h : PatV S p dv a b) (h0 : b ≠ []) (hl : b.length ≤ 100000) : qN Tryz.prog S 76 76 (.ts []) dv = some (.rs S.length 0 b.length, S ++ [rowY b], 2) := by
 have he : kK S dv = some (bysV b) ∧ ∀ s, dv ≠ .d (.str s) := by
  rcases h with ⟨_, (⟨rfl, h2⟩ | ⟨id, rfl, h2⟩) | rfl | rfl⟩ | ⟨_, rfl⟩
  ·have : b = [] := by simpa [bysV] using h2
   exact absurd this h0
  ·refine ⟨?_, fun s hh => by cases hh⟩
   simp only [kK, h2, Nat.zero_add, Nat.le_refl, if_true, List.drop_zero, List.take_length]
  ·refine ⟨?_, fun s hh => by cases hh⟩
   show some ((b.map fun x => D.int .u8 x.toNat).map V.d) = _
   rw [List.map_map]
   rfl
  ·refine ⟨?_, fun s hh => by cases hh⟩
   show some ((b.map byD).map V.d) = _
   rw [List.map_map]
   rfl
  ·refine ⟨?_, fun s hh => by cases hh⟩
   show some ((b.map fun x => D.int .u8 x.toNat).map V.d) = _
   rw [List.map_map]
   rfl
 exact zui he.1 he.2 h0 hl
end
theorem z0i {ops : Array Oper} {dst : Option Tmp} {k : List Oper} {T : List V} {S : zB} {F : Dfs} {Q : Post} {p dv : V} {a : Int} {b : List UInt8} (h : PatV S p dv a b) (ha : InB a) : WpR cfg ops dst k T S F Q (some (.enter 134 [p])) = WpL cfg ops k (putT T dst (.d (.int .i64 (if kP a b then 0 else 2)))) S F Q :=
 zj9 (ds := [patD a b]) rfl (by simp only [allO, h.fz]) rfl (zg8 a b ha)
def CS.put (C : CS) (no a : Int) (b : List UInt8) (needs : List Int) : CS := ⟨C.img, C.list ++ [⟨C.last + 1, no, a, b, needs⟩], C.last + 1⟩
theorem CS.Ok.put {C : CS} (h : C.Ok) {no : Nat} {a : Int} {b : List UInt8} {needs : List Int} (hn : no < C.img.length) (hp : kP a b) (hl : C.last < 100000) (h1 : needs.Pairwise (· < ·)) (h2 : ∀ x ∈ needs, 1 ≤ x ∧ x ≤ C.last) : (C.put no a b needs).Ok := by
 refine ⟨h.n, h.len, ?_, ?_, hl⟩
 ·intro ch hch
  rcases List.mem_append.1 hch with hch | hch
  ·obtain ⟨g1, g2, g3, g4, g5, g6⟩ := h.chs ch hch
   refine ⟨g1, g2, g3, g4, ?_, g6⟩
   show ch.id ≤ ((C.last + 1 : Nat) : Int)
   omega
  ·simp only [List.mem_singleton] at hch
   subst hch
   refine ⟨hp, by show (0 : Int) ≤ (no : Int); omega, by show (no : Int) < (C.img.length : Int); omega, by show (1 : Int) ≤ (C.last : Int) + 1; omega, by show (C.last : Int) + 1 ≤ ((C.last + 1 : Nat) : Int); omega, h1, fun x hx => ?_⟩
   have := h2 x hx
   exact ⟨this.1, by show x < (C.last : Int) + 1; omega⟩
 ·show (C.list ++ [_]).Pairwise _
  rw [List.pairwise_append]
  refine ⟨h.ids, List.pairwise_singleton _ _, ?_⟩
  intro x hx y hy
  simp only [List.mem_singleton] at hy
  subst hy
  have := (h.chs x hx).2.2.2.2.1
  show x.id < (C.last : Int) + 1
  omega
def NdR (c r m : Nat) (C : CS) (needs : List Int) (S : zB) (o : Out) (S' : zB) : Prop := FrC m r S S' ∧ CacheAt S' c r m C ∧ ∃ nv, o = .ret (.tup [nv, .d (.bool true)]) ∧ OwnS S' nv 3 (zW needs)
theorem zro {a : Int} {id n : Nat} : qT Tryz.prog 78 0 (some (.agg [.d (.int .i64 a), .rs id 0 n])) = some (.agg [.d (.int .i64 a), .rs id 0 n]) := by kernel_rfl
theorem zk5 {m : Nat} (h : m ≤ 1000000) : room Tryz.prog 80 m = true := zc4 rfl (by decide +kernel) h
theorem zra : zOk Tryz.prog 80 = true := by kernel_rfl
section
variable {d m x y n id : Nat} {L dv nv : V} {last last' a b c e : Int}
theorem sc3 : qM Tryz.prog 3 3 (.d (.int .i64 last')) (cacV d m L last) = some (cacV d m L last') := by kernel_rfl
theorem sc2 : qM Tryz.prog 74 2 (.rs id 0 n) (cacV d m L last) = some (cacV d m (.rs id 0 n) last) := by kernel_rfl
theorem zys (hn : nv = .ts [] ∨ ∃ i k, nv = .rs i 0 k) : wY Tryz.prog 80 [(0, .d (.int .i64 a)), (1, .d (.int .i64 b)), (2, .agg [.d (.int .i64 c), .rs id 0 n]), (3, nv)] = some (.agg [.d (.int .i64 a), .d (.int .i64 b), .d (.int .i64 c), .rs id 0 n, nv]) := by
 rcases hn with rfl | ⟨i, k, rfl⟩ <;> kernel_rfl
theorem q0w {S : zB} (hn : nv = .ts [] ∨ ∃ i k, nv = .rs i 0 k) : bs1 Tryz.prog S 74 (.agg [.d (.int .i64 a), .d (.int .i64 b), .d (.int .i64 c), .rs id 0 n, nv]) = some (.val (.rs S.length 0 1) (S ++ [.row [.agg [.d (.int .i64 a), .d (.int .i64 b), .d (.int .i64 c), .rs id 0 n, nv]] 80]) 2) := by
 have hk : sz Tryz.prog 80 = some 5 := by kernel_rfl
 have hf : qB Tryz.prog 80 (.agg [.d (.int .i64 a), .d (.int .i64 b), .d (.int .i64 c), .rs id 0 n, nv]) = true := by kernel_rfl
 simp only [bs1, u119, z122, hk, z2d, hf]
 rcases hn with rfl | ⟨i, k, rfl⟩ <;> rfl
theorem f122 : qB Tryz.prog 80 (.agg [.d (.int .i64 a), .d (.int .i64 b), .d (.int .i64 c), .rs id 0 n, nv]) = true := by kernel_rfl
end
theorem z1r {S : zB} {v : V} {e : TypeId} {xs : List V} (h : OwnS S v e xs) : v = .ts [] ∨ ∃ i k, v = .rs i 0 k := by
 rcases h with ⟨rfl, _⟩ | ⟨id, rfl, _⟩
 ·exact .inl rfl
 ·exact .inr ⟨_, _, rfl⟩
theorem CacheP.put {S S6 : zB} {c d r m al no : Nat} {L L' dv nv p : V} {es vs : List V} {f : Int → Option V} {z : Int} {w q : Nat} {C : CS} {a : Int} {b : List UInt8} {needs : List Int} (h : CacheP S c d r m L es vs f z w q C) (ha : S[al]? = some (.row [p] 78)) (hK : ∀ j o, S[j]? = some o → j ≠ c → j ≠ al → (∀ xs, o ≠ .row xs 80) → S6[j]? = some o) (hc : S6[c]? = some (.row [cacV d m L' ((C.last : Int) + 1)] 126)) (hL : OwnS S6 L' 80 (es ++ [.agg [.d (.int .i64 ((C.last : Int) + 1)), .d (.int .i64 (no : Int)), .d (.int .i64 a), dv, nv]])) (hdv : OwnS S6 dv 5 (bysV b)) (hnv : OwnS S6 nv 3 (zW needs)) (hok : (C.put no a b needs).Ok) :
  CacheP S6 c d r m L' (es ++ [.agg [.d (.int .i64 ((C.last : Int) + 1)), .d (.int .i64 (no : Int)), .d (.int .i64 a), dv, nv]]) vs f z w q (C.put no a b needs) := by
 obtain ⟨l, k, h1, h2⟩ := h.hm
 have kp : ∀ {j : Nat} {o : Ob}, S[j]? = some o → (∀ xs, o ≠ .row xs 126) → (∀ xs, o ≠ .row xs 78) → (∀ xs, o ≠ .row xs 80) → S6[j]? = some o := fun hj n1 n2 n3 => hK _ _ hj (by rintro rfl; exact n1 _ (getE hj h.hc)) (by rintro rfl; exact n2 _ (getE hj ha)) n3
 have own : ∀ {u : V} {t : TypeId} {ys : List V}, t ≠ 126 → t ≠ 78 → t ≠ 80 → OwnS S u t ys → OwnS S6 u t ys := fun n1 n2 n3 ho => by
  rcases ho with ho | ⟨id, x, y⟩
  ·exact .inl ho
  ·exact .inr ⟨id, x, kp y (fun _ hh => by cases hh; exact n1 rfl) (fun _ hh => by cases hh; exact n2 rfl) (fun _ hh => by cases hh; exact n3 rfl)⟩
 have hcast : ((C.last + 1 : Nat) : Int) = (C.last : Int) + 1 := by omega
 refine ⟨?_, ⟨l, k, kp h1 (fun _ hh => by cases hh) (fun _ hh => by cases hh) (fun _ hh => by cases hh), h2⟩, ⟨kp h.dk.hd (fun _ hh => by cases hh) (fun _ hh => by cases hh) (fun _ hh => by cases hh), kp h.dk.hr (fun _ hh => by cases hh) (fun _ hh => by cases hh) (fun _ hh => by cases hh), h.dk.ne⟩, h.zb, h.il, h.im, h.kn, hL, ⟨?_, ?_⟩, ?_, hok⟩
 ·show S6[c]? = some (.row [cacV d m L' ((C.last + 1 : Nat) : Int)] 126)
  rw [hcast]; exact hc
 ·show (es ++ [_]).length = (C.list ++ [_]).length
  rw [List.length_append, List.length_append, h.lc.1]; rfl
 ·intro i e ch he hch
  have hch : (C.list ++ [_])[i]? = some ch := hch
  rcases Nat.lt_or_ge i es.length with hi | hi
  ·rw [List.getElem?_append_left hi] at he
   rw [List.getElem?_append_left (by rw [← h.lc.1]; exact hi)] at hch
   exact (h.lc.2 i e ch he hch).mono (fun _ _ => own (by decide) (by decide) (by decide)) (fun _ _ => own (by decide) (by decide) (by decide))
  ·rw [List.getElem?_append_right hi] at he
   rw [List.getElem?_append_right (by rw [← h.lc.1]; exact hi), ← h.lc.1] at hch
   have hz : i - es.length = 0 := by
    have := (List.getElem?_eq_some_iff.1 he).1
    simp at this
    omega
   rw [hz] at he hch
   cases he
   cases hch
   exact ⟨dv, nv, rfl, hdv, hnv⟩
 ·show w + (C.list ++ [_]).length ≤ C.last + 1 + 100
  have := h.wq
  rw [List.length_append, List.length_singleton]
  omega
theorem zvt (S : zB) (c r m : Nat) (C : CS) (h0 : CacheAt S c r m C) (no : Nat) (hn : no < C.img.length) (p dv : V) (a : Int) (b : List UInt8) (hp : PatV S p dv a b) (hpk : kP a b) (ha : InB a) (nd : V) (needs : List Int) (hneed : ∀ S1, CacheAt S1 c r m C → Keep S S1 → EvS cfg 135 [.ref c 0 0, nd] S1 (NdR c r m C needs S1)) (hd1 : nd.one = true) (h1 : needs.Pairwise (· < ·)) (h2 : ∀ x ∈ needs, 1 ≤ x ∧ x ≤ C.last) (hl : C.last < 100000) :
  EvS cfg 97 [.ref c 0 0, .d (.int .i64 (no : Int)), p, nd] S (fun o S' => FrC m r S S' ∧ CacheAt S' c r m (C.put no a b needs) ∧ o = .ret (.tup [.d (.int .i64 ((C.last : Int) + 1)), .d (.int .i64 0)])) := by
 refine qH rfl zqx ?_
 show Wp cfg (Tryz.f97.body.getD .skip) ((.ref c 0 0) :: (.d (.int .i64 (no : Int))) :: p :: nd :: uZ (uZ (uZ (uZ (uZ (uZ ((.tup []) :: (.tup []) :: (.tup []) :: []))))))) S [] _
 unfold uZ
 conv => arg 2; whnf
 rw [zR]
 generalize hal : S.length = al
 have hft := hp.ft
 have hl0 := hp.l0
 have hk0 : Keep S (S ++ [.row [p] 78]) := Keep.refl.app
 have hp0 : PatV (S ++ [.row [p] 78]) p dv a b := hp.frm (ts := []) (ms := []) (r := 0) (Frm.keep hk0) rfl
 have hck := fun {ops dst k T F Q} => z0i (ops := ops) (dst := dst) (k := k) (T := T) (F := F) (Q := Q) hp0 ha
 rw [if_pos hpk] at hck
 obtain ⟨o, S1, ⟨hF1, hC1, nv, rfl, hnv⟩, hnd⟩ := vU rfl (hneed _ (h0.keep hk0) hk0)
 have hnd := fun {ops dst k T F Q} => hnd _ rfl (ops := ops) (dst := dst) (k := k) (T := T) (F := F) (Q := Q)
 obtain ⟨o, S2, ⟨rfl, hF2, d, L, es, vs, f, z, w, q, h, hq, hfs⟩, hkn⟩ := vU rfl (zq8 S1 c r m C hC1 no hn)
 have hkn := fun {ops dst k T F Q} => hkn _ rfl (ops := ops) (dst := dst) (k := k) (T := T) (F := F) (Q := Q)
 have hF02 := hF1.trans hF2
 have hc2 := zD (e := 126) h.hc
 have hpc2 := fun y => qJ (y := y) (e := 126) h.hc
 have ha2 : S2[al]? = some (.row [p] 78) := hF02.row (by subst hal; simp) rfl
 have hp2 : PatV S2 p dv a b := hp0.frm hF02 rfl
 have hnv2 := hF2.own hnv rfl
 have hw : IntKind.i64.wrap ((C.last : Int) + 1) = (C.last : Int) + 1 := wrap64 (by omega)
 have hb0 : b ≠ [] := by rintro rfl; have := hpk.1; simp at this
 have hbl : b.length ≤ 100000 := by have := hpk.2.1; omega
 have hnv1 := qL hnv
 have hca : al ≠ c := by rintro rfl; cases getE ha2 h.hc
 generalize hS3 : S2.set c (.row [cacV d m L ((C.last : Int) + 1)] 126) = S3
 have hF3 : FrC m r S2 S3 := hS3 ▸ Frm.refl.set (fun q hq => by cases getE h.hc hq; rfl)
 have hp3 := hp2.frm hF3 rfl
 have hap := hp3.app hb0 hbl
 have ha3 : S3[al]? = some (.row [p] 78) := hF3.row ha2 rfl
 have hc3 : S3[c]? = some (.row [cacV d m L ((C.last : Int) + 1)] 126) := by rw [← hS3]; exact List.getElem?_set_self (zQ h.hc)
 have hp1 := hp.one
 have hl1 := hp.l1
 have hs1 := fun id n => hp.s1 (id := id) (n := n)
 have hra3 := zD (e := 78) ha3
 have hra4 := zD (e := 78) (id := al) (S := S3 ++ [rowY b]) (x := p) (by rw [List.getElem?_append_left (zQ ha3)]; exact ha3)
 generalize hal3 : S3.length = al3
 have hpa4 : ∀ y, jQ (S3 ++ [rowY b]) al 0 y = some (S3.set al (.row [y] 78) ++ [rowY b]) := fun y => by
  rw [qJ (x := p) (e := 78) (by rw [List.getElem?_append_left (zQ ha3)]; exact ha3), List.set_append_left _ _ (zQ ha3)]
 simp (maxSteps:=1000000) (disch:=first|assumption|omega|rfl) only [↓gp, gc, Nat.reduceAdd, ↓vbs, hft, hal, rA0 hal, hl0, hp1, hck, z9p, z6l, hnd, zp5, hd1, hnv1, jG, Bool.not_true, hkn, znv, z0a, hc2, lc3, hw, sc3, hpc2, hS3, zN, zgk, z2a, hra3, hl1, hap, hal3, hra4, hs1, hpa4]
 have h2K : ∀ j o, S2[j]? = some o → j ≠ c → j ≠ al → (S3.set al (.row [.agg [.d (.int .i64 a), .rs al3 0 b.length]] 78) ++ [rowY b])[j]? = some o := fun j o hj n1 n2 => by
  have hl : j < S3.length := by rw [← hS3, List.length_set]; exact zQ hj
  rw [List.getElem?_append_left (by rw [List.length_set]; exact hl), List.getElem?_set_ne (Ne.symm n2), ← hS3, List.getElem?_set_ne (Ne.symm n1)]
  exact hj
 have h4c : (S3.set al (.row [.agg [.d (.int .i64 a), .rs al3 0 b.length]] 78) ++ [rowY b])[c]? = some (.row [cacV d m L ((C.last : Int) + 1)] 126) := by
  rw [List.getElem?_append_left (by rw [List.length_set]; exact zQ hc3), List.getElem?_set_ne hca]
  exact hc3
 have h4a : (S3.set al (.row [.agg [.d (.int .i64 a), .rs al3 0 b.length]] 78) ++ [rowY b])[al]? = some (.row [.agg [.d (.int .i64 a), .rs al3 0 b.length]] 78) := by
  rw [List.getElem?_append_left (by rw [List.length_set]; exact zQ ha3), List.getElem?_set_self (zQ ha3)]
 have h4y : (S3.set al (.row [.agg [.d (.int .i64 a), .rs al3 0 b.length]] 78) ++ [rowY b])[al3]? = some (rowY b) := by
  rw [List.getElem?_append_right (by rw [List.length_set]; omega), List.length_set, hal3, Nat.sub_self]; rfl
 have hF4 : FrC m r S (S3.set al (.row [.agg [.d (.int .i64 a), .rs al3 0 b.length]] 78) ++ [rowY b]) := ((((Frm.refl.app).trans hF02).trans hF3).setn (by omega)).app
 have hca4 := Ne.symm hca
 generalize hS4 : S3.set al (.row [.agg [.d (.int .i64 a), .rs al3 0 b.length]] 78) ++ [rowY b] = S4 at *
 have r4c := zD (e := 126) h4c
 have r4a := zD (e := 78) h4a
 have hform := z1r hnv
 have hok := h.ok.put (no := no) hn hpk hl h1 h2
 have hes : es.length ≤ 200000 := by have := h.wq; have := h.ok.last; rw [h.lc.1]; omega
 generalize hchg : V.agg [.d (.int .i64 ((C.last : Int) + 1)), .d (.int .i64 (no : Int)), .d (.int .i64 a), .rs al3 0 b.length, nv] = chg at *
 have hbs : ∀ S : zB, bs1 Tryz.prog S 74 chg = some (.val (.rs S.length 0 1) (S ++ [.row [chg] 80]) 2) := fun S => by rw [← hchg]; exact q0w hform
 have hf : qB Tryz.prog 80 chg = true := by rw [← hchg]; exact f122
 have hr5' : ∀ l, rowE (S4 ++ l) c 0 = some (cacV d m L ((C.last : Int) + 1)) := fun l => zD (e := 126) (by rw [List.getElem?_append_left (zQ h4c)]; exact h4c)
 generalize ha4 : S4.length = a4
 have hlo4 : OwnS (S4 ++ [.row [chg] 80]) L 80 es := by
  rcases h.lo with ho | ⟨id, x, y⟩
  ·exact .inl ho
  ·refine .inr ⟨id, x, ?_⟩
   have := h2K id _ y (by rintro rfl; cases getE y h.hc) (by rintro rfl; cases getE y ha2)
   rw [List.getElem?_append_left (zQ this)]; exact this
 have y4 : ∀ {id : Nat} {xs : List V} {e : TypeId}, S2[id]? = some (.row xs e) → e ≠ 126 → e ≠ 78 → S4[id]? = some (.row xs e) := fun y n1 n2 => h2K _ _ y (by rintro rfl; cases getE y h.hc; exact n1 rfl) (by rintro rfl; cases getE y ha2; exact n2 rfl)
 have fin : ∀ (S6 : zB) (L' : V), (∀ j o, S4[j]? = some o → j ≠ c → (∀ xs, o ≠ .row xs 80) → S6[j]? = some o) → S6[c]? = some (.row [cacV d m L' ((C.last : Int) + 1)] 126) → OwnS S6 L' 80 (es ++ [chg]) → S4.length ≤ S6.length → FrC m r S S6 ∧ CacheAt S6 c r m (C.put no a b needs) := by
  intro S6 L' k6 c6 o6 l6
  refine ⟨⟨by have := hF4.1; omega, fun j o hj hc => ?_⟩, d, L', _, vs, f, z, w, q, h.put ha2 (S6 := S6) ?_ c6 (dv := .rs al3 0 b.length) (nv := nv) (by rw [hchg]; exact o6) (.inr ⟨al3, by unfold bysV; rw [List.length_map], ?_⟩) ?_ hok, hq⟩
  ·refine k6 j o (hF4.2 j o hj hc) ?_ ?_
   ·rintro rfl
    obtain ⟨d', L', es', vs', f', z', w', q', h', _⟩ := h0
    cases getE h'.hc hj
    cases hc
   ·rintro xs rfl
    cases hc
  ·exact fun j o hj n1 n2 n3 => k6 j o (h2K j o hj n1 n2) n1 n3
  ·exact k6 _ _ h4y (by rintro rfl; have := getE h4c h4y; simp [rowY] at this) (fun xs hh => by simp [rowY] at hh)
  ·rcases hnv2 with ho | ⟨id, x, y⟩
   ·exact .inl ho
   ·exact .inr ⟨id, x, k6 _ _ (y4 y (by decide) (by decide)) (by rintro rfl; have := getE y h.hc; simp at this) (fun xs hh => by simp at hh)⟩
 rcases zgv u119 zra s122 hlo4 (x := a4) (y := chg) (by rw [← ha4]; simp) hf (zk5 (by omega)) with ⟨rfl, rfl, hap5⟩ | ⟨id, rfl, hid, hap5⟩
 ·have hr5 : rowE (S4 ++ [Ob.row [chg] 80, .row [chg] 80]) c 0 = some (cacV d m (.ts []) ((C.last : Int) + 1)) := zD (e := 126) (by rw [List.getElem?_append_left (zQ h4c)]; exact h4c)
  have hp5 : ∀ y, jQ (S4 ++ [Ob.row [chg] 80, .row [chg] 80]) c 0 y = some (S4.set c (.row [y] 126) ++ [Ob.row [chg] 80, .row [chg] 80]) := fun y => by
   rw [qJ (e := 126) (by rw [List.getElem?_append_left (zQ h4c)]; exact h4c), List.set_append_left _ _ (zQ h4c)]
  have hr6 : ∀ y, rowE (S4.set c (.row [y] 126) ++ [Ob.row [chg] 80, .row [chg] 80]) c 0 = some y := fun y => rS0 (zQ h4c)
  simp only [List.append_assoc, List.length_append, List.length_cons, List.length_nil, ha4] at hap5
  refine qX (is := [0, 1, 2, 3, 4, 5, 6, 7, 8, 9, 10, 11, 12, 13, 14, 15, 16, 17]) (h := 0) (by kernel_rfl) (by kernel_rfl) ?_
  simp (maxSteps:=1000000) (disch:=first|assumption|omega|rfl) only [List.replicate_zero, eq_self, gw, ga, Nat.reduceAdd, ↓gq, vso, List.append_nil, List.append_assoc, r4c, r4a, qU, kI, z4c, z0a, lc2, lc3, zro, zys hform, hchg, hbs, ha4, hap5, hr5, hp5, sc2]
  refine ⟨zS (by kernel_rfl) (zS (by kernel_rfl) (qE rfl (by kernel_rfl) rfl (vB ((zG (hr5' _)).trans lc2)) (by simp [wV, qW, qQ, z1q, jN, wT]) zZ)), zS (by kernel_rfl) (zS (by kernel_rfl) (zS (by kernel_rfl) zZ)), zS (by kernel_rfl) (zS (by kernel_rfl) (zS (by kernel_rfl) zZ)), by kernel_rfl, ?_⟩
  simp (maxSteps:=1000000) (disch:=first|assumption|omega|rfl) only [↓gp, gc, Nat.reduceAdd, z0a, hr6, lc3]
  have hl4 := zQ h4c
  obtain ⟨g1, g2⟩ := fin (S4.set c (.row [cacV d m (.rs (a4 + 1) 0 1) ((C.last : Int) + 1)] 126) ++ [.row [chg] 80, .row [chg] 80]) (.rs (a4 + 1) 0 1) (fun j o hj n1 n2 => by
   rw [List.getElem?_append_left (by rw [List.length_set]; exact zQ hj), List.getElem?_set_ne (Ne.symm n1)]
   exact hj) (by rw [List.getElem?_append_left (by rw [List.length_set]; exact hl4), List.getElem?_set_self hl4]) (.inr ⟨a4 + 1, rfl, by
   rw [List.getElem?_append_right (by rw [List.length_set]; omega), List.length_set, ha4, Nat.add_sub_cancel_left]; rfl⟩) (by simp)
  exact ⟨rfl, _, z11 rfl rfl rfl rfl, g1, g2, rfl⟩
 ·have hid4 : S4[id]? = some (.row es 80) := by
   have := zQ hid
   rcases h.lo with ⟨e, _⟩ | ⟨id', e, y⟩
   ·cases e
   ·cases e; exact y4 y (by decide) (by decide)
  have hcid : c ≠ id := by rintro rfl; have := getE h4c hid4; simp at this
  have hil := zQ hid4
  have hl4 := zQ h4c
  have hset : (S4 ++ [Ob.row [chg] 80]).set id .dead = S4.set id .dead ++ [Ob.row [chg] 80] := List.set_append_left _ _ hil
  simp only [hset, List.append_assoc, List.length_append, List.length_cons, List.length_nil, ha4] at hap5
  have h5c : (S4.set id .dead)[c]? = some (.row [cacV d m (.rs id 0 es.length) ((C.last : Int) + 1)] 126) := by rw [List.getElem?_set_ne (Ne.symm hcid)]; exact h4c
  have hl5 := zQ h5c
  have hr5 : ∀ l, rowE (S4.set id .dead ++ l) c 0 = some (cacV d m (.rs id 0 es.length) ((C.last : Int) + 1)) := fun l => zD (e := 126) (by rw [List.getElem?_append_left hl5]; exact h5c)
  have hp5 : ∀ l y, jQ (S4.set id .dead ++ l) c 0 y = some ((S4.set id .dead).set c (.row [y] 126) ++ l) := fun l y => by
   rw [qJ (e := 126) (by rw [List.getElem?_append_left hl5]; exact h5c), List.set_append_left _ _ hl5]
  have hr6 : ∀ y l, rowE ((S4.set id .dead).set c (.row [y] 126) ++ l) c 0 = some y := fun y l => rS0 hl5
  refine qX (is := [0, 1, 2, 3, 4, 5, 6, 7, 8, 9, 10, 11, 12, 13, 14, 15, 16, 17]) (h := 0) (by kernel_rfl) (by kernel_rfl) ?_
  simp (maxSteps:=1000000) (disch:=first|assumption|omega|rfl) only [List.replicate_zero, eq_self, gw, ga, Nat.reduceAdd, ↓gq, vso, List.append_nil, List.append_assoc, r4c, r4a, qU, kI, z4c, z0a, lc2, lc3, zro, zys hform, hchg, hbs, ha4, hap5, hr5, hp5, sc2]
  refine ⟨zS (by kernel_rfl) (zS (by kernel_rfl) (qE rfl (by kernel_rfl) rfl (vB ((zG (hr5' _)).trans lc2)) (by simp [wV, qW, qQ, z1q, jN, wT]) zZ)), zS (by kernel_rfl) (zS (by kernel_rfl) (zS (by kernel_rfl) zZ)), zS (by kernel_rfl) (zS (by kernel_rfl) (zS (by kernel_rfl) zZ)), by kernel_rfl, ?_⟩
  simp (maxSteps:=1000000) (disch:=first|assumption|omega|rfl) only [↓gp, gc, Nat.reduceAdd, z0a, hr6, lc3]
  obtain ⟨g1, g2⟩ := fin ((S4.set id .dead).set c (.row [cacV d m (.rs (a4 + 1) 0 (es.length + 1)) ((C.last : Int) + 1)] 126) ++ ([.row [chg] 80] ++ [.row (es ++ [chg]) 80])) (.rs (a4 + 1) 0 (es.length + 1)) (fun j o hj n1 n2 => by
   rw [List.getElem?_append_left (by rw [List.length_set, List.length_set]; exact zQ hj), List.getElem?_set_ne (Ne.symm n1), List.getElem?_set_ne (by rintro rfl; exact n2 _ (getE hj hid4))]
   exact hj) (by rw [List.getElem?_append_left (by rw [List.length_set]; exact hl5), List.getElem?_set_self hl5]) (.inr ⟨a4 + 1, by rw [List.length_append]; rfl, by
   rw [List.getElem?_append_right (by rw [List.length_set, List.length_set]; omega), List.length_set, List.length_set, ha4, Nat.add_sub_cancel_left]; rfl⟩) (by simp)
  exact ⟨rfl, _, z11 rfl rfl rfl rfl, g1, g2, rfl⟩
def noZ (l : List Int) : List Int := l.filter (fun n => decide (n ≠ 0))
def IntsV (S : zB) (v : V) (l : List Int) : Prop := v = .d (encI l) ∨ v = .ts (l.map (.int .i64)) ∨ OwnS S v 3 (zW l)
section
variable {S S' : zB} {v : V} {l : List Int}
theorem IntsV.keep (h : IntsV S v l) (hk : Keep S S') : IntsV S' v l := by
 rcases h with h | h | h
 ·exact .inl h
 ·exact .inr (.inl h)
 ·exact .inr (.inr (hk.own h))
theorem IntsV.one (h : IntsV S v l) : v.one = true := by
 rcases h with rfl | rfl | h
 ·rfl
 ·rfl
 ·exact qL h
theorem IntsV.len (h : IntsV S v l) : zO Tryz.prog S .len [22] [v] = some (.val (.d (.int .i64 (l.length : Int))) S 0) := by
 rcases h with rfl | rfl | h
 ·rw [encI, q18, List.length_map]
 ·rw [znm Tryz.underlying22, List.length_map]
 ·rw [wC Tryz.underlying22 h]; unfold zW; rw [List.length_map]
theorem IntsV.ix (h : IntsV S v l) {i : Nat} (hi : i < l.length) : ∃ q, zI Tryz.prog S 22 v (.d (.int .i64 (i : Int))) = some q ∧ kF Tryz.prog S 3 q = some (.d (.int .i64 l[i])) := by
 rcases h with rfl | rfl | h
 ·exact ⟨_, ix22 hi, by kernel_rfl⟩
 ·refine ⟨.d (.ptr (.int .i64 l[i])), ?_, by kernel_rfl⟩
  have hl : i < (l.map (D.int .i64)).length := by simpa using hi
  have hf := zwp l[i]
  simp only [zI, intOf?, Tryz.underlying22, Int.toNat_natCast, List.getElem?_map, List.getElem?_eq_getElem hi, Option.map_some, hf, if_true]
  rw [if_pos ⟨by omega, by omega⟩]
 ·obtain ⟨id, h1, h2, _⟩ := wH Tryz.underlying22 (by kernel_rfl) h (i := i) (by unfold zW; simpa using hi)
  refine ⟨_, h1, (zG h2).trans ?_⟩
  simp only [zW, List.getElem_map]
  kernel_rfl
end
theorem zz5 (l : List Int) (hl : l.length ≤ 100000) (S0 : zB) (nd : V) (hnd : IntsV S0 nd l) (R : Post) : ∀ (k i : Nat) (S : zB) (v3 g0 g1 g2 g4 g5 g9 gI gE gG gB gC gA gD gL gM gF : V), l.length - i = k → i ≤ l.length → Keep S0 S → (∀ j, j < S0.length → NotAt v3 j) → OwnS S v3 3 (zW (noZ (l.take i))) →
 (∀ S v3 i' g0 g1 g2 g4 g5 g9 gI gE gG gB gC gA gD gL gM gF, Keep S0 S → OwnS S v3 3 (zW (noZ l)) → R (.exit 0) (g0 :: g1 :: g2 :: v3 :: g4 :: g5 :: nd :: (.d (.int .i64 (l.length : Int))) :: i' :: g9 :: gI :: gE :: gG :: gB :: gC :: gA :: gD :: gL :: gM :: gF :: []) S []) →
 Wp cfg (.loop (lpOf (Tryz.f98.body.getD .skip) 0)) (g0 :: g1 :: g2 :: v3 :: g4 :: g5 :: nd :: (.d (.int .i64 (l.length : Int))) :: (.d (.int .i64 (i : Int))) :: g9 :: gI :: gE :: gG :: gB :: gC :: gA :: gD :: gL :: gM :: gF :: []) S [] R := by
 intro k
 induction k with
 | zero =>
  intro i S v3 g0 g1 g2 g4 g5 g9 gI gE gG gB gC gA gD gL gM gF hk hi hK hN ho hR
  have hie : i = l.length := by omega
  subst hie
  rw [List.take_length] at ho
  rw [zR]
  refine zL ?_
  conv => arg 2; whnf
  simp (maxSteps:=1000000) (disch:=first|assumption|omega|rfl) only [↓gp, gc, Nat.reduceAdd]
  exact hR _ _ _ _ _ _ _ _ _ _ _ _ _ _ _ _ _ _ _ hK ho
 | succ k ih =>
  intro i S v3 g0 g1 g2 g4 g5 g9 gI gE gG gB gC gA gD gL gM gF hk hi hK hN ho hR
  have hlt : i < l.length := by omega
  have h3 : IntKind.i64.wrap ((i : Int) + 1) = ((i + 1 : Nat) : Int) := by rw [wrap64 (by omega)]; omega
  obtain ⟨q, hix, hld⟩ := (hnd.keep hK).ix hlt
  have htk : noZ (l.take (i + 1)) = noZ (l.take i) ++ (if l[i] ≠ 0 then [l[i]] else []) := by
   rw [List.take_add_one, List.getElem?_eq_getElem hlt]
   unfold noZ
   rw [List.filter_append]
   by_cases h : l[i] = 0
   ·simp [h]
   ·simp [h]
  have hfl : (noZ (l.take i)).length ≤ l.length := Nat.le_trans (List.length_filter_le ..) (by rw [List.length_take]; omega)
  rw [zR]
  refine zL ?_
  conv => arg 2; whnf
  by_cases h : l[i] = 0
  ·have hde : ∀ i' : Decidable (l[i] ≠ 0), @decide (l[i] ≠ 0) i' = false := fun i' => decide_eq_false (fun hh => hh h)
   simp (maxSteps:=1000000) (disch:=first|assumption|omega|rfl) only [↓gp, gc, Nat.reduceAdd, hix, hld, hde, h3]
   rw [if_neg (fun hh => hh h), List.append_nil] at htk
   exact ih (i + 1) S v3 _ _ _ _ _ _ _ _ _ _ _ _ _ _ _ _ (by omega) (by omega) hK hN (by rw [htk]; exact ho) hR
  ·have hde : ∀ i' : Decidable (l[i] ≠ 0), @decide (l[i] ≠ 0) i' = true := fun i' => decide_eq_true h
   obtain ⟨v', S', c, ha, ho', hfr, hlen⟩ := ap22 l[i] ho (by omega)
   simp (maxSteps:=1000000) (disch:=first|assumption|omega|rfl) only [↓gp, gc, Nat.reduceAdd, hix, hld, hde, h3, ha]
   rw [if_pos h] at htk
   exact ih (i + 1) S' v' _ _ _ _ _ _ _ _ _ _ _ _ _ _ _ _ (by omega) (by omega) (fun j o hj => (hfr j o (hK j o hj) (hN j (zQ hj))).1) (fun j hj => (hfr j _ (List.getElem?_eq_getElem (Nat.lt_of_lt_of_le hj hK.len)) (hN j hj)).2) (by rw [htk]; exact ho') hR
theorem znf (S : zB) (nd : V) (l : List Int) (hnd : IntsV S nd l) (hl : l.length ≤ 100000) : EvS cfg 98 [nd] S (fun o S' => Keep S S' ∧ ∃ v, o = .ret v ∧ OwnS S' v 3 (zW (noZ l))) := by
 refine qH rfl zxq ?_
 show Wp cfg (Tryz.f98.body.getD .skip) (nd :: uZ ((.tup []) :: (.tup []) :: (.tup []) :: (.tup []) :: (.tup []) :: (.tup []) :: (.tup []) :: (.tup []) :: (.tup []) :: [])) S [] _
 unfold uZ
 conv => arg 2; whnf
 rw [zR]
 have hln := hnd.len
 simp (maxSteps:=1000000) (disch:=first|assumption|omega|rfl) only [↓gp, gc, Nat.reduceAdd, hln]
 refine zz5 l hl S nd hnd _ l.length 0 S (.ts []) _ _ _ _ _ _ _ _ _ _ _ _ _ _ _ _ rfl (Nat.zero_le _) Keep.refl (fun j _ => NotAt.ts) (.inl ⟨rfl, by rw [List.take_zero]; rfl⟩) ?_
 intro S2 v3 i' g0 g1 g2 g4 g5 g9 gI gE gG gB gC gA gD gL gM gF hK ho
 simp (maxSteps:=1000000) (disch:=first|assumption|omega|rfl) only [↓gp, gc, Nat.reduceAdd]
 exact ⟨rfl, _, rfl, hK, _, rfl, ho⟩
theorem qF {f : FuncId} {args : List V} {S : zB} {R : Out → zB → Prop} (he : EvS cfg f args S R) : ∃ o S2, R o S2 ∧ EvS cfg f args S (fun o' S' => S' = S2 ∧ o' = o) := by
 obtain ⟨n, o, S', hn, hR⟩ := he
 exact ⟨o, S', hR, n, o, S', hn, rfl, rfl⟩
theorem CacheP.set1 {S : zB} {c d r m a : Nat} {L : V} {es vs : List V} {f : Int → Option V} {z : Int} {w q : Nat} {C : CS} (h : CacheP S c d r m L es vs f z w q C) {xs : List V} {e : TypeId} (ha : S[a]? = some (.row xs e)) (he : (e != 135 && e != 126 && e != 80 && e != 5 && e != 3) = true) (hr : a ≠ r) {o : Ob} : CacheP (S.set a o) c d r m L es vs f z w q C := by
 simp only [Bool.and_eq_true, bne_iff_ne, ne_eq] at he
 obtain ⟨⟨⟨⟨e1, e2⟩, e3⟩, e4⟩, e5⟩ := he
 have at_ : ∀ {j : Nat} {p : Ob}, S[j]? = some p → j ≠ a → (S.set a o)[j]? = some p := fun hj hn => by rw [List.getElem?_set_ne (Ne.symm hn)]; exact hj
 have own : ∀ {u : V} {t : TypeId} {ys : List V}, t ≠ e → OwnS S u t ys → OwnS (S.set a o) u t ys := fun hn ho => by
  rcases ho with ho | ⟨id, p, q⟩
  ·exact .inl ho
  ·exact .inr ⟨id, p, at_ q (fun hh => by subst hh; cases getE ha q; exact hn rfl)⟩
 obtain ⟨l, k, h1, h2⟩ := h.hm
 exact ⟨at_ h.hc (fun hh => by subst hh; cases getE ha h.hc; exact e2 rfl), ⟨l, k, at_ h1 (fun hh => by subst hh; cases getE ha h1), h2⟩, ⟨at_ h.dk.hd (fun hh => by subst hh; cases getE ha h.dk.hd; exact e1 rfl), at_ h.dk.hr (Ne.symm hr), h.dk.ne⟩, h.zb, h.il, h.im, h.kn, own (Ne.symm e3) h.lo, h.lc.mono (fun _ _ => own (Ne.symm e4)) (fun _ _ => own (Ne.symm e5)), h.wq, h.ok⟩
theorem CacheAt.set1 {S : zB} {c r m a : Nat} {C : CS} (h : CacheAt S c r m C) {xs : List V} {e : TypeId} (ha : S[a]? = some (.row xs e)) (he : (e != 135 && e != 126 && e != 80 && e != 5 && e != 3) = true) (hr : a ≠ r) {o : Ob} : CacheAt (S.set a o) c r m C := by
 obtain ⟨d, L, es, vs, f, z, w, q, h, hq⟩ := h
 exact ⟨d, L, es, vs, f, z, w, q, h.set1 ha he hr, hq⟩
structure StoreP (S : zB) (x c r m mk : Nat) (l : Lay) (e : Int) (C : CS) (mf : Int → Option V) : Prop where
 hx : S[x]? = some (.row [stoV c mk l.blocks l.inodes l.merge e] 122)
 ca : CacheAt S c r m C
 mp : MpI S mk mf
 ne : mk ≠ m
 hB : l.blocks = C.img.length
abbrev stT : List Nat := [122, 135, 126, 80]
abbrev FrS (m r : Nat) : zB → zB → Prop := Frm stT [m] 42 r
theorem FrC.toS {m r : Nat} {S S' : zB} (h : FrC m r S S') : FrS m r S S' := h.mono (fun e he => by simp only [List.contains_cons, List.contains_nil, Bool.or_eq_true] at he ⊢; exact .inr he) (fun _ h => h)
section
variable {S S' : zB} {x c r m mk : Nat} {l : Lay} {e : Int} {C : CS} {mf : Int → Option V}
theorem StoreP.keep (h : StoreP S x c r m mk l e C mf) (hk : Keep S S') : StoreP S' x c r m mk l e C mf := ⟨hk _ _ h.hx, h.ca.keep hk, hk.map h.mp, h.ne, h.hB⟩
theorem StoreP.step (h : StoreP S x c r m mk l e C mf) (hF : FrC m r S S') {C' : CS} (hc : CacheAt S' c r m C') (hi : C'.img.length = C.img.length) : StoreP S' x c r m mk l e C' mf := ⟨hF.row h.hx rfl, hc, hF.map h.mp (by have := h.ne; simpa using this), h.ne, by rw [hi]; exact h.hB⟩
theorem StoreP.err (h : StoreP S x c r m mk l e C mf) (e' : Int) : StoreP (S.set x (.row [stoV c mk l.blocks l.inodes l.merge e'] 122)) x c r m mk l e' C mf := by
 refine ⟨List.getElem?_set_self (zQ h.hx), h.ca.set1 h.hx rfl ?_, ?_, h.ne, h.hB⟩
 ·rintro rfl
  obtain ⟨d, L, es, vs, f, z, w, q, h2, _⟩ := h.ca
  cases getE h.hx h2.dk.hr
 ·obtain ⟨L, k, h1, h2⟩ := h.mp
  exact ⟨L, k, by rw [List.getElem?_set_ne (by rintro rfl; cases getE h.hx h1)]; exact h1, h2⟩
theorem zkn {B I M e' : Int} : qM Tryz.prog 47 4 (.d (.int .i64 e')) (stoV c mk B I M e) = some (stoV c mk B I M e') := by kernel_rfl
end
theorem z51 {k : IntKind} {n : Int} : jN (.int k n) (.int k n) = true := by simp [jN]
theorem zh1 : ∀ b : List UInt8, wT (b.map byD) (b.map byD) = true
 | [] => rfl
 | x :: r => by
  have h : jN (byD x) (byD x) = true := z51
  simp only [List.map_cons, wT, h, zh1 r, Bool.and_self]
theorem z4p {n : Nat} : ∀ b : List UInt8, all2 (z1q (n + 1)) (b.map byD) (b.map byD) = true
 | [] => rfl
 | x :: r => by
  have h : z1q (n + 1) (byD x) (byD x) = true := z51
  simp only [List.map_cons, all2, h, z4p r, Bool.and_self]
theorem PatV.same {S : zB} {p dv : V} {a : Int} {b : List UInt8} (h : PatV S p dv a b) : wV p p = true := by
 have e1 : z1q 6 (encB b) (encB b) = true := z4p (n := 4) b
 have e2 : z1q 5 (encB b) (encB b) = true := z4p (n := 3) b
 have e0 : qW (.d (.int .i64 a)) (.d (.int .i64 a)) = true := by simp [qW, qQ, z1q, jN]
 rcases h with ⟨rfl, (⟨rfl, _⟩ | ⟨id, rfl, _⟩) | rfl | rfl⟩ | ⟨rfl, rfl⟩
 ·simp only [wV, kX, e0]; rfl
 ·simp only [wV, kX, e0]; simp [qW, qQ]
 ·simp only [wV, kX, e0]; simp [qW, qQ, e1]
 ·simp only [wV, kX, e0]; simp [qW, qQ, zh1]
 ·show z1q 6 (patD a b) (patD a b) = true
  show all2 (z1q 5) [.int .i64 a, encB b] [.int .i64 a, encB b] = true
  have e3 : z1q 5 (.int .i64 a) (.int .i64 a) = true := z51
  simp only [all2, e3, e2, Bool.and_self]
theorem zsg (S : zB) (x c r m mk : Nat) (l : Lay) (C : CS) (mf : Int → Option V) (h0 : StoreP S x c r m mk l 0 C mf) (no : Nat) (hn : no < C.img.length) (p dv : V) (a : Int) (b : List UInt8) (hp : PatV S p dv a b) (hpk : kP a b) (ha : InB a) (nd : V) (ids needs : List Int) (hnd : IntsV S nd ids) (hids : ids.length ≤ 100000) (hneed : ∀ S1 v, CacheAt S1 c r m C → OwnS S1 v 3 (zW (noZ ids)) → EvS cfg 135 [.ref c 0 0, v] S1 (NdR c r m C needs S1)) (h1 : needs.Pairwise (· < ·)) (h2 : ∀ y ∈ needs, 1 ≤ y ∧ y ≤ C.last) (hl : C.last < 100000) :
  EvS cfg 50 [.ref x 0 0, .d (.int .i64 (no : Int)), p, nd] S (fun o S' => FrS m r S S' ∧ StoreP S' x c r m mk l 0 (C.put no a b needs) mf ∧ o = .ret (.d (.int .i64 ((C.last : Int) + 1)))) := by
 refine qH rfl zmo ?_
 show Wp cfg (Tryz.f50.body.getD .skip) ((.ref x 0 0) :: (.d (.int .i64 (no : Int))) :: p :: nd :: uZ (uZ ((.tup []) :: (.tup []) :: (.tup []) :: (.tup []) :: (.tup []) :: (.tup []) :: (.tup []) :: []))) S [] _
 unfold uZ
 conv => arg 2; whnf
 rw [zR]
 generalize hal : S.length = al
 have hft := hp.ft
 have hl0 := hp.l0
 have hd1 := hnd.one
 have hk0 : Keep S (S ++ [.row [p] 78]) := Keep.refl.app
 have h3 := h0.keep hk0
 have he := fun {ops dst k T F Q} => zH (ops := ops) (dst := dst) (l := k) (T := T) (F := F) (Q := Q) rfl (z74 _ x c mk l.blocks l.inodes l.merge 0 h3.hx)
 obtain ⟨o, S1, ⟨hK1, v, rfl, hv⟩, hsE⟩ := qF (znf _ nd ids (hnd.keep hk0) hids)
 have hs := fun {ops base K ws cs i dst T} => jC (ops := ops) (base := base) (K := K) (ws := ws) (cs := cs) (i := i) (dst := dst) (T := T) rfl hsE
 have h3b := h3.keep hK1
 have hk1 := hk0.trans hK1
 have hp1 : PatV S1 p dv a b := hp.frm (ts := []) (ms := []) (r := 0) (Frm.keep hk1) rfl
 obtain ⟨o, S2, ⟨hF, hC, rfl⟩, hE⟩ := qF (zvt _ c r m C h3b.ca no hn p dv a b hp1 hpk ha v needs (fun S1 h hk => hneed S1 v h (hk.own hv)) (qL hv) h1 h2 hl)
 have hcp := fun {ops base K ws cs i dst T} => jC (ops := ops) (base := base) (K := K) (ws := ws) (cs := cs) (i := i) (dst := dst) (T := T) rfl hE
 have hrx := zD (e := 122) h3.hx
 have hrx1 := zD (e := 122) h3b.hx
 have hal1 := hK1 al (.row [p] 78) (by rw [List.getElem?_append_right (by omega), hal, Nat.sub_self]; rfl)
 have hral1 := zD (e := 78) hal1
 have h4 : StoreP S2 x c r m mk l 0 (C.put no a b needs) mf := h3b.step hF hC rfl
 have hrx2 := zD (e := 122) h4.hx
 have hpx2 := fun y => qJ (y := y) (e := 122) h4.hx
 have hp1' := hp.one
 have hv1 := qL hv
 simp (maxSteps:=1000000) (disch:=first|assumption|omega|rfl) only [↓gp, gc, Nat.reduceAdd, hft, hal, he, bo45]
 refine qX (is := [0, 1, 2, 3, 4, 5, 6, 7, 8, 9, 10, 11, 12, 13]) (h := 0) (by kernel_rfl) (by kernel_rfl) ?_
 simp (maxSteps:=1000000) (disch:=first|assumption|omega|rfl) only [List.replicate_zero, eq_self, gw, ga, Nat.reduceAdd, ↓gq, vso, List.append_nil, hrx, qU, kI, zes, z8c, rA0 hal, hl0, hs, bo98, hcp, bo97, hp1', hd1, hv1]
 have hsm := hp.same
 refine ⟨qE rfl (by kernel_rfl) rfl (vB ((zG hral1).trans hl0)) hsm (qE rfl (by kernel_rfl) rfl (vB ((zG hrx1).trans z8c)) (by simp [wV, qW, qQ]) zZ), zS (by kernel_rfl) (zS (by kernel_rfl) zZ), by kernel_rfl, ?_⟩
 simp (maxSteps:=1000000) (disch:=first|assumption|omega|rfl) only [↓gp, gc, Nat.reduceAdd, zg2, hrx2, zkn, hpx2]
 refine ⟨rfl, _, rfl, ?_, h4.err 0, rfl⟩
 exact ((Frm.keep hk1).trans hF.toS).set (fun q hq => by cases getE h0.hx hq; rfl)
def inoV (i : Ino) : V := .agg [.d (.int .i64 i.kind), .d (.int .i64 i.links), .d (.int .i64 i.size), .d (.int .i64 i.parent), .d (.int .i64 i.d0), .d (.int .i64 i.d1), .d (.int .i64 i.d2), .d (.int .i64 i.d3), .d (.int .i64 i.d4), .d (.int .i64 i.d5), .d (.int .i64 i.ind)]
def IsI (v : V) (i : Ino) : Prop := v = .d (qK i) ∨ v = inoV i
section
variable {v : V} {i : Ino} {S : zB}
theorem IsI.ft (h : IsI v i) : qB Tryz.prog 70 v = true := by rcases h with rfl | rfl <;> kernel_rfl
theorem IsI.l0 (h : IsI v i) : qT Tryz.prog 70 0 (some v) = some v := by rcases h with rfl | rfl <;> kernel_rfl
theorem IsI.one (h : IsI v i) : v.one = true := by rcases h with rfl | rfl <;> rfl
theorem IsI.fz (h : IsI v i) : Go.Vm.frz S zJ v = some (qK i) := by rcases h with rfl | rfl <;> rfl
end
section
variable {n : Int} {x : UInt8}
theorem q1p : wY Tryz.prog 78 [(0, .d (.int .i64 n)), (1, .ts [.int .u8 (x.toNat : Int)])] = some (.agg [.d (.int .i64 n), .ts [.int .u8 (x.toNat : Int)]]) := by kernel_rfl
theorem q1u : qM Tryz.prog 78 0 (.agg [.d (.int .i64 n), .ts [.int .u8 (x.toNat : Int)]]) (.agg [.d (.int .i64 0), .ts []]) = some (.agg [.d (.int .i64 n), .ts [.int .u8 (x.toNat : Int)]]) := by kernel_rfl
theorem q37 : qT Tryz.prog 78 0 (some (.agg [.d (.int .i64 n), .ts [.int .u8 (x.toNat : Int)]])) = some (.agg [.d (.int .i64 n), .ts [.int .u8 (x.toNat : Int)]]) := by kernel_rfl
end
theorem zp3 (b : List UInt8) (hb : b.length = 256) (n : Nat) (hn : n < 2048) (on : Bool) : Ev cfg 106 [blkD b, .int .i64 (n : Int), .bool on] (.ret (.d (patD ((n / 8 : Nat) : Int) [setB b n on]))) := by
 refine kD rfl rfl zwn ?_
 show Wp cfg (Tryz.f106.body.getD .skip) ((.d (blkD b)) :: (.d (.int .i64 (n : Int))) :: (.d (.bool on)) :: uZ (uZ ((.tup []) :: (.tup []) :: (.tup []) :: (.tup []) :: (.tup []) :: (.tup []) :: []))) [] [] _
 unfold uZ
 conv => arg 2; whnf
 have hf := fd42 hb
 have hlb := z08 hb
 have hl : (z1h b n on).length = 256 := by rw [z94]; exact hb
 have hc := fun {ops dst k T S F Q} => z4n (ops := ops) (dst := dst) (k := k) (T := T) (S := S) (F := F) (Q := Q) hn
 have hw : ∀ {ops dst k T S F Q}, WpR cfg ops dst k T S F Q (some (.enter 140 [.d (blkD b), .d (.int .i64 (n : Int)), .d (.bool on)])) = WpL cfg ops k (putT T dst (.d (blkD (z1h b n on)))) S F Q := fun {ops dst k T S F Q} => qA (ds := [blkD b, .int .i64 (n : Int), .bool on]) rfl (zss b hb n hn on)
 have hs := zpq (b' := b) hl hb
 have hia := fun S j x => ia42 (S := S) (j := j) (x := x) (i := n / 8) (by omega)
 have hg := bt42.get jT hl (i := n / 8) (by omega)
 have he : (z1h b n on)[n / 8]'(by omega) = setB b n on := by unfold z1h; rw [List.getElem_set_self]
 rw [he] at hg
 simp (maxSteps:=1000000) (disch:=first|assumption|omega|rfl) only [↓gp, gc, Nat.reduceAdd, ↓vbs, hf, z56, zf56, hlb, hc, zin, jG, Bool.not_true, hw, zsv, hs, hia, hg, q1p, q1u]
 exact wK (v := .agg [.d (.int .i64 ((n / 8 : Nat) : Int)), .ts [.int .u8 ((setB b n on).toNat : Int)]]) rfl ((zG rfl).trans q37) rfl rfl
section
variable {ops : Array Oper} {base : Nat} {K : Ws → List (Nat × Nat) → List V → zB → Prop} {ws : Ws} {cs : List (Nat × Nat)} {i : Nat} {dst : Option Tmp} {T : List V} {S : zB}
theorem z37 {f : FuncId} {args : List V} {ds : List D} {v : V} (hs : cfg.shared f = false) (hf : allO (frz S zJ) args = some ds) (hi : (args.flatMap (frzIds S zJ)).isEmpty = true) (he : Ev cfg f ds (.ret v)) :
  WpEw cfg ops base K ws cs i dst T S (some (.enter f args)) = K ((i, T, v) :: ws) (cs ++ [(i, 1)]) (putT T dst v) S := by
 obtain ⟨n, hn⟩ := he
 have hn' : answer cfg (run cfg n) f ds = some (.ret v) := hn
 have hc : jU cfg (run cfg n) f args S = some (.ret v, S, 1) := by
  unfold jU
  simp only [hs, Bool.false_eq_true, if_false, hf, hn', hi, if_true]
 apply propext
 constructor
 ·rintro ⟨m, v', S', c, h1, h2, h3⟩
  have := wR h1 hc
  simp only [Prod.mk.injEq] at this
  obtain ⟨h4, rfl, rfl⟩ := this
  cases h4
  exact h3
 ·exact fun h => ⟨n, _, _, _, hc, fun h => absurd h (by decide), h⟩
theorem zlq : WpEw cfg ops base K ws cs i dst T S (some (.enter 77 [])) = K ((i, T, .d (.int .i64 1)) :: ws) (cs ++ [(i, 1)]) (putT T dst (.d (.int .i64 1))) S := z37 (ds := []) rfl rfl rfl zgx
theorem zy5 {u : V} {b : List UInt8} {n : Int} (hu : IsB u b) (hb : b.length = 256) : WpEw cfg ops base K ws cs i dst T S (some (.enter 76 [u, .d (.int .i64 n)])) = K ((i, T, .d (.bool (hasI b n))) :: ws) (cs ++ [(i, 1)]) (putT T dst (.d (.bool (hasI b n)))) S :=
 z37 (ds := [blkD b, .int .i64 n]) rfl (by simp only [allO, hu.frz (n := 10), zJ]; rfl) (by rw [List.flatMap_cons, hu.frzIds]; rfl) (zrf b hb n)
theorem zot {u : V} {b : List UInt8} {n : Nat} {on : Bool} (hu : IsB u b) (hb : b.length = 256) (hn : n < 2048) : WpEw cfg ops base K ws cs i dst T S (some (.enter 106 [u, .d (.int .i64 (n : Int)), .d (.bool on)])) = K ((i, T, .d (patD ((n / 8 : Nat) : Int) [setB b n on])) :: ws) (cs ++ [(i, 1)]) (putT T dst (.d (patD ((n / 8 : Nat) : Int) [setB b n on]))) S :=
 z37 (ds := [blkD b, .int .i64 (n : Int), .bool on]) rfl (by simp only [allO, hu.frz (n := 10), zJ]; rfl) (by rw [List.flatMap_cons, hu.frzIds]; rfl) (zp3 b hb n hn on)
theorem zpm {l : Lay} (hb : InB l.blocks) (hi : InB l.inodes) (hm : MayL l) : WpEw cfg ops base K ws cs i dst T S (some (.enter 75 [.agg [.d (.int .i64 l.blocks), .d (.int .i64 l.inodes), .d (.int .u64 l.merge)]])) = K ((i, T, .d (.int .i64 0)) :: ws) (cs ++ [(i, 1)]) (putT T dst (.d (.int .i64 0))) S :=
 z37 (ds := [encLay l]) rfl rfl rfl (by have := zgd l hb hi; rwa [if_pos hm] at this)
end
def z2g (l : Lay) (C : CS) (no : Int) : Bool := decide (0 ≤ no ∧ no < l.blocks) && hasI (C.see 1) no
theorem zez (S : zB) (v : V) (B c r m : Nat) (l : Lay) (C : CS) (h0 : CacheIn S B c r m C) (hv : ViewAt S v c l.blocks l.inodes l.merge) (hB : l.blocks = C.img.length) (hb : InB l.blocks) (hi : InB l.inodes) (hm : MayL l) (no : Int) :
  EvS cfg 28 [v, .d (.int .i64 no)] S (SeeR B c r m C S fun w => w = .d (.bool (z2g l C no))) := by
 have hv0 := hv
 obtain ⟨g, rfl, hg⟩ := hv
 refine qH rfl zy3 ?_
 show Wp cfg (Tryz.f28.body.getD .skip) ((kO l.blocks l.inodes l.merge g) :: (.d (.int .i64 no)) :: uZ (uZ ((.tup []) :: (.tup []) :: (.tup []) :: (.tup []) :: (.tup []) :: []))) S [] _
 unfold uZ
 conv => arg 2; whnf
 rw [zR]
 generalize ha : S.length = a
 have hck := fun {ops base K ws cs i dst T S} => zpm (ops := ops) (base := base) (K := K) (ws := ws) (cs := cs) (i := i) (dst := dst) (T := T) (S := S) hb hi hm
 by_cases c1 : no ≥ 0
 case neg =>
  have hu : z2g l C no = false := by unfold z2g; rw [decide_eq_false (by omega), Bool.false_and]
  rw [hu]
  simp (maxSteps:=1000000) (disch:=first|assumption|omega|rfl) only [↓gp, gc, Nat.reduceAdd, ft52, ha, rA0 ha]
  refine qX (is := [0, 1, 2, 3, 4, 5, 6, 7, 8, 9, 10, 11, 12, 13, 14, 15, 16, 19, 17, 18, 20, 21, 22]) (h := 0) (by kernel_rfl) (by kernel_rfl) ?_
  simp (maxSteps:=1000000) (disch:=first|assumption|omega|rfl) only [List.replicate_zero, eq_self, gw, ga, Nat.reduceAdd, ↓gq, vso, List.append_nil, rA0 ha, z0c, z5a, hck, bo75, zN]
  refine ⟨by kernel_rfl, ?_⟩
  simp (maxSteps:=1000000) (disch:=first|assumption|omega|rfl) only [↓gp, gc, Nat.reduceAdd]
  exact ⟨rfl, _, rfl, Frm.refl.app, h0.app, _, rfl, rfl⟩
 by_cases c2 : no < l.blocks
 case neg =>
  have hu : z2g l C no = false := by unfold z2g; rw [decide_eq_false (by omega), Bool.false_and]
  rw [hu]
  simp (maxSteps:=1000000) (disch:=first|assumption|omega|rfl) only [↓gp, gc, Nat.reduceAdd, ft52, ha, rA0 ha]
  refine qX (is := [0, 1, 2, 3, 4, 5, 6, 7, 8, 9, 10, 11, 12, 13, 14, 15, 16, 19, 17, 18, 20, 21, 22]) (h := 0) (by kernel_rfl) (by kernel_rfl) ?_
  simp (maxSteps:=1000000) (disch:=first|assumption|omega|rfl) only [List.replicate_zero, eq_self, gw, ga, Nat.reduceAdd, ↓gq, vso, List.append_nil, rA0 ha, z0c, vF, z5a, zao, hck, bo75, zN]
  refine ⟨by kernel_rfl, ?_⟩
  simp (maxSteps:=1000000) (disch:=first|assumption|omega|rfl) only [↓gp, gc, Nat.reduceAdd]
  exact ⟨rfl, _, rfl, Frm.refl.app, h0.app, _, rfl, rfl⟩
 have hu : z2g l C no = hasI (C.see 1) no := by unfold z2g; rw [decide_eq_true ⟨by omega, by omega⟩, Bool.true_and]
 rw [hu]
 have hno : 1 < C.img.length := by have := hm.1; omega
 obtain ⟨o, S1, ⟨hF, hC, u, rfl, hub⟩, hE⟩ := qF (z7t (S ++ [.row [kO l.blocks l.inodes l.merge g] 55]) _ B c r m _ _ _ C h0.app (hv0.keep Keep.refl.app) hB 1 hno)
 have hbk := fun {ops base K ws cs i dst T} => jC (ops := ops) (base := base) (K := K) (ws := ws) (cs := cs) (i := i) (dst := dst) (T := T) rfl hE
 simp only [nl1] at hbk
 have hsl := hC.at.ok.see_len hno
 have hh := fun {ops base K ws cs i dst T S} => zy5 (ops := ops) (base := base) (K := K) (ws := ws) (cs := cs) (i := i) (dst := dst) (T := T) (S := S) (n := no) hub hsl
 have hu1 := hub.one
 simp (maxSteps:=1000000) (disch:=first|assumption|omega|rfl) only [↓gp, gc, Nat.reduceAdd, ft52, ha, rA0 ha]
 refine qX (is := [0, 1, 2, 3, 4, 5, 6, 7, 8, 9, 10, 11, 12, 13, 14, 15, 16, 19, 17, 18, 20, 21, 22]) (h := 0) (by kernel_rfl) (by kernel_rfl) ?_
 simp (maxSteps:=1000000) (disch:=first|assumption|omega|rfl) only [List.replicate_zero, eq_self, gw, ga, Nat.reduceAdd, ↓gq, vso, List.append_nil, rA0 ha, z0c, vF, z5a, zao, lr52, z7l, hck, bo75, zN, zlq, bo77, hbk, bo49, hu1, hh, bo76]
 refine ⟨?_, by kernel_rfl, ?_⟩
 ·repeat first | exact zZ | refine zS (by kernel_rfl) ?_
 simp (maxSteps:=1000000) (disch:=first|assumption|omega|rfl) only [↓gp, gc, Nat.reduceAdd]
 exact ⟨rfl, _, rfl, (Frm.refl.app).trans hF, hC, _, rfl, rfl⟩
def allV (x gm : Nat) : V := .agg [.ref x 0 0, .mr gm]
section
variable {x gm d y z : Nat}
theorem q1m : wY Tryz.prog 116 [(0, .ref x 0 0), (1, .mr gm)] = some (allV x gm) := by kernel_rfl
theorem q20 : qB Tryz.prog 116 (allV x gm) = true := by kernel_rfl
theorem wO : zT Tryz.prog 116 0 (.ref d y z) = some (.ref d y (z + 0)) := by kernel_rfl
theorem z65 : zT Tryz.prog 116 1 (.ref d y z) = some (.ref d y (z + 1)) := by kernel_rfl
theorem kA : qT Tryz.prog 49 0 (some (allV x gm)) = some (.ref x 0 0) := by kernel_rfl
theorem z31 : qT Tryz.prog 114 1 (some (allV x gm)) = some (.mr gm) := by kernel_rfl
theorem z9z : binV Tryz.prog .eql 35 (.ref d y z) (.d .nilp) = some (.d (.bool false)) := by kernel_rfl
end
theorem zsq (S : zB) (x : Nat) : EvS cfg 32 [.ref x 0 0] S (fun o S' => S' = S ++ [.mp [] 0, .row [allV x S.length] 116] ∧ o = .ret (.ref (S.length + 1) 0 0)) := by
 refine qH rfl zz1 ?_
 show Wp cfg (Tryz.f32.body.getD .skip) ((.ref x 0 0) :: (.tup []) :: (.tup []) :: (.tup []) :: (.tup []) :: (.tup []) :: (.tup []) :: (.tup []) :: (.tup []) :: []) S [] _
 conv => arg 2; whnf
 rw [zR]
 simp (maxSteps:=1000000) (disch:=first|assumption|omega|rfl) only [↓gp, gc, Nat.reduceAdd, ↓z1g, zom, q1m, q20, List.append_assoc, List.length_append, List.length_cons, List.length_nil]
 exact ⟨rfl, _, rfl, rfl, rfl⟩
theorem zdt (S : zB) (y x gm : Nat) (h : S[y]? = some (.row [allV x gm] 116)) : EvS cfg 24 [.ref y 0 0] S (fun o S' => S' = S ∧ o = .ret (.ref x 0 0)) := by
 refine qH rfl zxv ?_
 show Wp cfg (Tryz.f24.body.getD .skip) ((.ref y 0 0) :: (.tup []) :: (.tup []) :: (.tup []) :: (.tup []) :: (.tup []) :: (.tup []) :: (.tup []) :: (.tup []) :: []) S [] _
 conv => arg 2; whnf
 rw [zR]
 have hr := zD (e := 116) h
 simp (maxSteps:=1000000) (disch:=first|assumption|omega|rfl) only [↓gp, gc, Nat.reduceAdd, z9z, wO, hr, kA]
 exact ⟨rfl, _, rfl, rfl, rfl⟩
structure AskF (m r : Nat) (g : FuncId) (caps : List V) (A : Nat) (J : List Nat → zB → Prop) (more : Bool) : Prop where
 call : ∀ (S : zB) (l : List Nat) (n : Nat), J l S → EvS cfg g (.d (.int .i64 (n : Int)) :: caps) S (fun o S' => o = .ret (.d (.bool more)) ∧ J (l ++ [n]) S' ∧ S.length ≤ S'.length ∧ ∀ (j : Nat) (o : Ob), S[j]? = some o → (j < A ∨ ∀ (xs : List V) (e : TypeId), o = Ob.row xs e → e ≠ 3 ∧ e ≠ 4) → S'[j]? = some o)
 keep : ∀ (S S' : zB) (l : List Nat), J l S → FrC m r S S' → J l S'
 bo : (zC Tryz.prog g).isSome = true
 sh : cfg.shared g = true
def FrA (m r A : Nat) (S S' : zB) : Prop := S.length ≤ S'.length ∧ ∀ (j : Nat) (o : Ob), j < A → S[j]? = some o → calm caT [m] 42 r j o = true → S'[j]? = some o
theorem FrA.of {m r A : Nat} {S S' : zB} (h : FrC m r S S') : FrA m r A S S' := ⟨h.1, fun j o _ hj hc => h.2 j o hj hc⟩
theorem FrA.trans {m r A : Nat} {S S' S'' : zB} (h : FrA m r A S S') (h' : FrA m r A S' S'') : FrA m r A S S'' := ⟨Nat.le_trans h.1 h'.1, fun j o hA hj hc => h'.2 j o hA (h.2 j o hA hj hc) hc⟩
def frN (f : Nat → Ino) (i : Nat) : List Nat := (List.range i).filter fun n => decide (2 ≤ n ∧ (f n).kind = 0)
theorem z7r {f : Nat → Ino} {i : Nat} (hi : 2 ≤ i) : frN f (i + 1) = frN f i ++ if (f i).kind = 0 then [i] else [] := by
 unfold frN
 rw [List.range_succ, List.filter_append]
 by_cases h : (f i).kind = 0
 ·simp [h, hi]
 ·simp [h]
theorem zme {f : Nat → Ino} : frN f 2 = [] := by
 unfold frN
 rw [List.filter_eq_nil_iff]
 intro n hn
 have := List.mem_range.1 hn
 simp only [decide_eq_true_eq]
 omega
theorem zjg {f : Nat → Ino} : ∀ {k i : Nat}, 2 ≤ i → ∃ t, frN f (i + k) = frN f i ++ t
 | 0, i, _ => ⟨[], by simp⟩
 | k + 1, i, h => by
  obtain ⟨t, ht⟩ := zjg (k := k) h
  exact ⟨t ++ _, by rw [← Nat.add_assoc, z7r (by omega), ht, List.append_assoc]⟩
theorem cvF {g : FuncId} {caps : List V} {n : Int} (h : (zC Tryz.prog g).isSome = true) : cvV Tryz.prog [.d (.int .i64 n)] (.fn (.func g) [] caps) = some (.enter g (.d (.int .i64 n) :: caps)) := zio rfl h
theorem zok (B c r m y a1 A : Nat) (l : Lay) (C : CS) (vv : V) (g : FuncId) (caps : List V) (J : List Nat → zB → Prop) (more : Bool) (ha : AskF m r g caps A J more) (hBA : B ≤ A) (haA : A ≤ a1) (hB : l.blocks = C.img.length) (hb : InB l.blocks) (hi : InB l.inodes) (hm : MayL l) (f : Nat → Ino) (hcl : ∀ ino : Nat, 2 ≤ ino → (ino : Int) ≤ l.inodes → ∃ bb, Ev cfg 123 [blkD (wP (C.see (2 + (ino - 1) / 8)) ((ino - 1) % 8))] (.ret (.tup [.d (qK (f ino)), .d (.bool bb)]))) (N : Nat) (hN : l.inodes = N) (R : Post) (S0 : zB) :
 ∀ (k i : Nat) (S : zB) (g2 g3 g6 g7 g8 g9 gI gE gG gB gC gA gD gL gM gF gK gN gJ gH gO gP gT gQ gU gR gS : V), N + 1 - i = k → 2 ≤ i → i ≤ N + 1 → CacheIn S B c r m C → ViewAt S vv c l.blocks l.inodes l.merge → S[a1]? = some (.row [vv] 55) → J (frN f i) S → (more = false → frN f i = []) → FrA m r A S0 S →
 (∀ S' i' g2 g3 g6 g7 g8 g9 gI gE gG gB gC gA gD gL gM gF gK gN gJ gH gO gP gT gQ gU gR gS, CacheIn S' B c r m C → FrA m r A S0 S' → J (if more then frN f (N + 1) else (frN f (N + 1)).take 1) S' → R (.exit 0) ((.ref y 0 0) :: (.fn (.func g) [] caps) :: g2 :: g3 :: (.ref a1 0 0) :: i' :: g6 :: g7 :: g8 :: g9 :: gI :: gE :: gG :: gB :: gC :: gA :: gD :: gL :: gM :: gF :: gK :: gN :: gJ :: gH :: gO :: gP :: gT :: gQ :: gU :: gR :: gS :: []) S' []) →
 (∀ S' i' g2 g3 g6 g7 g8 g9 gI gE gG gB gC gA gD gL gM gF gK gN gJ gH gO gP gT gQ gU gR gS, CacheIn S' B c r m C → FrA m r A S0 S' → J (if more then frN f (N + 1) else (frN f (N + 1)).take 1) S' → R .ret ((.ref y 0 0) :: (.fn (.func g) [] caps) :: g2 :: g3 :: (.ref a1 0 0) :: i' :: g6 :: g7 :: g8 :: g9 :: gI :: gE :: gG :: gB :: gC :: gA :: gD :: gL :: gM :: gF :: gK :: gN :: gJ :: gH :: gO :: gP :: gT :: gQ :: gU :: gR :: gS :: []) S' []) →
 Wp cfg (.loop (lpOf (Tryz.f104.body.getD .skip) 0)) ((.ref y 0 0) :: (.fn (.func g) [] caps) :: g2 :: g3 :: (.ref a1 0 0) :: (.d (.int .i64 (i : Int))) :: g6 :: g7 :: g8 :: g9 :: gI :: gE :: gG :: gB :: gC :: gA :: gD :: gL :: gM :: gF :: gK :: gN :: gJ :: gH :: gO :: gP :: gT :: gQ :: gU :: gR :: gS :: []) S [] R := by
 intro k
 have hN1 : N ≤ 128 := by have := hm.2.2.2.1; omega
 induction k with
 | zero =>
  intro i S g2 g3 g6 g7 g8 g9 gI gE gG gB gC gA gD gL gM gF gK gN gJ gH gO gP gT gQ gU gR gS hk hi2 hiN hC hV h52 hJ hmo hFA hR hR2
  have hie : i = N + 1 := by omega
  subst hie
  obtain ⟨gg, rfl, hg⟩ := hV
  have hr52 := zD (e := 55) h52
  have hle : ¬ (((N + 1 : Nat) : Int)) ≤ l.inodes := by omega
  rw [zR]
  refine zL ?_
  conv => arg 2; whnf
  simp (maxSteps:=1000000) (disch:=first|assumption|omega|rfl) only [↓gp, gc, Nat.reduceAdd, z0c, zb6, hr52, zn9]
  refine hR _ _ _ _ _ _ _ _ _ _ _ _ _ _ _ _ _ _ _ _ _ _ _ _ _ _ _ _ _ hC hFA ?_
  cases more with
  | true => exact hJ
  | false => rw [hmo rfl] at hJ ⊢; exact hJ
 | succ k ih =>
  intro i S g2 g3 g6 g7 g8 g9 gI gE gG gB gC gA gD gL gM gF gK gN gJ gH gO gP gT gQ gU gR gS hk hi2 hiN hC hV h52 hJ hmo hFA hR hR2
  have hV0 := hV
  obtain ⟨gg, rfl, hg⟩ := hV
  have hr52 := zD (e := 55) h52
  have hle : (i : Int) ≤ l.inodes := by omega
  obtain ⟨bb, hcl1⟩ := hcl i hi2 hle
  obtain ⟨o, S1, ⟨hF, hC1, w, rfl, rfl⟩, hin⟩ := vU rfl (zka S _ B c r m l C hC hV0 hB hb hi hm i (by omega) hle (f i) bb hcl1)
  have hin := fun {ops dst k T F Q} => hin _ rfl (ops := ops) (dst := dst) (k := k) (T := T) (F := F) (Q := Q)
  have hw : IntKind.i64.wrap ((i : Int) + 1) = ((i + 1 : Nat) : Int) := by rw [wrap64 (by omega)]; omega
  have hJ1 := ha.keep _ _ _ hJ hF
  have h52b := hF.row h52 rfl
  have hVb := hV0.frm hF rfl
  have hFA1 := hFA.trans (FrA.of (A := A) hF)
  rw [zR]
  refine zL ?_
  conv => arg 2; whnf
  by_cases h0 : (f i).kind = 0
  ·have hde : ∀ i' : Decidable ((f i).kind = 0), @decide ((f i).kind = 0) i' = true := fun i' => decide_eq_true h0
   obtain ⟨o, S2, ⟨rfl, hJ2, hl2, hk2⟩, hcall⟩ := qF (ha.call S1 _ i hJ1)
   have hcall := fun {ops dst k T F Q} => zH (ops := ops) (dst := dst) (l := k) (T := T) (F := F) (Q := Q) ha.sh hcall
   have hcv := cvF (g := g) (caps := caps) (n := (i : Int)) ha.bo
   simp (maxSteps:=1000000) (disch:=first|assumption|omega|rfl) only [↓gp, gc, Nat.reduceAdd, ↓vI, z0c, zb6, hr52, zn9, lr52, z7l, hin, bo33, fdI, hde, hcv, hcall, hw]
   have hC2 : CacheIn S2 B c r m C := ⟨Nat.le_trans hC1.1 hl2, hC1.2.keep (fun j p hj => z9d (hk2 j p (z03 _ _ hj) (.inl (Nat.lt_of_lt_of_le (z16 hj) hBA))) (z16 hj))⟩
   have h52c := hk2 _ _ h52b (.inr fun xs e he => by cases he; exact ⟨by decide, by decide⟩)
   have hVc : ViewAt S2 (kO l.blocks l.inodes l.merge gg) c l.blocks l.inodes l.merge := by
    obtain ⟨g', e1, e2⟩ := hVb
    exact ⟨g', e1, hk2 _ _ e2 (.inr fun xs e he => by cases he; exact ⟨by decide, by decide⟩)⟩
   have hFA2 : FrA m r A S0 S2 := hFA1.trans ⟨hl2, fun j p hj hp _ => hk2 j p hp (.inl hj)⟩
   have hsu := z7r (f := f) hi2
   rw [if_pos h0] at hsu
   cases more with
   | true =>
    simp (maxSteps:=1000000) (disch:=first|assumption|omega|rfl) only [↓gp, gc, Nat.reduceAdd, Bool.not_true, hw]
    exact ih (i + 1) S2 _ _ _ _ _ _ _ _ _ _ _ _ _ _ _ _ _ _ _ _ _ _ _ _ _ _ _ (by omega) (by omega) (by omega) hC2 hVc h52c (by rw [hsu]; exact hJ2) (fun hh => by cases hh) hFA2 hR hR2
   | false =>
    simp (maxSteps:=1000000) (disch:=first|assumption|omega|rfl) only [↓gp, gc, Nat.reduceAdd, Bool.not_false]
    refine hR2 _ _ _ _ _ _ _ _ _ _ _ _ _ _ _ _ _ _ _ _ _ _ _ _ _ _ _ _ _ hC2 hFA2 ?_
    rw [if_neg (by decide)]
    rw [hmo rfl, List.nil_append] at hsu hJ2
    obtain ⟨t, ht⟩ := zjg (f := f) (k := k) (i := i + 1) (by omega)
    have hNk : N + 1 = i + 1 + k := by omega
    rw [hNk, ht, hsu]
    exact hJ2
  ·have hde : ∀ i' : Decidable ((f i).kind = 0), @decide ((f i).kind = 0) i' = false := fun i' => decide_eq_false h0
   simp (maxSteps:=1000000) (disch:=first|assumption|omega|rfl) only [↓gp, gc, Nat.reduceAdd, z0c, zb6, hr52, zn9, lr52, z7l, hin, bo33, fdI, hde, hw]
   refine ih (i + 1) S1 _ _ _ _ _ _ _ _ _ _ _ _ _ _ _ _ _ _ _ _ _ _ _ _ _ _ _ (by omega) (by omega) (by omega) hC1 hVb h52b ?_ ?_ hFA1 hR hR2
   ·rw [z7r hi2, if_neg h0, List.append_nil]; exact hJ1
   ·rw [z7r hi2, if_neg h0, List.append_nil]; exact hmo
structure SeenAt (S : zB) (B y x c r m mk gm : Nat) (l : Lay) (e : Int) (C : CS) : Prop where
 hy : S[y]? = some (.row [allV x gm] 116)
 hx : S[x]? = some (.row [stoV c mk l.blocks l.inodes l.merge e] 122)
 ca : CacheIn S B c r m C
theorem SeenAt.keep {S S' : zB} {B y x c r m mk gm : Nat} {l : Lay} {e : Int} {C : CS} (h : SeenAt S B y x c r m mk gm l e C) (hk : Keep S S') : SeenAt S' B y x c r m mk gm l e C := ⟨hk _ _ h.hy, hk _ _ h.hx, h.ca.keep hk⟩
theorem zsp : zC Tryz.prog 104 = some ⟨(Tryz.f104.body.getD .skip), 31, #[]⟩ := by
 unfold zC
 rw [Tryz.func104]
 rfl
theorem zky (S : zB) (B y x c r m mk gm A : Nat) (l : Lay) (e : Int) (C : CS) (h : SeenAt S B y x c r m mk gm l e C) (g : FuncId) (caps : List V) (J : List Nat → zB → Prop) (more : Bool) (ha : AskF m r g caps A J more) (hBA : B ≤ A) (haA : A ≤ S.length) (hB : l.blocks = C.img.length) (hb : InB l.blocks) (hi : InB l.inodes) (hm : MayL l) (f : Nat → Ino) (hcl : ∀ ino : Nat, 2 ≤ ino → (ino : Int) ≤ l.inodes → ∃ bb, Ev cfg 123 [blkD (wP (C.see (2 + (ino - 1) / 8)) ((ino - 1) % 8))] (.ret (.tup [.d (qK (f ino)), .d (.bool bb)]))) (N : Nat) (hN : l.inodes = N) (hJ : J [] S) :
  EvS cfg 104 [.ref y 0 0, .fn (.func g) [] caps] S (fun o S' => o = .ret (.tup []) ∧ CacheIn S' B c r m C ∧ FrA m r A S S' ∧ J (if more then frN f (N + 1) else (frN f (N + 1)).take 1) S') := by
 refine qH rfl zsp ?_
 show Wp cfg (Tryz.f104.body.getD .skip) ((.ref y 0 0) :: (.fn (.func g) [] caps) :: uZ (uZ ((.tup []) :: (.tup []) :: (.tup []) :: (.tup []) :: (.tup []) :: (.tup []) :: (.tup []) :: (.tup []) :: (.tup []) :: []))) S [] _
 unfold uZ
 conv => arg 2; whnf
 rw [zR]
 have hry := zD (e := 116) h.hy
 obtain ⟨o, S1, ⟨hK, v, rfl, hv⟩, hview⟩ := qF (z6f S x c mk l.blocks l.inodes l.merge e h.hx)
 have hview := fun {ops dst k T F Q} => zH (ops := ops) (dst := dst) (l := k) (T := T) (F := F) (Q := Q) rfl hview
 obtain ⟨gg, rfl, hg⟩ := hv
 generalize ha1 : S1.length = a1
 have hN2 : 8 ≤ N := by have := hm.2.2.1; omega
 have hKa : Keep S (S1 ++ [.row [kO l.blocks l.inodes l.merge gg] 55]) := hK.app
 have h52 : (S1 ++ [.row [kO l.blocks l.inodes l.merge gg] 55])[a1]? = some (.row [kO l.blocks l.inodes l.merge gg] 55) := by rw [← ha1]; simp
 simp (maxSteps:=1000000) (disch:=first|assumption|omega|rfl) only [↓gp, gc, Nat.reduceAdd, z9z, wO, hry, kA, hview, bo27, z52, zf52, z7l, ha1, rA0 ha1, pA0 ha1, sr52]
 refine zok B c r m y a1 A l C (kO l.blocks l.inodes l.merge gg) g caps J more ha hBA (by have := hK.len; omega) hB hb hi hm f hcl N hN _ S (N + 1 - 2) 2 _ _ _ _ _ _ _ _ _ _ _ _ _ _ _ _ _ _ _ _ _ _ _ _ _ _ _ _ rfl (Nat.le_refl _) (by omega) (h.ca.keep hKa) ⟨gg, rfl, by rw [List.getElem?_append_left (zQ hg)]; exact hg⟩ h52 (by rw [zme]; exact ha.keep _ _ _ hJ (Frm.keep hKa)) (fun _ => zme) (FrA.of (Frm.keep hKa)) ?_ ?_
 ·intro S' i' g2 g3 g6 g7 g8 g9 gI gE gG gB gC gA gD gL gM gF gK gN gJ gH gO gP gT gQ gU gR gS hC' hF' hJ'
  simp (maxSteps:=1000000) (disch:=first|assumption|omega|rfl) only [↓gp, gc, Nat.reduceAdd]
  exact ⟨rfl, _, rfl, rfl, hC', hF', hJ'⟩
 ·intro S' i' g2 g3 g6 g7 g8 g9 gI gE gG gB gC gA gD gL gM gF gK gN gJ gH gO gP gT gQ gU gR gS hC' hF' hJ'
  simp (maxSteps:=1000000) (disch:=first|assumption|omega|rfl) only [↓gp, gc, Nat.reduceAdd]
  exact ⟨rfl, _, rfl, rfl, hC', hF', hJ'⟩
def cntJ (n0 : Nat) (l : List Nat) (S : zB) : Prop := ∃ v : Int, S[n0]? = some (.row [.d (.int .i64 v)] 3) ∧ (l.length ≤ 1000000 → v = l.length)
theorem zm8 (m r A n0 : Nat) (hA : A ≤ n0) : AskF m r 105 [.ref n0 0 0] A (cntJ n0) true := by
 refine ⟨?_, ?_, q30, rfl⟩
 ·rintro S l n ⟨v, hv, hl⟩
  refine qH rfl zvu ?_
  show Wp cfg (Tryz.f105.body.getD .skip) ((.d (.int .i64 (n : Int))) :: (.ref n0 0 0) :: (.tup []) :: (.tup []) :: (.tup []) :: (.tup []) :: []) S [] _
  conv => arg 2; whnf
  rw [zR]
  have hr := zD (e := 3) hv
  have hp := fun y => qJ (y := y) (e := 3) hv
  simp (maxSteps:=1000000) (disch:=first|assumption|omega|rfl) only [↓vmp, vme, vmb, ty, hP, zw6, zu0, List.length_map, Int.toNat_natCast, Nat.reduceAdd, List.cons_append, List.nil_append, Option.map_some, Option.map_none, zbb, zlh, zmd, vmg, ↓vgd, ↓vst, ↓vix, hr, hp, ld3r, st3]
  refine ⟨rfl, _, rfl, rfl, ⟨_, List.getElem?_set_self (zQ hv), fun hh => ?_⟩, by rw [List.length_set]; exact Nat.le_refl _, ?_⟩
  ·rw [List.length_append, List.length_singleton] at hh
   rw [hl (by omega), wrap64 (by omega), List.length_append, List.length_singleton]
   omega
  ·intro j o hj hc
   rw [List.getElem?_set_ne]
   ·exact hj
   ·rintro rfl
    rcases hc with hc | hc
    ·omega
    ·exact absurd rfl (hc _ _ (getE hj hv)).1
 ·rintro S S' l ⟨v, hv, hl⟩ hF
  exact ⟨v, hF.row hv rfl, hl⟩
def fstJ (p q : Nat) (l : List Nat) (S : zB) : Prop := ∃ (v : Int) (b : Bool), S[p]? = some (.row [.d (.int .i64 v)] 3) ∧ S[q]? = some (.row [.d (.bool b)] 4) ∧ (l = [] → v = 0 ∧ b = false) ∧ ∀ n, l.getLast? = some n → v = n ∧ b = true
theorem zl5 (m r A p q : Nat) (hp : A ≤ p) (hq : A ≤ q) (hpq : p ≠ q) : AskF m r 130 [.ref p 0 0, .ref q 0 0] A (fstJ p q) false := by
 refine ⟨?_, ?_, q2l, rfl⟩
 ·rintro S l n ⟨v, b, hv, hb, hl⟩
  refine qH rfl zs7 ?_
  show Wp cfg (Tryz.f130.body.getD .skip) ((.d (.int .i64 (n : Int))) :: (.ref p 0 0) :: (.ref q 0 0) :: (.tup []) :: (.tup []) :: (.tup []) :: []) S [] _
  conv => arg 2; whnf
  rw [zR]
  have hr := zD (e := 3) hv
  have hpp := fun y => qJ (y := y) (e := 3) hv
  have hb2 : ∀ o, (S.set p o)[q]? = some (.row [.d (.bool b)] 4) := fun o => by rw [List.getElem?_set_ne hpq]; exact hb
  have hr2 := fun o => zD (e := 4) (hb2 o)
  have hp2 := fun o y => qJ (y := y) (e := 4) (hb2 o)
  simp (maxSteps:=1000000) (disch:=first|assumption|omega|rfl) only [↓gp, gc, Nat.reduceAdd, hr, hpp, st3, hr2, hp2, st4b]
  refine ⟨rfl, _, rfl, rfl, ⟨n, true, ?_, List.getElem?_set_self (by rw [List.length_set]; exact zQ hb), fun hh => by simp at hh, fun k hk => ?_⟩, by rw [List.length_set, List.length_set]; exact Nat.le_refl _, ?_⟩
  ·rw [List.getElem?_set_ne (Ne.symm hpq), List.getElem?_set_self (zQ hv)]
  ·have : (l ++ [n]).getLast? = some n := by simp
   rw [this] at hk
   cases hk
   exact ⟨rfl, rfl⟩
  ·intro j o hj hc
   rw [List.getElem?_set_ne, List.getElem?_set_ne]
   ·exact hj
   ·rintro rfl
    rcases hc with hc | hc
    ·omega
    ·exact absurd rfl (hc _ _ (getE hj hv)).1
   ·rintro rfl
    rcases hc with hc | hc
    ·omega
    ·exact absurd rfl (hc _ _ (getE hj hb)).2
 ·rintro S S' l ⟨v, b, hv, hb, hl⟩ hF
  exact ⟨v, b, hF.row hv rfl, hF.row hb rfl, hl⟩
theorem q2j {S : zB} {a : Nat} : mfS (.func 105) S [] [.ref a 0 0] = some (.val (.fn (.func 105) [] [.ref a 0 0]) S 0) := z15 rfl
theorem q1v {S : zB} {a b : Nat} : mfS (.func 130) S [] [.ref a 0 0, .ref b 0 0] = some (.val (.fn (.func 130) [] [.ref a 0 0, .ref b 0 0]) S 0) := z15 rfl
theorem z8v {f : Fn} {a b : List V} : (V.fn f a b).one = true := rfl
theorem zta {f : Nat → Ino} {i : Nat} : (frN f i).length ≤ i := Nat.le_trans (List.length_filter_le ..) (by simp)
section
variable (S : zB) (B y x c r m mk gm : Nat) (l : Lay) (e : Int) (C : CS) (h : SeenAt S B y x c r m mk gm l e C) (hB : l.blocks = C.img.length) (hb : InB l.blocks) (hi : InB l.inodes) (hm : MayL l) (f : Nat → Ino) (hcl : ∀ ino : Nat, 2 ≤ ino → (ino : Int) ≤ l.inodes → ∃ bb, Ev cfg 123 [blkD (wP (C.see (2 + (ino - 1) / 8)) ((ino - 1) % 8))] (.ret (.tup [.d (qK (f ino)), .d (.bool bb)]))) (N : Nat) (hN : l.inodes = N)
include h hB hb hi hm hcl hN
theorem zm4 : EvS cfg 64 [.ref y 0 0] S (fun o S' => o = .ret (.d (.int .i64 ((frN f (N + 1)).length : Int))) ∧ CacheIn S' B c r m C ∧ FrC m r S S') := by
 refine qH rfl zyr ?_
 show Wp cfg (Tryz.f64.body.getD .skip) ((.ref y 0 0) :: (.tup []) :: (.tup []) :: (.tup []) :: (.tup []) :: (.tup []) :: (.tup []) :: (.tup []) :: []) S [] _
 conv => arg 2; whnf
 rw [zR]
 generalize ha : S.length = a
 have hN1 : N ≤ 128 := by have := hm.2.2.2.1; omega
 have hBS := h.ca.1
 obtain ⟨o, S2, ⟨rfl, hC, hF, v, hv, hvl⟩, hE⟩ := qF (zky (S ++ [.row [.d (.int .i64 0)] 3]) B y x c r m mk gm a l e C (h.keep Keep.refl.app) _ _ _ _ (zm8 m r a a (Nat.le_refl _)) (by omega) (by simp; omega) hB hb hi hm f hcl N hN ⟨0, by rw [← ha]; simp, fun _ => rfl⟩)
 have hE := fun {ops dst k T F Q} => zH (ops := ops) (dst := dst) (l := k) (T := T) (F := F) (Q := Q) rfl hE
 have hr := zD (e := 3) hv
 simp (maxSteps:=1000000) (disch:=first|assumption|omega|rfl) only [↓gp, gc, Nat.reduceAdd, z3, ha, rA0 ha, pA0 ha, st3, jS, q2j, z8v, hE, zzc, hr, ld3r]
 have hl := zta (f := f) (i := N + 1)
 rw [if_pos rfl] at hvl
 refine ⟨rfl, .d (.int .i64 v), rfl, by rw [hvl (by omega)], hC, by have := hF.1; simp at this; omega, fun j p hj hc => ?_⟩
 have hjl := zQ hj
 exact hF.2 j p (by omega) (by rw [List.getElem?_append_left hjl]; exact hj) hc
end
def C0 (B I M K : Nat) : CS := ⟨(List.range B).map (finB B I M K), [], 0⟩
theorem zrp {B I M K i : Nat} (h : i < B) : (C0 B I M K).img[i]? = some (finB B I M K i) := by
 unfold C0
 simp [h]
theorem zaf {B I M K : Nat} : (C0 B I M K).img.length = B := by unfold C0; simp
theorem zyd (B I M K i : Nat) : (finB B I M K i).length = 256 := by
 unfold finB
 split
 ·exact z4x ..
 ·split
  ·exact z0z ..
  ·exact znd _
theorem q34 {B I M K : Nat} (h : B ≤ 512) : (C0 B I M K).Ok := by
 refine ⟨by rw [zaf]; exact h, ?_, by simp [C0], by simp [C0], by simp [C0]⟩
 intro b hb
 obtain ⟨i, _, rfl⟩ := List.mem_map.1 hb
 exact zyd ..
theorem zqu (S : zB) (l : Lay) (B I M K : Nat) (hl : l = ⟨(B : Int), (I : Int), (M : Int)⟩) (hB : B ≤ 512) (hI : I ≤ 128) (hM : M < 18446744073709551616) (hm : MayL l) (hK : 2 + l.inodes.tdiv 8 = ((2 + K : Nat) : Int)) (hK16 : K ≤ 16) (hKB : 2 + K < B) :
  EvS cfg 53 [.d (encLay l)] S (fun o S' => Keep S S' ∧ ∃ d x c r m mk, o = .ret (.tup [.ref d 0 0, .ref x 0 0]) ∧ StoreP S' x c r m mk l 0 (C0 B I M K) (fun _ => none)) := by
 have hB16 : 16 ≤ B := by have := hm.1; rw [hl] at this; simp only at this; omega
 refine qH rfl q1d ?_
 show Wp cfg (Tryz.f53.body.getD .skip) ((.d (encLay l)) :: uZ (uZ ((.tup []) :: []))) S [] _
 unfold uZ
 conv => arg 2; whnf
 rw [zR]
 generalize ha : S.length = a
 have hlb : l.blocks = (B : Int) := by rw [hl]
 obtain ⟨o1, S1, hR1, hn⟩ := qF (q11 (S ++ [.row [.d (encLay l)] 32]) B hB16 (by omega))
 obtain ⟨hS1, rfl⟩ := hR1
 have hn := fun {ops dst k T F Q} => zH (ops := ops) (dst := dst) (l := k) (T := T) (F := F) (Q := Q) rfl hn
 simp only [List.append_assoc, List.length_append, List.length_cons, List.length_nil, ha, List.cons_append, List.nil_append] at hS1 hn
 have hD1 : DskAt S1 (a + 2) (a + 1) (List.replicate B (blkV (zK 256))) 0 false false 0 0 := by
  rw [hS1]
  refine ⟨?_, ?_, by omega⟩
  ·rw [List.getElem?_append_right (by omega), ha, Nat.add_sub_cancel_left, List.length_replicate]; rfl
  ·rw [List.getElem?_append_right (by omega), ha, Nat.add_sub_cancel_left]; rfl
 have hKS1 : Keep S S1 := hS1 ▸ Keep.refl.app
 have hlay1 : S1[a]? = some (.row [.d (encLay l)] 32) := by rw [hS1, List.getElem?_append_right (by omega), ha, Nat.sub_self]; rfl
 obtain ⟨o, S2, hR2, hf⟩ := qF (q0x l B I M K hl hB hI hM hm hK hK16 hKB S1 (a + 2) (a + 1) 0 ⟨by omega, by unfold InB; omega⟩ false hD1)
 have hR2 : o = .ret (.d (.int .i64 0)) ∧ ∃ vs f w, K2 (a + 2) (a + 1) S1 S2 ∧ DskAt S2 (a + 2) (a + 1) vs f false false w 0 ∧ vs.length = B ∧ (∀ (i : Nat) (v : V), vs[i]? = some v → IsB v (finB B I M K i)) ∧ (false = false → 0 ≤ f ∧ InB f ∧ 0 ≤ w ∧ w ≤ 100) := by
  rcases hR2 with ⟨_, h2, h3⟩ | ⟨⟨h1, _⟩, _⟩
  ·exact ⟨h2, h3⟩
  ·cases h1
 obtain ⟨rfl, vs, f, w, hK2, hD2, hvl, hV, hfw⟩ := hR2
 obtain ⟨f1, f2, w1, w2⟩ := hfw rfl
 have hf := fun {ops dst k T F Q} => zH (ops := ops) (dst := dst) (l := k) (T := T) (F := F) (Q := Q) rfl hf
 have hv0 := hV 0 (vs[0]'(by omega)) (List.getElem?_eq_getElem (by omega))
 have hfin0 : finB B I M K 0 = supB B I M := if_pos rfl
 rw [hfin0] at hv0
 obtain ⟨o, S3, ⟨hK3, hD3, x, c, mk, m, rfl, hx, hc, hm0, hmk, hne⟩, hmt⟩ := qF (zic S2 (a + 2) (a + 1) vs f w false B I M hB hI hM (by rw [← hl]; exact hm) hD2 _ (List.getElem?_eq_getElem (by omega)) hv0 hvl)
 have hmt := fun {ops dst k T F Q} => zH (ops := ops) (dst := dst) (l := k) (T := T) (F := F) (Q := Q) rfl hmt
 have hrl := zD (e := 32) hlay1
 simp (maxSteps:=1000000) (disch:=first|assumption|omega|rfl) only [↓gp, gc, Nat.reduceAdd, ha, rA0 ha, vF, z0q, hlb, hn, q0p, hrl, lr32, hf, zyg, hmt, bo31]
 refine ⟨rfl, _, z11 rfl rfl rfl rfl, fun j o hj => ?_, a + 1 + 1, x, c, a + 1, m, mk, rfl, ⟨(by rw [hl]; exact hx), ⟨a + 2, .ts [], [], vs, fun _ => none, f, w.toNat, 1, ⟨hc, MpI.nil hm0, ?_, ⟨f1, f2⟩, ?_, ?_, ?_, .inl ⟨rfl, rfl⟩, ⟨rfl, ?_⟩, ?_, q34 hB⟩, by omega⟩, MpI.nil hmk, hne, ?_⟩⟩
 ·have := zQ hj
  exact hK3 j o (by omega) (by omega) (hK2 j o (by omega) (by omega) (hKS1 j o hj))
 ·have hw : ((w.toNat : Nat) : Int) = w := by omega
  rw [hw]
  exact hD3
 ·rw [hvl, zaf]
 ·intro i v b hv hb
  have hi : i < B := by have := (List.getElem?_eq_some_iff.1 hv).1; omega
  rw [zrp hi] at hb
  cases hb
  exact hV i v hv
 ·intro no v hh
  cases hh
 ·intro i e ch he
  cases he
 ·show w.toNat + 0 ≤ 0 + 100
  omega
 ·rw [hlb, zaf]
theorem q1h : zC Tryz.prog 67 = some ⟨(Tryz.f67.body.getD .skip), 37, #[]⟩ := by
 unfold zC
 rw [Tryz.func67]
 rfl
theorem q24 {S : zB} {a : Nat} : mfS (.func 68) S [] [.ref a 0 0] = some (.val (.fn (.func 68) [] [.ref a 0 0]) S 0) := z15 rfl
theorem zch (S : zB) (l : Lay) (B I M K : Nat) (hl : l = ⟨(B : Int), (I : Int), (M : Int)⟩) (hB : B ≤ 512) (hI : I ≤ 128) (hM : M < 18446744073709551616) (hm : MayL l) (hK : 2 + l.inodes.tdiv 8 = ((2 + K : Nat) : Int)) (hK16 : K ≤ 16) (hKB : 2 + K < B) :
  EvS cfg 18 [.d (encLay l)] S (fun o S' => Keep S S' ∧ ∃ y x c r m mk gm, o = .ret (.ref y 0 0) ∧ S'[y]? = some (.row [allV x gm] 116) ∧ S'[gm]? = some (.mp [] 0) ∧ gm ≠ m ∧ gm ≠ mk ∧ StoreP S' x c r m mk l 0 (C0 B I M K) (fun _ => none)) := by
 refine qH rfl q0a ?_
 show Wp cfg (Tryz.f18.body.getD .skip) ((.d (encLay l)) :: uZ ((.tup []) :: [])) S [] _
 unfold uZ
 conv => arg 2; whnf
 rw [zR]
 generalize ha : S.length = a
 obtain ⟨o, S2, ⟨hK2, d, x, c, r, m, mk, rfl, hS⟩, hE⟩ := qF (zqu (S ++ [.row [.d (encLay l)] 32]) l B I M K hl hB hI hM hm hK hK16 hKB)
 have hE := fun {ops dst k T F Q} => zH (ops := ops) (dst := dst) (l := k) (T := T) (F := F) (Q := Q) rfl hE
 have hN := fun {ops dst k T F Q} => zH (ops := ops) (dst := dst) (l := k) (T := T) (F := F) (Q := Q) rfl (zsq S2 x)
 simp (maxSteps:=1000000) (disch:=first|assumption|omega|rfl) only [↓gp, gc, Nat.reduceAdd, ha, rA0 ha, lr32, hE, bo53, hN, bo32]
 have h1 : (S2 ++ [Ob.mp [] 0, .row [allV x S2.length] 116])[S2.length]? = some (.mp [] 0) := by rw [List.getElem?_append_right (by omega), Nat.sub_self]; rfl
 have h2 : (S2 ++ [Ob.mp [] 0, .row [allV x S2.length] 116])[S2.length + 1]? = some (.row [allV x S2.length] 116) := by rw [List.getElem?_append_right (by omega), Nat.add_sub_cancel_left]; rfl
 have hm1 : m < S2.length := by
  obtain ⟨_, _, _, _, _, _, _, _, h, _⟩ := hS.ca
  exact h.hm.lt
 have hm2 := hS.mp.lt
 exact ⟨rfl, _, rfl, (Keep.refl.app.trans hK2).app, _, x, c, r, m, mk, S2.length, rfl, h2, h1, by omega, by omega, hS.keep Keep.refl.app⟩
end Go.Proofs.YtobgdmgldagjkaaGreat
end
section
namespace Go.Vm
theorem zly {y d k : Nat} (h : k ≤ y) : kC y (some (.d (.int .i64 (k : Int)))) d = some k := by
 have := zol (n := y) (d := d) (i := (k : Int)) (by omega) (by omega)
 rw [this, Int.toNat_natCast]
theorem zlo {P : Program} {S : zB} {t e : TypeId} {v z : V} {l : List V} {k : Nat} (hu : P.underlying t = some (.slice e)) (hz : (sz P e).isSome = true) (hf : ∀ x ∈ l ++ [z], qB P e x = true) (h : OwnS S v e (l ++ [z])) (hk : k ≤ l.length) (hi : intT P t = false) : ∃ id, v = .rs id 0 (l.length + 1) ∧ S[id]? = some (.row (l ++ [z]) e) ∧
  wN P S t v (some (.d (.int .i64 ((k + 1 : Nat) : Int)))) none = some (.rs id (k + 1) (l.length - k)) ∧
  wN P S t v (some (.d (.int .i64 (k : Int)))) none = some (.rs id k (l.length + 1 - k)) ∧
  copyV P S t t (.rs id (k + 1) (l.length - k)) (.rs id k (l.length + 1 - k)) = some (.d (.int .i64 ((l.length - k : Nat) : Int)), S.set id (.row ((l ++ [z]).take (k + 1) ++ l.drop k) e)) := by
 rcases h with ⟨rfl, hh⟩ | ⟨id, hv, h1⟩
 ·simp at hh
 have hlen : (l ++ [z]).length = l.length + 1 := by simp
 rw [hlen] at hv
 subst hv
 have h3 : rowT S id e = true := by simp only [rowT, h1, beq_self_eq_true]
 refine ⟨id, rfl, h1, ?_, ?_, ?_⟩
 ·have hb := zly (y := l.length + 1) (d := 0) (k := k + 1) (by omega)
  have e : l.length + 1 - (k + 1) = l.length - k := by omega
  simp only [wN, hu, zc1, hb, h3, hz, Bool.and_self, if_true, Nat.zero_add, e]
 ·have hb := zly (y := l.length + 1) (d := 0) (k := k) (by omega)
  simp only [wN, hu, zc1, hb, h3, hz, Bool.and_self, if_true, Nat.zero_add]
 ·have hle : k + (l.length + 1 - k) ≤ l.length + 1 := by omega
  have hle2 : k + 1 + (l.length - k) ≤ l.length + 1 := by omega
  have hsrc : ((l ++ [z]).drop k).take (l.length + 1 - k) = (l ++ [z]).drop k := List.take_of_length_le (by rw [List.length_drop, hlen]; omega)
  have hfit : ((l ++ [z]).drop k).all (qB P e) = true := by
   rw [List.all_eq_true]
   intro x hx
   exact hf x (List.mem_of_mem_drop hx)
  have hmin : min ((l ++ [z]).drop k).length (l.length - k) = l.length - k := by
   rw [List.length_drop, hlen]; omega
  have e2 : ((l ++ [z]).drop k).take (l.length - k) = l.drop k := by
   rw [List.drop_append_of_le_length hk, List.take_append_of_le_length (by simp), List.take_of_length_le (by simp)]
  have e3 : (l ++ [z]).drop (k + 1 + (l.length - k)) = [] := List.drop_eq_nil_of_le (by rw [hlen]; omega)
  simp only [copyV, srcV, kK, hu, hi, h1, hlen, hle, hle2, if_true, hsrc, hfit, hz, Bool.and_self, hmin, decide_true, e2, e3, List.append_nil, Bool.false_eq_true, if_false]
theorem zlf {α : Type} {l : List α} {k : Nat} {s z : α} (hk : k ≤ l.length) : ((l ++ [z]).take (k + 1) ++ l.drop k).set k s = l.take k ++ s :: l.drop k := by
 have h1 : (l ++ [z]).take (k + 1) = l.take k ++ [(l ++ [z])[k]'(by simp; omega)] := by
  rw [List.take_add_one, List.getElem?_eq_getElem (by simp; omega), List.take_append_of_le_length hk]
  rfl
 rw [h1, List.append_assoc, List.set_append_right _ _ (by rw [List.length_take]; omega)]
 have h2 : k - (l.take k).length = 0 := by rw [List.length_take]; omega
 rw [h2]
 simp
theorem zjt : ∀ {l m : List Int}, l.Pairwise (· < ·) → m.Pairwise (· < ·) → (∀ x, x ∈ l ↔ x ∈ m) → l = m
 | [], [], _, _, _ => rfl
 | [], b :: m, _, _, h => by have := (h b).2 List.mem_cons_self; cases this
 | a :: l, [], _, _, h => by have := (h a).1 List.mem_cons_self; cases this
 | a :: l, b :: m, hl, hm, h => by
  rw [List.pairwise_cons] at hl hm
  have hab : a = b := by
   rcases List.mem_cons.1 ((h a).1 List.mem_cons_self) with e | e
   ·exact e
   ·rcases List.mem_cons.1 ((h b).2 List.mem_cons_self) with e' | e'
    ·exact e'.symm
    ·have h1 := hm.1 a e
     have h2 := hl.1 b e'
     omega
  subst hab
  rw [zjt hl.2 hm.2 fun x => ?_]
  constructor
  ·intro hx
   have hn := hl.1 x hx
   rcases List.mem_cons.1 ((h x).1 (List.mem_cons_of_mem _ hx)) with e | e
   ·omega
   ·exact e
  ·intro hx
   have hn := hm.1 x hx
   rcases List.mem_cons.1 ((h x).2 (List.mem_cons_of_mem _ hx)) with e | e
   ·omega
   ·exact e
theorem zqs {l : List Int} {k : Nat} {n : Int} (hl : l.Pairwise (· < ·)) (hk : k ≤ l.length) (h1 : ∀ x ∈ l.take k, x < n) (h2 : ∀ x ∈ l.drop k, n < x) : (l.take k ++ n :: l.drop k).Pairwise (· < ·) := by
 rw [List.pairwise_append, List.pairwise_cons]
 refine ⟨hl.sublist (List.take_sublist ..), ⟨h2, hl.sublist (List.drop_sublist ..)⟩, ?_⟩
 intro x hx y hy
 rcases List.mem_cons.1 hy with rfl | hy
 ·exact h1 x hx
 ·have := h1 x hx
  have := h2 y hy
  omega
theorem zk9 {l : List Int} {k : Nat} {n x : Int} : x ∈ l.take k ++ n :: l.drop k ↔ x ∈ l ∨ x = n := by
 rw [List.mem_append, List.mem_cons]
 constructor
 ·rintro (h | rfl | h)
  ·exact .inl (List.mem_of_mem_take h)
  ·exact .inr rfl
  ·exact .inl (List.mem_of_mem_drop h)
 ·rintro (h | rfl)
  ·rw [← List.take_append_drop k l] at h
   rcases List.mem_append.1 h with h | h
   ·exact .inl h
   ·exact .inr (.inr h)
  ·exact .inr (.inl rfl)
end Go.Vm
end
section
namespace Go.Proofs.YtobgdmgldagjkaaGreat
open Go.Vm
def z88 (C : CS) (n : Int) : Prop := 1 ≤ n ∧ n ≤ C.last ∧ ∀ ch ∈ C.list, ch.id ≠ n
instance {C : CS} {n : Int} : Decidable (z88 C n) := by unfold z88; infer_instance
theorem zxe (c : Nat) (id : Int) (S0 : zB) (L : V) (es : List V) (l : List Chg) (hL : OwnS S0 L 80 es) (hl : ChgsV S0 es l) (hes : es.length ≤ 1000000) (R : Post) :
 ∀ (k i : Nat) (S : zB) (g0 g2 g3 g4 g5 g6 g7 g8 g9 gI gE gG gB gC gA gD gL gM gF gK gN gJ gH gQ gU gR gS gV gW gX gY : V), l.length - i = k → i ≤ l.length → Keep S0 S → (∀ ch ∈ l.take i, ch.id ≠ id) →
 (∀ S' i' g0 g2 g3 g4 g5 g6 g7 g8 g9 gI gE gG gB gC gA gD gL gM gF gK gN gJ gH gQ gU gR gS gV gW gX gY, Keep S0 S' → (∀ ch ∈ l, ch.id ≠ id) → R (.exit 0) (g0 :: (.d (.int .i64 id)) :: g2 :: g3 :: g4 :: g5 :: g6 :: g7 :: g8 :: g9 :: gI :: gE :: gG :: gB :: gC :: gA :: gD :: gL :: gM :: gF :: gK :: gN :: gJ :: gH :: L :: (.d (.int .i64 (l.length : Int))) :: i' :: gQ :: gU :: gR :: gS :: gV :: gW :: gX :: gY :: []) S' []) →
 (∀ S' T', Keep S0 S' → ¬ (∀ ch ∈ l, ch.id ≠ id) → T'.getD 4 (.tup []) = .d (.bool false) → R .ret T' S' []) →
 Wp cfg (.loop (lpOf (Tryz.f155.body.getD .skip) 0)) (g0 :: (.d (.int .i64 id)) :: g2 :: g3 :: g4 :: g5 :: g6 :: g7 :: g8 :: g9 :: gI :: gE :: gG :: gB :: gC :: gA :: gD :: gL :: gM :: gF :: gK :: gN :: gJ :: gH :: L :: (.d (.int .i64 (l.length : Int))) :: (.d (.int .i64 (i : Int))) :: gQ :: gU :: gR :: gS :: gV :: gW :: gX :: gY :: []) S [] R := by
 intro k
 have hll := hl.1
 induction k with
 | zero =>
  intro i S g0 g2 g3 g4 g5 g6 g7 g8 g9 gI gE gG gB gC gA gD gL gM gF gK gN gJ gH gQ gU gR gS gV gW gX gY hk hi hK hA hR hR2
  have hie : i = l.length := by omega
  subst hie
  rw [List.take_length] at hA
  rw [zR]
  refine zL ?_
  conv => arg 2; whnf
  simp (maxSteps:=1000000) (disch:=first|assumption|omega|rfl) only [↓gp, gc, Nat.reduceAdd]
  exact hR _ _ _ _ _ _ _ _ _ _ _ _ _ _ _ _ _ _ _ _ _ _ _ _ _ _ _ _ _ _ _ _ _ hK hA
 | succ k ih =>
  intro i S g0 g2 g3 g4 g5 g6 g7 g8 g9 gI gE gG gB gC gA gD gL gM gF gK gN gJ gH gQ gU gR gS gV gW gX gY hk hi hK hA hR hR2
  have hlt : i < l.length := by omega
  have hlt2 : i < es.length := by omega
  obtain ⟨id', hix, hre, _⟩ := wH u119 s122 (hK.own hL) hlt2
  obtain ⟨dv, nv, he, hd5, hn3⟩ := hl.2 i es[i] l[i] (List.getElem?_eq_getElem hlt2) (List.getElem?_eq_getElem hlt)
  rw [he] at hre
  have h3 : IntKind.i64.wrap ((i : Int) + 1) = ((i + 1 : Nat) : Int) := by rw [wrap64 (by omega)]; omega
  generalize ha : S.length = a
  rw [zR]
  refine zL ?_
  conv => arg 2; whnf
  by_cases hno : l[i].id = id
  ·have hde : ∀ i' : Decidable (l[i].id = id), @decide (l[i].id = id) i' = true := fun i' => decide_eq_true hno
   simp (maxSteps:=1000000) (disch:=first|assumption|omega|rfl) only [↓gp, gc, Nat.reduceAdd, hix, hre, z2c, z122, z2d, z3s, ha, rA0 ha, pA0 ha, z0u, z0l, hde, h3]
   exact hR2 _ _ (Keep.app hK) (fun hh => hh l[i] (List.getElem_mem hlt) hno) rfl
  ·have hde : ∀ i' : Decidable (l[i].id = id), @decide (l[i].id = id) i' = false := fun i' => decide_eq_false hno
   simp (maxSteps:=1000000) (disch:=first|assumption|omega|rfl) only [↓gp, gc, Nat.reduceAdd, hix, hre, z2c, z122, z2d, z3s, ha, rA0 ha, pA0 ha, z0u, z0l, hde, h3]
   refine ih (i + 1) _ _ _ _ _ _ _ _ _ _ _ _ _ _ _ _ _ _ _ _ _ _ _ _ _ _ _ _ _ _ _ _ (by omega) (by omega) (Keep.app hK) ?_ hR hR2
   intro ch hch
   rw [List.take_add_one, List.getElem?_eq_getElem hlt] at hch
   rcases List.mem_append.1 hch with hch | hch
   ·exact hA ch hch
   ·simp only [Option.toList_some, List.mem_singleton] at hch
    subst hch
    exact hno
theorem zux (S : zB) (c r m : Nat) (C : CS) (h0 : CacheAt S c r m C) (id : Int) : EvS cfg 155 [.ref c 0 0, .d (.int .i64 id)] S (fun o S' => Keep S S' ∧ o = .ret (.d (.bool (decide (z88 C id))))) := by
 obtain ⟨d, L, es, vs, f, z, w, q, h, hq⟩ := h0
 refine qH rfl zs8 ?_
 show Wp cfg (Tryz.f155.body.getD .skip) ((.ref c 0 0) :: (.d (.int .i64 id)) :: uZ (uZ (uZ ((.tup []) :: (.tup []) :: (.tup []) :: [])))) S [] _
 unfold uZ
 conv => arg 2; whnf
 rw [zR]
 have hc0 : rowE S c 0 = some (cacV d m L C.last) := zD (e := 126) h.hc
 have hln : zO Tryz.prog S .len [74] [L] = some (.val (.d (.int .i64 (C.list.length : Int))) S 0) := by rw [wC u119 h.lo, h.lc.1]
 by_cases h1 : id < 1
 ·have e : decide (z88 C id) = false := decide_eq_false (fun hh => by have := hh.1; omega)
  rw [e]
  simp (maxSteps:=1000000) (disch:=first|assumption|omega|rfl) only [↓gp, gc, Nat.reduceAdd, z6l, z0a, hc0, lc3, zN]
  exact ⟨rfl, _, rfl, Keep.refl, rfl⟩
 ·by_cases h2 : id > (C.last : Int)
  ·have e : decide (z88 C id) = false := decide_eq_false (fun hh => by have := hh.2.1; omega)
   rw [e]
   simp (maxSteps:=1000000) (disch:=first|assumption|omega|rfl) only [↓gp, gc, Nat.reduceAdd, z6l, z0a, hc0, lc3, zN]
   exact ⟨rfl, _, rfl, Keep.refl, rfl⟩
  ·simp (maxSteps:=1000000) (disch:=first|assumption|omega|rfl) only [↓gp, gc, Nat.reduceAdd, z6l, z4c, z0a, hc0, lc2, lc3, hln, zN]
   refine zxe c id S L es C.list h.lo h.lc (by have h1 := h.wq; have h2 := h.ok.last; have h3 := h.lc.1; omega) _ C.list.length 0 S _ _ _ _ _ _ _ _ _ _ _ _ _ _ _ _ _ _ _ _ _ _ _ _ _ _ _ _ _ _ _ rfl (Nat.zero_le _) Keep.refl (by simp) ?_ ?_
   ·intro S' i' g0 g2 g3 g4 g5 g6 g7 g8 g9 gI gE gG gB gC gA gD gL gM gF gK gN gJ gH gQ gU gR gS gV gW gX gY hK hA
    have e : decide (z88 C id) = true := decide_eq_true ⟨by omega, by omega, hA⟩
    rw [e]
    simp (maxSteps:=1000000) (disch:=first|assumption|omega|rfl) only [↓gp, gc, Nat.reduceAdd]
    exact ⟨rfl, _, rfl, hK, rfl⟩
   ·intro S' T' hK hA hT
    have e : decide (z88 C id) = false := decide_eq_false (fun hh => hA hh.2.2)
    rw [e]
    exact ⟨rfl, _, hT ▸ rfl, hK, rfl⟩
theorem qC {l : List Int} : (zW l).length = l.length := by unfold zW; simp
theorem zsk (c : Nat) (n : Int) (S : zB) (v nd x11 x12 : V) (out : List Int) (ho : OwnS S v 3 (zW out)) (hlen : out.length ≤ 100000) (R : Post) :
 ∀ (p : Nat) (g1 g2 g3 g4 g5 g7 gB gC gA gD gL gM gF gK gN gJ gH gO gP gT gQ gU gR gS gV gW gX gY gZ gh gj gk gn gr gz hH hU hY xF hZ xA xB xC xD xE xG xH xI xJ xK xL xM xN xO xP xQ xR xS xT xU xV xW xX xY xZ : V), p ≤ out.length → (∀ x ∈ out.drop p, n < x) →
 (∀ (p' : Nat) (hp : p' ≤ out.length) g1 g2 g3 g4 g5 g7 gB gC gA gD gL gM gF gK gN gJ gH gO gP gT gQ gU gR gS gV gW gX gY gZ gh gj gk gn gr gz hH hU hY xF hZ xA xB xC xD xE xG xH xI xJ xK xL xM xN xO xP xQ xR xS xT xU xV xW xX xY xZ, (∀ x ∈ out.drop p', n < x) → (∀ h : 0 < p', out[p' - 1]'(by omega) ≤ n) → R (.exit 2) ((.ref c 0 0) :: g1 :: g2 :: g3 :: g4 :: g5 :: v :: g7 :: (.d (.int .i64 n)) :: (.d (.int .i64 (p' : Int))) :: nd :: x11 :: x12 :: gB :: gC :: gA :: gD :: gL :: gM :: gF :: gK :: gN :: gJ :: gH :: gO :: gP :: gT :: gQ :: gU :: gR :: gS :: gV :: gW :: gX :: gY :: gZ :: gh :: gj :: gk :: gn :: gr :: gz :: hH :: hU :: hY :: xF :: hZ :: xA :: xB :: xC :: xD :: xE :: xG :: xH :: xI :: xJ :: xK :: xL :: xM :: xN :: xO :: xP :: xQ :: xR :: xS :: xT :: xU :: xV :: xW :: xX :: xY :: xZ :: []) S []) →
 Wp cfg (.loop (lpOf (Tryz.f135.body.getD .skip) 2)) ((.ref c 0 0) :: g1 :: g2 :: g3 :: g4 :: g5 :: v :: g7 :: (.d (.int .i64 n)) :: (.d (.int .i64 (p : Int))) :: nd :: x11 :: x12 :: gB :: gC :: gA :: gD :: gL :: gM :: gF :: gK :: gN :: gJ :: gH :: gO :: gP :: gT :: gQ :: gU :: gR :: gS :: gV :: gW :: gX :: gY :: gZ :: gh :: gj :: gk :: gn :: gr :: gz :: hH :: hU :: hY :: xF :: hZ :: xA :: xB :: xC :: xD :: xE :: xG :: xH :: xI :: xJ :: xK :: xL :: xM :: xN :: xO :: xP :: xQ :: xR :: xS :: xT :: xU :: xV :: xW :: xX :: xY :: xZ :: []) S [] R := by
 intro p
 induction p with
 | zero =>
  intro g1 g2 g3 g4 g5 g7 gB gC gA gD gL gM gF gK gN gJ gH gO gP gT gQ gU gR gS gV gW gX gY gZ gh gj gk gn gr gz hH hU hY xF hZ xA xB xC xD xE xG xH xI xJ xK xL xM xN xO xP xQ xR xS xT xU xV xW xX xY xZ hp hd hR
  rw [zR]
  refine zL ?_
  conv => arg 2; whnf
  simp only [nl0]
  simp (maxSteps:=1000000) (disch:=first|assumption|omega|rfl) only [↓gp, gc, Nat.reduceAdd]
  exact hR 0 hp _ _ _ _ _ _ _ _ _ _ _ _ _ _ _ _ _ _ _ _ _ _ _ _ _ _ _ _ _ _ _ _ _ _ _ _ _ _ _ _ _ _ _ _ _ _ _ _ _ _ _ _ _ _ _ _ _ _ _ _ _ _ _ _ _ hd (fun h => absurd h (by omega))
 | succ p ih =>
  intro g1 g2 g3 g4 g5 g7 gB gC gA gD gL gM gF gK gN gJ gH gO gP gT gQ gU gR gS gV gW gX gY gZ gh gj gk gn gr gz hH hU hY xF hZ xA xB xC xD xE xG xH xI xJ xK xL xM xN xO xP xQ xR xS xT xU xV xW xX xY xZ hp hd hR
  have hlt : p < out.length := by omega
  obtain ⟨id, hix, hre, _⟩ := wH Tryz.underlying22 (by kernel_rfl) ho (i := p) (by rw [qC]; exact hlt)
  have hre : rowE S id p = some (.d (.int .i64 out[p])) := by rw [hre]; simp [zW]
  have hs : IntKind.i64.wrap (((p + 1 : Nat) : Int) - 1) = (p : Int) := by rw [wrap64 (by omega)]; omega
  have hpos : ((p + 1 : Nat) : Int) > 0 := by omega
  rw [zR]
  refine zL ?_
  conv => arg 2; whnf
  by_cases hgt : out[p] > n
  ·have hde : ∀ i' : Decidable (out[p] > n), @decide (out[p] > n) i' = true := fun i' => decide_eq_true hgt
   simp (maxSteps:=1000000) (disch:=first|assumption|omega|rfl) only [↓gp, gc, Nat.reduceAdd, hs, hix, hre, ld3r, hde]
   refine ih _ _ _ _ _ _ _ _ _ _ _ _ _ _ _ _ _ _ _ _ _ _ _ _ _ _ _ _ _ _ _ _ _ _ _ _ _ _ _ _ _ _ _ _ _ _ _ _ _ _ _ _ _ _ _ _ _ _ _ _ _ _ _ _ _ (by omega) ?_ hR
   intro x hx
   rw [List.drop_eq_getElem_cons hlt] at hx
   rcases List.mem_cons.1 hx with rfl | hx
   ·exact hgt
   ·exact hd x hx
  ·have hde : ∀ i' : Decidable (out[p] > n), @decide (out[p] > n) i' = false := fun i' => decide_eq_false hgt
   simp (maxSteps:=1000000) (disch:=first|assumption|omega|rfl) only [↓gp, gc, Nat.reduceAdd, hs, hix, hre, ld3r, hde]
   exact hR (p + 1) hp _ _ _ _ _ _ _ _ _ _ _ _ _ _ _ _ _ _ _ _ _ _ _ _ _ _ _ _ _ _ _ _ _ _ _ _ _ _ _ _ _ _ _ _ _ _ _ _ _ _ _ _ _ _ _ _ _ _ _ _ _ _ _ _ _ hd (fun h => by
    have e : out[p + 1 - 1]'(by omega) = out[p] := by simp
    rw [e]; omega)
def NdOk (C : CS) (l out : List Int) : Prop := out.Pairwise (· < ·) ∧ ∀ x, x ∈ out ↔ x ∈ l ∧ ¬ z88 C x
theorem i46 : intT Tryz.prog 22 = false := by kernel_rfl
theorem s3z : (sz Tryz.prog 3).isSome = true := by kernel_rfl
theorem zq6 {S : zB} : bs1 Tryz.prog S 22 (.d (.int .i64 0)) = some (.val (.ts [.int .i64 0]) S 0) := by kernel_rfl
theorem kT {α : Type} {l : List α} {i : Nat} (h : i < l.length) : l.take (i + 1) = l.take i ++ [l[i]] := by rw [List.take_add_one, List.getElem?_eq_getElem h]; rfl
theorem NdOk.skip {C : CS} {l out : List Int} {n : Int} (h : NdOk C l out) (hn : z88 C n ∨ n ∈ out) : NdOk C (l ++ [n]) out := by
 refine ⟨h.1, fun x => ?_⟩
 rw [h.2 x, List.mem_append, List.mem_singleton]
 constructor
 ·exact fun ⟨a, b⟩ => ⟨.inl a, b⟩
 ·rintro ⟨a | rfl, b⟩
  ·exact ⟨a, b⟩
  ·rcases hn with hn | hn
   ·exact absurd hn b
   ·exact (h.2 x).1 hn
theorem NdOk.ins {C : CS} {l out : List Int} {n : Int} {p : Nat} (h : NdOk C l out) (hp : p ≤ out.length) (hn : ¬ z88 C n) (h1 : ∀ x ∈ out.take p, x < n) (h2 : ∀ x ∈ out.drop p, n < x) : NdOk C (l ++ [n]) (out.take p ++ n :: out.drop p) := by
 refine ⟨zqs h.1 hp h1 h2, fun x => ?_⟩
 rw [zk9, h.2 x, List.mem_append, List.mem_singleton]
 constructor
 ·rintro (⟨a, b⟩ | rfl)
  ·exact ⟨.inl a, b⟩
  ·exact ⟨.inr rfl, hn⟩
 ·rintro ⟨a | rfl, b⟩
  ·exact .inl ⟨a, b⟩
  ·exact .inr rfl
theorem zxu (c r m : Nat) (C : CS) (S0 : zB) (hC0 : CacheAt S0 c r m C) (nd : V) (l : List Int) (hnd : OwnS S0 nd 3 (zW l)) (hl : l.length ≤ 50000) (R : Post) :
 ∀ (k i : Nat) (S : zB) (v6 : V) (out : List Int) (g1 g2 g3 g4 g5 g7 g8 g9 gB gC gA gD gL gM gF gK gN gJ gH gO gP gT gQ gU gR gS gV gW gX gY gZ gh gj gk gn gr gz hH hU hY xF hZ xA xB xC xD xE xG xH xI xJ xK xL xM xN xO xP xQ xR xS xT xU xV xW xX xY xZ : V), l.length - i = k → i ≤ l.length → Keep S0 S → (∀ j, j < S0.length → NotAt v6 j) → OwnS S v6 3 (zW out) → out.length ≤ i → NdOk C (l.take i) out → (∀ x ∈ l.take i, 1 ≤ x ∧ x ≤ C.last) →
 (∀ S v6 out i' g1 g2 g3 g4 g5 g7 g8 g9 gB gC gA gD gL gM gF gK gN gJ gH gO gP gT gQ gU gR gS gV gW gX gY gZ gh gj gk gn gr gz hH hU hY xF hZ xA xB xC xD xE xG xH xI xJ xK xL xM xN xO xP xQ xR xS xT xU xV xW xX xY xZ, Keep S0 S → OwnS S v6 3 (zW out) → NdOk C l out → (∀ x ∈ l, 1 ≤ x ∧ x ≤ C.last) → R (.exit 0) ((.ref c 0 0) :: g1 :: g2 :: g3 :: g4 :: g5 :: v6 :: g7 :: g8 :: g9 :: nd :: (.d (.int .i64 (l.length : Int))) :: i' :: gB :: gC :: gA :: gD :: gL :: gM :: gF :: gK :: gN :: gJ :: gH :: gO :: gP :: gT :: gQ :: gU :: gR :: gS :: gV :: gW :: gX :: gY :: gZ :: gh :: gj :: gk :: gn :: gr :: gz :: hH :: hU :: hY :: xF :: hZ :: xA :: xB :: xC :: xD :: xE :: xG :: xH :: xI :: xJ :: xK :: xL :: xM :: xN :: xO :: xP :: xQ :: xR :: xS :: xT :: xU :: xV :: xW :: xX :: xY :: xZ :: []) S []) →
 (∀ S T, Keep S0 S → ¬ (∀ x ∈ l, 1 ≤ x ∧ x ≤ C.last) → T.getD 4 (.tup []) = .ts [] → T.getD 5 (.tup []) = .d (.bool false) → R .ret T S []) →
 Wp cfg (.loop (lpOf (Tryz.f135.body.getD .skip) 0)) ((.ref c 0 0) :: g1 :: g2 :: g3 :: g4 :: g5 :: v6 :: g7 :: g8 :: g9 :: nd :: (.d (.int .i64 (l.length : Int))) :: (.d (.int .i64 (i : Int))) :: gB :: gC :: gA :: gD :: gL :: gM :: gF :: gK :: gN :: gJ :: gH :: gO :: gP :: gT :: gQ :: gU :: gR :: gS :: gV :: gW :: gX :: gY :: gZ :: gh :: gj :: gk :: gn :: gr :: gz :: hH :: hU :: hY :: xF :: hZ :: xA :: xB :: xC :: xD :: xE :: xG :: xH :: xI :: xJ :: xK :: xL :: xM :: xN :: xO :: xP :: xQ :: xR :: xS :: xT :: xU :: xV :: xW :: xX :: xY :: xZ :: []) S [] R := by
 intro k
 induction k with
 | zero =>
  intro i S v6 out g1 g2 g3 g4 g5 g7 g8 g9 gB gC gA gD gL gM gF gK gN gJ gH gO gP gT gQ gU gR gS gV gW gX gY gZ gh gj gk gn gr gz hH hU hY xF hZ xA xB xC xD xE xG xH xI xJ xK xL xM xN xO xP xQ xR xS xT xU xV xW xX xY xZ hk hi hK hN ho hol hok hrg hR hR2
  have hie : i = l.length := by omega
  subst hie
  rw [List.take_length] at hok hrg
  rw [zR]
  refine zL ?_
  conv => arg 2; whnf
  simp (maxSteps:=1000000) (disch:=first|assumption|omega|rfl) only [↓gp, gc, Nat.reduceAdd]
  exact hR _ _ _ _ _ _ _ _ _ _ _ _ _ _ _ _ _ _ _ _ _ _ _ _ _ _ _ _ _ _ _ _ _ _ _ _ _ _ _ _ _ _ _ _ _ _ _ _ _ _ _ _ _ _ _ _ _ _ _ _ _ _ _ _ _ _ _ _ _ _ _ hK ho hok hrg
 | succ k ih =>
  intro i S v6 out g1 g2 g3 g4 g5 g7 g8 g9 gB gC gA gD gL gM gF gK gN gJ gH gO gP gT gQ gU gR gS gV gW gX gY gZ gh gj gk gn gr gz hH hU hY xF hZ xA xB xC xD xE xG xH xI xJ xK xL xM xN xO xP xQ xR xS xT xU xV xW xX xY xZ hk hi hK hN ho hol hok hrg hR hR2
  have hlt : i < l.length := by omega
  have h3 : IntKind.i64.wrap ((i : Int) + 1) = ((i + 1 : Nat) : Int) := by rw [wrap64 (by omega)]; omega
  obtain ⟨id, hix, hre, _⟩ := wH Tryz.underlying22 s3z (hK.own hnd) (i := i) (by rw [qC]; exact hlt)
  have hre : rowE S id i = some (.d (.int .i64 l[i])) := by rw [hre]; simp [zW]
  have hC := hC0.keep hK
  obtain ⟨d, L, es, vs, f, z, w, q, hp, _⟩ := hC
  have hc0 : rowE S c 0 = some (cacV d m L C.last) := zD (e := 126) hp.hc
  have hmem : l[i] ∈ l := List.getElem_mem hlt
  rw [zR]
  refine zL ?_
  conv => arg 2; whnf
  by_cases h1 : l[i] < 1
  ·simp (maxSteps:=1000000) (disch:=first|assumption|omega|rfl) only [↓gp, gc, Nat.reduceAdd, hix, hre, ld3r, z0a, hc0, lc3, zN]
   exact hR2 _ _ hK (fun hh => by have := (hh _ hmem).1; omega) rfl rfl
  ·by_cases h2 : l[i] > (C.last : Int)
   ·simp (maxSteps:=1000000) (disch:=first|assumption|omega|rfl) only [↓gp, gc, Nat.reduceAdd, hix, hre, ld3r, z0a, hc0, lc3, zN]
    exact hR2 _ _ hK (fun hh => by have := (hh _ hmem).2; omega) rfl rfl
   ·obtain ⟨o, S2, ⟨hK2, rfl⟩, hE⟩ := qF (zux S c r m C (hC0.keep hK) l[i])
    have hE := fun {ops dst k T F Q} => zH (ops := ops) (dst := dst) (l := k) (T := T) (F := F) (Q := Q) rfl hE
    have hK02 := hK.trans hK2
    have ho2 := hK2.own ho
    have hrg2 : ∀ x ∈ l.take (i + 1), 1 ≤ x ∧ x ≤ C.last := by
     intro x hx
     rw [kT hlt] at hx
     rcases List.mem_append.1 hx with hx | hx
     ·exact hrg x hx
     ·simp only [List.mem_singleton] at hx; subst hx; exact ⟨by omega, by omega⟩
    by_cases hd : z88 C l[i]
    ·rw [decide_eq_true hd] at hE
     simp (maxSteps:=1000000) (disch:=first|assumption|omega|rfl) only [↓gp, gc, Nat.reduceAdd, hix, hre, ld3r, z0a, hc0, lc3, zN, hE, zvr, h3]
     exact ih (i + 1) S2 v6 out _ _ _ _ _ _ _ _ _ _ _ _ _ _ _ _ _ _ _ _ _ _ _ _ _ _ _ _ _ _ _ _ _ _ _ _ _ _ _ _ _ _ _ _ _ _ _ _ _ _ _ _ _ _ _ _ _ _ _ _ _ _ _ _ _ _ _ (by omega) (by omega) hK02 hN ho2 (by omega) (by rw [kT hlt]; exact hok.skip (.inl hd)) hrg2 hR hR2
    ·rw [decide_eq_false hd] at hE
     have hln : zO Tryz.prog S2 .len [22] [v6] = some (.val (.d (.int .i64 (out.length : Int))) S2 0) := by rw [wC Tryz.underlying22 ho2, qC]
     simp (maxSteps:=1000000) (disch:=first|assumption|omega|rfl) only [↓gp, gc, Nat.reduceAdd, hix, hre, ld3r, z0a, hc0, lc3, zN, hE, zvr, hln]
     refine zsk c l[i] S2 v6 nd _ _ out ho2 (by omega) _ out.length _ _ _ _ _ _ _ _ _ _ _ _ _ _ _ _ _ _ _ _ _ _ _ _ _ _ _ _ _ _ _ _ _ _ _ _ _ _ _ _ _ _ _ _ _ _ _ _ _ _ _ _ _ _ _ _ _ _ _ _ _ _ _ _ _ (Nat.le_refl _) (by simp) ?_
     intro p hp g1 g2 g3 g4 g5 g7 gB gC gA gD gL gM gF gK gN gJ gH gO gP gT gQ gU gR gS gV gW gX gY gZ gh gj gk gn gr gz hH hU hY xF hZ xA xB xC xD xE xG xH xI xJ xK xL xM xN xO xP xQ xR xS xT xU xV xW xX xY xZ hd1 hle
     by_cases heq : ∃ h : 0 < p, out[p - 1]'(by omega) = l[i]
     ·obtain ⟨hp0, heq⟩ := heq
      obtain ⟨id2, hix2, hre2, _⟩ := wH Tryz.underlying22 s3z ho2 (i := p - 1) (by rw [qC]; omega)
      have hre2 : rowE S2 id2 (p - 1) = some (.d (.int .i64 l[i])) := by rw [hre2]; simp [zW, heq]
      have hs : IntKind.i64.wrap ((p : Int) - 1) = ((p - 1 : Nat) : Int) := by rw [wrap64 (by omega)]; omega
      have hpos : (p : Int) > 0 := by omega
      simp (maxSteps:=1000000) (disch:=first|assumption|omega|rfl) only [↓gp, gc, Nat.reduceAdd, hs, hix2, hre2, ld3r, zN, h3]
      refine ih (i + 1) S2 v6 out _ _ _ _ _ _ _ _ _ _ _ _ _ _ _ _ _ _ _ _ _ _ _ _ _ _ _ _ _ _ _ _ _ _ _ _ _ _ _ _ _ _ _ _ _ _ _ _ _ _ _ _ _ _ _ _ _ _ _ _ _ _ _ _ _ _ _ (by omega) (by omega) hK02 hN ho2 (by omega) ?_ hrg2 hR hR2
      rw [kT hlt]
      exact hok.skip (.inr (heq ▸ List.getElem_mem _))
     ·obtain ⟨v', S3, cst, hap, ho3, hfr, hlen3⟩ := ap22 0 ho2 (by omega)
      have hos : OwnS S3 v' 3 (zW out ++ [.d (.int .i64 0)]) := by
       have : (out ++ [0]).map (fun x => V.d (D.int .i64 x)) = zW out ++ [.d (.int .i64 0)] := by unfold zW; simp
       rw [← this]; exact ho3
      have hfit : ∀ x ∈ zW out ++ [.d (.int .i64 0)], qB Tryz.prog 3 x = true := by
       intro x hx
       rcases List.mem_append.1 hx with hx | hx
       ·obtain ⟨y, _, rfl⟩ := List.mem_map.1 hx
        exact z8a y
       ·simp only [List.mem_singleton] at hx
        subst hx
        exact z8a 0
      obtain ⟨id3, hv', hrow, hs1, hs2, hcp⟩ := zlo (k := p) Tryz.underlying22 s3z hfit hos (by rw [qC]; exact hp) i46
      rw [qC] at hs1 hs2 hcp hv'
      subst hv'
      have hw1 : IntKind.i64.wrap ((p : Int) + 1) = ((p + 1 : Nat) : Int) := by rw [wrap64 (by omega)]; omega
      have hN3 : ∀ j, j < S0.length → NotAt (.rs id3 0 (out.length + 1)) j := fun j hj => by
       exact (hfr j _ (List.getElem?_eq_getElem (Nat.lt_of_lt_of_le hj hK02.len)) (hN j hj)).2
      have hK03 : Keep S0 S3 := fun j o hj => (hfr j o (hK02 j o hj) (hN j (zQ hj))).1
      have hid3 : S0.length ≤ id3 := by
       rcases Nat.lt_or_ge id3 S0.length with hh | hh
       ·exact absurd rfl (hN3 id3 hh 0 (out.length + 1))
       ·exact hh
      have hil := zQ hrow
      generalize hX : (zW out ++ [V.d (D.int .i64 0)]).take (p + 1) ++ (zW out).drop p = X at hcp
      have hXl : X.length = out.length + 1 := by rw [← hX]; simp [zW]; omega
      have hXe : ∀ y ∈ X, ∃ a : Int, y = .d (.int .i64 a) := by
       intro y hy
       rw [← hX] at hy
       rcases List.mem_append.1 hy with hy | hy
       ·rcases List.mem_append.1 (List.mem_of_mem_take hy) with hy | hy
        ·obtain ⟨a, _, rfl⟩ := List.mem_map.1 hy; exact ⟨a, rfl⟩
        ·simp only [List.mem_singleton] at hy; exact ⟨0, hy⟩
       ·obtain ⟨a, _, rfl⟩ := List.mem_map.1 (List.mem_of_mem_drop hy); exact ⟨a, rfl⟩
      have hXs : X.set p (.d (.int .i64 l[i])) = zW (out.take p ++ l[i] :: out.drop p) := by
       rw [← hX, zlf (by rw [qC]; exact hp)]
       unfold zW
       simp [List.map_take, List.map_drop]
      have hrow4 : (S3.set id3 (.row X 3))[id3]? = some (.row X 3) := List.getElem?_set_self hil
      obtain ⟨id4, hix4, hre4, _⟩ := wH (i := p) Tryz.underlying22 s3z (show OwnS (S3.set id3 (.row X 3)) (.rs id3 0 (out.length + 1)) 3 X from .inr ⟨id3, by rw [hXl], hrow4⟩) (by omega)
      have hid4 : id4 = id3 := by
       have h5 : rowT (S3.set id3 (.row X 3)) id3 3 = true := by simp only [rowT, hrow4, beq_self_eq_true]
       have h6 : (sz Tryz.prog 3).isSome = true := s3z
       simp only [zI, intOf?, Tryz.underlying22, h5, h6] at hix4
       rw [if_pos ⟨⟨by omega, by omega⟩, trivial, trivial⟩] at hix4
       simp only [Option.some.injEq, V.ref.injEq] at hix4
       exact hix4.1.symm
      subst hid4
      obtain ⟨a4, ha4⟩ := hXe X[p] (List.getElem_mem _)
      rw [ha4] at hre4
      have hst4 : ∀ b : Int, vJ Tryz.prog (S3.set id4 (.row X 3)) 3 (.ref id4 p 0) (.d (.int .i64 b)) = z3y (S3.set id4 (.row X 3)) id4 p (some (.d (.int .i64 b))) := fun b => by rw [z1l hre4, st3]
      have hp4 : ∀ y, jQ (S3.set id4 (.row X 3)) id4 p y = some (S3.set id4 (.row (X.set p y) 3)) := fun y => by
       simp only [jQ, hrow4, List.set_set]
      have fin : ∀ g1 g2 g3 g4 g5 g7 g8 g9 gB gC gA gD gL gM gF gK gN gJ gH gO gP gT gQ gU gR gS gV gW gX gY gZ gh gj gk gn gr gz hH hU hY xF hZ xA xB xC xD xE xG xH xI xJ xK xL xM xN xO xP xQ xR xS xT xU xV xW xX xY xZ, Wp cfg (.loop (lpOf (Tryz.f135.body.getD .skip) 0)) ((.ref c 0 0) :: g1 :: g2 :: g3 :: g4 :: g5 :: (.rs id4 0 (out.length + 1)) :: g7 :: g8 :: g9 :: nd :: (.d (.int .i64 (l.length : Int))) :: (.d (.int .i64 ((i + 1 : Nat) : Int))) :: gB :: gC :: gA :: gD :: gL :: gM :: gF :: gK :: gN :: gJ :: gH :: gO :: gP :: gT :: gQ :: gU :: gR :: gS :: gV :: gW :: gX :: gY :: gZ :: gh :: gj :: gk :: gn :: gr :: gz :: hH :: hU :: hY :: xF :: hZ :: xA :: xB :: xC :: xD :: xE :: xG :: xH :: xI :: xJ :: xK :: xL :: xM :: xN :: xO :: xP :: xQ :: xR :: xS :: xT :: xU :: xV :: xW :: xX :: xY :: xZ :: []) (S3.set id4 (.row (X.set p (.d (.int .i64 l[i]))) 3)) [] R := by
       intro g1 g2 g3 g4 g5 g7 g8 g9 gB gC gA gD gL gM gF gK gN gJ gH gO gP gT gQ gU gR gS gV gW gX gY gZ gh gj gk gn gr gz hH hU hY xF hZ xA xB xC xD xE xG xH xI xJ xK xL xM xN xO xP xQ xR xS xT xU xV xW xX xY xZ
       refine ih (i + 1) _ _ (out.take p ++ l[i] :: out.drop p) _ _ _ _ _ _ _ _ _ _ _ _ _ _ _ _ _ _ _ _ _ _ _ _ _ _ _ _ _ _ _ _ _ _ _ _ _ _ _ _ _ _ _ _ _ _ _ _ _ _ _ _ _ _ _ _ _ _ _ _ _ _ _ _ _ _ _ (by omega) (by omega) (hK03.set hid3) hN3 ?_ ?_ ?_ hrg2 hR hR2
       ·rw [hXs]
        exact .inr ⟨id4, by rw [qC]; simp; omega, List.getElem?_set_self hil⟩
       ·simp; omega
       ·rw [kT hlt]
        refine hok.ins hp hd ?_ hd1
        intro x hx
        obtain ⟨j, hj, rfl⟩ := List.mem_iff_getElem.1 hx
        rw [List.length_take] at hj
        rw [List.getElem_take]
        have hp0 : 0 < p := by omega
        have hle := hle hp0
        have hne : out[p - 1]'(by omega) ≠ l[i] := fun hh => heq ⟨hp0, hh⟩
        rcases Nat.lt_or_ge j (p - 1) with hjp | hjp
        ·have := List.pairwise_iff_getElem.1 hok.1 j (p - 1) (by omega) (by omega) hjp
         omega
        ·have : j = p - 1 := by omega
         subst this
         omega
      by_cases hp0 : 0 < p
      ·obtain ⟨id2, hix2, hre2, _⟩ := wH Tryz.underlying22 s3z ho2 (i := p - 1) (by rw [qC]; omega)
       have hre2 : rowE S2 id2 (p - 1) = some (.d (.int .i64 (out[p - 1]'(by omega)))) := by rw [hre2]; simp [zW]
       have hs : IntKind.i64.wrap ((p : Int) - 1) = ((p - 1 : Nat) : Int) := by rw [wrap64 (by omega)]; omega
       have hpos : (p : Int) > 0 := by omega
       have hne : ∀ i' : Decidable (out[p - 1]'(by omega) = l[i]), @decide (out[p - 1]'(by omega) = l[i]) i' = false := fun i' => decide_eq_false (fun hh => heq ⟨hp0, hh⟩)
       simp (maxSteps:=1000000) (disch:=first|assumption|omega|rfl) only [↓gp, gc, Nat.reduceAdd, hs, hix2, hre2, ld3r, hne, zq6, hap]
       refine wU (is := [0, 1, 2, 3, 4, 5, 6, 7]) (h := 0) (by kernel_rfl) (by kernel_rfl) ?_
       simp (maxSteps:=1000000) (disch:=first|assumption|omega|rfl) only [List.replicate_zero, eq_self, gd, ga, Nat.reduceAdd, ↓gq, vso, List.append_nil, Option.map_none, hw1, hs1, hs2, hcp]
       refine ⟨fun _ => by kernel_rfl, by kernel_rfl, ?_⟩
       simp (maxSteps:=1000000) (disch:=first|assumption|omega|rfl) only [↓gp, gc, Nat.reduceAdd, hix4, hst4, hp4, h3]
       exact fin _ _ _ _ _ _ _ _ _ _ _ _ _ _ _ _ _ _ _ _ _ _ _ _ _ _ _ _ _ _ _ _ _ _ _ _ _ _ _ _ _ _ _ _ _ _ _ _ _ _ _ _ _ _ _ _ _ _ _ _ _ _ _ _ _ _ _
      ·have hpos : ¬ (p : Int) > 0 := by omega
       simp (maxSteps:=1000000) (disch:=first|assumption|omega|rfl) only [↓gp, gc, Nat.reduceAdd, zq6, hap]
       refine wU (is := [0, 1, 2, 3, 4, 5, 6, 7]) (h := 0) (by kernel_rfl) (by kernel_rfl) ?_
       simp (maxSteps:=1000000) (disch:=first|assumption|omega|rfl) only [List.replicate_zero, eq_self, gd, ga, Nat.reduceAdd, ↓gq, vso, List.append_nil, Option.map_none, hw1, hs1, hs2, hcp]
       refine ⟨fun _ => by kernel_rfl, by kernel_rfl, ?_⟩
       simp (maxSteps:=1000000) (disch:=first|assumption|omega|rfl) only [↓gp, gc, Nat.reduceAdd, hix4, hst4, hp4, h3]
       exact fin _ _ _ _ _ _ _ _ _ _ _ _ _ _ _ _ _ _ _ _ _ _ _ _ _ _ _ _ _ _ _ _ _ _ _ _ _ _ _ _ _ _ _ _ _ _ _ _ _ _ _ _ _ _ _ _ _ _ _ _ _ _ _ _ _ _ _
end Go.Proofs.YtobgdmgldagjkaaGreat
end
